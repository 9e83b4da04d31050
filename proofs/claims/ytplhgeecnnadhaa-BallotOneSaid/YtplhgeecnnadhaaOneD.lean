/- BallotOne: what lies in memory. -/
import Derived.Test.YtplhgeecnnadhaaOneP
import Derived.Test.YtplhgeecnnadhaaOwn
import Derived.Test.YtplhgeecnnadhaaGKey
namespace Go.Proofs.Ytplhgeecnnadhaa
open Go.RowKit
variable {F G : Nat → Prop} {w w0 w1 : World} {o : Nat → Nat} {ρ : Nat → Thing} {t : Nat}
def udT (u d room : Nat) (ps : List UPage) : Thing := fun w F => UDAt w F u d room ps
def propT (p : Nat) (s : PS) : Thing := fun w F => PropAt w F p s
def rowT (e : TypeId) (sz : Nat) (v : Value) (n : Nat) (xs : List Value) : Thing := fun w F => Row w F e sz v n xs
def mapT (m : Nat) (kv : List (SKey × Value)) : Thing := fun w F => GMap encS w m kv ∧ F m
theorem frm_ud (u d room : Nat) (ps : List UPage) : Frm (udT u d room ps) := ⟨fun _ _ _ _ h hu hn => UDAt.upd h hu hn, fun _ _ _ h hF hlt => UDAt.mono h hF hlt⟩
theorem frm_prop (p : Nat) (s : PS) : Frm (propT p s) := ⟨fun _ _ _ _ h hu hn => PropAt.upd h hu hn, fun _ _ _ h hF hlt => by
  obtain ⟨h1, h2, h3, h4, vv, vf, m, hb, hv, hf, hm, fp, fm, hpm⟩ := h
  exact ⟨h1, h2, h3, hlt, vv, vf, m, hb, hv.mono (fun k hk => ⟨hF k hk.1, hk.2⟩), hf.mono (fun k hk => ⟨hF k hk.1, hk.2⟩), hm, hF _ fp, hF _ fm, hpm⟩⟩
theorem frm_row (e : TypeId) (sz : Nat) (v : Value) (n : Nat) (xs : List Value) : Frm (rowT e sz v n xs) := ⟨fun _ _ _ _ h hu hn => Row.upd h hu hn, fun _ _ _ h hF _ => Row.mono h hF⟩
theorem frm_map (m : Nat) (kv : List (SKey × Value)) : Frm (mapT m kv) := ⟨fun _ _ _ _ h hu hn => ⟨h.1.upd hu (hn _ h.2), h.2⟩, fun _ _ _ h hF _ => ⟨h.1, hF _ h.2⟩⟩
theorem Own.unit (h : Own w0 w o ρ) (ht : t ≠ 0) {u d room : Nat} {ps' : List UPage} (hu : UD2 (Tg o t) u d room ps' w w1) : ∃ o', Own w0 w1 o' (rput ρ t (udT u d room ps')) ∧ Kept w o o' := by
  obtain ⟨F', h1, h2, h3⟩ := hu
  obtain ⟨o', a, b, _⟩ := h.step ht (frm_ud u d room ps') h1 h2 h3 h1.lt
  exact ⟨o', a, b⟩
theorem Own.prop (h : Own w0 w o ρ) (ht : t ≠ 0) {p : Nat} {s' : PS} (hu : Prop2 (Tg o t) p s' w w1) : ∃ o', Own w0 w1 o' (rput ρ t (propT p s')) ∧ Kept w o o' := by
  obtain ⟨F', h1, h2, h3⟩ := hu
  obtain ⟨o', a, b, _⟩ := h.step ht (frm_prop p s') h1 h2 h3 h1.lt
  exact ⟨o', a, b⟩
theorem Own.fresh (h : Own w0 w o ρ) (ht : t ≠ 0) {R : Thing} (hR : Frm R) (hr : R w1 F) (hu : Upd NoF w w1) (hF : ∀ k, F k → w.heap.size ≤ k) (hlt : ∀ k, F k → k < w1.heap.size) : ∃ o', Own w0 w1 o' (rput ρ t R) ∧ Kept w o o' ∧ ∀ k, w.heap.size ≤ k → o' k ≠ 0 → F k :=
  h.step ht hR hr (hu.mono (fun _ _ h => h.elim)) (fun k hk => .inr (hF k hk)) hlt
/-- a row that was appended to -/
theorem Own.row (h : Own w0 w o ρ) (ht : t ≠ 0) {e : TypeId} {sz n n' : Nat} {v v' : Value} {xs xs' : List Value} (hr0 : Row w (Tg o t) e sz v n xs) (hr : Row w1 (fun k => Tg o t k ∨ w.heap.size ≤ k) e sz v' n' xs') (hu : Upd (fun k => v.ownBlock = some k) w w1) :
    ∃ o', Own w0 w1 o' (rput ρ t (rowT e sz v' n' xs')) ∧ Kept w o o' := by
  obtain ⟨o', a, b, _⟩ := h.step (F := fun k => (Tg o t k ∨ w.heap.size ≤ k) ∧ k < w1.heap.size) ht (frm_row e sz v' n' xs') (hr.bound) (hu.mono (fun k _ hk => hr0.2 k hk)) (fun k hk => hk.1) (fun k hk => hk.2)
  exact ⟨o', a, b⟩
theorem row_made (w : World) (e : TypeId) (sz : Nat) : Row (w.alloc (.cells #[] e)) (fun k => k = w.heap.size) e sz (.slice (some ⟨w.heap.size, 0, none⟩) 0 0) 0 [] :=
  ⟨World.ownsRow_made w #[] 0 (Nat.zero_le _) (Nat.zero_le _) (by simp), fun k hk => by simp [Value.ownBlock] at hk; omega⟩
def uptr (us : List (Nat × Nat)) : List Value := us.map (fun p => Value.pointer (some ⟨p.1, 0, none⟩))
/-- units that were laid -/
structure Laid (room : Nat) (us : List (Nat × Nat)) (pss : Nat → List UPage) (vu : Value) (ρ : Nat → Thing) : Prop where
  mk ::
  row : ρ 1 = rowT 68 1 vu us.length (uptr us)
  un : ∀ i (h : i < us.length), ρ (2 * i + 10) = udT us[i].1 us[i].2 room (pss i)
def LayRel (w0 : World) (room n : Nat) (vu i : Value) (w : World) : Prop :=
  ∃ (k : Nat) (us : List (Nat × Nat)) (o : Nat → Nat) (ρ : Nat → Thing), k ≤ n ∧ i = .int .i64 k ∧ us.length = k ∧ Own w0 w o ρ ∧ Laid room us (fun _ => []) vu ρ
/-- a unit on a new device -/
theorem ud_laid {d u : Nat} {F' : Nat → Prop} {room : Nat} {w2 : World} (h1 : DevAt w1 (OneF d) d (ds0 room)) (hd : w.heap.size ≤ d) (hu : UnitAt w2 F' u d (replay [])) (hF : ∀ k, F' k → w1.heap.size ≤ k) (h01 : Upd NoF w w1) (h12 : Upd NoF w1 w2) :
    UDAt w2 (fun k => k = d ∨ F' k) u d room [] ∧ (∀ k, (k = d ∨ F' k) → w.heap.size ≤ k) ∧ Upd NoF w w2 := by
  have hdl := h1.lt d rfl
  have hz := h01.size
  have hz2 := h12.size
  refine ⟨⟨fun k hk => ?_, fun p hp => (by cases hp), F', OneF d, hu, h1.upd h12 (fun _ _ h => h), fun k hk h => by have := hF k hk; simp only [OneF] at h; omega, fun k hk => hk.elim .inr (fun h => .inl h)⟩, fun k hk => ?_, h01.then0 h12⟩
  · rcases hk with rfl | hk
    · omega
    · exact hu.lt k hk
  · rcases hk with rfl | hk
    · exact hd
    · have := hF k hk; omega
theorem and_ffff (n : Int) : 0 ≤ bits .and .i64 n 65535 ∧ bits .and .i64 n 65535 < 65536 := by
  have h : ((BitVec.ofInt 64 n) &&& (BitVec.ofInt 64 65535)).toNat ≤ 65535 := by
    rw [BitVec.toNat_and]
    exact Nat.and_le_right
  have e : bits .and .i64 n 65535 = IntKind.i64.wrap (((BitVec.ofInt 64 n) &&& (BitVec.ofInt 64 65535)).toNat : Int) := rfl
  rw [e, IntKind.wrap_i64]; omega
theorem and3 (n : Int) : 0 ≤ bits .and .i64 n 3 ∧ bits .and .i64 n 3 < 4 := by
  have h : ((BitVec.ofInt 64 n) &&& (BitVec.ofInt 64 3)).toNat ≤ 3 := by
    rw [BitVec.toNat_and]
    exact Nat.and_le_right
  have e : bits .and .i64 n 3 = IntKind.i64.wrap (((BitVec.ofInt 64 n) &&& (BitVec.ofInt 64 3)).toNat : Int) := rfl
  rw [e, IntKind.wrap_i64]; omega
theorem info_pptr : (Try.prog.info? 37).map (fun i => (i.zero, i.size, i.bytes)) = some (some (.pointer none), 1, 8) := by kernel_rfl
theorem info_uptr : (Try.prog.info? 68).map (fun i => (i.zero, i.size, i.bytes)) = some (some (.pointer none), 1, 8) := by kernel_rfl
structure StepV where
  nw : Bool
  cm : Bool
  p : Int
  a : Int
  v : Value
  l : List UInt8
def scell (x : StepV) (cs : List Value) : Prop := cs = [.bool x.nw, .bool x.cm, .int .i64 x.p, .int .i64 x.a, x.v]
def pptr (pp : List Nat) : List Value := pp.map (fun p => Value.pointer (some ⟨p, 0, none⟩))
structure OneIn (n N k : Nat) (us : List (Nat × Nat)) (pss : Nat → List UPage) (pp : List Nat) (qs : Nat → PS) (V : Nat → Nat → Prop) (kv : List (SKey × Value)) (vu va : Value) (m : Nat) (anyb : Bool) (chs : List UInt8) (ρ : Nat → Thing) : Prop where
  laid : Laid 400 us pss vu ρ
  usl : us.length = n
  rowp : ρ 2 = rowT 37 1 va N (pptr pp)
  ppl : pp.length = N
  prop : ∀ j (h : j < pp.length), ρ (2 * j + 11) = propT pp[j] (qs j)
  map : ρ 3 = mapT m kv
  kvt : ∀ l v, gGet kv l = some v → v = .bool true ∧ l.length ≤ 100
  inv : PInv n N (fun a => (replay (pss a)).at_ 1) qs V (fun l => (gGet kv l).isSome = true)
  few : ∀ a, (pss a).length ≤ k
  NN : N ≤ k
  cho : anyb = true → ∃ j, j < N ∧ (qs j).phase = 3 ∧ (qs j).val = chs
theorem OneIn.next {n N k : Nat} {us : List (Nat × Nat)} {pss : Nat → List UPage} {pp : List Nat} {qs : Nat → PS} {V : Nat → Nat → Prop} {kv : List (SKey × Value)} {vu va : Value} {m : Nat} {anyb : Bool} {chs : List UInt8} {ρ : Nat → Thing} (h : OneIn n N k us pss pp qs V kv vu va m anyb chs ρ) : OneIn n N (k + 1) us pss pp qs V kv vu va m anyb chs ρ :=
  { h with few := fun a => Nat.le_succ_of_le (h.few a), NN := Nat.le_succ_of_le h.NN }
/-- the state, whatever it is -/
def OneSt (w0 : World) (n N k : Nat) (us : List (Nat × Nat)) (pp : List Nat) (qs : Nat → PS) (vu va : Value) (m : Nat) (anyb : Bool) (chs : List UInt8) (o : Nat → Nat) (w : World) : Prop :=
  ∃ pss V kv ρ, Own w0 w o ρ ∧ OneIn n N k us pss pp qs V kv vu va m anyb chs ρ
def OneRel (w0 : World) (n len : Nat) (us : List (Nat × Nat)) (vu : Value) (m : Nat) (va ch any i : Value) (w : World) : Prop :=
  ∃ (k N : Nat) (pp : List Nat) (qs : Nat → PS) (anyb : Bool) (chs : List UInt8) (o : Nat → Nat), k ≤ len ∧ i = .int .i64 k ∧ ch = .string ⟨⟨chs⟩⟩ ∧ any = .bool anyb ∧ OneSt w0 n N k us pp qs vu va m anyb chs o w
def OnePick (w0 : World) (n N : Nat) (pp : List Nat) (ρ : Nat → Thing) (v18 v19 : Value) (W : World) : Prop :=
  ∃ (o : Nat → Nat) (jp ia : Nat) (_ : jp < N) (_ : ia < n) (h : jp < pp.length), v18 = .pointer (some ⟨pp[jp], 0, none⟩) ∧ v19 = .int .i64 ia ∧ Own w0 W o ρ
/-- behind the switch -/
def OneMid (w0 : World) (n N k : Nat) (us : List (Nat × Nat)) (pp : List Nat) (kv : List (SKey × Value)) (vu va : Value) (m : Nat) (anyb : Bool) (chs : List UInt8) (p v18 : Value) (W : World) : Prop :=
  v18 = p ∧ ∃ o ρ pss V qs, Own w0 W o ρ ∧ OneIn n N k us pss pp qs V kv vu va m anyb chs ρ
theorem PInv.zero (n : Nat) (pr : List UInt8 → Prop) (qs : Nat → PS) : PInv n 0 (fun a => (replay ((fun _ => []) a : List UPage)).at_ 1) qs (fun _ _ => False) pr :=
  ⟨fun j hj => by omega, fun j hj => by omega, fun a _ => .inl rfl, fun a j hv => hv.elim, fun a _ => .inl ⟨rfl, rfl, fun _ h => h⟩, fun j hj => by omega, fun j hj => by omega, fun j hj => by omega, fun j hj => by omega, fun j hj => by omega, fun j hj => by omega⟩
theorem OneIn.other {n N k : Nat} {us : List (Nat × Nat)} {pss : Nat → List UPage} {pp : List Nat} {qs : Nat → PS} {V : Nat → Nat → Prop} {kv : List (SKey × Value)} {vu va : Value} {m : Nat} {anyb : Bool} {chs : List UInt8} {ρ ρ' : Nat → Thing}
    (h : OneIn n N k us pss pp qs V kv vu va m anyb chs ρ) (he : ∀ t, t = 1 ∨ t = 2 ∨ t = 3 ∨ 10 ≤ t → ρ' t = ρ t) : OneIn n N k us pss pp qs V kv vu va m anyb chs ρ' :=
  { h with laid := ⟨(he 1 (by omega)).trans h.laid.row, fun i hi => (he _ (by omega)).trans (h.laid.un i hi)⟩, rowp := (he 2 (by omega)).trans h.rowp, prop := fun j hj => (he _ (by omega)).trans (h.prop j hj), map := (he 3 (by omega)).trans h.map }
theorem OneIn.unit {n N k : Nat} {us : List (Nat × Nat)} {pss : Nat → List UPage} {pp : List Nat} {qs : Nat → PS} {V V' : Nat → Nat → Prop} {kv : List (SKey × Value)} {vu va : Value} {m : Nat} {anyb : Bool} {chs : List UInt8} {ρ ρ' : Nat → Thing}
    (h : OneIn n N k us pss pp qs V kv vu va m anyb chs ρ) (ia : Nat) (hia : ia < us.length) (ps' : List UPage) (he : ∀ t, t = 1 ∨ t = 2 ∨ t = 3 ∨ 10 ≤ t → t ≠ 2 * ia + 10 → ρ' t = ρ t) (hu : ρ' (2 * ia + 10) = udT us[ia].1 us[ia].2 400 ps')
    (hinv : PInv n N (fun a => (replay (fset pss ia ps' a)).at_ 1) qs V' (fun l => (gGet kv l).isSome = true)) (hf : ps'.length ≤ k + 1) : OneIn n N (k + 1) us (fset pss ia ps') pp qs V' kv vu va m anyb chs ρ' :=
  { h with
    laid := ⟨(he 1 (by omega) (by omega)).trans h.laid.row, fun i hi => by
      by_cases e : i = ia
      · subst e; rw [fset_same]; exact hu
      · rw [fset_ne _ _ e]; exact (he _ (by omega) (by omega)).trans (h.laid.un i hi)⟩
    rowp := (he 2 (by omega) (by omega)).trans h.rowp
    prop := fun j hj => (he _ (by omega) (by omega)).trans (h.prop j hj)
    map := (he 3 (by omega) (by omega)).trans h.map
    inv := hinv
    few := fun a => by
      by_cases e : a = ia
      · subst e; rw [fset_same]; exact hf
      · rw [fset_ne _ _ e]; exact Nat.le_succ_of_le (h.few a)
    NN := Nat.le_succ_of_le h.NN }
theorem OneIn.propSet {n N k : Nat} {us : List (Nat × Nat)} {pss : Nat → List UPage} {pp : List Nat} {qs : Nat → PS} {V : Nat → Nat → Prop} {kv : List (SKey × Value)} {vu va : Value} {m : Nat} {anyb : Bool} {chs : List UInt8} {ρ ρ' : Nat → Thing}
    (h : OneIn n N k us pss pp qs V kv vu va m anyb chs ρ) (jp : Nat) (hjp : jp < pp.length) (s' : PS) (he : ∀ t, t = 1 ∨ t = 2 ∨ t = 3 ∨ 10 ≤ t → t ≠ 2 * jp + 11 → ρ' t = ρ t) (hu : ρ' (2 * jp + 11) = propT pp[jp] s')
    (hinv : PInv n N (fun a => (replay (pss a)).at_ 1) (fset qs jp s') V (fun l => (gGet kv l).isSome = true)) (hph : (qs jp).phase ≠ 3) : OneIn n N k us pss pp (fset qs jp s') V kv vu va m anyb chs ρ' :=
  { h with
    laid := ⟨(he 1 (by omega) (by omega)).trans h.laid.row, fun i hi => (he _ (by omega) (by omega)).trans (h.laid.un i hi)⟩
    rowp := (he 2 (by omega) (by omega)).trans h.rowp
    prop := fun j hj => by
      by_cases e : j = jp
      · subst e; rw [fset_same]; exact hu
      · rw [fset_ne _ _ e]; exact (he _ (by omega) (by omega)).trans (h.prop j hj)
    map := (he 3 (by omega) (by omega)).trans h.map
    inv := hinv
    cho := fun ha => by
      obtain ⟨j, h1, h2, h3⟩ := h.cho ha
      have : j ≠ jp := fun e => by subst e; exact hph h2
      exact ⟨j, h1, by rw [fset_ne _ _ this]; exact h2, by rw [fset_ne _ _ this]; exact h3⟩ }
theorem propOf {w0 w : World} {o : Nat → Nat} {ρ : Nat → Thing} {p : Nat} {s : PS} {t : Nat} (h : Own w0 w o ρ) (ht : t ≠ 0) (he : ρ t = propT p s) : PropAt w (Tg o t) p s := by have := h.holds t ht; rw [he] at this; exact this
theorem unitOf {w0 w : World} {o : Nat → Nat} {ρ : Nat → Thing} {u d room : Nat} {ps : List UPage} {t : Nat} (h : Own w0 w o ρ) (ht : t ≠ 0) (he : ρ t = udT u d room ps) : UDAt w (Tg o t) u d room ps := by have := h.holds t ht; rw [he] at this; exact this
theorem rowOf {w0 w : World} {o : Nat → Nat} {ρ : Nat → Thing} {e : TypeId} {sz n : Nat} {v : Value} {xs : List Value} {t : Nat} (h : Own w0 w o ρ) (ht : t ≠ 0) (he : ρ t = rowT e sz v n xs) : Row w (Tg o t) e sz v n xs := by have := h.holds t ht; rw [he] at this; exact this
theorem cellOf {w0 w : World} {o : Nat → Nat} {ρ : Nat → Thing} {g : Nat} {cs : Array Value} {ty : TypeId} {t : Nat} (h : Own w0 w o ρ) (ht : t ≠ 0) (he : ρ t = cellT g cs ty) : w.heap[g]? = some (.cells cs ty (0, 0)) := by have := h.holds t ht; rw [he] at this; exact this.1
theorem bytesOf {w0 w : World} {o : Nat → Nat} {ρ : Nat → Thing} {v : Value} {l : List UInt8} {t : Nat} (h : Own w0 w o ρ) (ht : t ≠ 0) (he : ρ t = bytesT v l) : Bytes w (Tg o t) v l := by have := h.holds t ht; rw [he] at this; exact this
/-- behind the promise: the ballot's block, the value -/
def OneProm (w0 : World) (us : List (Nat × Nat)) (ps : List UPage) (b : Bl) (ρ : Nat → Thing) (ia : Nat) (cs : Array Value) (b17 : Nat) (v20 v21 v22 : Value) (W : World) : Prop :=
  ∃ (g : Nat) (a : Option Addr) (c : Nat) (o : Nat → Nat) (ρ' : Nat → Thing) (h : ia < us.length), v20 = .pointer (some ⟨g, 0, none⟩) ∧ v21 = .slice a (promP 400 ps 1 b).1.v.length c ∧ v22 = .int .i64 (promP 400 ps 1 b).1.e ∧ Own w0 W o ρ' ∧
    ρ' 4 = cellT g #[.int .i64 (promP 400 ps 1 b).1.b.r, .int .i64 (promP 400 ps 1 b).1.b.w] 40 ∧ ρ' 5 = bytesT (.slice a (promP 400 ps 1 b).1.v.length c) (promP 400 ps 1 b).1.v ∧ ρ' 6 = cellT b17 cs 74 ∧
    ρ' (2 * ia + 10) = udT us[ia].1 us[ia].2 400 (promP 400 ps 1 b).2 ∧ ∀ t, t = 1 ∨ t = 2 ∨ t = 3 ∨ 10 ≤ t → t ≠ 2 * ia + 10 → ρ' t = ρ t
/-- two that may come in either order -/
theorem late_two {P : Program} {ops : Array Oper} {Q : Exit → Act → World → Prop} {md : Region.Mode} {S : World → Prop} {L : List Nat} (i j : Nat) {oi oj : Oper} {fuel : Nat} {listed : Array Bool} {a : Act} {w : World} (hi : ops[i]? = some oi) (hj : ops[j]? = some oj) (hr : Region.ready md ops listed = [i, j])
    (hwi : Region.wanted oi (yielded ops a.tmps) = true) (hwj : Region.wanted oj (yielded ops a.tmps) = true)
    (h1 : ∀ K : Act → World → Prop, (∀ a' w', (L.contains i = false → S w') → wpAnyE P md ops Q S L fuel (listed.setIfInBounds i true) a' w' → K a' w') → oi.wp P a w K Q)
    (h2 : ∀ K : Act → World → Prop, (∀ a' w', (L.contains j = false → S w') → wpAnyE P md ops Q S L fuel (listed.setIfInBounds j true) a' w' → K a' w') → oj.wp P a w K Q) : wpAnyE P md ops Q S L (fuel + 1) listed a w := by
  refine ⟨fun h => (by rw [hr] at h; cases h), fun k hk => ?_⟩
  rw [hr] at hk
  have : k = i ∨ k = j := by simpa using hk
  unfold wpOp
  rcases this with rfl | rfl
  · simp only [hi, hwi, if_true]
    exact .inl (h1 _ (fun _ _ hs hk => ⟨hs, hk⟩))
  · simp only [hj, hwj, if_true]
    exact .inl (h2 _ (fun _ _ hs hk => ⟨hs, hk⟩))
section
variable {P : Program}
theorem run_indexAddr_op {o : Oper} {a : Act} (ty : TypeId) (x y : Operand) (ho : o.op = .indexAddr ty x y) (g n c : Nat) (hx : a.eval x = .slice (some ⟨g, 0, none⟩) n c) (i : Nat) (hy : a.eval y = .int .i64 i) (hi : i < n) (hu : P.underlying ty = some (.slice (P.elem ty))) (hs : ∀ w, (sizeOf (P.elem ty)).run P w = .ok 1 w) {w : World} :
    (execOp a.eval o).run P w = .ok (.value (.pointer (some ⟨g, i, none⟩))) w := by
  unfold execOp
  simp only [ho, hx, hy, Sem.run_bind, run_indexAt_slice w ty _ _ _ _ _ hu]
  rw [if_pos ⟨by omega, by omega⟩, hs]
  simp [Addr.add]
  omega
end
end Go.Proofs.Ytplhgeecnnadhaa
