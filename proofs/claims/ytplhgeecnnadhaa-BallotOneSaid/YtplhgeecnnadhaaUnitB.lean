/- The unit as it lies in memory; a cell put. -/
import Derived.Test.YtplhgeecnnadhaaUnitA
namespace Go.Proofs.Ytplhgeecnnadhaa
open Go.RowKit
variable {F G : Nat → Prop} {w w1 : World} {u d : Nat}
/-- a map with keys that are numbers, what is kept told by R -/
def MapRep {α : Type} (R : World → (Nat → Prop) → Value → α → Prop) (w : World) (F : Nat → Prop) (m : Nat) (f : Int → Option α) : Prop :=
  ∃ kv, IMap w m kv ∧ (∀ k v, kvGet kv k = some v → ∃ a, f k = some a ∧ R w F v a) ∧ ∀ k, kvGet kv k = none → f k = none
theorem MapRep.upd {α : Type} {R : World → (Nat → Prop) → Value → α → Prop} (hR : ∀ w w1 F G v a, R w F v a → Upd G w w1 → (∀ k, F k → ¬ G k) → R w1 F v a) {m : Nat} {f : Int → Option α} (h : MapRep R w F m f) (hu : Upd G w w1) (hn : ∀ k, F k → ¬ G k) (hm : ¬ G m) : MapRep R w1 F m f := by
  obtain ⟨kv, h1, h2, h3⟩ := h
  exact ⟨kv, h1.upd hu hm, fun k v hk => let ⟨a, ha, hr⟩ := h2 k v hk; ⟨a, ha, hR _ _ _ _ _ _ hr hu hn⟩, h3⟩
theorem MapRep.mono {α : Type} {R : World → (Nat → Prop) → Value → α → Prop} (hR : ∀ w F G v a, R w F v a → (∀ k, F k → G k) → R w G v a) {m : Nat} {f : Int → Option α} (h : MapRep R w F m f) (hn : ∀ k, F k → G k) : MapRep R w G m f := by
  obtain ⟨kv, h1, h2, h3⟩ := h
  exact ⟨kv, h1, fun k v hk => let ⟨a, ha, hr⟩ := h2 k v hk; ⟨a, ha, hR _ _ _ _ _ hr hn⟩, h3⟩
def fput {α : Type} (f : Int → Option α) (k : Int) (a : α) : Int → Option α := fun j => if j = k then some a else f j
/-- a cell: of which kind, with what data -/
def cellRep (w : World) (F : Nat → Prop) (v : Value) (c : Int × List UInt8) : Prop := ∃ b, v = .agg #[.int .i64 c.1, b] ∧ Bytes w F b c.2
structure Acc where
  pr : Bl
  ac : Bl
  val : List UInt8
def accRep (w : World) (F : Nat → Prop) (v : Value) (a : Acc) : Prop := ∃ b, v = .agg #[.int .i64 a.pr.r, .int .i64 a.pr.w, .int .i64 a.ac.r, .int .i64 a.ac.w, b] ∧ Bytes w F b a.val
theorem cellRep_upd (w w1 : World) (F G : Nat → Prop) (v : Value) (a : Int × List UInt8) (h : cellRep w F v a) (hu : Upd G w w1) (hn : ∀ k, F k → ¬ G k) : cellRep w1 F v a := let ⟨b, h1, h2⟩ := h; ⟨b, h1, h2.upd hu hn⟩
theorem accRep_upd (w w1 : World) (F G : Nat → Prop) (v : Value) (a : Acc) (h : accRep w F v a) (hu : Upd G w w1) (hn : ∀ k, F k → ¬ G k) : accRep w1 F v a := let ⟨b, h1, h2⟩ := h; ⟨b, h1, h2.upd hu hn⟩
theorem cellRep_mono (w : World) (F G : Nat → Prop) (v : Value) (a : Int × List UInt8) (h : cellRep w F v a) (hn : ∀ k, F k → G k) : cellRep w G v a := let ⟨b, h1, h2⟩ := h; ⟨b, h1, h2.mono hn⟩
theorem accRep_mono (w : World) (F G : Nat → Prop) (v : Value) (a : Acc) (h : accRep w F v a) (hn : ∀ k, F k → G k) : accRep w G v a := let ⟨b, h1, h2⟩ := h; ⟨b, h1, h2.mono hn⟩
/-- a unit's plain state -/
structure US where
  e : Nat
  low : Nat
  tail : Nat
  cells : Int → Option (Int × List UInt8)
  acc : Int → Option Acc
def N3 (F : Nat → Prop) (u mc ma : Nat) : Nat → Prop := fun k => F k ∧ k ≠ u ∧ k ≠ mc ∧ k ≠ ma
/-- a unit at u, of the device at d -/
structure UnitAt (w : World) (F : Nat → Prop) (u d : Nat) (s : US) : Prop where
  mk ::
  lt : ∀ k, F k → k < w.heap.size
  rep : ∃ mc ma, w.heap[u]? = some (.cells #[.pointer (some ⟨d, 0, none⟩), .int .i64 s.e, .int .i64 s.low, .int .i64 s.tail, .map (some mc), .map (some ma)] 149 (0, 0)) ∧
    (F u ∧ F mc ∧ F ma ∧ u ≠ mc ∧ u ≠ ma ∧ mc ≠ ma) ∧ MapRep cellRep w (N3 F u mc ma) mc s.cells ∧ MapRep accRep w (N3 F u mc ma) ma s.acc
theorem UnitAt.upd {s : US} (h : UnitAt w F u d s) (hu : Upd G w w1) (hn : ∀ k, F k → ¬ G k) : UnitAt w1 F u d s := by
  obtain ⟨h1, mc, ma, hb, ⟨f1, f2, f3, n1, n2, n3⟩, hc, ha⟩ := h
  exact ⟨fun k hk => Nat.lt_of_lt_of_le (h1 k hk) hu.size, mc, ma, hu.blk hb (hn _ f1), ⟨f1, f2, f3, n1, n2, n3⟩, hc.upd cellRep_upd hu (fun k hk => hn k hk.1) (hn _ f2), ha.upd accRep_upd hu (fun k hk => hn k hk.1) (hn _ f3)⟩
/-- a block in which no byte stands -/
def NB (w : World) (k : Nat) : Prop := ∀ i b, w.cell? ⟨k, i, none⟩ ≠ some (.int .u8 b)
theorem NB.back {w w1 : World} {k : Nat} (h : NB w1 k) (he : w1.heap[k]? = w.heap[k]?) : NB w k := fun i b hc => h i b ((World.cell?_of_block he).trans hc)
theorem NB.map {w : World} {m : Nat} {kv : List (Int × Value)} (h : IMap w m kv) : NB w m := fun i b hc => by
  obtain ⟨es, c, hb, _⟩ := h
  simp [World.cell?, hb] at hc
theorem NB.unit {w : World} {u : Nat} {p x y : Value} {a b c : Int} {t : TypeId} {fr : Nat × Nat} (hp : ∀ n, p ≠ .int .u8 n) (hx : ∀ n, x ≠ .int .u8 n) (hy : ∀ n, y ≠ .int .u8 n)
    (h : w.heap[u]? = some (.cells #[p, .int .i64 a, .int .i64 b, .int .i64 c, x, y] t fr)) : NB w u := fun i n hc => by
  rw [blk_cell h] at hc
  have : i = 0 ∨ i = 1 ∨ i = 2 ∨ i = 3 ∨ i = 4 ∨ i = 5 ∨ 6 ≤ i := by omega
  rcases this with rfl | rfl | rfl | rfl | rfl | rfl | hi
  · simp at hc; exact hp n hc
  · simp at hc
  · simp at hc
  · simp at hc
  · simp at hc; exact hx n hc
  · simp at hc; exact hy n hc
  · rw [Array.getElem?_eq_none (by simpa using hi)] at hc; cases hc
/-- a change that writes no byte -/
def UpdN (F : Nat → Prop) (w w' : World) : Prop := Upd (fun k => F k ∧ NB w k) w w'
theorem UpdN.upd {F : Nat → Prop} {w w1 : World} (h : UpdN F w w1) : Upd F w w1 := Upd.mono h (fun _ _ h => h.1)
theorem UpdN.after {F G : Nat → Prop} {w w1 w2 : World} (h : Upd G w w1) (hG : ∀ k, k < w.heap.size → F k → ¬ G k) (h2 : UpdN F w1 w2) : Upd (fun k => (F k ∧ NB w k) ∨ G k) w w2 :=
  (h.mono (G := fun k => (F k ∧ NB w k) ∨ G k) (fun _ _ h => .inr h)).trans h2 (fun k hk hf => .inl ⟨hf.1, hf.2.back (h.keep k hk (hG k hk hf.1))⟩)
theorem UpdN.nb0 {F : Nat → Prop} {w w1 w2 : World} (h : Upd NoF w w1) (h2 : UpdN F w1 w2) : UpdN F w w2 := (UpdN.after h (fun _ _ _ h => h) h2).mono (fun _ _ h => h.elim (fun h => h) (fun h => h.elim))
theorem UpdN.andThen {F F' : Nat → Prop} {w w1 w2 : World} (h : UpdN F w w1) (h2 : UpdN F' w1 w2) (hF : ∀ q, q < w.heap.size → F' q → F q) : UpdN F w w2 :=
  Upd.trans h h2 (fun i hi hx => ⟨hF i hi hx.1, fun j n hc => hx.2 j n ((World.cell?_of_block (Upd.keep h i hi (fun hn => hn.2 j n hc))).trans hc)⟩)
theorem UpdN.then0 {F : Nat → Prop} {w w1 w2 : World} (h : UpdN F w w1) (h2 : Upd NoF w1 w2) : UpdN F w w2 := Upd.then0 h h2
theorem UpdN.bytes {F G : Nat → Prop} {w w1 : World} {v : Value} {l : List UInt8} (h : UpdN F w w1) (hv : Bytes w G v l) : Bytes w1 G v l := by
  obtain ⟨a, c, hv, hc, he⟩ := hv
  refine ⟨a, c, hv, hc, fun hl => ?_⟩
  obtain ⟨g, o, ha, hg, cur, ty, fr, hb, hel⟩ := he hl
  refine ⟨g, o, ha, hg, cur, ty, fr, (h.keep g (blk_lt hb) (fun hn => ?_)).trans hb, hel⟩
  obtain ⟨cs, h1, h2, h3⟩ := hel 0 (List.length_pos_iff.2 hl)
  have h0 := h3 0 (by omega)
  rw [show cs = _ from h2] at h0
  exact hn.2 (o + 0 * 1 + 0) _ (by rw [blk_cell hb, h0]; rfl)
/-- what a call on it leaves: its blocks are as they were, or new -/
def Unit2 (F : Nat → Prop) (u d : Nat) (s : US) (w w' : World) : Prop := ∃ F', UnitAt w' F' u d s ∧ UpdN F w w' ∧ ∀ k, F' k → F k ∨ w.heap.size ≤ k
theorem fput_get {α : Type} {R : World → (Nat → Prop) → Value → α → Prop} {m : Nat} {f : Int → Option α} {kv : List (Int × Value)} {k : Int} {v : Value} {a : α} (hi : IMap w m (kvPut kv k v))
    (h2 : ∀ k v, kvGet kv k = some v → ∃ a, f k = some a ∧ R w F v a) (h3 : ∀ k, kvGet kv k = none → f k = none) (hv : R w F v a) : MapRep R w F m (fput f k a) := by
  refine ⟨_, hi, fun j v' hj => ?_, fun j hj => ?_⟩
  · rw [kvGet_put] at hj
    unfold fput
    split at hj
    · cases hj; rename_i h; exact ⟨a, by simp [h], hv⟩
    · rename_i h; obtain ⟨b, h1, h2⟩ := h2 j v' hj; exact ⟨b, by simp [h, h1], h2⟩
  · rw [kvGet_put] at hj
    unfold fput
    split at hj
    · cases hj
    · rename_i h; simp [h, h3 j hj]
def US.cell (s : US) (at_ : Nat) (c : Int × List UInt8) : US := { s with cells := fput s.cells at_ c, tail := max s.tail (at_ + 1) }
theorem cell_close {mc ma : Nat} {kv : List (Int × Value)} {s : US} {n : Nat} {k : Int} {v : Value} {b : List UInt8} {w2 : World} {t : Int}
    (h1 : ∀ k, F k → k < w.heap.size) (f1 : F u) (f2 : F mc) (f3 : F ma) (n1 : u ≠ mc) (n2 : u ≠ ma) (n3 : mc ≠ ma)
    (hk1 : ∀ k v, kvGet kv k = some v → ∃ a, s.cells k = some a ∧ cellRep w (N3 F u mc ma) v a) (hk2 : ∀ k, kvGet kv k = none → s.cells k = none)
    (ha : MapRep accRep w (N3 F u mc ma) ma s.acc) (hv : Bytes w G v b) (hG : ∀ k, G k → ¬ F k) (ua : Upd NoF w w1) (u2 : Upd (OneF mc) w1 w2)
    (hb : w2.heap[u]? = some (.cells #[.pointer (some ⟨d, 0, none⟩), .int .i64 s.e, .int .i64 s.low, .int .i64 s.tail, .map (some mc), .map (some ma)] 149 (0, 0)))
    (hmw : NB w mc) (hm : IMap w2 mc (kvPut kv n (.agg #[.int .i64 k, v]))) (ht : t = ((max s.tail (n + 1) : Nat) : Int)) :
    UnitAt (w2.setCell ⟨u, 3, none⟩ (.int .i64 t)) (fun q => F q ∨ (G q ∧ q < w.heap.size)) u d (s.cell n (k, b)) ∧ UpdN F w (w2.setCell ⟨u, 3, none⟩ (.int .i64 t)) := by
  have u3 : Upd (OneF u) w2 (w2.setCell ⟨u, 3, none⟩ (.int .i64 t)) := (Upd.refl _ _).set1 _ _
  have u12 : Upd (OneF mc) w w2 := (ua.mono (G := OneF mc) (fun _ _ h => h.elim)).andThen u2
  have uu : Upd (fun k => k = u ∨ k = mc) w (w2.setCell ⟨u, 3, none⟩ (.int .i64 t)) := (u12.mono (G := fun k => k = u ∨ k = mc) (fun _ _ h => .inr h)).trans u3 (fun _ _ h => .inl h)
  have hN : ∀ q, N3 F u mc ma q → ¬ (q = u ∨ q = mc) := fun q hq h => by rcases h with h | h; exact hq.2.1 h; exact hq.2.2.1 h
  have hmono : ∀ q, N3 F u mc ma q → N3 (fun q => F q ∨ (G q ∧ q < w.heap.size)) u mc ma q := fun q hq => ⟨.inl hq.1, hq.2⟩
  refine ⟨⟨?_, mc, ma, ?_, ⟨.inl f1, .inl f2, .inl f3, n1, n2, n3⟩, ?_, ?_⟩, uu.mono (fun k hk h => by
    rcases h with h | h
    · subst h; exact ⟨f1, (NB.unit (fun _ h => by cases h) (fun _ h => by cases h) (fun _ h => by cases h) hb).back (u12.keep _ hk n1)⟩
    · subst h; exact ⟨f2, hmw⟩)⟩
  · intro q hq
    refine Nat.lt_of_lt_of_le ?_ uu.size
    rcases hq with h | h
    · exact h1 q h
    · exact h.2
  · rw [blk_set hb, ht]; simp [US.cell]
  · refine fput_get (kv := kv) (v := .agg #[.int .i64 k, v]) (hm.upd u3 (by simp only [OneF]; exact fun h => n1 h.symm)) (fun j v' hj => ?_) hk2 ?_
    · obtain ⟨a, h2, h3⟩ := hk1 j v' hj
      exact ⟨a, h2, cellRep_mono _ _ _ _ _ (cellRep_upd _ _ _ _ _ _ h3 uu hN) hmono⟩
    · refine ⟨v, rfl, ?_⟩
      have hGF : ∀ q, G q → q ≠ u ∧ q ≠ mc ∧ q ≠ ma := fun q hq => ⟨fun h => hG q hq (h ▸ f1), fun h => hG q hq (h ▸ f2), fun h => hG q hq (h ▸ f3)⟩
      exact (hv.bound.upd uu (fun q hq h => by rcases h with h | h; exact (hGF q hq.1).1 h; exact (hGF q hq.1).2.1 h)).mono (fun q hq => ⟨.inr hq, hGF q hq.1⟩)
  · exact (ha.upd accRep_upd uu hN (fun h => by rcases h with h | h; exact n2 h.symm; exact n3 h.symm)).mono accRep_mono hmono
set_option maxRecDepth 100000 in
set_option maxHeartbeats 2000000 in
theorem u_cell (n : Nat) (k : Int) (v : Value) (b : List UInt8) (s : US) (w : World) (h : UnitAt w F u d s) (hv : Bytes w G v b) (hG : ∀ k, G k → ¬ F k) (hn : n ≤ 4294967296) :
    Calls Try.prog 117 #[.pointer (some ⟨u, 0, none⟩), .int .i64 n, .agg #[.int .i64 k, v]] w
      (fun r w' => r = .returned (.tuple #[]) ∧ UnitAt w' (fun q => F q ∨ (G q ∧ q < w.heap.size)) u d (s.cell n (k, b)) ∧ UpdN F w w') := by
  obtain ⟨h1, mc, ma, hb, ⟨f1, f2, f3, n1, n2, n3⟩, ⟨kv, hm, hk1, hk2⟩, ha⟩ := h
  obtain ⟨av, cv, rfl, hcv⟩ := hv.slice
  have ua : Upd NoF w ((w.alloc (.cells #[.int .i64 k, .slice av b.length cv] 54 (0, 0)))).drew := ((Upd.refl _ _).alloc _).drew
  obtain ⟨w2, hup, m2, u2, z2⟩ := IMap.run_update (P := Try.prog) (hm.upd ua (fun h => h)) Try.underlying106 Try.underlying3 n (.agg #[.int .i64 k, .slice av b.length cv])
  have hub := ua.blk0 hb
  have hub2 := u2.blk hub (by simp only [OneF]; exact n1)
  have S0 := Lib.hid (And.intro (show ((w.alloc (.cells #[.int .i64 k, .slice av b.length cv] 54 (0, 0)))).drew.cell? ⟨u, 4, none⟩ = some (.map (some mc)) from blk_cell hub 4)
    (show ((w.alloc (.cells #[.int .i64 k, .slice av b.length cv] 54 (0, 0)))).drew.heap[w.heap.size]? = some (.cells #[.int .i64 k, .slice av b.length cv] 54 (0, 0)) from blk_new _ _))
  have e3 : w2.cell? ⟨u, 3, none⟩ = some (.int .i64 s.tail) := blk_cell hub2 3
  have g3 := blk_free hub2 3
  have HB2 := Lib.hid hub2
  have HM2 := Lib.hid m2
  have HNB := Lib.hid (NB.map hm)
  have HU := Lib.hid (And.intro ua u2)
  have HK := Lib.hid (And.intro hk1 hk2)
  have HA := Lib.hid ha
  have HV := Lib.hid hv
  have HL := Lib.hid (And.intro h1 hG)
  have HUP := Lib.hid hup
  clear hb hm hk1 hk2 ha hv ua hub hub2 m2 u2 h1 hG hup
  go_enter Try.func117, Try.ntmps117
  go_wp2_with fail
  refine region_late (fun W => W.cell? ⟨u, 4, none⟩ = some (.map (some mc)) ∧ W.heap[w.heap.size]? = some (.cells #[.int .i64 k, .slice av b.length cv] 54 (0, 0))) [6] (by kernel_rfl) ?_
  refine late_take 0 (.pointer (some ⟨u, 0, none⟩)) rfl (by kernel_rfl) (by kernel_rfl) (by kernel_rfl) (by kernel_rfl) (fun _ _ _ h => h) (by kernel_rfl) S0.out (fun W' _ => by kernel_rfl) ?_
  refine late_take 1 (.pointer (some ⟨u, 0, none⟩)) rfl (by kernel_rfl) (by kernel_rfl) (by kernel_rfl) (by kernel_rfl) (fun _ _ _ h => h) (by kernel_rfl) S0.out (fun W' _ => by kernel_rfl) ?_
  refine late_take 2 (.pointer (some ⟨u, 4, none⟩)) rfl (by kernel_rfl) (by kernel_rfl) (by kernel_rfl) (by kernel_rfl) (fun _ _ _ h => h) (by kernel_rfl) S0.out (fun W' _ => by kernel_rfl) ?_
  refine late_take 3 (.map (some mc)) rfl (by kernel_rfl) (by kernel_rfl) (by kernel_rfl) (by kernel_rfl) (fun _ _ _ h => h) (by kernel_rfl) S0.out (fun W' hW' => run_load_cell_op 106 _ rfl ⟨u, 4, none⟩ (by kernel_rfl) hW'.1 _ Try.underlying106 rfl) ?_
  refine late_take 4 (.int .i64 n) rfl (by kernel_rfl) (by kernel_rfl) (by kernel_rfl) (by kernel_rfl) (fun _ _ _ h => h) (by kernel_rfl) S0.out (fun W' _ => by kernel_rfl) ?_
  refine late_take 5 (.agg #[.int .i64 k, .slice av b.length cv]) rfl (by kernel_rfl) (by kernel_rfl) (by kernel_rfl) (by kernel_rfl) (fun _ _ _ h => h) (by kernel_rfl) S0.out (fun W' hW' => run_load_row_op 54 _ rfl w.heap.size (by kernel_rfl) 54 _ (0, 0) _ hW'.2 Try.underlying54 rfl (by kernel_rfl)) ?_
  have hup : (Instr.mapUpdate 106 (.map (some mc)) (.int .i64 n) (.agg #[.int .i64 k, .slice av b.length cv])).run Try.prog { heap := (w.alloc (.cells #[.int .i64 k, .slice av b.length cv] 54)).heap, tape := w.tape, drawn := w.drawn + 1, os := (w.alloc (.cells #[.int .i64 k, .slice av b.length cv] 54)).os, output := (w.alloc (.cells #[.int .i64 k, .slice av b.length cv] 54)).output } = .ok () w2 := HUP.out
  refine late_one 6 rfl (by kernel_rfl) (by kernel_rfl) (fun K hK => ?_)
  go_wp2_with fail
  refine hK _ _ (fun h => (by cases h)) ?_
  clear hK K hup
  refine late_done (by kernel_rfl) ?_ _
  go_wp2_with fail
  all_goals
    go_end0
    exact ⟨rfl, cell_close HL.out.1 f1 f2 f3 n1 n2 n3 HK.out.1 HK.out.2 HA.out HV.out HL.out.2 HU.out.1 HU.out.2 HB2.out HNB.out HM2.out (by omega)⟩
end Go.Proofs.Ytplhgeecnnadhaa
