/- The proposer, for a caller; the statements' own example. -/
import Derived.Test.YtplhgeecnnadhaaBalF
import Derived.Lib.SlBytesConst
namespace Go.Proofs.Ytplhgeecnnadhaa
open Go.RowKit
variable {F G : Nat → Prop} {w w1 : World} {p : Nat} {s : PS}
theorem promised_any (src a1 a2 e : Int) (v : Value) (l : List UInt8) (w : World) (h : PropAt w F p s) (hfew : s.ans.length < 1000000) (hv : Bytes w G v l) (hl : l.length ≤ 140737488355328) :
    Calls Try.prog 32 #[.pointer (some ⟨p, 0, none⟩), .int .i64 src, .agg #[.int .i64 a1, .int .i64 a2], v, .int .i64 e] w (fun r w' => r = .returned (.tuple #[]) ∧ Prop2 F p (s.promised src a1 a2 l e) w w') := by
  unfold PS.promised
  by_cases ho : s.opn src 1 = true
  · rw [if_pos ho]
    unfold PS.best
    by_cases hc : e = 0 ∧ ¬ (a1 = 0 ∧ a2 = 0) ∧ ((s.e1 = 0 ∧ s.e2 = 0) ∨ lessB s.e1 s.e2 a1 a2 = true)
    · rw [if_pos hc]
      obtain ⟨rfl, h2, h3⟩ := hc
      exact promised_2 src a1 a2 v l w h ho hfew hv hl h2 h3
    · rw [if_neg hc]
      obtain ⟨a, c, rfl, _⟩ := hv.slice
      exact promised_1 src a1 a2 e a _ c w h ho hfew hc
  · rw [if_neg ho]
    obtain ⟨a, c, rfl, _⟩ := hv.slice
    exact promised_0 src a1 a2 e a _ c w h (by simpa using ho)
set_option maxHeartbeats 400000 in
theorem ballot_any (w : World) (h : PropAt w F p s) : Calls Try.prog 42 #[.pointer (some ⟨p, 0, none⟩)] w fun r w' => r = .returned (.agg #[.int .i64 s.b1, .int .i64 s.b2]) ∧ Upd NoF w w' := by
  obtain ⟨_, _, _, _, vv, vf, m, hb, _⟩ := h
  have c1 : w.cell? ⟨p, 1, none⟩ = some (.int .i64 s.b1) := blk_cell hb 1
  have c2 : w.cell? ⟨p, 2, none⟩ = some (.int .i64 s.b2) := blk_cell hb 2
  clear hb
  go_enter Try.func42, Try.ntmps42
  go_wp2_with fail
  refine bodyPost_ret (results_c rfl _ _ _ 40 _ (0, 0) _ rfl (blk_newn rfl _) Try.underlying40 rfl (by kernel_rfl)) rfl ?_
  exact ⟨rfl, (Upd.refl _ _).alloc _⟩
/-- a proposer among other things: its blocks are none of X's, nor any below B -/
def PL (B : Nat) (X : Nat → Prop) (p : Nat) (s : PS) (w : World) : Prop := ∃ F, PropAt w F p s ∧ ∀ k, F k → B ≤ k ∧ ¬ X k
/-- what a call on it leaves: all below B, and X -/
def LU (B : Nat) (X : Nat → Prop) : Nat → Prop := fun k => B ≤ k ∧ ¬ X k
variable {B : Nat} {X : Nat → Prop}
theorem PL.step {s' : PS} {w' : World} {F : Nat → Prop} (hF : ∀ k, F k → B ≤ k ∧ ¬ X k) (hX : ∀ k, X k → k < w.heap.size) (hB : B ≤ w.heap.size) (h : Prop2 F p s' w w') : PL B X p s' w' ∧ Upd (LU B X) w w' := by
  obtain ⟨F', hp, hu, hf⟩ := h
  exact ⟨⟨F', hp, fun k hk => (hf k hk).elim (hF k) (fun h => ⟨by omega, fun hx => by have := hX k hx; omega⟩)⟩, hu.mono (fun i _ h => hF i h)⟩
theorem PL.upd (h : PL B X p s w) {Y : Nat → Prop} (hu : Upd Y w w1) (hY : ∀ k, k < w.heap.size → Y k → X k ∨ k < B) : PL B X p s w1 := by
  obtain ⟨F, hp, hf⟩ := h
  exact ⟨F, hp.upd hu (fun k hk hy => by have := hf k hk; rcases hY k (hp.lt k hk) hy with h | h; exact this.2 h; omega), hf⟩
theorem pl_promised (src a1 a2 e : Int) (v : Value) (l : List UInt8) (w : World) (h : PL B X p s w) (hX : ∀ k, X k → k < w.heap.size) (hB : B ≤ w.heap.size) (hfew : s.ans.length < 1000000) (hv : Bytes w G v l) (hl : l.length ≤ 140737488355328) :
    Calls Try.prog 32 #[.pointer (some ⟨p, 0, none⟩), .int .i64 src, .agg #[.int .i64 a1, .int .i64 a2], v, .int .i64 e] w (fun r w' => r = .returned (.tuple #[]) ∧ PL B X p (s.promised src a1 a2 l e) w' ∧ Upd (LU B X) w w') := by
  obtain ⟨F, hp, hf⟩ := h
  exact (promised_any src a1 a2 e v l w hp hfew hv hl).mono (fun r w' ⟨h1, h2⟩ => ⟨h1, PL.step hf hX hB h2⟩)
def PS.accepted (s : PS) (src e : Int) : PS := if s.opn src 2 then s.answer src (decide (e = 0)) else s
theorem pl_accepted (src e : Int) (w : World) (h : PL B X p s w) (hX : ∀ k, X k → k < w.heap.size) (hB : B ≤ w.heap.size) (hfew : s.ans.length < 1000000) :
    Calls Try.prog 33 #[.pointer (some ⟨p, 0, none⟩), .int .i64 src, .int .i64 e] w (fun r w' => r = .returned (.tuple #[]) ∧ PL B X p (s.accepted src e) w' ∧ Upd (LU B X) w w') := by
  obtain ⟨F, hp, hf⟩ := h
  exact (accepted_any src e w hp hfew).mono (fun r w' ⟨h1, h2⟩ => ⟨h1, PL.step hf hX hB h2⟩)
theorem pl_phase (w : World) (h : PL B X p s w) : Calls Try.prog 30 #[.pointer (some ⟨p, 0, none⟩)] w fun r w' => r = .returned (.int .i64 s.phase) ∧ w = w' := let ⟨_, hp, _⟩ := h; phase_any w hp
theorem pl_asked (src : Int) (w : World) (h : PL B X p s w) : Calls Try.prog 31 #[.pointer (some ⟨p, 0, none⟩), .int .i64 src] w (Bools (s.opn src 1 || s.opn src 2) w) := let ⟨_, hp, _⟩ := h; asked_any src w hp
theorem pl_value (w : World) (h : PL B X p s w) (hl : s.val.length ≤ 140737488355328) : Calls Try.prog 34 #[.pointer (some ⟨p, 0, none⟩)] w (NewBytes s.val w) := let ⟨_, hp, _⟩ := h; value_any w hp hl
theorem pl_start (acc b1 b2 : Int) (v : Value) (l : List UInt8) (w : World) (hv : Bytes w F v l) (hl : l.length ≤ 140737488355328) (hbig : acc ≤ 9223372036854775807) (hX : ∀ k, X k → k < w.heap.size) (hB : B ≤ w.heap.size) :
    Calls Try.prog 29 #[.int .i64 acc, .agg #[.int .i64 b1, .int .i64 b2], v] w (fun r w' => ∃ p, r = .returned (.pointer (some ⟨p, 0, none⟩)) ∧ PL B X p (PS.start acc b1 b2 l) w' ∧ Upd NoF w w') :=
  (start29 acc b1 b2 v l w hv hl hbig).mono (fun r w' ⟨p, F', h1, h2, h3, h4⟩ => ⟨p, h1, ⟨F', h2, fun k hk => ⟨by have := h4 k hk; omega, fun hx => by have := hX k hx; have := h4 k hk; omega⟩⟩, h3⟩)
def NoX : Nat → Prop := fun _ => False
theorem nox {w : World} : ∀ k, NoX k → k < w.heap.size := fun _ h => h.elim
/-- string(b) -/
theorem Bytes.run_string {v : Value} {l : List UInt8} (h : Bytes w F v l) (w' : World) (hw : w'.heap = w.heap) : (convert 23 9 v).run Try.prog w' = .ok (.string ⟨l.toArray⟩) w' := by
  obtain ⟨a, c, rfl, hc⟩ := h.slice
  cases a with
  | none =>
    have h0 : l = [] := by
      by_cases h' : l = []
      · exact h'
      · obtain ⟨g, o, h1, _⟩ := h.at_ h'; cases h1
    subst h0
    exact run_convert_bytes_nil w' _ _ Try.underlying23 Try.underlying5 0 c _ Try.underlying9
  | some x =>
    refine run_convert_bytes_back w' _ _ _ x c l Try.underlying23 Try.underlying5 Try.underlying9 ?_
    intro j hj
    have hne : l ≠ [] := by intro e; subst e; simp at hj
    obtain ⟨g, o, hx, _, hcell⟩ := h.at_ hne
    cases hx
    have hadd : (⟨g, o, none⟩ : Addr).add j = ⟨g, o + j, none⟩ := by unfold Addr.add; split <;> simp_all
    rw [hadd, World.cell?_of_block (w := w) (a := ⟨g, o + j, none⟩) (by rw [hw])]
    exact hcell j hj
set_option maxRecDepth 100000 in
set_option maxHeartbeats 1000000 in
theorem speaks10 (w : World) : Calls Try.prog 28 #[] w (fun r w' => r = .returned (.bool true) ∧ Upd NoF w w') := by
  have kc := fun (w : World) (C : Array Value) (n c : Nat) => Lib.run_convert_bytes_const (P := Try.prog) w 23 5 C n c Try.underlying23 Try.underlying5
  have hlit : Bytes (w.alloc (.cells #[.int .u8 118] 5 (1, 2))) (fun k => w.heap.size ≤ k) (.slice (some ⟨w.heap.size, 0, none⟩) 1 1) [118] :=
    ⟨_, 1, rfl, Nat.le_refl _, fun _ => ⟨w.heap.size, 0, rfl, Nat.le_refl _, _, _, _, blk_new w _, fun i hi => ⟨_, rfl, rfl, fun j hj => by
      obtain rfl : i = 0 := by simpa using hi
      obtain rfl : j = 0 := by omega
      rfl⟩⟩⟩
  have u0 := (Upd.refl NoF w).alloc (.cells #[.int .u8 118] 5 (1, 2))
  have hB0 : w.heap.size ≤ (w.alloc (.cells #[.int .u8 118] 5 (1, 2))).heap.size := u0.size
  have nilB : ∀ W, Bytes W NoF (.slice none 0 0) [] := fun W => Slc.nil _ _ _ _ _ _
  have HL := Lib.hid hlit
  have HU := Lib.hid u0
  have HN := Lib.hid nilB
  have HB0 := Lib.hid hB0
  clear hlit u0 nilB hB0
  go_enter Try.func28, Try.ntmps28
  go_wp2_with fail
  clear kc
  refine (pl_start (B := w.heap.size) (X := NoX) 3 1 0 _ [118] _ HL.out (by decide) (by decide) nox HB0.out).mono ?_
  rintro r w1 ⟨p, rfl, p1, u1⟩
  have U1 := Lib.hid (HU.out.then0 u1)
  clear u1
  go_wp2_with fail
  refine (pl_promised 0 0 0 0 _ _ w1 p1 nox U1.out.size (by decide) (HN.out w1) (by decide)).mono ?_
  rintro r w2 ⟨rfl, p2, u2⟩
  have U2 := Lib.hid (U1.out.trans u2 (fun i hi h => by have := h.1; omega) : Upd NoF w w2)
  clear u2 U1 p1
  go_wp2_with fail
  refine (pl_promised 2 0 0 0 _ _ w2 p2 nox U2.out.size (by decide) (HN.out w2) (by decide)).mono ?_
  rintro r w3 ⟨rfl, p3, u3⟩
  have U3 := Lib.hid (U2.out.trans u3 (fun i hi h => by have := h.1; omega) : Upd NoF w w3)
  clear u3 U2 p2
  go_wp2_with fail
  refine (pl_accepted 1 0 w3 p3 nox U3.out.size (by decide)).mono ?_
  rintro r w4 ⟨rfl, p4, u4⟩
  have U4 := Lib.hid (U3.out.trans u4 (fun i hi h => by have := h.1; omega) : Upd NoF w w4)
  clear u4 U3 p3
  go_wp2_with fail
  refine (pl_accepted 1 0 w4 p4 nox U4.out.size (by decide)).mono ?_
  rintro r w5 ⟨rfl, p5, u5⟩
  have U5 := Lib.hid (U4.out.trans u5 (fun i hi h => by have := h.1; omega) : Upd NoF w w5)
  clear u5 U4 p4
  go_wp2_with fail
  have h5 := pl_phase w5 p5
  rw [show (PS.accepted (PS.accepted (PS.promised (PS.promised (PS.start 3 1 0 [118]) 0 0 0 [] 0) 2 0 0 [] 0) 1 0) 1 0).phase = 2 from by decide] at h5
  refine h5.mono ?_
  rintro r w6 ⟨rfl, rfl⟩
  clear h5
  go_wp2_with fail
  refine (pl_accepted 0 0 w5 p5 nox U5.out.size (by decide)).mono ?_
  rintro r w6 ⟨rfl, p6, u6⟩
  have U6 := Lib.hid (U5.out.trans u6 (fun i hi h => by have := h.1; omega) : Upd NoF w w6)
  clear u6 U5 p5
  have h6 := pl_phase w6 p6
  rw [show (PS.accepted (PS.accepted (PS.accepted (PS.promised (PS.promised (PS.start 3 1 0 [118]) 0 0 0 [] 0) 2 0 0 [] 0) 1 0) 1 0) 0 0).phase = 3 from by decide] at h6
  have hv6 := pl_value w6 p6 (by decide)
  rw [show (PS.accepted (PS.accepted (PS.accepted (PS.promised (PS.promised (PS.start 3 1 0 [118]) 0 0 0 [] 0) 2 0 0 [] 0) 1 0) 1 0) 0 0).val = [118] from by decide] at hv6
  have H6 := Lib.hid h6
  have HV6 := Lib.hid hv6
  clear h6 hv6 p6
  go_wp2_with fail
  refine H6.out.mono ?_
  rintro r w7 ⟨rfl, rfl⟩
  go_wp2_with fail
  refine HV6.out.mono ?_
  rintro r w7 ⟨v7, rfl, b7, u7⟩
  obtain ⟨a7, c7, rfl⟩ : ∃ a c, v7 = .slice a 1 c := by
    obtain ⟨a7, c7, h, _⟩ := b7.slice
    exact ⟨a7, c7, h⟩
  have hs : (convert 23 9 (.slice a7 1 c7)).run Try.prog w7 = .ok (.string ⟨#[118]⟩) w7 := b7.run_string w7 rfl
  go_wp2_with fail
  go_ret
  exact ⟨rfl, U6.out.then0 u7⟩
end Go.Proofs.Ytplhgeecnnadhaa
