/- The device's statements: their own example. -/
import Derived.Test.YtplhgeecnnadhaaSame
import Derived.Lib.SlBytesConst
namespace Go.Proofs.Ytplhgeecnnadhaa
open Go.RowKit
variable {F G : Nat → Prop} {w w1 : World}
def NoY : Nat → Prop := fun _ => False
theorem noY {w : World} : ∀ k, NoY k → k < w.heap.size := fun _ h => h.elim
theorem bytes_lit (W : World) (x : UInt8) (t : TypeId) (fr : Nat × Nat) : Bytes (W.alloc (.cells #[.int .u8 (x.toNat : Int)] t fr)) (fun k => k = W.heap.size) (.slice (some ⟨W.heap.size, 0, none⟩) 1 1) [x] :=
  ⟨_, 1, rfl, Nat.le_refl _, fun _ => ⟨W.heap.size, 0, rfl, rfl, _, _, _, blk_new W _, fun i hi => ⟨_, rfl, rfl, fun j hj => by
    obtain rfl : i = 0 := by simpa using hi
    obtain rfl : j = 0 := by omega
    rfl⟩⟩⟩
/-- string(b) -/
theorem Bytes.to_string {v : Value} {l : List UInt8} (h : Bytes w F v l) (w' : World) (hw : w'.heap = w.heap) : (convert 23 9 v).run Try.prog w' = .ok (.string ⟨l.toArray⟩) w' := by
  obtain ⟨a, c, rfl, hc⟩ := h.slice
  cases a with
  | none =>
    have h0 : l = [] := by
      by_cases h' : l = []
      · exact h'
      · obtain ⟨g, o, h1, _⟩ := h.at_ h'; cases h1
    subst h0
    exact run_convert_bytes_nil w' _ _ Try.underlying23 Try.underlying5 0 c _ Try.underlying9
  | some x =>
    refine run_convert_bytes_back w' _ _ _ x c l Try.underlying23 Try.underlying5 Try.underlying9 ?_
    intro j hj
    have hne : l ≠ [] := by intro e; subst e; simp at hj
    obtain ⟨g, o, hx, _, hcell⟩ := h.at_ hne
    cases hx
    have hadd : (⟨g, o, none⟩ : Addr).add j = ⟨g, o + j, none⟩ := by unfold Addr.add; split <;> simp_all
    rw [hadd, World.cell?_of_block (w := w) (a := ⟨g, o + j, none⟩) (by rw [hw])]
    exact hcell j hj
theorem du_no {B : Nat} {X : Nat → Prop} {w w1 w2 : World} (h : Upd NoF w w1) (hB : w.heap.size ≤ B) (k : Upd (DU B X) w1 w2) : Upd NoF w w2 := h.trans k (fun i hi hd => by have := hd.1; omega)
set_option maxRecDepth 100000 in
set_option maxHeartbeats 2000000 in
theorem speaks08 (w : World) : Calls Try.prog 19 #[] w (fun r w' => r = .returned (.bool true) ∧ Upd NoF w w') := by
  have kc := fun (w : World) (C : Array Value) (n c : Nat) => Lib.run_convert_bytes_const (P := Try.prog) w 23 5 C n c Try.underlying23 Try.underlying5
  go_enter Try.func19, Try.ntmps19
  go_wp2_with fail
  refine (dl_new (B := w.heap.size) (X := NoY) 5 w (by decide) (by decide) noY (Nat.le_refl _)).mono ?_
  rintro r w1 ⟨d, rfl, p1, u1⟩
  have U1 := Lib.hid u1
  have P1 := Lib.hid (p1.upd ((Upd.refl NoF w1).alloc (.cells #[.int .u8 97] 5 (1, 2))) (fun _ _ h => h.elim))
  clear u1 p1
  go_wp2_with fail
  refine (dl_append _ [97] _ P1.out noY (Nat.le_trans U1.out.size (by simp)) (bytes_lit w1 97 5 (1, 2)) (by decide)).mono ?_
  rintro r w2 ⟨rfl, p2, u2⟩
  have U2 := Lib.hid (du_no (U1.out.alloc _) (Nat.le_refl _) u2)
  have P2 := Lib.hid ((p2.mono (Y := OneF w2.heap.size) (fun k hk h => by simp only [OneF] at h; omega)).upd ((Upd.refl NoF w2).alloc (.cells #[.int .u8 2] 5)) (fun _ _ h => h.elim))
  clear u2 p2
  rw [show DS.code (ds0 5) = 0 from by decide]
  go_wp2_with fail
  refine (dl_crash _ [2] _ P2.out ((bytes_lit w2 2 5 (0, 0)).mono (fun k h => .inl h)) (by decide)).mono ?_
  rintro r w3 ⟨rfl, p3, u3⟩
  have U3 := Lib.hid (du_no (U2.out.alloc _) (Nat.le_refl _) u3)
  have P3 := Lib.hid ((p3.mono (Y := NoY) (fun k hk h => h.elim)).upd ((Upd.refl NoF w3).alloc (.cells #[.int .u8 98] 5 (1, 2))) (fun _ _ h => h.elim))
  clear u3 p3 U2 P2 P1 U1
  go_wp2_with fail
  clear kc
  refine (dl_append _ [98] _ P3.out noY (Nat.le_trans U3.out.size (by simp)) (bytes_lit w3 98 5 (1, 2)) (by decide)).mono ?_
  rintro r w4 ⟨rfl, p4, u4⟩
  have U4 := Lib.hid (du_no (U3.out.alloc _) (Nat.le_refl _) u4)
  have P4 := Lib.hid p4
  clear u4 p4 U3 P3
  go_wp2_with fail
  refine (dl_pages _ P4.out).mono ?_
  rintro r w5 ⟨v5, rfl, b5, u5⟩
  rw [show DS.whole (DS.append (DS.crash (DS.append (ds0 5) [97]) [2]) [98]) = [[98]] from by decide] at b5
  obtain ⟨a5, c5, rfl, _⟩ := b5.slice
  obtain ⟨g5, o5, rfl, _, hc5⟩ := b5.at_ (by decide)
  obtain ⟨va, vc, e5, x5⟩ := hc5 0 (by decide)
  have hs5 : (convert 23 9 (.slice va 1 vc)).run Try.prog w5 = .ok (.string ⟨#[98]⟩) w5 := x5.to_string w5 rfl
  have e5' : w5.cell? ⟨g5, o5, none⟩ = some (.slice va 1 vc) := e5
  have hfr := dl_free w5 (P4.out.upd u5 (fun _ _ h => h.elim))
  rw [show DS.free (DS.append (DS.crash (DS.append (ds0 5) [97]) [2]) [98]) = 3 from by decide] at hfr
  have HFR := Lib.hid hfr
  have U5 := Lib.hid (U4.out.then0 u5)
  clear b5 hc5 e5 x5 u5 hfr U4 P4
  simp only [List.length_cons, List.length_nil, Nat.zero_add]
  go_wp2_with fail
  refine HFR.out.mono ?_
  rintro r w6 ⟨rfl, n, rfl⟩
  go_wp2_with fail
  go_ret
  exact ⟨rfl, U5.out.drewN n⟩
end Go.Proofs.Ytplhgeecnnadhaa
