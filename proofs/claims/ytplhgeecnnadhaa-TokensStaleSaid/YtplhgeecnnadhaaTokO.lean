/- TokensOnce: the walk and its law. -/
import Derived.Test.YtplhgeecnnadhaaTokS
import Derived.Test.YtplhgeecnnadhaaMap
namespace Go.Proofs.Ytplhgeecnnadhaa
open Go.RowKit
theorem and7 (n : Int) : 0 ≤ bits .and .i64 n 7 ∧ bits .and .i64 n 7 < 8 := by
  have h : ((BitVec.ofInt 64 n) &&& (BitVec.ofInt 64 7)).toNat ≤ 7 := by
    rw [BitVec.toNat_and]
    exact Nat.and_le_right
  have e : bits .and .i64 n 7 = IntKind.i64.wrap (((BitVec.ofInt 64 n) &&& (BitVec.ofInt 64 7)).toNat : Int) := rfl
  rw [e, IntKind.wrap_i64]; omega
/-- what the map holds is what the sequencer remembers -/
def Agree (kv : List (Int × Value)) (ls : List Int) : Prop := ∀ k : Nat, k < 8 → kvGet kv (k : Int) = some (.int .i64 (ls.getD k 0)) ∨ (kvGet kv (k : Int) = none ∧ ls.getD k 0 = -1)
theorem agree_put {kv : List (Int × Value)} {ls : List Int} (h : Agree kv ls) (hl : ls.length = 8) {j : Nat} (hj : j < 8) (x : Int) : Agree (kvPut kv (j : Int) (.int .i64 x)) (ls.set j x) := by
  intro k hk
  rw [kvGet_put]
  by_cases e : k = j
  · subst e
    left
    rw [if_pos rfl, List.getD_eq_getElem?_getD, List.getElem?_set_self (by omega)]; rfl
  · rw [if_neg (by omega)]
    have : (ls.set j x).getD k 0 = ls.getD k 0 := by rw [List.getD_eq_getElem?_getD, List.getElem?_set_ne (fun h => e h.symm), ← List.getD_eq_getElem?_getD]
    rw [this]; exact h k hk
def OnceRel (q m : Nat) (epoch at_ : Int) (len : Nat) (W0 : World) (i : Value) (wr : World) : Prop :=
  ∃ k : Nat, k ≤ len ∧ i = .int .i64 k ∧ ∃ kv ls, SeqAt wr q ⟨epoch, at_ + k, ls⟩ ∧ IMap wr m kv ∧ Agree kv ls ∧ Upd (fun x => x = q ∨ x = m) W0 wr
set_option maxRecDepth 100000 in
set_option maxHeartbeats 2000000 in
theorem once_walk (epoch at_ : Int) (v : Value) (l : List Int) (w : World) (hv : Ints w (fun k => k < w.heap.size) v l) :
    Calls Try.prog 7 #[.int .i64 epoch, .int .i64 at_, v] w (fun r w' => r = .returned (.bool true) ∧ Upd NoF w w') := by
  obtain ⟨a, c, rfl, hc⟩ := hv.slice
  by_cases hbad : epoch < 0 ∨ at_ < 0 ∨ at_ > 2147483648 ∨ (l.length : Int) > 200
  · rcases hbad with h | h | h | h
    all_goals
      go_enter Try.func7, Try.ntmps7
      go_wp2_with fail
      refine (speaks15 _).mono ?_
      rintro r w1 ⟨rfl, u1⟩
      go_wp2_with fail
      all_goals
        go_ret
        exact ⟨rfl, u1⟩
  simp only [not_or, Int.not_lt] at hbad
  obtain ⟨h1, h2, h3, h4⟩ := hbad
  go_enter Try.func7, Try.ntmps7
  go_wp2_with fail
  refine (speaks15 _).mono ?_
  rintro r w1 ⟨rfl, u1⟩
  go_wp2_with fail
  refine (newseq_any _).mono ?_
  rintro r w2 ⟨q, rfl, s2, hq, u2⟩
  go_wp2_with fail
  have e2 : ts0.answer { kind := 9, epoch := epoch, at_ := at_ } = (⟨epoch, at_, [-1, -1, -1, -1, -1, -1, -1, -1]⟩, some { reply := true, kind := 9, epoch := epoch, at_ := at_, tail := at_, back := epoch }) := by
    have e : ts0.start epoch at_ = (⟨epoch, at_, [-1, -1, -1, -1, -1, -1, -1, -1]⟩, 0) := by
      unfold TS.start
      rw [if_neg (by simp only [ts0]; omega), if_neg (by omega), if_pos (by simp only [ts0]; omega)]
    unfold TS.answer
    simp [e, Msg.answer]
  have E2 := Lib.hid e2
  clear e2
  refine (answer_eq (m := { kind := 9, epoch := epoch, at_ := at_ }) s2 ⟨_, _, _, rfl⟩ ⟨_, _, _, rfl⟩ E2.out).mono ?_
  rintro r w3 ⟨rfl, s3, u3⟩
  simp only [Msg.val]
  have hmm := @run_makeMap Try.prog
  go_wp2_with fail
  generalize hW0 : World.alloc _ (.map #[] 0) = W0
  have m0 : IMap W0 (w3.heap.size + 1) [] := by
    rw [← hW0]; have := IMap.made (w3.alloc (.cells #[.int .i64 0, .int .i64 0, .int .i64 0, .bool true, .int .i64 9, .int .i64 epoch, .int .i64 at_, .int .i64 0, .slice none 0 0, .int .i64 0, .int .i64 0, .slice none 0 0, .int .i64 0, .int .i64 at_, .int .i64 0, .int .i64 epoch] 56)); simpa using this
  have s0 : SeqAt W0 q ⟨epoch, at_, [-1, -1, -1, -1, -1, -1, -1, -1]⟩ := by rw [← hW0]; exact s3.upd (((Upd.refl NoF _).alloc _).alloc _) (fun h => h)
  have u0 : Upd NoF w W0 := by rw [← hW0]; exact ((((u1.then0 u2).trans u3 (fun i hi h => by have := u1.size; simp only [OneF] at h; omega)).alloc _).alloc _)
  have hqm : q ≠ w3.heap.size + 1 := by have := blk_lt s3.2.2; omega
  have hq' : w.heap.size ≤ q := by have := u1.size; omega
  have hmw : w.heap.size ≤ w3.heap.size + 1 := by have := u1.size; have := u2.size; have := u3.size; omega
  generalize w3.heap.size + 1 = m at *
  clear hW0 u1 u2 u3 s2 s3 E2
  go_loopw [53] (OnceRel q m epoch at_ l.length W0) (fun i _ => l.length - (intOf i).toNat)
  case atStart => exact ⟨0, Nat.zero_le _, rfl, [], _, by simpa using s0, m0, fun k hk => .inr ⟨rfl, by
      have : k = 0 ∨ k = 1 ∨ k = 2 ∨ k = 3 ∨ k = 4 ∨ k = 5 ∨ k = 6 ∨ k = 7 := by omega
      rcases this with h | h | h | h | h | h | h | h <;> subst h <;> rfl⟩, Upd.refl _ _⟩
  case round =>
    obtain ⟨k, hk, rfl, kv, ls, hs, hm, hag, hu⟩ := hrel
    have hvr := (hv.upd u0 (fun _ _ h => h)).upd hu (fun i hi h => by rcases h with h | h <;> omega)
    have hb := and7 (l.getD k 0)
    by_cases hlt : k < l.length
    · have hne : l ≠ [] := by intro e; rw [e] at hlt; simp at hlt
      obtain ⟨g, o, ha, hg, hcell⟩ := hvr.at_ hne
      have hck := hcell k hlt
      rw [show l[k] = l.getD k 0 by rw [List.getD_eq_getElem?_getD, List.getElem?_eq_getElem hlt]; rfl] at hck
      generalize l.getD k 0 = n at *
      subst ha
      clear hcell hvr hv
      have HAG := Lib.hid hag
      have HS := Lib.hid hs
      have HM := Lib.hid hm
      clear hag hs hm
      go_wp2_with fail
      obtain ⟨j, hj⟩ : ∃ j : Nat, bits .and .i64 n 7 = (j : Int) := Int.eq_ofNat_of_zero_le hb.1
      have hj8 : j < 8 := by omega
      have e3 : TS.answer ⟨epoch, at_ + k, ls⟩ { kind := 8, epoch := epoch, at_ := bits .and .i64 n 7 } = (⟨epoch, at_ + k + 1, ls.set j (at_ + k)⟩, some { reply := true, kind := 8, epoch := epoch, at_ := bits .and .i64 n 7, tail := at_ + k, back := ls.getD j 0 }) := by
        have e : TS.token ⟨epoch, at_ + k, ls⟩ epoch (bits .and .i64 n 7) = (⟨epoch, at_ + k + 1, ls.set j (at_ + k)⟩, at_ + k, ls.getD j 0, 0) := by
          unfold TS.token
          rw [if_neg (by simp only [ne_eq, not_true, false_or]; omega), if_neg (by omega), if_neg (by simp only; omega)]
          simp only [hj, Int.toNat_natCast]
        unfold TS.answer
        simp [e, Msg.answer]
      have E3 := Lib.hid e3
      have HJ := Lib.hid hj
      clear e3 hj
      refine (answer_eq (m := { kind := 8, epoch := epoch, at_ := bits .and .i64 n 7 }) HS.out ⟨_, _, _, rfl⟩ ⟨_, _, _, rfl⟩ E3.out).mono ?_
      rintro r w4 ⟨rfl, s4, u4⟩
      simp only [Msg.val]
      have s5 := s4.upd ((Upd.refl NoF _).alloc (.cells #[.int .i64 0, .int .i64 0, .int .i64 0, .bool true, .int .i64 8, .int .i64 epoch, .int .i64 (bits .and .i64 n 7), .int .i64 0, .slice none 0 0, .int .i64 0, .int .i64 0, .slice none 0 0, .int .i64 0, .int .i64 (at_ + k), .int .i64 0, .int .i64 (ls.getD j 0)] 56)) (fun h => h)
      have m5 := (HM.out.upd u4 (by simp only [OneF]; omega)).upd ((Upd.refl NoF _).alloc (.cells #[.int .i64 0, .int .i64 0, .int .i64 0, .bool true, .int .i64 8, .int .i64 epoch, .int .i64 (bits .and .i64 n 7), .int .i64 0, .slice none 0 0, .int .i64 0, .int .i64 0, .slice none 0 0, .int .i64 0, .int .i64 (at_ + k), .int .i64 0, .int .i64 (ls.getD j 0)] 56)) (fun h => h)
      have hz : ∀ W, (zeroValue 3).run Try.prog W = .ok (.int .i64 0) W := fun W => by kernel_rfl
      have hlk := IMap.run_lookup m5 Try.underlying59 Try.underlying3 (hz _) (bits .and .i64 n 7) true
      obtain ⟨w6, hup, m6, u6, _⟩ := IMap.run_update (P := Try.prog) m5 Try.underlying59 Try.underlying3 (bits .and .i64 n 7) (.int .i64 (at_ + k))
      have U6 := Lib.hid (((hu.trans u4 (fun i _ h => .inl h)).alloc _).trans u6 (fun i _ h => .inr h))
      have HL := Lib.hid HS.out.1
      have hg0 := HAG.out j hj8
      rw [← HJ.out] at hg0
      clear E3
      generalize ls.getD j 0 = b at *
      rcases hg0 with hg0 | ⟨hg0, rfl⟩
      · rw [hg0] at hlk
        simp only [Option.getD_some, Option.isSome_some, if_true] at hlk
        have M5 := Lib.hid m5
        have S5 := Lib.hid s5
        have M6 := Lib.hid m6
        clear m5 s5 m6 hg0
        go_wp2_with fail
        exact ⟨⟨k + 1, by omega, by go_num, _, _, by have := S5.out.upd u6 (by simp only [OneF]; omega); rwa [show at_ + (k : Int) + 1 = at_ + ((k + 1 : Nat) : Int) by omega] at this, M6.out, by rw [HJ.out]; exact agree_put HAG.out HL.out hj8 _, U6.out⟩, by simp [intOf]; omega⟩
      · rw [hg0] at hlk
        simp only [Option.getD_none, Option.isSome_none, if_true] at hlk
        have M5 := Lib.hid m5
        have S5 := Lib.hid s5
        have M6 := Lib.hid m6
        clear m5 s5 m6 hg0
        go_wp2_with fail
        exact ⟨⟨k + 1, by omega, by go_num, _, _, by have := S5.out.upd u6 (by simp only [OneF]; omega); rwa [show at_ + (k : Int) + 1 = at_ + ((k + 1 : Nat) : Int) by omega] at this, M6.out, by rw [HJ.out]; exact agree_put HAG.out HL.out hj8 _, U6.out⟩, by simp [intOf]; omega⟩
    · obtain rfl : k = l.length := by omega
      have ul := Lib.hid ((u0.trans hu (fun i hi h => by rcases h with h | h <;> omega) : Upd NoF w wr))
      clear hvr hv hag hm hu u0
      go_wp2_with (first
        | (go_at_call 38; refine (next_any _ _ _ hs).mono ?_; rintro r w5 ⟨rfl, rfl⟩)
        | (go_at_call 39; refine (epoch_any _ _ _ hs).mono ?_; rintro r w5 ⟨rfl, rfl⟩))
      go_ret
      exact ⟨rfl, ul.out⟩
end Go.Proofs.Ytplhgeecnnadhaa
