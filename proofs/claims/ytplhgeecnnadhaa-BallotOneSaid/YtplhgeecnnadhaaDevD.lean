/- The device: going through its pages. -/
import Derived.Test.YtplhgeecnnadhaaDevB
import Derived.Test.YtplhgeecnnadhaaRf
import Derived.Test.YtplhgeecnnadhaaMsg
import Derived.OwnWalkIn
import Derived.TacticsInMore
import Derived.LoopNIn
import Derived.LoopIn
namespace Go.Proofs.Ytplhgeecnnadhaa
open Go.RowKit Go.Shelf
attribute [local go_sem] Oper.semAt_some
variable {F G : Nat → Prop} {w w1 : World} {d : Nat} {s : DS}
set_option maxHeartbeats 400000 in
theorem all_any (w : World) : Calls Try.prog 75 #[.pointer (some ⟨d, 0, none⟩)] w (fun r w' => r = .returned (.func (.func 110) #[] #[.pointer (some ⟨w.heap.size, 0, none⟩)]) ∧ w' = w.alloc (.cells #[.pointer (some ⟨d, 0, none⟩)] 25)) := by
  go_enter Try.func75, Try.ntmps75
  go_wp2_with fail
  go_ret
  exact ⟨rfl, rfl⟩
set_option maxRecDepth 100000 in
set_option maxHeartbeats 4000000 in
/-- the iterator: J k holds where k pages have been gone by -/
theorem all1_in (n l B : Nat) (w0 W0 : World) (J : Nat → World → Prop) (hdev : DevAt w0 F d s) (hbox : w0.cell? ⟨B, 0, none⟩ = some (.pointer (some ⟨d, 0, none⟩)))
    (hkeep : ∀ k W, J k W → Upd (fun q => ¬ (F q ∨ q = B)) w0 W) (hstep : ∀ k W W', J k W → Upd NoF W W' → J k W')
    (hskip : ∀ k W (h : k < s.pages.length), s.pages[k].1 ≠ 1 → J k W → J (k + 1) W)
    (hY : ∀ k Wb W v (h : k < s.pages.length), J k Wb → Upd NoF Wb W → s.pages[k].1 = 1 → Bytes W (fun q => Wb.heap.size ≤ q) v s.pages[k].2 → IsSlice v → YieldAt Fence.wide (n - 1) Try.prog l #[v] W fun e W' => e = .returned (.bool true) ∧ J (k + 1) W')
    (h0 : J 0 W0) :
    CallsIn Fence.wide n Try.prog 110 #[.func (.yield l) #[] #[], .pointer (some ⟨B, 0, none⟩)] W0 fun e W' => (∃ v, e = .returned v) ∧ J s.pages.length W' := by
  refine callsIn_of_wp Try.func110 rfl trivial ?_ rfl
  simp only [Try.ntmps110, List.size_toArray, List.length_cons, List.length_nil, Nat.reduceAdd, Nat.reduceSub, Array.replicate_succ, Array.replicate_zero, List.push_toArray, List.append_toArray, List.nil_append, List.cons_append]
  obtain ⟨⟨k1, k2, k3, k4, k5⟩, hlt, vp, lp, hb, hr, hx, hll, hd⟩ := hdev
  obtain ⟨a, c, rfl, hc, _, hn, hs⟩ := hr.slice
  have hln : lp.length = s.pages.length := by rw [← hll]; simp
  have hlen2 : (lp.length : Int) ≤ 65536 := by omega
  have u0 := hkeep 0 W0 h0
  have c0 : W0.cell? ⟨B, 0, none⟩ = some (.pointer (some ⟨d, 0, none⟩)) := u0.cell hbox (by simp)
  have c1 : W0.cell? ⟨d, 1, none⟩ = some (.slice a lp.length c) := blk_cell (u0.blk hb (by simp [hd])) 1
  have HB := Lib.hid hb
  have HR := Lib.hid hr
  have HX := Lib.hid hx
  have HLL := Lib.hid hll
  have HLN := Lib.hid hln
  have HBOX := Lib.hid hbox
  have HK := Lib.hid hkeep
  have HST := Lib.hid hstep
  have HSK := Lib.hid hskip
  have HY := Lib.hid hY
  have HNS := Lib.hid hn
  have HS := Lib.hid hs
  have H0 := Lib.hid h0
  clear hb hr hx hll hbox hkeep hstep hskip hY hn hs u0 hln h0
  gi_wp2
  gi_loopw [10] (fun i wr => ∃ k : Nat, k ≤ lp.length ∧ i = .int .i64 k ∧ J k wr) (fun i _ => lp.length - (intOf i).toNat)
  case atStart => exact ⟨0, Nat.zero_le _, rfl, H0.out⟩
  case round =>
    obtain ⟨k, hk, rfl, hj⟩ := hrel
    by_cases hlt2 : k < lp.length
    · obtain ⟨g, hag⟩ : ∃ g, a = some ⟨g, 0, none⟩ := by
        cases a with
        | none => have := (HNS.out rfl).1; omega
        | some x => exact ⟨x.block, by rw [← (HS.out x rfl).1]⟩
      subst hag
      have hu := HK.out k wr hj
      have hr2 := HR.out.upd hu (fun q hq h => h (.inl hq.1))
      obtain ⟨va, vn, vc, hv⟩ : ∃ va vn vc, lp[k].v = .slice va vn vc := by
        obtain ⟨va, vc, h, _⟩ := (HX.out lp[k] (List.getElem_mem hlt2)).slice
        exact ⟨va, _, vc, h⟩
      have hxk := (HX.out lp[k] (List.getElem_mem hlt2)).upd hu (fun q hq h => h (.inl hq.1))
      have z0 : wr.cell? ⟨g, k * 2, none⟩ = some (.int .i64 lp[k].st) := hr2.cell _ (cells_at lp k hlt2).1
      have z1 : wr.cell? ⟨g, k * 2 + 1, none⟩ = some (.slice va vn vc) := by rw [← hv]; exact hr2.cell _ (cells_at lp k hlt2).2
      have hpk : s.pages[k]'(by rw [← HLN.out]; exact hlt2) = lp[k].plain := by simp [← HLL.out]
      have hbl : lp[k].bs.length ≤ 140737488355328 := k5 lp[k].plain (by rw [← HLL.out]; exact List.mem_map_of_mem (List.getElem_mem hlt2))
      have XK := Lib.hid hxk
      have PK := Lib.hid hpk
      have BL := Lib.hid hbl
      have HV := Lib.hid hv
      have HJ := Lib.hid hj
      have HU := Lib.hid hu
      clear hxk hpk hbl hv hr2 hj hu c0 c1
      by_cases hst : lp[k].st = 1
      · have hsb : (lp[k].st == 1) = true := by simpa using hst
        have HST1 := Lib.hid hst
        generalize lp[k].st = st9 at z0 hsb
        clear hst
        gi_wp2
        refine ⟨trivial, (fun h => by cases h), ?_⟩
        have hxv := XK.out
        rw [HV.out] at hxv
        refine (callsIn_wide.2 (clone_any _ _ _ (hxv.upd0 ((Upd.refl NoF wr).alloc _)) BL.out)).mono ?_
        rintro r w4 ⟨v4, rfl, b4, u4⟩
        obtain ⟨a4, c4, rfl, _⟩ := b4.slice
        obtain ⟨fn, tmps, assign, body, hy, hR⟩ := HY.out k wr w4 (.slice a4 lp[k].bs.length c4) (by rw [← HLN.out]; exact hlt2) HJ.out (((Upd.refl NoF wr).alloc _).then0 u4) (by rw [PK.out]; exact HST1.out) (by rw [PK.out]; exact b4.mono (fun q hq => Nat.le_trans (by simp) hq)) ⟨_, _, _, rfl⟩
        clear hxv b4 u4
        gi_wp2
        refine ⟨(fun h => by cases h), ?_⟩
        refine hR.mono ?_
        rintro e W' ⟨rfl, hj'⟩
        have HJ' := Lib.hid hj'
        clear hj' hR hy
        gi_wp2
        exact ⟨⟨k + 1, by omega, by go_num, HJ'.out⟩, by simp [intOf]; omega⟩
      · have hsb : (lp[k].st == 1) = false := by simpa using hst
        have HST1 := Lib.hid hst
        generalize lp[k].st = st9 at z0 hsb
        clear hst
        gi_wp2
        refine ⟨trivial, ?_⟩
        gi_wp2
        refine ⟨fun _ h => (by cases h), ?_⟩
        gi_wp2
        exact ⟨⟨k + 1, by omega, by go_num, HST.out (k + 1) wr _ (HSK.out k wr (by rw [← HLN.out]; exact hlt2) (by rw [PK.out]; exact HST1.out) HJ.out) ((Upd.refl NoF wr).alloc _)⟩, by simp [intOf]; omega⟩
    · gi_wp2
      go_end0
      exact ⟨⟨_, rfl⟩, by rw [← HLN.out, show lp.length = k by omega]; exact hj⟩
end Go.Proofs.Ytplhgeecnnadhaa
