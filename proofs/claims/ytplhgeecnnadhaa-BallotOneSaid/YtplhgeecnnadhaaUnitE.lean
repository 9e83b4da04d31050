/- The unit: pages of acceptances. -/
import Derived.Test.YtplhgeecnnadhaaUnitD
namespace Go.Proofs.Ytplhgeecnnadhaa
open Go.RowKit
variable {F G : Nat → Prop} {w w1 w2 : World} {u d p : Nat} {s : US}
theorem RdAt.bound {l : List UInt8} {x : Bool} (h : RdAt w F p l x) : RdAt w (fun k => F k ∧ k < w.heap.size) p l x := by
  obtain ⟨v, hb, hr, hd⟩ := h
  exact ⟨v, hb, hr.bound, fun h => hd h.1⟩
set_option maxRecDepth 100000 in
set_option maxHeartbeats 4000000 in
theorem page_accept (n r q : Nat) (b : List UInt8) (v : Value) (w : World) (h : UnitAt w F u d s) (hv : Bytes w G v (6 :: (beBytes n 8 ++ (beBytes r 8 ++ (beBytes q 8 ++ (beBytes b.length 4 ++ b)))))) (hn0 : 0 < n) (hn : n ≤ 2147483647) (hr : r ≤ 2147483647) (hq : q ≤ 2147483647) (hb : b.length ≤ 1000) :
    Calls Try.prog 84 #[.pointer (some ⟨u, 0, none⟩), v] w (fun x w' => x = .returned (.bool true) ∧ Unit2 F u d (s.put n ⟨⟨r, q⟩, ⟨r, q⟩, b⟩) w w') := by
  have HR := Lib.hid (rd_new v w hv (by simp only [List.length_cons, List.length_append, beBytes_length]; omega))
  have hok : okInst n ⟨r, q⟩ = true := by unfold okInst okNum; simp; omega
  have HN := Lib.hid (fun w => u_instance n ⟨r, q⟩ w)
  rw [hok] at HN
  obtain ⟨A, hA⟩ : ∃ A, s.at_ n = A := ⟨_, rfl⟩
  have HA := Lib.hid hA
  clear hA
  obtain ⟨av, cv, rfl, hcv⟩ := hv.slice
  obtain ⟨L, hL⟩ : ∃ L, (6 :: (beBytes n 8 ++ (beBytes r 8 ++ (beBytes q 8 ++ (beBytes b.length 4 ++ b))))).length = L := ⟨_, rfl⟩
  rw [hL] at HR ⊢
  have HU := Lib.hid h
  obtain ⟨h1, mc, ma, hub, hfs, hc, ha⟩ := h
  have HP := Lib.hid (And.intro h1 (And.intro hfs (And.intro hc ha)))
  have HUB := Lib.hid hub
  have hnb : (n : Int) ≤ 2147483647 := by omega
  have hrb : (r : Int) ≤ 2147483647 := by omega
  have hqb : (q : Int) ≤ 2147483647 := by omega
  clear h1 hfs hc ha hv hok hcv hL hub
  go_enter Try.func84, Try.ntmps84
  go_wp2_with fail
  refine HR.out.mono ?_
  rintro x w1 ⟨F1, p, rfl, r1, u1, hp, hF1⟩
  have HB := Lib.hid (rd_byte w1 r1)
  have R1 := Lib.hid r1
  rw [rnum_one] at HB
  clear r1
  go_wp2_with fail
  refine HB.out.mono ?_
  rintro x w2 ⟨rfl, r2, u2⟩
  have HM := Lib.hid (rd_number 8 w2 r2 (by omega))
  rw [(rnum8 (by omega) _).1, (rnum8 (by omega) _).2] at HM
  have U2 := Lib.hid (Upd.hide u1 u2 hp)
  clear r2 u1 u2
  go_wp2_with fail
  refine HM.out.mono ?_
  rintro x w3 ⟨rfl, r3, u3⟩
  have HM3 := Lib.hid (rd_number 8 w3 r3 (by omega))
  rw [(rnum8 (by omega) _).1, (rnum8 (by omega) _).2] at HM3
  have U3 := Lib.hid (Upd.hide U2.out u3 hp)
  clear r3 u3
  go_wp2_with fail
  refine HM3.out.mono ?_
  rintro x w4 ⟨rfl, r4, u4⟩
  have HM4 := Lib.hid (rd_number 8 w4 r4 (by omega))
  rw [(rnum8 (by omega) _).1, (rnum8 (by omega) _).2] at HM4
  have U4 := Lib.hid (Upd.hide U3.out u4 hp)
  clear r4 u4
  go_wp2_with fail
  refine HM4.out.mono ?_
  rintro x w5 ⟨rfl, r5, u5⟩
  have R5 := Lib.hid r5.bound
  have U5 := Lib.hid (Upd.hide U4.out u5 hp)
  clear r5 u5
  have hub := (U5.out.alloc (.cells #[.int .i64 r, .int .i64 q] 40)).blk0 HUB.out
  have c5 : (w5.alloc (.cells #[.int .i64 r, .int .i64 q] 40)).cell? ⟨u, 5, none⟩ = some (.map (some ma)) := blk_cell hub 5
  have U6 := Lib.hid (U5.out.alloc (.cells #[.int .i64 r, .int .i64 q] 40))
  obtain ⟨a0, c0, hlk, hbl⟩ := acc_look (HP.out.2.2.2.upd accRep_upd U6.out (fun _ _ h => h) (fun h => h)) n
  rw [HA.out] at hlk hbl
  unfold Acc.v at hlk
  have HBL := Lib.hid hbl
  clear hub hbl
  go_wp2_with fail
  have u7 := U6.out.alloc (.cells #[.int .i64 r, .int .i64 q, .int .i64 A.ac.r, .int .i64 A.ac.w, .slice a0 A.val.length c0] 153)
  have hb7 : ((w5.alloc (.cells #[.int .i64 r, .int .i64 q] 40)).alloc (.cells #[.int .i64 r, .int .i64 q, .int .i64 A.ac.r, .int .i64 A.ac.w, .slice a0 A.val.length c0] 153)).heap[w5.heap.size]? = some (.cells #[.int .i64 r, .int .i64 q] 40) := blk_alloc (blk_new _ _) _
  have ha7 : ((w5.alloc (.cells #[.int .i64 r, .int .i64 q] 40)).alloc (.cells #[.int .i64 r, .int .i64 q, .int .i64 A.ac.r, .int .i64 A.ac.w, .slice a0 A.val.length c0] 153)).heap[w5.heap.size + 1]? = some (.cells #[.int .i64 r, .int .i64 q, .int .i64 A.ac.r, .int .i64 A.ac.w, .slice a0 A.val.length c0] 153) := blk_newn (w := w5.alloc (.cells #[.int .i64 r, .int .i64 q] 40)) (alloc_size _ _) _
  have r7 := R5.out.upd (((Upd.refl NoF w5).alloc (.cells #[.int .i64 r, .int .i64 q] 40)).alloc (.cells #[.int .i64 r, .int .i64 q, .int .i64 A.ac.r, .int .i64 A.ac.w, .slice a0 A.val.length c0] 153)) (fun _ _ h => h) (fun h => h)
  have z7 : ((w5.alloc (.cells #[.int .i64 r, .int .i64 q] 40)).alloc (.cells #[.int .i64 r, .int .i64 q, .int .i64 A.ac.r, .int .i64 A.ac.w, .slice a0 A.val.length c0] 153)).heap.size = w5.heap.size + 2 := by simp
  obtain ⟨W7, hW7⟩ : ∃ W7, (w5.alloc (.cells #[.int .i64 r, .int .i64 q] 40)).alloc (.cells #[.int .i64 r, .int .i64 q, .int .i64 A.ac.r, .int .i64 A.ac.w, .slice a0 A.val.length c0] 153) = W7 := ⟨_, rfl⟩
  have hp5 := R5.out.lt
  rw [hW7] at u7 hb7 ha7 r7 z7 ⊢
  have U7 := Lib.hid u7
  have HA7 := Lib.hid ha7
  have HB7 := Lib.hid hb7
  have R7 := Lib.hid (r7.upd ((Upd.refl NoF W7).drew) (fun _ _ h => h) (fun h => h))
  have Z7 := Lib.hid z7
  have S7 := Lib.hid (show W7.drew.heap[w5.heap.size]? = some (.cells #[.int .i64 r, .int .i64 q] 40) from hb7)
  have hrb := rbytes_app (b := b) (most := 1000) hb (by omega) []
  rw [List.append_nil] at hrb
  have HBY := Lib.hid (rd_bytes 1000 W7.drew R7.out (by simp only [List.length_append, beBytes_length]; omega))
  rw [hrb] at HBY
  clear u7 hb7 ha7 r7 z7 hW7 hlk hrb
  refine region_late (fun W => W.heap[w5.heap.size]? = some (.cells #[.int .i64 r, .int .i64 q] 40)) [4, 6] (by kernel_rfl) ?_
  refine late_take 0 (.agg #[.int .i64 r, .int .i64 q]) rfl (by kernel_rfl) (by kernel_rfl) (by kernel_rfl) (by kernel_rfl) (fun _ _ _ h => h) (by kernel_rfl) S7.out (fun W' hW' => run_load_row_op 40 _ rfl w5.heap.size (by kernel_rfl) 40 _ (0, 0) _ hW' Try.underlying40 rfl (by kernel_rfl)) ?_
  refine late_take 3 (.pointer (some ⟨w5.heap.size + 1, 2, none⟩)) rfl (by kernel_rfl) (by kernel_rfl) (by kernel_rfl) (by kernel_rfl) (fun _ _ _ h => h) (by kernel_rfl) S7.out (fun W' _ => by kernel_rfl) ?_
  refine late_one 1 rfl (by kernel_rfl) (by kernel_rfl) (fun K hK => ?_)
  go_wp2_with fail
  refine hK _ _ (fun _ => S7.out) ?_
  clear hK K
  refine late_one 2 rfl (by kernel_rfl) (by kernel_rfl) (fun K hK => ?_)
  go_wp2_with fail
  refine HBY.out.mono ?_
  rintro x w8 ⟨v8, rfl, b8, r8, u8⟩
  obtain ⟨a8, c8, rfl, hc8⟩ := b8.slice
  have B8 := Lib.hid b8
  have R8 := Lib.hid r8
  have U8 := Lib.hid u8
  have S8 := Lib.hid (show w8.heap[w5.heap.size]? = some (.cells #[.int .i64 r, .int .i64 q] 40) from u8.blk S7.out (fun h => by simp only [OneF] at h; omega))
  have A8 := Lib.hid (show w8.heap[w5.heap.size + 1]? = some (.cells #[.int .i64 r, .int .i64 q, .int .i64 A.ac.r, .int .i64 A.ac.w, .slice a0 A.val.length c0] 153) from u8.blk (show W7.drew.heap[w5.heap.size + 1]? = _ from HA7.out) (fun h => by simp only [OneF] at h; omega))
  have Z8 := Lib.hid u8.size
  clear b8 r8 u8 hc8
  go_wp2_with fail
  refine hK _ _ (fun _ => S8.out) ?_
  clear hK K
  have e2 : w8.cell? ⟨w5.heap.size + 1, 2, none⟩ = some (.int .i64 A.ac.r) := blk_cell A8.out 2
  have e3 : w8.cell? ⟨w5.heap.size + 1, 3, none⟩ = some (.int .i64 A.ac.w) := blk_cell A8.out 3
  have e4 : w8.cell? ⟨w5.heap.size + 1, 4, none⟩ = some (.slice a0 A.val.length c0) := blk_cell A8.out 4
  have g2 := blk_free A8.out 2
  have g3 := blk_free A8.out 3
  have g4 := blk_free A8.out 4
  refine late_one 4 rfl (by kernel_rfl) (by kernel_rfl) (fun K hK => ?_)
  go_wp2_with fail
  refine hK _ _ (fun h => (by cases h)) ?_
  clear hK K
  have S9 := Lib.hid (show ((w8.setCell ⟨w5.heap.size + 1, 2, none⟩ (.int .i64 r)).setCell ⟨w5.heap.size + 1, 3, none⟩ (.int .i64 q)).heap[w5.heap.size]? = some (.cells #[.int .i64 r, .int .i64 q] 40) from blk_far (blk_far S8.out (by simp) _) (by simp) _)
  refine late_one 5 rfl (by kernel_rfl) (by kernel_rfl) (fun K hK => ?_)
  go_wp2_with fail
  refine hK _ _ (fun _ => S9.out) ?_
  clear hK K
  refine late_one 6 rfl (by kernel_rfl) (by kernel_rfl) (fun K hK => ?_)
  go_wp2_with fail
  refine hK _ _ (fun h => (by cases h)) ?_
  clear hK K
  refine late_done (by kernel_rfl) ?_ _
  have ux : Upd (OneF (w5.heap.size + 1)) w8 (((w8.setCell ⟨w5.heap.size + 1, 2, none⟩ (.int .i64 r)).setCell ⟨w5.heap.size + 1, 3, none⟩ (.int .i64 q)).setCell ⟨w5.heap.size + 1, 4, none⟩ (.slice a8 b.length c8)) := (((Upd.refl _ _).set1 _ _).set1 _ _).set1 _ _
  have hx : (((w8.setCell ⟨w5.heap.size + 1, 2, none⟩ (.int .i64 r)).setCell ⟨w5.heap.size + 1, 3, none⟩ (.int .i64 q)).setCell ⟨w5.heap.size + 1, 4, none⟩ (.slice a8 b.length c8)).heap[w5.heap.size + 1]? = some (.cells #[.int .i64 r, .int .i64 q, .int .i64 r, .int .i64 q, .slice a8 b.length c8] 153) := by rw [blk_set (blk_set (blk_set A8.out 2 _) 3 _) 4]; simp
  have hx2 := blk_far S9.out (p := ⟨w5.heap.size + 1, 4, none⟩) (by simp) (.slice a8 b.length c8)
  obtain ⟨w10, hw10⟩ : ∃ w10, (((w8.setCell ⟨w5.heap.size + 1, 2, none⟩ (.int .i64 r)).setCell ⟨w5.heap.size + 1, 3, none⟩ (.int .i64 q)).setCell ⟨w5.heap.size + 1, 4, none⟩ (.slice a8 b.length c8)) = w10 := ⟨_, rfl⟩
  rw [hw10] at ux hx hx2 ⊢
  have i0 : w10.cell? ⟨w5.heap.size, 0, none⟩ = some (.int .i64 r) := blk_cell hx2 0
  have i1 : w10.cell? ⟨w5.heap.size, 1, none⟩ = some (.int .i64 q) := blk_cell hx2 1
  have UX := Lib.hid ux
  have HX := Lib.hid hx
  have r10 := R8.out.upd ux (fun k hk h => by simp only [OneF] at h; subst h; have := hk.2; omega) (fun h => by simp only [OneF] at h; omega)
  have R10 := Lib.hid r10
  clear hw10 ux hx hx2 e2 e3 e4 g2 g3 g4
  go_wp2_with fail
  refine (rd_end _ r10).mono ?_
  rintro x w6 ⟨rfl, rfl⟩
  clear r10
  go_wp2_with fail
  refine (HN.out _).mono ?_
  rintro x w7 ⟨rfl, u7⟩
  have U11 := Lib.hid u7
  clear u7
  go_wp2_with fail
  have hz5 := U5.out.size
  have U9 := Lib.hid ((Upd.hide (Upd.hide U7.out.drew U8.out hp) UX.out (by omega)).then0 U11.out)
  have hub8 := U9.out.drew.blk0 HUB.out
  have hrow : w7.drew.heap[w5.heap.size + 1]? = some (.cells #[.int .i64 r, .int .i64 q, .int .i64 r, .int .i64 q, .slice a8 b.length c8] 153) := U11.out.blk0 HX.out
  have S0 := Lib.hid (And.intro (show w7.drew.cell? ⟨u, 5, none⟩ = some (.map (some ma)) from blk_cell hub8 5) hrow)
  obtain ⟨kv, hm, hk1, hk2⟩ := HP.out.2.2.2
  obtain ⟨w9, hup, m9, u9, z9⟩ := IMap.run_update (P := Try.prog) (hm.upd U9.out.drew (fun h => h)) Try.underlying147 Try.underlying3 n (.agg #[.int .i64 r, .int .i64 q, .int .i64 r, .int .i64 q, .slice a8 b.length c8])
  have hub9 := u9.blk hub8 (by simp only [OneF]; exact HP.out.2.1.2.2.2.2.1)
  have HUB9 := Lib.hid hub9
  have M9 := Lib.hid m9
  have UM := Lib.hid u9
  have HK := Lib.hid (And.intro hk1 hk2)
  have HNB := Lib.hid (NB.map hm)
  have HUP := Lib.hid hup
  clear hm hk1 hk2 hub8 hrow hub9 m9 u9 hup hz5
  refine region_late (fun W => W.cell? ⟨u, 5, none⟩ = some (.map (some ma)) ∧ W.heap[w5.heap.size + 1]? = some (.cells #[.int .i64 r, .int .i64 q, .int .i64 r, .int .i64 q, .slice a8 b.length c8] 153)) [6] (by kernel_rfl) ?_
  refine late_take 0 (.pointer (some ⟨u, 0, none⟩)) rfl (by kernel_rfl) (by kernel_rfl) (by kernel_rfl) (by kernel_rfl) (fun _ _ _ h => h) (by kernel_rfl) S0.out (fun W' _ => by kernel_rfl) ?_
  refine late_take 1 (.pointer (some ⟨u, 0, none⟩)) rfl (by kernel_rfl) (by kernel_rfl) (by kernel_rfl) (by kernel_rfl) (fun _ _ _ h => h) (by kernel_rfl) S0.out (fun W' _ => by kernel_rfl) ?_
  refine late_take 2 (.pointer (some ⟨u, 5, none⟩)) rfl (by kernel_rfl) (by kernel_rfl) (by kernel_rfl) (by kernel_rfl) (fun _ _ _ h => h) (by kernel_rfl) S0.out (fun W' _ => by kernel_rfl) ?_
  refine late_take 3 (.map (some ma)) rfl (by kernel_rfl) (by kernel_rfl) (by kernel_rfl) (by kernel_rfl) (fun _ _ _ h => h) (by kernel_rfl) S0.out (fun W' hW' => run_load_cell_op 147 _ rfl ⟨u, 5, none⟩ (by kernel_rfl) hW'.1 _ Try.underlying147 rfl) ?_
  refine late_take 4 (.int .i64 n) rfl (by kernel_rfl) (by kernel_rfl) (by kernel_rfl) (by kernel_rfl) (fun _ _ _ h => h) (by kernel_rfl) S0.out (fun W' _ => by kernel_rfl) ?_
  refine late_take 5 (.agg #[.int .i64 r, .int .i64 q, .int .i64 r, .int .i64 q, .slice a8 b.length c8]) rfl (by kernel_rfl) (by kernel_rfl) (by kernel_rfl) (by kernel_rfl) (fun _ _ _ h => h) (by kernel_rfl) S0.out (fun W' hW' => run_load_row_op 153 _ rfl (w5.heap.size + 1) (by kernel_rfl) 153 _ (0, 0) _ hW'.2 Try.underlying153 rfl (by kernel_rfl)) ?_
  have hup := HUP.out
  refine late_one 6 rfl (by kernel_rfl) (by kernel_rfl) (fun K hK => ?_)
  go_wp2_with fail
  refine hK _ _ (fun h => (by cases h)) ?_
  clear hK K hup
  refine late_done (by kernel_rfl) ?_ _
  have r9 := (R10.out.upd U11.out.drew (fun _ _ h => h) (fun h => h)).upd UM.out (fun k hk h => by have := hF1 k hk.1; have := HP.out.1 ma HP.out.2.1.2.2.1; simp only [OneF] at h; omega) (fun h => by have := HP.out.1 ma HP.out.2.1.2.2.1; simp only [OneF] at h; omega)
  go_wp2_with fail
  refine (rd_end _ r9).mono ?_
  rintro x w10 ⟨rfl, rfl⟩
  go_wp2_with fail
  go_ret
  obtain ⟨h1, ⟨f1, f2, f3, n1, n2, n3⟩, hc, _⟩ := HP.out
  have hz5 := U5.out.size
  have b8 := ((B8.out.bound.upd UX.out (fun k hk h => by simp only [OneF] at h; have := hk.1; have : W7.drew.heap.size = W7.heap.size := rfl; have := Z7.out; omega)).upd0 U11.out.drew).mono (G := fun q => N3 F u mc ma q ∨ w.heap.size ≤ q) (fun k hk => .inr (by have := hk.1; have : W7.drew.heap.size = W7.heap.size := rfl; have := Z7.out; omega))
  obtain ⟨k1, k2⟩ := acc_close (a := ⟨⟨r, q⟩, ⟨r, q⟩, b⟩) h1 f1 f2 f3 n1 n2 n3 HK.out.1 HK.out.2 hc b8 U9.out.drew UM.out HUB9.out HNB.out M9.out
  exact ⟨rfl, _, k1, k2, fun k hk => hk.elim .inl (fun h => .inr h.1)⟩
end Go.Proofs.Ytplhgeecnnadhaa
