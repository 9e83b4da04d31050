/- The sequencer's Answer: MsgStart, and the whole. -/
import Derived.Test.YtplhgeecnnadhaaTokA
import Derived.Deep.DeepCutAuto
namespace Go.Proofs.Ytplhgeecnnadhaa
open Go.RowKit
set_option maxRecDepth 100000 in
set_option maxHeartbeats 1000000 in
theorem answer_4 (q : Nat) (s : TS) (m : Msg) (w : World) (h : SeqAt w q s) (h1 : IsSlice m.data) (h2 : IsSlice m.value) (hr : m.reply = false) (hk : m.kind = 9) :
    Calls Try.prog 37 #[.pointer (some ⟨q, 0, none⟩), m.val] w (Seqs q (s.start m.epoch m.at_).1 (msgOf (some { m.answer (s.start m.epoch m.at_).2 with back := (s.start m.epoch m.at_).1.e, tail := if (s.start m.epoch m.at_).2 = 0 then (s.start m.epoch m.at_).1.n else 0 })) w) := by
  obtain ⟨a1, n1, k1, h1⟩ := h1
  obtain ⟨a2, n2, k2, h2⟩ := h2
  obtain ⟨src, dst, num, reply, kind, epoch, at_, what, data, round, who, value, err, tail, low, back⟩ := m
  simp only at h1 h2 hr hk
  subst h1 h2 hr hk
  have hq := blk_lt h.2.2
  have ht := Lib.hid (fun W (hW : SeqAt W q s) => start_any q s epoch at_ W hW)
  generalize s.start epoch at_ = tk at *
  obtain ⟨s1, x3⟩ := tk
  generalize hV : msgOf (some _) = V
  have HV := Lib.hid hV
  clear hV
  unfold Msg.val
  go_enter Try.func37, Try.ntmps37
  go_wp2_with fail
  have hM := blk_alloc (blk_new w (.cells #[.int .i64 src, .int .i64 dst, .int .i64 num, .bool false, .int .i64 9, .int .i64 epoch, .int .i64 at_, .int .i64 what, .slice a1 n1 k1, .int .i64 round, .int .i64 who, .slice a2 n2 k2, .int .i64 err, .int .i64 tail, .int .i64 low, .int .i64 back] 56)) (.cells #[.int .i64 0, .int .i64 0, .int .i64 0, .bool false, .int .i64 0, .int .i64 0, .int .i64 0, .int .i64 0, .slice none 0 0, .int .i64 0, .int .i64 0, .slice none 0 0, .int .i64 0, .int .i64 0, .int .i64 0, .int .i64 0] 56)
  have hR := blk_newn (by simp : w.heap.size + 1 = (w.alloc (.cells #[.int .i64 src, .int .i64 dst, .int .i64 num, .bool false, .int .i64 9, .int .i64 epoch, .int .i64 at_, .int .i64 what, .slice a1 n1 k1, .int .i64 round, .int .i64 who, .slice a2 n2 k2, .int .i64 err, .int .i64 tail, .int .i64 low, .int .i64 back] 56)).heap.size) (.cells #[.int .i64 0, .int .i64 0, .int .i64 0, .bool false, .int .i64 0, .int .i64 0, .int .i64 0, .int .i64 0, .slice none 0 0, .int .i64 0, .int .i64 0, .slice none 0 0, .int .i64 0, .int .i64 0, .int .i64 0, .int .i64 0] 56)
  have uW := ((Upd.refl NoF w).alloc (.cells #[.int .i64 src, .int .i64 dst, .int .i64 num, .bool false, .int .i64 9, .int .i64 epoch, .int .i64 at_, .int .i64 what, .slice a1 n1 k1, .int .i64 round, .int .i64 who, .slice a2 n2 k2, .int .i64 err, .int .i64 tail, .int .i64 low, .int .i64 back] 56)).alloc (.cells #[.int .i64 0, .int .i64 0, .int .i64 0, .bool false, .int .i64 0, .int .i64 0, .int .i64 0, .int .i64 0, .slice none 0 0, .int .i64 0, .int .i64 0, .slice none 0 0, .int .i64 0, .int .i64 0, .int .i64 0, .int .i64 0] 56)
  generalize World.alloc (World.alloc w _) _ = W at *
  have HM := Lib.hid hM
  have HR := Lib.hid hR
  have hW := h.upd uW (fun h => h)
  clear hM hR
  refine wp_region_held (S := fun w' => w'.heap[w.heap.size]? = some (.cells #[.int .i64 src, .int .i64 dst, .int .i64 num, .bool false, .int .i64 9, .int .i64 epoch, .int .i64 at_, .int .i64 what, .slice a1 n1 k1, .int .i64 round, .int .i64 who, .slice a2 n2 k2, .int .i64 err, .int .i64 tail, .int .i64 low, .int .i64 back] 56 (0, 0))) (by kernel_rfl) ?_
  refine held_take 0 (.agg #[.int .i64 src, .int .i64 dst, .int .i64 num, .bool false, .int .i64 9, .int .i64 epoch, .int .i64 at_, .int .i64 what, .slice a1 n1 k1, .int .i64 round, .int .i64 who, .slice a2 n2 k2, .int .i64 err, .int .i64 tail, .int .i64 low, .int .i64 back]) rfl (by kernel_rfl) (by kernel_rfl) (by kernel_rfl) (fun _ _ _ h => h) rfl HM.out (fun W' hW' => run_load_row_op 56 _ rfl w.heap.size rfl 56 _ (0, 0) _ hW' Try.underlying56 rfl (by kernel_rfl)) ?_
  refine held_take 1 (.pointer (some ⟨q, 0, none⟩)) rfl (by kernel_rfl) (by kernel_rfl) (by kernel_rfl) (fun _ _ _ h => h) rfl HM.out (fun W' _ => rfl) ?_
  refine held_take 2 (.pointer (some ⟨w.heap.size, 5, none⟩)) rfl (by kernel_rfl) (by kernel_rfl) (by kernel_rfl) (fun _ _ _ h => h) rfl HM.out (fun W' _ => by simp [execOp, Act.put, go_sem]) ?_
  refine held_take 3 (.int .i64 epoch) rfl (by kernel_rfl) (by kernel_rfl) (by kernel_rfl) (fun _ _ _ h => h) rfl HM.out (fun W' hW' => by have c := blk_cell hW' 5; simp at c; simp [execOp, Act.put, go_sem, c]) ?_
  refine held_take 4 (.pointer (some ⟨w.heap.size, 6, none⟩)) rfl (by kernel_rfl) (by kernel_rfl) (by kernel_rfl) (fun _ _ _ h => h) rfl HM.out (fun W' _ => by simp [execOp, Act.put, go_sem]) ?_
  refine held_take 5 (.int .i64 at_) rfl (by kernel_rfl) (by kernel_rfl) (by kernel_rfl) (fun _ _ _ h => h) rfl HM.out (fun W' hW' => by have c := blk_cell hW' 6; simp at c; simp [execOp, Act.put, go_sem, c]) ?_
  refine held_one 6 rfl (by kernel_rfl) rfl (fun K hK => ?_)
  go_wp2_with fail
  refine (ht.out _ (hW.upd ((Upd.refl NoF _).drew) (fun h => h))).mono ?_
  rintro r w1 ⟨rfl, h1, u1⟩
  have HM1 := Lib.hid (u1.blk HM.out (by simp only [OneF]; omega))
  have HR1 := Lib.hid (u1.blk HR.out (by simp only [OneF]; omega))
  refine hK _ _ HM1.out ?_
  clear hK K
  refine held_one 7 rfl (by kernel_rfl) rfl (fun K hK => ?_)
  go_wp2_with fail
  refine (reply_any ⟨src, dst, num, false, 9, epoch, at_, what, .slice a1 n1 k1, round, who, .slice a2 n2 k2, err, tail, low, back⟩ x3 _ ⟨_, _, _, rfl⟩ ⟨_, _, _, rfl⟩).mono ?_
  rintro r w2 ⟨rfl, u2⟩
  unfold Msg.answer Msg.val
  have HM2 := Lib.hid (u2.blk0 HM1.out)
  have HR2 := Lib.hid (u2.blk0 HR1.out)
  refine hK _ _ HM2.out ?_
  clear hK K
  refine held_one 8 rfl (by kernel_rfl) rfl (fun K hK => ?_)
  refine wp_store_blk 56 _ _ rfl (w.heap.size + 1) 0 _ rfl rfl _ 56 HR2.out (by simp) (by kernel_rfl) (by rfl) (fun w3 HR3 u3 => ?_)
  have HM3 := u3.blk HM2.out (by simp only [OneF]; omega)
  refine hK _ _ HM3 ?_
  clear hK K
  refine wpAnyH_done (by kernel_rfl) ?_ _
  rw [putCells_whole (by rfl)] at HR3
  have f3 := blk_free HR3
  have d12 : w3.cell? ⟨w.heap.size + 1, 12, none⟩ = some (.int .i64 x3) := blk_cell HR3 12
  have d13 : w3.cell? ⟨w.heap.size + 1, 13, none⟩ = some (.int .i64 0) := blk_cell HR3 13
  have d15 : w3.cell? ⟨w.heap.size + 1, 15, none⟩ = some (.int .i64 0) := blk_cell HR3 15
  have h3 := h1.upd (u2.mono (fun _ _ h => h.elim) |>.andThen u3) (by simp only [OneF]; omega : ¬ OneF (w.heap.size + 1) q)
  have c0 := h3.e
  have c1 := h3.n
  have H3 := Lib.hid HR3
  clear HR3 HM3
  by_cases hx : x3 = 0
  · have hx' : (x3 == 0) = true := by simpa using hx
    subst hx
    go_upto_region 14 with (fail)
    refine wp_region_lit ?_
    refine wpList_load_row rfl 56 _ rfl (w.heap.size + 1) rfl 56 _ (0, 0) _ (blk_set (blk_set H3.out 15 _) 13 _) Try.underlying56 rfl (by kernel_rfl) ?_
    refine wpList_store_blk rfl 56 _ _ rfl (w.heap.size + 1) 0 _ rfl rfl _ 56 (blk_set (blk_set H3.out 15 _) 13 _) (by simp) (by kernel_rfl) (by rfl) ?_
    intro w4 h4 u4
    rw [putCells_whole (by simp)] at h4
    go_wp2_with fail
    refine bodyPost_ret (results_ct rfl _ _ _ 56 _ (0, 0) _ rfl h4 Try.underlying56 rfl (by kernel_rfl)) rfl ?_
    have U : Upd (OneF (w.heap.size + 1)) w1 w4 := (((((u2.mono (fun _ _ h => h.elim)).andThen u3).set1 _ _).set1 _ _).andThen u4)
    refine ⟨?_, h1.upd U (by simp only [OneF]; omega), ((((uW.mono (fun _ _ h => h.elim)).drew.andThen u1)).trans U (by simp only [OneF]; omega))⟩
    rw [← HV.out]
    rfl
  · have hx' : (x3 == 0) = false := by simpa using hx
    go_upto_region 14 with (fail)
    refine wp_region_lit ?_
    refine wpList_load_row rfl 56 _ rfl (w.heap.size + 1) rfl 56 _ (0, 0) _ (blk_set H3.out 15 _) Try.underlying56 rfl (by kernel_rfl) ?_
    refine wpList_store_blk rfl 56 _ _ rfl (w.heap.size + 1) 0 _ rfl rfl _ 56 (blk_set H3.out 15 _) (by simp) (by kernel_rfl) (by rfl) ?_
    intro w4 h4 u4
    rw [putCells_whole (by simp)] at h4
    go_wp2_with fail
    refine bodyPost_ret (results_ct rfl _ _ _ 56 _ (0, 0) _ rfl h4 Try.underlying56 rfl (by kernel_rfl)) rfl ?_
    have U : Upd (OneF (w.heap.size + 1)) w1 w4 := ((((u2.mono (fun _ _ h => h.elim)).andThen u3).set1 _ _)).andThen u4
    refine ⟨?_, h1.upd U (by simp only [OneF]; omega), ((((uW.mono (fun _ _ h => h.elim)).drew.andThen u1)).trans U (by simp only [OneF]; omega))⟩
    rw [← HV.out]
    simp only [if_neg hx]; rfl
theorem answer_any (q : Nat) (s : TS) (m : Msg) (w : World) (h : SeqAt w q s) (h1 : IsSlice m.data) (h2 : IsSlice m.value) :
    Calls Try.prog 37 #[.pointer (some ⟨q, 0, none⟩), m.val] w (Seqs q (s.answer m).1 (msgOf (s.answer m).2) w) := by
  unfold TS.answer
  by_cases hr : m.reply = true
  · simp only [if_pos hr]; exact answer_1 q s m w h h1 h2 hr
  simp only [if_neg hr]
  have hr' : m.reply = false := by simpa using hr
  by_cases hk : m.kind = 9
  · simp only [if_pos hk]; exact answer_4 q s m w h h1 h2 hr' hk
  simp only [if_neg hk]
  by_cases hk' : m.kind = 8
  · simp only [if_pos hk']; exact answer_3 q s m w h h1 h2 hr' hk'
  simp only [if_neg hk']
  exact answer_2 q s m w h h1 h2 hr' hk hk'
end Go.Proofs.Ytplhgeecnnadhaa
