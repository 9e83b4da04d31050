/- The sequencer's Answer. -/
import Derived.Test.YtplhgeecnnadhaaTok
namespace Go.Proofs.Ytplhgeecnnadhaa
open Go.RowKit
/-- Answer, plainly -/
def TS.answer (s : TS) (m : Msg) : TS × Option Msg :=
  if m.reply = true then (s, none)
  else if m.kind = 9 then ((s.start m.epoch m.at_).1, some { m.answer (s.start m.epoch m.at_).2 with back := (s.start m.epoch m.at_).1.e, tail := if (s.start m.epoch m.at_).2 = 0 then (s.start m.epoch m.at_).1.n else 0 })
  else if m.kind = 8 then ((s.token m.epoch m.at_).1, some { m.answer (s.token m.epoch m.at_).2.2.2 with tail := (s.token m.epoch m.at_).2.1, back := (s.token m.epoch m.at_).2.2.1 })
  else (s, none)
def msgOf : Option Msg → Value
  | some m => .tuple #[m.val, .bool true]
  | none => .tuple #[({} : Msg).val, .bool false]
set_option maxHeartbeats 1000000 in
theorem answer_1 (q : Nat) (s : TS) (m : Msg) (w : World) (h : SeqAt w q s) (h1 : IsSlice m.data) (h2 : IsSlice m.value) (hr : m.reply = true) :
    Calls Try.prog 37 #[.pointer (some ⟨q, 0, none⟩), m.val] w (Seqs q s (msgOf none) w) := by
  obtain ⟨a1, n1, k1, h1⟩ := h1
  obtain ⟨a2, n2, k2, h2⟩ := h2
  obtain ⟨src, dst, num, reply, kind, epoch, at_, what, data, round, who, value, err, tail, low, back⟩ := m
  simp only at h1 h2 hr
  subst h1 h2 hr
  unfold Msg.val
  go_enter Try.func37, Try.ntmps37
  go_wp2_with fail
  refine bodyPost_ret (results_ct rfl _ _ _ 56 _ (0, 0) _ rfl (blk_newn (by simp) _) Try.underlying56 rfl (by kernel_rfl)) rfl ?_
  exact ⟨rfl, h.upd (((Upd.refl NoF _).alloc _).alloc _) (fun h => h), ((Upd.refl _ _).alloc _).alloc _⟩
set_option maxHeartbeats 1000000 in
theorem answer_2 (q : Nat) (s : TS) (m : Msg) (w : World) (h : SeqAt w q s) (h1 : IsSlice m.data) (h2 : IsSlice m.value) (hr : m.reply = false) (hk : m.kind ≠ 9) (hk' : m.kind ≠ 8) :
    Calls Try.prog 37 #[.pointer (some ⟨q, 0, none⟩), m.val] w (Seqs q s (msgOf none) w) := by
  obtain ⟨a1, n1, k1, h1⟩ := h1
  obtain ⟨a2, n2, k2, h2⟩ := h2
  obtain ⟨src, dst, num, reply, kind, epoch, at_, what, data, round, who, value, err, tail, low, back⟩ := m
  simp only at h1 h2 hr hk hk'
  subst h1 h2 hr
  have hk1 : (kind == 9) = false := by simpa using hk
  have hk2 : (kind == 8) = false := by simpa using hk'
  unfold Msg.val
  go_enter Try.func37, Try.ntmps37
  go_wp2_with fail
  refine bodyPost_ret (results_ct rfl _ _ _ 56 _ (0, 0) _ rfl (blk_newn (by simp) _) Try.underlying56 rfl (by kernel_rfl)) rfl ?_
  exact ⟨rfl, h.upd (((Upd.refl NoF _).alloc _).alloc _) (fun h => h), ((Upd.refl _ _).alloc _).alloc _⟩
set_option maxRecDepth 100000 in
set_option maxHeartbeats 1000000 in
theorem answer_3 (q : Nat) (s : TS) (m : Msg) (w : World) (h : SeqAt w q s) (h1 : IsSlice m.data) (h2 : IsSlice m.value) (hr : m.reply = false) (hk : m.kind = 8) :
    Calls Try.prog 37 #[.pointer (some ⟨q, 0, none⟩), m.val] w (Seqs q (s.token m.epoch m.at_).1 (msgOf (some { m.answer (s.token m.epoch m.at_).2.2.2 with tail := (s.token m.epoch m.at_).2.1, back := (s.token m.epoch m.at_).2.2.1 })) w) := by
  obtain ⟨a1, n1, k1, h1⟩ := h1
  obtain ⟨a2, n2, k2, h2⟩ := h2
  obtain ⟨src, dst, num, reply, kind, epoch, at_, what, data, round, who, value, err, tail, low, back⟩ := m
  simp only at h1 h2 hr hk
  subst h1 h2 hr hk
  have hq := blk_lt h.2.2
  have ht := Lib.hid (fun W (hW : SeqAt W q s) => token_any q s epoch at_ W hW)
  generalize s.token epoch at_ = tk at *
  obtain ⟨s1, x1, x2, x3⟩ := tk
  generalize hV : msgOf (some _) = V
  have HV := Lib.hid hV
  clear hV
  unfold Msg.val
  go_enter Try.func37, Try.ntmps37
  go_wp2_with fail
  refine (ht.out _ (h.upd (((Upd.refl NoF _).alloc _).alloc _) (fun h => h))).mono ?_
  rintro r w1 ⟨rfl, h1, u1⟩
  have hM := u1.blk (blk_alloc (blk_new w (.cells #[.int .i64 src, .int .i64 dst, .int .i64 num, .bool false, .int .i64 8, .int .i64 epoch, .int .i64 at_, .int .i64 what, .slice a1 n1 k1, .int .i64 round, .int .i64 who, .slice a2 n2 k2, .int .i64 err, .int .i64 tail, .int .i64 low, .int .i64 back] 56)) _) (by simp only [OneF]; omega)
  have hR := u1.blk (blk_newn (by simp : w.heap.size + 1 = (w.alloc _).heap.size) _) (by simp only [OneF]; omega)
  have HM := Lib.hid hM
  have HR := Lib.hid hR
  clear hM hR
  go_wp2_with (refine wpList_load_row rfl 56 _ rfl w.heap.size rfl 56 _ (0, 0) _ HM.out Try.underlying56 rfl (by kernel_rfl) ?_)
  refine (reply_any ⟨src, dst, num, false, 8, epoch, at_, what, .slice a1 n1 k1, round, who, .slice a2 n2 k2, err, tail, low, back⟩ x3 _ ⟨_, _, _, rfl⟩ ⟨_, _, _, rfl⟩).mono ?_
  rintro r w2 ⟨rfl, u2⟩
  unfold Msg.answer Msg.val
  have HR2 := Lib.hid (u2.blk0 HR.out)
  go_wp2_with (first
    | (refine wpList_store_blk rfl 56 _ _ rfl (w.heap.size + 1) 0 _ rfl rfl _ 56 HR2.out (by simp) (by kernel_rfl) (by rfl) ?_; intro w3 h3 u3; rw [putCells_whole (by simp)] at h3; have f3 := blk_free h3; have d13 : w3.cell? ⟨w.heap.size + 1, 13, none⟩ = some (.int .i64 0) := blk_cell h3 13; have d15 : w3.cell? ⟨w.heap.size + 1, 15, none⟩ = some (.int .i64 0) := blk_cell h3 15; have H3 := Lib.hid h3; clear h3)
    | (refine wpList_load_row rfl 56 _ rfl (w.heap.size + 1) rfl 56 _ (0, 0) _ (blk_set (blk_set H3.out 13 _) 15 _) Try.underlying56 rfl (by kernel_rfl) ?_)
    | (refine wpList_store_blk rfl 56 _ _ rfl (w.heap.size + 1) 0 _ rfl rfl _ 56 (blk_set (blk_set H3.out 13 _) 15 _) (by simp) (by kernel_rfl) (by rfl) ?_; intro w4 h4 u4; rw [putCells_whole (by simp)] at h4))
  refine bodyPost_ret (results_ct rfl _ _ _ 56 _ (0, 0) _ rfl h4 Try.underlying56 rfl (by kernel_rfl)) rfl ?_
  have U : Upd (OneF (w.heap.size + 1)) w1 w4 := ((((u2.mono (fun _ _ h => h.elim)).andThen u3).set1 _ _).set1 _ _).andThen u4
  refine ⟨?_, h1.upd U (by simp only [OneF]; omega), (((((Upd.refl _ _).alloc _).alloc _).andThen u1)).trans U (by simp only [OneF]; omega)⟩
  rw [← HV.out]; rfl
end Go.Proofs.Ytplhgeecnnadhaa
