/- The sequencer (package tokens): each function told by a plain one. -/
import Derived.Test.YtplhgeecnnadhaaMsg
namespace Go.Proofs.Ytplhgeecnnadhaa
open Go.RowKit
/-- the sequencer: its epoch, the next address, the last ones of its streams -/
structure TS where
  e : Int
  n : Int
  ls : List Int
def TS.cells (s : TS) : Array Value := (.int .i64 s.e :: .int .i64 s.n :: s.ls.map (Value.int .i64)).toArray
def SeqAt (w : World) (q : Nat) (s : TS) : Prop := s.ls.length = 8 ∧ 0 ≤ s.n ∧ w.heap[q]? = some (.cells s.cells 142 (0, 0))
theorem SeqAt.e {w : World} {q : Nat} {s : TS} (h : SeqAt w q s) : w.cell? ⟨q, 0, none⟩ = some (.int .i64 s.e) := by rw [blk_cell h.2.2]; simp [TS.cells]
theorem SeqAt.n {w : World} {q : Nat} {s : TS} (h : SeqAt w q s) : w.cell? ⟨q, 1, none⟩ = some (.int .i64 s.n) := by rw [blk_cell h.2.2]; simp [TS.cells]
theorem SeqAt.l {w : World} {q : Nat} {s : TS} (h : SeqAt w q s) (i : Nat) (hi : i < 8) : w.cell? ⟨q, 2 + i, none⟩ = some (.int .i64 (s.ls.getD i 0)) := by
  rw [blk_cell h.2.2]; simp [TS.cells, Nat.add_comm 2 i]
  have := h.1
  rw [List.getElem?_eq_getElem (by omega)]; simp
theorem SeqAt.upd {F : Nat → Prop} {w w1 : World} {q : Nat} {s : TS} (h : SeqAt w q s) (hu : Upd F w w1) (hn : ¬ F q) : SeqAt w1 q s := ⟨h.1, h.2.1, hu.blk h.2.2 hn⟩

set_option maxHeartbeats 400000 in
theorem epoch_any (q : Nat) (s : TS) (w : World) (h : SeqAt w q s) :
    Calls Try.prog 39 #[.pointer (some ⟨q, 0, none⟩)] w fun r w' => r = .returned (.int .i64 s.e) ∧ w = w' := by
  have c0 := h.e
  go_enter Try.func39, Try.ntmps39
  go_wp2_with fail
  go_ret
  exact ⟨rfl, rfl⟩
set_option maxHeartbeats 400000 in
theorem next_any (q : Nat) (s : TS) (w : World) (h : SeqAt w q s) :
    Calls Try.prog 38 #[.pointer (some ⟨q, 0, none⟩)] w fun r w' => r = .returned (.int .i64 s.n) ∧ w = w' := by
  have c0 := h.n
  go_enter Try.func38, Try.ntmps38
  go_wp2_with fail
  go_ret
  exact ⟨rfl, rfl⟩

set_option maxHeartbeats 400000 in
theorem none_any (w : World) :
    Calls Try.prog 80 #[] w fun r w' => r = .returned (.agg #[.int .i64 (-1), .int .i64 (-1), .int .i64 (-1), .int .i64 (-1), .int .i64 (-1), .int .i64 (-1), .int .i64 (-1), .int .i64 (-1)]) ∧ Upd NoF w w' := by
  go_enter Try.func80, Try.ntmps80
  go_wp2_with fail
  refine wp_loop_rounds 9 ?_
  repeat (simp only [rounds_succ]; go_wp2_with fail)
  exact bodyPost_ret (v := .agg #[.int .i64 (-1), .int .i64 (-1), .int .i64 (-1), .int .i64 (-1), .int .i64 (-1), .int .i64 (-1), .int .i64 (-1), .int .i64 (-1)]) (by simp [results, Try.results80, go_sem]) rfl ⟨rfl, (Upd.refl _ _).alloc _⟩

def ts0 : TS := ⟨-1, 0, [-1, -1, -1, -1, -1, -1, -1, -1]⟩
def NewSeq (w : World) (r : Ending) (w' : World) : Prop := ∃ q, r = .returned (.pointer (some ⟨q, 0, none⟩)) ∧ SeqAt w' q ts0 ∧ w.heap.size ≤ q ∧ Upd NoF w w'
set_option maxHeartbeats 400000 in
theorem newseq_any (w : World) : Calls Try.prog 36 #[] w (NewSeq w) := by
  go_enter Try.func36, Try.ntmps36
  go_wp2_with fail
  refine (none_any _).mono ?_
  rintro r w1 ⟨rfl, hg⟩
  go_wp2_with fail
  go_ret
  exact ⟨w1.heap.size, rfl, ⟨rfl, by decide, blk_new _ _⟩, hg.size, hg.alloc _⟩

/-- start, plainly -/
def TS.start (s : TS) (epoch at_ : Int) : TS × Int :=
  if epoch < s.e then (s, 8)
  else if epoch < 0 ∨ at_ < 0 ∨ at_ > 4294967296 then (s, 1)
  else if epoch > s.e then (⟨epoch, at_, [-1, -1, -1, -1, -1, -1, -1, -1]⟩, 0)
  else (⟨s.e, max s.n at_, s.ls⟩, 0)
def Seqs (q : Nat) (s : TS) (v : Value) (w : World) (r : Ending) (w' : World) : Prop := r = .returned v ∧ SeqAt w' q s ∧ Upd (OneF q) w w'
theorem len8 {l : List Int} (h : l.length = 8) : ∃ a b c d e f g i, l = [a, b, c, d, e, f, g, i] := by
  match l, h with
  | [a, b, c, d, e, f, g, i], _ => exact ⟨a, b, c, d, e, f, g, i, rfl⟩
set_option maxHeartbeats 1000000 in
theorem start_1 (q : Nat) (s : TS) (epoch at_ : Int) (w : World) (h : SeqAt w q s) (h1 : epoch < s.e) :
    Calls Try.prog 82 #[.pointer (some ⟨q, 0, none⟩), .int .i64 epoch, .int .i64 at_] w (Seqs q s (.int .i64 8) w) := by
  have c0 := h.e
  have c1 := h.n
  have f := blk_free h.2.2
  go_enter Try.func82, Try.ntmps82
  go_wp2_with fail
  go_ret
  exact ⟨rfl, h, Upd.refl _ _⟩
set_option maxHeartbeats 1000000 in
theorem start_2 (q : Nat) (s : TS) (epoch at_ : Int) (w : World) (h : SeqAt w q s) (h1 : ¬ epoch < s.e) (h2 : epoch < 0) :
    Calls Try.prog 82 #[.pointer (some ⟨q, 0, none⟩), .int .i64 epoch, .int .i64 at_] w (Seqs q s (.int .i64 1) w) := by
  have c0 := h.e
  have c1 := h.n
  have f := blk_free h.2.2
  go_enter Try.func82, Try.ntmps82
  go_wp2_with fail
  go_ret
  exact ⟨rfl, h, Upd.refl _ _⟩
set_option maxHeartbeats 1000000 in
theorem start_3 (q : Nat) (s : TS) (epoch at_ : Int) (w : World) (h : SeqAt w q s) (h1 : ¬ epoch < s.e) (h2 : ¬ epoch < 0) (h3 : at_ < 0) :
    Calls Try.prog 82 #[.pointer (some ⟨q, 0, none⟩), .int .i64 epoch, .int .i64 at_] w (Seqs q s (.int .i64 1) w) := by
  have c0 := h.e
  have c1 := h.n
  have f := blk_free h.2.2
  go_enter Try.func82, Try.ntmps82
  go_wp2_with fail
  go_ret
  exact ⟨rfl, h, Upd.refl _ _⟩
set_option maxHeartbeats 1000000 in
theorem start_4 (q : Nat) (s : TS) (epoch at_ : Int) (w : World) (h : SeqAt w q s) (h1 : ¬ epoch < s.e) (h2 : ¬ epoch < 0) (h3 : ¬ at_ < 0) (h4 : at_ > 4294967296) :
    Calls Try.prog 82 #[.pointer (some ⟨q, 0, none⟩), .int .i64 epoch, .int .i64 at_] w (Seqs q s (.int .i64 1) w) := by
  have c0 := h.e
  have c1 := h.n
  have f := blk_free h.2.2
  go_enter Try.func82, Try.ntmps82
  go_wp2_with fail
  go_ret
  exact ⟨rfl, h, Upd.refl _ _⟩
set_option maxHeartbeats 1000000 in
theorem start_5 (q : Nat) (s : TS) (epoch at_ : Int) (w : World) (h : SeqAt w q s) (h2 : ¬ epoch < 0) (h3 : ¬ at_ < 0) (h4 : ¬ at_ > 4294967296) (h5 : epoch > s.e) :
    Calls Try.prog 82 #[.pointer (some ⟨q, 0, none⟩), .int .i64 epoch, .int .i64 at_] w (Seqs q ⟨epoch, at_, [-1, -1, -1, -1, -1, -1, -1, -1]⟩ (.int .i64 0) w) := by
  have c0 := h.e
  have c1 := h.n
  have f := blk_free h.2.2
  have h1 : ¬ epoch < s.e := by omega
  go_enter Try.func82, Try.ntmps82
  go_wp2_with fail
  refine (none_any _).mono ?_
  rintro r w1 ⟨rfl, hg⟩
  obtain ⟨x, n, ls⟩ := s
  obtain ⟨hl, _, hb⟩ := h
  obtain ⟨l0, l1, l2, l3, l4, l5, l6, l7, rfl⟩ := len8 hl
  have hb1 := hg.blk0 hb
  have f1 := blk_free hb1
  have d := blk_cell hb1
  have d0 := d 0
  have d1 := d 1
  have d2 := d 2
  have d3 := d 3
  have d4 := d 4
  have d5 := d 5
  have d6 := d 6
  have d7 := d 7
  have d8 := d 8
  have d9 := d 9
  simp [TS.cells] at d0 d1 d2 d3 d4 d5 d6 d7 d8 d9
  clear d c0 c1 f
  have HB := Lib.hid hb1
  clear hb hb1
  go_wp2_with fail
  go_ret
  refine ⟨rfl, ⟨rfl, by show 0 ≤ at_; omega, ?_⟩, ?_⟩
  · apply Eq.trans
    · iterate 11 apply blk_set
      exact HB.out
    · simp [TS.cells]
  · repeat refine Upd.set1 ?_ _ _
    exact hg.mono (fun _ _ h => h.elim)
set_option maxHeartbeats 1000000 in
theorem start_6 (q : Nat) (s : TS) (at_ : Int) (w : World) (h : SeqAt w q s) (h2 : ¬ s.e < 0) (h3 : ¬ at_ < 0) (h4 : ¬ at_ > 4294967296) :
    Calls Try.prog 82 #[.pointer (some ⟨q, 0, none⟩), .int .i64 s.e, .int .i64 at_] w (Seqs q ⟨s.e, max s.n at_, s.ls⟩ (.int .i64 0) w) := by
  have c0 := h.e
  have c1 := h.n
  have f := blk_free h.2.2
  have hn := h.2.1
  have HB := Lib.hid h.2.2
  by_cases hm : s.n < at_
  · have e : max s.n at_ = at_ := by omega
    rw [e]; clear e
    go_enter Try.func82, Try.ntmps82
    go_wp2_with fail
    go_ret
    refine ⟨rfl, ⟨h.1, by show 0 ≤ at_; omega, ?_⟩, (Upd.refl _ _).set1 _ _⟩
    rw [blk_set HB.out]; simp [TS.cells]
  · have e : max s.n at_ = s.n := by omega
    rw [e]; clear e
    go_enter Try.func82, Try.ntmps82
    go_wp2_with fail
    go_ret
    refine ⟨rfl, ⟨h.1, hn, ?_⟩, (Upd.refl _ _).set1 _ _⟩
    rw [blk_set HB.out]; simp [TS.cells]
theorem start_any (q : Nat) (s : TS) (epoch at_ : Int) (w : World) (h : SeqAt w q s) :
    Calls Try.prog 82 #[.pointer (some ⟨q, 0, none⟩), .int .i64 epoch, .int .i64 at_] w (Seqs q (s.start epoch at_).1 (.int .i64 (s.start epoch at_).2) w) := by
  unfold TS.start
  by_cases h1 : epoch < s.e
  · rw [if_pos h1]; exact start_1 q s epoch at_ w h h1
  rw [if_neg h1]
  by_cases h2 : epoch < 0
  · rw [if_pos (.inl h2)]; exact start_2 q s epoch at_ w h h1 h2
  by_cases h3 : at_ < 0
  · rw [if_pos (.inr (.inl h3))]; exact start_3 q s epoch at_ w h h1 h2 h3
  by_cases h4 : at_ > 4294967296
  · rw [if_pos (.inr (.inr h4))]; exact start_4 q s epoch at_ w h h1 h2 h3 h4
  rw [if_neg (by omega)]
  by_cases h5 : epoch > s.e
  · rw [if_pos h5]; exact start_5 q s epoch at_ w h h2 h3 h4 h5
  · rw [if_neg h5]
    have he : epoch = s.e := by omega
    subst he
    exact start_6 q s at_ w h h2 h3 h4
/-- token, plainly -/
def TS.token (s : TS) (epoch stream : Int) : TS × Int × Int × Int :=
  if epoch ≠ s.e ∨ s.e < 0 then (s, 0, 0, 8)
  else if stream < 0 ∨ stream ≥ 8 then (s, 0, 0, 1)
  else if s.n > 4294967296 then (s, 0, 0, 2)
  else (⟨s.e, s.n + 1, s.ls.set stream.toNat s.n⟩, s.n, s.ls.getD stream.toNat 0, 0)
set_option maxHeartbeats 1000000 in
theorem token_any (q : Nat) (s : TS) (epoch stream : Int) (w : World) (h : SeqAt w q s) :
    Calls Try.prog 83 #[.pointer (some ⟨q, 0, none⟩), .int .i64 epoch, .int .i64 stream] w (Seqs q (s.token epoch stream).1 (.tuple #[.int .i64 (s.token epoch stream).2.1, .int .i64 (s.token epoch stream).2.2.1, .int .i64 (s.token epoch stream).2.2.2]) w) := by
  have c0 := h.e
  have c1 := h.n
  have f := blk_free h.2.2
  by_cases h1 : epoch ≠ s.e ∨ s.e < 0
  · have hs : s.token epoch stream = (s, 0, 0, 8) := by unfold TS.token; rw [if_pos h1]
    rw [hs]; clear hs
    by_cases h2 : epoch = s.e
    · have h3 : s.e < 0 := by omega
      subst h2
      go_enter Try.func83, Try.ntmps83
      go_wp2_with fail
      go_ret3
      exact ⟨rfl, h, Upd.refl _ _⟩
    · go_enter Try.func83, Try.ntmps83
      go_wp2_with fail
      go_ret3
      exact ⟨rfl, h, Upd.refl _ _⟩
  simp only [not_or, Int.not_lt, Decidable.not_not] at h1
  obtain ⟨rfl, h1⟩ := h1
  by_cases h2 : stream < 0
  · have hs : s.token s.e stream = (s, 0, 0, 1) := by unfold TS.token; rw [if_neg (by omega), if_pos (by omega)]
    rw [hs]; clear hs
    go_enter Try.func83, Try.ntmps83
    go_wp2_with fail
    go_ret3
    exact ⟨rfl, h, Upd.refl _ _⟩
  by_cases h3 : stream ≥ 8
  · have hs : s.token s.e stream = (s, 0, 0, 1) := by unfold TS.token; rw [if_neg (by omega), if_pos (by omega)]
    rw [hs]; clear hs
    go_enter Try.func83, Try.ntmps83
    go_wp2_with fail
    go_ret3
    exact ⟨rfl, h, Upd.refl _ _⟩
  by_cases h4 : s.n > 4294967296
  · have hs : s.token s.e stream = (s, 0, 0, 2) := by unfold TS.token; rw [if_neg (by omega), if_neg (by omega), if_pos h4]
    rw [hs]; clear hs
    go_enter Try.func83, Try.ntmps83
    go_wp2_with fail
    go_ret3
    exact ⟨rfl, h, Upd.refl _ _⟩
  have hs : s.token s.e stream = (⟨s.e, s.n + 1, s.ls.set stream.toNat s.n⟩, s.n, s.ls.getD stream.toNat 0, 0) := by unfold TS.token; rw [if_neg (by omega), if_neg (by omega), if_neg h4]
  rw [hs]; clear hs
  obtain ⟨k, rfl⟩ := Int.eq_ofNat_of_zero_le (by omega : 0 ≤ stream)
  have hk : k < 8 := by omega
  have ck := h.l k hk
  have hn := h.2.1
  have HB := Lib.hid h.2.2
  go_enter Try.func83, Try.ntmps83
  go_wp2_with fail
  go_quiet (fail)
  go_wp2_with fail
  go_ret3
  refine ⟨by simp, ⟨by simpa using h.1, by show 0 ≤ s.n + 1; omega, ?_⟩, ?_⟩
  · apply Eq.trans
    · iterate 2 apply blk_set
      exact HB.out
    · simp [TS.cells, Nat.add_comm 2 k]
  · repeat refine Upd.set1 ?_ _ _
    exact (Upd.refl _ _).drewN _
end Go.Proofs.Ytplhgeecnnadhaa
