/- The statements' own example of the sequencer. -/
import Derived.Test.YtplhgeecnnadhaaTokB
namespace Go.Proofs.Ytplhgeecnnadhaa
open Go.RowKit
theorem answer_eq {q : Nat} {s : TS} {m : Msg} {w : World} (h : SeqAt w q s) (h1 : IsSlice m.data) (h2 : IsSlice m.value) {s' : TS} {r : Msg} (e : s.answer m = (s', some r)) :
    Calls Try.prog 37 #[.pointer (some ⟨q, 0, none⟩), m.val] w (Seqs q s' (.tuple #[r.val, .bool true]) w) := by
  have := answer_any q s m w h h1 h2
  rw [e] at this
  exact this
set_option maxRecDepth 100000 in
set_option maxHeartbeats 2000000 in
theorem speaks15 (w : World) : Calls Try.prog 35 #[] w (fun r w' => r = .returned (.bool true) ∧ Upd NoF w w') := by
  go_enter Try.func35, Try.ntmps35
  go_wp2_with fail
  refine (newseq_any _).mono ?_
  rintro r w1 ⟨q, rfl, h1, hq, u1⟩
  go_wp2_with fail
  refine (answer_eq (m := { kind := 8 }) (s' := ts0) (r := { reply := true, kind := 8, err := 8 }) h1 ⟨_, _, _, rfl⟩ ⟨_, _, _, rfl⟩ (by rfl)).mono ?_
  rintro r w2 ⟨rfl, h2, u2⟩
  simp only [Msg.val]
  go_wp2_with fail
  have q2 := blk_lt h2.2.2
  refine (answer_eq (m := { kind := 9, at_ := 5 }) (s' := ⟨0, 5, [-1, -1, -1, -1, -1, -1, -1, -1]⟩) (r := { reply := true, kind := 9, at_ := 5, tail := 5 }) (h2.upd ((Upd.refl NoF _).alloc _) (fun h => h)) ⟨_, _, _, rfl⟩ ⟨_, _, _, rfl⟩ (by rfl)).mono ?_
  rintro r w3 ⟨rfl, h3, u3⟩
  simp only [Msg.val]
  have A3 := u3.cell (p := ⟨w2.heap.size, 12, none⟩) (v := .int .i64 8) (cell_new (by rfl)) (by simp only [OneF]; omega)
  have z3 : w2.heap.size < w3.heap.size := by have := u3.size; simp at this; omega
  have q3 := blk_lt h3.2.2
  have U3 := (((u1.mono (fun _ _ h => h.elim : ∀ i, i < w.heap.size → NoF i → OneF q i)).andThen u2).alloc (.cells #[.int .i64 0, .int .i64 0, .int .i64 0, .bool true, .int .i64 8, .int .i64 0, .int .i64 0, .int .i64 0, .slice none 0 0, .int .i64 0, .int .i64 0, .slice none 0 0, .int .i64 8, .int .i64 0, .int .i64 0, .int .i64 0] 56)).andThen u3
  clear u1 u2 u3 h2 h1
  go_wp2_with fail
  refine (answer_eq (m := { kind := 8, at_ := 2 }) (s' := ⟨0, 6, [-1, -1, 5, -1, -1, -1, -1, -1]⟩) (r := { reply := true, kind := 8, at_ := 2, tail := 5, back := -1 }) (h3.upd ((Upd.refl NoF _).alloc _) (fun h => h)) ⟨_, _, _, rfl⟩ ⟨_, _, _, rfl⟩ (by rfl)).mono ?_
  rintro r w4 ⟨rfl, h4, u4⟩
  simp only [Msg.val]
  have B4 := u4.cell (p := ⟨w3.heap.size, 12, none⟩) (v := .int .i64 0) (cell_new (by rfl)) (by simp only [OneF]; omega)
  have A4 := u4.cell (p := ⟨w2.heap.size, 12, none⟩) (v := .int .i64 8) (((Upd.refl NoF w3).alloc _).cell0 A3) (by simp only [OneF]; omega)
  have z4 : w3.heap.size < w4.heap.size := by have := u4.size; simp at this; omega
  have z24 : w2.heap.size < w4.heap.size := by omega
  have U4 := (U3.alloc (.cells #[.int .i64 0, .int .i64 0, .int .i64 0, .bool true, .int .i64 9, .int .i64 0, .int .i64 5, .int .i64 0, .slice none 0 0, .int .i64 0, .int .i64 0, .slice none 0 0, .int .i64 0, .int .i64 5, .int .i64 0, .int .i64 0] 56)).andThen u4
  have c1 := Lib.hid (h4.upd ((Upd.refl NoF _).alloc (.cells #[.int .i64 0, .int .i64 0, .int .i64 0, .bool true, .int .i64 8, .int .i64 0, .int .i64 2, .int .i64 0, .slice none 0 0, .int .i64 0, .int .i64 0, .slice none 0 0, .int .i64 0, .int .i64 5, .int .i64 0, .int .i64 (-1)] 56)) (fun h => h))
  have U5 := U4.alloc (.cells #[.int .i64 0, .int .i64 0, .int .i64 0, .bool true, .int .i64 8, .int .i64 0, .int .i64 2, .int .i64 0, .slice none 0 0, .int .i64 0, .int .i64 0, .slice none 0 0, .int .i64 0, .int .i64 5, .int .i64 0, .int .i64 (-1)] 56)
  clear u4 U4 U3 A3 h3
  go_wp2_with (go_at_call 38; refine (next_any _ _ _ c1.out).mono ?_; rintro r w5 ⟨rfl, rfl⟩)
  go_ret
  exact ⟨rfl, U5.mono (fun i hi h => by simp only [OneF] at h; omega)⟩
end Go.Proofs.Ytplhgeecnnadhaa
