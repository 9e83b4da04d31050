/- The unit: its numbers; a cell copied; its pages as data. -/
import Derived.Test.YtplhgeecnnadhaaUnitG
namespace Go.Proofs.Ytplhgeecnnadhaa
open Go.RowKit
variable {F G D : Nat → Prop} {w w1 w2 : World} {u d p : Nat} {s : US} {ds : DS}
theorem u_epoch (w : World) (h : UnitAt w F u d s) : Calls Try.prog 50 #[.pointer (some ⟨u, 0, none⟩)] w (fun r w' => r = .returned (.int .i64 s.e) ∧ w = w') := by
  obtain ⟨mc, ma, hb⟩ := h.blk
  have c1 : w.cell? ⟨u, 1, none⟩ = some (.int .i64 s.e) := blk_cell hb 1
  clear hb h
  go_enter Try.func50, Try.ntmps50
  go_wp2_with fail
  go_ret
  exact ⟨rfl, rfl⟩
theorem u_low (w : World) (h : UnitAt w F u d s) : Calls Try.prog 55 #[.pointer (some ⟨u, 0, none⟩)] w (fun r w' => r = .returned (.int .i64 s.low) ∧ w = w') := by
  obtain ⟨mc, ma, hb⟩ := h.blk
  have c1 : w.cell? ⟨u, 2, none⟩ = some (.int .i64 s.low) := blk_cell hb 2
  clear hb h
  go_enter Try.func55, Try.ntmps55
  go_wp2_with fail
  go_ret
  exact ⟨rfl, rfl⟩
def US.tl (s : US) : Nat := max s.tail s.low
theorem u_tail (w : World) (h : UnitAt w F u d s) : Calls Try.prog 57 #[.pointer (some ⟨u, 0, none⟩)] w (fun r w' => r = .returned (.int .i64 s.tl) ∧ ∃ n, w' = w.drewN n) := by
  obtain ⟨mc, ma, hb⟩ := h.blk
  have c3 : w.cell? ⟨u, 3, none⟩ = some (.int .i64 s.tail) := blk_cell hb 3
  have c2 : w.cell? ⟨u, 2, none⟩ = some (.int .i64 s.low) := blk_cell hb 2
  clear hb h
  go_enter Try.func57, Try.ntmps57
  go_wp2_with fail
  go_quiet (fail)
  go_wp2_with fail
  all_goals
    go_ret
    refine ⟨?_, _, rfl⟩
    unfold US.tl
    first
      | exact congrArg (fun n : Nat => Ending.returned (.int .i64 (n : Int))) (show s.low = max s.tail s.low by omega)
      | exact congrArg (fun n : Nat => Ending.returned (.int .i64 (n : Int))) (show s.tail = max s.tail s.low by omega)
/-- the error of an epoch, and an address -/
def US.ask (s : US) (epoch at_ : Int) : Int := if epoch = s.e then (if okAt at_ = true then 0 else 2) else 8
theorem u_ask (epoch at_ : Int) (w : World) (h : UnitAt w F u d s) : Calls Try.prog 97 #[.pointer (some ⟨u, 0, none⟩), .int .i64 epoch, .int .i64 at_] w (fun r w' => r = .returned (.int .i64 (s.ask epoch at_)) ∧ w = w') := by
  obtain ⟨mc, ma, hb⟩ := h.blk
  have c1 : w.cell? ⟨u, 1, none⟩ = some (.int .i64 s.e) := blk_cell hb 1
  clear hb h
  unfold US.ask
  have HN := Lib.hid (fun w => u_address at_ w)
  generalize s.e = e at *
  by_cases h1 : epoch = e
  · rw [if_pos h1]
    subst h1
    cases h2 : okAt at_
    · rw [h2] at HN
      have HX := Lib.hid h2
      clear h2
      go_enter Try.func97, Try.ntmps97
      go_wp2_with fail
      refine (HN.out _).mono ?_
      rintro r w1 ⟨rfl, rfl⟩
      go_wp2_with fail
      go_ret
      exact ⟨rfl, rfl⟩
    · rw [h2] at HN
      have HX := Lib.hid h2
      clear h2
      go_enter Try.func97, Try.ntmps97
      go_wp2_with fail
      refine (HN.out _).mono ?_
      rintro r w1 ⟨rfl, rfl⟩
      go_wp2_with fail
      go_ret
      exact ⟨rfl, rfl⟩
  · rw [if_neg h1]
    have h1' : (epoch == (e : Int)) = false := by simpa using h1
    go_enter Try.func97, Try.ntmps97
    go_wp2_with fail
    go_ret
    exact ⟨rfl, rfl⟩
/-- a new cell -/
def NewCell (c : Int × List UInt8) (w : World) (r : Ending) (w' : World) : Prop := ∃ v, r = .returned (.agg #[.int .i64 c.1, v]) ∧ Bytes w' (fun k => w.heap.size ≤ k) v c.2 ∧ Upd NoF w w'
set_option maxHeartbeats 1000000 in
theorem u_copied (k : Int) (v : Value) (b : List UInt8) (w : World) (hv : Bytes w G v b) (hb : b.length ≤ 140737488355328) : Calls Try.prog 98 #[.agg #[.int .i64 k, v]] w (NewCell (k, b) w) := by
  obtain ⟨av, cv, rfl, hcv⟩ := hv.slice
  have HC := Lib.hid (fun W (hu : Upd NoF w W) => clone_any (.slice av b.length cv) b W (hv.upd0 hu) hb)
  clear hv hcv
  have HU := Lib.hid (Upd.refl NoF w)
  go_enter Try.func98, Try.ntmps98
  go_wp2_with fail
  obtain ⟨W0, hW0⟩ : ∃ W0, (w.alloc (.cells #[.int .i64 k, .slice av b.length cv] 54)).alloc (.cells #[.int .i64 0, .slice none 0 0] 54) = W0 := ⟨_, rfl⟩
  have u0 : Upd NoF w W0.drew := by rw [← hW0]; exact ((HU.out.alloc _).alloc _).drew
  have s0 : W0.drew.heap[w.heap.size]? = some (.cells #[.int .i64 k, .slice av b.length cv] 54 (0, 0)) := by rw [← hW0]; exact blk_alloc (blk_new _ _) _
  have t0 : W0.drew.heap[w.heap.size + 1]? = some (.cells #[.int .i64 0, .slice none 0 0] 54 (0, 0)) := by rw [← hW0]; exact blk_newn (alloc_size _ _) _
  have U0 := Lib.hid u0
  have S0 := Lib.hid s0
  have T0 := Lib.hid t0
  rw [hW0]
  clear u0 s0 t0 hW0
  refine region_late (fun W => W.heap[w.heap.size]? = some (.cells #[.int .i64 k, .slice av b.length cv] 54 (0, 0))) [6] (by kernel_rfl) ?_
  refine late_take 0 (.pointer (some ⟨w.heap.size, 0, none⟩)) rfl (by kernel_rfl) (by kernel_rfl) (by kernel_rfl) (by kernel_rfl) (fun _ _ _ h => h) (by kernel_rfl) S0.out (fun W' _ => by kernel_rfl) ?_
  refine late_take 1 (.int .i64 k) rfl (by kernel_rfl) (by kernel_rfl) (by kernel_rfl) (by kernel_rfl) (fun _ _ _ h => h) (by kernel_rfl) S0.out (fun W' hW' => run_load_cell_op 3 _ rfl ⟨w.heap.size, 0, none⟩ (by kernel_rfl) (blk_cell hW' 0) _ Try.underlying3 rfl) ?_
  refine late_take 2 (.pointer (some ⟨w.heap.size, 1, none⟩)) rfl (by kernel_rfl) (by kernel_rfl) (by kernel_rfl) (by kernel_rfl) (fun _ _ _ h => h) (by kernel_rfl) S0.out (fun W' _ => by kernel_rfl) ?_
  refine late_take 3 (.slice av b.length cv) rfl (by kernel_rfl) (by kernel_rfl) (by kernel_rfl) (by kernel_rfl) (fun _ _ _ h => h) (by kernel_rfl) S0.out (fun W' hW' => run_load_cell_op 23 _ rfl ⟨w.heap.size, 1, none⟩ (by kernel_rfl) (blk_cell hW' 1) _ Try.underlying23 rfl) ?_
  refine late_one 4 rfl (by kernel_rfl) (by kernel_rfl) (fun K hK => ?_)
  go_wp2_with fail
  refine (HC.out _ U0.out).mono ?_
  rintro r w3 ⟨v3, rfl, b3, u3⟩
  obtain ⟨a3, c3, rfl, hc3⟩ := b3.slice
  have B3 := Lib.hid b3
  have U3 := Lib.hid u3
  have S3 := Lib.hid (u3.blk0 S0.out)
  have t3 := u3.blk0 T0.out
  have T3 := Lib.hid t3
  have z3 : w.heap.size + 1 < w3.heap.size := blk_lt t3
  clear b3 u3 hc3 t3
  go_wp2_with fail
  refine hK _ _ (fun _ => S3.out) ?_
  clear hK K
  refine late_one 5 rfl (by kernel_rfl) (by kernel_rfl) (fun K hK => ?_)
  go_wp2_with fail
  refine hK _ _ (fun _ => S3.out) ?_
  clear hK K
  have d0 : w3.cell? ⟨w.heap.size + 1, 0, none⟩ = some (.int .i64 0) := blk_cell T3.out 0
  have d1 : w3.cell? ⟨w.heap.size + 1, 1, none⟩ = some (.slice none 0 0) := blk_cell T3.out 1
  have g0 := blk_free T3.out 0
  have g1 := blk_free T3.out 1
  refine late_one 6 rfl (by kernel_rfl) (by kernel_rfl) (fun K hK => ?_)
  go_wp2_with fail
  refine hK _ _ (fun h => (by cases h)) ?_
  clear hK K
  refine late_done (by kernel_rfl) ?_ _
  have hx : ((w3.setCell ⟨w.heap.size + 1, 0, none⟩ (.int .i64 k)).setCell ⟨w.heap.size + 1, 1, none⟩ (.slice a3 b.length c3)).heap[w.heap.size + 1]? = some (.cells #[.int .i64 k, .slice a3 b.length c3] 54 (0, 0)) := by rw [blk_set (blk_set T3.out 0 _) 1]; simp
  have hu : Upd (OneF (w.heap.size + 1)) w3 ((w3.setCell ⟨w.heap.size + 1, 0, none⟩ (.int .i64 k)).setCell ⟨w.heap.size + 1, 1, none⟩ (.slice a3 b.length c3)) := ((Upd.refl _ _).set1 _ _).set1 _ _
  have HX := Lib.hid (And.intro hx hu)
  clear hx hu d0 d1 g0 g1
  go_wp2_with fail
  refine bodyPost_ret (results_c rfl _ _ _ 54 _ (0, 0) _ rfl HX.out.1 Try.underlying54 rfl (by kernel_rfl)) rfl ?_
  have hz0 := U0.out.size
  have ht := blk_lt T0.out
  refine ⟨_, rfl, (B3.out.upd HX.out.2 (fun k hk h => by simp only [OneF] at h; omega)).mono (fun k hk => by omega), (U0.out.then0 U3.out).trans HX.out.2 (fun i hi h => by simp only [OneF] at h; omega)⟩
end Go.Proofs.Ytplhgeecnnadhaa
