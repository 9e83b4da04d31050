/- The proposer: Promised, where something is found. -/
import Derived.Test.YtplhgeecnnadhaaBalE
namespace Go.Proofs.Ytplhgeecnnadhaa
open Go.RowKit
variable {F G : Nat → Prop} {w w1 : World} {p : Nat} {s : PS}
theorem best_close {B : Nat} {a1 a2 : Int} {v : Value} {l : List UInt8} {W : World} (h : PropAt W F p s) (hF : ∀ k, F k → k < B) (hv : Bytes W (fun k => B ≤ k) v l) :
    PropAt (((W.setCell ⟨p, 5, none⟩ (.int .i64 a1)).setCell ⟨p, 6, none⟩ (.int .i64 a2)).setCell ⟨p, 7, none⟩ v) (fun k => F k ∨ (B ≤ k ∧ k < W.heap.size)) p { s with e1 := a1, e2 := a2, found := l } := by
  obtain ⟨hacc, hbig, hfew, hlt, vv, vf, m, hb, hvv, hf, hm, fp, fm, hpm⟩ := h
  have u : Upd (OneF p) W (((W.setCell ⟨p, 5, none⟩ (.int .i64 a1)).setCell ⟨p, 6, none⟩ (.int .i64 a2)).setCell ⟨p, 7, none⟩ v) := (((Upd.refl _ _).set1 _ _).set1 _ _).set1 _ _
  refine ⟨hacc, hbig, hfew, fun k hk => ?_, vv, v, m, ?_, ?_, ?_, hm.upd u (by simp only [OneF]; omega), .inl fp, .inl fm, hpm⟩
  · rcases hk with h | h
    · exact Nat.lt_of_lt_of_le (hlt k h) u.size
    · exact Nat.lt_of_lt_of_le h.2 u.size
  · have := blk_set (blk_set (blk_set hb 5 (.int .i64 a1)) 6 (.int .i64 a2)) 7 v
    simpa using this
  · exact (hvv.upd u (fun k hk h => hk.2.1 h)).mono (fun k ⟨h1, h2, h3⟩ => ⟨.inl h1, h2, h3⟩)
  · exact (hv.bound.upd u (fun k hk h => by simp only [OneF] at h; have := hF p fp; omega)).mono (fun k ⟨h1, h2⟩ => ⟨.inr ⟨h1, h2⟩, by have := hF p fp; omega, by have := hF m fm; omega⟩)
set_option maxRecDepth 100000 in
set_option maxHeartbeats 2000000 in
theorem promised_2 (src a1 a2 : Int) (v : Value) (l : List UInt8) (w : World) (h : PropAt w F p s) (ho : s.opn src 1 = true) (hfew : s.ans.length < 1000000) (hv : Bytes w G v l) (hl : l.length ≤ 140737488355328)
    (g2 : ¬ (a1 = 0 ∧ a2 = 0)) (g3 : (s.e1 = 0 ∧ s.e2 = 0) ∨ lessB s.e1 s.e2 a1 a2 = true) :
    Calls Try.prog 32 #[.pointer (some ⟨p, 0, none⟩), .int .i64 src, .agg #[.int .i64 a1, .int .i64 a2], v, .int .i64 0] w (fun r w' => r = .returned (.tuple #[]) ∧ Prop2 F p (PS.answer { s with e1 := a1, e2 := a2, found := l } src true) w w') := by
  obtain ⟨a, c, rfl, hc⟩ := hv.slice
  have uW := (Upd.refl NoF w).alloc (.cells #[.int .i64 a1, .int .i64 a2] 40)
  have hW := h.upd uW (fun _ _ h => h)
  have o1 := open_any src 1 _ hW
  have hnew : (s.ans.map Prod.fst).contains src = false := by
    simp only [PS.opn, Bool.and_eq_true, Bool.not_eq_true'] at ho; exact ho.2
  rw [ho] at o1
  have HH := Lib.hid h
  have HNEW := Lib.hid hnew
  have HFEW := Lib.hid hfew
  have HV := Lib.hid hv
  obtain ⟨hacc, hbig, _, hF, vv, vf, m, hb, _, hf, hm, fp, fm, hpm⟩ := h
  obtain ⟨af, cf, rfl, hcf⟩ := hf.slice
  have hb' := uW.blk0 hb
  have c5 : (w.alloc (.cells #[.int .i64 a1, .int .i64 a2] 40)).cell? ⟨p, 5, none⟩ = some (.int .i64 s.e1) := blk_cell hb' 5
  have c6 : (w.alloc (.cells #[.int .i64 a1, .int .i64 a2] 40)).cell? ⟨p, 6, none⟩ = some (.int .i64 s.e2) := blk_cell hb' 6
  have k0 : (w.alloc (.cells #[.int .i64 a1, .int .i64 a2] 40)).cell? ⟨w.heap.size, 0, none⟩ = some (.int .i64 a1) := cell_new (by rfl)
  have k1 : (w.alloc (.cells #[.int .i64 a1, .int .i64 a2] 40)).cell? ⟨w.heap.size, 1, none⟩ = some (.int .i64 a2) := cell_new (by rfl)
  have HB := Lib.hid hb
  have HF := Lib.hid hF
  have O1 := Lib.hid o1
  have UW := Lib.hid uW
  have hpl := blk_lt hb
  have hl1 := less_any s.e1 s.e2 a1 a2
  have N1 : (a1 == 0) = false ∨ ((a1 == 0) = true ∧ (a2 == 0) = false) := by
    by_cases h : a1 = 0
    · exact .inr ⟨by simpa using h, by simpa using fun h' => g2 ⟨h, h'⟩⟩
    · exact .inl (by simpa using h)
  have N2 : ((s.e1 == 0) = true ∧ (s.e2 == 0) = true) ∨ (((s.e1 == 0) = false ∨ ((s.e1 == 0) = true ∧ (s.e2 == 0) = false)) ∧ lessB s.e1 s.e2 a1 a2 = true) := by
    by_cases h : s.e1 = 0 ∧ s.e2 = 0
    · exact .inl ⟨by simpa using h.1, by simpa using h.2⟩
    · refine .inr ⟨?_, ?_⟩
      · by_cases h1 : s.e1 = 0
        · exact .inr ⟨by simpa using h1, by simpa using fun h' => h ⟨h1, h'⟩⟩
        · exact .inl (by simpa using h1)
      · rcases g3 with g | g
        · exact absurd g h
        · exact g
  clear o1 uW hb hb' hf hm hW hF hnew ho hfew hv g2 g3 hc hacc hbig hcf
  rcases N2 with ⟨n2, n2'⟩ | ⟨n2, nl⟩
  · rcases N1 with n1 | ⟨n1, n1'⟩
    all_goals
      go_enter Try.func32, Try.ntmps32
      go_wp2_with fail
      refine O1.out.mono ?_
      rintro r w1 ⟨rfl, rfl⟩
      go_wp2_with fail
      go_quiet (fail)
      have UX := Lib.hid (UW.out.drewN nq)
      have BX := Lib.hid (show (World.drewN (w.alloc (.cells #[.int .i64 a1, .int .i64 a2] 40)) nq).heap[w.heap.size]? = some (.cells #[.int .i64 a1, .int .i64 a2] 40 (0, 0)) from blk_new w _)
      go_wp2_with fail
      clear c5 c6 k0 k1
      generalize World.drewN (w.alloc (.cells #[.int .i64 a1, .int .i64 a2] 40)) nq = WX at *
      refine wp_region_held (S := fun w' => w'.heap[w.heap.size]? = some (.cells #[.int .i64 a1, .int .i64 a2] 40 (0, 0))) (by kernel_rfl) ?_
      refine held_take 0 (.pointer (some ⟨p, 0, none⟩)) rfl (by kernel_rfl) (by kernel_rfl) (by kernel_rfl) (fun _ _ _ h => h) rfl BX.out (fun W' _ => rfl) ?_
      refine held_take 1 (.pointer (some ⟨p, 0, none⟩)) rfl (by kernel_rfl) (by kernel_rfl) (by kernel_rfl) (fun _ _ _ h => h) rfl BX.out (fun W' _ => rfl) ?_
      refine held_take 2 (.agg #[.int .i64 a1, .int .i64 a2]) rfl (by kernel_rfl) (by kernel_rfl) (by kernel_rfl) (fun _ _ _ h => h) rfl BX.out (fun W' hW' => run_load_row_op 40 _ rfl w.heap.size rfl 40 _ (0, 0) _ hW' Try.underlying40 rfl (by kernel_rfl)) ?_
      refine held_take 3 (.slice a l.length c) rfl (by kernel_rfl) (by kernel_rfl) (by kernel_rfl) (fun _ _ _ h => h) rfl BX.out (fun W' _ => rfl) ?_
      refine held_one 4 rfl (by kernel_rfl) rfl (fun K hK => ?_)
      go_wp2_with fail
      refine (clone_any _ _ _ (HV.out.upd0 UX.out.drew) hl).mono ?_
      rintro r w4 ⟨v4, rfl, b4, u4⟩
      obtain ⟨a4, k4, rfl, hk4⟩ := b4.slice
      have B4 := Lib.hid (u4.blk0 (show WX.drew.heap[w.heap.size]? = _ from BX.out))
      have U4 := Lib.hid (UX.out.drew.then0 u4)
      have hb4 := U4.out.blk0 HB.out
      have d5 : w4.cell? ⟨p, 5, none⟩ = some (.int .i64 s.e1) := blk_cell hb4 5
      have d6 : w4.cell? ⟨p, 6, none⟩ = some (.int .i64 s.e2) := blk_cell hb4 6
      have d7 : w4.cell? ⟨p, 7, none⟩ = some (.slice af s.found.length cf) := blk_cell hb4 7
      have f4 := blk_free hb4
      have NB := Lib.hid b4
      clear hb4 b4 u4
      refine hK _ _ B4.out ?_
      clear hK K
      refine held_one 5 rfl (by kernel_rfl) rfl (fun K hK => ?_)
      go_wp2_with fail
      refine hK _ _ B4.out ?_
      clear hK K
      refine held_one 6 rfl (by kernel_rfl) rfl (fun K hK => ?_)
      go_wp2_with fail
      refine hK _ _ B4.out ?_
      clear hK K
      refine held_one 7 rfl (by kernel_rfl) rfl (fun K hK => ?_)
      go_wp2_with fail
      refine hK _ _ (blk_far (blk_far B4.out (by simp; omega) _) (by simp; omega) _) ?_
      clear hK K
      refine held_one 8 rfl (by kernel_rfl) rfl (fun K hK => ?_)
      go_wp2_with fail
      refine hK _ _ (blk_far (blk_far B4.out (by simp; omega) _) (by simp; omega) _) ?_
      clear hK K
      refine held_one 9 rfl (by kernel_rfl) rfl (fun K hK => ?_)
      go_wp2_with fail
      refine hK _ _ (blk_far (blk_far B4.out (by simp; omega) _) (by simp; omega) _) ?_
      clear hK K
      refine held_one 10 rfl (by kernel_rfl) rfl (fun K hK => ?_)
      go_wp2_with fail
      refine hK _ _ (blk_far (blk_far (blk_far B4.out (by simp; omega) _) (by simp; omega) _) (by simp; omega) _) ?_
      clear hK K
      refine wpAnyH_done (by kernel_rfl) ?_ _
      have h5 := Lib.hid (best_close (a1 := a1) (a2 := a2) (HH.out.upd U4.out (fun _ _ h => h)) (B := WX.heap.size) (fun k hk => Nat.lt_of_lt_of_le (HF.out k hk) UX.out.size) (by simpa using NB.out))
      have u5 : Upd F w (((w4.setCell ⟨p, 5, none⟩ (.int .i64 a1)).setCell ⟨p, 6, none⟩ (.int .i64 a2)).setCell ⟨p, 7, none⟩ (.slice a4 l.length k4)) := ((((U4.out.mono (fun _ _ h => h.elim) : Upd (OneF p) w w4).set1 _ _).set1 _ _).set1 _ _).mono (fun i _ h => by simp only [OneF] at h; subst h; exact fp)
      have U5 := Lib.hid u5
      clear u5
      go_wp2_with fail
      refine (answer79 src true _ h5.out HNEW.out HFEW.out).mono ?_
      rintro r w6 ⟨rfl, hp⟩
      go_wp2_with fail
      go_end0
      exact ⟨rfl, prop2_trans U5.out (fun k hk => hk.imp id (fun h => Nat.le_trans UX.out.size h.1)) hp⟩
  · rw [nl] at hl1
    have HL := Lib.hid hl1
    clear hl1 nl
    rcases n2 with n2 | ⟨n2, n2'⟩ <;> rcases N1 with n1 | ⟨n1, n1'⟩
    all_goals
      go_enter Try.func32, Try.ntmps32
      go_wp2_with fail
      refine O1.out.mono ?_
      rintro r w1 ⟨rfl, rfl⟩
      go_wp2_with fail
      go_region_held3 (fun w' => w'.cell? ⟨p, 5, none⟩ = some (.int .i64 s.e1) ∧ w'.cell? ⟨p, 6, none⟩ = some (.int .i64 s.e2) ∧ w'.cell? ⟨w.heap.size, 0, none⟩ = some (.int .i64 a1) ∧ w'.cell? ⟨w.heap.size, 1, none⟩ = some (.int .i64 a2)) (first | go_keep | (exact ⟨u1.cell0 c5, u1.cell0 c6, u1.cell0 k0, u1.cell0 k1⟩)) ((go_at_call 78; refine (HL.out _).mono ?_; rintro r WX ⟨rfl, u1⟩))
      have UX := Lib.hid (UW.out.drew.then0 u1)
      have BX := Lib.hid (u1.blk0 (show (World.drew (w.alloc (.cells #[.int .i64 a1, .int .i64 a2] 40))).heap[w.heap.size]? = some (.cells #[.int .i64 a1, .int .i64 a2] 40 (0, 0)) from blk_new w _))
      clear c5 c6 k0 k1 u1
      go_wp2_with fail
      refine wp_region_held (S := fun w' => w'.heap[w.heap.size]? = some (.cells #[.int .i64 a1, .int .i64 a2] 40 (0, 0))) (by kernel_rfl) ?_
      refine held_take 0 (.pointer (some ⟨p, 0, none⟩)) rfl (by kernel_rfl) (by kernel_rfl) (by kernel_rfl) (fun _ _ _ h => h) rfl BX.out (fun W' _ => rfl) ?_
      refine held_take 1 (.pointer (some ⟨p, 0, none⟩)) rfl (by kernel_rfl) (by kernel_rfl) (by kernel_rfl) (fun _ _ _ h => h) rfl BX.out (fun W' _ => rfl) ?_
      refine held_take 2 (.agg #[.int .i64 a1, .int .i64 a2]) rfl (by kernel_rfl) (by kernel_rfl) (by kernel_rfl) (fun _ _ _ h => h) rfl BX.out (fun W' hW' => run_load_row_op 40 _ rfl w.heap.size rfl 40 _ (0, 0) _ hW' Try.underlying40 rfl (by kernel_rfl)) ?_
      refine held_take 3 (.slice a l.length c) rfl (by kernel_rfl) (by kernel_rfl) (by kernel_rfl) (fun _ _ _ h => h) rfl BX.out (fun W' _ => rfl) ?_
      refine held_one 4 rfl (by kernel_rfl) rfl (fun K hK => ?_)
      go_wp2_with fail
      refine (clone_any _ _ _ (HV.out.upd0 UX.out.drew) hl).mono ?_
      rintro r w4 ⟨v4, rfl, b4, u4⟩
      obtain ⟨a4, k4, rfl, hk4⟩ := b4.slice
      have B4 := Lib.hid (u4.blk0 (show WX.drew.heap[w.heap.size]? = _ from BX.out))
      have U4 := Lib.hid (UX.out.drew.then0 u4)
      have hb4 := U4.out.blk0 HB.out
      have d5 : w4.cell? ⟨p, 5, none⟩ = some (.int .i64 s.e1) := blk_cell hb4 5
      have d6 : w4.cell? ⟨p, 6, none⟩ = some (.int .i64 s.e2) := blk_cell hb4 6
      have d7 : w4.cell? ⟨p, 7, none⟩ = some (.slice af s.found.length cf) := blk_cell hb4 7
      have f4 := blk_free hb4
      have NB := Lib.hid b4
      clear hb4 b4 u4
      refine hK _ _ B4.out ?_
      clear hK K
      refine held_one 5 rfl (by kernel_rfl) rfl (fun K hK => ?_)
      go_wp2_with fail
      refine hK _ _ B4.out ?_
      clear hK K
      refine held_one 6 rfl (by kernel_rfl) rfl (fun K hK => ?_)
      go_wp2_with fail
      refine hK _ _ B4.out ?_
      clear hK K
      refine held_one 7 rfl (by kernel_rfl) rfl (fun K hK => ?_)
      go_wp2_with fail
      refine hK _ _ (blk_far (blk_far B4.out (by simp; omega) _) (by simp; omega) _) ?_
      clear hK K
      refine held_one 8 rfl (by kernel_rfl) rfl (fun K hK => ?_)
      go_wp2_with fail
      refine hK _ _ (blk_far (blk_far B4.out (by simp; omega) _) (by simp; omega) _) ?_
      clear hK K
      refine held_one 9 rfl (by kernel_rfl) rfl (fun K hK => ?_)
      go_wp2_with fail
      refine hK _ _ (blk_far (blk_far B4.out (by simp; omega) _) (by simp; omega) _) ?_
      clear hK K
      refine held_one 10 rfl (by kernel_rfl) rfl (fun K hK => ?_)
      go_wp2_with fail
      refine hK _ _ (blk_far (blk_far (blk_far B4.out (by simp; omega) _) (by simp; omega) _) (by simp; omega) _) ?_
      clear hK K
      refine wpAnyH_done (by kernel_rfl) ?_ _
      have h5 := Lib.hid (best_close (a1 := a1) (a2 := a2) (HH.out.upd U4.out (fun _ _ h => h)) (B := WX.heap.size) (fun k hk => Nat.lt_of_lt_of_le (HF.out k hk) UX.out.size) (by simpa using NB.out))
      have u5 : Upd F w (((w4.setCell ⟨p, 5, none⟩ (.int .i64 a1)).setCell ⟨p, 6, none⟩ (.int .i64 a2)).setCell ⟨p, 7, none⟩ (.slice a4 l.length k4)) := ((((U4.out.mono (fun _ _ h => h.elim) : Upd (OneF p) w w4).set1 _ _).set1 _ _).set1 _ _).mono (fun i _ h => by simp only [OneF] at h; subst h; exact fp)
      have U5 := Lib.hid u5
      clear u5
      go_wp2_with fail
      refine (answer79 src true _ h5.out HNEW.out HFEW.out).mono ?_
      rintro r w6 ⟨rfl, hp⟩
      go_wp2_with fail
      go_end0
      exact ⟨rfl, prop2_trans U5.out (fun k hk => hk.imp id (fun h => Nat.le_trans UX.out.size h.1)) hp⟩
end Go.Proofs.Ytplhgeecnnadhaa
