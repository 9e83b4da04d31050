/- The proposer: Promised. -/
import Derived.Test.YtplhgeecnnadhaaBalD
namespace Go.Proofs.Ytplhgeecnnadhaa
open Go.RowKit
variable {F G : Nat → Prop} {w w1 : World} {p : Nat} {s : PS}
theorem prop2_trans {F1 : Nat → Prop} {s' : PS} {W1 W2 : World} (u : Upd F w W1) (hF : ∀ k, F1 k → F k ∨ w.heap.size ≤ k) (h : Prop2 F1 p s' W1 W2) : Prop2 F p s' w W2 := by
  obtain ⟨F2, hp, hu, hf⟩ := h
  refine ⟨F2, hp, u.trans hu (fun i hi h => ?_), fun k hk => ?_⟩
  · rcases hF i h with h | h
    · exact h
    · omega
  · rcases hf k hk with h | h
    · exact hF k h
    · have := u.size; exact .inr (by omega)
/-- what a promise leaves in the proposer, ahead of its being counted -/
def PS.best (s : PS) (a1 a2 : Int) (l : List UInt8) (e : Int) : PS :=
  if e = 0 ∧ ¬ (a1 = 0 ∧ a2 = 0) ∧ ((s.e1 = 0 ∧ s.e2 = 0) ∨ lessB s.e1 s.e2 a1 a2 = true) then { s with e1 := a1, e2 := a2, found := l } else s
def PS.promised (s : PS) (src a1 a2 : Int) (l : List UInt8) (e : Int) : PS := if s.opn src 1 then (s.best a1 a2 l e).answer src (decide (e = 0)) else s
set_option maxRecDepth 100000 in
set_option maxHeartbeats 1000000 in
theorem promised_0 (src a1 a2 e : Int) (a : Option Addr) (n c : Nat) (w : World) (h : PropAt w F p s) (ho : s.opn src 1 = false) :
    Calls Try.prog 32 #[.pointer (some ⟨p, 0, none⟩), .int .i64 src, .agg #[.int .i64 a1, .int .i64 a2], .slice a n c, .int .i64 e] w (fun r w' => r = .returned (.tuple #[]) ∧ Prop2 F p s w w') := by
  have uW := (Upd.refl NoF w).alloc (.cells #[.int .i64 a1, .int .i64 a2] 40)
  have hW := h.upd uW (fun _ _ h => h)
  have o1 := open_any src 1 _ hW
  rw [ho] at o1
  have O1 := Lib.hid o1
  have hp : Prop2 F p s w (w.alloc (.cells #[.int .i64 a1, .int .i64 a2] 40)) := ⟨F, hW, uW.mono (fun _ _ h => h.elim), fun k hk => .inl hk⟩
  have HP := Lib.hid hp
  clear o1 hp hW uW h ho
  go_enter Try.func32, Try.ntmps32
  go_wp2_with fail
  refine O1.out.mono ?_
  rintro r w1 ⟨rfl, rfl⟩
  go_wp2_with fail
  refine bodyPost_ret (results_none rfl _ _ _) rfl ?_
  exact ⟨rfl, HP.out⟩
set_option maxRecDepth 100000 in
set_option maxHeartbeats 1000000 in
/-- nothing is found anew -/
theorem promised_1 (src a1 a2 e : Int) (a : Option Addr) (n c : Nat) (w : World) (h : PropAt w F p s) (ho : s.opn src 1 = true) (hfew : s.ans.length < 1000000)
    (hno : ¬ (e = 0 ∧ ¬ (a1 = 0 ∧ a2 = 0) ∧ ((s.e1 = 0 ∧ s.e2 = 0) ∨ lessB s.e1 s.e2 a1 a2 = true))) :
    Calls Try.prog 32 #[.pointer (some ⟨p, 0, none⟩), .int .i64 src, .agg #[.int .i64 a1, .int .i64 a2], .slice a n c, .int .i64 e] w (fun r w' => r = .returned (.tuple #[]) ∧ Prop2 F p (s.answer src (decide (e = 0))) w w') := by
  have uW := (Upd.refl NoF w).alloc (.cells #[.int .i64 a1, .int .i64 a2] 40)
  have hW := h.upd uW (fun _ _ h => h)
  have o1 := open_any src 1 _ hW
  have hnew : (s.ans.map Prod.fst).contains src = false := by
    simp only [PS.opn, Bool.and_eq_true, Bool.not_eq_true'] at ho; exact ho.2
  rw [ho] at o1
  have ha : ∀ W1, Upd NoF w W1 → Calls Try.prog 79 #[.pointer (some ⟨p, 0, none⟩), .int .i64 src, .bool (decide (e = 0))] W1 (fun r w' => r = .returned (.tuple #[]) ∧ Prop2 F p (s.answer src (decide (e = 0))) w w') :=
    fun W1 u1 => (answer79 src (decide (e = 0)) W1 (h.upd u1 (fun _ _ h => h)) hnew hfew).mono (fun r w' ⟨h1, h2⟩ => ⟨h1, prop2_trans (u1.mono (fun _ _ h => h.elim)) (fun k hk => .inl hk) h2⟩)
  obtain ⟨hacc, hbig, _, hF, vv, vf, m, hb, hv, hf, hm, fp, fm, hpm⟩ := h
  have hb' := uW.blk0 hb
  have c5 : (w.alloc (.cells #[.int .i64 a1, .int .i64 a2] 40)).cell? ⟨p, 5, none⟩ = some (.int .i64 s.e1) := blk_cell hb' 5
  have c6 : (w.alloc (.cells #[.int .i64 a1, .int .i64 a2] 40)).cell? ⟨p, 6, none⟩ = some (.int .i64 s.e2) := blk_cell hb' 6
  have k0 : (w.alloc (.cells #[.int .i64 a1, .int .i64 a2] 40)).cell? ⟨w.heap.size, 0, none⟩ = some (.int .i64 a1) := cell_new (by rfl)
  have k1 : (w.alloc (.cells #[.int .i64 a1, .int .i64 a2] 40)).cell? ⟨w.heap.size, 1, none⟩ = some (.int .i64 a2) := cell_new (by rfl)
  have he : (e == 0) = decide (e = 0) := by rw [Bool.eq_iff_iff]; simp
  have HA := Lib.hid ha
  have O1 := Lib.hid o1
  have UW := Lib.hid uW
  have hpl := blk_lt hb
  generalize s.answer src (decide (e = 0)) = s' at HA ⊢
  generalize s.e1 = e1 at *
  generalize s.e2 = e2 at *
  clear ha o1 uW hb hb' hv hf hm hW hF hnew ho hfew
  by_cases g1 : e = 0
  case neg =>
    have g1' : (e == 0) = false := by simpa using g1
    rw [g1'] at he
    have HE := Lib.hid he
    clear hno he g1
    go_enter Try.func32, Try.ntmps32
    go_wp2_with fail
    refine O1.out.mono ?_
    rintro r w1 ⟨rfl, rfl⟩
    go_wp2_with fail
    go_quiet (fail)
    go_wp2_with fail
    rw [HE.out]
    refine (HA.out _ (UW.out.drewN _)).mono ?_
    rintro r w2 ⟨rfl, hp⟩
    go_wp2_with fail
    go_end0
    exact ⟨rfl, hp⟩
  case pos =>
  subst g1
  have HE := Lib.hid (show true = decide ((0 : Int) = 0) by simp)
  clear he
  by_cases g2 : a1 = 0 ∧ a2 = 0
  case pos =>
    obtain ⟨rfl, rfl⟩ := g2
    clear hno
    go_enter Try.func32, Try.ntmps32
    go_wp2_with fail
    refine O1.out.mono ?_
    rintro r w1 ⟨rfl, rfl⟩
    go_wp2_with fail
    go_quiet (fail)
    go_wp2_with fail
    rw [HE.out]
    refine (HA.out _ (UW.out.drewN _)).mono ?_
    rintro r w2 ⟨rfl, hp⟩
    go_wp2_with fail
    go_end0
    exact ⟨rfl, hp⟩
  case neg =>
  have g3 : ¬ (e1 = 0 ∧ e2 = 0) := fun h => hno ⟨rfl, g2, .inl h⟩
  have g4 : lessB e1 e2 a1 a2 = false := by
    cases h : lessB e1 e2 a1 a2 with
    | false => rfl
    | true => exact absurd ⟨rfl, g2, .inr h⟩ hno
  have hl := less_any e1 e2 a1 a2
  rw [g4] at hl
  have HL := Lib.hid hl
  have n1 : (a1 == 0) = false ∨ ((a1 == 0) = true ∧ (a2 == 0) = false) := by
    by_cases h : a1 = 0
    · exact .inr ⟨by simpa using h, by simpa using fun h' => g2 ⟨h, h'⟩⟩
    · exact .inl (by simpa using h)
  have n2 : (e1 == 0) = false ∨ ((e1 == 0) = true ∧ (e2 == 0) = false) := by
    by_cases h : e1 = 0
    · exact .inr ⟨by simpa using h, by simpa using fun h' => g3 ⟨h, h'⟩⟩
    · exact .inl (by simpa using h)
  clear hl hno g2 g3 g4
  rcases n1 with n1 | ⟨n1, n1'⟩ <;> rcases n2 with n2 | ⟨n2, n2'⟩
  all_goals
    go_enter Try.func32, Try.ntmps32
    go_wp2_with fail
    refine O1.out.mono ?_
    rintro r w1 ⟨rfl, rfl⟩
    go_wp2_with fail

    go_region_held3 (fun w' => w'.cell? ⟨p, 5, none⟩ = some (.int .i64 e1) ∧ w'.cell? ⟨p, 6, none⟩ = some (.int .i64 e2) ∧ w'.cell? ⟨w.heap.size, 0, none⟩ = some (.int .i64 a1) ∧ w'.cell? ⟨w.heap.size, 1, none⟩ = some (.int .i64 a2)) (first | go_keep | (exact ⟨u1.cell0 c5, u1.cell0 c6, u1.cell0 k0, u1.cell0 k1⟩)) ((go_at_call 78; refine (HL.out _).mono ?_; rintro r w1 ⟨rfl, u1⟩))
    go_wp2_with fail
    rw [HE.out]
    refine (HA.out _ (UW.out.drew.then0 u1)).mono ?_
    rintro r w2 ⟨rfl, hp⟩
    go_wp2_with fail
    go_end0
    exact ⟨rfl, hp⟩
end Go.Proofs.Ytplhgeecnnadhaa
