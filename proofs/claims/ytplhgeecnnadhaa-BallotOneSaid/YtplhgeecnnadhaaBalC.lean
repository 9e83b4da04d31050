/- The proposer: Start, Promised, Accepted, Ballot. -/
import Derived.Test.YtplhgeecnnadhaaBalB
namespace Go.Proofs.Ytplhgeecnnadhaa
open Go.RowKit
variable {F G : Nat → Prop} {w w1 : World} {p : Nat} {s : PS}
section
variable {P : Program} {ops : Array Oper} {Q : Exit → Act → World → Prop} {md : Region.Mode} {S : World → Prop}
theorem held_two (i j : Nat) {oi oj : Oper} {fuel : Nat} {listed : Array Bool} {a : Act} {w : World} (hi : ops[i]? = some oi) (hj : ops[j]? = some oj) (hr : Region.ready md ops listed = [i, j]) (hwi : Region.wanted oi (yielded ops a.tmps) = true) (hwj : Region.wanted oj (yielded ops a.tmps) = true)
    (h1 : ∀ K : Act → World → Prop, (∀ a' w', S w' → wpAnyH P md ops Q S fuel (listed.setIfInBounds i true) a' w' → K a' w') → oi.wp P a w K Q)
    (h2 : ∀ K : Act → World → Prop, (∀ a' w', S w' → wpAnyH P md ops Q S fuel (listed.setIfInBounds j true) a' w' → K a' w') → oj.wp P a w K Q) : wpAnyH P md ops Q S (fuel + 1) listed a w :=
  wpAnyH_all hr (by simp) (fun k hk => by
    have : k = i ∨ k = j := by simpa using hk
    unfold wpOp
    rcases this with rfl | rfl
    · simp only [hi, hwi, if_true]
      exact .inl (h1 _ (fun _ _ hs hk => ⟨hs, hk⟩))
    · simp only [hj, hwj, if_true]
      exact .inl (h2 _ (fun _ _ hs hk => ⟨hs, hk⟩)))
end
def lessB (a1 a2 b1 b2 : Int) : Bool := decide (a1 < b1) || (decide (a1 = b1) && decide (a2 < b2))
set_option maxHeartbeats 400000 in
theorem less_any (a1 a2 b1 b2 : Int) (w : World) : Calls Try.prog 78 #[.agg #[.int .i64 a1, .int .i64 a2], .agg #[.int .i64 b1, .int .i64 b2]] w (fun r w' => r = .returned (.bool (lessB a1 a2 b1 b2)) ∧ Upd NoF w w') := by
  by_cases h1 : a1 < b1
  · have e : lessB a1 a2 b1 b2 = true := by simp [lessB, h1]
    rw [e]; clear e
    go_enter Try.func78, Try.ntmps78
    go_wp2_with fail
    go_ret
    exact ⟨rfl, ((Upd.refl _ _).alloc _).alloc _⟩
  by_cases h2 : a1 = b1
  · subst h2
    by_cases h3 : a2 < b2
    · have e : lessB a1 a2 a1 b2 = true := by simp [lessB, h3]
      rw [e]; clear e
      go_enter Try.func78, Try.ntmps78
      go_wp2_with fail
      go_ret
      exact ⟨rfl, ((Upd.refl _ _).alloc _).alloc _⟩
    · have e : lessB a1 a2 a1 b2 = false := by simp [lessB, h3]
      rw [e]; clear e
      go_enter Try.func78, Try.ntmps78
      go_wp2_with fail
      go_ret
      exact ⟨rfl, ((Upd.refl _ _).alloc _).alloc _⟩
  · have e : lessB a1 a2 b1 b2 = false := by simp [lessB, h1, h2]
    rw [e]; clear e
    have h2' : (a1 == b1) = false := by simpa using h2
    go_enter Try.func78, Try.ntmps78
    go_wp2_with fail
    go_ret
    exact ⟨rfl, ((Upd.refl _ _).alloc _).alloc _⟩
set_option maxHeartbeats 400000 in
theorem accepted_any (src e : Int) (w : World) (h : PropAt w F p s) (hfew : s.ans.length < 1000000) :
    Calls Try.prog 33 #[.pointer (some ⟨p, 0, none⟩), .int .i64 src, .int .i64 e] w (fun r w' => r = .returned (.tuple #[]) ∧ Prop2 F p (if s.opn src 2 then s.answer src (decide (e = 0)) else s) w w') := by
  have o1 := Lib.hid (open_any src 2 w h)
  by_cases ho : s.opn src 2 = true
  · rw [if_pos ho]
    rw [ho] at o1
    have hnew : (s.ans.map Prod.fst).contains src = false := by
      simp only [PS.opn, Bool.and_eq_true, Bool.not_eq_true'] at ho; exact ho.2
    have ha := Lib.hid (answer79 src (decide (e = 0)) w h hnew hfew)
    have he : (e == 0) = decide (e = 0) := by rw [Bool.eq_iff_iff]; simp
    generalize s.answer src (decide (e = 0)) = s' at ha ⊢
    clear ho hnew h hfew
    go_enter Try.func33, Try.ntmps33
    go_wp2_with fail
    refine o1.out.mono ?_
    rintro r w1 ⟨rfl, rfl⟩
    go_wp2_with fail
    refine ha.out.mono ?_
    rintro r w1 ⟨rfl, hp⟩
    go_wp2_with fail
    go_end0
    exact ⟨rfl, hp⟩
  · rw [if_neg ho]
    have ho' : s.opn src 2 = false := by simpa using ho
    rw [ho'] at o1
    have hp : Prop2 F p s w w := ⟨F, h, Upd.refl _ _, fun k hk => .inl hk⟩
    have HP := Lib.hid hp
    clear hp ho ho' h hfew
    go_enter Try.func33, Try.ntmps33
    go_wp2_with fail
    refine o1.out.mono ?_
    rintro r w1 ⟨rfl, rfl⟩
    go_wp2_with fail
    go_end0
    exact ⟨rfl, HP.out⟩
end Go.Proofs.Ytplhgeecnnadhaa
