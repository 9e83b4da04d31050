/- BallotLate: the plain law of what comes late. -/
import Derived.Test.YtplhgeecnnadhaaBalG
namespace Go.Proofs.Ytplhgeecnnadhaa
set_option linter.unusedVariables false
/-- one answer -/
structure AnsV where
  ph : Int
  src : Int
  ok : Bool
  b1 : Int
  b2 : Int
  v : Value
  l : List UInt8
def AnsV.e (x : AnsV) : Int := if x.ok then 0 else 7
def PS.late (s : PS) (x : AnsV) : PS := if x.ph = 1 then s.promised x.src x.b1 x.b2 x.l x.e else s.accepted x.src x.e
def PS.asked (s : PS) (k : Int) : Bool := s.opn k 1 || s.opn k 2
def AnsV.wrong (x : AnsV) (s : PS) : Bool := (decide (x.ph = 1) && !decide (s.phase = 1)) || (!decide (x.ph = 1) && !decide (s.phase = 2))
variable {s : PS} {x : AnsV}
theorem opn_phase {k ph : Int} (h : s.opn k ph = true) : s.phase = ph := by
  simp only [PS.opn, Bool.and_eq_true, decide_eq_true_eq] at h; exact h.1.1.1
theorem late_same (h : s.asked x.src = false ∨ x.wrong s = true) : s.late x = s := by
  unfold PS.late
  by_cases hp : x.ph = 1
  · rw [if_pos hp]
    have h1 : s.opn x.src 1 = false := by
      rcases h with h | h
      · simp only [PS.asked, Bool.or_eq_false_iff] at h; exact h.1
      · simp [AnsV.wrong, hp] at h
        cases ho : s.opn x.src 1 with
        | false => rfl
        | true => exact absurd (opn_phase ho) h
    unfold PS.promised
    rw [h1]; simp
  · rw [if_neg hp]
    have h1 : s.opn x.src 2 = false := by
      rcases h with h | h
      · simp only [PS.asked, Bool.or_eq_false_iff] at h; exact h.2
      · simp [AnsV.wrong, hp] at h
        cases ho : s.opn x.src 2 with
        | false => rfl
        | true => exact absurd (opn_phase ho) h
    unfold PS.accepted
    rw [h1]; simp
theorem answer_asked (s : PS) (k : Int) (ok : Bool) (h : (s.answer k ok).phase = s.phase) : (s.answer k ok).asked k = false := by
  have hc : (s.answer k ok).ans = s.ans ++ [(k, ok)] := by
    unfold PS.answer at h ⊢
    simp only at h ⊢
    split
    · rename_i h1; rw [if_pos h1] at h; simp at h; omega
    · split
      · rfl
      · split <;> rfl
  have hm : ((s.answer k ok).ans.map Prod.fst).contains k = true := by rw [hc]; simp
  simp only [PS.asked, PS.opn, hm]; simp
theorem late_asked (ha : s.asked x.src = true) (hw : x.wrong s = false) (hp : (s.late x).phase = s.phase) : (s.late x).asked x.src = false := by
  by_cases h1 : x.ph = 1
  · have h2 : s.phase = 1 := by simpa [AnsV.wrong, h1] using hw
    have ho : s.opn x.src 1 = true := by
      simp only [PS.asked, Bool.or_eq_true] at ha
      rcases ha with h | h
      · exact h
      · have := opn_phase h; omega
    have e : s.late x = (s.best x.b1 x.b2 x.l x.e).answer x.src (decide (x.e = 0)) := by
      unfold PS.late PS.promised; rw [if_pos h1, if_pos ho]
    rw [e] at hp ⊢
    apply answer_asked
    rw [hp]
    unfold PS.best
    split <;> rfl
  · have h2 : s.phase = 2 := by simpa [AnsV.wrong, h1] using hw
    have ho : s.opn x.src 2 = true := by
      simp only [PS.asked, Bool.or_eq_true] at ha
      rcases ha with h | h
      · have := opn_phase h; omega
      · exact h
    have e : s.late x = s.answer x.src (decide (x.e = 0)) := by
      unfold PS.late PS.accepted; rw [if_neg h1, if_pos ho]
    rw [e] at hp ⊢
    exact answer_asked _ _ _ hp
/-- sizes -/
structure LateInv (n : Int) (k : Nat) (s : PS) : Prop where
  acc : s.acc = n
  few : s.ans.length ≤ k
  val : s.val.length ≤ 140737488355328
  found : s.found.length ≤ 140737488355328
theorem answer_inv {n : Int} {k : Nat} (h : LateInv n k s) (src : Int) (ok : Bool) : LateInv n (k + 1) (s.answer src ok) := by
  obtain ⟨h1, h2, h3, h4⟩ := h
  unfold PS.answer
  simp only
  split
  · exact ⟨h1, by simp, by simp only; split <;> assumption, h4⟩
  split
  · exact ⟨h1, by simpa using h2, h3, h4⟩
  split
  · exact ⟨h1, by simpa using h2, h3, h4⟩
  · exact ⟨h1, by simpa using h2, h3, h4⟩
theorem late_inv {n : Int} {k : Nat} (h : LateInv n k s) (hx : x.l.length ≤ 140737488355328) : LateInv n (k + 1) (s.late x) := by
  have h0 : LateInv n (k + 1) s := ⟨h.1, Nat.le_succ_of_le h.2, h.3, h.4⟩
  unfold PS.late
  split
  · unfold PS.promised
    split
    · apply answer_inv
      unfold PS.best
      split
      · exact ⟨h.1, h.2, h.3, hx⟩
      · exact h
    · exact h0
  · unfold PS.accepted
    split
    · exact answer_inv h _ _
    · exact h0
/-- from nobody -/
theorem late_nobody (s : PS) (a1 a2 : Int) (l : List UInt8) : s.promised s.acc a1 a2 l 0 = s ∧ s.promised (-1) a1 a2 l 0 = s ∧ s.accepted s.acc 0 = s := by
  refine ⟨?_, ?_, ?_⟩
  · unfold PS.promised; rw [if_neg (by simp [PS.opn])]
  · unfold PS.promised; rw [if_neg (by simp [PS.opn])]
  · unfold PS.accepted; rw [if_neg (by simp [PS.opn])]
end Go.Proofs.Ytplhgeecnnadhaa
