/- BallotMany: the plain law of a proposer that nobody refuses. -/
import Derived.Test.YtplhgeecnnadhaaBalG
namespace Go.Proofs.Ytplhgeecnnadhaa
set_option linter.unusedVariables false
/-- all that answered said yes -/
structure ManyInv (n : Int) (b : List UInt8) (s : PS) : Prop where
  acc : s.acc = n
  val : s.val = b
  e1 : s.e1 = 0
  e2 : s.e2 = 0
  yes : ∀ x ∈ s.ans, x.2 = true
  few : (s.ans.length : Int) ≤ n / 2 + 1
  ph : s.phase = 1 ∨ s.phase = 2 ∨ s.phase = 3
  most : s.phase ≠ 3 → (s.ans.length : Int) ≤ n / 2
theorem yesOf_all {ans : List (Int × Bool)} (h : ∀ x ∈ ans, x.2 = true) : yesOf ans = ans.length := by
  unfold yesOf
  rw [List.filter_eq_self.2 (fun x hx => h x hx)]
theorem kvPut_same {ans : List (Int × Bool)} (h : ∀ x ∈ ans, x.2 = true) {a : Int} (hc : (ans.map Prod.fst).contains a = true) : kvPut (ans.map (fun p => (p.1, Go.Value.bool p.2))) a (.bool true) = ans.map (fun p => (p.1, Go.Value.bool p.2)) := by
  unfold kvPut
  rw [show (List.map Prod.fst (List.map (fun p : Int × Bool => (p.1, Go.Value.bool p.2)) ans)) = ans.map Prod.fst by rw [List.map_map]; rfl, if_pos hc, List.map_map]
  apply List.map_congr_left
  intro x hx
  have := h x hx
  simp only [Function.comp]
  split
  · rename_i e; rw [← e, this]
  · rfl
theorem kvPut_fresh {ans : List (Int × Bool)} {a : Int} (hc : (ans.map Prod.fst).contains a = false) : kvPut (ans.map (fun p => (p.1, Go.Value.bool p.2))) a (.bool true) = (ans ++ [(a, true)]).map (fun p => (p.1, Go.Value.bool p.2)) := by
  unfold kvPut
  rw [show (List.map Prod.fst (List.map (fun p : Int × Bool => (p.1, Go.Value.bool p.2)) ans)) = ans.map Prod.fst by rw [List.map_map]; rfl, hc, if_neg (by simp)]
  simp
def many1 (s : PS) (a : Int) : PS := s.promised a 0 0 [] 0
def many2 (s : PS) (a : Int) : PS := (many1 s a).accepted a 0
def manyL (s : PS) (a : Int) : Nat := (kvPut s.kv a (.bool true)).length
variable {n a : Int} {b : List UInt8} {s : PS}
theorem many_same (h : ManyInv n b s) (hc : (s.ans.map Prod.fst).contains a = true) (hp : s.phase ≠ 3) :
    many1 s a = s ∧ many2 s a = s ∧ kvPut s.kv a (.bool true) = s.kv ∧ (manyL s a : Int) ≤ n / 2 := by
  have h1 : s.opn a 1 = false := by simp only [PS.opn, hc]; simp
  have h2 : s.opn a 2 = false := by simp only [PS.opn, hc]; simp
  have e1 : many1 s a = s := by unfold many1 PS.promised; rw [h1]; simp
  have e2 : many2 s a = s := by unfold many2; rw [e1]; unfold PS.accepted; rw [h2]; simp
  have e3 : kvPut s.kv a (.bool true) = s.kv := kvPut_same h.yes hc
  exact ⟨e1, e2, e3, by unfold manyL; rw [e3]; simpa [PS.kv] using h.most hp⟩
theorem answer_all (h : ManyInv n b s) (hn : 1 ≤ n) :
    s.answer a true = if (s.ans.length : Int) + 1 ≥ n / 2 + 1 ∧ s.phase = 1 then { s with phase := 2, ans := [], val := s.val }
      else if (s.ans.length : Int) + 1 ≥ n / 2 + 1 then { s with phase := 3, ans := s.ans ++ [(a, true)] }
      else { s with ans := s.ans ++ [(a, true)] } := by
  have hy : yesOf (s.ans ++ [(a, true)]) = s.ans.length + 1 := by
    rw [yesOf_all]
    · simp
    · intro x hx
      rcases List.mem_append.1 hx with hx | hx
      · exact h.yes x hx
      · simp at hx; rw [hx]
  unfold PS.answer
  simp only [hy, h.e1, h.e2, h.acc, List.length_append, List.length_singleton, Int.natCast_add, Int.natCast_one, and_self, if_true]
  split
  · rfl
  split
  · rfl
  rw [if_neg (by push_cast; omega)]
theorem many_new1 (h : ManyInv n b s) (hn : 1 ≤ n) (ha : 0 ≤ a) (han : a < n) (hc : (s.ans.map Prod.fst).contains a = false) (hp : s.phase = 1) : many1 s a = s.answer a true := by
  have h1 : s.opn a 1 = true := by simp only [PS.opn, hc, hp, h.acc]; simp [ha, han]
  unfold many1 PS.promised
  rw [if_pos h1]
  simp [PS.best]
theorem many_few (h : ManyInv n b s) (hn : 1 ≤ n) (ha : 0 ≤ a) (han : a < n) (hc : (s.ans.map Prod.fst).contains a = false) (hp : s.phase = 1 ∨ s.phase = 2) (hL : (s.ans.length : Int) + 1 ≤ n / 2) :
    many2 s a = { s with ans := s.ans ++ [(a, true)] } ∧ (many1 s a = s ∨ many1 s a = { s with ans := s.ans ++ [(a, true)] }) := by
  rcases hp with hp | hp
  · have e1 : many1 s a = { s with ans := s.ans ++ [(a, true)] } := by
      rw [many_new1 h hn ha han hc hp, answer_all h hn, if_neg (by omega), if_neg (by omega)]
    refine ⟨?_, .inr e1⟩
    unfold many2
    rw [e1]
    unfold PS.accepted
    rw [if_neg (by simp [PS.opn, hp])]
  · have e1 : many1 s a = s := by unfold many1 PS.promised; rw [if_neg (by simp [PS.opn, hp])]
    refine ⟨?_, .inl e1⟩
    unfold many2
    rw [e1]
    unfold PS.accepted
    rw [if_pos (by simp only [PS.opn, hc, hp, h.acc]; simp [ha, han])]
    simp only [decide_true]
    rw [answer_all h hn, if_neg (by omega), if_neg (by omega)]
theorem many_last (h : ManyInv n b s) (hn : 1 ≤ n) (ha : 0 ≤ a) (han : a < n) (hc : (s.ans.map Prod.fst).contains a = false) (hp : s.phase = 2) (hL : n / 2 < (s.ans.length : Int) + 1) :
    many2 s a = { s with phase := 3, ans := s.ans ++ [(a, true)] } ∧ many1 s a = s := by
  have e1 : many1 s a = s := by unfold many1 PS.promised; rw [if_neg (by simp [PS.opn, hp])]
  refine ⟨?_, e1⟩
  unfold many2
  rw [e1]
  unfold PS.accepted
  rw [if_pos (by simp only [PS.opn, hc, hp, h.acc]; simp [ha, han])]
  simp only [decide_true]
  rw [answer_all h hn, if_neg (by omega), if_pos (by omega)]
theorem many_turn (h : ManyInv n b s) (hn : 1 ≤ n) (ha : 0 ≤ a) (han : a < n) (hc : (s.ans.map Prod.fst).contains a = false) (hp : s.phase = 1) (hL : n / 2 < (s.ans.length : Int) + 1) :
    many2 s a = { s with phase := if n = 1 then 3 else 2, ans := [(a, true)] } ∧ many1 s a = { s with phase := 2, ans := [] } := by
  have e1 : many1 s a = { s with phase := 2, ans := [] } := by
    rw [many_new1 h hn ha han hc hp, answer_all h hn, if_pos ⟨by omega, hp⟩]
  refine ⟨?_, e1⟩
  have h1 : ManyInv n b { s with phase := 2, ans := [] } := ⟨h.acc, h.val, h.e1, h.e2, by simp, by simp; omega, by simp, by simp; omega⟩
  unfold many2
  rw [e1]
  unfold PS.accepted
  rw [if_pos (by simp [PS.opn, h.acc, ha, han])]
  simp only [decide_true]
  rw [answer_all h1 hn]
  simp only [List.length_nil, List.nil_append, Int.natCast_zero]
  by_cases e : n = 1
  · subst e; simp
  · rw [if_neg (by omega), if_neg (by omega), if_neg e]
/-- one round -/
theorem many_step (h : ManyInv n b s) (hn : 1 ≤ n) (hn8 : n ≤ 8) (ha : 0 ≤ a) (han : a < n) (hp : s.phase = 1 ∨ s.phase = 2) :
    ManyInv n b (many2 s a) ∧ s.ans.length < 1000000 ∧ (many1 s a).ans.length < 1000000 ∧
    (((manyL s a : Int) ≤ n / 2 ∧ (many2 s a).phase = s.phase ∧ (many2 s a).kv = kvPut s.kv a (.bool true)) ∨
     (n / 2 < (manyL s a : Int) ∧ s.phase = 1 ∧ 1 < n ∧ (many2 s a).phase = 2 ∧ (many2 s a).kv = [(a, .bool true)]) ∨
     (n / 2 < (manyL s a : Int) ∧ s.phase = 1 ∧ n = 1 ∧ (many2 s a).phase = 3) ∨
     (n / 2 < (manyL s a : Int) ∧ s.phase = 2 ∧ (many2 s a).phase = 3)) := by
  have hf := h.few
  have hm := h.most (by omega)
  cases hc : (s.ans.map Prod.fst).contains a with
  | true =>
    obtain ⟨e1, e2, e3, e4⟩ := many_same h hc (by omega)
    rw [e1, e2, e3]
    exact ⟨h, by omega, by omega, .inl ⟨e4, rfl, rfl⟩⟩
  | false =>
    have ek : kvPut s.kv a (.bool true) = (s.ans ++ [(a, true)]).map (fun p => (p.1, Go.Value.bool p.2)) := kvPut_fresh hc
    have eL : (manyL s a : Int) = (s.ans.length : Int) + 1 := by unfold manyL; rw [ek]; simp
    have hy : ∀ x ∈ s.ans ++ [(a, true)], x.2 = true := by
      intro x hx
      rcases List.mem_append.1 hx with hx | hx
      · exact h.yes x hx
      · simp at hx; rw [hx]
    rw [eL]
    by_cases hL : (s.ans.length : Int) + 1 ≤ n / 2
    · obtain ⟨e2, e1⟩ := many_few h hn ha han hc hp hL
      rw [e2]
      refine ⟨⟨h.acc, h.val, h.e1, h.e2, hy, by simp; omega, h.ph, fun _ => by simp; omega⟩, by omega, by rcases e1 with e | e <;> rw [e] <;> (try simp) <;> omega, .inl ⟨hL, rfl, ?_⟩⟩
      rw [ek]; rfl
    · rcases hp with hp | hp
      · obtain ⟨e2, e1⟩ := many_turn h hn ha han hc hp (by omega)
        rw [e1, e2]
        by_cases e : n = 1
        · subst e
          refine ⟨⟨h.acc, h.val, h.e1, h.e2, by simp, by simp, by simp, by simp⟩, by omega, by simp, .inr (.inr (.inl ⟨by omega, hp, rfl, by simp⟩))⟩
        · refine ⟨⟨h.acc, h.val, h.e1, h.e2, by simp, by simp; omega, by simp [e], fun _ => by simp; omega⟩, by omega, by simp, .inr (.inl ⟨by omega, hp, by omega, by simp [e], rfl⟩)⟩
      · obtain ⟨e2, e1⟩ := many_last h hn ha han hc hp (by omega)
        rw [e1, e2]
        exact ⟨⟨h.acc, h.val, h.e1, h.e2, hy, by simp; omega, by simp, by simp⟩, by omega, by omega, .inr (.inr (.inr ⟨by omega, hp, rfl⟩))⟩
end Go.Proofs.Ytplhgeecnnadhaa
