/- BallotOne, plainly: acceptors and proposers, and what holds of them whatever is asked. -/
import Derived.Test.YtplhgeecnnadhaaUnitO
import Derived.Test.YtplhgeecnnadhaaBalG
namespace Go.Proofs.Ytplhgeecnnadhaa
open Go.RowKit
/-- the ballot of the proposer at a place -/
def bal (j : Nat) : Bl := ⟨1 + ((j / 2 : Nat) : Int), j⟩
theorem bal_lt (i j : Nat) : (bal i).lt (bal j) = decide (i < j) := by
  unfold bal Bl.lt
  rw [Bool.eq_iff_iff]
  simp
  omega
theorem bal_inj {i j : Nat} (h : bal i = bal j) : i = j := by unfold bal at h; simp at h; omega
theorem bal_pos (i : Nat) : ¬ bal i = ⟨0, 0⟩ := by unfold bal; simp; omega
theorem bal_lt0 (i : Nat) : (bal i).lt ⟨0, 0⟩ = false := by unfold bal Bl.lt; simp; omega
theorem bal_lessB (i j : Nat) : lessB (bal i).r (bal i).w (bal j).r (bal j).w = decide (i < j) := by rw [← bal_lt]; rfl
/-- at least the ballot j was promised -/
def geB (b : Bl) (j : Nat) : Prop := ∃ i, b = bal i ∧ j ≤ i
def accPr (A : Acc) (b : Bl) : Acc × (Bl × List UInt8 × Int) := if b.lt A.pr = true then (A, ⟨0, 0⟩, [], 7) else ({ A with pr := b }, A.ac, A.val, 0)
def accAc (A : Acc) (b : Bl) (v : List UInt8) : Acc × Int := if b.lt A.pr = true then (A, 7) else (⟨b, b, v⟩, 0)
def fset {α : Type} (f : Nat → α) (k : Nat) (x : α) : Nat → α := fun i => if i = k then x else f i
theorem fset_same {α : Type} (f : Nat → α) (k : Nat) (x : α) : fset f k x k = x := by simp [fset]
theorem fset_ne {α : Type} (f : Nat → α) {k i : Nat} (x : α) (h : i ≠ k) : fset f k x i = f i := by simp [fset, h]
/-- most of n -/
def Most (n : Nat) (M : List Nat) : Prop := M.Nodup ∧ (∀ a ∈ M, a < n) ∧ n < 2 * M.length
theorem nodup_len : ∀ (n : Nat) (l : List Nat), l.Nodup → (∀ a ∈ l, a < n) → l.length ≤ n
  | 0, l, _, h => by
    cases l with
    | nil => simp
    | cons a l => exact absurd (h a (by simp)) (by omega)
  | n + 1, l, hn, h => by
    by_cases hm : n ∈ l
    · have h1 := nodup_len n (l.erase n) (hn.erase n) (fun a ha => by
        obtain ⟨h1, h2⟩ := (hn.mem_erase_iff).1 ha
        have := h a h2; omega)
      rw [List.length_erase_of_mem hm] at h1
      have := List.length_pos_of_mem hm
      omega
    · have := nodup_len n l hn (fun a ha => by
        have h1 := h a ha
        have : a ≠ n := fun e => hm (e ▸ ha)
        omega)
      omega
theorem most_meet {n : Nat} {M Q : List Nat} (h1 : Most n M) (h2 : Most n Q) : ∃ a, a ∈ M ∧ a ∈ Q := by
  by_cases h : ∃ a, a ∈ M ∧ a ∈ Q
  · exact h
  · exfalso
    have hd : (M ++ Q).Nodup := List.nodup_append.2 ⟨h1.1, h2.1, fun a ha b hb e => h ⟨a, ha, e ▸ hb⟩⟩
    have hs : (M ++ Q).length ≤ n := nodup_len n _ hd (fun a ha => by
      rcases List.mem_append.1 ha with h | h
      · exact h1.2.1 a h
      · exact h2.2.1 a h)
    have e1 := h1.2.2
    have e2 := h2.2.2
    rw [List.length_append] at hs
    omega
/-- those that said yes -/
def yesSet (l : List (Int × Bool)) : List Nat := (l.filter (fun x => x.2)).map (fun x => x.1.toNat)
structure PInv (n N : Nat) (A : Nat → Acc) (qs : Nat → PS) (V : Nat → Nat → Prop) (pr : List UInt8 → Prop) : Prop where
  acc : ∀ j, j < N → (qs j).acc = n ∧ (qs j).b1 = (bal j).r ∧ (qs j).b2 = (bal j).w
  ans : ∀ j, j < N → ((qs j).ans.map Prod.fst).Nodup ∧ ∀ x ∈ (qs j).ans, 0 ≤ x.1 ∧ x.1 < n
  prm : ∀ a, a < n → (A a).pr = ⟨0, 0⟩ ∨ ∃ i, i < N ∧ (A a).pr = bal i
  vote : ∀ a j, V a j → a < n ∧ j < N ∧ geB (A a).pr j ∧ (qs j).phase ≠ 1
  last : ∀ a, a < n → ((A a).ac = ⟨0, 0⟩ ∧ (A a).val = [] ∧ ∀ j, ¬ V a j) ∨ ∃ i, (A a).ac = bal i ∧ V a i ∧ (∀ j, V a j → j ≤ i) ∧ (A a).val = (qs i).val
  one : ∀ j, j < N → (qs j).phase = 1 → ∀ a : Nat, ((a : Int), true) ∈ (qs j).ans → geB (A a).pr j ∧ ∀ i, i < j → V a i → ∃ m, ((qs j).e1 = (bal m).r ∧ (qs j).e2 = (bal m).w) ∧ i ≤ m
  best : ∀ j, j < N → (qs j).phase = 1 → ((qs j).e1 = 0 ∧ (qs j).e2 = 0) ∨ ∃ m, m < j ∧ ((qs j).e1 = (bal m).r ∧ (qs j).e2 = (bal m).w) ∧ (qs j).found = (qs m).val ∧ ∃ a, V a m
  st : ∀ j, j < N → ((qs j).phase = 2 ∨ (qs j).phase = 3 ∨ ∃ a, V a j) → ∃ M, Most n M ∧ (∀ a ∈ M, geB (A a).pr j) ∧
    ((∀ a ∈ M, ∀ i, i < j → ¬ V a i) ∨ ∃ m, m < j ∧ (∃ a, V a m) ∧ (qs j).val = (qs m).val ∧ ∀ a ∈ M, ∀ i, i < j → V a i → i ≤ m)
  two : ∀ j, j < N → (qs j).phase = 2 → ∀ a : Nat, ((a : Int), true) ∈ (qs j).ans → V a j
  three : ∀ j, j < N → (qs j).phase = 3 → ∃ Q, Most n Q ∧ ∀ a ∈ Q, V a j
  val : ∀ j, j < N → pr (qs j).val
variable {n N : Nat} {A : Nat → Acc} {qs : Nat → PS} {V : Nat → Nat → Prop} {pr : List UInt8 → Prop}
/-- all that follow a value that most have voted for have it -/
theorem PInv.safe (h : PInv n N A qs V pr) {i : Nat} {Q : List Nat} (hQ : Most n Q) (hv : ∀ a ∈ Q, V a i) : ∀ j, i ≤ j → j < N → ((qs j).phase = 2 ∨ (qs j).phase = 3 ∨ ∃ a, V a j) → (qs j).val = (qs i).val := by
  intro j
  induction j using Nat.strongRecOn with
  | ind j ih =>
    intro hij hj hst
    rcases Nat.lt_or_eq_of_le hij with hlt | rfl
    · obtain ⟨M, hM, _, hM2⟩ := h.st j hj hst
      obtain ⟨a, ha, hq⟩ := most_meet hM hQ
      rcases hM2 with hM2 | ⟨m, hm, hst', hval, hmax⟩
      · exact absurd (hv a hq) (hM2 a ha i hlt)
      · have := hmax a ha i hlt (hv a hq)
        rw [hval]
        exact ih m hm this (by omega) (.inr (.inr hst'))
    · rfl
theorem PInv.agree (h : PInv n N A qs V pr) {i j : Nat} (hi : i < N) (hj : j < N) (h1 : (qs i).phase = 3) (h2 : (qs j).phase = 3) : (qs i).val = (qs j).val := by
  obtain ⟨Q1, q1, v1⟩ := h.three i hi h1
  obtain ⟨Q2, q2, v2⟩ := h.three j hj h2
  rcases Nat.le_total i j with hl | hl
  · exact (h.safe q1 v1 j hl hj (.inr (.inl h2))).symm
  · exact h.safe q2 v2 i hl hi (.inr (.inl h1))
theorem geB_mono {b b' : Bl} {j k : Nat} (h : geB b j) (hb : b' = bal k) (hl : (bal k).lt b = false) : geB b' j := by
  obtain ⟨i, rfl, hi⟩ := h
  rw [bal_lt] at hl
  exact ⟨k, hb, by simp at hl; omega⟩
/-- one more proposer -/
theorem PInv.new (h : PInv n N A qs V pr) (hn : 1 ≤ n) (l : List UInt8) (pr' : List UInt8 → Prop) (hp : ∀ x, pr x → pr' x) (hl : pr' l) : PInv n (N + 1) A (fset qs N (PS.start n (bal N).r (bal N).w l)) V pr' := by
  have hq : ∀ j, j < N → fset qs N (PS.start n (bal N).r (bal N).w l) j = qs j := fun j hj => fset_ne _ _ (by omega)
  have hN : fset qs N (PS.start n (bal N).r (bal N).w l) N = PS.start n (bal N).r (bal N).w l := fset_same _ _ _
  have hc : ∀ j, j < N + 1 → j < N ∨ j = N := fun j hj => by omega
  have hV : ∀ a j, V a j → j < N := fun a j hv => (h.vote a j hv).2.1
  refine ⟨?_, ?_, ?_, ?_, ?_, ?_, ?_, ?_, ?_, ?_, ?_⟩
  · intro j hj
    rcases hc j hj with hj | rfl
    · rw [hq j hj]; exact h.acc j hj
    · rw [hN]; refine ⟨?_, rfl, rfl⟩; simp only [PS.start]; omega
  · intro j hj
    rcases hc j hj with hj | rfl
    · rw [hq j hj]; exact h.ans j hj
    · rw [hN]; simp [PS.start]
  · intro a ha
    rcases h.prm a ha with h | ⟨i, hi, h⟩
    · exact .inl h
    · exact .inr ⟨i, by omega, h⟩
  · intro a j hv
    obtain ⟨h1, h2, h3, h4⟩ := h.vote a j hv
    exact ⟨h1, by omega, h3, by rw [hq j h2]; exact h4⟩
  · intro a ha
    rcases h.last a ha with h1 | ⟨i, h1, h2, h3, h4⟩
    · exact .inl h1
    · exact .inr ⟨i, h1, h2, h3, by rw [hq i (hV a i h2)]; exact h4⟩
  · intro j hj hph a ha
    rcases hc j hj with hj | rfl
    · rw [hq j hj] at hph ha ⊢; exact h.one j hj hph a ha
    · rw [hN] at ha; simp [PS.start] at ha
  · intro j hj hph
    rcases hc j hj with hj | rfl
    · rw [hq j hj] at hph ⊢
      rcases h.best j hj hph with h1 | ⟨m, h1, h2, h3, a, h4⟩
      · exact .inl h1
      · exact .inr ⟨m, h1, h2, by rw [hq m (hV a m h4)]; exact h3, a, h4⟩
    · rw [hN]; exact .inl ⟨rfl, rfl⟩
  · intro j hj hst
    rcases hc j hj with hj | rfl
    · rw [hq j hj] at hst
      obtain ⟨M, h1, h2, h3⟩ := h.st j hj hst
      refine ⟨M, h1, h2, ?_⟩
      rcases h3 with h3 | ⟨m, h3, ⟨a, h4⟩, h5, h6⟩
      · exact .inl h3
      · exact .inr ⟨m, h3, ⟨a, h4⟩, by rw [hq j hj, hq m (hV a m h4)]; exact h5, h6⟩
    · rw [hN] at hst
      rcases hst with h | h | ⟨a, h⟩
      · simp [PS.start] at h
      · simp [PS.start] at h
      · have := hV a _ h; omega
  · intro j hj hph a ha
    rcases hc j hj with hj | rfl
    · rw [hq j hj] at hph ha; exact h.two j hj hph a ha
    · rw [hN] at ha; simp [PS.start] at ha
  · intro j hj hph
    rcases hc j hj with hj | rfl
    · rw [hq j hj] at hph; exact h.three j hj hph
    · rw [hN] at hph; simp [PS.start] at hph
  · intro j hj
    rcases hc j hj with hj | rfl
    · rw [hq j hj]; exact hp _ (h.val j hj)
    · rw [hN]; exact hl
theorem yesSet_mem {l : List (Int × Bool)} (hr : ∀ x ∈ l, 0 ≤ x.1 ∧ x.1 < n) (a : Nat) : a ∈ yesSet l ↔ ((a : Int), true) ∈ l := by
  unfold yesSet
  simp only [List.mem_map, List.mem_filter]
  constructor
  · rintro ⟨x, ⟨h1, h2⟩, rfl⟩
    have := hr x h1
    rw [Int.toNat_of_nonneg this.1, ← h2]; exact h1
  · intro h
    exact ⟨_, ⟨h, rfl⟩, by simp⟩
theorem yesSet_most {l : List (Int × Bool)} (hd : (l.map Prod.fst).Nodup) (hr : ∀ x ∈ l, 0 ≤ x.1 ∧ x.1 < n) (hy : (n : Int) / 2 + 1 ≤ (yesOf l : Int)) : Most n (yesSet l) := by
  refine ⟨?_, fun a ha => ?_, ?_⟩
  · unfold yesSet
    rw [show (fun x : Int × Bool => x.1.toNat) = Int.toNat ∘ Prod.fst from rfl, ← List.map_map]
    have h1 : ((l.filter (fun x => x.2)).map Prod.fst).Nodup := List.Nodup.sublist (List.filter_sublist.map _) hd
    have h2 : ∀ x ∈ (l.filter (fun x => x.2)).map Prod.fst, 0 ≤ x := by
      intro x hx
      simp only [List.mem_map, List.mem_filter] at hx
      obtain ⟨y, ⟨hy, _⟩, rfl⟩ := hx
      exact (hr y hy).1
    generalize (l.filter (fun x => x.2)).map Prod.fst = q at h1 h2
    induction q with
    | nil => simp
    | cons x q ih =>
      rw [List.nodup_cons] at h1
      rw [List.map_cons, List.nodup_cons]
      refine ⟨fun hm => ?_, ih h1.2 (fun y hy => h2 y (by simp [hy]))⟩
      obtain ⟨y, hy, e⟩ := List.mem_map.1 hm
      have a1 := h2 x (by simp)
      have a2 := h2 y (by simp [hy])
      have : y = x := by omega
      exact h1.1 (this ▸ hy)
  · rw [yesSet_mem hr] at ha
    have := (hr _ ha).2
    simp only at this
    omega
  · have : (yesSet l).length = yesOf l := by unfold yesSet yesOf; simp
    omega
theorem ans_new {s : PS} {a : Nat} {ph : Int} (ho : s.opn a ph = true) (hs : s.acc = n) (h : (s.ans.map Prod.fst).Nodup ∧ ∀ x ∈ s.ans, 0 ≤ x.1 ∧ x.1 < n) (ok : Bool) :
    ((s.ans ++ [((a : Int), ok)]).map Prod.fst).Nodup ∧ ∀ x ∈ s.ans ++ [((a : Int), ok)], 0 ≤ x.1 ∧ x.1 < n := by
  simp only [PS.opn, Bool.and_eq_true, Bool.not_eq_true', decide_eq_true_eq] at ho
  obtain ⟨⟨⟨_, h1⟩, h2⟩, h3⟩ := ho
  refine ⟨?_, fun x hx => ?_⟩
  · rw [List.map_append, List.nodup_append]
    refine ⟨h.1, by simp, fun y hy z hz e => ?_⟩
    simp at hz
    subst hz
    subst e
    have : (s.ans.map Prod.fst).contains ((a : Int)) = true := by simpa using hy
    rw [h3] at this; cases this
  · rcases List.mem_append.1 hx with hx | hx
    · exact h.2 x hx
    · simp at hx; subst hx; simp only; omega
/-- a proposer that is promising takes an answer -/
theorem PInv.take1 (h : PInv n N A qs V pr) {a j : Nat} (hj : j < N) (hph : (qs j).phase = 1) (s0 : PS) (ok : Bool) (ho : (qs j).opn a 1 = true)
    (e1 : s0.acc = (qs j).acc ∧ s0.b1 = (qs j).b1 ∧ s0.b2 = (qs j).b2 ∧ s0.phase = (qs j).phase ∧ s0.val = (qs j).val ∧ s0.ans = (qs j).ans)
    (h1 : ∀ a : Nat, ((a : Int), true) ∈ (qs j).ans → ∀ i, i < j → V a i → ∃ m, (s0.e1 = (bal m).r ∧ s0.e2 = (bal m).w) ∧ i ≤ m)
    (h2 : ok = true → geB (A a).pr j ∧ ∀ i, i < j → V a i → ∃ m, (s0.e1 = (bal m).r ∧ s0.e2 = (bal m).w) ∧ i ≤ m)
    (h3 : (s0.e1 = 0 ∧ s0.e2 = 0) ∨ ∃ m, m < j ∧ (s0.e1 = (bal m).r ∧ s0.e2 = (bal m).w) ∧ s0.found = (qs m).val ∧ ∃ a, V a m) :
    PInv n N A (fset qs j (s0.answer a ok)) V pr := by
  obtain ⟨x1, x2, x3, x4, x5, x6⟩ := e1
  have hacc := h.acc j hj
  have hans := ans_new ho hacc.1 (h.ans j hj) ok
  rw [← x6] at hans
  have hnv : ∀ a, ¬ V a j := fun a hv => (h.vote a j hv).2.2.2 hph
  have hVj : ∀ a i, V a i → i ≠ j := fun a i hv e => hnv a (e ▸ hv)
  have hq : ∀ i, i ≠ j → fset qs j (s0.answer a ok) i = qs i := fun i hi => fset_ne _ _ hi
  have hN : fset qs j (s0.answer a ok) j = s0.answer a ok := fset_same _ _ _
  have hone : ∀ b : Nat, ((b : Int), true) ∈ s0.ans ++ [((a : Int), ok)] → geB (A b).pr j ∧ ∀ i, i < j → V b i → ∃ m, (s0.e1 = (bal m).r ∧ s0.e2 = (bal m).w) ∧ i ≤ m := by
    intro b hb
    rcases List.mem_append.1 hb with hb | hb
    · rw [x6] at hb; exact ⟨(h.one j hj hph b hb).1, h1 b hb⟩
    · simp at hb
      obtain ⟨hb, rfl⟩ := hb
      have : b = a := by omega
      subst this
      exact h2 rfl
  -- the three ends
  have hend : (s0.answer a ok).acc = n ∧ (s0.answer a ok).b1 = (bal j).r ∧ (s0.answer a ok).b2 = (bal j).w := by
    unfold PS.answer; simp only
    split
    · exact ⟨x1.trans hacc.1, x2.trans hacc.2.1, x3.trans hacc.2.2⟩
    · split
      · exact ⟨x1.trans hacc.1, x2.trans hacc.2.1, x3.trans hacc.2.2⟩
      · split <;> exact ⟨x1.trans hacc.1, x2.trans hacc.2.1, x3.trans hacc.2.2⟩
  have hsa : s0.acc = (n : Int) := x1.trans hacc.1
  have hp1 : s0.phase = 1 := x4.trans hph
  have hval : (s0.answer a ok).val = s0.val ∨ ((s0.answer a ok).val = s0.found ∧ ¬ (s0.e1 = 0 ∧ s0.e2 = 0)) := by
    unfold PS.answer; simp only
    split
    · simp only
      split
      · exact .inl rfl
      · rename_i h; exact .inr ⟨rfl, h⟩
    · split
      · exact .inl rfl
      · split <;> exact .inl rfl
  have hcase : ((s0.answer a ok).phase = 2 ∧ (s0.answer a ok).ans = [] ∧ (s0.answer a ok).val = (if s0.e1 = 0 ∧ s0.e2 = 0 then s0.val else s0.found) ∧ (n : Int) / 2 + 1 ≤ (yesOf (s0.ans ++ [((a : Int), ok)]) : Int)) ∨
      (((s0.answer a ok).phase = 1 ∨ (s0.answer a ok).phase = 4) ∧ (s0.answer a ok).ans = s0.ans ++ [((a : Int), ok)] ∧ (s0.answer a ok).e1 = s0.e1 ∧ (s0.answer a ok).e2 = s0.e2 ∧ (s0.answer a ok).found = s0.found) := by
    unfold PS.answer; simp only [hsa, hp1]
    by_cases hy : (yesOf (s0.ans ++ [((a : Int), ok)]) : Int) ≥ (n : Int) / 2 + 1
    · rw [if_pos ⟨hy, trivial⟩]; exact .inl ⟨rfl, rfl, rfl, hy⟩
    · rw [if_neg (fun h => hy h.1), if_neg hy]
      split
      · exact .inr ⟨.inr rfl, rfl, rfl, rfl, rfl⟩
      · exact .inr ⟨.inl rfl, rfl, rfl, rfl, rfl⟩
  refine ⟨?_, ?_, h.prm, ?_, ?_, ?_, ?_, ?_, ?_, ?_, ?_⟩
  · intro i hi
    by_cases e : i = j
    · subst e; rw [hN]; exact hend
    · rw [hq i e]; exact h.acc i hi
  · intro i hi
    by_cases e : i = j
    · subst e; rw [hN]
      rcases hcase with ⟨_, hc, _⟩ | ⟨_, hc, _⟩
      · rw [hc]; simp
      · rw [hc]; exact hans
    · rw [hq i e]; exact h.ans i hi
  · intro b i hv
    obtain ⟨k1, k2, k3, k4⟩ := h.vote b i hv
    exact ⟨k1, k2, k3, by rw [hq i (hVj b i hv)]; exact k4⟩
  · intro b hb
    rcases h.last b hb with k | ⟨i, k1, k2, k3, k4⟩
    · exact .inl k
    · exact .inr ⟨i, k1, k2, k3, by rw [hq i (hVj b i k2)]; exact k4⟩
  · intro i hi hph' b hb
    by_cases e : i = j
    · subst e
      rw [hN] at hph' hb ⊢
      rcases hcase with ⟨hc, _⟩ | ⟨_, hc, c1, c2, _⟩
      · rw [hc] at hph'; cases hph'
      · rw [hc] at hb; rw [c1, c2]; exact hone b hb
    · rw [hq i e] at hph' hb ⊢; exact h.one i hi hph' b hb
  · intro i hi hph'
    by_cases e : i = j
    · subst e
      rw [hN] at hph' ⊢
      rcases hcase with ⟨hc, _⟩ | ⟨_, hc, c1, c2, c3⟩
      · rw [hc] at hph'; cases hph'
      · rw [c1, c2, c3]
        rcases h3 with h3 | ⟨m, k1, k2, k3, b, k4⟩
        · exact .inl h3
        · exact .inr ⟨m, k1, k2, by rw [hq m (hVj b m k4)]; exact k3, b, k4⟩
    · rw [hq i e] at hph' ⊢
      rcases h.best i hi hph' with h3 | ⟨m, k1, k2, k3, b, k4⟩
      · exact .inl h3
      · exact .inr ⟨m, k1, k2, by rw [hq m (hVj b m k4)]; exact k3, b, k4⟩
  · intro i hi hst
    by_cases e : i = j
    · subst e
      rw [hN] at hst ⊢
      rcases hcase with ⟨hc, _, c3, hy⟩ | ⟨hc, _⟩
      · refine ⟨yesSet (s0.ans ++ [((a : Int), ok)]), yesSet_most hans.1 hans.2 hy, fun b hb => (hone b ((yesSet_mem hans.2 b).1 hb)).1, ?_⟩
        rcases h3 with h3 | ⟨m, k1, k2, k3, b, k4⟩
        · refine .inl (fun b hb k hk hv => ?_)
          obtain ⟨m, ⟨m1, m2⟩, _⟩ := (hone b ((yesSet_mem hans.2 b).1 hb)).2 k hk hv
          rw [m1, m2] at h3
          exact bal_pos m (by cases hb : bal m; simp [hb] at h3; simp [h3])
        · refine .inr ⟨m, k1, ⟨b, k4⟩, ?_, fun b' hb' k hk hv => ?_⟩
          · rw [hq m (hVj b m k4), c3, if_neg (fun h0 => bal_pos m (by rw [k2.1, k2.2] at h0; cases hb : bal m; simp [hb] at h0; simp [h0]))]
            exact k3
          · obtain ⟨m', ⟨m1, m2⟩, hle⟩ := (hone b' ((yesSet_mem hans.2 b').1 hb')).2 k hk hv
            have : m' = m := bal_inj (by rw [k2.1] at m1; rw [k2.2] at m2; cases hb : bal m'; cases hb2 : bal m; simp [hb, hb2] at m1 m2; simp [m1, m2])
            omega
      · exfalso
        rcases hst with h | h | ⟨b, h⟩
        · rcases hc with hc | hc <;> rw [hc] at h <;> cases h
        · rcases hc with hc | hc <;> rw [hc] at h <;> cases h
        · exact hnv b h
    · rw [hq i e] at hst ⊢
      obtain ⟨M, k1, k2, k3⟩ := h.st i hi hst
      refine ⟨M, k1, k2, ?_⟩
      rcases k3 with k3 | ⟨m, k3, ⟨b, k4⟩, k5, k6⟩
      · exact .inl k3
      · exact .inr ⟨m, k3, ⟨b, k4⟩, by rw [hq m (hVj b m k4)]; exact k5, k6⟩
  · intro i hi hph' b hb
    by_cases e : i = j
    · subst e
      rw [hN] at hph' hb
      rcases hcase with ⟨_, hc, _⟩ | ⟨hc, _⟩
      · rw [hc] at hb; cases hb
      · rcases hc with hc | hc <;> rw [hc] at hph' <;> cases hph'
    · rw [hq i e] at hph' hb; exact h.two i hi hph' b hb
  · intro i hi hph'
    by_cases e : i = j
    · subst e
      rw [hN] at hph'
      rcases hcase with ⟨hc, _⟩ | ⟨hc, _⟩
      · rw [hc] at hph'; cases hph'
      · rcases hc with hc | hc <;> rw [hc] at hph' <;> cases hph'
    · rw [hq i e] at hph'; exact h.three i hi hph'
  · intro i hi
    by_cases e : i = j
    · subst e
      rw [hN]
      rcases hval with hv | ⟨hv, hne⟩
      · rw [hv, x5]; exact h.val i hi
      · rw [hv]
        rcases h3 with h3 | ⟨m, k1, k2, k3, _⟩
        · exact absurd h3 hne
        · rw [k3]; exact h.val m (by omega)
    · rw [hq i e]; exact h.val i hi
theorem fset_id {α : Type} (f : Nat → α) (k : Nat) : fset f k (f k) = f := by funext i; unfold fset; split <;> simp_all
/-- an acceptor promises -/
theorem PInv.promise (h : PInv n N A qs V pr) (a j : Nat) (hj : j < N) : PInv n N (fset A a (accPr (A a) (bal j)).1) qs V pr := by
  unfold accPr
  cases hl : (bal j).lt (A a).pr
  case true => simp only [if_true]; rw [fset_id]; exact h
  case false =>
  simp only [Bool.false_eq_true, if_false]
  have hg : ∀ b i, geB (A b).pr i → geB (fset A a { A a with pr := bal j } b).pr i := fun b i hgb => by
    by_cases e : b = a
    · subst e; rw [fset_same]; exact geB_mono hgb rfl hl
    · rw [fset_ne _ _ e]; exact hgb
  have hs : ∀ b, (fset A a { A a with pr := bal j } b).ac = (A b).ac ∧ (fset A a { A a with pr := bal j } b).val = (A b).val := fun b => by
    by_cases e : b = a
    · subst e; rw [fset_same]; exact ⟨rfl, rfl⟩
    · rw [fset_ne _ _ e]; exact ⟨rfl, rfl⟩
  refine ⟨h.acc, h.ans, fun b hb => ?_, fun b i hv => ?_, fun b hb => ?_, fun i hi hp b hb => ?_, h.best, fun i hi hst => ?_, h.two, h.three, h.val⟩
  · by_cases e : b = a
    · subst e; rw [fset_same]; exact .inr ⟨j, hj, rfl⟩
    · rw [fset_ne _ _ e]; exact h.prm b hb
  · obtain ⟨k1, k2, k3, k4⟩ := h.vote b i hv
    exact ⟨k1, k2, hg b i k3, k4⟩
  · rw [(hs b).1, (hs b).2]; exact h.last b hb
  · obtain ⟨k1, k2⟩ := h.one i hi hp b hb
    exact ⟨hg b i k1, k2⟩
  · obtain ⟨M, k1, k2, k3⟩ := h.st i hi hst
    exact ⟨M, k1, fun b hb => hg b i (k2 b hb), k3⟩
theorem accPr_geB {A : Acc} {j : Nat} (hl : (bal j).lt A.pr = false) : geB (accPr A (bal j)).1.pr j := by
  unfold accPr; rw [hl]; exact ⟨j, rfl, Nat.le_refl _⟩
/-- and the proposer takes it -/
theorem PInv.promised (h : PInv n N A qs V pr) {a j : Nat} (ha : a < n) (hj : j < N) (hph : (qs j).phase = 1) :
    PInv n N (fset A a (accPr (A a) (bal j)).1) (fset qs j ((qs j).promised a (accPr (A a) (bal j)).2.1.r (accPr (A a) (bal j)).2.1.w (accPr (A a) (bal j)).2.2.1 (accPr (A a) (bal j)).2.2.2)) V pr := by
  have h' := h.promise a j hj
  unfold PS.promised
  cases ho : (qs j).opn a 1
  case false => simp only [Bool.false_eq_true, if_false]; rw [fset_id]; exact h'
  case true =>
  simp only [if_true]
  have hlast := h.last a ha
  have hnv : ∀ a, ¬ V a j := fun a hv => (h.vote a j hv).2.2.2 hph
  refine h'.take1 hj hph _ _ ho ?_ ?_ ?_ ?_
  · unfold PS.best; split <;> exact ⟨rfl, rfl, rfl, rfl, rfl, rfl⟩
  all_goals
    unfold accPr
    cases hl : (bal j).lt (A a).pr
  -- the old answers
  · simp only [Bool.false_eq_true, if_false]
    intro b hb i hi hv
    obtain ⟨m, ⟨m1, m2⟩, hm⟩ := (h.one j hj hph b hb).2 i hi hv
    unfold PS.best
    split
    · rename_i hc
      rcases hlast with ⟨k1, _⟩ | ⟨i0, k1, k2, k3, k4⟩
      · rw [k1] at hc; exact absurd ⟨rfl, rfl⟩ hc.2.1
      · refine ⟨i0, ⟨by rw [k1], by rw [k1]⟩, ?_⟩
        rcases hc.2.2 with h0 | h0
        · rw [m1, m2] at h0
          exact absurd (show bal m = ⟨0, 0⟩ by cases hb : bal m; simp [hb] at h0; simp [h0]) (bal_pos m)
        · rw [m1, m2, k1, bal_lessB] at h0; simp at h0; omega
    · exact ⟨m, ⟨m1, m2⟩, hm⟩
  · simp only [if_true]
    intro b hb i hi hv
    unfold PS.best
    rw [if_neg (by simp)]
    exact (h.one j hj hph b hb).2 i hi hv
  -- this one
  · simp only [Bool.false_eq_true, if_false]
    intro _
    refine ⟨by rw [fset_same]; exact ⟨j, rfl, Nat.le_refl _⟩, fun i hi hv => ?_⟩
    rcases hlast with ⟨k1, _, k3⟩ | ⟨i0, k1, k2, k3, k4⟩
    · exact absurd hv (k3 i)
    · have hii := k3 i hv
      unfold PS.best
      split
      · exact ⟨i0, ⟨by rw [k1], by rw [k1]⟩, hii⟩
      · rename_i hc
        rw [k1] at hc
        rcases h.best j hj hph with hb | ⟨m, m1, ⟨m2, m3⟩, m4⟩
        · exact absurd ⟨rfl, fun h0 => bal_pos i0 (by cases hb : bal i0; simp [hb] at h0; simp [h0]), .inl hb⟩ hc
        · refine ⟨m, ⟨m2, m3⟩, ?_⟩
          rcases Nat.lt_or_ge m i0 with hlt | hge
          · exact absurd ⟨rfl, fun h0 => bal_pos i0 (by cases hb : bal i0; simp [hb] at h0; simp [h0]), .inr (by rw [m2, m3, bal_lessB]; simpa using hlt)⟩ hc
          · omega
  · simp
  -- the best
  · simp only [Bool.false_eq_true, if_false]
    unfold PS.best
    split
    · rename_i hc
      rcases hlast with ⟨k1, _⟩ | ⟨i0, k1, k2, k3, k4⟩
      · rw [k1] at hc; exact absurd ⟨rfl, rfl⟩ hc.2.1
      · refine .inr ⟨i0, ?_, ⟨by rw [k1], by rw [k1]⟩, k4, a, k2⟩
        obtain ⟨i1, q1, q2⟩ := (h.vote a i0 k2).2.2.1
        rw [q1, bal_lt] at hl
        simp at hl
        have : i0 ≠ j := fun e => hnv a (e ▸ k2)
        omega
    · exact h.best j hj hph
  · simp only [if_true]
    unfold PS.best
    rw [if_neg (by simp)]
    exact h.best j hj hph
def addV (V : Nat → Nat → Prop) (a j : Nat) : Nat → Nat → Prop := fun b i => V b i ∨ (b = a ∧ i = j)
/-- an acceptor accepts -/
theorem PInv.accept (h : PInv n N A qs V pr) {a j : Nat} (ha : a < n) (hj : j < N) (hph : (qs j).phase = 2) (hl : (bal j).lt (A a).pr = false) :
    PInv n N (fset A a ⟨bal j, bal j, (qs j).val⟩) qs (addV V a j) pr := by
  have hg : ∀ b i, geB (A b).pr i → geB (fset A a ⟨bal j, bal j, (qs j).val⟩ b).pr i := fun b i hgb => by
    by_cases e : b = a
    · subst e; rw [fset_same]; exact geB_mono hgb rfl hl
    · rw [fset_ne _ _ e]; exact hgb
  have hge : ∀ i, geB (A a).pr i → i ≤ j := fun i ⟨k, e, hk⟩ => by rw [e, bal_lt] at hl; simp at hl; omega
  refine ⟨h.acc, h.ans, fun b hb => ?_, fun b i hv => ?_, fun b hb => ?_, fun i hi hp b hb => ?_, fun i hi hp => ?_, fun i hi hst => ?_, fun i hi hp b hb => .inl (h.two i hi hp b hb), fun i hi hp => ?_, h.val⟩
  · by_cases e : b = a
    · subst e; rw [fset_same]; exact .inr ⟨j, hj, rfl⟩
    · rw [fset_ne _ _ e]; exact h.prm b hb
  · rcases hv with hv | ⟨rfl, rfl⟩
    · obtain ⟨k1, k2, k3, k4⟩ := h.vote b i hv
      exact ⟨k1, k2, hg b i k3, k4⟩
    · exact ⟨ha, hj, by rw [fset_same]; exact ⟨i, rfl, Nat.le_refl _⟩, by rw [hph]; decide⟩
  · by_cases e : b = a
    · subst e
      rw [fset_same]
      refine .inr ⟨j, rfl, .inr ⟨rfl, rfl⟩, fun i hv => ?_, rfl⟩
      rcases hv with hv | ⟨_, rfl⟩
      · exact hge i (h.vote b i hv).2.2.1
      · omega
    · rw [fset_ne _ _ e]
      rcases h.last b hb with ⟨k1, k2, k3⟩ | ⟨i, k1, k2, k3, k4⟩
      · exact .inl ⟨k1, k2, fun i hv => hv.elim (k3 i) (fun hv => e hv.1)⟩
      · exact .inr ⟨i, k1, .inl k2, fun i' hv => hv.elim (k3 i') (fun hv => absurd hv.1 e), k4⟩
  · obtain ⟨k1, k2⟩ := h.one i hi hp b hb
    refine ⟨hg b i k1, fun i' hi' hv => ?_⟩
    rcases hv with hv | ⟨rfl, rfl⟩
    · exact k2 i' hi' hv
    · have := hge i k1; omega
  · rcases h.best i hi hp with k | ⟨m, k1, k2, k3, b, k4⟩
    · exact .inl k
    · exact .inr ⟨m, k1, k2, k3, b, .inl k4⟩
  · have hst' : (qs i).phase = 2 ∨ (qs i).phase = 3 ∨ ∃ a, V a i := by
      rcases hst with h | h | ⟨b, h | ⟨rfl, rfl⟩⟩
      · exact .inl h
      · exact .inr (.inl h)
      · exact .inr (.inr ⟨b, h⟩)
      · exact .inl hph
    obtain ⟨M, k1, k2, k3⟩ := h.st i hi hst'
    refine ⟨M, k1, fun b hb => hg b i (k2 b hb), ?_⟩
    rcases k3 with k3 | ⟨m, k3, ⟨b, k4⟩, k5, k6⟩
    · refine .inl (fun b hb i' hi' hv => ?_)
      rcases hv with hv | ⟨rfl, rfl⟩
      · exact k3 b hb i' hi' hv
      · have := hge i (k2 b hb); omega
    · refine .inr ⟨m, k3, ⟨b, .inl k4⟩, k5, fun b hb i' hi' hv => ?_⟩
      rcases hv with hv | ⟨rfl, rfl⟩
      · exact k6 b hb i' hi' hv
      · have := hge i (k2 b hb); omega
  · obtain ⟨Q, k1, k2⟩ := h.three i hi hp
    exact ⟨Q, k1, fun b hb => .inl (k2 b hb)⟩
/-- a proposer that is accepting takes an answer -/
theorem PInv.take2 (h : PInv n N A qs V pr) {a j : Nat} (hj : j < N) (hph : (qs j).phase = 2) (e : Int) (hv : e = 0 → V a j) : PInv n N A (fset qs j ((qs j).accepted a e)) V pr := by
  unfold PS.accepted
  cases ho : (qs j).opn a 2
  case false => simp only [Bool.false_eq_true, if_false]; rw [fset_id]; exact h
  case true =>
  simp only [if_true]
  have hacc := h.acc j hj
  have hans := ans_new ho hacc.1 (h.ans j hj) (decide (e = 0))
  generalize hok : decide (e = 0) = ok at hans ⊢
  have hv' : ok = true → V a j := fun h => hv (of_decide_eq_true (hok.trans h))
  have htwo : ∀ b : Nat, ((b : Int), true) ∈ (qs j).ans ++ [((a : Int), ok)] → V b j := by
    intro b hb
    rcases List.mem_append.1 hb with hb | hb
    · exact h.two j hj hph b hb
    · simp at hb
      obtain ⟨hb, rfl⟩ := hb
      have : b = a := by omega
      subst this
      exact hv' rfl
  have hq : ∀ i, i ≠ j → fset qs j ((qs j).answer a ok) i = qs i := fun i hi => fset_ne _ _ hi
  have hN : fset qs j ((qs j).answer a ok) j = (qs j).answer a ok := fset_same _ _ _
  have hcase : ((qs j).answer a ok).acc = n ∧ ((qs j).answer a ok).b1 = (bal j).r ∧ ((qs j).answer a ok).b2 = (bal j).w ∧ ((qs j).answer a ok).val = (qs j).val ∧ ((qs j).answer a ok).ans = (qs j).ans ++ [((a : Int), ok)] ∧
      ((((qs j).answer a ok).phase = 3 ∧ (n : Int) / 2 + 1 ≤ (yesOf ((qs j).ans ++ [((a : Int), ok)]) : Int)) ∨ ((qs j).answer a ok).phase = 4 ∨ ((qs j).answer a ok).phase = 2) := by
    unfold PS.answer; simp only [hacc.1, hph]
    rw [if_neg (by simp)]
    by_cases hy : (yesOf ((qs j).ans ++ [((a : Int), ok)]) : Int) ≥ (n : Int) / 2 + 1
    · rw [if_pos hy]; exact ⟨rfl, hacc.2.1, hacc.2.2, rfl, rfl, .inl ⟨rfl, hy⟩⟩
    · rw [if_neg hy]
      split
      · exact ⟨rfl, hacc.2.1, hacc.2.2, rfl, rfl, .inr (.inl rfl)⟩
      · exact ⟨rfl, hacc.2.1, hacc.2.2, rfl, rfl, .inr (.inr rfl)⟩
  obtain ⟨c1, c2, c3, c4, c5, c6⟩ := hcase
  have hne1 : ((qs j).answer a ok).phase ≠ 1 := by rcases c6 with ⟨h, _⟩ | h | h <;> rw [h] <;> decide
  have hval : ∀ i, (fset qs j ((qs j).answer a ok) i).val = (qs i).val := fun i => by
    by_cases e : i = j
    · subst e; rw [hN, c4]
    · rw [hq i e]
  refine ⟨?_, ?_, h.prm, ?_, ?_, ?_, ?_, ?_, ?_, ?_, ?_⟩
  · intro i hi
    by_cases e : i = j
    · subst e; rw [hN]; exact ⟨c1, c2, c3⟩
    · rw [hq i e]; exact h.acc i hi
  · intro i hi
    by_cases e : i = j
    · subst e; rw [hN, c5]; exact hans
    · rw [hq i e]; exact h.ans i hi
  · intro b i hv
    obtain ⟨k1, k2, k3, k4⟩ := h.vote b i hv
    refine ⟨k1, k2, k3, ?_⟩
    by_cases e : i = j
    · subst e; rw [hN]; exact hne1
    · rw [hq i e]; exact k4
  · intro b hb
    rcases h.last b hb with k | ⟨i, k1, k2, k3, k4⟩
    · exact .inl k
    · exact .inr ⟨i, k1, k2, k3, by rw [hval]; exact k4⟩
  · intro i hi hp b hb
    by_cases e : i = j
    · subst e; rw [hN] at hp; exact absurd hp hne1
    · rw [hq i e] at hp hb ⊢; exact h.one i hi hp b hb
  · intro i hi hp
    by_cases e : i = j
    · subst e; rw [hN] at hp; exact absurd hp hne1
    · rw [hq i e] at hp ⊢
      rcases h.best i hi hp with k | ⟨m, k1, k2, k3, k4⟩
      · exact .inl k
      · exact .inr ⟨m, k1, k2, by rw [hval]; exact k3, k4⟩
  · intro i hi hst
    have hst' : (qs i).phase = 2 ∨ (qs i).phase = 3 ∨ ∃ a, V a i := by
      by_cases e : i = j
      · subst e; exact .inl hph
      · rw [hq i e] at hst; exact hst
    obtain ⟨M, k1, k2, k3⟩ := h.st i hi hst'
    refine ⟨M, k1, k2, ?_⟩
    rcases k3 with k3 | ⟨m, k3, k4, k5, k6⟩
    · exact .inl k3
    · exact .inr ⟨m, k3, k4, by rw [hval, hval]; exact k5, k6⟩
  · intro i hi hp b hb
    by_cases e : i = j
    · subst e; rw [hN, c5] at hb; exact htwo b hb
    · rw [hq i e] at hp hb; exact h.two i hi hp b hb
  · intro i hi hp
    by_cases e : i = j
    · subst e
      rw [hN] at hp
      rcases c6 with ⟨_, hy⟩ | h0 | h0
      · exact ⟨_, yesSet_most hans.1 hans.2 hy, fun b hb => htwo b ((yesSet_mem hans.2 b).1 hb)⟩
      · rw [h0] at hp; cases hp
      · rw [h0] at hp; cases hp
    · rw [hq i e] at hp; exact h.three i hi hp
  · intro i hi; rw [hval]; exact h.val i hi
end Go.Proofs.Ytplhgeecnnadhaa
