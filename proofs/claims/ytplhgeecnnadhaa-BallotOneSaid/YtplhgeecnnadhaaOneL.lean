/- BallotOne: a unit's answer is an acceptor's. -/
import Derived.Test.YtplhgeecnnadhaaOneD
namespace Go.Proofs.Ytplhgeecnnadhaa
open Go.RowKit
variable {ps : List UPage} {j : Nat}
theorem ok_bal (hj : j ≤ 1000000) : okInst 1 (bal j) = true := okInst_iff.2 ⟨⟨by decide, by decide⟩, by unfold bal; simp only; omega, by unfold bal; simp only; omega⟩
theorem ucode_room (h : ps.length < 400) : ucode 400 ps = 0 := by unfold ucode; rw [if_pos h]
theorem uput_room (h : ps.length < 400) (p : UPage) : uput 400 ps p = ps ++ [p] := by unfold uput; rw [if_pos h]
theorem bal_back (j : Nat) : (⟨((bal j).r.toNat : Int), ((bal j).w.toNat : Int)⟩ : Bl) = bal j := by unfold bal; simp; omega
theorem prom_link (h : ps.length < 400) (hj : j ≤ 1000000) :
    (replay (promP 400 ps 1 (bal j)).2).at_ 1 = (accPr ((replay ps).at_ 1) (bal j)).1 ∧ (promP 400 ps 1 (bal j)).1.b = (accPr ((replay ps).at_ 1) (bal j)).2.1 ∧ (promP 400 ps 1 (bal j)).1.v = (accPr ((replay ps).at_ 1) (bal j)).2.2.1 ∧
      (promP 400 ps 1 (bal j)).1.e = (accPr ((replay ps).at_ 1) (bal j)).2.2.2 ∧ (promP 400 ps 1 (bal j)).2.length ≤ ps.length + 1 := by
  have hi := ok_bal hj
  unfold accPr
  cases hl : (bal j).lt ((replay ps).at_ 1).pr
  case true => rw [promP_busy hi hl]; simp
  case false =>
    simp only [Bool.false_eq_true, if_false]
    by_cases he : bal j = ((replay ps).at_ 1).pr
    · rw [promP_same hi hl he]
      refine ⟨?_, rfl, rfl, rfl, by simp⟩
      rw [he]
    · rw [promP_new hi hl he, ucode_room h, if_pos rfl, uput_room h]
      refine ⟨?_, rfl, rfl, rfl, by simp⟩
      simp only
      rw [replay_snoc]
      show ((replay ps).put (((1 : Int).toNat : Nat) : Int) _).at_ 1 = _
      rw [fput_acc, show ((((1 : Int).toNat : Nat)) : Int) = 1 from rfl, if_pos rfl]
      show ({ (replay ps).at_ 1 with pr := ⟨((bal j).r.toNat : Int), ((bal j).w.toNat : Int)⟩ } : Acc) = _
      rw [bal_back]
theorem acc_link (h : ps.length < 400) (hj : j ≤ 1000000) {v : List UInt8} (hv : v.length ≤ 1000) :
    (replay (accP 400 ps 1 (bal j) v).2).at_ 1 = (accAc ((replay ps).at_ 1) (bal j) v).1 ∧ (accP 400 ps 1 (bal j) v).1 = (accAc ((replay ps).at_ 1) (bal j) v).2 ∧ (accP 400 ps 1 (bal j) v).2.length ≤ ps.length + 1 := by
  have hi := ok_bal hj
  unfold accAc accP
  rw [hi, if_neg (by simp; omega)]
  cases hl : (bal j).lt ((replay ps).at_ 1).pr
  case true => simp
  case false =>
    simp only [Bool.false_eq_true, if_false]
    rw [ucode_room h, uput_room h]
    refine ⟨?_, rfl, by simp⟩
    rw [replay_snoc]
    show ((replay ps).put (((1 : Int).toNat : Nat) : Int) _).at_ 1 = _
    rw [fput_acc, show ((((1 : Int).toNat : Nat)) : Int) = 1 from rfl, if_pos rfl]
    show (⟨⟨((bal j).r.toNat : Int), ((bal j).w.toNat : Int)⟩, ⟨((bal j).r.toNat : Int), ((bal j).w.toNat : Int)⟩, v⟩ : Acc) = _
    rw [bal_back]
theorem fset_at (pss : Nat → List UPage) (a : Nat) (x : List UPage) (y : Acc) (h : (replay x).at_ 1 = y) : (fun b => (replay (fset pss a x b)).at_ 1) = fset (fun b => (replay (pss b)).at_ 1) a y := by
  funext b
  by_cases e : b = a
  · subst e; rw [fset_same, fset_same]; exact h
  · rw [fset_ne _ _ e, fset_ne _ _ e]
theorem few_ans {n N : Nat} {A : Nat → Acc} {qs : Nat → PS} {V : Nat → Nat → Prop} {pr : List UInt8 → Prop} (h : PInv n N A qs V pr) (hj : j < N) (hn : n ≤ 100) : (qs j).ans.length < 1000000 := by
  obtain ⟨h1, h2⟩ := h.ans j hj
  have h3 : (((qs j).ans.map Prod.fst).map Int.toNat).Nodup := by
    have h4 : ∀ x ∈ (qs j).ans.map Prod.fst, 0 ≤ x := fun x hx => by
      obtain ⟨y, hy, rfl⟩ := List.mem_map.1 hx
      exact (h2 y hy).1
    generalize (qs j).ans.map Prod.fst = q at h1 h4
    induction q with
    | nil => simp
    | cons x q ih =>
      rw [List.nodup_cons] at h1
      rw [List.map_cons, List.nodup_cons]
      refine ⟨fun hm => ?_, ih h1.2 (fun y hy => h4 y (by simp [hy]))⟩
      obtain ⟨y, hy, e⟩ := List.mem_map.1 hm
      have a1 := h4 x (by simp)
      have a2 := h4 y (by simp [hy])
      have : y = x := by omega
      exact h1.1 (this ▸ hy)
  have := nodup_len n _ h3 (fun a ha => by
    obtain ⟨y, hy, rfl⟩ := List.mem_map.1 ha
    obtain ⟨z, hz, rfl⟩ := List.mem_map.1 hy
    have := h2 z hz
    omega)
  simp only [List.length_map] at this
  omega
theorem PInv.accepts {n N : Nat} {A : Nat → Acc} {qs : Nat → PS} {V : Nat → Nat → Prop} {pr : List UInt8 → Prop} (h : PInv n N A qs V pr) {a j : Nat} (ha : a < n) (hj : j < N) (hph : (qs j).phase = 2) :
    ∃ V', PInv n N (fset A a (accAc (A a) (bal j) (qs j).val).1) qs V' pr ∧ ((accAc (A a) (bal j) (qs j).val).2 = 0 → V' a j) := by
  unfold accAc
  cases hl : (bal j).lt (A a).pr
  · simp only [Bool.false_eq_true, if_false]
    exact ⟨addV V a j, h.accept ha hj hph hl, fun _ => .inr ⟨rfl, rfl⟩⟩
  · simp only [if_true]
    rw [fset_id]
    exact ⟨V, h, fun h => by cases h⟩
end Go.Proofs.Ytplhgeecnnadhaa
