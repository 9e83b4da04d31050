/- The device: Crash. -/
import Derived.Test.YtplhgeecnnadhaaDevA
import Derived.Deep.DeepCutAuto
import Derived.Deep.LoopGhost
namespace Go.Proofs.Ytplhgeecnnadhaa
open Go.RowKit
variable {F G : Nat → Prop} {w w1 : World} {d : Nat} {s : DS}
/-- what a pick makes of a page -/
def pickAt (picks : List UInt8) (i : Nat) : Int := ((picks.getD (i % picks.length) 0).toNat % 3 : Nat)
def turnOne (st : Int) (p : Int × List UInt8) : Int × List UInt8 := (st, if st = 1 then p.2 else [])
def turnTail (pk : Nat → Int) : Nat → List (Int × List UInt8) → List (Int × List UInt8)
  | _, [] => []
  | i, p :: r => turnOne (pk i) p :: turnTail pk (i + 1) r
/-- the first k pages behind those that last are turned -/
def turnedTo (pk : Nat → Int) (lasts k : Nat) (l : List (Int × List UInt8)) : List (Int × List UInt8) := l.take lasts ++ turnTail pk 0 ((l.drop lasts).take k) ++ l.drop (lasts + k)
def dropEmpty : List (Int × List UInt8) → List (Int × List UInt8)
  | [] => []
  | p :: r => match dropEmpty r with
    | [] => if p.1 = 0 then [] else [p]
    | q :: t => p :: q :: t
def realPicks (picks : List UInt8) : List UInt8 := if picks = [] then [0] else picks
def DS.crash (s : DS) (picks : List UInt8) : DS :=
  let l := dropEmpty (turnedTo (pickAt (realPicks picks)) s.lasts (s.pages.length - s.lasts) s.pages)
  { s with pages := l, lasts := l.length }
theorem turnTail_length (pk : Nat → Int) : ∀ (l : List (Int × List UInt8)) (i : Nat), (turnTail pk i l).length = l.length
  | [], _ => rfl
  | p :: r, i => by simp [turnTail, turnTail_length pk r]
theorem turnTail_snoc (pk : Nat → Int) : ∀ (l : List (Int × List UInt8)) (i : Nat) (p : Int × List UInt8), turnTail pk i (l ++ [p]) = turnTail pk i l ++ [turnOne (pk (i + l.length)) p]
  | [], i, p => by simp [turnTail]
  | q :: r, i, p => by
    simp only [List.cons_append, turnTail, turnTail_snoc pk r (i + 1) p, List.length_cons]
    rw [show i + 1 + r.length = i + (r.length + 1) by omega]
theorem turnedTo_zero (pk : Nat → Int) (lasts : Nat) (l : List (Int × List UInt8)) : turnedTo pk lasts 0 l = l := by
  simp [turnedTo, turnTail]
theorem turnedTo_length (pk : Nat → Int) {lasts k : Nat} {l : List (Int × List UInt8)} (h : lasts + k ≤ l.length) : (turnedTo pk lasts k l).length = l.length := by
  simp only [turnedTo, List.length_append, turnTail_length, List.length_take, List.length_drop]; omega
/-- one more -/
theorem turnedTo_succ (pk : Nat → Int) {lasts k : Nat} {l : List (Int × List UInt8)} (h : lasts + k < l.length) :
    (turnedTo pk lasts k l)[lasts + k]? = some (l[lasts + k]'h) ∧ turnedTo pk lasts (k + 1) l = (turnedTo pk lasts k l).set (lasts + k) (turnOne (pk k) (l[lasts + k]'h)) := by
  have hd : l.drop (lasts + k) = l[lasts + k]'h :: l.drop (lasts + (k + 1)) := by rw [List.drop_eq_getElem_cons h]; rfl
  have ht : (l.drop lasts).take (k + 1) = (l.drop lasts).take k ++ [l[lasts + k]'h] := by
    rw [List.take_succ_eq_append_getElem (by simp; omega)]; simp
  have hlen : (l.take lasts ++ turnTail pk 0 ((l.drop lasts).take k)).length = lasts + k := by
    simp only [List.length_append, turnTail_length, List.length_take, List.length_drop]; omega
  constructor
  · unfold turnedTo
    rw [List.getElem?_append_right (by omega), hlen, hd]; simp
  · unfold turnedTo
    rw [ht, turnTail_snoc, hd]
    rw [List.set_append_right _ _ (by omega), hlen]
    simp only [Nat.sub_self, List.set_cons_zero, List.append_assoc, List.cons_append, List.nil_append]
    have : ((l.drop lasts).take k).length = k := by simp; omega
    rw [this]; simp
theorem dropEmpty_spec : ∀ (l : List (Int × List UInt8)), dropEmpty l = l ∨ ∃ p, l = l.dropLast ++ [p] ∧ p.1 = 0 ∧ dropEmpty l = dropEmpty l.dropLast
  | [] => .inl rfl
  | p :: r => by
    rcases dropEmpty_spec r with h | ⟨q, hq, h0, h⟩
    · cases r with
      | nil =>
        by_cases hp : p.1 = 0
        · exact .inr ⟨p, by simp, hp, by simp [dropEmpty, hp]⟩
        · exact .inl (by simp [dropEmpty, hp])
      | cons q t => left; simp only [dropEmpty] at h ⊢; rw [h]
    · cases r with
      | nil => simp at hq
      | cons q' t =>
        right
        refine ⟨q, ?_, h0, ?_⟩
        · rw [List.dropLast_cons_cons, List.cons_append, ← hq]
        · rw [List.dropLast_cons_cons]
          show (match dropEmpty (q' :: t) with | [] => _ | q :: t => _) = _
          rw [h]
          rfl
theorem dropEmpty_snoc (l : List (Int × List UInt8)) (p : Int × List UInt8) : dropEmpty (l ++ [p]) = if p.1 = 0 then dropEmpty l else l ++ [p] := by
  induction l with
  | nil => simp [dropEmpty]
  | cons q r ih =>
    simp only [List.cons_append, dropEmpty, ih]
    by_cases hp : p.1 = 0
    · simp only [hp, if_true]
    · simp only [hp, if_false]
      cases r <;> simp
/-- a cell of a row is stored -/
theorem Row.set {e : TypeId} {sz n c g : Nat} {xs : List Value} (h : Row w F e sz (.slice (some ⟨g, 0, none⟩) n c) n xs) (j : Nat) (u : Value) : Row (w.setCell ⟨g, j, none⟩ u) F e sz (.slice (some ⟨g, 0, none⟩) n c) n (xs.set j u) := by
  obtain ⟨⟨h1, h2⟩, h3⟩ := h
  rcases h2 with ⟨hv, _⟩ | ⟨g', cap, cur, hv, hb, hg, hnc, hcm, hcs, htk⟩
  · cases hv
  · cases hv
    refine ⟨⟨by simpa using h1, .inr ⟨g, c, cur.setIfInBounds j u, rfl, hb, blk_set hg j u, hnc, hcm, by simpa using hcs, ?_⟩⟩, h3⟩
    rw [Array.toList_setIfInBounds, ← htk, List.take_set]
theorem cells_at : ∀ (l : List Pg) (j : Nat) (h : j < l.length), (l.flatMap Pg.cells)[j * 2]? = some (.int .i64 l[j].st) ∧ (l.flatMap Pg.cells)[j * 2 + 1]? = some l[j].v
  | [], j, h => by simp at h
  | x :: l, 0, h => by simp [Pg.cells]
  | x :: l, j + 1, h => by
    have := cells_at l j (by simpa using h)
    simp only [List.flatMap_cons, Pg.cells, List.cons_append, List.nil_append]
    rw [show (j + 1) * 2 = j * 2 + 1 + 1 by omega]
    simpa using this
theorem cells_set : ∀ (l : List Pg) (j : Nat) (_ : j < l.length) (st : Int) (v : Value) (bs : List UInt8), ((l.flatMap Pg.cells).set (j * 2) (.int .i64 st)).set (j * 2 + 1) v = (l.set j ⟨st, v, bs⟩).flatMap Pg.cells
  | [], j, h, _, _, _ => by simp at h
  | x :: l, 0, _, _, _, _ => by simp [Pg.cells]
  | x :: l, j + 1, h, st, v, bs => by
    have := cells_set l j (by simpa using h) st v bs
    simp only [List.flatMap_cons, Pg.cells, List.cons_append, List.nil_append, List.set_cons_succ]
    rw [show (j + 1) * 2 = j * 2 + 1 + 1 by omega]
    simpa using this
theorem cells_set0 (l : List Pg) (j : Nat) (h : j < l.length) (st : Int) : (l.flatMap Pg.cells).set (j * 2) (.int .i64 st) = (l.set j ⟨st, l[j].v, l[j].bs⟩).flatMap Pg.cells := by
  rw [← cells_set l j h st l[j].v l[j].bs]
  have := (cells_at l j h).2
  rw [List.set_comm _ _ (by omega)]
  congr 1
  apply List.ext_getElem?
  intro i
  by_cases hi : i = j * 2 + 1
  · subst hi
    rw [this, List.getElem?_set_self (by rw [len_cells]; omega)]
  · rw [List.getElem?_set_ne (by omega)]
theorem cells_dropLast (l : List Pg) : l.dropLast.flatMap Pg.cells = (l.flatMap Pg.cells).take ((l.length - 1) * 2) := by
  induction l with
  | nil => rfl
  | cons x l ih =>
    cases l with
    | nil => simp
    | cons y t =>
      rw [List.dropLast_cons_cons, List.flatMap_cons, List.flatMap_cons, ih]
      simp only [List.length_cons]
      rw [show (t.length + 1 + 1 - 1) * 2 = (t.length + 1 - 1) * 2 + 1 + 1 by omega]
      simp [Pg.cells]
theorem Row.shrink {e : TypeId} {sz n n' c g : Nat} {xs : List Value} (h : Row w F e sz (.slice (some ⟨g, 0, none⟩) n c) n xs) (hn : n' ≤ n) : Row w F e sz (.slice (some ⟨g, 0, none⟩) n' c) n' (xs.take (n' * sz)) := by
  obtain ⟨⟨h1, h2⟩, h3⟩ := h
  have hle : n' * sz ≤ n * sz := Nat.mul_le_mul_right _ hn
  rcases h2 with ⟨hv, _⟩ | ⟨g', cap, cur, hv, hb, hg, hnc, hcm, hcs, htk⟩
  · cases hv
  · cases hv
    refine ⟨⟨by rw [List.length_take]; omega, .inr ⟨g, c, cur, rfl, hb, hg, Nat.le_trans hn hnc, hcm, hcs, ?_⟩⟩, h3⟩
    rw [← htk, List.take_take, Nat.min_eq_left hle]
theorem map_set (l : List Pg) (j : Nat) (x : Pg) : (l.set j x).map Pg.plain = (l.map Pg.plain).set j x.plain := by rw [List.map_set]
end Go.Proofs.Ytplhgeecnnadhaa
