/- Whose block is it? Many things side by side in memory: each has a number, and owns the blocks that bear it. -/
import Derived.Test.YtplhgeecnnadhaaRow
namespace Go.Proofs.Ytplhgeecnnadhaa
open Go.RowKit
/-- what lies in a set of blocks -/
abbrev Thing := World → (Nat → Prop) → Prop
/-- it stays where others are changed, and in more blocks -/
structure Frm (R : Thing) : Prop where
  upd : ∀ w w1 F G, R w F → Upd G w w1 → (∀ k, F k → ¬ G k) → R w1 F
  mono : ∀ w F G, R w F → (∀ k, F k → G k) → (∀ k, G k → k < w.heap.size) → R w G
def Tg (o : Nat → Nat) (t : Nat) : Nat → Prop := fun k => o k = t
def rput (ρ : Nat → Thing) (t : Nat) (R : Thing) : Nat → Thing := fun i => if i = t then R else ρ i
theorem rput_same (ρ : Nat → Thing) (t : Nat) (R : Thing) : rput ρ t R t = R := by simp [rput]
theorem rput_ne (ρ : Nat → Thing) {t i : Nat} (R : Thing) (h : i ≠ t) : rput ρ t R i = ρ i := by simp [rput, h]
structure Own (w0 w : World) (o : Nat → Nat) (ρ : Nat → Thing) : Prop where
  mk ::
  free : ∀ k, w.heap.size ≤ k → o k = 0
  low : ∀ k, k < w0.heap.size → o k = 0
  base : Upd NoF w0 w
  frm : ∀ t, Frm (ρ t)
  holds : ∀ t, t ≠ 0 → ρ t w (Tg o t)
/-- as it was, for all that is old -/
def Kept (w : World) (o o' : Nat → Nat) : Prop := ∀ k, k < w.heap.size → o' k = o k
variable {w0 w w1 w2 : World} {o o1 o2 : Nat → Nat} {ρ : Nat → Thing} {F : Nat → Prop} {t : Nat} {R : Thing}
theorem Kept.refl (w : World) (o : Nat → Nat) : Kept w o o := fun _ _ => rfl
theorem Kept.trans (h : Kept w o o1) (k : Kept w1 o1 o2) (hz : w.heap.size ≤ w1.heap.size) : Kept w o o2 := fun i hi => (k i (by omega)).trans (h i hi)
def anyThing : Thing := fun _ _ => True
theorem frm_any : Frm anyThing := ⟨fun _ _ _ _ _ _ _ => trivial, fun _ _ _ _ _ _ => trivial⟩
theorem Own.start (w : World) : Own w w (fun _ => 0) (fun _ => anyThing) := ⟨fun _ _ => rfl, fun _ _ => rfl, Upd.refl _ _, fun _ => frm_any, fun _ _ => trivial⟩
theorem Own.upd0 (h : Own w0 w o ρ) (hu : Upd NoF w w1) : Own w0 w1 o ρ :=
  ⟨fun k hk => h.free k (Nat.le_trans hu.size hk), h.low, h.base.then0 hu, h.frm, fun t ht => (h.frm t).upd _ _ _ _ (h.holds t ht) hu (fun _ _ h => h)⟩
theorem Own.lt (h : Own w0 w o ρ) (ht : t ≠ 0) : ∀ k, Tg o t k → k < w.heap.size := fun k hk => by
  rcases Nat.lt_or_ge k w.heap.size with hl | hl
  · exact hl
  · have := h.free k hl; unfold Tg at hk; omega
/-- one of them is changed, and may grow -/
theorem Own.step (h : Own w0 w o ρ) (ht : t ≠ 0) (hR : Frm R) (hr : R w1 F) (hu : Upd (Tg o t) w w1) (hF : ∀ k, F k → Tg o t k ∨ w.heap.size ≤ k) (hlt : ∀ k, F k → k < w1.heap.size) :
    ∃ o', Own w0 w1 o' (rput ρ t R) ∧ Kept w o o' ∧ ∀ k, w.heap.size ≤ k → o' k ≠ 0 → F k := by
  classical
  have hz := hu.size
  have hz0 := h.base.size
  obtain ⟨o', e1, e2, e3⟩ : ∃ o' : Nat → Nat, (∀ k, k < w.heap.size → o' k = o k) ∧ (∀ k, w.heap.size ≤ k → F k → o' k = t) ∧ (∀ k, w.heap.size ≤ k → ¬ F k → o' k = 0) :=
    ⟨fun k => if w.heap.size ≤ k then (if F k then t else 0) else o k, fun k hk => if_neg (by omega), fun k hk hf => by simp only []; rw [if_pos hk, if_pos hf], fun k hk hf => by simp only []; rw [if_pos hk, if_neg hf]⟩
  refine ⟨o', ⟨?_, ?_, ?_, ?_, ?_⟩, e1, ?_⟩
  · intro k hk
    exact e3 k (by omega) (fun hf => by have := hlt k hf; omega)
  · intro k hk
    rw [e1 k (by omega)]
    exact h.low k hk
  · exact h.base.trans hu (fun k hk hf => by have := h.low k hk; unfold Tg at hf; omega)
  · intro i
    unfold rput
    split
    · exact hR
    · exact h.frm i
  · intro i hi
    by_cases e : i = t
    · subst e
      rw [rput_same]
      refine hR.mono _ _ _ hr (fun k hk => ?_) (fun k hk => ?_)
      · unfold Tg
        by_cases hl : w.heap.size ≤ k
        · exact e2 k hl hk
        · rw [e1 k (by omega)]
          exact (hF k hk).elim (fun h => h) (fun h => absurd h hl)
      · unfold Tg at hk
        by_cases hl : w.heap.size ≤ k
        · by_cases hf : F k
          · exact hlt k hf
          · have := e3 k hl hf; omega
        · omega
    · rw [rput_ne _ _ e]
      refine (h.frm i).mono _ _ _ ((h.frm i).upd _ _ _ _ (h.holds i hi) hu (fun k hk hf => ?_)) (fun k hk => ?_) (fun k hk => ?_)
      · unfold Tg at hk hf; omega
      · have := h.lt hi k hk
        unfold Tg
        rw [e1 k this]
        exact hk
      · unfold Tg at hk
        by_cases hl : w.heap.size ≤ k
        · by_cases hf : F k
          · exact hlt k hf
          · have := e3 k hl hf; omega
        · omega
  · intro k hk hne
    by_cases hf : F k
    · exact hf
    · exact absurd (e3 k hk hf) hne
/-- blocks of nobody are given to one -/
theorem Own.claim (h : Own w0 w o ρ) (ht : t ≠ 0) (hR : Frm R) (hr : R w F) (hF : ∀ k, F k → o k = 0 ∧ w0.heap.size ≤ k ∧ k < w.heap.size) : ∃ o', Own w0 w o' (rput ρ t R) ∧ ∀ k, ¬ F k → o' k = o k := by
  classical
  obtain ⟨o', e1, e2⟩ : ∃ o' : Nat → Nat, (∀ k, ¬ F k → o' k = o k) ∧ (∀ k, F k → o' k = t) :=
    ⟨fun k => if F k then t else o k, fun k hk => if_neg hk, fun k hk => if_pos hk⟩
  refine ⟨o', ⟨fun k hk => ?_, fun k hk => ?_, h.base, fun i => ?_, fun i hi => ?_⟩, e1⟩
  · rw [e1 k (fun hf => by have := hF k hf; omega)]; exact h.free k hk
  · rw [e1 k (fun hf => by have := hF k hf; omega)]; exact h.low k hk
  · unfold rput
    split
    · exact hR
    · exact h.frm i
  · have hback : ∀ k, o' k = i → i ≠ t → o k = i := fun k hk hit => by
      by_cases hf : F k
      · have := e2 k hf; omega
      · rw [← e1 k hf]; exact hk
    by_cases e : i = t
    · subst e
      rw [rput_same]
      refine hR.mono _ _ _ hr (fun k hk => e2 k hk) (fun k hk => ?_)
      unfold Tg at hk
      by_cases hf : F k
      · exact (hF k hf).2.2
      · rw [e1 k hf] at hk; exact h.lt hi k hk
    · rw [rput_ne _ _ e]
      refine (h.frm i).mono _ _ _ (h.holds i hi) (fun k hk => ?_) (fun k hk => h.lt hi k (hback k hk e))
      unfold Tg at hk ⊢
      rw [e1 k (fun hf => by have := (hF k hf).1; omega)]
      exact hk
/-- a block of cells; bytes -/
def cellT (g : Nat) (cs : Array Value) (ty : TypeId) : Thing := fun w F => w.heap[g]? = some (.cells cs ty (0, 0)) ∧ F g
def bytesT (v : Value) (l : List UInt8) : Thing := fun w F => Bytes w F v l
theorem frm_cell (g : Nat) (cs : Array Value) (ty : TypeId) : Frm (cellT g cs ty) := ⟨fun _ _ _ _ h hu hn => ⟨hu.blk h.1 (hn _ h.2), h.2⟩, fun _ _ _ h hF _ => ⟨h.1, hF _ h.2⟩⟩
theorem frm_bytes (v : Value) (l : List UInt8) : Frm (bytesT v l) := ⟨fun _ _ _ _ h hu hn => Bytes.upd h hu hn, fun _ _ _ h hF _ => Bytes.mono h hF⟩
theorem Own.alloc (h : Own w0 w o ρ) (ht : t ≠ 0) (cs : Array Value) (ty : TypeId) : ∃ o', Own w0 (w.alloc (.cells cs ty)) o' (rput ρ t (cellT w.heap.size cs ty)) :=
  let ⟨o', a, _, _⟩ := h.step (F := fun k => k = w.heap.size) ht (frm_cell w.heap.size cs ty) ⟨blk_new w _, rfl⟩ (((Upd.refl NoF w).alloc _).mono (fun _ _ h => h.elim)) (fun k hk => .inr (by omega)) (fun k hk => by simp; omega)
  ⟨o', a⟩
/-- its cells are written -/
theorem Own.cells (h : Own w0 w o ρ) (ht : t ≠ 0) {g : Nat} {cs cs' : Array Value} {ty : TypeId} (hc : ρ t = cellT g cs ty) (hu : Upd (OneF g) w w1) (hx : w1.heap[g]? = some (.cells cs' ty (0, 0))) : ∃ o', Own w0 w1 o' (rput ρ t (cellT g cs' ty)) := by
  have hh := h.holds t ht
  rw [hc] at hh
  obtain ⟨o', a, _, _⟩ := h.step (F := Tg o t) ht (frm_cell g cs' ty) ⟨hx, hh.2⟩ (hu.mono (fun k _ hk => by simp only [OneF] at hk; subst hk; exact hh.2)) (fun k hk => .inl hk) (fun k hk => Nat.lt_of_lt_of_le (h.lt ht k hk) hu.size)
  exact ⟨o', a⟩
/-- a block of nobody stays -/
theorem Own.blk (h : Upd (Tg o t) w w1) (ht : t ≠ 0) {g : Nat} {x : Obj} (hg : w.heap[g]? = some x) (hn : o g = 0) : w1.heap[g]? = some x := h.blk hg (fun hf => by unfold Tg at hf; omega)
end Go.Proofs.Ytplhgeecnnadhaa
