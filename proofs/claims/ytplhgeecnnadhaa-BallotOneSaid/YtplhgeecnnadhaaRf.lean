/- A range over a function, its rounds met where the iterator calls yield. -/
import Derived.Test.YtplhgeecnnadhaaBase
import Derived.RangeFuncKeeps
import Derived.RangeFuncLeaves
import Derived.RangeFuncCalls
import Derived.Shelf.Abstract
namespace Go.Proofs.Ytplhgeecnnadhaa
open Go.RowKit Go.Shelf
section
variable {P : Program} {n : Nat}
/-- the loop's record -/
def loopRec (fn : FuncId) (tmps : Array Value) (ps : Array Tmp) (assign body : Code) (D : Nat) (st : LoopState) (pe : Option Code) : Obj :=
  .loop { state := st, pending := pe, fn := fn, tmps := tmps, params := ps, assign := assign, body := body, defers := D }
/-- how a round's body may be left -/
def roundEnd (fn : FuncId) (tmps : Array Value) (ps : Array Tmp) (assign body : Code) (D l : Nat) (R : Ending → World → Prop) : Exit → Act → World → Prop
  | .normal, _, W => W.heap[l]? = some (loopRec fn tmps ps assign body D .busy none) ∧ R (.returned (.bool true)) (W.putObj l (loopRec fn tmps ps assign body D .ready none))
  | .ret, _, W => W.heap[l]? = some (loopRec fn tmps ps assign body D .busy none) ∧ R (.returned (.bool false)) (W.putObj l (loopRec fn tmps ps assign body D .done (some .ret)))
  | .exit id, _, W => W.heap[l]? = some (loopRec fn tmps ps assign body D .busy none) ∧ R (.returned (.bool false)) (W.putObj l (loopRec fn tmps ps assign body D .done (some (.exit id))))
  | _, _, _ => False
/-- a call of yield -/
theorem yield_at {F : Fence} (hF : ∀ f, F.fn f) {fn : FuncId} {tmps : Array Value} {ps : Array Tmp} {assign body : Code} {D l : Nat} {args : Array Value} {W : World} {R : Ending → World → Prop}
    (hl : W.heap[l]? = some (loopRec fn tmps ps assign body D .ready none)) (hs : args.size = ps.size)
    (h : assign.wpIn (F.inRound l) n P (Exit.then (fun a₁ W' => W'.heap[l]? = some (loopRec fn tmps ps assign body D .ready none) ∧
        body.wpIn (F.inRound l) n P (roundEnd fn tmps ps assign body D l R) a₁ (W'.putObj l (loopRec fn tmps ps assign body D .busy none))) (fun _ _ _ => False))
      { tmps := (ps.zip args).foldl (fun t (p, v) => t.setIfInBounds p v) tmps, defers := [] } W) :
    YieldAt F n P l args W R := by
  have hy := run_yield (P := P) (args := args) hl hs
  refine ⟨fn, _, assign, body, hy, roundIn_of_wpIn (hF fn) (wpIn_mono h ?_)⟩
  rintro e a₁ W' hp
  cases e <;> try exact hp
  obtain ⟨hl', hb⟩ := hp
  refine ⟨_, run_beginRound hl' rfl, wpIn_mono hb ?_⟩
  rintro e a₃ W3 hq
  cases e with
  | normal => exact ⟨_, _, run_endRound none hq.1, hq.2⟩
  | ret => exact ⟨_, _, run_endRound (some .ret) hq.1, hq.2⟩
  | exit id => exact ⟨_, _, run_endRound (some (.exit id)) hq.1, hq.2⟩
  | goto t => exact hq.elim
  | panic ch => exact hq.elim
  | outgrown => exact hq.elim
/-- the statement -/
theorem range_walk {F : Fence} (hF : ∀ f, F.fn f) (hd : F.depth = none) (hro : F.round = none) {g : Operand} {ps : Array Tmp} {assign body : Code} {Q : Exit → Act → World → Prop} {a : Act} {w : World} {gf : Nat} {lb : Array Value}
    (hg : a.eval g = .func (.func gf) #[] lb) (eg : Enters P gf)
    (hit : ∀ (fn : FuncId) (W1 : World), W1 = (w.alloc (.deferred (some []))).alloc (loopRec fn a.tmps ps assign body w.heap.size .ready none) →
      CallsIn F (n - 1) P gf (#[.func (.yield (w.heap.size + 1)) #[] #[]] ++ lb) W1 fun e W2 => (∃ v, e = .returned v) ∧
        ((W2.heap[w.heap.size + 1]? = some (loopRec fn a.tmps ps assign body w.heap.size .ready none) ∧
            Q .normal { a with defers := { target := .collected w.heap.size, args := #[] } :: a.defers } (W2.putObj (w.heap.size + 1) (loopRec fn a.tmps ps assign body w.heap.size .exhausted none))) ∨
         ∃ c : Code, W2.heap[w.heap.size + 1]? = some (loopRec fn a.tmps ps assign body w.heap.size .done (some c)) ∧
            c.wpIn F n P Q { a with defers := { target := .collected w.heap.size, args := #[] } :: a.defers } (W2.putObj (w.heap.size + 1) (loopRec fn a.tmps ps assign body w.heap.size .exhausted (some c))))) :
    (Code.rangeFunc g ps assign body).wpIn F n P Q a w := by
  refine wpIn_rangeFunc ?_
  intro fn _
  rw [hro]
  obtain ⟨W1, hW1⟩ : ∃ W1, W1 = (w.alloc (.deferred (some []))).alloc (loopRec fn a.tmps ps assign body w.heap.size .ready none) := ⟨_, rfl⟩
  refine ⟨w.heap.size + 1, [{ target := .collected w.heap.size, args := #[] }], W1, { target := .fn (.func gf) lb, args := #[.func (.yield (w.heap.size + 1)) #[] #[]] }, W1, gf,
    #[.func (.yield (w.heap.size + 1)) #[] #[]] ++ lb, W1, ?_, ?_, ?_, ?_, (fun h => by rw [hd] at h; cases h), ?_⟩
  · rw [hW1]; exact run_enterLoop_outer _ _ _ _ _
  · simp only [resolve, hg]
    simp [go_sem]
  · intro f' _; exact hF f'
  · simp [invoke, go_sem]; exact eg _ _
  · refine (hit fn W1 hW1).mono ?_
    rintro e W2 ⟨⟨v, rfl⟩, ⟨hl, hq⟩ | ⟨c, hl, hq⟩⟩
    · exact ⟨none, _, run_endLoop hl (by simp), hq⟩
    · exact ⟨some c, _, run_endLoop hl (by simp), hq⟩
end
end Go.Proofs.Ytplhgeecnnadhaa
