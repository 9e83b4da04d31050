/- What lies in memory, and what a call leaves of it: plain words that name no function of the program. -/
import Derived.Test.YtplhgeecnnadhaaProg
import Derived.WalkKit
import Derived.WalkLawsBesides
import Derived.WalkSpells
import Derived.Lib.Hide
import Derived.KernelRfl
import Derived.Deep.QuietTactic
import Derived.BigQuiet
import Derived.Deep.RegionHeld3
import Derived.Deep.AppendLies
import Derived.Deep.MidRow
import Derived.Deep.Draws
import Derived.MapKept
namespace Go.Proofs.Ytplhgeecnnadhaa
open Go.RowKit

/-! ### blocks -/
theorem blk_cell {w : World} {g : Nat} {t : TypeId} {cs : Array Value} {fr : Nat × Nat} (h : w.heap[g]? = some (.cells cs t fr)) (i : Nat) : w.cell? ⟨g, i, none⟩ = cs[i]? := by simp [World.cell?, h]
theorem blk_free {w : World} {g : Nat} {t : TypeId} {cs : Array Value} (h : w.heap[g]? = some (.cells cs t (0, 0))) (i : Nat) : w.frozen? ⟨g, i, none⟩ = false := by simp [World.frozen?, h]
theorem blk_set {w : World} {g : Nat} {t : TypeId} {cs : Array Value} {fr : Nat × Nat} (h : w.heap[g]? = some (.cells cs t fr)) (i : Nat) (u : Value) : (w.setCell ⟨g, i, none⟩ u).heap[g]? = some (.cells (cs.setIfInBounds i u) t fr) := by
  simp [World.setCell, Array.getElem?_modify, h]
theorem blk_far {w : World} {g : Nat} {o : Obj} (h : w.heap[g]? = some o) {p : Addr} (hp : g ≠ p.block) (u : Value) : (w.setCell p u).heap[g]? = some o := (Below.heap_setCell w p u g hp).trans h
theorem blk_lt {w : World} {g : Nat} {o : Obj} (h : w.heap[g]? = some o) : g < w.heap.size := (Array.getElem?_eq_some_iff.1 h).1
theorem blk_alloc {w : World} {g : Nat} {o : Obj} (h : w.heap[g]? = some o) (o' : Obj) : (w.alloc o').heap[g]? = some o := (Below.heap_alloc w o' g (blk_lt h)).trans h
theorem blk_newn {w : World} {n : Nat} (hn : n = w.heap.size) (o : Obj) : (w.alloc o).heap[n]? = some o := by subst hn; exact heap_alloc_new w o
theorem blk_new (w : World) (o : Obj) : (w.alloc o).heap[w.heap.size]? = some o := heap_alloc_new w o

theorem cell_new {w : World} {cs : Array Value} {t : TypeId} {i : Nat} {v : Value} (h : cs[i]? = some v) : (w.alloc (.cells cs t)).cell? ⟨w.heap.size, i, none⟩ = some v := (blk_cell (blk_new w _) i).trans h

/-! ### results that lie in a cell -/
section
variable {P : Program}
theorem results_c {fn : Func} {p : Tmp} {ty : TypeId} (h : fn.results = #[.cell p ty]) (tmps : Array Value) (w : World) (g : Nat) (t : TypeId) (cs : Array Value) (fr : Nat × Nat) (d : TypeDesc)
    (hp : tmps.getD p undef = .pointer (some ⟨g, 0, none⟩)) (hg : w.heap[g]? = some (.cells cs t fr))
    (hu : P.underlying ty = some d) (hd : (match d with | .struct _ | .array _ _ => true | _ => false) = true) (hi : (P.info? ty).map (·.size) = some cs.size) :
    (results fn tmps).run P w = .ok (.agg cs) w := by
  have hp' : tmps[p]?.getD undef = .pointer (some ⟨g, 0, none⟩) := by simpa using hp
  simp [results, h, hp', asAddr, run_loadVar_row w g t ty cs fr d hg hu hd hi]
theorem results_ct {fn : Func} {p u : Tmp} {ty : TypeId} (h : fn.results = #[.cell p ty, .tmp u]) (tmps : Array Value) (w : World) (g : Nat) (t : TypeId) (cs : Array Value) (fr : Nat × Nat) (d : TypeDesc)
    (hp : tmps.getD p undef = .pointer (some ⟨g, 0, none⟩)) (hg : w.heap[g]? = some (.cells cs t fr))
    (hu : P.underlying ty = some d) (hd : (match d with | .struct _ | .array _ _ => true | _ => false) = true) (hi : (P.info? ty).map (·.size) = some cs.size) :
    (results fn tmps).run P w = .ok (.tuple #[.agg cs, tmps.getD u undef]) w := by
  have hp' : tmps[p]?.getD undef = .pointer (some ⟨g, 0, none⟩) := by simpa using hp
  simp [results, h, hp', asAddr, run_loadVar_row w g t ty cs fr d hg hu hd hi]
end

/-! ### what a call leaves as it was: all but the blocks of F, and new ones -/
structure Upd (F : Nat → Prop) (w w' : World) : Prop where
  os : w'.os = w.os
  tape : w'.tape = w.tape
  output : w'.output = w.output
  size : w.heap.size ≤ w'.heap.size
  keep : ∀ k, k < w.heap.size → ¬ F k → w'.heap[k]? = w.heap[k]?
def NoF : Nat → Prop := fun _ => False
def OneF (q : Nat) : Nat → Prop := fun k => k = q
variable {F G : Nat → Prop} {w w1 w2 : World}
theorem Upd.refl (F : Nat → Prop) (w : World) : Upd F w w := ⟨rfl, rfl, rfl, Nat.le_refl _, fun _ _ _ => rfl⟩
theorem Upd.trans (h : Upd F w w1) (k : Upd G w1 w2) (hG : ∀ i, i < w.heap.size → G i → F i) : Upd F w w2 :=
  ⟨k.os.trans h.os, k.tape.trans h.tape, k.output.trans h.output, Nat.le_trans h.size k.size, fun i hi hn => (k.keep i (Nat.lt_of_lt_of_le hi h.size) (fun hg => hn (hG i hi hg))).trans (h.keep i hi hn)⟩
theorem Upd.mono (h : Upd F w w1) (hG : ∀ i, i < w.heap.size → F i → G i) : Upd G w w1 := ⟨h.os, h.tape, h.output, h.size, fun i hi hn => h.keep i hi (fun hf => hn (hG i hi hf))⟩
theorem Upd.andThen (h : Upd F w w1) (k : Upd F w1 w2) : Upd F w w2 := h.trans k (fun _ _ h => h)
theorem Upd.then0 (h : Upd F w w1) (k : Upd NoF w1 w2) : Upd F w w2 := h.trans k (fun _ _ h => h.elim)
theorem Upd.alloc (h : Upd F w w1) (o : Obj) : Upd F w (w1.alloc o) :=
  h.then0 ⟨rfl, rfl, rfl, by simp, fun k hk _ => Below.heap_alloc _ _ _ hk⟩
theorem Upd.drew (h : Upd F w w1) : Upd F w w1.drew := ⟨h.os, h.tape, h.output, h.size, h.keep⟩
theorem Upd.drewN (h : Upd F w w1) (n : Nat) : Upd F w (w1.drewN n) := ⟨h.os, h.tape, h.output, h.size, h.keep⟩
theorem Upd.set (h : Upd F w w1) {p : Addr} (hp : p.block < w.heap.size → F p.block) (u : Value) : Upd F w (w1.setCell p u) :=
  ⟨h.os, h.tape, h.output, by simpa [World.setCell] using h.size, fun k hk hn => (Below.heap_setCell _ _ _ _ (fun e => hn (by rw [e] at hk ⊢; exact hp hk))).trans (h.keep k hk hn)⟩
theorem Upd.set1 {q : Nat} (h : Upd (OneF q) w w1) (i : Nat) (u : Value) : Upd (OneF q) w (w1.setCell ⟨q, i, none⟩ u) := Upd.set (p := ⟨q, i, none⟩) h (fun _ => (rfl : q = q)) u
theorem Upd.grown {row : Option Nat} (h : Upd F w w1) (g : w1.grownBy w2 row) (hr : ∀ k, row = some k → k < w.heap.size → F k) : Upd F w w2 :=
  ⟨g.os.trans h.os, g.tape.trans h.tape, g.output.trans h.output, Nat.le_trans h.size g.size, fun k hk hn => (g.block k (Nat.lt_of_lt_of_le hk h.size) (fun e => hn (hr k e.symm hk))).trans (h.keep k hk hn)⟩
theorem Upd.of_grown {row : Option Nat} (g : w.grownBy w2 row) (hr : ∀ k, row = some k → F k) : Upd F w w2 := (Upd.refl F w).grown g (fun k e _ => hr k e)
theorem Upd.below (h : Upd NoF w w1) : Below w.heap.size w w1 := ⟨h.os, h.tape, h.output, h.size, fun k hk => h.keep k hk (fun h => h)⟩
theorem Upd.of_below (h : Below w.heap.size w w1) (F : Nat → Prop) : Upd F w w1 := ⟨h.os, h.tape, h.output, h.size, fun k hk _ => h.block k hk⟩
theorem Upd.blk (h : Upd F w w1) {g : Nat} {o : Obj} (hg : w.heap[g]? = some o) (hn : ¬ F g) : w1.heap[g]? = some o := (h.keep g (blk_lt hg) hn).trans hg
theorem Upd.blk0 (h : Upd NoF w w1) {g : Nat} {o : Obj} (hg : w.heap[g]? = some o) : w1.heap[g]? = some o := h.blk hg (fun h => h)
theorem Upd.cell (h : Upd F w w1) {p : Addr} {v : Value} (hc : w.cell? p = some v) (hn : ¬ F p.block) : w1.cell? p = some v := (World.cell?_of_block (h.keep _ (World.block_lt_of_cell? w p hc) hn)).trans hc
theorem Upd.cell0 (h : Upd NoF w w1) {p : Addr} {v : Value} (hc : w.cell? p = some v) : w1.cell? p = some v := h.cell hc (fun h => h)
/-- a whole block is given anew (a map, an iterator) -/
def putBlk (w : World) (g : Nat) (o : Obj) : World := { w with heap := w.heap.setIfInBounds g o }
theorem putBlk_same {w : World} {g : Nat} {o : Obj} (hg : g < w.heap.size) (o' : Obj) (h : o' = o) : (putBlk w g o').heap[g]? = some o := by subst h; simp [putBlk, hg]
theorem putBlk_far {w : World} {g k : Nat} (o : Obj) (h : k ≠ g) : (putBlk w g o).heap[k]? = w.heap[k]? := by simp [putBlk, Ne.symm h]
theorem putBlk_size (w : World) (g : Nat) (o : Obj) : (putBlk w g o).heap.size = w.heap.size := by simp [putBlk]
theorem Upd.put (h : Upd F w w1) {g : Nat} (hp : g < w.heap.size → F g) (o : Obj) : Upd F w (putBlk w1 g o) :=
  ⟨h.os, h.tape, h.output, by rw [putBlk_size]; exact h.size, fun k hk hn => (putBlk_far o (fun e => hn (by rw [e] at hk ⊢; exact hp hk))).trans (h.keep k hk hn)⟩

theorem Upd.put1 {g : Nat} (h : Upd (OneF g) w w1) (o : Obj) : Upd (OneF g) w (putBlk w1 g o) := Upd.put (g := g) h (fun _ => (rfl : g = g)) o

/-! ### a struct stored whole, or into the midst of a block -/
def putCells (cs : Array Value) : Nat → List Value → Array Value
  | _, [] => cs
  | o, v :: r => putCells (cs.setIfInBounds o v) (o + 1) r
theorem putCells_size : ∀ (vs : List Value) (cs : Array Value) (o : Nat), (putCells cs o vs).size = cs.size
  | [], _, _ => rfl
  | v :: r, cs, o => by rw [putCells, putCells_size r]; simp
theorem putCells_get : ∀ (vs : List Value) (cs : Array Value) (o j : Nat), (putCells cs o vs)[j]? = if o ≤ j ∧ j < o + vs.length ∧ j < cs.size then vs[j - o]? else cs[j]?
  | [], cs, o, j => by
    rw [putCells, if_neg]
    simp only [List.length_nil]; omega
  | v :: r, cs, o, j => by
    rw [putCells, putCells_get r]
    simp only [Array.size_setIfInBounds, List.length_cons]
    by_cases h : o = j
    · subst h
      rw [if_neg (by omega)]
      by_cases hs : o < cs.size
      · rw [if_pos (by omega)]; simp [hs]
      · rw [if_neg (by omega)]; simp [hs]
    · by_cases h2 : o ≤ j ∧ j < o + (r.length + 1) ∧ j < cs.size
      · rw [if_pos h2, if_pos (by omega)]
        rw [show j - o = (j - (o + 1)) + 1 by omega]; simp
      · rw [if_neg h2, if_neg (by omega)]
        simp [h]
theorem putCells_whole {vs : List Value} {cs : Array Value} (h : vs.length = cs.size) : putCells cs 0 vs = vs.toArray := by
  apply Array.ext_getElem?
  intro j
  rw [putCells_get]
  by_cases hj : j < cs.size
  · rw [if_pos (by omega)]; simp
  · rw [if_neg (by omega)]
    rw [Array.getElem?_eq_none (by omega)]
    simp; omega
theorem blk_setCells {g : Nat} {t : TypeId} {fr : Nat × Nat} : ∀ (vs : List Value) (o : Nat) (w : World) (cs : Array Value), w.heap[g]? = some (.cells cs t fr) → (w.setCells g o vs).heap[g]? = some (.cells (putCells cs o vs) t fr)
  | [], _, _, _, h => h
  | v :: r, o, _, _, h => blk_setCells r (o + 1) _ _ (blk_set h o v)
theorem Upd.setCells {g : Nat} : ∀ (vs : List Value) (o : Nat) {w w1 : World}, Upd (OneF g) w w1 → Upd (OneF g) w (w1.setCells g o vs)
  | [], _, _, _, h => h
  | v :: r, o, _, _, h => Upd.setCells r (o + 1) (h.set1 o v)
theorem range_blk {g : Nat} {cs : List Value} {t : TypeId} {fr : Nat × Nat} {w : World} (h : w.heap[g]? = some (.cells cs.toArray t fr)) : w.rangeAt g 0 cs := fun j v hv => by rw [blk_cell h]; simpa using hv
theorem there_blk {g : Nat} {cs : Array Value} {t : TypeId} {w : World} (h : w.heap[g]? = some (.cells cs t (0, 0))) : w.there g 0 cs.size := fun j hj => ⟨by rw [blk_cell h]; simp [hj], blk_free h _⟩
section
variable {P : Program}
theorem wp_store_blk {op : Oper} {a : Act} {w : World} {K : Act → World → Prop} {Q : Exit → Act → World → Prop} (ty : TypeId) (x y : Operand) (ho : op.op = .store ty x y)
    (g o : Nat) (cells : Array Value) (hx : a.eval x = .pointer (some ⟨g, o, none⟩)) (hy : a.eval y = .agg cells) (old : Array Value) (t : TypeId) (hg : w.heap[g]? = some (.cells old t (0, 0)))
    (hs : o + cells.size ≤ old.size) (hi : (P.info? ty).map (·.size) = some cells.size) (h1 : cells.toList.all (·.oneCell') = true)
    (h : ∀ w', w'.heap[g]? = some (.cells (putCells old o cells.toList) t (0, 0)) → Upd (OneF g) w w' → K (a.put op.dst undef) w') : op.wp P a w K Q :=
  wp_store_mid ty x y ho g o cells hx hy (fun j hj => ⟨by rw [blk_cell hg, Array.getElem?_eq_getElem (by omega)]; rfl, blk_free hg _⟩) hi (by simpa using h1)
    (h _ (blk_setCells _ _ _ _ hg) ((Upd.refl _ _).setCells _ _))
theorem wpList_store_blk {ops : Array Oper} {rest : List Oper} {op : Oper} {a : Act} {w : World} {Q : Exit → Act → World → Prop} (hgd : op.guard = none) (ty : TypeId) (x y : Operand) (ho : op.op = .store ty x y)
    (g o : Nat) (cells : Array Value) (hx : a.eval x = .pointer (some ⟨g, o, none⟩)) (hy : a.eval y = .agg cells) (old : Array Value) (t : TypeId) (hg : w.heap[g]? = some (.cells old t (0, 0)))
    (hs : o + cells.size ≤ old.size) (hi : (P.info? ty).map (·.size) = some cells.size) (h1 : cells.toList.all (·.oneCell') = true)
    (h : ∀ w', w'.heap[g]? = some (.cells (putCells old o cells.toList) t (0, 0)) → Upd (OneF g) w w' → wpList P ops Q rest (a.put op.dst undef) w') : wpList P ops Q (op :: rest) a w :=
  wpList_store_mid hgd ty x y ho g o cells hx hy (fun j hj => ⟨by rw [blk_cell hg, Array.getElem?_eq_getElem (by omega)]; rfl, blk_free hg _⟩) hi (by simpa using h1)
    (h _ (blk_setCells _ _ _ _ hg) ((Upd.refl _ _).setCells _ _))
end

/-! ### a region that draws its order, by hand: take what yields its value first; then what comes up alone -/
section
variable {P : Program} {ops : Array Oper} {Q : Exit → Act → World → Prop} {md : Region.Mode} {S : World → Prop}
theorem held_take (i : Nat) (v : Value) {oi : Oper} {fuel : Nat} {listed : Array Bool} {a : Act} {w : World} (hi : ops[i]? = some oi)
    (hs : Region.noSelect ops = true) (hf : Region.free md ops listed i = true) (hr : (Region.ready md ops listed).contains i = true)
    (hQ : ∀ c a w, Q (.panic c) (a.put oi.dst v) w → Q (.panic c) a w) (hw : Region.wanted oi (yielded ops a.tmps) = true) (hS : S w)
    (hy : ∀ w, S w → (execOp a.eval oi).run P w = .ok (.value v) w)
    (h : wpAnyH P md ops Q S fuel (listed.setIfInBounds i true) (a.put oi.dst v) w) : wpAnyH P md ops Q S (fuel + 1) listed a w :=
  wpAnyH_take hi hs hf hr hQ (.inl ⟨hw, hy⟩) hS h
theorem held_one (i : Nat) {o : Oper} {fuel : Nat} {listed : Array Bool} {a : Act} {w : World} (hi : ops[i]? = some o) (hr : Region.ready md ops listed = [i]) (hw : Region.wanted o (yielded ops a.tmps) = true)
    (h : ∀ K : Act → World → Prop, (∀ a' w', S w' → wpAnyH P md ops Q S fuel (listed.setIfInBounds i true) a' w' → K a' w') → o.wp P a w K Q) : wpAnyH P md ops Q S (fuel + 1) listed a w :=
  wpAnyH_all hr (by simp) (fun j hj => by
    obtain rfl : j = i := by simpa using hj
    unfold wpOp
    simp only [hi, hw, if_true]
    exact .inl (h _ (fun _ _ hs hk => ⟨hs, hk⟩)))
theorem run_load_row_op {o : Oper} {a : Act} (ty : TypeId) (x : Operand) (ho : o.op = .load ty x) (g : Nat) (hx : a.eval x = .pointer (some ⟨g, 0, none⟩)) (t : TypeId) (cs : Array Value) (fr : Nat × Nat) (d : TypeDesc) {w : World} (hg : w.heap[g]? = some (.cells cs t fr))
    (hu : P.underlying ty = some d) (hd : (match d with | .struct _ | .array _ _ => true | _ => false) = true) (hi : (P.info? ty).map (·.size) = some cs.size) :
    (execOp a.eval o).run P w = .ok (.value (.agg cs)) w := by
  unfold execOp
  simp only [ho, hx, Instr.loadAt, Instr.sureAddr, Sem.run_bind, Sem.run_pure, Result.andThen_ok, run_loadVar_row w g t ty cs fr d hg hu hd hi]
end

/-! ### slices: what they read as -/
/-- v is a slice of l: element i is told by R of its sz cells; where there is one its block is in F -/
def Slc {α : Type} (R : α → List Value → Prop) (sz : Nat) (w : World) (F : Nat → Prop) (v : Value) (l : List α) : Prop :=
  ∃ a c, v = .slice a l.length c ∧ l.length ≤ c ∧ (l ≠ [] → ∃ g o, a = some ⟨g, o, none⟩ ∧ F g ∧ ∃ cur ty fr, w.heap[g]? = some (.cells cur ty fr) ∧
    ∀ i (h : i < l.length), ∃ cs, cs.length = sz ∧ R l[i] cs ∧ ∀ j, j < sz → cur[o + i * sz + j]? = cs[j]?)
theorem Slc.imp {α : Type} {R R' : α → List Value → Prop} {sz : Nat} {v : Value} {l : List α} (h : Slc R sz w F v l) (hm : ∀ k, F k → k < w.heap.size → w1.heap[k]? = w.heap[k]?) (hF : ∀ k, F k → G k) (hR : ∀ x cs, x ∈ l → R x cs → R' x cs) : Slc R' sz w1 G v l := by
  obtain ⟨a, c, hv, hc, h⟩ := h
  refine ⟨a, c, hv, hc, fun hl => ?_⟩
  obtain ⟨g, o, ha, hg, cur, ty, fr, hb, he⟩ := h hl
  refine ⟨g, o, ha, hF g hg, cur, ty, fr, (hm g hg (blk_lt hb)).trans hb, fun i hi => ?_⟩
  obtain ⟨cs, h1, h2, h3⟩ := he i hi
  exact ⟨cs, h1, hR _ _ (List.getElem_mem hi) h2, h3⟩
theorem Slc.nil {α : Type} (R : α → List Value → Prop) (sz : Nat) (w : World) (F : Nat → Prop) (a : Option Addr) (c : Nat) : Slc R sz w F (.slice a 0 c) ([] : List α) := ⟨a, c, rfl, Nat.zero_le _, fun h => absurd rfl h⟩

/-- bytes -/
def bcell (b : UInt8) (cs : List Value) : Prop := cs = [.int .u8 (b.toNat : Int)]
def Bytes (w : World) (F : Nat → Prop) (v : Value) (l : List UInt8) : Prop := Slc bcell 1 w F v l
/-- whole numbers -/
def icell (x : Int) (cs : List Value) : Prop := cs = [.int .i64 x]
def Ints (w : World) (F : Nat → Prop) (v : Value) (l : List Int) : Prop := Slc icell 1 w F v l
theorem Bytes.move {v : Value} {l : List UInt8} (h : Bytes w F v l) (hm : ∀ k, F k → k < w.heap.size → w1.heap[k]? = w.heap[k]?) : Bytes w1 F v l := Slc.imp h hm (fun _ h => h) (fun _ _ _ h => h)
theorem Bytes.mono {v : Value} {l : List UInt8} (h : Bytes w F v l) (hF : ∀ k, F k → G k) : Bytes w G v l := Slc.imp h (fun _ _ _ => rfl) hF (fun _ _ _ h => h)
theorem Bytes.upd {v : Value} {l : List UInt8} (h : Bytes w F v l) (hu : Upd G w w1) (hn : ∀ k, F k → ¬ G k) : Bytes w1 F v l := h.move (fun k hk hlt => hu.keep k hlt (hn k hk))
theorem Bytes.upd0 {v : Value} {l : List UInt8} (h : Bytes w F v l) (hu : Upd NoF w w1) : Bytes w1 F v l := h.upd hu (fun _ _ h => h)
theorem Bytes.bound {v : Value} {l : List UInt8} (h : Bytes w F v l) : Bytes w (fun k => F k ∧ k < w.heap.size) v l := by
  obtain ⟨a, c, hv, hc, h⟩ := h
  refine ⟨a, c, hv, hc, fun hl => ?_⟩
  obtain ⟨g, o, ha, hg, cur, ty, fr, hb, he⟩ := h hl
  exact ⟨g, o, ha, ⟨hg, blk_lt hb⟩, cur, ty, fr, hb, he⟩
theorem Bytes.slice {v : Value} {l : List UInt8} (h : Bytes w F v l) : ∃ a c, v = .slice a l.length c ∧ l.length ≤ c := let ⟨a, c, hv, hc, _⟩ := h; ⟨a, c, hv, hc⟩
theorem Bytes.at_ {a : Option Addr} {n c : Nat} {l : List UInt8} (h : Bytes w F (.slice a n c) l) (hl : l ≠ []) :
    ∃ g o, a = some ⟨g, o, none⟩ ∧ F g ∧ ∀ i (hi : i < l.length), w.cell? ⟨g, o + i, none⟩ = some (.int .u8 ((l[i]).toNat : Int)) := by
  obtain ⟨a', c', hv, hc, h⟩ := h
  cases hv
  obtain ⟨g, o, ha, hg, cur, ty, fr, hb, he⟩ := h hl
  refine ⟨g, o, ha, hg, fun i hi => ?_⟩
  obtain ⟨cs, h1, h2, h3⟩ := he i hi
  rw [blk_cell hb]
  have := h3 0 (by omega)
  simp only [Nat.mul_one, Nat.add_zero] at this
  rw [this, show cs = _ from h2]; rfl
theorem Ints.at_ {a : Option Addr} {n c : Nat} {l : List Int} (h : Ints w F (.slice a n c) l) (hl : l ≠ []) :
    ∃ g o, a = some ⟨g, o, none⟩ ∧ F g ∧ ∀ i (hi : i < l.length), w.cell? ⟨g, o + i, none⟩ = some (.int .i64 (l[i])) := by
  obtain ⟨a', c', hv, hc, h⟩ := h
  cases hv
  obtain ⟨g, o, ha, hg, cur, ty, fr, hb, he⟩ := h hl
  refine ⟨g, o, ha, hg, fun i hi => ?_⟩
  obtain ⟨cs, h1, h2, h3⟩ := he i hi
  rw [blk_cell hb]
  have := h3 0 (by omega)
  simp only [Nat.mul_one, Nat.add_zero] at this
  rw [this, show cs = _ from h2]; rfl
theorem Ints.upd {v : Value} {l : List Int} (h : Ints w F v l) (hu : Upd G w w1) (hn : ∀ k, F k → ¬ G k) : Ints w1 F v l := Slc.imp h (fun k hk hlt => hu.keep k hlt (hn k hk)) (fun _ h => h) (fun _ _ _ h => h)
theorem Ints.slice {v : Value} {l : List Int} (h : Ints w F v l) : ∃ a c, v = .slice a l.length c ∧ l.length ≤ c := let ⟨a, c, hv, hc, _⟩ := h; ⟨a, c, hv, hc⟩
end Go.Proofs.Ytplhgeecnnadhaa
