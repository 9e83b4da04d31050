/- The device: Pages. -/
import Derived.Test.YtplhgeecnnadhaaDevD
import Derived.Test.YtplhgeecnnadhaaRowIn
namespace Go.Proofs.Ytplhgeecnnadhaa
open Go.RowKit Go.Shelf
attribute [local go_sem] Oper.semAt_some
variable {F G : Nat → Prop} {w w1 : World} {d : Nat} {s : DS}
/-- a slice of slices of bytes -/
def Blks (w : World) (F : Nat → Prop) (v : Value) (ls : List (List UInt8)) : Prop :=
  ∃ ps : List (Value × List UInt8), Slc (fun p cs => cs = [p.1]) 1 w F v ps ∧ (∀ p ∈ ps, Bytes w F p.1 p.2) ∧ ps.map Prod.snd = ls
def wholes (l : List (Int × List UInt8)) : List (List UInt8) := (l.filter (fun p => p.1 == 1)).map Prod.snd
def DS.whole (s : DS) : List (List UInt8) := wholes s.pages
theorem info_sl : (Try.prog.info? 23).map (fun i => (i.zero, i.size, i.bytes)) = some (some (.slice none 0 0), 1, 24) := by kernel_rfl
/-- between two rounds -/
def PagesJ (w : World) (s : DS) (fn : FuncId) (tmps : Array Value) (ps : Array Tmp) (assign body : Code) (k : Nat) (W : World) : Prop :=
  W.heap[w.heap.size + 3]? = some (loopRec fn tmps ps assign body (w.heap.size + 2) .ready none) ∧ W.heap[w.heap.size + 2]? = some (.deferred (some [])) ∧ Upd NoF w W ∧
  W.heap[w.heap.size + 1]? = some (.cells #[.pointer (some ⟨d, 0, none⟩)] 25 (0, 0)) ∧
  ∃ (v : Value) (vs : List (Value × List UInt8)), W.heap[w.heap.size]? = some (.cells #[v] 22 (0, 0)) ∧ Row W (fun q => w.heap.size + 4 ≤ q) 23 1 v vs.length (vs.map Prod.fst) ∧
    (∀ p ∈ vs, Bytes W (fun q => w.heap.size + 4 ≤ q ∧ v.ownBlock ≠ some q) p.1 p.2) ∧ vs.map Prod.snd = wholes (s.pages.take k)
theorem PagesJ.step {fn : FuncId} {tmps : Array Value} {ps : Array Tmp} {assign body : Code} {k : Nat} {W W' : World} (h : PagesJ (d := d) w s fn tmps ps assign body k W) (hu : Upd NoF W W') : PagesJ (d := d) w s fn tmps ps assign body k W' := by
  obtain ⟨h1, h2, h3, h4, v, vs, h5, h6, h7, h8⟩ := h
  exact ⟨hu.blk0 h1, hu.blk0 h2, h3.then0 hu, hu.blk0 h4, v, vs, hu.blk0 h5, h6.upd hu (fun _ _ h => h), fun p hp => (h7 p hp).upd0 hu, h8⟩
theorem pages_all {w2 W1 : World} {fn : FuncId} {tmps : Array Value} {ps : Array Tmp} {assign body : Code} (hW1 : W1 = (w2.alloc (.deferred (some []))).alloc (loopRec fn tmps ps assign body (w.heap.size + 2) .ready none)) (hdev : DevAt w F d s) (hu : Upd NoF w w2)
    (hsz : w2.heap.size = w.heap.size + 2) (hO : w2.heap[w.heap.size]? = some (.cells #[.slice none 0 0] 22 (0, 0))) (hB : w2.heap[w.heap.size + 1]? = some (.cells #[.pointer (some ⟨d, 0, none⟩)] 25 (0, 0)))
    (hY : ∀ k Wb W v (h : k < s.pages.length), PagesJ (d := d) w s fn tmps ps assign body k Wb → Upd NoF Wb W → s.pages[k].1 = 1 → Bytes W (fun q => Wb.heap.size ≤ q) v s.pages[k].2 → IsSlice v → YieldAt Fence.wide 3 Try.prog (w.heap.size + 3) #[v] W fun e W' => e = .returned (.bool true) ∧ PagesJ (d := d) w s fn tmps ps assign body (k + 1) W') :
    CallsIn Fence.wide 4 Try.prog 110 #[.func (.yield (w.heap.size + 3)) #[] #[], .pointer (some ⟨w.heap.size + 1, 0, none⟩)] W1 fun e W' => (∃ v, e = .returned v) ∧ PagesJ (d := d) w s fn tmps ps assign body s.pages.length W' := by
  have HD := Lib.hid hdev
  refine all1_in (F := F) 4 (w.heap.size + 3) (w.heap.size + 1) w2 W1 (PagesJ (d := d) w s fn tmps ps assign body) (HD.out.upd hu (fun _ _ h => h)) (by rw [blk_cell hB]; rfl) ?hkeep (fun k W W' hj hu => hj.step hu) ?hskip hY ?h0
  case hkeep =>
    intro k W hj
    obtain ⟨j1, j2, j3, j4, _⟩ := hj
    refine ⟨j3.os.trans hu.os.symm, j3.tape.trans hu.tape.symm, j3.output.trans hu.output.symm, by rw [hsz]; have := blk_lt j1; omega, fun q hq hn => ?_⟩
    simp only [Classical.not_not] at hn
    rcases hn with h | rfl
    · have hlt := HD.out.lt q h
      exact (j3.keep q hlt (fun h => h)).trans (hu.keep q hlt (fun h => h)).symm
    · rw [j4, hB]
  case hskip =>
    intro k W hk hne hj
    obtain ⟨j1, j2, j3, j4, v, vs, j5, j6, j7, j8⟩ := hj
    refine ⟨j1, j2, j3, j4, v, vs, j5, j6, j7, ?_⟩
    rw [j8, List.take_succ_eq_append_getElem hk, wholes, wholes, List.filter_append, List.map_append]
    simp [hne]
  case h0 =>
    have hD : (w2.alloc (.deferred (some []))).heap[w.heap.size + 2]? = some (.deferred (some [])) := by rw [← hsz]; exact blk_new w2 _
    have hl : W1.heap[w.heap.size + 3]? = some (loopRec fn tmps ps assign body (w.heap.size + 2) .ready none) := by
      rw [hW1]
      have := blk_new (w2.alloc (.deferred (some []))) (loopRec fn tmps ps assign body (w.heap.size + 2) .ready none)
      rwa [show (w2.alloc (.deferred (some []))).heap.size = w.heap.size + 3 by simp [hsz]] at this
    have hu1 : Upd NoF w2 W1 := by rw [hW1]; exact ((Upd.refl NoF w2).alloc _).alloc _
    refine ⟨hl, ?_, hu.then0 hu1, hu1.blk0 hB, .slice none 0 0, [], hu1.blk0 hO, Row.nil _ _ _ _, fun p hp => (by cases hp), rfl⟩
    rw [hW1]; exact blk_alloc hD _
theorem Row.slc {e : TypeId} {α : Type} {f : α → Value} {v : Value} {l : List α} (h : Row w F e 1 v l.length (l.map f)) (hF : ∀ q, F q → G q) : Slc (fun p cs => cs = [f p]) 1 w G v l := by
  obtain ⟨a, c, rfl, hc, _, hn, hs⟩ := h.slice
  refine ⟨a, c, rfl, hc, fun hl => ?_⟩
  cases a with
  | none => have := (hn rfl).1; exact absurd (List.length_eq_zero_iff.1 this) hl
  | some x =>
    obtain ⟨hx, hf⟩ := hs x rfl
    obtain ⟨g, o, sp⟩ := x
    simp only [Addr.mk.injEq, true_and] at hx
    obtain ⟨rfl, rfl⟩ := hx
    obtain ⟨⟨h1, h2⟩, h3⟩ := h
    rcases h2 with ⟨hv, _⟩ | ⟨g', cap, cur, hv, hb, hg, hnc, hcm, hcs, htk⟩
    · cases hv
    · cases hv
      refine ⟨g, 0, rfl, hF g hf, cur, e, (0, 0), hg, fun i hi => ⟨_, rfl, rfl, fun j hj => ?_⟩⟩
      obtain rfl : j = 0 := by omega
      have h1 := congrArg (fun q => q[i]?) htk
      simp only [Nat.mul_one, List.getElem?_map, List.getElem?_eq_getElem hi, Option.map_some] at h1
      rw [List.getElem?_take, if_pos hi] at h1
      simpa using h1
theorem results_c1 {P : Program} {fn : Func} {p : Tmp} {ty : TypeId} (h : fn.results = #[.cell p ty]) (tmps : Array Value) (w : World) (g : Nat) (v : Value) (d : TypeDesc)
    (hp : tmps.getD p undef = .pointer (some ⟨g, 0, none⟩)) (hc : w.cell? ⟨g, 0, none⟩ = some v) (hu : P.underlying ty = some d) (hd : (match d with | .struct _ | .array _ _ => false | _ => true) = true) :
    (results fn tmps).run P w = .ok v w := by
  have hp' : tmps[p]?.getD undef = .pointer (some ⟨g, 0, none⟩) := by simpa using hp
  have h1 : (isAgg ty).run P w = .ok false w := by
    unfold isAgg
    rw [Sem.run_bind, run_underlying hu]
    cases d <;> simp_all
  have h2 : (load ⟨g, 0, none⟩).run P w = .ok v w := by simp [go_sem, hc]
  have h3 : (loadVar ty ⟨g, 0, none⟩).run P w = .ok v w := by simp only [loadVar, Sem.run_bind, h1, Result.andThen_ok, Bool.false_eq_true, if_false, h2]
  simp [results, h, hp', asAddr, h3]
theorem upd_putObj' (W : World) (l : Nat) (o : Obj) : Upd (OneF l) W (W.putObj l o) :=
  ⟨rfl, rfl, rfl, by simp, fun k _ hn => World.putObj_heap_other (fun e => hn e)⟩
theorem pages_close {fn : FuncId} {tmps : Array Value} {ps : Array Tmp} {assign body : Code} {k n0 : Nat} {W w6 : World} {v v' : Value} {v0 : Value} {vs : List (Value × List UInt8)} (hk : k < s.pages.length) (h1 : s.pages[k].1 = 1)
    (hj : W.heap[w.heap.size + 3]? = some (loopRec fn tmps ps assign body (w.heap.size + 2) .ready none)) (hj2 : W.heap[w.heap.size + 2]? = some (.deferred (some []))) (hj3 : Upd NoF w W) (hj4 : W.heap[w.heap.size + 1]? = some (.cells #[.pointer (some ⟨d, 0, none⟩)] 25 (0, 0)))
    (j5 : W.heap[w.heap.size]? = some (.cells #[v0] 22 (0, 0))) (j6 : Row W (fun q => w.heap.size + 4 ≤ q) 23 1 v0 vs.length (vs.map Prod.fst)) (j7 : ∀ p ∈ vs, Bytes W (fun q => w.heap.size + 4 ≤ q ∧ v0.ownBlock ≠ some q) p.1 p.2) (j8 : vs.map Prod.snd = wholes (s.pages.take k))
    (hb : Bytes W (fun q => n0 ≤ q) v s.pages[k].2) (hn0 : w.heap.size + 4 ≤ n0) (hbn : ∀ q, v0.ownBlock = some q → q < n0) (b : Obj) (x : Obj)
    (r6 : Row w6 (fun q => w.heap.size + 4 ≤ q ∨ W.heap.size + 1 ≤ q) 23 1 v' (vs.length + 1) (vs.map Prod.fst ++ [v])) (u6 : Upd (fun q => v0.ownBlock = some q) ((W.putObj (w.heap.size + 3) b).alloc x) w6)
    (o6 : ∀ q, v'.ownBlock = some q → v0.ownBlock = some q ∨ W.heap.size + 1 ≤ q) (y : Obj) (hy : y = loopRec fn tmps ps assign body (w.heap.size + 2) .ready none) :
    PagesJ (d := d) w s fn tmps ps assign body (k + 1) ((w6.setCell ⟨w.heap.size, 0, none⟩ v').putObj (w.heap.size + 3) y) := by
  have hl := blk_lt hj
  have hown : ∀ q, v0.ownBlock = some q → w.heap.size + 4 ≤ q := fun q h => j6.2 q h
  have uA := upd_putObj' W (w.heap.size + 3) b
  have uB := (Upd.refl NoF (W.putObj (w.heap.size + 3) b)).alloc x
  have hz5 : ((W.putObj (w.heap.size + 3) b).alloc x).heap.size = W.heap.size + 1 := by simp
  have uC : Upd (OneF w.heap.size) w6 (w6.setCell ⟨w.heap.size, 0, none⟩ v') := (Upd.refl _ _).set1 _ _
  have uD := upd_putObj' (w6.setCell ⟨w.heap.size, 0, none⟩ v') (w.heap.size + 3) y
  have hz6 := u6.size
  have hz7 : (w6.setCell ⟨w.heap.size, 0, none⟩ v').heap.size = w6.heap.size := by simp [World.setCell]
  have go : ∀ {q : Nat} {o : Obj}, W.heap[q]? = some o → q < w.heap.size + 3 → q ≠ w.heap.size → ((w6.setCell ⟨w.heap.size, 0, none⟩ v').putObj (w.heap.size + 3) y).heap[q]? = some o := fun h1 h2 h3 =>
    uD.blk (uC.blk (u6.blk (uB.blk0 (uA.blk h1 (by simp only [OneF]; omega))) (fun h => by have := hown _ h; omega)) (by simp only [OneF]; omega)) (by simp only [OneF]; omega)
  refine ⟨?_, go hj2 (by omega) (by omega), ?_, go hj4 (by omega) (by omega), v', vs ++ [(v, s.pages[k].2)], ?_, ?_, ?_, ?_⟩
  · rw [← hy]; exact World.putObj_heap_same (by omega)
  · exact ((((hj3.trans uA (fun i hi h => by simp only [OneF] at h; omega)).then0 uB).trans u6 (fun i hi h => by have := hown i h; omega)).trans uC (fun i hi h => by simp only [OneF] at h; omega)).trans uD (fun i hi h => by simp only [OneF] at h; omega)
  · refine uD.blk ?_ (by simp only [OneF]; omega)
    have := blk_set (u6.blk (uB.blk0 (uA.blk j5 (by simp only [OneF]; omega))) (fun h => by have := hown _ h; omega)) 0 v'
    simpa using this
  · rw [List.length_append, List.length_singleton, List.map_append]
    exact ((r6.upd uC (fun q hq h => by simp only [OneF] at h; omega)).upd uD (fun q hq h => by simp only [OneF] at h; omega)).mono (fun q hq => by omega)
  · intro p hp
    rcases List.mem_append.1 hp with h | h
    · refine (((((((j7 p h).bound.upd uA (fun q hq h => by simp only [OneF] at h; omega)).upd0 uB).upd u6 (fun q hq h => hq.1.2 h)).upd uC (fun q hq h => by simp only [OneF] at h; omega)).upd uD (fun q hq h => by simp only [OneF] at h; omega))).mono (fun q hq => ⟨hq.1.1, fun h => ?_⟩)
      rcases o6 q h with h | h
      · exact hq.1.2 h
      · omega
    · simp only [List.mem_singleton] at h
      subst h
      refine ((((((hb.bound.upd uA (fun q hq h => by simp only [OneF] at h; omega)).upd0 uB).upd u6 (fun q hq h => by have := hbn q h; omega)).upd uC (fun q hq h => by simp only [OneF] at h; omega)).upd uD (fun q hq h => by simp only [OneF] at h; omega))).mono (fun q hq => ⟨by omega, fun h => ?_⟩)
      rcases o6 q h with h | h
      · have := hbn q h; omega
      · omega
  · rw [List.map_append, j8, List.take_succ_eq_append_getElem hk, wholes, wholes, List.filter_append, List.map_append]
    simp [h1]
theorem pages_fin {W : World} {v0 : Value} {vs : List (Value × List UInt8)} {o : Obj} (hu : Upd NoF w W) (j2 : W.heap[w.heap.size + 2]? = some (.deferred (some []))) (j5 : W.heap[w.heap.size]? = some (.cells #[v0] 22 (0, 0)))
    (j6 : Row W (fun q => w.heap.size + 4 ≤ q) 23 1 v0 vs.length (vs.map Prod.fst)) (j7 : ∀ p ∈ vs, Bytes W (fun q => w.heap.size + 4 ≤ q ∧ v0.ownBlock ≠ some q) p.1 p.2) (j8 : vs.map Prod.snd = wholes (s.pages.take s.pages.length)) :
    ((W.putObj (w.heap.size + 2 + 1) o).setCell ⟨w.heap.size, 0, none⟩ v0).heap[w.heap.size + 2]? = some (.deferred (some [])) ∧
    (((W.putObj (w.heap.size + 2 + 1) o).setCell ⟨w.heap.size, 0, none⟩ v0).putObj (w.heap.size + 2) (.deferred none)).cell? ⟨w.heap.size, 0, none⟩ = some v0 ∧
    Blks (((W.putObj (w.heap.size + 2 + 1) o).setCell ⟨w.heap.size, 0, none⟩ v0).putObj (w.heap.size + 2) (.deferred none)) (fun q => w.heap.size ≤ q) v0 s.whole ∧
    Upd NoF w (((W.putObj (w.heap.size + 2 + 1) o).setCell ⟨w.heap.size, 0, none⟩ v0).putObj (w.heap.size + 2) (.deferred none)) := by
  have uA := upd_putObj' W (w.heap.size + 2 + 1) o
  have uC : Upd (OneF w.heap.size) (W.putObj (w.heap.size + 2 + 1) o) ((W.putObj (w.heap.size + 2 + 1) o).setCell ⟨w.heap.size, 0, none⟩ v0) := (Upd.refl _ _).set1 _ _
  have uD := upd_putObj' ((W.putObj (w.heap.size + 2 + 1) o).setCell ⟨w.heap.size, 0, none⟩ v0) (w.heap.size + 2) (.deferred none)
  have hO : ((W.putObj (w.heap.size + 2 + 1) o).setCell ⟨w.heap.size, 0, none⟩ v0).heap[w.heap.size]? = some (.cells #[v0] 22 (0, 0)) := by
    have := blk_set (uA.blk j5 (by simp only [OneF]; omega)) 0 v0
    simpa using this
  refine ⟨uC.blk (uA.blk j2 (by simp only [OneF]; omega)) (by simp only [OneF]; omega), ?_, ?_, ?_⟩
  · have := blk_cell (uD.blk hO (by simp only [OneF]; omega)) 0
    simpa using this
  · have r := ((j6.upd uA (fun q hq h => by simp only [OneF] at h; omega)).upd uC (fun q hq h => by simp only [OneF] at h; omega)).upd uD (fun q hq h => by simp only [OneF] at h; omega)
    refine ⟨vs, ?_, fun p hp => ((((j7 p hp).upd uA (fun q hq h => by simp only [OneF] at h; omega)).upd uC (fun q hq h => by simp only [OneF] at h; omega)).upd uD (fun q hq h => by simp only [OneF] at h; omega)).mono (fun q hq => by omega), by rw [j8, List.take_length]; rfl⟩
    exact r.slc (fun q hq => by omega)
  · exact ((hu.trans uA (fun i hi h => by simp only [OneF] at h; omega)).trans uC (fun i hi h => by simp only [OneF] at h; omega)).trans uD (fun i hi h => by simp only [OneF] at h; omega)
theorem upd_putObj (W : World) (l : Nat) (o : Obj) : Upd (OneF l) W (W.putObj l o) := upd_putObj' W l o
set_option maxRecDepth 100000 in
set_option maxHeartbeats 4000000 in
theorem dev_pages (w : World) (h : DevAt w F d s) :
    Calls Try.prog 24 #[.pointer (some ⟨d, 0, none⟩)] w (fun r w' => ∃ v, r = .returned v ∧ Blks w' (fun q => w.heap.size ≤ q) v s.whole ∧ Upd NoF w w') := by
  have HD := Lib.hid h
  clear h
  refine (callsIn_wide (n := 5)).1 ?_
  refine callsIn_of_wp_marks Try.func24 rfl trivial ?_ rfl
  simp only [Try.ntmps24, List.size_toArray, List.length_cons, List.length_nil, Nat.reduceAdd, Nat.reduceSub, Array.replicate_succ, Array.replicate_zero, List.push_toArray, List.append_toArray, List.nil_append, List.cons_append]
  gi_wp2
  refine ⟨trivial, (callsIn_wide.2 (all_any _)).mono ?_⟩
  rintro e w2 ⟨rfl, rfl⟩
  gi_wp2
  have hsz : ((w.alloc (.cells #[.slice none 0 0] 22)).alloc (.cells #[.pointer (some ⟨d, 0, none⟩)] 25)).heap.size = w.heap.size + 2 := by simp
  have hszO : (w.alloc (.cells #[.slice none 0 0] 22)).heap.size = w.heap.size + 1 := by simp
  have hO := blk_alloc (blk_new w (.cells #[.slice none 0 0] 22)) (.cells #[.pointer (some ⟨d, 0, none⟩)] 25)
  have hB := blk_new (w.alloc (.cells #[.slice none 0 0] 22)) (.cells #[.pointer (some ⟨d, 0, none⟩)] 25)
  have hu := ((Upd.refl NoF w).alloc (.cells #[.slice none 0 0] 22)).alloc (.cells #[.pointer (some ⟨d, 0, none⟩)] 25)
  rw [hszO] at hB
  generalize hw2 : (w.alloc (.cells #[.slice none 0 0] 22)).alloc (.cells #[.pointer (some ⟨d, 0, none⟩)] 25) = w2 at *
  refine range_walk (fun _ => trivial) rfl rfl rfl (enters_of Try.func110 (by kernel_rfl) rfl) ?_
  intro fn W1 hW1
  rw [hsz] at hW1 ⊢
  refine (pages_all hW1 HD.out hu hsz hO hB ?hY).mono ?_
  case hY =>
    intro k Wb W v hk hj huW h1 hb hsl
    obtain ⟨j1, j2, j3, j4, v0, vs, j5, j6, j7, j8⟩ := hj
    have hn0 : w.heap.size + 4 ≤ Wb.heap.size := by have := blk_lt j1; omega
    have hbn : ∀ q, v0.ownBlock = some q → q < Wb.heap.size := j6.lt
    have r1 := huW.blk0 j1
    have r2 := huW.blk0 j2
    have r3 := j3.then0 huW
    have r4 := huW.blk0 j4
    have r5 := huW.blk0 j5
    have r6' := j6.upd huW (fun _ _ h => h)
    have r7 : ∀ p ∈ vs, Bytes W (fun q => w.heap.size + 4 ≤ q ∧ v0.ownBlock ≠ some q) p.1 p.2 := fun p hp => (j7 p hp).upd0 huW
    have hcb : ∀ o, (W.putObj (w.heap.size + 3) o).cell? ⟨w.heap.size, 0, none⟩ = some v0 := fun o => (upd_putObj W _ o).cell (by rw [blk_cell r5]; rfl) (by simp only [OneF]; omega)
    have hfb : ∀ o, (W.putObj (w.heap.size + 3) o).frozen? ⟨w.heap.size, 0, none⟩ = false := fun o => blk_free ((upd_putObj W _ o).blk r5 (by simp only [OneF]; omega)) 0
    have hRb : ∀ o, Row (W.putObj (w.heap.size + 3) o) (fun q => w.heap.size + 4 ≤ q) 23 1 v0 vs.length (vs.map Prod.fst) := fun o => r6'.upd (upd_putObj W _ o) (fun q hq h => by simp only [OneF] at h; omega)
    have HR := Lib.hid hRb
    have CL := Lib.hid (fun (w6 : World) (v' : Value) => pages_close (w6 := w6) (v := v) (v' := v') hk h1 r1 r2 r3 r4 r5 r6' r7 j8 hb hn0 hbn)
    have R1 := Lib.hid r1
    have R5 := Lib.hid r5
    have HWL := Lib.hid (show vs.length ≤ 65536 by
      have h1 := congrArg List.length j8
      simp only [List.length_map, wholes] at h1
      have h2 := List.length_filter_le (fun p : Int × List UInt8 => p.1 == 1) (s.pages.take k)
      have h3 := HD.out.ok
      have h4 : (s.pages.take k).length ≤ s.pages.length := by rw [List.length_take]; omega
      have h5 := h3.2.2.1; have h6 := h3.2.1
      omega)
    have HOW := Lib.hid j6.2
    have hbn2 : ∀ q, v0.ownBlock = some q → q ≠ w.heap.size + 3 := fun q h => by have := j6.2 q h; omega
    obtain ⟨va, vn, vc, rfl⟩ := hsl
    obtain ⟨a0, c0, hv0, _⟩ := j6.slice
    subst hv0
    obtain ⟨i0, hi, hz0, hz1, hz2⟩ := info_parts info_sl
    have hnew : ∀ (o : Obj) (t : TypeId), ((W.putObj (w.heap.size + 3) o).alloc (.cells #[.slice va vn vc] t)).cell? ⟨W.heap.size, 0, none⟩ = some (.slice va vn vc) := fun o t => by
      have := cell_new (w := W.putObj (w.heap.size + 3) o) (cs := #[.slice va vn vc]) (t := t) (i := 0) (v := .slice va vn vc) rfl
      rwa [World.putObj_size] at this
    have HNEW := Lib.hid hnew
    clear hnew
    refine yield_at (fun _ => trivial) r1 rfl ?_
    clear j1 j2 j3 j4 j5 j6 j7 j8 hb hRb hO hB hsz hszO hu hW1 hw2 r1 r2 r3 r4 r5 r6' r7 hbn huW
    gi_wp2
    refine ⟨R1.out, ?_⟩
    gi_wp2_with (gi_at_builtin; refine wpListIn_append_row rfl _ _ 22 rfl 23 i0 (.slice none 0 0) 1 24 Try.underlying22 hi hz0 hz1 hz2 rfl (by decide) rfl ((HR.out _).upd ((Upd.refl NoF _).alloc _) (fun _ _ h => h)) ⟨W.heap.size, 0, none⟩ 1 1 [.slice va vn vc] rfl rfl ?qc1 ?qc2 ?qc3 ?qc4 ?_)
    case qc1 =>
      intro j u hj
      cases j with
      | succ j => simp at hj
      | zero =>
        obtain rfl : u = .slice va vn vc := by simpa using hj.symm
        exact HNEW.out _ _
    case qc2 => intro u hu; simp only [List.mem_singleton] at hu; subst hu; rfl
    case qc3 => have := HWL.out; unfold maxLen; omega
    case qc4 => have := HWL.out; omega
    intro v' w6 r6 u6 o6
    obtain ⟨a', c', rfl, _⟩ := r6.slice
    have h56 := u6.blk (((Upd.refl NoF (W.putObj (w.heap.size + 3) _)).alloc _).blk0 ((upd_putObj W _ _).blk R5.out (by simp only [OneF]; omega))) (fun h => by have := HOW.out _ h; omega)
    have c6 := blk_cell h56 0
    have f6 := blk_free h56 0
    simp at c6
    have R6 := Lib.hid r6
    have U6 := Lib.hid u6
    have O6 := Lib.hid o6
    have H56 := Lib.hid h56
    clear r6 u6 o6 h56
    gi_wp2
    refine ⟨?_, rfl, CL.out w6 _ _ _ R6.out U6.out O6.out _ rfl⟩
    refine blk_far ?_ (by simp only; omega) _
    refine U6.out.blk ?_ (fun h => hbn2 _ h rfl)
    exact blk_alloc (World.putObj_heap_same (blk_lt R1.out)) _
  rintro e W ⟨⟨v, rfl⟩, hj⟩
  refine ⟨⟨_, rfl⟩, .inl ⟨hj.1, ?_⟩⟩
  obtain ⟨j1, j2, j3, j4, v0, vs, j5, j6, j7, j8⟩ := hj
  have uD := fun o => upd_putObj W (w.heap.size + 3) o
  have hcb : ∀ o, (W.putObj (w.heap.size + 3) o).cell? ⟨w.heap.size, 0, none⟩ = some v0 := fun o => (uD o).cell (by rw [blk_cell j5]; rfl) (by simp only [OneF]; omega)
  have hfb : ∀ o, (W.putObj (w.heap.size + 3) o).frozen? ⟨w.heap.size, 0, none⟩ = false := fun o => blk_free ((uD o).blk j5 (by simp only [OneF]; omega)) 0
  obtain ⟨a0, c0, hv0, _⟩ := j6.slice
  subst hv0
  have J1 := Lib.hid j1
  have J2 := Lib.hid j2
  have J3 := Lib.hid j3
  have J5 := Lib.hid j5
  have J6 := Lib.hid j6
  have J7 := Lib.hid j7
  have J8 := Lib.hid j8
  have UD := Lib.hid uD
  clear j1 j2 j3 j4 j5 j6 j7 j8 uD hO hB hsz hszO hu hW1 hw2
  gi_wp2
  have hfin := fun (o : Obj) => pages_fin (o := o) J3.out J2.out J5.out J6.out J7.out J8.out
  refine ⟨by simp, .inl ⟨_, _, rfl, run_takeDeferred (hfin _).1, ?_⟩⟩
  exact ⟨_, results_c1 rfl _ _ _ _ _ rfl (hfin _).2.1 Try.underlying22 rfl, _, rfl, (hfin _).2.2⟩
end Go.Proofs.Ytplhgeecnnadhaa
