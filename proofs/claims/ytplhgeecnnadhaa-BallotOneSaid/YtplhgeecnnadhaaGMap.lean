/- Maps with keys of any kind that is told by a plain one, as they lie in memory. -/
import Derived.Test.YtplhgeecnnadhaaMap
namespace Go.Proofs.Ytplhgeecnnadhaa
open Go.RowKit
/-- keys of the kind are found as plain ones are -/
structure KeyOk {K : Type} [DecidableEq K] (P : Program) (ke : TypeId) (enc : K → Value) : Prop where
  inj : ∀ a b, enc a = enc b → a = b
  find : ∀ (k : K) (l : List MapEntry) (kv : List (K × Value)) (w : World), l.map (fun e => (e.key, e.val)) = kv.map (fun p => (enc p.1, p.2)) →
    (Instr.findKey ke (enc k) l).run P w = .ok ((kv.findIdx? (fun p => p.1 == k)).map (fun j => (j, ((kv.find? (fun p => p.1 == k)).map Prod.snd).getD undef))) w
  check : ∀ (b : Bool) (k : K) (w : World), (Instr.checkKey b 10000 ke (enc k)).run P w = .ok () w
  same : ∀ k : K, Instr.sameBits 10000 (enc k) (enc k) = true
variable {K : Type} {enc : K → Value}
/-- block m of w is a map with these keys and values, in the order in which they came -/
def GMap (enc : K → Value) (w : World) (m : Nat) (kv : List (K × Value)) : Prop :=
  ∃ es clock, w.heap[m]? = some (.map es clock) ∧ es.toList.map (fun e => (e.key, e.val)) = kv.map (fun p => (enc p.1, p.2)) ∧ (kv.map Prod.fst).Nodup ∧ (es.toList.map (·.born)).Nodup ∧ ∀ e ∈ es.toList, e.born < clock
variable {F G : Nat → Prop} {w w1 w2 : World} {m : Nat} {kv : List (K × Value)}
theorem GMap.lt (h : GMap enc w m kv) : m < w.heap.size := let ⟨_, _, h, _⟩ := h; blk_lt h
theorem GMap.upd (h : GMap enc w m kv) (hu : Upd F w w1) (hn : ¬ F m) : GMap enc w1 m kv := let ⟨es, c, h1, h2⟩ := h; ⟨es, c, hu.blk h1 hn, h2⟩
theorem GMap.made (w : World) : GMap enc (w.alloc (.map #[] 0)) w.heap.size [] := ⟨#[], 0, blk_new _ _, by simp, by simp, by simp, by simp⟩
/-- block r is an iterator over the map in block m, which reads as kv; todo is what is still to come -/
def GMapIter (enc : K → Value) (w : World) (r m : Nat) (kv todo : List (K × Value)) : Prop :=
  ∃ es clock seen, w.heap[m]? = some (.map es clock) ∧ w.heap[r]? = some (.mapIter (some m) clock seen clock) ∧ es.toList.map (fun e => (e.key, e.val)) = kv.map (fun p => (enc p.1, p.2)) ∧ (kv.map Prod.fst).Nodup ∧ (es.toList.map (·.born)).Nodup ∧ (∀ e ∈ es.toList, e.born < clock) ∧
    (es.toList.filter (fun e => !seen.contains e.born)).map (fun e => (e.key, e.val)) = todo.map (fun p => (enc p.1, p.2))
theorem GMapIter.upd {r : Nat} {todo : List (K × Value)} (h : GMapIter enc w r m kv todo) (hu : Upd F w w1) (hn : ¬ F m) (hr : ¬ F r) : GMapIter enc w1 r m kv todo :=
  let ⟨es, c, sn, h1, h2, h3⟩ := h; ⟨es, c, sn, hu.blk h1 hn, hu.blk h2 hr, h3⟩
theorem GMapIter.lt {r : Nat} {todo : List (K × Value)} (h : GMapIter enc w r m kv todo) : r < w.heap.size := let ⟨_, _, _, _, h, _⟩ := h; blk_lt h
section
variable {P : Program} {t ke ve : TypeId}
theorem GMap.run_range (h : GMap enc w m kv) (ht : P.underlying t = some (.map ke ve)) : ∃ w', (Instr.range t (.map (some m))).run P w = .ok (.pointer (some ⟨w.heap.size, 0, none⟩)) w' ∧ GMapIter enc w' w.heap.size m kv kv ∧ Upd NoF w w' ∧ w'.heap.size = w.heap.size + 1 := by
  obtain ⟨es, clock, hb, he, hn, hs, hc⟩ := h
  refine ⟨w.alloc (.mapIter (some m) clock #[] clock), ?_, ⟨es, clock, #[], blk_alloc hb _, blk_new _ _, he, hn, hs, hc, ?_⟩, (Upd.refl _ _).alloc _, by simp⟩
  · unfold Instr.range
    rw [Sem.run_bind, run_underlying ht]
    simp [run_getObj_map w m es clock hb]
  · have : es.toList.filter (fun e => !(#[] : Array Nat).contains e.born) = es.toList := by rw [List.filter_eq_self]; intro a _; simp
    rw [this, he]
theorem run_len_gmap (h : GMap enc w m kv) (ht : P.underlying t = some (.map ke ve)) (ty : TypeId) : (Builtin.len_ #[t] ty #[.map (some m)]).run P w = .ok (goInt kv.length) w := by
  obtain ⟨es, clock, hb, he, _⟩ := h
  have hl : es.size = kv.length := by have := congrArg List.length he; simpa using this
  simp [Builtin.len_, run_underlying ht, run_getObj_map w m es clock hb, hl]
end
variable [DecidableEq K]
/-- what is kept at a key -/
def gGet (kv : List (K × Value)) (k : K) : Option Value := (kv.find? (fun p => p.1 == k)).map Prod.snd
/-- a value put at a key -/
def gPut (kv : List (K × Value)) (k : K) (v : Value) : List (K × Value) := if (kv.map Prod.fst).contains k then kv.map (fun p => if p.1 = k then (k, v) else p) else kv ++ [(k, v)]
theorem gGet_none {kv : List (K × Value)} {k : K} : gGet kv k = none ↔ k ∉ kv.map Prod.fst := by
  simp only [gGet, Option.map_eq_none_iff, List.find?_eq_none, List.mem_map, not_exists, not_and]
  constructor
  · intro h p hp e; exact h p hp (by simpa using e)
  · intro h p hp e; exact h p hp (by simpa using e)
theorem gPut_keys (kv : List (K × Value)) (k : K) (v : Value) : (gPut kv k v).map Prod.fst = if (kv.map Prod.fst).contains k then kv.map Prod.fst else kv.map Prod.fst ++ [k] := by
  unfold gPut
  split
  · rw [List.map_map]
    apply List.map_congr_left
    intro p _
    simp only [Function.comp]
    split <;> simp_all
  · simp
theorem gGet_put (kv : List (K × Value)) (k j : K) (v : Value) : gGet (gPut kv k v) j = if j = k then some v else gGet kv j := by
  unfold gPut gGet
  split
  · rename_i h
    rw [List.find?_map]
    by_cases hj : j = k
    · subst hj
      rw [if_pos rfl]
      have : kv.find? ((fun p : K × Value => p.1 == j) ∘ fun p => if p.1 = j then (j, v) else p) = kv.find? (fun p => p.1 == j) := by
        congr 1; funext p; simp only [Function.comp]; split <;> simp_all
      rw [this]
      cases hf : kv.find? (fun p => p.1 == j) with
      | none => simp [List.find?_eq_none] at hf; simp at h; obtain ⟨x, hx⟩ := h; exact absurd rfl (hf _ _ hx)
      | some p => have := List.find?_some hf; simp at this; simp [this]
    · rw [if_neg hj]
      have : kv.find? ((fun p : K × Value => p.1 == j) ∘ fun p => if p.1 = k then (k, v) else p) = kv.find? (fun p => p.1 == j) := by
        congr 1; funext p; simp only [Function.comp]; split
        · rename_i h1; simp [h1]
        · rfl
      rw [this]
      cases hf : kv.find? (fun p => p.1 == j) with
      | none => rfl
      | some p => have h9 := List.find?_some hf; simp at h9; simp; rw [if_neg (fun e => hj (h9.symm.trans e))]
  · rename_i h
    rw [List.find?_append]
    by_cases hj : j = k
    · subst hj
      have : kv.find? (fun p => p.1 == j) = none := by rw [List.find?_eq_none]; intro p hp hc; simp at hc; apply h; simp; exact ⟨p.2, by rw [← hc]; exact hp⟩
      simp [this]
    · rw [if_neg hj]
      cases hf : kv.find? (fun p => p.1 == j) with
      | none => simp; exact fun e => absurd e.symm hj
      | some p => simp
section
variable {P : Program} {t ke ve : TypeId}
/-- m[k], v, ok := m[k] -/
theorem GMap.run_lookup (h : GMap enc w m kv) (ht : P.underlying t = some (.map ke ve)) (hk : KeyOk P ke enc) {z : Value} (hz : (zeroValue ve).run P w = .ok z w) (k : K) (ok : Bool) :
    (Instr.lookup t (.map (some m)) (enc k) ok).run P w = .ok (if ok then .tuple #[(gGet kv k).getD z, .bool (gGet kv k).isSome] else (gGet kv k).getD z) w := by
  obtain ⟨es, clock, hb, he, _⟩ := h
  unfold Instr.lookup
  rw [Sem.run_bind, run_underlying ht]
  simp only [Result.andThen_ok, Sem.run_bind, Sem.run_pure, run_getObj_map w m es clock hb, hk.check, hk.find k es.toList kv w he]
  cases hf : kv.find? (fun p => p.1 == k) with
  | none =>
    have : kv.findIdx? (fun p => p.1 == k) = none := by rw [List.findIdx?_eq_none_iff]; rw [List.find?_eq_none] at hf; simpa using hf
    simp [this, gGet, hf, hz]
  | some p =>
    have : ∃ j, kv.findIdx? (fun p => p.1 == k) = some j := by
      cases hj : kv.findIdx? (fun p => p.1 == k) with
      | none => rw [List.findIdx?_eq_none_iff] at hj; have h1 := List.mem_of_find?_eq_some hf; have h2 := List.find?_some hf; have := hj p h1; simp_all
      | some j => exact ⟨j, rfl⟩
    obtain ⟨j, hj⟩ := this
    simp [hj, gGet, hf]
/-- m[k] = v -/
theorem GMap.run_update (h : GMap enc w m kv) (ht : P.underlying t = some (.map ke ve)) (hk : KeyOk P ke enc) (k : K) (v : Value) :
    ∃ w', (Instr.mapUpdate t (.map (some m)) (enc k) v).run P w = .ok () w' ∧ GMap enc w' m (gPut kv k v) ∧ Upd (OneF m) w w' ∧ w'.heap.size = w.heap.size := by
  obtain ⟨es, clock, hb, he, hn, hs, hc⟩ := h
  have hf := hk.find k es.toList kv w he
  have hlen : es.size = kv.length := by have := congrArg List.length he; simpa using this
  cases hj : kv.findIdx? (fun p => p.1 == k) with
  | none =>
    have hnone : (kv.map Prod.fst).contains k = false := by
      rw [List.findIdx?_eq_none_iff] at hj
      simp; intro x hx; simpa using hj _ hx
    refine ⟨putBlk w m (.map (es.push { key := enc k, val := v, born := clock }) (clock + 1)), ?_, ?_, (Upd.refl _ _).put1 _, putBlk_size _ _ _⟩
    · unfold Instr.mapUpdate
      rw [Sem.run_bind, run_underlying ht]
      simp only [Result.andThen_ok, Sem.run_bind, run_getObj_map w m es clock hb, hk.check, hf, hj, Option.map_none]
      simp [setObj, Sem.run, hb, putBlk]
    · refine ⟨_, _, putBlk_same (blk_lt hb) _ rfl, ?_, ?_, ?_, ?_⟩
      · unfold gPut; rw [if_neg (by rw [hnone]; simp)]
        simp [he]
      · rw [gPut_keys, if_neg (by rw [hnone]; simp)]
        rw [List.nodup_append]
        refine ⟨hn, by simp, ?_⟩
        intro a ha b hb' e
        simp at hb'; subst hb'; subst e
        simp at hnone ha
        obtain ⟨x, hx⟩ := ha
        exact hnone _ hx
      · simp only [Array.toList_push, List.map_append, List.map_cons, List.map_nil]
        rw [List.nodup_append]
        refine ⟨hs, by simp, ?_⟩
        intro a ha b hb' e
        simp at hb'; subst hb'; subst e
        simp only [List.mem_map] at ha
        obtain ⟨x, hx, he'⟩ := ha
        have := hc x hx; omega
      · intro e hm
        simp only [Array.toList_push, List.mem_append, List.mem_singleton] at hm
        rcases hm with hm | hm
        · have := hc e hm; omega
        · subst hm; simp
  | some j =>
    have hyes : (kv.map Prod.fst).contains k = true := by
      rw [List.findIdx?_eq_some_iff_getElem] at hj
      obtain ⟨hlt, hp, _⟩ := hj
      simp at hp
      simp; exact ⟨kv[j].2, by rw [← hp]; exact List.getElem_mem hlt⟩
    have hjl : j < kv.length := by rw [List.findIdx?_eq_some_iff_getElem] at hj; exact hj.1
    have hjk : (kv[j]'hjl).1 = k := by rw [List.findIdx?_eq_some_iff_getElem] at hj; obtain ⟨_, hp, _⟩ := hj; simpa using hp
    have hej : ∃ e, es[j]? = some e ∧ e.key = enc k := by
      have h1 := congrArg (fun l => l[j]?) he
      simp only [List.getElem?_map] at h1
      rw [List.getElem?_eq_getElem (by simpa [hlen] using hjl), List.getElem?_eq_getElem hjl] at h1
      simp only [Option.map_some, Option.some.injEq, Prod.mk.injEq] at h1
      refine ⟨es[j]'(by omega), Array.getElem?_eq_getElem _, ?_⟩
      have h2 := h1.1; rw [hjk] at h2; simpa using h2
    obtain ⟨e0, he0, hk0⟩ := hej
    refine ⟨putBlk w m (.map (es.modify j fun e => { e with key := enc k, val := v }) clock), ?_, ?_, (Upd.refl _ _).put1 _, putBlk_size _ _ _⟩
    · unfold Instr.mapUpdate
      rw [Sem.run_bind, run_underlying ht]
      simp only [Result.andThen_ok, Sem.run_bind, run_getObj_map w m es clock hb, hk.check, hf, hj, Option.map_some]
      have hkts : (Instr.keyThatStays (((es[j]?).map (·.key)).getD (enc k)) (enc k)).run P w = .ok (enc k) w := by
        rw [he0]; simp [Instr.keyThatStays, hk0, hk.same]
      rw [hkts]
      simp only [Result.andThen_ok]
      simp [setObj, Sem.run, hb, putBlk]
    · have hmod : (es.modify j fun e => { e with key := enc k, val := v }).toList = es.toList.modify j (fun e => { e with key := enc k, val := v }) := by simp
      refine ⟨_, _, putBlk_same (blk_lt hb) _ rfl, ?_, ?_, ?_, ?_⟩
      · rw [hmod]
        unfold gPut; rw [if_pos hyes]
        apply List.ext_getElem?
        intro i
        have h1 := congrArg (fun l => l[i]?) he
        simp only [List.getElem?_map, List.getElem?_modify] at h1 ⊢
        by_cases hi : j = i
        · subst hi
          rw [List.getElem?_eq_getElem (by simpa [hlen] using hjl), List.getElem?_eq_getElem hjl]
          simp [hjk]
        · cases hq : kv[i]? with
          | none => rw [hq] at h1; simp at h1; simp [hi, h1]
          | some p =>
            rw [hq] at h1
            have hpk : p.1 ≠ k := by
              intro e
              have hil : i < kv.length := (List.getElem?_eq_some_iff.1 hq).1
              have := (List.getElem_inj (xs := kv.map Prod.fst) (i := i) (j := j) (h₀ := by simpa using hil) (h₁ := by simpa using hjl) hn).1 (by simp [hjk, ← e, (List.getElem?_eq_some_iff.1 hq).2])
              omega
            simp [hi, hpk]
            simpa using h1
      · rw [gPut_keys, if_pos hyes]; exact hn
      · rw [hmod]
        have : (es.toList.modify j (fun e => { e with key := enc k, val := v })).map (·.born) = es.toList.map (·.born) := by
          apply List.ext_getElem?
          intro i
          simp only [List.getElem?_map, List.getElem?_modify]
          cases es.toList[i]? with
          | none => simp
          | some x => by_cases hi : j = i <;> simp [hi]
        rw [this]; exact hs
      · intro e hm
        rw [hmod] at hm
        obtain ⟨i, hi, rfl⟩ := List.getElem_of_mem hm
        have hi' : i < es.toList.length := by simpa using hi
        rw [List.getElem_modify]
        have := hc _ (List.getElem_mem hi')
        split <;> exact this
/-! ### going through a map -/
theorem GMapIter.run_next {r : Nat} {todo : List (K × Value)} (hk : KeyOk P ke enc) (h : GMapIter enc w r m kv todo) (ty : TypeId) :
    (todo = [] ∧ (Instr.next (.pointer (some ⟨r, 0, none⟩)) false ty).run P w = .ok (.tuple #[.bool false]) w) ∨
    (∃ p ∈ todo, ∃ w', (Instr.next (.pointer (some ⟨r, 0, none⟩)) false ty).run P w = .ok (.tuple #[.bool true, enc p.1, p.2]) w' ∧ GMapIter enc w' r m kv (todo.filter (fun x => x.1 != p.1)) ∧ Upd (OneF r) w w' ∧ w'.heap.size = w.heap.size ∧
      (Instr.entry (.pointer (some ⟨r, 0, none⟩))).run P w' = .ok (.tuple #[enc p.1, p.2]) w') := by
  obtain ⟨es, clock, seen, hm, hr, he, hn, hs, hc, ht⟩ := h
  have hrm : r ≠ m := by intro e; subst e; rw [hm] at hr; cases hr
  have g1 : (getObj r).run P w = .ok (.mapIter (some m) clock seen clock) w := by simp [getObj, Sem.run, hr]
  have g2 : (getObj m).run P w = .ok (.map es clock) w := by simp [getObj, Sem.run, hm]
  have hall : (!seen.isEmpty && !es.isEmpty && es.all (fun e => decide (e.born ≥ clock))) = false := by
    by_cases h0 : es.isEmpty
    · simp [h0]
    · have : es.all (fun e => decide (e.born ≥ clock)) = false := by
        rw [Array.all_eq_false]
        have hpos : 0 < es.size := by simp [Array.isEmpty] at h0; exact Nat.pos_of_ne_zero (by simpa using h0)
        refine ⟨0, hpos, ?_⟩
        have := hc es[0] (by simp)
        simp; omega
      simp [this]
  have hold : (es.filter fun e => !seen.contains e.born).filter (fun e => decide (e.born < clock)) = es.filter fun e => !seen.contains e.born := by
    rw [Array.filter_eq_self]
    intro a ha
    rw [Array.mem_filter] at ha
    simpa using hc a (by simpa using ha.1)
  have hnew : (es.filter fun e => !seen.contains e.born).filter (fun e => decide (e.born ≥ clock)) = #[] := by
    rw [Array.filter_eq_empty_iff]
    intro a ha
    rw [Array.mem_filter] at ha
    have := hc a (by simpa using ha.1)
    simp; omega
  have hLl : (es.filter fun e => !seen.contains e.born).toList = es.toList.filter (fun e => !seen.contains e.born) := by simp
  have hnx : (Instr.next (.pointer (some ⟨r, 0, none⟩)) false ty).run P w = (Instr.next (.pointer (some ⟨r, 0, none⟩)) false ty).run P w := rfl
  conv at hnx => rhs; unfold Instr.next
  simp only [Sem.run_bind, g1, g2, Result.andThen_ok, hall, hold, hnew] at hnx
  generalize es.filter (fun e => !seen.contains e.born) = L at hnx hLl
  clear hold hnew
  cases todo with
  | nil =>
    left
    refine ⟨rfl, ?_⟩
    have h0 : L = #[] := by
      have : es.toList.filter (fun e => !seen.contains e.born) = [] := by simpa using ht
      rw [← hLl] at this
      simpa using this
    subst h0
    rw [hnx]
    simp [choose, Sem.run, Question.forced]
  | cons p0 todo0 =>
    right
    have hpos : 0 < L.size := by
      have := congrArg List.length ht
      rw [← hLl] at this
      simp only [List.length_map, Array.length_toList, List.length_cons] at this; omega
    obtain ⟨i, w1, hch, hi, hw1, u1⟩ := run_choose_lt (P := P) _ hpos w
    have hel : ∃ e, L[i]? = some e := ⟨_, Array.getElem?_eq_getElem hi⟩
    obtain ⟨e, hei⟩ := hel
    have hmem : e ∈ es.toList.filter (fun e => !seen.contains e.born) := by
      rw [← hLl]; rw [Array.getElem?_eq_some_iff] at hei; obtain ⟨h1, h2⟩ := hei; rw [← h2]; simp
    have hin : e ∈ es.toList := (List.mem_filter.1 hmem).1
    have hpe : ∃ p ∈ p0 :: todo0, (e.key, e.val) = (enc p.1, p.2) := by
      have : (e.key, e.val) ∈ (es.toList.filter (fun e => !seen.contains e.born)).map (fun e => (e.key, e.val)) := List.mem_map_of_mem hmem
      rw [ht] at this
      obtain ⟨p, hp, he⟩ := List.mem_map.1 this
      exact ⟨p, hp, he.symm⟩
    obtain ⟨p, hp, hpe⟩ := hpe
    simp only [Prod.mk.injEq] at hpe
    have hr1 : w1.heap[r]? = some (.mapIter (some m) clock seen clock) := by rw [hw1]; exact hr
    have hm1 : w1.heap[m]? = some (.map es clock) := by rw [hw1]; exact hm
    have hinj : ∀ a ∈ es.toList, ∀ b ∈ es.toList, a.born = b.born → a = b := by
      intro a ha b hb hab
      obtain ⟨x, hx, rfl⟩ := List.getElem_of_mem ha
      obtain ⟨y, hy, rfl⟩ := List.getElem_of_mem hb
      have := (List.getElem_inj (xs := es.toList.map (·.born)) (i := x) (j := y) (h₀ := by simpa using hx) (h₁ := by simpa using hy) hs).1 (by simpa using hab)
      subst this; rfl
    refine ⟨p, hp, putBlk w1 r (.mapIter (some m) clock (seen.push e.born) clock), ?_, ?_, (u1.mono (fun _ _ h => h.elim)).put1 _, by rw [putBlk_size, hw1], ?_⟩
    · have hne : L.isEmpty = false := by
        cases hq : L.isEmpty with
        | false => rfl
        | true => simp [Array.isEmpty] at hq; subst hq; simp at hpos
      rw [hnx, hne]
      simp only [Bool.false_eq_true, if_false, Array.append_empty, Array.empty_append, Array.size_map, Sem.run_bind, hch, Result.andThen_ok, Array.getElem?_map, hei, Option.map_some]
      simp [setObj, Sem.run, hr1, putBlk, hpe.1, hpe.2]
    · have hkinj : ∀ a ∈ es.toList, ∀ b ∈ es.toList, a.key = b.key → a = b := by
        intro a ha b hb hab
        obtain ⟨x, hx, rfl⟩ := List.getElem_of_mem ha
        obtain ⟨y, hy, rfl⟩ := List.getElem_of_mem hb
        have hl : es.toList.length = kv.length := by have := congrArg List.length he; simpa using this
        have e1 : ∀ z (hz : z < es.toList.length), (es.toList[z]).key = enc (kv[z]'(by omega)).1 := by
          intro z hz
          have := congrArg (fun l => l[z]?) he
          simp only [List.getElem?_map] at this
          rw [List.getElem?_eq_getElem hz, List.getElem?_eq_getElem (by omega)] at this
          simp at this
          simpa using this.1
        rw [e1 x hx, e1 y hy] at hab
        have hab' : (kv[x]'(by omega)).1 = (kv[y]'(by omega)).1 := hk.inj _ _ hab
        have := (List.getElem_inj (xs := kv.map Prod.fst) (i := x) (j := y) (h₀ := by simp; omega) (h₁ := by simp; omega) hn).1 (by simpa using hab')
        subst this; rfl
      refine ⟨es, clock, seen.push e.born, by rw [putBlk_far _ (Ne.symm hrm)]; exact hm1, putBlk_same (blk_lt hr1) _ rfl, he, hn, hs, hc, ?_⟩
      have hsplit : es.toList.filter (fun x => !(seen.push e.born).contains x.born) = (es.toList.filter (fun x => !seen.contains x.born)).filter (fun x => x.born != e.born) := by
        rw [List.filter_filter]
        apply List.filter_congr
        intro x hx
        by_cases hx1 : x.born = e.born
        · simp [hx1]
        · simp [hx1]
      rw [hsplit]
      refine map_filter_inj ht ?_
      intro a ha b _ hab
      simp only [Prod.mk.injEq] at hab
      have hain := (List.mem_filter.1 ha).1
      by_cases hbp : b.1 = p.1
      · have : a = e := hkinj a hain e hin (by rw [hab.1, hpe.1, hbp])
        subst this
        simp [hbp]
      · have : a.born ≠ e.born := by
          intro h
          have := hinj a hain e hin h
          subst this
          have h2 := hab.1.symm.trans hpe.1
          exact hbp (hk.inj _ _ h2)
        have h1 : (a.born != e.born) = true := by simpa using this
        have h2 : (b.1 != p.1) = true := by simpa using hbp
        exact h1.trans h2.symm
    · have hfind : es.find? (fun x => x.born == e.born) = some e := by
        rw [← Array.find?_toList]
        cases hq : es.toList.find? (fun x => x.born == e.born) with
        | none => rw [List.find?_eq_none] at hq; have := hq e hin; simp at this
        | some x =>
          have h1 := List.mem_of_find?_eq_some hq
          have h2 := List.find?_some hq
          rw [hinj x h1 e hin (by simpa using h2)]
      have g3 : (getObj r).run P (putBlk w1 r (.mapIter (some m) clock (seen.push e.born) clock)) = .ok (.mapIter (some m) clock (seen.push e.born) clock) (putBlk w1 r (.mapIter (some m) clock (seen.push e.born) clock)) := by
        simp [getObj, Sem.run, putBlk_same (blk_lt hr1) _ rfl]
      have g4 : (getObj m).run P (putBlk w1 r (.mapIter (some m) clock (seen.push e.born) clock)) = .ok (.map es clock) (putBlk w1 r (.mapIter (some m) clock (seen.push e.born) clock)) := by
        have := (putBlk_far (w := w1) (g := r) (.mapIter (some m) clock (seen.push e.born) clock) (Ne.symm hrm)).trans hm1
        simp [getObj, Sem.run, this]
      unfold Instr.entry
      simp only [Sem.run_bind, g3, Result.andThen_ok]
      simp [g4, hfind, hpe.1, hpe.2]
end
end Go.Proofs.Ytplhgeecnnadhaa
