/- From the row's own reading of the arguments to the words of Base. -/
import Derived.Test.YtplhgeecnnadhaaBase
namespace Go.Proofs.Ytplhgeecnnadhaa
open Go.RowKit
theorem block_of_cell {w : World} {b o : Nat} {v : Value} (h : w.cell? ⟨b, o, none⟩ = some v) : ∃ c t f, w.heap[b]? = some (.cells c t f) ∧ c[o]? = some v := by
  unfold World.cell? at h
  split at h
  · rename_i c t f hb; exact ⟨c, t, f, hb, by simpa using h⟩
  · cases h
/-- elements of one cell each, cell by cell -/
theorem slc_of_cells {α : Type} (enc : α → Value) {w : World} {x : Addr} {c : Nat} {l : List α} (hne : l ≠ []) (hc : l.length ≤ c) (h : ∀ i (hi : i < l.length), w.cell? (x.add i) = some (enc l[i])) :
    Slc (fun y cs => cs = [enc y]) 1 w (fun k => k < w.heap.size) (.slice (some x) l.length c) l := by
  have hpos : 0 < l.length := List.length_pos_iff.2 hne
  obtain ⟨b, off, spot⟩ := x
  have h0 := h 0 hpos
  have hsp : spot = none := by simpa [Addr.add] using World.cell?_spot h0
  subst hsp
  have hadd : ∀ i, (⟨b, off, none⟩ : Addr).add i = ⟨b, off + i, none⟩ := fun i => by unfold Addr.add; split <;> simp_all
  rw [hadd] at h0
  obtain ⟨cur, t, f, hb, _⟩ := block_of_cell h0
  refine ⟨_, c, rfl, hc, fun _ => ⟨b, off, rfl, blk_lt hb, cur, t, f, hb, fun i hi => ⟨_, rfl, rfl, fun j hj => ?_⟩⟩⟩
  obtain rfl : j = 0 := by omega
  have := h i hi
  rw [hadd, blk_cell hb] at this
  simpa using this
theorem ints_of_row {w : World} {a : Option Addr} {len cap : Nat} {zs : List Int} (h : (a = none ∧ len = 0 ∧ cap = 0 ∧ zs = []) ∨
    ∃ x, a = some x ∧ len ≤ cap ∧ cap ≤ maxLen ∧ zs.length = cap ∧ (∀ i, i < zs.length → w.cell? (x.add i) = some (.int .i64 (zs.getD i 0))) ∧ ∀ n ∈ zs, (Lit.int .i64 n).wf = true) :
    Ints w (fun k => k < w.heap.size) (.slice a len cap) (zs.take len) := by
  rcases h with ⟨rfl, rfl, rfl, rfl⟩ | ⟨x, rfl, hl, hm, hz, hc, hw⟩
  · exact Slc.nil _ _ _ _ _ _
  · by_cases h0 : len = 0
    · subst h0; exact Slc.nil _ _ _ _ _ _
    · have hlen : (zs.take len).length = len := by rw [List.length_take]; omega
      have := slc_of_cells (Value.int .i64) (w := w) (x := x) (c := cap) (l := zs.take len) (by intro e; rw [e] at hlen; simp at hlen; omega) (by omega) (fun i hi => by
        rw [hc i (by omega)]
        rw [List.getElem_take, List.getD_eq_getElem?_getD, List.getElem?_eq_getElem (by omega)]; rfl)
      rwa [hlen] at this
theorem bytes_of_row {w : World} {a : Option Addr} {len cap : Nat} {zs : List Int} (h : (a = none ∧ len = 0 ∧ cap = 0 ∧ zs = []) ∨
    ∃ x, a = some x ∧ len ≤ cap ∧ cap ≤ maxLen ∧ zs.length = cap ∧ (∀ i, i < zs.length → w.cell? (x.add i) = some (.int .u8 (zs.getD i 0))) ∧ ∀ n ∈ zs, (Lit.int .u8 n).wf = true) :
    ∃ l : List UInt8, Bytes w (fun k => k < w.heap.size) (.slice a len cap) l := by
  rcases h with ⟨rfl, rfl, rfl, rfl⟩ | ⟨x, rfl, hl, hm, hz, hc, hw⟩
  · exact ⟨[], Slc.nil _ _ _ _ _ _⟩
  · by_cases h0 : len = 0
    · subst h0; exact ⟨[], Slc.nil _ _ _ _ _ _⟩
    · have hlen : ((zs.take len).map (fun z => UInt8.ofNat z.toNat)).length = len := by rw [List.length_map, List.length_take]; omega
      have := slc_of_cells (fun b : UInt8 => Value.int .u8 (b.toNat : Int)) (w := w) (x := x) (c := cap) (l := (zs.take len).map (fun z => UInt8.ofNat z.toNat)) (by intro e; rw [e] at hlen; simp at hlen; omega) (by omega) (fun i hi => by
        have hi' : i < len := by omega
        rw [hc i (by omega), List.getElem_map, List.getElem_take, List.getD_eq_getElem?_getD, List.getElem?_eq_getElem (by omega)]
        have hr := hw (zs[i]'(by omega)) (List.getElem_mem _)
        have hr2 : 0 ≤ zs[i]'(by omega) ∧ zs[i]'(by omega) ≤ 255 := by simpa [Lit.wf, IntKind.min, IntKind.max, IntKind.bits, IntKind.signed] using hr
        simp
        omega)
      rw [hlen] at this
      exact ⟨_, by have h2 := this; unfold Bytes bcell; rw [show Value.slice (some x) len cap = Value.slice (some x) ((zs.take len).map (fun z => UInt8.ofNat z.toNat)).length cap by rw [hlen]]; rwa [hlen]⟩
end Go.Proofs.Ytplhgeecnnadhaa
