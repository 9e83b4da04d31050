/- What came in, read by its kind: a plain description of a kind of data, and what its cells say. For any type of numbers, truths, texts, slices and structs. -/
import Derived.Test.YtplhgeecnnadhaaBase
import Derived.Deep.Slices
import Derived.SizedLaws
namespace Go.Proofs.Ytplhgeecnnadhaa
open Go.RowKit
inductive Kd where
  | int (k : IntKind)
  | bool
  | str
  | sl (e : Kd)
  | st (fs : Kd)
  | nilk
  | cons (a b : Kd)
namespace Kd
def sz : Kd → Nat
  | int _ => 1
  | bool => 1
  | str => 1
  | sl _ => 1
  | st fs => fs.sz
  | nilk => 0
  | cons a b => a.sz + b.sz
/-- the cells read as a datum of the kind -/
def Rd (w : World) : Kd → List Value → Prop
  | int k, cs => ∃ n, cs = [.int k n] ∧ (Lit.int k n).wf = true
  | bool, cs => ∃ b, cs = [.bool b]
  | str, cs => ∃ s : ByteArray, cs = [.string s] ∧ s.size ≤ maxLen ∧ s.size ≤ reachBytes
  | sl e, cs => cs = [.slice none 0 0] ∨ ∃ x len cap, cs = [.slice (some x) len cap] ∧ len ≤ cap ∧ cap ≤ maxLen ∧ len ≤ reachBytes ∧
      ∀ i, i < len → ∃ cs', cs'.length = e.sz ∧ (∀ j, j < e.sz → w.cell? (x.add (i * e.sz + j)) = cs'[j]?) ∧ e.Rd w cs'
  | st fs, cs => fs.Rd w cs
  | nilk, cs => cs = []
  | cons a b, cs => ∃ x y, cs = x ++ y ∧ x.length = a.sz ∧ a.Rd w x ∧ b.Rd w y
mutual
/-- a type of the program is of the kind -/
def ok (P : Program) : Kd → TypeId → Prop
  | int k, t => P.cellsOf t = 1 ∧ P.underlying t = some (.int k)
  | bool, t => P.cellsOf t = 1 ∧ P.underlying t = some .bool
  | str, t => P.cellsOf t = 1 ∧ P.underlying t = some .string
  | sl e, t => P.cellsOf t = 1 ∧ ∃ u, P.underlying t = some (.slice u) ∧ 1 ≤ P.bytesOf u ∧ P.cellsOf u = e.sz ∧ ok P e u
  | st fs, t => P.cellsOf t = fs.sz ∧ ∃ l, P.underlying t = some (.struct l) ∧ oks P fs 0 l.toList
  | nilk, _ => False
  | cons _ _, _ => False
def oks (P : Program) : Kd → Nat → List Field → Prop
  | nilk, _, l => l = []
  | cons a b, off, l => ∃ f r, l = f :: r ∧ f.offset = off ∧ P.cellsOf f.type = a.sz ∧ ok P a f.type ∧ oks P b (off + a.sz) r
  | int _, _, _ => False
  | bool, _, _ => False
  | str, _, _ => False
  | sl _, _, _ => False
  | st _, _, _ => False
end
end Kd
section
variable {H : Type} {enc : TypeId × Value → H} {P : Program} {w : World} {base : Nat} {spare : Nat → Bool} {held : Bool}
theorem add_add' (a : Addr) (i j : Nat) : (a.add i).add j = a.add (i + j) := by
  unfold Addr.add
  by_cases hi : i = 0 <;> by_cases hj : j = 0 <;> simp [hi, hj, Nat.add_assoc]
theorem mem_weightsAll {e : TypeId} {n : Nat} {d : DataW H} : ∀ {ds : List (DataW H)}, d ∈ ds → n ∈ d.weights P e → n ∈ DataW.weightsAll P e ds
  | _ :: _, h, hn => by
    simp only [DataW.weightsAll, List.mem_append]
    rcases List.mem_cons.1 h with rfl | h
    · exact .inl hn
    · exact .inr (mem_weightsAll h hn)
theorem rd_of_trod : ∀ (k : Kd), (∀ (t : TypeId), k.ok P t → ∀ (fuel : Nat) (cs : List Value) (x : DataW H × List MemPlace), DataW.trod enc P w base spare held fuel t cs = some x → (∀ n ∈ x.1.weights P t, n ≤ reachBytes) → k.Rd w cs) ∧
    (∀ (off : Nat) (l : List Field), k.oks P off l → ∀ (fuel : Nat) (cs : List Value) (xs : List (DataW H × List MemPlace)), (l.mapM fun f => DataW.trod enc P w base spare held fuel f.type ((cs.drop f.offset).take (P.cellsOf f.type))) = some xs → off + k.sz = cs.length →
      (∀ n ∈ DataW.weightsEach P (l.map (·.type)) (xs.map (·.1)), n ≤ reachBytes) → k.Rd w (cs.drop off)) := by
  intro k
  induction k with
  | int k =>
    refine ⟨fun t hk fuel cs x h hw => ?_, fun _ _ h => h.elim⟩
    obtain ⟨n, hcs, _, hn⟩ := DataW.trod_int hk.2 h
    exact ⟨n, hcs, hn⟩
  | bool =>
    refine ⟨fun t hk fuel cs x h hw => ?_, fun _ _ h => h.elim⟩
    obtain ⟨n, hcs, _⟩ := DataW.trod_bool hk.2 h
    exact ⟨n, hcs⟩
  | str =>
    refine ⟨fun t hk fuel cs x h hw => ?_, fun _ _ h => h.elim⟩
    obtain ⟨n, hcs, rfl, hn⟩ := DataW.trod_string hk.2 h
    exact ⟨n, hcs, hn, by simpa [DataW.weights] using hw⟩
  | sl e ih =>
    refine ⟨fun t hk fuel cs x h hw => ?_, fun _ _ h => h.elim⟩
    obtain ⟨_, u, ht, hby, hce, hke⟩ := hk
    rcases Go.Deep.open_slice ht h with ⟨hcs, _⟩ | ⟨a, len, cap, m, n, D, Pl, hcs, hb, hl, hm, hmm, hx, hel⟩
    · exact .inl hcs
    · have hlm : len ≤ m := by rw [hmm]; split <;> omega
      subst hx
      simp only [DataW.weights, ht, List.length_map, List.length_range, List.mem_cons, List.mem_append, forall_eq_or_imp] at hw
      refine .inr ⟨a, len, cap, hcs, hl, hm, ?_, fun i hi => ?_⟩
      · have h1 := hw.1
        have h2 : len * 1 ≤ (len + (m - len)) * P.bytesOf u := Nat.mul_le_mul (by omega) hby
        omega
      · obtain ⟨cs', h1, h2⟩ := hel i (by omega)
        obtain ⟨_, hlen, hcell⟩ := World.cells?_some h1
        rw [hce] at hlen hcell
        refine ⟨cs', hlen, fun j hj => ?_, ih.1 u hke n cs' _ h2 (fun q hq => hw.2 q (.inl ?_))⟩
        · rw [← hcell j hj, add_add']
        · exact mem_weightsAll (List.mem_map.2 ⟨i, by simpa using hi, rfl⟩) hq
  | st fs ih =>
    refine ⟨fun t hk fuel cs x h hw => ?_, fun _ _ h => h.elim⟩
    obtain ⟨hsz, l, ht, hl⟩ := hk
    cases fuel with
    | zero => simp [DataW.trod] at h
    | succ n =>
      rw [DataW.trod_step] at h
      unfold DataW.trodStep at h
      simp only [ht] at h
      split at h <;> first | (simp_all; done) | skip
      all_goals
        rename_i hlen
        simp only [Option.map_eq_some_iff] at h
        obtain ⟨xs, h1, rfl⟩ := h
        have := ih.2 0 l.toList hl n cs xs h1 (by rw [hlen, hsz]; omega) (by simpa [DataW.weights, ht] using hw)
        show fs.Rd w cs
        simpa using this
  | nilk =>
    refine ⟨fun t hk => hk.elim, fun off l hl fuel cs xs _ hlen _ => ?_⟩
    show cs.drop off = []
    simp only [Kd.sz] at hlen
    exact List.drop_eq_nil_of_le (by omega)
  | cons a b iha ihb =>
    refine ⟨fun t hk => hk.elim, fun off l hl fuel cs xs h hlen hw => ?_⟩
    obtain ⟨f, r, rfl, hoff, hca, hka, hkr⟩ := hl
    simp only [Kd.sz] at hlen
    rw [List.mapM_cons] at h
    cases h1 : DataW.trod enc P w base spare held fuel f.type ((cs.drop f.offset).take (P.cellsOf f.type)) with
    | none => simp [h1] at h
    | some y =>
      cases h2 : r.mapM (fun f => DataW.trod enc P w base spare held fuel f.type ((cs.drop f.offset).take (P.cellsOf f.type))) with
      | none => simp [h1, h2] at h
      | some ys =>
        simp [h1, h2] at h
        subst h
        simp only [List.map_cons, DataW.weightsEach, List.mem_append] at hw
        subst hoff
        rw [hca] at h1
        refine ⟨(cs.drop f.offset).take a.sz, cs.drop (f.offset + a.sz), ?_, ?_, iha.1 _ hka fuel _ _ h1 (fun n hn => hw n (.inl hn)), ihb.2 _ r hkr fuel cs ys h2 (by omega) (fun n hn => hw n (.inr hn))⟩
        · rw [← List.drop_drop, List.take_append_drop]
        · simp; omega
/-- a row that came in, as a plain list -/
theorem slc_of_rd {α : Type} {R : α → List Value → Prop} {k : Kd} {cs : List Value} (h : (Kd.sl k).Rd w cs) (hpos : 0 < k.sz) (hR : ∀ cs, cs.length = k.sz → k.Rd w cs → ∃ x, R x cs) :
    ∃ v l, cs = [v] ∧ Slc R k.sz w (fun b => b < w.heap.size) v l ∧ l.length ≤ reachBytes := by
  rcases h with h | ⟨x, len, cap, hcs, hl, hm, hr, hel⟩
  · exact ⟨_, [], h, Slc.nil _ _ _ _ _ _, by simp⟩
  · by_cases h0 : len = 0
    · subst h0; exact ⟨_, [], hcs, Slc.nil _ _ _ _ _ _, by simp⟩
    · obtain ⟨l, hll, hlR⟩ : ∃ l : List α, l.length = len ∧ ∀ i (hi : i < l.length), ∃ cs', cs'.length = k.sz ∧ (∀ j, j < k.sz → w.cell? (x.add (i * k.sz + j)) = cs'[j]?) ∧ R l[i] cs' := by
        have : ∀ n, n ≤ len → ∃ l : List α, l.length = n ∧ ∀ i (hi : i < l.length), ∃ cs', cs'.length = k.sz ∧ (∀ j, j < k.sz → w.cell? (x.add (i * k.sz + j)) = cs'[j]?) ∧ R l[i] cs' := by
          intro n
          induction n with
          | zero => exact fun _ => ⟨[], rfl, fun i hi => by simp at hi⟩
          | succ n ih =>
            intro hn
            obtain ⟨l, hl1, hl2⟩ := ih (by omega)
            obtain ⟨cs', h1, h2, h3⟩ := hel n (by omega)
            obtain ⟨y, hy⟩ := hR cs' h1 h3
            refine ⟨l ++ [y], by simp [hl1], fun i hi => ?_⟩
            by_cases hin : i < l.length
            · rw [List.getElem_append_left hin]; exact hl2 i hin
            · obtain rfl : i = n := by simp at hi; omega
              refine ⟨cs', h1, h2, ?_⟩
              rw [List.getElem_append_right (by omega)]
              simpa using hy
        exact this len (Nat.le_refl _)
      subst hll
      obtain ⟨b, off, spot⟩ := x
      obtain ⟨c0, hc0, hcell0, _⟩ := hlR 0 (by omega)
      have h00 := hcell0 0 hpos
      rw [List.getElem?_eq_getElem (by omega)] at h00
      have hsp : spot = none := by simpa [Addr.add] using World.cell?_spot h00
      subst hsp
      have hadd : ∀ i, (⟨b, off, none⟩ : Addr).add i = ⟨b, off + i, none⟩ := fun i => by unfold Addr.add; split <;> simp_all
      rw [hadd] at h00
      obtain ⟨cur, t, f, hb, _⟩ : ∃ c t f, w.heap[b]? = some (.cells c t f) ∧ True := by
        unfold World.cell? at h00
        split at h00
        · rename_i c t f hb; exact ⟨c, t, f, hb, trivial⟩
        · cases h00
      refine ⟨_, l, hcs, ⟨_, cap, rfl, hl, fun _ => ⟨b, off, rfl, blk_lt hb, cur, t, f, hb, fun i hi => ?_⟩⟩, hr⟩
      obtain ⟨cs', h1, h2, h3⟩ := hlR i hi
      refine ⟨cs', h1, h3, fun j hj => ?_⟩
      have := h2 j hj
      rw [hadd, blk_cell hb] at this
      rw [← this]; congr 1; omega
theorem bytes_of_rd {cs : List Value} (h : (Kd.sl (.int .u8)).Rd w cs) : ∃ v l, cs = [v] ∧ Bytes w (fun b => b < w.heap.size) v l ∧ l.length ≤ reachBytes := by
  obtain ⟨v, l, hcs, hs, hr⟩ := slc_of_rd (R := bcell) h (by decide) (fun cs _ ⟨n, hcs, hn⟩ => by
    have hr2 : 0 ≤ n ∧ n ≤ 255 := by simpa [Lit.wf, IntKind.min, IntKind.max, IntKind.bits, IntKind.signed] using hn
    refine ⟨UInt8.ofNat n.toNat, ?_⟩
    unfold bcell
    rw [hcs]
    simp
    omega)
  exact ⟨v, l, hcs, hs, hr⟩
/-- an argument, read by its kind -/
theorem arg_rd {t : TypeId} {v : Value} {d : DataW H} {p : List MemPlace} (k : Kd) (hk : k.ok P t) (hT : DataW.Trod enc P w base spare held t v d p) (hz : ∀ n ∈ d.weights P t, n ≤ reachBytes) : k.Rd w v.cells.toList := by
  obtain ⟨fuel, hf⟩ := hT
  exact (rd_of_trod k).1 t hk fuel _ _ hf hz
theorem arg_size {ts : List TypeId} {ds : List (DataW H)} (h : (DataW.weightsEach P ts ds).all (· ≤ reachBytes) = true) (j : Nat) {t : TypeId} {d : DataW H} (ht : ts[j]? = some t) (hd : ds[j]? = some d) : ∀ n ∈ d.weights P t, n ≤ reachBytes := fun n hn => by
  have := List.all_eq_true.1 h _ (DataW.weights_mem_each ht hd n hn)
  simpa using this
theorem ints_of_rd {cs : List Value} (h : (Kd.sl (.int .i64)).Rd w cs) : ∃ v l, cs = [v] ∧ Ints w (fun b => b < w.heap.size) v l ∧ l.length ≤ reachBytes :=
  slc_of_rd (R := icell) h (by decide) (fun cs _ ⟨n, hcs, _⟩ => ⟨n, hcs⟩)
end
end Go.Proofs.Ytplhgeecnnadhaa
