/- The proposer: the walk of answer. -/
import Derived.Test.YtplhgeecnnadhaaBalA
namespace Go.Proofs.Ytplhgeecnnadhaa
open Go.RowKit
variable {F G : Nat → Prop} {w w1 : World} {p : Nat} {s : PS}
theorem kvPut_new {l : List (Int × Bool)} {k : Int} (h : (l.map Prod.fst).contains k = false) (b : Bool) : kvPut (bkv l) k (.bool b) = bkv (l ++ [(k, b)]) := by
  unfold kvPut
  have : ((bkv l).map Prod.fst) = l.map Prod.fst := by unfold bkv; rw [List.map_map]; rfl
  rw [this, h]; simp [bkv]
theorem IMapIter.imap {r m : Nat} {kv todo : List (Int × Value)} (h : IMapIter w r m kv todo) : IMap w m kv := let ⟨es, c, _, h1, _, h3, h4, h5, h6, _⟩ := h; ⟨es, c, h1, h3, h4, h5, h6⟩
/-- behind all: the proposer's block, its map, its bytes -/
theorem prop_close {m m' : Nat} {W : World} {s' : PS} {v f vv : Value} (U : Upd (fun k => k = p ∨ k = m) w W) (hF : ∀ k, F k → k < w.heap.size) (fp : F p) (fm : F m)
    (hv : Bytes w (fun k => F k ∧ k ≠ p ∧ k ≠ m) v s.val) (hf : Bytes w (fun k => F k ∧ k ≠ p ∧ k ≠ m) f s.found)
    (hb : W.heap[p]? = some (.cells #[.int .i64 s'.acc, .int .i64 s'.b1, .int .i64 s'.b2, .int .i64 s'.phase, vv, .int .i64 s'.e1, .int .i64 s'.e2, f, .map (some m')] 134 (0, 0)))
    (hvv : (vv = v ∧ s'.val = s.val) ∨ (vv = f ∧ s'.val = s.found)) (hff : s'.found = s.found) (hm : IMap W m' s'.kv) (hm' : m' = m ∨ w.heap.size ≤ m') (hpm : p ≠ m)
    (hacc : 1 ≤ s'.acc) (hbig : s'.acc ≤ 9223372036854775807) (hfew : s'.ans.length ≤ 1000000) : Prop2 F p s' w W := by
  have mv : ∀ k, (F k ∧ k ≠ p ∧ k ≠ m) → ((F k ∨ k = m') ∧ k ≠ p ∧ k ≠ m') := fun k ⟨h1, h2, h3⟩ => ⟨.inl h1, h2, fun e => by have := hF k h1; rcases hm' with h | h <;> omega⟩
  have mu : ∀ k, (F k ∧ k ≠ p ∧ k ≠ m) → ¬ (k = p ∨ k = m) := fun k ⟨_, h2, h3⟩ h => by rcases h with h | h <;> omega
  have hv' := (hv.upd U mu).mono mv
  have hf' := (hf.upd U mu).mono mv
  refine ⟨fun k => F k ∨ k = m', ⟨hacc, hbig, hfew, fun k hk => ?_, vv, f, m', hb, ?_, ?_, hm, .inl fp, .inr rfl, ?_⟩, U.mono (fun k _ h => ?_), fun k hk => ?_⟩
  · rcases hk with h | h
    · exact Nat.lt_of_lt_of_le (hF k h) U.size
    · subst h; exact hm.lt
  · rcases hvv with ⟨rfl, h⟩ | ⟨rfl, h⟩
    · rw [h]; exact hv'
    · rw [h]; exact hf'
  · rw [hff]; exact hf'
  · have := hF p fp
    rcases hm' with h | h <;> omega
  · rcases h with h | h <;> subst h <;> assumption
  · rcases hk with h | h
    · exact .inl h
    · subst h
      rcases hm' with h | h
      · subst h; exact .inl fm
      · exact .inr h
def AnsRel (r m : Nat) (A : List (Int × Bool)) (W : World) (y : Value) (wr : World) : Prop :=
  ∃ todo, IMapIter wr r m (bkv A) (bkv todo) ∧ (todo.map Prod.fst).Nodup ∧ y = .int .i64 ((yesOf A : Int) - yesOf todo) ∧ yesOf todo ≤ yesOf A ∧ Upd (OneF r) W wr
theorem yes_le (l : List (Int × Bool)) : yesOf l ≤ l.length := List.length_filter_le _ _
set_option maxRecDepth 100000 in
set_option maxHeartbeats 2000000 in
theorem answer79 (src : Int) (ok : Bool) (w : World) (h : PropAt w F p s) (hnew : (s.ans.map Prod.fst).contains src = false) (hfew : s.ans.length < 1000000) :
    Calls Try.prog 79 #[.pointer (some ⟨p, 0, none⟩), .int .i64 src, .bool ok] w (fun r w' => r = .returned (.tuple #[]) ∧ Prop2 F p (s.answer src ok) w w') := by
  obtain ⟨hacc, hbig, _, hF, vv, vf, m, hb, hv, hf, hm, fp, fm, hpm⟩ := h
  obtain ⟨w1, hup, m1, u1, z1⟩ := IMap.run_update (P := Try.prog) hm Try.underlying41 Try.underlying3 src (.bool ok)
  rw [show s.kv = bkv s.ans from rfl, kvPut_new hnew] at m1
  generalize hA : s.ans ++ [(src, ok)] = A at m1
  have hAl : A.length = s.ans.length + 1 := by rw [← hA]; simp
  obtain ⟨w2, hrg, it2, u2, z2⟩ := IMap.run_range (P := Try.prog) m1 Try.underlying41
  have hAn : (A.map Prod.fst).Nodup := by
    obtain ⟨_, _, _, _, hn, _⟩ := m1
    have : (bkv A).map Prod.fst = A.map Prod.fst := by unfold bkv; rw [List.map_map]; rfl
    rwa [this] at hn
  obtain ⟨av, cv, rfl, hcv⟩ := hv.slice
  obtain ⟨af, cf, rfl, hcf⟩ := hf.slice
  have hb1 := u1.blk hb hpm
  have hb2 := u2.blk0 hb1
  have c8 : w.cell? ⟨p, 8, none⟩ = some (.map (some m)) := blk_cell hb 8
  have d8 : w1.cell? ⟨p, 8, none⟩ = some (.map (some m)) := blk_cell hb1 8
  have hlp := blk_lt hb2
  have hm2 := it2.lt
  have zr : w1.heap.size ≠ p := by have := blk_lt hb1; omega
  have hup' := Lib.hid (⟨u1, u2⟩ : Upd (OneF m) w w1 ∧ Upd NoF w1 w2)
  have IT2 := Lib.hid it2
  have HB2 := Lib.hid hb2
  have HM1 := Lib.hid m1
  have HA := Lib.hid (⟨hA, hAn⟩ : _ ∧ _)
  have HV := Lib.hid (⟨hv, hf⟩ : _ ∧ _)
  have HFF := Lib.hid hF
  have hsz : w.heap.size ≤ w1.heap.size := by omega
  clear z1 z2
  clear hb hb1 hb2 u1 u2 it2 m1 hA hAn hv hf hm hF hnew
  go_enter Try.func79, Try.ntmps79
  go_wp2_with fail
  clear hup hrg c8 d8
  generalize hr : w1.heap.size = r at *
  go_loopw [6] (AnsRel r m A w2) (fun _ wr => itLeft wr r m)
  case atStart => exact ⟨A, IT2.out, HA.out.2, by simp, Nat.le_refl _, Upd.refl _ _⟩
  case round =>
    obtain ⟨todo, it, hn, rfl, hle, hu⟩ := hrel
    have hy := yes_le A
    rcases it.run_next (P := Try.prog) 0 with ⟨h0, hnx⟩ | ⟨q, hq, w3, hnx, it3, u3, z3, hen⟩
    · have ht : todo = [] := by unfold bkv at h0; simpa using h0
      subst ht
      have hbr := hu.blk HB2.out (by simp only [OneF]; omega)
      have c0 : wr.cell? ⟨p, 0, none⟩ = some (.int .i64 s.acc) := blk_cell hbr 0
      have c3 : wr.cell? ⟨p, 3, none⟩ = some (.int .i64 s.phase) := blk_cell hbr 3
      have c4 : wr.cell? ⟨p, 4, none⟩ = some (.slice av s.val.length cv) := blk_cell hbr 4
      have c5 : wr.cell? ⟨p, 5, none⟩ = some (.int .i64 s.e1) := blk_cell hbr 5
      have c6 : wr.cell? ⟨p, 6, none⟩ = some (.int .i64 s.e2) := blk_cell hbr 6
      have c7 : wr.cell? ⟨p, 7, none⟩ = some (.slice af s.found.length cf) := blk_cell hbr 7
      have c8 : wr.cell? ⟨p, 8, none⟩ = some (.map (some m)) := blk_cell hbr 8
      have hfr := blk_free hbr
      have hlen := run_len_imap (P := Try.prog) it.imap Try.underlying41 3
      have hmm := @run_makeMap Try.prog
      have e0 : ((yesOf A : Int) - (yesOf ([] : List (Int × Bool)))) = (yesOf A : Int) := by simp [yesOf]
      rw [e0]
      have hU : Upd (fun k => k = p ∨ k = m) w wr := (((hup'.out.1.mono (fun k _ h => .inr h)).then0 hup'.out.2).trans hu (fun i hi h => by simp only [OneF] at h; omega))
      have hpl := blk_lt hbr
      have IT := Lib.hid it
      have HBR := Lib.hid hbr
      have HU := Lib.hid hU
      have hbl : (bkv A).length = A.length := by simp [bkv]
      rw [hbl] at hlen
      clear it hbr hU hu e0 hle hbl h0
      have hans : s.answer src ok = s.answer src ok := rfl
      conv at hans => rhs; unfold PS.answer
      simp only [HA.out.1] at hans
      have HS := Lib.hid hans
      clear hans
      generalize hyA : yesOf A = y at *
      have HYA := Lib.hid hyA
      clear hyA
      have hyl : (y : Int) ≤ s.ans.length + 1 := by omega
      by_cases g1 : s.acc / 2 + 1 ≤ (y : Int)
      · by_cases g2 : s.phase = 1
        · have g2' : (s.phase == 1) = true := by simpa using g2
          by_cases g3 : s.e1 = 0 ∧ s.e2 = 0
          · have e := HS.out
            rw [if_pos ⟨g1, g2⟩, if_pos g3] at e
            have E := Lib.hid e
            clear e
            have g31 : (s.e1 == 0) = true := by simpa using g3.1
            have g32 : (s.e2 == 0) = true := by simpa using g3.2
            clear g2 g3
            go_wp2_with fail
            go_end0
            rw [E.out]
            refine ⟨rfl, prop_close (m' := wr.heap.size) ((Upd.set (p := ⟨p, 8, none⟩) (Upd.set (p := ⟨p, 3, none⟩) HU.out (fun _ => .inl rfl) _) (fun _ => .inl rfl) _).alloc _) HFF.out fp fm HV.out.1 HV.out.2 (by have := blk_alloc (blk_set (blk_set HBR.out 3 (.int .i64 2)) 8 (.map (some wr.heap.size))) (.map #[] 0); simpa using this) (.inl ⟨rfl, rfl⟩) rfl (by have := IMap.made ((wr.setCell ⟨p, 3, none⟩ (.int .i64 2)).setCell ⟨p, 8, none⟩ (.map (some wr.heap.size))); simpa [PS.kv] using this) (.inr HU.out.size) hpm hacc hbig (by simp)⟩
          · have e := HS.out
            rw [if_pos ⟨g1, g2⟩, if_neg g3] at e
            have E := Lib.hid e
            clear e
            clear g2
            by_cases g31 : (s.e1 == 0) = true
            · have g32 : (s.e2 == 0) = false := by
                have : s.e1 = 0 := by simpa using g31
                have : ¬ s.e2 = 0 := fun h => g3 ⟨this, h⟩
                simpa using this
              clear g3
              go_wp2_with fail
              go_end0
              rw [E.out]
              refine ⟨rfl, prop_close (m' := wr.heap.size) ((Upd.set (p := ⟨p, 4, none⟩) (Upd.set (p := ⟨p, 8, none⟩) (Upd.set (p := ⟨p, 3, none⟩) HU.out (fun _ => .inl rfl) _) (fun _ => .inl rfl) _) (fun _ => .inl rfl) _).alloc _) HFF.out fp fm HV.out.1 HV.out.2 (by have := blk_alloc (blk_set (blk_set (blk_set HBR.out 3 (.int .i64 2)) 8 (.map (some wr.heap.size))) 4 (.slice af s.found.length cf)) (.map #[] 0); simpa using this) (.inr ⟨rfl, rfl⟩) rfl (by have := IMap.made (((wr.setCell ⟨p, 3, none⟩ (.int .i64 2)).setCell ⟨p, 8, none⟩ (.map (some wr.heap.size))).setCell ⟨p, 4, none⟩ (.slice af s.found.length cf)); simpa [PS.kv] using this) (.inr HU.out.size) hpm hacc hbig (by simp)⟩
            · have g31' : (s.e1 == 0) = false := by simpa using g31
              clear g3 g31
              go_wp2_with fail
              go_end0
              rw [E.out]
              refine ⟨rfl, prop_close (m' := wr.heap.size) ((Upd.set (p := ⟨p, 4, none⟩) (Upd.set (p := ⟨p, 8, none⟩) (Upd.set (p := ⟨p, 3, none⟩) HU.out (fun _ => .inl rfl) _) (fun _ => .inl rfl) _) (fun _ => .inl rfl) _).alloc _) HFF.out fp fm HV.out.1 HV.out.2 (by have := blk_alloc (blk_set (blk_set (blk_set HBR.out 3 (.int .i64 2)) 8 (.map (some wr.heap.size))) 4 (.slice af s.found.length cf)) (.map #[] 0); simpa using this) (.inr ⟨rfl, rfl⟩) rfl (by have := IMap.made (((wr.setCell ⟨p, 3, none⟩ (.int .i64 2)).setCell ⟨p, 8, none⟩ (.map (some wr.heap.size))).setCell ⟨p, 4, none⟩ (.slice af s.found.length cf)); simpa [PS.kv] using this) (.inr HU.out.size) hpm hacc hbig (by simp)⟩
        · have g2' : (s.phase == 1) = false := by simpa using g2
          have e := HS.out
          rw [if_neg (fun h => g2 h.2), if_pos g1] at e
          have E := Lib.hid e
          clear e
          clear g2
          go_wp2_with fail
          go_end0
          rw [E.out]
          refine ⟨rfl, prop_close (m' := m) (Upd.set (p := ⟨p, 3, none⟩) HU.out (fun _ => .inl rfl) _) HFF.out fp fm HV.out.1 HV.out.2 (by have := blk_set HBR.out 3 (.int .i64 3); simpa using this) (.inl ⟨rfl, rfl⟩) rfl (IT.out.imap.upd ((Upd.refl (OneF p) wr).set1 3 _) (by simp only [OneF]; omega)) (.inl rfl) hpm hacc hbig (by show A.length ≤ _; omega)⟩
      · have g1' : ¬ (s.acc / 2 + 1 ≤ (y : Int) ∧ s.phase = 1) := fun h => g1 h.1
        by_cases g4 : s.acc - ((s.ans.length : Int) + 1 - y) < s.acc / 2 + 1
        · have e := HS.out
          rw [if_neg g1', if_neg g1, if_pos (by rw [hAl]; omega)] at e
          have E := Lib.hid e
          clear e
          clear g1'
          go_wp2_with fail
          go_end0
          rw [E.out]
          refine ⟨rfl, prop_close (m' := m) (Upd.set (p := ⟨p, 3, none⟩) HU.out (fun _ => .inl rfl) _) HFF.out fp fm HV.out.1 HV.out.2 (by have := blk_set HBR.out 3 (.int .i64 4); simpa using this) (.inl ⟨rfl, rfl⟩) rfl (IT.out.imap.upd ((Upd.refl (OneF p) wr).set1 3 _) (by simp only [OneF]; omega)) (.inl rfl) hpm hacc hbig (by show A.length ≤ _; omega)⟩
        · have e := HS.out
          rw [if_neg g1', if_neg g1, if_neg (by rw [hAl]; omega)] at e
          have E := Lib.hid e
          clear e
          clear g1'
          go_wp2_with fail
          go_end0
          rw [E.out]
          exact ⟨rfl, prop_close (m' := m) HU.out HFF.out fp fm HV.out.1 HV.out.2 HBR.out (.inl ⟨rfl, rfl⟩) rfl IT.out.imap (.inl rfl) hpm hacc hbig (by show A.length ≤ _; omega)⟩
    · obtain ⟨b, hqb, hq2⟩ := mem_bkv hq
      obtain ⟨k, v⟩ := q
      simp only at hqb hq2
      subst hq2
      obtain ⟨y1, y2⟩ := yesOf_step hn hqb
      simp only at it3
      rw [bkv_filter] at it3
      have hn' := nodup_filter_keys hn (fun x => x.1 != k)
      have m3 := itLeft_eq it3
      have m0 := itLeft_eq it
      have hle' : yesOf (todo.filter (fun x => x.1 != k)) ≤ yesOf A := by omega
      have hul := Lib.hid (hu.andThen u3)
      have HY := Lib.hid (⟨y1, y2, m3, m0⟩ : _ ∧ _ ∧ _ ∧ _)
      have HN := Lib.hid hn'
      have IT3 := Lib.hid it3
      have hyt : yesOf todo ≤ yesOf A := hle
      have hz : (0 : Int) ≤ (yesOf A : Int) - yesOf todo := by omega
      have hz2 : (yesOf A : Int) - yesOf todo ≤ 1000001 := by omega
      clear y1 y2 m3 m0 it3 hn' hn it hu u3 z3 hq
      cases b
      all_goals
        go_wp2_with fail
        refine ⟨⟨_, IT3.out, HN.out, ?_, hle', hul.out⟩, ?_⟩
        · have := HY.out.1
          simp only [Bool.false_eq_true, if_false, if_true] at this
          congr 1; omega
        · have := HY.out.2.1
          rw [HY.out.2.2.1, HY.out.2.2.2]
          simp only [bkv, List.length_map]; omega
end Go.Proofs.Ytplhgeecnnadhaa
