/- The unit: Read. -/
import Derived.Test.YtplhgeecnnadhaaUnitI
namespace Go.Proofs.Ytplhgeecnnadhaa
open Go.RowKit
variable {F G D : Nat → Prop} {w w1 w2 : World} {u d p : Nat} {s : US} {ds : DS}
/-- what every unit is -/
structure US.good (s : US) : Prop where
  e : s.e ≤ 2147483647
  low : s.low ≤ 4294967296
  tail : s.tail ≤ 4294967297
  cells : ∀ k c, s.cells k = some c → (c.1 = 1 ∧ c.2.length ≤ 65536) ∨ (c.1 = 2 ∧ c.2 = [])
  acc : ∀ k, (s.at_ k).val.length ≤ 1000
theorem US.good.len (h : s.good) {k : Int} {c : Int × List UInt8} (hc : s.cells k = some c) : c.2.length ≤ 65536 := by
  rcases h.cells k c hc with h | h
  · exact h.2
  · rw [h.2]; simp
theorem fput_acc (s : US) (n : Int) (a : Acc) (k : Int) : (s.put n a).at_ k = if k = n then a else s.at_ k := by
  unfold US.put US.at_ fput
  simp only
  split <;> rfl
theorem good_app (h : s.good) {p : UPage} (hp : p.ok) : (s.app p).good := by
  cases p with
  | dat n b =>
    refine ⟨h.e, h.low, ?_, fun k c hc => ?_, h.acc⟩
    · have := h.tail; have := hp.1; simp only [US.app, US.cell]; omega
    · simp only [US.app, US.cell, fput] at hc
      split at hc
      · cases hc; exact .inl ⟨rfl, hp.2⟩
      · exact h.cells k c hc
  | jnk n =>
    refine ⟨h.e, h.low, ?_, fun k c hc => ?_, h.acc⟩
    · have := h.tail; have : n ≤ 4294967296 := hp; simp only [US.app, US.cell]; omega
    · simp only [US.app, US.cell, fput] at hc
      split at hc
      · cases hc; exact .inr ⟨rfl, rfl⟩
      · exact h.cells k c hc
  | trm n => exact ⟨h.e, hp, h.tail, h.cells, h.acc⟩
  | sea n => exact ⟨hp, h.low, h.tail, h.cells, h.acc⟩
  | pro n r q =>
    refine ⟨h.e, h.low, h.tail, h.cells, fun k => ?_⟩
    simp only [US.app, fput_acc]
    split
    · exact h.acc _
    · exact h.acc k
  | acc n r q b =>
    refine ⟨h.e, h.low, h.tail, h.cells, fun k => ?_⟩
    simp only [US.app, fput_acc]
    split
    · exact hp.2.2.2.2
    · exact h.acc k
theorem good0 : us0.good := ⟨Nat.zero_le _, Nat.zero_le _, Nat.zero_le _, fun _ _ h => (by cases h), fun _ => by simp [US.at_, us0, acc0]⟩
theorem replay_good : ∀ (ps : List UPage) (s : US), s.good → (∀ p ∈ ps, p.ok) → (ps.foldl US.app s).good
  | [], _, h, _ => h
  | p :: ps, _, h, hp => replay_good ps _ (good_app h (hp p (by simp))) (fun q hq => hp q (by simp [hq]))
theorem replay_snoc (ps : List UPage) (p : UPage) : replay (ps ++ [p]) = (replay ps).app p := by unfold replay; rw [List.foldl_append]; rfl
/-- what stands at an address; the error -/
def US.look (s : US) (epoch at_ : Int) : (Int × List UInt8) × Int :=
  if s.ask epoch at_ = 0 then (if at_ < s.low then ((0, []), 11) else match s.cells at_ with | none => ((0, []), 9) | some c => (c, 0)) else ((0, []), s.ask epoch at_)
def ReadQ (x : (Int × List UInt8) × Int) (w : World) (r : Ending) (w' : World) : Prop := ∃ v, r = .returned (.tuple #[.agg #[.int .i64 x.1.1, v], .int .i64 x.2]) ∧ Bytes w' (fun k => w.heap.size ≤ k) v x.1.2 ∧ Upd NoF w w'
theorem cell_zero (W : World) : (zeroValue 54).run Try.prog W = .ok (.agg #[.int .i64 0, .slice none 0 0]) W := by kernel_rfl
/-- a cell that is looked up -/
theorem cell_look {m : Nat} (h : MapRep cellRep w F m s.cells) (n : Int) : ∃ k a c, (Instr.lookup 106 (.map (some m)) (.int .i64 n) true).run Try.prog w = .ok (.tuple #[.agg #[.int .i64 k, .slice a ((s.cells n).getD (0, [])).2.length c], .bool (s.cells n).isSome]) w ∧
    k = ((s.cells n).getD (0, [])).1 ∧ Bytes w F (.slice a ((s.cells n).getD (0, [])).2.length c) ((s.cells n).getD (0, [])).2 := by
  obtain ⟨kv, h1, h2, h3⟩ := h
  have hl := h1.run_lookup Try.underlying106 Try.underlying3 (cell_zero w) n true
  simp only [if_true] at hl
  cases hk : kvGet kv n with
  | none =>
    rw [hk] at hl
    rw [h3 n hk]
    exact ⟨0, none, 0, hl, rfl, Slc.nil _ _ _ _ _ _⟩
  | some v =>
    rw [hk] at hl
    obtain ⟨a, ha, b, hb, hv⟩ := h2 n v hk
    rw [ha]
    obtain ⟨x, c, rfl, _⟩ := hv.slice
    subst hb
    exact ⟨a.1, x, c, hl, rfl, hv⟩
set_option maxRecDepth 100000 in
set_option maxHeartbeats 4000000 in
theorem u_read (epoch at_ : Int) (w : World) (h : UnitAt w F u d s) (hg : s.good) : Calls Try.prog 49 #[.pointer (some ⟨u, 0, none⟩), .int .i64 epoch, .int .i64 at_] w (ReadQ (s.look epoch at_) w) := by
  have HA := Lib.hid (fun W (hu : Upd NoF w W) => u_ask epoch at_ W (h.upd hu (fun _ _ h => h)))
  unfold US.look
  generalize s.ask epoch at_ = c at HA ⊢
  obtain ⟨h1, mc, ma, hb, hfs, hcl, hac⟩ := h
  by_cases h0 : c = 0
  case neg =>
    rw [if_neg h0]
    have HU := Lib.hid ((Upd.refl NoF w).alloc (.cells #[.int .i64 0, .slice none 0 0] 54))
    have h0' : (c == 0) = false := by simpa using h0
    clear hb hcl hac hfs h1
    go_enter Try.func49, Try.ntmps49
    go_wp2_with fail
    refine (HA.out _ HU.out).mono ?_
    rintro r w1 ⟨rfl, rfl⟩
    go_wp2_with fail
    refine bodyPost_ret (results_ct rfl _ _ _ 54 _ (0, 0) _ rfl (blk_newn rfl _) Try.underlying54 rfl (by kernel_rfl)) rfl ?_
    exact ⟨_, rfl, Slc.nil _ _ _ _ _ _, HU.out⟩
  case pos =>
  subst h0
  rw [if_pos rfl]
  have HU := Lib.hid ((Upd.refl NoF w).alloc (.cells #[.int .i64 0, .slice none 0 0] 54))
  have HB := Lib.hid (HU.out.blk0 hb)
  have e2 : (w.alloc (.cells #[.int .i64 0, .slice none 0 0] 54)).cell? ⟨u, 2, none⟩ = some (.int .i64 s.low) := blk_cell HB.out 2
  have e4 : (w.alloc (.cells #[.int .i64 0, .slice none 0 0] 54)).cell? ⟨u, 4, none⟩ = some (.map (some mc)) := blk_cell HB.out 4
  have hul := h1 u hfs.1
  obtain ⟨k, a, cc, hlk, hk, hbs⟩ := cell_look (hcl.upd cellRep_upd HU.out (fun _ _ h => h) (fun h => h)) at_
  have HCL := Lib.hid hbs
  have HK := Lib.hid hk
  clear hb hcl hac hfs h1 hk hbs
  have e2' : ∀ o, ((w.alloc (.cells #[.int .i64 0, .slice none 0 0] 54)).alloc o).cell? ⟨u, 2, none⟩ = some (.int .i64 s.low) := fun o => blk_cell (blk_alloc HB.out o) 2
  have HE2 := Lib.hid e2'
  clear e2'
  by_cases hlow : at_ < s.low
  · rw [if_pos hlow]
    generalize (s.cells at_).isSome = bl at *
    generalize ((s.cells at_).getD (0, [])).2.length = bn at *
    have e2' := HE2.out (.cells #[.int .i64 k, .slice a bn cc] 54)
    go_enter Try.func49, Try.ntmps49
    go_wp2_with fail
    refine (HA.out _ HU.out).mono ?_
    rintro r w1 ⟨rfl, rfl⟩
    go_wp2_with fail
    refine bodyPost_ret (results_ct rfl _ _ _ 54 _ (0, 0) _ rfl (blk_alloc (blk_newn rfl _) _) Try.underlying54 rfl (by kernel_rfl)) rfl ?_
    exact ⟨_, rfl, Slc.nil _ _ _ _ _ _, HU.out.alloc _⟩
  · rw [if_neg hlow]
    cases hc : s.cells at_ with
    | none =>
      simp only [hc] at hlk HCL HK ⊢
      clear hc
      have e2' := HE2.out (.cells #[.int .i64 k, .slice a 0 cc] 54)
      go_enter Try.func49, Try.ntmps49
      go_wp2_with fail
      refine (HA.out _ HU.out).mono ?_
      rintro r w1 ⟨rfl, rfl⟩
      go_wp2_with fail
      refine bodyPost_ret (results_ct rfl _ _ _ 54 _ (0, 0) _ rfl (blk_alloc (blk_newn rfl _) _) Try.underlying54 rfl (by kernel_rfl)) rfl ?_
      exact ⟨_, rfl, Slc.nil _ _ _ _ _ _, HU.out.alloc _⟩
    | some c =>
      have hcn := hg.len hc
      simp only [hc] at hlk HCL HK ⊢
      clear hc
      obtain ⟨c1, c2⟩ := c
      simp only [Option.getD_some] at hlk HCL HK hcn
      obtain rfl := HK.out.symm
      have HU2 := Lib.hid (HU.out.alloc (.cells #[.int .i64 c1, .slice a c2.length cc] 54))
      have e2' := HE2.out (.cells #[.int .i64 c1, .slice a c2.length cc] 54)
      have HC := Lib.hid (u_copied c1 (.slice a c2.length cc) c2 _ (HCL.out.upd0 ((Upd.refl NoF _).alloc (.cells #[.int .i64 c1, .slice a c2.length cc] 54))) (by omega))
      clear hcn
      go_enter Try.func49, Try.ntmps49
      go_wp2_with fail
      refine (HA.out _ HU.out).mono ?_
      rintro r w1 ⟨rfl, rfl⟩
      go_wp2_with fail
      refine HC.out.mono ?_
      rintro r w3 ⟨v3, rfl, b3, u3⟩
      obtain ⟨a3, c3, rfl, hc3⟩ := b3.slice
      have B3 := Lib.hid b3
      have U3 := Lib.hid u3
      have t3 := u3.blk0 (blk_alloc (blk_new w (.cells #[.int .i64 0, .slice none 0 0] 54)) _)
      have T3 := Lib.hid t3
      have d0 : w3.cell? ⟨w.heap.size, 0, none⟩ = some (.int .i64 0) := blk_cell t3 0
      have d1 : w3.cell? ⟨w.heap.size, 1, none⟩ = some (.slice none 0 0) := blk_cell t3 1
      have g0 := blk_free t3 0
      have g1 := blk_free t3 1
      have hz := blk_lt t3
      clear b3 u3 hc3 t3
      go_wp2_with fail
      have hx : ((w3.setCell ⟨w.heap.size, 0, none⟩ (.int .i64 c1)).setCell ⟨w.heap.size, 1, none⟩ (.slice a3 c2.length c3)).heap[w.heap.size]? = some (.cells #[.int .i64 c1, .slice a3 c2.length c3] 54 (0, 0)) := by rw [blk_set (blk_set T3.out 0 _) 1]; simp
      have hu : Upd (OneF (w.heap.size)) w3 ((w3.setCell ⟨w.heap.size, 0, none⟩ (.int .i64 c1)).setCell ⟨w.heap.size, 1, none⟩ (.slice a3 c2.length c3)) := ((Upd.refl _ _).set1 _ _).set1 _ _
      refine bodyPost_ret (results_ct rfl _ _ _ 54 _ (0, 0) _ rfl hx Try.underlying54 rfl (by kernel_rfl)) rfl ?_
      have hz2 := HU.out.size
      have hz3 := alloc_size w (.cells #[.int .i64 0, .slice none 0 0] 54)
      have hz4 := alloc_size (w.alloc (.cells #[.int .i64 0, .slice none 0 0] 54)) (.cells #[.int .i64 c1, .slice a c2.length cc] 54)
      refine ⟨_, rfl, (B3.out.upd hu (fun k hk h => by simp only [OneF] at h; omega)).mono (fun k hk => by omega), (HU2.out.then0 U3.out).trans hu (fun i hi h => by simp only [OneF] at h; omega)⟩
end Go.Proofs.Ytplhgeecnnadhaa
