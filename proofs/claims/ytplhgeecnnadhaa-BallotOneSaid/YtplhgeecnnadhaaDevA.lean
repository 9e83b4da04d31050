/- The device: what it is in memory; New, Free, Sync, Wipe, Append. -/
import Derived.Test.YtplhgeecnnadhaaRow
import Derived.Test.YtplhgeecnnadhaaClone
import Derived.Test.YtplhgeecnnadhaaHeld
namespace Go.Proofs.Ytplhgeecnnadhaa
open Go.RowKit
section
variable {P : Program}
theorem run_load_cell_op {o : Oper} {a : Act} (ty : TypeId) (x : Operand) (ho : o.op = .load ty x) (p : Addr) (hx : a.eval x = .pointer (some p)) {w : World} {v : Value} (hc : w.cell? p = some v) (d : TypeDesc)
    (hu : P.underlying ty = some d) (hd : (match d with | .struct _ | .array _ _ => false | _ => true) = true) :
    (execOp a.eval o).run P w = .ok (.value v) w := by
  have h1 : (isAgg ty).run P w = .ok false w := by
    unfold isAgg
    rw [Sem.run_bind, run_underlying hu]
    cases d <;> simp_all
  have h2 : (load p).run P w = .ok v w := by simp [go_sem, hc]
  unfold execOp
  simp only [ho, hx, Instr.loadAt, Instr.sureAddr, Sem.run_bind, Sem.run_pure, Result.andThen_ok, loadVar, h1, Bool.false_eq_true, if_false, h2]
end
/-- a page -/
structure Pg where
  st : Int
  v : Value
  bs : List UInt8
def Pg.cells (x : Pg) : List Value := [.int .i64 x.st, x.v]
def Pg.plain (x : Pg) : Int × List UInt8 := (x.st, x.bs)
/-- a device, plainly: its pages (their states, their bytes), and how many last -/
structure DS where
  size : Nat
  pages : List (Int × List UInt8)
  lasts : Nat
def DS.ok (s : DS) : Prop := 1 ≤ s.size ∧ s.size ≤ 65536 ∧ s.pages.length ≤ s.size ∧ s.lasts ≤ s.pages.length ∧ ∀ p ∈ s.pages, p.2.length ≤ 140737488355328
structure DevAt (w : World) (F : Nat → Prop) (d : Nat) (s : DS) : Prop where
  mk ::
  ok : s.ok
  lt : ∀ k, F k → k < w.heap.size
  rep : ∃ (vp : Value) (l : List Pg), w.heap[d]? = some (.cells #[.int .i64 s.size, vp, .int .i64 s.lasts] 125 (0, 0)) ∧
    Row w (fun k => F k ∧ k ≠ d) 128 2 vp l.length (l.flatMap Pg.cells) ∧ (∀ x ∈ l, Bytes w (fun k => F k ∧ k ≠ d ∧ vp.ownBlock ≠ some k) x.v x.bs) ∧ l.map Pg.plain = s.pages ∧ F d
variable {F G : Nat → Prop} {w w1 : World} {d : Nat} {s : DS}
theorem DevAt.upd (h : DevAt w F d s) (hu : Upd G w w1) (hn : ∀ k, F k → ¬ G k) : DevAt w1 F d s := by
  obtain ⟨h1, h2, vp, l, hb, hr, hx, hl, hd⟩ := h
  exact ⟨h1, fun k hk => Nat.lt_of_lt_of_le (h2 k hk) hu.size, vp, l, hu.blk hb (hn _ hd), hr.upd hu (fun k hk => hn k hk.1), fun x hx' => (hx x hx').upd hu (fun k hk => hn k hk.1), hl, hd⟩
/-- what a call on a device leaves -/
def Dev2 (F : Nat → Prop) (d : Nat) (s : DS) (w w' : World) : Prop := ∃ F', DevAt w' F' d s ∧ Upd F w w' ∧ ∀ k, F' k → F k ∨ w.heap.size ≤ k
theorem len_cells (l : List Pg) : (l.flatMap Pg.cells).length = l.length * 2 := by
  induction l with
  | nil => rfl
  | cons x l ih => simp [Pg.cells, ih]; omega
/-! ### New -/
def ds0 (n : Nat) : DS := ⟨n, [], 0⟩
def NewDev (n : Nat) (w : World) (r : Ending) (w' : World) : Prop := ∃ d, r = .returned (.tuple #[.pointer (some ⟨d, 0, none⟩), .int .i64 0]) ∧ d = w.heap.size ∧ DevAt w' (OneF d) d (ds0 n) ∧ Upd NoF w w'
set_option maxHeartbeats 400000 in
theorem dev_new (n : Nat) (w : World) (h1 : 1 ≤ n) (h2 : n ≤ 65536) : Calls Try.prog 20 #[.int .i64 n] w (NewDev n w) := by
  have a1 : ¬ ((n : Int) < 1) := by omega
  have a2 : ¬ ((65536 : Int) < n) := by omega
  go_enter Try.func20, Try.ntmps20
  go_wp2_with fail
  go_ret2
  refine ⟨w.heap.size, rfl, rfl, ⟨⟨h1, h2, Nat.zero_le _, Nat.le_refl _, fun p hp => by cases hp⟩, fun k hk => by simp only [OneF] at hk; simp; omega, .slice none 0 0, [], blk_new _ _, Row.nil _ _ _ _, fun x hx => (by cases hx), rfl, rfl⟩, (Upd.refl _ _).alloc _⟩
set_option maxHeartbeats 400000 in
theorem dev_none (n : Int) (w : World) (h : n < 1 ∨ 65536 < n) : Calls Try.prog 20 #[.int .i64 n] w (fun r w' => r = .returned (.tuple #[.pointer none, .int .i64 2]) ∧ w = w') := by
  rcases h with h | h
  · go_enter Try.func20, Try.ntmps20
    go_wp2_with fail
    go_ret2
    exact ⟨rfl, rfl⟩
  · have h1 : ¬ n < 1 := by omega
    go_enter Try.func20, Try.ntmps20
    go_wp2_with fail
    go_ret2
    exact ⟨rfl, rfl⟩
/-! ### Free -/
def DS.free (s : DS) : Int := s.size - s.pages.length
set_option maxHeartbeats 400000 in
theorem dev_free (w : World) (h : DevAt w F d s) : Calls Try.prog 26 #[.pointer (some ⟨d, 0, none⟩)] w (fun r w' => r = .returned (.int .i64 s.free) ∧ ∃ n, w' = w.drewN n) := by
  obtain ⟨⟨k1, k2, k3, k4, _⟩, _, vp, l, hb, hr, _, hl, _⟩ := h
  obtain ⟨a, c, rfl, hc, _⟩ := hr.slice
  have hlen : l.length = s.pages.length := by rw [← hl]; simp
  have c0 : w.cell? ⟨d, 0, none⟩ = some (.int .i64 s.size) := blk_cell hb 0
  have c1 : w.cell? ⟨d, 1, none⟩ = some (.slice a l.length c) := blk_cell hb 1
  have HL := Lib.hid hlen
  have b1 : (l.length : Int) ≤ s.size := by omega
  clear hb hr hl hlen hc
  go_enter Try.func26, Try.ntmps26
  go_wp2_with fail
  go_quiet (fail)
  go_wp2_with fail
  go_ret
  refine ⟨?_, _, rfl⟩
  show Ending.returned (.int .i64 ((s.size : Int) - (l.length : Int))) = _
  unfold DS.free
  rw [HL.out]
/-! ### Sync, Wipe -/
set_option maxHeartbeats 400000 in
theorem dev_sync (w : World) (h : DevAt w F d s) : Calls Try.prog 22 #[.pointer (some ⟨d, 0, none⟩)] w (fun r w' => r = .returned (.tuple #[]) ∧ DevAt w' F d { s with lasts := s.pages.length } ∧ Upd F w w') := by
  obtain ⟨⟨k1, k2, k3, k4, k5⟩, hlt, vp, l, hb, hr, hx, hl, hd⟩ := h
  obtain ⟨a, c, rfl, hc, _⟩ := hr.slice
  have hlen : l.length = s.pages.length := by rw [← hl]; simp
  have c1 : w.cell? ⟨d, 1, none⟩ = some (.slice a l.length c) := blk_cell hb 1
  have f := blk_free hb
  have c2 : w.cell? ⟨d, 2, none⟩ = some (.int .i64 s.lasts) := blk_cell hb 2
  have HB := Lib.hid hb
  have HL := Lib.hid hlen
  have HM := Lib.hid hl
  have hX := Lib.hid hx
  clear hb hlen hl hx
  go_enter Try.func22, Try.ntmps22
  go_wp2_with fail
  go_end0
  have u := (Upd.refl (OneF d) w).set1 2 (.int .i64 (l.length : Int))
  refine ⟨rfl, ⟨⟨k1, k2, k3, Nat.le_refl _, k5⟩, fun k hk => Nat.lt_of_lt_of_le (hlt k hk) u.size, _, l, ?_, hr.upd u (fun k hk => hk.2), fun x hx => (hX.out x hx).upd u (fun k hk => hk.2.1), HM.out, hd⟩, u.mono (fun k _ h => by simp only [OneF] at h; subst h; exact hd)⟩
  rw [blk_set HB.out]
  simp [HL.out]
set_option maxHeartbeats 400000 in
theorem dev_wipe (w : World) (h : DevAt w F d s) : Calls Try.prog 27 #[.pointer (some ⟨d, 0, none⟩)] w (fun r w' => r = .returned (.tuple #[]) ∧ DevAt w' F d { s with pages := [], lasts := 0 } ∧ Upd F w w') := by
  obtain ⟨⟨k1, k2, k3, k4, k5⟩, hlt, vp, l, hb, hr, hx, hl, hd⟩ := h
  obtain ⟨a, c, rfl, hc, _⟩ := hr.slice
  have c1 : w.cell? ⟨d, 1, none⟩ = some (.slice a l.length c) := blk_cell hb 1
  have f := blk_free hb
  have c2 : w.cell? ⟨d, 2, none⟩ = some (.int .i64 s.lasts) := blk_cell hb 2
  have HB := Lib.hid hb
  clear hb hl hx hr
  go_enter Try.func27, Try.ntmps27
  go_wp2_with fail
  go_end0
  have u := ((Upd.refl (OneF d) w).set1 1 (.slice none 0 0)).set1 2 (.int .i64 0)
  refine ⟨rfl, ⟨⟨k1, k2, Nat.zero_le _, Nat.le_refl _, fun p hp => (by cases hp)⟩, fun k hk => Nat.lt_of_lt_of_le (hlt k hk) u.size, .slice none 0 0, [], ?_, Row.nil _ _ _ _, fun x hx => (by cases hx), rfl, hd⟩, u.mono (fun k _ h => by simp only [OneF] at h; subst h; exact hd)⟩
  rw [blk_set (blk_set HB.out _ _)]
  simp
/-! ### Append -/
set_option maxHeartbeats 400000 in
theorem dev_full (v : Value) (w : World) (h : DevAt w F d s) (hf : s.free = 0) : Calls Try.prog 21 #[.pointer (some ⟨d, 0, none⟩), v] w (fun r w' => r = .returned (.int .i64 4) ∧ ∃ n, w' = w.drewN n) := by
  have hfr := dev_free w h
  rw [hf] at hfr
  have HF := Lib.hid hfr
  clear hfr hf
  go_enter Try.func21, Try.ntmps21
  go_wp2_with fail
  refine HF.out.mono ?_
  rintro r w1 ⟨rfl, n, rfl⟩
  go_wp2_with fail
  go_ret
  exact ⟨rfl, n, rfl⟩
def DS.push (s : DS) (b : List UInt8) : DS := { s with pages := s.pages ++ [(1, b)] }
theorem info_page : (Try.prog.info? 128).map (fun i => (i.zero, i.size, i.bytes)) = some (some (.agg #[.int .i64 0, .slice none 0 0]), 2, 32) := by kernel_rfl
theorem append_close {w5 w6 : World} {vp v' v4 : Value} {l : List Pg} {b : List UInt8} (hok : s.ok) (hfree : s.free ≠ 0) (hl : b.length ≤ 140737488355328) (hlt : ∀ k, F k → k < w.heap.size) (hd : F d)
    (hb : w.heap[d]? = some (.cells #[.int .i64 s.size, vp, .int .i64 s.lasts] 125 (0, 0))) (hr : Row w (fun k => F k ∧ k ≠ d) 128 2 vp l.length (l.flatMap Pg.cells))
    (hx : ∀ x ∈ l, Bytes w (fun k => F k ∧ k ≠ d ∧ vp.ownBlock ≠ some k) x.v x.bs) (hll : l.map Pg.plain = s.pages)
    (u5 : Upd NoF w w5) (b5 : Bytes w5 (fun k => w.heap.size ≤ k ∧ k < w5.heap.size) v4 b)
    (r6 : Row w6 (fun k => (F k ∧ k ≠ d) ∨ w5.heap.size ≤ k) 128 2 v' (l.length + 1) (l.flatMap Pg.cells ++ [.int .i64 1, v4])) (u6 : Upd (fun k => vp.ownBlock = some k) w5 w6)
    (o6 : ∀ k, v'.ownBlock = some k → vp.ownBlock = some k ∨ w5.heap.size ≤ k) : Dev2 F d (s.push b) w (w6.setCell ⟨d, 1, none⟩ v') := by
  obtain ⟨k1, k2, k3, k4, k5⟩ := hok
  have hln : l.length = s.pages.length := by rw [← hll]; simp
  have hz5 := u5.size
  have hz6 := u6.size
  have hdl := hlt d hd
  have hvd : vp.ownBlock ≠ some d := fun h => (hr.2 d h).2 rfl
  have hvl : ∀ k, vp.ownBlock = some k → k < w.heap.size := hr.lt
  have u7 : Upd (OneF d) w6 (w6.setCell ⟨d, 1, none⟩ v') := (Upd.refl _ _).set1 _ _
  have hz7 : (w6.setCell ⟨d, 1, none⟩ v').heap.size = w6.heap.size := by simp [World.setCell]
  have hb6 := u6.blk (u5.blk0 hb) hvd
  have r7 := (r6.bound.upd u7 (fun k hk h => by
    simp only [OneF] at h; subst h
    rcases hk.1 with h | h
    · exact h.2 rfl
    · omega))
  refine ⟨fun k => F k ∨ (w.heap.size ≤ k ∧ k < w6.heap.size), ⟨⟨k1, k2, ?_, ?_, ?_⟩, ?_, v', l ++ [⟨1, v4, b⟩], ?_, ?_, ?_, ?_, .inl hd⟩, ?_, ?_⟩
  · simp only [DS.push, List.length_append, List.length_singleton]
    simp only [DS.free] at hfree; omega
  · simp only [DS.push, List.length_append, List.length_singleton]; omega
  · intro p hp
    simp only [DS.push, List.mem_append, List.mem_singleton] at hp
    rcases hp with hp | rfl
    · exact k5 p hp
    · exact hl
  · intro k hk
    rw [hz7]
    rcases hk with h | h
    · have := hlt k h; omega
    · exact h.2
  · rw [blk_set hb6]
    simp [DS.push]
  · rw [show (l ++ [(⟨1, v4, b⟩ : Pg)]).length = l.length + 1 by simp, show (l ++ [(⟨1, v4, b⟩ : Pg)]).flatMap Pg.cells = l.flatMap Pg.cells ++ [.int .i64 1, v4] by simp [Pg.cells]]
    refine r7.mono (fun k hk => ?_)
    rcases hk.1 with h | h
    · exact ⟨.inl h.1, h.2⟩
    · exact ⟨.inr ⟨by omega, hk.2⟩, by omega⟩
  · intro x hx'
    rcases List.mem_append.1 hx' with h | h
    · have := ((hx x h).upd u5 (fun _ _ h => h)).upd u6 (fun k hk h => hk.2.2 h)
      refine (this.upd u7 (fun k hk h => hk.2.1 h)).mono (fun k hk => ⟨.inl hk.1, hk.2.1, fun h => ?_⟩)
      rcases o6 k h with h | h
      · exact hk.2.2 h
      · have := hlt k hk.1; omega
    · simp only [List.mem_singleton] at h
      subst h
      refine ((b5.upd u6 (fun k hk h => by have := hvl k h; omega)).upd u7 (fun k hk h => by simp only [OneF] at h; omega)).mono (fun k hk => ⟨.inr ⟨hk.1, by omega⟩, by omega, fun h => ?_⟩)
      rcases o6 k h with h | h
      · have := hvl k h; omega
      · omega
  · simp only [List.map_append, List.map_cons, List.map_nil, hll, DS.push, Pg.plain]
  · refine ((u5.mono (G := F) (fun _ _ h => h.elim)).trans u6 (fun k _ h => (hr.2 k h).1)).trans u7 (fun k _ h => by simp only [OneF] at h; subst h; exact hd)
  · intro k hk
    rcases hk with h | h
    · exact .inl h
    · exact .inr h.1
set_option maxHeartbeats 2000000 in
theorem dev_append (v : Value) (b : List UInt8) (w : World) (h : DevAt w F d s) (hf : s.free ≠ 0) (hv : Bytes w G v b) (hl : b.length ≤ 140737488355328) :
    Calls Try.prog 21 #[.pointer (some ⟨d, 0, none⟩), v] w (fun r w' => r = .returned (.int .i64 0) ∧ Dev2 F d (s.push b) w w') := by
  have hfr := dev_free w h
  have hff : (s.free == 0) = false := by simpa using hf
  obtain ⟨va, vc, rfl, hvc⟩ := hv.slice
  obtain ⟨⟨k1, k2, k3, k4, k5⟩, hlt, vp, l, hb, hr, hx, hll, hd⟩ := h
  have HFR := Lib.hid hf
  have HF := Lib.hid hfr
  have HB := Lib.hid hb
  have HR := Lib.hid hr
  have HX := Lib.hid hx
  have HLL := Lib.hid hll
  have HV := Lib.hid hv
  have HL := Lib.hid hl
  obtain ⟨a, c, rfl, hc, hcl, _⟩ := hr.slice
  have hln : (l.length : Int) < s.size := by have : l.length = s.pages.length := by (rw [← hll]; simp)
                                             simp only [DS.free] at hf; omega
  have HN := Lib.hid (show l.length + 1 ≤ 65536 by omega)
  clear hfr hb hr hx hll hv hl hcl hc hvc hf hln
  obtain ⟨i0, hi, hz0, hz1, hz2⟩ := info_parts info_page
  go_enter Try.func21, Try.ntmps21
  go_wp2_with fail
  refine HF.out.mono ?_
  rintro r w1 ⟨rfl, n, rfl⟩
  go_wp2_with fail
  have U0 := Lib.hid (((Upd.refl NoF w).drewN n).drew)
  have S0 := Lib.hid (show (World.drewN w n).drew.cell? ⟨d, 1, none⟩ = some (.slice a l.length c) from U0.out.cell0 (blk_cell HB.out 1))
  refine region_late (fun W => W.cell? ⟨d, 1, none⟩ = some (.slice a l.length c)) [12] (by kernel_rfl) ?_
  refine late_take 0 (.pointer (some ⟨d, 0, none⟩)) rfl (by kernel_rfl) (by kernel_rfl) (by kernel_rfl) (by kernel_rfl) (fun _ _ _ h => h) (by kernel_rfl) S0.out (fun W' _ => by kernel_rfl) ?_
  refine late_take 1 (.pointer (some ⟨d, 0, none⟩)) rfl (by kernel_rfl) (by kernel_rfl) (by kernel_rfl) (by kernel_rfl) (fun _ _ _ h => h) (by kernel_rfl) S0.out (fun W' _ => by kernel_rfl) ?_
  refine late_take 2 (.pointer (some ⟨d, 0, none⟩)) rfl (by kernel_rfl) (by kernel_rfl) (by kernel_rfl) (by kernel_rfl) (fun _ _ _ h => h) (by kernel_rfl) S0.out (fun W' _ => by kernel_rfl) ?_
  refine late_take 3 (.pointer (some ⟨d, 1, none⟩)) rfl (by kernel_rfl) (by kernel_rfl) (by kernel_rfl) (by kernel_rfl) (fun _ _ _ h => h) (by kernel_rfl) S0.out (fun W' _ => by kernel_rfl) ?_
  refine late_take 4 (.slice a l.length c) rfl (by kernel_rfl) (by kernel_rfl) (by kernel_rfl) (by kernel_rfl) (fun _ _ _ h => h) (by kernel_rfl) S0.out (fun W' hW' => run_load_cell_op 123 _ rfl ⟨d, 1, none⟩ (by kernel_rfl) hW' _ Try.underlying123 rfl) ?_
  refine late_take 5 (.slice va b.length vc) rfl (by kernel_rfl) (by kernel_rfl) (by kernel_rfl) (by kernel_rfl) (fun _ _ _ h => h) (by kernel_rfl) S0.out (fun W' _ => by kernel_rfl) ?_
  refine late_one 6 rfl (by kernel_rfl) (by kernel_rfl) (fun K hK => ?_)
  go_wp2_with fail
  refine (clone_any _ _ _ (HV.out.upd0 U0.out) HL.out).mono ?_
  rintro r w4 ⟨v4, rfl, b4, u4⟩
  obtain ⟨a4, c4, rfl, hk4⟩ := b4.slice
  have U4 := Lib.hid (U0.out.then0 u4)
  have S4 := Lib.hid (show w4.cell? ⟨d, 1, none⟩ = some (.slice a l.length c) from u4.cell0 S0.out)
  have B4 := Lib.hid b4
  have Z4 := Lib.hid u4.size
  clear b4 u4
  refine hK _ _ (fun _ => S4.out) ?_
  clear hK K
  refine late_one 7 rfl (by kernel_rfl) (by kernel_rfl) (fun K hK => ?_)
  go_wp2_with fail
  refine hK _ _ (fun _ => S4.out) ?_
  clear hK K
  have S5 := Lib.hid (show (w4.alloc (.cells #[.int .i64 1, .slice a4 b.length c4] 128)).cell? ⟨d, 1, none⟩ = some (.slice a l.length c) from ((Upd.refl NoF w4).alloc _).cell0 S4.out)
  refine late_one 8 rfl (by kernel_rfl) (by kernel_rfl) (fun K hK => ?_)
  go_wp2_with fail
  refine hK _ _ (fun _ => S5.out) ?_
  clear hK K
  have R5 := Lib.hid (HR.out.upd (U4.out.alloc (.cells #[.int .i64 1, .slice a4 b.length c4] 128)) (fun _ _ h => h))
  refine late_one 9 rfl (by kernel_rfl) (by kernel_rfl) (fun K hK => ?_)
  refine wp_append_row _ _ 123 rfl 128 i0 (.agg #[.int .i64 0, .slice none 0 0]) 2 32 Try.underlying123 hi hz0 hz1 hz2 rfl (by decide) (by kernel_rfl) R5.out ⟨w4.heap.size, 0, none⟩ 1 1 [.int .i64 1, .slice a4 b.length c4] (by kernel_rfl) rfl ?qc1 ?qc2 ?qc3 ?qc4 ?_
  case qc1 =>
    intro j u hj
    rw [show (⟨w4.heap.size, 0, none⟩ : Addr).add j = ⟨w4.heap.size, j, none⟩ by unfold Addr.add; split <;> simp_all]
    exact cell_new (by simpa using hj)
  case qc2 => intro u hu; simp only [List.mem_cons, List.not_mem_nil, or_false] at hu; rcases hu with rfl | rfl <;> rfl
  case qc3 => unfold maxLen; have := HN.out; omega
  case qc4 => have := HN.out; omega
  intro v' w6 r6 u6 o6
  obtain ⟨a', c', rfl, _⟩ := r6.slice
  have S6 := Lib.hid (show w6.cell? ⟨d, 1, none⟩ = some (.slice a l.length c) from u6.cell S5.out (fun h => (HR.out.2 d h).2 rfl))
  have R6 := Lib.hid r6
  have U6 := Lib.hid u6
  have O6 := Lib.hid o6
  clear r6 u6 o6
  refine hK _ _ (fun _ => S6.out) ?_
  clear hK K
  refine late_one 10 rfl (by kernel_rfl) (by kernel_rfl) (fun K hK => ?_)
  go_wp2_with fail
  refine hK _ _ (fun _ => S6.out) ?_
  clear hK K
  refine late_one 11 rfl (by kernel_rfl) (by kernel_rfl) (fun K hK => ?_)
  go_wp2_with fail
  refine hK _ _ (fun _ => S6.out) ?_
  clear hK K
  have f6 : w6.frozen? ⟨d, 1, none⟩ = false := blk_free (U6.out.blk (U4.out.alloc (.cells #[.int .i64 1, .slice a4 b.length c4] 128) |>.blk0 HB.out) (fun h => (HR.out.2 d h).2 rfl)) 1
  have s6 := S6.out
  refine late_one 12 rfl (by kernel_rfl) (by kernel_rfl) (fun K hK => ?_)
  go_wp2_with fail
  refine hK _ _ (fun h => (by cases h)) ?_
  clear hK K
  refine late_done (by kernel_rfl) ?_ _
  go_wp2_with fail
  go_ret
  refine ⟨rfl, append_close ⟨k1, k2, k3, k4, k5⟩ HFR.out HL.out hlt hd HB.out HR.out HX.out HLL.out (U4.out.alloc _) ?_ R6.out U6.out O6.out⟩
  exact ((B4.out.bound.upd0 ((Upd.refl NoF w4).alloc (.cells #[.int .i64 1, .slice a4 b.length c4] 128))).mono (fun k hk => ⟨by have := hk.1; simpa using this, by have := hk.2; simp; omega⟩))
end Go.Proofs.Ytplhgeecnnadhaa
