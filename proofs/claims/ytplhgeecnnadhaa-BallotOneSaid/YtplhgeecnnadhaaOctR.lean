/- octet's Reader. -/
import Derived.Test.YtplhgeecnnadhaaRow
import Derived.Test.YtplhgeecnnadhaaHeld
import Derived.Test.YtplhgeecnnadhaaDevA
import Derived.Test.YtplhgeecnnadhaaOctW
import Derived.Laws.BitsAllLaws
namespace Go.Proofs.Ytplhgeecnnadhaa
open Go.RowKit
variable {F G : Nat → Prop} {w w1 : World} {p : Nat} {l : List UInt8} {x : Bool}
/-! ### bytes within bytes -/
theorem Bytes.sub {a : Option Addr} {n c : Nat} (h : Bytes w F (.slice a n c) l) (i j m : Nat) (hij : i ≤ j) (hj : j ≤ l.length) (hjm : j ≤ m) : Bytes w F (sliced a i j m 1) ((l.take j).drop i) := by
  obtain ⟨a', c', hv, hc, h⟩ := h
  cases hv
  have hlen : ((l.take j).drop i).length = j - i := by simp; omega
  refine ⟨if m = i then a else a.map (·.add (i * 1)), m - i, ?_, ?_, ?_⟩
  · rw [hlen]; rfl
  · rw [hlen]; omega
  · intro hne
    have hne' : l ≠ [] := by intro e; subst e; simp at hne
    have hlt : i < j := by
      rcases Nat.lt_or_ge i j with h | h
      · exact h
      · exact absurd (List.eq_nil_of_length_eq_zero (by omega)) hne
    obtain ⟨g, o, rfl, hg, cur, ty, fr, hb, he⟩ := h hne'
    have hadd : (⟨g, o, none⟩ : Addr).add (i * 1) = ⟨g, o + i, none⟩ := by rw [Nat.mul_one]; unfold Addr.add; split <;> simp_all
    refine ⟨g, o + i, ?_, hg, cur, ty, fr, hb, fun k hk => ?_⟩
    · rw [if_neg (by omega)]; simp only [Option.map_some, hadd]
    · rw [hlen] at hk
      obtain ⟨cs, h1, h2, h3⟩ := he (i + k) (by omega)
      refine ⟨cs, h1, ?_, fun q hq => ?_⟩
      · rw [List.getElem_drop, List.getElem_take]; exact h2
      · have := h3 q hq
        rw [← this]; congr 1; omega
section
variable {P : Program}
theorem run_slice_op {o : Oper} {a : Act} (ty : TypeId) (x : Operand) (lo hi mx : Option Operand) (ho : o.op = .slice ty x lo hi mx) {v r : Value} (hx : a.eval x = v) (lo' hi' mx' : Option Value) (hl : lo.map a.eval = lo') (hh : hi.map a.eval = hi') (hm : mx.map a.eval = mx')
    {w : World} (h : (Instr.sliceAt ty v lo' hi' mx').run P w = .ok r w) : (execOp a.eval o).run P w = .ok (.value r) w := by
  unfold execOp
  simp only [ho, hx, hl, hh, hm, Sem.run_bind, h, Result.andThen_ok, Sem.run_pure]
end
/-- a reader at p: what is left, and whether it is wrong -/
structure RdAt (w : World) (F : Nat → Prop) (p : Nat) (l : List UInt8) (x : Bool) : Prop where
  mk ::
  rep : ∃ v, w.heap[p]? = some (.cells #[v, .bool x] 203 (0, 0)) ∧ Bytes w F v l ∧ ¬ F p
theorem RdAt.upd (h : RdAt w F p l x) (hu : Upd G w w1) (hn : ∀ k, F k → ¬ G k) (hp : ¬ G p) : RdAt w1 F p l x := by
  obtain ⟨v, hb, hr, hd⟩ := h
  exact ⟨v, hu.blk hb hp, hr.upd hu hn, hd⟩
theorem RdAt.lt (h : RdAt w F p l x) : p < w.heap.size := by obtain ⟨v, hb, _⟩ := h; exact blk_lt hb
set_option maxHeartbeats 400000 in
theorem rd_new (v : Value) (w : World) (hv : Bytes w F v l) (hl : l.length ≤ 140737488355328) :
    Calls Try.prog 111 #[v] w (fun r w' => ∃ F' p, r = .returned (.pointer (some ⟨p, 0, none⟩)) ∧ RdAt w' F' p l false ∧ Upd NoF w w' ∧ w.heap.size ≤ p ∧ ∀ k, F' k → w.heap.size ≤ k) := by
  have HC := Lib.hid (clone_any v l w hv hl)
  obtain ⟨a, c, rfl, hc⟩ := hv.slice
  clear hv
  go_enter Try.func111, Try.ntmps111
  go_wp2_with fail
  refine HC.out.mono ?_
  rintro r w1 ⟨v1, rfl, h1, h2⟩
  have H1 := Lib.hid h1
  have H2 := Lib.hid h2
  obtain ⟨a1, c1, rfl, hc1⟩ := h1.slice
  have hz := h2.size
  clear h1 h2
  go_wp2_with fail
  go_ret
  have u : Upd NoF w1 (w1.alloc (.cells #[.slice a1 l.length c1, .bool false] 203 (0, 0))) := (Upd.refl _ _).alloc _
  refine ⟨fun k => w.heap.size ≤ k ∧ k < w1.heap.size, w1.heap.size, rfl, ⟨_, blk_new _ _, ?_, fun h => by omega⟩, H2.out.andThen u, hz, fun k hk => hk.1⟩
  exact H1.out.bound.upd0 u
set_option maxHeartbeats 400000 in
theorem rd_fail (w : World) (h : RdAt w F p l x) :
    Calls Try.prog 143 #[.pointer (some ⟨p, 0, none⟩)] w (fun r w' => r = .returned (.tuple #[]) ∧ RdAt w' F p [] true ∧ Upd (OneF p) w w') := by
  obtain ⟨v, hb, hr, hd⟩ := h
  have c0 : w.cell? ⟨p, 0, none⟩ = some v := blk_cell hb 0
  have c1 : w.cell? ⟨p, 1, none⟩ = some (.bool x) := blk_cell hb 1
  have f0 := blk_free hb 0
  have f1 := blk_free hb 1
  have HB := Lib.hid hb
  clear hb hr
  go_enter Try.func143, Try.ntmps143
  go_wp2_with fail
  go_end0
  refine ⟨rfl, ⟨.slice none 0 0, ?_, Slc.nil _ _ _ _ _ _, hd⟩, ((Upd.refl _ _).set1 _ _).set1 _ _⟩
  rw [blk_set (blk_set HB.out 0 _) 1]; simp
/-- what take does -/
def rtake (l : List UInt8) (x : Bool) (n : Nat) : (List UInt8 × Bool) × (List UInt8 × Bool) := if x = true ∨ l.length < n then (([], false), ([], true)) else ((l.take n, true), (l.drop n, false))
theorem rtake_wrong {n : Nat} : rtake l true n = (([], false), ([], true)) := by simp [rtake]
theorem rtake_short {n : Nat} (h : l.length < n) : rtake l x n = (([], false), ([], true)) := by simp [rtake, h]
theorem rtake_ok {n : Nat} (h : n ≤ l.length) : rtake l false n = ((l.take n, true), (l.drop n, false)) := by simp [rtake]; omega
def TakeQ (w : World) (F : Nat → Prop) (p : Nat) (t : (List UInt8 × Bool) × (List UInt8 × Bool)) (r : Ending) (w' : World) : Prop :=
  ∃ v, r = .returned (.tuple #[v, .bool t.1.2]) ∧ Bytes w' F v t.1.1 ∧ RdAt w' F p t.2.1 t.2.2 ∧ Upd (OneF p) w w'
set_option maxHeartbeats 1000000 in
theorem rd_take_wrong (n : Nat) (w : World) (h : RdAt w F p l true) :
    Calls Try.prog 139 #[.pointer (some ⟨p, 0, none⟩), .int .i64 n] w (TakeQ w F p (([], false), ([], true))) := by
  have HFAIL := Lib.hid (rd_fail w h)
  obtain ⟨v, hb, hr, hd⟩ := h
  have c1 : w.cell? ⟨p, 1, none⟩ = some (.bool true) := blk_cell hb 1
  clear hb hr
  go_enter Try.func139, Try.ntmps139
  go_wp2_with fail
  refine HFAIL.out.mono ?_
  rintro r w1 ⟨rfl, h1, h2⟩
  have H1 := Lib.hid h1
  have H2 := Lib.hid h2
  clear h1 h2
  go_wp2_with fail
  go_ret2
  exact ⟨_, rfl, Slc.nil _ _ _ _ _ _, H1.out, H2.out⟩
set_option maxHeartbeats 1000000 in
theorem rd_take_short (n : Nat) (w : World) (h : RdAt w F p l false) (hn : l.length < n) :
    Calls Try.prog 139 #[.pointer (some ⟨p, 0, none⟩), .int .i64 n] w (TakeQ w F p (([], false), ([], true))) := by
  have HFAIL := Lib.hid (rd_fail w h)
  obtain ⟨v, hb, hr, hd⟩ := h
  obtain ⟨a, c, rfl, hc⟩ := hr.slice
  have c0 : w.cell? ⟨p, 0, none⟩ = some (.slice a l.length c) := blk_cell hb 0
  have c1 : w.cell? ⟨p, 1, none⟩ = some (.bool false) := blk_cell hb 1
  have hgt : (l.length : Int) < (n : Int) := by omega
  clear hb hr hc hn
  go_enter Try.func139, Try.ntmps139
  go_wp2_with fail
  refine HFAIL.out.mono ?_
  rintro r w1 ⟨rfl, h1, h2⟩
  have H1 := Lib.hid h1
  have H2 := Lib.hid h2
  clear h1 h2
  go_wp2_with fail
  go_ret2
  exact ⟨_, rfl, Slc.nil _ _ _ _ _ _, H1.out, H2.out⟩
theorem u8_elem : Try.prog.underlying 23 = some (.slice (Try.prog.elem 23)) := by kernel_rfl
theorem u8_size (W : World) : (sizeOf (Try.prog.elem 23)).run Try.prog W = .ok 1 W := by kernel_rfl
theorem slice_hm_u8 (a : Option Addr) (len c n : Nat) (h : n ≤ c) (W : World) : (Instr.sliceAt 23 (.slice a len c) none (some (.int .i64 n)) (some (.int .i64 n))).run Try.prog W = .ok (sliced a 0 n n 1) W := by
  rw [run_sliceAt_slice (h := u8_elem), run_slice_hm (ht := u8_elem) (h0 := by omega) (h2 := by omega) (h3 := by omega), u8_size]
  rfl
theorem slice_l_u8 (a : Option Addr) (len c n : Nat) (h : n ≤ len) (W : World) : (Instr.sliceAt 23 (.slice a len c) (some (.int .i64 n)) none none).run Try.prog W = .ok (sliced a n len c 1) W := by
  rw [run_sliceAt_slice (h := u8_elem), run_slice_l (ht := u8_elem) (h0 := by omega) (h1 := by omega), u8_size]
  rfl
set_option maxRecDepth 100000 in
set_option maxHeartbeats 2000000 in
theorem rd_take_ok (n : Nat) (w : World) (h : RdAt w F p l false) (hn : n ≤ l.length) :
    Calls Try.prog 139 #[.pointer (some ⟨p, 0, none⟩), .int .i64 n] w (TakeQ w F p ((l.take n, true), (l.drop n, false))) := by
  obtain ⟨v, hb, hr, hd⟩ := h
  obtain ⟨a, c, rfl, hc⟩ := hr.slice
  have c0 : w.cell? ⟨p, 0, none⟩ = some (.slice a l.length c) := blk_cell hb 0
  have c1 : w.cell? ⟨p, 1, none⟩ = some (.bool false) := blk_cell hb 1
  have f0 := blk_free hb 0
  have hgt : (n : Int) ≤ (l.length : Int) := by omega
  have HB := Lib.hid hb
  have HR := Lib.hid hr
  have C0 := Lib.hid c0
  have HC := Lib.hid (And.intro hc hn)
  clear hb hr hc hn
  go_enter Try.func139, Try.ntmps139
  go_wp2_with fail
  obtain ⟨q1, hq1⟩ : ∃ q, sliced a 0 n n 1 = q := ⟨_, rfl⟩
  obtain ⟨q2, hq2⟩ : ∃ q, sliced a n l.length c 1 = q := ⟨_, rfl⟩
  have hs1 : ∀ W, (Instr.sliceAt 23 (.slice a l.length c) none (some (.int .i64 n)) (some (.int .i64 n))).run Try.prog W = .ok q1 W := fun W => hq1 ▸ slice_hm_u8 a l.length c n (Nat.le_trans HC.out.2 HC.out.1) W
  have hs2 : ∀ W, (Instr.sliceAt 23 (.slice a l.length c) (some (.int .i64 n)) none none).run Try.prog W = .ok q2 W := fun W => hq2 ▸ slice_l_u8 a l.length c n HC.out.2 W
  have hb1 : Bytes w F q1 (l.take n) := by have := HR.out.sub 0 n n (Nat.zero_le _) HC.out.2 (Nat.le_refl _); rw [hq1] at this; simpa using this
  have hb2 : Bytes w F q2 (l.drop n) := by have := HR.out.sub n l.length c HC.out.2 (Nat.le_refl _) HC.out.1; rw [hq2] at this; simpa using this
  obtain ⟨a2, m2, c2, rfl⟩ : ∃ a2 m2 c2, q2 = .slice a2 m2 c2 := let ⟨a, c, h, _⟩ := hb2.slice; ⟨a, _, c, h⟩
  have HS1 := Lib.hid hs1
  have HS2 := Lib.hid hs2
  have HB1 := Lib.hid hb1
  have HB2 := Lib.hid hb2
  clear hs1 hs2 hb1 hb2 hq1 hq2
  have S0 := Lib.hid (show w.drew.cell? ⟨p, 0, none⟩ = some (.slice a l.length c) from C0.out)
  refine region_late (fun W => W.cell? ⟨p, 0, none⟩ = some (.slice a l.length c)) [17] (by kernel_rfl) ?_
  refine late_take 1 (.pointer (some ⟨p, 0, none⟩)) rfl (by kernel_rfl) (by kernel_rfl) (by kernel_rfl) (by kernel_rfl) (fun _ _ _ h => h) (by kernel_rfl) S0.out (fun W' _ => by kernel_rfl) ?_
  refine late_take 2 (.pointer (some ⟨p, 0, none⟩)) rfl (by kernel_rfl) (by kernel_rfl) (by kernel_rfl) (by kernel_rfl) (fun _ _ _ h => h) (by kernel_rfl) S0.out (fun W' _ => by kernel_rfl) ?_
  refine late_take 3 (.pointer (some ⟨p, 0, none⟩)) rfl (by kernel_rfl) (by kernel_rfl) (by kernel_rfl) (by kernel_rfl) (fun _ _ _ h => h) (by kernel_rfl) S0.out (fun W' _ => by kernel_rfl) ?_
  refine late_take 4 (.slice a l.length c) rfl (by kernel_rfl) (by kernel_rfl) (by kernel_rfl) (by kernel_rfl) (fun _ _ _ h => h) (by kernel_rfl) S0.out (fun W' hW' => run_load_cell_op 23 _ rfl ⟨p, 0, none⟩ (by kernel_rfl) hW' _ Try.underlying23 rfl) ?_
  refine late_take 5 (.int .i64 n) rfl (by kernel_rfl) (by kernel_rfl) (by kernel_rfl) (by kernel_rfl) (fun _ _ _ h => h) (by kernel_rfl) S0.out (fun W' _ => by kernel_rfl) ?_
  refine late_take 6 (.int .i64 n) rfl (by kernel_rfl) (by kernel_rfl) (by kernel_rfl) (by kernel_rfl) (fun _ _ _ h => h) (by kernel_rfl) S0.out (fun W' _ => by kernel_rfl) ?_
  refine late_take 7 (q1) rfl (by kernel_rfl) (by kernel_rfl) (by kernel_rfl) (by kernel_rfl) (fun _ _ _ h => h) (by kernel_rfl) S0.out (fun W' _ => run_slice_op 23 _ none _ _ rfl (by kernel_rfl) none (some (.int .i64 n)) (some (.int .i64 n)) (by kernel_rfl) (by kernel_rfl) (by kernel_rfl) (HS1.out W')) ?_
  refine late_take 8 (.pointer (some ⟨p, 0, none⟩)) rfl (by kernel_rfl) (by kernel_rfl) (by kernel_rfl) (by kernel_rfl) (fun _ _ _ h => h) (by kernel_rfl) S0.out (fun W' _ => by kernel_rfl) ?_
  refine late_take 9 (.pointer (some ⟨p, 0, none⟩)) rfl (by kernel_rfl) (by kernel_rfl) (by kernel_rfl) (by kernel_rfl) (fun _ _ _ h => h) (by kernel_rfl) S0.out (fun W' _ => by kernel_rfl) ?_
  refine late_take 10 (.pointer (some ⟨p, 0, none⟩)) rfl (by kernel_rfl) (by kernel_rfl) (by kernel_rfl) (by kernel_rfl) (fun _ _ _ h => h) (by kernel_rfl) S0.out (fun W' _ => by kernel_rfl) ?_
  refine late_take 11 (.slice a l.length c) rfl (by kernel_rfl) (by kernel_rfl) (by kernel_rfl) (by kernel_rfl) (fun _ _ _ h => h) (by kernel_rfl) S0.out (fun W' hW' => run_load_cell_op 23 _ rfl ⟨p, 0, none⟩ (by kernel_rfl) hW' _ Try.underlying23 rfl) ?_
  refine late_take 12 (.int .i64 n) rfl (by kernel_rfl) (by kernel_rfl) (by kernel_rfl) (by kernel_rfl) (fun _ _ _ h => h) (by kernel_rfl) S0.out (fun W' _ => by kernel_rfl) ?_
  refine late_take 13 (.slice a2 m2 c2) rfl (by kernel_rfl) (by kernel_rfl) (by kernel_rfl) (by kernel_rfl) (fun _ _ _ h => h) (by kernel_rfl) S0.out (fun W' _ => run_slice_op 23 _ _ none none rfl (by kernel_rfl) (some (.int .i64 n)) none none (by kernel_rfl) (by kernel_rfl) (by kernel_rfl) (HS2.out W')) ?_
  refine late_take 14 (q1) rfl (by kernel_rfl) (by kernel_rfl) (by kernel_rfl) (by kernel_rfl) (fun _ _ _ h => h) (by kernel_rfl) S0.out (fun W' _ => by kernel_rfl) ?_
  refine late_take 0 (.pointer (some ⟨p, 0, none⟩)) rfl (by kernel_rfl) (by kernel_rfl) (by kernel_rfl) (by kernel_rfl) (fun _ _ _ h => h) (by kernel_rfl) S0.out (fun W' _ => by kernel_rfl) ?_
  refine late_one 15 rfl (by kernel_rfl) (by kernel_rfl) (fun K hK => ?_)
  go_wp2_with fail
  refine hK _ _ (fun _ => S0.out) ?_
  clear hK K
  refine late_one 16 rfl (by kernel_rfl) (by kernel_rfl) (fun K hK => ?_)
  go_wp2_with fail
  refine hK _ _ (fun _ => S0.out) ?_
  clear hK K
  refine late_one 17 rfl (by kernel_rfl) (by kernel_rfl) (fun K hK => ?_)
  go_wp2_with fail
  refine hK _ _ (fun h => (by cases h)) ?_
  clear hK K
  refine late_done (by kernel_rfl) ?_ _
  go_wp2_with fail
  go_ret2
  have u : Upd (OneF p) w ((w.drew).setCell ⟨p, 0, none⟩ (.slice a2 m2 c2)) := ((Upd.refl _ _).drew).set1 _ _
  have hne : ∀ k, F k → ¬ OneF p k := fun k hk h => by simp only [OneF] at h; subst h; exact hd hk
  refine ⟨_, rfl, HB1.out.upd u hne, ⟨.slice a2 m2 c2, ?_, HB2.out.upd u hne, hd⟩, u⟩
  show (w.setCell ⟨p, 0, none⟩ (.slice a2 m2 c2)).heap[p]? = _
  rw [blk_set HB.out]; simp
theorem rd_take (n : Nat) (w : World) (h : RdAt w F p l x) :
    Calls Try.prog 139 #[.pointer (some ⟨p, 0, none⟩), .int .i64 n] w (TakeQ w F p (rtake l x n)) := by
  cases x with
  | true => rw [rtake_wrong]; exact rd_take_wrong n w h
  | false =>
    rcases Nat.lt_or_ge l.length n with hn | hn
    · rw [rtake_short hn]; exact rd_take_short n w h hn
    · rw [rtake_ok hn]; exact rd_take_ok n w h hn
/-- a number of bytes, the high ones first -/
def beNat (b : List UInt8) : Nat := b.foldl (fun v c => v * 256 + c.toNat) 0
theorem beNat_snoc (b : List UInt8) (c : UInt8) : beNat (b ++ [c]) = beNat b * 256 + c.toNat := by simp [beNat]
theorem beNat_lt (b : List UInt8) : beNat b < 256 ^ b.length := by
  have : ∀ (b : List UInt8) (v : Nat), b.foldl (fun v c => v * 256 + c.toNat) v < (v + 1) * 256 ^ b.length := by
    intro b
    induction b with
    | nil => intro v; simp
    | cons c b ih =>
      intro v
      refine Nat.lt_of_lt_of_le (ih _) ?_
      rw [List.length_cons, Nat.pow_succ, Nat.mul_comm (256 ^ b.length) 256, ← Nat.mul_assoc]
      have := c.toNat_lt
      exact Nat.mul_le_mul_right _ (show v * 256 + c.toNat + 1 ≤ (v + 1) * 256 by omega)
  simpa [beNat] using this b 0
theorem beNat_take {b : List UInt8} {k : Nat} (h : k < b.length) : beNat (b.take (k + 1)) = beNat (b.take k) * 256 + b[k].toNat := by
  rw [List.take_succ_eq_append_getElem h, beNat_snoc]
theorem beNat_small {b : List UInt8} (h : b.length ≤ 8) {k : Nat} (hk : k < b.length) : beNat (b.take k) < 72057594037927936 := by
  refine Nat.lt_of_lt_of_le (beNat_lt _) ?_
  have : (b.take k).length ≤ 7 := by simp; omega
  exact Nat.le_trans (Nat.pow_le_pow_right (by decide) this) (by decide)
set_option maxHeartbeats 2000000 in
theorem rd_number (n : Nat) (w : World) (h : RdAt w F p l x) (hn : n ≤ 8) :
    Calls Try.prog 113 #[.pointer (some ⟨p, 0, none⟩), .int .i64 n] w
      (fun r w' => r = .returned (.int .u64 (beNat (rtake l x n).1.1)) ∧ RdAt w' F p (rtake l x n).2.1 (rtake l x n).2.2 ∧ Upd (OneF p) w w') := by
  have hs := size_any n w
  rw [show max (min (n : Int) 8) 0 = (n : Int) by omega] at hs
  have HS := Lib.hid hs
  have HT := Lib.hid (rd_take n w h)
  have hlen : (rtake l x n).1.1.length ≤ 8 := by unfold rtake; split <;> simp; omega
  obtain ⟨b, hb⟩ : ∃ b, (rtake l x n).1.1 = b := ⟨_, rfl⟩
  obtain ⟨ok, hok⟩ : ∃ b, (rtake l x n).1.2 = b := ⟨_, rfl⟩
  rw [hb] at hlen ⊢
  have HBB := Lib.hid (And.intro hb hok)
  clear hs h hb hok
  go_enter Try.func113, Try.ntmps113
  go_wp2_with fail
  refine HS.out.mono ?_
  rintro r w1 ⟨rfl, rfl⟩
  go_wp2_with fail
  refine HT.out.mono ?_
  rintro r w2 ⟨v, rfl, b1, r1, u1⟩
  rw [HBB.out.1] at b1
  rw [HBB.out.2]
  obtain ⟨a, c, rfl, hc⟩ := b1.slice
  have B1 := Lib.hid b1
  have R1 := Lib.hid r1
  have U1 := Lib.hid u1
  clear b1 r1 u1
  go_wp2_with fail
  go_loopw [18, 4, 8] (fun i v _ wr => ∃ k : Nat, i = .int .i64 k ∧ k ≤ b.length ∧ v = .int .u64 (beNat (b.take k)) ∧ wr = w2) (fun i _ _ _ => b.length - (intOf i).toNat)
  case atStart => exact ⟨0, rfl, Nat.zero_le _, rfl, rfl⟩
  case round =>
    obtain ⟨k, rfl, hk, rfl, rfl⟩ := hrel
    rcases Nat.lt_or_ge k b.length with hlt | hge
    · obtain ⟨g, o, hA, _, hcell⟩ := B1.out.at_ (by intro e; subst e; simp at hlt)
      have hck := hcell k hlt
      subst hA
      have hki : (k : Int) < (b.length : Int) := by omega
      have hbk : (b[k].toNat : Int) < 256 := by have := b[k].toNat_lt; omega
      have hsm : (beNat (b.take k) : Int) < 72057594037927936 := by have := beNat_small hlen hlt; omega
      clear hcell
      go_wp2_with fail
      refine ⟨⟨k + 1, rfl, hlt, ?_, trivial⟩, by simp [intOf]; omega⟩
      rw [beNat_take hlt, show (beNat (b.take k) : Int) * 256 = ((beNat (b.take k) * 256 : Nat) : Int) by omega, u64_or_nat _ _ (by omega) (by omega),
        show beNat (b.take k) * 256 = 2 ^ 8 * beNat (b.take k) by omega, ← Nat.two_pow_add_eq_or_of_lt (show b[k].toNat < 2 ^ 8 by omega)]
    · obtain rfl : k = b.length := by omega
      go_wp2_with fail
      go_ret
      rw [List.take_length]
      exact ⟨rfl, R1.out, U1.out⟩
/-- a number that is read: what it is, what is left -/
def rnum (l : List UInt8) (x : Bool) (n : Nat) : Nat × (List UInt8 × Bool) := (beNat (rtake l x n).1.1, (rtake l x n).2)
set_option maxHeartbeats 400000 in
theorem rd_byte (w : World) (h : RdAt w F p l x) :
    Calls Try.prog 112 #[.pointer (some ⟨p, 0, none⟩)] w
      (fun r w' => r = .returned (.int .u8 ((rnum l x 1).1 : Int)) ∧ RdAt w' F p (rnum l x 1).2.1 (rnum l x 1).2.2 ∧ Upd (OneF p) w w') := by
  have HN := Lib.hid (rd_number 1 w h (by omega))
  have hb : beNat (rtake l x 1).1.1 < 256 := by
    refine Nat.lt_of_lt_of_le (beNat_lt _) ?_
    have : (rtake l x 1).1.1.length ≤ 1 := by unfold rtake; split <;> simp; omega
    exact Nat.le_trans (Nat.pow_le_pow_right (by decide) this) (by decide)
  unfold rnum
  simp only []
  obtain ⟨v, hv⟩ : ∃ v, beNat (rtake l x 1).1.1 = v := ⟨_, rfl⟩
  rw [hv] at hb ⊢
  have HV := Lib.hid hv
  have hb' : (v : Int) < 256 := by omega
  clear hv h
  go_enter Try.func112, Try.ntmps112
  go_wp2_with fail
  refine HN.out.mono ?_
  rintro r w1 ⟨rfl, h1, h2⟩
  rw [HV.out]
  go_wp2_with fail
  go_ret
  exact ⟨rfl, h1, h2⟩
/-- how many there are -/
def rcount (l : List UInt8) (x : Bool) (most : Nat) : Nat × (List UInt8 × Bool) := let r := rnum l x 4; if most < r.1 then (0, ([], true)) else r
set_option maxRecDepth 100000 in
set_option maxHeartbeats 1000000 in
theorem rd_count (most : Nat) (w : World) (h : RdAt w F p l x) :
    Calls Try.prog 141 #[.pointer (some ⟨p, 0, none⟩), .int .i64 most] w
      (fun r w' => r = .returned (.int .i64 ((rcount l x most).1 : Int)) ∧ RdAt w' F p (rcount l x most).2.1 (rcount l x most).2.2 ∧ Upd (OneF p) w w') := by
  have HN := Lib.hid (rd_number 4 w h (by omega))
  have hb : beNat (rtake l x 4).1.1 < 4294967296 := by
    refine Nat.lt_of_lt_of_le (beNat_lt _) ?_
    have : (rtake l x 4).1.1.length ≤ 4 := by unfold rtake; split <;> simp; omega
    exact Nat.le_trans (Nat.pow_le_pow_right (by decide) this) (by decide)
  unfold rcount rnum
  simp only []
  obtain ⟨v, hv⟩ : ∃ v, beNat (rtake l x 4).1.1 = v := ⟨_, rfl⟩
  rw [hv] at hb ⊢
  have HV := Lib.hid hv
  have hb' : (v : Int) < 4294967296 := by omega
  clear hv h
  by_cases hm : most < v
  · have hm' : (most : Int) < (v : Int) := by omega
    rw [if_pos hm]
    clear hm
    go_enter Try.func141, Try.ntmps141
    go_wp2_with fail
    refine HN.out.mono ?_
    rintro r w1 ⟨rfl, h1, h2⟩
    rw [HV.out]
    have HF := Lib.hid (rd_fail w1 h1)
    have H2 := Lib.hid h2
    clear h1 h2
    go_wp2_with fail
    refine HF.out.mono ?_
    rintro r w2 ⟨rfl, h3, h4⟩
    have H3 := Lib.hid h3
    have H4 := Lib.hid h4
    clear h3 h4
    go_wp2_with fail
    go_ret
    exact ⟨rfl, H3.out, H2.out.andThen H4.out⟩
  · rw [if_neg hm]
    go_enter Try.func141, Try.ntmps141
    go_wp2_with fail
    refine HN.out.mono ?_
    rintro r w1 ⟨rfl, h1, h2⟩
    rw [HV.out]
    have H1 := Lib.hid h1
    have H2 := Lib.hid h2
    clear h1 h2
    go_wp2_with fail
    go_ret
    exact ⟨rfl, H1.out, H2.out⟩
theorem rtake_len1 (l : List UInt8) (x : Bool) (n : Nat) : (rtake l x n).1.1.length ≤ l.length := by unfold rtake; split <;> simp; omega
theorem rtake_len2 (l : List UInt8) (x : Bool) (n : Nat) : (rtake l x n).2.1.length ≤ l.length := by unfold rtake; split <;> simp
theorem rcount_len (l : List UInt8) (x : Bool) (n : Nat) : (rcount l x n).2.1.length ≤ l.length := by
  unfold rcount rnum; simp only []; split
  · simp
  · exact rtake_len2 _ _ _
/-- bytes, at most so many -/
def rbytes (l : List UInt8) (x : Bool) (most : Nat) : List UInt8 × (List UInt8 × Bool) := let c := rcount l x most; let t := rtake c.2.1 c.2.2 c.1; (t.1.1, t.2)
set_option maxHeartbeats 400000 in
theorem rd_bytes (most : Nat) (w : World) (h : RdAt w F p l x) (hl : l.length < 100000000) :
    Calls Try.prog 114 #[.pointer (some ⟨p, 0, none⟩), .int .i64 most] w
      (fun r w' => ∃ v, r = .returned v ∧ Bytes w' (fun k => w.heap.size ≤ k) v (rbytes l x most).1 ∧ RdAt w' F p (rbytes l x most).2.1 (rbytes l x most).2.2 ∧ Upd (OneF p) w w') := by
  have hn := rd_count most w h
  have hcl := rcount_len l x most
  unfold rbytes
  simp only []
  obtain ⟨⟨cn, cl, cx⟩, hc⟩ : ∃ t, rcount l x most = t := ⟨_, rfl⟩
  rw [hc] at hn hcl ⊢
  simp only [] at hn hcl ⊢
  have hl1 := rtake_len1 cl cx cn
  have ht := fun w => rd_take (F := F) (p := p) (l := cl) (x := cx) cn w
  obtain ⟨⟨⟨b, ok⟩, tl, tx⟩, htt⟩ : ∃ t, rtake cl cx cn = t := ⟨_, rfl⟩
  rw [htt] at ht hl1 ⊢
  simp only [] at ht hl1 ⊢
  have HN := Lib.hid hn
  have HT := Lib.hid ht
  clear h hn hc ht htt
  go_enter Try.func114, Try.ntmps114
  go_wp2_with fail
  refine HN.out.mono ?_
  rintro r w1 ⟨rfl, h1, h2⟩
  have HT1 := Lib.hid (HT.out w1 h1)
  have H2 := Lib.hid h2
  clear h1 h2
  go_wp2_with fail
  refine HT1.out.mono ?_
  rintro r w2 ⟨v, rfl, h3, h4, h5⟩
  have H6 := Lib.hid (clone_any v _ w2 h3 (by simp only []; omega))
  have H4 := Lib.hid h4
  have H5 := Lib.hid (H2.out.andThen h5)
  obtain ⟨a, c, rfl, hc⟩ := h3.slice
  clear h3 h4 h5 hc
  go_wp2_with fail
  refine H6.out.mono ?_
  rintro r w3 ⟨v3, rfl, h7, h8⟩
  have H7 := Lib.hid h7
  have H8 := Lib.hid h8
  clear h7 h8
  go_wp2_with fail
  go_ret
  have hz := H5.out.size
  exact ⟨v3, rfl, H7.out.mono (fun k hk => by omega), H4.out.upd H8.out (fun _ _ h => h) (fun h => h), H5.out.then0 H8.out⟩
set_option maxHeartbeats 400000 in
theorem rd_end (w : World) (h : RdAt w F p l x) :
    Calls Try.prog 115 #[.pointer (some ⟨p, 0, none⟩)] w
      (fun r w' => r = .returned (.int .i64 (if x = true ∨ l ≠ [] then 3 else 0)) ∧ w' = w) := by
  obtain ⟨v, hb, hr, hd⟩ := h
  obtain ⟨a, c, rfl, hc⟩ := hr.slice
  have c0 : w.cell? ⟨p, 0, none⟩ = some (.slice a l.length c) := blk_cell hb 0
  have c1 : w.cell? ⟨p, 1, none⟩ = some (.bool x) := blk_cell hb 1
  clear hb hr hc hd
  cases x with
  | true =>
    rw [if_pos (by simp)]
    go_enter Try.func115, Try.ntmps115
    go_wp2_with fail
    go_ret
    exact ⟨rfl, rfl⟩
  | false =>
    cases l with
    | nil =>
      go_enter Try.func115, Try.ntmps115
      go_wp2_with fail
      go_ret
      exact ⟨rfl, rfl⟩
    | cons b l =>
      obtain ⟨n, hn⟩ : ∃ n, (b :: l).length = n := ⟨_, rfl⟩
      have hn0 : (0 : Int) < (n : Int) := by rw [← hn, List.length_cons]; omega
      rw [hn] at c0
      rw [if_pos (by simp)]
      clear hn
      go_enter Try.func115, Try.ntmps115
      go_wp2_with fail
      go_ret
      exact ⟨rfl, rfl⟩
end Go.Proofs.Ytplhgeecnnadhaa
