/- The unit and its device: Accept. -/
import Derived.Test.YtplhgeecnnadhaaUnitM
namespace Go.Proofs.Ytplhgeecnnadhaa
open Go.RowKit
variable {F G D : Nat → Prop} {w w1 w2 : World} {u d p room : Nat} {s : US} {ds : DS} {ps : List UPage}
def accP (room : Nat) (ps : List UPage) (n : Int) (b : Bl) (val : List UInt8) : Int × List UPage :=
  if okInst n b = false ∨ 1000 < val.length then (1, ps) else if b.lt ((replay ps).at_ n).pr = true then (7, ps) else (ucode room ps, uput room ps (.acc n.toNat b.r.toNat b.w.toNat val))
def AccQ (F : Nat → Prop) (u d room : Nat) (x : Int × List UPage) (w : World) (r : Ending) (w' : World) : Prop := r = .returned (.int .i64 x.1) ∧ UD2 F u d room x.2 w w'
/-- an acceptor that is looked up, in whatever world nothing of it was changed -/
theorem acc_look_all {m : Nat} (h : MapRep accRep w F m s.acc) (n : Int) : ∃ a c, (∀ W, Upd NoF w W → (Instr.lookup 147 (.map (some m)) (.int .i64 n) false).run Try.prog W = .ok ((s.at_ n).v (.slice a (s.at_ n).val.length c)) W) ∧ Bytes w F (.slice a (s.at_ n).val.length c) (s.at_ n).val := by
  obtain ⟨kv, h1, h2, h3⟩ := h
  have hl := fun W (hu : Upd NoF w W) => (h1.upd hu (fun h => h)).run_lookup Try.underlying147 Try.underlying3 (acc_zero W) n false
  simp only [Bool.false_eq_true, if_false] at hl
  cases hk : kvGet kv n with
  | none =>
    rw [hk] at hl
    have : s.at_ n = acc0 := by unfold US.at_; rw [h3 n hk]; rfl
    rw [this]
    exact ⟨none, 0, hl, Slc.nil _ _ _ _ _ _⟩
  | some v =>
    rw [hk] at hl
    obtain ⟨a, ha, b, hb, hv⟩ := h2 n v hk
    have : s.at_ n = a := by unfold US.at_; rw [ha]; rfl
    rw [this]
    obtain ⟨x, c, rfl, _⟩ := hv.slice
    subst hb
    exact ⟨x, c, hl, hv⟩
theorem run_lookup_op {P : Program} {o : Oper} {a : Act} (ty : TypeId) (x y : Operand) (ho : o.op = .lookup ty x y false) (m : Nat) (hx : a.eval x = .map (some m)) (k : Value) (hy : a.eval y = k) {w : World} {v : Value} (h : (Instr.lookup ty (.map (some m)) k false).run P w = .ok v w) :
    (execOp a.eval o).run P w = .ok (.value v) w := by
  unfold execOp
  simp only [ho, hx, hy, Sem.run_bind, Sem.run_pure, Result.andThen_ok, h]
set_option maxRecDepth 100000 in
set_option maxHeartbeats 2000000 in
theorem ud_accept_no (n : Int) (b : Bl) (v : Value) (val : List UInt8) (w : World) (h : UDAt w F u d room ps) (hv : Bytes w G v val) (hi : okInst n b = false ∨ 1000 < val.length) : Calls Try.prog 43 #[.pointer (some ⟨u, 0, none⟩), .int .i64 n, .agg #[.int .i64 b.r, .int .i64 b.w], v] w (AccQ F u d room (1, ps) w) := by
  have HI := Lib.hid (fun W => u_instance n b W)
  have HU := Lib.hid h
  obtain ⟨av, cv, rfl, hcv⟩ := hv.slice
  have hlen : okInst n b = true → (1000 : Int) < (val.length : Int) := fun h => by rcases hi with h' | h'; rw [h] at h'; cases h'; omega
  obtain ⟨o, ho⟩ : ∃ o, okInst n b = o := ⟨_, rfl⟩
  rw [ho] at hlen HI
  clear h hi ho hv hcv
  cases o
  case false =>
    go_enter Try.func43, Try.ntmps43
    go_wp2_with fail
    refine (HI.out _).mono ?_
    rintro r w1 ⟨rfl, u1⟩
    have U1 := Lib.hid (((Upd.refl NoF w).alloc _).then0 u1)
    clear u1
    go_wp2_with fail
    go_ret
    exact ⟨rfl, UD2.self HU.out U1.out⟩
  case true =>
    have hl := hlen rfl
    clear hlen
    go_enter Try.func43, Try.ntmps43
    go_wp2_with fail
    refine (HI.out _).mono ?_
    rintro r w1 ⟨rfl, u1⟩
    have U1 := Lib.hid (((Upd.refl NoF w).alloc _).then0 u1)
    clear u1
    go_wp2_with fail
    go_ret
    exact ⟨rfl, UD2.self HU.out U1.out⟩
set_option maxRecDepth 100000 in
set_option maxHeartbeats 4000000 in
theorem ud_accept_yes (n rr qq : Nat) (v : Value) (val : List UInt8) (w : World) (h : UDAt w F u d room ps) (hv : Bytes w G v val) (hi : okInst n ⟨rr, qq⟩ = true) (hl : val.length ≤ 1000) : Calls Try.prog 43 #[.pointer (some ⟨u, 0, none⟩), .int .i64 n, .agg #[.int .i64 rr, .int .i64 qq], v] w (AccQ F u d room (accP room ps n ⟨rr, qq⟩ val) w) := by
  have HI := Lib.hid (fun W => u_instance n ⟨rr, qq⟩ W)
  rw [hi] at HI
  obtain ⟨X, hX⟩ : ∃ X, accP room ps n ⟨rr, qq⟩ val = X := ⟨_, rfl⟩
  rw [hX]
  have HX := Lib.hid hX
  have HI2 := Lib.hid hi
  have HU := Lib.hid h
  have HN := Lib.hid (okInst_iff.1 hi)
  have HVB := Lib.hid hv
  obtain ⟨av, cv, rfl, hcv⟩ := hv.slice
  obtain ⟨Fu, hun⟩ := h.unit
  obtain ⟨A, hA⟩ : ∃ A, (replay ps).at_ n = A := ⟨_, rfl⟩
  obtain ⟨h1, mc, ma, hub, hfs, hc, ha⟩ := hun
  have HA := Lib.hid ha
  have HUB := Lib.hid hub
  have HAA := Lib.hid hA
  have hlI : (val.length : Int) ≤ 1000 := by omega
  obtain ⟨bl, hlt⟩ : ∃ bl, (Bl.mk rr qq).lt A.pr = bl := ⟨_, rfl⟩
  have HLT := Lib.hid hlt
  have HL := Lib.hid (fun W => u_less ⟨rr, qq⟩ A.pr W)
  rw [hlt] at HL
  clear h hub hc ha h1 hfs hi hv hcv hA hlt hX
  go_enter Try.func43, Try.ntmps43
  go_wp2_with fail
  refine (HI.out _).mono ?_
  rintro r w1 ⟨rfl, u1⟩
  have U1 := Lib.hid (((Upd.refl NoF w).alloc _).then0 u1)
  have B1 := Lib.hid (u1.blk0 (blk_new w (.cells #[.int .i64 rr, .int .i64 qq] 40)))
  clear u1
  go_wp2_with fail
  obtain ⟨a0, c0, hlk, _⟩ := acc_look_all (HA.out.upd accRep_upd U1.out (fun _ _ h => h) (fun h => h)) n
  rw [HAA.out] at hlk
  unfold Acc.v at hlk
  have HLK := Lib.hid hlk
  have hub1 := Lib.hid (U1.out.blk0 HUB.out)
  have S0 := Lib.hid ((Upd.refl NoF w1).drew)
  have hz1 := blk_lt B1.out
  clear hlk
  refine region_late (fun W => Upd NoF w1 W) [] (by kernel_rfl) ?_
  refine late_take 0 (.agg #[.int .i64 rr, .int .i64 qq]) rfl (by kernel_rfl) (by kernel_rfl) (by kernel_rfl) (by kernel_rfl) (fun _ _ _ h => h) (by kernel_rfl) S0.out (fun W' hW' => run_load_row_op 40 _ rfl w.heap.size (by kernel_rfl) _ _ _ _ (hW'.blk0 B1.out) Try.underlying40 rfl (by kernel_rfl)) ?_
  refine late_take 1 (.pointer (some ⟨u, 0, none⟩)) rfl (by kernel_rfl) (by kernel_rfl) (by kernel_rfl) (by kernel_rfl) (fun _ _ _ h => h) (by kernel_rfl) S0.out (fun W' _ => by kernel_rfl) ?_
  refine late_take 2 (.pointer (some ⟨u, 0, none⟩)) rfl (by kernel_rfl) (by kernel_rfl) (by kernel_rfl) (by kernel_rfl) (fun _ _ _ h => h) (by kernel_rfl) S0.out (fun W' _ => by kernel_rfl) ?_
  refine late_take 3 (.pointer (some ⟨u, 5, none⟩)) rfl (by kernel_rfl) (by kernel_rfl) (by kernel_rfl) (by kernel_rfl) (fun _ _ _ h => h) (by kernel_rfl) S0.out (fun W' _ => by kernel_rfl) ?_
  refine late_take 4 (.map (some ma)) rfl (by kernel_rfl) (by kernel_rfl) (by kernel_rfl) (by kernel_rfl) (fun _ _ _ h => h) (by kernel_rfl) S0.out (fun W' hW' => run_load_cell_op 147 _ rfl ⟨u, 5, none⟩ (by kernel_rfl) (blk_cell (hW'.blk0 hub1.out) 5) _ Try.underlying147 rfl) ?_
  refine late_take 5 (.int .i64 n) rfl (by kernel_rfl) (by kernel_rfl) (by kernel_rfl) (by kernel_rfl) (fun _ _ _ h => h) (by kernel_rfl) S0.out (fun W' _ => by kernel_rfl) ?_
  refine late_take 6 (.agg #[.int .i64 A.pr.r, .int .i64 A.pr.w, .int .i64 A.ac.r, .int .i64 A.ac.w, .slice a0 A.val.length c0]) rfl (by kernel_rfl) (by kernel_rfl) (by kernel_rfl) (by kernel_rfl) (fun _ _ _ h => h) (by kernel_rfl) S0.out (fun W' hW' => run_lookup_op 147 _ _ rfl ma (by kernel_rfl) _ (by kernel_rfl) (HLK.out W' hW')) ?_
  refine late_one 7 rfl (by kernel_rfl) (by kernel_rfl) (fun K hK => ?_)
  go_wp2_with fail
  refine hK _ _ (fun _ => S0.out) ?_
  clear hK K
  refine late_one 8 rfl (by kernel_rfl) (by kernel_rfl) (fun K hK => ?_)
  go_wp2_with fail
  refine (HL.out _).mono ?_
  rintro r w2 ⟨rfl, u2⟩
  have S2 := Lib.hid (S0.out.then0 u2)
  have U2 := Lib.hid (U1.out.then0 S2.out)
  clear u2
  go_wp2_with fail
  refine hK _ _ (fun _ => S2.out) ?_
  clear hK K
  refine late_one 9 rfl (by kernel_rfl) (by kernel_rfl) (fun K hK => ?_)
  go_wp2_with fail
  refine hK _ _ (fun _ => S2.out) ?_
  clear hK K
  refine late_done (by kernel_rfl) ?_ _
  cases bl
  case true =>
    go_wp2_with fail
    go_ret
    rw [← HX.out]
    unfold accP
    rw [HI2.out, if_neg (by simp; omega), HAA.out, HLT.out, if_pos rfl]
    exact ⟨rfl, UD2.self HU.out U2.out⟩
  case false =>
    obtain ⟨⟨n1, n2⟩, ⟨r1, r2⟩, q1, q2⟩ := HN.out
    have hpok : (UPage.acc n rr qq val).ok := ⟨by omega, by omega, by omega, by omega, by omega⟩
    have uw := U2.out.alloc (.cells #[.int .i64 n, .int .i64 rr, .int .i64 qq] 3)
    have HW := Lib.hid (ud_write_more (.acc n rr qq val) hpok val rfl (.slice av val.length cv) _ _ 6 rfl (HU.out.upd uw (fun _ _ h => h)) (HVB.out.upd0 uw) (ints3 w2 n rr qq))
    have UW := Lib.hid uw
    have b2 := S2.out.blk0 B1.out
    have f0 : w2.cell? ⟨w.heap.size, 0, none⟩ = some (.int .i64 rr) := blk_cell b2 0
    have f1 : w2.cell? ⟨w.heap.size, 1, none⟩ = some (.int .i64 qq) := blk_cell b2 1
    clear hpok n1 n2 r1 r2 q1 q2 uw b2
    go_wp2_with fail
    refine HW.out.mono ?_
    rintro r w4 ⟨rfl, hud⟩
    have HQ := Lib.hid (UD2.at0 UW.out hud)
    clear hud
    go_wp2_with fail
    go_ret
    rw [← HX.out]
    unfold accP
    rw [HI2.out, if_neg (by simp; omega), HAA.out, HLT.out, if_neg (by decide)]
    exact ⟨rfl, HQ.out⟩
theorem ud_accept (n : Int) (b : Bl) (v : Value) (val : List UInt8) (w : World) (h : UDAt w F u d room ps) (hv : Bytes w G v val) : Calls Try.prog 43 #[.pointer (some ⟨u, 0, none⟩), .int .i64 n, .agg #[.int .i64 b.r, .int .i64 b.w], v] w (AccQ F u d room (accP room ps n b val) w) := by
  by_cases hi : okInst n b = false ∨ 1000 < val.length
  · have e : accP room ps n b val = (1, ps) := by unfold accP; rw [if_pos hi]
    rw [e]
    exact ud_accept_no n b v val w h hv hi
  · simp only [not_or, Bool.not_eq_false, Nat.not_lt] at hi
    obtain ⟨hi, hl⟩ := hi
    obtain ⟨br, bw⟩ := b
    obtain ⟨⟨n1, n2⟩, ⟨r1, r2⟩, q1, q2⟩ := okInst_iff.1 hi
    obtain ⟨nn, rfl⟩ := Int.eq_ofNat_of_zero_le (show 0 ≤ n by omega)
    obtain ⟨rr, rfl⟩ := Int.eq_ofNat_of_zero_le r1
    obtain ⟨qq, rfl⟩ := Int.eq_ofNat_of_zero_le q1
    exact ud_accept_yes nn rr qq v val w h hv hi hl
end Go.Proofs.Ytplhgeecnnadhaa
