/- The unit and its device: Promise. -/
import Derived.Test.YtplhgeecnnadhaaUnitL
namespace Go.Proofs.Ytplhgeecnnadhaa
open Go.RowKit
variable {F G D : Nat → Prop} {w w1 w2 : World} {u d p room : Nat} {s : US} {ds : DS} {ps : List UPage}
section
variable {P : Program}
theorem results_ctt {fn : Func} {p u v : Tmp} {ty : TypeId} (h : fn.results = #[.cell p ty, .tmp u, .tmp v]) (tmps : Array Value) (w : World) (g : Nat) (t : TypeId) (cs : Array Value) (fr : Nat × Nat) (d : TypeDesc)
    (hp : tmps.getD p undef = .pointer (some ⟨g, 0, none⟩)) (hg : w.heap[g]? = some (.cells cs t fr))
    (hu : P.underlying ty = some d) (hd : (match d with | .struct _ | .array _ _ => true | _ => false) = true) (hi : (P.info? ty).map (·.size) = some cs.size) :
    (results fn tmps).run P w = .ok (.tuple #[.agg cs, tmps.getD u undef, tmps.getD v undef]) w := by
  have hp' : tmps[p]?.getD undef = .pointer (some ⟨g, 0, none⟩) := by simpa using hp
  simp [results, h, hp', asAddr, run_loadVar_row w g t ty cs fr d hg hu hd hi]
end
/-- numbers in a new slice -/
theorem ints3 (w : World) (n r q : Nat) : Ints (w.alloc (.cells #[.int .i64 n, .int .i64 r, .int .i64 q] 3)) (fun k => k = w.heap.size) (.slice (some ⟨w.heap.size, 0, none⟩) 3 3) ([n, r, q].map Int.ofNat) := by
  refine ⟨_, 3, rfl, Nat.le_refl _, fun _ => ⟨_, 0, rfl, rfl, _, _, _, blk_new _ _, fun i hi => ?_⟩⟩
  have : i = 0 ∨ i = 1 ∨ i = 2 := by simp at hi; omega
  rcases this with rfl | rfl | rfl
  · exact ⟨[.int .i64 n], rfl, rfl, fun j hj => by obtain rfl : j = 0 := by omega
                                                   simp⟩
  · exact ⟨[.int .i64 r], rfl, rfl, fun j hj => by obtain rfl : j = 0 := by omega
                                                   simp⟩
  · exact ⟨[.int .i64 q], rfl, rfl, fun j hj => by obtain rfl : j = 0 := by omega
                                                   simp⟩
structure PromA where
  b : Bl
  v : List UInt8
  e : Int
def promP (room : Nat) (ps : List UPage) (n : Int) (b : Bl) : PromA × List UPage :=
  if okInst n b = false then (⟨⟨0, 0⟩, [], 1⟩, ps)
  else if b.lt ((replay ps).at_ n).pr = true then (⟨⟨0, 0⟩, [], 7⟩, ps)
  else if b = ((replay ps).at_ n).pr then (⟨((replay ps).at_ n).ac, ((replay ps).at_ n).val, 0⟩, ps)
  else (if ucode room ps = 0 then ⟨((replay ps).at_ n).ac, ((replay ps).at_ n).val, 0⟩ else ⟨⟨0, 0⟩, [], ucode room ps⟩, uput room ps (.pro n.toNat b.r.toNat b.w.toNat))
def PromQ (F : Nat → Prop) (u d room : Nat) (x : PromA × List UPage) (w : World) (r : Ending) (w' : World) : Prop :=
  ∃ v F', r = .returned (.tuple #[.agg #[.int .i64 x.1.b.r, .int .i64 x.1.b.w], v, .int .i64 x.1.e]) ∧ UDAt w' F' u d room x.2 ∧ Upd F w w' ∧ (∀ k, F' k → F k ∨ w.heap.size ≤ k) ∧ Bytes w' (fun k => w.heap.size ≤ k ∧ ¬ F' k) v x.1.v
theorem okInst_iff {n : Int} {b : Bl} : okInst n b = true ↔ (0 < n ∧ n ≤ 2147483647) ∧ (0 ≤ b.r ∧ b.r ≤ 2147483647) ∧ 0 ≤ b.w ∧ b.w ≤ 2147483647 := by unfold okInst okNum; simp; omega
theorem promP_busy {n : Int} {b : Bl} (hi : okInst n b = true) (h : b.lt ((replay ps).at_ n).pr = true) : promP room ps n b = (⟨⟨0, 0⟩, [], 7⟩, ps) := by unfold promP; rw [hi, if_neg (by simp), if_pos h]
theorem promP_same {n : Int} {b : Bl} (hi : okInst n b = true) (h : b.lt ((replay ps).at_ n).pr = false) (he : b = ((replay ps).at_ n).pr) : promP room ps n b = (⟨((replay ps).at_ n).ac, ((replay ps).at_ n).val, 0⟩, ps) := by unfold promP; rw [hi, if_neg (by simp), h, if_neg (by simp), if_pos he]
theorem promP_new {n : Int} {b : Bl} (hi : okInst n b = true) (h : b.lt ((replay ps).at_ n).pr = false) (he : ¬ b = ((replay ps).at_ n).pr) :
    promP room ps n b = (if ucode room ps = 0 then ⟨((replay ps).at_ n).ac, ((replay ps).at_ n).val, 0⟩ else ⟨⟨0, 0⟩, [], ucode room ps⟩, uput room ps (.pro n.toNat b.r.toNat b.w.toNat)) := by unfold promP; rw [hi, if_neg (by simp), h, if_neg (by simp), if_neg he]
/-- bytes that a written page leaves as they were -/
theorem bytes_wr {Fu Fd : Nat → Prop} {v : Value} {l : List UInt8} (h : Upd (fun k => (Fu k ∧ NB w k) ∨ Fd k) w w1) (hv : Bytes w G v l) (hd : ∀ k, G k → ¬ Fd k) : Bytes w1 G v l := by
  obtain ⟨a, c, hv, hc, he⟩ := hv
  refine ⟨a, c, hv, hc, fun hl => ?_⟩
  obtain ⟨g, o, ha, hg, cur, ty, fr, hb, hel⟩ := he hl
  refine ⟨g, o, ha, hg, cur, ty, fr, (h.keep g (blk_lt hb) (fun hn => ?_)).trans hb, hel⟩
  obtain ⟨cs, h1, h2, h3⟩ := hel 0 (List.length_pos_iff.2 hl)
  have h0 := h3 0 (by omega)
  rw [show cs = _ from h2] at h0
  rcases hn with hn | hn
  · exact hn.2 (o + 0 * 1 + 0) _ (by rw [blk_cell hb, h0]; rfl)
  · exact hd g hg hn
section
variable {P : Program}
/-- a part of a block, loaded as a struct -/
theorem run_load_mid_op {o : Oper} {a : Act} (ty : TypeId) (x : Operand) (ho : o.op = .load ty x) (g i : Nat) (hx : a.eval x = .pointer (some ⟨g, i, none⟩)) (cs : List Value) (d : TypeDesc) {w : World} {full : Array Value} {t : TypeId} {fr : Nat × Nat} (hg : w.heap[g]? = some (.cells full t fr))
    (hr : ∀ j v, cs[j]? = some v → full[i + j]? = some v) (hu : P.underlying ty = some d) (hd : d.isRow = true) (hi : (P.info? ty).map (·.size) = some cs.length) :
    (execOp a.eval o).run P w = .ok (.value (.agg cs.toArray)) w := by
  unfold execOp
  simp only [ho, hx, Instr.loadAt, Instr.sureAddr, Sem.run_bind, Sem.run_pure, Result.andThen_ok, run_loadVar_mid w g i ty cs d (fun j v hj => by rw [blk_cell hg]; exact hr j v hj) hu hd hi]
end
def NeqRel (b c : Bl) (w : World) (_ _ _ _ _ _ _ v : Value) (W : World) : Prop := v = .bool (!decide (b = c)) ∧ w = W
theorem Bl.ne {b c : Bl} : ¬ b = c ↔ ¬ b.r = c.r ∨ ¬ b.w = c.w := by cases b; cases c; simp; omega
theorem Bl.eq {b c : Bl} (h1 : b.r = c.r) (h2 : b.w = c.w) : b = c := by cases b; cases c; simp at h1 h2; simp [h1, h2]
/-- before the answer -/
def PromCut (F : Nat → Prop) (u d room q g : Nat) (A : Acc) (y : Value) (X : PromA × List UPage) (w : World) (_ : Value) (W : World) : Prop :=
  ∃ F' ps', X = (⟨A.ac, A.val, 0⟩, ps') ∧ UDAt W F' u d room ps' ∧ Upd F w W ∧ (∀ k, F' k → F k ∨ w.heap.size ≤ k) ∧ (¬ F' q ∧ ¬ F' g) ∧ W.heap[q]? = some (.cells #[.int .i64 0, .int .i64 0] 40 (0, 0)) ∧
    W.heap[g]? = some (.cells #[.int .i64 A.pr.r, .int .i64 A.pr.w, .int .i64 A.ac.r, .int .i64 A.ac.w, y] 153 (0, 0)) ∧ ∃ G, Bytes W G y A.val
theorem alloc2 (w : World) (a b : Obj) : w.heap.size + 2 = ((w.alloc a).alloc b).heap.size := by simp
set_option maxRecDepth 100000 in
set_option maxHeartbeats 2000000 in
theorem ud_promise_no (n : Int) (b : Bl) (w : World) (h : UDAt w F u d room ps) (hi : okInst n b = false) : Calls Try.prog 41 #[.pointer (some ⟨u, 0, none⟩), .int .i64 n, .agg #[.int .i64 b.r, .int .i64 b.w]] w (PromQ F u d room (⟨⟨0, 0⟩, [], 1⟩, ps) w) := by
  have HI := Lib.hid (fun W => u_instance n b W)
  rw [hi] at HI
  have HU := Lib.hid h
  clear h hi
  go_enter Try.func41, Try.ntmps41
  go_wp2_with fail
  refine (HI.out _).mono ?_
  rintro r w1 ⟨rfl, u1⟩
  have U1 := Lib.hid ((((Upd.refl NoF w).alloc _).alloc _).then0 u1)
  have t1 := u1.blk0 (blk_newn (w := w.alloc (.cells #[.int .i64 b.r, .int .i64 b.w] 40)) (n := w.heap.size + 1) (alloc_size _ _) (.cells #[.int .i64 0, .int .i64 0] 40))
  have T1 := Lib.hid t1
  have d0 : w1.cell? ⟨w.heap.size + 1, 0, none⟩ = some (.int .i64 0) := blk_cell t1 0
  have d1 : w1.cell? ⟨w.heap.size + 1, 1, none⟩ = some (.int .i64 0) := blk_cell t1 1
  have g0 := blk_free t1 0
  have g1 := blk_free t1 1
  have hz := blk_lt t1
  clear u1 t1
  go_wp2_with fail
  have hu : Upd (OneF (w.heap.size + 1)) w1 ((w1.setCell ⟨w.heap.size + 1, 0, none⟩ (.int .i64 0)).setCell ⟨w.heap.size + 1, 1, none⟩ (.int .i64 0)) := ((Upd.refl _ _).set1 _ _).set1 _ _
  have hx : ((w1.setCell ⟨w.heap.size + 1, 0, none⟩ (.int .i64 0)).setCell ⟨w.heap.size + 1, 1, none⟩ (.int .i64 0)).heap[w.heap.size + 1]? = some (.cells #[.int .i64 0, .int .i64 0] 40 (0, 0)) := by rw [blk_set (blk_set T1.out 0 _) 1]; simp
  refine bodyPost_ret (results_ctt rfl _ _ _ 40 _ (0, 0) _ rfl hx Try.underlying40 rfl (by kernel_rfl)) rfl ?_
  have hlt := HU.out.lt
  have uu := U1.out.trans (F := NoF) hu (fun i hi h => by simp only [OneF] at h; omega)
  exact ⟨_, F, rfl, HU.out.upd uu (fun _ _ h => h), uu.mono (fun _ _ h => h.elim), fun k hk => .inl hk, Slc.nil _ _ _ _ _ _⟩
set_option maxRecDepth 100000 in
set_option maxHeartbeats 4000000 in
theorem ud_promise_yes (n rr qq : Nat) (w : World) (h : UDAt w F u d room ps) (hi : okInst n ⟨rr, qq⟩ = true) : Calls Try.prog 41 #[.pointer (some ⟨u, 0, none⟩), .int .i64 n, .agg #[.int .i64 rr, .int .i64 qq]] w (PromQ F u d room (promP room ps n ⟨rr, qq⟩) w) := by
  have hn := okInst_iff.1 hi
  have HI := Lib.hid (fun W => u_instance n ⟨rr, qq⟩ W)
  rw [hi] at HI
  obtain ⟨X, hX⟩ : ∃ X, promP room ps n ⟨rr, qq⟩ = X := ⟨_, rfl⟩
  rw [hX]
  have HX := Lib.hid hX
  have HI2 := Lib.hid hi
  have HU := Lib.hid h
  have hval := h.good.acc n
  obtain ⟨_, hok, Fu, Fd, hun, hdv, hdis, hFF⟩ := h
  have HUN := Lib.hid (And.intro hun hdv)
  have HOK := Lib.hid (And.intro hok (And.intro hdis hFF))
  obtain ⟨A, hA⟩ : ∃ A, (replay ps).at_ n = A := ⟨_, rfl⟩
  obtain ⟨h1, mc, ma, hub, hfs, hc, ha⟩ := hun
  have HP := Lib.hid (And.intro h1 ha)
  have HUB := Lib.hid hub
  have hul := h1 u hfs.1
  rw [hA] at hval
  have HA := Lib.hid hA
  have HV := Lib.hid hval
  have HN := Lib.hid hn
  clear hA hub hc ha h1 hfs hdv hok hdis hFF hval hi hn hX
  go_enter Try.func41, Try.ntmps41
  go_wp2_with fail
  refine (HI.out _).mono ?_
  rintro r w1 ⟨rfl, u1⟩
  have U1 := Lib.hid ((((Upd.refl NoF w).alloc _).alloc _).then0 u1)
  have B1 := Lib.hid (u1.blk0 (blk_alloc (blk_new w (.cells #[.int .i64 rr, .int .i64 qq] 40)) (.cells #[.int .i64 0, .int .i64 0] 40)))
  have T1 := Lib.hid (u1.blk0 (blk_newn (w := w.alloc (.cells #[.int .i64 rr, .int .i64 qq] 40)) (n := w.heap.size + 1) (alloc_size _ _) (.cells #[.int .i64 0, .int .i64 0] 40)))
  have hz1 := blk_lt T1.out
  have e5 : w1.cell? ⟨u, 5, none⟩ = some (.map (some ma)) := blk_cell (U1.out.blk0 HUB.out) 5
  obtain ⟨a0, c0, hlk, hbl⟩ := acc_look (HP.out.2.upd accRep_upd U1.out (fun _ _ h => h) (fun h => h)) n
  rw [HA.out] at hlk hbl
  unfold Acc.v at hlk
  have HBL := Lib.hid hbl
  have f0 : (w1.alloc (.cells #[.int .i64 A.pr.r, .int .i64 A.pr.w, .int .i64 A.ac.r, .int .i64 A.ac.w, .slice a0 A.val.length c0] 153)).cell? ⟨w.heap.size, 0, none⟩ = some (.int .i64 rr) := blk_cell (blk_alloc B1.out _) 0
  have f1 : (w1.alloc (.cells #[.int .i64 A.pr.r, .int .i64 A.pr.w, .int .i64 A.ac.r, .int .i64 A.ac.w, .slice a0 A.val.length c0] 153)).cell? ⟨w.heap.size, 1, none⟩ = some (.int .i64 qq) := blk_cell (blk_alloc B1.out _) 1
  have HL := Lib.hid (fun W => u_less ⟨rr, qq⟩ A.pr W)
  clear u1 hbl
  go_wp2_with fail
  refine (HL.out _).mono ?_
  rintro r w2 ⟨rfl, u2⟩
  have U2 := Lib.hid ((U1.out.alloc (.cells #[.int .i64 A.pr.r, .int .i64 A.pr.w, .int .i64 A.ac.r, .int .i64 A.ac.w, .slice a0 A.val.length c0] 153)).then0 u2)
  have B2 := Lib.hid (u2.blk0 (blk_alloc B1.out (.cells #[.int .i64 A.pr.r, .int .i64 A.pr.w, .int .i64 A.ac.r, .int .i64 A.ac.w, .slice a0 A.val.length c0] 153)))
  have T2 := Lib.hid (u2.blk0 (blk_alloc T1.out (.cells #[.int .i64 A.pr.r, .int .i64 A.pr.w, .int .i64 A.ac.r, .int .i64 A.ac.w, .slice a0 A.val.length c0] 153)))
  have A2 := Lib.hid (u2.blk0 (blk_new w1 (.cells #[.int .i64 A.pr.r, .int .i64 A.pr.w, .int .i64 A.ac.r, .int .i64 A.ac.w, .slice a0 A.val.length c0] 153)))
  have V2 := Lib.hid (HBL.out.upd0 (((Upd.refl NoF w1).alloc _).then0 u2))
  have hz2 := blk_lt A2.out
  clear u2 hlk e5 f0 f1
  obtain ⟨bl, hlt⟩ : ∃ bl, (Bl.mk rr qq).lt A.pr = bl := ⟨_, rfl⟩
  rw [hlt]
  have HLT := Lib.hid hlt
  clear hlt
  cases bl
  case true =>
    have d0 : w2.cell? ⟨w.heap.size + 1, 0, none⟩ = some (.int .i64 0) := blk_cell T2.out 0
    have d1 : w2.cell? ⟨w.heap.size + 1, 1, none⟩ = some (.int .i64 0) := blk_cell T2.out 1
    have g0 := blk_free T2.out 0
    have g1 := blk_free T2.out 1
    have hzz : w.heap.size + 1 < w2.heap.size := by omega
    go_wp2_with fail
    have hu : Upd (OneF (w.heap.size + 1)) w2 ((w2.setCell ⟨w.heap.size + 1, 0, none⟩ (.int .i64 0)).setCell ⟨w.heap.size + 1, 1, none⟩ (.int .i64 0)) := ((Upd.refl _ _).set1 _ _).set1 _ _
    have hx : ((w2.setCell ⟨w.heap.size + 1, 0, none⟩ (.int .i64 0)).setCell ⟨w.heap.size + 1, 1, none⟩ (.int .i64 0)).heap[w.heap.size + 1]? = some (.cells #[.int .i64 0, .int .i64 0] 40 (0, 0)) := by rw [blk_set (blk_set T2.out 0 _) 1]; simp
    refine bodyPost_ret (results_ctt rfl _ _ _ 40 _ (0, 0) _ rfl hx Try.underlying40 rfl (by kernel_rfl)) rfl ?_
    have uu := U2.out.trans (F := NoF) hu (fun i hi h => by simp only [OneF] at h; omega)
    rw [show X = _ from HX.out.symm.trans (promP_busy HI2.out (by rw [HA.out]; exact HLT.out))]
    exact ⟨_, F, rfl, HU.out.upd uu (fun _ _ h => h), uu.mono (fun _ _ h => h.elim), fun k hk => .inl hk, Slc.nil _ _ _ _ _ _⟩
  case false =>
    have f0 : w2.cell? ⟨w.heap.size, 0, none⟩ = some (.int .i64 rr) := blk_cell B2.out 0
    have f1 : w2.cell? ⟨w.heap.size, 1, none⟩ = some (.int .i64 qq) := blk_cell B2.out 1
    have k0 : w2.cell? ⟨w1.heap.size, 0, none⟩ = some (.int .i64 A.pr.r) := blk_cell A2.out 0
    have k1 : w2.cell? ⟨w1.heap.size, 1, none⟩ = some (.int .i64 A.pr.w) := blk_cell A2.out 1
    go_upto_region 6 with fail
    go_cut [2, 12, 21, 22, 24, 27, 29, 30] (NeqRel ⟨rr, qq⟩ A.pr w2)
    case first =>
      go_wp2_with fail
      all_goals
        go_meet
        case rel =>
          refine ⟨?_, rfl⟩
          first
            | (rw [show decide ((Bl.mk rr qq) = A.pr) = true from decide_eq_true (Bl.eq (by assumption) (by assumption))]; rfl)
            | (rw [show decide ((Bl.mk rr qq) = A.pr) = false from decide_eq_false (Bl.ne.2 (.inl (by assumption)))]; rfl)
            | (rw [show decide ((Bl.mk rr qq) = A.pr) = false from decide_eq_false (Bl.ne.2 (.inr (by assumption)))]; rfl)
    case rest =>
    obtain ⟨hu30, rfl⟩ := hcut
    subst hu30
    obtain ⟨x, hx⟩ : ∃ x, decide ((Bl.mk rr qq) = A.pr) = x := ⟨_, rfl⟩
    rw [hx]
    have HXX := Lib.hid hx
    clear hx k0 k1
    go_upto_if 30 with fail
    go_cut [10] (PromCut F u d room (w.heap.size + 1) w1.heap.size A (.slice a0 A.val.length c0) X w)
    case first =>
      cases x
      case true =>
        have e := of_decide_eq_true HXX.out
        go_wp2_with fail
        go_meet
        case rel =>
          refine ⟨F, ps, ?_, HU.out.upd U2.out (fun _ _ h => h), U2.out.mono (fun _ _ h => h.elim), fun k hk => .inl hk, ⟨fun h => ?_, fun h => ?_⟩, T2.out, A2.out, _, V2.out⟩
          · rw [← HX.out, promP_same HI2.out (by rw [HA.out]; exact HLT.out) (by rw [HA.out]; exact e), HA.out]
          · have := HU.out.lt _ h; omega
          · have := HU.out.lt _ h; omega
      case false =>
        have hne : ¬ (Bl.mk rr qq = A.pr) := of_decide_eq_false HXX.out
        obtain ⟨⟨n1, n2⟩, ⟨r1, r2⟩, q1, q2⟩ := HN.out
        have hpok : (UPage.pro n rr qq).ok := ⟨by omega, by omega, by omega, by omega⟩
        obtain ⟨hok, hdis, hFF⟩ := HOK.out
        have uw := U2.out.alloc (.cells #[.int .i64 n, .int .i64 rr, .int .i64 qq] 3)
        have hw := u_write_plain 5 (.slice none 0 0) _ [n, rr, qq] ((replay ps).app (.pro n rr qq)) (w2.alloc (.cells #[.int .i64 n, .int .i64 rr, .int .i64 qq] 3)) (HUN.out.1.upd uw (fun _ _ h => h)) (HUN.out.2.upd uw (fun _ _ h => h)) hdis (by decide) (ints3 w2 n rr qq) (by simp) (by simp; omega) (fun F' G' v w' hu hv => page_any (.pro n rr qq) v w' hu (by rw [UPage.enc_plain _ rfl]; exact hv) hpok)
        have HW := Lib.hid hw
        have HPP := Lib.hid (promP_new (room := room) HI2.out (by rw [HA.out]; exact HLT.out) (by rw [HA.out]; exact hne))
        have UW := Lib.hid uw
        have hz4 := alloc_size w2 (.cells #[.int .i64 n, .int .i64 rr, .int .i64 qq] 3)
        have HT := Lib.hid (And.intro (blk_alloc T2.out (.cells #[.int .i64 n, .int .i64 rr, .int .i64 qq] 3)) (blk_alloc A2.out (.cells #[.int .i64 n, .int .i64 rr, .int .i64 qq] 3)))
        have HV4 := Lib.hid (V2.out.upd0 ((Upd.refl NoF w2).alloc (.cells #[.int .i64 n, .int .i64 rr, .int .i64 qq] 3)))
        have HP4 := Lib.hid (And.intro hpok hFF)
        clear hpok hne n1 n2 r1 r2 q1 q2 hok hdis hFF uw hw
        go_wp2_with fail
        refine HW.out.mono ?_
        rintro r w4 hwq
        rw [show UInt8.ofNat 5 :: numBytes [n, rr, qq] = (UPage.pro n rr qq).enc from ((UPage.pro n rr qq).enc_plain rfl).symm] at hwq
        have hfar : ∀ k, w.heap.size ≤ k → k < w2.heap.size → ¬ ((Fu k ∧ NB (w2.alloc (.cells #[.int .i64 n, .int .i64 rr, .int .i64 qq] 3)) k) ∨ Fd k) := fun k h1 h2 h => by
          have := HU.out.lt k (HP4.out.2 k (h.elim (fun h => .inl h.1) .inr)); omega
        obtain ⟨_, _, _, _, _, hup4, _⟩ := id hwq
        have HB4 := Lib.hid (bytes_wr hup4 HV4.out (fun k hk h => HOK.out.2.1 k hk.1 h))
        have t4 := hup4.blk HT.out.1 (hfar _ (by omega) (by omega))
        have HT4 := Lib.hid (And.intro t4 (hup4.blk HT.out.2 (hfar _ (by omega) (by omega))))
        obtain ⟨rfl, hud4⟩ := ud_of_write (.pro n rr qq) HP4.out.1 HOK.out.1 HP4.out.2 HU.out.bound.1 hwq
        have HUD4 := Lib.hid hud4
        have hcd2 : ucode room ps = 0 ∨ ucode room ps = 4 := by unfold ucode; split <;> simp
        obtain ⟨cd, hcd⟩ : ∃ c, ucode room ps = c := ⟨_, rfl⟩
        rw [hcd] at hcd2 ⊢
        have HCD := Lib.hid hcd
        have d0 : w4.cell? ⟨w.heap.size + 1, 0, none⟩ = some (.int .i64 0) := blk_cell t4 0
        have d1 : w4.cell? ⟨w.heap.size + 1, 1, none⟩ = some (.int .i64 0) := blk_cell t4 1
        have g0 := blk_free t4 0
        have g1 := blk_free t4 1
        have hz5 : w.heap.size + 1 < w4.heap.size := blk_lt t4
        have hz6 : w1.heap.size < w4.heap.size := blk_lt HT4.out.2
        have hzu := hup4.size
        clear hwq hup4 t4 hud4 hcd hfar
        rcases hcd2 with rfl | rfl
        · go_wp2_with fail
          go_meet
          case rel =>
            obtain ⟨G, k1, k2, k3⟩ := HUD4.out
            have hz7 := UW.out.size
            have hFl := HU.out.lt
            refine ⟨G, _, ?_, k1, (UW.out.mono (fun _ _ h => h.elim)).andThen k2, fun k hk => (k3 k hk).elim .inl (fun h => .inr (by omega)), ⟨fun h => ?_, fun h => ?_⟩, HT4.out.1, HT4.out.2, _, HB4.out⟩
            · rw [← HX.out, HPP.out, if_pos HCD.out, HA.out]; rfl
            · rcases k3 _ h with h | h
              · have := hFl _ h; omega
              · omega
            · rcases k3 _ h with h | h
              · have := hFl _ h; omega
              · omega
        · go_wp2_with fail
          have hu : Upd (OneF (w.heap.size + 1)) w4 ((w4.setCell ⟨w.heap.size + 1, 0, none⟩ (.int .i64 0)).setCell ⟨w.heap.size + 1, 1, none⟩ (.int .i64 0)) := ((Upd.refl _ _).set1 _ _).set1 _ _
          have hx : ((w4.setCell ⟨w.heap.size + 1, 0, none⟩ (.int .i64 0)).setCell ⟨w.heap.size + 1, 1, none⟩ (.int .i64 0)).heap[w.heap.size + 1]? = some (.cells #[.int .i64 0, .int .i64 0] 40 (0, 0)) := by rw [blk_set (blk_set HT4.out.1 0 _) 1]; simp
          refine bodyPost_ret (results_ctt rfl _ _ _ 40 _ (0, 0) _ rfl hx Try.underlying40 rfl (by kernel_rfl)) rfl ?_
          rw [show X = _ from HX.out.symm.trans HPP.out, HCD.out, if_neg (by decide)]
          obtain ⟨G, k1, k2, k3⟩ := HUD4.out
          have hz7 := UW.out.size
          have hFl := HU.out.lt
          refine ⟨_, G, rfl, k1.upd hu (fun k hk h => ?_), ((UW.out.mono (fun _ _ h => h.elim)).andThen k2).trans hu (fun i hi h => by simp only [OneF] at h; omega), fun k hk => (k3 k hk).elim .inl (fun h => .inr (by omega)), Slc.nil _ _ _ _ _ _⟩
          simp only [OneF] at h
          subst h
          rcases k3 _ hk with h | h
          · have := hFl _ h; omega
          · omega
    case rest =>
    obtain ⟨F', ps', rfl, hud, hup, hnew, hnq, hq, hg, G, hby⟩ := hcut
    have hzq := blk_lt hq
    have hzg := blk_lt hg
    have HUD := Lib.hid (And.intro hud (And.intro hup (And.intro hnew hnq)))
    have S0 := Lib.hid (show wc.drew.heap[w1.heap.size]? = _ from hg)
    have Q0 := Lib.hid (show wc.drew.heap[w.heap.size + 1]? = _ from hq)
    have HC := Lib.hid (fun W (hu : Upd NoF wc W) => clone_any (.slice a0 A.val.length c0) A.val W (hby.upd0 hu) (by have := HV.out; omega))
    clear hud hup hnew hnq hq hg hby f0 f1
    go_wp2_with fail
    refine region_late (fun W => W.heap[w1.heap.size]? = some (.cells #[.int .i64 A.pr.r, .int .i64 A.pr.w, .int .i64 A.ac.r, .int .i64 A.ac.w, .slice a0 A.val.length c0] 153 (0, 0))) [] (by kernel_rfl) ?_
    refine late_take 0 (.pointer (some ⟨w1.heap.size, 2, none⟩)) rfl (by kernel_rfl) (by kernel_rfl) (by kernel_rfl) (by kernel_rfl) (fun _ _ _ h => h) (by kernel_rfl) S0.out (fun W' _ => by kernel_rfl) ?_
    refine late_take 2 (.pointer (some ⟨w1.heap.size, 4, none⟩)) rfl (by kernel_rfl) (by kernel_rfl) (by kernel_rfl) (by kernel_rfl) (fun _ _ _ h => h) (by kernel_rfl) S0.out (fun W' _ => by kernel_rfl) ?_
    refine late_take 3 (.slice a0 A.val.length c0) rfl (by kernel_rfl) (by kernel_rfl) (by kernel_rfl) (by kernel_rfl) (fun _ _ _ h => h) (by kernel_rfl) S0.out (fun W' hW' => run_load_cell_op 23 _ rfl ⟨w1.heap.size, 4, none⟩ (by kernel_rfl) (blk_cell hW' 4) _ Try.underlying23 rfl) ?_
    refine late_take 1 (.agg #[.int .i64 A.ac.r, .int .i64 A.ac.w]) rfl (by kernel_rfl) (by kernel_rfl) (by kernel_rfl) (by kernel_rfl) (fun _ _ _ h => h) (by kernel_rfl) S0.out (fun W' hW' => run_load_mid_op 40 _ rfl w1.heap.size 2 (by kernel_rfl) [.int .i64 A.ac.r, .int .i64 A.ac.w] _ hW' (fun j v hj => by
      have : j = 0 ∨ j = 1 ∨ 2 ≤ j := by omega
      rcases this with rfl | rfl | h
      · simpa using hj
      · simpa using hj
      · rw [List.getElem?_eq_none (by simpa using h)] at hj; cases hj) Try.underlying40 rfl (by kernel_rfl)) ?_
    refine late_one 4 rfl (by kernel_rfl) (by kernel_rfl) (fun K hK => ?_)
    go_wp2_with fail
    refine (HC.out _ (Upd.refl NoF wc).drew).mono ?_
    rintro r w3 ⟨v3, rfl, b3, u3⟩
    obtain ⟨a3, c3, rfl, hc3⟩ := b3.slice
    have B3 := Lib.hid b3
    have U3 := Lib.hid (Upd.then0 (Upd.refl NoF wc).drew u3)
    have S3 := Lib.hid (u3.blk0 S0.out)
    have Q3 := Lib.hid (u3.blk0 Q0.out)
    have d0 : w3.cell? ⟨w.heap.size + 1, 0, none⟩ = some (.int .i64 0) := blk_cell Q3.out 0
    have d1 : w3.cell? ⟨w.heap.size + 1, 1, none⟩ = some (.int .i64 0) := blk_cell Q3.out 1
    have g0 := blk_free Q3.out 0
    have g1 := blk_free Q3.out 1
    have z3 : w.heap.size + 1 < w3.heap.size := blk_lt Q3.out
    clear b3 u3 hc3
    go_wp2_with fail
    refine hK _ _ (fun _ => S3.out) ?_
    clear hK K
    refine late_one 5 rfl (by kernel_rfl) (by kernel_rfl) (fun K hK => ?_)
    go_wp2_with fail
    have hx2 := blk_far (blk_far S3.out (p := ⟨w.heap.size + 1, 0, none⟩) (show w1.heap.size ≠ w.heap.size + 1 by omega) (.int .i64 A.ac.r)) (p := ⟨w.heap.size + 1, 1, none⟩) (show w1.heap.size ≠ w.heap.size + 1 by omega) (.int .i64 A.ac.w)
    have HX2 := Lib.hid hx2
    have hu : Upd (OneF (w.heap.size + 1)) w3 ((w3.setCell ⟨w.heap.size + 1, 0, none⟩ (.int .i64 A.ac.r)).setCell ⟨w.heap.size + 1, 1, none⟩ (.int .i64 A.ac.w)) := ((Upd.refl _ _).set1 _ _).set1 _ _
    have hx : ((w3.setCell ⟨w.heap.size + 1, 0, none⟩ (.int .i64 A.ac.r)).setCell ⟨w.heap.size + 1, 1, none⟩ (.int .i64 A.ac.w)).heap[w.heap.size + 1]? = some (.cells #[.int .i64 A.ac.r, .int .i64 A.ac.w] 40 (0, 0)) := by rw [blk_set (blk_set Q3.out 0 _) 1]; simp
    have HXU := Lib.hid (And.intro hu hx)
    clear hx2 hu hx d0 d1 g0 g1
    refine hK _ _ (fun _ => HX2.out) ?_
    clear hK K
    refine late_one 6 rfl (by kernel_rfl) (by kernel_rfl) (fun K hK => ?_)
    go_wp2_with fail
    refine hK _ _ (fun _ => HX2.out) ?_
    clear hK K
    refine late_one 7 rfl (by kernel_rfl) (by kernel_rfl) (fun K hK => ?_)
    go_wp2_with fail
    refine hK _ _ (fun _ => HX2.out) ?_
    clear hK K
    refine late_done (by kernel_rfl) ?_ _
    go_wp2_with fail
    refine bodyPost_ret (results_ctt rfl _ _ _ 40 _ (0, 0) _ rfl HXU.out.2 Try.underlying40 rfl (by kernel_rfl)) rfl ?_
    obtain ⟨hud, hup, hnew, hnq, hng⟩ := HUD.out
    have hzw := hup.size
    have hfar : ∀ k, F' k → ¬ OneF (w.heap.size + 1) k := fun k hk h => hnq (by simp only [OneF] at h; rw [← h]; exact hk)
    refine ⟨_, F', rfl, (hud.upd U3.out (fun _ _ h => h)).upd HXU.out.1 hfar, (hup.then0 U3.out).trans HXU.out.1 (fun i hi h => by simp only [OneF] at h; omega), hnew, ?_⟩
    refine (B3.out.upd HXU.out.1 (fun k hk h => by simp only [OneF] at h; have : wc.drew.heap.size = wc.heap.size := rfl; omega)).mono (fun k hk => ?_)
    have : wc.drew.heap.size = wc.heap.size := rfl
    exact ⟨by omega, fun hf => by have := hud.lt k hf; omega⟩
theorem ud_promise (n : Int) (b : Bl) (w : World) (h : UDAt w F u d room ps) : Calls Try.prog 41 #[.pointer (some ⟨u, 0, none⟩), .int .i64 n, .agg #[.int .i64 b.r, .int .i64 b.w]] w (PromQ F u d room (promP room ps n b) w) := by
  cases hi : okInst n b
  · have e : promP room ps n b = (⟨⟨0, 0⟩, [], 1⟩, ps) := by unfold promP; rw [hi, if_pos rfl]
    rw [e]
    exact ud_promise_no n b w h hi
  · obtain ⟨br, bw⟩ := b
    obtain ⟨⟨n1, n2⟩, ⟨r1, r2⟩, q1, q2⟩ := okInst_iff.1 hi
    obtain ⟨nn, rfl⟩ := Int.eq_ofNat_of_zero_le (show 0 ≤ n by omega)
    obtain ⟨rr, rfl⟩ := Int.eq_ofNat_of_zero_le r1
    obtain ⟨qq, rfl⟩ := Int.eq_ofNat_of_zero_le q1
    exact ud_promise_yes nn rr qq w h hi
end Go.Proofs.Ytplhgeecnnadhaa
