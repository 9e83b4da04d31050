/- BallotLate: the walk. -/
import Derived.Test.YtplhgeecnnadhaaLateP
import Derived.Test.YtplhgeecnnadhaaMany
import Derived.BigQuiet
import Derived.Deep.DeepCutAuto
import Derived.Deep.LoopGhost
namespace Go.Proofs.Ytplhgeecnnadhaa
open Go.RowKit
set_option linter.unusedVariables false
variable {F G : Nat → Prop}
def acell (x : AnsV) (cs : List Value) : Prop := cs = [.int .i64 x.ph, .int .i64 x.src, .bool x.ok, .int .i64 x.b1, .int .i64 x.b2, x.v]
def LateRel (B : Nat) (p : Nat) (n : Int) (len : Nat) (w0 : World) (g : Nat) (i : Value) (w : World) : Prop :=
  ∃ k : Nat, k + g = len ∧ i = .int .i64 k ∧ ∃ s, PL B NoX p s w ∧ Upd (fun k => B ≤ k) w0 w ∧ LateInv n k s
/-- behind 'if a.OK' -/
def MidA (wr : World) (x : AnsV) (k : Nat) (cs : Array Value) (s10 s11 s33 : Value) (W : World) : Prop :=
  s33 = .int .i64 k ∧ s10 = .pointer (some ⟨wr.heap.size, 0, none⟩) ∧ s11 = .int .i64 x.e ∧ W = wr.alloc (.cells cs 49)
/-- behind the answer -/
def MidB (B p G : Nat) (w0 : World) (s : PS) (x : AnsV) (k : Nat) (cs : Array Value) (s10 s12 s13 s14 s33 : Value) (W : World) : Prop :=
  s33 = .int .i64 k ∧ s10 = .pointer (some ⟨G, 0, none⟩) ∧ s12 = .int .i64 s.phase ∧ s13 = .bool (s.asked x.src) ∧ B ≤ G ∧
  ∃ a c N, s14 = .slice a s.val.length c ∧ G < N ∧ N ≤ W.heap.size ∧ Bytes W (fun k => G ≤ k ∧ k < N) s14 s.val ∧ W.heap[G]? = some (.cells cs 49 (0, 0)) ∧
    PL B (fun k => G ≤ k ∧ k < N) p (s.late x) W ∧ Upd (fun k => B ≤ k) w0 W
def MidC (B p G : Nat) (w0 : World) (s : PS) (x : AnsV) (k : Nat) (cs : Array Value) (s10 s12 s13 s14 s15 s33 : Value) (W : World) : Prop :=
  MidB B p G w0 s x k cs s10 s12 s13 s14 s33 W ∧ s15 = .bool (x.wrong s)
set_option maxRecDepth 100000 in
set_option maxHeartbeats 16000000 in
theorem late_walk (a0 : Int) (v1 : Value) (la : List AnsV) (y : AnsV) (w : World) (hv1 : Slc acell 6 w F v1 la) (hval : ∀ x ∈ la, Bytes w G x.v x.l ∧ x.l.length ≤ 140737488355328) (hy : Bytes w G y.v y.l) (hyl : y.l.length ≤ 140737488355328) (hl : la.length ≤ 60) :
    Calls Try.prog 6 #[.int .i64 a0, v1, .agg #[.int .i64 y.ph, .int .i64 y.src, .bool y.ok, .int .i64 y.b1, .int .i64 y.b2, y.v]] w (fun r w' => r = .returned (.bool true) ∧ Upd NoF w w') := by
  obtain ⟨g1, c1, rfl, hc1, hcells⟩ := hv1
  have h7 := and7 a0
  have hl' : ¬ ((60 : Int) < (la.length : Int)) := by omega
  have kc := fun (w : World) (C : Array Value) (n c : Nat) => Lib.run_convert_bytes_const (P := Try.prog) w 23 5 C n c Try.underlying23 Try.underlying5
  go_enter Try.func6, Try.ntmps6
  go_wp2_with fail
  have hb5 := blk_new w (.cells #[.int .i64 y.ph, .int .i64 y.src, .bool y.ok, .int .i64 y.b1, .int .i64 y.b2, y.v] 49)
  have u5 := (Upd.refl NoF w).alloc (.cells #[.int .i64 y.ph, .int .i64 y.src, .bool y.ok, .int .i64 y.b1, .int .i64 y.b2, y.v] 49)
  have hB5 : w.heap.size + 1 ≤ (w.alloc (.cells #[.int .i64 y.ph, .int .i64 y.src, .bool y.ok, .int .i64 y.b1, .int .i64 y.b2, y.v] 49)).heap.size := by simp
  generalize hW0 : w.alloc (.cells #[.int .i64 y.ph, .int .i64 y.src, .bool y.ok, .int .i64 y.b1, .int .i64 y.b2, y.v] 49) = w0 at *
  clear hW0
  refine (speaks10 w0).mono ?_
  rintro r w1 ⟨rfl, u1⟩
  have hb1 := u1.blk0 hb5
  have U1 := Lib.hid (u5.then0 u1)
  have HB1 := Lib.hid (Nat.le_trans hB5 u1.size)
  clear hb5 u5 u1 hB5
  have hlit : Bytes (w1.alloc (.cells #[.int .u8 111, .int .u8 119, .int .u8 110] 5 (3, 4))) (fun k => True) (.slice (some ⟨w1.heap.size, 0, none⟩) 3 3) [111, 119, 110] :=
    ⟨_, 3, rfl, Nat.le_refl _, fun _ => ⟨w1.heap.size, 0, rfl, trivial, _, _, _, blk_new w1 _, fun i hi => by
      have : i = 0 ∨ i = 1 ∨ i = 2 := by simp at hi; omega
      rcases this with rfl | rfl | rfl <;> exact ⟨_, rfl, rfl, fun j hj => by
        obtain rfl : j = 0 := by omega
        rfl⟩⟩⟩
  have ul := (Upd.refl NoF w1).alloc (.cells #[.int .u8 111, .int .u8 119, .int .u8 110] 5 (3, 4))
  have HL := Lib.hid hlit
  have U1' := Lib.hid (U1.out.then0 ul)
  have HB2 := Lib.hid (Nat.le_trans HB1.out ul.size)
  have hb2 := ul.blk0 hb1
  clear hlit ul hb1 U1
  go_wp2_with fail
  clear kc
  generalize hn : bits .and .i64 a0 7 + 1 = n at *
  have hn1 : 1 ≤ n := by omega
  have hn8 : n ≤ 8 := by omega
  clear h7 hn
  refine (pl_start (B := w.heap.size + 1) (X := NoX) n 2 0 _ [111, 119, 110] _ HL.out (by decide) (by omega) nox HB2.out).mono ?_
  rintro r w2 ⟨p, rfl, p2, u2⟩
  have U2 := Lib.hid (U1'.out.then0 u2)
  have hB := Nat.le_trans HB2.out u2.size
  have hb2 := u2.blk0 hb2
  clear u2 U1' HL HB1 HB2
  go_wp2_with fail
  go_loopg [33] la.length (LateRel (w.heap.size + 1) p n la.length w2)
  case atStart => exact ⟨0, by omega, rfl, _, p2, Upd.refl _ _, ⟨by simp only [PS.start]; omega, by simp [PS.start], by simp [PS.start], by simp [PS.start]⟩⟩
  case round =>
    obtain ⟨k, hk, rfl, s, hpl, hu, hinv⟩ := hrel
    have uB : Upd NoF w wr := U2.out.trans hu (fun i hi h => by omega)
    have hbr := hu.blk hb2 (by simp)
    have hzr := Nat.le_trans hB hu.size
    have hcellsr := hcells
    have U := Lib.hid uB
    have HP := Lib.hid hpl
    have HU := Lib.hid hu
    have HI := Lib.hid hinv
    have HBR := Lib.hid hbr
    have HK := Lib.hid hk
    clear uB hpl hu hinv p2 U2 hB hb2 hbr
    by_cases hlt : k < la.length
    · have hne : la ≠ [] := by intro e; rw [e] at hlt; simp at hlt
      obtain ⟨g, o, ha, hg, cur, ty, fr, hblk, hc⟩ := hcells hne
      obtain ⟨cs, hcs, hac, hcur⟩ := hc k hlt
      obtain ⟨xv, hxv⟩ := hval _ (List.getElem_mem hlt)
      generalize la[k] = x at *
      obtain ⟨xa, xc, hxe, _⟩ := xv.slice
      subst ha
      subst hac
      clear hcells hcellsr hc hcs hval hne hk
      have hbg := U.out.blk0 hblk
      have hcell : ∀ j, j < 6 → ∀ v, [Value.int .i64 x.ph, .int .i64 x.src, .bool x.ok, .int .i64 x.b1, .int .i64 x.b2, x.v][j]? = some v → wr.cell? ⟨g, o + k * 6 + j, none⟩ = some v := fun j hj v hv => by
        rw [blk_cell hbg]
        exact (hcur j hj).trans hv
      have z0 : wr.cell? ⟨g, o + k * 6, none⟩ = some (.int .i64 x.ph) := hcell 0 (by omega) _ rfl
      have z1 : wr.cell? ⟨g, o + k * 6 + 1, none⟩ = some (.int .i64 x.src) := hcell 1 (by omega) _ rfl
      have z2 : wr.cell? ⟨g, o + k * 6 + 2, none⟩ = some (.bool x.ok) := hcell 2 (by omega) _ rfl
      have z3 : wr.cell? ⟨g, o + k * 6 + 3, none⟩ = some (.int .i64 x.b1) := hcell 3 (by omega) _ rfl
      have z4 : wr.cell? ⟨g, o + k * 6 + 4, none⟩ = some (.int .i64 x.b2) := hcell 4 (by omega) _ rfl
      have z5 : wr.cell? ⟨g, o + k * 6 + 5, none⟩ = some (.slice xa x.l.length xc) := by rw [← hxe]; exact hcell 5 (by omega) _ rfl
      clear hcell hbg hblk hcur
      rw [hxe] at xv
      have XV := Lib.hid xv
      have XL := Lib.hid hxv
      clear xv hxv hxe
      have hA := blk_new wr (.cells #[.int .i64 x.ph, .int .i64 x.src, .bool x.ok, .int .i64 x.b1, .int .i64 x.b2, .slice xa x.l.length xc] 49)
      have uA := (Upd.refl NoF wr).alloc (.cells #[.int .i64 x.ph, .int .i64 x.src, .bool x.ok, .int .i64 x.b1, .int .i64 x.b2, .slice xa x.l.length xc] 49)
      have pA := (HP.out.rebase (Y := OneF wr.heap.size) (fun k hk h => by simp only [OneF] at h; omega)).upd uA (fun _ _ h => h.elim)
      have hzA : wr.heap.size < (wr.alloc (.cells #[.int .i64 x.ph, .int .i64 x.src, .bool x.ok, .int .i64 x.b1, .int .i64 x.b2, .slice xa x.l.length xc] 49)).heap.size := by simp
      have xA := (XV.out.upd0 U.out).upd0 uA
      have HUA := Lib.hid (HU.out.then0 uA)
      have HA := Lib.hid hA
      have PA := Lib.hid pA
      have XA := Lib.hid xA
      clear hA uA pA xA
      go_upto_if 38 with fail
      go_cut [10, 11, 33] (MidA wr x k #[.int .i64 x.ph, .int .i64 x.src, .bool x.ok, .int .i64 x.b1, .int .i64 x.b2, .slice xa x.l.length xc])
      case first =>
        cases hok : x.ok
        all_goals
          have hok' : x.e = if x.ok then 0 else 7 := rfl
          rw [hok] at hok'
          simp at hok'
          have HOK := Lib.hid hok'
          have HO := Lib.hid hok
          rw [hok] at z2
          clear hok' hok
          go_wp2_with fail
          go_meet
          refine ⟨rfl, rfl, ?_, ?_⟩
          · rw [HOK.out]
          · first | rfl | (simp only [HO.out])
      case rest =>
        obtain ⟨rfl, rfl, rfl, rfl⟩ := hcut
        have hasked : ∀ j, Calls Try.prog 31 #[.pointer (some ⟨p, 0, none⟩), .int .i64 x.src] ((wr.alloc (.cells #[.int .i64 x.ph, .int .i64 x.src, .bool x.ok, .int .i64 x.b1, .int .i64 x.b2, .slice xa x.l.length xc] 49)).drewN j) (fun e w' => e = .returned (.bool (s.asked x.src)) ∧ w' = (wr.alloc (.cells #[.int .i64 x.ph, .int .i64 x.src, .bool x.ok, .int .i64 x.b1, .int .i64 x.b2, .slice xa x.l.length xc] 49)).drewN j) := fun j =>
          (pl_asked x.src _ (PA.out.upd ((Upd.refl NoF _).drewN j) (fun _ _ h => h.elim))).mono (fun r w' ⟨h1, h2⟩ => ⟨h1, h2.symm⟩)
        have hphase : ∀ j, Calls Try.prog 30 #[.pointer (some ⟨p, 0, none⟩)] ((wr.alloc (.cells #[.int .i64 x.ph, .int .i64 x.src, .bool x.ok, .int .i64 x.b1, .int .i64 x.b2, .slice xa x.l.length xc] 49)).drewN j) (fun e w' => e = .returned (.int .i64 s.phase) ∧ w' = (wr.alloc (.cells #[.int .i64 x.ph, .int .i64 x.src, .bool x.ok, .int .i64 x.b1, .int .i64 x.b2, .slice xa x.l.length xc] 49)).drewN j) := fun j =>
          (pl_phase _ (PA.out.upd ((Upd.refl NoF _).drewN j) (fun _ _ h => h.elim))).mono (fun r w' ⟨h1, h2⟩ => ⟨h1, h2.symm⟩)
        go_wp2_with fail
        go_quiet ((first | (go_at_call 31; exact Calls.quiet_of_same (hasked _)) | (go_at_call 30; exact Calls.quiet_of_same (hphase _))))
        clear hasked hphase
        go_wp2_with fail
        refine (pl_value _ (PA.out.upd ((Upd.refl NoF _).drewN nq) (fun _ _ h => h.elim)) HI.out.val).mono ?_
        rintro r w3 ⟨v3, rfl, b3, u3⟩
        obtain ⟨a3, c3, rfl, _⟩ := b3.slice
        have u3' := ((Upd.refl NoF _).drewN nq).then0 u3
        have H3 := Lib.hid (u3'.blk0 HA.out)
        have X3 := Lib.hid (XA.out.upd0 u3')
        have HU3 := Lib.hid (HUA.out.then0 u3')
        have hz3 : wr.heap.size < w3.heap.size := Nat.lt_of_lt_of_le hzA u3'.size
        have P3 := Lib.hid ((HP.out.rebase (Y := fun k => wr.heap.size ≤ k ∧ k < w3.heap.size) (fun k hk h => by omega)).upd ((Upd.refl NoF wr).alloc _ |>.then0 u3') (fun _ _ h => h.elim))
        have B3 := Lib.hid (b3.bound.mono (G := fun k => wr.heap.size ≤ k ∧ k < w3.heap.size) (fun k h => ⟨by have := h.1; simp at this; omega, h.2⟩))
        have d0 : w3.cell? ⟨wr.heap.size, 0, none⟩ = some (.int .i64 x.ph) := blk_cell H3.out 0
        have d1 : w3.cell? ⟨wr.heap.size, 1, none⟩ = some (.int .i64 x.src) := blk_cell H3.out 1
        have d3 : w3.cell? ⟨wr.heap.size, 3, none⟩ = some (.int .i64 x.b1) := blk_cell H3.out 3
        have d4 : w3.cell? ⟨wr.heap.size, 4, none⟩ = some (.int .i64 x.b2) := blk_cell H3.out 4
        have d5 : w3.cell? ⟨wr.heap.size, 5, none⟩ = some (.slice xa x.l.length xc) := blk_cell H3.out 5
        clear b3 u3 u3'
        go_upto_if 49 with fail
        go_cut [10, 12, 13, 14, 33] (MidB (w.heap.size + 1) p wr.heap.size w2 s x k #[.int .i64 x.ph, .int .i64 x.src, .bool x.ok, .int .i64 x.b1, .int .i64 x.b2, .slice xa x.l.length xc])
        case first =>
          have HE := Lib.hid (show x.e = if x.ok then 0 else 7 from rfl)
          by_cases hph : x.ph = 1
          · have hphb : (x.ph == 1) = true := by simpa using hph
            go_wp2_with fail
            refine (pl_promised x.src x.b1 x.b2 x.e _ x.l _ P3.out (fun k h => h.2) (Nat.le_trans hzr (Nat.le_of_lt hz3)) (Nat.lt_of_le_of_lt HI.out.few (by omega)) X3.out XL.out).mono ?_
            rintro r w4 ⟨rfl, p4, u4⟩
            rw [show s.promised x.src x.b1 x.b2 x.l x.e = s.late x by simp [PS.late, hph]] at p4
            have H4 := Lib.hid (u4.blk H3.out (fun h => h.2 ⟨Nat.le_refl _, hz3⟩))
            have P4 := Lib.hid p4
            have B4 := Lib.hid (B3.out.upd u4 (fun k h h' => h'.2 h))
            have U4 := Lib.hid u4
            clear p4 u4 d0 d1 d3 d4 d5
            go_wp2_with fail
            go_meet
            exact ⟨rfl, rfl, rfl, rfl, hzr, _, _, _, rfl, hz3, U4.out.size, B4.out, H4.out, P4.out, HU3.out.trans U4.out (fun i _ h => h.1)⟩
          · have hphb : (x.ph == 1) = false := by simpa using hph
            go_wp2_with fail
            refine (pl_accepted x.src x.e _ P3.out (fun k h => h.2) (Nat.le_trans hzr (Nat.le_of_lt hz3)) (Nat.lt_of_le_of_lt HI.out.few (by omega))).mono ?_
            rintro r w4 ⟨rfl, p4, u4⟩
            rw [show s.accepted x.src x.e = s.late x by simp [PS.late, hph]] at p4
            have H4 := Lib.hid (u4.blk H3.out (fun h => h.2 ⟨Nat.le_refl _, hz3⟩))
            have P4 := Lib.hid p4
            have B4 := Lib.hid (B3.out.upd u4 (fun k h h' => h'.2 h))
            have U4 := Lib.hid u4
            clear p4 u4 d0 d1 d3 d4 d5
            go_wp2_with fail
            go_meet
            exact ⟨rfl, rfl, rfl, rfl, hzr, _, _, _, rfl, hz3, U4.out.size, B4.out, H4.out, P4.out, HU3.out.trans U4.out (fun i _ h => h.1)⟩
        case rest =>
          obtain ⟨rfl, rfl, rfl, rfl, hBG, a4, c4, N, rfl, hGN, hNW, b4, h4, p4, u4⟩ := hcut
          generalize hGG : wr.heap.size = gg at *
          clear HA PA XA HUA H3 X3 HU3 P3 B3 d0 d1 d3 d4 d5 hzA z0 z1 z2 z3 z4 z5 hzr XV HP HU HBR
          have e0 : wc.cell? ⟨gg, 0, none⟩ = some (.int .i64 x.ph) := blk_cell h4 0
          have e1 : wc.cell? ⟨gg, 1, none⟩ = some (.int .i64 x.src) := blk_cell h4 1
          have H4 := Lib.hid h4
          have P4 := Lib.hid p4
          have B4 := Lib.hid b4
          have U4 := Lib.hid u4
          clear h4 p4 b4 u4
          go_upto_region 18 with fail
          go_cut [10, 12, 13, 14, 15, 33] (MidC (w.heap.size + 1) p gg w2 s x k #[.int .i64 x.ph, .int .i64 x.src, .bool x.ok, .int .i64 x.b1, .int .i64 x.b2, .slice xa x.l.length xc])
          case first =>
            have hm : MidB (w.heap.size + 1) p gg w2 s x k #[.int .i64 x.ph, .int .i64 x.src, .bool x.ok, .int .i64 x.b1, .int .i64 x.b2, .slice xa x.l.length xc] (.pointer (some ⟨gg, 0, none⟩)) (.int .i64 s.phase) (.bool (s.asked x.src)) (.slice a4 s.val.length c4) (.int .i64 k) wc := ⟨rfl, rfl, rfl, rfl, hBG, _, _, _, rfl, hGN, hNW, B4.out, H4.out, P4.out, U4.out⟩
            have HM := Lib.hid hm
            have hwr : x.wrong s = ((decide (x.ph = 1) && !decide (s.phase = 1)) || (!decide (x.ph = 1) && !decide (s.phase = 2))) := rfl
            clear hm
            by_cases hph : x.ph = 1
            · have hphb : (x.ph == 1) = true := by simpa using hph
              by_cases hq : s.phase = 1
              · have HW := Lib.hid (show x.wrong s = false by rw [hwr]; simp [hph, hq])
                have hqb : (s.phase == 1) = true := by simpa using hq
                clear hwr
                go_wp2_with fail
                go_meet
                exact ⟨HM.out, by rw [HW.out]⟩
              · have HW := Lib.hid (show x.wrong s = true by rw [hwr]; simp [hph, hq])
                have hqb : (s.phase == 1) = false := by simpa using hq
                clear hwr
                go_wp2_with fail
                go_meet
                exact ⟨HM.out, by rw [HW.out]⟩
            · have hphb : (x.ph == 1) = false := by simpa using hph
              by_cases hq : s.phase = 2
              · have HW := Lib.hid (show x.wrong s = false by rw [hwr]; simp [hph, hq])
                have hqb : (s.phase == 2) = true := by simpa using hq
                have hm2 := HM.out
                rw [hq] at hm2
                have HM2 := Lib.hid hm2
                clear hwr hm2
                go_wp2_with fail
                go_meet
                exact ⟨HM2.out, by rw [HW.out]⟩
              · have HW := Lib.hid (show x.wrong s = true by rw [hwr]; simp [hph, hq])
                have hqb : (s.phase == 2) = false := by simpa using hq
                clear hwr
                go_wp2_with fail
                go_meet
                exact ⟨HM.out, by rw [HW.out]; try simp [hph, hq]⟩
          case rest =>
            obtain ⟨⟨rfl, rfl, rfl, rfl, _, a5, c5, N5, rfl, hGN5, hNW5, b5, h5, p5, u5⟩, rfl⟩ := hcut
            clear e0 e1 H4 P4 B4 U4 hGN hNW
            generalize wc = wd at *
            have e1 : wd.cell? ⟨gg, 1, none⟩ = some (.int .i64 x.src) := blk_cell h5 1
            have H5 := Lib.hid h5
            have B5 := Lib.hid b5
            have U5 := Lib.hid u5
            have hI5 := Lib.hid (late_inv HI.out XL.out)
            clear h5 b5 u5
            by_cases hreg : s.asked x.src = true ∧ x.wrong s = false
            · obtain ⟨hask, hwr⟩ := hreg
              have P5 := Lib.hid p5
              clear p5
              have has' := fun h => late_asked (s := s) (x := x) hask hwr h
              have HAS' := Lib.hid has'
              clear has'
              go_wp2_with fail
              go_quiet (fail)
              go_wp2_with fail
              refine (pl_phase _ (P5.out.upd ((Upd.refl NoF wd).drewN nq) (fun _ _ h => h.elim))).mono ?_
              rintro r w5 ⟨rfl, rfl⟩
              by_cases hpe : (s.late x).phase = s.phase
              · have hpb : ((s.late x).phase == s.phase) = true := by simpa using hpe
                have has2 := HAS'.out hpe
                have HA2 := Lib.hid has2
                clear has2 hpe
                go_wp2_with fail
                refine (pl_asked x.src _ (P5.out.upd ((Upd.refl NoF wd).drewN nq) (fun _ _ h => h.elim))).mono ?_
                rintro r w5 ⟨rfl, rfl⟩
                rw [show ((s.late x).opn x.src 1 || (s.late x).opn x.src 2) = false from HA2.out]
                go_wp2_with fail
                go_roundg (gk - 1)
                case measure => have := HK.out; omega
                case rel => exact ⟨k + 1, by have := HK.out; omega, by go_num, s.late x, (P5.out.rebase (Y := NoX) (fun _ _ h => h)).upd ((Upd.refl NoF wd).drewN nq) (fun _ _ h => h.elim), U5.out.drewN nq, hI5.out⟩
              · have hpb : ((s.late x).phase == s.phase) = false := by simpa using hpe
                clear hpe
                go_wp2_with fail
                go_roundg (gk - 1)
                case measure => have := HK.out; omega
                case rel => exact ⟨k + 1, by have := HK.out; omega, by go_num, s.late x, (P5.out.rebase (Y := NoX) (fun _ _ h => h)).upd ((Upd.refl NoF wd).drewN nq) (fun _ _ h => h.elim), U5.out.drewN nq, hI5.out⟩
            · have hsame : s.late x = s := late_same (by
                cases h1 : s.asked x.src with
                | false => exact .inl rfl
                | true => cases h2 : x.wrong s with
                  | true => exact .inr rfl
                  | false => exact absurd ⟨h1, h2⟩ hreg)
              rw [hsame] at p5 hI5
              have P5 := Lib.hid p5
              clear p5 hsame
              cases hask : s.asked x.src
              · have HASK := Lib.hid hask
                clear hreg hask
                go_wp2_with fail
                have HS := Lib.hid (show Upd NoF wd wd.drew from (Upd.refl NoF wd).drew)
                refine wp_region_held (S := fun W => Upd NoF wd W) (by kernel_rfl) ?_
                refine held_take 0 (.bool false) rfl (by kernel_rfl) (by kernel_rfl) (by kernel_rfl) (fun _ _ _ h => h) (by kernel_rfl) HS.out (fun W' _ => by kernel_rfl) ?_
                refine held_take 1 (.bool true) rfl (by kernel_rfl) (by kernel_rfl) (by kernel_rfl) (fun _ _ _ h => h) (by kernel_rfl) HS.out (fun W' _ => by kernel_rfl) ?_
                refine held_take 2 (.bool true) rfl (by kernel_rfl) (by kernel_rfl) (by kernel_rfl) (fun _ _ _ h => h) (by kernel_rfl) HS.out (fun W' _ => by kernel_rfl) ?_
                refine wpAnyH_take (i := 3) (v := undef) rfl (by kernel_rfl) (by kernel_rfl) (by kernel_rfl) (fun _ _ _ h => h) (.inr ⟨by kernel_rfl, by kernel_rfl⟩) HS.out ?_
                refine held_take 4 (.bool true) rfl (by kernel_rfl) (by kernel_rfl) (by kernel_rfl) (fun _ _ _ h => h) (by kernel_rfl) HS.out (fun W' _ => by kernel_rfl) ?_
                refine held_take 5 (.bool true) rfl (by kernel_rfl) (by kernel_rfl) (by kernel_rfl) (fun _ _ _ h => h) (by kernel_rfl) HS.out (fun W' _ => by kernel_rfl) ?_
                refine held_take 6 (.pointer (some ⟨p, 0, none⟩)) rfl (by kernel_rfl) (by kernel_rfl) (by kernel_rfl) (fun _ _ _ h => h) (by kernel_rfl) HS.out (fun W' _ => by kernel_rfl) ?_
                refine held_take 8 (.int .i64 s.phase) rfl (by kernel_rfl) (by kernel_rfl) (by kernel_rfl) (fun _ _ _ h => h) (by kernel_rfl) HS.out (fun W' _ => by kernel_rfl) ?_
                refine held_one 7 rfl (by kernel_rfl) (by kernel_rfl) (fun K hK => ?_)
                go_wp2_with fail
                refine (pl_phase _ (P5.out.upd HS.out (fun _ _ h => h.elim))).mono ?_
                rintro r W5 ⟨rfl, rfl⟩
                refine hK _ _ HS.out ?_
                clear hK K
                refine held_one 9 rfl (by kernel_rfl) (by kernel_rfl) (fun K hK => ?_)
                go_wp2_with fail
                refine hK _ _ HS.out ?_
                clear hK K
                refine held_one 10 rfl (by kernel_rfl) (by kernel_rfl) (fun K hK => ?_)
                go_wp2_with fail
                refine hK _ _ HS.out ?_
                clear hK K
                refine held_take 11 (.pointer (some ⟨p, 0, none⟩)) rfl (by kernel_rfl) (by kernel_rfl) (by kernel_rfl) (fun _ _ _ h => h) (by kernel_rfl) HS.out (fun W' _ => by kernel_rfl) ?_
                refine held_take 14 (.slice a5 s.val.length c5) rfl (by kernel_rfl) (by kernel_rfl) (by kernel_rfl) (fun _ _ _ h => h) (by kernel_rfl) HS.out (fun W' _ => by kernel_rfl) ?_
                refine held_take 15 (.string ⟨s.val.toArray⟩) rfl (by kernel_rfl) (by kernel_rfl) (by kernel_rfl) (fun _ _ _ h => h) (by kernel_rfl) HS.out (fun W' hW' => run_convert_op 23 9 _ rfl (by kernel_rfl) ((B5.out.upd0 hW').run_string W' rfl)) ?_
                refine held_one 12 rfl (by kernel_rfl) (by kernel_rfl) (fun K hK => ?_)
                go_wp2_with fail
                refine (pl_value _ (P5.out.upd HS.out (fun _ _ h => h.elim)) HI.out.val).mono ?_
                rintro r w6 ⟨v6, rfl, b6, u6⟩
                obtain ⟨a6, c6, rfl, _⟩ := b6.slice
                have HS2 := Lib.hid (HS.out.then0 u6)
                have hs6 := b6.run_string w6 rfl
                have f1 : w6.cell? ⟨gg, 1, none⟩ = some (.int .i64 x.src) := HS2.out.cell0 e1
                clear b6 u6
                refine hK _ _ HS2.out ?_
                clear hK K
                refine held_one 13 rfl (by kernel_rfl) (by kernel_rfl) (fun K hK => ?_)
                go_wp2_with fail
                refine hK _ _ HS2.out ?_
                clear hK K
                refine held_one 16 rfl (by kernel_rfl) (by kernel_rfl) (fun K hK => ?_)
                go_wp2_with fail
                refine hK _ _ HS2.out ?_
                clear hK K
                refine held_one 17 rfl (by kernel_rfl) (by kernel_rfl) (fun K hK => ?_)
                go_wp2_with fail
                refine hK _ _ HS2.out ?_
                clear hK K
                refine held_one 18 rfl (by kernel_rfl) (by kernel_rfl) (fun K hK => ?_)
                go_wp2_with fail
                refine hK _ _ HS2.out ?_
                clear hK K
                refine held_take 19 (.pointer (some ⟨p, 0, none⟩)) rfl (by kernel_rfl) (by kernel_rfl) (by kernel_rfl) (fun _ _ _ h => h) (by kernel_rfl) HS2.out (fun W' _ => by kernel_rfl) ?_
                refine held_take 20 (.pointer (some ⟨gg, 1, none⟩)) rfl (by kernel_rfl) (by kernel_rfl) (by kernel_rfl) (fun _ _ _ h => h) (by kernel_rfl) HS2.out (fun W' _ => by kernel_rfl) ?_
                refine held_take 23 (.bool false) rfl (by kernel_rfl) (by kernel_rfl) (by kernel_rfl) (fun _ _ _ h => h) (by kernel_rfl) HS2.out (fun W' _ => by kernel_rfl) ?_
                refine held_one 21 rfl (by kernel_rfl) (by kernel_rfl) (fun K hK => ?_)
                go_wp2_with fail
                refine hK _ _ HS2.out ?_
                clear hK K
                refine held_one 22 rfl (by kernel_rfl) (by kernel_rfl) (fun K hK => ?_)
                go_wp2_with fail
                refine (pl_asked x.src _ (P5.out.upd HS2.out (fun _ _ h => h.elim))).mono ?_
                rintro r W5 ⟨rfl, rfl⟩
                rw [show (s.opn x.src 1 || s.opn x.src 2) = false from HASK.out]
                refine hK _ _ HS2.out ?_
                clear hK K
                refine held_one 24 rfl (by kernel_rfl) (by kernel_rfl) (fun K hK => ?_)
                go_wp2_with fail
                refine hK _ _ HS2.out ?_
                clear hK K
                refine held_one 25 rfl (by kernel_rfl) (by kernel_rfl) (fun K hK => ?_)
                go_wp2_with fail
                refine hK _ _ HS2.out ?_
                clear hK K
                refine held_one 26 rfl (by kernel_rfl) (by kernel_rfl) (fun K hK => ?_)
                go_wp2_with fail
                refine hK _ _ HS2.out ?_
                clear hK K
                refine wpAnyH_done (by kernel_rfl) ?_ _
                go_wp2_with fail
                go_roundg (gk - 1)
                case measure => have := HK.out; omega
                case rel => exact ⟨k + 1, by have := HK.out; omega, by go_num, s, (P5.out.rebase (Y := NoX) (fun _ _ h => h)).upd HS2.out (fun _ _ h => h.elim), U5.out.then0 HS2.out, hI5.out⟩
              · have hwr : x.wrong s = true := by
                  cases h2 : x.wrong s with
                  | true => rfl
                  | false => exact absurd ⟨hask, h2⟩ hreg
                have HASK := Lib.hid hask
                rw [hwr]
                clear hreg hask hwr
                go_wp2_with fail
                have HS := Lib.hid (show Upd NoF wd wd.drew from (Upd.refl NoF wd).drew)
                refine wp_region_held (S := fun W => Upd NoF wd W) (by kernel_rfl) ?_
                refine held_take 0 (.bool true) rfl (by kernel_rfl) (by kernel_rfl) (by kernel_rfl) (fun _ _ _ h => h) (by kernel_rfl) HS.out (fun W' _ => by kernel_rfl) ?_
                refine held_take 1 (.bool false) rfl (by kernel_rfl) (by kernel_rfl) (by kernel_rfl) (fun _ _ _ h => h) (by kernel_rfl) HS.out (fun W' _ => by kernel_rfl) ?_
                refine held_take 2 (.bool false) rfl (by kernel_rfl) (by kernel_rfl) (by kernel_rfl) (fun _ _ _ h => h) (by kernel_rfl) HS.out (fun W' _ => by kernel_rfl) ?_
                refine held_take 3 (.bool true) rfl (by kernel_rfl) (by kernel_rfl) (by kernel_rfl) (fun _ _ _ h => h) (by kernel_rfl) HS.out (fun W' _ => by kernel_rfl) ?_
                refine held_take 4 (.bool true) rfl (by kernel_rfl) (by kernel_rfl) (by kernel_rfl) (fun _ _ _ h => h) (by kernel_rfl) HS.out (fun W' _ => by kernel_rfl) ?_
                refine held_take 5 (.bool true) rfl (by kernel_rfl) (by kernel_rfl) (by kernel_rfl) (fun _ _ _ h => h) (by kernel_rfl) HS.out (fun W' _ => by kernel_rfl) ?_
                refine held_take 6 (.pointer (some ⟨p, 0, none⟩)) rfl (by kernel_rfl) (by kernel_rfl) (by kernel_rfl) (fun _ _ _ h => h) (by kernel_rfl) HS.out (fun W' _ => by kernel_rfl) ?_
                refine held_take 8 (.int .i64 s.phase) rfl (by kernel_rfl) (by kernel_rfl) (by kernel_rfl) (fun _ _ _ h => h) (by kernel_rfl) HS.out (fun W' _ => by kernel_rfl) ?_
                refine held_one 7 rfl (by kernel_rfl) (by kernel_rfl) (fun K hK => ?_)
                go_wp2_with fail
                refine (pl_phase _ (P5.out.upd HS.out (fun _ _ h => h.elim))).mono ?_
                rintro r W5 ⟨rfl, rfl⟩
                refine hK _ _ HS.out ?_
                clear hK K
                refine held_one 9 rfl (by kernel_rfl) (by kernel_rfl) (fun K hK => ?_)
                go_wp2_with fail
                refine hK _ _ HS.out ?_
                clear hK K
                refine held_one 10 rfl (by kernel_rfl) (by kernel_rfl) (fun K hK => ?_)
                go_wp2_with fail
                refine hK _ _ HS.out ?_
                clear hK K
                refine held_take 11 (.pointer (some ⟨p, 0, none⟩)) rfl (by kernel_rfl) (by kernel_rfl) (by kernel_rfl) (fun _ _ _ h => h) (by kernel_rfl) HS.out (fun W' _ => by kernel_rfl) ?_
                refine held_take 14 (.slice a5 s.val.length c5) rfl (by kernel_rfl) (by kernel_rfl) (by kernel_rfl) (fun _ _ _ h => h) (by kernel_rfl) HS.out (fun W' _ => by kernel_rfl) ?_
                refine held_take 15 (.string ⟨s.val.toArray⟩) rfl (by kernel_rfl) (by kernel_rfl) (by kernel_rfl) (fun _ _ _ h => h) (by kernel_rfl) HS.out (fun W' hW' => run_convert_op 23 9 _ rfl (by kernel_rfl) ((B5.out.upd0 hW').run_string W' rfl)) ?_
                refine held_one 12 rfl (by kernel_rfl) (by kernel_rfl) (fun K hK => ?_)
                go_wp2_with fail
                refine (pl_value _ (P5.out.upd HS.out (fun _ _ h => h.elim)) HI.out.val).mono ?_
                rintro r w6 ⟨v6, rfl, b6, u6⟩
                obtain ⟨a6, c6, rfl, _⟩ := b6.slice
                have HS2 := Lib.hid (HS.out.then0 u6)
                have hs6 := b6.run_string w6 rfl
                have f1 : w6.cell? ⟨gg, 1, none⟩ = some (.int .i64 x.src) := HS2.out.cell0 e1
                clear b6 u6
                refine hK _ _ HS2.out ?_
                clear hK K
                refine held_one 13 rfl (by kernel_rfl) (by kernel_rfl) (fun K hK => ?_)
                go_wp2_with fail
                refine hK _ _ HS2.out ?_
                clear hK K
                refine held_one 16 rfl (by kernel_rfl) (by kernel_rfl) (fun K hK => ?_)
                go_wp2_with fail
                refine hK _ _ HS2.out ?_
                clear hK K
                refine held_one 17 rfl (by kernel_rfl) (by kernel_rfl) (fun K hK => ?_)
                go_wp2_with fail
                refine hK _ _ HS2.out ?_
                clear hK K
                refine held_one 18 rfl (by kernel_rfl) (by kernel_rfl) (fun K hK => ?_)
                go_wp2_with fail
                refine hK _ _ HS2.out ?_
                clear hK K
                refine held_take 19 (.pointer (some ⟨p, 0, none⟩)) rfl (by kernel_rfl) (by kernel_rfl) (by kernel_rfl) (fun _ _ _ h => h) (by kernel_rfl) HS2.out (fun W' _ => by kernel_rfl) ?_
                refine held_take 20 (.pointer (some ⟨gg, 1, none⟩)) rfl (by kernel_rfl) (by kernel_rfl) (by kernel_rfl) (fun _ _ _ h => h) (by kernel_rfl) HS2.out (fun W' _ => by kernel_rfl) ?_
                refine held_take 23 (.bool true) rfl (by kernel_rfl) (by kernel_rfl) (by kernel_rfl) (fun _ _ _ h => h) (by kernel_rfl) HS2.out (fun W' _ => by kernel_rfl) ?_
                refine held_one 21 rfl (by kernel_rfl) (by kernel_rfl) (fun K hK => ?_)
                go_wp2_with fail
                refine hK _ _ HS2.out ?_
                clear hK K
                refine held_one 22 rfl (by kernel_rfl) (by kernel_rfl) (fun K hK => ?_)
                go_wp2_with fail
                refine (pl_asked x.src _ (P5.out.upd HS2.out (fun _ _ h => h.elim))).mono ?_
                rintro r W5 ⟨rfl, rfl⟩
                rw [show (s.opn x.src 1 || s.opn x.src 2) = true from HASK.out]
                refine hK _ _ HS2.out ?_
                clear hK K
                refine held_one 24 rfl (by kernel_rfl) (by kernel_rfl) (fun K hK => ?_)
                go_wp2_with fail
                refine hK _ _ HS2.out ?_
                clear hK K
                refine held_one 25 rfl (by kernel_rfl) (by kernel_rfl) (fun K hK => ?_)
                go_wp2_with fail
                refine hK _ _ HS2.out ?_
                clear hK K
                refine held_one 26 rfl (by kernel_rfl) (by kernel_rfl) (fun K hK => ?_)
                go_wp2_with fail
                refine hK _ _ HS2.out ?_
                clear hK K
                refine wpAnyH_done (by kernel_rfl) ?_ _
                go_wp2_with fail
                go_roundg (gk - 1)
                case measure => have := HK.out; omega
                case rel => exact ⟨k + 1, by have := HK.out; omega, by go_num, s, (P5.out.rebase (Y := NoX) (fun _ _ h => h)).upd HS2.out (fun _ _ h => h.elim), U5.out.then0 HS2.out, hI5.out⟩
    · clear hcells hcellsr hval
      have hk60 : k ≤ 60 := by omega
      have hnb := late_nobody s y.b1 y.b2 y.l
      rw [HI.out.acc] at hnb
      have HNB := Lib.hid hnb
      obtain ⟨ya, yc, hye, _⟩ := hy.slice
      rw [hye] at hy
      have HY := Lib.hid (hy.upd0 U.out)
      have hbr := HBR.out
      rw [hye] at hbr
      have HBY := Lib.hid hbr
      have hyw : ∀ W, Upd NoF w W → Bytes W G (.slice ya y.l.length yc) y.l := fun W hW => hy.upd0 hW
      have HYW := Lib.hid hyw
      clear hnb hk hy hbr HBR hyw
      go_wp2_with fail
      have HS := Lib.hid (show Upd NoF wr wr.drew from (Upd.refl NoF wr).drew)
      refine wp_region_held (S := fun W => Upd NoF wr W) (by kernel_rfl) ?_
      refine held_take 0 (.pointer (some ⟨p, 0, none⟩)) rfl (by kernel_rfl) (by kernel_rfl) (by kernel_rfl) (fun _ _ _ h => h) (by kernel_rfl) HS.out (fun W' _ => by kernel_rfl) ?_
      refine held_take 2 (.pointer (some ⟨p, 0, none⟩)) rfl (by kernel_rfl) (by kernel_rfl) (by kernel_rfl) (fun _ _ _ h => h) (by kernel_rfl) HS.out (fun W' _ => by kernel_rfl) ?_
      refine held_one 1 rfl (by kernel_rfl) (by kernel_rfl) (fun K hK => ?_)
      go_wp2_with fail
      refine (pl_phase _ (HP.out.upd HS.out (fun _ _ h => h.elim))).mono ?_
      rintro r W5 ⟨rfl, rfl⟩
      refine hK _ _ HS.out ?_
      clear hK K
      refine held_one 3 rfl (by kernel_rfl) (by kernel_rfl) (fun K hK => ?_)
      go_wp2_with fail
      refine (pl_value _ (HP.out.upd HS.out (fun _ _ h => h.elim)) HI.out.val).mono ?_
      rintro r w6 ⟨v6, rfl, b6, u6⟩
      obtain ⟨a6, c6, rfl, _⟩ := b6.slice
      have HS2 := Lib.hid (HS.out.then0 u6)
      have hs6 := b6.run_string w6 rfl
      clear b6 u6
      refine hK _ _ HS2.out ?_
      clear hK K
      refine held_take 5 (.int .i64 s.phase) rfl (by kernel_rfl) (by kernel_rfl) (by kernel_rfl) (fun _ _ _ h => h) (by kernel_rfl) HS2.out (fun W' _ => by kernel_rfl) ?_
      refine held_one 4 rfl (by kernel_rfl) (by kernel_rfl) (fun K hK => ?_)
      go_wp2_with fail
      refine hK _ _ HS2.out ?_
      clear hK K
      refine held_one 6 rfl (by kernel_rfl) (by kernel_rfl) (fun K hK => ?_)
      go_wp2_with fail
      refine hK _ _ HS2.out ?_
      clear hK K
      refine wpAnyH_done (by kernel_rfl) ?_ _
      have P6 := Lib.hid (HP.out.upd HS2.out (fun _ _ h => h.elim))
      have H6 := Lib.hid (HS2.out.blk0 HBY.out)
      have U6 := Lib.hid (U.out.then0 HS2.out)
      have Z6 := Lib.hid (Nat.le_trans hzr HS2.out.size)
      clear hs6 HS HS2 HP HU HBY HY U
      have c63 : w6.cell? ⟨w.heap.size, 3, none⟩ = some (.int .i64 y.b1) := blk_cell H6.out 3
      have c64 : w6.cell? ⟨w.heap.size, 4, none⟩ = some (.int .i64 y.b2) := blk_cell H6.out 4
      have c65 : w6.cell? ⟨w.heap.size, 5, none⟩ = some (.slice ya y.l.length yc) := blk_cell H6.out 5
      go_wp2_with fail
      refine (pl_promised (n) y.b1 y.b2 0 _ y.l w6 P6.out nox Z6.out (Nat.lt_of_le_of_lt HI.out.few (by omega)) (HYW.out w6 U6.out) hyl).mono ?_
      rintro r w7 ⟨rfl, p7, u7⟩
      rw [HNB.out.1] at p7
      have P7 := Lib.hid p7
      have H7 := Lib.hid (u7.blk H6.out (fun h => by have := h.1; omega))
      have U7 := Lib.hid (U6.out.trans u7 (fun i hi h => by have := h.1; omega) : Upd NoF w w7)
      have Z7 := Lib.hid (Nat.le_trans Z6.out u7.size)
      clear p7 u7 P6 H6 U6 Z6 c63 c64 c65
      have c73 : w7.cell? ⟨w.heap.size, 3, none⟩ = some (.int .i64 y.b1) := blk_cell H7.out 3
      have c74 : w7.cell? ⟨w.heap.size, 4, none⟩ = some (.int .i64 y.b2) := blk_cell H7.out 4
      have c75 : w7.cell? ⟨w.heap.size, 5, none⟩ = some (.slice ya y.l.length yc) := blk_cell H7.out 5
      go_wp2_with fail
      refine (pl_promised (-1) y.b1 y.b2 0 _ y.l w7 P7.out nox Z7.out (Nat.lt_of_le_of_lt HI.out.few (by omega)) (HYW.out w7 U7.out) hyl).mono ?_
      rintro r w8 ⟨rfl, p8, u8⟩
      rw [HNB.out.2.1] at p8
      have P8 := Lib.hid p8
      have H8 := Lib.hid (u8.blk H7.out (fun h => by have := h.1; omega))
      have U8 := Lib.hid (U7.out.trans u8 (fun i hi h => by have := h.1; omega) : Upd NoF w w8)
      have Z8 := Lib.hid (Nat.le_trans Z7.out u8.size)
      clear p8 u8 P7 H7 U7 Z7 c73 c74 c75
      go_wp2_with fail
      refine (pl_accepted n 0 w8 P8.out nox Z8.out (Nat.lt_of_le_of_lt HI.out.few (by omega))).mono ?_
      rintro r w9 ⟨rfl, p9, u9⟩
      rw [HNB.out.2.2] at p9
      have P9 := Lib.hid p9
      have H9 := Lib.hid (u9.blk H8.out (fun h => by have := h.1; omega))
      have U9 := Lib.hid (U8.out.trans u9 (fun i hi h => by have := h.1; omega) : Upd NoF w w9)
      have Z9 := Lib.hid (Nat.le_trans Z8.out u9.size)
      clear p9 u9 P8 H8 U8 Z8
      go_wp2_with fail
      refine (pl_phase _ P9.out).mono ?_
      rintro r W5 ⟨rfl, rfl⟩
      go_wp2_with fail
      refine (pl_value _ P9.out HI.out.val).mono ?_
      rintro r w10 ⟨v6, rfl, b6, u6⟩
      obtain ⟨a6, c6, rfl, _⟩ := b6.slice
      have U10 := Lib.hid (U9.out.then0 u6)
      have hs10 := b6.run_string w10 rfl
      clear b6 u6
      go_wp2_with fail
      go_ret
      exact ⟨rfl, U10.out⟩
end Go.Proofs.Ytplhgeecnnadhaa
