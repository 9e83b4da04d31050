/- BallotOne: the walk. -/
import Derived.Test.YtplhgeecnnadhaaOneL
import Derived.Deep.CutBlock
namespace Go.Proofs.Ytplhgeecnnadhaa
open Go.RowKit
variable {F G : Nat → Prop} {w w0 w1 : World} {o : Nat → Nat} {ρ : Nat → Thing} {t : Nat}
set_option maxRecDepth 100000 in
set_option maxHeartbeats 4000000 in
theorem one_walk (a0 : Int) (v1 : Value) (la : List StepV) (w : World) (hv1 : Slc scell 5 w F v1 la) (hval : ∀ x ∈ la, Bytes w G x.v x.l ∧ x.l.length ≤ 140737488355328) :
    Calls Try.prog 9 #[.int .i64 a0, v1] w (fun r w' => r = .returned (.bool true) ∧ Upd NoF w w') := by
  obtain ⟨a, c, rfl, hc, he⟩ := id hv1
  have HV := Lib.hid (And.intro hv1 hval)
  clear hv1 hval he hc
  by_cases hbig : (150 : Int) < (la.length : Int)
  · go_enter Try.func9, Try.ntmps9
    go_wp2_with fail
    refine (speaks10 _).mono ?_
    rintro r w1 ⟨rfl, u1⟩
    go_wp2_with fail
    go_ret
    exact ⟨rfl, u1⟩
  obtain ⟨n, hn, hn1, hn4⟩ : ∃ n : Nat, bits .and .i64 a0 3 + 1 = (n : Int) ∧ 1 ≤ n ∧ n ≤ 4 := by
    have := and3 a0
    obtain ⟨k, hk⟩ := Int.eq_ofNat_of_zero_le this.1
    exact ⟨k + 1, by rw [hk]; rfl, by omega, by omega⟩
  have HN := Lib.hid hn
  have hb3 := and3 a0
  clear hn
  go_enter Try.func9, Try.ntmps9
  go_wp2_with fail
  refine (speaks10 _).mono ?_
  rintro r w1 ⟨rfl, u1⟩
  have U1 := Lib.hid u1
  clear u1
  go_wp2_with fail
  rw [HN.out]
  obtain ⟨o1, W1, -, -⟩ := ((Own.start w).upd0 U1.out).fresh (w1 := w1.alloc (.cells #[] 68)) (F := fun k => k = w1.heap.size) (t := 1) (by decide) (frm_row 68 1 (.slice (some ⟨w1.heap.size, 0, none⟩) 0 0) 0 []) (row_made w1 68 1) ((Upd.refl NoF w1).alloc _) (fun k hk => by omega) (fun k hk => by have := alloc_size w1 (.cells #[] 68); omega)
  have OW := Lib.hid W1
  clear W1 hb3
  go_loopw [6, 7] (LayRel w 400 n) (fun _ i _ => n - (intOf i).toNat)
  case atStart => exact ⟨0, [], _, _, Nat.zero_le _, rfl, rfl, OW.out, ⟨rput_same _ _ _, fun i h => by simp at h⟩⟩
  case round =>
    obtain ⟨k, us, ow, ρ, hk, rfl, hus, hown, hlaid⟩ := hrel
    have HO := Lib.hid (And.intro hown hlaid)
    have HUS := Lib.hid hus
    clear hown hlaid hus OW
    by_cases hlt : k < n
    ·
      --< first loop
      go_wp2_with fail
      refine (dev_new 400 wr (by decide) (by decide)).mono ?_
      rintro r w2 ⟨d, rfl, hd, hdev, u2⟩
      have HD := Lib.hid (And.intro hdev (And.intro (show wr.heap.size ≤ d by omega) u2))
      clear hdev u2 hd
      go_wp2_with fail
      refine (u_open [] w2 HD.out.1 rfl (fun p hp => (by cases hp)) (by simp)).mono ?_
      rintro r w3 ⟨u, F3, rfl, hu3, hF3, u3⟩
      have HU := Lib.hid (ud_laid HD.out.1 HD.out.2.1 hu3 hF3 HD.out.2.2 u3)
      clear hu3 hF3 u3
      obtain ⟨o3, W3, -, -⟩ := HO.out.1.fresh (t := 2 * k + 10) (by omega) (frm_ud u d 400 []) HU.out.1 HU.out.2.2 HU.out.2.1 HU.out.1.lt
      have hrow : Row w3 (Tg o3 1) 68 1 u6 k (uptr us) := by
        have := W3.holds 1 (by decide)
        rw [rput_ne _ _ (by omega), HO.out.2.row, HUS.out] at this
        exact this
      have HR := Lib.hid (hrow.upd ((Upd.refl NoF w3).alloc (.cells #[.pointer (some ⟨u, 0, none⟩)] 68)) (fun _ _ h => h))
      have HW3 := Lib.hid (W3.upd0 ((Upd.refl NoF w3).alloc (.cells #[.pointer (some ⟨u, 0, none⟩)] 68)))
      obtain ⟨i0, hi, hz0, hz1, hz2⟩ := info_parts info_uptr
      clear hrow W3
      go_wp2_with (at_builtin; refine wpList_append_row rfl _ _ 67 rfl 68 i0 (.pointer none) 1 8 Try.underlying67 hi hz0 hz1 hz2 rfl (by decide) rfl HR.out ⟨w3.heap.size, 0, none⟩ 1 1 [.pointer (some ⟨u, 0, none⟩)] rfl rfl ?qc1 ?qc2 ?qc3 ?qc4 ?_)
      case qc1 => intro j q hj; cases j with
        | zero => exact cell_new hj
        | succ j => simp at hj
      case qc2 => intro q hq; simp at hq; subst hq; rfl
      case qc3 => unfold maxLen; omega
      case qc4 => omega
      intro v' w4 r4 u4 _
      rw [alloc_size w3 (.cells #[.pointer (some ⟨u, 0, none⟩)] 68)] at r4
      obtain ⟨o4, W4, -⟩ := HW3.out.row (by decide) HR.out r4 u4
      have H4 := Lib.hid W4
      clear r4 u4 W4
      go_wp2_with fail
      refine ⟨⟨k + 1, us ++ [(u, d)], o4, _, by omega, rfl, by simp [HUS.out], H4.out, ⟨?_, fun i hi => ?_⟩⟩, by simp [intOf]; omega⟩
      · rw [rput_same]; simp [uptr, HUS.out]
      · have hl := HUS.out
        rw [rput_ne _ _ (by omega)]
        by_cases e : i = k
        · subst e
          rw [rput_same, List.getElem_append_right (by omega)]; simp [hl]
        · rw [rput_ne _ _ (by omega), HO.out.2.un i (by simp at hi; omega), List.getElem_append_left (by simp at hi; omega)]
      -->
    · obtain rfl : k = n := by omega
      have hmm := @run_makeMap Try.prog
      go_wp2_with fail
      clear hmm
      have z1 := alloc_size wr (.cells #[] 37)
      have z2 := alloc_size (wr.alloc (.cells #[] 37)) (.map #[] 0)
      obtain ⟨o2, W2, -, -⟩ := HO.out.1.fresh (w1 := wr.alloc (.cells #[] 37)) (F := fun k => k = wr.heap.size) (t := 2) (by decide) (frm_row 37 1 (.slice (some ⟨wr.heap.size, 0, none⟩) 0 0) 0 []) (row_made wr 37 1) ((Upd.refl NoF wr).alloc _) (fun k hk => by omega) (fun k hk => by omega)
      obtain ⟨o3, W3, -, -⟩ := W2.fresh (w1 := (wr.alloc (.cells #[] 37)).alloc (.map #[] 0)) (F := fun k => k = wr.heap.size + 1) (t := 3) (by decide) (frm_map (wr.heap.size + 1) []) ⟨by have := GMap.made (enc := encS) (wr.alloc (.cells #[] 37)); rw [← z1] at this; exact this, rfl⟩ ((Upd.refl NoF _).alloc _) (fun k hk => by omega) (fun k hk => by omega)
      have hst : OneSt w k 0 0 us [] (fun _ => PS.start 0 0 0 []) u6 (.slice (some ⟨wr.heap.size, 0, none⟩) 0 0) (wr.heap.size + 1) false [] o3 ((wr.alloc (.cells #[] 37)).alloc (.map #[] 0)) := by
        refine ⟨fun _ => [], fun _ _ => False, [], _, W3, ⟨?_, fun i hi => ?_⟩, HUS.out, ?_, rfl, fun j hj => by simp at hj, ?_, fun l v h => by simp [gGet] at h, PInv.zero k _ _, fun a => Nat.zero_le _, Nat.le_refl _, fun h => by cases h⟩
        · rw [rput_ne _ _ (by decide), rput_ne _ _ (by decide)]; exact HO.out.2.row
        · rw [rput_ne _ _ (by omega), rput_ne _ _ (by omega)]; exact HO.out.2.un i hi
        · rw [rput_ne _ _ (by decide), rput_same]; rfl
        · rw [rput_same]
      have HST := Lib.hid hst
      clear hst W2 W3 z1 z2
      generalize wr.heap.size + 1 = m at *
      have HUN := Lib.hid HUS.out
      clear HO HUS
      go_loopw [12, 14, 15, 68] (OneRel w k la.length us u6 m) (fun _ _ _ i _ => la.length - (intOf i).toNat)
      case atStart => exact ⟨0, 0, [], _, false, [], o3, Nat.zero_le _, rfl, rfl, rfl, HST.out⟩
      case round =>
        obtain ⟨q, N, pp, qs, anyb, chs, ow, hq, rfl, rfl, rfl, pss, V, kv, ρ, hown, hin⟩ := hrel
        have HO := Lib.hid (And.intro hown hin)
        have U := Lib.hid hown.base
        clear hown hin HST
        by_cases hlt : q < la.length
        · obtain ⟨a', c', hveq, _, hh⟩ := HV.out.1
          have hne : la ≠ [] := by intro e; rw [e] at hlt; simp at hlt
          obtain ⟨g, oo, ha, _, cur, ty, fr, hblk, hc⟩ := hh hne
          simp only [Value.slice.injEq] at hveq
          obtain ⟨rfl, -, rfl⟩ := hveq
          obtain ⟨cs, hcs, hac, hcur⟩ := hc q hlt
          obtain ⟨xv, hxl⟩ := HV.out.2 _ (List.getElem_mem hlt)
          generalize la[q] = x at *
          obtain ⟨xa, xc, hxe, _⟩ := xv.slice
          subst ha
          have hac : cs = _ := hac
          subst hac
          have hbg := U.out.blk0 hblk
          have hcell : ∀ j, j < 5 → ∀ v, [Value.bool x.nw, .bool x.cm, .int .i64 x.p, .int .i64 x.a, x.v][j]? = some v → wr.cell? ⟨g, oo + q * 5 + j, none⟩ = some v := fun j hj v hv => by
            rw [blk_cell hbg]
            exact (hcur j hj).trans hv
          have z0 : wr.cell? ⟨g, oo + q * 5, none⟩ = some (.bool x.nw) := hcell 0 (by omega) _ rfl
          have z1 : wr.cell? ⟨g, oo + q * 5 + 1, none⟩ = some (.bool x.cm) := hcell 1 (by omega) _ rfl
          have z2 : wr.cell? ⟨g, oo + q * 5 + 2, none⟩ = some (.int .i64 x.p) := hcell 2 (by omega) _ rfl
          have z3 : wr.cell? ⟨g, oo + q * 5 + 3, none⟩ = some (.int .i64 x.a) := hcell 3 (by omega) _ rfl
          have z4 : wr.cell? ⟨g, oo + q * 5 + 4, none⟩ = some (.slice xa x.l.length xc) := by rw [← hxe]; exact hcell 4 (by omega) _ rfl
          have uA := (Upd.refl NoF wr).alloc (.cells #[.bool x.nw, .bool x.cm, .int .i64 x.p, .int .i64 x.a, .slice xa x.l.length xc] 74)
          have UA := Lib.hid uA
          have HB := Lib.hid (blk_new wr (.cells #[.bool x.nw, .bool x.cm, .int .i64 x.p, .int .i64 x.a, .slice xa x.l.length xc] 74))
          have hz := alloc_size wr (.cells #[.bool x.nw, .bool x.cm, .int .i64 x.p, .int .i64 x.a, .slice xa x.l.length xc] 74)
          rw [hxe] at xv
          have XV0 := Lib.hid xv
          have XV := Lib.hid ((xv.upd0 U.out).upd0 uA)
          have OW := Lib.hid (HO.out.1.upd0 uA)
          have HZ := Lib.hid hz
          have HXL := Lib.hid hxl
          clear hh hblk hc hcs hcur xv hxe hbg hcell uA hz hxl hne
          go_upto_region 24 with fail
          clear z0 z1 z2 z3 z4
          by_cases hlong : (100 : Int) < (x.l.length : Int)
          ·
            --< long
            go_wp2_with fail
            go_ret
            exact ⟨rfl, OW.out.base⟩
            -->
          have HLG := Lib.hid hlong
          obtain ⟨nw, hnw⟩ : ∃ nw, x.nw = nw := ⟨_, rfl⟩
          rw [hnw] at UA HB XV OW HZ ⊢
          clear hnw
          cases nw
          case true =>
            --< new
            have hN := HO.out.2.NN
            have hlen := HO.out.2.ppl
            have hN2 : (N : Int) ≤ 150 := by omega
            have hst := start29 k (1 + (N : Int) / 2) N _ x.l _ XV.out HXL.out (by omega)
            have HST2 := Lib.hid hst
            obtain ⟨ap, cp, hap, hcp⟩ : ∃ ap cp, u12 = .slice ap N cp ∧ N ≤ cp := by
              have hr := OW.out.holds 2 (by decide)
              rw [HO.out.2.rowp] at hr
              obtain ⟨a, c, h1, h2, _⟩ := Row.slice hr
              exact ⟨a, c, h1, h2⟩
            subst hap
            clear hst hlen
            go_wp2_with fail
            refine HST2.out.mono ?_
            rintro r w5 ⟨p5, F5, rfl, hp5, u5, f5⟩
            have HP5 := Lib.hid (And.intro hp5 (And.intro u5 f5))
            obtain ⟨o5, W5, K5, -⟩ := OW.out.fresh (t := 2 * N + 11) (by omega) (frm_prop p5 _) hp5 u5 f5 hp5.lt
            have hrow : Row w5 (Tg o5 2) 37 1 (.slice ap N cp) N (pptr pp) := by
              have := W5.holds 2 (by decide)
              rw [rput_ne _ _ (by omega), HO.out.2.rowp] at this
              exact this
            have HR := Lib.hid (hrow.upd ((Upd.refl NoF w5).alloc (.cells #[.pointer (some ⟨p5, 0, none⟩)] 37)) (fun _ _ h => h))
            have HW5 := Lib.hid (W5.upd0 ((Upd.refl NoF w5).alloc (.cells #[.pointer (some ⟨p5, 0, none⟩)] 37)))
            have HB5 := Lib.hid (blk_alloc (u5.blk0 HB.out) (.cells #[.pointer (some ⟨p5, 0, none⟩)] 37))
            have HX5 := Lib.hid ((XV.out.upd0 u5).upd0 ((Upd.refl NoF w5).alloc (.cells #[.pointer (some ⟨p5, 0, none⟩)] 37)))
            have HOB := Lib.hid (show o5 wr.heap.size = 0 from (K5 _ (by have := HZ.out; omega)).trans (HO.out.1.free _ (Nat.le_refl _)))
            obtain ⟨i0, hi, hz0, hz1, hz2⟩ := info_parts info_pptr
            clear hrow W5 K5 hp5 u5 f5
            go_wp2_with (at_builtin; refine wpList_append_row rfl _ _ 71 rfl 37 i0 (.pointer none) 1 8 Try.underlying71 hi hz0 hz1 hz2 rfl (by decide) rfl HR.out ⟨w5.heap.size, 0, none⟩ 1 1 [.pointer (some ⟨p5, 0, none⟩)] rfl rfl ?rc1 ?rc2 ?rc3 ?rc4 ?_)
            case rc1 => intro j q hj; cases j with
              | zero => exact cell_new hj
              | succ j => simp at hj
            case rc2 => intro q hq; simp at hq; subst hq; rfl
            case rc3 => unfold maxLen; omega
            case rc4 => omega
            intro v' w6 r6 u6' _
            try rw [alloc_size w5 (.cells #[.pointer (some ⟨p5, 0, none⟩)] 37)] at r6
            obtain ⟨o6, W6, -⟩ := HW5.out.row (by decide) HR.out r6 u6'
            have hb6 := u6'.blk HB5.out (fun h => by have := HR.out.2 _ h; unfold Tg at this; rw [HOB.out] at this; cases this)
            have hx6 := XV0.out.upd0 W6.base
            have e4 : w6.cell? ⟨wr.heap.size, 4, none⟩ = some (.slice xa x.l.length xc) := blk_cell hb6 4
            have hs6 := hx6.run_string w6 rfl
            have hm6 := W6.holds 3 (by decide)
            rw [rput_ne _ _ (by decide), rput_ne _ _ (by omega), HO.out.2.map] at hm6
            obtain ⟨w7, hup, m7, u7, z7⟩ := GMap.run_update (P := Try.prog) hm6.1 Try.underlying72 (str_ok Try.underlying9) x.l (.bool true)
            obtain ⟨o7, W7, -, -⟩ := W6.step (w1 := w7) (F := Tg o6 3) (t := 3) (by decide) (frm_map m (gPut kv x.l (.bool true))) ⟨m7, hm6.2⟩ (u7.mono (fun k _ h => by simp only [OneF] at h; subst h; exact hm6.2)) (fun k hk => .inl hk) (fun k hk => Nat.lt_of_lt_of_le (W6.lt (by decide) k hk) u7.size)
            have H7 := Lib.hid W7
            clear r6 u6' W6 hb6 hx6 hm6 m7 u7 z7 W7 hi hz0 hz1 hz2
            have hup' : (Instr.mapUpdate 72 (.map (some m)) (.string ⟨x.l.toArray⟩) (.bool true)).run Try.prog w6 = .ok () w7 := hup
            clear hup
            go_wp2_with fail
            go_roundw
            case rel =>
              obtain ⟨hown, hin⟩ := HO.out
              refine ⟨q + 1, N + 1, pp ++ [p5], fset qs N (PS.start k (bal N).r (bal N).w x.l), anyb, chs, o7, by omega, by go_num, rfl, rfl, pss, V, gPut kv x.l (.bool true), _, H7.out, ⟨?_, fun i hi => ?_⟩, hin.usl, ?_, by simp [hin.ppl], fun j hj => ?_, ?_, fun l v hl => ?_, ?_, fun a => Nat.le_succ_of_le (hin.few a), Nat.succ_le_succ hin.NN, fun ha => ?_⟩
              · rw [rput_ne _ _ (by decide), rput_ne _ _ (by decide), rput_ne _ _ (by omega)]; exact hin.laid.row
              · rw [rput_ne _ _ (by omega), rput_ne _ _ (by omega), rput_ne _ _ (by omega)]; exact hin.laid.un i hi
              · rw [rput_ne _ _ (by decide), rput_same]; simp [pptr]
              · rw [rput_ne _ _ (by omega), rput_ne _ _ (by omega)]
                have hl := hin.ppl
                by_cases e : j = N
                · subst e
                  rw [rput_same, fset_same, List.getElem_append_right (by omega)]; simp [hl]; rfl
                · have hj' : j < pp.length := by simp at hj; omega
                  rw [rput_ne _ _ (by omega), fset_ne _ _ e, List.getElem_append_left hj']; exact hin.prop j hj'
              · rw [rput_same]
              · have hl2 := (gGet_put (K := SKey) kv x.l l (.bool true)).symm.trans hl
                split at hl2
                · rename_i e; cases hl2; exact ⟨rfl, by rw [e]; have := HLG.out; omega⟩
                · exact hin.kvt l v hl2
              · refine hin.inv.new hn1 x.l _ (fun y hy => ?_) ?_
                · refine (congrArg Option.isSome (gGet_put (K := SKey) kv x.l y (.bool true))).trans ?_
                  split
                  · rfl
                  · exact hy
                · refine (congrArg Option.isSome (gGet_put (K := SKey) kv x.l x.l (.bool true))).trans ?_
                  split
                  · rfl
                  · rename_i h; exact absurd rfl h
              · obtain ⟨j, h1, h2, h3⟩ := hin.cho ha
                exact ⟨j, by omega, by rw [fset_ne _ _ (by omega)]; exact h2, by rw [fset_ne _ _ (by omega)]; exact h3⟩
            case measure => simp [intOf]; omega
            -->
          case false =>
            obtain ⟨ap, cp, hap, hcp⟩ : ∃ ap cp, u12 = .slice ap N cp ∧ N ≤ cp := by
              have hr := OW.out.holds 2 (by decide)
              rw [HO.out.2.rowp] at hr
              obtain ⟨a, c, h1, h2, _⟩ := Row.slice hr
              exact ⟨a, c, h1, h2⟩
            subst hap
            by_cases hN0 : N = 0
            ·
              --< none
              subst hN0
              go_wp2_with fail
              go_roundw
              case rel => exact ⟨q + 1, 0, pp, qs, anyb, chs, ow, by omega, by go_num, rfl, rfl, pss, V, kv, ρ, OW.out, HO.out.2.next⟩
              case measure => simp [intOf]; omega
              -->
            have hNp : (0 : Int) < N := by omega
            have HN0 := Lib.hid hN0
            clear hN0
            obtain ⟨ga, hga⟩ : ∃ ga, ap = some ⟨ga, 0, none⟩ := by
              have hr := OW.out.holds 2 (by decide)
              rw [HO.out.2.rowp] at hr
              obtain ⟨a, c, h1, h2, h3, h4, h5⟩ := Row.slice hr
              cases h1
              cases ap with
              | none => have := (h4 rfl).1; omega
              | some z => exact ⟨z.block, congrArg some (h5 z rfl).1⟩
            subst hga
            have hmp := and_ffff x.p
            have hma := and_ffff x.a
            obtain ⟨jp, hjp, hjl⟩ : ∃ jp : Nat, bits .and .i64 x.p 65535 % (N : Int) = jp ∧ jp < N := by
              obtain ⟨j, hj⟩ := Int.eq_ofNat_of_zero_le (Int.emod_nonneg (bits .and .i64 x.p 65535) (show (N : Int) ≠ 0 by omega))
              exact ⟨j, hj, by have := Int.emod_lt_of_pos (bits .and .i64 x.p 65535) hNp; omega⟩
            obtain ⟨ia, hia, hil⟩ : ∃ ia : Nat, bits .and .i64 x.a 65535 % (k : Int) = ia ∧ ia < k := by
              obtain ⟨j, hj⟩ := Int.eq_ofNat_of_zero_le (Int.emod_nonneg (bits .and .i64 x.a 65535) (show (k : Int) ≠ 0 by omega))
              exact ⟨j, hj, by have := Int.emod_lt_of_pos (bits .and .i64 x.a 65535) (show (0 : Int) < k by omega); omega⟩
            have cp := Row.cell (by have hr := OW.out.holds 2 (by decide); rw [HO.out.2.rowp] at hr; exact hr) jp (u := .pointer (some ⟨pp[jp]'(by have := HO.out.2.ppl; omega), 0, none⟩)) (by simp [pptr])
            go_upto_region 30 with fail
            obtain ⟨o6, W6⟩ := HO.out.1.alloc (t := 6) (by decide) #[.bool false, .bool x.cm, .int .i64 x.p, .int .i64 x.a, .slice xa x.l.length xc] 74
            have OW6 := Lib.hid W6
            clear W6
            go_cut [18, 19] (OnePick w k N pp (rput ρ 6 (cellT wr.heap.size #[.bool false, .bool x.cm, .int .i64 x.p, .int .i64 x.a, .slice xa x.l.length xc] 74)))
            case first =>
              --< pick
              go_quiet (fail)
              rw [hia]
              go_wp2_with fail
              go_meet
              case rel => exact ⟨o6, jp, ia, hjl, hil, by have := HO.out.2.ppl; omega, rfl, rfl, OW6.out.upd0 ((Upd.refl NoF _).drewN _)⟩
              -->
            case rest =>
            clear cp hjp hjl hia hil hmp hma jp ia
            obtain ⟨o7, jp, ia, hjl, hil, hpl, rfl, rfl, hown⟩ := hcut
            have HIN := Lib.hid HO.out.2
            generalize wr.heap.size = b17 at *
            obtain ⟨ptr, hptr⟩ : ∃ ptr, pp[jp] = ptr := ⟨_, rfl⟩
            rw [hptr]
            have HPT := Lib.hid hptr
            have OW0 := Lib.hid hown
            have hpr : PropAt wc (Tg o7 (2 * jp + 11)) ptr (qs jp) := by
              have := propOf hown (t := 2 * jp + 11) (p := pp[jp]) (s := qs jp) (by omega) (by simp (disch := omega) only [rput_ne]; exact HO.out.2.prop jp hpl)
              rw [hptr] at this
              exact this
            have HPR := Lib.hid hpr
            clear hptr hown UA HB XV OW HZ HO U hpr OW6
            have HPH := Lib.hid (phase_any wc HPR.out)
            obtain ⟨ph, hph⟩ : ∃ ph, (qs jp).phase = ph := ⟨_, rfl⟩
            rw [hph] at HPH
            have HP := Lib.hid hph
            clear hph
            have hiu : ia < us.length := by have := HIN.out.usl; omega
            obtain ⟨gu, cu, hgu⟩ : ∃ gu cu, u6 = .slice (some ⟨gu, 0, none⟩) k cu := by
              have hr := rowOf OW0.out (t := 1) (by decide) (by simp (disch := omega) only [rput_ne]; exact HIN.out.laid.row)
              rw [HIN.out.usl] at hr
              obtain ⟨a, c, h1, h2, h3, h4, h5⟩ := Row.slice hr
              subst h1
              cases a with
              | none => have := (h4 rfl).1; omega
              | some z => exact ⟨z.block, c, by rw [(h5 z rfl).1]⟩
            subst hgu
            have S_of : ∀ (W : World) (o' : Nat → Nat) (ρ' : Nat → Thing), Own w W o' ρ' → ρ' 1 = ρ 1 → W.cell? ⟨gu, ia, none⟩ = some (.pointer (some ⟨(us[ia]'hiu).1, 0, none⟩)) := fun W o' ρ' h he => by
              have hr := rowOf h (t := 1) (by decide) (he.trans HIN.out.laid.row)
              rw [HIN.out.usl] at hr
              exact Row.cell hr ia (by simp [uptr, hiu])
            have HSO := Lib.hid S_of
            clear S_of
            go_wp2_with fail
            refine HPH.out.mono ?_
            rintro r w2 ⟨rfl, rfl⟩
            go_upto_block 4 with fail
            go_cut [18] (OneMid w k N (q + 1) us pp kv (.slice (some ⟨gu, 0, none⟩) k cu) (.slice (some ⟨ga, 0, none⟩) N cp) m anyb chs (.pointer (some ⟨ptr, 0, none⟩)))
            case first =>
              have hacc := HIN.out.inv.acc jp hjl
              obtain ⟨_, hb1, hb2⟩ := hacc
              have HVL := Lib.hid (show (qs jp).val.length ≤ 100 by
                have := HIN.out.inv.val jp hjl
                cases hg : gGet kv (qs jp).val with
                | none => rw [hg] at this; cases this
                | some v => exact (HIN.out.kvt _ v hg).2)
              by_cases hp1 : ph = 1
              · subst hp1
                --< phase 1
                have HB12 := Lib.hid (And.intro hb1 hb2)
                go_upto_region 33 with fail
                go_cut [20, 21, 22] (OneProm w us (pss ia) (bal jp) ρ ia #[.bool false, .bool x.cm, .int .i64 x.p, .int .i64 x.a, .slice xa x.l.length xc] b17)
                case first =>
                  obtain ⟨wd, hwd⟩ : ∃ W, wc.drew = W := ⟨_, rfl⟩
                  have W1 := OW0.out.upd0 (Upd.refl NoF wc).drew
                  rw [hwd] at W1
                  have OW1 := Lib.hid W1
                  have S0 := Lib.hid (HSO.out _ _ _ W1 (by simp (disch := omega) only [rput_ne]))
                  clear W1
                  refine region_late (fun W => W.cell? ⟨gu, ia, none⟩ = some (.pointer (some ⟨(us[ia]'hiu).1, 0, none⟩))) [] (by kernel_rfl) ?_
                  rw [show ({ wc with drawn := wc.drawn + 1 } : World) = wd from hwd]
                  clear hwd
                  refine late_take 0 (.slice (some ⟨gu, 0, none⟩) k cu) rfl (by kernel_rfl) (by kernel_rfl) (by kernel_rfl) (by kernel_rfl) (fun _ _ _ h => h) (by kernel_rfl) S0.out (fun W' _ => by kernel_rfl) ?_
                  refine late_take 1 (.int .i64 ia) rfl (by kernel_rfl) (by kernel_rfl) (by kernel_rfl) (by kernel_rfl) (fun _ _ _ h => h) (by kernel_rfl) S0.out (fun W' _ => by kernel_rfl) ?_
                  refine late_take 2 (.pointer (some ⟨gu, ia, none⟩)) rfl (by kernel_rfl) (by kernel_rfl) (by kernel_rfl) (by kernel_rfl) (fun _ _ _ h => h) (by kernel_rfl) S0.out (fun W' _ => run_indexAddr_op 67 _ _ rfl gu k cu (by kernel_rfl) ia (by kernel_rfl) hil (by kernel_rfl) (fun W => by kernel_rfl)) ?_
                  refine late_take 3 (.pointer (some ⟨(us[ia]'hiu).1, 0, none⟩)) rfl (by kernel_rfl) (by kernel_rfl) (by kernel_rfl) (by kernel_rfl) (fun _ _ _ h => h) (by kernel_rfl) S0.out (fun W' hW' => run_load_cell_op 68 _ rfl ⟨gu, ia, none⟩ (by kernel_rfl) hW' _ Try.underlying68 rfl) ?_
                  refine late_take 4 (.pointer (some ⟨ptr, 0, none⟩)) rfl (by kernel_rfl) (by kernel_rfl) (by kernel_rfl) (by kernel_rfl) (fun _ _ _ h => h) (by kernel_rfl) S0.out (fun W' _ => by kernel_rfl) ?_
                  refine late_two 5 11 rfl rfl (by kernel_rfl) (by kernel_rfl) (by kernel_rfl) (fun K hK => ?_) (fun K hK => ?_)
                  · go_wp2_with fail
                    refine (ballot_any _ (propOf OW1.out (by omega) (t := 2 * jp + 11) (by simp (disch := omega) only [rput_ne]; rw [HIN.out.prop jp hpl, HPT.out]))).mono ?_
                    rintro r w5 ⟨rfl, u5⟩
                    rw [hb1, hb2]
                    have OW5 := Lib.hid (OW1.out.upd0 u5)
                    clear u5
                    have S5 := Lib.hid (HSO.out _ _ _ OW5.out (by simp (disch := omega) only [rput_ne]))
                    go_wp2_with fail
                    refine hK _ _ (fun _ => S5.out) ?_
                    clear hK K
                    refine late_two 6 11 rfl rfl (by kernel_rfl) (by kernel_rfl) (by kernel_rfl) (fun K hK => ?_) (fun K hK => ?_)
                    · go_wp2_with fail
                      refine (ud_promise 1 (bal jp) _ (unitOf OW5.out (by omega) (t := 2 * ia + 10) (by simp (disch := omega) only [rput_ne]; exact HIN.out.laid.un ia hiu))).mono ?_
                      rintro r w6 ⟨v6, F6, rfl, hud6, u6, f6, b6⟩
                      obtain ⟨a6, c6, rfl, -⟩ := b6.slice
                      obtain ⟨oa6, Wa6, Ka6, Na6⟩ := OW5.out.step (t := 2 * ia + 10) (by omega) (frm_ud (us[ia]'hiu).1 (us[ia]'hiu).2 400 _) hud6 u6 f6 hud6.lt
                      obtain ⟨o6, W6, -⟩ := Wa6.claim (t := 5) (by decide) (frm_bytes (.slice a6 (promP 400 (pss ia) 1 (bal jp)).1.v.length c6) (promP 400 (pss ia) 1 (bal jp)).1.v) b6.bound (fun k hk => ⟨Classical.byContradiction fun h => hk.1.2 (Na6 k hk.1.1 h), by have := hk.1.1; have := OW5.out.base.size; omega, hk.2⟩)
                      have OW6 := Lib.hid W6
                      clear hud6 u6 f6 b6 Wa6 Ka6 Na6 W6
                      have S6 := Lib.hid (HSO.out _ _ _ OW6.out (by simp (disch := omega) only [rput_ne]))
                      go_wp2_with fail
                      refine hK _ _ (fun _ => S6.out) ?_
                      clear hK K
                      refine late_take 7 (.tuple #[.agg #[.int .i64 (promP 400 (pss ia) 1 (bal jp)).1.b.r, .int .i64 (promP 400 (pss ia) 1 (bal jp)).1.b.w], (.slice a6 (promP 400 (pss ia) 1 (bal jp)).1.v.length c6), .int .i64 (promP 400 (pss ia) 1 (bal jp)).1.e]) rfl (by kernel_rfl) (by kernel_rfl) (by kernel_rfl) (by kernel_rfl) (fun _ _ _ h => h) (by kernel_rfl) S6.out (fun W' _ => by kernel_rfl) ?_
                      refine late_take 8 (.agg #[.int .i64 (promP 400 (pss ia) 1 (bal jp)).1.b.r, .int .i64 (promP 400 (pss ia) 1 (bal jp)).1.b.w]) rfl (by kernel_rfl) (by kernel_rfl) (by kernel_rfl) (by kernel_rfl) (fun _ _ _ h => h) (by kernel_rfl) S6.out (fun W' _ => by kernel_rfl) ?_
                      refine late_take 9 (.slice a6 (promP 400 (pss ia) 1 (bal jp)).1.v.length c6) rfl (by kernel_rfl) (by kernel_rfl) (by kernel_rfl) (by kernel_rfl) (fun _ _ _ h => h) (by kernel_rfl) S6.out (fun W' _ => by kernel_rfl) ?_
                      refine late_take 10 (.int .i64 (promP 400 (pss ia) 1 (bal jp)).1.e) rfl (by kernel_rfl) (by kernel_rfl) (by kernel_rfl) (by kernel_rfl) (fun _ _ _ h => h) (by kernel_rfl) S6.out (fun W' _ => by kernel_rfl) ?_
                      refine late_one 11 rfl (by kernel_rfl) (by kernel_rfl) (fun K hK => ?_)
                      go_wp2_with fail
                      obtain ⟨o8, W8⟩ := OW6.out.alloc (t := 4) (by decide) #[.int .i64 0, .int .i64 0] 40
                      obtain ⟨w8, hw8⟩ : ∃ W, w6.alloc (.cells #[.int .i64 0, .int .i64 0] 40) = W := ⟨_, rfl⟩
                      rw [hw8] at W8 ⊢
                      have OW8 := Lib.hid W8
                      clear W8 hw8
                      have S8 := Lib.hid (HSO.out _ _ _ OW8.out (by simp (disch := omega) only [rput_ne]))
                      refine hK _ _ (fun _ => S8.out) ?_
                      clear hK K
                      have tb := cellOf OW8.out (t := 4) (by decide) (g := w6.heap.size) (cs := #[.int .i64 0, .int .i64 0]) (ty := 40) (by first | (with_reducible exact rput_same _ _ _) | simp (disch := omega) only [rput_ne, rput_same])
                      have TB := Lib.hid tb
                      have d0 : w8.cell? ⟨w6.heap.size, 0, none⟩ = some (.int .i64 0) := blk_cell tb 0
                      have d1 : w8.cell? ⟨w6.heap.size, 1, none⟩ = some (.int .i64 0) := blk_cell tb 1
                      have g0 := blk_free tb 0
                      have g1 := blk_free tb 1
                      have zz := blk_lt tb
                      clear tb
                      refine late_one 12 rfl (by kernel_rfl) (by kernel_rfl) (fun K hK => ?_)
                      go_wp2_with fail
                      obtain ⟨wz, hwz⟩ : ∃ wz, (w8.setCell ⟨w6.heap.size, 0, none⟩ (.int .i64 (promP 400 (pss ia) 1 (bal jp)).1.b.r)).setCell ⟨w6.heap.size, 1, none⟩ (.int .i64 (promP 400 (pss ia) 1 (bal jp)).1.b.w) = wz := ⟨_, rfl⟩
                      obtain ⟨oz, Wz⟩ := OW8.out.cells (w1 := wz) (t := 4) (by decide) (g := w6.heap.size) (cs := #[.int .i64 0, .int .i64 0]) (cs' := #[.int .i64 (promP 400 (pss ia) 1 (bal jp)).1.b.r, .int .i64 (promP 400 (pss ia) 1 (bal jp)).1.b.w]) (ty := 40) (by first | (with_reducible exact rput_same _ _ _) | simp (disch := omega) only [rput_ne, rput_same]) (by rw [← hwz]; exact ((Upd.refl _ _).set1 _ _).set1 _ _) (by rw [← hwz, blk_set (blk_set TB.out 0 _) 1]; simp)
                      have OWz := Lib.hid Wz
                      rw [hwz]
                      clear Wz hwz d0 d1 g0 g1 zz TB
                      have Sz := Lib.hid (HSO.out _ _ _ OWz.out (by simp (disch := omega) only [rput_ne]))
                      refine hK _ _ (fun _ => Sz.out) ?_
                      clear hK K
                      refine late_one 13 rfl (by kernel_rfl) (by kernel_rfl) (fun K hK => ?_)
                      go_wp2_with fail
                      refine hK _ _ (fun _ => Sz.out) ?_
                      clear hK K
                      refine late_one 14 rfl (by kernel_rfl) (by kernel_rfl) (fun K hK => ?_)
                      go_wp2_with fail
                      refine hK _ _ (fun _ => Sz.out) ?_
                      clear hK K
                      refine late_done (by kernel_rfl) ?_ _
                      go_wp2_with fail
                      go_meet
                      case rel => exact ⟨w6.heap.size, a6, c6, _, _, hiu, rfl, rfl, rfl, OWz.out, (by with_reducible exact rput_same _ _ _), by simp (disch := omega) only [rput_ne, rput_same], by simp (disch := omega) only [rput_ne, rput_same], by simp (disch := omega) only [rput_ne, rput_same], fun t ht h => by simp (disch := omega) only [rput_ne]⟩
                    · go_wp2_with fail
                      obtain ⟨o8, W8⟩ := OW5.out.alloc (t := 4) (by decide) #[.int .i64 0, .int .i64 0] 40
                      obtain ⟨w8, hw8⟩ : ∃ W, w5.alloc (.cells #[.int .i64 0, .int .i64 0] 40) = W := ⟨_, rfl⟩
                      rw [hw8] at W8 ⊢
                      have OW8 := Lib.hid W8
                      clear W8 hw8
                      have S8 := Lib.hid (HSO.out _ _ _ OW8.out (by simp (disch := omega) only [rput_ne]))
                      refine hK _ _ (fun _ => S8.out) ?_
                      clear hK K
                      refine late_one 6 rfl (by kernel_rfl) (by kernel_rfl) (fun K hK => ?_)
                      go_wp2_with fail
                      refine (ud_promise 1 (bal jp) _ (unitOf OW8.out (by omega) (t := 2 * ia + 10) (by simp (disch := omega) only [rput_ne]; exact HIN.out.laid.un ia hiu))).mono ?_
                      rintro r w6 ⟨v6, F6, rfl, hud6, u6, f6, b6⟩
                      obtain ⟨a6, c6, rfl, -⟩ := b6.slice
                      obtain ⟨oa6, Wa6, Ka6, Na6⟩ := OW8.out.step (t := 2 * ia + 10) (by omega) (frm_ud (us[ia]'hiu).1 (us[ia]'hiu).2 400 _) hud6 u6 f6 hud6.lt
                      obtain ⟨o6, W6, -⟩ := Wa6.claim (t := 5) (by decide) (frm_bytes (.slice a6 (promP 400 (pss ia) 1 (bal jp)).1.v.length c6) (promP 400 (pss ia) 1 (bal jp)).1.v) b6.bound (fun k hk => ⟨Classical.byContradiction fun h => hk.1.2 (Na6 k hk.1.1 h), by have := hk.1.1; have := OW8.out.base.size; omega, hk.2⟩)
                      have OW6 := Lib.hid W6
                      clear hud6 u6 f6 b6 Wa6 Ka6 Na6 W6
                      have S6 := Lib.hid (HSO.out _ _ _ OW6.out (by simp (disch := omega) only [rput_ne]))
                      go_wp2_with fail
                      refine hK _ _ (fun _ => S6.out) ?_
                      clear hK K
                      refine late_take 7 (.tuple #[.agg #[.int .i64 (promP 400 (pss ia) 1 (bal jp)).1.b.r, .int .i64 (promP 400 (pss ia) 1 (bal jp)).1.b.w], (.slice a6 (promP 400 (pss ia) 1 (bal jp)).1.v.length c6), .int .i64 (promP 400 (pss ia) 1 (bal jp)).1.e]) rfl (by kernel_rfl) (by kernel_rfl) (by kernel_rfl) (by kernel_rfl) (fun _ _ _ h => h) (by kernel_rfl) S6.out (fun W' _ => by kernel_rfl) ?_
                      refine late_take 8 (.agg #[.int .i64 (promP 400 (pss ia) 1 (bal jp)).1.b.r, .int .i64 (promP 400 (pss ia) 1 (bal jp)).1.b.w]) rfl (by kernel_rfl) (by kernel_rfl) (by kernel_rfl) (by kernel_rfl) (fun _ _ _ h => h) (by kernel_rfl) S6.out (fun W' _ => by kernel_rfl) ?_
                      refine late_take 9 (.slice a6 (promP 400 (pss ia) 1 (bal jp)).1.v.length c6) rfl (by kernel_rfl) (by kernel_rfl) (by kernel_rfl) (by kernel_rfl) (fun _ _ _ h => h) (by kernel_rfl) S6.out (fun W' _ => by kernel_rfl) ?_
                      refine late_take 10 (.int .i64 (promP 400 (pss ia) 1 (bal jp)).1.e) rfl (by kernel_rfl) (by kernel_rfl) (by kernel_rfl) (by kernel_rfl) (fun _ _ _ h => h) (by kernel_rfl) S6.out (fun W' _ => by kernel_rfl) ?_
                      have tb := cellOf OW6.out (t := 4) (by decide) (g := w5.heap.size) (cs := #[.int .i64 0, .int .i64 0]) (ty := 40) (by first | (with_reducible exact rput_same _ _ _) | simp (disch := omega) only [rput_ne, rput_same])
                      have TB := Lib.hid tb
                      have d0 : w6.cell? ⟨w5.heap.size, 0, none⟩ = some (.int .i64 0) := blk_cell tb 0
                      have d1 : w6.cell? ⟨w5.heap.size, 1, none⟩ = some (.int .i64 0) := blk_cell tb 1
                      have g0 := blk_free tb 0
                      have g1 := blk_free tb 1
                      have zz := blk_lt tb
                      clear tb
                      refine late_one 12 rfl (by kernel_rfl) (by kernel_rfl) (fun K hK => ?_)
                      go_wp2_with fail
                      obtain ⟨wz, hwz⟩ : ∃ wz, (w6.setCell ⟨w5.heap.size, 0, none⟩ (.int .i64 (promP 400 (pss ia) 1 (bal jp)).1.b.r)).setCell ⟨w5.heap.size, 1, none⟩ (.int .i64 (promP 400 (pss ia) 1 (bal jp)).1.b.w) = wz := ⟨_, rfl⟩
                      obtain ⟨oz, Wz⟩ := OW6.out.cells (w1 := wz) (t := 4) (by decide) (g := w5.heap.size) (cs := #[.int .i64 0, .int .i64 0]) (cs' := #[.int .i64 (promP 400 (pss ia) 1 (bal jp)).1.b.r, .int .i64 (promP 400 (pss ia) 1 (bal jp)).1.b.w]) (ty := 40) (by first | (with_reducible exact rput_same _ _ _) | simp (disch := omega) only [rput_ne, rput_same]) (by rw [← hwz]; exact ((Upd.refl _ _).set1 _ _).set1 _ _) (by rw [← hwz, blk_set (blk_set TB.out 0 _) 1]; simp)
                      have OWz := Lib.hid Wz
                      rw [hwz]
                      clear Wz hwz d0 d1 g0 g1 zz TB
                      have Sz := Lib.hid (HSO.out _ _ _ OWz.out (by simp (disch := omega) only [rput_ne]))
                      refine hK _ _ (fun _ => Sz.out) ?_
                      clear hK K
                      refine late_one 13 rfl (by kernel_rfl) (by kernel_rfl) (fun K hK => ?_)
                      go_wp2_with fail
                      refine hK _ _ (fun _ => Sz.out) ?_
                      clear hK K
                      refine late_one 14 rfl (by kernel_rfl) (by kernel_rfl) (fun K hK => ?_)
                      go_wp2_with fail
                      refine hK _ _ (fun _ => Sz.out) ?_
                      clear hK K
                      refine late_done (by kernel_rfl) ?_ _
                      go_wp2_with fail
                      go_meet
                      case rel => exact ⟨w5.heap.size, a6, c6, _, _, hiu, rfl, rfl, rfl, OWz.out, (by with_reducible exact rput_same _ _ _), by simp (disch := omega) only [rput_ne, rput_same], by simp (disch := omega) only [rput_ne, rput_same], by simp (disch := omega) only [rput_ne, rput_same], fun t ht h => by simp (disch := omega) only [rput_ne]⟩
                  · go_wp2_with fail
                    obtain ⟨o8, W8⟩ := OW1.out.alloc (t := 4) (by decide) #[.int .i64 0, .int .i64 0] 40
                    obtain ⟨w8, hw8⟩ : ∃ W, wd.alloc (.cells #[.int .i64 0, .int .i64 0] 40) = W := ⟨_, rfl⟩
                    rw [hw8] at W8 ⊢
                    have OW8 := Lib.hid W8
                    clear W8 hw8
                    have S8 := Lib.hid (HSO.out _ _ _ OW8.out (by simp (disch := omega) only [rput_ne]))
                    refine hK _ _ (fun _ => S8.out) ?_
                    clear hK K
                    refine late_one 5 rfl (by kernel_rfl) (by kernel_rfl) (fun K hK => ?_)
                    go_wp2_with fail
                    refine (ballot_any _ (propOf OW8.out (by omega) (t := 2 * jp + 11) (by simp (disch := omega) only [rput_ne]; rw [HIN.out.prop jp hpl, HPT.out]))).mono ?_
                    rintro r w5 ⟨rfl, u5⟩
                    rw [hb1, hb2]
                    have OW5 := Lib.hid (OW8.out.upd0 u5)
                    clear u5
                    have S5 := Lib.hid (HSO.out _ _ _ OW5.out (by simp (disch := omega) only [rput_ne]))
                    go_wp2_with fail
                    refine hK _ _ (fun _ => S5.out) ?_
                    clear hK K
                    refine late_one 6 rfl (by kernel_rfl) (by kernel_rfl) (fun K hK => ?_)
                    go_wp2_with fail
                    refine (ud_promise 1 (bal jp) _ (unitOf OW5.out (by omega) (t := 2 * ia + 10) (by simp (disch := omega) only [rput_ne]; exact HIN.out.laid.un ia hiu))).mono ?_
                    rintro r w6 ⟨v6, F6, rfl, hud6, u6, f6, b6⟩
                    obtain ⟨a6, c6, rfl, -⟩ := b6.slice
                    obtain ⟨oa6, Wa6, Ka6, Na6⟩ := OW5.out.step (t := 2 * ia + 10) (by omega) (frm_ud (us[ia]'hiu).1 (us[ia]'hiu).2 400 _) hud6 u6 f6 hud6.lt
                    obtain ⟨o6, W6, -⟩ := Wa6.claim (t := 5) (by decide) (frm_bytes (.slice a6 (promP 400 (pss ia) 1 (bal jp)).1.v.length c6) (promP 400 (pss ia) 1 (bal jp)).1.v) b6.bound (fun k hk => ⟨Classical.byContradiction fun h => hk.1.2 (Na6 k hk.1.1 h), by have := hk.1.1; have := OW5.out.base.size; omega, hk.2⟩)
                    have OW6 := Lib.hid W6
                    clear hud6 u6 f6 b6 Wa6 Ka6 Na6 W6
                    have S6 := Lib.hid (HSO.out _ _ _ OW6.out (by simp (disch := omega) only [rput_ne]))
                    go_wp2_with fail
                    refine hK _ _ (fun _ => S6.out) ?_
                    clear hK K
                    refine late_take 7 (.tuple #[.agg #[.int .i64 (promP 400 (pss ia) 1 (bal jp)).1.b.r, .int .i64 (promP 400 (pss ia) 1 (bal jp)).1.b.w], (.slice a6 (promP 400 (pss ia) 1 (bal jp)).1.v.length c6), .int .i64 (promP 400 (pss ia) 1 (bal jp)).1.e]) rfl (by kernel_rfl) (by kernel_rfl) (by kernel_rfl) (by kernel_rfl) (fun _ _ _ h => h) (by kernel_rfl) S6.out (fun W' _ => by kernel_rfl) ?_
                    refine late_take 8 (.agg #[.int .i64 (promP 400 (pss ia) 1 (bal jp)).1.b.r, .int .i64 (promP 400 (pss ia) 1 (bal jp)).1.b.w]) rfl (by kernel_rfl) (by kernel_rfl) (by kernel_rfl) (by kernel_rfl) (fun _ _ _ h => h) (by kernel_rfl) S6.out (fun W' _ => by kernel_rfl) ?_
                    refine late_take 9 (.slice a6 (promP 400 (pss ia) 1 (bal jp)).1.v.length c6) rfl (by kernel_rfl) (by kernel_rfl) (by kernel_rfl) (by kernel_rfl) (fun _ _ _ h => h) (by kernel_rfl) S6.out (fun W' _ => by kernel_rfl) ?_
                    refine late_take 10 (.int .i64 (promP 400 (pss ia) 1 (bal jp)).1.e) rfl (by kernel_rfl) (by kernel_rfl) (by kernel_rfl) (by kernel_rfl) (fun _ _ _ h => h) (by kernel_rfl) S6.out (fun W' _ => by kernel_rfl) ?_
                    have tb := cellOf OW6.out (t := 4) (by decide) (g := wd.heap.size) (cs := #[.int .i64 0, .int .i64 0]) (ty := 40) (by first | (with_reducible exact rput_same _ _ _) | simp (disch := omega) only [rput_ne, rput_same])
                    have TB := Lib.hid tb
                    have d0 : w6.cell? ⟨wd.heap.size, 0, none⟩ = some (.int .i64 0) := blk_cell tb 0
                    have d1 : w6.cell? ⟨wd.heap.size, 1, none⟩ = some (.int .i64 0) := blk_cell tb 1
                    have g0 := blk_free tb 0
                    have g1 := blk_free tb 1
                    have zz := blk_lt tb
                    clear tb
                    refine late_one 12 rfl (by kernel_rfl) (by kernel_rfl) (fun K hK => ?_)
                    go_wp2_with fail
                    obtain ⟨wz, hwz⟩ : ∃ wz, (w6.setCell ⟨wd.heap.size, 0, none⟩ (.int .i64 (promP 400 (pss ia) 1 (bal jp)).1.b.r)).setCell ⟨wd.heap.size, 1, none⟩ (.int .i64 (promP 400 (pss ia) 1 (bal jp)).1.b.w) = wz := ⟨_, rfl⟩
                    obtain ⟨oz, Wz⟩ := OW6.out.cells (w1 := wz) (t := 4) (by decide) (g := wd.heap.size) (cs := #[.int .i64 0, .int .i64 0]) (cs' := #[.int .i64 (promP 400 (pss ia) 1 (bal jp)).1.b.r, .int .i64 (promP 400 (pss ia) 1 (bal jp)).1.b.w]) (ty := 40) (by first | (with_reducible exact rput_same _ _ _) | simp (disch := omega) only [rput_ne, rput_same]) (by rw [← hwz]; exact ((Upd.refl _ _).set1 _ _).set1 _ _) (by rw [← hwz, blk_set (blk_set TB.out 0 _) 1]; simp)
                    have OWz := Lib.hid Wz
                    rw [hwz]
                    clear Wz hwz d0 d1 g0 g1 zz TB
                    have Sz := Lib.hid (HSO.out _ _ _ OWz.out (by simp (disch := omega) only [rput_ne]))
                    refine hK _ _ (fun _ => Sz.out) ?_
                    clear hK K
                    refine late_one 13 rfl (by kernel_rfl) (by kernel_rfl) (fun K hK => ?_)
                    go_wp2_with fail
                    refine hK _ _ (fun _ => Sz.out) ?_
                    clear hK K
                    refine late_one 14 rfl (by kernel_rfl) (by kernel_rfl) (fun K hK => ?_)
                    go_wp2_with fail
                    refine hK _ _ (fun _ => Sz.out) ?_
                    clear hK K
                    refine late_done (by kernel_rfl) ?_ _
                    go_wp2_with fail
                    go_meet
                    case rel => exact ⟨wd.heap.size, a6, c6, _, _, hiu, rfl, rfl, rfl, OWz.out, (by with_reducible exact rput_same _ _ _), by simp (disch := omega) only [rput_ne, rput_same], by simp (disch := omega) only [rput_ne, rput_same], by simp (disch := omega) only [rput_ne, rput_same], fun t ht h => by simp (disch := omega) only [rput_ne]⟩
                case rest =>
                  obtain ⟨g20, av, cv, o3, ρ3, hiu2, rfl, rfl, rfl, hown, h4, h5, h6, hud, hoth⟩ := hcut
                  have OW3 := Lib.hid hown
                  have hjb : jp ≤ 1000000 := by have := HIN.out.NN; omega
                  have hroom : (pss ia).length < 400 := by have := HIN.out.few ia; omega
                  obtain ⟨k1, k2, k3, k4, k5⟩ := prom_link hroom hjb
                  have HK := Lib.hid (And.intro k2 (And.intro k3 k4))
                  have hin1 := HIN.out.unit ia hiu _ hoth hud (V' := V) (by rw [fset_at pss ia _ _ k1]; exact HIN.out.inv.promise ia jp hjl) (by have := HIN.out.few ia; omega)
                  have HI1 := Lib.hid hin1
                  have HA1 := Lib.hid (fset_at pss ia _ _ k1)
                  have hlv : (promP 400 (pss ia) 1 (bal jp)).1.v.length ≤ 1000 := by
                    rw [k3]; unfold accPr; split
                    · simp
                    · exact (replay_good _ us0 good0 (unitOf OW0.out (by omega) (t := 2 * ia + 10) (by simp (disch := omega) only [rput_ne]; exact HIN.out.laid.un ia hiu)).ok).acc 1
                  have s6 := cellOf hown (t := 6) (by decide) h6
                  have f1 : wc.cell? ⟨b17, 1, none⟩ = some (.bool x.cm) := blk_cell s6 1
                  have s4 := cellOf hown (t := 4) (by decide) h4
                  have q0 : wc.cell? ⟨g20, 0, none⟩ = some (.int .i64 (promP 400 (pss ia) 1 (bal jp)).1.b.r) := blk_cell s4 0
                  have q1 : wc.cell? ⟨g20, 1, none⟩ = some (.int .i64 (promP 400 (pss ia) 1 (bal jp)).1.b.w) := blk_cell s4 1
                  have HB5 := Lib.hid (bytesOf hown (t := 5) (by decide) h5)
                  have HPRe := Lib.hid (show PropAt wc (Tg o3 (2 * jp + 11)) ptr (qs jp) by
                    have := propOf hown (t := 2 * jp + 11) (p := pp[jp]) (s := qs jp) (by omega) (by rw [hoth _ (by omega) (by omega)]; exact HIN.out.prop jp hpl)
                    rw [HPT.out] at this
                    exact this)
                  have HPI := Lib.hid (promised_any ia (promP 400 (pss ia) 1 (bal jp)).1.b.r (promP 400 (pss ia) 1 (bal jp)).1.b.w (promP 400 (pss ia) 1 (bal jp)).1.e _ _ _ HPRe.out (few_ans HIN.out.inv hjl (by omega)) HB5.out (by omega))
                  clear hown h4 h5 h6 hud hoth k1 k2 k3 k4 k5 hin1 s6 s4 hlv
                  obtain ⟨cm, hcm⟩ : ∃ cm, x.cm = cm := ⟨_, rfl⟩
                  rw [hcm] at f1
                  clear hcm
                  cases cm
                  case false =>
                    go_wp2_with fail
                    go_meet
                    case rel => exact ⟨rfl, _, _, _, _, _, OW3.out, HI1.out⟩
                  case true =>
                    go_wp2_with fail
                    refine HPI.out.mono ?_
                    rintro r w8 ⟨rfl, hp8⟩
                    have H8 := Lib.hid hp8
                    clear hp8
                    go_wp2_with fail
                    go_meet
                    case rel =>
                      obtain ⟨o9, W9, -⟩ := OW3.out.prop (by omega) H8.out
                      refine ⟨rfl, _, _, _, _, _, W9, HI1.out.propSet jp hpl _ (fun t _ ht => rput_ne _ _ ht) (by rw [rput_same, HPT.out]) ?_ (by rw [HP.out]; decide)⟩
                      rw [HA1.out, HK.out.1, HK.out.2.1, HK.out.2.2]
                      exact HIN.out.inv.promised hil hjl HP.out
                -->
              by_cases hp2 : ph = 2
              · subst hp2
                --< phase 2
                have HB12 := Lib.hid (And.intro hb1 hb2)
                go_upto_region 37 with fail
                obtain ⟨wd, hwd⟩ : ∃ W, wc.drew = W := ⟨_, rfl⟩
                have W1 := OW0.out.upd0 (Upd.refl NoF wc).drew
                rw [hwd] at W1
                have OW1 := Lib.hid W1
                have S0 := Lib.hid (HSO.out _ _ _ W1 (by simp (disch := omega) only [rput_ne]))
                clear W1
                refine region_late (fun W => W.cell? ⟨gu, ia, none⟩ = some (.pointer (some ⟨(us[ia]'hiu).1, 0, none⟩))) [] (by kernel_rfl) ?_
                rw [show ({ wc with drawn := wc.drawn + 1 } : World) = wd from hwd]
                clear hwd
                refine late_take 0 (.slice (some ⟨gu, 0, none⟩) k cu) rfl (by kernel_rfl) (by kernel_rfl) (by kernel_rfl) (by kernel_rfl) (fun _ _ _ h => h) (by kernel_rfl) S0.out (fun W' _ => by kernel_rfl) ?_
                refine late_take 1 (.int .i64 ia) rfl (by kernel_rfl) (by kernel_rfl) (by kernel_rfl) (by kernel_rfl) (fun _ _ _ h => h) (by kernel_rfl) S0.out (fun W' _ => by kernel_rfl) ?_
                refine late_take 2 (.pointer (some ⟨gu, ia, none⟩)) rfl (by kernel_rfl) (by kernel_rfl) (by kernel_rfl) (by kernel_rfl) (fun _ _ _ h => h) (by kernel_rfl) S0.out (fun W' _ => run_indexAddr_op 67 _ _ rfl gu k cu (by kernel_rfl) ia (by kernel_rfl) hil (by kernel_rfl) (fun W => by kernel_rfl)) ?_
                refine late_take 3 (.pointer (some ⟨(us[ia]'hiu).1, 0, none⟩)) rfl (by kernel_rfl) (by kernel_rfl) (by kernel_rfl) (by kernel_rfl) (fun _ _ _ h => h) (by kernel_rfl) S0.out (fun W' hW' => run_load_cell_op 68 _ rfl ⟨gu, ia, none⟩ (by kernel_rfl) hW' _ Try.underlying68 rfl) ?_
                refine late_take 4 (.pointer (some ⟨ptr, 0, none⟩)) rfl (by kernel_rfl) (by kernel_rfl) (by kernel_rfl) (by kernel_rfl) (fun _ _ _ h => h) (by kernel_rfl) S0.out (fun W' _ => by kernel_rfl) ?_
                refine late_take 6 (.pointer (some ⟨ptr, 0, none⟩)) rfl (by kernel_rfl) (by kernel_rfl) (by kernel_rfl) (by kernel_rfl) (fun _ _ _ h => h) (by kernel_rfl) S0.out (fun W' _ => by kernel_rfl) ?_
                refine late_one 5 rfl (by kernel_rfl) (by kernel_rfl) (fun K hK => ?_)
                go_wp2_with fail
                refine (ballot_any _ (propOf OW1.out (by omega) (t := 2 * jp + 11) (by simp (disch := omega) only [rput_ne]; rw [HIN.out.prop jp hpl, HPT.out]))).mono ?_
                rintro r w5 ⟨rfl, u5⟩
                rw [hb1, hb2]
                have OW5 := Lib.hid (OW1.out.upd0 u5)
                clear u5
                have S5 := Lib.hid (HSO.out _ _ _ OW5.out (by simp (disch := omega) only [rput_ne]))
                go_wp2_with fail
                refine hK _ _ (fun _ => S5.out) ?_
                clear hK K
                refine late_one 7 rfl (by kernel_rfl) (by kernel_rfl) (fun K hK => ?_)
                go_wp2_with fail
                refine (value_any _ (propOf OW5.out (by omega) (t := 2 * jp + 11) (by simp (disch := omega) only [rput_ne]; rw [HIN.out.prop jp hpl, HPT.out])) (by have := HVL.out; omega)).mono ?_
                rintro r w6 ⟨v6, rfl, b6, u6⟩
                obtain ⟨a6, c6, rfl, -⟩ := b6.slice
                have B6 := Lib.hid b6
                have OW6 := Lib.hid (OW5.out.upd0 u6)
                clear b6 u6
                have S6 := Lib.hid (HSO.out _ _ _ OW6.out (by simp (disch := omega) only [rput_ne]))
                go_wp2_with fail
                refine hK _ _ (fun _ => S6.out) ?_
                clear hK K
                refine late_one 8 rfl (by kernel_rfl) (by kernel_rfl) (fun K hK => ?_)
                go_wp2_with fail
                refine (ud_accept 1 (bal jp) _ _ _ (unitOf OW6.out (by omega) (t := 2 * ia + 10) (by simp (disch := omega) only [rput_ne]; exact HIN.out.laid.un ia hiu)) B6.out).mono ?_
                rintro r w7 ⟨rfl, hud7⟩
                obtain ⟨o7, W7, -⟩ := OW6.out.unit (by omega) hud7
                have OW7 := Lib.hid W7
                clear hud7 W7
                have S7 := Lib.hid (HSO.out _ _ _ OW7.out (by simp (disch := omega) only [rput_ne]))
                go_wp2_with fail
                refine hK _ _ (fun _ => S7.out) ?_
                clear hK K
                refine late_one 9 rfl (by kernel_rfl) (by kernel_rfl) (fun K hK => ?_)
                go_wp2_with fail
                refine hK _ _ (fun _ => S7.out) ?_
                clear hK K
                refine late_done (by kernel_rfl) ?_ _
                have hjb : jp ≤ 1000000 := by have := HIN.out.NN; omega
                have hroom : (pss ia).length < 400 := by have := HIN.out.few ia; omega
                obtain ⟨k1, k2, k5⟩ := acc_link hroom hjb (v := (qs jp).val) (by have := HVL.out; omega)
                obtain ⟨V', hV1, hV2⟩ := HIN.out.inv.accepts hil hjl HP.out
                rw [← k2] at hV2
                have hin1 := HIN.out.unit ia hiu _ (V' := V') (ρ' := rput (rput ρ 6 (cellT b17 #[.bool false, .bool x.cm, .int .i64 x.p, .int .i64 x.a, .slice xa x.l.length xc] 74)) (2 * ia + 10) (udT (us[ia]'hiu).1 (us[ia]'hiu).2 400 (accP 400 (pss ia) 1 (bal jp) (qs jp).val).2)) (fun t ht h => by simp (disch := omega) only [rput_ne]) (rput_same _ _ _) (by rw [fset_at pss ia _ _ k1]; exact hV1) (by have := HIN.out.few ia; omega)
                have HI1 := Lib.hid hin1
                have HA1 := Lib.hid (And.intro (fset_at pss ia _ _ k1) (And.intro hV1 hV2))
                have s6 := cellOf OW7.out (t := 6) (by decide) (g := b17) (cs := #[.bool false, .bool x.cm, .int .i64 x.p, .int .i64 x.a, .slice xa x.l.length xc]) (ty := 74) (by simp (disch := omega) only [rput_ne, rput_same])
                have f1 : w7.cell? ⟨b17, 1, none⟩ = some (.bool x.cm) := blk_cell s6 1
                have HPRe := Lib.hid (show PropAt w7 (Tg o7 (2 * jp + 11)) ptr (qs jp) by
                  have := propOf OW7.out (t := 2 * jp + 11) (p := pp[jp]) (s := qs jp) (by omega) (by simp (disch := omega) only [rput_ne]; exact HIN.out.prop jp hpl)
                  rw [HPT.out] at this
                  exact this)
                have HPI := Lib.hid (accepted_any ia (accP 400 (pss ia) 1 (bal jp) (qs jp).val).1 _ HPRe.out (few_ans HIN.out.inv hjl (by omega)))
                clear k1 k2 k5 hV1 hV2 hin1 s6
                obtain ⟨cm, hcm⟩ : ∃ cm, x.cm = cm := ⟨_, rfl⟩
                rw [hcm] at f1
                clear hcm
                cases cm
                case false =>
                  go_wp2_with fail
                  go_meet
                  case rel => exact ⟨rfl, _, _, _, _, _, OW7.out, HI1.out⟩
                case true =>
                  go_wp2_with fail
                  refine HPI.out.mono ?_
                  rintro r w8 ⟨rfl, hp8⟩
                  have H8 := Lib.hid hp8
                  clear hp8
                  go_wp2_with fail
                  go_meet
                  case rel =>
                    obtain ⟨o9, W9, -⟩ := OW7.out.prop (by omega) H8.out
                    refine ⟨rfl, _, _, _, _, _, W9, HI1.out.propSet jp hpl _ (fun t _ ht => rput_ne _ _ ht) (by rw [rput_same, HPT.out]) ?_ (by rw [HP.out]; decide)⟩
                    rw [HA1.out.1]
                    exact HA1.out.2.1.take2 hjl HP.out _ HA1.out.2.2
                -->
              · have hp1' : (ph == 1) = false := by simpa using hp1
                have hp2' : (ph == 2) = false := by simpa using hp2
                go_wp2_with fail
                go_meet
                case rel => exact ⟨rfl, _, _, _, _, _, OW0.out, (HIN.out.next).other (fun t ht => by simp (disch := omega) only [rput_ne])⟩
            case rest =>
              obtain ⟨rfl, o4, ρ4, pss4, V4, qs4, hown, hin⟩ := hcut
              have OW4 := Lib.hid hown
              have HI4 := Lib.hid hin
              have HPR4 := Lib.hid (show PropAt wc (Tg o4 (2 * jp + 11)) ptr (qs4 jp) by
                have := propOf hown (t := 2 * jp + 11) (p := pp[jp]) (s := qs4 jp) (by omega) (hin.prop jp hpl)
                rw [HPT.out] at this
                exact this)
              have hpv := hin.inv.val jp hjl
              obtain ⟨ph4, hph4⟩ : ∃ ph4, (qs4 jp).phase = ph4 := ⟨_, rfl⟩
              have HPH4 := Lib.hid (phase_any wc HPR4.out)
              rw [hph4] at HPH4
              have HP4 := Lib.hid hph4
              clear hown hin hph4 HPH HPR OW0 HIN HSO HP
              go_wp2_with fail
              refine HPH4.out.mono ?_
              rintro r w2 ⟨rfl, rfl⟩
              by_cases hp3 : ph4 = 3
              · subst hp3
                obtain ⟨vl, hvl⟩ : ∃ vl, (qs4 jp).val = vl := ⟨_, rfl⟩
                rw [hvl] at hpv
                cases hg : gGet kv vl with
                | none => rw [hg] at hpv; cases hpv
                | some vv =>
                obtain ⟨rfl, hl100⟩ := HI4.out.kvt _ _ hg
                have hlen : vl.length ≤ 100 := hl100
                have hval := value_any _ HPR4.out (by rw [hvl]; omega)
                rw [hvl] at hval
                have HVA := Lib.hid hval
                have HVL := Lib.hid hvl
                have hm4 := HI4.out.map
                have hmm := OW4.out.holds 3 (by decide)
                rw [hm4] at hmm
                have HM4 := Lib.hid hmm
                have hcho : anyb = true → chs = vl := fun ha => by
                  obtain ⟨j, h1, h2, h3⟩ := HI4.out.cho ha
                  rw [← h3, ← hvl]
                  exact HI4.out.inv.agree h1 hjl h2 HP4.out
                have HGG := Lib.hid hg
                clear hval hvl hm4 hmm hg hpv hl100 hlen HPH4
                go_wp2_with fail
                refine HVA.out.mono ?_
                rintro r w5 ⟨v5, rfl, b5, u5⟩
                obtain ⟨a5, c5, rfl, -⟩ := b5.slice
                have hs5 := b5.run_string w5 rfl
                have OW5 := Lib.hid (OW4.out.upd0 u5)
                have hlk := (HM4.out.1.upd u5 (fun h => h)).run_lookup (P := Try.prog) Try.underlying72 (str_ok Try.underlying9) (show (zeroValue 4).run Try.prog w5 = .ok (.bool false) w5 by kernel_rfl) vl false
                rw [show gGet kv vl = some (.bool true) from HGG.out] at hlk
                have hlk' : (Instr.lookup 72 (.map (some m)) (.string ⟨vl.toArray⟩) false).run Try.prog w5 = .ok (.bool true) w5 := hlk
                clear hlk b5 u5
                cases anyb
                case false =>
                  clear hcho
                  go_wp2_with fail
                  go_roundw
                  case rel => exact ⟨q + 1, N, pp, qs4, true, vl, o4, by omega, by go_num, rfl, rfl, pss4, V4, kv, ρ4, OW5.out, { HI4.out with cho := fun _ => ⟨jp, hjl, HP4.out, HVL.out⟩ }⟩
                  case measure => simp [intOf]; omega
                case true =>
                  obtain rfl := hcho rfl
                  clear hcho
                  go_wp2_with fail
                  go_roundw
                  case rel => exact ⟨q + 1, N, pp, qs4, true, chs, o4, by omega, by go_num, rfl, rfl, pss4, V4, kv, ρ4, OW5.out, HI4.out⟩
                  case measure => simp [intOf]; omega
              · have hp3' : (ph4 == 3) = false := by simpa using hp3
                go_wp2_with fail
                go_roundw
                case rel => exact ⟨q + 1, N, pp, qs4, anyb, chs, o4, by omega, by go_num, rfl, rfl, pss4, V4, kv, ρ4, OW4.out, HI4.out⟩
                case measure => simp [intOf]; omega
        · obtain rfl : q = la.length := by omega
          go_wp2_with fail
          go_ret
          exact ⟨rfl, U.out⟩
end Go.Proofs.Ytplhgeecnnadhaa
