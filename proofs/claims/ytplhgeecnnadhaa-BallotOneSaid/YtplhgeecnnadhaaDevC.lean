/- The device: Crash, the walk. -/
import Derived.Test.YtplhgeecnnadhaaDevB
import Derived.IntWalk
namespace Go.Proofs.Ytplhgeecnnadhaa
open Go.RowKit
variable {F G : Nat → Prop} {w w1 : World} {d : Nat} {s : DS}
/-- behind the picks -/
def PickRel (w : World) (G : Nat → Prop) (pk : List UInt8) (s1 : Value) (W : World) : Prop := Bytes W (fun k => G k ∨ w.heap.size ≤ k) s1 pk ∧ Upd NoF w W
set_option maxHeartbeats 400000 in
theorem sync_raw (w : World) (size x : Int) (a : Option Addr) (n c : Nat) (hb : w.heap[d]? = some (.cells #[.int .i64 size, .slice a n c, .int .i64 x] 125 (0, 0))) :
    Calls Try.prog 22 #[.pointer (some ⟨d, 0, none⟩)] w (fun r w' => r = .returned (.tuple #[]) ∧ w' = w.setCell ⟨d, 2, none⟩ (.int .i64 n)) := by
  have c1 : w.cell? ⟨d, 1, none⟩ = some (.slice a n c) := blk_cell hb 1
  have f := blk_free hb
  have c2 : w.cell? ⟨d, 2, none⟩ = some (.int .i64 x) := blk_cell hb 2
  clear hb
  go_enter Try.func22, Try.ntmps22
  go_wp2_with fail
  go_end0
  exact ⟨rfl, rfl⟩
theorem crash_close {W : World} {vp : Value} {m : List Pg} {picks : List UInt8} {x : Int} (hok : s.ok) (hlt : ∀ k, F k → k < W.heap.size) (hd : F d) (hb : W.heap[d]? = some (.cells #[.int .i64 s.size, vp, .int .i64 x] 125 (0, 0)))
    (hr : Row W (fun k => F k ∧ k ≠ d) 128 2 vp m.length (m.flatMap Pg.cells)) (hx : ∀ x ∈ m, Bytes W (fun k => F k ∧ k ≠ d ∧ vp.ownBlock ≠ some k) x.v x.bs) (hp : m.map Pg.plain = (s.crash picks).pages)
    (hs : m.length ≤ s.size) (hm : ∀ x ∈ m, x.bs.length ≤ 140737488355328) : DevAt (W.setCell ⟨d, 2, none⟩ (.int .i64 m.length)) F d (s.crash picks) := by
  have u : Upd (OneF d) W (W.setCell ⟨d, 2, none⟩ (.int .i64 m.length)) := (Upd.refl _ _).set1 _ _
  have hl : (s.crash picks).pages.length = m.length := by rw [← hp]; simp
  have hla : (s.crash picks).lasts = m.length := hl
  refine ⟨⟨hok.1, hok.2.1, by rw [hl]; exact hs, by rw [hl, hla]; exact Nat.le_refl _, fun p hp' => ?_⟩, fun k hk => Nat.lt_of_lt_of_le (hlt k hk) u.size, vp, m, ?_, hr.upd u (fun k hk h => hk.2 h), fun x h => (hx x h).upd u (fun k hk h => hk.2.1 h), hp, hd⟩
  · rw [← hp] at hp'
    obtain ⟨y, hy, rfl⟩ := List.mem_map.1 hp'
    exact hm y hy
  · rw [blk_set hb, hla]
    simp [DS.crash]
/-- in the midst of the second loop -/
def DropRel (w0 : World) (F : Nat → Prop) (d : Nat) (s : DS) (T : List (Int × List UInt8)) (gk : Nat) (W : World) : Prop :=
  ∃ (vp : Value) (l : List Pg), W.heap[d]? = some (.cells #[.int .i64 s.size, vp, .int .i64 s.lasts] 125 (0, 0)) ∧ l.length = gk ∧ Upd F w0 W ∧ Row W (fun k => F k ∧ k ≠ d) 128 2 vp l.length (l.flatMap Pg.cells) ∧
    (∀ x ∈ l, Bytes W (fun k => F k ∧ k ≠ d ∧ vp.ownBlock ≠ some k) x.v x.bs) ∧ dropEmpty (l.map Pg.plain) = dropEmpty T ∧ l.length ≤ s.size ∧ ∀ x ∈ l, x.bs.length ≤ 140737488355328
theorem turned_small (pk : Nat → Int) {l : List (Int × List UInt8)} (h : ∀ p ∈ l, p.2.length ≤ 140737488355328) : ∀ (lasts k : Nat), ∀ p ∈ turnedTo pk lasts k l, p.2.length ≤ 140737488355328 := by
  have ht : ∀ (l : List (Int × List UInt8)) (i : Nat), (∀ p ∈ l, p.2.length ≤ 140737488355328) → ∀ p ∈ turnTail pk i l, p.2.length ≤ 140737488355328 := by
    intro l
    induction l with
    | nil => intro i _ p hp; cases hp
    | cons q r ih =>
      intro i h p hp
      simp only [turnTail, List.mem_cons] at hp
      rcases hp with rfl | hp
      · unfold turnOne; simp only; split
        · exact h q (by simp)
        · simp
      · exact ih (i + 1) (fun p hp => h p (by simp [hp])) p hp
  intro lasts k p hp
  simp only [turnedTo, List.mem_append] at hp
  rcases hp with (hp | hp) | hp
  · exact h p (List.mem_of_mem_take hp)
  · exact ht _ 0 (fun p hp => h p (List.mem_of_mem_drop (List.mem_of_mem_take hp))) p hp
  · exact h p (List.mem_of_mem_drop hp)
/-- in the midst of the first loop: k pages are turned -/
def TurnRel (w0 : World) (F : Nat → Prop) (d : Nat) (s : DS) (pk : Nat → Int) (vp : Value) (gk : Nat) (i : Value) (W : World) : Prop :=
  ∃ k : Nat, i = .int .i64 k ∧ s.lasts + k + gk = s.pages.length ∧ Upd (fun k => vp.ownBlock = some k) w0 W ∧ ∃ l : List Pg, Row W (fun k => F k ∧ k ≠ d) 128 2 vp l.length (l.flatMap Pg.cells) ∧
    (∀ x ∈ l, Bytes W (fun k => F k ∧ k ≠ d ∧ vp.ownBlock ≠ some k) x.v x.bs) ∧ l.map Pg.plain = turnedTo pk s.lasts k s.pages
/-- behind the first reading -/
def LenRel (wc : World) (n : Nat) (s19 s20 : Value) (W : World) : Prop := s19 = .int .i64 n ∧ s20 = .int .i64 0 ∧ ∃ m, W = wc.drewN m
set_option maxRecDepth 100000 in
set_option maxHeartbeats 8000000 in
theorem dev_crash (v : Value) (picks : List UInt8) (w : World) (h : DevAt w F d s) (hv : Bytes w G v picks) (hG : ∀ k, G k → ¬ F k) (hp : picks.length ≤ 140737488355328) :
    Calls Try.prog 23 #[.pointer (some ⟨d, 0, none⟩), v] w (fun r w' => r = .returned (.tuple #[]) ∧ DevAt w' F d (s.crash picks) ∧ Upd F w w') := by
  obtain ⟨va, vc, rfl, hvc⟩ := hv.slice
  have HV := Lib.hid hv
  have HD := Lib.hid h
  have HP := Lib.hid hp
  clear hv h hvc hp
  go_enter Try.func23, Try.ntmps23
  go_upto_if 8 with fail
  go_cut [1] (PickRel w G (realPicks picks))
  case first =>
    by_cases h0 : picks = []
    · subst h0
      go_wp2_with fail
      go_meet
      refine ⟨?_, (Upd.refl _ _).alloc _⟩
      exact ⟨_, 1, rfl, Nat.le_refl _, fun _ => ⟨w.heap.size, 0, rfl, .inr (Nat.le_refl _), _, _, _, blk_new w _, fun i hi => ⟨_, rfl, rfl, fun j hj => by
        obtain rfl : i = 0 := by simpa [realPicks] using hi
        obtain rfl : j = 0 := by omega
        rfl⟩⟩⟩
    · have hne : ((picks.length : Int) == 0) = false := by
        cases picks with
        | nil => exact absurd rfl h0
        | cons a b => simp; omega
      have HE := Lib.hid (show realPicks picks = picks by unfold realPicks; rw [if_neg h0])
      go_wp2_with fail
      go_meet
      exact ⟨by rw [HE.out]; exact HV.out.mono (fun k hk => .inl hk), Upd.refl _ _⟩
  case rest =>
    obtain ⟨hb1, hu1⟩ := hcut
    generalize wc = wb at *
    have hpos : 1 ≤ (realPicks picks).length := by
      unfold realPicks; split
      · simp
      · rename_i h; cases picks with
        | nil => exact absurd rfl h
        | cons a b => simp
    have hple : (realPicks picks).length ≤ 140737488355328 := by
      unfold realPicks; split
      · simp
      · exact HP.out
    have hdev := HD.out.upd hu1 (fun _ _ h => h)
    have HU1 := Lib.hid hu1
    have HB1 := Lib.hid hb1
    clear HV HP
    obtain ⟨⟨k1, k2, k3, k4, k5⟩, hltF, vp, l, hb, hr, hx, hll, hd⟩ := hdev
    obtain ⟨pa, pc, hs1, _⟩ := hb1.slice
    obtain ⟨a, c, rfl, hc, _⟩ := hr.slice
    have hln : l.length = s.pages.length := by rw [← hll]; simp
    have c1 : wb.cell? ⟨d, 1, none⟩ = some (.slice a l.length c) := blk_cell hb 1
    have c2 : wb.cell? ⟨d, 2, none⟩ = some (.int .i64 s.lasts) := blk_cell hb 2
    have HB := Lib.hid hb
    have HR := Lib.hid hr
    have HX := Lib.hid hx
    have HLL := Lib.hid hll
    have hq : s.lasts ≤ l.length := by omega
    have hq2 : (s.lasts : Int) ≤ (l.length : Int) := by omega
    have HLN := Lib.hid hln
    clear hb hx hll hb1 hu1 hln
    subst hs1
    have HPB := Lib.hid (hr.2)
    clear hr
    go_upto_region 2 with fail
    go_cut [19, 20] (LenRel wb (l.length - s.lasts))
    case first =>
      go_wp2_with fail
      go_quiet (fail)
      go_wp2_with fail
      all_goals
        go_meet
        exact ⟨rfl, rfl, _, rfl⟩
    case rest =>
      obtain ⟨rfl, rfl, m0, hwm⟩ := hcut
      generalize hvp : (Value.slice a l.length c) = vp at HB HR HX HPB
      have HVP := Lib.hid hvp
      clear hvp
      have u0 : Upd (fun k => vp.ownBlock = some k) wb wc := by rw [hwm]; exact (Upd.refl _ _).drewN _
      have R0 := HR.out.upd ((Upd.refl NoF wb).drewN m0) (fun _ _ h => h)
      rw [← hwm] at R0
      have X0 : ∀ x ∈ l, Bytes wc (fun k => F k ∧ k ≠ d ∧ vp.ownBlock ≠ some k) x.v x.bs := fun x hx => by rw [hwm]; exact (HX.out x hx).upd ((Upd.refl NoF wb).drewN m0) (fun _ _ h => h)
      have HU0 := Lib.hid u0
      have HR0 := Lib.hid R0
      have HX0 := Lib.hid X0
      have HWM := Lib.hid hwm
      clear u0 R0 X0 hwm c1 c2
      go_wp2_with fail
      go_loopg [20] (s.pages.length - s.lasts) (TurnRel wb F d s (pickAt (realPicks picks)) vp)
      case atStart => exact ⟨0, rfl, by have := HLN.out; omega, HU0.out, l, HR0.out, HX0.out, by rw [turnedTo_zero]; exact HLL.out⟩
      case round =>
        obtain ⟨k, rfl, hk, hu, l', hr', hx', hl'⟩ := hrel
        by_cases hlt : k < l.length - s.lasts
        · obtain ⟨g, hag⟩ : ∃ g, a = some ⟨g, 0, none⟩ := by
            have hr0 := HR.out
            rw [← HVP.out] at hr0
            obtain ⟨a', c', he, _, _, hn, hs⟩ := hr0.slice
            simp only [Value.slice.injEq] at he
            obtain ⟨rfl, _, rfl⟩ := he
            cases a with
            | none => have := (hn rfl).1; omega
            | some x => exact ⟨x.block, by rw [← (hs x rfl).1]⟩
          subst hag
          have hvp := HVP.out.symm
          have hl'n : l'.length = l.length := by
            have := congrArg List.length hl'
            rw [turnedTo_length _ (by omega)] at this
            simpa [HLN.out] using this
          have hj : s.lasts + k < l'.length := by omega
          have hbd := hu.blk HB.out (fun h => (HPB.out d h).2 rfl)
          rw [hvp] at hbd
          have e1 : wr.cell? ⟨d, 1, none⟩ = some (.slice (some ⟨g, 0, none⟩) l.length c) := blk_cell hbd 1
          have e2 : wr.cell? ⟨d, 2, none⟩ = some (.int .i64 s.lasts) := blk_cell hbd 2
          have hr2 := hr'
          rw [hvp, ← hl'n] at hr2
          have z0 : wr.cell? ⟨g, (s.lasts + k) * 2, none⟩ = some (.int .i64 (l'[s.lasts + k]'hj).st) := hr2.cell _ (cells_at l' _ hj).1
          have z1 : wr.cell? ⟨g, (s.lasts + k) * 2 + 1, none⟩ = some (l'[s.lasts + k]'hj).v := hr2.cell _ (cells_at l' _ hj).2
          have f0 := hr2.free
          generalize (l'[s.lasts + k]'hj).st = st0 at z0
          generalize (l'[s.lasts + k]'hj).v = v0 at z1
          have hpb : ∀ i, (hi : i < (realPicks picks).length) → ∃ pg po, pa = some ⟨pg, po, none⟩ ∧ wr.cell? ⟨pg, po + i, none⟩ = some (.int .u8 (((realPicks picks)[i]'hi).toNat : Int)) := fun i hi => by
            have hne : realPicks picks ≠ [] := by intro e; rw [e] at hi; simp at hi
            obtain ⟨pg, po, h1, h2, h3⟩ := (HB1.out.upd hu (fun q hq h => by
              have hf := HPB.out q h
              rcases hq with hq | hq
              · exact hG q hq hf.1
              · have := HD.out.lt q hf.1; omega)).at_ hne
            exact ⟨pg, po, h1, h3 i hi⟩
          obtain ⟨pg, po, rfl, hpick⟩ := hpb (k % (realPicks picks).length) (Nat.mod_lt _ hpos)
          have hpv : pickAt (realPicks picks) k = ((((realPicks picks)[k % (realPicks picks).length]'(Nat.mod_lt _ hpos)).toNat % 3 : Nat) : Int) := by
            unfold pickAt; rw [List.getD_eq_getElem?_getD, List.getElem?_eq_getElem (Nat.mod_lt _ hpos)]; rfl
          have hb255 : ((realPicks picks)[k % (realPicks picks).length]'(Nat.mod_lt _ hpos)).toNat < 256 := UInt8.toNat_lt _
          generalize ((realPicks picks)[k % (realPicks picks).length]'(Nat.mod_lt _ hpos)).toNat = pb at hpick hpv hb255
          have HJ := Lib.hid hj
          have HK := Lib.hid hk
          have HUR := Lib.hid hu
          have HRR := Lib.hid hr2
          have HXR := Lib.hid hx'
          have HLR := Lib.hid hl'
          have HPV := Lib.hid hpv
          have HLN' := Lib.hid hl'n
          have b1 : s.lasts + k < l.length := by omega
          have b2 : (l.length : Int) ≤ 65536 := by have := HLN.out; omega
          clear hj hk hu hr2 hx' hl' hpv hl'n hpb hbd hr' hvp hq hq2
          have hm0 : (0 : Int) ≤ (k : Int) % ((realPicks picks).length : Int) := Int.emod_nonneg _ (by omega)
          have hm1 : (k : Int) % ((realPicks picks).length : Int) < ((realPicks picks).length : Int) := Int.emod_lt_of_pos _ (by omega)
          by_cases hp3 : pb % 3 = 1
          · have hbb : (((pb : Int) % 3) != 1) = false := by simp; omega
            have hown : vp.ownBlock = some g := by rw [← HVP.out]; rfl
            have hs := turnedTo_succ (pickAt (realPicks picks)) (k := k) (lasts := s.lasts) (l := s.pages) (by have := HLN.out; omega)
            go_wp2_with fail
            go_quiet (fail)
            go_wp2_with fail
            go_roundg (gk - 1)
            case measure => have := HK.out; have := HLN.out; omega
            case rel =>
              have hj := HJ.out
              have hr0 := HRR.out.upd ((Upd.refl NoF wr).drewN nq) (fun _ _ h => h)
              have hx0 : ∀ x ∈ l', Bytes (wr.drewN nq) (fun k => F k ∧ k ≠ d ∧ vp.ownBlock ≠ some k) x.v x.bs := fun x hx => (HXR.out x hx).upd ((Upd.refl NoF wr).drewN nq) (fun _ _ h => h)
              have hpl : l'[s.lasts + k].plain = s.pages[s.lasts + k]'(by have := HLN.out; omega) := by
                have h1 := hs.1
                rw [← HLR.out, List.getElem?_map, List.getElem?_eq_getElem hj] at h1
                simpa using h1
              refine ⟨k + 1, by go_num, by have := HK.out; have := HLN.out; omega, ?_, l'.set (s.lasts + k) ⟨((pb : Int) % 3), l'[s.lasts + k].v, l'[s.lasts + k].bs⟩, ?_, ?_, ?_⟩
              · exact (HUR.out.drewN nq).set (p := ⟨g, (s.lasts + k) * 2, none⟩) (fun _ => hown) _
              · rw [List.length_set, ← HVP.out]
                have := hr0.set ((s.lasts + k) * 2) (.int .i64 ((pb : Int) % 3))
                rw [cells_set0 l' _ hj] at this
                rwa [HLN'.out] at this ⊢
              · intro x hx
                have hxm := List.mem_or_eq_of_mem_set hx
                have hu : Upd (OneF g) (wr.drewN nq) ((wr.drewN nq).setCell ⟨g, (s.lasts + k) * 2, none⟩ (.int .i64 ((pb : Int) % 3))) := (Upd.refl _ _).set1 _ _
                rcases hxm with h | rfl
                · exact (hx0 x h).upd hu (fun q hq h => by simp only [OneF] at h; subst h; exact hq.2.2 hown)
                · exact (hx0 _ (List.getElem_mem hj)).upd hu (fun q hq h => by simp only [OneF] at h; subst h; exact hq.2.2 hown)
              · rw [map_set, HLR.out, hs.2]
                congr 1
                simp only [Pg.plain, turnOne, HPV.out, ← hpl]
                rw [if_pos (by omega)]
                simp
          · have hbb : (((pb : Int) % 3) != 1) = true := by simp; omega
            have hown : vp.ownBlock = some g := by rw [← HVP.out]; rfl
            have hs := turnedTo_succ (pickAt (realPicks picks)) (k := k) (lasts := s.lasts) (l := s.pages) (by have := HLN.out; omega)
            go_wp2_with fail
            go_quiet (fail)
            go_wp2_with fail
            go_roundg (gk - 1)
            case measure => have := HK.out; have := HLN.out; omega
            case rel =>
              have hj := HJ.out
              have hr0 := HRR.out.upd ((Upd.refl NoF wr).drewN nq) (fun _ _ h => h)
              have hx0 : ∀ x ∈ l', Bytes (wr.drewN nq) (fun k => F k ∧ k ≠ d ∧ vp.ownBlock ≠ some k) x.v x.bs := fun x hx => (HXR.out x hx).upd ((Upd.refl NoF wr).drewN nq) (fun _ _ h => h)
              have hpl : l'[s.lasts + k].plain = s.pages[s.lasts + k]'(by have := HLN.out; omega) := by
                have h1 := hs.1
                rw [← HLR.out, List.getElem?_map, List.getElem?_eq_getElem hj] at h1
                simpa using h1
              refine ⟨k + 1, by go_num, by have := HK.out; have := HLN.out; omega, ?_, l'.set (s.lasts + k) ⟨((pb : Int) % 3), .slice none 0 0, []⟩, ?_, ?_, ?_⟩
              · exact ((HUR.out.drewN nq).set (p := ⟨g, (s.lasts + k) * 2, none⟩) (fun _ => hown) _).set (p := ⟨g, (s.lasts + k) * 2 + 1, none⟩) (fun _ => hown) _
              · rw [List.length_set, ← HVP.out]
                have := (hr0.set ((s.lasts + k) * 2) (.int .i64 ((pb : Int) % 3))).set ((s.lasts + k) * 2 + 1) (.slice none 0 0)
                rw [cells_set l' _ hj _ _ []] at this
                rwa [HLN'.out] at this ⊢
              · intro x hx
                have hxm := List.mem_or_eq_of_mem_set hx
                have hu : Upd (OneF g) (wr.drewN nq) (((wr.drewN nq).setCell ⟨g, (s.lasts + k) * 2, none⟩ (.int .i64 ((pb : Int) % 3))).setCell ⟨g, (s.lasts + k) * 2 + 1, none⟩ (.slice none 0 0)) := ((Upd.refl _ _).set1 _ _).set1 _ _
                rcases hxm with h | rfl
                · exact (hx0 x h).upd hu (fun q hq h => by simp only [OneF] at h; subst h; exact hq.2.2 hown)
                · exact Slc.nil _ _ _ _ _ _
              · rw [map_set, HLR.out, hs.2]
                congr 1
                simp only [Pg.plain, turnOne, HPV.out]
                rw [if_neg (by omega)]
                simp
        · have hkl : k = s.pages.length - s.lasts := by have := HLN.out; omega
          have hgk : gk = 0 := by have := HLN.out; omega
          subst hgk
          have hbd := hu.blk HB.out (fun h => (HPB.out d h).2 rfl)
          have huF : Upd F wb wr := hu.mono (fun q _ h => (HPB.out q h).1)
          have HBD := Lib.hid hbd
          have HUF := Lib.hid huF
          have HR' := Lib.hid hr'
          have HX' := Lib.hid hx'
          have hl'n : l'.length = l.length := by
            have := congrArg List.length hl'
            rw [turnedTo_length _ (by omega)] at this
            simpa [HLN.out] using this
          have hsm : ∀ x ∈ l', x.bs.length ≤ 140737488355328 := fun x hx => by
            have := turned_small (pickAt (realPicks picks)) k5 s.lasts k x.plain (by rw [← hl']; exact List.mem_map_of_mem hx)
            exact this
          have HSM := Lib.hid hsm
          have HL' := Lib.hid hl'
          have HLN' := Lib.hid hl'n
          have HKL := Lib.hid hkl
          clear hbd huF hr' hx' hl'n hsm hl' hkl hk hu
          go_wp2_with fail
          go_loopg [] l'.length (DropRel wb F d s (turnedTo (pickAt (realPicks picks)) s.lasts k s.pages))
          case atStart => exact ⟨vp, l', HBD.out, rfl, HUF.out, HR'.out, HX'.out, by rw [HL'.out], by have := HLN'.out; have := HLN.out; omega, HSM.out⟩
          case round =>
            obtain ⟨vq, m, hb2, hgk2, hu2, hr2, hx2, hd2, hs2, hm2⟩ := hrel
            obtain ⟨a2, c2, rfl, hc2, _, hn2, hs3⟩ := hr2.slice
            have e1 : wr.cell? ⟨d, 1, none⟩ = some (.slice a2 m.length c2) := blk_cell hb2 1
            have hlt2 : ∀ q, F q → q < wr.heap.size := fun q hq => Nat.lt_of_lt_of_le (hltF q hq) hu2.size
            have HB2 := Lib.hid hb2
            have HU2 := Lib.hid ((HU1.out.mono (fun _ _ h => h.elim) : Upd F w wb).trans hu2 (fun _ _ h => h))
            have HU2w := Lib.hid hu2
            have HR2 := Lib.hid hr2
            have HX2 := Lib.hid hx2
            have HD2 := Lib.hid hd2
            have HM2 := Lib.hid hm2
            have HS2 := Lib.hid hs2
            have HGK := Lib.hid hgk2
            have b3 : (m.length : Int) ≤ 65536 := by omega
            have hfr := blk_free hb2
            clear hb2 hu2 hx2 hd2 hm2 hs2 hgk2
            by_cases hm0 : m = []
            · have hn : m.length = 0 := by rw [hm0]; rfl
              have hpg : m.map Pg.plain = (s.crash picks).pages := by
                show _ = dropEmpty _
                rw [← HKL.out, ← HD2.out, hm0]; rfl
              have HPG := Lib.hid hpg
              have HN := Lib.hid hn
              have hn' : decide ((0 : Int) < (m.length : Int)) = false := by simp; omega
              have hn3 : decide (0 < m.length) = false := by simp; omega
              clear hm0 hpg hn hr2
              go_wp2_with fail
              go_quiet (fail)
              go_wp2_with fail
              refine (sync_raw _ _ _ a2 m.length c2 (show (World.drewN wr nq).heap[d]? = _ from HB2.out)).mono ?_
              rintro r w9 ⟨rfl, rfl⟩
              go_wp2_with fail
              go_end0
              exact ⟨rfl, crash_close ⟨k1, k2, k3, k4, k5⟩ hlt2 hd (show (World.drewN wr nq).heap[d]? = _ from HB2.out) (HR2.out.upd ((Upd.refl NoF wr).drewN nq) (fun _ _ h => h)) (fun x hx => (HX2.out x hx).upd ((Upd.refl NoF wr).drewN nq) (fun _ _ h => h)) HPG.out HS2.out HM2.out, (HU2.out.drewN nq).set (p := ⟨d, 2, none⟩) (fun _ => hd) _⟩
            · have hn : 1 ≤ m.length := by
                cases m with
                | nil => exact absurd rfl hm0
                | cons y t => simp
              obtain ⟨g, hag⟩ : ∃ g, a2 = some ⟨g, 0, none⟩ := by
                cases a2 with
                | none => have := (hn2 rfl).1; omega
                | some x => exact ⟨x.block, by rw [← (hs3 x rfl).1]⟩
              subst hag
              clear hn2 hs3
              have hj : m.length - 1 < m.length := by omega
              have z0 : wr.cell? ⟨g, (m.length - 1) * 2, none⟩ = some (.int .i64 (m[m.length - 1]'hj).st) := hr2.cell _ (cells_at m _ hj).1
              have hsplit : m = m.dropLast ++ [m[m.length - 1]'hj] := by
                have := List.dropLast_concat_getLast hm0
                rw [List.getLast_eq_getElem] at this
                exact this.symm
              have hde : dropEmpty (m.map Pg.plain) = if (m[m.length - 1]'hj).st = 0 then dropEmpty (m.dropLast.map Pg.plain) else m.map Pg.plain := by
                conv => lhs; rw [hsplit, List.map_append, List.map_cons, List.map_nil, dropEmpty_snoc]
                show (if (m[m.length - 1]'hj).st = 0 then _ else _) = _
                split
                · rfl
                · conv => rhs; rw [hsplit, List.map_append, List.map_cons, List.map_nil]
              have HDE := Lib.hid hde
              have HSP := Lib.hid hsplit
              have hn' : decide ((0 : Int) < (m.length : Int)) = true := by simp; omega
              have hn3 : decide (0 < m.length) = true := by simp; omega
              have hi0 : (0 : Int) ≤ (m.length : Int) - 1 := by omega
              have hi1 : (1 : Int) ≤ (m.length : Int) := by omega
              have hi4 : (m.length : Int) - 1 < (m.length : Int) := by omega
              have hi2 : ((m.length : Int) - 1).toNat = m.length - 1 := by omega
              clear hde hsplit hr2
              by_cases hst : (m[m.length - 1]'hj).st = 0
              · have hst' : ((m[m.length - 1]'hj).st == 0) = true := by simpa using hst
                have hde2 : dropEmpty (m.dropLast.map Pg.plain) = dropEmpty (turnedTo (pickAt (realPicks picks)) s.lasts k s.pages) := by
                  rw [← HD2.out, HDE.out, if_pos hst]
                have HDE2 := Lib.hid hde2
                generalize (m[m.length - 1]'hj).st = st9 at z0 hst'
                clear hst hm0 hde2
                go_wp2_with fail
                go_quiet (fail)
                go_wp2_with fail
                refine region_late (fun W => W.cell? ⟨d, 1, none⟩ = some (.slice (some ⟨g, 0, none⟩) m.length c2)) [14] (by kernel_rfl) ?_
                obtain ⟨wz, hwz⟩ : ∃ wz, wz = (World.drewN wr nq).drew := ⟨_, rfl⟩
                change wpAnyE _ _ _ _ _ _ _ _ _ (World.drewN wr nq).drew
                rw [← hwz]
                have uz : Upd NoF wr wz := by rw [hwz]; exact ((Upd.refl NoF wr).drewN nq).drew
                have SX := Lib.hid (uz.cell0 e1)
                have UZ := Lib.hid uz
                have f6 := blk_free (uz.blk0 HB2.out) 1
                have s6 := SX.out
                clear hwz uz
                refine late_take 0 (.pointer (some ⟨d, 0, none⟩)) rfl (by kernel_rfl) (by kernel_rfl) (by kernel_rfl) (by kernel_rfl) (fun _ _ _ h => h) (by kernel_rfl) SX.out (fun W' _ => by kernel_rfl) ?_
                refine late_take 1 (.pointer (some ⟨d, 0, none⟩)) rfl (by kernel_rfl) (by kernel_rfl) (by kernel_rfl) (by kernel_rfl) (fun _ _ _ h => h) (by kernel_rfl) SX.out (fun W' _ => by kernel_rfl) ?_
                refine late_take 2 (.pointer (some ⟨d, 0, none⟩)) rfl (by kernel_rfl) (by kernel_rfl) (by kernel_rfl) (by kernel_rfl) (fun _ _ _ h => h) (by kernel_rfl) SX.out (fun W' _ => by kernel_rfl) ?_
                refine late_take 3 (.pointer (some ⟨d, 1, none⟩)) rfl (by kernel_rfl) (by kernel_rfl) (by kernel_rfl) (by kernel_rfl) (fun _ _ _ h => h) (by kernel_rfl) SX.out (fun W' _ => by kernel_rfl) ?_
                refine late_take 4 (.slice (some ⟨g, 0, none⟩) m.length c2) rfl (by kernel_rfl) (by kernel_rfl) (by kernel_rfl) (by kernel_rfl) (fun _ _ _ h => h) (by kernel_rfl) SX.out (fun W' hW' => run_load_cell_op 123 _ rfl ⟨d, 1, none⟩ (by kernel_rfl) hW' _ Try.underlying123 rfl) ?_
                refine late_take 5 (.pointer (some ⟨d, 0, none⟩)) rfl (by kernel_rfl) (by kernel_rfl) (by kernel_rfl) (by kernel_rfl) (fun _ _ _ h => h) (by kernel_rfl) SX.out (fun W' _ => by kernel_rfl) ?_
                refine late_take 6 (.pointer (some ⟨d, 0, none⟩)) rfl (by kernel_rfl) (by kernel_rfl) (by kernel_rfl) (by kernel_rfl) (fun _ _ _ h => h) (by kernel_rfl) SX.out (fun W' _ => by kernel_rfl) ?_
                refine late_take 7 (.pointer (some ⟨d, 1, none⟩)) rfl (by kernel_rfl) (by kernel_rfl) (by kernel_rfl) (by kernel_rfl) (fun _ _ _ h => h) (by kernel_rfl) SX.out (fun W' _ => by kernel_rfl) ?_
                refine late_take 8 (.slice (some ⟨g, 0, none⟩) m.length c2) rfl (by kernel_rfl) (by kernel_rfl) (by kernel_rfl) (by kernel_rfl) (fun _ _ _ h => h) (by kernel_rfl) SX.out (fun W' hW' => run_load_cell_op 123 _ rfl ⟨d, 1, none⟩ (by kernel_rfl) hW' _ Try.underlying123 rfl) ?_
                refine late_one 9 rfl (by kernel_rfl) (by kernel_rfl) (fun K hK => ?_)
                go_wp2_with fail
                refine hK _ _ (fun _ => SX.out) ?_
                clear hK K
                refine late_one 10 rfl (by kernel_rfl) (by kernel_rfl) (fun K hK => ?_)
                go_wp2_with fail
                refine hK _ _ (fun _ => SX.out) ?_
                clear hK K
                refine late_one 11 rfl (by kernel_rfl) (by kernel_rfl) (fun K hK => ?_)
                go_wp2_with fail
                refine hK _ _ (fun _ => SX.out) ?_
                clear hK K
                refine late_one 12 rfl (by kernel_rfl) (by kernel_rfl) (fun K hK => ?_)
                go_wp2_with fail
                refine hK _ _ (fun _ => SX.out) ?_
                clear hK K
                refine late_one 13 rfl (by kernel_rfl) (by kernel_rfl) (fun K hK => ?_)
                go_wp2_with fail
                refine hK _ _ (fun _ => SX.out) ?_
                clear hK K
                refine late_one 14 rfl (by kernel_rfl) (by kernel_rfl) (fun K hK => ?_)
                go_wp2_with fail
                refine hK _ _ (fun h => (by cases h)) ?_
                clear hK K
                refine late_done (by kernel_rfl) ?_ _
                go_wp2_with fail
                go_roundg (gk - 1)
                case measure => have := HGK.out; omega
                case rel =>
                  have u : Upd (OneF d) wr (wz.setCell ⟨d, 1, none⟩ (.slice (some ⟨g, 0, none⟩) (m.length - 1) c2)) := (UZ.out.mono (fun _ _ h => h.elim)).set1 _ _
                  have hdl : m.dropLast.length = m.length - 1 := by simp
                  refine ⟨.slice (some ⟨g, 0, none⟩) (m.length - 1) c2, m.dropLast, ?_, by have := HGK.out; omega, (HU2w.out.then0 UZ.out).set (p := ⟨d, 1, none⟩) (fun _ => hd) _, ?_, fun x hx => (HX2.out x (List.dropLast_subset _ hx)).upd u (fun q hq h => hq.2.1 h), HDE2.out, by have := HS2.out; omega, fun x hx => HM2.out x (List.dropLast_subset _ hx)⟩
                  · have := blk_set (UZ.out.blk0 HB2.out) 1 (.slice (some ⟨g, 0, none⟩) (m.length - 1) c2)
                    simpa using this
                  · rw [hdl, cells_dropLast]
                    exact (HR2.out.shrink (by omega)).upd u (fun q hq h => hq.2 h)
              · have hpg : m.map Pg.plain = (s.crash picks).pages := by
                  show _ = dropEmpty _
                  rw [← HKL.out, ← HD2.out, HDE.out, if_neg hst]
                have HPG := Lib.hid hpg
                have hst' : ((m[m.length - 1]'hj).st == 0) = false := by simpa using hst
                generalize (m[m.length - 1]'hj).st = st9 at z0 hst'
                clear hpg hst hm0
                go_wp2_with fail

                go_quiet (fail)

                go_wp2_with fail
                refine (sync_raw _ _ _ (some ⟨g, 0, none⟩) m.length c2 (show (World.drewN wr nq).heap[d]? = _ from HB2.out)).mono ?_
                rintro r w9 ⟨rfl, rfl⟩
                go_wp2_with fail
                go_end0
                exact ⟨rfl, crash_close ⟨k1, k2, k3, k4, k5⟩ hlt2 hd (show (World.drewN wr nq).heap[d]? = _ from HB2.out) (HR2.out.upd ((Upd.refl NoF wr).drewN nq) (fun _ _ h => h)) (fun x hx => (HX2.out x hx).upd ((Upd.refl NoF wr).drewN nq) (fun _ _ h => h)) HPG.out HS2.out HM2.out, (HU2.out.drewN nq).set (p := ⟨d, 2, none⟩) (fun _ => hd) _⟩
end Go.Proofs.Ytplhgeecnnadhaa
