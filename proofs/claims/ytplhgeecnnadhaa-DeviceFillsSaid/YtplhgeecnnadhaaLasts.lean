/- DeviceLasts: what was synced stands. -/
import Derived.Test.YtplhgeecnnadhaaDevS
namespace Go.Proofs.Ytplhgeecnnadhaa
open Go.RowKit
variable {F G : Nat → Prop} {w w1 : World}
/-! ### the plain law -/
def ones (l : List (List UInt8)) : List (Int × List UInt8) := l.map (fun b => ((1 : Int), b))
theorem wholes_ones (l : List (List UInt8)) : wholes (ones l) = l := by
  unfold wholes ones
  rw [List.filter_eq_self.2 (by intro p hp; simp only [List.mem_map] at hp; obtain ⟨b, _, rfl⟩ := hp; rfl), List.map_map]
  simp [Function.comp_def]
theorem wholes_append (a b : List (Int × List UInt8)) : wholes (a ++ b) = wholes a ++ wholes b := by simp [wholes]
theorem wholes_length (l : List (Int × List UInt8)) : (wholes l).length ≤ l.length := by
  unfold wholes; rw [List.length_map]; exact List.length_filter_le _ _
theorem wholes_drop : ∀ (l : List (Int × List UInt8)), wholes (dropEmpty l) = wholes l
  | [] => rfl
  | p :: r => by
    have ih := wholes_drop r
    simp only [dropEmpty]
    cases h : dropEmpty r with
    | nil =>
      rw [h] at ih
      have ih' : wholes r = [] := ih.symm
      simp only
      split
      · rename_i h0
        rw [show p :: r = [p] ++ r from rfl, wholes_append, ih']
        simp [wholes, h0]
      · rw [show p :: r = [p] ++ r from rfl, wholes_append, ih']; simp
    | cons q t =>
      simp only
      rw [show p :: q :: t = [p] ++ (q :: t) from rfl, show p :: r = [p] ++ r from rfl, wholes_append, wholes_append, ← h, ih]
theorem lasts_law (size : Nat) (a b : List (List UInt8)) (picks : List UInt8) : ∃ rest, (DS.crash ⟨size, ones (a ++ b), a.length⟩ picks).whole = a ++ rest ∧ rest.length ≤ b.length := by
  refine ⟨wholes (turnTail (pickAt (realPicks picks)) 0 (ones b)), ?_, ?_⟩
  · unfold DS.whole DS.crash
    simp only
    rw [wholes_drop]
    unfold turnedTo ones
    rw [List.map_append, List.take_left' (by simp), List.drop_left' (by simp), wholes_append, wholes_append]
    rw [show (a.map (fun b => ((1 : Int), b))) = ones a from rfl, wholes_ones]
    rw [List.drop_eq_nil_of_le (by simp; omega), List.take_of_length_le (by simp [ones])]
    simp [wholes]
  · have := wholes_length (turnTail (pickAt (realPicks picks)) 0 (ones b))
    rw [turnTail_length] at this
    simpa [ones] using this
theorem push_ones (size lasts : Nat) (l : List (List UInt8)) (b : List UInt8) : DS.push ⟨size, ones l, lasts⟩ b = ⟨size, ones (l ++ [b]), lasts⟩ := by simp [DS.push, ones]
theorem append_ones (size lasts : Nat) (l : List (List UInt8)) (b : List UInt8) (h : l.length < size) : DS.append ⟨size, ones l, lasts⟩ b = ⟨size, ones (l ++ [b]), lasts⟩ ∧ DS.code ⟨size, ones l, lasts⟩ = 0 := by
  have hf : DS.free ⟨size, ones l, lasts⟩ ≠ 0 := by simp only [DS.free, ones, List.length_map]; omega
  unfold DS.append DS.code
  rw [if_neg hf, if_neg hf, push_ones]
  exact ⟨rfl, rfl⟩
/-- a part of a row of rows -/
theorem Blks.take {a : Option Addr} {n c : Nat} {ls : List (List UInt8)} (h : Blks w F (.slice a n c) ls) (m : Nat) (hm : m ≤ n) : Blks w F (.slice a m c) (ls.take m) := by
  obtain ⟨ps, ⟨a', c', hv, hc, he⟩, h2, rfl⟩ := h
  simp only [Value.slice.injEq] at hv
  obtain ⟨rfl, rfl, rfl⟩ := hv
  have hl : (ps.take m).length = m := by rw [List.length_take]; omega
  refine ⟨ps.take m, ⟨a, c, by rw [hl], by omega, fun hne => ?_⟩, fun p hp => h2 p (List.mem_of_mem_take hp), by rw [List.map_take]⟩
  obtain ⟨g, o, ha, hg, cur, ty, fr, hb, hel⟩ := he (by intro e; rw [e] at hne; simp at hne)
  refine ⟨g, o, ha, hg, cur, ty, fr, hb, fun i hi => ?_⟩
  obtain ⟨cs, h1, h3, h4⟩ := hel i (by omega)
  exact ⟨cs, h1, by rw [h3, List.getElem_take], h4⟩
/-! ### the walk -/
def LastsRel (w : World) (d : Nat) (done : List (List UInt8)) (lasts : Nat) (l : List (List UInt8)) (i : Value) (W : World) : Prop :=
  ∃ k : Nat, k ≤ l.length ∧ i = .int .i64 k ∧ DL w.heap.size NoY d ⟨200, ones (done ++ l.take k), lasts⟩ W ∧ Upd NoF w W ∧ ∀ b ∈ l.take k, b.length ≤ 300
set_option maxRecDepth 100000 in
set_option maxHeartbeats 8000000 in
theorem lasts_walk (v0 v1 v2 : Value) (l0 l1 : List (List UInt8)) (picks : List UInt8) (w : World) (h0 : Blks w (fun k => k < w.heap.size) v0 l0) (h1 : Blks w (fun k => k < w.heap.size) v1 l1) (h2 : Bytes w (fun k => k < w.heap.size) v2 picks) :
    Calls Try.prog 3 #[v0, v1, v2] w (fun r w' => r = .returned (.bool true) ∧ Upd NoF w w') := by
  obtain ⟨a0, c0, rfl, hc0⟩ := h0.slice
  obtain ⟨a1, c1, rfl, hc1⟩ := h1.slice
  obtain ⟨a2, c2, rfl, hc2⟩ := h2.slice
  have H0 := Lib.hid h0
  have H1 := Lib.hid h1
  have H2 := Lib.hid h2
  clear h0 h1 h2
  by_cases hbig : (60 : Int) < (l0.length : Int) ∨ (60 : Int) < (l1.length : Int) ∨ (200 : Int) < (picks.length : Int)
  · rcases hbig with hb | hb | hb
    all_goals
      go_enter Try.func3, Try.ntmps3
      go_wp2_with fail
      refine (speaks08 _).mono ?_
      rintro r w1 ⟨rfl, u1⟩
      go_wp2_with fail
      all_goals
        go_ret
        exact ⟨rfl, u1⟩
  simp only [not_or, Int.not_lt] at hbig
  obtain ⟨b0, b1, b2⟩ := hbig
  go_enter Try.func3, Try.ntmps3
  go_wp2_with fail
  refine (speaks08 _).mono ?_
  rintro r w1 ⟨rfl, u1⟩
  have U1 := Lib.hid u1
  clear u1
  go_wp2_with fail
  refine (dl_new (B := w.heap.size) (X := NoY) 200 w1 (by decide) (by decide) noY U1.out.size).mono ?_
  rintro r w2 ⟨d, rfl, p2, u2⟩
  have U2 := Lib.hid (U1.out.then0 u2)
  have P2 := Lib.hid p2
  clear u2 p2 U1
  go_wp2_with fail
  go_loopw [41] (LastsRel w d [] 0 l0) (fun i _ => l0.length - (intOf i).toNat)
  case atStart => exact ⟨0, Nat.zero_le _, rfl, P2.out, U2.out, fun b hb => by simp at hb⟩
  case round =>
    obtain ⟨k, hk, rfl, hp, hu, hsm⟩ := hrel
    have HP := Lib.hid hp
    have HU := Lib.hid hu
    have HSM := Lib.hid hsm
    clear hp hu hsm P2 U2
    by_cases hlt : k < l0.length
    · obtain ⟨g, o, hag, _, hcell⟩ := (H0.out.upd HU.out (fun _ _ h => h)).at_ (by intro e; rw [e] at hlt; simp at hlt)
      obtain ⟨va, vc, e1, x1⟩ := hcell k hlt
      subst hag
      have ht : l0.take (k + 1) = l0.take k ++ [l0[k]] := List.take_succ_eq_append_getElem hlt
      have HT := Lib.hid ht
      have X1 := Lib.hid x1
      clear hcell ht x1
      by_cases hbl : (300 : Int) < (l0[k].length : Int)
      · generalize l0[k].length = n9 at e1 hbl
        go_wp2_with fail
        go_ret
        exact ⟨rfl, HU.out⟩
      · have hB3 := Lib.hid (show l0[k].length ≤ 300 by omega)
        have happ := append_ones 200 0 (l0.take k) l0[k] (by rw [List.length_take]; omega)
        have HA := Lib.hid happ
        clear happ
        go_wp2_with fail
        refine (dl_append _ l0[k] wr HP.out noY HU.out.size X1.out (by have := hB3.out; omega)).mono ?_
        rintro r w4 ⟨rfl, p4, u4⟩
        rw [List.nil_append, HA.out.1] at p4
        rw [List.nil_append, HA.out.2]
        have P4 := Lib.hid p4
        have U4 := Lib.hid (du_no HU.out (Nat.le_refl _) u4)
        clear p4 u4
        go_wp2_with fail
        exact ⟨⟨k + 1, by omega, by go_num, by rw [HT.out, List.nil_append]; exact P4.out, U4.out, fun b hb => by
          rw [HT.out] at hb
          rcases List.mem_append.1 hb with h | h
          · exact HSM.out b h
          · simp only [List.mem_singleton] at h; subst h; exact hB3.out⟩, by simp [intOf]; omega⟩
    · obtain rfl : k = l0.length := by omega
      have hp1 := HP.out
      rw [List.nil_append, List.take_length] at hp1
      have hsm1 : ∀ b ∈ l0, b.length ≤ 300 := fun b hb => HSM.out b (by rw [List.take_length]; exact hb)
      have HP1 := Lib.hid hp1
      have HSM1 := Lib.hid hsm1
      clear hp1 hsm1 HP HSM
      go_wp2_with fail
      refine (dl_sync wr HP1.out).mono ?_
      rintro r w5 ⟨rfl, p5, u5⟩
      have U5 := Lib.hid (du_no HU.out (Nat.le_refl _) u5)
      have hz : ({ (⟨200, ones l0, 0⟩ : DS) with lasts := (⟨200, ones l0, 0⟩ : DS).pages.length } : DS) = ⟨200, ones l0, l0.length⟩ := by simp [ones]
      rw [hz] at p5
      have P5 := Lib.hid p5
      clear u5 p5 HP1 HU hz
      go_wp2_with fail
      go_loopw [62] (LastsRel w d l0 l0.length l1) (fun i _ => l1.length - (intOf i).toNat)
      case atStart => exact ⟨0, Nat.zero_le _, rfl, by simpa using P5.out, U5.out, fun b hb => by simp at hb⟩
      case round =>
        obtain ⟨k, hk2, rfl, hp, hu, hsm⟩ := hrel
        have HP := Lib.hid hp
        have HU := Lib.hid hu
        have HSM := Lib.hid hsm
        clear hp hu hsm P5 U5
        by_cases hlt2 : k < l1.length
        · obtain ⟨g, o, hag, _, hcell⟩ := (H1.out.upd HU.out (fun _ _ h => h)).at_ (by intro e; rw [e] at hlt2; simp at hlt2)
          obtain ⟨va, vc, e1, x1⟩ := hcell k hlt2
          subst hag
          have ht : l1.take (k + 1) = l1.take k ++ [l1[k]] := List.take_succ_eq_append_getElem hlt2
          have HT := Lib.hid ht
          have X1 := Lib.hid x1
          clear hcell ht x1
          by_cases hbl : (300 : Int) < (l1[k].length : Int)
          · generalize l1[k].length = n9 at e1 hbl
            go_wp2_with fail
            go_ret
            exact ⟨rfl, HU.out⟩
          · have hB3 := Lib.hid (show l1[k].length ≤ 300 by omega)
            have happ := append_ones 200 l0.length (l0 ++ l1.take k) l1[k] (by rw [List.length_append, List.length_take]; omega)
            have HA := Lib.hid happ
            clear happ
            go_wp2_with fail
            refine (dl_append _ l1[k] wr HP.out noY HU.out.size X1.out (by have := hB3.out; omega)).mono ?_
            rintro r w4 ⟨rfl, p4, u4⟩
            rw [HA.out.1] at p4
            rw [HA.out.2]
            have P4 := Lib.hid p4
            have U4 := Lib.hid (du_no HU.out (Nat.le_refl _) u4)
            clear p4 u4
            go_wp2_with fail
            exact ⟨⟨k + 1, by omega, by go_num, by rw [HT.out, ← List.append_assoc]; exact P4.out, U4.out, fun b hb => by
              rw [HT.out] at hb
              rcases List.mem_append.1 hb with h | h
              · exact HSM.out b h
              · simp only [List.mem_singleton] at h; subst h; exact hB3.out⟩, by simp [intOf]; omega⟩
        · obtain rfl : k = l1.length := by omega
          have hp1 := HP.out
          rw [List.take_length] at hp1
          have HP1 := Lib.hid hp1
          obtain ⟨rest, hrest, hrl⟩ := lasts_law 200 l0 l1 picks
          have HRE := Lib.hid hrest
          clear hp1 HP HSM hrest
          go_wp2_with fail
          refine (dl_crash _ picks wr HP1.out ((H2.out.upd HU.out (fun _ _ h => h)).mono (fun q hq => .inr hq)) (by omega)).mono ?_
          rintro r w6 ⟨rfl, p6, u6⟩
          have U6 := Lib.hid (du_no HU.out (Nat.le_refl _) u6)
          have P6 := Lib.hid p6
          clear u6 p6 HP1 HU
          go_wp2_with fail
          refine (dl_pages w6 P6.out).mono ?_
          rintro r w7 ⟨v7, rfl, b7, u7⟩
          rw [HRE.out] at b7
          have U7 := Lib.hid (U6.out.then0 u7)
          obtain ⟨a7, c7, rfl, hc7⟩ := b7.slice
          have hlen7 : (l0 ++ rest).length = l0.length + rest.length := List.length_append
          have ht7 : (l0 ++ rest).take l0.length = l0 := by simp
          have b8 := b7.take l0.length (by omega)
          rw [ht7] at b8
          have hsl := samelist_any _ _ _ _ w7 b8 (H0.out.upd U7.out (fun _ _ h => h)) (fun b hb => by have := HSM1.out b hb; omega) (by omega)
          rw [decide_eq_true (rfl : l0 = l0)] at hsl
          have HSL := Lib.hid hsl
          have g1 : (l0.length : Int) ≤ ((l0 ++ rest).length : Int) := by omega
          have g2 : ((l0 ++ rest).length : Int) ≤ (l0.length : Int) + (l1.length : Int) := by omega
          have g3 : (l0.length : Int) ≤ (c7 : Int) := by omega
          clear b7 b8 u7 hsl hlen7 ht7 U6 P6
          generalize (l0 ++ rest).length = n7 at *
          go_wp2_with fail
          refine HSL.out.mono ?_
          rintro r w8 ⟨rfl, n, rfl⟩
          go_wp2_with fail
          go_ret
          exact ⟨rfl, U7.out.drewN n⟩
end Go.Proofs.Ytplhgeecnnadhaa
