/- DeviceFills: as many pages as there are can be written. -/
import Derived.Test.YtplhgeecnnadhaaLasts
namespace Go.Proofs.Ytplhgeecnnadhaa
open Go.RowKit
variable {F G : Nat → Prop} {w w1 : World}
theorem turnTail_const {pk : Nat → Int} {c : Int} (h : ∀ i, pk i = c) : ∀ (l : List (Int × List UInt8)) (i : Nat), turnTail pk i l = l.map (turnOne c)
  | [], _ => rfl
  | p :: r, i => by simp [turnTail, h, turnTail_const h r]
theorem dropEmpty_none : ∀ (l : List (Int × List UInt8)), (∀ p ∈ l, p.1 = 0) → dropEmpty l = []
  | [], _ => rfl
  | p :: r, h => by simp [dropEmpty, dropEmpty_none r (fun q hq => h q (by simp [hq])), h p (by simp)]
theorem dropEmpty_all : ∀ (l : List (Int × List UInt8)), (∀ p ∈ l, p.1 ≠ 0) → dropEmpty l = l
  | [], _ => rfl
  | p :: r, h => by
    have ih := dropEmpty_all r (fun q hq => h q (by simp [hq]))
    simp only [dropEmpty, ih]
    cases r with
    | nil => simp [h p (by simp)]
    | cons q t => rfl
theorem pick_one (x : UInt8) (i : Nat) : pickAt (realPicks [x]) i = ((x.toNat % 3 : Nat) : Int) := by simp [pickAt, realPicks, Nat.mod_one]
theorem fills_pages (n : Nat) (b : List UInt8) (x : UInt8) : (DS.crash ⟨n, ones (List.replicate n b), 0⟩ [x]).pages = dropEmpty (List.replicate n (turnOne ((x.toNat % 3 : Nat) : Int) (1, b))) := by
  unfold DS.crash turnedTo
  simp only [List.take_zero, List.drop_zero, List.nil_append, Nat.zero_add, Nat.sub_zero]
  rw [turnTail_const (pick_one x), List.take_length, List.drop_eq_nil_of_le (by simp [ones]), List.append_nil]
  simp [ones]
theorem fills_0 (n : Nat) (b : List UInt8) (x : UInt8) (h : x.toNat % 3 = 0) : DS.free (DS.crash ⟨n, ones (List.replicate n b), 0⟩ [x]) = (n : Int) ∧ (DS.crash ⟨n, ones (List.replicate n b), 0⟩ [x]).whole.length = 0 := by
  have hp := fills_pages n b x
  rw [dropEmpty_none _ (by intro p hp; rw [List.mem_replicate] at hp; rw [hp.2, h]; rfl)] at hp
  unfold DS.free DS.whole
  rw [hp]
  simp [DS.crash, wholes]
theorem fills_1 (n : Nat) (b : List UInt8) (x : UInt8) (h : x.toNat % 3 = 1) : DS.free (DS.crash ⟨n, ones (List.replicate n b), 0⟩ [x]) = 0 ∧ (DS.crash ⟨n, ones (List.replicate n b), 0⟩ [x]).whole.length = n := by
  have hp := fills_pages n b x
  rw [dropEmpty_all _ (by intro p hp; rw [List.mem_replicate] at hp; rw [hp.2, h]; simp [turnOne])] at hp
  unfold DS.free DS.whole
  rw [hp, h]
  simp [DS.crash, wholes, turnOne]
theorem fills_2 (n : Nat) (b : List UInt8) (x : UInt8) (h : x.toNat % 3 = 2) : DS.free (DS.crash ⟨n, ones (List.replicate n b), 0⟩ [x]) = 0 ∧ (DS.crash ⟨n, ones (List.replicate n b), 0⟩ [x]).whole.length = 0 := by
  have hp := fills_pages n b x
  rw [dropEmpty_all _ (by intro p hp; rw [List.mem_replicate] at hp; rw [hp.2, h]; simp [turnOne])] at hp
  unfold DS.free DS.whole
  rw [hp, h]
  simp [DS.crash, wholes, turnOne]
theorem fills_all (n : Nat) (b : List UInt8) (x : UInt8) : ∃ fr wh : Int, DS.free (DS.crash ⟨n, ones (List.replicate n b), 0⟩ [x]) = fr ∧ ((DS.crash ⟨n, ones (List.replicate n b), 0⟩ [x]).whole.length : Int) = wh ∧
    (((x.toNat : Int) % 3 = 0 ∧ fr = n ∧ wh = 0) ∨ ((x.toNat : Int) % 3 = 1 ∧ fr = 0 ∧ wh = n) ∨ ((x.toNat : Int) % 3 = 2 ∧ fr = 0 ∧ wh = 0)) := by
  have : x.toNat % 3 = 0 ∨ x.toNat % 3 = 1 ∨ x.toNat % 3 = 2 := by omega
  rcases this with h | h | h
  · exact ⟨_, _, (fills_0 n b x h).1, by rw [(fills_0 n b x h).2]; rfl, .inl ⟨by omega, rfl, rfl⟩⟩
  · exact ⟨_, _, (fills_1 n b x h).1, by rw [(fills_1 n b x h).2], .inr (.inl ⟨by omega, rfl, rfl⟩)⟩
  · exact ⟨_, _, (fills_2 n b x h).1, by rw [(fills_2 n b x h).2]; rfl, .inr (.inr ⟨by omega, rfl, rfl⟩)⟩
section
variable {B : Nat} {X : Nat → Prop} {d : Nat} {s : DS}
theorem dl_free2 (w : World) (h : DL B X d s w) : Calls Try.prog 26 #[.pointer (some ⟨d, 0, none⟩)] w (fun r w' => r = .returned (.int .i64 s.free) ∧ DL B X d s w' ∧ Upd NoF w w') :=
  (dl_free w h).mono (fun r w' ⟨hr, n, hw⟩ => by subst hw; exact ⟨hr, h.upd ((Upd.refl NoF w).drewN n) (fun _ _ h => h.elim), (Upd.refl NoF w).drewN n⟩)
theorem dl_pages2 (w : World) (h : DL B X d s w) : Calls Try.prog 24 #[.pointer (some ⟨d, 0, none⟩)] w (fun r w' => ∃ a c, r = .returned (.slice a s.whole.length c) ∧ DL B X d s w' ∧ Blks w' (fun q => w.heap.size ≤ q) (.slice a s.whole.length c) s.whole ∧ Upd NoF w w') :=
  (dl_pages w h).mono (fun r w' ⟨v, hr, hb, hu⟩ => by
    obtain ⟨a, c, rfl, _⟩ := hb.slice
    exact ⟨a, c, hr, h.upd hu (fun _ _ h => h.elim), hb, hu⟩)
end
theorem wiped (n : Nat) : DS.free (DS.crash ⟨n, [], 0⟩ []) = (n : Int) ∧ (DS.crash ⟨n, [], 0⟩ []).whole.length = 0 := by
  simp [DS.crash, turnedTo, turnTail, dropEmpty, DS.free, DS.whole, wholes]
def FillRel (w : World) (d n : Nat) (b : List UInt8) (i : Value) (W : World) : Prop :=
  ∃ k : Nat, k ≤ n ∧ i = .int .i64 k ∧ DL w.heap.size NoY d ⟨n, ones (List.replicate k b), 0⟩ W ∧ Upd NoF w W
theorem free_rep (n k : Nat) (b : List UInt8) : DS.free ⟨n, ones (List.replicate k b), 0⟩ = (n : Int) - (k : Int) := by simp [DS.free, ones]
set_option maxRecDepth 100000 in
set_option maxHeartbeats 8000000 in
theorem fills_walk (size : Int) (v1 : Value) (b : List UInt8) (x : UInt8) (w : World) (h1 : Bytes w (fun k => k < w.heap.size) v1 b) :
    Calls Try.prog 4 #[.int .i64 size, v1, .int .u8 (x.toNat : Int)] w (fun r w' => r = .returned (.bool true) ∧ Upd NoF w w') := by
  obtain ⟨a1, c1, rfl, hc1⟩ := h1.slice
  have H1 := Lib.hid h1
  clear h1
  by_cases hbad : size < 1 ∨ 300 < size ∨ (100 : Int) < (b.length : Int)
  · by_cases g1 : size < 1
    · go_enter Try.func4, Try.ntmps4
      go_wp2_with fail
      refine (speaks08 _).mono ?_
      rintro r w1 ⟨rfl, u1⟩
      go_wp2_with fail
      go_ret
      exact ⟨rfl, u1⟩
    by_cases g2 : 300 < size
    · go_enter Try.func4, Try.ntmps4
      go_wp2_with fail
      refine (speaks08 _).mono ?_
      rintro r w1 ⟨rfl, u1⟩
      go_wp2_with fail
      go_ret
      exact ⟨rfl, u1⟩
    have g3 : (100 : Int) < (b.length : Int) := by omega
    go_enter Try.func4, Try.ntmps4
    go_wp2_with fail
    refine (speaks08 _).mono ?_
    rintro r w1 ⟨rfl, u1⟩
    go_wp2_with fail
    go_ret
    exact ⟨rfl, u1⟩
  simp only [not_or, Int.not_lt] at hbad
  obtain ⟨g1, g2, g3⟩ := hbad
  obtain ⟨n, rfl⟩ := Int.eq_ofNat_of_zero_le (by omega : 0 ≤ size)
  go_enter Try.func4, Try.ntmps4
  go_wp2_with fail
  refine (speaks08 _).mono ?_
  rintro r w1 ⟨rfl, u1⟩
  have U1 := Lib.hid u1
  clear u1
  go_wp2_with fail
  refine (dl_new (B := w.heap.size) (X := NoY) n w1 (by omega) (by omega) noY U1.out.size).mono ?_
  rintro r w2 ⟨d, rfl, p2, u2⟩
  have U2 := Lib.hid (U1.out.then0 u2)
  have P2 := Lib.hid p2
  clear u2 p2 U1
  go_wp2_with fail
  go_loopw [9] (FillRel w d n b) (fun i _ => n - (intOf i).toNat)
  case atStart => exact ⟨0, Nat.zero_le _, rfl, P2.out, U2.out⟩
  case round =>
    obtain ⟨k, hk, rfl, hp, hu⟩ := hrel
    have HP := Lib.hid hp
    have HU := Lib.hid hu
    clear hp hu P2 U2
    by_cases hlt : k < n
    · have hf := dl_free wr HP.out
      rw [free_rep] at hf
      have HF := Lib.hid hf
      have happ := append_ones n 0 (List.replicate k b) b (by simpa using hlt)
      rw [← List.replicate_succ'] at happ
      have HA := Lib.hid happ
      have hne : ((n : Int) - (k : Int) != (n : Int) - (k : Int)) = false := by simp
      clear hf happ
      go_wp2_with fail
      refine HF.out.mono ?_
      rintro r w3 ⟨rfl, m, rfl⟩
      go_wp2_with fail
      refine (dl_append _ b _ (HP.out.upd ((Upd.refl NoF wr).drewN m) (fun _ _ h => h.elim)) noY HU.out.size (H1.out.upd (HU.out.drewN m) (fun _ _ h => h)) (by omega)).mono ?_
      rintro r w4 ⟨rfl, p4, u4⟩
      rw [HA.out.1] at p4
      rw [HA.out.2]
      have P4 := Lib.hid p4
      have U4 := Lib.hid (du_no (HU.out.drewN m) (Nat.le_refl _) u4)
      clear p4 u4
      go_wp2_with fail
      exact ⟨⟨k + 1, by omega, by go_num, P4.out, U4.out⟩, by simp [intOf]; omega⟩
    · obtain rfl : k = n := by omega
      have hfz : DS.free ⟨k, ones (List.replicate k b), 0⟩ = 0 := by rw [free_rep]; omega
      have hcz : DS.code ⟨k, ones (List.replicate k b), 0⟩ = 4 := by unfold DS.code; rw [if_pos hfz]
      have haz : DS.append ⟨k, ones (List.replicate k b), 0⟩ b = ⟨k, ones (List.replicate k b), 0⟩ := by unfold DS.append; rw [if_pos hfz]
      have hwz : (⟨k, ones (List.replicate k b), 0⟩ : DS).whole = List.replicate k b := wholes_ones _
      have HFZ := Lib.hid hfz
      have HCZ := Lib.hid hcz
      have HAZ := Lib.hid haz
      have HWZ := Lib.hid hwz
      clear hfz hcz haz hwz
      go_wp2_with fail
      refine (dl_append _ b wr HP.out noY HU.out.size (H1.out.upd HU.out (fun _ _ h => h)) (by omega)).mono ?_
      rintro r w5 ⟨rfl, p5, u5⟩
      rw [HAZ.out] at p5
      rw [HCZ.out]
      have P5 := Lib.hid p5
      have U5 := Lib.hid (du_no HU.out (Nat.le_refl _) u5)
      have hf5 := dl_free w5 p5
      rw [HFZ.out] at hf5
      have HF5 := Lib.hid hf5
      clear p5 u5 hf5 HP HU
      go_wp2_with fail
      refine HF5.out.mono ?_
      rintro r w6 ⟨rfl, m, rfl⟩
      have P6 := Lib.hid (P5.out.upd ((Upd.refl NoF w5).drewN m) (fun _ _ h => h.elim))
      have U6 := Lib.hid (U5.out.drewN m)
      generalize World.drewN w5 m = w6 at *
      clear HF5 P5 U5
      go_wp2_with fail
      refine (dl_pages w6 P6.out).mono ?_
      rintro r w7 ⟨v7, rfl, b7, u7⟩
      rw [HWZ.out] at b7
      obtain ⟨a7, c7, hv7, _⟩ := b7.slice
      rw [List.length_replicate] at hv7
      subst hv7
      have P7 := Lib.hid ((P6.out.upd u7 (fun _ _ h => h.elim)).mono (Y := OneF w7.heap.size) (fun q hq h => by simp only [OneF] at h; omega))
      have U7 := Lib.hid (U6.out.then0 u7)
      clear b7 u7 P6 U6
      go_wp2_with fail
      have P8 := Lib.hid (P7.out.upd ((Upd.refl NoF w7).alloc (.cells #[.int .u8 (x.toNat : Int)] 5)) (fun _ _ h => h.elim))
      refine (dl_crash _ [x] _ P8.out ((bytes_lit w7 x 5 (0, 0)).mono (fun q h => .inl h)) (by simp)).mono ?_
      rintro r w9 ⟨rfl, p9, u9⟩
      have U9 := Lib.hid (du_no (U7.out.alloc _) (Nat.le_refl _) u9)
      have P9 := Lib.hid (p9.mono (Y := NoY) (fun _ _ h => h.elim))
      obtain ⟨fr, wh, hfr, hwh, hcase⟩ := fills_all k b x
      have HFR := Lib.hid hfr
      have HWH := Lib.hid hwh
      obtain ⟨n11, hn11⟩ : ∃ n11, n11 = (DS.crash ⟨k, ones (List.replicate k b), 0⟩ [x]).whole.length := ⟨_, rfl⟩
      have hbne : ((n11 : Int) != wh) = false := by rw [hn11, hwh]; simp
      have HN11 := Lib.hid hn11
      have HWI := Lib.hid (wiped k)
      clear hn11
      clear p9 u9 P8 P7 U7 hfr hwh HFZ HCZ HAZ HWZ
      have hx256 : (x.toNat : Int) < 256 := by have := UInt8.toNat_lt x; omega
      have hx0 : (0 : Int) ≤ (x.toNat : Int) := by omega
      generalize hxx : (x.toNat : Int) = xi at hcase hx256 hx0
      clear hxx
      rcases hcase with ⟨hm, rfl, rfl⟩ | ⟨hm, rfl, rfl⟩ | ⟨hm, rfl, rfl⟩
      all_goals
        go_wp2_with fail
        refine (dl_free2 _ (P9.out.upd (((Upd.refl NoF w9).alloc _).alloc _) (fun _ _ h => h.elim))).mono ?_
        rintro r w10 ⟨rfl, p10, u10⟩
        rw [HFR.out]
        have U10 := Lib.hid (((U9.out.alloc _).alloc _).then0 u10)
        have P10 := Lib.hid p10
        clear p10 u10 P9 U9
        go_wp2_with fail
        refine (dl_pages2 w10 P10.out).mono ?_
        rintro r w11 ⟨a11, c11, rfl, p11, _, u11⟩
        rw [← HN11.out]
        have U11 := Lib.hid (U10.out.then0 u11)
        have P11 := Lib.hid p11
        clear p11 u11 P10 U10
        go_wp2_with fail
        refine (dl_wipe w11 P11.out).mono ?_
        rintro r w12 ⟨rfl, p12, u12⟩
        have U12 := Lib.hid (du_no U11.out (Nat.le_refl _) u12)
        have P12 := Lib.hid p12
        clear p12 u12 P11 U11
        go_wp2_with fail
        refine (dl_crash _ [] w12 P12.out (Slc.nil _ _ _ _ _ _) (by decide)).mono ?_
        rintro r w13 ⟨rfl, p13, u13⟩
        have U13 := Lib.hid (du_no U12.out (Nat.le_refl _) u13)
        have P13 := Lib.hid (show DL w.heap.size NoY d (DS.crash ⟨k, [], 0⟩ []) w13 from p13)
        clear p13 u13 P12 U12
        go_wp2_with fail
        refine (dl_free2 w13 P13.out).mono ?_
        rintro r w14 ⟨rfl, p14, u14⟩
        rw [HWI.out.1]
        have U14 := Lib.hid (U13.out.then0 u14)
        have P14 := Lib.hid p14
        clear p14 u14 P13 U13
        go_wp2_with fail
        refine (dl_pages2 w14 P14.out).mono ?_
        rintro r w15 ⟨a15, c15, rfl, _, _, u15⟩
        rw [HWI.out.2]
        have U15 := Lib.hid (U14.out.then0 u15)
        clear u15 P14 U14
        go_wp2_with fail
        go_ret
        exact ⟨rfl, U15.out⟩
end Go.Proofs.Ytplhgeecnnadhaa
