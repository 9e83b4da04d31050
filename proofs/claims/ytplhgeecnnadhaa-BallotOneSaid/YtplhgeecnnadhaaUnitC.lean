/- The unit: what a page does. -/
import Derived.Test.YtplhgeecnnadhaaUnitB
namespace Go.Proofs.Ytplhgeecnnadhaa
open Go.RowKit
variable {F G : Nat → Prop} {w w1 w2 : World} {u d p : Nat} {s : US}
theorem Upd.hide (h : Upd NoF w w1) (k : Upd (OneF p) w1 w2) (hp : w.heap.size ≤ p) : Upd NoF w w2 := h.trans k (fun i hi h => by simp only [OneF] at h; omega)
theorem seal_close {n : Nat} (h : UnitAt w F u d s) : UnitAt (w.setCell ⟨u, 1, none⟩ (.int .i64 n)) F u d { s with e := n } ∧ UpdN F w (w.setCell ⟨u, 1, none⟩ (.int .i64 n)) := by
  obtain ⟨h1, mc, ma, hb, ⟨f1, f2, f3, n1, n2, n3⟩, hc, ha⟩ := h
  have u3 : Upd (OneF u) w (w.setCell ⟨u, 1, none⟩ (.int .i64 n)) := (Upd.refl _ _).set1 _ _
  refine ⟨⟨fun k hk => Nat.lt_of_lt_of_le (h1 k hk) u3.size, mc, ma, ?_, ⟨f1, f2, f3, n1, n2, n3⟩, hc.upd cellRep_upd u3 (fun k hk => hk.2.1) (fun h => n1 h.symm), ha.upd accRep_upd u3 (fun k hk => hk.2.1) (fun h => n2 h.symm)⟩, u3.mono (fun k _ h => by simp only [OneF] at h; subst h; exact ⟨f1, NB.unit (fun _ h => by cases h) (fun _ h => by cases h) (fun _ h => by cases h) hb⟩)⟩
  rw [blk_set hb]; simp
theorem trim_close {n : Nat} (h : UnitAt w F u d s) : UnitAt (w.setCell ⟨u, 2, none⟩ (.int .i64 n)) F u d { s with low := n } ∧ UpdN F w (w.setCell ⟨u, 2, none⟩ (.int .i64 n)) := by
  obtain ⟨h1, mc, ma, hb, ⟨f1, f2, f3, n1, n2, n3⟩, hc, ha⟩ := h
  have u3 : Upd (OneF u) w (w.setCell ⟨u, 2, none⟩ (.int .i64 n)) := (Upd.refl _ _).set1 _ _
  refine ⟨⟨fun k hk => Nat.lt_of_lt_of_le (h1 k hk) u3.size, mc, ma, ?_, ⟨f1, f2, f3, n1, n2, n3⟩, hc.upd cellRep_upd u3 (fun k hk => hk.2.1) (fun h => n1 h.symm), ha.upd accRep_upd u3 (fun k hk => hk.2.1) (fun h => n2 h.symm)⟩, u3.mono (fun k _ h => by simp only [OneF] at h; subst h; exact ⟨f1, NB.unit (fun _ h => by cases h) (fun _ h => by cases h) (fun _ h => by cases h) hb⟩)⟩
  rw [blk_set hb]; simp
theorem UnitAt.blk (h : UnitAt w F u d s) : ∃ mc ma, w.heap[u]? = some (.cells #[.pointer (some ⟨d, 0, none⟩), .int .i64 s.e, .int .i64 s.low, .int .i64 s.tail, .map (some mc), .map (some ma)] 149 (0, 0)) := let ⟨_, mc, ma, hb, _⟩ := h; ⟨mc, ma, hb⟩
theorem UnitAt.mem (h : UnitAt w F u d s) : F u := let ⟨_, _, _, _, hf, _⟩ := h; hf.1
set_option maxRecDepth 100000 in
set_option maxHeartbeats 2000000 in
theorem page_seal (n : Nat) (v : Value) (w : World) (h : UnitAt w F u d s) (hv : Bytes w G v (4 :: beBytes n 8)) (hn : n ≤ 2147483647) :
    Calls Try.prog 84 #[.pointer (some ⟨u, 0, none⟩), v] w (fun r w' => r = .returned (.bool true) ∧ Unit2 F u d { s with e := n } w w') := by
  have HR := Lib.hid (rd_new v w hv (by rw [List.length_cons, beBytes_length]; omega))
  have HN := Lib.hid (fun w => u_number n w)
  have hok : okNum n = true := by unfold okNum; simp; omega
  have HOK := Lib.hid hok
  obtain ⟨av, cv, rfl, hcv⟩ := hv.slice
  have HU := Lib.hid h
  have hnb : (n : Int) ≤ 2147483647 := by omega
  clear h hv hok hcv
  go_enter Try.func84, Try.ntmps84
  go_wp2_with fail
  refine HR.out.mono ?_
  rintro r w1 ⟨F1, p, rfl, r1, u1, hp, hF1⟩
  have HB := Lib.hid (rd_byte w1 r1)
  have R1 := Lib.hid r1
  rw [rnum_one] at HB
  clear r1
  go_wp2_with fail
  refine HB.out.mono ?_
  rintro r w2 ⟨rfl, r2, u2⟩
  have HM := Lib.hid (rd_number 8 w2 r2 (by omega))
  have hrn : rnum (beBytes n 8) false 8 = (n, ([], false)) := by
    have := rnum_be (v := n) (k := 8) (by omega) []
    rwa [List.append_nil] at this
  have e1 : beNat (rtake (beBytes n 8) false 8).1.1 = n := congrArg Prod.fst hrn
  have e2 : (rtake (beBytes n 8) false 8).2 = ([], false) := congrArg Prod.snd hrn
  rw [e1, e2] at HM
  have U2 := Lib.hid (Upd.hide u1 u2 hp)
  clear r2 u1 u2 hrn e1 e2
  go_wp2_with fail
  refine HM.out.mono ?_
  rintro r w3 ⟨rfl, r3, u3⟩
  have R3 := Lib.hid r3
  have U3 := Lib.hid (Upd.hide U2.out u3 hp)
  clear r3 u3
  go_wp2_with fail
  refine (HN.out _).mono ?_
  rintro r w4 ⟨rfl, rfl⟩
  rw [HOK.out]
  obtain ⟨mc, ma, hb⟩ := HU.out.blk
  have hbu := U3.out.blk0 hb
  have f1 := blk_free hbu 1
  have c1 : w4.cell? ⟨u, 1, none⟩ = some (.int .i64 s.e) := blk_cell hbu 1
  clear hb
  go_wp2_with fail
  have r5 := R3.out.upd ((Upd.refl (OneF u) _).set1 1 (.int .i64 n)) (fun k hk h => by have := hF1 k hk; have := HU.out.lt u HU.out.mem; simp only [OneF] at h; omega) (fun h => by have := HU.out.lt u HU.out.mem; simp only [OneF] at h; omega)
  refine (rd_end _ r5).mono ?_
  rintro r w6 ⟨rfl, rfl⟩
  go_wp2_with fail
  go_ret
  obtain ⟨h7, h8⟩ := seal_close (n := n) (HU.out.upd U3.out (fun _ _ h => h))
  exact ⟨rfl, F, h7, UpdN.nb0 U3.out h8, fun k hk => .inl hk⟩
set_option maxRecDepth 100000 in
set_option maxHeartbeats 2000000 in
theorem page_trim (n : Nat) (v : Value) (w : World) (h : UnitAt w F u d s) (hv : Bytes w G v (3 :: beBytes n 8)) (hn : n ≤ 4294967296) :
    Calls Try.prog 84 #[.pointer (some ⟨u, 0, none⟩), v] w (fun r w' => r = .returned (.bool true) ∧ Unit2 F u d { s with low := n } w w') := by
  have HR := Lib.hid (rd_new v w hv (by rw [List.length_cons, beBytes_length]; omega))
  have HN := Lib.hid (fun w => u_address n w)
  have hok : okAt n = true := by unfold okAt; simp; omega
  have HOK := Lib.hid hok
  obtain ⟨av, cv, rfl, hcv⟩ := hv.slice
  have HU := Lib.hid h
  have hnb : (n : Int) ≤ 4294967296 := by omega
  clear h hv hok hcv
  go_enter Try.func84, Try.ntmps84
  go_wp2_with fail
  refine HR.out.mono ?_
  rintro r w1 ⟨F1, p, rfl, r1, u1, hp, hF1⟩
  have HB := Lib.hid (rd_byte w1 r1)
  have R1 := Lib.hid r1
  rw [rnum_one] at HB
  clear r1
  go_wp2_with fail
  refine HB.out.mono ?_
  rintro r w2 ⟨rfl, r2, u2⟩
  have HM := Lib.hid (rd_number 8 w2 r2 (by omega))
  have hrn : rnum (beBytes n 8) false 8 = (n, ([], false)) := by
    have := rnum_be (v := n) (k := 8) (by omega) []
    rwa [List.append_nil] at this
  have e1 : beNat (rtake (beBytes n 8) false 8).1.1 = n := congrArg Prod.fst hrn
  have e2 : (rtake (beBytes n 8) false 8).2 = ([], false) := congrArg Prod.snd hrn
  rw [e1, e2] at HM
  have U2 := Lib.hid (Upd.hide u1 u2 hp)
  clear r2 u1 u2 hrn e1 e2
  go_wp2_with fail
  refine HM.out.mono ?_
  rintro r w3 ⟨rfl, r3, u3⟩
  have R3 := Lib.hid r3
  have U3 := Lib.hid (Upd.hide U2.out u3 hp)
  clear r3 u3
  go_wp2_with fail
  refine (HN.out _).mono ?_
  rintro r w4 ⟨rfl, rfl⟩
  rw [HOK.out]
  obtain ⟨mc, ma, hb⟩ := HU.out.blk
  have hbu := U3.out.blk0 hb
  have f1 := blk_free hbu 2
  have c1 : w4.cell? ⟨u, 2, none⟩ = some (.int .i64 s.low) := blk_cell hbu 2
  clear hb
  go_wp2_with fail
  have r5 := R3.out.upd ((Upd.refl (OneF u) _).set1 2 (.int .i64 n)) (fun k hk h => by have := hF1 k hk; have := HU.out.lt u HU.out.mem; simp only [OneF] at h; omega) (fun h => by have := HU.out.lt u HU.out.mem; simp only [OneF] at h; omega)
  refine (rd_end _ r5).mono ?_
  rintro r w6 ⟨rfl, rfl⟩
  go_wp2_with fail
  go_ret
  obtain ⟨h7, h8⟩ := trim_close (n := n) (HU.out.upd U3.out (fun _ _ h => h))
  exact ⟨rfl, F, h7, UpdN.nb0 U3.out h8, fun k hk => .inl hk⟩
set_option maxRecDepth 100000 in
set_option maxHeartbeats 2000000 in
theorem page_junk (n : Nat) (v : Value) (w : World) (h : UnitAt w F u d s) (hv : Bytes w G v (2 :: beBytes n 8)) (hn : n ≤ 4294967296) :
    Calls Try.prog 84 #[.pointer (some ⟨u, 0, none⟩), v] w (fun r w' => r = .returned (.bool true) ∧ Unit2 F u d (s.cell n (2, [])) w w') := by
  have HR := Lib.hid (rd_new v w hv (by rw [List.length_cons, beBytes_length]; omega))
  have HN := Lib.hid (fun w => u_address n w)
  have hok : okAt n = true := by unfold okAt; simp; omega
  have HOK := Lib.hid hok
  obtain ⟨av, cv, rfl, hcv⟩ := hv.slice
  have HU := Lib.hid h
  have hnb : (n : Int) ≤ 4294967296 := by omega
  clear h hv hok hcv
  go_enter Try.func84, Try.ntmps84
  go_wp2_with fail
  refine HR.out.mono ?_
  rintro r w1 ⟨F1, p, rfl, r1, u1, hp, hF1⟩
  have HB := Lib.hid (rd_byte w1 r1)
  have R1 := Lib.hid r1
  rw [rnum_one] at HB
  clear r1
  go_wp2_with fail
  refine HB.out.mono ?_
  rintro r w2 ⟨rfl, r2, u2⟩
  have HM := Lib.hid (rd_number 8 w2 r2 (by omega))
  have hrn : rnum (beBytes n 8) false 8 = (n, ([], false)) := by
    have := rnum_be (v := n) (k := 8) (by omega) []
    rwa [List.append_nil] at this
  have e1 : beNat (rtake (beBytes n 8) false 8).1.1 = n := congrArg Prod.fst hrn
  have e2 : (rtake (beBytes n 8) false 8).2 = ([], false) := congrArg Prod.snd hrn
  rw [e1, e2] at HM
  have U2 := Lib.hid (Upd.hide u1 u2 hp)
  clear r2 u1 u2 hrn e1 e2
  go_wp2_with fail
  refine HM.out.mono ?_
  rintro r w3 ⟨rfl, r3, u3⟩
  have R3 := Lib.hid r3
  have U3 := Lib.hid (Upd.hide U2.out u3 hp)
  clear r3 u3
  go_wp2_with fail
  refine (HN.out _).mono ?_
  rintro r w4 ⟨rfl, rfl⟩
  rw [HOK.out]
  go_wp2_with fail
  refine (u_cell (G := NoF) n 2 (.slice none 0 0) [] s _ (HU.out.upd U3.out (fun _ _ h => h)) (Slc.nil _ _ _ _ _ _) (fun _ h => h.elim) hn).mono ?_
  rintro r w5 ⟨rfl, k5, u5⟩
  have K5 := Lib.hid k5
  have U5 := Lib.hid u5
  have r5 := R3.out.upd (UpdN.upd u5) (fun k hk h => by have := hF1 k hk; have := HU.out.lt k h; omega) (fun h => by have := HU.out.lt p h; omega)
  clear k5 u5
  go_wp2_with fail
  refine (rd_end _ r5).mono ?_
  rintro r w6 ⟨rfl, rfl⟩
  go_wp2_with fail
  go_ret
  exact ⟨rfl, _, K5.out, UpdN.nb0 U3.out U5.out, fun k hk => hk.elim .inl (fun h => h.1.elim)⟩
theorem rnum8 {n : Nat} (hn : n ≤ 4294967296) (rest : List UInt8) : beNat (rtake (beBytes n 8 ++ rest) false 8).1.1 = n ∧ (rtake (beBytes n 8 ++ rest) false 8).2 = (rest, false) := by
  have h := rnum_be (v := n) (k := 8) (by omega) rest
  exact ⟨congrArg Prod.fst h, congrArg Prod.snd h⟩
set_option maxRecDepth 100000 in
set_option maxHeartbeats 4000000 in
theorem page_data (n : Nat) (b : List UInt8) (v : Value) (w : World) (h : UnitAt w F u d s) (hv : Bytes w G v (1 :: (beBytes n 8 ++ (beBytes b.length 4 ++ b)))) (hn : n ≤ 4294967296) (hb : b.length ≤ 65536) :
    Calls Try.prog 84 #[.pointer (some ⟨u, 0, none⟩), v] w (fun r w' => r = .returned (.bool true) ∧ Unit2 F u d (s.cell n (1, b)) w w') := by
  have HR := Lib.hid (rd_new v w hv (by simp only [List.length_cons, List.length_append, beBytes_length]; omega))
  have HN := Lib.hid (fun w => u_address n w)
  have hok : okAt n = true := by unfold okAt; simp; omega
  have HOK := Lib.hid hok
  obtain ⟨av, cv, rfl, hcv⟩ := hv.slice
  obtain ⟨L, hL⟩ : ∃ L, (1 :: (beBytes n 8 ++ (beBytes b.length 4 ++ b))).length = L := ⟨_, rfl⟩
  rw [hL] at HR ⊢
  have HU := Lib.hid h
  have hnb : (n : Int) ≤ 4294967296 := by omega
  clear h hv hok hcv hL
  go_enter Try.func84, Try.ntmps84
  go_wp2_with fail
  refine HR.out.mono ?_
  rintro r w1 ⟨F1, p, rfl, r1, u1, hp, hF1⟩
  have HB := Lib.hid (rd_byte w1 r1)
  have R1 := Lib.hid r1
  rw [rnum_one] at HB
  clear r1
  go_wp2_with fail
  refine HB.out.mono ?_
  rintro r w2 ⟨rfl, r2, u2⟩
  have HM := Lib.hid (rd_number 8 w2 r2 (by omega))
  rw [(rnum8 hn _).1, (rnum8 hn _).2] at HM
  have U2 := Lib.hid (Upd.hide u1 u2 hp)
  clear r2 u1 u2
  go_wp2_with fail
  refine HM.out.mono ?_
  rintro r w3 ⟨rfl, r3, u3⟩
  have HBY := Lib.hid (rd_bytes 65536 w3 r3 (by simp only [List.length_append, beBytes_length]; omega))
  have hrb := rbytes_app (b := b) (most := 65536) hb (by omega) []
  rw [List.append_nil] at hrb
  rw [hrb] at HBY
  have U3 := Lib.hid (Upd.hide U2.out u3 hp)
  clear r3 u3 hrb
  go_wp2_with fail
  refine HBY.out.mono ?_
  rintro r w4 ⟨v4, rfl, b4, r4, u4⟩
  obtain ⟨a4, c4, rfl, hc4⟩ := b4.slice
  have R4 := Lib.hid r4
  have B4 := Lib.hid b4
  have U4 := Lib.hid (Upd.hide U3.out u4 hp)
  have Z4 := Lib.hid (And.intro U3.out.size u4.size)
  clear r4 u4 b4 hc4
  go_wp2_with fail
  have r5 := R4.out.upd ((((Upd.refl NoF w4).alloc (.cells #[.int .i64 1, .slice a4 b.length c4] 54)))) (fun _ _ h => h) (fun h => h)
  refine (rd_end _ r5).mono ?_
  rintro r w6 ⟨rfl, rfl⟩
  go_wp2_with fail
  refine (HN.out _).mono ?_
  rintro r w7 ⟨rfl, rfl⟩
  rw [HOK.out]
  go_wp2_with fail
  have U5 := Lib.hid (U4.out.alloc (.cells #[.int .i64 1, .slice a4 b.length c4] 54))
  refine (u_cell n 1 (.slice a4 b.length c4) b s _ (HU.out.upd U5.out (fun _ _ h => h)) (B4.out.upd0 ((Upd.refl NoF w4).alloc _)) (fun k hk hF => by have := HU.out.lt k hF; have := Z4.out.1; omega) hn).mono ?_
  rintro r w8 ⟨rfl, k8, u8⟩
  have K8 := Lib.hid k8
  have U8 := Lib.hid u8
  have r8 := (R4.out.upd ((((Upd.refl NoF w4).alloc (.cells #[.int .i64 1, .slice a4 b.length c4] 54)))) (fun _ _ h => h) (fun h => h)).upd (UpdN.upd u8) (fun k hk h => by have := hF1 k hk; have := HU.out.lt k h; omega) (fun h => by have := HU.out.lt p h; omega)
  clear k8 u8
  go_wp2_with fail
  refine (rd_end _ r8).mono ?_
  rintro r w9 ⟨rfl, rfl⟩
  go_wp2_with fail
  go_ret
  exact ⟨rfl, _, K8.out, UpdN.nb0 U5.out U8.out, fun k hk => hk.elim .inl (fun h => .inr (by have := Z4.out.1; omega))⟩
end Go.Proofs.Ytplhgeecnnadhaa
