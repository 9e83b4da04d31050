/- The unit: pages of promises and acceptances. -/
import Derived.Test.YtplhgeecnnadhaaUnitC
namespace Go.Proofs.Ytplhgeecnnadhaa
open Go.RowKit
variable {F G : Nat → Prop} {w w1 w2 : World} {u d p : Nat} {s : US}
def acc0 : Acc := ⟨⟨0, 0⟩, ⟨0, 0⟩, []⟩
def US.at_ (s : US) (n : Int) : Acc := (s.acc n).getD acc0
def Acc.v (a : Acc) (b : Value) : Value := .agg #[.int .i64 a.pr.r, .int .i64 a.pr.w, .int .i64 a.ac.r, .int .i64 a.ac.w, b]
theorem acc_zero (W : World) : (zeroValue 153).run Try.prog W = .ok (acc0.v (.slice none 0 0)) W := by kernel_rfl
/-- an acceptor that is looked up -/
theorem acc_look {m : Nat} (h : MapRep accRep w F m s.acc) (n : Int) : ∃ a c, (Instr.lookup 147 (.map (some m)) (.int .i64 n) false).run Try.prog w = .ok ((s.at_ n).v (.slice a (s.at_ n).val.length c)) w ∧ Bytes w F (.slice a (s.at_ n).val.length c) (s.at_ n).val := by
  obtain ⟨kv, h1, h2, h3⟩ := h
  have hl := h1.run_lookup Try.underlying147 Try.underlying3 (acc_zero w) n false
  simp only [Bool.false_eq_true, if_false] at hl
  cases hk : kvGet kv n with
  | none =>
    rw [hk] at hl
    have : s.at_ n = acc0 := by unfold US.at_; rw [h3 n hk]; rfl
    rw [this]
    exact ⟨none, 0, hl, Slc.nil _ _ _ _ _ _⟩
  | some v =>
    rw [hk] at hl
    obtain ⟨a, ha, b, hb, hv⟩ := h2 n v hk
    have : s.at_ n = a := by unfold US.at_; rw [ha]; rfl
    rw [this]
    obtain ⟨x, c, rfl, _⟩ := hv.slice
    subst hb
    exact ⟨x, c, hl, hv⟩
def US.put (s : US) (n : Int) (a : Acc) : US := { s with acc := fput s.acc n a }
/-- an acceptor that is put -/
theorem acc_close {mc ma : Nat} {kv : List (Int × Value)} {n : Int} {a : Acc} {v : Value}
    (h1 : ∀ k, F k → k < w.heap.size) (f1 : F u) (f2 : F mc) (f3 : F ma) (n1 : u ≠ mc) (n2 : u ≠ ma) (n3 : mc ≠ ma)
    (hk1 : ∀ k v, kvGet kv k = some v → ∃ a, s.acc k = some a ∧ accRep w (N3 F u mc ma) v a) (hk2 : ∀ k, kvGet kv k = none → s.acc k = none)
    (hc : MapRep cellRep w (N3 F u mc ma) mc s.cells) (hv : Bytes w1 (fun q => N3 F u mc ma q ∨ (w.heap.size ≤ q)) v a.val) (ua : Upd NoF w w1) (u2 : Upd (OneF ma) w1 w2)
    (hb : w2.heap[u]? = some (.cells #[.pointer (some ⟨d, 0, none⟩), .int .i64 s.e, .int .i64 s.low, .int .i64 s.tail, .map (some mc), .map (some ma)] 149 (0, 0)))
    (hmw : NB w ma) (hm : IMap w2 ma (kvPut kv n (a.v v))) :
    UnitAt w2 (fun q => F q ∨ (w.heap.size ≤ q ∧ q < w1.heap.size)) u d (s.put n a) ∧ UpdN F w w2 := by
  have uu : Upd (OneF ma) w w2 := (ua.mono (G := OneF ma) (fun _ _ h => h.elim)).andThen u2
  have hN : ∀ q, N3 F u mc ma q → ¬ OneF ma q := fun q hq h => hq.2.2.2 h
  have hmono : ∀ q, N3 F u mc ma q → N3 (fun q => F q ∨ (w.heap.size ≤ q ∧ q < w1.heap.size)) u mc ma q := fun q hq => ⟨.inl hq.1, hq.2⟩
  have hz1 := ua.size
  have hz2 := u2.size
  refine ⟨⟨?_, mc, ma, hb, ⟨.inl f1, .inl f2, .inl f3, n1, n2, n3⟩, ?_, ?_⟩, uu.mono (fun k _ h => by simp only [OneF] at h; subst h; exact ⟨f3, hmw⟩)⟩
  · intro q hq
    rcases hq with h | h
    · exact Nat.lt_of_lt_of_le (h1 q h) uu.size
    · omega
  · exact (hc.upd cellRep_upd uu hN (fun h => n3 h)).mono cellRep_mono hmono
  · refine fput_get (kv := kv) (v := a.v v) hm (fun j v' hj => ?_) hk2 ?_
    · obtain ⟨a, h2, h3⟩ := hk1 j v' hj
      exact ⟨a, h2, accRep_mono _ _ _ _ _ (accRep_upd _ _ _ _ _ _ h3 uu hN) hmono⟩
    · refine ⟨v, rfl, ?_⟩
      have hfar : ∀ q, F q → q < w.heap.size := h1
      refine (hv.bound.upd u2 (fun q hq h => ?_)).mono (fun q hq => ?_)
      · simp only [OneF] at h; subst h
        rcases hq.1 with h | h
        · exact h.2.2.2 rfl
        · have := h1 _ f3; omega
      · rcases hq.1 with h | h
        · exact hmono q h
        · exact ⟨.inr ⟨h, hq.2⟩, fun e => by have := h1 _ f1; omega, fun e => by have := h1 _ f2; omega, fun e => by have := h1 _ f3; omega⟩
theorem alloc_size (w : World) (o : Obj) : w.heap.size + 1 = (w.alloc o).heap.size := by simp
theorem rnum8e {n : Nat} (hn : n ≤ 4294967296) : beNat (rtake (beBytes n 8) false 8).1.1 = n ∧ (rtake (beBytes n 8) false 8).2 = ([], false) := by
  have := rnum8 hn []
  rwa [List.append_nil] at this
set_option maxRecDepth 100000 in
set_option maxHeartbeats 4000000 in
theorem page_promise (n r q : Nat) (v : Value) (w : World) (h : UnitAt w F u d s) (hv : Bytes w G v (5 :: (beBytes n 8 ++ (beBytes r 8 ++ beBytes q 8)))) (hn0 : 0 < n) (hn : n ≤ 2147483647) (hr : r ≤ 2147483647) (hq : q ≤ 2147483647) :
    Calls Try.prog 84 #[.pointer (some ⟨u, 0, none⟩), v] w (fun x w' => x = .returned (.bool true) ∧ Unit2 F u d (s.put n { s.at_ n with pr := ⟨r, q⟩ }) w w') := by
  have HR := Lib.hid (rd_new v w hv (by simp only [List.length_cons, List.length_append, beBytes_length]; omega))
  have hok : okInst n ⟨r, q⟩ = true := by unfold okInst okNum; simp; omega
  have HN := Lib.hid (fun w => u_instance n ⟨r, q⟩ w)
  rw [hok] at HN
  obtain ⟨A, hA⟩ : ∃ A, s.at_ n = A := ⟨_, rfl⟩
  rw [hA]
  have HA := Lib.hid hA
  clear hA
  obtain ⟨av, cv, rfl, hcv⟩ := hv.slice
  obtain ⟨L, hL⟩ : ∃ L, (5 :: (beBytes n 8 ++ (beBytes r 8 ++ beBytes q 8))).length = L := ⟨_, rfl⟩
  rw [hL] at HR ⊢
  have HU := Lib.hid h
  obtain ⟨h1, mc, ma, hub, hfs, hc, ha⟩ := h
  have HP := Lib.hid (And.intro h1 (And.intro hfs (And.intro hc ha)))
  have HUB := Lib.hid hub
  have hnb : (n : Int) ≤ 2147483647 := by omega
  have hrb : (r : Int) ≤ 2147483647 := by omega
  have hqb : (q : Int) ≤ 2147483647 := by omega
  clear h1 hfs hc ha hv hok hcv hL hub
  go_enter Try.func84, Try.ntmps84
  go_wp2_with fail
  refine HR.out.mono ?_
  rintro x w1 ⟨F1, p, rfl, r1, u1, hp, hF1⟩
  have HB := Lib.hid (rd_byte w1 r1)
  have R1 := Lib.hid r1
  rw [rnum_one] at HB
  clear r1
  go_wp2_with fail
  refine HB.out.mono ?_
  rintro x w2 ⟨rfl, r2, u2⟩
  have HM := Lib.hid (rd_number 8 w2 r2 (by omega))
  rw [(rnum8 (by omega) _).1, (rnum8 (by omega) _).2] at HM
  have U2 := Lib.hid (Upd.hide u1 u2 hp)
  clear r2 u1 u2
  go_wp2_with fail
  refine HM.out.mono ?_
  rintro x w3 ⟨rfl, r3, u3⟩
  have HM3 := Lib.hid (rd_number 8 w3 r3 (by omega))
  rw [(rnum8 (by omega) _).1, (rnum8 (by omega) _).2] at HM3
  have U3 := Lib.hid (Upd.hide U2.out u3 hp)
  clear r3 u3
  go_wp2_with fail
  refine HM3.out.mono ?_
  rintro x w4 ⟨rfl, r4, u4⟩
  have HM4 := Lib.hid (rd_number 8 w4 r4 (by omega))
  rw [(rnum8e (by omega)).1, (rnum8e (by omega)).2] at HM4
  have U4 := Lib.hid (Upd.hide U3.out u4 hp)
  clear r4 u4
  go_wp2_with fail
  refine HM4.out.mono ?_
  rintro x w5 ⟨rfl, r5, u5⟩
  have R5 := Lib.hid r5
  have U5 := Lib.hid (Upd.hide U4.out u5 hp)
  clear r5 u5
  have hub := (U5.out.alloc (.cells #[.int .i64 r, .int .i64 q] 40)).blk0 HUB.out
  have c5 : (w5.alloc (.cells #[.int .i64 r, .int .i64 q] 40)).cell? ⟨u, 5, none⟩ = some (.map (some ma)) := blk_cell hub 5
  have U6 := Lib.hid (U5.out.alloc (.cells #[.int .i64 r, .int .i64 q] 40))
  obtain ⟨a0, c0, hlk, hbl⟩ := acc_look (HP.out.2.2.2.upd accRep_upd U6.out (fun _ _ h => h) (fun h => h)) n
  rw [HA.out] at hlk hbl
  unfold Acc.v at hlk
  have HBL := Lib.hid hbl
  clear hub hbl
  go_wp2_with fail
  have r7 := R5.out.upd ((((Upd.refl NoF w5).alloc (.cells #[.int .i64 r, .int .i64 q] 40)).alloc (.cells #[.int .i64 r, .int .i64 q, .int .i64 A.ac.r, .int .i64 A.ac.w, .slice a0 A.val.length c0] 153))) (fun _ _ h => h) (fun h => h)
  refine (rd_end _ r7).mono ?_
  rintro x w6 ⟨rfl, rfl⟩
  clear r7
  go_wp2_with fail
  refine (HN.out _).mono ?_
  rintro x w7 ⟨rfl, u7⟩
  have U7 := Lib.hid u7
  clear u7 hlk
  go_wp2_with fail
  have U8 := Lib.hid (((U6.out.alloc (.cells #[.int .i64 r, .int .i64 q, .int .i64 A.ac.r, .int .i64 A.ac.w, .slice a0 A.val.length c0] 153)).then0 U7.out))
  have hub8 := U8.out.drew.blk0 HUB.out
  have hrow : w7.drew.heap[w5.heap.size + 1]? = some (.cells #[.int .i64 r, .int .i64 q, .int .i64 A.ac.r, .int .i64 A.ac.w, .slice a0 A.val.length c0] 153) := U7.out.blk0 (blk_newn (w := w5.alloc (.cells #[.int .i64 r, .int .i64 q] 40)) (alloc_size _ _) _)
  have S0 := Lib.hid (And.intro (show w7.drew.cell? ⟨u, 5, none⟩ = some (.map (some ma)) from blk_cell hub8 5) hrow)
  obtain ⟨kv, hm, hk1, hk2⟩ := HP.out.2.2.2
  obtain ⟨w9, hup, m9, u9, z9⟩ := IMap.run_update (P := Try.prog) (hm.upd U8.out.drew (fun h => h)) Try.underlying147 Try.underlying3 n (.agg #[.int .i64 r, .int .i64 q, .int .i64 A.ac.r, .int .i64 A.ac.w, .slice a0 A.val.length c0])
  have hub9 := u9.blk hub8 (by simp only [OneF]; exact HP.out.2.1.2.2.2.2.1)
  have HUB9 := Lib.hid hub9
  have M9 := Lib.hid m9
  have U9 := Lib.hid u9
  have HK := Lib.hid (And.intro hk1 hk2)
  have HNB := Lib.hid (NB.map hm)
  have HUP := Lib.hid hup
  clear hm hk1 hk2 hub8 hrow hub9 m9 u9 hup
  refine region_late (fun W => W.cell? ⟨u, 5, none⟩ = some (.map (some ma)) ∧ W.heap[w5.heap.size + 1]? = some (.cells #[.int .i64 r, .int .i64 q, .int .i64 A.ac.r, .int .i64 A.ac.w, .slice a0 A.val.length c0] 153)) [6] (by kernel_rfl) ?_
  refine late_take 0 (.pointer (some ⟨u, 0, none⟩)) rfl (by kernel_rfl) (by kernel_rfl) (by kernel_rfl) (by kernel_rfl) (fun _ _ _ h => h) (by kernel_rfl) S0.out (fun W' _ => by kernel_rfl) ?_
  refine late_take 1 (.pointer (some ⟨u, 0, none⟩)) rfl (by kernel_rfl) (by kernel_rfl) (by kernel_rfl) (by kernel_rfl) (fun _ _ _ h => h) (by kernel_rfl) S0.out (fun W' _ => by kernel_rfl) ?_
  refine late_take 2 (.pointer (some ⟨u, 5, none⟩)) rfl (by kernel_rfl) (by kernel_rfl) (by kernel_rfl) (by kernel_rfl) (fun _ _ _ h => h) (by kernel_rfl) S0.out (fun W' _ => by kernel_rfl) ?_
  refine late_take 3 (.map (some ma)) rfl (by kernel_rfl) (by kernel_rfl) (by kernel_rfl) (by kernel_rfl) (fun _ _ _ h => h) (by kernel_rfl) S0.out (fun W' hW' => run_load_cell_op 147 _ rfl ⟨u, 5, none⟩ (by kernel_rfl) hW'.1 _ Try.underlying147 rfl) ?_
  refine late_take 4 (.int .i64 n) rfl (by kernel_rfl) (by kernel_rfl) (by kernel_rfl) (by kernel_rfl) (fun _ _ _ h => h) (by kernel_rfl) S0.out (fun W' _ => by kernel_rfl) ?_
  refine late_take 5 (.agg #[.int .i64 r, .int .i64 q, .int .i64 A.ac.r, .int .i64 A.ac.w, .slice a0 A.val.length c0]) rfl (by kernel_rfl) (by kernel_rfl) (by kernel_rfl) (by kernel_rfl) (fun _ _ _ h => h) (by kernel_rfl) S0.out (fun W' hW' => run_load_row_op 153 _ rfl (w5.heap.size + 1) (by kernel_rfl) 153 _ (0, 0) _ hW'.2 Try.underlying153 rfl (by kernel_rfl)) ?_
  have hup := HUP.out
  refine late_one 6 rfl (by kernel_rfl) (by kernel_rfl) (fun K hK => ?_)
  go_wp2_with fail
  refine hK _ _ (fun h => (by cases h)) ?_
  clear hK K hup
  refine late_done (by kernel_rfl) ?_ _
  have r9 := ((R5.out.upd ((((Upd.refl NoF w5).alloc (.cells #[.int .i64 r, .int .i64 q] 40)).alloc (.cells #[.int .i64 r, .int .i64 q, .int .i64 A.ac.r, .int .i64 A.ac.w, .slice a0 A.val.length c0] 153))) (fun _ _ h => h) (fun h => h)).upd U7.out.drew (fun _ _ h => h) (fun h => h)).upd U9.out (fun k hk h => by have := hF1 k hk; have := HP.out.1 ma HP.out.2.1.2.2.1; simp only [OneF] at h; omega) (fun h => by have := HP.out.1 ma HP.out.2.1.2.2.1; simp only [OneF] at h; omega)
  go_wp2_with fail
  refine (rd_end _ r9).mono ?_
  rintro x w10 ⟨rfl, rfl⟩
  go_wp2_with fail
  go_ret
  obtain ⟨h1, ⟨f1, f2, f3, n1, n2, n3⟩, hc, _⟩ := HP.out
  obtain ⟨k1, k2⟩ := acc_close (a := { A with pr := ⟨r, q⟩ }) h1 f1 f2 f3 n1 n2 n3 HK.out.1 HK.out.2 hc (((HBL.out.upd0 (((Upd.refl NoF _).alloc (.cells #[.int .i64 r, .int .i64 q, .int .i64 A.ac.r, .int .i64 A.ac.w, .slice a0 A.val.length c0] 153)).then0 U7.out.drew)).mono (fun k hk => .inl hk))) U8.out.drew U9.out HUB9.out HNB.out M9.out
  exact ⟨rfl, _, k1, k2, fun k hk => hk.elim .inl (fun h => .inr h.1)⟩
end Go.Proofs.Ytplhgeecnnadhaa
