/- The unit: a page written. -/
import Derived.Test.YtplhgeecnnadhaaUnitE
namespace Go.Proofs.Ytplhgeecnnadhaa
open Go.RowKit
variable {F G D : Nat → Prop} {w w1 w2 : World} {u d p : Nat} {s : US} {ds : DS}
def numBytes (ns : List Nat) : List UInt8 := ns.flatMap (fun n => beBytes n 8)
theorem numBytes_take {ns : List Nat} {k : Nat} (h : k < ns.length) : numBytes (ns.take (k + 1)) = numBytes (ns.take k) ++ beBytes ns[k] 8 := by
  rw [List.take_succ_eq_append_getElem h]; unfold numBytes; rw [List.flatMap_append]; simp only [List.flatMap_cons, List.flatMap_nil, List.append_nil]
theorem numBytes_length (ns : List Nat) : (numBytes ns).length = 8 * ns.length := by
  induction ns with
  | nil => rfl
  | cons n ns ih => simp [numBytes, beBytes_length] at ih ⊢; omega
theorem dev_app (v : Value) (b : List UInt8) (w : World) (h : DevAt w D d ds) (hv : Bytes w G v b) (hl : b.length ≤ 140737488355328) :
    Calls Try.prog 21 #[.pointer (some ⟨d, 0, none⟩), v] w (fun r w' => r = .returned (.int .i64 ds.code) ∧ Dev2 D d (ds.append b) w w') := by
  unfold DS.append DS.code
  by_cases h0 : ds.free = 0
  · rw [if_pos h0, if_pos h0]
    refine (dev_full v w h h0).mono ?_
    rintro r w' ⟨hr, n, rfl⟩
    exact ⟨hr, D, h.upd ((Upd.refl NoF w).drewN n) (fun _ _ h => h), (Upd.refl _ w).drewN n, fun _ h => .inl h⟩
  · rw [if_neg h0, if_neg h0]
    exact dev_append v b w h h0 hv hl
theorem Ints.bnd {v : Value} {l : List Int} (h : Ints w F v l) : Ints w (fun k => F k ∧ k < w.heap.size) v l := by
  obtain ⟨a, c, hv, hc, h⟩ := h
  refine ⟨a, c, hv, hc, fun hl => ?_⟩
  obtain ⟨g, o, ha, hg, cur, ty, fr, hb, he⟩ := h hl
  exact ⟨g, o, ha, ⟨hg, blk_lt hb⟩, cur, ty, fr, hb, he⟩
/-- the writer, while the numbers are put -/
def WriteRel (w0 : World) (p kind : Nat) (ns : List Nat) (i : Value) (wr : World) : Prop := ∃ k : Nat, k ≤ ns.length ∧ i = .int .i64 k ∧ Wr2 (fun q => q = p) p (UInt8.ofNat kind :: numBytes (ns.take k)) w0 wr
/-- what a device is behind a page that is synced -/
def DS.wrote (ds : DS) (bs : List UInt8) : DS := { ds.append bs with lasts := (ds.append bs).pages.length }
/-- a page is written, and done; or there is no room -/
def WriteQ (F D : Nat → Prop) (u d : Nat) (s s' : US) (ds : DS) (bs : List UInt8) (w : World) (r : Ending) (w' : World) : Prop :=
  r = .returned (.int .i64 ds.code) ∧ ∃ F' D', UnitAt w' F' u d (if ds.code = 0 then s' else s) ∧ DevAt w' D' d (if ds.code = 0 then ds.wrote bs else ds) ∧ Upd (fun k => (F k ∧ NB w k) ∨ D k) w w' ∧
    (∀ k, F' k → F k ∨ w.heap.size ≤ k) ∧ (∀ k, D' k → D k ∨ w.heap.size ≤ k) ∧ ∀ k, F' k → ¬ D' k
set_option maxRecDepth 100000 in
set_option maxHeartbeats 4000000 in
theorem u_write_plain (kind : Nat) (rv nv : Value) (ns : List Nat) (s' : US) (w : World) (h : UnitAt w F u d s) (hd : DevAt w D d ds) (hFD : ∀ k, F k → ¬ D k) (hk : kind < 256) (hn : Ints w G nv (ns.map Int.ofNat)) (hns : ns.length ≤ 10) (hsm : ∀ n ∈ ns, n ≤ 4294967296)
    (hpg : ∀ F' G' v w', UnitAt w' F' u d s → Bytes w' G' v (UInt8.ofNat kind :: numBytes ns) → Calls Try.prog 84 #[.pointer (some ⟨u, 0, none⟩), v] w' (fun r w2 => r = .returned (.bool true) ∧ Unit2 F' u d s' w' w2)) :
    Calls Try.prog 87 #[.pointer (some ⟨u, 0, none⟩), .int .u8 kind, rv, .bool false, nv] w
      (WriteQ F D u d s s' ds (UInt8.ofNat kind :: numBytes ns) w) := by
  obtain ⟨an, cn, rfl, hcn⟩ := hn.slice
  rw [List.length_map]
  have hwr : WrAt (w.alloc (.cells #[.slice none 0 0] 193 (0, 0))) (fun q => q = w.heap.size) w.heap.size [] := ⟨fun k hk => by subst hk; simp, _, blk_new _ _, (Row.nil _ _ _ _), rfl⟩
  have HW1 := Lib.hid (wr_byte (UInt8.ofNat kind) _ hwr (by decide))
  have hkk : (UInt8.ofNat kind).toNat = kind := by simp; omega
  rw [hkk] at HW1
  have HU := Lib.hid h
  have HD := Lib.hid hd
  have HN := Lib.hid (hn.bnd)
  have HX := Lib.hid (And.intro hFD (And.intro hsm hpg))
  have hkb : (kind : Int) < 256 := by omega
  clear hwr h hd hn hFD hsm hpg hcn
  go_enter Try.func87, Try.ntmps87
  go_wp2_with fail
  refine HW1.out.mono ?_
  rintro r w1 ⟨rfl, h1⟩
  have H1 := Lib.hid h1
  clear h1
  go_wp2_with fail
  go_loopw [22] (WriteRel (w.alloc (.cells #[.slice none 0 0] 193 (0, 0))) w.heap.size kind ns) (fun i _ => ns.length - (intOf i).toNat)
  case atStart => exact ⟨0, Nat.zero_le _, rfl, H1.out⟩
  case round =>
    obtain ⟨k, hk, rfl, hwr⟩ := hrel
    obtain ⟨Fw, hw1, hu1, hf1⟩ := hwr
    have HWA := Lib.hid hw1
    have U1 := Lib.hid (((Upd.refl NoF w).alloc (.cells #[.slice none 0 0] 193 (0, 0))).trans (hu1.mono (G := fun q => q = w.heap.size) (fun _ _ h => h)) (fun i hi h => absurd h (by omega)))
    have UW := Lib.hid (And.intro hu1 hf1)
    have HFW := Lib.hid (show ∀ k, Fw k → w.heap.size ≤ k from fun k hk => (hf1 k hk).elim (fun h => by omega) (fun h => by have := alloc_size w (.cells #[.slice none 0 0] 193 (0, 0)); omega))
    clear hw1 hu1 hf1
    rcases Nat.lt_or_ge k ns.length with hlt | hge
    · obtain ⟨g, o, hA, _, hcell⟩ := (HN.out.upd U1.out (fun _ _ h => h)).at_ (by intro e; simp at e; subst e; simp at hlt)
      have hck := hcell k (by simpa using hlt)
      subst hA
      have hki : (k : Int) < (ns.length : Int) := by omega
      rw [List.getElem_map] at hck
      have hsm := HX.out.2.1 ns[k] (List.getElem_mem hlt)
      obtain ⟨m, hm⟩ : ∃ m, ns[k] = m := ⟨_, rfl⟩
      rw [hm] at hck hsm
      have hck' : wr.cell? ⟨g, o + k, none⟩ = some (.int .i64 (m : Int)) := hck
      have hmi : (m : Int) ≤ 4294967296 := by omega
      have HWN := Lib.hid (wr_number m 8 wr HWA.out (by rw [List.length_cons, numBytes_length, List.length_take]; omega) (by omega))
      have HM := Lib.hid hm
      clear hcell hck hm
      go_wp2_with fail
      refine HWN.out.mono ?_
      rintro r w3 ⟨rfl, h3⟩
      have H3 := Lib.hid h3
      clear h3
      go_wp2_with fail
      refine ⟨⟨k + 1, hlt, rfl, ?_⟩, by simp [intOf]; omega⟩
      rw [numBytes_take hlt, HM.out]
      exact Wr2.step UW.out.1 UW.out.2 H3.out
    · obtain rfl : k = ns.length := by omega
      go_wp2_with fail
      rw [List.take_length] at HWA
      clear UW
      obtain ⟨mc, ma, hub⟩ := HU.out.blk
      have hul := HU.out.lt u HU.out.mem
      have S0 := Lib.hid (show wr.drew.cell? ⟨u, 0, none⟩ = some (.pointer (some ⟨d, 0, none⟩)) from blk_cell (U1.out.drew.blk0 hub) 0)
      have WD := Lib.hid (HWA.out.upd ((Upd.refl NoF wr).drew) (fun _ _ h => h))
      obtain ⟨bs, hbs⟩ : ∃ bs, UInt8.ofNat kind :: numBytes ns = bs := ⟨_, rfl⟩
      have hbl : bs.length ≤ 100 := by rw [← hbs, List.length_cons, numBytes_length]; omega
      rw [hbs] at WD HX HWA
      have HBS := Lib.hid hbs
      clear hub hbs
      refine region_late (fun W => W.cell? ⟨u, 0, none⟩ = some (.pointer (some ⟨d, 0, none⟩))) [] (by kernel_rfl) ?_
      refine late_take 0 (.pointer (some ⟨u, 0, none⟩)) rfl (by kernel_rfl) (by kernel_rfl) (by kernel_rfl) (by kernel_rfl) (fun _ _ _ h => h) (by kernel_rfl) S0.out (fun W' _ => by kernel_rfl) ?_
      refine late_take 1 (.pointer (some ⟨u, 0, none⟩)) rfl (by kernel_rfl) (by kernel_rfl) (by kernel_rfl) (by kernel_rfl) (fun _ _ _ h => h) (by kernel_rfl) S0.out (fun W' _ => by kernel_rfl) ?_
      refine late_take 2 (.pointer (some ⟨u, 0, none⟩)) rfl (by kernel_rfl) (by kernel_rfl) (by kernel_rfl) (by kernel_rfl) (fun _ _ _ h => h) (by kernel_rfl) S0.out (fun W' _ => by kernel_rfl) ?_
      refine late_take 3 (.pointer (some ⟨d, 0, none⟩)) rfl (by kernel_rfl) (by kernel_rfl) (by kernel_rfl) (by kernel_rfl) (fun _ _ _ h => h) (by kernel_rfl) S0.out (fun W' hW' => run_load_cell_op 25 _ rfl ⟨u, 0, none⟩ (by kernel_rfl) hW' _ Try.underlying25 rfl) ?_
      refine late_take 4 (.pointer (some ⟨w.heap.size, 0, none⟩)) rfl (by kernel_rfl) (by kernel_rfl) (by kernel_rfl) (by kernel_rfl) (fun _ _ _ h => h) (by kernel_rfl) S0.out (fun W' _ => by kernel_rfl) ?_
      refine late_one 5 rfl (by kernel_rfl) (by kernel_rfl) (fun K hK => ?_)
      go_wp2_with fail
      refine (wr_out _ WD.out (by omega)).mono ?_
      rintro r w3 ⟨v3, rfl, b3, u3⟩
      obtain ⟨a3, c3, rfl, hc3⟩ := b3.slice
      have B3 := Lib.hid b3
      have U3 := Lib.hid (U1.out.drew.then0 u3)
      have U3' := Lib.hid (show Upd NoF wr.drew w3 from u3)
      have S3 := Lib.hid (show w3.cell? ⟨u, 0, none⟩ = some (.pointer (some ⟨d, 0, none⟩)) from u3.cell0 S0.out)
      have Z3 := Lib.hid (show wr.heap.size ≤ w3.heap.size from u3.size)
      clear b3 u3 hc3
      go_wp2_with fail
      refine hK _ _ (fun _ => S3.out) ?_
      clear hK K
      refine late_one 6 rfl (by kernel_rfl) (by kernel_rfl) (fun K hK => ?_)
      go_wp2_with fail
      refine (dev_app _ bs w3 (HD.out.upd U3.out (fun _ _ h => h)) B3.out (by omega)).mono ?_
      rintro r w4 ⟨rfl, D4, hd4, u4, hD4⟩
      have HD4 := Lib.hid hd4
      have U4 := Lib.hid u4
      have Z4 := Lib.hid u4.size
      have S4 := Lib.hid (show w4.cell? ⟨u, 0, none⟩ = some (.pointer (some ⟨d, 0, none⟩)) from u4.cell S3.out (fun h => HX.out.1 u HU.out.mem h))
      obtain ⟨cd, hcd⟩ : ∃ c, ds.code = c := ⟨_, rfl⟩
      have hcd2 : cd = 0 ∨ cd = 4 := by rw [← hcd]; unfold DS.code; split <;> simp
      rw [hcd]
      have HCD := Lib.hid hcd
      clear hd4 u4 hcd
      go_wp2_with fail
      refine hK _ _ (fun _ => S4.out) ?_
      clear hK K
      refine late_one 7 rfl (by kernel_rfl) (by kernel_rfl) (fun K hK => ?_)
      go_wp2_with fail
      refine hK _ _ (fun _ => S4.out) ?_
      clear hK K
      refine late_done (by kernel_rfl) ?_ _
      have hDw : ∀ k, D k → k < w.heap.size := HD.out.lt
      have hFD := HX.out.1
      have hD4F : ∀ k, F k → ¬ D4 k := fun k hk h => by
        have := HU.out.lt k hk
        have := U3.out.size
        rcases hD4 k h with h | h
        · exact hFD k hk h
        · omega
      have U34 := Lib.hid ((U3.out.mono (G := D) (fun _ _ h => h.elim)).andThen U4.out)
      have s4 := S4.out
      rcases hcd2 with rfl | rfl
      · go_wp2_with fail
        refine (dev_sync w4 HD4.out).mono ?_
        rintro r w5 ⟨rfl, hd5, u5⟩
        have HD5 := Lib.hid hd5
        have U5 := Lib.hid u5
        clear hd5 u5 s4
        go_wp2_with fail
        have hFw : ∀ k, Fw k → ¬ (D k ∨ D4 k) := fun k hk h => by
          have h1 := HWA.out.lt k hk
          have h2 := HFW.out k hk
          have h3 := Z3.out
          rcases h with h | h
          · have := hDw k h; omega
          · rcases hD4 k h with h | h
            · have := hDw k h; omega
            · omega
        have W5 := Lib.hid (((WD.out.upd ((U3'.out)) (fun _ _ h => h)).upd U4.out (fun k hk h => hFw k hk (.inl h))).upd U5.out (fun k hk h => hFw k hk (.inr h)))
        refine (wr_out _ W5.out (by omega)).mono ?_
        rintro r w6 ⟨v6, rfl, b6, u6⟩
        obtain ⟨a6, c6, rfl, hc6⟩ := b6.slice
        have B6 := Lib.hid b6
        have U6 := Lib.hid u6
        clear b6 u6 hc6
        go_wp2_with fail
        have K6 := Lib.hid (((HU.out.upd U34.out hFD).upd U5.out hD4F).upd U6.out (fun _ _ h => h))
        refine (HX.out.2.2 _ _ _ _ K6.out B6.out).mono ?_
        rintro r w7 ⟨rfl, F7, k7, u7, f7⟩
        have K7 := Lib.hid (And.intro k7 (And.intro u7 f7))
        clear k7 u7 f7
        go_wp2_with fail
        go_ret
        have hz3 := U3.out.size
        have hz4 := Z4.out
        have hz5 := U5.out.size
        have hz6 := U6.out.size
        have hlt4 := HD4.out.lt
        rw [HBS.out]
        refine ⟨by rw [HCD.out]; rfl, F7, D4, ?_, ?_, ?_, ?_, ?_, ?_⟩
        · rw [if_pos HCD.out]; exact K7.out.1
        · rw [if_pos HCD.out]; exact (HD5.out.upd U6.out (fun _ _ h => h)).upd (UpdN.upd K7.out.2.1) (fun k hk hF => hD4F k hF hk)
        · exact UpdN.after ((U34.out.trans U5.out (fun i hi h => (hD4 i h).elim (fun h => h) (fun h => absurd h (by omega)))).then0 U6.out) (fun k _ hF => hFD k hF) K7.out.2.1
        · intro k hk
          rcases K7.out.2.2 k hk with h | h
          · exact .inl h
          · exact .inr (by omega)
        · intro k hk
          rcases hD4 k hk with h | h
          · exact .inl h
          · exact .inr (by omega)
        · intro k hk h
          rcases K7.out.2.2 k hk with h7 | h7
          · exact hD4F k h7 h
          · have := hlt4 k h; omega
      · go_wp2_with fail
        go_ret
        have hne : ¬ ds.code = 0 := by rw [HCD.out]; decide
        have hap : ds.append bs = ds := by
          unfold DS.append
          by_cases h0 : ds.free = 0
          · rw [if_pos h0]
          · exact absurd (show ds.code = 0 by unfold DS.code; rw [if_neg h0]) hne
        rw [HBS.out]
        refine ⟨by rw [HCD.out]; rfl, F, D4, ?_, ?_, U34.out.mono (fun _ _ h => .inr h), fun k hk => .inl hk, fun k hk => (hD4 k hk).elim .inl (fun h => .inr (by have := U3.out.size; omega)), hD4F⟩
        · rw [if_neg hne]; exact HU.out.upd U34.out hFD
        · rw [if_neg hne]; have := HD4.out; rwa [hap] at this
end Go.Proofs.Ytplhgeecnnadhaa
