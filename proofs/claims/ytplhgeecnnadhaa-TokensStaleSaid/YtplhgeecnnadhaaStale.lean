/- TokensStale: the walk. -/
import Derived.Test.YtplhgeecnnadhaaStaleP
namespace Go.Proofs.Ytplhgeecnnadhaa
open Go.RowKit
set_option linter.unusedVariables false
variable {F : Nat → Prop}
set_option maxRecDepth 100000 in
theorem part_int (x : Value) (xs : Array Value) (i : Nat) (w : World) (h : xs[i]? = some x) : (part 3 xs i).run Try.prog w = .ok x w := run_part_plain w (by kernel_rfl) h
theorem pairKey : KeyOk (K := IPair) Try.prog 64 encP :=
  pair_ok Try.underlying64 Try.underlying3 (fun w => by kernel_rfl) part_int
theorem msgOf_eq (r : Option Msg) : msgOf r = .tuple #[(r.getD {}).val, .bool r.isSome] := by cases r <;> rfl
theorem given_mono {kv : List (IPair × Value)} {s s' : TS} (h : Given kv s) (h1 : s.e ≤ s'.e) (h2 : s'.e = s.e → s.n ≤ s'.n) : Given kv s' := fun k hk => by
  rcases h k hk with h | ⟨h, h'⟩
  · exact .inl (by omega)
  · by_cases he : s'.e = s.e
    · exact .inr ⟨by omega, by have := h2 he; omega⟩
    · exact .inl (by omega)
theorem given_put {kv : List (IPair × Value)} {s s' : TS} (h : Given kv s) (h1 : s'.e = s.e) (h2 : s.n < s'.n) (v : Value) : Given (gPut kv (⟨s.e, s.n⟩ : IPair) v) s' := fun k hk => by
  have h0 := given_mono h (Int.le_of_eq h1.symm) (fun _ => by omega)
  rw [gPut_keys] at hk
  split at hk
  · exact h0 k hk
  · simp only [List.mem_append, List.mem_singleton] at hk
    rcases hk with hk | rfl
    · exact h0 k hk
    · exact .inr ⟨h1.symm, h2⟩
theorem given_new {kv : List (IPair × Value)} {s : TS} (h : Given kv s) : gGet kv (⟨s.e, s.n⟩ : IPair) = none := by
  rw [gGet_none]
  intro hm
  rcases h _ hm with h | ⟨_, h⟩
  · exact absurd h (Int.lt_irrefl _)
  · exact absurd h (Int.lt_irrefl _)
def StaleRel (q m : Nat) (len : Nat) (W0 : World) (i : Value) (wr : World) : Prop :=
  ∃ k : Nat, k ≤ len ∧ i = .int .i64 k ∧ ∃ s kv, SeqAt wr q s ∧ s.inv ∧ GMap encP wr m kv ∧ Given kv s ∧ Upd (fun x => x = q ∨ x = m) W0 wr
set_option maxRecDepth 100000 in
set_option maxHeartbeats 16000000 in
theorem stale_walk (v : Value) (l : List Msg) (w : World) (hv : Slc mcell 16 w (fun k => k < w.heap.size) v l) :
    Calls Try.prog 8 #[v] w (fun r w' => r = .returned (.bool true) ∧ Upd NoF w w') := by
  obtain ⟨a, c, rfl, hc, hcells⟩ := hv
  by_cases hlong : (100 : Int) < (l.length : Int)
  · go_enter Try.func8, Try.ntmps8
    go_wp2_with fail
    refine (speaks15 _).mono ?_
    rintro r w1 ⟨rfl, u1⟩
    go_wp2_with fail
    go_ret
    exact ⟨rfl, u1⟩
  go_enter Try.func8, Try.ntmps8
  go_wp2_with fail
  refine (speaks15 _).mono ?_
  rintro r w1 ⟨rfl, u1⟩
  go_wp2_with fail
  refine (newseq_any _).mono ?_
  rintro r w2 ⟨q, rfl, s2, hq, u2⟩
  have hmm := @run_makeMap Try.prog
  go_wp2_with fail
  clear hmm
  generalize hW0 : World.alloc _ (.map #[] 0) = W0
  have m0 : GMap encP W0 w2.heap.size [] := by rw [← hW0]; exact GMap.made w2
  have s0 : SeqAt W0 q ts0 := by rw [← hW0]; exact s2.upd ((Upd.refl NoF _).alloc _) (fun h => h)
  have u0 : Upd NoF w W0 := by rw [← hW0]; exact (u1.then0 u2).alloc _
  have hqm : q ≠ w2.heap.size := by have := blk_lt s2.2.2; omega
  have hq' : w.heap.size ≤ q := by have := u1.size; omega
  have hmw : w.heap.size ≤ w2.heap.size := by have := u1.size; have := u2.size; omega
  generalize w2.heap.size = mm at *
  clear hW0 u1 u2 s2
  go_loopw [20] (StaleRel q mm l.length W0) (fun i _ => l.length - (intOf i).toNat)
  case atStart => exact ⟨0, Nat.zero_le _, rfl, ts0, [], s0, ts0_inv, m0, fun k hk => by simp at hk, Upd.refl _ _⟩
  case round =>
    obtain ⟨k, hk, rfl, s, kv, hs, hi, hm, hgv, hu⟩ := hrel
    have hur : Upd NoF w wr := u0.trans hu (fun i hi h => by rcases h with h | h <;> omega)
    by_cases hlt : k < l.length
    · have hne : l ≠ [] := by intro e; rw [e] at hlt; simp at hlt
      obtain ⟨g, o, ha, hg, cur, ty, fr, hblk, hce⟩ := hcells hne
      obtain ⟨cs, hcs, hac, hcur⟩ := hce k hlt
      generalize l[k] = m at *
      subst ha
      obtain ⟨hcs2, ⟨da, dn, dc, hd⟩, ⟨va, vn, vc, hvv⟩⟩ := hac
      have hlist : m.list = [.int .i64 m.src, .int .i64 m.dst, .int .i64 m.num, .bool m.reply, .int .i64 m.kind, .int .i64 m.epoch, .int .i64 m.at_, .int .i64 m.what, .slice da dn dc, .int .i64 m.round, .int .i64 m.who, .slice va vn vc, .int .i64 m.err, .int .i64 m.tail, .int .i64 m.low, .int .i64 m.back] := by unfold Msg.list; rw [hd, hvv]
      rw [hlist] at hcs2
      subst hcs2
      have hbg := hur.blk0 hblk
      have hcell : ∀ j, j < 16 → ∀ v, [Value.int .i64 m.src, .int .i64 m.dst, .int .i64 m.num, .bool m.reply, .int .i64 m.kind, .int .i64 m.epoch, .int .i64 m.at_, .int .i64 m.what, .slice da dn dc, .int .i64 m.round, .int .i64 m.who, .slice va vn vc, .int .i64 m.err, .int .i64 m.tail, .int .i64 m.low, .int .i64 m.back][j]? = some v → wr.cell? ⟨g, o + k * 16 + j, none⟩ = some v := fun j hj v hv => by
        rw [blk_cell hbg]
        exact (hcur j hj).trans hv
      have z0 : wr.cell? ⟨g, o + k * 16, none⟩ = some (.int .i64 m.src) := hcell 0 (by omega) _ rfl
      have z1 : wr.cell? ⟨g, o + k * 16 + 1, none⟩ = some (.int .i64 m.dst) := hcell 1 (by omega) _ rfl
      have z2 : wr.cell? ⟨g, o + k * 16 + 2, none⟩ = some (.int .i64 m.num) := hcell 2 (by omega) _ rfl
      have z3 : wr.cell? ⟨g, o + k * 16 + 3, none⟩ = some (.bool m.reply) := hcell 3 (by omega) _ rfl
      have z4 : wr.cell? ⟨g, o + k * 16 + 4, none⟩ = some (.int .i64 m.kind) := hcell 4 (by omega) _ rfl
      have z5 : wr.cell? ⟨g, o + k * 16 + 5, none⟩ = some (.int .i64 m.epoch) := hcell 5 (by omega) _ rfl
      have z6 : wr.cell? ⟨g, o + k * 16 + 6, none⟩ = some (.int .i64 m.at_) := hcell 6 (by omega) _ rfl
      have z7 : wr.cell? ⟨g, o + k * 16 + 7, none⟩ = some (.int .i64 m.what) := hcell 7 (by omega) _ rfl
      have z8 : wr.cell? ⟨g, o + k * 16 + 8, none⟩ = some (.slice da dn dc) := hcell 8 (by omega) _ rfl
      have z9 : wr.cell? ⟨g, o + k * 16 + 9, none⟩ = some (.int .i64 m.round) := hcell 9 (by omega) _ rfl
      have z10 : wr.cell? ⟨g, o + k * 16 + 10, none⟩ = some (.int .i64 m.who) := hcell 10 (by omega) _ rfl
      have z11 : wr.cell? ⟨g, o + k * 16 + 11, none⟩ = some (.slice va vn vc) := hcell 11 (by omega) _ rfl
      have z12 : wr.cell? ⟨g, o + k * 16 + 12, none⟩ = some (.int .i64 m.err) := hcell 12 (by omega) _ rfl
      have z13 : wr.cell? ⟨g, o + k * 16 + 13, none⟩ = some (.int .i64 m.tail) := hcell 13 (by omega) _ rfl
      have z14 : wr.cell? ⟨g, o + k * 16 + 14, none⟩ = some (.int .i64 m.low) := hcell 14 (by omega) _ rfl
      have z15 : wr.cell? ⟨g, o + k * 16 + 15, none⟩ = some (.int .i64 m.back) := hcell 15 (by omega) _ rfl
      clear hcell hbg hblk hcur hcells hce hlist
      have hval : m.val = .agg #[.int .i64 m.src, .int .i64 m.dst, .int .i64 m.num, .bool m.reply, .int .i64 m.kind, .int .i64 m.epoch, .int .i64 m.at_, .int .i64 m.what, .slice da dn dc, .int .i64 m.round, .int .i64 m.who, .slice va vn vc, .int .i64 m.err, .int .i64 m.tail, .int .i64 m.low, .int .i64 m.back] := by unfold Msg.val; rw [hd, hvv]
      have hsl : StaleLaw s m (s.answer m).1 (s.answer m).2 := stale_law hi m
      have HV := Lib.hid hval
      have HSL := Lib.hid hsl
      have HS := Lib.hid hs
      have HM := Lib.hid hm
      have HU := Lib.hid hu
      have HUR := Lib.hid hur
      have HG := Lib.hid hgv
      have HD := Lib.hid hd
      have HVV := Lib.hid hvv
      clear hval hsl hs hm hu hur hgv hd hvv s0 m0 u0 hi
      have hqr := blk_lt HS.out.2.2
      by_cases hbig : (1000 : Int) < (dn : Int)
      · go_wp2_with fail
        go_ret
        exact ⟨rfl, HUR.out.alloc _⟩
      by_cases hbig2 : (1500 : Int) < (vn : Int)
      · go_wp2_with fail
        go_ret
        exact ⟨rfl, HUR.out.alloc _⟩
      have hA := blk_new wr (.cells #[.int .i64 m.src, .int .i64 m.dst, .int .i64 m.num, .bool m.reply, .int .i64 m.kind, .int .i64 m.epoch, .int .i64 m.at_, .int .i64 m.what, .slice da dn dc, .int .i64 m.round, .int .i64 m.who, .slice va vn vc, .int .i64 m.err, .int .i64 m.tail, .int .i64 m.low, .int .i64 m.back] 56)
      have uA := (Upd.refl NoF wr).alloc (.cells #[.int .i64 m.src, .int .i64 m.dst, .int .i64 m.num, .bool m.reply, .int .i64 m.kind, .int .i64 m.epoch, .int .i64 m.at_, .int .i64 m.what, .slice da dn dc, .int .i64 m.round, .int .i64 m.who, .slice va vn vc, .int .i64 m.err, .int .i64 m.tail, .int .i64 m.low, .int .i64 m.back] 56)
      have sA := HS.out.upd uA (fun h => h)
      have mA := HM.out.upd uA (fun h => h)
      have HA := Lib.hid hA
      have UA := Lib.hid uA
      have SA := Lib.hid sA
      have MA := Lib.hid mA
      clear hA uA sA mA
      go_wp2_with (first
        | (go_at_call 39; refine (epoch_any q s _ SA.out).mono ?_; rintro r w5 ⟨rfl, rfl⟩)
        | (go_at_call 38; refine (next_any q s _ SA.out).mono ?_; rintro r w5 ⟨rfl, rfl⟩))
      rw [← HV.out]
      refine (answer_any q s m _ SA.out ⟨_, _, _, HD.out⟩ ⟨_, _, _, HVV.out⟩).mono ?_
      rintro r w4 ⟨rfl, s4, u4⟩
      rw [msgOf_eq]
      have hsl := HSL.out
      have hx : ((s.answer m).2.getD {}).data = .slice none 0 0 ∧ ((s.answer m).2.getD {}).value = .slice none 0 0 := by
        cases h : (s.answer m).2 with
        | none => exact ⟨rfl, rfl⟩
        | some x => exact hsl.slices x h
      clear HSL
      generalize (s.answer m).1 = s' at *
      generalize hr : (s.answer m).2 = r at *
      clear hr
      have hquiet : (r.isSome = false ∨ (r.getD {}).err ≠ 0) → s'.e = s.e ∧ s'.n = s.n := fun h => hsl.quiet (fun x hx => by
        subst hx; simpa using h)
      have hgave : r.isSome = true → (r.getD {}).err = 0 → m.kind = 8 → s'.e = s.e ∧ (r.getD {}).tail = s.n ∧ (r.getD {}).back < (r.getD {}).tail ∧ s.n < s'.n := fun h1 h2 h3 => by
        cases r with
        | none => cases h1
        | some x => exact hsl.gave x rfl h2 h3
      have hep := hsl.epoch
      have hnx := hsl.next
      have HSL := Lib.hid hsl
      clear hsl
      generalize hok : r.isSome = ok at *
      generalize hxx : r.getD {} = x at *
      clear hok hxx
      obtain ⟨hx1, hx2⟩ := hx
      have hxv : x.val = .agg #[.int .i64 x.src, .int .i64 x.dst, .int .i64 x.num, .bool x.reply, .int .i64 x.kind, .int .i64 x.epoch, .int .i64 x.at_, .int .i64 x.what, .slice none 0 0, .int .i64 x.round, .int .i64 x.who, .slice none 0 0, .int .i64 x.err, .int .i64 x.tail, .int .i64 x.low, .int .i64 x.back] := by unfold Msg.val; rw [hx1, hx2]
      rw [hxv]
      have S5 := Lib.hid (s4.upd ((Upd.refl NoF w4).alloc (.cells #[.int .i64 x.src, .int .i64 x.dst, .int .i64 x.num, .bool x.reply, .int .i64 x.kind, .int .i64 x.epoch, .int .i64 x.at_, .int .i64 x.what, .slice none 0 0, .int .i64 x.round, .int .i64 x.who, .slice none 0 0, .int .i64 x.err, .int .i64 x.tail, .int .i64 x.low, .int .i64 x.back] 56)) (fun h => h))
      have M5 := Lib.hid ((MA.out.upd u4 (by simp only [OneF]; omega)).upd ((Upd.refl NoF w4).alloc (.cells #[.int .i64 x.src, .int .i64 x.dst, .int .i64 x.num, .bool x.reply, .int .i64 x.kind, .int .i64 x.epoch, .int .i64 x.at_, .int .i64 x.what, .slice none 0 0, .int .i64 x.round, .int .i64 x.who, .slice none 0 0, .int .i64 x.err, .int .i64 x.tail, .int .i64 x.low, .int .i64 x.back] 56)) (fun h => h))
      have U5 := Lib.hid (((HU.out.then0 UA.out).trans u4 (fun i _ h => .inl h)).alloc (.cells #[.int .i64 x.src, .int .i64 x.dst, .int .i64 x.num, .bool x.reply, .int .i64 x.kind, .int .i64 x.epoch, .int .i64 x.at_, .int .i64 x.what, .slice none 0 0, .int .i64 x.round, .int .i64 x.who, .slice none 0 0, .int .i64 x.err, .int .i64 x.tail, .int .i64 x.low, .int .i64 x.back] 56))
      have hA4 := u4.blk HA.out (by simp only [OneF]; omega)
      have z4 : w4.cell? ⟨wr.heap.size, 4, none⟩ = some (.int .i64 m.kind) := blk_cell hA4 4
      have HGV := Lib.hid (given_mono HG.out hep hnx)
      clear hxv hA4 s4 hx1 hx2 z0 z1 z2 z3 z5 z6 z7 z8 z9 z10 z11 z12 z13 z14 z15
      have hz4 : wr.heap.size < w4.heap.size := by have := u4.size; simp at this; omega
      clear u4
      by_cases hq : ok = false ∨ x.err ≠ 0
      · obtain ⟨he, hn⟩ := hquiet hq
        have b1 : (s'.e == s.e) = true := by simpa using he
        have b2 : (s'.e != s.e) = false := by simpa using he
        have b3 : (s'.n != s.n) = false := by simpa using hn
        have b4 : ¬ s'.e < s.e := by omega
        have b5 : ¬ s'.n < s.n := by omega
        clear he hn hep hnx hquiet hgave
        rcases hq with rfl | hq
        · go_wp2_with (first
        | (go_at_call 39; refine (epoch_any q s' _ S5.out).mono ?_; rintro r w6 ⟨rfl, rfl⟩)
        | (go_at_call 38; refine (next_any q s' _ S5.out).mono ?_; rintro r w6 ⟨rfl, rfl⟩))
          exact ⟨⟨k + 1, by omega, by go_num, s', kv, S5.out, HSL.out.inv, M5.out, HGV.out, U5.out⟩, by simp [intOf]; omega⟩
        · have b6 : (x.err == 0) = false := by simpa using hq
          have b7 : (x.err != 0) = true := by simpa using hq
          clear hq
          cases ok
          · go_wp2_with (first
        | (go_at_call 39; refine (epoch_any q s' _ S5.out).mono ?_; rintro r w6 ⟨rfl, rfl⟩)
        | (go_at_call 38; refine (next_any q s' _ S5.out).mono ?_; rintro r w6 ⟨rfl, rfl⟩))
            exact ⟨⟨k + 1, by omega, by go_num, s', kv, S5.out, HSL.out.inv, M5.out, HGV.out, U5.out⟩, by simp [intOf]; omega⟩
          · go_wp2_with (first
        | (go_at_call 39; refine (epoch_any q s' _ S5.out).mono ?_; rintro r w6 ⟨rfl, rfl⟩)
        | (go_at_call 38; refine (next_any q s' _ S5.out).mono ?_; rintro r w6 ⟨rfl, rfl⟩))
            exact ⟨⟨k + 1, by omega, by go_num, s', kv, S5.out, HSL.out.inv, M5.out, HGV.out, U5.out⟩, by simp [intOf]; omega⟩
      · have hq' : ok = true ∧ x.err = 0 := by
          cases ok
          · exact absurd (.inl rfl) hq
          · exact ⟨rfl, Decidable.byContradiction (fun h => hq (.inr h))⟩
        obtain ⟨rfl, herr⟩ := hq'
        have b6 : (x.err == 0) = true := by simpa using herr
        have b7 : (x.err != 0) = false := by simpa using herr
        have b4 : ¬ s'.e < s.e := by omega
        by_cases h8 : m.kind = 8
        · obtain ⟨he, ht, hb, hn⟩ := hgave rfl herr h8
          have b8 : (m.kind == 8) = true := by simpa using h8
          have b1 : (s'.e == s.e) = true := by simpa using he
          have b5 : ¬ s'.n < s.n := by omega
          have b9 : (x.tail != s.n) = false := by simpa using ht
          have hz : ∀ W, (zeroValue 4).run Try.prog W = .ok (.bool false) W := fun W => by kernel_rfl
          have hlk := GMap.run_lookup M5.out Try.underlying63 pairKey (hz _) ⟨s.e, x.tail⟩ false
          have hnew := given_new HG.out
          rw [← ht] at hnew
          rw [hnew] at hlk
          simp only [Option.getD_none, Bool.false_eq_true, if_false, encP] at hlk
          obtain ⟨w6, hup, m6, u6, _⟩ := GMap.run_update (P := Try.prog) M5.out Try.underlying63 pairKey ⟨s.e, x.tail⟩ (.bool true)
          simp only [encP] at hup
          have hgp := given_put HG.out he hn (.bool true)
          rw [← ht] at hgp
          have M6 := Lib.hid m6
          have S6 := Lib.hid (S5.out.upd u6 (by simp only [OneF]; omega))
          have U6 := Lib.hid (U5.out.trans u6 (fun i _ h => .inr h))
          have GP := Lib.hid hgp
          clear hq hquiet hgave he hn hep hnx herr h8 ht hz hnew m6 u6 hgp
          go_wp2_with (first
        | (go_at_call 39; refine (epoch_any q s' _ S5.out).mono ?_; rintro r w6 ⟨rfl, rfl⟩)
        | (go_at_call 38; refine (next_any q s' _ S5.out).mono ?_; rintro r w6 ⟨rfl, rfl⟩))
          exact ⟨⟨k + 1, by omega, by go_num, s', _, S6.out, HSL.out.inv, M6.out, GP.out, U6.out⟩, by simp [intOf]; omega⟩
        · have b8 : (m.kind == 8) = false := by simpa using h8
          by_cases he : s'.e = s.e
          · have b1 : (s'.e == s.e) = true := by simpa using he
            have b5 : ¬ s'.n < s.n := by have := hnx he; omega
            clear hq hquiet hgave he hnx hep herr h8
            go_wp2_with (first
        | (go_at_call 39; refine (epoch_any q s' _ S5.out).mono ?_; rintro r w6 ⟨rfl, rfl⟩)
        | (go_at_call 38; refine (next_any q s' _ S5.out).mono ?_; rintro r w6 ⟨rfl, rfl⟩))
            exact ⟨⟨k + 1, by omega, by go_num, s', kv, S5.out, HSL.out.inv, M5.out, HGV.out, U5.out⟩, by simp [intOf]; omega⟩
          · have b1 : (s'.e == s.e) = false := by simpa using he
            clear hq hquiet hgave he hnx hep herr h8
            go_wp2_with (first
        | (go_at_call 39; refine (epoch_any q s' _ S5.out).mono ?_; rintro r w6 ⟨rfl, rfl⟩)
        | (go_at_call 38; refine (next_any q s' _ S5.out).mono ?_; rintro r w6 ⟨rfl, rfl⟩))
            exact ⟨⟨k + 1, by omega, by go_num, s', kv, S5.out, HSL.out.inv, M5.out, HGV.out, U5.out⟩, by simp [intOf]; omega⟩
    · clear hcells
      have HUR := Lib.hid hur
      clear hs hi hm hgv hu u0 s0 m0 hur
      go_wp2_with fail
      go_ret
      exact ⟨rfl, HUR.out⟩
end Go.Proofs.Ytplhgeecnnadhaa
