/- BallotMany: the walk. -/
import Derived.Test.YtplhgeecnnadhaaManyP
import Derived.Test.YtplhgeecnnadhaaTokO
import Derived.BigQuiet
namespace Go.Proofs.Ytplhgeecnnadhaa
open Go.RowKit
variable {F G : Nat → Prop}
theorem and65535 (n : Int) : 0 ≤ bits .and .i64 n 65535 ∧ bits .and .i64 n 65535 < 65536 := by
  have h : ((BitVec.ofInt 64 n) &&& (BitVec.ofInt 64 65535)).toNat ≤ 65535 := by
    rw [BitVec.toNat_and]
    exact Nat.and_le_right
  have e : bits .and .i64 n 65535 = IntKind.i64.wrap (((BitVec.ofInt 64 n) &&& (BitVec.ofInt 64 65535)).toNat : Int) := rfl
  rw [e, IntKind.wrap_i64]; omega
theorem kvGet_all {ans : List (Int × Bool)} (h : ∀ x ∈ ans, x.2 = true) (a : Int) : (kvGet (ans.map (fun p => (p.1, Value.bool p.2))) a).getD (.bool false) = .bool ((ans.map Prod.fst).contains a) := by
  unfold kvGet
  rw [List.find?_map]
  cases hf : ans.find? ((fun p => p.1 == a) ∘ fun p => (p.1, Value.bool p.2)) with
  | none =>
    rw [List.find?_eq_none] at hf
    have : (ans.map Prod.fst).contains a = false := by
      cases hcc : (ans.map Prod.fst).contains a with
      | false => rfl
      | true =>
        rw [List.contains_iff_mem] at hcc
        obtain ⟨x, hx, e⟩ := List.mem_map.1 hcc
        exact absurd (by simp [e]) (hf x hx)
    rw [this]; rfl
  | some q =>
    have h1 := List.mem_of_find?_eq_some hf
    have h2 := List.find?_some hf
    have : (ans.map Prod.fst).contains a = true := by
      rw [List.contains_iff_mem]
      exact List.mem_map.2 ⟨q, h1, by simpa using h2⟩
    rw [this]
    simp [h q h1]
theorem PL.rebase {B : Nat} {X Y : Nat → Prop} {p : Nat} {s : PS} {w : World} (h : PL B X p s w) (hY : ∀ k, k < w.heap.size → ¬ Y k) : PL B Y p s w :=
  let ⟨F, hp, hf⟩ := h; ⟨F, hp, fun k hk => ⟨(hf k hk).1, hY k (hp.lt k hk)⟩⟩
def ManyRel (B : Nat) (p : Nat) (n : Int) (b : List UInt8) (len : Nat) (w0 : World) (i seen : Value) (w : World) : Prop :=
  ∃ k : Nat, k ≤ len ∧ i = .int .i64 k ∧ ∃ m kv s, seen = .map (some m) ∧ IMap w m kv ∧ B ≤ m ∧ PL B (OneF m) p s w ∧ Upd (fun k => B ≤ k) w0 w ∧ ManyInv n b s ∧ (s.phase ≠ 3 → kv = s.kv)
theorem run_convert_op {P : Program} {w : World} {o : Oper} {a : Act} (t1 t2 : TypeId) (x : Operand) {v r : Value} (ho : o.op = .convert t1 t2 x) (hx : a.eval x = v) (h : (convert t1 t2 v).run P w = .ok r w) : (execOp a.eval o).run P w = .ok (.value r) w := by
  unfold execOp
  simp only [ho, hx, Sem.run_bind, h, Result.andThen_ok, Sem.run_pure]
set_option maxRecDepth 100000 in
set_option maxHeartbeats 2000000 in
theorem many_walk (a0 : Int) (v1 v2 : Value) (l : List Int) (b : List UInt8) (w : World) (hv1 : Ints w F v1 l) (hv2 : Bytes w G v2 b) (hl : l.length ≤ 100) (hb : b.length ≤ 100) :
    Calls Try.prog 5 #[.int .i64 a0, v1, v2] w (fun r w' => r = .returned (.bool true) ∧ Upd NoF w w') := by
  obtain ⟨g1, c1, rfl, hc1⟩ := hv1.slice
  obtain ⟨g2, c2, rfl, hc2⟩ := hv2.slice
  have h7 := and7 a0
  have hl' : ¬ ((100 : Int) < (l.length : Int)) := by omega
  have hb' : ¬ ((100 : Int) < (b.length : Int)) := by omega
  go_enter Try.func5, Try.ntmps5
  go_wp2_with fail
  refine (speaks10 w).mono ?_
  rintro r w1 ⟨rfl, u1⟩
  go_wp2_with fail
  generalize hn : bits .and .i64 a0 7 + 1 = n at *
  have hn1 : 1 ≤ n := by omega
  have hn8 : n ≤ 8 := by omega
  clear h7 hn
  refine (pl_start (B := w.heap.size) (X := NoX) n 1 0 _ b _ (hv2.upd0 u1) (by omega) (by omega) nox u1.size).mono ?_
  rintro r w2 ⟨p, rfl, p2, u2⟩
  have hmm := @run_makeMap Try.prog
  go_wp2_with fail
  clear hmm
  have m3 := IMap.made w2
  have u3 := (Upd.refl NoF w2).alloc (.map #[] 0)
  have p3 := (p2.rebase (Y := OneF w2.heap.size) (fun k hk h => by simp only [OneF] at h; omega)).upd u3 (fun _ _ h => h.elim)
  have U3 : Upd NoF w (w2.alloc (.map #[] 0)) := (u1.then0 u2).then0 u3
  have hmw : w.heap.size ≤ w2.heap.size := (u1.then0 u2).size
  have hmz : w2.heap.size < (w2.alloc (.map #[] 0)).heap.size := m3.lt
  generalize w2.heap.size = m at *
  generalize hW3 : w2.alloc (.map #[] 0) = w3 at *
  clear hW3 u1 u2 u3 p2
  go_loopw [33, 9] (ManyRel w.heap.size p n b l.length w3) (fun i _ _ => l.length - (intOf i).toNat)
  case atStart => exact ⟨0, Nat.zero_le _, rfl, m, [], _, rfl, m3, hmw, p3, Upd.refl _ _, ⟨by simp only [PS.start]; omega, rfl, rfl, rfl, by simp [PS.start], by simp [PS.start]; omega, .inl rfl, fun _ => by simp [PS.start]; omega⟩, fun _ => rfl⟩
  case round =>
    obtain ⟨k, hk, rfl, m', kv, s, rfl, hm, hBm, hpl, hu, hinv, hkv⟩ := hrel
    have uB : Upd NoF w wr := U3.trans hu (fun i hi h => by omega)
    have hvr := hv1.upd uB (fun _ _ h => h)
    have hzr : w.heap.size ≤ wr.heap.size := uB.size
    have hml : m' < wr.heap.size := hm.lt
    have U := Lib.hid uB
    have HM := Lib.hid hm
    have HP := Lib.hid hpl
    have HU := Lib.hid hu
    have HI := Lib.hid hinv
    have HK := Lib.hid hkv
    have HV1 := Lib.hid hv1
    have HV2 := Lib.hid hv2
    have hph := hinv.ph
    clear uB hm hpl hu hinv hkv m3 p3 U3 hmw hmz
    by_cases hlt : k < l.length
    · have hne : l ≠ [] := by intro e; rw [e] at hlt; simp at hlt
      obtain ⟨g, o, ha, hg, hcell⟩ := hvr.at_ hne
      have hck := hcell k hlt
      rw [show l[k] = l.getD k 0 by rw [List.getD_eq_getElem?_getD, List.getElem?_eq_getElem hlt]; rfl] at hck
      generalize l.getD k 0 = x at *
      subst ha
      clear hcell hvr hv1 hv2
      have hx := and65535 x
      go_wp2_with fail
      obtain ⟨hxn, hxn'⟩ : 0 ≤ bits .and .i64 x 65535 % n ∧ bits .and .i64 x 65535 % n < n := ⟨Int.emod_nonneg _ (by omega), Int.emod_lt_of_pos _ (by omega)⟩
      generalize bits .and .i64 x 65535 % n = a at *
      refine (pl_phase _ HP.out).mono ?_
      rintro r w4 ⟨rfl, rfl⟩
      by_cases hp3 : s.phase = 3
      · rw [hp3]
        go_wp2_with fail
        have HS := Lib.hid ((HV2.out.upd0 U.out).upd0 (Upd.refl NoF wr).drew)
        have HS0 := Lib.hid (HV2.out.upd0 U.out)
        refine wp_region_held (S := fun W => Bytes W G (.slice g2 b.length c2) b) (by kernel_rfl) ?_
        refine held_take 0 (.pointer (some ⟨p, 0, none⟩)) rfl (by kernel_rfl) (by kernel_rfl) (by kernel_rfl) (fun _ _ _ h => h) rfl HS0.out (fun W' _ => rfl) ?_
        refine held_take 3 (.slice g2 b.length c2) rfl (by kernel_rfl) (by kernel_rfl) (by kernel_rfl) (fun _ _ _ h => h) rfl HS0.out (fun W' _ => rfl) ?_
        refine held_take 4 (.string ⟨b.toArray⟩) rfl (by kernel_rfl) (by kernel_rfl) (by kernel_rfl) (fun _ _ _ h => h) rfl HS0.out (fun W' hW' => run_convert_op 23 9 _ rfl rfl (hW'.run_string W' rfl)) ?_
        refine held_one 1 rfl (by kernel_rfl) rfl (fun K hK => ?_)
        go_wp2_with fail
        refine (pl_value _ (HP.out.upd ((Upd.refl NoF wr).drew) (fun _ _ h => h.elim)) (by rw [HI.out.val]; omega)).mono ?_
        rintro r w5 ⟨v5, rfl, b5, u5⟩
        rw [HI.out.val] at b5
        have U5 := Lib.hid (U.out.drew.then0 u5)
        have HS5 := Lib.hid (HS.out.upd0 u5)
        obtain ⟨a5, c5, rfl, _⟩ := b5.slice
        have h5 := b5.run_string w5 rfl
        clear b5 u5
        refine hK _ _ HS5.out ?_
        clear hK K
        refine held_one 2 rfl (by kernel_rfl) rfl (fun K hK => ?_)
        go_wp2_with fail
        refine hK _ _ HS5.out ?_
        clear hK K
        refine held_one 5 rfl (by kernel_rfl) rfl (fun K hK => ?_)
        go_wp2_with fail
        refine hK _ _ HS5.out ?_
        clear hK K
        refine held_one 6 rfl (by kernel_rfl) rfl (fun K hK => ?_)
        go_wp2_with fail
        refine hK _ _ HS5.out ?_
        clear hK K
        refine wpAnyH_done (by kernel_rfl) ?_ _
        go_wp2_with fail
        go_ret
        exact ⟨rfl, U5.out⟩
      have hp12 : s.phase = 1 ∨ s.phase = 2 := by omega
      clear hph hck hx
      obtain ⟨inv', f0, f1, hcase⟩ := many_step HI.out hn1 hn8 hxn hxn' hp12
      obtain rfl := HK.out hp3
      obtain ⟨c, hc⟩ : ∃ c, (s.ans.map Prod.fst).contains a = c := ⟨_, rfl⟩
      have hz : ∀ W, (zeroValue 4).run Try.prog W = .ok (.bool false) W := fun W => by kernel_rfl
      have hlk : ∀ j, (Instr.lookup 41 (.map (some m')) (.int .i64 a) false).run Try.prog (wr.drewN j) = .ok (.bool c) (wr.drewN j) := fun j => by
        rw [IMap.run_lookup (HM.out.upd ((Upd.refl NoF wr).drewN j) (fun h => h)) Try.underlying41 Try.underlying3 (hz _) a false, if_neg (by simp)]
        have := kvGet_all HI.out.yes a
        rw [hc] at this
        exact congrArg (fun v => Result.ok v _) this
      have has : ∀ j, Calls Try.prog 31 #[.pointer (some ⟨p, 0, none⟩), .int .i64 a] (wr.drewN j) (fun e w' => e = .returned (.bool (!c)) ∧ w' = wr.drewN j) := fun j =>
        (pl_asked a _ (HP.out.upd ((Upd.refl NoF wr).drewN j) (fun _ _ h => h.elim))).mono (fun r w' ⟨h1, h2⟩ => by
          have e : (s.opn a 1 || s.opn a 2) = !c := by
            have e1 : decide (0 ≤ a) = true := by simpa using hxn
            have e2 : decide (a < n) = true := by simpa using hxn'
            rcases hp12 with h | h <;> simp only [PS.opn, h, hc, HI.out.acc, e1, e2] <;> simp
          rw [e] at h1
          exact ⟨h1, h2.symm⟩)
      have INV := Lib.hid inv'
      have HC := Lib.hid hcase
      clear inv' hcase hz hc HI HK HV1
      obtain ⟨ph, hph⟩ : ∃ ph, s.phase = ph := ⟨_, rfl⟩
      rw [hph] at hp12 hp3 ⊢
      have hph12 : ph ≤ 2 := by omega
      have cb : ((!c) != (!c)) = false := by cases c <;> rfl
      go_wp2_with fail
      go_quiet ((go_at_call 31; exact Calls.quiet_of_same (has _)))
      clear hlk has cb
      have hmx : ∀ W : World, m' < W.heap.size → ∀ i, OneF m' i → i < W.heap.size := fun W hW i h => by simp only [OneF] at h; subst h; exact hW
      go_wp2_with fail
      refine (pl_promised (X := OneF m') a 0 0 0 (.slice none 0 0) [] _ (HP.out.upd ((Upd.refl NoF wr).drewN nq) (fun _ _ h => h.elim)) (hmx _ hml) hzr f0 (Slc.nil _ _ _ (fun _ => True) _ _) (by decide)).mono ?_
      rintro r w5 ⟨rfl, p5, u5⟩
      have hml5 : m' < w5.heap.size := Nat.lt_of_lt_of_le hml u5.size
      have hzr5 : w.heap.size ≤ w5.heap.size := Nat.le_trans hzr u5.size
      have U5 := Lib.hid (((Upd.refl (LU w.heap.size (OneF m')) wr).drewN nq).trans u5 (fun i _ h => h))
      clear u5
      go_wp2_with fail
      refine (pl_accepted a 0 w5 p5 (hmx _ hml5) hzr5 f1).mono ?_
      rintro r w6 ⟨rfl, p6, u6⟩
      have p6 : PL w.heap.size (OneF m') p (many2 s a) w6 := p6
      have u56 := U5.out.trans u6 (fun i _ h => h)
      have m6 := HM.out.upd u56 (fun h => h.2 rfl)
      obtain ⟨w7, hup, m7, u7, -⟩ := IMap.run_update (P := Try.prog) m6 Try.underlying41 Try.underlying3 a (.bool true)
      have p7 := p6.upd u7 (fun k _ h => .inl h)
      have hlen : ∀ ty, (Builtin.len_ #[41] ty #[.map (some m')]).run Try.prog w7 = .ok (.int .i64 (manyL s a)) w7 := fun ty => run_len_imap m7 Try.underlying41 ty
      have hml7 : m' < w7.heap.size := m7.lt
      have M7 := Lib.hid m7
      have P7 := Lib.hid p7
      have hu7 : Upd (fun k => w.heap.size ≤ k) w3 w7 := (HU.out.trans u56 (fun i _ h => h.1)).trans u7 (fun i _ h => by simp only [OneF] at h; omega)
      have HU7 := Lib.hid hu7
      have hzr7 : w.heap.size ≤ w7.heap.size := by have := u56.size; have := u7.size; omega
      clear hu7 m7 p7 p5 p6 u6 u56 u7 U5 m6 HM HP hml5 hzr5 f0 f1 HU U
      have hphase := pl_phase w7 P7.out
      have hcc := HC.out
      clear HC
      rcases hp12 with rfl | rfl
      · rcases hcc with ⟨hL, h2, h3⟩ | ⟨hL, h1, hn, h2, h3⟩ | ⟨hL, h1, hn, h2⟩ | ⟨hL, h1, h2⟩
        · rw [h2, hph] at hphase
          have H3 := Lib.hid h3
          have HPH := Lib.hid hphase
          clear h3 hphase h2 hph
          generalize manyL s a = L at *
          go_wp2_with fail
          refine HPH.out.mono ?_
          rintro r w8 ⟨rfl, rfl⟩
          go_wp2_with fail
          exact ⟨⟨k + 1, by omega, by go_num, m', _, _, rfl, M7.out, hBm, P7.out, HU7.out, INV.out, fun _ => H3.out.symm⟩, by simp [intOf]; omega⟩
        ·
          rw [h2] at hphase
          have H2 := Lib.hid h2
          have H3 := Lib.hid h3
          clear h2
          have m8 := IMap.made w7
          have u8 := (Upd.refl NoF w7).alloc (.map #[] 0)
          have p8 := (P7.out.rebase (Y := OneF w7.heap.size) (fun k hk h => by simp only [OneF] at h; omega)).upd u8 (fun _ _ h => h.elim)
          obtain ⟨w9, hup9, m9, u9, -⟩ := IMap.run_update (P := Try.prog) m8 Try.underlying41 Try.underlying3 a (.bool true)
          have p9 := p8.upd u9 (fun k _ h => .inl h)
          have hphase9 := pl_phase w9 p9
          rw [H2.out] at hphase9
          have hu9 : Upd (fun k => w.heap.size ≤ k) w3 w9 := (HU7.out.trans u8 (fun i _ h => h.elim)).trans u9 (fun i _ h => by simp only [OneF] at h; subst h; exact hzr7)
          have M9 := Lib.hid m9
          have P9 := Lib.hid p9
          have HU9 := Lib.hid hu9
          have HPH := Lib.hid hphase9
          have hmm := @run_makeMap Try.prog
          clear m8 u8 p8 m9 u9 p9 hu9 hphase hphase9 hph h1
          generalize manyL s a = L at *
          go_wp2_with fail
          refine HPH.out.mono ?_
          rintro r w10 ⟨rfl, rfl⟩
          go_wp2_with fail
          exact ⟨⟨k + 1, by omega, by go_num, _, _, _, rfl, M9.out, hzr7, P9.out, HU9.out, INV.out, by first | exact fun _ => H3.out.symm | exact fun h => absurd H2.out h⟩, by simp [intOf]; omega⟩
        · subst hn
          rw [h2] at hphase
          have H2 := Lib.hid h2
          have H3 := Lib.hid h2
          clear h2
          have m8 := IMap.made w7
          have u8 := (Upd.refl NoF w7).alloc (.map #[] 0)
          have p8 := (P7.out.rebase (Y := OneF w7.heap.size) (fun k hk h => by simp only [OneF] at h; omega)).upd u8 (fun _ _ h => h.elim)
          obtain ⟨w9, hup9, m9, u9, -⟩ := IMap.run_update (P := Try.prog) m8 Try.underlying41 Try.underlying3 a (.bool true)
          have p9 := p8.upd u9 (fun k _ h => .inl h)
          have hphase9 := pl_phase w9 p9
          rw [H2.out] at hphase9
          have hu9 : Upd (fun k => w.heap.size ≤ k) w3 w9 := (HU7.out.trans u8 (fun i _ h => h.elim)).trans u9 (fun i _ h => by simp only [OneF] at h; subst h; exact hzr7)
          have M9 := Lib.hid m9
          have P9 := Lib.hid p9
          have HU9 := Lib.hid hu9
          have HPH := Lib.hid hphase9
          have hmm := @run_makeMap Try.prog
          clear m8 u8 p8 m9 u9 p9 hu9 hphase hphase9 hph h1
          generalize manyL s a = L at *
          go_wp2_with fail
          refine HPH.out.mono ?_
          rintro r w10 ⟨rfl, rfl⟩
          go_wp2_with fail
          exact ⟨⟨k + 1, by omega, by go_num, _, _, _, rfl, M9.out, hzr7, P9.out, HU9.out, INV.out, by first | exact fun _ => H3.out.symm | exact fun h => absurd H2.out h⟩, by simp [intOf]; omega⟩
        · omega
      · rcases hcc with ⟨hL, h2, h3⟩ | ⟨hL, h1, hn, h2, h3⟩ | ⟨hL, h1, hn, h2⟩ | ⟨hL, h1, h2⟩
        · rw [h2, hph] at hphase
          have H3 := Lib.hid h3
          have HPH := Lib.hid hphase
          clear h3 hphase h2 hph
          generalize manyL s a = L at *
          go_wp2_with fail
          refine HPH.out.mono ?_
          rintro r w8 ⟨rfl, rfl⟩
          go_wp2_with fail
          exact ⟨⟨k + 1, by omega, by go_num, m', _, _, rfl, M7.out, hBm, P7.out, HU7.out, INV.out, fun _ => H3.out.symm⟩, by simp [intOf]; omega⟩
        · omega
        · omega
        · rw [h2] at hphase
          have H2 := Lib.hid h2
          have HPH := Lib.hid hphase
          clear hphase h2 hph h1
          generalize manyL s a = L at *
          go_wp2_with fail
          refine HPH.out.mono ?_
          rintro r w8 ⟨rfl, rfl⟩
          go_wp2_with fail
          exact ⟨⟨k + 1, by omega, by go_num, m', _, _, rfl, M7.out, hBm, P7.out, HU7.out, INV.out, fun h => absurd H2.out h⟩, by simp [intOf]; omega⟩
    ·
      go_wp2_with fail
      have HS := Lib.hid ((HV2.out.upd0 U.out).upd0 (Upd.refl NoF wr).drew)
      have HS0 := Lib.hid (HV2.out.upd0 U.out)
      refine wp_region_held (S := fun W => Bytes W G (.slice g2 b.length c2) b) (by kernel_rfl) ?_
      refine held_take 0 (.pointer (some ⟨p, 0, none⟩)) rfl (by kernel_rfl) (by kernel_rfl) (by kernel_rfl) (fun _ _ _ h => h) rfl HS0.out (fun W' _ => rfl) ?_
      refine held_take 3 (.slice g2 b.length c2) rfl (by kernel_rfl) (by kernel_rfl) (by kernel_rfl) (fun _ _ _ h => h) rfl HS0.out (fun W' _ => rfl) ?_
      refine held_take 4 (.string ⟨b.toArray⟩) rfl (by kernel_rfl) (by kernel_rfl) (by kernel_rfl) (fun _ _ _ h => h) rfl HS0.out (fun W' hW' => run_convert_op 23 9 _ rfl rfl (hW'.run_string W' rfl)) ?_
      refine held_one 1 rfl (by kernel_rfl) rfl (fun K hK => ?_)
      go_wp2_with fail
      refine (pl_value _ (HP.out.upd ((Upd.refl NoF wr).drew) (fun _ _ h => h.elim)) (by rw [HI.out.val]; omega)).mono ?_
      rintro r w5 ⟨v5, rfl, b5, u5⟩
      rw [HI.out.val] at b5
      have U5 := Lib.hid (U.out.drew.then0 u5)
      have HS5 := Lib.hid (HS.out.upd0 u5)
      obtain ⟨a5, c5, rfl, _⟩ := b5.slice
      have h5 := b5.run_string w5 rfl
      clear b5 u5
      refine hK _ _ HS5.out ?_
      clear hK K
      refine held_one 2 rfl (by kernel_rfl) rfl (fun K hK => ?_)
      go_wp2_with fail
      refine hK _ _ HS5.out ?_
      clear hK K
      refine held_one 5 rfl (by kernel_rfl) rfl (fun K hK => ?_)
      go_wp2_with fail
      refine hK _ _ HS5.out ?_
      clear hK K
      refine held_one 6 rfl (by kernel_rfl) rfl (fun K hK => ?_)
      go_wp2_with fail
      refine hK _ _ HS5.out ?_
      clear hK K
      refine wpAnyH_done (by kernel_rfl) ?_ _
      go_wp2_with fail
      go_ret
      exact ⟨rfl, U5.out⟩
set_option maxRecDepth 100000 in
set_option maxHeartbeats 1000000 in
theorem many_any (a0 : Int) (v1 v2 : Value) (l : List Int) (b : List UInt8) (w : World) (hv1 : Ints w F v1 l) (hv2 : Bytes w G v2 b) :
    Calls Try.prog 5 #[.int .i64 a0, v1, v2] w (fun r w' => r = .returned (.bool true) ∧ Upd NoF w w') := by
  by_cases hl : l.length ≤ 100
  case neg =>
    obtain ⟨g1, c1, rfl, _⟩ := hv1.slice
    obtain ⟨g2, c2, rfl, _⟩ := hv2.slice
    have hl' : (100 : Int) < (l.length : Int) := by omega
    clear hv1 hv2
    go_enter Try.func5, Try.ntmps5
    go_wp2_with fail
    refine (speaks10 w).mono ?_
    rintro r w1 ⟨rfl, u1⟩
    go_wp2_with fail
    go_ret
    exact ⟨rfl, u1⟩
  by_cases hb : b.length ≤ 100
  case neg =>
    obtain ⟨g1, c1, rfl, _⟩ := hv1.slice
    obtain ⟨g2, c2, rfl, _⟩ := hv2.slice
    have hl' : ¬ ((100 : Int) < (l.length : Int)) := by omega
    have hb' : (100 : Int) < (b.length : Int) := by omega
    clear hv1 hv2
    go_enter Try.func5, Try.ntmps5
    go_wp2_with fail
    refine (speaks10 w).mono ?_
    rintro r w1 ⟨rfl, u1⟩
    go_wp2_with fail
    go_ret
    exact ⟨rfl, u1⟩
  exact many_walk a0 v1 v2 l b w hv1 hv2 hl hb
end Go.Proofs.Ytplhgeecnnadhaa
