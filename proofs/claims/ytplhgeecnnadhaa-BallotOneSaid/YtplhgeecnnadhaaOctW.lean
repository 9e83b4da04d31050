/- octet's Writer. -/
import Derived.Test.YtplhgeecnnadhaaRow
import Derived.Test.YtplhgeecnnadhaaClone
namespace Go.Proofs.Ytplhgeecnnadhaa
open Go.RowKit
variable {F G : Nat → Prop} {w w1 : World} {p : Nat} {l : List UInt8}
/-- a writer: what was put -/
structure WrAt (w : World) (F : Nat → Prop) (p : Nat) (l : List UInt8) : Prop where
  mk ::
  lt : ∀ k, F k → k < w.heap.size
  rep : ∃ v, w.heap[p]? = some (.cells #[v] 193 (0, 0)) ∧ Row w (fun k => F k ∧ k ≠ p) 5 1 v l.length (l.map encB) ∧ F p
theorem WrAt.upd (h : WrAt w F p l) (hu : Upd G w w1) (hn : ∀ k, F k → ¬ G k) : WrAt w1 F p l := by
  obtain ⟨h2, v, hb, hr, hd⟩ := h
  exact ⟨fun k hk => Nat.lt_of_lt_of_le (h2 k hk) hu.size, v, hu.blk hb (hn _ hd), hr.upd hu (fun k hk => hn k hk.1), hd⟩
def Wr2 (F : Nat → Prop) (p : Nat) (l : List UInt8) (w w' : World) : Prop := ∃ F', WrAt w' F' p l ∧ Upd F w w' ∧ ∀ k, F' k → F k ∨ w.heap.size ≤ k
theorem Wr2.step {F' : Nat → Prop} {l2 : List UInt8} {w2 : World} (h2 : Upd F w w1) (h3 : ∀ k, F' k → F k ∨ w.heap.size ≤ k) (k : Wr2 F' p l2 w1 w2) : Wr2 F p l2 w w2 := by
  obtain ⟨F'', k1, k2, k3⟩ := k
  refine ⟨F'', k1, h2.trans k2 (fun i hi hf => (h3 i hf).elim id (fun h => by omega)), fun q hq => ?_⟩
  rcases k3 q hq with h | h
  · exact h3 q h
  · exact .inr (Nat.le_trans h2.size h)
theorem wr_close {w5 w6 : World} {v v' : Value} {b : List UInt8} (hlt : ∀ k, F k → k < w.heap.size) (hd : F p) (hb : w.heap[p]? = some (.cells #[v] 193 (0, 0))) (hr : Row w (fun k => F k ∧ k ≠ p) 5 1 v l.length (l.map encB))
    (u5 : Upd NoF w w5) (r6 : Row w6 (fun k => (F k ∧ k ≠ p) ∨ w5.heap.size ≤ k) 5 1 v' (l.length + b.length) (l.map encB ++ b.map encB)) (u6 : Upd (fun k => v.ownBlock = some k) w5 w6) : Wr2 F p (l ++ b) w (w6.setCell ⟨p, 0, none⟩ v') := by
  have hz5 := u5.size
  have hz6 := u6.size
  have hdl := hlt p hd
  have u7 : Upd (OneF p) w6 (w6.setCell ⟨p, 0, none⟩ v') := (Upd.refl _ _).set1 _ _
  have hz7 : (w6.setCell ⟨p, 0, none⟩ v').heap.size = w6.heap.size := by simp [World.setCell]
  have hb6 := u6.blk (u5.blk0 hb) (fun h => (hr.2 p h).2 rfl)
  have r7 := (r6.bound.upd u7 (fun k hk h => by
    simp only [OneF] at h; subst h
    rcases hk.1 with h | h
    · exact h.2 rfl
    · omega))
  refine ⟨fun k => F k ∨ (w.heap.size ≤ k ∧ k < w6.heap.size), ⟨?_, v', ?_, ?_, .inl hd⟩, ?_, ?_⟩
  · intro k hk
    rw [hz7]
    rcases hk with h | h
    · have := hlt k h; omega
    · exact h.2
  · rw [blk_set hb6]; simp
  · rw [List.length_append, List.map_append]
    refine r7.mono (fun k hk => ?_)
    rcases hk.1 with h | h
    · exact ⟨.inl h.1, h.2⟩
    · exact ⟨.inr ⟨by omega, hk.2⟩, by omega⟩
  · exact ((u5.mono (G := F) (fun _ _ h => h.elim)).trans u6 (fun k _ h => (hr.2 k h).1)).trans u7 (fun k _ h => by simp only [OneF] at h; subst h; exact hd)
  · intro k hk
    rcases hk with h | h
    · exact .inl h
    · exact .inr h.1
set_option maxHeartbeats 1000000 in
theorem wr_byte (b : UInt8) (w : World) (h : WrAt w F p l) (hl : l.length < 100000000) :
    Calls Try.prog 119 #[.pointer (some ⟨p, 0, none⟩), .int .u8 (b.toNat : Int)] w (fun r w' => r = .returned (.tuple #[]) ∧ Wr2 F p (l ++ [b]) w w') := by
  obtain ⟨hlt, v, hb, hr, hd⟩ := h
  obtain ⟨a, c, rfl, hc, _⟩ := hr.slice
  have c0 : w.cell? ⟨p, 0, none⟩ = some (.slice a l.length c) := blk_cell hb 0
  have HB := Lib.hid hb
  have HR := Lib.hid hr
  obtain ⟨i0, hi, hz0, hz1, hz2⟩ := info_parts info_u8
  have hpl := blk_lt hb
  clear hb hr
  go_enter Try.func119, Try.ntmps119
  go_wp2_with (at_builtin; refine wpList_append_row rfl _ _ 23 rfl 5 i0 (.int .u8 0) 1 1 Try.underlying23 hi hz0 hz1 hz2 rfl (by decide) rfl (HR.out.upd ((Upd.refl NoF w).alloc _) (fun _ _ h => h)) ⟨w.heap.size, 0, none⟩ 1 1 [.int .u8 (b.toNat : Int)] rfl rfl ?qc1 ?qc2 ?qc3 ?qc4 ?_)
  case qc1 =>
    intro j u hj
    cases j with
    | succ j => simp at hj
    | zero => exact cell_new hj
  case qc2 => intro u hu; simp only [List.mem_singleton] at hu; subst hu; rfl
  case qc3 => unfold maxLen; omega
  case qc4 => omega
  intro v' w6 r6 u6 o6
  obtain ⟨a', c', rfl, _⟩ := r6.slice
  have h6 := u6.blk (((Upd.refl NoF w).alloc _).blk0 HB.out) (fun h => (HR.out.2 p h).2 rfl)
  have c6 := blk_cell h6 0
  have f6 := blk_free h6 0
  simp at c6
  have R6 := Lib.hid r6
  have U6 := Lib.hid u6
  clear r6 u6 o6 h6 c0
  go_wp2_with fail
  go_end0
  exact ⟨rfl, wr_close (b := [b]) hlt hd HB.out HR.out ((Upd.refl NoF w).alloc _) (by simpa [encB] using R6.out) U6.out⟩
set_option maxHeartbeats 400000 in
theorem size_any (n : Int) (w : World) : Calls Try.prog 140 #[.int .i64 n] w (fun r w' => r = .returned (.int .i64 (max (min n 8) 0)) ∧ w' = w) := by
  go_enter Try.func140, Try.ntmps140
  go_wp2_with fail
  all_goals
    go_ret
    exact ⟨congrArg (fun z => Ending.returned (Value.int .i64 z)) (by (repeat' split at *) <;> omega), rfl⟩
/-- a number, the high bytes first -/
def beBytes (v : Nat) : Nat → List UInt8
  | 0 => []
  | k + 1 => UInt8.ofNat (v / 2 ^ (8 * k)) :: beBytes v k
theorem beBytes_length (v : Nat) : ∀ k, (beBytes v k).length = k
  | 0 => rfl
  | k + 1 => by simp [beBytes, beBytes_length v k]
set_option maxHeartbeats 1000000 in
theorem wr_number (v : Nat) (n : Nat) (w : World) (h : WrAt w F p l) (hl : l.length < 90000000) (hn : n ≤ 8) :
    Calls Try.prog 120 #[.pointer (some ⟨p, 0, none⟩), .int .u64 v, .int .i64 n] w (fun r w' => r = .returned (.tuple #[]) ∧ Wr2 F p (l ++ beBytes v n) w w') := by
  have hs := size_any n w
  rw [show max (min (n : Int) 8) 0 = (n : Int) by omega] at hs
  have HS := Lib.hid hs
  have HW := Lib.hid h
  clear hs h
  go_enter Try.func120, Try.ntmps120
  go_wp2_with fail
  refine HS.out.mono ?_
  rintro r w1 ⟨rfl, rfl⟩
  go_wp2_with fail
  go_loopw [6] (fun i wr => ∃ r pre, i = .int .i64 ((r : Nat) - 1 : Int) ∧ r ≤ n ∧ pre ++ beBytes v r = beBytes v n ∧ Wr2 F p (l ++ pre) w1 wr) (fun i _ => (intOf i + 1).toNat)
  case atStart => exact ⟨n, [], rfl, Nat.le_refl _, rfl, F, by rw [List.append_nil]; exact HW.out, Upd.refl _ _, fun k hk => .inl hk⟩
  case round =>
    obtain ⟨r, pre, rfl, hr, hpre, hw⟩ := hrel
    have hlen : pre.length + r = n := by have := congrArg List.length hpre; simpa [beBytes_length] using this
    have HPRE := Lib.hid hpre
    have HWR := Lib.hid hw
    have HLEN := Lib.hid hlen
    clear hpre hw hlen
    cases r with
    | zero =>
      go_wp2_with fail
      go_end0
      exact ⟨rfl, by have := HPRE.out; simp [beBytes] at this; rw [← this]; exact HWR.out⟩
    | succ r =>
      have hi : ((r + 1 : Nat) : Int) - 1 = (r : Int) := by omega
      rw [hi]
      clear hi
      have b1 : (r : Int) ≤ 7 := by omega
      have hby : (v : Int) / 2 ^ (8 * r) % 256 = ((UInt8.ofNat (v / 2 ^ (8 * r))).toNat : Int) := by
        simp
      have HBY := Lib.hid hby
      clear hby
      go_wp2_with fail
      rw [HBY.out]
      obtain ⟨F', hw', hu', hf'⟩ := HWR.out
      refine (wr_byte (UInt8.ofNat (v / 2 ^ (8 * r))) wr hw' (by rw [List.length_append]; have := HLEN.out; omega)).mono ?_
      rintro r2 w3 ⟨rfl, h3⟩
      have H3 := Lib.hid h3
      have HU' := Lib.hid (And.intro (fun (h : Wr2 F' p (l ++ pre ++ [UInt8.ofNat (v / 2 ^ (8 * r))]) wr w3) => Wr2.step hu' hf' h) trivial)
      clear hw' hu' hf' h3
      go_wp2_with fail
      exact ⟨⟨r, pre ++ [UInt8.ofNat (v / 2 ^ (8 * r))], rfl, by omega, by rw [← HPRE.out]; simp [beBytes], by
        rw [← List.append_assoc]; exact HU'.out.1 H3.out⟩, by simp [intOf]⟩
theorem wpList_append_zero {P : Program} {ops : Array Oper} {rest : List Oper} {o : Oper} {a : Act} {Q : Exit → Act → World → Prop} (hgd : o.guard = none) (s x : Operand) (t : TypeId) (ho : o.op = .call { callee := .builtin .append, args := #[s, x], argTypes := #[t, t] })
    (e : TypeId) (i : TypeInfo) (sz : Nat) (ht : P.underlying t = some (.slice e)) (hi : P.info? e = some i) {v : Value} {n : Nat} {xs : List Value} (hs : a.eval s = v) (h : Row w F e sz v n xs) (c : Nat) (hx : a.eval x = .slice none 0 c)
    (hK : wpList P ops Q rest (a.put o.dst v) w) : wpList P ops Q (o :: rest) a w := by
  refine wpList_plain hgd fun K hK' => ?_
  have hrun : (Builtin.append_ #[t, t] o.type #[v, .slice none 0 c]).run P w = .ok v w := by
    rcases h.1.2 with ⟨rfl, rfl⟩ | ⟨g, cap, cur, rfl, _, _, hnc, _⟩
    · simp [Builtin.append_, run_underlying ht, sizeOf, typeInfo, hi, Builtin.lenOf, Builtin.firstCells]
    · simp [Builtin.append_, run_underlying ht, sizeOf, typeInfo, hi, Builtin.lenOf, Builtin.firstCells, hnc, storeCells]
  unfold Oper.wp
  simp [execOp, ho, resolve, invoke, builtin, hs, hx, hrun, Result.andThen]
  exact hK' _ _ hK
/-- the cells that bytes read -/
theorem Bytes.news {x : Addr} {n c : Nat} {b : List UInt8} (h : Bytes w F (.slice (some x) n c) b) : ∀ j u, (b.map encB)[j]? = some u → w.cell? (x.add j) = some u := by
  intro j u hj
  have hne : b ≠ [] := by intro e; subst e; simp at hj
  obtain ⟨g, o, hx, _, hcell⟩ := h.at_ hne
  cases hx
  rw [List.getElem?_map] at hj
  cases hq : b[j]? with
  | none => rw [hq] at hj; simp at hj
  | some y =>
    rw [hq] at hj
    obtain ⟨hlt, rfl⟩ := List.getElem?_eq_some_iff.1 hq
    have := hcell j hlt
    have hadd : (⟨g, o, none⟩ : Addr).add j = ⟨g, o + j, none⟩ := by unfold Addr.add; split <;> simp_all
    rw [hadd, this]; simpa [encB] using hj
/-- the same value put again -/
theorem wr_same {v' : Value} (hlt : ∀ k, F k → k < w.heap.size) (hd : F p) (hb : w.heap[p]? = some (.cells #[v'] 193 (0, 0))) (hr : Row w (fun k => F k ∧ k ≠ p) 5 1 v' l.length (l.map encB)) : Wr2 F p l w (w.setCell ⟨p, 0, none⟩ v') := by
  have u7 : Upd (OneF p) w (w.setCell ⟨p, 0, none⟩ v') := (Upd.refl _ _).set1 _ _
  have hz7 : (w.setCell ⟨p, 0, none⟩ v').heap.size = w.heap.size := by simp [World.setCell]
  refine ⟨F, ⟨?_, v', ?_, ?_, hd⟩, u7.mono (fun k _ h => by simp only [OneF] at h; subst h; exact hd), fun k hk => .inl hk⟩
  · intro k hk; rw [hz7]; exact hlt k hk
  · rw [blk_set hb]; simp
  · exact hr.upd u7 (fun k hk h => by simp only [OneF] at h; subst h; exact hk.2 rfl)
set_option maxRecDepth 100000 in
set_option maxHeartbeats 2000000 in
theorem wr_bytes (v : Value) (b : List UInt8) (w : World) (h : WrAt w F p l) (hv : Bytes w G v b) (hG : ∀ k, G k → ¬ F k) (hl : l.length < 50000000) (hbl : b.length < 10000000) :
    Calls Try.prog 121 #[.pointer (some ⟨p, 0, none⟩), v] w (fun r w' => r = .returned (.tuple #[]) ∧ Wr2 F p (l ++ (beBytes b.length 4 ++ b)) w w') := by
  obtain ⟨va, vc, rfl, hvc⟩ := hv.slice
  have hn := wr_number b.length 4 w h (by omega) (by omega)
  rw [← List.append_assoc]
  obtain ⟨L, hL⟩ : ∃ L, L = l ++ beBytes b.length 4 := ⟨_, rfl⟩
  have hLl : L.length < 50000004 := by rw [hL, List.length_append, beBytes_length]; omega
  rw [← hL] at hn ⊢
  clear hL
  have HN := Lib.hid hn
  have HV := Lib.hid hv
  have HFL := Lib.hid h.lt
  obtain ⟨i0, hi, hz0, hz1, hz2⟩ := info_parts info_u8
  clear hn hv h
  have b1 : (b.length : Int) ≤ 10000000 := by omega
  cases va with
  | none =>
    have h0 : b = [] := by
      by_cases h : b = []
      · exact h
      · obtain ⟨g, o, h1, _⟩ := HV.out.at_ h; cases h1
    subst h0
    simp only [List.length_nil] at *
    go_enter Try.func121, Try.ntmps121
    go_wp2_with fail
    refine HN.out.mono ?_
    rintro r w1 ⟨rfl, F', hw, hu, hf⟩
    obtain ⟨hlt, v1, hb, hr, hd⟩ := hw
    obtain ⟨a1, c1, rfl, hc1, hc2, hc3, hc4⟩ := hr.slice
    clear hc2 hc3 hc4
    have e0 : w1.cell? ⟨p, 0, none⟩ = some (.slice a1 L.length c1) := blk_cell hb 0
    have f0 := blk_free hb 0
    have HB := Lib.hid hb
    have HR := Lib.hid hr
    have HU := Lib.hid hu
    have HF := Lib.hid hf
    have HLT := Lib.hid hlt
    clear hb hr hu hf hlt
    go_wp2_with (at_builtin; refine wpList_append_zero rfl _ _ 23 rfl 5 i0 1 Try.underlying23 hi rfl HR.out vc rfl ?_)
    go_wp2_with fail
    go_end0
    rw [List.append_nil]
    exact ⟨rfl, Wr2.step HU.out HF.out (wr_same HLT.out hd HB.out HR.out)⟩
  | some x =>
    have hat := HV.out.at_
    go_enter Try.func121, Try.ntmps121
    go_wp2_with fail
    refine HN.out.mono ?_
    rintro r w1 ⟨rfl, F', hw, hu, hf⟩
    obtain ⟨hlt, v1, hb, hr, hd⟩ := hw
    obtain ⟨a1, c1, rfl, hc1, hc2, hc3, hc4⟩ := hr.slice
    clear hc2 hc3 hc4
    have e0 : w1.cell? ⟨p, 0, none⟩ = some (.slice a1 L.length c1) := blk_cell hb 0
    have f0 := blk_free hb 0
    have HB := Lib.hid hb
    have HR := Lib.hid hr
    have HU := Lib.hid hu
    have HF := Lib.hid hf
    have HLT := Lib.hid hlt
    have hv1 := HV.out.upd hu (fun k hk hF => hG k hk hF)
    have HV1 := Lib.hid hv1
    clear hb hr hu hf hlt hv1
    go_wp2_with (at_builtin; refine wpList_append_row rfl _ _ 23 rfl 5 i0 (.int .u8 0) 1 1 Try.underlying23 hi hz0 hz1 hz2 rfl (by decide) rfl HR.out x b.length vc (b.map encB) rfl ?qc1 ?qc2 ?qc3 ?qc4 ?qc5 ?_)
    case qc1 => simp
    case qc2 => exact Bytes.news HV1.out
    case qc3 => intro u hu; obtain ⟨y, _, rfl⟩ := List.mem_map.1 hu; rfl
    case qc4 => unfold maxLen; omega
    case qc5 => omega
    intro v' w6 r6 u6 o6
    obtain ⟨a', c', rfl, hc1', hc2', hc3', hc4'⟩ := r6.slice
    clear hc2' hc3' hc4'
    have h6 := u6.blk HB.out (fun h => (HR.out.2 p h).2 rfl)
    have c6 := blk_cell h6 0
    have f6 := blk_free h6 0
    simp at c6
    have R6 := Lib.hid r6
    have U6 := Lib.hid u6
    clear r6 u6 o6 h6 e0 f0
    go_wp2_with fail
    go_end0
    exact ⟨rfl, Wr2.step HU.out HF.out (wr_close (b := b) HLT.out hd HB.out HR.out (Upd.refl _ _) (by simpa using R6.out) U6.out)⟩
set_option maxHeartbeats 400000 in
theorem wr_out (w : World) (h : WrAt w F p l) (hl : l.length < 100000000) :
    Calls Try.prog 122 #[.pointer (some ⟨p, 0, none⟩)] w (NewBytes l w) := by
  obtain ⟨hlt, v, hb, hr, hd⟩ := h
  have hv : Bytes w (fun _ => True) v l := (bytes_of_own hr.1).mono (fun _ _ => trivial)
  have HC := Lib.hid (clone_any v l w hv (by omega))
  obtain ⟨a, c, rfl, hc1, hc2, hc3, hc4⟩ := hr.slice
  have c0 : w.cell? ⟨p, 0, none⟩ = some (.slice a l.length c) := blk_cell hb 0
  clear hb hr hc2 hc3 hc4 hv
  go_enter Try.func122, Try.ntmps122
  go_wp2_with fail
  refine HC.out.mono ?_
  rintro r w1 ⟨v, rfl, h1, h2⟩
  go_wp2_with fail
  go_ret
  exact ⟨v, rfl, h1, h2⟩
end Go.Proofs.Ytplhgeecnnadhaa
