/- The unit: its small functions; a page as bytes and back. -/
import Derived.Test.YtplhgeecnnadhaaOctR
import Derived.Test.YtplhgeecnnadhaaMap
import Derived.Test.YtplhgeecnnadhaaDevG
namespace Go.Proofs.Ytplhgeecnnadhaa
open Go.RowKit
variable {F G : Nat → Prop} {w w1 : World} {p : Nat} {l : List UInt8} {x : Bool}
/-! ### numbers and bytes, read back -/
theorem beNat_be (v : Nat) : ∀ (k : Nat) (a : Nat), (beBytes v k).foldl (fun v c => v * 256 + c.toNat) a = a * 256 ^ k + v % 256 ^ k
  | 0, a => by simp [beBytes, Nat.mod_one]
  | k + 1, a => by
    simp only [beBytes, List.foldl_cons]
    rw [beNat_be v k]
    have h1 : (UInt8.ofNat (v / 2 ^ (8 * k))).toNat = v / 256 ^ k % 256 := by
      rw [show (256 : Nat) ^ k = 2 ^ (8 * k) by rw [Nat.pow_mul]]
      simp only [UInt8.toNat_ofNat']
    rw [h1, Nat.pow_succ 256 k, Nat.mod_mul, Nat.add_mul, Nat.mul_assoc, Nat.mul_comm 256 (256 ^ k), Nat.mul_comm (v / 256 ^ k % 256)]
    omega
theorem beNat_beBytes {v k : Nat} (h : v < 256 ^ k) : beNat (beBytes v k) = v := by
  unfold beNat
  rw [beNat_be, Nat.zero_mul, Nat.zero_add, Nat.mod_eq_of_lt h]
theorem rtake_app (a b : List UInt8) : rtake (a ++ b) false a.length = ((a, true), (b, false)) := by
  rw [rtake_ok (by simp)]; simp
theorem rnum_be {v k : Nat} (h : v < 256 ^ k) (rest : List UInt8) : rnum (beBytes v k ++ rest) false k = (v, (rest, false)) := by
  have := rtake_app (beBytes v k) rest
  rw [beBytes_length] at this
  unfold rnum
  rw [this]
  simp only [beNat_beBytes h]
theorem rnum_one (b : UInt8) (rest : List UInt8) : rnum (b :: rest) false 1 = (b.toNat, (rest, false)) := by
  have := rtake_app [b] rest
  simp only [List.length_singleton, List.singleton_append] at this
  unfold rnum
  rw [this]
  simp [beNat]
theorem rbytes_app {b : List UInt8} {most : Nat} (h : b.length ≤ most) (hm : b.length < 256 ^ 4) (rest : List UInt8) : rbytes (beBytes b.length 4 ++ (b ++ rest)) false most = (b, (rest, false)) := by
  unfold rbytes rcount
  rw [rnum_be hm]
  simp only []
  rw [if_neg (by omega)]
  simp only []
  rw [rtake_app]
/-! ### small functions -/
def okNum (n : Int) : Bool := decide (0 ≤ n) && decide (n ≤ 2147483647)
set_option maxHeartbeats 400000 in
theorem u_number (n : Int) (w : World) : Calls Try.prog 118 #[.int .i64 n] w (fun r w' => r = .returned (.bool (okNum n)) ∧ w' = w) := by
  unfold okNum
  by_cases h1 : 0 ≤ n <;> by_cases h2 : n ≤ 2147483647
  all_goals
    simp only [h1, h2, decide_true, decide_false, Bool.and_self, Bool.and_true, Bool.and_false]
    go_enter Try.func118, Try.ntmps118
    go_wp2_with fail
    go_ret
    exact ⟨rfl, rfl⟩
def okAt (n : Int) : Bool := decide (0 ≤ n) && decide (n ≤ 4294967296)
set_option maxHeartbeats 400000 in
theorem u_address (n : Int) (w : World) : Calls Try.prog 116 #[.int .i64 n] w (fun r w' => r = .returned (.bool (okAt n)) ∧ w' = w) := by
  unfold okAt
  by_cases h1 : 0 ≤ n <;> by_cases h2 : n ≤ 4294967296
  all_goals
    simp only [h1, h2, decide_true, decide_false, Bool.and_self, Bool.and_true, Bool.and_false]
    go_enter Try.func116, Try.ntmps116
    go_wp2_with fail
    go_ret
    exact ⟨rfl, rfl⟩
/-- a ballot -/
structure Bl where
  r : Int
  w : Int
deriving DecidableEq
def Bl.v (b : Bl) : Value := .agg #[.int .i64 b.r, .int .i64 b.w]
def Bl.lt (a b : Bl) : Bool := decide (a.r < b.r) || (decide (a.r = b.r) && decide (a.w < b.w))
set_option maxHeartbeats 1000000 in
theorem u_less (a b : Bl) (w : World) : Calls Try.prog 86 #[.agg #[.int .i64 a.r, .int .i64 a.w], .agg #[.int .i64 b.r, .int .i64 b.w]] w (fun r w' => r = .returned (.bool (a.lt b)) ∧ Upd NoF w w') := by
  obtain ⟨ar, aw⟩ := a
  obtain ⟨br, bw⟩ := b
  unfold Bl.lt
  simp only []
  have u : ∀ o1 o2, Upd NoF w ((w.alloc o1).alloc o2) := fun o1 o2 => ((Upd.refl _ _).alloc _).alloc _
  have HU := Lib.hid u
  clear u
  by_cases h1 : ar < br
  · simp only [h1, decide_true, Bool.true_or]
    go_enter Try.func86, Try.ntmps86
    go_wp2_with fail
    go_ret
    exact ⟨rfl, HU.out _ _⟩
  · simp only [h1, decide_false, Bool.false_or]
    by_cases h2 : ar = br
    · simp only [h2, decide_true, Bool.true_and]
      subst h2
      clear h1
      by_cases h3 : aw < bw
      · simp only [h3, decide_true]
        go_enter Try.func86, Try.ntmps86
        go_wp2_with fail
        go_ret
        exact ⟨rfl, HU.out _ _⟩
      · simp only [h3, decide_false]
        go_enter Try.func86, Try.ntmps86
        go_wp2_with fail
        go_ret
        exact ⟨rfl, HU.out _ _⟩
    · simp only [h2, decide_false, Bool.false_and]
      go_enter Try.func86, Try.ntmps86
      go_wp2_with fail
      go_ret
      exact ⟨rfl, HU.out _ _⟩
def okInst (n : Int) (b : Bl) : Bool := (decide (0 < n) && okNum n) && (okNum b.r && okNum b.w)
set_option maxHeartbeats 1000000 in
theorem u_instance (n : Int) (b : Bl) (w : World) : Calls Try.prog 85 #[.int .i64 n, .agg #[.int .i64 b.r, .int .i64 b.w]] w (fun r w' => r = .returned (.bool (okInst n b)) ∧ Upd NoF w w') := by
  obtain ⟨br, bw⟩ := b
  unfold okInst
  simp only []
  have HN := Lib.hid (fun n w => u_number n w)
  have HU := Lib.hid (fun o => (Upd.refl NoF w).alloc o)
  by_cases h1 : 0 < n
  · cases h2 : okNum n
    · simp only [h1, decide_true, Bool.true_and, Bool.false_and]
      go_enter Try.func85, Try.ntmps85
      go_wp2_with fail
      refine (HN.out _ _).mono ?_
      rintro r w1 ⟨rfl, rfl⟩
      rw [h2]
      go_wp2_with fail
      go_ret
      exact ⟨rfl, HU.out _⟩
    · simp only [h1, decide_true, Bool.true_and]
      cases h3 : okNum br
      · simp only [Bool.false_and]
        go_enter Try.func85, Try.ntmps85
        go_wp2_with fail
        refine (HN.out _ _).mono ?_
        rintro r w1 ⟨rfl, rfl⟩
        rw [h2]
        go_wp2_with fail
        refine (HN.out _ _).mono ?_
        rintro r w1 ⟨rfl, rfl⟩
        rw [h3]
        go_wp2_with fail
        go_ret
        exact ⟨rfl, HU.out _⟩
      · simp only [Bool.true_and]
        cases h4 : okNum bw
        · go_enter Try.func85, Try.ntmps85
          go_wp2_with fail
          refine (HN.out _ _).mono ?_
          rintro r w1 ⟨rfl, rfl⟩
          rw [h2]
          go_wp2_with fail
          refine (HN.out _ _).mono ?_
          rintro r w1 ⟨rfl, rfl⟩
          rw [h3]
          go_wp2_with fail
          refine (HN.out _ _).mono ?_
          rintro r w1 ⟨rfl, rfl⟩
          rw [h4]
          go_wp2_with fail
          go_ret
          exact ⟨rfl, HU.out _⟩
        · go_enter Try.func85, Try.ntmps85
          go_wp2_with fail
          refine (HN.out _ _).mono ?_
          rintro r w1 ⟨rfl, rfl⟩
          rw [h2]
          go_wp2_with fail
          refine (HN.out _ _).mono ?_
          rintro r w1 ⟨rfl, rfl⟩
          rw [h3]
          go_wp2_with fail
          refine (HN.out _ _).mono ?_
          rintro r w1 ⟨rfl, rfl⟩
          rw [h4]
          go_wp2_with fail
          go_ret
          exact ⟨rfl, HU.out _⟩
  · simp only [h1, decide_false, Bool.false_and]
    go_enter Try.func85, Try.ntmps85
    go_wp2_with fail
    go_ret
    exact ⟨rfl, HU.out _⟩
end Go.Proofs.Ytplhgeecnnadhaa
