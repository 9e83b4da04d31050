/- The proposer (package ballot): each function told by a plain one. -/
import Derived.Test.YtplhgeecnnadhaaMap
namespace Go.Proofs.Ytplhgeecnnadhaa
open Go.RowKit
/-- a proposer, plainly -/
structure PS where
  acc : Int
  b1 : Int
  b2 : Int
  phase : Int
  val : List UInt8
  e1 : Int
  e2 : Int
  found : List UInt8
  ans : List (Int × Bool)
def PS.kv (s : PS) : List (Int × Value) := s.ans.map (fun p => (p.1, Value.bool p.2))
structure PropAt (w : World) (F : Nat → Prop) (p : Nat) (s : PS) : Prop where
  mk ::
  acc : 1 ≤ s.acc
  big : s.acc ≤ 9223372036854775807
  few : s.ans.length ≤ 1000000
  lt : ∀ k, F k → k < w.heap.size
  rep : ∃ vv vf m, w.heap[p]? = some (.cells #[.int .i64 s.acc, .int .i64 s.b1, .int .i64 s.b2, .int .i64 s.phase, vv, .int .i64 s.e1, .int .i64 s.e2, vf, .map (some m)] 134 (0, 0)) ∧
    Bytes w (fun k => F k ∧ k ≠ p ∧ k ≠ m) vv s.val ∧ Bytes w (fun k => F k ∧ k ≠ p ∧ k ≠ m) vf s.found ∧ IMap w m s.kv ∧ F p ∧ F m ∧ p ≠ m
variable {F G : Nat → Prop} {w w1 : World} {p : Nat} {s : PS}
theorem PropAt.upd (h : PropAt w F p s) (hu : Upd G w w1) (hn : ∀ k, F k → ¬ G k) : PropAt w1 F p s := by
  obtain ⟨h1, h2, h3, h4, vv, vf, m, hb, hv, hf, hm, fp, fm, hpm⟩ := h
  exact ⟨h1, h2, h3, fun k hk => Nat.lt_of_lt_of_le (h4 k hk) hu.size, vv, vf, m, hu.blk hb (hn _ fp), hv.upd hu (fun k hk => hn k hk.1), hf.upd hu (fun k hk => hn k hk.1), hm.upd hu (hn _ fm), fp, fm, hpm⟩
/-- what a call on a proposer leaves: the proposer anew, in its own blocks and new ones -/
def Prop2 (F : Nat → Prop) (p : Nat) (s : PS) (w w' : World) : Prop := ∃ F', PropAt w' F' p s ∧ Upd F w w' ∧ ∀ k, F' k → F k ∨ w.heap.size ≤ k
set_option maxHeartbeats 400000 in
theorem phase_any (w : World) (h : PropAt w F p s) : Calls Try.prog 30 #[.pointer (some ⟨p, 0, none⟩)] w fun r w' => r = .returned (.int .i64 s.phase) ∧ w = w' := by
  obtain ⟨_, _, _, _, vv, vf, m, hb, _⟩ := h
  have c3 : w.cell? ⟨p, 3, none⟩ = some (.int .i64 s.phase) := blk_cell hb 3
  clear hb
  go_enter Try.func30, Try.ntmps30
  go_wp2_with fail
  go_ret
  exact ⟨rfl, rfl⟩
/-- is an answer of an acceptor waited for? -/
def PS.opn (s : PS) (src ph : Int) : Bool := decide (s.phase = ph) && decide (0 ≤ src) && decide (src < s.acc) && !(s.ans.map Prod.fst).contains src
theorem kv_get (s : PS) (k : Int) : (kvGet s.kv k).isSome = (s.ans.map Prod.fst).contains k := by
  cases h : kvGet s.kv k with
  | none => rw [kvGet_none] at h; simp [PS.kv] at h; simp; exact h
  | some v =>
    have : ¬ kvGet s.kv k = none := by rw [h]; simp
    rw [kvGet_none] at this
    simp [PS.kv] at this
    simp; exact Decidable.or_iff_not_imp_left.2 this
def Bools (b : Bool) (w : World) (r : Ending) (w' : World) : Prop := r = .returned (.bool b) ∧ w = w'
set_option maxHeartbeats 1000000 in
theorem open_any (src ph : Int) (w : World) (h : PropAt w F p s) : Calls Try.prog 77 #[.pointer (some ⟨p, 0, none⟩), .int .i64 src, .int .i64 ph] w (Bools (s.opn src ph) w) := by
  obtain ⟨_, _, _, _, vv, vf, m, hb, _, _, hm, _⟩ := h
  have c0 : w.cell? ⟨p, 0, none⟩ = some (.int .i64 s.acc) := blk_cell hb 0
  have c3 : w.cell? ⟨p, 3, none⟩ = some (.int .i64 s.phase) := blk_cell hb 3
  have c8 : w.cell? ⟨p, 8, none⟩ = some (.map (some m)) := blk_cell hb 8
  clear hb
  have hz : ∀ W, (zeroValue 4).run Try.prog W = .ok (.bool false) W := fun W => by kernel_rfl
  have hlk := IMap.run_lookup hm Try.underlying41 Try.underlying3 (hz _) src true
  simp only [if_true, kv_get] at hlk
  have hE : ∃ v, (kvGet s.kv src).getD (.bool false) = .bool v := by
    unfold kvGet PS.kv
    rw [List.find?_map]
    cases s.ans.find? ((fun p => p.1 == src) ∘ fun p => (p.1, Value.bool p.2)) with
    | none => exact ⟨_, rfl⟩
    | some q => exact ⟨q.2, rfl⟩
  obtain ⟨v0, hv0⟩ := hE
  rw [hv0] at hlk
  generalize hhas : (s.ans.map Prod.fst).contains src = has at hlk
  clear hv0 hm hz
  by_cases h1 : s.phase = ph
  case neg =>
    have e : s.opn src ph = false := by simp [PS.opn, h1]
    rw [e]; clear e
    have h1' : (s.phase == ph) = false := by simpa using h1
    go_enter Try.func77, Try.ntmps77
    go_wp2_with fail
    go_ret
    exact ⟨rfl, rfl⟩
  case pos =>
  subst h1
  by_cases h2 : 0 ≤ src
  case neg =>
    have e : s.opn src s.phase = false := by simp only [PS.opn, h2, decide_false]; simp
    rw [e]; clear e
    go_enter Try.func77, Try.ntmps77
    go_wp2_with fail
    go_ret
    exact ⟨rfl, rfl⟩
  case pos =>
  by_cases h3 : src < s.acc
  case neg =>
    have e : s.opn src s.phase = false := by simp only [PS.opn, h3, decide_false]; simp
    rw [e]; clear e
    go_enter Try.func77, Try.ntmps77
    go_wp2_with fail
    go_ret
    exact ⟨rfl, rfl⟩
  case pos =>
  have e : s.opn src s.phase = !has := by rw [← hhas]; simp only [PS.opn, h2, h3, decide_true]; simp
  rw [e]; clear e hhas
  cases has
  all_goals
    go_enter Try.func77, Try.ntmps77
    go_wp2_with fail
    go_ret
    exact ⟨rfl, rfl⟩
end Go.Proofs.Ytplhgeecnnadhaa
