/- The proposer: answer. -/
import Derived.Test.YtplhgeecnnadhaaBal
import Derived.Test.YtplhgeecnnadhaaClone
namespace Go.Proofs.Ytplhgeecnnadhaa
open Go.RowKit
variable {F G : Nat → Prop} {w w1 : World} {p : Nat} {s : PS}
set_option maxHeartbeats 400000 in
theorem asked_any (src : Int) (w : World) (h : PropAt w F p s) : Calls Try.prog 31 #[.pointer (some ⟨p, 0, none⟩), .int .i64 src] w (Bools (s.opn src 1 || s.opn src 2) w) := by
  have o1 := Lib.hid (open_any src 1 w h)
  have o2 := Lib.hid (open_any src 2 w h)
  generalize s.opn src 1 = a at *
  generalize s.opn src 2 = b at *
  cases a
  · go_enter Try.func31, Try.ntmps31
    go_wp2_with fail
    refine o1.out.mono ?_
    rintro r w1 ⟨rfl, rfl⟩
    go_wp2_with fail
    refine o2.out.mono ?_
    rintro r w1 ⟨rfl, rfl⟩
    go_wp2_with fail
    go_ret
    exact ⟨rfl, rfl⟩
  · go_enter Try.func31, Try.ntmps31
    go_wp2_with fail
    refine o1.out.mono ?_
    rintro r w1 ⟨rfl, rfl⟩
    go_wp2_with fail
    go_ret
    exact ⟨rfl, rfl⟩
set_option maxHeartbeats 400000 in
theorem value_any (w : World) (h : PropAt w F p s) (hl : s.val.length ≤ 140737488355328) : Calls Try.prog 34 #[.pointer (some ⟨p, 0, none⟩)] w (NewBytes s.val w) := by
  obtain ⟨_, _, _, _, vv, vf, m, hb, hv, _⟩ := h
  obtain ⟨a, c, rfl, hc⟩ := hv.slice
  have c4 : w.cell? ⟨p, 4, none⟩ = some (.slice a s.val.length c) := blk_cell hb 4
  have hcl := Lib.hid (clone_any _ _ w hv hl)
  clear hb hv hc hl
  go_enter Try.func34, Try.ntmps34
  go_wp2_with fail
  refine hcl.out.mono ?_
  rintro r w1 ⟨v, rfl, hb, hu⟩
  go_wp2_with fail
  go_ret
  exact ⟨v, rfl, hb, hu⟩
/-! ### how many have answered OK -/
def yesOf (l : List (Int × Bool)) : Nat := (l.filter (fun x => x.2)).length
/-- how many entries are still to come -/
def itLeft (w : World) (r m : Nat) : Nat :=
  match w.heap[m]?, w.heap[r]? with
  | some (.map es _), some (.mapIter _ _ seen _) => (es.toList.filter (fun e => !seen.contains e.born)).length
  | _, _ => 0
theorem itLeft_eq {r m : Nat} {kv todo : List (Int × Value)} (h : IMapIter w r m kv todo) : itLeft w r m = todo.length := by
  obtain ⟨es, clock, seen, hm, hr, _, _, _, _, ht⟩ := h
  have := congrArg List.length ht
  simp only [List.length_map] at this
  simp [itLeft, hm, hr, ← this]
def bkv (l : List (Int × Bool)) : List (Int × Value) := l.map (fun p => (p.1, Value.bool p.2))
theorem bkv_filter (l : List (Int × Bool)) (k : Int) : (bkv l).filter (fun x => x.1 != k) = bkv (l.filter (fun x => x.1 != k)) := by
  unfold bkv; rw [List.filter_map]; rfl
theorem mem_bkv {l : List (Int × Bool)} {q : Int × Value} (h : q ∈ bkv l) : ∃ b, (q.1, b) ∈ l ∧ q.2 = .bool b := by
  simp only [bkv, List.mem_map] at h
  obtain ⟨x, hx, rfl⟩ := h
  exact ⟨x.2, hx, rfl⟩
theorem yesOf_cons (x : Int × Bool) (l : List (Int × Bool)) : yesOf (x :: l) = yesOf l + (if x.2 then 1 else 0) := by
  unfold yesOf
  rw [List.filter_cons]
  cases x.2 <;> simp
/-- one that comes is counted, and goes -/
theorem yesOf_step : ∀ {l : List (Int × Bool)} {k : Int} {b : Bool}, (l.map Prod.fst).Nodup → (k, b) ∈ l → yesOf l = yesOf (l.filter (fun x => x.1 != k)) + (if b then 1 else 0) ∧ (l.filter (fun x => x.1 != k)).length + 1 = l.length
  | x :: l, k, b, hn, hm => by
    simp only [List.map_cons, List.nodup_cons] at hn
    rcases List.mem_cons.1 hm with h | h
    · subst h
      have h1 : l.filter (fun x => x.1 != k) = l := by
        rw [List.filter_eq_self]
        intro a ha
        have : a.1 ≠ k := fun e => hn.1 (by have := List.mem_map_of_mem (f := Prod.fst) ha; rw [e] at this; exact this)
        simpa using this
      simp only [List.filter_cons, bne_self_eq_false, Bool.false_eq_true, if_false, h1, List.length_cons, and_true]
      rw [yesOf_cons]
    · have hne : x.1 ≠ k := fun e => hn.1 (by rw [e]; exact List.mem_map_of_mem (f := Prod.fst) h)
      obtain ⟨h1, h2⟩ := yesOf_step hn.2 h
      have hx : (x.1 != k) = true := by simpa using hne
      simp only [List.filter_cons, hx, if_true, List.length_cons]
      refine ⟨?_, by omega⟩
      rw [yesOf_cons, yesOf_cons]; omega
theorem nodup_filter_keys {l : List (Int × Bool)} (hn : (l.map Prod.fst).Nodup) (p : Int × Bool → Bool) : ((l.filter p).map Prod.fst).Nodup := List.Nodup.sublist (List.filter_sublist.map _) hn
/-- answer, plainly: of one that hasn't answered -/
def PS.answer (s : PS) (src : Int) (ok : Bool) : PS :=
  let ans := s.ans ++ [(src, ok)]
  let yes : Int := yesOf ans
  let most := s.acc / 2 + 1
  if yes ≥ most ∧ s.phase = 1 then { s with phase := 2, ans := [], val := if s.e1 = 0 ∧ s.e2 = 0 then s.val else s.found }
  else if yes ≥ most then { s with phase := 3, ans := ans }
  else if s.acc - (ans.length - yes) < most then { s with phase := 4, ans := ans }
  else { s with ans := ans }
end Go.Proofs.Ytplhgeecnnadhaa
