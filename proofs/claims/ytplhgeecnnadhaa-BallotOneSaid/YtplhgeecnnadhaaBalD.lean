/- The proposer: Start. -/
import Derived.Test.YtplhgeecnnadhaaBalC
namespace Go.Proofs.Ytplhgeecnnadhaa
open Go.RowKit
variable {F G : Nat → Prop} {w w1 : World} {p : Nat} {s : PS}
/-- a new proposer, in new blocks -/
def NewProp (s : PS) (w : World) (r : Ending) (w' : World) : Prop := ∃ p F', r = .returned (.pointer (some ⟨p, 0, none⟩)) ∧ PropAt w' F' p s ∧ Upd NoF w w' ∧ ∀ k, F' k → w.heap.size ≤ k
def PS.start (acc b1 b2 : Int) (l : List UInt8) : PS := ⟨max acc 1, b1, b2, 1, l, 0, 0, [], []⟩
theorem start_close {W W2 : World} {v : Value} {m : Nat} {acc b1 b2 : Int} {l : List UInt8} (U : Upd NoF w W) (hacc : 1 ≤ acc) (hbig : acc ≤ 9223372036854775807) (hv : Bytes W (fun k => w.heap.size ≤ k ∧ k ≠ m) v l) (hm : IMap W m [])
    (hmw : w.heap.size ≤ m) (hW : W2 = W.alloc (.cells #[.int .i64 acc, .int .i64 b1, .int .i64 b2, .int .i64 1, v, .int .i64 0, .int .i64 0, .slice none 0 0, .map (some m)] 134)) :
    NewProp ⟨acc, b1, b2, 1, l, 0, 0, [], []⟩ w (.returned (.pointer (some ⟨W.heap.size, 0, none⟩))) W2 := by
  subst hW
  have u := (Upd.refl NoF W).alloc (.cells #[.int .i64 acc, .int .i64 b1, .int .i64 b2, .int .i64 1, v, .int .i64 0, .int .i64 0, .slice none 0 0, .map (some m)] 134)
  refine ⟨_, fun k => w.heap.size ≤ k ∧ k < W.heap.size + 1, rfl, ⟨hacc, hbig, by simp, fun k hk => by simp; exact hk.2, v, _, m, blk_new _ _, ?_, Slc.nil _ _ _ _ _ _, hm.upd u (fun h => h), ⟨U.size, by omega⟩, ⟨hmw, by have := hm.lt; omega⟩, by have := hm.lt; omega⟩, U.then0 u, fun k hk => hk.1⟩
  exact (hv.bound.upd0 u).mono (fun k ⟨⟨h1, h2⟩, h3⟩ => ⟨⟨h1, by omega⟩, by omega, h2⟩)
set_option maxRecDepth 100000 in
set_option maxHeartbeats 1000000 in
theorem start29 (acc b1 b2 : Int) (v : Value) (l : List UInt8) (w : World) (hv : Bytes w F v l) (hl : l.length ≤ 140737488355328) (hbig : acc ≤ 9223372036854775807) :
    Calls Try.prog 29 #[.int .i64 acc, .agg #[.int .i64 b1, .int .i64 b2], v] w (NewProp (PS.start acc b1 b2 l) w) := by
  obtain ⟨a, c, rfl, hc⟩ := hv.slice
  have hacc : 1 ≤ max acc 1 := by omega
  have hbig' : max acc 1 ≤ 9223372036854775807 := by omega
  have hx : ∃ x, x = max acc 1 := ⟨_, rfl⟩
  obtain ⟨x, hx⟩ := hx
  have HX := Lib.hid hx
  unfold PS.start
  rw [← hx] at hacc hbig' ⊢
  clear hx
  go_enter Try.func29, Try.ntmps29
  go_wp2_with fail
  have hB := blk_new w (.cells #[.int .i64 b1, .int .i64 b2] 40)
  have uW := (Upd.refl NoF w).alloc (.cells #[.int .i64 b1, .int .i64 b2] 40)
  have hvW := hv.upd0 uW
  have hsW : (w.alloc (.cells #[.int .i64 b1, .int .i64 b2] 40)).heap.size = w.heap.size + 1 := by simp
  generalize w.alloc _ = W at *
  have HB := Lib.hid hB
  refine wp_region_held (S := fun w' => w'.heap[w.heap.size]? = some (.cells #[.int .i64 b1, .int .i64 b2] 40 (0, 0))) (by kernel_rfl) ?_
  refine held_take 0 (.int .i64 acc) rfl (by kernel_rfl) (by kernel_rfl) (by kernel_rfl) (fun _ _ _ h => h) rfl HB.out (fun W' _ => rfl) ?_
  refine held_take 1 (.int .i64 x) rfl (by kernel_rfl) (by kernel_rfl) (by kernel_rfl) (fun _ _ _ h => h) rfl HB.out (fun W' _ => by have := HX.out; subst this; by_cases h : acc < 1 <;> simp [execOp, Act.put, go_sem, h] <;> omega) ?_
  refine held_take 2 (.agg #[.int .i64 b1, .int .i64 b2]) rfl (by kernel_rfl) (by kernel_rfl) (by kernel_rfl) (fun _ _ _ h => h) rfl HB.out (fun W' hW' => run_load_row_op 40 _ rfl w.heap.size rfl 40 _ (0, 0) _ hW' Try.underlying40 rfl (by kernel_rfl)) ?_
  refine held_take 3 (.slice a l.length c) rfl (by kernel_rfl) (by kernel_rfl) (by kernel_rfl) (fun _ _ _ h => h) rfl HB.out (fun W' _ => rfl) ?_
  have hmm := @run_makeMap Try.prog
  have HV := Lib.hid hvW
  have HS := Lib.hid hsW
  clear hsW hvW hv hB
  refine held_two 4 5 rfl rfl (by kernel_rfl) rfl rfl (fun K hK => ?_) (fun K hK => ?_)
  · go_wp2_with fail
    refine (clone_any _ _ _ (HV.out.upd0 ((Upd.refl NoF W).drew)) hl).mono ?_
    rintro r w2 ⟨v2, rfl, b2', u2⟩
    obtain ⟨a2, c2, rfl, hc2⟩ := b2'.slice
    have HB2 := Lib.hid (u2.blk0 (show W.drew.heap[w.heap.size]? = _ from HB.out))
    refine hK _ _ HB2.out ?_
    clear hK K
    refine held_one 5 rfl (by kernel_rfl) rfl (fun K hK => ?_)
    go_wp2_with fail
    refine hK _ _ (blk_alloc HB2.out _) ?_
    clear hK K
    have m3 := IMap.made w2
    have u3 := (Upd.refl NoF w2).alloc (.map #[] 0)
    have z3 : w2.heap.size = w2.heap.size := rfl
    have HB3 := Lib.hid (blk_alloc HB2.out (.map #[] 0))
    have hb3 : Bytes (w2.alloc (.map #[] 0)) (fun k => w.heap.size ≤ k ∧ k ≠ w2.heap.size) (.slice a2 l.length c2) l := (b2'.bound.upd0 u3).mono (fun k ⟨h1, h2⟩ => ⟨by have h0 := HS.out; simp at h1; omega, by omega⟩)
    have U3 : Upd NoF w (w2.alloc (.map #[] 0)) := ((uW.drew).then0 u2).then0 u3
    have hmw : w.heap.size ≤ w2.heap.size := (uW.drew.then0 u2).size
    generalize w2.heap.size = m at *
    generalize w2.alloc (.map #[] 0) = w3 at *
    refine held_one 6 rfl (by kernel_rfl) rfl (fun K hK => ?_)
    go_wp2_with fail
    refine hK _ _ HB3.out ?_
    clear hK K
    refine held_one 7 rfl (by kernel_rfl) rfl (fun K hK => ?_)
    go_wp2_with fail
    refine hK _ _ (blk_alloc HB3.out _) ?_
    clear hK K
    refine held_one 8 rfl (by kernel_rfl) rfl (fun K hK => ?_)
    go_wp2_with fail
    refine hK _ _ (blk_alloc HB3.out _) ?_
    clear hK K
    refine wpAnyH_done (by kernel_rfl) ?_ _
    go_wp2_with fail
    go_ret
    exact start_close U3 hacc hbig' hb3 m3 hmw rfl
  · go_wp2_with fail
    refine hK _ _ (blk_alloc (show W.drew.heap[w.heap.size]? = _ from HB.out) _) ?_
    clear hK K
    have m1 := IMap.made W
    have u1 := (Upd.refl NoF W).alloc (.map #[] 0)
    have HB1 := Lib.hid (blk_alloc HB.out (.map #[] 0))
    have hv1 := HV.out.upd0 u1
    have hs1 := HS.out
    have z1 : W.heap.size < (W.alloc (.map #[] 0)).heap.size := by simp
    have hmw : w.heap.size ≤ W.heap.size := uW.size
    have U1 := uW.then0 u1
    generalize W.heap.size = m at *
    generalize W.alloc (.map #[] 0) = w1 at *
    refine held_one 4 rfl (by kernel_rfl) rfl (fun K hK => ?_)
    clear hs1
    go_wp2_with fail
    refine (clone_any _ _ _ (hv1.upd0 ((Upd.refl NoF w1).drew)) hl).mono ?_
    rintro r w2 ⟨v2, rfl, b2', u2⟩
    obtain ⟨a2, c2, rfl, hc2⟩ := b2'.slice
    have HB3 := Lib.hid (u2.blk0 (show w1.drew.heap[w.heap.size]? = _ from HB1.out))
    refine hK _ _ HB3.out ?_
    clear hK K
    have m3 := m1.upd ((Upd.refl NoF w1).drew.then0 u2) (fun h => h)
    have U3 : Upd NoF w w2 := U1.drew.then0 u2
    have hb3 : Bytes w2 (fun k => w.heap.size ≤ k ∧ k ≠ m) (.slice a2 l.length c2) l := b2'.mono (fun k h1 => by simp at h1; have := U1.size; constructor <;> omega)
    refine held_one 6 rfl (by kernel_rfl) rfl (fun K hK => ?_)
    go_wp2_with fail
    refine hK _ _ HB3.out ?_
    clear hK K
    refine held_one 7 rfl (by kernel_rfl) rfl (fun K hK => ?_)
    go_wp2_with fail
    refine hK _ _ (blk_alloc HB3.out _) ?_
    clear hK K
    refine held_one 8 rfl (by kernel_rfl) rfl (fun K hK => ?_)
    go_wp2_with fail
    refine hK _ _ (blk_alloc HB3.out _) ?_
    clear hK K
    refine wpAnyH_done (by kernel_rfl) ?_ _
    go_wp2_with fail
    go_ret
    exact start_close U3 hacc hbig' hb3 m3 hmw rfl
end Go.Proofs.Ytplhgeecnnadhaa
