/- slices.Clone of bytes. -/
import Derived.Test.YtplhgeecnnadhaaBase
import Derived.Lib.SliceRun
namespace Go.Proofs.Ytplhgeecnnadhaa
open Go.RowKit
variable {F G : Nat → Prop} {w w1 : World}
def encB (b : UInt8) : Value := .int .u8 (b.toNat : Int)
/-- a row of one's own reads as bytes -/
theorem bytes_of_own {base n : Nat} {v : Value} {l : List UInt8} {e : TypeId} (h : w.ownsRow base e 1 v n (l.map encB)) : Bytes w (fun k => base ≤ k) v l := by
  obtain ⟨hl, h⟩ := h
  have hn : l.length = n := by simpa using hl
  rcases h with ⟨rfl, h0⟩ | ⟨g, cap, cur, rfl, hb, hg, hnc, hcm, hcs, htk⟩
  · subst h0
    obtain rfl : l = [] := List.length_eq_zero_iff.1 hn
    exact Slc.nil _ _ _ _ _ _
  · subst hn
    refine ⟨_, cap, rfl, hnc, fun _ => ⟨g, 0, rfl, hb, cur, e, (0, 0), hg, fun i hi => ⟨_, rfl, rfl, fun j hj => ?_⟩⟩⟩
    obtain rfl : j = 0 := by omega
    have h1 := congrArg (fun q => q[i]?) htk
    simp only [Nat.mul_one, List.getElem?_map, List.getElem?_eq_getElem hi, Option.map_some] at h1
    rw [List.getElem?_take, if_pos hi] at h1
    simpa [encB] using h1
theorem info_u8 : (Try.prog.info? 5).map (fun i => (i.zero, i.size, i.bytes)) = some (some (.int .u8 0), 1, 1) := by kernel_rfl
/-- new bytes: v reads as l, in new blocks -/
def NewBytes (l : List UInt8) (w : World) (r : Ending) (w' : World) : Prop := ∃ v, r = .returned v ∧ Bytes w' (fun k => w.heap.size ≤ k) v l ∧ Upd NoF w w'
set_option maxHeartbeats 1000000 in
theorem clone_any (v : Value) (l : List UInt8) (w : World) (hv : Bytes w F v l) (hl : l.length ≤ 140737488355328) :
    Calls Try.prog 74 #[v] w (NewBytes l w) := by
  obtain ⟨a, c, rfl, hc⟩ := hv.slice
  have q22 : ∀ (w : World) (a : Option Addr) (n c n' c' : Nat), (binOp .eql 23 (.slice a n c) (.slice none n' c')).run Try.prog w = .ok (.bool a.isNone) w := fun w a n c n' c' => Lib.run_eql_slice_nil w _ _ a n c n' c' Try.underlying23
  cases a with
  | none =>
    have h0 : l = [] := by
      by_cases h : l = []
      · exact h
      · obtain ⟨g, o, h1, _⟩ := hv.at_ h; cases h1
    subst h0
    clear hv hl hc
    go_enter Try.func74, Try.ntmps74
    go_wp2_with fail
    go_ret
    exact ⟨_, rfl, Slc.nil _ _ _ _ _ _, Upd.refl _ _⟩
  | some x =>
    have hnews : ∀ j u, (l.map encB)[j]? = some u → w.cell? (x.add j) = some u := by
      intro j u hj
      have hne : l ≠ [] := by intro e; subst e; simp at hj
      obtain ⟨g, o, hx, _, hcell⟩ := hv.at_ hne
      cases hx
      rw [List.getElem?_map] at hj
      cases hq : l[j]? with
      | none => rw [hq] at hj; simp at hj
      | some b =>
        rw [hq] at hj
        obtain ⟨hlt, rfl⟩ := List.getElem?_eq_some_iff.1 hq
        have := hcell j hlt
        have hadd : (⟨g, o, none⟩ : Addr).add j = ⟨g, o + j, none⟩ := by unfold Addr.add; split <;> simp_all
        rw [hadd, this]; simpa [encB] using hj
    have HN := Lib.hid hnews
    obtain ⟨i0, hi, hz0, hz1, hz2⟩ := info_parts info_u8
    have HL := Lib.hid (⟨hl, hc⟩ : l.length ≤ 140737488355328 ∧ l.length ≤ c)
    clear hv hnews hl
    go_enter Try.func74, Try.ntmps74
    go_wp2_with (at_builtin; refine wpList_append_own _ rfl _ _ 23 rfl w.heap.size 5 i0 (.int .u8 0) 1 1 Try.underlying23 hi hz0 hz1 hz2 rfl (by decide) _ _ _ rfl (World.ownsRow_made w #[] 0 (Nat.le_refl _) (Nat.zero_le _) (by simp)) x l.length c (l.map encB) rfl ?qc1 ?qc2 ?qc3 ?qc4 ?qc5 ?qc6 ?_)
    case qc1 => simp
    case qc2 => intro j u hj; exact ((Upd.refl NoF w).alloc _).cell0 (HN.out j u hj)
    case qc3 => intro u hu; simp only [List.mem_map] at hu; obtain ⟨b, _, rfl⟩ := hu; rfl
    case qc4 => have := HL.out.1; unfold maxLen; omega
    case qc5 => have := HL.out.1; omega
    case qc6 => simp
    intro v' w1 hown hgrow hnil
    go_wp2_with fail
    go_ret
    refine ⟨v', rfl, bytes_of_own (by simpa using hown), ((Upd.refl NoF w).alloc _).grown hgrow ?_⟩
    intro k hk hlt
    simp [Value.ownBlock] at hk; omega
end Go.Proofs.Ytplhgeecnnadhaa
