/- Same: two rows of bytes; SameList: two rows of rows. -/
import Derived.Test.YtplhgeecnnadhaaDevG
namespace Go.Proofs.Ytplhgeecnnadhaa
open Go.RowKit
variable {F G : Nat → Prop} {w w1 : World}
def SameR (b : Bool) (w : World) (r : Ending) (w' : World) : Prop := r = .returned (.bool b) ∧ ∃ n, w' = w.drewN n
set_option maxHeartbeats 1000000 in
theorem same_any (v1 v2 : Value) (l1 l2 : List UInt8) (w : World) (h1 : Bytes w F v1 l1) (h2 : Bytes w G v2 l2) (hl : l1.length ≤ 140737488355328) : Calls Try.prog 76 #[v1, v2] w (SameR (decide (l1 = l2)) w) := by
  obtain ⟨a1, c1, rfl, hc1⟩ := h1.slice
  obtain ⟨a2, c2, rfl, hc2⟩ := h2.slice
  by_cases hn : l1.length = l2.length
  case neg =>
    have hne : l1 ≠ l2 := fun e => hn (by rw [e])
    have hb : ((l1.length : Int) != (l2.length : Int)) = true := by simp; omega
    rw [decide_eq_false hne]
    clear h1 h2
    go_enter Try.func76, Try.ntmps76
    go_wp2_with fail
    go_ret
    exact ⟨rfl, 0, rfl⟩
  case pos =>
  have hb : ((l1.length : Int) != (l2.length : Int)) = false := by simp; omega
  have H1 := Lib.hid h1
  have H2 := Lib.hid h2
  have HN := Lib.hid hn
  clear h1 h2 hn
  go_enter Try.func76, Try.ntmps76
  go_wp2_with fail
  go_loopw [5] (fun i wr => ∃ k : Nat, k ≤ l1.length ∧ i = .int .i64 k ∧ (∃ n, wr = w.drewN n) ∧ l1.take k = l2.take k) (fun i _ => l1.length - (intOf i).toNat)
  case atStart => exact ⟨0, Nat.zero_le _, rfl, ⟨0, rfl⟩, by simp⟩
  case round =>
    obtain ⟨k, hk, rfl, ⟨n0, hw0⟩, ht⟩ := hrel
    have uw : Upd NoF w wr := by rw [hw0]; exact (Upd.refl NoF w).drewN n0
    by_cases hlt : k < l1.length
    · have hlt2 : k < l2.length := by have := HN.out; omega
      obtain ⟨g1, o1, ha1, _, hcell1⟩ := (H1.out.upd0 uw).at_ (by intro e; rw [e] at hlt; simp at hlt)
      obtain ⟨g2, o2, ha2, _, hcell2⟩ := (H2.out.upd0 uw).at_ (by intro e; rw [e] at hlt2; simp at hlt2)
      have e1 := hcell1 k hlt
      have e2 := hcell2 k hlt2
      subst ha1 ha2
      have b2 : k < l2.length := hlt2
      have b3 : (l1.length : Int) ≤ 140737488355328 := by omega
      have ht1 : l1.take (k + 1) = l1.take k ++ [l1[k]] := List.take_succ_eq_append_getElem hlt
      have ht2 : l2.take (k + 1) = l2.take k ++ [l2[k]] := List.take_succ_eq_append_getElem hlt2
      have HT := Lib.hid (And.intro ht (And.intro ht1 ht2))
      have HW := Lib.hid hw0
      clear hcell1 hcell2 uw ht ht1 ht2 hw0
      by_cases he : l1[k] = l2[k]
      · have hE := Lib.hid he
        have hb2 : (((l1[k]).toNat : Int) != ((l2[k]).toNat : Int)) = false := by rw [he]; simp
        generalize l1[k].toNat = x1 at *
        generalize l2[k].toNat = x2 at *
        clear he
        go_wp2_with fail
        go_quiet (fail)
        go_wp2_with fail
        exact ⟨⟨k + 1, by omega, by go_num, ⟨n0 + nq, by rw [HW.out]; exact World.drewN_drewN _ _ _⟩, by rw [HT.out.2.1, HT.out.2.2, HT.out.1, hE.out]⟩, by simp [intOf]; omega⟩
      · have hne : l1 ≠ l2 := by intro e; subst e; exact he rfl
        have hb2 : (((l1[k]).toNat : Int) != ((l2[k]).toNat : Int)) = true := by
          have : l1[k].toNat ≠ l2[k].toNat := fun e => he (UInt8.toNat_inj.1 e)
          simp; omega
        have HNE := Lib.hid hne
        generalize l1[k].toNat = x1 at *
        generalize l2[k].toNat = x2 at *
        clear he hne
        go_wp2_with fail
        go_quiet (fail)
        go_wp2_with fail
        go_ret
        exact ⟨by rw [decide_eq_false HNE.out]; rfl, n0 + nq, by rw [HW.out]; exact World.drewN_drewN _ _ _⟩
    · obtain rfl : k = l1.length := by omega
      have he : l1 = l2 := by
        rw [List.take_length] at ht
        rw [ht, HN.out, List.take_length]
      have HE := Lib.hid he
      have HW := Lib.hid hw0
      clear ht he uw hw0
      go_wp2_with fail
      go_ret
      exact ⟨by rw [decide_eq_true HE.out]; rfl, n0, HW.out⟩
set_option maxHeartbeats 1000000 in
theorem samelist_any (v1 v2 : Value) (l1 l2 : List (List UInt8)) (w : World) (h1 : Blks w F v1 l1) (h2 : Blks w G v2 l2) (hl : ∀ b ∈ l1, b.length ≤ 140737488355328) (hl2 : l1.length ≤ 140737488355328) : Calls Try.prog 25 #[v1, v2] w (SameR (decide (l1 = l2)) w) := by
  obtain ⟨a1, c1, rfl, hc1⟩ := h1.slice
  obtain ⟨a2, c2, rfl, hc2⟩ := h2.slice
  by_cases hn : l1.length = l2.length
  case neg =>
    have hne : l1 ≠ l2 := fun e => hn (by rw [e])
    have hb : ((l1.length : Int) != (l2.length : Int)) = true := by simp; omega
    have HNE := Lib.hid hne
    clear h1 h2 hne
    go_enter Try.func25, Try.ntmps25
    go_wp2_with fail
    go_ret
    exact ⟨by rw [decide_eq_false HNE.out]; rfl, 0, rfl⟩
  case pos =>
  have hb : ((l1.length : Int) != (l2.length : Int)) = false := by simp; omega
  have H1 := Lib.hid h1
  have H2 := Lib.hid h2
  have HN := Lib.hid hn
  have HL := Lib.hid hl
  clear h1 h2 hn hl
  go_enter Try.func25, Try.ntmps25
  go_wp2_with fail
  go_loopw [13] (fun i wr => ∃ k : Nat, k ≤ l1.length ∧ i = .int .i64 k ∧ (∃ n, wr = w.drewN n) ∧ l1.take k = l2.take k) (fun i _ => l1.length - (intOf i).toNat)
  case atStart => exact ⟨0, Nat.zero_le _, rfl, ⟨0, rfl⟩, by simp⟩
  case round =>
    obtain ⟨k, hk, rfl, ⟨n0, hw0⟩, ht⟩ := hrel
    have uw : Upd NoF w wr := by rw [hw0]; exact (Upd.refl NoF w).drewN n0
    by_cases hlt : k < l1.length
    · have hlt2 : k < l2.length := by have := HN.out; omega
      obtain ⟨g1, o1, ha1, _, hcell1⟩ := (H1.out.upd uw (fun _ _ h => h)).at_ (by intro e; rw [e] at hlt; simp at hlt)
      obtain ⟨g2, o2, ha2, _, hcell2⟩ := (H2.out.upd uw (fun _ _ h => h)).at_ (by intro e; rw [e] at hlt2; simp at hlt2)
      obtain ⟨va1, vc1, e1, hx1⟩ := hcell1 k hlt
      obtain ⟨va2, vc2, e2, hx2⟩ := hcell2 k hlt2
      subst ha1 ha2
      have b2 : k < l2.length := hlt2
      have b3 : (l1.length : Int) ≤ 140737488355328 := by omega
      have ht1 : l1.take (k + 1) = l1.take k ++ [l1[k]] := List.take_succ_eq_append_getElem hlt
      have ht2 : l2.take (k + 1) = l2.take k ++ [l2[k]] := List.take_succ_eq_append_getElem hlt2
      have HT := Lib.hid (And.intro ht (And.intro ht1 ht2))
      have HW := Lib.hid hw0
      have hsame : ∀ j, Calls Try.prog 76 #[.slice va1 l1[k].length vc1, .slice va2 l2[k].length vc2] (wr.drewN j) (fun e w' => e = .returned (.bool (decide (l1[k] = l2[k]))) ∧ ∃ n, w' = (wr.drewN j).drewN n) := fun j =>
        same_any _ _ _ _ _ (hx1.upd0 ((Upd.refl NoF wr).drewN j)) (hx2.upd0 ((Upd.refl NoF wr).drewN j)) (HL.out _ (List.getElem_mem hlt))
      by_cases he : l1[k] = l2[k]
      · have hE := Lib.hid he
        simp only [decide_eq_true he] at hsame
        have HS := Lib.hid hsame
        generalize l1[k].length = x1 at *
        generalize l2[k].length = x2 at *
        clear he hcell1 hcell2 uw ht ht1 ht2 hw0 hx1 hx2 hsame
        go_wp2_with fail
        go_quiet ((go_at_call 76; exact Calls.quiet_of (HS.out _)))
        go_wp2_with fail
        exact ⟨⟨k + 1, by omega, by go_num, ⟨n0 + nq, by rw [HW.out]; exact World.drewN_drewN _ _ _⟩, by rw [HT.out.2.1, HT.out.2.2, HT.out.1, hE.out]⟩, by simp [intOf]; omega⟩
      · have hne : l1 ≠ l2 := by intro e; subst e; exact he rfl
        have HNE := Lib.hid hne
        simp only [decide_eq_false he] at hsame
        have HS := Lib.hid hsame
        generalize l1[k].length = x1 at *
        generalize l2[k].length = x2 at *
        clear he hne hcell1 hcell2 uw ht ht1 ht2 hw0 hx1 hx2 hsame
        go_wp2_with fail
        go_quiet ((go_at_call 76; exact Calls.quiet_of (HS.out _)))
        go_wp2_with fail
        go_ret
        exact ⟨by rw [decide_eq_false HNE.out]; rfl, n0 + nq, by rw [HW.out]; exact World.drewN_drewN _ _ _⟩
    · obtain rfl : k = l1.length := by omega
      have he : l1 = l2 := by
        rw [List.take_length] at ht
        rw [ht, HN.out, List.take_length]
      have HE := Lib.hid he
      have HW := Lib.hid hw0
      clear ht he uw hw0
      go_wp2_with fail
      go_ret
      exact ⟨by rw [decide_eq_true HE.out]; rfl, n0, HW.out⟩
end Go.Proofs.Ytplhgeecnnadhaa
