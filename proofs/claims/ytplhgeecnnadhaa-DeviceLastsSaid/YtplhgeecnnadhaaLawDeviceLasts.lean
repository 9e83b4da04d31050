/- DeviceLasts returns true, and changes nothing that it was given, whatever lists and picks it is called with. Conditions: none. -/
import Derived.Test.YtplhgeecnnadhaaRows
import Derived.Test.YtplhgeecnnadhaaLastsO
import Derived.Test.YtplhgeecnnadhaaRd
import Derived.WalkKit
import Derived.ProofKit
import Derived.OpenShut
import Derived.ShutString
import Derived.ChangeOld
import Derived.Carry
import Derived.Below
import Derived.SizedLaws
namespace Go.Proofs.Ytplhgeecnnadhaa.deviceLasts
open Go.ChangeShapes Go.WideShapes Go.ChangeAt Go.RowKit
set_option linter.unusedVariables false
theorem own : ownKnob Try.prog.godebug = none := by kernel_rfl
theorem laidOut : laidOutB Try.prog = true := by kernel_rfl
set_option maxRecDepth 100000 in
theorem walk (a0 : Option Addr) (len0 cap0 : Nat) (a1 : Option Addr) (len1 cap1 : Nat) (a2 : Option Addr) (len2 cap2 : Nat) (w : World) (R0 : Kd.Rd w (.sl (.sl (.int .u8))) [.slice a0 len0 cap0]) (R1 : Kd.Rd w (.sl (.sl (.int .u8))) [.slice a1 len1 cap1]) (R2 : Kd.Rd w (.sl (.int .u8)) [.slice a2 len2 cap2]) :
    Calls Try.prog 3 #[.slice a0 len0 cap0, .slice a1 len1 cap1, .slice a2 len2 cap2] w fun e w' => e = .returned (.bool true) ∧ Below w.heap.size w w' := by
  refine (lasts_any a0 len0 cap0 a1 len1 cap1 a2 len2 cap2 w R0 R1 R2).mono ?_
  rintro e w' ⟨rfl, u⟩
  exact ⟨rfl, u.below⟩

set_option maxRecDepth 100000 in
theorem lifted (os : Os) (started : os.Started) (H : Type) (enc : TypeId × Value → H) :
    ReturnsInHanded {} Try.checked os 3 .any (Rows.deviceLastsSpec.pre6 enc Try.prog Try.f3 Rows.deviceLastsRow.domain false) (Rows.deviceLastsSpec.post enc Try.prog Try.f3 false true false false) := by
  refine returnsInHanded_of_change_sized (C := Try.checked) own started (by kernel_rfl) Try.func3
    (ChangeSpec.witness6 (enc := enc) (C := Try.checked) false ⟨#[], #[.slice none 0 0, .slice none 0 0, .slice none 0 0], []⟩ 8 (by kernel_rfl) (by kernel_rfl) (by kernel_rfl) (by kernel_rfl)) ?_
  intro W base args ds gs before hval0 hW hcnd hsz0 _
  have hval : ∀ (j : Nat) t v, Try.f3.params[j]? = some t → args[j]? = some v → Value.okWide Try.prog W .any base t v := hval0
  have hsz : (DataW.weightsEach Try.prog (Try.f3.params.toList ++ Rows.deviceLastsSpec.plain.varTypes Try.prog) (ds ++ gs)).all (· ≤ reachBytes) = true := hsz0
  have hW' := hW
  obtain ⟨p, q, hA0, hV, rfl, hfz, hnd⟩ := hW
  have hA : DataW.TrodAll enc Try.prog W 0 (fun _ => true) true Try.f3.params.toList args.toList ds p := hA0
  rw [Try.params3] at hA hval hsz
  obtain ⟨v0, vs0, d0, ds0, p0, q0, hargs, rfl, rfl, h0, r0⟩ := trodAll_cons hA
  obtain ⟨v1, vs1, d1, ds1, p1, q1, rfl, rfl, rfl, h1, r1⟩ := trodAll_cons r0
  obtain ⟨v2, vs2, d2, ds2, p2, q2, rfl, rfl, rfl, h2, r2⟩ := trodAll_cons r1
  obtain ⟨rfl, rfl, rfl⟩ := trodAll_nil r2
  obtain rfl : args = #[v0, v1, v2] := by cases args; simp_all
  obtain ⟨rfl, rfl⟩ := trodVars_none hV
  obtain ⟨a0, len0, cap0, rfl⟩ := okWide_slice Try.underlying22 (hval 0 22 v0 rfl rfl)
  have k0 := h0
  have lt0 : ∀ x ∈ p0, x.block < W.heap.size := by obtain ⟨m, hm⟩ := k0; exact DataW.trod_lt m _ _ _ hm
  have R0 := arg_rd (.sl (.sl (.int .u8))) ⟨by kernel_rfl, _, Try.underlying22, Nat.le_of_ble_eq_true (by kernel_rfl), by kernel_rfl, ⟨by kernel_rfl, _, Try.underlying23, Nat.le_of_ble_eq_true (by kernel_rfl), by kernel_rfl, ⟨by kernel_rfl, Try.underlying5⟩⟩⟩ h0 (arg_size hsz 0 rfl rfl)
  rw [show (.slice a0 len0 cap0 : Value).cells.toList = [.slice a0 len0 cap0] from rfl] at R0
  obtain ⟨a1, len1, cap1, rfl⟩ := okWide_slice Try.underlying22 (hval 1 22 v1 rfl rfl)
  have k1 := h1
  have lt1 : ∀ x ∈ p1, x.block < W.heap.size := by obtain ⟨m, hm⟩ := k1; exact DataW.trod_lt m _ _ _ hm
  have R1 := arg_rd (.sl (.sl (.int .u8))) ⟨by kernel_rfl, _, Try.underlying22, Nat.le_of_ble_eq_true (by kernel_rfl), by kernel_rfl, ⟨by kernel_rfl, _, Try.underlying23, Nat.le_of_ble_eq_true (by kernel_rfl), by kernel_rfl, ⟨by kernel_rfl, Try.underlying5⟩⟩⟩ h1 (arg_size hsz 1 rfl rfl)
  rw [show (.slice a1 len1 cap1 : Value).cells.toList = [.slice a1 len1 cap1] from rfl] at R1
  obtain ⟨a2, len2, cap2, rfl⟩ := okWide_slice Try.underlying23 (hval 2 23 v2 rfl rfl)
  have k2 := h2
  have lt2 : ∀ x ∈ p2, x.block < W.heap.size := by obtain ⟨m, hm⟩ := k2; exact DataW.trod_lt m _ _ _ hm
  have R2 := arg_rd (.sl (.int .u8)) ⟨by kernel_rfl, _, Try.underlying23, Nat.le_of_ble_eq_true (by kernel_rfl), by kernel_rfl, ⟨by kernel_rfl, Try.underlying5⟩⟩ h2 (arg_size hsz 2 rfl rfl)
  rw [show (.slice a2 len2 cap2 : Value).cells.toList = [.slice a2 len2 cap2] from rfl] at R2
  clear hA0 hval0
  refine (walk a0 len0 cap0 a1 len1 cap1 a2 len2 cap2 W R0 R1 R2).mono fun e W' ⟨he, bel⟩ => ?_
  subst he
  exact ⟨_, rfl, _, _, _, [], _, [], hW', trodAll_mk1 (shut_bool Try.underlying4 _), (trodAll_cons_mk (Below.trod laidOut (by kernel_rfl) (of_decide_eq_true (by kernel_rfl)) k0 bel lt0) (trodAll_cons_mk (Below.trod laidOut (by kernel_rfl) (of_decide_eq_true (by kernel_rfl)) k1 bel lt1) (trodAll_cons_mk (Below.trod laidOut (by kernel_rfl) (of_decide_eq_true (by kernel_rfl)) k2 bel lt2) trodAll_mk0))), rfl, bel.frame _, fun h => by cases h⟩
theorem over : Rows.deviceLastsRow.holds Try.pinned (OpenSpec.ofChange Rows.deviceLastsSpec) :=
  OpenClaim.holds_of_wide 3 Try.f3 rfl rfl rfl rfl rfl rfl rfl ⟨rfl, rfl, rfl, rfl, rfl⟩ rfl rfl rfl rfl rfl (by kernel_rfl) Try.func3 (by kernel_rfl)
    (of_decide_eq_true (by kernel_rfl)) (by unfold Func.isWrapper; first | (rw [if_pos (by decide +kernel)]; kernel_rfl) | (rw [if_neg (by decide +kernel)]; exact ⟨rfl, rfl⟩))
    (fun os started H enc _ => lifted os started H enc)
theorem proved : Rows.DeviceLastsSaid := over
#print axioms proved
end Go.Proofs.Ytplhgeecnnadhaa.deviceLasts
