/- TokensStale returns true, and changes nothing that it was given, whatever messages it is called with. Conditions: none. -/
import Derived.Test.YtplhgeecnnadhaaRows
import Derived.Test.YtplhgeecnnadhaaStaleO
import Derived.Test.YtplhgeecnnadhaaRd
import Derived.WalkKit
import Derived.ProofKit
import Derived.OpenShut
import Derived.ShutString
import Derived.ChangeOld
import Derived.Carry
import Derived.Below
import Derived.SizedLaws
namespace Go.Proofs.Ytplhgeecnnadhaa.tokensStale
open Go.ChangeShapes Go.WideShapes Go.ChangeAt Go.RowKit
set_option linter.unusedVariables false
theorem own : ownKnob Try.prog.godebug = none := by kernel_rfl
theorem laidOut : laidOutB Try.prog = true := by kernel_rfl
set_option maxRecDepth 100000 in
theorem walk (a0 : Option Addr) (len0 cap0 : Nat) (w : World) (R0 : Kd.Rd w (.sl (.st (.cons (.int .i64) (.cons (.int .i64) (.cons (.int .i64) (.cons .bool (.cons (.int .i64) (.cons (.int .i64) (.cons (.int .i64) (.cons (.st (.cons (.int .i64) (.cons (.sl (.int .u8)) .nilk))) (.cons (.st (.cons (.int .i64) (.cons (.int .i64) .nilk))) (.cons (.sl (.int .u8)) (.cons (.int .i64) (.cons (.int .i64) (.cons (.int .i64) (.cons (.int .i64) .nilk)))))))))))))))) [.slice a0 len0 cap0]) :
    Calls Try.prog 8 #[.slice a0 len0 cap0] w fun e w' => e = .returned (.bool true) ∧ Below w.heap.size w w' := by
  refine (stale_any a0 len0 cap0 w R0).mono ?_
  rintro e w' ⟨rfl, u⟩
  exact ⟨rfl, u.below⟩

set_option maxRecDepth 100000 in
theorem lifted (os : Os) (started : os.Started) (H : Type) (enc : TypeId × Value → H) :
    ReturnsInHanded {} Try.checked os 8 .any (Rows.tokensStaleSpec.pre6 enc Try.prog Try.f8 Rows.tokensStaleRow.domain false) (Rows.tokensStaleSpec.post enc Try.prog Try.f8 false true false false) := by
  refine returnsInHanded_of_change_sized (C := Try.checked) own started (by kernel_rfl) Try.func8
    (ChangeSpec.witness6 (enc := enc) (C := Try.checked) false ⟨#[], #[.slice none 0 0], []⟩ 8 (by kernel_rfl) (by kernel_rfl) (by kernel_rfl) (by kernel_rfl)) ?_
  intro W base args ds gs before hval0 hW hcnd hsz0 _
  have hval : ∀ (j : Nat) t v, Try.f8.params[j]? = some t → args[j]? = some v → Value.okWide Try.prog W .any base t v := hval0
  have hsz : (DataW.weightsEach Try.prog (Try.f8.params.toList ++ Rows.tokensStaleSpec.plain.varTypes Try.prog) (ds ++ gs)).all (· ≤ reachBytes) = true := hsz0
  have hW' := hW
  obtain ⟨p, q, hA0, hV, rfl, hfz, hnd⟩ := hW
  have hA : DataW.TrodAll enc Try.prog W 0 (fun _ => true) true Try.f8.params.toList args.toList ds p := hA0
  rw [Try.params8] at hA hval hsz
  obtain ⟨v0, vs0, d0, ds0, p0, q0, hargs, rfl, rfl, h0, r0⟩ := trodAll_cons hA
  obtain ⟨rfl, rfl, rfl⟩ := trodAll_nil r0
  obtain rfl : args = #[v0] := by cases args; simp_all
  obtain ⟨rfl, rfl⟩ := trodVars_none hV
  obtain ⟨a0, len0, cap0, rfl⟩ := okWide_slice Try.underlying62 (hval 0 62 v0 rfl rfl)
  have k0 := h0
  have lt0 : ∀ x ∈ p0, x.block < W.heap.size := by obtain ⟨m, hm⟩ := k0; exact DataW.trod_lt m _ _ _ hm
  have R0 := arg_rd (.sl (.st (.cons (.int .i64) (.cons (.int .i64) (.cons (.int .i64) (.cons .bool (.cons (.int .i64) (.cons (.int .i64) (.cons (.int .i64) (.cons (.st (.cons (.int .i64) (.cons (.sl (.int .u8)) .nilk))) (.cons (.st (.cons (.int .i64) (.cons (.int .i64) .nilk))) (.cons (.sl (.int .u8)) (.cons (.int .i64) (.cons (.int .i64) (.cons (.int .i64) (.cons (.int .i64) .nilk)))))))))))))))) ⟨by kernel_rfl, _, Try.underlying62, Nat.le_of_ble_eq_true (by kernel_rfl), by kernel_rfl, ⟨by kernel_rfl, _, Try.underlying56, ⟨_, _, rfl, rfl, by kernel_rfl, ⟨by kernel_rfl, Try.underlying3⟩, ⟨_, _, rfl, rfl, by kernel_rfl, ⟨by kernel_rfl, Try.underlying3⟩, ⟨_, _, rfl, rfl, by kernel_rfl, ⟨by kernel_rfl, Try.underlying3⟩, ⟨_, _, rfl, rfl, by kernel_rfl, ⟨by kernel_rfl, Try.underlying4⟩, ⟨_, _, rfl, rfl, by kernel_rfl, ⟨by kernel_rfl, Try.underlying3⟩, ⟨_, _, rfl, rfl, by kernel_rfl, ⟨by kernel_rfl, Try.underlying3⟩, ⟨_, _, rfl, rfl, by kernel_rfl, ⟨by kernel_rfl, Try.underlying3⟩, ⟨_, _, rfl, rfl, by kernel_rfl, ⟨by kernel_rfl, _, Try.underlying54, ⟨_, _, rfl, rfl, by kernel_rfl, ⟨by kernel_rfl, Try.underlying3⟩, ⟨_, _, rfl, rfl, by kernel_rfl, ⟨by kernel_rfl, _, Try.underlying23, Nat.le_of_ble_eq_true (by kernel_rfl), by kernel_rfl, ⟨by kernel_rfl, Try.underlying5⟩⟩, rfl⟩⟩⟩, ⟨_, _, rfl, rfl, by kernel_rfl, ⟨by kernel_rfl, _, Try.underlying40, ⟨_, _, rfl, rfl, by kernel_rfl, ⟨by kernel_rfl, Try.underlying3⟩, ⟨_, _, rfl, rfl, by kernel_rfl, ⟨by kernel_rfl, Try.underlying3⟩, rfl⟩⟩⟩, ⟨_, _, rfl, rfl, by kernel_rfl, ⟨by kernel_rfl, _, Try.underlying23, Nat.le_of_ble_eq_true (by kernel_rfl), by kernel_rfl, ⟨by kernel_rfl, Try.underlying5⟩⟩, ⟨_, _, rfl, rfl, by kernel_rfl, ⟨by kernel_rfl, Try.underlying26⟩, ⟨_, _, rfl, rfl, by kernel_rfl, ⟨by kernel_rfl, Try.underlying3⟩, ⟨_, _, rfl, rfl, by kernel_rfl, ⟨by kernel_rfl, Try.underlying3⟩, ⟨_, _, rfl, rfl, by kernel_rfl, ⟨by kernel_rfl, Try.underlying3⟩, rfl⟩⟩⟩⟩⟩⟩⟩⟩⟩⟩⟩⟩⟩⟩⟩⟩ h0 (arg_size hsz 0 rfl rfl)
  rw [show (.slice a0 len0 cap0 : Value).cells.toList = [.slice a0 len0 cap0] from rfl] at R0
  clear hA0 hval0
  refine (walk a0 len0 cap0 W R0).mono fun e W' ⟨he, bel⟩ => ?_
  subst he
  exact ⟨_, rfl, _, _, _, [], _, [], hW', trodAll_mk1 (shut_bool Try.underlying4 _), (trodAll_cons_mk (Below.trod laidOut (by kernel_rfl) (of_decide_eq_true (by kernel_rfl)) k0 bel lt0) trodAll_mk0), rfl, bel.frame _, fun h => by cases h⟩
theorem over : Rows.tokensStaleRow.holds Try.pinned (OpenSpec.ofChange Rows.tokensStaleSpec) :=
  OpenClaim.holds_of_wide 8 Try.f8 rfl rfl rfl rfl rfl rfl rfl ⟨rfl, rfl, rfl, rfl, rfl⟩ rfl rfl rfl rfl rfl (by kernel_rfl) Try.func8 (by kernel_rfl)
    (of_decide_eq_true (by kernel_rfl)) (by unfold Func.isWrapper; first | (rw [if_pos (by decide +kernel)]; kernel_rfl) | (rw [if_neg (by decide +kernel)]; exact ⟨rfl, rfl⟩))
    (fun os started H enc _ => lifted os started H enc)
theorem proved : Rows.TokensStaleSaid := over
#print axioms proved
end Go.Proofs.Ytplhgeecnnadhaa.tokensStale
