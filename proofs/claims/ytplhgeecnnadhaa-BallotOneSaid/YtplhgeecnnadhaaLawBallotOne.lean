/- BallotOne returns true, and changes nothing that it was given, whatever acceptors and steps it is called with. Conditions: none. -/
import Derived.Test.YtplhgeecnnadhaaRows
import Derived.Test.YtplhgeecnnadhaaOneO
import Derived.Test.YtplhgeecnnadhaaRd
import Derived.WalkKit
import Derived.ProofKit
import Derived.OpenShut
import Derived.ShutString
import Derived.ChangeOld
import Derived.Carry
import Derived.Below
import Derived.SizedLaws
namespace Go.Proofs.Ytplhgeecnnadhaa.ballotOne
open Go.ChangeShapes Go.WideShapes Go.ChangeAt Go.RowKit
set_option linter.unusedVariables false
theorem own : ownKnob Try.prog.godebug = none := by kernel_rfl
theorem laidOut : laidOutB Try.prog = true := by kernel_rfl
set_option maxRecDepth 100000 in
theorem walk (a0 : Int) (a1 : Option Addr) (len1 cap1 : Nat) (w : World) (R0 : (Lit.int .i64 a0).wf = true) (R1 : Kd.Rd w (.sl (.st (.cons .bool (.cons .bool (.cons (.int .i64) (.cons (.int .i64) (.cons (.sl (.int .u8)) .nilk))))))) [.slice a1 len1 cap1]) :
    Calls Try.prog 9 #[.int .i64 a0, .slice a1 len1 cap1] w fun e w' => e = .returned (.bool true) ∧ Below w.heap.size w w' := by
  refine (one_any a0 a1 len1 cap1 w R1).mono ?_
  rintro e w' ⟨rfl, u⟩
  exact ⟨rfl, u.below⟩

set_option maxRecDepth 100000 in
theorem lifted (os : Os) (started : os.Started) (H : Type) (enc : TypeId × Value → H) :
    ReturnsInHanded {} Try.checked os 9 .any (Rows.ballotOneSpec.pre6 enc Try.prog Try.f9 Rows.ballotOneRow.domain false) (Rows.ballotOneSpec.post enc Try.prog Try.f9 false true false false) := by
  refine returnsInHanded_of_change_sized (C := Try.checked) own started (by kernel_rfl) Try.func9
    (ChangeSpec.witness6 (enc := enc) (C := Try.checked) false ⟨#[], #[.int .i64 0, .slice none 0 0], []⟩ 8 (by kernel_rfl) (by kernel_rfl) (by kernel_rfl) (by kernel_rfl)) ?_
  intro W base args ds gs before hval0 hW hcnd hsz0 _
  have hval : ∀ (j : Nat) t v, Try.f9.params[j]? = some t → args[j]? = some v → Value.okWide Try.prog W .any base t v := hval0
  have hsz : (DataW.weightsEach Try.prog (Try.f9.params.toList ++ Rows.ballotOneSpec.plain.varTypes Try.prog) (ds ++ gs)).all (· ≤ reachBytes) = true := hsz0
  have hW' := hW
  obtain ⟨p, q, hA0, hV, rfl, hfz, hnd⟩ := hW
  have hA : DataW.TrodAll enc Try.prog W 0 (fun _ => true) true Try.f9.params.toList args.toList ds p := hA0
  rw [Try.params9] at hA hval hsz
  obtain ⟨v0, vs0, d0, ds0, p0, q0, hargs, rfl, rfl, h0, r0⟩ := trodAll_cons hA
  obtain ⟨v1, vs1, d1, ds1, p1, q1, rfl, rfl, rfl, h1, r1⟩ := trodAll_cons r0
  obtain ⟨rfl, rfl, rfl⟩ := trodAll_nil r1
  obtain rfl : args = #[v0, v1] := by cases args; simp_all
  obtain ⟨rfl, rfl⟩ := trodVars_none hV
  obtain ⟨a0, rfl⟩ := okWide_int Try.underlying3 (hval 0 3 v0 rfl rfl)
  have k0 := h0
  have lt0 : ∀ x ∈ p0, x.block < W.heap.size := by obtain ⟨m, hm⟩ := k0; exact DataW.trod_lt m _ _ _ hm
  have R0 := arg_rd (.int .i64) ⟨by kernel_rfl, Try.underlying3⟩ h0 (arg_size hsz 0 rfl rfl)
  obtain ⟨b0, hb0, R0⟩ := R0
  simp [Value.cells] at hb0
  subst hb0
  obtain ⟨a1, len1, cap1, rfl⟩ := okWide_slice Try.underlying66 (hval 1 66 v1 rfl rfl)
  have k1 := h1
  have lt1 : ∀ x ∈ p1, x.block < W.heap.size := by obtain ⟨m, hm⟩ := k1; exact DataW.trod_lt m _ _ _ hm
  have R1 := arg_rd (.sl (.st (.cons .bool (.cons .bool (.cons (.int .i64) (.cons (.int .i64) (.cons (.sl (.int .u8)) .nilk))))))) ⟨by kernel_rfl, _, Try.underlying66, Nat.le_of_ble_eq_true (by kernel_rfl), by kernel_rfl, ⟨by kernel_rfl, _, Try.underlying74, ⟨_, _, rfl, rfl, by kernel_rfl, ⟨by kernel_rfl, Try.underlying4⟩, ⟨_, _, rfl, rfl, by kernel_rfl, ⟨by kernel_rfl, Try.underlying4⟩, ⟨_, _, rfl, rfl, by kernel_rfl, ⟨by kernel_rfl, Try.underlying3⟩, ⟨_, _, rfl, rfl, by kernel_rfl, ⟨by kernel_rfl, Try.underlying3⟩, ⟨_, _, rfl, rfl, by kernel_rfl, ⟨by kernel_rfl, _, Try.underlying23, Nat.le_of_ble_eq_true (by kernel_rfl), by kernel_rfl, ⟨by kernel_rfl, Try.underlying5⟩⟩, rfl⟩⟩⟩⟩⟩⟩⟩ h1 (arg_size hsz 1 rfl rfl)
  rw [show (.slice a1 len1 cap1 : Value).cells.toList = [.slice a1 len1 cap1] from rfl] at R1
  clear hA0 hval0
  refine (walk a0 a1 len1 cap1 W R0 R1).mono fun e W' ⟨he, bel⟩ => ?_
  subst he
  exact ⟨_, rfl, _, _, _, [], _, [], hW', trodAll_mk1 (shut_bool Try.underlying4 _), (trodAll_cons_mk (Below.trod laidOut (by kernel_rfl) (of_decide_eq_true (by kernel_rfl)) k0 bel lt0) (trodAll_cons_mk (Below.trod laidOut (by kernel_rfl) (of_decide_eq_true (by kernel_rfl)) k1 bel lt1) trodAll_mk0)), rfl, bel.frame _, fun h => by cases h⟩
theorem over : Rows.ballotOneRow.holds Try.pinned (OpenSpec.ofChange Rows.ballotOneSpec) :=
  OpenClaim.holds_of_wide 9 Try.f9 rfl rfl rfl rfl rfl rfl rfl ⟨rfl, rfl, rfl, rfl, rfl⟩ rfl rfl rfl rfl rfl (by kernel_rfl) Try.func9 (by kernel_rfl)
    (of_decide_eq_true (by kernel_rfl)) (by unfold Func.isWrapper; first | (rw [if_pos (by decide +kernel)]; kernel_rfl) | (rw [if_neg (by decide +kernel)]; exact ⟨rfl, rfl⟩))
    (fun os started H enc _ => lifted os started H enc)
theorem proved : Rows.BallotOneSaid := over
#print axioms proved
end Go.Proofs.Ytplhgeecnnadhaa.ballotOne
