/- DeviceFills: the arguments. -/
import Derived.Test.YtplhgeecnnadhaaFills
import Derived.Test.YtplhgeecnnadhaaRd
namespace Go.Proofs.Ytplhgeecnnadhaa
open Go.RowKit
theorem u8_of_wf {n : Int} (h : (Lit.int .u8 n).wf = true) : ∃ x : UInt8, n = (x.toNat : Int) := by
  have hr2 : 0 ≤ n ∧ n ≤ 255 := by simpa [Lit.wf, IntKind.min, IntKind.max, IntKind.bits, IntKind.signed] using h
  refine ⟨UInt8.ofNat n.toNat, ?_⟩
  simp
  omega
theorem fills_any (a0 : Int) (a1 : Option Addr) (len1 cap1 : Nat) (a2 : Int) (w : World) (R1 : Kd.Rd w (.sl (.int .u8)) [.slice a1 len1 cap1]) (R2 : (Lit.int .u8 a2).wf = true) :
    Calls Try.prog 4 #[.int .i64 a0, .slice a1 len1 cap1, .int .u8 a2] w (fun r w' => r = .returned (.bool true) ∧ Upd NoF w w') := by
  obtain ⟨x, rfl⟩ := u8_of_wf R2
  obtain ⟨v1, l1, e1, b1, _⟩ := bytes_of_rd R1
  simp only [List.cons.injEq, and_true] at e1
  subst e1
  exact fills_walk a0 _ l1 x w b1
end Go.Proofs.Ytplhgeecnnadhaa
