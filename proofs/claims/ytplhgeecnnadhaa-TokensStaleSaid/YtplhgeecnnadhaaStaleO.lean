/- TokensStale: the arguments. -/
import Derived.Test.YtplhgeecnnadhaaStale
namespace Go.Proofs.Ytplhgeecnnadhaa
open Go.RowKit
theorem stale_any (a0 : Option Addr) (len0 cap0 : Nat) (w : World) (R0 : Kd.Rd w (.sl msgKd) [.slice a0 len0 cap0]) :
    Calls Try.prog 8 #[.slice a0 len0 cap0] w (fun r w' => r = .returned (.bool true) ∧ Upd NoF w w') := by
  obtain ⟨v, l, hv, hs, hr⟩ := slc_of_rd (R := mcell) R0 (by decide) (fun cs _ h => msg_of_rd h)
  simp only [List.cons.injEq, and_true] at hv
  subst hv
  exact stale_walk _ l w hs
end Go.Proofs.Ytplhgeecnnadhaa
