/- DeviceLasts: the arguments. -/
import Derived.Test.YtplhgeecnnadhaaLasts
import Derived.Test.YtplhgeecnnadhaaRd
namespace Go.Proofs.Ytplhgeecnnadhaa
open Go.RowKit
/-- rows of rows of bytes that came in -/
theorem blks_of_rd {w : World} {cs : List Value} (h : (Kd.sl (.sl (.int .u8))).Rd w cs) : ∃ v ls, cs = [v] ∧ Blks w (fun b => b < w.heap.size) v ls ∧ ls.length ≤ reachBytes ∧ ∀ l ∈ ls, l.length ≤ reachBytes := by
  obtain ⟨v, ps, hcs, hs, hr⟩ := slc_of_rd (R := fun (p : Value × List UInt8) cs => cs = [p.1] ∧ Bytes w (fun b => b < w.heap.size) p.1 p.2 ∧ p.2.length ≤ reachBytes) h (by decide) (fun cs _ hc => by
    obtain ⟨v, l, h1, h2, h3⟩ := bytes_of_rd hc
    exact ⟨(v, l), h1, h2, h3⟩)
  have hall : ∀ p ∈ ps, Bytes w (fun b => b < w.heap.size) p.1 p.2 ∧ p.2.length ≤ reachBytes := fun p hp => by
    obtain ⟨a, c, _, _, he⟩ := hs
    have hne : ps ≠ [] := by intro e; rw [e] at hp; cases hp
    obtain ⟨g, o, _, _, cur, ty, fr, _, hel⟩ := he hne
    obtain ⟨i, hi, rfl⟩ := List.mem_iff_getElem.1 hp
    obtain ⟨cs, _, h2, _⟩ := hel i hi
    exact h2.2
  refine ⟨v, ps.map Prod.snd, hcs, ⟨ps, Slc.imp hs (fun _ _ _ => rfl) (fun _ h => h) (fun _ _ _ h => h.1), fun p hp => (hall p hp).1, rfl⟩, by simpa using hr, fun l hl => ?_⟩
  obtain ⟨p, hp, rfl⟩ := List.mem_map.1 hl
  exact (hall p hp).2
theorem lasts_any (a0 : Option Addr) (len0 cap0 : Nat) (a1 : Option Addr) (len1 cap1 : Nat) (a2 : Option Addr) (len2 cap2 : Nat) (w : World) (R0 : Kd.Rd w (.sl (.sl (.int .u8))) [.slice a0 len0 cap0]) (R1 : Kd.Rd w (.sl (.sl (.int .u8))) [.slice a1 len1 cap1]) (R2 : Kd.Rd w (.sl (.int .u8)) [.slice a2 len2 cap2]) :
    Calls Try.prog 3 #[.slice a0 len0 cap0, .slice a1 len1 cap1, .slice a2 len2 cap2] w (fun r w' => r = .returned (.bool true) ∧ Upd NoF w w') := by
  obtain ⟨v0, l0, e0, b0, _⟩ := blks_of_rd R0
  obtain ⟨v1, l1, e1, b1, _⟩ := blks_of_rd R1
  obtain ⟨v2, l2, e2, b2, _⟩ := bytes_of_rd R2
  simp only [List.cons.injEq, and_true] at e0 e1 e2
  subst e0 e1 e2
  exact lasts_walk _ _ _ l0 l1 l2 w b0 b1 b2
end Go.Proofs.Ytplhgeecnnadhaa
