/- BallotOne: the arguments. -/
import Derived.Test.YtplhgeecnnadhaaOneA
import Derived.Test.YtplhgeecnnadhaaRd
namespace Go.Proofs.Ytplhgeecnnadhaa
open Go.RowKit
theorem Slc.every {α : Type} {R : α → List Value → Prop} {sz : Nat} {w : World} {F : Nat → Prop} {v : Value} {l : List α} (h : Slc R sz w F v l) {x : α} (hx : x ∈ l) : ∃ cs, R x cs := by
  obtain ⟨a, c, _, _, h⟩ := h
  have hne : l ≠ [] := by intro e; rw [e] at hx; cases hx
  obtain ⟨g, o, _, _, cur, ty, fr, _, he⟩ := h hne
  obtain ⟨i, hi, rfl⟩ := List.mem_iff_getElem.1 hx
  obtain ⟨cs, _, h2, _⟩ := he i hi
  exact ⟨cs, h2⟩
def stepKd : Kd := .st (.cons .bool (.cons .bool (.cons (.int .i64) (.cons (.int .i64) (.cons (.sl (.int .u8)) .nilk)))))
theorem step_of_rd {w : World} {cs : List Value} (h : stepKd.Rd w cs) : ∃ x : StepV, scell x cs ∧ Bytes w (fun b => b < w.heap.size) x.v x.l ∧ x.l.length ≤ reachBytes := by
  obtain ⟨_, _, rfl, _, ⟨b0, rfl⟩, _, _, rfl, _, ⟨b1, rfl⟩, _, _, rfl, _, ⟨n2, rfl, _⟩, _, _, rfl, _, ⟨n3, rfl, _⟩, _, _, rfl, _, hb, rfl⟩ := h
  obtain ⟨v, l, rfl, h1, h2⟩ := bytes_of_rd hb
  exact ⟨⟨b0, b1, n2, n3, v, l⟩, rfl, h1, h2⟩
theorem steps_of_rd {w : World} {a1 : Option Addr} {len1 cap1 : Nat} (R1 : Kd.Rd w (.sl stepKd) [.slice a1 len1 cap1]) : ∃ la : List StepV, Slc scell 5 w (fun b => b < w.heap.size) (.slice a1 len1 cap1) la ∧ ∀ x ∈ la, Bytes w (fun b => b < w.heap.size) x.v x.l ∧ x.l.length ≤ 140737488355328 := by
  obtain ⟨v1, la, hv, hs, hr⟩ := slc_of_rd (R := fun (x : StepV) cs => scell x cs ∧ Bytes w (fun b => b < w.heap.size) x.v x.l ∧ x.l.length ≤ reachBytes) R1 (by decide) (fun cs _ h => step_of_rd h)
  simp only [List.cons.injEq, and_true] at hv
  subst hv
  exact ⟨la, Slc.imp hs (fun _ _ _ => rfl) (fun _ h => h) (fun _ _ _ h => h.1), fun x hx => by
    obtain ⟨cs, _, h1, h2⟩ := hs.every hx
    exact ⟨h1, by unfold reachBytes at h2; omega⟩⟩
theorem one_any (a0 : Int) (a1 : Option Addr) (len1 cap1 : Nat) (w : World) (R1 : Kd.Rd w (.sl stepKd) [.slice a1 len1 cap1]) :
    Calls Try.prog 9 #[.int .i64 a0, .slice a1 len1 cap1] w (fun r w' => r = .returned (.bool true) ∧ Upd NoF w w') := by
  obtain ⟨la, h1, h2⟩ := steps_of_rd R1
  exact one_walk a0 _ la w h1 h2
end Go.Proofs.Ytplhgeecnnadhaa
