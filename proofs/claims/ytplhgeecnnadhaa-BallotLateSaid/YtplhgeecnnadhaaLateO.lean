/- BallotLate: more answers than are looked at; the arguments. -/
import Derived.Test.YtplhgeecnnadhaaLate
import Derived.Test.YtplhgeecnnadhaaRd
namespace Go.Proofs.Ytplhgeecnnadhaa
open Go.RowKit
variable {F G : Nat → Prop}
set_option maxRecDepth 100000 in
set_option maxHeartbeats 2000000 in
theorem late_long (a0 : Int) (g1 : Option Addr) (n1 c1 : Nat) (v : Value) (b1 b2 b3 b4 : Int) (b5 : Bool) (w : World) (hl : 60 < n1) :
    Calls Try.prog 6 #[.int .i64 a0, .slice g1 n1 c1, .agg #[.int .i64 b1, .int .i64 b2, .bool b5, .int .i64 b3, .int .i64 b4, v]] w (fun r w' => r = .returned (.bool true) ∧ Upd NoF w w') := by
  have hl' : (60 : Int) < (n1 : Int) := by omega
  go_enter Try.func6, Try.ntmps6
  go_wp2_with fail
  refine (speaks10 _).mono ?_
  rintro r w1 ⟨rfl, u1⟩
  go_wp2_with fail
  go_ret
  exact ⟨rfl, ((Upd.refl _ _).alloc _).then0 u1⟩
def ansKd : Kd := .st (.cons (.int .i64) (.cons (.int .i64) (.cons .bool (.cons (.st (.cons (.int .i64) (.cons (.int .i64) .nilk))) (.cons (.sl (.int .u8)) .nilk)))))
theorem ans_of_rd {w : World} {cs : List Value} (h : ansKd.Rd w cs) : ∃ x : AnsV, acell x cs ∧ Bytes w (fun b => b < w.heap.size) x.v x.l ∧ x.l.length ≤ reachBytes := by
  obtain ⟨_, _, rfl, _, ⟨n0, rfl, _⟩, _, _, rfl, _, ⟨n1, rfl, _⟩, _, _, rfl, _, ⟨b, rfl⟩, _, _, rfl, _, ⟨_, _, rfl, _, ⟨n2, rfl, _⟩, _, _, rfl, _, ⟨n3, rfl, _⟩, rfl⟩, _, _, rfl, _, hb, rfl⟩ := h
  obtain ⟨v, l, rfl, h1, h2⟩ := bytes_of_rd hb
  exact ⟨⟨n0, n1, b, n2, n3, v, l⟩, rfl, h1, h2⟩
theorem Slc.all {α : Type} {R : α → List Value → Prop} {sz : Nat} {w : World} {v : Value} {l : List α} (h : Slc R sz w F v l) {x : α} (hx : x ∈ l) : ∃ cs, R x cs := by
  obtain ⟨a, c, _, _, h⟩ := h
  have hne : l ≠ [] := by intro e; rw [e] at hx; cases hx
  obtain ⟨g, o, _, _, cur, ty, fr, _, he⟩ := h hne
  obtain ⟨i, hi, rfl⟩ := List.mem_iff_getElem.1 hx
  obtain ⟨cs, _, h2, _⟩ := he i hi
  exact ⟨cs, h2⟩
theorem late_any (a0 : Int) (a1 : Option Addr) (len1 cap1 : Nat) (a2 : Array Value) (w : World) (R1 : Kd.Rd w (.sl ansKd) [.slice a1 len1 cap1]) (R2 : ansKd.Rd w a2.toList) :
    Calls Try.prog 6 #[.int .i64 a0, .slice a1 len1 cap1, .agg a2] w (fun r w' => r = .returned (.bool true) ∧ Upd NoF w w') := by
  obtain ⟨y, hy, hyb, hyl⟩ := ans_of_rd R2
  obtain ⟨v1, la, hv, hs, hr⟩ := slc_of_rd (R := fun (x : AnsV) cs => acell x cs ∧ Bytes w (fun b => b < w.heap.size) x.v x.l ∧ x.l.length ≤ reachBytes) R1 (by decide) (fun cs _ h => ans_of_rd h)
  obtain rfl : a2 = #[.int .i64 y.ph, .int .i64 y.src, .bool y.ok, .int .i64 y.b1, .int .i64 y.b2, y.v] := by
    cases a2; simp [acell] at hy; simp [hy]
  obtain ⟨g, c, hv1, hc, _⟩ := id hs
  simp only [List.cons.injEq, and_true] at hv
  subst hv
  simp only [Value.slice.injEq] at hv1
  obtain ⟨rfl, rfl, rfl⟩ := hv1
  by_cases hl : la.length ≤ 60
  · exact late_walk a0 _ la y w (Slc.imp hs (fun _ _ _ => rfl) (fun _ h => h) (fun _ _ _ h => h.1)) (fun x hx => by
      obtain ⟨cs, _, h1, h2⟩ := hs.all hx
      exact ⟨h1, by unfold reachBytes at h2; omega⟩) hyb (by unfold reachBytes at hyl; omega) hl
  · exact late_long a0 _ _ _ _ _ _ _ _ _ w (by omega)
end Go.Proofs.Ytplhgeecnnadhaa
