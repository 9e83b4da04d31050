/- TokensStale: the plain law of the sequencer. -/
import Derived.Test.YtplhgeecnnadhaaTokO
import Derived.Test.YtplhgeecnnadhaaGKey
import Derived.Test.YtplhgeecnnadhaaRd
namespace Go.Proofs.Ytplhgeecnnadhaa
open Go.RowKit
def Msg.list (m : Msg) : List Value := [.int .i64 m.src, .int .i64 m.dst, .int .i64 m.num, .bool m.reply, .int .i64 m.kind, .int .i64 m.epoch, .int .i64 m.at_, .int .i64 m.what, m.data, .int .i64 m.round, .int .i64 m.who, m.value, .int .i64 m.err, .int .i64 m.tail, .int .i64 m.low, .int .i64 m.back]
def mcell (m : Msg) (cs : List Value) : Prop := cs = m.list ∧ IsSlice m.data ∧ IsSlice m.value
def msgKd : Kd := .st (.cons (.int .i64) (.cons (.int .i64) (.cons (.int .i64) (.cons .bool (.cons (.int .i64) (.cons (.int .i64) (.cons (.int .i64) (.cons (.st (.cons (.int .i64) (.cons (.sl (.int .u8)) .nilk))) (.cons (.st (.cons (.int .i64) (.cons (.int .i64) .nilk))) (.cons (.sl (.int .u8)) (.cons (.int .i64) (.cons (.int .i64) (.cons (.int .i64) (.cons (.int .i64) .nilk))))))))))))))
theorem isslice_of_rd {w : World} {e : Kd} {cs : List Value} (h : (Kd.sl e).Rd w cs) : ∃ v, cs = [v] ∧ IsSlice v := by
  rcases h with h | ⟨x, len, cap, h, _⟩
  · exact ⟨_, h, _, _, _, rfl⟩
  · exact ⟨_, h, _, _, _, rfl⟩
theorem msg_of_rd {w : World} {cs : List Value} (h : msgKd.Rd w cs) : ∃ m : Msg, mcell m cs := by
  obtain ⟨_, _, rfl, _, ⟨n0, rfl, _⟩, _, _, rfl, _, ⟨n1, rfl, _⟩, _, _, rfl, _, ⟨n2, rfl, _⟩, _, _, rfl, _, ⟨b, rfl⟩, _, _, rfl, _, ⟨n3, rfl, _⟩, _, _, rfl, _, ⟨n4, rfl, _⟩, _, _, rfl, _, ⟨n5, rfl, _⟩, h⟩ := h
  obtain ⟨_, _, rfl, _, ⟨_, _, rfl, _, ⟨n6, rfl, _⟩, _, _, rfl, _, hd, rfl⟩, h⟩ := h
  obtain ⟨_, _, rfl, _, ⟨_, _, rfl, _, ⟨n7, rfl, _⟩, _, _, rfl, _, ⟨n8, rfl, _⟩, rfl⟩, _, _, rfl, _, hv, h⟩ := h
  obtain ⟨_, _, rfl, _, ⟨n9, rfl, _⟩, _, _, rfl, _, ⟨n10, rfl, _⟩, _, _, rfl, _, ⟨n11, rfl, _⟩, _, _, rfl, _, ⟨n12, rfl, _⟩, rfl⟩ := h
  obtain ⟨d, rfl, sd⟩ := isslice_of_rd hd
  obtain ⟨v, rfl, sv⟩ := isslice_of_rd hv
  exact ⟨⟨n0, n1, n2, b, n3, n4, n5, n6, d, n7, n8, v, n9, n10, n11, n12⟩, rfl, sd, sv⟩
/-- the last ones are below the next -/
def TS.inv (s : TS) : Prop := s.ls.length = 8 ∧ 0 ≤ s.n ∧ ∀ k, k < 8 → s.ls.getD k 0 < s.n
theorem ts0_inv : ts0.inv := ⟨rfl, by decide, fun k hk => by
  have : k = 0 ∨ k = 1 ∨ k = 2 ∨ k = 3 ∨ k = 4 ∨ k = 5 ∨ k = 6 ∨ k = 7 := by omega
  rcases this with h | h | h | h | h | h | h | h <;> subst h <;> decide⟩
theorem start_law {s : TS} (h : s.inv) (e a : Int) : (s.start e a).1.inv ∧ s.e ≤ (s.start e a).1.e ∧ ((s.start e a).1.e = s.e → s.n ≤ (s.start e a).1.n) ∧ ((s.start e a).2 ≠ 0 → (s.start e a).1 = s) := by
  obtain ⟨h1, h2, h3⟩ := h
  unfold TS.start
  split
  · exact ⟨⟨h1, h2, h3⟩, by simp, by simp, by simp⟩
  split
  · exact ⟨⟨h1, h2, h3⟩, by simp, by simp, by simp⟩
  split
  · refine ⟨⟨rfl, by simp only; omega, fun k hk => ?_⟩, by simp only; omega, by simp only; omega, by simp⟩
    have hk' : k = 0 ∨ k = 1 ∨ k = 2 ∨ k = 3 ∨ k = 4 ∨ k = 5 ∨ k = 6 ∨ k = 7 := by omega
    rcases hk' with h | h | h | h | h | h | h | h <;> subst h <;> simp <;> omega
  · refine ⟨⟨h1, by simp only; omega, fun k hk => ?_⟩, by simp, by simp only; omega, by simp⟩
    have := h3 k hk
    simp only; omega
theorem token_law {s : TS} (h : s.inv) (e a : Int) : (s.token e a).1.inv ∧ (s.token e a).1.e = s.e ∧ s.n ≤ (s.token e a).1.n ∧ ((s.token e a).2.2.2 ≠ 0 → (s.token e a).1 = s) ∧
    ((s.token e a).2.2.2 = 0 → (s.token e a).2.1 = s.n ∧ (s.token e a).2.2.1 < s.n ∧ s.n < (s.token e a).1.n) := by
  obtain ⟨h1, h2, h3⟩ := h
  unfold TS.token
  split
  · exact ⟨⟨h1, h2, h3⟩, by simp⟩
  split
  · exact ⟨⟨h1, h2, h3⟩, by simp⟩
  split
  · exact ⟨⟨h1, h2, h3⟩, by simp⟩
  · rename_i g1 g2 g3
    obtain ⟨k, rfl⟩ := Int.eq_ofNat_of_zero_le (by omega : 0 ≤ a)
    have hk : k < 8 := by omega
    refine ⟨⟨by simpa using h1, by simp only; omega, fun j hj => ?_⟩, rfl, by simp only; omega, by simp, fun _ => ⟨rfl, by simpa using h3 k hk, by simp only; omega⟩⟩
    simp only [Int.toNat_natCast]
    have := h3 j hj
    by_cases hjk : j = k
    · subst hjk
      simp only [List.getD_eq_getElem?_getD]
      rw [List.getElem?_set_self (by omega)]
      simp; omega
    · simp only [List.getD_eq_getElem?_getD] at this ⊢
      rw [List.getElem?_set_ne (by omega)]; omega
/-- what the law asks of an answer -/
structure StaleLaw (s : TS) (m : Msg) (s' : TS) (r : Option Msg) : Prop where
  inv : s'.inv
  epoch : s.e ≤ s'.e
  next : s'.e = s.e → s.n ≤ s'.n
  quiet : (∀ x, r = some x → x.err ≠ 0) → s'.e = s.e ∧ s'.n = s.n
  gave : ∀ x, r = some x → x.err = 0 → m.kind = 8 → s'.e = s.e ∧ x.tail = s.n ∧ x.back < x.tail ∧ s.n < s'.n
  slices : ∀ x, r = some x → x.data = .slice none 0 0 ∧ x.value = .slice none 0 0
theorem stale_law {s : TS} (h : s.inv) (m : Msg) : StaleLaw s m (s.answer m).1 (s.answer m).2 := by
  unfold TS.answer
  split
  · exact ⟨h, by simp, by simp, by simp, by simp, by simp⟩
  split
  · rename_i hk
    obtain ⟨h1, h2, h3, h4⟩ := start_law h m.epoch m.at_
    refine ⟨h1, h2, h3, fun hx => ?_, fun x _ _ hk8 => by omega, fun x hx => ?_⟩
    · have := h4 (by have := hx _ rfl; simpa [Msg.answer] using this)
      simp only; rw [this]; simp
    · simp only [Option.some.injEq] at hx; subst hx; exact ⟨rfl, rfl⟩
  split
  · obtain ⟨h1, h2, h3, h4, h5⟩ := token_law h m.epoch m.at_
    refine ⟨h1, by simp only; omega, fun _ => h3, fun hx => ?_, fun x hx he _ => ?_, fun x hx => ?_⟩
    · have := h4 (by have := hx _ rfl; simpa [Msg.answer] using this)
      simp only; rw [this]; simp
    · simp only [Option.some.injEq] at hx
      subst hx
      simp only [Msg.answer] at he
      obtain ⟨g1, g2, g3⟩ := h5 he
      exact ⟨h2, g1, by simp only; omega, g3⟩
    · simp only [Option.some.injEq] at hx; subst hx; exact ⟨rfl, rfl⟩
  · exact ⟨h, by simp, by simp, by simp, by simp, by simp⟩
/-- what was given out -/
def Given (kv : List (IPair × Value)) (s : TS) : Prop := ∀ k ∈ kv.map Prod.fst, k.fst < s.e ∨ (k.fst = s.e ∧ k.snd < s.n)
theorem gGet_none' {K : Type} [DecidableEq K] {kv : List (K × Value)} {k : K} : gGet kv k = none ↔ k ∉ kv.map Prod.fst := gGet_none
end Go.Proofs.Ytplhgeecnnadhaa
