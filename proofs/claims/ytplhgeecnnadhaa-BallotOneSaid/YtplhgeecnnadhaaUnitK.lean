/- The unit and its device, as one thing; a page written. -/
import Derived.Test.YtplhgeecnnadhaaUnitJ
namespace Go.Proofs.Ytplhgeecnnadhaa
open Go.RowKit
variable {F G D : Nat → Prop} {w w1 w2 : World} {u d p room : Nat} {s : US} {ds : DS} {ps : List UPage}
def devOf (room : Nat) (ps : List UPage) : DS := ⟨room, ps.map (fun p => ((1 : Int), p.enc)), ps.length⟩
structure UDAt (w : World) (F : Nat → Prop) (u d room : Nat) (ps : List UPage) : Prop where
  mk ::
  lt : ∀ k, F k → k < w.heap.size
  ok : ∀ p ∈ ps, p.ok
  rep : ∃ Fu Fd, UnitAt w Fu u d (replay ps) ∧ DevAt w Fd d (devOf room ps) ∧ (∀ k, Fu k → ¬ Fd k) ∧ ∀ k, Fu k ∨ Fd k → F k
def UD2 (F : Nat → Prop) (u d room : Nat) (ps : List UPage) (w w' : World) : Prop := ∃ F', UDAt w' F' u d room ps ∧ Upd F w w' ∧ ∀ k, F' k → F k ∨ w.heap.size ≤ k
theorem UDAt.upd (h : UDAt w F u d room ps) (hu : Upd G w w1) (hn : ∀ k, F k → ¬ G k) : UDAt w1 F u d room ps := by
  obtain ⟨h1, h2, Fu, Fd, a, b, c, e⟩ := h
  exact ⟨fun k hk => Nat.lt_of_lt_of_le (h1 k hk) hu.size, h2, Fu, Fd, a.upd hu (fun k hk => hn k (e k (.inl hk))), b.upd hu (fun k hk => hn k (e k (.inr hk))), c, e⟩
theorem UDAt.mono (h : UDAt w F u d room ps) (hG : ∀ k, F k → G k) (hlt : ∀ k, G k → k < w.heap.size) : UDAt w G u d room ps := by
  obtain ⟨h1, h2, Fu, Fd, a, b, c, e⟩ := h
  exact ⟨hlt, h2, Fu, Fd, a, b, c, fun k hk => hG k (e k hk)⟩
theorem UDAt.bound (h : UDAt w F u d room ps) : ps.length ≤ room ∧ 1 ≤ room ∧ room ≤ 65536 := by
  obtain ⟨h1, h2, Fu, Fd, a, b, c, e⟩ := h
  have := b.ok
  unfold DS.ok devOf at this
  simp only [List.length_map] at this
  omega
theorem UDAt.good (h : UDAt w F u d room ps) : (replay ps).good := replay_good ps us0 good0 h.ok
theorem UD2.mono {F' : Nat → Prop} (h : UD2 F u d room ps w w1) (hF : ∀ k, F k → F' k) : UD2 F' u d room ps w w1 := let ⟨G, a, b, c⟩ := h; ⟨G, a, b.mono (fun k _ h => hF k h), fun k hk => (c k hk).elim (fun h => .inl (hF k h)) .inr⟩
theorem UD2.at0 (hu : Upd NoF w w1) (h : UD2 F u d room ps w1 w2) : UD2 F u d room ps w w2 := by
  obtain ⟨G, a, b, c⟩ := h
  have := hu.size
  exact ⟨G, a, (hu.mono (fun _ _ h => h.elim)).andThen b, fun k hk => (c k hk).elim .inl (fun h => .inr (by omega))⟩
theorem UD2.then0 (h : UD2 F u d room ps w w1) (hu : Upd NoF w1 w2) : UD2 F u d room ps w w2 := by
  obtain ⟨G, a, b, c⟩ := h
  exact ⟨G, a.upd hu (fun _ _ h => h), b.then0 hu, c⟩
theorem UD2.self (h : UDAt w F u d room ps) (hu : Upd NoF w w1) : UD2 F u d room ps w w1 := ⟨F, h.upd hu (fun _ _ h => h), hu.mono (fun _ _ h => h.elim), fun _ hk => .inl hk⟩
def uput (room : Nat) (ps : List UPage) (p : UPage) : List UPage := if ps.length < room then ps ++ [p] else ps
def ucode (room : Nat) (ps : List UPage) : Int := if ps.length < room then 0 else 4
namespace UPage
def kind : UPage → Nat
  | dat _ _ => 1
  | jnk _ => 2
  | trm _ => 3
  | sea _ => 4
  | pro _ _ _ => 5
  | acc _ _ _ _ => 6
def nums : UPage → List Nat
  | dat n _ => [n]
  | jnk n => [n]
  | trm n => [n]
  | sea n => [n]
  | pro n r q => [n, r, q]
  | acc n r q _ => [n, r, q]
def rest : UPage → Option (List UInt8)
  | dat _ b => some b
  | acc _ _ _ b => some b
  | _ => none
theorem enc_plain (p : UPage) (h : p.rest = none) : p.enc = UInt8.ofNat p.kind :: numBytes p.nums := by
  cases p <;> first | (simp [rest] at h; done) | (simp [enc, kind, nums, numBytes])
theorem enc_more (p : UPage) (b : List UInt8) (h : p.rest = some b) : p.enc = UInt8.ofNat p.kind :: numBytes p.nums ++ (beBytes b.length 4 ++ b) := by
  cases p <;> first | (simp [rest] at h; done) | (simp [rest] at h; subst h; simp [enc, kind, nums, numBytes])
theorem small (p : UPage) (h : p.ok) : p.kind < 256 ∧ p.nums.length ≤ 10 ∧ (∀ n ∈ p.nums, n ≤ 4294967296) ∧ (∀ b, p.rest = some b → b.length ≤ 70000) := by
  cases p <;> (simp [ok, kind, nums, rest] at h ⊢) <;> omega
end UPage
theorem ud_of_write (q : UPage) (hq : q.ok) {Fu Fd : Nat → Prop} {r : Ending} {w' : World} (hok : ∀ p ∈ ps, p.ok) (hF : ∀ k, Fu k ∨ Fd k → F k) (hroom : ps.length ≤ room)
    (h : WriteQ Fu Fd u d (replay ps) ((replay ps).app q) (devOf room ps) q.enc w r w') : r = .returned (.int .i64 (ucode room ps)) ∧ UD2 F u d room (uput room ps q) w w' := by
  obtain ⟨hr, F', D', hu, hd, hup, f1, f2, f3⟩ := h
  have hcode : (devOf room ps).code = ucode room ps := by
    unfold DS.code DS.free devOf ucode
    simp only [List.length_map]
    by_cases h : ps.length < room
    · rw [if_pos h, if_neg (by omega)]
    · rw [if_neg h, if_pos (by omega)]
  rw [hcode] at hr hu hd
  refine ⟨hr, fun k => F' k ∨ D' k, ⟨?_, ?_, F', D', ?_, ?_, f3, fun k hk => hk⟩, hup.mono (fun k _ h => h.elim (fun h => hF k (.inl h.1)) (fun h => hF k (.inr h))), fun k hk => ?_⟩
  · intro k hk
    rcases hk with h | h
    · split at hu <;> exact hu.lt k h
    · split at hd <;> exact hd.lt k h
  · intro p hp
    unfold uput at hp
    split at hp
    · rcases List.mem_append.1 hp with h | h
      · exact hok p h
      · simp at h; subst h; exact hq
    · exact hok p hp
  · unfold uput ucode at *
    by_cases h : ps.length < room
    · rw [if_pos h]; rw [if_pos h, if_pos rfl] at hu; rw [replay_snoc]; exact hu
    · rw [if_neg h]; rw [if_neg h, if_neg (by decide)] at hu; exact hu
  · unfold uput ucode at *
    by_cases h : ps.length < room
    · rw [if_pos h]; rw [if_pos h, if_pos rfl] at hd
      have e : (devOf room ps).wrote q.enc = devOf room (ps ++ [q]) := by
        have hf : ¬ (devOf room ps).free = 0 := by unfold DS.free devOf; simp only [List.length_map]; omega
        unfold DS.wrote DS.append
        rw [if_neg hf]
        simp [devOf, DS.push]
      rw [← e]; exact hd
    · rw [if_neg h]; rw [if_neg h, if_neg (by decide)] at hd; exact hd
  · rcases hk with h | h
    · rcases f1 k h with h | h
      · exact .inl (hF k (.inl h))
      · exact .inr h
    · rcases f2 k h with h | h
      · exact .inl (hF k (.inr h))
      · exact .inr h
theorem ud_write_plain (q : UPage) (hq : q.ok) (hr : q.rest = none) (rv nv : Value) (w : World) (kk : Int) (hkk : kk = q.kind) (h : UDAt w F u d room ps) (hn : Ints w G nv (q.nums.map Int.ofNat)) :
    Calls Try.prog 87 #[.pointer (some ⟨u, 0, none⟩), .int .u8 kk, rv, .bool false, nv] w (fun r w' => r = .returned (.int .i64 (ucode room ps)) ∧ UD2 F u d room (uput room ps q) w w') := by
  subst hkk
  have hbd := h.bound
  obtain ⟨_, h2, Fu, Fd, a, b, c, e⟩ := h
  obtain ⟨s1, s2, s3, _⟩ := q.small hq
  have := u_write_plain q.kind rv nv q.nums ((replay ps).app q) w a b c s1 hn s2 s3 (fun F' G' v w' hu hv => page_any q v w' hu (by rw [q.enc_plain hr]; exact hv) hq)
  rw [← q.enc_plain hr] at this
  exact this.mono (fun r w' hw => ud_of_write q hq h2 e hbd.1 hw)
theorem ud_write_more {H : Nat → Prop} (q : UPage) (hq : q.ok) (bs : List UInt8) (hr : q.rest = some bs) (rv nv : Value) (w : World) (kk : Int) (hkk : kk = q.kind) (h : UDAt w F u d room ps) (hrv : Bytes w H rv bs) (hn : Ints w G nv (q.nums.map Int.ofNat)) :
    Calls Try.prog 87 #[.pointer (some ⟨u, 0, none⟩), .int .u8 kk, rv, .bool true, nv] w (fun r w' => r = .returned (.int .i64 (ucode room ps)) ∧ UD2 F u d room (uput room ps q) w w') := by
  subst hkk
  have hbd := h.bound
  obtain ⟨_, h2, Fu, Fd, a, b, c, e⟩ := h
  obtain ⟨s1, s2, s3, s4⟩ := q.small hq
  have := u_write_more q.kind rv nv bs q.nums ((replay ps).app q) w a b c s1 hn hrv (s4 bs hr) s2 s3 (fun F' G' v w' hu hv => page_any q v w' hu (by rw [q.enc_more bs hr]; exact hv) hq)
  rw [← q.enc_more bs hr] at this
  exact this.mono (fun r w' hw => ud_of_write q hq h2 e hbd.1 hw)
end Go.Proofs.Ytplhgeecnnadhaa
