/- The device, for a caller. -/
import Derived.Test.YtplhgeecnnadhaaDevC
import Derived.Test.YtplhgeecnnadhaaDevE
namespace Go.Proofs.Ytplhgeecnnadhaa
open Go.RowKit
variable {F G : Nat → Prop} {w w1 : World} {d : Nat} {s : DS} {B : Nat} {X : Nat → Prop}
/-- a device among other things: its blocks are none of X's, nor any below B -/
def DL (B : Nat) (X : Nat → Prop) (d : Nat) (s : DS) (w : World) : Prop := ∃ F, DevAt w F d s ∧ ∀ k, F k → B ≤ k ∧ ¬ X k
/-- what a call on it may turn -/
def DU (B : Nat) (X : Nat → Prop) : Nat → Prop := fun k => B ≤ k ∧ ¬ X k
theorem DL.upd (h : DL B X d s w) {Y : Nat → Prop} (hu : Upd Y w w1) (hY : ∀ k, k < w.heap.size → Y k → X k ∨ k < B) : DL B X d s w1 := by
  obtain ⟨F, hp, hf⟩ := h
  exact ⟨F, hp.upd hu (fun k hk hy => by have := hf k hk; rcases hY k (hp.lt k hk) hy with h | h; exact this.2 h; omega), hf⟩
theorem DL.ok (h : DL B X d s w) : s.ok := let ⟨_, h, _⟩ := h; h.ok
theorem DL.mono (h : DL B X d s w) {Y : Nat → Prop} (hY : ∀ k, k < w.heap.size → Y k → X k ∨ k < B) : DL B Y d s w := by
  obtain ⟨F, hp, hf⟩ := h
  exact ⟨F, hp, fun k hk => ⟨(hf k hk).1, fun hy => by rcases hY k (hp.lt k hk) hy with h | h; exact (hf k hk).2 h; have := (hf k hk).1; omega⟩⟩
theorem DL.of2 {s' : DS} {w' : World} (hF : ∀ k, F k → B ≤ k ∧ ¬ X k) (hX : ∀ k, X k → k < w.heap.size) (hB : B ≤ w.heap.size) (h : Dev2 F d s' w w') : DL B X d s' w' ∧ Upd (DU B X) w w' := by
  obtain ⟨F', hp, hu, hf⟩ := h
  exact ⟨⟨F', hp, fun k hk => (hf k hk).elim (hF k) (fun h => ⟨by omega, fun hx => by have := hX k hx; omega⟩)⟩, hu.mono (fun i _ h => hF i h)⟩
theorem dl_new (n : Nat) (w : World) (h1 : 1 ≤ n) (h2 : n ≤ 65536) (hX : ∀ k, X k → k < w.heap.size) (hB : B ≤ w.heap.size) :
    Calls Try.prog 20 #[.int .i64 n] w (fun r w' => ∃ d, r = .returned (.tuple #[.pointer (some ⟨d, 0, none⟩), .int .i64 0]) ∧ DL B X d (ds0 n) w' ∧ Upd NoF w w') :=
  (dev_new n w h1 h2).mono (fun r w' ⟨d, hr, hd, hp, hu⟩ => ⟨d, hr, ⟨_, hp, fun k hk => by simp only [OneF] at hk; subst hk; subst hd; exact ⟨hB, fun hx => by have := hX _ hx; omega⟩⟩, hu⟩)
theorem dl_free (w : World) (h : DL B X d s w) : Calls Try.prog 26 #[.pointer (some ⟨d, 0, none⟩)] w (fun r w' => r = .returned (.int .i64 s.free) ∧ ∃ n, w' = w.drewN n) := let ⟨_, h, _⟩ := h; dev_free w h
def DS.append (s : DS) (b : List UInt8) : DS := if s.free = 0 then s else s.push b
def DS.code (s : DS) : Int := if s.free = 0 then 4 else 0
theorem dl_append (v : Value) (b : List UInt8) (w : World) (h : DL B X d s w) (hX : ∀ k, X k → k < w.heap.size) (hB : B ≤ w.heap.size) (hv : Bytes w G v b) (hl : b.length ≤ 140737488355328) :
    Calls Try.prog 21 #[.pointer (some ⟨d, 0, none⟩), v] w (fun r w' => r = .returned (.int .i64 s.code) ∧ DL B X d (s.append b) w' ∧ Upd (DU B X) w w') := by
  obtain ⟨F, hp, hf⟩ := h
  unfold DS.append DS.code
  by_cases h0 : s.free = 0
  · rw [if_pos h0, if_pos h0]
    refine (dev_full v w hp h0).mono ?_
    rintro r w' ⟨hr, n, rfl⟩
    exact ⟨hr, ⟨F, hp.upd ((Upd.refl NoF w).drewN n) (fun _ _ h => h), hf⟩, (Upd.refl _ w).drewN n⟩
  · rw [if_neg h0, if_neg h0]
    exact (dev_append v b w hp h0 hv hl).mono (fun r w' ⟨hr, h2⟩ => ⟨hr, DL.of2 hf hX hB h2⟩)
theorem dl_sync (w : World) (h : DL B X d s w) : Calls Try.prog 22 #[.pointer (some ⟨d, 0, none⟩)] w (fun r w' => r = .returned (.tuple #[]) ∧ DL B X d { s with lasts := s.pages.length } w' ∧ Upd (DU B X) w w') := by
  obtain ⟨F, hp, hf⟩ := h
  exact (dev_sync w hp).mono (fun r w' ⟨hr, h2, hu⟩ => ⟨hr, ⟨F, h2, hf⟩, hu.mono (fun i _ h => hf i h)⟩)
theorem dl_wipe (w : World) (h : DL B X d s w) : Calls Try.prog 27 #[.pointer (some ⟨d, 0, none⟩)] w (fun r w' => r = .returned (.tuple #[]) ∧ DL B X d { s with pages := [], lasts := 0 } w' ∧ Upd (DU B X) w w') := by
  obtain ⟨F, hp, hf⟩ := h
  exact (dev_wipe w hp).mono (fun r w' ⟨hr, h2, hu⟩ => ⟨hr, ⟨F, h2, hf⟩, hu.mono (fun i _ h => hf i h)⟩)
theorem dl_crash (v : Value) (picks : List UInt8) (w : World) (h : DL B X d s w) (hv : Bytes w (fun k => X k ∨ k < B) v picks) (hl : picks.length ≤ 140737488355328) :
    Calls Try.prog 23 #[.pointer (some ⟨d, 0, none⟩), v] w (fun r w' => r = .returned (.tuple #[]) ∧ DL B X d (s.crash picks) w' ∧ Upd (DU B X) w w') := by
  obtain ⟨F, hp, hf⟩ := h
  exact (dev_crash v picks w hp hv (fun k hk hF => by have := hf k hF; rcases hk with h | h; exact this.2 h; omega) hl).mono (fun r w' ⟨hr, h2, hu⟩ => ⟨hr, ⟨F, h2, hf⟩, hu.mono (fun i _ h => hf i h)⟩)
theorem dl_pages (w : World) (h : DL B X d s w) : Calls Try.prog 24 #[.pointer (some ⟨d, 0, none⟩)] w (fun r w' => ∃ v, r = .returned v ∧ Blks w' (fun q => w.heap.size ≤ q) v s.whole ∧ Upd NoF w w') := let ⟨_, h, _⟩ := h; dev_pages w h
theorem Blks.slice {v : Value} {ls : List (List UInt8)} (h : Blks w F v ls) : ∃ a c, v = .slice a ls.length c ∧ ls.length ≤ c := by
  obtain ⟨ps, ⟨a, c, hv, hc, _⟩, _, rfl⟩ := h
  exact ⟨a, c, by simpa using hv, by simpa using hc⟩
theorem Blks.upd {v : Value} {ls : List (List UInt8)} (h : Blks w F v ls) (hu : Upd G w w1) (hn : ∀ k, F k → ¬ G k) : Blks w1 F v ls := by
  obtain ⟨ps, h1, h2, h3⟩ := h
  exact ⟨ps, Slc.imp h1 (fun k hk hlt => hu.keep k hlt (hn k hk)) (fun _ h => h) (fun _ _ _ h => h), fun p hp => (h2 p hp).upd hu hn, h3⟩
theorem Blks.mono {v : Value} {ls : List (List UInt8)} (h : Blks w F v ls) (hF : ∀ k, F k → G k) : Blks w G v ls := by
  obtain ⟨ps, h1, h2, h3⟩ := h
  exact ⟨ps, Slc.imp h1 (fun _ _ _ => rfl) hF (fun _ _ _ h => h), fun p hp => (h2 p hp).mono hF, h3⟩
/-- an element -/
theorem Blks.at_ {a : Option Addr} {n c : Nat} {ls : List (List UInt8)} (h : Blks w F (.slice a n c) ls) (hl : ls ≠ []) :
    ∃ g o, a = some ⟨g, o, none⟩ ∧ F g ∧ ∀ i (hi : i < ls.length), ∃ va vc, w.cell? ⟨g, o + i, none⟩ = some (.slice va ls[i].length vc) ∧ Bytes w F (.slice va ls[i].length vc) ls[i] := by
  obtain ⟨ps, ⟨a', c', hv, hc, h⟩, h2, rfl⟩ := h
  cases hv
  obtain ⟨g, o, ha, hg, cur, ty, fr, hb, he⟩ := h (by intro e; rw [e] at hl; exact hl rfl)
  refine ⟨g, o, ha, hg, fun i hi => ?_⟩
  have hi' : i < ps.length := by simpa using hi
  obtain ⟨cs, h1, h3, h4⟩ := he i hi'
  have hbs := h2 _ (List.getElem_mem hi')
  obtain ⟨va, vc, hx, _⟩ := hbs.slice
  refine ⟨va, vc, ?_, ?_⟩
  · rw [blk_cell hb]
    have := h4 0 (by omega)
    simp only [Nat.mul_one, Nat.add_zero] at this
    rw [this, h3, hx]; simp
  · simp only [List.getElem_map]
    rw [← hx]; exact hbs
end Go.Proofs.Ytplhgeecnnadhaa
