/- The unit and its device: Trim, Seal. -/
import Derived.Test.YtplhgeecnnadhaaUnitK
namespace Go.Proofs.Ytplhgeecnnadhaa
open Go.RowKit
variable {F G D : Nat → Prop} {w w1 w2 : World} {u d p room : Nat} {s : US} {ds : DS} {ps : List UPage}
theorem UDAt.unit (h : UDAt w F u d room ps) : ∃ Fu, UnitAt w Fu u d (replay ps) := let ⟨_, _, Fu, _, a, _⟩ := h; ⟨Fu, a⟩
theorem ud_ask (epoch at_ : Int) (w : World) (h : UDAt w F u d room ps) : Calls Try.prog 97 #[.pointer (some ⟨u, 0, none⟩), .int .i64 epoch, .int .i64 at_] w (fun r w' => r = .returned (.int .i64 ((replay ps).ask epoch at_)) ∧ w = w') := let ⟨_, a⟩ := h.unit; u_ask epoch at_ w a
theorem ud_read (epoch at_ : Int) (w : World) (h : UDAt w F u d room ps) : Calls Try.prog 49 #[.pointer (some ⟨u, 0, none⟩), .int .i64 epoch, .int .i64 at_] w (ReadQ ((replay ps).look epoch at_) w) := let ⟨_, a⟩ := h.unit; u_read epoch at_ w a h.good
theorem ud_epoch (w : World) (h : UDAt w F u d room ps) : Calls Try.prog 50 #[.pointer (some ⟨u, 0, none⟩)] w (fun r w' => r = .returned (.int .i64 (replay ps).e) ∧ w = w') := let ⟨_, a⟩ := h.unit; u_epoch w a
theorem ud_low (w : World) (h : UDAt w F u d room ps) : Calls Try.prog 55 #[.pointer (some ⟨u, 0, none⟩)] w (fun r w' => r = .returned (.int .i64 (replay ps).low) ∧ w = w') := let ⟨_, a⟩ := h.unit; u_low w a
theorem ud_tail (w : World) (h : UDAt w F u d room ps) : Calls Try.prog 57 #[.pointer (some ⟨u, 0, none⟩)] w (fun r w' => r = .returned (.int .i64 (replay ps).tl) ∧ ∃ n, w' = w.drewN n) := let ⟨_, a⟩ := h.unit; u_tail w a
theorem okAt_iff {n : Int} : okAt n = true ↔ 0 ≤ n ∧ n ≤ 4294967296 := by unfold okAt; simp
theorem ask_zero {epoch at_ : Int} (h : s.ask epoch at_ = 0) : epoch = s.e ∧ 0 ≤ at_ ∧ at_ ≤ 4294967296 := by
  unfold US.ask at h
  split at h
  · split at h
    · rename_i h1 h2; exact ⟨h1, okAt_iff.1 h2⟩
    · cases h
  · cases h
/-- one number, in a new slice -/
theorem ints1 (w : World) (n : Nat) : Ints (w.alloc (.cells #[.int .i64 n] 3)) (fun k => k = w.heap.size) (.slice (some ⟨w.heap.size, 0, none⟩) 1 1) ([n].map Int.ofNat) :=
  ⟨_, 1, rfl, Nat.le_refl _, fun _ => ⟨_, 0, rfl, rfl, _, _, _, blk_new _ _, fun i hi => ⟨[.int .i64 n], rfl, by
    obtain rfl : i = 0 := by simpa using hi
    rfl, fun j hj => by
    obtain rfl : i = 0 := by simpa using hi
    obtain rfl : j = 0 := by omega
    simp⟩⟩⟩
def trimP (room : Nat) (ps : List UPage) (epoch low : Int) : Int × List UPage :=
  if (replay ps).ask epoch low = 0 then (if low ≤ (replay ps).low then (0, ps) else (ucode room ps, uput room ps (.trm low.toNat))) else ((replay ps).ask epoch low, ps)
set_option maxRecDepth 100000 in
set_option maxHeartbeats 2000000 in
theorem ud_trim (epoch low : Int) (w : World) (h : UDAt w F u d room ps) : Calls Try.prog 91 #[.pointer (some ⟨u, 0, none⟩), .int .i64 epoch, .int .i64 low] w
    (fun r w' => r = .returned (.int .i64 (trimP room ps epoch low).1) ∧ UD2 F u d room (trimP room ps epoch low).2 w w') := by
  have HA := Lib.hid (ud_ask epoch low w h)
  have hz0 := @ask_zero (replay ps) epoch low
  unfold trimP
  obtain ⟨c, hc⟩ : ∃ c, (replay ps).ask epoch low = c := ⟨_, rfl⟩
  rw [hc] at HA hz0 ⊢
  have HU := Lib.hid h
  obtain ⟨Fu, hun⟩ := h.unit
  obtain ⟨mc, ma, hb⟩ := hun.blk
  have e2 : w.cell? ⟨u, 2, none⟩ = some (.int .i64 (replay ps).low) := blk_cell hb 2
  clear hc h hun hb
  generalize (replay ps).low = lo at *
  by_cases h0 : c = 0
  case neg =>
    rw [if_neg h0]
    have h0' : (c == 0) = false := by simpa using h0
    clear hz0
    go_enter Try.func91, Try.ntmps91
    go_wp2_with fail
    refine HA.out.mono ?_
    rintro r w1 ⟨rfl, rfl⟩
    go_wp2_with fail
    go_ret
    exact ⟨rfl, UD2.self HU.out (Upd.refl _ _)⟩
  case pos =>
  subst h0
  rw [if_pos rfl]
  obtain ⟨-, z1, z2⟩ := hz0 rfl
  clear hz0
  by_cases hl : low ≤ (lo : Int)
  · rw [if_pos hl]
    go_enter Try.func91, Try.ntmps91
    go_wp2_with fail
    refine HA.out.mono ?_
    rintro r w1 ⟨rfl, rfl⟩
    go_wp2_with fail
    go_ret
    exact ⟨rfl, UD2.self HU.out (Upd.refl _ _)⟩
  · rw [if_neg hl]
    obtain ⟨n, rfl⟩ := Int.eq_ofNat_of_zero_le z1
    have hn : n ≤ 4294967296 := by omega
    have uu : Upd NoF w (w.alloc (.cells #[.int .i64 n] 3)) := (Upd.refl NoF w).alloc _
    have HW := Lib.hid (ud_write_plain (.trm n) hn rfl (.slice none 0 0) _ _ 3 rfl (HU.out.upd uu (fun _ _ h => h)) (ints1 w n))
    have UU := Lib.hid uu
    clear uu
    go_enter Try.func91, Try.ntmps91
    go_wp2_with fail
    refine HA.out.mono ?_
    rintro r w1 ⟨rfl, rfl⟩
    go_wp2_with fail
    refine HW.out.mono ?_
    rintro r w1 ⟨rfl, hq⟩
    have HQ := Lib.hid hq
    clear hq
    go_wp2_with fail
    go_ret
    exact ⟨rfl, UD2.at0 UU.out HQ.out⟩
def sealP (room : Nat) (ps : List UPage) (epoch : Int) : Int × List UPage :=
  if epoch ≤ (replay ps).e then (8, ps) else if 2147483647 < epoch then (1, ps) else (ucode room ps, uput room ps (.sea epoch.toNat))
set_option maxRecDepth 100000 in
set_option maxHeartbeats 2000000 in
theorem ud_seal (epoch : Int) (w : World) (h : UDAt w F u d room ps) : Calls Try.prog 93 #[.pointer (some ⟨u, 0, none⟩), .int .i64 epoch] w
    (fun r w' => r = .returned (.int .i64 (sealP room ps epoch).1) ∧ UD2 F u d room (sealP room ps epoch).2 w w') := by
  unfold sealP
  have HU := Lib.hid h
  obtain ⟨Fu, hun⟩ := h.unit
  obtain ⟨mc, ma, hb⟩ := hun.blk
  have e1 : w.cell? ⟨u, 1, none⟩ = some (.int .i64 (replay ps).e) := blk_cell hb 1
  clear h hun hb
  generalize (replay ps).e = e at *
  by_cases h1 : epoch ≤ (e : Int)
  · rw [if_pos h1]
    go_enter Try.func93, Try.ntmps93
    go_wp2_with fail
    go_ret
    exact ⟨rfl, UD2.self HU.out (Upd.refl _ _)⟩
  by_cases h2 : 2147483647 < epoch
  · rw [if_neg h1, if_pos h2]
    go_enter Try.func93, Try.ntmps93
    go_wp2_with fail
    go_ret
    exact ⟨rfl, UD2.self HU.out (Upd.refl _ _)⟩
  rw [if_neg h1, if_neg h2]
  obtain ⟨n, rfl⟩ := Int.eq_ofNat_of_zero_le (show 0 ≤ epoch by omega)
  have hn : n ≤ 2147483647 := by omega
  have uu : Upd NoF w (w.alloc (.cells #[.int .i64 n] 3)) := (Upd.refl NoF w).alloc _
  have HW := Lib.hid (ud_write_plain (.sea n) hn rfl (.slice none 0 0) _ _ 4 rfl (HU.out.upd uu (fun _ _ h => h)) (ints1 w n))
  have UU := Lib.hid uu
  clear uu
  go_enter Try.func93, Try.ntmps93
  go_wp2_with fail
  refine HW.out.mono ?_
  rintro r w1 ⟨rfl, hq⟩
  have HQ := Lib.hid hq
  clear hq
  go_wp2_with fail
  go_ret
  exact ⟨rfl, UD2.at0 UU.out HQ.out⟩
end Go.Proofs.Ytplhgeecnnadhaa
