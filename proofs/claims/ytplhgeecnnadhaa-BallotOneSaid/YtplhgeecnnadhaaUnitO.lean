/- The unit and its device: Write. (printed by wip/gen_unito.py) -/
import Derived.Test.YtplhgeecnnadhaaUnitN
namespace Go.Proofs.Ytplhgeecnnadhaa
open Go.RowKit
variable {F G D : Nat → Prop} {w w1 w2 : World} {u d p room : Nat} {s : US} {ds : DS} {ps : List UPage}
def goodCell (k : Int) (b : List UInt8) : Prop := (k = 1 ∧ b.length ≤ 65536) ∨ (k = 2 ∧ b = [])
instance (k : Int) (b : List UInt8) : Decidable (goodCell k b) := by unfold goodCell; infer_instance
def wrP (room : Nat) (ps : List UPage) (epoch at_ k : Int) (b : List UInt8) : ((Int × List UInt8) × Int) × List UPage :=
  if (replay ps).ask epoch at_ = 0 then
    (if goodCell k b then
      (if ((replay ps).look epoch at_).2 = 11 then (((0, []), 11), ps)
      else if ((replay ps).look epoch at_).2 = 0 then ((((replay ps).look epoch at_).1, 10), ps)
      else (((0, []), ucode room ps), uput room ps (if k = 1 then .dat at_.toNat b else .jnk at_.toNat)))
    else (((0, []), 1), ps))
  else (((0, []), (replay ps).ask epoch at_), ps)
theorem ints1n (w : World) (z : Nat) (hz : z = w.heap.size) (n : Nat) : Ints (w.alloc (.cells #[.int .i64 n] 3)) (fun k => k = w.heap.size) (.slice (some ⟨z, 0, none⟩) 1 1) ([n].map Int.ofNat) := by subst hz; exact ints1 w n
def WrQ (F : Nat → Prop) (u d room : Nat) (x : ((Int × List UInt8) × Int) × List UPage) (w : World) (r : Ending) (w' : World) : Prop :=
  ∃ v F', r = .returned (.tuple #[.agg #[.int .i64 x.1.1.1, v], .int .i64 x.1.2]) ∧ UDAt w' F' u d room x.2 ∧ Upd F w w' ∧ (∀ k, F' k → F k ∨ w.heap.size ≤ k) ∧ Bytes w' (fun k => w.heap.size ≤ k ∧ ¬ F' k) v x.1.1.2
set_option maxRecDepth 100000 in
set_option maxHeartbeats 4000000 in
theorem w_ask (epoch at_ : Int) (k : Int) (v : Value) (b : List UInt8) (w : World) (h : UDAt w F u d room ps) (hv : Bytes w G v b) (c : Int) (hc : (replay ps).ask epoch at_ = c) (h0 : ¬ c = 0) :
    Calls Try.prog 88 #[.pointer (some ⟨u, 0, none⟩), .int .i64 epoch, .int .i64 at_, .agg #[.int .i64 k, v]] w (WrQ F u d room (((0, []), c), ps) w) := by
  have HU := Lib.hid h
  have HV := Lib.hid hv
  obtain ⟨av, cv, rfl, hcv⟩ := hv.slice
  have U0 := Lib.hid (((Upd.refl NoF w).alloc (.cells #[.int .i64 k, .slice av b.length cv] 54)).alloc (.cells #[.int .i64 0, .slice none 0 0] 54))
  have R0 := Lib.hid (blk_newn (w := w.alloc (.cells #[.int .i64 k, .slice av b.length cv] 54)) (n := w.heap.size + 1) (alloc_size _ _) (.cells #[.int .i64 0, .slice none 0 0] 54))
  have B0 := Lib.hid (blk_alloc (blk_new w (.cells #[.int .i64 k, .slice av b.length cv] 54)) (.cells #[.int .i64 0, .slice none 0 0] 54))
  have HA := Lib.hid (ud_ask epoch at_ _ (h.upd U0.out (fun _ _ h => h)))
  rw [hc] at HA
  have h0' : (c == 0) = false := by simpa using h0
  clear h hv hcv hc
  go_enter Try.func88, Try.ntmps88
  go_wp2_with fail
  refine HA.out.mono ?_
  rintro r w1 ⟨rfl, rfl⟩
  go_wp2_with fail
  refine bodyPost_ret (results_ct rfl _ _ _ 54 _ (0, 0) _ rfl (blk_newn (alloc_size _ _) _) Try.underlying54 rfl (by kernel_rfl)) rfl ?_
  exact ⟨_, F, rfl, HU.out.upd U0.out (fun _ _ h => h), U0.out.mono (fun _ _ h => h.elim), fun k hk => .inl hk, Slc.nil _ _ _ _ _ _⟩
set_option maxRecDepth 100000 in
set_option maxHeartbeats 4000000 in
theorem w_arg1 (epoch at_ : Int) (v : Value) (b : List UInt8) (w : World) (h : UDAt w F u d room ps) (hv : Bytes w G v b) (hc : (replay ps).ask epoch at_ = 0) (hl : 65536 < b.length) :
    Calls Try.prog 88 #[.pointer (some ⟨u, 0, none⟩), .int .i64 epoch, .int .i64 at_, .agg #[.int .i64 1, v]] w (WrQ F u d room (((0, []), 1), ps) w) := by
  have HU := Lib.hid h
  have HV := Lib.hid hv
  obtain ⟨av, cv, rfl, hcv⟩ := hv.slice
  have U0 := Lib.hid (((Upd.refl NoF w).alloc (.cells #[.int .i64 1, .slice av b.length cv] 54)).alloc (.cells #[.int .i64 0, .slice none 0 0] 54))
  have R0 := Lib.hid (blk_newn (w := w.alloc (.cells #[.int .i64 1, .slice av b.length cv] 54)) (n := w.heap.size + 1) (alloc_size _ _) (.cells #[.int .i64 0, .slice none 0 0] 54))
  have B0 := Lib.hid (blk_alloc (blk_new w (.cells #[.int .i64 1, .slice av b.length cv] 54)) (.cells #[.int .i64 0, .slice none 0 0] 54))
  have HA := Lib.hid (ud_ask epoch at_ _ (h.upd U0.out (fun _ _ h => h)))
  rw [hc] at HA
  clear h hv hcv hc
  have hl' : decide ((b.length : Int) ≤ 65536) = false := decide_eq_false (by omega)
  clear hl
  go_enter Try.func88, Try.ntmps88
  go_wp2_with fail
  refine HA.out.mono ?_
  rintro r w1 ⟨rfl, rfl⟩
  go_wp2_with fail
  refine bodyPost_ret (results_ct rfl _ _ _ 54 _ (0, 0) _ rfl (blk_newn (alloc_size _ _) _) Try.underlying54 rfl (by kernel_rfl)) rfl ?_
  exact ⟨_, F, rfl, HU.out.upd U0.out (fun _ _ h => h), U0.out.mono (fun _ _ h => h.elim), fun k hk => .inl hk, Slc.nil _ _ _ _ _ _⟩
set_option maxRecDepth 100000 in
set_option maxHeartbeats 4000000 in
theorem w_arg2 (epoch at_ : Int) (v : Value) (b : List UInt8) (w : World) (h : UDAt w F u d room ps) (hv : Bytes w G v b) (hc : (replay ps).ask epoch at_ = 0) (hl : 0 < b.length) :
    Calls Try.prog 88 #[.pointer (some ⟨u, 0, none⟩), .int .i64 epoch, .int .i64 at_, .agg #[.int .i64 2, v]] w (WrQ F u d room (((0, []), 1), ps) w) := by
  have HU := Lib.hid h
  have HV := Lib.hid hv
  obtain ⟨av, cv, rfl, hcv⟩ := hv.slice
  have U0 := Lib.hid (((Upd.refl NoF w).alloc (.cells #[.int .i64 2, .slice av b.length cv] 54)).alloc (.cells #[.int .i64 0, .slice none 0 0] 54))
  have R0 := Lib.hid (blk_newn (w := w.alloc (.cells #[.int .i64 2, .slice av b.length cv] 54)) (n := w.heap.size + 1) (alloc_size _ _) (.cells #[.int .i64 0, .slice none 0 0] 54))
  have B0 := Lib.hid (blk_alloc (blk_new w (.cells #[.int .i64 2, .slice av b.length cv] 54)) (.cells #[.int .i64 0, .slice none 0 0] 54))
  have HA := Lib.hid (ud_ask epoch at_ _ (h.upd U0.out (fun _ _ h => h)))
  rw [hc] at HA
  clear h hv hcv hc
  generalize b.length = bl at *
  go_enter Try.func88, Try.ntmps88
  go_wp2_with fail
  refine HA.out.mono ?_
  rintro r w1 ⟨rfl, rfl⟩
  go_wp2_with fail
  refine bodyPost_ret (results_ct rfl _ _ _ 54 _ (0, 0) _ rfl (blk_newn (alloc_size _ _) _) Try.underlying54 rfl (by kernel_rfl)) rfl ?_
  exact ⟨_, F, rfl, HU.out.upd U0.out (fun _ _ h => h), U0.out.mono (fun _ _ h => h.elim), fun k hk => .inl hk, Slc.nil _ _ _ _ _ _⟩
set_option maxRecDepth 100000 in
set_option maxHeartbeats 4000000 in
theorem w_arg3 (epoch at_ : Int) (k : Int) (v : Value) (b : List UInt8) (w : World) (h : UDAt w F u d room ps) (hv : Bytes w G v b) (hc : (replay ps).ask epoch at_ = 0) (h1 : ¬ k = 1) (h2 : ¬ k = 2) :
    Calls Try.prog 88 #[.pointer (some ⟨u, 0, none⟩), .int .i64 epoch, .int .i64 at_, .agg #[.int .i64 k, v]] w (WrQ F u d room (((0, []), 1), ps) w) := by
  have HU := Lib.hid h
  have HV := Lib.hid hv
  obtain ⟨av, cv, rfl, hcv⟩ := hv.slice
  have U0 := Lib.hid (((Upd.refl NoF w).alloc (.cells #[.int .i64 k, .slice av b.length cv] 54)).alloc (.cells #[.int .i64 0, .slice none 0 0] 54))
  have R0 := Lib.hid (blk_newn (w := w.alloc (.cells #[.int .i64 k, .slice av b.length cv] 54)) (n := w.heap.size + 1) (alloc_size _ _) (.cells #[.int .i64 0, .slice none 0 0] 54))
  have B0 := Lib.hid (blk_alloc (blk_new w (.cells #[.int .i64 k, .slice av b.length cv] 54)) (.cells #[.int .i64 0, .slice none 0 0] 54))
  have HA := Lib.hid (ud_ask epoch at_ _ (h.upd U0.out (fun _ _ h => h)))
  rw [hc] at HA
  clear h hv hcv hc
  have h1' : (k == 1) = false := by simpa using h1
  have h2' : (k == 2) = false := by simpa using h2
  go_enter Try.func88, Try.ntmps88
  go_wp2_with fail
  refine HA.out.mono ?_
  rintro r w1 ⟨rfl, rfl⟩
  go_wp2_with fail
  refine bodyPost_ret (results_ct rfl _ _ _ 54 _ (0, 0) _ rfl (blk_newn (alloc_size _ _) _) Try.underlying54 rfl (by kernel_rfl)) rfl ?_
  exact ⟨_, F, rfl, HU.out.upd U0.out (fun _ _ h => h), U0.out.mono (fun _ _ h => h.elim), fun k hk => .inl hk, Slc.nil _ _ _ _ _ _⟩
set_option maxRecDepth 100000 in
set_option maxHeartbeats 4000000 in
theorem w_trimd (epoch at_ : Int) (v : Value) (b : List UInt8) (w : World) (h : UDAt w F u d room ps) (hv : Bytes w G v b) (hc : (replay ps).ask epoch at_ = 0) (hlk : (replay ps).look epoch at_ = ((0, []), 11)) (hl : b.length ≤ 65536) :
    Calls Try.prog 88 #[.pointer (some ⟨u, 0, none⟩), .int .i64 epoch, .int .i64 at_, .agg #[.int .i64 1, v]] w (WrQ F u d room (((0, []), 11), ps) w) := by
  have HU := Lib.hid h
  have HV := Lib.hid hv
  obtain ⟨av, cv, rfl, hcv⟩ := hv.slice
  have U0 := Lib.hid (((Upd.refl NoF w).alloc (.cells #[.int .i64 1, .slice av b.length cv] 54)).alloc (.cells #[.int .i64 0, .slice none 0 0] 54))
  have R0 := Lib.hid (blk_newn (w := w.alloc (.cells #[.int .i64 1, .slice av b.length cv] 54)) (n := w.heap.size + 1) (alloc_size _ _) (.cells #[.int .i64 0, .slice none 0 0] 54))
  have B0 := Lib.hid (blk_alloc (blk_new w (.cells #[.int .i64 1, .slice av b.length cv] 54)) (.cells #[.int .i64 0, .slice none 0 0] 54))
  have HA := Lib.hid (ud_ask epoch at_ _ (h.upd U0.out (fun _ _ h => h)))
  rw [hc] at HA
  have hl' : decide ((b.length : Int) ≤ 65536) = true := decide_eq_true (by omega)
  have HLN := Lib.hid hl
  clear hl
  have HRD := Lib.hid (ud_read epoch at_ _ (h.upd U0.out (fun _ _ h => h)))
  rw [hlk] at HRD
  clear h hv hcv hc hlk
  go_enter Try.func88, Try.ntmps88
  go_wp2_with fail
  refine HA.out.mono ?_
  rintro r w1 ⟨rfl, rfl⟩
  go_wp2_with fail
  refine HRD.out.mono ?_
  rintro r w2 ⟨v2, rfl, b2, u2⟩
  obtain ⟨a2, c2, rfl, hc2⟩ := b2.slice
  have B2 := Lib.hid b2
  have U2 := Lib.hid (U0.out.then0 u2)
  have x2 := u2.blk0 R0.out
  have X2 := Lib.hid x2
  have e0 : w2.cell? ⟨w.heap.size + 1, 0, none⟩ = some (.int .i64 0) := blk_cell x2 0
  have e1 : w2.cell? ⟨w.heap.size + 1, 1, none⟩ = some (.slice none 0 0) := blk_cell x2 1
  have g0 := blk_free x2 0
  have g1 := blk_free x2 1
  have z2 := blk_lt x2
  have BB := Lib.hid (u2.blk0 B0.out)
  clear b2 u2 hc2 x2
  go_wp2_with fail
  have hu : Upd (OneF (w.heap.size + 1)) w2 ((w2.setCell ⟨w.heap.size + 1, 0, none⟩ (.int .i64 0)).setCell ⟨w.heap.size + 1, 1, none⟩ (.slice none 0 0)) := ((Upd.refl _ _).set1 _ _).set1 _ _
  have hx : ((w2.setCell ⟨w.heap.size + 1, 0, none⟩ (.int .i64 0)).setCell ⟨w.heap.size + 1, 1, none⟩ (.slice none 0 0)).heap[w.heap.size + 1]? = some (.cells #[.int .i64 0, .slice none 0 0] 54 (0, 0)) := by rw [blk_set (blk_set X2.out 0 _) 1]; simp
  refine bodyPost_ret (results_ct rfl _ _ _ 54 _ (0, 0) _ rfl (blk_alloc hx _) Try.underlying54 rfl (by kernel_rfl)) rfl ?_
  have uu := (U2.out.trans (F := NoF) hu (fun i hi h => by simp only [OneF] at h; omega)).alloc (.cells #[.int .i64 0, .slice a2 0 c2] 54)
  exact ⟨_, F, rfl, HU.out.upd uu (fun _ _ h => h), uu.mono (fun _ _ h => h.elim), fun k hk => .inl hk, Slc.nil _ _ _ _ _ _⟩
set_option maxRecDepth 100000 in
set_option maxHeartbeats 4000000 in
theorem w_thered (epoch at_ : Int) (v : Value) (b : List UInt8) (w : World) (h : UDAt w F u d room ps) (hv : Bytes w G v b) (c : Int × List UInt8) (hc : (replay ps).ask epoch at_ = 0) (hlk : (replay ps).look epoch at_ = (c, 0)) (hl : b.length ≤ 65536) :
    Calls Try.prog 88 #[.pointer (some ⟨u, 0, none⟩), .int .i64 epoch, .int .i64 at_, .agg #[.int .i64 1, v]] w (WrQ F u d room ((c, 10), ps) w) := by
  have HU := Lib.hid h
  have HV := Lib.hid hv
  obtain ⟨av, cv, rfl, hcv⟩ := hv.slice
  have U0 := Lib.hid (((Upd.refl NoF w).alloc (.cells #[.int .i64 1, .slice av b.length cv] 54)).alloc (.cells #[.int .i64 0, .slice none 0 0] 54))
  have R0 := Lib.hid (blk_newn (w := w.alloc (.cells #[.int .i64 1, .slice av b.length cv] 54)) (n := w.heap.size + 1) (alloc_size _ _) (.cells #[.int .i64 0, .slice none 0 0] 54))
  have B0 := Lib.hid (blk_alloc (blk_new w (.cells #[.int .i64 1, .slice av b.length cv] 54)) (.cells #[.int .i64 0, .slice none 0 0] 54))
  have HA := Lib.hid (ud_ask epoch at_ _ (h.upd U0.out (fun _ _ h => h)))
  rw [hc] at HA
  obtain ⟨k1, d1⟩ := c
  have hl' : decide ((b.length : Int) ≤ 65536) = true := decide_eq_true (by omega)
  have HLN := Lib.hid hl
  clear hl
  have HRD := Lib.hid (ud_read epoch at_ _ (h.upd U0.out (fun _ _ h => h)))
  rw [hlk] at HRD
  clear h hv hcv hc hlk
  go_enter Try.func88, Try.ntmps88
  go_wp2_with fail
  refine HA.out.mono ?_
  rintro r w1 ⟨rfl, rfl⟩
  go_wp2_with fail
  refine HRD.out.mono ?_
  rintro r w2 ⟨v2, rfl, b2, u2⟩
  obtain ⟨a2, c2, rfl, hc2⟩ := b2.slice
  have B2 := Lib.hid b2
  have U2 := Lib.hid (U0.out.then0 u2)
  have x2 := u2.blk0 R0.out
  have X2 := Lib.hid x2
  have e0 : w2.cell? ⟨w.heap.size + 1, 0, none⟩ = some (.int .i64 0) := blk_cell x2 0
  have e1 : w2.cell? ⟨w.heap.size + 1, 1, none⟩ = some (.slice none 0 0) := blk_cell x2 1
  have g0 := blk_free x2 0
  have g1 := blk_free x2 1
  have z2 := blk_lt x2
  have BB := Lib.hid (u2.blk0 B0.out)
  clear b2 u2 hc2 x2
  go_wp2_with fail
  have hu : Upd (OneF (w.heap.size + 1)) w2 ((w2.setCell ⟨w.heap.size + 1, 0, none⟩ (.int .i64 k1)).setCell ⟨w.heap.size + 1, 1, none⟩ (.slice a2 d1.length c2)) := ((Upd.refl _ _).set1 _ _).set1 _ _
  have hx : ((w2.setCell ⟨w.heap.size + 1, 0, none⟩ (.int .i64 k1)).setCell ⟨w.heap.size + 1, 1, none⟩ (.slice a2 d1.length c2)).heap[w.heap.size + 1]? = some (.cells #[.int .i64 k1, .slice a2 d1.length c2] 54 (0, 0)) := by rw [blk_set (blk_set X2.out 0 _) 1]; simp
  refine bodyPost_ret (results_ct rfl _ _ _ 54 _ (0, 0) _ rfl (blk_alloc hx _) Try.underlying54 rfl (by kernel_rfl)) rfl ?_
  have uu := (U2.out.trans (F := NoF) hu (fun i hi h => by simp only [OneF] at h; omega)).alloc (.cells #[.int .i64 k1, .slice a2 d1.length c2] 54)
  have hz0 := alloc2 w (.cells #[.int .i64 1, .slice av b.length cv] 54) (.cells #[.int .i64 0, .slice none 0 0] 54)
  have hFl := HU.out.lt
  exact ⟨_, F, rfl, HU.out.upd uu (fun _ _ h => h), uu.mono (fun _ _ h => h.elim), fun k hk => .inl hk, ((B2.out.upd hu (fun k hk h => by simp only [OneF] at h; omega)).upd0 ((Upd.refl NoF _).alloc _)).mono (fun k hk => ⟨by omega, fun hf => by have := hFl k hf; omega⟩)⟩
set_option maxRecDepth 100000 in
set_option maxHeartbeats 4000000 in
theorem w_newd (epoch : Int) (n : Nat) (v : Value) (b : List UInt8) (w : World) (h : UDAt w F u d room ps) (hv : Bytes w G v b) (hnn : n ≤ 4294967296) (hc : (replay ps).ask epoch n = 0) (hlk : (replay ps).look epoch n = ((0, []), 9)) (hl : b.length ≤ 65536) :
    Calls Try.prog 88 #[.pointer (some ⟨u, 0, none⟩), .int .i64 epoch, .int .i64 n, .agg #[.int .i64 1, v]] w (WrQ F u d room (((0, []), ucode room ps), uput room ps (.dat n b)) w) := by
  have HU := Lib.hid h
  have HV := Lib.hid hv
  obtain ⟨av, cv, rfl, hcv⟩ := hv.slice
  have U0 := Lib.hid (((Upd.refl NoF w).alloc (.cells #[.int .i64 1, .slice av b.length cv] 54)).alloc (.cells #[.int .i64 0, .slice none 0 0] 54))
  have R0 := Lib.hid (blk_newn (w := w.alloc (.cells #[.int .i64 1, .slice av b.length cv] 54)) (n := w.heap.size + 1) (alloc_size _ _) (.cells #[.int .i64 0, .slice none 0 0] 54))
  have B0 := Lib.hid (blk_alloc (blk_new w (.cells #[.int .i64 1, .slice av b.length cv] 54)) (.cells #[.int .i64 0, .slice none 0 0] 54))
  have HA := Lib.hid (ud_ask epoch n _ (h.upd U0.out (fun _ _ h => h)))
  rw [hc] at HA
  have hpok : (UPage.dat n b).ok := ⟨hnn, hl⟩
  have hl' : decide ((b.length : Int) ≤ 65536) = true := decide_eq_true (by omega)
  have HLN := Lib.hid hl
  clear hl
  have HRD := Lib.hid (ud_read epoch n _ (h.upd U0.out (fun _ _ h => h)))
  rw [hlk] at HRD
  clear h hv hcv hc hlk
  go_enter Try.func88, Try.ntmps88
  go_wp2_with fail
  refine HA.out.mono ?_
  rintro r w1 ⟨rfl, rfl⟩
  go_wp2_with fail
  refine HRD.out.mono ?_
  rintro r w2 ⟨v2, rfl, b2, u2⟩
  obtain ⟨a2, c2, rfl, hc2⟩ := b2.slice
  have B2 := Lib.hid b2
  have U2 := Lib.hid (U0.out.then0 u2)
  have x2 := u2.blk0 R0.out
  have X2 := Lib.hid x2
  have e0 : w2.cell? ⟨w.heap.size + 1, 0, none⟩ = some (.int .i64 0) := blk_cell x2 0
  have e1 : w2.cell? ⟨w.heap.size + 1, 1, none⟩ = some (.slice none 0 0) := blk_cell x2 1
  have g0 := blk_free x2 0
  have g1 := blk_free x2 1
  have z2 := blk_lt x2
  have BB := Lib.hid (u2.blk0 B0.out)
  clear b2 u2 hc2 x2
  have uw := (U2.out.alloc (.cells #[.int .i64 0, .slice a2 0 c2] 54)).alloc (.cells #[.int .i64 n] 3)
  have HW := Lib.hid (ud_write_more (.dat n b) hpok b rfl (.slice av b.length cv) _ _ 1 rfl (HU.out.upd uw (fun _ _ h => h)) (HV.out.upd0 uw) (ints1n (w2.alloc (.cells #[.int .i64 0, .slice a2 0 c2] 54)) (w2.heap.size + 1) (alloc_size _ _) n))
  have UW := Lib.hid uw
  have q1 : w2.cell? ⟨w.heap.size, 1, none⟩ = some (.slice av b.length cv) := blk_cell BB.out 1
  have zq := blk_lt BB.out
  have X3 := Lib.hid (blk_alloc (blk_alloc X2.out (.cells #[.int .i64 0, .slice a2 0 c2] 54)) (.cells #[.int .i64 n] 3))
  clear hpok uw
  go_wp2_with fail
  refine HW.out.mono ?_
  rintro r w4 ⟨rfl, hud⟩
  have HUD := Lib.hid hud
  clear e0 e1 g0 g1
  have hfar : ∀ k, F k → ¬ k = w.heap.size + 1 := fun k hk h => by have := HU.out.lt k hk; omega
  have x4 : w4.heap[w.heap.size + 1]? = some (.cells #[.int .i64 0, .slice none 0 0] 54 (0, 0)) := by obtain ⟨G, k1, k2, k3⟩ := hud; exact k2.blk X3.out (fun h => hfar _ h rfl)
  have X4 := Lib.hid x4
  have e0 : w4.cell? ⟨w.heap.size + 1, 0, none⟩ = some (.int .i64 0) := blk_cell x4 0
  have e1 : w4.cell? ⟨w.heap.size + 1, 1, none⟩ = some (.slice none 0 0) := blk_cell x4 1
  have g0 := blk_free x4 0
  have g1 := blk_free x4 1
  have z4 := blk_lt x4
  clear hud x4 q1
  go_wp2_with fail
  have hu : Upd (OneF (w.heap.size + 1)) w4 ((w4.setCell ⟨w.heap.size + 1, 0, none⟩ (.int .i64 0)).setCell ⟨w.heap.size + 1, 1, none⟩ (.slice none 0 0)) := ((Upd.refl _ _).set1 _ _).set1 _ _
  have hx : ((w4.setCell ⟨w.heap.size + 1, 0, none⟩ (.int .i64 0)).setCell ⟨w.heap.size + 1, 1, none⟩ (.slice none 0 0)).heap[w.heap.size + 1]? = some (.cells #[.int .i64 0, .slice none 0 0] 54 (0, 0)) := by rw [blk_set (blk_set X4.out 0 _) 1]; simp
  refine bodyPost_ret (results_ct rfl _ _ _ 54 _ (0, 0) _ rfl hx Try.underlying54 rfl (by kernel_rfl)) rfl ?_
  obtain ⟨G, k1, k2, k3⟩ := HUD.out
  have hz7 := UW.out.size
  have hz8 := blk_lt X3.out
  have hFl := HU.out.lt
  refine ⟨_, G, rfl, k1.upd hu (fun k hk h => ?_), ((UW.out.mono (fun _ _ h => h.elim)).andThen k2).trans hu (fun i hi h => by simp only [OneF] at h; omega), fun k hk => (k3 k hk).elim .inl (fun h => .inr (by omega)), Slc.nil _ _ _ _ _ _⟩
  simp only [OneF] at h
  subst h
  rcases k3 _ hk with h | h
  · have := hFl _ h; omega
  · omega
set_option maxRecDepth 100000 in
set_option maxHeartbeats 4000000 in
theorem w_trimj (epoch at_ : Int) (v : Value) (b : List UInt8) (w : World) (h : UDAt w F u d room ps) (hv : Bytes w G v b) (hc : (replay ps).ask epoch at_ = 0) (hlk : (replay ps).look epoch at_ = ((0, []), 11)) (hl : b = []) :
    Calls Try.prog 88 #[.pointer (some ⟨u, 0, none⟩), .int .i64 epoch, .int .i64 at_, .agg #[.int .i64 2, v]] w (WrQ F u d room (((0, []), 11), ps) w) := by
  have HU := Lib.hid h
  have HV := Lib.hid hv
  obtain ⟨av, cv, rfl, hcv⟩ := hv.slice
  have U0 := Lib.hid (((Upd.refl NoF w).alloc (.cells #[.int .i64 2, .slice av b.length cv] 54)).alloc (.cells #[.int .i64 0, .slice none 0 0] 54))
  have R0 := Lib.hid (blk_newn (w := w.alloc (.cells #[.int .i64 2, .slice av b.length cv] 54)) (n := w.heap.size + 1) (alloc_size _ _) (.cells #[.int .i64 0, .slice none 0 0] 54))
  have B0 := Lib.hid (blk_alloc (blk_new w (.cells #[.int .i64 2, .slice av b.length cv] 54)) (.cells #[.int .i64 0, .slice none 0 0] 54))
  have HA := Lib.hid (ud_ask epoch at_ _ (h.upd U0.out (fun _ _ h => h)))
  rw [hc] at HA
  subst hl
  simp only [List.length_nil] at *
  have HRD := Lib.hid (ud_read epoch at_ _ (h.upd U0.out (fun _ _ h => h)))
  rw [hlk] at HRD
  clear h hv hcv hc hlk
  go_enter Try.func88, Try.ntmps88
  go_wp2_with fail
  refine HA.out.mono ?_
  rintro r w1 ⟨rfl, rfl⟩
  go_wp2_with fail
  refine HRD.out.mono ?_
  rintro r w2 ⟨v2, rfl, b2, u2⟩
  obtain ⟨a2, c2, rfl, hc2⟩ := b2.slice
  have B2 := Lib.hid b2
  have U2 := Lib.hid (U0.out.then0 u2)
  have x2 := u2.blk0 R0.out
  have X2 := Lib.hid x2
  have e0 : w2.cell? ⟨w.heap.size + 1, 0, none⟩ = some (.int .i64 0) := blk_cell x2 0
  have e1 : w2.cell? ⟨w.heap.size + 1, 1, none⟩ = some (.slice none 0 0) := blk_cell x2 1
  have g0 := blk_free x2 0
  have g1 := blk_free x2 1
  have z2 := blk_lt x2
  have BB := Lib.hid (u2.blk0 B0.out)
  clear b2 u2 hc2 x2
  go_wp2_with fail
  have hu : Upd (OneF (w.heap.size + 1)) w2 ((w2.setCell ⟨w.heap.size + 1, 0, none⟩ (.int .i64 0)).setCell ⟨w.heap.size + 1, 1, none⟩ (.slice none 0 0)) := ((Upd.refl _ _).set1 _ _).set1 _ _
  have hx : ((w2.setCell ⟨w.heap.size + 1, 0, none⟩ (.int .i64 0)).setCell ⟨w.heap.size + 1, 1, none⟩ (.slice none 0 0)).heap[w.heap.size + 1]? = some (.cells #[.int .i64 0, .slice none 0 0] 54 (0, 0)) := by rw [blk_set (blk_set X2.out 0 _) 1]; simp
  refine bodyPost_ret (results_ct rfl _ _ _ 54 _ (0, 0) _ rfl (blk_alloc hx _) Try.underlying54 rfl (by kernel_rfl)) rfl ?_
  have uu := (U2.out.trans (F := NoF) hu (fun i hi h => by simp only [OneF] at h; omega)).alloc (.cells #[.int .i64 0, .slice a2 0 c2] 54)
  exact ⟨_, F, rfl, HU.out.upd uu (fun _ _ h => h), uu.mono (fun _ _ h => h.elim), fun k hk => .inl hk, Slc.nil _ _ _ _ _ _⟩
set_option maxRecDepth 100000 in
set_option maxHeartbeats 4000000 in
theorem w_therej (epoch at_ : Int) (v : Value) (b : List UInt8) (w : World) (h : UDAt w F u d room ps) (hv : Bytes w G v b) (c : Int × List UInt8) (hc : (replay ps).ask epoch at_ = 0) (hlk : (replay ps).look epoch at_ = (c, 0)) (hl : b = []) :
    Calls Try.prog 88 #[.pointer (some ⟨u, 0, none⟩), .int .i64 epoch, .int .i64 at_, .agg #[.int .i64 2, v]] w (WrQ F u d room ((c, 10), ps) w) := by
  have HU := Lib.hid h
  have HV := Lib.hid hv
  obtain ⟨av, cv, rfl, hcv⟩ := hv.slice
  have U0 := Lib.hid (((Upd.refl NoF w).alloc (.cells #[.int .i64 2, .slice av b.length cv] 54)).alloc (.cells #[.int .i64 0, .slice none 0 0] 54))
  have R0 := Lib.hid (blk_newn (w := w.alloc (.cells #[.int .i64 2, .slice av b.length cv] 54)) (n := w.heap.size + 1) (alloc_size _ _) (.cells #[.int .i64 0, .slice none 0 0] 54))
  have B0 := Lib.hid (blk_alloc (blk_new w (.cells #[.int .i64 2, .slice av b.length cv] 54)) (.cells #[.int .i64 0, .slice none 0 0] 54))
  have HA := Lib.hid (ud_ask epoch at_ _ (h.upd U0.out (fun _ _ h => h)))
  rw [hc] at HA
  obtain ⟨k1, d1⟩ := c
  subst hl
  simp only [List.length_nil] at *
  have HRD := Lib.hid (ud_read epoch at_ _ (h.upd U0.out (fun _ _ h => h)))
  rw [hlk] at HRD
  clear h hv hcv hc hlk
  go_enter Try.func88, Try.ntmps88
  go_wp2_with fail
  refine HA.out.mono ?_
  rintro r w1 ⟨rfl, rfl⟩
  go_wp2_with fail
  refine HRD.out.mono ?_
  rintro r w2 ⟨v2, rfl, b2, u2⟩
  obtain ⟨a2, c2, rfl, hc2⟩ := b2.slice
  have B2 := Lib.hid b2
  have U2 := Lib.hid (U0.out.then0 u2)
  have x2 := u2.blk0 R0.out
  have X2 := Lib.hid x2
  have e0 : w2.cell? ⟨w.heap.size + 1, 0, none⟩ = some (.int .i64 0) := blk_cell x2 0
  have e1 : w2.cell? ⟨w.heap.size + 1, 1, none⟩ = some (.slice none 0 0) := blk_cell x2 1
  have g0 := blk_free x2 0
  have g1 := blk_free x2 1
  have z2 := blk_lt x2
  have BB := Lib.hid (u2.blk0 B0.out)
  clear b2 u2 hc2 x2
  go_wp2_with fail
  have hu : Upd (OneF (w.heap.size + 1)) w2 ((w2.setCell ⟨w.heap.size + 1, 0, none⟩ (.int .i64 k1)).setCell ⟨w.heap.size + 1, 1, none⟩ (.slice a2 d1.length c2)) := ((Upd.refl _ _).set1 _ _).set1 _ _
  have hx : ((w2.setCell ⟨w.heap.size + 1, 0, none⟩ (.int .i64 k1)).setCell ⟨w.heap.size + 1, 1, none⟩ (.slice a2 d1.length c2)).heap[w.heap.size + 1]? = some (.cells #[.int .i64 k1, .slice a2 d1.length c2] 54 (0, 0)) := by rw [blk_set (blk_set X2.out 0 _) 1]; simp
  refine bodyPost_ret (results_ct rfl _ _ _ 54 _ (0, 0) _ rfl (blk_alloc hx _) Try.underlying54 rfl (by kernel_rfl)) rfl ?_
  have uu := (U2.out.trans (F := NoF) hu (fun i hi h => by simp only [OneF] at h; omega)).alloc (.cells #[.int .i64 k1, .slice a2 d1.length c2] 54)
  have hz0 := alloc2 w (.cells #[.int .i64 2, .slice av 0 cv] 54) (.cells #[.int .i64 0, .slice none 0 0] 54)
  have hFl := HU.out.lt
  exact ⟨_, F, rfl, HU.out.upd uu (fun _ _ h => h), uu.mono (fun _ _ h => h.elim), fun k hk => .inl hk, ((B2.out.upd hu (fun k hk h => by simp only [OneF] at h; omega)).upd0 ((Upd.refl NoF _).alloc _)).mono (fun k hk => ⟨by omega, fun hf => by have := hFl k hf; omega⟩)⟩
set_option maxRecDepth 100000 in
set_option maxHeartbeats 4000000 in
theorem w_newj (epoch : Int) (n : Nat) (v : Value) (b : List UInt8) (w : World) (h : UDAt w F u d room ps) (hv : Bytes w G v b) (hnn : n ≤ 4294967296) (hc : (replay ps).ask epoch n = 0) (hlk : (replay ps).look epoch n = ((0, []), 9)) (hl : b = []) :
    Calls Try.prog 88 #[.pointer (some ⟨u, 0, none⟩), .int .i64 epoch, .int .i64 n, .agg #[.int .i64 2, v]] w (WrQ F u d room (((0, []), ucode room ps), uput room ps (.jnk n)) w) := by
  have HU := Lib.hid h
  have HV := Lib.hid hv
  obtain ⟨av, cv, rfl, hcv⟩ := hv.slice
  have U0 := Lib.hid (((Upd.refl NoF w).alloc (.cells #[.int .i64 2, .slice av b.length cv] 54)).alloc (.cells #[.int .i64 0, .slice none 0 0] 54))
  have R0 := Lib.hid (blk_newn (w := w.alloc (.cells #[.int .i64 2, .slice av b.length cv] 54)) (n := w.heap.size + 1) (alloc_size _ _) (.cells #[.int .i64 0, .slice none 0 0] 54))
  have B0 := Lib.hid (blk_alloc (blk_new w (.cells #[.int .i64 2, .slice av b.length cv] 54)) (.cells #[.int .i64 0, .slice none 0 0] 54))
  have HA := Lib.hid (ud_ask epoch n _ (h.upd U0.out (fun _ _ h => h)))
  rw [hc] at HA
  have hpok : (UPage.jnk n).ok := hnn
  subst hl
  simp only [List.length_nil] at *
  have HRD := Lib.hid (ud_read epoch n _ (h.upd U0.out (fun _ _ h => h)))
  rw [hlk] at HRD
  clear h hv hcv hc hlk
  go_enter Try.func88, Try.ntmps88
  go_wp2_with fail
  refine HA.out.mono ?_
  rintro r w1 ⟨rfl, rfl⟩
  go_wp2_with fail
  refine HRD.out.mono ?_
  rintro r w2 ⟨v2, rfl, b2, u2⟩
  obtain ⟨a2, c2, rfl, hc2⟩ := b2.slice
  have B2 := Lib.hid b2
  have U2 := Lib.hid (U0.out.then0 u2)
  have x2 := u2.blk0 R0.out
  have X2 := Lib.hid x2
  have e0 : w2.cell? ⟨w.heap.size + 1, 0, none⟩ = some (.int .i64 0) := blk_cell x2 0
  have e1 : w2.cell? ⟨w.heap.size + 1, 1, none⟩ = some (.slice none 0 0) := blk_cell x2 1
  have g0 := blk_free x2 0
  have g1 := blk_free x2 1
  have z2 := blk_lt x2
  have BB := Lib.hid (u2.blk0 B0.out)
  clear b2 u2 hc2 x2
  have uw := (U2.out.alloc (.cells #[.int .i64 0, .slice a2 0 c2] 54)).alloc (.cells #[.int .i64 n] 3)
  have HW := Lib.hid (ud_write_plain (.jnk n) hpok rfl (.slice none 0 0) _ _ 2 rfl (HU.out.upd uw (fun _ _ h => h)) (ints1n (w2.alloc (.cells #[.int .i64 0, .slice a2 0 c2] 54)) (w2.heap.size + 1) (alloc_size _ _) n))
  have UW := Lib.hid uw
  have q1 : w2.cell? ⟨w.heap.size, 1, none⟩ = some (.slice av 0 cv) := blk_cell BB.out 1
  have zq := blk_lt BB.out
  have X3 := Lib.hid (blk_alloc (blk_alloc X2.out (.cells #[.int .i64 0, .slice a2 0 c2] 54)) (.cells #[.int .i64 n] 3))
  clear hpok uw
  go_wp2_with fail
  refine HW.out.mono ?_
  rintro r w4 ⟨rfl, hud⟩
  have HUD := Lib.hid hud
  clear e0 e1 g0 g1
  have hfar : ∀ k, F k → ¬ k = w.heap.size + 1 := fun k hk h => by have := HU.out.lt k hk; omega
  have x4 : w4.heap[w.heap.size + 1]? = some (.cells #[.int .i64 0, .slice none 0 0] 54 (0, 0)) := by obtain ⟨G, k1, k2, k3⟩ := hud; exact k2.blk X3.out (fun h => hfar _ h rfl)
  have X4 := Lib.hid x4
  have e0 : w4.cell? ⟨w.heap.size + 1, 0, none⟩ = some (.int .i64 0) := blk_cell x4 0
  have e1 : w4.cell? ⟨w.heap.size + 1, 1, none⟩ = some (.slice none 0 0) := blk_cell x4 1
  have g0 := blk_free x4 0
  have g1 := blk_free x4 1
  have z4 := blk_lt x4
  clear hud x4 q1
  go_wp2_with fail
  have hu : Upd (OneF (w.heap.size + 1)) w4 ((w4.setCell ⟨w.heap.size + 1, 0, none⟩ (.int .i64 0)).setCell ⟨w.heap.size + 1, 1, none⟩ (.slice none 0 0)) := ((Upd.refl _ _).set1 _ _).set1 _ _
  have hx : ((w4.setCell ⟨w.heap.size + 1, 0, none⟩ (.int .i64 0)).setCell ⟨w.heap.size + 1, 1, none⟩ (.slice none 0 0)).heap[w.heap.size + 1]? = some (.cells #[.int .i64 0, .slice none 0 0] 54 (0, 0)) := by rw [blk_set (blk_set X4.out 0 _) 1]; simp
  refine bodyPost_ret (results_ct rfl _ _ _ 54 _ (0, 0) _ rfl hx Try.underlying54 rfl (by kernel_rfl)) rfl ?_
  obtain ⟨G, k1, k2, k3⟩ := HUD.out
  have hz7 := UW.out.size
  have hz8 := blk_lt X3.out
  have hFl := HU.out.lt
  refine ⟨_, G, rfl, k1.upd hu (fun k hk h => ?_), ((UW.out.mono (fun _ _ h => h.elim)).andThen k2).trans hu (fun i hi h => by simp only [OneF] at h; omega), fun k hk => (k3 k hk).elim .inl (fun h => .inr (by omega)), Slc.nil _ _ _ _ _ _⟩
  simp only [OneF] at h
  subst h
  rcases k3 _ hk with h | h
  · have := hFl _ h; omega
  · omega
theorem ask_zero' {epoch at_ : Int} (h : s.ask epoch at_ = 0) : ∃ n : Nat, at_ = n ∧ n ≤ 4294967296 := by
  obtain ⟨_, h1, h2⟩ := ask_zero h
  obtain ⟨n, rfl⟩ := Int.eq_ofNat_of_zero_le h1
  exact ⟨n, rfl, by omega⟩
theorem look_of {epoch at_ : Int} (h : s.ask epoch at_ = 0) : (∃ c, s.look epoch at_ = (c, 0) ∧ s.cells at_ = some c ∧ ¬ at_ < s.low) ∨ (s.look epoch at_ = ((0, []), 9) ∧ s.cells at_ = none ∧ ¬ at_ < s.low) ∨ (s.look epoch at_ = ((0, []), 11) ∧ at_ < s.low) := by
  unfold US.look
  rw [if_pos h]
  by_cases hl : at_ < s.low
  · rw [if_pos hl]; exact .inr (.inr ⟨rfl, hl⟩)
  · rw [if_neg hl]
    cases hc : s.cells at_ with
    | none => exact .inr (.inl ⟨rfl, rfl, hl⟩)
    | some c => exact .inl ⟨c, rfl, rfl, hl⟩
theorem ud_write (epoch at_ k : Int) (v : Value) (b : List UInt8) (w : World) (h : UDAt w F u d room ps) (hv : Bytes w G v b) :
    Calls Try.prog 88 #[.pointer (some ⟨u, 0, none⟩), .int .i64 epoch, .int .i64 at_, .agg #[.int .i64 k, v]] w (WrQ F u d room (wrP room ps epoch at_ k b) w) := by
  unfold wrP
  by_cases hc : (replay ps).ask epoch at_ = 0
  · rw [if_pos hc]
    obtain ⟨n, hn, hnn⟩ := ask_zero' hc
    by_cases hg : goodCell k b
    · rw [if_pos hg]
      rcases look_of hc with ⟨c, hlk, _⟩ | ⟨hlk, _⟩ | ⟨hlk, _⟩
      · rw [hlk, if_neg (by simp), if_pos rfl]
        rcases hg with ⟨rfl, hl⟩ | ⟨rfl, hl⟩
        · exact w_thered epoch at_ v b w h hv c hc hlk hl
        · exact w_therej epoch at_ v b w h hv c hc hlk hl
      · rw [hlk, if_neg (by simp), if_neg (by simp)]
        rcases hg with ⟨rfl, hl⟩ | ⟨rfl, hl⟩
        · rw [if_pos rfl, show at_.toNat = n by omega]; subst hn; exact w_newd epoch n v b w h hv hnn hc hlk hl
        · rw [if_neg (by decide), show at_.toNat = n by omega]; subst hn; exact w_newj epoch n v b w h hv hnn hc hlk hl
      · rw [hlk, if_pos rfl]
        rcases hg with ⟨rfl, hl⟩ | ⟨rfl, hl⟩
        · exact w_trimd epoch at_ v b w h hv hc hlk hl
        · exact w_trimj epoch at_ v b w h hv hc hlk hl
    · rw [if_neg hg]
      unfold goodCell at hg
      simp only [not_or, not_and] at hg
      obtain ⟨h1, h2⟩ := hg
      by_cases e1 : k = 1
      · subst e1; exact w_arg1 epoch at_ v b w h hv hc (by have := h1 rfl; omega)
      · by_cases e2 : k = 2
        · subst e2
          refine w_arg2 epoch at_ v b w h hv hc ?_
          cases b with
          | nil => exact absurd rfl (h2 rfl)
          | cons x l => simp
        · exact w_arg3 epoch at_ k v b w h hv hc e1 e2
  · rw [if_neg hc]
    exact w_ask epoch at_ k v b w h hv _ rfl hc
end Go.Proofs.Ytplhgeecnnadhaa
