/- The unit: its pages as data; opened. -/
import Derived.Test.YtplhgeecnnadhaaUnitH
namespace Go.Proofs.Ytplhgeecnnadhaa
open Go.RowKit
variable {F G D : Nat → Prop} {w w1 w2 : World} {u d p : Nat} {s : US} {ds : DS}
inductive UPage where
  | dat (n : Nat) (b : List UInt8)
  | jnk (n : Nat)
  | trm (n : Nat)
  | sea (n : Nat)
  | pro (n r q : Nat)
  | acc (n r q : Nat) (b : List UInt8)
namespace UPage
def enc : UPage → List UInt8
  | dat n b => 1 :: (beBytes n 8 ++ (beBytes b.length 4 ++ b))
  | jnk n => 2 :: beBytes n 8
  | trm n => 3 :: beBytes n 8
  | sea n => 4 :: beBytes n 8
  | pro n r q => 5 :: (beBytes n 8 ++ (beBytes r 8 ++ beBytes q 8))
  | acc n r q b => 6 :: (beBytes n 8 ++ (beBytes r 8 ++ (beBytes q 8 ++ (beBytes b.length 4 ++ b))))
def ok : UPage → Prop
  | dat n b => n ≤ 4294967296 ∧ b.length ≤ 65536
  | jnk n => n ≤ 4294967296
  | trm n => n ≤ 4294967296
  | sea n => n ≤ 2147483647
  | pro n r q => 0 < n ∧ n ≤ 2147483647 ∧ r ≤ 2147483647 ∧ q ≤ 2147483647
  | acc n r q b => 0 < n ∧ n ≤ 2147483647 ∧ r ≤ 2147483647 ∧ q ≤ 2147483647 ∧ b.length ≤ 1000
end UPage
def US.app (s : US) : UPage → US
  | .dat n b => s.cell n (1, b)
  | .jnk n => s.cell n (2, [])
  | .trm n => { s with low := n }
  | .sea n => { s with e := n }
  | .pro n r q => s.put n { s.at_ n with pr := ⟨r, q⟩ }
  | .acc n r q b => s.put n ⟨⟨r, q⟩, ⟨r, q⟩, b⟩
theorem page_any (p : UPage) (v : Value) (w : World) (h : UnitAt w F u d s) (hv : Bytes w G v p.enc) (hp : p.ok) :
    Calls Try.prog 84 #[.pointer (some ⟨u, 0, none⟩), v] w (fun r w' => r = .returned (.bool true) ∧ Unit2 F u d (s.app p) w w') := by
  cases p with
  | dat n b => exact page_data n b v w h hv hp.1 hp.2
  | jnk n => exact page_junk n v w h hv hp
  | trm n => exact page_trim n v w h hv hp
  | sea n => exact page_seal n v w h hv hp
  | pro n r q => exact page_promise n r q v w h hv hp.1 hp.2.1 hp.2.2.1 hp.2.2.2
  | acc n r q b => exact page_accept n r q b v w h hv hp.1 hp.2.1 hp.2.2.1 hp.2.2.2.1 hp.2.2.2.2
def us0 : US := ⟨0, 0, 0, fun _ => none, fun _ => none⟩
def replay (ps : List UPage) : US := ps.foldl US.app us0
def OpenRel (w2 : World) (B d u : Nat) (ps : List UPage) (i : Value) (wr : World) : Prop := ∃ k : Nat, k ≤ ps.length ∧ i = .int .i64 k ∧ Unit2 (fun q => B ≤ q ∧ q < B + 3) u d (replay (ps.take k)) w2 wr
theorem open_start {x y : Nat} (W : World) (hW : W.heap.size = w.heap.size + 3) (hb : W.heap[w.heap.size + 2]? = some (.cells #[.pointer (some ⟨d, 0, none⟩), .int .i64 0, .int .i64 0, .int .i64 0, .map (some x), .map (some y)] 149 (0, 0)))
    (hx : W.heap[x]? = some (.map #[] 0)) (hy : W.heap[y]? = some (.map #[] 0)) (h1 : w.heap.size ≤ x) (h2 : x < w.heap.size + 2) (h3 : w.heap.size ≤ y) (h4 : y < w.heap.size + 2) (h5 : x ≠ y) :
    UnitAt W (fun q => w.heap.size ≤ q ∧ q < w.heap.size + 3) (w.heap.size + 2) d us0 :=
  ⟨fun k hk => by omega, x, y, hb, ⟨by omega, by omega, by omega, by omega, by omega, h5⟩, ⟨[], ⟨#[], 0, hx, by simp, by simp, by simp, by simp⟩, fun k v hk => by simp [kvGet] at hk, fun k _ => rfl⟩, ⟨[], ⟨#[], 0, hy, by simp, by simp, by simp, by simp⟩, fun k v hk => by simp [kvGet] at hk, fun k _ => rfl⟩⟩
/-- a unit that was opened: it lies in new blocks -/
def OpenQ (d : Nat) (ps : List UPage) (w : World) (r : Ending) (w' : World) : Prop := ∃ u F', r = .returned (.tuple #[.pointer (some ⟨u, 0, none⟩), .int .i64 0]) ∧ UnitAt w' F' u d (replay ps) ∧ (∀ k, F' k → w.heap.size ≤ k) ∧ Upd NoF w w'
theorem alloc3 (w : World) (a b c : Obj) : w.heap.size + 3 = (((w.alloc a).alloc b).alloc c).heap.size := by simp
def OpenCut (w : World) (d : Nat) (v : Value) (W : World) : Prop := v = .pointer (some ⟨w.heap.size + 1 + 1, 0, none⟩) ∧ UnitAt W (fun q => w.heap.size ≤ q ∧ q < w.heap.size + 3) (w.heap.size + 1 + 1) d us0 ∧ Upd NoF w W
theorem open_cut (x y : Nat) (h1 : (x = w.heap.size ∧ y = w.heap.size + 1) ∨ (x = w.heap.size + 1 ∧ y = w.heap.size)) :
    OpenCut w d (.pointer (some ⟨w.heap.size + 1 + 1, 0, none⟩)) (((w.alloc (.map #[] 0)).alloc (.map #[] 0)).alloc (.cells #[.pointer (some ⟨d, 0, none⟩), .int .i64 0, .int .i64 0, .int .i64 0, .map (some x), .map (some y)] 149)) := by
  have a0 := alloc_size w (.map #[] 0)
  have a1 := alloc_size (w.alloc (.map #[] 0)) (.map #[] 0)
  have a2 := alloc_size ((w.alloc (.map #[] 0)).alloc (.map #[] 0)) (.cells #[.pointer (some ⟨d, 0, none⟩), .int .i64 0, .int .i64 0, .int .i64 0, .map (some x), .map (some y)] 149)
  have b0 := blk_alloc (blk_alloc (blk_new w (.map #[] 0)) (.map #[] 0)) (.cells #[.pointer (some ⟨d, 0, none⟩), .int .i64 0, .int .i64 0, .int .i64 0, .map (some x), .map (some y)] 149)
  have b1 := blk_alloc (blk_newn (w := w.alloc (.map #[] 0)) (n := w.heap.size + 1) a0 (.map #[] 0)) (.cells #[.pointer (some ⟨d, 0, none⟩), .int .i64 0, .int .i64 0, .int .i64 0, .map (some x), .map (some y)] 149)
  have b2 := blk_newn (w := (w.alloc (.map #[] 0)).alloc (.map #[] 0)) (n := w.heap.size + 2) (by omega) (.cells #[.pointer (some ⟨d, 0, none⟩), .int .i64 0, .int .i64 0, .int .i64 0, .map (some x), .map (some y)] 149)
  refine ⟨rfl, ?_, (((Upd.refl _ _).alloc _).alloc _).alloc _⟩
  rcases h1 with ⟨rfl, rfl⟩ | ⟨rfl, rfl⟩
  · exact open_start _ (by omega) b2 b0 b1 (by omega) (by omega) (by omega) (by omega) (by omega)
  · exact open_start _ (by omega) b2 b1 b0 (by omega) (by omega) (by omega) (by omega) (by omega)
set_option maxRecDepth 100000 in
set_option maxHeartbeats 4000000 in
theorem u_open (ps : List UPage) (w : World) (h : DevAt w D d ds) (hw : ds.whole = ps.map UPage.enc) (hok : ∀ p ∈ ps, p.ok) (hln : ps.length ≤ 1000000) :
    Calls Try.prog 40 #[.pointer (some ⟨d, 0, none⟩)] w (OpenQ d ps w) := by
  have HD := Lib.hid h
  have HW := Lib.hid (And.intro hw hok)
  have HL := Lib.hid hln
  clear h hw hok hln
  have hmm := @run_makeMap Try.prog
  go_enter Try.func40, Try.ntmps40
  go_wp2_with fail
  have U0 := Lib.hid (open_cut (w := w) (d := d) w.heap.size (w.heap.size + 1) (.inl ⟨rfl, rfl⟩)).2
  have HP := Lib.hid (dev_pages _ (HD.out.upd U0.out.2 (fun _ _ h => h)))
  refine HP.out.mono ?_
  rintro r w2 ⟨v, rfl, b2, u2⟩
  rw [HW.out.1] at b2
  obtain ⟨a, c, rfl, hc⟩ := b2.slice
  rw [List.length_map]
  have B2 := Lib.hid b2
  have U2 := Lib.hid u2
  have HN := Lib.hid (U0.out.1.upd u2 (fun _ _ h => h))
  have HU2 := Lib.hid (U0.out.2.then0 u2)
  have HZ := Lib.hid (alloc3 w (.map #[] 0) (.map #[] 0) (.cells #[.pointer (some ⟨d, 0, none⟩), .int .i64 0, .int .i64 0, .int .i64 0, .map (some w.heap.size), .map (some (w.heap.size + 1))] 149))
  have hl := HL.out
  clear b2 u2 hc hmm
  go_wp2_with fail
  go_loopw [15] (OpenRel w2 w.heap.size d (w.heap.size + 1 + 1) ps) (fun i _ => ps.length - (intOf i).toNat)
  case atStart => exact ⟨0, Nat.zero_le _, rfl, _, HN.out, (Upd.refl _ _ : Upd _ _ _), fun k hk => .inl hk⟩
  case round =>
    obtain ⟨k, hk, rfl, F1, h1, u1, f1⟩ := hrel
    have H1 := Lib.hid h1
    have U1 := Lib.hid (And.intro u1 f1)
    clear h1 u1 f1
    by_cases hlt : k < ps.length
    · obtain ⟨g, o, hA, _, hcell⟩ := (B2.out.upd (UpdN.upd U1.out.1) (fun q hq h => by have := HZ.out; omega)).at_ (by intro e; simp at e; subst e; simp at hlt)
      obtain ⟨va, vc, e1, x1⟩ := hcell k (by simpa using hlt)
      subst hA
      rw [List.getElem_map] at e1 x1
      have X1 := Lib.hid x1
      have HPG := Lib.hid (page_any ps[k] _ wr H1.out x1 (HW.out.2 _ (List.getElem_mem hlt)))
      have hs : replay (ps.take (k + 1)) = (replay (ps.take k)).app ps[k] := by
        unfold replay; rw [List.take_succ_eq_append_getElem hlt, List.foldl_append]; rfl
      have HS := Lib.hid hs
      generalize (UPage.enc ps[k]).length = n9 at *
      clear hcell x1 hs
      go_wp2_with fail
      refine HPG.out.mono ?_
      rintro r w3 ⟨rfl, F3, h3, u3, f3⟩
      have H3 := Lib.hid (And.intro h3 (And.intro u3 f3))
      clear h3 u3 f3
      go_wp2_with fail
      refine ⟨⟨k + 1, hlt, rfl, F3, by rw [HS.out]; exact H3.out.1, ?_, ?_⟩, by simp [intOf]; omega⟩
      · exact UpdN.andThen U1.out.1 H3.out.2.1 (fun q hq h => (U1.out.2 q h).elim (fun h => h) (fun h => by omega))
      · intro q hq
        rcases H3.out.2.2 q hq with h | h
        · exact U1.out.2 q h
        · have := U1.out.1.size; exact .inr (by omega)
    · obtain rfl : k = ps.length := by omega
      rw [List.take_length] at H1
      go_wp2_with fail
      go_ret2
      have hz := HU2.out.size
      refine ⟨_, _, rfl, H1.out, fun q hq => (U1.out.2 q hq).elim (fun h => h.1) (fun h => by omega), HU2.out.trans (UpdN.upd U1.out.1) (fun q hq h => by omega)⟩
end Go.Proofs.Ytplhgeecnnadhaa
