/- Rows of one's own: a slice that is appended to. -/
import Derived.Test.YtplhgeecnnadhaaBase
import Derived.ArgAppend
namespace Go.Proofs.Ytplhgeecnnadhaa
open Go.RowKit
variable {F G : Nat → Prop} {w w1 : World} {e : TypeId} {sz n : Nat} {v : Value} {xs : List Value}
/-- v is a row of one's own of n elements: its cells are xs; where it has a block, that is in F -/
def Row (w : World) (F : Nat → Prop) (e : TypeId) (sz : Nat) (v : Value) (n : Nat) (xs : List Value) : Prop := w.ownsRow 0 e sz v n xs ∧ ∀ k, v.ownBlock = some k → F k
theorem Row.lt (h : Row w F e sz v n xs) : ∀ k, v.ownBlock = some k → k < w.heap.size := fun k hk => (h.1.lt k hk).2
theorem Row.upd (h : Row w F e sz v n xs) (hu : Upd G w w1) (hn : ∀ k, F k → ¬ G k) : Row w1 F e sz v n xs := by
  refine ⟨⟨h.1.1, ?_⟩, h.2⟩
  rcases h.1.2 with hv | ⟨g, cap, cur, rfl, hb, hg, rest⟩
  · exact .inl hv
  · exact .inr ⟨g, cap, cur, rfl, hb, hu.blk hg (hn g (h.2 g rfl)), rest⟩
theorem Row.mono (h : Row w F e sz v n xs) (hF : ∀ k, F k → G k) : Row w G e sz v n xs := ⟨h.1, fun k hk => hF k (h.2 k hk)⟩
theorem Row.bound (h : Row w F e sz v n xs) : Row w (fun k => F k ∧ k < w.heap.size) e sz v n xs := ⟨h.1, fun k hk => ⟨h.2 k hk, h.lt k hk⟩⟩
theorem Row.nil (w : World) (F : Nat → Prop) (e : TypeId) (sz : Nat) : Row w F e sz (.slice none 0 0) 0 [] := ⟨World.ownsRow_nil w 0 e sz, fun k hk => by simp [Value.ownBlock] at hk⟩
theorem Row.slice (h : Row w F e sz v n xs) : ∃ a c, v = .slice a n c ∧ n ≤ c ∧ xs.length = n * sz ∧ (a = none → n = 0 ∧ c = 0) ∧ ∀ x, a = some x → x = ⟨x.block, 0, none⟩ ∧ F x.block := by
  rcases h.1.2 with ⟨rfl, rfl⟩ | ⟨g, cap, cur, rfl, hb, hg, hnc, rest⟩
  · exact ⟨none, 0, rfl, Nat.le_refl _, h.1.1, (fun _ => ⟨rfl, rfl⟩), (fun _ h => by cases h)⟩
  · exact ⟨_, cap, rfl, hnc, h.1.1, (fun h => by cases h), (fun x hx => by cases hx; exact ⟨rfl, h.2 g rfl⟩)⟩
theorem Row.cell {g c : Nat} (h : Row w F e sz (.slice (some ⟨g, 0, none⟩) n c) n xs) (j : Nat) {u : Value} (hj : xs[j]? = some u) : w.cell? ⟨g, j, none⟩ = some u := by
  have := h.1.cells (g := g) rfl j u hj
  rwa [show (⟨g, 0, none⟩ : Addr).add j = ⟨g, j, none⟩ by unfold Addr.add; split <;> simp_all] at this
theorem Row.free {g c : Nat} (h : Row w F e sz (.slice (some ⟨g, 0, none⟩) n c) n xs) (j : Nat) : w.frozen? ⟨g, j, none⟩ = false := by
  rcases h.1.2 with ⟨hv, _⟩ | ⟨g', cap, cur, hv, hb, hg, _⟩
  · cases hv
  · cases hv; exact blk_free hg j
section
variable {P : Program}
/-- append: in its place, or in a new one -/
theorem Row.run_append (h : Row w F e sz v n xs) (t ty : TypeId) (i : TypeInfo) (z : Value) (bytes : Nat) (ht : P.underlying t = some (.slice e)) (hi : P.info? e = some i) (hz : i.zero = some z)
    (hsize : i.size = sz) (hby : i.bytes = bytes) (hzs : z.cells.size = sz) (hsz : 0 < sz)
    (ad : Addr) (m c : Nat) (news : List Value) (hl : news.length = m * sz) (hnews : ∀ j u, news[j]? = some u → w.cell? (ad.add j) = some u) (h1 : ∀ u ∈ news, u.oneCell' = true)
    (h63 : n + m ≤ maxLen) (hbytes : (n + m) * bytes ≤ 140737488355328) :
    ∃ v' w', (Builtin.append_ #[t, t] ty #[v, .slice (some ad) m c]).run P w = .ok v' w' ∧ Row w' (fun k => F k ∨ w.heap.size ≤ k) e sz v' (n + m) (xs ++ news) ∧ Upd (fun k => v.ownBlock = some k) w w' ∧
      (∀ k, v'.ownBlock = some k → v.ownBlock = some k ∨ w.heap.size ≤ k) := by
  have base : ∀ {w' : World} {b : Nat} {v' : Value} {n' : Nat} {xs' : List Value}, w'.ownsRow b e sz v' n' xs' → w'.ownsRow 0 e sz v' n' xs' ∧ ∀ k, v'.ownBlock = some k → b ≤ k := fun h => by
    refine ⟨⟨h.1, ?_⟩, fun k hk => (h.lt k hk).1⟩
    rcases h.2 with hv | ⟨g, cap, cur, hv, hb, rest⟩
    · exact .inl hv
    · exact .inr ⟨g, cap, cur, hv, Nat.zero_le _, rest⟩
  rcases h.1.2 with ⟨rfl, rfl⟩ | ⟨g, cap, cur, rfl, hb, hg, hnc, hcm, hcs, htk⟩
  · obtain rfl : xs = [] := List.eq_nil_of_length_eq_zero (by simpa using h.1.1)
    obtain ⟨v', w', hrun, r1, r2, _⟩ := run_append_own (P := P) w w.heap.size t ty e i z sz bytes ht hi hz hsize hby hzs hsz (.slice none 0 0) 0 [] (World.ownsRow_nil w _ e sz) ad m c news hl hnews h1 h63 hbytes (Nat.le_refl _)
    obtain ⟨b1, b2⟩ := base r1
    exact ⟨v', w', hrun, ⟨b1, fun k hk => .inr (b2 k hk)⟩, Upd.of_grown r2 (fun k hk => by simp [Value.ownBlock] at hk), fun k hk => .inr (b2 k hk)⟩
  · by_cases hroom : n + m ≤ cap
    · obtain ⟨w', hrun, r1, r2⟩ := run_append_fits (P := P) w 0 t ty e i sz ht hi hsize g n cap xs h.1 ad m c news hl hnews h1 hroom
      exact ⟨_, w', hrun, ⟨r1, fun k hk => .inl (h.2 k (by simpa [Value.ownBlock] using hk))⟩, Upd.of_grown r2 (fun k hk => by simpa [Value.ownBlock] using hk), fun k hk => .inl (by simpa [Value.ownBlock] using hk)⟩
    · obtain ⟨v', w', hrun, r1, r2⟩ := run_append_arg_grows (P := P) w t ty e i z sz bytes ht hi hz hsize hby hzs hsz ⟨g, 0, none⟩ n cap xs h.1.1 (fun j u hj => h.1.cells (g := g) rfl j u hj) ad m c news hl hnews (by omega) h63 hbytes
      obtain ⟨b1, b2⟩ := base r1
      exact ⟨v', w', hrun, ⟨b1, fun k hk => .inr (b2 k hk)⟩, Upd.of_grown r2 (fun k hk => by cases hk), fun k hk => .inr (b2 k hk)⟩
theorem wp_append_row {o : Oper} {a : Act} {K : Act → World → Prop} {Q : Exit → Act → World → Prop} (s x : Operand) (t : TypeId) (ho : o.op = .call { callee := .builtin .append, args := #[s, x], argTypes := #[t, t] })
    (e : TypeId) (i : TypeInfo) (z : Value) (sz bytes : Nat) (ht : P.underlying t = some (.slice e)) (hi : P.info? e = some i) (hz : i.zero = some z) (hsize : i.size = sz) (hby : i.bytes = bytes) (hzs : z.cells.size = sz) (hsz : 0 < sz)
    {v : Value} {n : Nat} {xs : List Value} (hs : a.eval s = v) (h : Row w F e sz v n xs)
    (ad : Addr) (m c : Nat) (news : List Value) (hx : a.eval x = .slice (some ad) m c) (hl : news.length = m * sz) (hnews : ∀ j u, news[j]? = some u → w.cell? (ad.add j) = some u) (h1 : ∀ u ∈ news, u.oneCell' = true)
    (h63 : n + m ≤ maxLen) (hbytes : (n + m) * bytes ≤ 140737488355328)
    (hK : ∀ v' w', Row w' (fun k => F k ∨ w.heap.size ≤ k) e sz v' (n + m) (xs ++ news) → Upd (fun k => v.ownBlock = some k) w w' → (∀ k, v'.ownBlock = some k → v.ownBlock = some k ∨ w.heap.size ≤ k) → K (a.put o.dst v') w') : o.wp P a w K Q := by
  obtain ⟨v', w', hrun, r1, r2, r3⟩ := h.run_append (P := P) t o.type i z bytes ht hi hz hsize hby hzs hsz ad m c news hl hnews h1 h63 hbytes
  unfold Oper.wp
  simp [execOp, ho, resolve, invoke, builtin, hs, hx, hrun, Result.andThen]
  exact hK v' w' r1 r2 r3
theorem wpList_append_row {ops : Array Oper} {rest : List Oper} {o : Oper} {a : Act} {Q : Exit → Act → World → Prop} (hgd : o.guard = none) (s x : Operand) (t : TypeId) (ho : o.op = .call { callee := .builtin .append, args := #[s, x], argTypes := #[t, t] })
    (e : TypeId) (i : TypeInfo) (z : Value) (sz bytes : Nat) (ht : P.underlying t = some (.slice e)) (hi : P.info? e = some i) (hz : i.zero = some z) (hsize : i.size = sz) (hby : i.bytes = bytes) (hzs : z.cells.size = sz) (hsz : 0 < sz)
    {v : Value} {n : Nat} {xs : List Value} (hs : a.eval s = v) (h : Row w F e sz v n xs)
    (ad : Addr) (m c : Nat) (news : List Value) (hx : a.eval x = .slice (some ad) m c) (hl : news.length = m * sz) (hnews : ∀ j u, news[j]? = some u → w.cell? (ad.add j) = some u) (h1 : ∀ u ∈ news, u.oneCell' = true)
    (h63 : n + m ≤ maxLen) (hbytes : (n + m) * bytes ≤ 140737488355328)
    (hK : ∀ v' w', Row w' (fun k => F k ∨ w.heap.size ≤ k) e sz v' (n + m) (xs ++ news) → Upd (fun k => v.ownBlock = some k) w w' → (∀ k, v'.ownBlock = some k → v.ownBlock = some k ∨ w.heap.size ≤ k) → wpList P ops Q rest (a.put o.dst v') w') : wpList P ops Q (o :: rest) a w :=
  wpList_plain hgd fun _ hK' => wp_append_row s x t ho e i z sz bytes ht hi hz hsize hby hzs hsz hs h ad m c news hx hl hnews h1 h63 hbytes (fun v' w' r1 r2 r3 => hK' _ _ (hK v' w' r1 r2 r3))
end
end Go.Proofs.Ytplhgeecnnadhaa
