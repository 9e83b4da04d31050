/- Keys of maps: pairs of whole numbers, texts. -/
import Derived.Test.YtplhgeecnnadhaaGMap
namespace Go.Proofs.Ytplhgeecnnadhaa
open Go.RowKit
section
variable {P : Program} {ke ie : TypeId}
structure IPair where
  fst : Int
  snd : Int
instance : DecidableEq IPair := fun x y =>
  if h : x.fst = y.fst ∧ x.snd = y.snd then .isTrue (by cases x; cases y; simp at h; simp [h]) else .isFalse (fun e => h (by subst e; exact ⟨rfl, rfl⟩))
theorem ipair_beq (a b : IPair) : (a == b) = ((a.fst == b.fst) && (a.snd == b.snd)) := by
  rw [Bool.eq_iff_iff]
  simp only [beq_iff_eq, Bool.and_eq_true]
  exact ⟨fun h => by subst h; exact ⟨rfl, rfl⟩, fun h => by cases a; cases b; simp at h; simp [h]⟩
def encP (p : IPair) : Value := .agg #[.int .i64 p.fst, .int .i64 p.snd]
theorem equal_pair (hke : P.underlying ke = some (.array 2 ie)) (hie : P.underlying ie = some (.int .i64)) (hsz : ∀ w, (sizeOf ie).run P w = .ok 1 w) (a b : IPair) (w : World)
    (hp : ∀ (x : Value) (xs : Array Value) (i : Nat) (w : World), xs[i]? = some x → (part ie xs i).run P w = .ok x w) :
    (Op.equal ke (encP a) (encP b)).run P w = .ok (a == b) w := by
  have h1 : ∀ (x y : Int) (w : World), (Op.equalIn 9999 ie (.int .i64 x) (.int .i64 y)).run P w = .ok (x == y) w := fun x y w => run_equalIn_int w 9998 ie .i64 .i64 x y hie
  rw [ipair_beq]
  unfold Op.equal Op.maxDepth encP
  rw [show (10000 : Nat) = 9999 + 1 from rfl, Op.equalIn]
  simp only [Sem.run_bind, run_underlying hke, Result.andThen_ok, hsz]
  have e0 := hp (.int .i64 a.fst) #[.int .i64 a.fst, .int .i64 a.snd] 0 w rfl
  have e1 := hp (.int .i64 a.snd) #[.int .i64 a.fst, .int .i64 a.snd] 1 w rfl
  have e2 := hp (.int .i64 b.fst) #[.int .i64 b.fst, .int .i64 b.snd] 0 w rfl
  have e3 := hp (.int .i64 b.snd) #[.int .i64 b.fst, .int .i64 b.snd] 1 w rfl
  obtain ⟨a1, a2⟩ := a
  obtain ⟨b1, b2⟩ := b
  simp only at *
  rw [Std.Legacy.Range.forIn_eq_forIn_range']
  rw [show List.range' ([:2] : Std.Legacy.Range).start ([:2] : Std.Legacy.Range).size ([:2] : Std.Legacy.Range).step = [0, 1] from rfl]
  simp only [List.forIn_cons, List.forIn_nil, Sem.run_bind, Nat.mul_one, e0, e2, h1, Result.andThen_ok, Sem.run_ite]
  cases g1 : (a1 == b1) with
  | false => simp
  | true =>
    simp only [Bool.not_true, Bool.false_eq_true, if_false, Sem.run_pure, Result.andThen_ok, Sem.run_bind, e1, e3, h1, Sem.run_ite]
    cases g2 : (a2 == b2) with
    | false => simp
    | true => simp
theorem encP_inj (a b : IPair) (h : encP a = encP b) : a = b := by
  cases a; cases b; simp [encP] at h; simp [h]
theorem pair_ok (hke : P.underlying ke = some (.array 2 ie)) (hie : P.underlying ie = some (.int .i64)) (hsz : ∀ w, (sizeOf ie).run P w = .ok 1 w)
    (hp : ∀ (x : Value) (xs : Array Value) (i : Nat) (w : World), xs[i]? = some x → (part ie xs i).run P w = .ok x w) : KeyOk (K := IPair) P ke encP := by
  refine ⟨encP_inj, fun k l kv w h => ?_, fun b k w => ?_, fun k => by simp [encP, Instr.sameBits]⟩
  · have ask : ∀ (l : List MapEntry) (kv : List (IPair × Value)) (i : Nat), l.map (fun e => (e.key, e.val)) = kv.map (fun p => (encP p.1, p.2)) →
        (Instr.findAsking ke (encP k) l i).run P w = .ok ((kv.findIdx? (fun p => p.1 == k)).map (fun j => (i + j, ((kv.find? (fun p => p.1 == k)).map Prod.snd).getD undef))) w := by
      intro l
      induction l with
      | nil => intro kv i h; cases kv with
        | nil => simp [Instr.findAsking]
        | cons p kv => simp at h
      | cons e l ih =>
        intro kv i h
        cases kv with
        | nil => simp at h
        | cons p kv =>
          simp only [List.map_cons, List.cons.injEq, Prod.mk.injEq] at h
          obtain ⟨⟨h1, h2⟩, h3⟩ := h
          simp only [Instr.findAsking, Sem.run_bind, h1, equal_pair hke hie hsz k p.1 w hp, Result.andThen_ok, Sem.run_ite]
          by_cases hk : k = p.1
          · have hk2 : (p.1 == k) = true := by simpa using hk.symm
            simp [hk, h2, List.findIdx?_cons]
          · have hk' : (k == p.1) = false := by simpa using hk
            have hk2 : (p.1 == k) = false := by simpa using fun e => hk e.symm
            simp only [hk', Bool.false_eq_true, if_false, ih kv (i + 1) h3, List.findIdx?_cons, List.find?_cons, hk2]
            cases hf : kv.findIdx? (fun p => p.1 == k) with
            | none => simp
            | some j => simp; omega
    unfold Instr.findKey
    rw [Sem.run_bind, run_underlying hke]
    simp only [Result.andThen_ok]
    cases l with
    | nil => cases kv with
      | nil => simp [Instr.findNow]
      | cons p kv => simp at h
    | cons e l =>
      have hn : Instr.findNow (.array 2 ie) (encP k) (e :: l) 0 = none := by
        simp [Instr.findNow, Instr.sameNow]
      rw [hn]
      have := ask (e :: l) kv 0 h
      simpa using this
  · rw [show (10000 : Nat) = 9999 + 1 from rfl, Instr.checkKey]
    simp only [Sem.run_bind, run_underlying hke, Result.andThen_ok, encP]
    rw [Std.Legacy.Range.forIn_eq_forIn_range']
    rw [show List.range' ([:2] : Std.Legacy.Range).start ([:2] : Std.Legacy.Range).size ([:2] : Std.Legacy.Range).step = [0, 1] from rfl]
    have e0 := hp (.int .i64 k.fst) #[.int .i64 k.fst, .int .i64 k.snd] 0 w rfl
    have e1 := hp (.int .i64 k.snd) #[.int .i64 k.fst, .int .i64 k.snd] 1 w rfl
    have c1 : ∀ (x : Int) (w : World), (Instr.checkKey b 9999 ie (.int .i64 x)).run P w = .ok () w := fun x w => run_checkKey_int hie b 9998 _ w
    simp only [List.forIn_cons, List.forIn_nil, Sem.run_bind, Nat.mul_one, e0, e1, Result.andThen_ok, c1, Sem.run_pure, hsz, Nat.zero_mul]
end
def SKey : Type := List UInt8
instance : DecidableEq SKey := inferInstanceAs (DecidableEq (List UInt8))
def encS (k : SKey) : Value := .string ⟨⟨k⟩⟩
theorem encS_inj (a b : SKey) (h : encS a = encS b) : a = b := by
  unfold encS at h
  injection h with h
  injection h with h
  injection h with h
theorem beqS (a b : SKey) : ((⟨⟨a⟩⟩ : ByteArray) == ⟨⟨b⟩⟩) = (a == b) := by
  have h : ((⟨⟨a⟩⟩ : ByteArray) == ⟨⟨b⟩⟩) = ((⟨a⟩ : Array UInt8) == ⟨b⟩) := rfl
  rw [h, Bool.eq_iff_iff, beq_iff_eq]
  constructor
  · intro e; injection e with e; subst e; simp
  · intro e; have := beq_iff_eq.1 e; subst this; rfl
theorem sameS (a b : SKey) : Instr.sameNow .string (encS a) (encS b) = some (a == b) := by
  simp only [Instr.sameNow, encS, beqS]
theorem findNow_str (k : SKey) : ∀ (l : List MapEntry) (kv : List (SKey × Value)) (i : Nat), l.map (fun e => (e.key, e.val)) = kv.map (fun p => (encS p.1, p.2)) →
    Instr.findNow .string (encS k) l i = some ((kv.findIdx? (fun p => p.1 == k)).map (fun j => (i + j, ((kv.find? (fun p => p.1 == k)).map Prod.snd).getD undef)))
  | [], kv, i, h => by
    cases kv with
    | nil => simp [Instr.findNow]
    | cons p kv => simp at h
  | e :: l, kv, i, h => by
    cases kv with
    | nil => simp at h
    | cons p kv =>
      simp only [List.map_cons, List.cons.injEq, Prod.mk.injEq] at h
      obtain ⟨⟨h1, h2⟩, h3⟩ := h
      by_cases hk : p.1 = k
      · simp [Instr.findNow, h1, h2, hk, List.findIdx?_cons, sameS]
      · have hk' : (k == p.1) = false := by simpa using fun (e : k = p.1) => hk e.symm
        have hk2 : (p.1 == k) = false := by simpa using hk
        have ih := findNow_str k l kv (i + 1) h3
        simp only [Instr.findNow, sameS, h1, hk', ih, List.findIdx?_cons, List.find?_cons, hk2]
        cases hf : kv.findIdx? (fun p => p.1 == k) with
        | none => simp
        | some j => simp; omega
theorem str_ok {P : Program} {ke : TypeId} (hke : P.underlying ke = some .string) : KeyOk (K := SKey) P ke encS := by
  refine ⟨encS_inj, fun k l kv w h => ?_, fun b k w => ?_, fun k => by simp [Instr.sameBits, encS, beqS]⟩
  · unfold Instr.findKey
    rw [Sem.run_bind, run_underlying hke]
    simp only [Result.andThen_ok]
    rw [findNow_str k l kv 0 h]
    simp
  · rw [show (10000 : Nat) = 9999 + 1 from rfl]
    unfold Instr.checkKey
    rw [Sem.run_bind, run_underlying hke]
    rfl
end Go.Proofs.Ytplhgeecnnadhaa
