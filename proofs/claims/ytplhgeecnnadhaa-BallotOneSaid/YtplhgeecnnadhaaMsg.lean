/- Messages as values; what rpc.Reply gives. -/
import Derived.Test.YtplhgeecnnadhaaBase
namespace Go.Proofs.Ytplhgeecnnadhaa
open Go.RowKit
/-- a message's cells -/
structure Msg where
  src : Int := 0
  dst : Int := 0
  num : Int := 0
  reply : Bool := false
  kind : Int := 0
  epoch : Int := 0
  at_ : Int := 0
  what : Int := 0
  data : Value := .slice none 0 0
  round : Int := 0
  who : Int := 0
  value : Value := .slice none 0 0
  err : Int := 0
  tail : Int := 0
  low : Int := 0
  back : Int := 0
def Msg.val (m : Msg) : Value := .agg #[.int .i64 m.src, .int .i64 m.dst, .int .i64 m.num, .bool m.reply, .int .i64 m.kind, .int .i64 m.epoch, .int .i64 m.at_, .int .i64 m.what, m.data, .int .i64 m.round, .int .i64 m.who, m.value, .int .i64 m.err, .int .i64 m.tail, .int .i64 m.low, .int .i64 m.back]
def Msg.answer (m : Msg) (e : Int) : Msg := { src := m.dst, dst := m.src, num := m.num, reply := true, kind := m.kind, epoch := m.epoch, at_ := m.at_, err := e }
/-- a value of one cell that is no struct: what the walk must see of a slice in a field -/
def IsSlice (v : Value) : Prop := ∃ a n c, v = .slice a n c

set_option maxHeartbeats 400000 in
theorem reply_any (m : Msg) (e : Int) (w : World) (h1 : IsSlice m.data) (h2 : IsSlice m.value) :
    Calls Try.prog 81 #[m.val, .int .i64 e] w fun r w' => r = .returned (m.answer e).val ∧ Upd NoF w w' := by
  obtain ⟨a1, n1, k1, h1⟩ := h1
  obtain ⟨a2, n2, k2, h2⟩ := h2
  obtain ⟨src, dst, num, reply, kind, epoch, at_, what, data, round, who, value, err, tail, low, back⟩ := m
  simp only at h1 h2
  subst h1 h2
  unfold Msg.answer Msg.val
  go_enter Try.func81, Try.ntmps81
  go_wp2_with fail
  refine bodyPost_ret (v := .agg #[.int .i64 dst, .int .i64 src, .int .i64 num, .bool true, .int .i64 kind, .int .i64 epoch, .int .i64 at_, .int .i64 0, .slice none 0 0, .int .i64 0, .int .i64 0, .slice none 0 0, .int .i64 e, .int .i64 0, .int .i64 0, .int .i64 0]) ?_ rfl ?_
  · refine results_c (rfl) _ _ _ 56 _ (0, 0) _ rfl (blk_newn (by simp) _) Try.underlying56 rfl (by kernel_rfl)
  · exact ⟨rfl, ((Upd.refl _ _).alloc _).alloc _⟩
end Go.Proofs.Ytplhgeecnnadhaa
