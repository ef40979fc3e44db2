/- A client: made, asked where it is. -/
import Derived.Test.YtdnkbnpjbcalaaaCba
namespace Go.Proofs.Ytdnkbnpjbcalaaa
open Go.RowKit

/-- A client at a block: its servers, which is used, what is kept, which flushes wait. -/
abbrev ClBox (w : World) (c : Nat) (s0 s1 : Value) (at_ : Nat) (kept waits : Value) : Prop := Blk w c #[s0, s1, .int .i64 at_, kept, waits] 67

/-- A server as a client holds it: none, or a tape. -/
def srv : Option Nat → Value
  | none => .nilIface
  | some b => .iface 27 (.pointer (some ⟨b, 0, none⟩))
set_option maxRecDepth 100000 in
theorem cl_new (s0 s1 : Option Nat) (w : World) : Calls Try.prog 8 #[srv s0, srv s1] w fun e w' => e = .returned (.pointer (some ⟨w.heap.size, 0, none⟩)) ∧ w.alloc (.cells #[srv s0, srv s1, .int .i64 0, .slice none 0 0, .slice none 0 0] 67) = w' := by
  cases s0 <;> cases s1
  all_goals
    unfold srv
    go_enter Try.func8, Try.ntmps8
    go_wp2
    go_ret
    exact ⟨rfl, rfl⟩

set_option maxRecDepth 100000 in
theorem cl_at (w : World) (c : Nat) (s0 s1 : Value) (at_ : Nat) (kept waits : Value) (h : ClBox w c s0 s1 at_ kept waits) :
    Calls Try.prog 13 #[.pointer (some ⟨c, 0, none⟩)] w fun e w' => e = .returned (.int .i64 at_) ∧ w = w' := by
  have c2 := h.cell (i := 2) rfl
  clear h
  go_enter Try.func13, Try.ntmps13
  go_wp2
  go_ret
  exact ⟨rfl, rfl⟩
set_option maxRecDepth 100000 in
theorem cl_at_nil (w : World) : Calls Try.prog 13 #[.pointer none] w fun e w' => e = .returned (.int .i64 0) ∧ w = w' := by
  go_enter Try.func13, Try.ntmps13
  go_wp2
  go_ret
  exact ⟨rfl, rfl⟩
set_option maxRecDepth 100000 in
theorem cl_server_nil (w : World) : Calls Try.prog 21 #[.pointer none] w fun e w' => e = .returned .nilIface ∧ w = w' := by
  go_enter Try.func21, Try.ntmps21
  go_wp2
  go_ret
  exact ⟨rfl, rfl⟩
set_option maxRecDepth 100000 in
theorem cl_server0 (w : World) (c : Nat) (s0 s1 : Value) (kept waits : Value) (h : ClBox w c s0 s1 0 kept waits) :
    Calls Try.prog 21 #[.pointer (some ⟨c, 0, none⟩)] w fun e w' => e = .returned s0 ∧ ∃ n, w' = w.drewN n := by
  have c0 := h.cell (i := 0) rfl
  have c2 := h.cell (i := 2) rfl
  clear h
  go_enter Try.func21, Try.ntmps21
  go_wp2
  go_quiet (fail)
  go_wp2
  go_ret
  exact ⟨rfl, _, rfl⟩
end Go.Proofs.Ytdnkbnpjbcalaaa
