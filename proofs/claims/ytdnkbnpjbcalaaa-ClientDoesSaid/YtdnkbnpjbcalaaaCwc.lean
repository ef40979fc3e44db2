/- A client that is none, and one that has no servers: going over, what is kept. -/
import Derived.Test.YtdnkbnpjbcalaaaCwb
namespace Go.Proofs.Ytdnkbnpjbcalaaa
open Go.RowKit

set_option maxRecDepth 100000 in
theorem none_over (w : World) : Calls Try.prog 12 #[.pointer none] w fun e w' => e = .returned (.int .i64 10) ∧ Below w.heap.size w w' := by
  go_enter Try.func12, Try.ntmps12
  go_wp2
  go_ret
  exact ⟨rfl, Below.refl _ _⟩
set_option maxRecDepth 100000 in
theorem bare_over (w : World) (c : Nat) (h : Bare w c 0) : Calls Try.prog 12 #[.pointer (some ⟨c, 0, none⟩)] w fun e w' => e = .returned (.int .i64 10) ∧ Bare w' c 1 ∧ w.grownBy w' (some c) := by
  have c2 := h.cell (i := 2) rfl
  have f2 := h.free 2
  obtain ⟨w1, hw1⟩ : ∃ w1, w.setCell ⟨c, 2, none⟩ (.int .i64 1) = w1 := ⟨_, rfl⟩
  have h1 : Bare w1 c 1 := by rw [← hw1]; exact h.set 2 _
  have f4 := h1.free 4
  have c4 := h1.cell (i := 4) rfl
  obtain ⟨w2, hw2⟩ : ∃ w2, w1.setCell ⟨c, 4, none⟩ (.slice none 0 0) = w2 := ⟨_, rfl⟩
  have H2 := Lib.hid (show Bare w2 c 1 from by rw [← hw2]; exact h1.set 4 _)
  have HG := Lib.hid (show w.grownBy w2 (some c) from by
    have g1 := grown_set (w := w) (b := c) 2 (.int .i64 1)
    rw [hw1] at g1
    have g2 := grown_set (w := w1) (b := c) 4 (.slice none 0 0)
    rw [hw2] at g2
    exact grown_trans g1 g2)
  clear h h1
  go_enter Try.func12, Try.ntmps12
  go_wp2_with fail
  refine (bare_server _ c 1 H2.out (by omega)).mono ?_
  rintro e w3 ⟨rfl, hb3⟩
  have H3 := Lib.hid (H2.out.below hb3 H2.out.lt)
  have HG3 := Lib.hid (show w.grownBy w3 (some c) from grown_trans HG.out (grown_below hb3 _))
  clear hb3
  go_wp2
  go_ret
  exact ⟨rfl, H3.out, HG3.out⟩
set_option maxRecDepth 100000 in
theorem none_kept (w : World) : Calls Try.prog 11 #[.pointer none] w fun e w' => e = .returned (.slice none 0 0) ∧ Below w.heap.size w w' := by
  go_enter Try.func11, Try.ntmps11
  go_wp2
  go_ret
  exact ⟨rfl, Below.refl _ _⟩
end Go.Proofs.Ytdnkbnpjbcalaaa
