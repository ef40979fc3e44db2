/- ClientNone: whatever it is given, it answers true. -/
import Derived.Test.YtdnkbnpjbcalaaaCwq
namespace Go.Proofs.Ytdnkbnpjbcalaaa
open Go.RowKit

theorem bare_at {w : World} {c a : Nat} (h : Bare w c a) (ha : a ≤ 1) : ClAt w c c none none ⟨a, .slice none 0 0, [], .slice none 0 0, []⟩ :=
  ⟨h, World.ownsRow_nil _ _ _ _, World.ownsRow_nil _ _ _ _, Nat.le_refl _, ha⟩
set_option maxRecDepth 100000 in
set_option maxHeartbeats 2000000 in
theorem law44_none (x : Int) (d : ByteArray) (w : World) (hd : d.size ≤ 9223372036854775807) : Calls Try.prog 5 #[.int .i64 x, .string d] w fun e w' => e = .returned (.bool true) ∧ Below w.heap.size w w' := by
  by_cases hlt : 1000 < d.size
  · go_enter Try.func5, Try.ntmps5
    go_wp2_with fail
    refine (law44_works _).mono ?_
    rintro e w1 ⟨rfl, hb1⟩
    have HB1 := Lib.hid hb1
    clear hb1
    go_wp2
    go_ret
    exact ⟨rfl, HB1.out⟩
  · go_enter Try.func5, Try.ntmps5
    go_wp2_with fail
    refine (law44_works _).mono ?_
    rintro e w1 ⟨rfl, hb1⟩
    have HB1 := Lib.hid hb1
    clear hb1
    go_wp2_with fail
    refine (cl_new none none _).mono ?_
    rintro e w2 ⟨rfl, hw2⟩
    have hb2 : Below w1.heap.size w1 w2 := by rw [← hw2]; exact (Below.refl _ _).alloc (Nat.le_refl _) _
    have HN2 := Lib.hid (show Bare w2 w1.heap.size 0 from by rw [← hw2]; exact Blk.alloc _ _ _)
    have HB2 := Lib.hid hb2
    obtain ⟨c, hc⟩ : ∃ c, w1.heap.size = c := ⟨_, rfl⟩
    have HC := Lib.hid hc
    rw [hc] at HN2
    clear hb2 hw2 hc
    rw [HC.out]
    go_wp2_with fail
    refine (none_read _ x).mono ?_
    rintro e w3 ⟨rfl, hb3⟩
    have HN3 := Lib.hid (HN2.out.below hb3 HN2.out.lt)
    have HB3 := Lib.hid (below_trans HB2.out hb3)
    clear hb3
    go_wp2_with fail
    refine (bare_read _ c 0 HN3.out (by omega) x).mono ?_
    rintro e w4 ⟨rfl, hb4⟩
    have HN4 := Lib.hid (HN3.out.below hb4 HN3.out.lt)
    have HB4 := Lib.hid (below_trans HB3.out hb4)
    clear hb4
    go_wp2_with fail
    refine (none_flush _).mono ?_
    rintro e w5 ⟨rfl, hb5⟩
    have HN5 := Lib.hid (HN4.out.below hb5 HN4.out.lt)
    have HB5 := Lib.hid (below_trans HB4.out hb5)
    clear hb5
    go_wp2_with fail
    refine (bare_flush _ c 0 HN5.out (by omega)).mono ?_
    rintro e w6 ⟨rfl, hb6⟩
    have HN6 := Lib.hid (HN5.out.below hb6 HN5.out.lt)
    have HB6 := Lib.hid (below_trans HB5.out hb6)
    clear hb6
    go_wp2_with fail
    refine (none_poll _).mono ?_
    rintro e w7 ⟨rfl, hb7⟩
    have HN7 := Lib.hid (HN6.out.below hb7 HN6.out.lt)
    have HB7 := Lib.hid (below_trans HB6.out hb7)
    clear hb7
    go_wp2_with fail
    refine (bare_poll _ c 0 HN7.out (by omega)).mono ?_
    rintro e w8 ⟨rfl, hb8⟩
    have HN8 := Lib.hid (HN7.out.below hb8 HN7.out.lt)
    have HB8 := Lib.hid (below_trans HB7.out hb8)
    clear hb8
    go_wp2_with fail
    refine (cl_at_nil _).mono ?_
    rintro e w9 ⟨rfl, rfl⟩
    go_wp2_with fail
    refine (none_write _ x d).mono ?_
    rintro e w10 ⟨rfl, hb10⟩
    have HN10 := Lib.hid (HN8.out.below hb10 HN8.out.lt)
    have HB10 := Lib.hid (below_trans HB8.out hb10)
    clear hb10
    go_wp2_with fail
    refine (bare_write _ c 0 HN10.out (by omega) x d).mono ?_
    rintro e w11 ⟨rfl, hb11⟩
    have HN11 := Lib.hid (HN10.out.below hb11 HN10.out.lt)
    have HB11 := Lib.hid (below_trans HB10.out hb11)
    clear hb11
    go_wp2_with fail
    refine (none_over _).mono ?_
    rintro e w12 ⟨rfl, hb12⟩
    have HN12 := Lib.hid (HN11.out.below hb12 HN11.out.lt)
    have HB12 := Lib.hid (below_trans HB11.out hb12)
    clear hb12
    go_wp2_with fail
    refine (bare_over _ c HN12.out).mono ?_
    rintro e w13 ⟨rfl, hn13, hg13⟩
    have HN13 := Lib.hid hn13
    have HB13 := Lib.hid (show Below w1.heap.size w1 w13 from below_grown HB12.out hg13 (by rw [HC.out]; exact Nat.le_refl _))
    clear hn13 hg13
    go_wp2_with fail
    refine (none_kept _).mono ?_
    rintro e w14 ⟨rfl, hb14⟩
    have HN14 := Lib.hid (HN13.out.below hb14 HN13.out.lt)
    have HB14 := Lib.hid (below_trans HB13.out hb14)
    clear hb14
    go_wp2_with fail
    refine (cl_kept _ c c none none _ (bare_at HN14.out (by omega)) (by simp)).mono ?_
    rintro e w15 ⟨g, rfl, _, _, hb15⟩
    have HB15 := Lib.hid (below_trans HB1.out (below_trans HB14.out hb15))
    clear hb15
    go_wp2
    go_ret
    exact ⟨rfl, HB15.out⟩
end Go.Proofs.Ytdnkbnpjbcalaaa
