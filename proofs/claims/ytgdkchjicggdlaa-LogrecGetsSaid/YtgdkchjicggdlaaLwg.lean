/- LogrecGets: what the law answers. -/
import Derived.Test.YtgdkchjicggdlaaRfg
namespace Go.Proofs.Ytgdkchjicggdlaa
open Go.RowKit Go.Proofs.YtgdkchjicggdlaaW.PrintWords

set_option maxRecDepth 100000 in
set_option maxHeartbeats 1000000 in
theorem law11_gets (s : ByteArray) (seq : Int) (w : World) (hm : s.size ≤ maxLen) (hb : seq ≤ 9223372036854775807) :
    Calls Try.prog 4 #[.string s, .int .i64 seq] w fun e w' => e = .returned (.bool true) ∧ Below w.heap.size w w' := by
  obtain ⟨r, rfl⟩ : ∃ r : List UInt8, s = mkS r := ⟨s.data.toList, (mkS_eta s).symm⟩
  have hz : (mkS r).size = r.length := rfl
  rw [hz] at hm
  have HM := Lib.hid hm
  unfold maxLen at hm
  go_enter Try.func4, Try.ntmps4
  go_wp2_with fail
  refine (law11_works _).mono ?_
  rintro e w1 ⟨rfl, hb1⟩
  have HB1 := Lib.hid hb1
  clear hb1
  by_cases h3 : 3000 < r.length
  · go_wp2
    go_ret
    exact ⟨rfl, HB1.out⟩
  · go_wp2_with fail
    refine (lr_get r _ HM.out).mono ?_
    rintro e w2 ⟨v, rfl, hv, hb2⟩
    have HB2 := Lib.hid (below_trans HB1.out hb2)
    obtain ⟨A, c, rfl, hc, hsecs⟩ := hv.form
    have HSA := Lib.hid hsecs
    clear hb2 hv hc hsecs
    go_wp2_with fail
    refine (r11_get r _ HM.out).mono ?_
    rintro e w3 ⟨v, rfl, hv, hb3⟩
    have HB3 := Lib.hid (below_trans HB2.out hb3)
    have HSA3 := Lib.hid (Kd.C_below HSA.out hb3)
    obtain ⟨B, d, rfl, hd, hsecs⟩ := hv.form
    have HSB3 := Lib.hid hsecs
    clear hb3 hv hd hsecs HSA
    generalize Lr.get r = G at *
    go_wp2_with fail
    refine (lr_size r seq _ HM.out).mono ?_
    rintro e w4 ⟨rfl, hb4⟩
    have HB4 := Lib.hid (below_trans HB3.out hb4)
    have HSA4 := Lib.hid (Kd.C_below HSA3.out hb4)
    have HSB4 := Lib.hid (Kd.C_below HSB3.out hb4)
    clear hb4 HSA3 HSB3
    go_wp2_with fail
    refine (r11_size r seq _ HM.out hb).mono ?_
    rintro e w5 ⟨rfl, hb5⟩
    have HB5 := Lib.hid (below_trans HB4.out hb5)
    have HSA5 := Lib.hid (Kd.C_below HSA4.out hb5)
    have HSB5 := Lib.hid (Kd.C_below HSB4.out hb5)
    clear hb5 HSA4 HSB4
    generalize Lr.size r seq = Z at *
    have hg1 : (G.1 == G.1) = true := by simp
    have hg2 : (G.2.2 == G.2.2) = true := by simp
    have hz1 : (Z.1 == Z.1) = true := by simp
    have hz2 : (Z.2 == Z.2) = true := by simp
    go_wp2_with fail
    refine (law9_same A B c d G.2.1 _ HSA5.out HSB5.out).mono ?_
    rintro e w6 ⟨rfl, hb6⟩
    have HB6 := Lib.hid (below_trans HB5.out hb6)
    clear hb6
    go_wp2
    go_ret
    exact ⟨rfl, HB6.out⟩
end Go.Proofs.Ytgdkchjicggdlaa
