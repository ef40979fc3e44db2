/- ClientDoes, where it has little to do; whole. -/
import Derived.Test.YtdnkbnpjbcalaaaCwz
namespace Go.Proofs.Ytdnkbnpjbcalaaa
open Go.RowKit

set_option maxRecDepth 100000 in
set_option maxHeartbeats 1000000 in
theorem law44_does_much (A0 : Option Addr) (c0 : Nat) (l : List OpV) (E : Option Addr) (ne ce : Nat) (Hs : Option Addr) (nh ch : Nat) (w : World) (hl : OpsAt w A0 l) (hm : 200 < ne ∨ 200 < nh) :
    Calls Try.prog 4 #[.slice A0 l.length c0, .slice E ne ce, .slice Hs nh ch] w fun e w' => e = .returned (.bool true) ∧ Below w.heap.size w w' := by
  have HL := Lib.hid hl
  have HMM := Lib.hid hm
  clear hl hm
  go_enter Try.func4, Try.ntmps4
  go_wp2_with fail
  refine (law44_works _).mono ?_
  rintro e w1 ⟨rfl, hb1⟩
  have HB1 := Lib.hid hb1
  clear hb1
  go_wp2_with fail
  refine (law44_great A0 c0 l _ (HL.out.below HB1.out)).mono ?_
  rintro e w2 ⟨rfl, b, rfl, _⟩
  cases b with
  | true =>
    go_wp2
    go_ret
    exact ⟨rfl, HB1.out⟩
  | false =>
    by_cases h1 : 200 < ne
    · go_wp2
      go_ret
      exact ⟨rfl, HB1.out⟩
    · have h2 : 200 < nh := HMM.out.elim (fun x => absurd x h1) (fun x => x)
      go_wp2
      go_ret
      exact ⟨rfl, HB1.out⟩
theorem law44_does_all (A0 : Option Addr) (c0 : Nat) (l : List OpV) (E : Option Addr) (ce : Nat) (errs : List Int) (Hs : Option Addr) (ch : Nat) (hows : List Int) (w : World)
    (hl : OpsAt w A0 l) (hE : errs.length ≤ 1000 → Ints w E errs) (hH : hows.length ≤ 1000 → Ints w Hs hows) :
    Calls Try.prog 4 #[.slice A0 l.length c0, .slice E errs.length ce, .slice Hs hows.length ch] w fun e w' => e = .returned (.bool true) ∧ Below w.heap.size w w' := by
  by_cases hm : 200 < errs.length ∨ 200 < hows.length
  · exact law44_does_much A0 c0 l E _ ce Hs _ ch w hl hm
  · exact law44_does A0 c0 l E ce errs Hs ch hows w hl (hE (by omega)) (hH (by omega)) (by omega) (by omega)
end Go.Proofs.Ytdnkbnpjbcalaaa
