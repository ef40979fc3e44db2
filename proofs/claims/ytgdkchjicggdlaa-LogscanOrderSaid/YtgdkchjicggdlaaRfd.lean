/- What the reference's number, Size and Get come to; and the comparison of sectors that are the same. -/
import Derived.Test.YtgdkchjicggdlaaLwa
import Derived.RegionCalls
import Derived.Deep.RegionWith
import Derived.WalkSpells
namespace Go.Proofs.Ytgdkchjicggdlaa
open Go.RowKit Go.Proofs.YtgdkchjicggdlaaW.PrintWords

set_option maxRecDepth 100000 in
set_option maxHeartbeats 400000 in
theorem r11_number (s : List UInt8) (w : World) (hs : s.length ≤ 7) :
    Calls Try.prog 40 #[.string (mkS s)] w fun e w' => e = .returned (.int .i64 (Fld.num s)) ∧ w = w' := by
  have hz : (mkS s).size = s.length := rfl
  go_enter Try.func40, Try.ntmps40
  go_wp2
  go_loop [3, 4] (fun n i => ∃ k : Nat, k ≤ s.length ∧ i = .int .i64 k ∧ n = .int .i64 (Fld.num (s.take k))) (fun _ i => s.length - (intOf i).toNat)
  case atStart => exact ⟨0, by omega, rfl, rfl⟩
  case round =>
    obtain ⟨k, hk, rfl, rfl⟩ := hrel
    by_cases hlt : k < s.length
    · have HS := Lib.hid (show Fld.num (s.take (k + 1)) = Fld.num (s.take k) * 256 + (mkS s)[k].toNat from by
        rw [List.take_succ_eq_append_getElem hlt, Fld.num_snoc]; rfl)
      have hb : (mkS s)[k].toNat < 256 := (mkS s)[k].toNat_lt
      have hn : Fld.num (s.take k) < 281474976710656 := by
        have h := Fld.num_lt (s.take k)
        have h2 : 256 ^ (s.take k).length ≤ 256 ^ 6 := Nat.pow_le_pow_right (by omega) (by rw [List.length_take]; omega)
        omega
      generalize hN : Fld.num (s.take k) = N at *
      have HN := Lib.hid hN
      clear hN
      go_wp2
      go_round
      case rel => exact ⟨k + 1, by omega, by go_num, by rw [HS.out]; go_num⟩
      case measure => simp [intOf]; omega
    · obtain rfl : k = s.length := by omega
      go_wp2
      go_ret
      exact ⟨rfl, rfl⟩

set_option maxRecDepth 100000 in
set_option maxHeartbeats 800000 in
theorem law9_same (A B : Option Addr) (c d : Nat) (l : List Sec) (w : World) (h : Secs w A l) (h' : Secs w B l) :
    Calls Try.prog 17 #[.slice A l.length c, .slice B l.length d] w fun e w' => e = .returned (.bool true) ∧ Below w.heap.size w w' := by
  have hmax := Kd.C_max h
  have HA := Lib.hid h
  have HB := Lib.hid h'
  have hnn : ((l.length : Int) != (l.length : Int)) = false := by simp
  clear h h'
  go_enter Try.func17, Try.ntmps17
  go_wp2
  go_loopw [5] (fun i wr => ∃ k : Nat, k ≤ l.length ∧ i = .int .i64 k ∧ Below w.heap.size w wr) (fun i _ => l.length - (intOf i).toNat)
  case atStart => exact ⟨0, by omega, rfl, Below.refl _ _⟩
  case round =>
    obtain ⟨k, hk, rfl, hb⟩ := hrel
    have HBL := Lib.hid hb
    clear hb
    by_cases hlt : k < l.length
    · obtain ⟨ad, rfl, c0, c1⟩ := Secs.at_ (Kd.C_below HA.out HBL.out) k hlt
      obtain ⟨bd, rfl, d0, d1⟩ := Secs.at_ (Kd.C_below HB.out HBL.out) k hlt
      go_wp2
      go_quiet (fail)
      go_wp2
      go_roundw
      case rel => exact ⟨k + 1, by omega, by go_num, pw_below_drewN HBL.out _⟩
      case measure => simp [intOf]; omega
    · obtain rfl : k = l.length := by omega
      go_wp2
      go_ret
      exact ⟨rfl, HBL.out⟩

theorem int_div_pow (m k : Nat) : (((m / 256 ^ k : Nat) : Int) / 256) = ((m / 256 ^ (k + 1) : Nat) : Int) := by rw [Nat.pow_succ, ← Nat.div_div_eq_div_mul]; rfl

set_option maxRecDepth 100000 in
set_option maxHeartbeats 400000 in
theorem r2_unfit (n : Int) (w : World) (hm : n ≤ 9223372036854775807) (h : ¬ (0 ≤ n ∧ n < 281474976710656)) :
    Calls Try.prog 41 #[.int .i64 n, .int .i64 6] w fun e w' => e = .returned (.bool false) ∧ w = w' := by
  by_cases h0 : n < 0
  · clear h
    go_enter Try.func41, Try.ntmps41
    go_wp2
    go_ret
    exact ⟨rfl, rfl⟩
  obtain ⟨m, rfl⟩ := Int.eq_ofNat_of_zero_le (show 0 ≤ n by omega)
  have HN := Lib.hid (show 1 ≤ m / 256 ^ 6 by omega)
  clear h h0
  go_enter Try.func41, Try.ntmps41
  go_wp2
  go_loop [0, 5] (fun x i => ∃ k : Nat, k ≤ 6 ∧ i = .int .i64 k ∧ x = .int .i64 (m / 256 ^ k : Nat)) (fun _ i => 6 - (intOf i).toNat)
  case atStart => exact ⟨0, by omega, rfl, by simp⟩
  case round =>
    obtain ⟨k, hk, rfl, rfl⟩ := hrel
    have HS := Lib.hid (int_div_pow m k)
    have hle : m / 256 ^ k ≤ m := Nat.div_le_self _ _
    by_cases hlt : k < 6
    · clear HN
      generalize m / 256 ^ k = q at *
      go_wp2
      go_round
      case rel => exact ⟨k + 1, by omega, by go_num, by rw [HS.out]⟩
      case measure => simp [intOf]; omega
    · obtain rfl : k = 6 := by omega
      clear HS
      generalize m / 256 ^ 6 = q at *
      have hq := HN.out
      have hqb : ((q : Int) == 0) = false := by rw [beq_eq_false_iff_ne]; omega
      go_wp2
      go_ret
      exact ⟨rfl, rfl⟩

set_option maxRecDepth 100000 in
set_option maxHeartbeats 1000000 in
theorem r11_size_no (s : List UInt8) (seq : Int) (w : World) (hs : s.length = 64) (hm : seq ≤ 9223372036854775807) (hf : ¬ (0 ≤ seq ∧ seq < 281474976710656)) :
    Calls Try.prog 16 #[.string (mkS s), .int .i64 seq] w fun e w' => e = .returned (.tuple #[.int .i64 0, .int .i64 8]) ∧ Below w.heap.size w w' := by
  have hz : (mkS s).size = 64 := hs
  have HF := Lib.hid hf
  clear hf
  go_enter Try.func16, Try.ntmps16
  go_wp2
  first | go_region_with ((go_at_call 41; refine (r2_unfit seq _ hm HF.out).mono ?_; rintro e w1 ⟨rfl, rfl⟩)) | fail
  all_goals go_wp2
  all_goals go_ret2
  all_goals exact ⟨rfl, (Below.refl _ _).drew⟩
end Go.Proofs.Ytgdkchjicggdlaa
