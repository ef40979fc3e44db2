/- What the package cyclic comes to: sums of bytes. -/
import Derived.Test.YtgdkchjicggdlaaProg
import Derived.Test.YtgdkchjicggdlaaCrc
import Derived.WalkKit
import Derived.Lib.Hide
namespace Go.Proofs.Ytgdkchjicggdlaa
open Go.RowKit

theorem crc_bit_int (x : Nat) (hx : x < 4294967296) :
    Go.bits .xor .u32 ((x : Int) / 2) (Go.bits .and .u32 3988292384 ((-(Go.bits .and .u32 (x : Int) 1)) % 4294967296)) = (Crc.bit x : Int) := by
  rw [show Go.bits .and .u32 (x : Int) 1 = ((x &&& 1 : Nat) : Int) from u32_and_nat x 1 hx (by omega)]
  rw [show x &&& 1 = x % 2 from Nat.and_one_is_mod x]
  by_cases h : x % 2 = 1
  · rw [h, show (-((1 : Nat) : Int)) % 4294967296 = ((4294967295 : Nat) : Int) from rfl, show (3988292384 : Int) = ((3988292384 : Nat) : Int) from rfl, u32_and_nat _ _ (by omega) (by omega)]
    rw [show (3988292384 &&& 4294967295 : Nat) = 3988292384 from rfl, show (x : Int) / 2 = ((x / 2 : Nat) : Int) from rfl, u32_xor_nat _ _ (by omega) (by omega)]
    simp [Crc.bit, h]
  · rw [show x % 2 = 0 from by omega, show (-((0 : Nat) : Int)) % 4294967296 = ((0 : Nat) : Int) from rfl, show (3988292384 : Int) = ((3988292384 : Nat) : Int) from rfl, u32_and_nat _ _ (by omega) (by omega)]
    rw [show (3988292384 &&& 0 : Nat) = 0 from rfl, show (x : Int) / 2 = ((x / 2 : Nat) : Int) from rfl, u32_xor_nat _ _ (by omega) (by omega)]
    simp [Crc.bit, h]

set_option maxHeartbeats 400000 in
theorem cyc_step (n c : Nat) (w : World) (hn : n < 4294967296) (hc : c < 256) :
    Calls Try.prog 93 #[.int .u32 n, .int .u8 c] w fun e w' => e = .returned (.int .u32 (Crc.step n c)) ∧ w = w' := by
  have hx : n ^^^ c < 4294967296 := Nat.xor_lt_two_pow (n := 32) hn (by omega)
  go_enter Try.func93, Try.ntmps93
  go_wp2
  go_loop [0, 9] (fun x i => ∃ k : Nat, k ≤ 8 ∧ i = .int .i64 k ∧ x = .int .u32 (Crc.bits k (n ^^^ c))) (fun _ i => 8 - (intOf i).toNat)
  case atStart => exact ⟨0, by omega, rfl, by rw [u32_xor_nat n c hn (by omega)]; rfl⟩
  case round =>
    obtain ⟨k, hk, rfl, rfl⟩ := hrel
    have hb := Crc.bits_lt k hx
    have HB := Lib.hid (crc_bit_int _ hb)
    have HS := Lib.hid (show Crc.bits (k + 1) (n ^^^ c) = Crc.bit (Crc.bits k (n ^^^ c)) from Crc.bits_add k 1 _)
    clear hx
    by_cases hlt : k < 8
    · go_wp2
      go_round
      case rel => exact ⟨k + 1, by omega, by go_num, by rw [HS.out, ← HB.out]⟩
      case measure => simp [intOf]; omega
    · go_wp2
      go_ret
      obtain rfl : k = 8 := by omega
      exact ⟨rfl, rfl⟩

theorem take_snoc (s : ByteArray) (k : Nat) (h : k < s.size) : s.data.toList.take (k + 1) = s.data.toList.take k ++ [s[k]] := by
  rw [List.take_succ_eq_append_getElem (by simpa using h)]; rfl
theorem run_snoc (n : Nat) (s : ByteArray) (k : Nat) (h : k < s.size) :
    Crc.run n (s.data.toList.take (k + 1)) = Crc.step (Crc.run n (s.data.toList.take k)) s[k].toNat := by
  rw [take_snoc s k h, Crc.run_append]; rfl

set_option maxHeartbeats 400000 in
theorem cyc_add (b x : Nat) (s : ByteArray) (w : World) (hc : w.cell? ⟨b, 0, none⟩ = some (.int .u32 x)) (hf : w.frozen? ⟨b, 0, none⟩ = false) (hx : x < 4294967296) (hs : s.size ≤ maxLen) :
    Calls Try.prog 88 #[.pointer (some ⟨b, 0, none⟩), .string s] w fun e w' =>
      e = .returned (.tuple #[]) ∧ w.setCell ⟨b, 0, none⟩ (.int .u32 (Crc.run (x ^^^ 4294967295) s.data.toList ^^^ 4294967295 : Nat)) = w' := by
  unfold maxLen at hs
  have hx' : x ^^^ 4294967295 < 4294967296 := Nat.xor_lt_two_pow (n := 32) hx (by omega)
  have HX := Lib.hid (u32_xor_nat x 4294967295 hx (by omega))
  go_enter Try.func88, Try.ntmps88
  go_wp2
  go_loop [4, 5, 15] (fun n j i => ∃ k : Nat, k ≤ s.size ∧ i = .int .i64 k ∧ n = .int .u32 (Crc.run (x ^^^ 4294967295) (s.data.toList.take k))) (fun _ _ i => s.size - (intOf i).toNat)
  case atStart => exact ⟨0, by omega, rfl, by rw [show (4294967295 : Int) = ((4294967295 : Nat) : Int) from rfl, HX.out]; rfl⟩
  case round =>
    obtain ⟨k, hk, rfl, rfl⟩ := hrel
    have hr : Crc.run (x ^^^ 4294967295) (s.data.toList.take k) < 4294967296 := Crc.run_lt _ hx'
    by_cases hlt : k < s.size
    · have HS := Lib.hid (run_snoc (x ^^^ 4294967295) s k hlt)
      have hb : s[k].toNat < 256 := s[k].toNat_lt
      go_wp2_with (go_at_call 93; refine (cyc_step _ _ _ hr hb).mono ?_; rintro e w' ⟨rfl, rfl⟩)
      go_round
      case rel => exact ⟨k + 1, by omega, by go_num, by rw [HS.out]⟩
      case measure => simp [intOf]; omega
    · have HE := Lib.hid (show s.data.toList.take k = s.data.toList from List.take_of_length_le (by simp; omega))
      go_wp2
      go_end0
      rw [HE.out] at hr ⊢
      exact ⟨rfl, by rw [show (4294967295 : Int) = ((4294967295 : Nat) : Int) from rfl, u32_xor_nat _ _ hr (by omega)]⟩

set_option maxHeartbeats 400000 in
theorem cyc_sum (b x : Nat) (w : World) (hc : w.cell? ⟨b, 0, none⟩ = some (.int .u32 x)) (hx : x < 4294967296) :
    Calls Try.prog 89 #[.pointer (some ⟨b, 0, none⟩)] w fun e w' => e = .returned (.int .i64 x) ∧ w = w' := by
  go_enter Try.func89, Try.ntmps89
  go_wp2
  go_ret
  exact ⟨rfl, rfl⟩

set_option maxHeartbeats 400000 in
theorem cyc_new (w : World) :
    Calls Try.prog 87 #[] w fun e w' => e = .returned (.pointer (some ⟨w.heap.size, 0, none⟩)) ∧ w.alloc (.cells #[.int .u32 0] 144) = w' := by
  go_enter Try.func87, Try.ntmps87
  go_wp2
  go_ret
  exact ⟨rfl, rfl⟩

set_option maxHeartbeats 400000 in
theorem cyc_of (s : ByteArray) (w : World) (hs : s.size ≤ maxLen) :
    Calls Try.prog 78 #[.string s] w fun e w' => e = .returned (.int .i64 (Crc.of s.data.toList)) ∧ Below w.heap.size w w' := by
  go_enter Try.func78, Try.ntmps78
  go_wp2_with (first | (go_at_call 87; refine (cyc_new _).mono ?_; rintro e w' ⟨rfl, rfl⟩) | (go_at_call 88; refine (cyc_add _ 0 _ _ (by simp) (by simp) (by omega) hs).mono ?_; rintro e w' ⟨rfl, rfl⟩) | (go_at_call 89; refine (cyc_sum _ (Crc.of s.data.toList) _ (by simp [Crc.of]) (Crc.of_lt _)).mono ?_; rintro e w' ⟨rfl, rfl⟩))
  go_ret
  exact ⟨rfl, (Below.refl _ _).alloc (Nat.le_refl _) _⟩

def tailCells (n : Nat) : Nat → Array Value
  | 0 => #[.int .u8 0, .int .u8 0, .int .u8 0, .int .u8 0]
  | 1 => #[.int .u8 (Crc.byteAt n 0).toNat, .int .u8 0, .int .u8 0, .int .u8 0]
  | 2 => #[.int .u8 (Crc.byteAt n 0).toNat, .int .u8 (Crc.byteAt n 1).toNat, .int .u8 0, .int .u8 0]
  | 3 => #[.int .u8 (Crc.byteAt n 0).toNat, .int .u8 (Crc.byteAt n 1).toNat, .int .u8 (Crc.byteAt n 2).toNat, .int .u8 0]
  | _ => #[.int .u8 (Crc.byteAt n 0).toNat, .int .u8 (Crc.byteAt n 1).toNat, .int .u8 (Crc.byteAt n 2).toNat, .int .u8 (Crc.byteAt n 3).toNat]

theorem tail_byte (n k : Nat) : ((((n / 2 ^ (8 * k) : Nat) : Int)) % 256) = ((Crc.byteAt n k).toNat : Int) := by
  unfold Crc.byteAt
  rw [UInt8.toNat_ofNat', Nat.pow_mul]
  simp

set_option maxRecDepth 100000 in
set_option maxHeartbeats 400000 in
theorem cyc_tail (s : ByteArray) (w : World) (hs : s.size ≤ maxLen) :
    Calls Try.prog 59 #[.string s] w fun e w' => e = .returned (.string ⟨(Crc.tail s.data.toList).toArray⟩) ∧ Below w.heap.size w w' := by
  have hl := Crc.of_lt s.data.toList
  go_enter Try.func59, Try.ntmps59
  go_wp2_with ((go_at_call 78; refine (cyc_of _ _ hs).mono ?_; rintro e w1 ⟨rfl, hb⟩))
  go_loopw [5, 8] (fun _ i wr => ∃ k : Nat, k ≤ 4 ∧ i = .int .i64 k ∧ wr = w1.alloc (.cells (tailCells (Crc.of s.data.toList) k) 36)) (fun _ i _ => 4 - (intOf i).toNat)
  case atStart => exact ⟨0, by omega, rfl, rfl⟩
  case round =>
    obtain ⟨k, hk, rfl, rfl⟩ := hrel
    obtain rfl | rfl | rfl | rfl | rfl : k = 0 ∨ k = 1 ∨ k = 2 ∨ k = 3 ∨ k = 4 := by omega
    all_goals simp only [tailCells]
    · have H := Lib.hid (show ((Crc.of s.data.toList : Nat) : Int) % 256 = ((Crc.byteAt (Crc.of s.data.toList) 0).toNat : Int) from by simpa using tail_byte (Crc.of s.data.toList) 0)
      go_wp2
      go_roundw
      case rel => exact ⟨1, by omega, rfl, by rw [H.out]; rfl⟩
      case measure => decide
    · have H := Lib.hid (show ((Crc.of s.data.toList : Nat) : Int) / 256 % 256 = _ from tail_byte (Crc.of s.data.toList) 1)
      go_wp2
      go_roundw
      case rel => exact ⟨2, by omega, rfl, by rw [H.out]; rfl⟩
      case measure => decide
    · have H := Lib.hid (show ((Crc.of s.data.toList : Nat) : Int) / 65536 % 256 = _ from tail_byte (Crc.of s.data.toList) 2)
      go_wp2
      go_roundw
      case rel => exact ⟨3, by omega, rfl, by rw [H.out]; rfl⟩
      case measure => decide
    · have H := Lib.hid (show ((Crc.of s.data.toList : Nat) : Int) / 16777216 = ((Crc.byteAt (Crc.of s.data.toList) 3).toNat : Int) from by
        rw [← tail_byte]; show _ = ((Crc.of s.data.toList / 16777216 : Nat) : Int) % 256; omega)
      go_wp2
      go_roundw
      case rel => exact ⟨4, by omega, rfl, by rw [H.out]; rfl⟩
      case measure => decide
    · clear hl
      have hback := run_convert_bytes_back (P := Try.prog) (w1.alloc (.cells (tailCells (Crc.of s.data.toList) 4) 36)) 37 9 5 ⟨w1.heap.size, 0, none⟩ 4 (Crc.tail s.data.toList) Try.underlying37 Try.underlying5 Try.underlying9 (by
        intro j hj
        have h4 : (Crc.tail s.data.toList).length = 4 := rfl
        obtain rfl | rfl | rfl | rfl : j = 0 ∨ j = 1 ∨ j = 2 ∨ j = 3 := by omega
        all_goals simp [Addr.add, tailCells, Crc.tail])
      rw [show (Crc.tail s.data.toList).length = 4 from rfl] at hback
      simp only [tailCells] at hback
      go_wp2
      go_ret
      exact ⟨rfl, hb.alloc (by have := hb.size; omega) _⟩
end Go.Proofs.Ytgdkchjicggdlaa
