/- What the references of fields, sums and padding come to. -/
import Derived.Test.YtgdkchjicggdlaaLru
namespace Go.Proofs.Ytgdkchjicggdlaa
open Go.RowKit Go.Proofs.YtgdkchjicggdlaaW.PrintWords

theorem Fld.be_succ (n k : Nat) : Fld.be n (k + 1) = UInt8.ofNat (n / 256 ^ k) :: Fld.be n k := by
  unfold Fld.be
  rw [List.range_succ_eq_map, List.map_cons, List.map_map]
  congr 1
  apply List.map_congr_left
  intro j hj
  have hj : j < k := by simpa using hj
  show UInt8.ofNat (n / 256 ^ (k + 1 - 1 - (j + 1))) = _
  rw [show k + 1 - 1 - (j + 1) = k - 1 - j from by omega]

/-- A string of one byte, out of a new slice. -/
theorem conv1 (W : World) (m : Nat) :
    (convert 37 9 (.slice (some ⟨W.heap.size, 0, none⟩) 1 1)).run Try.prog (W.alloc (.cells #[.int .u8 ((m : Int) % 256)] 5)) = .ok (.string (mkS [UInt8.ofNat m])) (W.alloc (.cells #[.int .u8 ((m : Int) % 256)] 5)) := by
  have h := run_convert_bytes_back (P := Try.prog) (W.alloc (.cells #[.int .u8 ((m : Int) % 256)] 5)) 37 9 5 ⟨W.heap.size, 0, none⟩ 1 [UInt8.ofNat m] Try.underlying37 Try.underlying5 Try.underlying9 (by
    intro j hj
    obtain rfl : j = 0 := by simp at hj; omega
    simp [Addr.add])
  exact h

theorem xor64 (a b : Nat) (ha : a < 4294967296) (hb : b < 4294967296) : Go.bits .xor .i64 (a : Int) (b : Int) = ((a ^^^ b : Nat) : Int) := by
  have hx : a ^^^ b < 4294967296 := Nat.xor_lt_two_pow (n := 32) ha hb
  have e : ∀ a : Nat, a < 4294967296 → (BitVec.ofInt 64 (a : Int)).toNat = a := fun a ha => by
    rw [BitVec.ofInt_natCast, BitVec.toNat_ofNat]; exact Nat.mod_eq_of_lt (by omega)
  show IntKind.i64.wrap ((BitVec.ofInt 64 (a : Int) ^^^ BitVec.ofInt 64 (b : Int)).toNat : Int) = _
  rw [BitVec.toNat_xor, e a ha, e b hb, IntKind.wrap_i64]
  omega

set_option maxHeartbeats 400000 in
theorem r2_fits (n size : Nat) (w : World) (h1 : 1 ≤ size) (h7 : size ≤ 7) (hn : n < 256 ^ size) (hb : n ≤ 9223372036854775807) :
    Calls Try.prog 41 #[.int .i64 n, .int .i64 size] w fun e w' => e = .returned (.bool true) ∧ w = w' := by
  have HN := Lib.hid hn
  clear hn
  go_enter Try.func41, Try.ntmps41
  go_wp2
  go_loop [0, 5] (fun x i => ∃ k : Nat, k ≤ size ∧ i = .int .i64 k ∧ x = .int .i64 (n / 256 ^ k : Nat)) (fun _ i => size - (intOf i).toNat)
  case atStart => exact ⟨0, by omega, rfl, by simp⟩
  case round =>
    obtain ⟨k, hk, rfl, rfl⟩ := hrel
    have hle : n / 256 ^ k ≤ n := Nat.div_le_self _ _
    have HS := Lib.hid (show (((n / 256 ^ k : Nat) : Int) / 256) = ((n / 256 ^ (k + 1) : Nat) : Int) from by rw [Nat.pow_succ, ← Nat.div_div_eq_div_mul]; rfl)
    by_cases hlt : k < size
    · generalize n / 256 ^ k = m at *
      go_wp2
      go_round
      case rel => exact ⟨k + 1, by omega, by go_num, by rw [HS.out]⟩
      case measure => simp [intOf]; omega
    · obtain rfl : k = size := by omega
      rw [Nat.div_eq_of_lt HN.out]
      go_wp2
      go_ret
      exact ⟨rfl, rfl⟩

set_option maxRecDepth 100000 in
set_option maxHeartbeats 400000 in
theorem r2_put (s : List UInt8) (n size : Nat) (w : World) (h1 : 1 ≤ size) (h7 : size ≤ 7) (hn : n < 256 ^ size) (hb : n ≤ 9223372036854775807) (hs : s.length ≤ 4611686018427387904) :
    Calls Try.prog 31 #[.string (mkS s), .int .i64 n, .int .i64 size] w fun e w' => e = .returned (.string (mkS (s ++ Fld.be n size))) ∧ Below w.heap.size w w' := by
  have HN := Lib.hid hn
  clear hn
  have hsz : (mkS s).size ≤ 4611686018427387904 := hs
  have HAP := Lib.hid (mkS_append s (Fld.be n size))
  go_enter Try.func31, Try.ntmps31
  go_wp2_with ((go_at_call 41; refine (r2_fits n size _ h1 h7 HN.out hb).mono ?_; rintro e w' ⟨rfl, rfl⟩))
  go_loopw [1, 7, 8] (fun x t i wr => ∃ k : Nat, k ≤ size ∧ i = .int .i64 k ∧ x = .int .i64 (n / 256 ^ k : Nat) ∧ t = .string (mkS (Fld.be n k)) ∧ Below w.heap.size w wr) (fun _ _ i _ => size - (intOf i).toNat)
  case atStart => exact ⟨0, by omega, rfl, by simp, rfl, Below.refl _ _⟩
  case round =>
    obtain ⟨k, hk, rfl, rfl, rfl, hbl⟩ := hrel
    have HB := Lib.hid hbl
    clear hbl
    have hle : n / 256 ^ k ≤ n := Nat.div_le_self _ _
    have HS := Lib.hid (show (((n / 256 ^ k : Nat) : Int) / 256) = ((n / 256 ^ (k + 1) : Nat) : Int) from by rw [Nat.pow_succ, ← Nat.div_div_eq_div_mul]; rfl)
    have HBE := Lib.hid (show mkS [UInt8.ofNat (n / 256 ^ k)] ++ mkS (Fld.be n k) = mkS (Fld.be n (k + 1)) from by rw [mkS_append, Fld.be_succ]; rfl)
    have hz1 : (mkS (Fld.be n k)).size ≤ 7 := by rw [mkS_size, Fld.be_len]; omega
    by_cases hlt : k < size
    · have hcv := conv1 wr (n / 256 ^ k)
      generalize n / 256 ^ k = m at *
      have hz2 : (mkS [UInt8.ofNat m]).size = 1 := rfl
      go_wp2
      go_roundw
      case rel => exact ⟨k + 1, by omega, by go_num, by rw [HS.out], by rw [HBE.out], HB.out.alloc HB.out.size _⟩
      case measure => simp [intOf]; omega
    · obtain rfl : k = size := by omega
      go_wp2
      go_ret
      exact ⟨ret_str HAP.out, HB.out⟩

set_option maxRecDepth 100000 in
set_option maxHeartbeats 800000 in
theorem r3_of (s : ByteArray) (w : World) (hs : s.size ≤ maxLen) :
    Calls Try.prog 60 #[.string s] w fun e w' => e = .returned (.int .i64 (Crc.of s.data.toList)) ∧ w = w' := by
  unfold maxLen at hs
  go_enter Try.func60, Try.ntmps60
  go_wp2
  go_loop [3, 4, 5, 6] (fun n i _ _ => ∃ k : Nat, k ≤ s.size ∧ i = .int .i64 k ∧ n = .int .i64 (Crc.run 4294967295 (s.data.toList.take k))) (fun _ i _ _ => s.size - (intOf i).toNat)
  case atStart => exact ⟨0, by omega, rfl, rfl⟩
  case round =>
    obtain ⟨k, hk, rfl, rfl⟩ := hrel
    have hr : Crc.run 4294967295 (s.data.toList.take k) < 4294967296 := Crc.run_lt _ (by omega)
    by_cases hlt : k < s.size
    · have HS := Lib.hid (run_snoc 4294967295 s k hlt)
      have hb : s[k].toNat < 256 := s[k].toNat_lt
      have HX := Lib.hid (xor64 (Crc.run 4294967295 (s.data.toList.take k)) s[k].toNat hr (by omega))
      have hx : Crc.run 4294967295 (s.data.toList.take k) ^^^ s[k].toNat < 4294967296 := Nat.xor_lt_two_pow (n := 32) hr (by omega)
      go_wp2
      rw [HX.out]
      have HX2 := Lib.hid hx
      clear hr hx
      go_loop [3, 5, 6] (fun n i _ => ∃ j : Nat, j ≤ 8 ∧ i = .int .i64 j ∧ n = .int .i64 (Crc.bits j (Crc.run 4294967295 (s.data.toList.take k) ^^^ s[k].toNat))) (fun _ i _ => 8 - (intOf i).toNat)
      case atStart => exact ⟨0, by omega, rfl, rfl⟩
      case round =>
        obtain ⟨j, hj, rfl, rfl⟩ := hrel
        have hr := Crc.bits_lt j HX2.out
        have HB := Lib.hid (show Crc.bits (j + 1) (Crc.run 4294967295 (s.data.toList.take k) ^^^ s[k].toNat) = Crc.bit (Crc.bits j (Crc.run 4294967295 (s.data.toList.take k) ^^^ s[k].toNat)) from Crc.bits_add j 1 _)
        generalize hXE : Crc.bits j (Crc.run 4294967295 (s.data.toList.take k) ^^^ s[k].toNat) = X at *
        have HXE := Lib.hid hXE
        clear hXE
        have hr' : X < 4294967296 := hr
        by_cases hlt8 : j < 8
        · by_cases hodd : X % 2 = 1
          · have hob : (((X : Int) % 2) == 1) = true := by rw [beq_iff_eq]; omega
            have HXX := Lib.hid (xor64 (X / 2) 3988292384 (by omega) (by omega))
            have HB2 := Lib.hid (HB.out.trans (if_pos hodd))
            clear hodd hr
            go_wp2
            go_round
            case rel => exact ⟨j + 1, by omega, by go_num, by rw [show (X : Int) / 2 = ((X / 2 : Nat) : Int) from rfl, show (3988292384 : Int) = ((3988292384 : Nat) : Int) from rfl, HXX.out, HB2.out]⟩
            case measure => simp [intOf]; omega
          · have hob : (((X : Int) % 2) == 1) = false := by rw [beq_eq_false_iff_ne]; omega
            have HB2 := Lib.hid (HB.out.trans (if_neg hodd))
            clear hodd hr
            go_wp2
            go_round
            case rel => exact ⟨j + 1, by omega, by go_num, by rw [HB2.out]; rfl⟩
            case measure => simp [intOf]; omega
        · obtain rfl : j = 8 := by omega
          go_wp2
          go_round
          case rel => exact ⟨k + 1, by omega, by go_num, by rw [HS.out, ← HXE.out]; rfl⟩
          case measure => simp [intOf]; omega
    · have HE := Lib.hid (show s.data.toList.take k = s.data.toList from List.take_of_length_le (by simp; omega))
      go_wp2
      go_ret
      rw [HE.out] at hr ⊢
      exact ⟨ret_int (by rw [show (4294967295 : Int) = ((4294967295 : Nat) : Int) from rfl, xor64 _ _ hr (by omega)]; rfl), rfl⟩

set_option maxRecDepth 100000 in
set_option maxHeartbeats 400000 in
theorem r3_tail (s : ByteArray) (w : World) (hs : s.size ≤ maxLen) :
    Calls Try.prog 34 #[.string s] w fun e w' => e = .returned (.string (mkS (Crc.tail s.data.toList))) ∧ Below w.heap.size w w' := by
  have hb0 : ((Crc.of s.data.toList : Nat) : Int) % 256 = ((Crc.byteAt (Crc.of s.data.toList) 0).toNat : Int) := by simpa using tail_byte (Crc.of s.data.toList) 0
  have hb1 : ((Crc.of s.data.toList : Nat) : Int) / 256 % 256 = ((Crc.byteAt (Crc.of s.data.toList) 1).toNat : Int) := tail_byte (Crc.of s.data.toList) 1
  have hb2 : ((Crc.of s.data.toList : Nat) : Int) / 65536 % 256 = ((Crc.byteAt (Crc.of s.data.toList) 2).toNat : Int) := tail_byte (Crc.of s.data.toList) 2
  have hb3 : ((Crc.of s.data.toList : Nat) : Int) / 16777216 % 256 = ((Crc.byteAt (Crc.of s.data.toList) 3).toNat : Int) := tail_byte (Crc.of s.data.toList) 3
  have hback := run_convert_bytes_back (P := Try.prog) (w.alloc (.cells #[.int .u8 (((Crc.of s.data.toList : Nat) : Int) % 256), .int .u8 (((Crc.of s.data.toList : Nat) : Int) / 256 % 256), .int .u8 (((Crc.of s.data.toList : Nat) : Int) / 65536 % 256), .int .u8 (((Crc.of s.data.toList : Nat) : Int) / 16777216 % 256)] 5)) 37 9 5 ⟨w.heap.size, 0, none⟩ 4 (Crc.tail s.data.toList) Try.underlying37 Try.underlying5 Try.underlying9 (by
    intro j hj
    have h4 : (Crc.tail s.data.toList).length = 4 := rfl
    rw [hb0, hb1, hb2, hb3]
    obtain rfl | rfl | rfl | rfl : j = 0 ∨ j = 1 ∨ j = 2 ∨ j = 3 := by omega
    all_goals simp [Addr.add, Crc.tail])
  rw [show (Crc.tail s.data.toList).length = 4 from rfl] at hback
  clear hb0 hb1 hb2 hb3
  have hl := Crc.of_lt s.data.toList
  have hl' : Crc.of s.data.toList < 4294967296 := hl
  clear hl
  go_enter Try.func34, Try.ntmps34
  go_wp2_with ((go_at_call 60; refine (r3_of _ _ hs).mono ?_; rintro e w' ⟨rfl, rfl⟩))
  go_ret
  exact ⟨rfl, (Below.refl _ _).alloc (Nat.le_refl _) _⟩

set_option maxRecDepth 100000 in
set_option maxHeartbeats 400000 in
theorem r9_pad (s : List UInt8) (w : World) (hs : s.length ≤ 4611686018427387903) :
    Calls Try.prog 33 #[.string (mkS s)] w fun e w' => e = .returned (.string (mkS (Lr.pad s))) ∧ w = w' := by
  have hr : (64 - s.length % 64) % 64 < 64 := Nat.mod_lt _ (by omega)
  go_enter Try.func33, Try.ntmps33
  go_wp2
  go_loop [0] (fun x => ∃ k : Nat, k ≤ (64 - s.length % 64) % 64 ∧ x = .string (mkS (s ++ List.replicate k 0))) (fun x => (64 - s.length % 64) % 64 + s.length - (match x with | .string b => b.size | _ => 0))
  case atStart => exact ⟨0, by omega, by simp⟩
  case round =>
    obtain ⟨k, hk, rfl⟩ := hrel
    have hz : (mkS (s ++ List.replicate k 0)).size = s.length + k := by rw [mkS_size]; simp
    have hz1 : (mkS (s ++ List.replicate k 0)).size ≤ 4611686018427387966 := by omega
    have hz2 : s.length ≤ (mkS (s ++ List.replicate k 0)).size := by omega
    have HZ := Lib.hid hz
    clear hz
    by_cases hlt : k < (64 - s.length % 64) % 64
    · have hm : (((mkS (s ++ List.replicate k 0)).size : Int) % 64 != 0) = true := by rw [HZ.out, bne_iff_ne]; omega
      have HA := Lib.hid (show mkS (s ++ List.replicate k 0) ++ ⟨#[0]⟩ = mkS (s ++ List.replicate (k + 1) 0) from by
        rw [show (⟨#[0]⟩ : ByteArray) = mkS [0] from rfl, mkS_append, List.append_assoc, List.replicate_succ'])
      go_wp2
      go_round
      case rel => exact ⟨k + 1, by omega, by rw [HA.out]⟩
      case measure =>
        show _ - (mkS (s ++ List.replicate k 0) ++ ⟨#[0]⟩ : ByteArray).size < _ - (mkS (s ++ List.replicate k 0)).size
        rw [HA.out, HZ.out, mkS_size]
        simp
        omega
    · obtain rfl : k = (64 - s.length % 64) % 64 := by omega
      have hm : (((mkS (s ++ List.replicate ((64 - s.length % 64) % 64) 0)).size : Int) % 64 != 0) = false := by rw [HZ.out, bne_eq_false_iff_eq]; omega
      go_wp2
      go_ret
      exact ⟨rfl, rfl⟩
end Go.Proofs.Ytgdkchjicggdlaa
