/- What the reference's Size comes to. -/
import Derived.Test.YtgdkchjicggdlaaRfd
namespace Go.Proofs.Ytgdkchjicggdlaa
open Go.RowKit Go.Proofs.YtgdkchjicggdlaaW.PrintWords

theorem Fld.be_num (l : List UInt8) : Fld.be (Fld.num l) l.length = l := by
  induction l with
  | nil => rfl
  | cons c l ih =>
    have h1 := Fld.num_lt l
    have hc := c.toNat_lt
    rw [Fld.num_cons, List.length_cons, Fld.be_succ]
    have e1 : (c.toNat * 256 ^ l.length + Fld.num l) / 256 ^ l.length = c.toNat := by
      rw [Nat.add_comm, Nat.add_mul_div_right _ _ (Nat.pow_pos (by omega)), Nat.div_eq_of_lt h1, Nat.zero_add]
    rw [e1]
    have e2 : Fld.be (c.toNat * 256 ^ l.length + Fld.num l) l.length = Fld.be (Fld.num l) l.length := by
      unfold Fld.be
      apply List.map_congr_left
      intro j hj
      have hj : j < l.length := by simpa using hj
      have e : 256 ^ l.length = 256 ^ (l.length - 1 - j) * (256 ^ j * 256) := by
        rw [← Nat.pow_succ, ← Nat.pow_add]; congr 1; omega
      apply UInt8.toNat_inj.1
      rw [UInt8.toNat_ofNat', UInt8.toNat_ofNat']
      rw [e, ← Nat.mul_assoc, Nat.mul_comm c.toNat, Nat.mul_assoc, Nat.add_comm, Nat.add_mul_div_left _ _ (Nat.pow_pos (by omega)), ← Nat.mul_assoc, Nat.add_mul_mod_self_right]
    rw [e2, ih]
    simp

theorem head7 (s : List UInt8) (n : Nat) (hs : s.length = 64) (hn : n < 281474976710656) :
    (s.take 1 = [82] ∧ Fld.num ((s.drop 1).take 6) = n) ↔ s.take 7 = 82 :: Fld.be n 6 := by
  have e : s.take 7 = s.take 1 ++ (s.drop 1).take 6 := List.take_add (i := 1) (j := 6)
  have hl : ((s.drop 1).take 6).length = 6 := by rw [List.length_take, List.length_drop, hs]; rfl
  constructor
  · rintro ⟨h1, h2⟩
    have := Fld.be_num ((s.drop 1).take 6)
    rw [h2, hl] at this
    rw [e, h1, this]
    rfl
  · intro h
    have h' : s.take 1 ++ (s.drop 1).take 6 = [82] ++ Fld.be n 6 := by rw [← e, h]; rfl
    have h1 := List.append_inj h' (by rw [List.length_take, hs]; rfl)
    refine ⟨h1.1, ?_⟩
    rw [h1.2, Fld.num_be_of (by omega)]

theorem size_head (s : List UInt8) (n : Nat) (hs : s.length = 64) (hn : n < 281474976710656) (h7 : 7 < s.length) :
    Lr.size s n = if s.take 7 ≠ 82 :: Fld.be n 6 ∨ s[7].toNat < 1 ∨ 16 < s[7].toNat then ((0 : Int), (8 : Int)) else (((s[7].toNat : Nat) : Int) + 1, 0) := by
  have hB : Fld.num ((s.drop 7).take 1) = s[7].toNat := by
    have e : (s.drop 7).take 1 = [s[7]] := by rw [List.drop_eq_getElem_cons h7]; rfl
    rw [e]
    simp [Fld.num]
  unfold Lr.size
  rw [if_neg (by omega), hB]
  by_cases h : s.take 7 = 82 :: Fld.be n 6
  · obtain ⟨h1, h2⟩ := (head7 s n hs hn).2 h
    rw [h1, h2]
    by_cases hb : s[7].toNat < 1 ∨ 16 < s[7].toNat
    · rw [if_pos (.inr (.inr hb)), if_pos (.inr hb)]
    · rw [if_neg, if_neg]
      · rintro (x | x)
        · exact x h
        · exact hb x
      · rintro (x | x | x)
        · exact x rfl
        · exact x rfl
        · exact hb x
  · rw [if_pos, if_pos (.inl h)]
    by_cases h1 : s.take 1 = [82]
    · right; left
      intro e
      exact h ((head7 s n hs hn).1 ⟨h1, by omega⟩)
    · exact .inl h1

theorem byte_at (s : List UInt8) (i : Nat) (hi : i < s.length) (w : World) : (Instr.index 9 (.string (mkS s)) (.int .i64 i)).run Try.prog w = .ok (.int .u8 s[i].toNat) w := by
  rw [run_index_string w _ _ _ _ Try.underlying9, dif_pos (by have : (mkS s).size = s.length := rfl; omega)]
  rfl

set_option maxRecDepth 100000 in
set_option maxHeartbeats 1000000 in
theorem r11_size_head (s : List UInt8) (n : Nat) (w : World) (hs : s.length = 64) (hn : n < 281474976710656) :
    Calls Try.prog 16 #[.string (mkS s), .int .i64 n] w fun e w' => e = .returned (.tuple #[.int .i64 (Lr.size s n).1, .int .i64 (Lr.size s n).2]) ∧ Below w.heap.size w w' := by
  have hz : (mkS s).size = 64 := hs
  have HP := Lib.hid (size_head s n hs hn (by omega))
  have HN := Lib.hid hn
  have he := mkS_take s 7
  obtain ⟨X, hX⟩ : ∃ X, X = [82] ++ Fld.be n 6 := ⟨_, rfl⟩
  have HX := Lib.hid hX
  have hml := mkS_toList
  have hix : ∀ w, (Instr.index 9 (.string (mkS s)) (.int .i64 7)).run Try.prog w = .ok (.int .u8 s[7].toNat) w := fun w => byte_at s 7 (by omega) w
  have hn1 : n ≤ 9223372036854775807 := by omega
  have h256 := s[7].toNat_lt
  generalize s[7].toNat = c at *
  by_cases hq : s.take 7 = X
  · have hqb : (s.take 7 == X) = true := by rw [beq_iff_eq]; exact hq
    have HP2 := Lib.hid (show Lr.size s n = if c < 1 ∨ 16 < c then ((0 : Int), (8 : Int)) else (((c : Nat) : Int) + 1, 0) from by
      rw [HP.out]
      by_cases hc : c < 1 ∨ 16 < c
      · rw [if_pos (.inr hc), if_pos hc]
      · rw [if_neg hc, if_neg]
        rintro (h | h)
        · exact h (hq.trans hX)
        · exact hc h)
    clear HP hq hX hn
    by_cases hc1 : c < 1
    · have HP3 := Lib.hid (HP2.out.trans (if_pos (.inl hc1)))
      rw [HP3.out]
      go_enter Try.func16, Try.ntmps16
      go_wp2
      first | go_region_with (first
        | (go_at_call 41; refine (r2_fits n 6 _ (by omega) (by omega) (by have := HN.out; omega) hn1).mono ?_; rintro e w1 ⟨rfl, rfl⟩)
        | (go_at_call 31; refine (r2_put [82] n 6 _ (by omega) (by omega) (by have := HN.out; omega) hn1 (by simp)).mono ?_; rintro e w2 ⟨rfl, hb2⟩; rw [← HX.out]; have HB2 := Lib.hid hb2; clear hb2)) | fail
      all_goals go_wp2
      all_goals go_ret2
      all_goals exact ⟨rfl, below_trans (Below.refl _ _).drew HB2.out⟩
    by_cases hc2 : 16 < c
    · have HP3 := Lib.hid (HP2.out.trans (if_pos (.inr hc2)))
      rw [HP3.out]
      go_enter Try.func16, Try.ntmps16
      go_wp2
      first | go_region_with (first
        | (go_at_call 41; refine (r2_fits n 6 _ (by omega) (by omega) (by have := HN.out; omega) hn1).mono ?_; rintro e w1 ⟨rfl, rfl⟩)
        | (go_at_call 31; refine (r2_put [82] n 6 _ (by omega) (by omega) (by have := HN.out; omega) hn1 (by simp)).mono ?_; rintro e w2 ⟨rfl, hb2⟩; rw [← HX.out]; have HB2 := Lib.hid hb2; clear hb2)) | fail
      all_goals go_wp2
      all_goals go_ret2
      all_goals exact ⟨rfl, below_trans (Below.refl _ _).drew HB2.out⟩
    have HP3 := Lib.hid (HP2.out.trans (if_neg (by omega)))
    rw [HP3.out]
    go_enter Try.func16, Try.ntmps16
    go_wp2
    first | go_region_with (first
      | (go_at_call 41; refine (r2_fits n 6 _ (by omega) (by omega) (by have := HN.out; omega) hn1).mono ?_; rintro e w1 ⟨rfl, rfl⟩)
      | (go_at_call 31; refine (r2_put [82] n 6 _ (by omega) (by omega) (by have := HN.out; omega) hn1 (by simp)).mono ?_; rintro e w2 ⟨rfl, hb2⟩; rw [← HX.out]; have HB2 := Lib.hid hb2; clear hb2)) | fail
    all_goals go_wp2
    all_goals go_ret2
    all_goals exact ⟨rfl, below_trans (Below.refl _ _).drew HB2.out⟩
  · have hqb : (s.take 7 == X) = false := by rw [beq_eq_false_iff_ne]; exact hq
    have HP2 := Lib.hid (show Lr.size s n = (0, 8) from by rw [HP.out, if_pos (.inl (by rw [show (82 : UInt8) :: Fld.be n 6 = X from hX.symm]; exact hq))])
    rw [HP2.out]
    clear HP hq hX hn
    go_enter Try.func16, Try.ntmps16
    go_wp2
    first | go_region_with (first
      | (go_at_call 41; refine (r2_fits n 6 _ (by omega) (by omega) (by have := HN.out; omega) hn1).mono ?_; rintro e w1 ⟨rfl, rfl⟩)
      | (go_at_call 31; refine (r2_put [82] n 6 _ (by omega) (by omega) (by have := HN.out; omega) hn1 (by simp)).mono ?_; rintro e w2 ⟨rfl, hb2⟩; rw [← HX.out]; have HB2 := Lib.hid hb2; clear hb2)) | fail
    all_goals go_wp2
    all_goals go_ret2
    all_goals exact ⟨rfl, below_trans (Below.refl _ _).drew HB2.out⟩
end Go.Proofs.Ytgdkchjicggdlaa
