/- What the reference of records comes to: check, turn, turned, put; and which inputs are too great to be asked. -/
import Derived.Test.YtgdkchjicggdlaaRfa
namespace Go.Proofs.Ytgdkchjicggdlaa
open Go.RowKit Go.Proofs.YtgdkchjicggdlaaW.PrintWords

theorem any_take_succ (l : List Sec) (p : Sec → Bool) (j : Nat) (hj : j < l.length) : (l.take (j + 1)).any p = ((l.take j).any p || p l[j]) := by
  rw [List.take_succ_eq_append_getElem hj, List.any_append]
  simp only [List.any_cons, List.any_nil, Bool.or_false]

set_option maxRecDepth 100000 in
set_option maxHeartbeats 800000 in
theorem r11_check (A : Option Addr) (cap : Nat) (l : List Sec) (w : World) (h : Secs w A l) :
    Calls Try.prog 12 #[.slice A l.length cap] w fun e w' => e = .returned (.int .i64 (Lr.check l)) ∧ Below w.heap.size w w' := by
  have hmax := Kd.C_max h
  have H := Lib.hid h
  clear h
  by_cases h0 : l.length = 0
  · have HC := Lib.hid (show Lr.check l = 8 from by unfold Lr.check; rw [if_pos h0])
    go_enter Try.func12, Try.ntmps12
    go_wp2
    go_ret
    exact ⟨ret_int HC.out.symm, Below.refl _ _⟩
  have h0b : ((l.length : Int) == 0) = false := by simpa using h0
  by_cases h16 : 16 < l.length
  · have HC := Lib.hid (show Lr.check l = 6 from by unfold Lr.check; rw [if_neg h0, if_pos h16])
    clear h0
    go_enter Try.func12, Try.ntmps12
    go_wp2
    go_ret
    exact ⟨ret_int HC.out.symm, Below.refl _ _⟩
  have HC := Lib.hid (show Lr.check l = Lr.checkFrom (l.take 0) (l.drop 0) from by unfold Lr.check; rw [if_neg h0, if_neg h16]; rfl)
  clear h0
  go_enter Try.func12, Try.ntmps12
  go_wp2
  go_loopw [3, 4] (fun i _ wr => ∃ k : Nat, k ≤ l.length ∧ i = .int .i64 k ∧ Hid (Lr.check l = Lr.checkFrom (l.take k) (l.drop k)) ∧ Below w.heap.size w wr) (fun i _ _ => l.length - (intOf i).toNat)
  case atStart => exact ⟨0, by omega, rfl, HC, Below.refl _ _⟩
  case round =>
    obtain ⟨k, hk, rfl, HK, hb⟩ := hrel
    have HB := Lib.hid hb
    clear hb HC
    by_cases hlt : k < l.length
    · have HS := Lib.hid (HK.out.trans (check_step l k hlt))
      obtain ⟨ad, rfl, c0, c1⟩ := Secs.at_ (Kd.C_below H.out HB.out) k hlt
      by_cases h1 : l[k].At < 0
      · have HR := Lib.hid (HS.out.trans (if_pos (Or.inl h1)))
        go_wp2
        go_ret
        exact ⟨ret_int HR.out.symm, HB.out⟩
      by_cases h2 : 1000 ≤ l[k].At
      · have HR := Lib.hid (HS.out.trans (if_pos (Or.inr h2)))
        go_wp2
        go_ret
        exact ⟨ret_int HR.out.symm, HB.out⟩
      have HS2 := Lib.hid (HS.out.trans (if_neg (by omega)))
      by_cases h3 : l[k].Data.size ≠ 64
      · have HR := Lib.hid (HS2.out.trans (if_pos h3))
        have h3b : ((l[k].Data.size : Int) != 64) = true := by simp; omega
        clear h3
        go_wp2
        go_ret
        exact ⟨ret_int HR.out.symm, HB.out⟩
      have HS3 := Lib.hid (HS2.out.trans (if_neg h3))
      have h3b : ((l[k].Data.size : Int) != 64) = false := by simp at h3; simp; omega
      clear h3
      go_wp2
      obtain ⟨wo, rfl⟩ : ∃ wo : World, wo = wr := ⟨_, rfl⟩
      go_loopw [4] (fun i w' => ∃ j : Nat, j ≤ k ∧ i = .int .i64 j ∧ Hid ((l.take j).any (fun t => t.At == l[k].At) = false) ∧ Below wo.heap.size wo w') (fun i _ => k - (intOf i).toNat)
      case atStart => exact ⟨0, by omega, rfl, Lib.hid (by simp), Below.refl _ _⟩
      case round =>
        obtain ⟨j, hj, rfl, HJ, hb⟩ := hrel
        have HB2 := Lib.hid (below_trans HB.out hb)
        obtain ⟨_, e, d0, _⟩ := Secs.at_ (Kd.C_below H.out HB2.out) k hlt
        injection e with e
        subst e
        have HBW := Lib.hid hb
        clear hb c0 c1
        by_cases hjk : j < k
        · obtain ⟨_, e, f0, _⟩ := Secs.at_ (Kd.C_below H.out HB2.out) j (by omega)
          injection e with e
          subst e
          have HT := Lib.hid (any_take_succ l (fun t => t.At == l[k].At) j (by omega))
          by_cases hq : l[j].At = l[k].At
          · have hqb : (l[j].At == l[k].At) = true := by simpa using hq
            have HR := Lib.hid (HS3.out.trans (if_pos (by
              rw [List.any_eq_true]
              exact ⟨l[j], List.mem_take_iff_getElem.2 ⟨j, by omega, rfl⟩, hqb⟩)))
            clear hq
            go_wp2
            go_quiet (fail)
            go_wp2
            go_ret
            exact ⟨ret_int HR.out.symm, pw_below_drewN HB2.out _⟩
          · have hqb : (l[j].At == l[k].At) = false := by simpa using hq
            clear hq
            go_wp2
            go_quiet (fail)
            go_wp2
            go_roundw
            case rel => exact ⟨j + 1, by omega, by go_num, Lib.hid (by rw [HT.out, HJ.out, hqb]; rfl), pw_below_drewN HBW.out _⟩
            case measure => simp [intOf]; omega
        · obtain rfl : j = k := by omega
          have HR := Lib.hid (HS3.out.trans (if_neg (by rw [HJ.out]; decide)))
          go_wp2
          go_roundw
          case rel => exact ⟨j + 1, by omega, by go_num, HR, HB2.out⟩
          case measure => simp [intOf]; omega
    · obtain rfl : k = l.length := by omega
      have HR := Lib.hid (HK.out.trans (show _ = 0 from by rw [List.drop_length]; rfl))
      go_wp2
      go_ret
      exact ⟨ret_int HR.out.symm, HB.out⟩

theorem marked_int (x : Sec) (n : Nat) (hx : 0 < x.Data.size) (hn : n < 256) : ((Go.bits .xor .u8 (x.Data[0].toNat : Int) (n : Int)) != 82) = !Lr.marked n x := by
  rw [xor_byte _ _ hn]
  unfold Lr.marked Sec.bytes
  rw [head_of _ hx]
  generalize x.Data[0] ^^^ UInt8.ofNat n = c
  by_cases e : c = 82
  · subst e; rfl
  · have : ¬ ((c.toNat : Int) = 82) := fun h => e (UInt8.toNat_inj.1 (by show c.toNat = 82; omega))
    rw [bne_iff_ne.2 this, beq_eq_false_iff_ne.2 e]
    rfl

set_option maxRecDepth 100000 in
set_option maxHeartbeats 800000 in
theorem r11_turn (A : Option Addr) (cap : Nat) (l : List Sec) (w : World) (h : Secs w A l) (hl : l.length ≤ 255) (hx : ∀ x, x ∈ l → 0 < x.Data.size) :
    Calls Try.prog 30 #[.slice A l.length cap] w fun e w' => e = .returned (.int .i64 (Lr.turn l)) ∧ w = w' := by
  obtain ⟨m, hm, hfree⟩ := Lr.some_free l hl
  have H := Lib.hid h
  have HX := Lib.hid hx
  have HF := Lib.hid hfree
  clear h hx hfree
  go_enter Try.func30, Try.ntmps30
  go_wp2
  go_loop [3, 4, 5] (fun i _ _ => ∃ n : Nat, n ≤ m ∧ i = .int .i64 n ∧ Hid (∀ j, j < n → Lr.bad l j = true)) (fun i _ _ => m - (intOf i).toNat)
  case atStart => exact ⟨0, by omega, rfl, Lib.hid (fun j hj => by omega)⟩
  case round =>
    obtain ⟨n, hn, rfl, HLOW⟩ := hrel
    go_wp2
    go_loop [4, 5] (fun f i => ∃ k : Nat, k ≤ l.length ∧ i = .int .i64 k ∧ f = .bool (!(l.take k).any (Lr.marked n))) (fun _ i => l.length - (intOf i).toNat)
    case atStart => exact ⟨0, by omega, rfl, by simp⟩
    case round =>
      obtain ⟨k, hk, rfl, rfl⟩ := hrel
      by_cases hlt : k < l.length
      · obtain ⟨ad, rfl, c0, c1⟩ := Secs.at_ H.out k hlt
        have hz : 0 < l[k].Data.size := HX.out l[k] (List.getElem_mem hlt)
        have HM := Lib.hid (marked_int l[k] n hz (by omega))
        have HT := Lib.hid (any_take_succ l (Lr.marked n) k hlt)
        by_cases hf : (l.take k).any (Lr.marked n) = true
        · rw [hf]
          have HF1 := Lib.hid (show (l.take (k + 1)).any (Lr.marked n) = true from by rw [HT.out, hf]; rfl)
          clear hf
          go_wp2
          go_round
          case rel => exact ⟨k + 1, by omega, by go_num, by rw [HF1.out]; rfl⟩
          case measure => simp [intOf]; omega
        · rw [Bool.eq_false_iff.2 hf]
          have HF1 := Lib.hid (show (l.take (k + 1)).any (Lr.marked n) = Lr.marked n l[k] from by rw [HT.out, Bool.eq_false_iff.2 hf]; rfl)
          clear hf
          go_wp2
          go_round
          case rel => exact ⟨k + 1, by omega, by go_num, by rw [HF1.out, ← HM.out]⟩
          case measure => simp [intOf]; omega
      · obtain rfl : k = l.length := by omega
        have HB := Lib.hid (show (l.take l.length).any (Lr.marked n) = Lr.bad l n from by rw [List.take_length]; rfl)
        rw [HB.out]
        by_cases hbad : Lr.bad l n = true
        · have HN := Lib.hid (show ∀ j, j < n + 1 → Lr.bad l j = true from fun j hj => by
            rcases Nat.lt_or_ge j n with h | h
            · exact HLOW.out j h
            · obtain rfl : j = n := by omega
              exact hbad)
          have hnm : n < m := by
            rcases Nat.lt_or_ge n m with h | h
            · exact h
            · obtain rfl : n = m := by omega
              rw [HF.out] at hbad
              cases hbad
          rw [hbad]
          clear hbad
          go_wp2
          go_round
          case rel => exact ⟨n + 1, by omega, by go_num, HN⟩
          case measure => simp [intOf]; omega
        · have HT := Lib.hid (Lr.turn_of (by omega) (Bool.eq_false_iff.2 hbad) HLOW.out)
          rw [Bool.eq_false_iff.2 hbad]
          clear hbad
          go_wp2
          go_ret
          exact ⟨ret_int (by rw [HT.out]), rfl⟩

set_option maxHeartbeats 400000 in
theorem r11_turned (s : ByteArray) (n : Nat) (w : World) (hn : n < 256) (hs : 0 < s.size) (hm : s.size ≤ maxLen) :
    Calls Try.prog 32 #[.string s, .int .i64 n] w fun e w' => e = .returned (.string (mkS (Lr.turned n s.data.toList))) ∧ Below w.heap.size w w' := by
  unfold maxLen at hm
  have hb := xor_byte s[0] n hn
  have hback := run_convert_bytes_back (P := Try.prog) (w.alloc (.cells #[.int .u8 (Go.bits .xor .u8 (s[0].toNat : Int) (n : Int))] 5)).drew 37 9 5 ⟨w.heap.size, 0, none⟩ 1 [s[0] ^^^ UInt8.ofNat n] Try.underlying37 Try.underlying5 Try.underlying9 (by
    intro j hj
    obtain rfl : j = 0 := by simp at hj; omega
    rw [hb]
    simp [Addr.add])
  have HT := Lib.hid (turned_of s n hs)
  have hsz : (mkS [s[0] ^^^ UInt8.ofNat n]).size = 1 := rfl
  rw [show (⟨[s[0] ^^^ UInt8.ofNat n].toArray⟩ : ByteArray) = mkS [s[0] ^^^ UInt8.ofNat n] from rfl] at hback
  simp only [List.length_cons, List.length_nil, Nat.zero_add] at hback
  clear hb
  go_enter Try.func32, Try.ntmps32
  go_wp2
  go_region
  all_goals go_wp2
  all_goals go_ret
  all_goals exact ⟨ret_str HT.out.symm, ((Below.refl _ _).alloc (Nat.le_refl _) _).drew⟩
end Go.Proofs.Ytgdkchjicggdlaa
