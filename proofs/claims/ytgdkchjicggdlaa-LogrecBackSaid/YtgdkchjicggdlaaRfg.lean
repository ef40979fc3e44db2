/- What the reference's Get comes to. -/
import Derived.Test.YtgdkchjicggdlaaRff
import Derived.IntWalk
import Derived.Deep.DrawnRows
import Derived.Deep.DeepFit
namespace Go.Proofs.Ytgdkchjicggdlaa
attribute [local go_sem ↓] Go.wp_at_zero Go.wp_at_succ
open Go.RowKit Go.Proofs.YtgdkchjicggdlaaW.PrintWords

set_option maxRecDepth 100000 in
set_option maxHeartbeats 2000000 in
theorem r11_get_main (s : List UInt8) (n : Nat) (w : World) (hs : s.length ≤ maxLen) (hn : s.length = 64 * (n + 1)) (h0 : s.take 1 = [82]) (h1 : Fld.num ((s.drop 7).take 1) = n) (h2 : 1 ≤ n) (h3 : n ≤ 16) :
    Calls Try.prog 14 #[.string (mkS s)] w fun e w' => GetPost s w e w' := by
  have HM := Lib.hid hs
  unfold maxLen at hs
  have hz : (mkS s).size = s.length := rfl
  have hml := mkS_toList
  have hb : (s == []) = false := by rw [beq_eq_false_iff_ne]; rintro rfl; simp at hn
  have hd : ((s.length : Int) / 64) = (n : Int) + 1 := by omega
  have hm : ((s.length : Int) % 64 != 0) = false := by simp; omega
  have hi0 : ∀ w, (Instr.index 9 (.string (mkS s)) (.int .i64 0)).run Try.prog w = .ok (.int .u8 82) w := fun w => by
    have h := byte_at s 0 (by omega) w
    rw [take_one s (by omega)] at h0
    injection h0 with h0
    rw [h0] at h
    exact h
  have hi7 : ∀ w, (Instr.index 9 (.string (mkS s)) (.int .i64 7)).run Try.prog w = .ok (.int .u8 n) w := fun w => by
    have h := byte_at s 7 (by omega) w
    rw [num_one s 7 (by omega)] at h1
    rw [h1] at h
    exact h
  have hnn : ((n : Int) != (n : Int)) = false := by simp
  have HL := Lib.hid hn
  have hA : (mkS s).extract 64 s.length = mkS (s.drop 64) := mkS_drop s 64
  have hT : (mkS s).extract 0 (9 + 2 * n) = mkS (s.take (9 + 2 * n)) := mkS_take s _
  have hD :  (mkS s).extract (9 + 2 * n) (9 + 2 * n + 4) = mkS ((s.drop (9 + 2 * n)).take 4) := by rw [mkS_mid]; congr 2; omega
  have hza : (mkS (s.take (9 + 2 * n))).size = 9 + 2 * n := by rw [mkS_size, List.length_take]; omega
  have hzb : (mkS (s.drop 64)).size = 64 * n := by rw [mkS_size, List.length_drop]; omega
  have HTA := Lib.hid (mkS_append (s.take (9 + 2 * n)) (s.drop 64))
  have hz1 : 9 + 2 * (n : Int) + 4 ≤ s.length := by omega
  have H0 := Lib.hid h0
  have H1 := Lib.hid h1
  clear hn h0 h1
  go_enter Try.func14, Try.ntmps14
  go_wp2
  have hw1 : IntKind.i64.wrap (9 + 2 * (n : Int) + 4) = 9 + 2 * (n : Int) + 4 := IntWalk.i64_in _ ⟨by omega, by omega⟩
  have hw0 : 0 ≤ 9 + 2 * (n : Int) + 4 := by omega
  have hw2 : (9 + 2 * (n : Int) + 4).toNat = 9 + 2 * n + 4 := by omega
  have hw3 : (9 + 2 * (n : Int)).toNat = 9 + 2 * n := by omega
  have hw4 : 0 ≤ 9 + 2 * (n : Int) := by omega
  have hw5 : 9 + 2 * (n : Int) ≤ s.length := by omega
  have hw6 : 9 + 2 * (n : Int) ≤ 9 + 2 * (n : Int) + 4 := by omega
  have hw7 : 9 + 2 * (n : Int) + 4 ≤ s.length := by omega
  obtain ⟨T, hTT⟩ : ∃ T, Crc.tail (s.take (9 + 2 * n) ++ s.drop 64) = T := ⟨_, rfl⟩
  have HTE := Lib.hid hTT
  clear hTT
  by_cases hc : (s.drop (9 + 2 * n)).take 4 = T
  · have hcq : (((s.drop (9 + 2 * n)).take 4) == T) = true := by rw [beq_iff_eq]; exact hc
    have HC := Lib.hid hc
    clear hc
    go_region_with ((go_at_call 34; rw [HTA.out]; refine (r3_tail _ _ (by have := HM.out; rw [mkS_size, List.length_append, List.length_take, List.length_drop]; unfold maxLen; omega)).mono ?_; rintro e w1 ⟨rfl, hb1⟩; rw [mkS_list, HTE.out]; have HB1 := Lib.hid (below_trans (Below.refl w.heap.size w).drew hb1); clear hb1))
    clear hw0 hw1 hw2 hw3 hw4 hw5 hw6 hw7
    go_wp2
    obtain ⟨i0, hi, hz0, hz1, hz2⟩ := info_parts sec_info
    have hi8 : ∀ w, (Instr.index 9 (.string (mkS s)) (.int .i64 8)).run Try.prog w = .ok (.int .u8 (Lr.by_ s)) w := fun w => by
      have h := byte_at s 8 (by rw [HL.out]; omega) w
      unfold Lr.by_
      rw [num_one s 8 (by rw [HL.out]; omega)]
      exact h
    have hby : Lr.by_ s < 256 := by
      have := Fld.num_lt ((s.drop 8).take 1)
      rw [List.length_take, List.length_drop, HL.out, Nat.min_eq_left (by omega)] at this
      exact this
    have HMID := Lib.hid (mkS_mid s)
    have HMID2 := Lib.hid (mkS_mid (s.drop 64))
    go_loopw [8, 9] (fun v i wr => ∃ k : Nat, k ≤ n ∧ i = .int .i64 k ∧ OwnSecs wr w.heap.size v (Lr.getL s k) ∧ Below w.heap.size w wr) (fun _ i _ => n - (intOf i).toNat)
    case atStart => exact ⟨0, by omega, rfl, OwnSecs.nil _ _, HB1.out⟩
    case round =>
      rename_i v0
      obtain ⟨k, hk, rfl, hown, hb⟩ := hrel
      have HO := Lib.hid hown
      have HB := Lib.hid hb
      clear hown hb
      by_cases hlt : k < n
      · have HE1 := HMID.out (9 + 2 * k) (11 + 2 * k)
        rw [show 11 + 2 * k - (9 + 2 * k) = 2 from by omega] at HE1
        have HE2 := HMID2.out (k * 64) ((k + 1) * 64)
        rw [show (k + 1) * 64 - k * 64 = 64 from by omega, List.drop_drop] at HE2
        have hN : ((s.drop (9 + 2 * k)).take 2).length ≤ 7 := by rw [List.length_take]; omega
        have hX : ((s.drop (64 + k * 64)).take 64).length = 64 := by rw [List.length_take, List.length_drop, HL.out]; omega
        have HX1 : 0 < (mkS ((s.drop (64 + k * 64)).take 64)).size := by rw [mkS_size, hX]; omega
        have HX2 : (mkS ((s.drop (64 + k * 64)).take 64)).size ≤ maxLen := by rw [mkS_size, hX]; unfold maxLen; omega
        have HGL := Lib.hid (show (Lr.getL s k).length = k from by unfold Lr.getL; rw [List.length_map, List.length_range])
        have HA1 : (Lr.getL s k).length + 1 ≤ maxLen := by rw [HGL.out]; unfold maxLen; omega
        have HA2 : ((Lr.getL s k).length + 1) * 24 ≤ 140737488355328 := by rw [HGL.out]; omega
        have HA3 := HB.out.size
        go_wp2
        have hq1 : 0 ≤ 9 + 2 * (k : Int) := by omega
        have hq2 : 9 + 2 * (k : Int) ≤ 11 + 2 * (k : Int) := by omega
        have hq3 : 11 + 2 * (k : Int) ≤ s.length := by have := HL.out; omega
        have hq4 : (9 + 2 * (k : Int)).toNat = 9 + 2 * k := by omega
        have hq5 : (11 + 2 * (k : Int)).toNat = 11 + 2 * k := by omega
        have hq6 : 0 ≤ (k : Int) * 64 := by omega
        have hq7 : (k : Int) * 64 ≤ ((k : Int) + 1) * 64 := by omega
        have hq8 : ((k : Int) + 1) * 64 ≤ 64 * n := by omega
        have hq9 : ((k : Int) * 64).toNat = k * 64 := by omega
        have hq10 : (((k : Int) + 1) * 64).toNat = (k + 1) * 64 := by omega
        have hq11 : 0 ≤ ((k : Int) + 1) * 64 := by omega
        have hq12 : (k : Int) ≤ (k : Int) + 1 := by omega
        have hr7 : IntKind.i64.wrap (Lr.by_ s : Int) = (Lr.by_ s : Int) := IntWalk.i64_in _ ⟨by omega, by omega⟩
        have hr1 : IntKind.i64.wrap (2 * (k : Int)) = 2 * (k : Int) := IntWalk.i64_in _ ⟨by omega, by omega⟩
        have hr2 : IntKind.i64.wrap (9 + 2 * (k : Int)) = 9 + 2 * (k : Int) := IntWalk.i64_in _ ⟨by omega, by omega⟩
        have hr3 : IntKind.i64.wrap (11 + 2 * (k : Int)) = 11 + 2 * (k : Int) := IntWalk.i64_in _ ⟨by omega, by omega⟩
        have hr4 : IntKind.i64.wrap ((k : Int) * 64) = (k : Int) * 64 := IntWalk.i64_in _ ⟨by omega, by omega⟩
        have hr5 : IntKind.i64.wrap ((k : Int) + 1) = (k : Int) + 1 := IntWalk.i64_in _ ⟨by omega, by omega⟩
        have hr6 : IntKind.i64.wrap (((k : Int) + 1) * 64) = ((k : Int) + 1) * 64 := IntWalk.i64_in _ ⟨by omega, by omega⟩
        go_region_held3 (fun _ => True) (trivial) (first
          | (go_at_call 40; refine (r11_number _ _ hN).mono ?_; rintro e w2 ⟨rfl, rfl⟩)
          | (go_at_call 32; refine (r11_turned _ (Lr.by_ s) _ hby HX1 HX2).mono ?_; rintro e w2 ⟨rfl, hb2⟩; rw [mkS_list]; have HB2 := Lib.hid (below_trans (Below.refl wr.heap.size wr).drew hb2); clear hb2)
          | (refine step_append_lies _ (by rfl) _ _ _ (by rfl) w.heap.size 59 i0 (.agg #[.int .i64 0, .string ⟨#[]⟩]) 2 24 Try.underlying22 hi hz0 hz1 hz2 rfl (by decide) _ _ (secCells (Lr.getL s k)) (by rfl) ((HO.out.below HB2.out).alloc _) ⟨w2.heap.size, 0, none⟩ 1 1 [.int .i64 (Fld.num ((s.drop (9 + 2 * k)).take 2)), .string (mkS (Lr.turned (Lr.by_ s) ((s.drop (64 + k * 64)).take 64)))] (by rfl) (by rfl) (World.news_of_block (heap_alloc_new w2 _)) (by simp [Value.oneCell']) (by omega) HA1 HA2 (by have := HB2.out.size; simp; omega) (w2.heap.size + 1) (by simp) ?_; intro g cap w3 hown3 hgrow3 hat3 hlt3))
        all_goals (
          have HO6 := Lib.hid (show OwnSecs w3 w.heap.size (.slice (some ⟨g, 0, none⟩) ((Lr.getL s k).length + 1) cap) (Lr.getL s (k + 1)) from by
            have e : Lr.getL s (k + 1) = Lr.getL s k ++ [Lr.secAt s k] := by unfold Lr.getL; rw [List.range_succ, List.map_append]; rfl
            unfold OwnSecs
            rw [e, List.length_append, secCells_app]
            exact hown3)
          have HB6 := Lib.hid ((((below_trans HB.out HB2.out).alloc (below_trans HB.out HB2.out).size _).grown hgrow3 (by have := (below_trans HB.out HB2.out).size; simp; omega) (fun j hj => (HO.out.lt j hj).1)))
          rw [HGL.out] at HO6 ⊢
          clear hown3 hgrow3 hat3 hlt3 hq1 hq2 hq3 hq4 hq5 hq6 hq7 hq8 hq9 hq10 hq11 hq12 hr1 hr2 hr3 hr4 hr5 hr6 hr7 HE1 HE2 hN hX HX1 HX2 HA1 HA2 HA3
          go_wp2
          go_roundw
          case rel => exact ⟨k + 1, by omega, by go_num, HO6.out, HB6.out⟩
          case measure => simp [intOf]; omega)
      · obtain rfl : k = n := by omega
        have HE1 : (mkS s).extract 1 7 = mkS ((s.drop 1).take 6) := HMID.out 1 7
        rw [List.drop_one] at HE1
        have hgl : (Lr.getL s k).length = k := by unfold Lr.getL; rw [List.length_map, List.length_range]
        have hN : (s.tail.take 6).length ≤ 7 := by rw [List.length_take]; omega
        obtain ⟨A, c, e, hcap, hsecs⟩ := HO.out.form
        subst e
        have HS := Lib.hid hsecs
        have HGL := Lib.hid hgl
        clear hsecs hgl
        rw [HGL.out] at hcap ⊢
        go_wp2_with fail
        go_fit (r11_number _ _ hN)
        rintro e w2 ⟨rfl, rfl⟩
        have HPUT := Lib.hid (fun (w' : World) (h : Secs w' A (Lr.getL s k)) => r11_put (Fld.num (s.tail.take 6)) A c (Lr.getL s k) w' h)
        rw [HGL.out] at HPUT
        go_wp2_with fail
        go_fit (HPUT.out _ HS.out)
        rintro e w7 ⟨rfl, hb7⟩
        have HO7 := Lib.hid (HO.out.below hb7)
        have HB7 := Lib.hid (below_trans HB.out hb7)
        clear hb7 HPUT
        have HGET := Lib.hid (show Lr.get s = if (Lr.Put (Fld.num (s.tail.take 6)) (Lr.getL s k)).2 ≠ 0 ∨ (Lr.Put (Fld.num (s.tail.take 6)) (Lr.getL s k)).1 ≠ s then (0, [], 4) else (((Fld.num (s.tail.take 6) : Nat) : Int), Lr.getL s k, 0) from by
          have hn : s.length / 64 - 1 = k := by rw [HL.out]; omega
          unfold Lr.get
          rw [if_neg (by rw [HL.out]; omega), hn, if_neg (by rw [H1.out]; rintro (h | h); exact h H0.out; omega), if_neg (by rw [HTE.out]; exact fun h => h HC.out), List.drop_one])
        generalize Lr.Put (Fld.num (s.tail.take 6)) (Lr.getL s k) = P at *
        by_cases hp2 : P.2 = 0
        · have hp2b : (P.2 != 0) = false := by rw [bne_eq_false_iff_eq]; exact hp2
          by_cases hp1 : P.1 = s
          · have HG := Lib.hid (HGET.out.trans (if_neg (by rintro (h | h); exact h hp2; exact h hp1)))
            have hp1b : (P.1 == s) = true := by rw [beq_iff_eq]; exact hp1
            clear hp1 hp2
            go_wp2
            go_ret3
            have ho7 := HO7.out
            rw [HGL.out] at ho7
            exact ⟨.slice A k c, by rw [HG.out]; rfl, by rw [HG.out]; exact ho7, HB7.out⟩
          · have HG := Lib.hid (HGET.out.trans (if_pos (.inr hp1)))
            have hp1b : (P.1 == s) = false := by rw [beq_eq_false_iff_ne]; exact hp1
            clear hp1 hp2
            go_wp2
            go_ret3
            exact ⟨.slice none 0 0, by rw [HG.out]; rfl, by rw [HG.out]; exact OwnSecs.nil _ _, HB7.out⟩
        · have HG := Lib.hid (HGET.out.trans (if_pos (.inl hp2)))
          have hp2b : (P.2 != 0) = true := by rw [bne_iff_ne]; exact hp2
          clear hp2
          go_wp2
          go_ret3
          exact ⟨.slice none 0 0, by rw [HG.out]; rfl, by rw [HG.out]; exact OwnSecs.nil _ _, HB7.out⟩
  · have hcq : (((s.drop (9 + 2 * n)).take 4) == T) = false := by rw [beq_eq_false_iff_ne]; exact hc
    have HC := Lib.hid hc
    have HG := Lib.hid (show Lr.get s = (0, [], 5) from by
      have hn : s.length / 64 - 1 = n := by rw [HL.out]; omega
      unfold Lr.get
      rw [if_neg (by rw [HL.out]; omega), hn, if_neg (by rw [H1.out]; rintro (h | h); exact h H0.out; omega), if_pos (by rw [HTE.out]; exact HC.out)])
    clear hc
    go_region_with ((go_at_call 34; rw [HTA.out]; refine (r3_tail _ _ (by have := HM.out; rw [mkS_size, List.length_append, List.length_take, List.length_drop]; unfold maxLen; omega)).mono ?_; rintro e w1 ⟨rfl, hb1⟩; rw [mkS_list, HTE.out]; have HB1 := Lib.hid (below_trans (Below.refl w.heap.size w).drew hb1); clear hb1))
    clear hw0 hw1 hw2 hw3 hw4 hw5 hw6 hw7
    go_wp2
    go_ret3
    exact ⟨.slice none 0 0, by rw [HG.out]; rfl, by rw [HG.out]; exact OwnSecs.nil _ _, HB1.out⟩

theorem r11_get (s : List UInt8) (w : World) (hs : s.length ≤ maxLen) : Calls Try.prog 14 #[.string (mkS s)] w fun e w' => GetPost s w e w' := by
  by_cases h : s.length < 64 ∨ s.length % 64 ≠ 0
  · have HG : Lr.get s = (0, [], 12) := if_pos h
    refine (r11_get_size s w hs h).mono ?_
    rintro e w' ⟨rfl, hb⟩
    exact ⟨.slice none 0 0, by rw [HG], by rw [HG]; exact OwnSecs.nil _ _, hb⟩
  · obtain ⟨n, hn⟩ : ∃ n, s.length = 64 * (n + 1) := ⟨s.length / 64 - 1, by omega⟩
    have hd : s.length / 64 - 1 = n := by omega
    by_cases h2 : s.take 1 ≠ [82] ∨ Fld.num ((s.drop 7).take 1) ≠ n ∨ n < 1 ∨ 16 < n
    · have HG : Lr.get s = (0, [], 4) := by unfold Lr.get; rw [if_neg h, hd, if_pos h2]
      refine (r11_get_form s n w hs hn h2).mono ?_
      rintro e w' ⟨rfl, hb⟩
      exact ⟨.slice none 0 0, by rw [HG], by rw [HG]; exact OwnSecs.nil _ _, hb⟩
    · simp only [not_or, Classical.not_not] at h2
      exact r11_get_main s n w hs hn h2.1 h2.2.1 (by omega) (by omega)

theorem r11_size (s : List UInt8) (seq : Int) (w : World) (_hs : s.length ≤ maxLen) (hb : seq ≤ 9223372036854775807) :
    Calls Try.prog 16 #[.string (mkS s), .int .i64 seq] w fun e w' => e = .returned (.tuple #[.int .i64 (Lr.size s seq).1, .int .i64 (Lr.size s seq).2]) ∧ Below w.heap.size w w' := by
  by_cases h1 : s.length ≠ 64
  · have HP := Lib.hid (show Lr.size s seq = (0, 12) from if_pos h1)
    have hz : (mkS s).size = s.length := rfl
    unfold maxLen at _hs
    have h1b : ((s.length : Int) != 64) = true := by simp; omega
    rw [HP.out]
    clear h1
    go_enter Try.func16, Try.ntmps16
    go_wp2
    go_ret2
    exact ⟨rfl, Below.refl _ _⟩
  have hl : s.length = 64 := by omega
  by_cases hf : 0 ≤ seq ∧ seq < 281474976710656
  · obtain ⟨n, rfl⟩ := Int.eq_ofNat_of_zero_le hf.1
    exact r11_size_head s n w hl (by omega)
  · have HP : Lr.size s seq = (0, 8) := by
      unfold Lr.size
      rw [if_neg h1, if_pos]
      right; left
      intro e
      have := Fld.num_lt ((s.drop 1).take 6)
      rw [List.length_take, List.length_drop, hl, show min 6 (64 - 1) = 6 from rfl] at this
      omega
    rw [HP]
    exact r11_size_no s seq w hl hb hf
end Go.Proofs.Ytgdkchjicggdlaa
