/- What logrec.Get comes to. -/
import Derived.Test.YtgdkchjicggdlaaOwn
namespace Go.Proofs.Ytgdkchjicggdlaa
open Go.RowKit Go.Proofs.YtgdkchjicggdlaaW.PrintWords

namespace Lr
def by_ (s : List UInt8) : Nat := Fld.num ((s.drop 8).take 1)
/-- The k-th sector that a record says. -/
def secAt (s : List UInt8) (k : Nat) : Sec := ⟨(Fld.num ((s.drop (9 + 2 * k)).take 2) : Nat), mkS (turned (by_ s) ((s.drop (64 + k * 64)).take 64))⟩
def bare (s : List UInt8) (k : Nat) : Sec := ⟨(Fld.num ((s.drop (9 + 2 * k)).take 2) : Nat), mkS []⟩
def getL (s : List UInt8) (n : Nat) : List Sec := (List.range n).map (secAt s)
/-- After so many sectors' bytes have been laid. -/
def halfL (s : List UInt8) (n k : Nat) : List Sec := (List.range n).map fun j => if j < k then secAt s j else bare s j
def get (s : List UInt8) : Int × List Sec × Int :=
  if s.length < 64 ∨ s.length % 64 ≠ 0 then (0, [], 12)
  else if s.take 1 ≠ [82] ∨ Fld.num ((s.drop 7).take 1) ≠ s.length / 64 - 1 ∨ s.length / 64 - 1 < 1 ∨ 16 < s.length / 64 - 1 then (0, [], 4)
  else if (s.drop (9 + 2 * (s.length / 64 - 1))).take 4 ≠ Crc.tail (s.take (9 + 2 * (s.length / 64 - 1)) ++ s.drop 64) then (0, [], 5)
  else if (Put (Fld.num ((s.drop 1).take 6)) (getL s (s.length / 64 - 1))).2 ≠ 0 ∨ (Put (Fld.num ((s.drop 1).take 6)) (getL s (s.length / 64 - 1))).1 ≠ s then (0, [], 4)
  else (Fld.num ((s.drop 1).take 6), getL s (s.length / 64 - 1), 0)
end Lr

set_option maxRecDepth 100000 in
set_option maxHeartbeats 1000000 in
theorem lr_get_size (s : List UInt8) (w : World) (hs : s.length ≤ maxLen) (h : s.length < 64 ∨ s.length % 64 ≠ 0) :
    Calls Try.prog 13 #[.string (mkS s)] w fun e w' => e = .returned (.tuple #[.int .i64 0, .slice none 0 0, .int .i64 12]) ∧ Below w.heap.size w w' := by
  unfold maxLen at hs
  have hz : (mkS s).size = s.length := rfl
  by_cases h1 : s.length < 64
  · have hd : ((s.length : Int) / 64) = 0 := by omega
    clear h
    go_enter Try.func13, Try.ntmps13
    go_wp2
    go_ret3
    exact ⟨rfl, Below.refl _ _⟩
  · have hm : ((s.length : Int) % 64 != 0) = true := by simp; omega
    have hd : 1 ≤ ((s.length : Int) / 64) := by omega
    clear h
    go_enter Try.func13, Try.ntmps13
    go_wp2
    go_ret3
    exact ⟨rfl, Below.refl _ _⟩

set_option maxRecDepth 100000 in
set_option maxHeartbeats 1000000 in
theorem lr_get_form (s : List UInt8) (n : Nat) (w : World) (hs : s.length ≤ maxLen) (hn : s.length = 64 * (n + 1)) (h : s.take 1 ≠ [82] ∨ Fld.num ((s.drop 7).take 1) ≠ n ∨ n < 1 ∨ 16 < n) :
    Calls Try.prog 13 #[.string (mkS s)] w fun e w' => e = .returned (.tuple #[.int .i64 0, .slice none 0 0, .int .i64 4]) ∧ Below w.heap.size w w' := by
  have HM := Lib.hid hs
  unfold maxLen at hs
  have hz : (mkS s).size = s.length := rfl
  have hd : ((s.length : Int) / 64) = ((n + 1 : Nat) : Int) := by omega
  have hm : ((s.length : Int) % 64 != 0) = false := by simp; omega
  have HL := Lib.hid hn
  have hd' : 1 ≤ (s.length : Int) / 64 := by omega
  have hd2 : (s.length : Int) / 64 ≤ (n : Int) + 1 := by omega
  clear hn
  go_enter Try.func13, Try.ntmps13
  go_wp2_with ((go_at_call 37; refine (fld_new _ _).mono ?_; rintro e w' ⟨rfl, rfl⟩))
  refine (rd_bytes w.heap.size 1 s _ (Blk.alloc _ _ _) (by rw [HL.out]; omega) HM.out).mono ?_
  rintro e w1 ⟨rfl, hr1, hg1⟩
  have HR1 := Lib.hid hr1
  have HB1 := Lib.hid (below_grown ((Below.refl _ _).alloc (Nat.le_refl _) _) hg1 (Nat.le_refl _))
  clear hr1 hg1
  go_wp2_with fail
  refine (rd_num w.heap.size 6 _ _ HR1.out (by omega) (by omega) (by rw [List.length_drop, HL.out]; omega) (by have := HM.out; rw [List.length_drop]; omega)).mono ?_
  rintro e w2 ⟨rfl, hr2, hg2⟩
  rw [List.drop_drop] at hr2
  have HR2 := Lib.hid hr2
  have HB2 := Lib.hid (below_grown HB1.out hg2 (Nat.le_refl _))
  clear hr2 hg2
  go_wp2_with fail
  refine (rd_num w.heap.size 1 _ _ HR2.out (by omega) (by omega) (by rw [List.length_drop, HL.out]; omega) (by have := HM.out; rw [List.length_drop]; omega)).mono ?_
  rintro e w3 ⟨rfl, hr3, hg3⟩
  rw [List.drop_drop] at hr3
  have HR3 := Lib.hid hr3
  have HB3 := Lib.hid (below_grown HB2.out hg3 (Nat.le_refl _))
  clear hr3 hg3
  go_wp2_with fail
  refine (rd_num w.heap.size 1 _ _ HR3.out (by omega) (by omega) (by rw [List.length_drop, HL.out]; omega) (by have := HM.out; rw [List.length_drop]; omega)).mono ?_
  rintro e w4 ⟨rfl, hr4, hg4⟩
  rw [List.drop_drop] at hr4
  have HR4 := Lib.hid hr4
  have HB4 := Lib.hid (below_grown HB3.out hg4 (Nat.le_refl _))
  clear hr4 hg4 HR1 HR2 HR3 HB1 HB2 HB3
  have hP : ¬ (mkS (s.take 1)).toList = [82] ∨ Fld.num ((s.drop (1 + 6)).take 1) ≠ n ∨ n < 1 ∨ 16 < n := by rw [mkS_toList]; exact h
  generalize Fld.num ((s.drop (1 + 6)).take 1) = B at *
  have HP := Lib.hid hP
  clear hP h
  go_wp2
  all_goals first
    | (go_ret3; exact ⟨rfl, HB4.out⟩)
    | (exfalso; rcases HP.out with h | h; exact h (by assumption); omega)

theorem half_put {s : List UInt8} {w : World} {base g n j cap : Nat} (h : OwnSecs w base (.slice (some ⟨g, 0, none⟩) n cap) (Lr.halfL s n j)) (hj : j < n) :
    OwnSecs (w.setCell ⟨g, j * 2 + 1, none⟩ (.string (mkS (Lr.turned (Lr.by_ s) ((s.drop (64 + j * 64)).take 64))))) base (.slice (some ⟨g, 0, none⟩) n cap) (Lr.halfL s n (j + 1)) ∧
      w.grownBy (w.setCell ⟨g, j * 2 + 1, none⟩ (.string (mkS (Lr.turned (Lr.by_ s) ((s.drop (64 + j * 64)).take 64))))) (some g) ∧
      w.cell? ⟨g, j * 2 + 1, none⟩ = some (.string (mkS [])) ∧ w.frozen? ⟨g, j * 2 + 1, none⟩ = false := by
  have hl : (Lr.halfL s n j).length = n := by unfold Lr.halfL; rw [List.length_map, List.length_range]
  have hj' : j < (Lr.halfL s n j).length := by omega
  have hg : (Lr.halfL s n j)[j] = Lr.bare s j := by
    have h? : (Lr.halfL s n j)[j]? = some (Lr.bare s j) := by
      unfold Lr.halfL
      rw [List.getElem?_map, List.getElem?_range hj]
      simp
    rw [List.getElem?_eq_getElem hj'] at h?
    injection h?
  obtain ⟨h1, h2, h3, h4⟩ := OwnSecs.put h hl.symm j hj' (mkS (Lr.turned (Lr.by_ s) ((s.drop (64 + j * 64)).take 64)))
  refine ⟨?_, h2, by rw [h3, hg]; rfl, h4⟩
  have e : (Lr.halfL s n j).set j ⟨(Lr.halfL s n j)[j].At, mkS (Lr.turned (Lr.by_ s) ((s.drop (64 + j * 64)).take 64))⟩ = Lr.halfL s n (j + 1) := by
    rw [hg]
    unfold Lr.halfL
    apply List.ext_getElem?
    intro i
    rw [List.getElem?_set]
    by_cases hi : i < n
    · simp only [List.length_map, List.length_range, List.getElem?_map, List.getElem?_range hi, Option.map_some]
      by_cases e : j = i
      · subst e
        rw [if_pos rfl, if_pos hi, if_pos (by omega)]
        rfl
      · rw [if_neg e]
        by_cases h : i < j
        · rw [if_pos h, if_pos (by omega)]
        · rw [if_neg h, if_neg (by omega)]
    · have hn : (List.range n)[i]? = none := by simp; omega
      simp only [List.length_map, List.length_range, List.getElem?_map, hn, Option.map_none]
      rw [if_neg (by omega)]
  rw [e] at h1
  exact h1

def GetPost (s : List UInt8) (w : World) (e : Ending) (w' : World) : Prop :=
  ∃ v, e = .returned (.tuple #[.int .i64 (Lr.get s).1, v, .int .i64 (Lr.get s).2.2]) ∧ OwnSecs w' w.heap.size v (Lr.get s).2.1 ∧ Below w.heap.size w w'

set_option maxRecDepth 100000 in
set_option maxHeartbeats 2000000 in
theorem lr_get_main (s : List UInt8) (n : Nat) (w : World) (hs : s.length ≤ maxLen) (hn : s.length = 64 * (n + 1)) (h0 : s.take 1 = [82]) (h1 : Fld.num ((s.drop 7).take 1) = n) (h2 : 1 ≤ n) (h3 : n ≤ 16) :
    Calls Try.prog 13 #[.string (mkS s)] w fun e w' => GetPost s w e w' := by
  have HM := Lib.hid hs
  unfold maxLen at hs
  have hz : (mkS s).size = s.length := rfl
  have hd : ((s.length : Int) / 64) = ((n + 1 : Nat) : Int) := by omega
  have hm : ((s.length : Int) % 64 != 0) = false := by simp; omega
  have HL := Lib.hid hn
  have hd' : 1 ≤ (s.length : Int) / 64 := by omega
  have hd2 : (s.length : Int) / 64 ≤ (n : Int) + 1 := by omega
  have hq0 : (mkS (s.take 1)).toList = [82] := by rw [mkS_toList]; exact h0
  have HQ1 := Lib.hid h1
  clear hn h0 h1
  go_enter Try.func13, Try.ntmps13
  go_wp2_with ((go_at_call 37; refine (fld_new _ _).mono ?_; rintro e w' ⟨rfl, rfl⟩))
  refine (rd_bytes w.heap.size 1 s _ (Blk.alloc _ _ _) (by rw [HL.out]; omega) HM.out).mono ?_
  rintro e w1 ⟨rfl, hr1, hg1⟩
  have HR1 := Lib.hid hr1
  have HB1 := Lib.hid (below_grown ((Below.refl _ _).alloc (Nat.le_refl _) _) hg1 (Nat.le_refl _))
  clear hr1 hg1
  go_wp2_with fail
  refine (rd_num w.heap.size 6 _ _ HR1.out (by omega) (by omega) (by rw [List.length_drop, HL.out]; omega) (by have := HM.out; rw [List.length_drop]; omega)).mono ?_
  rintro e w2 ⟨rfl, hr2, hg2⟩
  rw [List.drop_drop] at hr2
  have HR2 := Lib.hid hr2
  have HB2 := Lib.hid (below_grown HB1.out hg2 (Nat.le_refl _))
  clear hr2 hg2
  go_wp2_with fail
  refine (rd_num w.heap.size 1 _ _ HR2.out (by omega) (by omega) (by rw [List.length_drop, HL.out]; omega) (by have := HM.out; rw [List.length_drop]; omega)).mono ?_
  rintro e w3 ⟨rfl, hr3, hg3⟩
  rw [List.drop_drop] at hr3
  have HR3 := Lib.hid hr3
  have HB3 := Lib.hid (below_grown HB2.out hg3 (Nat.le_refl _))
  clear hr3 hg3
  go_wp2_with fail
  refine (rd_num w.heap.size 1 _ _ HR3.out (by omega) (by omega) (by rw [List.length_drop, HL.out]; omega) (by have := HM.out; rw [List.length_drop]; omega)).mono ?_
  rintro e w4 ⟨rfl, hr4, hg4⟩
  rw [List.drop_drop] at hr4
  have HR4 := Lib.hid hr4
  have HB4 := Lib.hid (below_grown HB3.out hg4 (Nat.le_refl _))
  clear hr4 hg4 HR1 HR2 HR3 HB1 HB2 HB3
  have HQ2 := Lib.hid (show Fld.num ((s.drop (1 + 6)).take 1) = n from HQ1.out)
  rw [HQ2.out]
  have hnn : ((n : Int) != (n : Int)) = false := by simp
  go_wp2
  obtain ⟨i0, hi, hz0, hz1, hz2⟩ := info_parts sec_info
  go_loopw [11, 55] (fun v i wr => ∃ k : Nat, k ≤ n ∧ i = .int .i64 k ∧ OwnSecs wr w.heap.size v ((List.range k).map (Lr.bare s)) ∧ Rdr wr w.heap.size (mkS (s.drop (9 + 2 * k))) 0 ∧ Below w.heap.size w wr) (fun _ i _ => n - (intOf i).toNat)
  case atStart => exact ⟨0, by omega, rfl, OwnSecs.nil _ _, HR4.out, HB4.out⟩
  case round =>
    rename_i v0
    obtain ⟨k, hk, rfl, hown, hrd, hb⟩ := hrel
    have HO := Lib.hid hown
    have HR := Lib.hid hrd
    have HB := Lib.hid hb
    clear hown hrd hb
    by_cases hlt : k < n
    · go_wp2_with fail
      refine (rd_num w.heap.size 2 _ _ HR.out (by omega) (by omega) (by rw [List.length_drop, HL.out]; omega) (by have := HM.out; rw [List.length_drop]; omega)).mono ?_
      rintro e w5 ⟨rfl, hr5, hg5⟩
      rw [List.drop_drop] at hr5
      have HR5 := Lib.hid hr5
      have HB5 := Lib.hid (below_grown HB.out hg5 (Nat.le_refl _))
      have HO5 := Lib.hid (HO.out.grown hg5 (.inr (HO.out.ne HR.out (by decide))))
      clear hr5 hg5
      go_wp2_with ((at_builtin; refine wpList_append_own _ rfl _ _ 22 rfl w.heap.size 59 i0 (.agg #[.int .i64 0, .string ⟨#[]⟩]) 2 24 Try.underlying22 hi hz0 hz1 hz2 rfl (by decide) _ _ _ rfl (HO5.out.alloc _) ⟨w5.heap.size, 0, none⟩ 1 1 [.int .i64 (Fld.num ((s.drop (9 + 2 * k)).take 2)), .string ⟨#[]⟩] rfl rfl ?c1 ?c2 ?c3 ?c4 ?c5 ?_))
      case c1 =>
        intro j u hu
        match j, hu with
        | 0, hu => obtain rfl : Value.int .i64 _ = u := by simpa using hu
                   simp [Addr.add]
        | 1, hu => obtain rfl : Value.string _ = u := by simpa using hu
                   simp [Addr.add]
        | j + 2, hu => simp at hu
      case c2 => intro u hu; simp at hu; rcases hu with rfl | rfl <;> rfl
      case c3 => simp; unfold maxLen; omega
      case c4 => simp; omega
      case c5 => have := HB5.out.size; simp; omega
      intro v' w6 hown' hgrow _
      have HO6 := Lib.hid (show OwnSecs w6 w.heap.size v' ((List.range (k + 1)).map (Lr.bare s)) from by
        have e : secCells ((List.range (k + 1)).map (Lr.bare s)) = secCells ((List.range k).map (Lr.bare s)) ++ [.int .i64 (Fld.num ((s.drop (9 + 2 * k)).take 2)), .string ⟨#[]⟩] := by
          rw [List.range_succ, List.map_append, secCells_app]; rfl
        unfold OwnSecs
        rw [e, List.length_map, List.length_range]
        simpa using hown')
      have HR6 := Lib.hid (((HR5.out.below (B := w5.heap.size) ((Below.refl _ _).alloc (Nat.le_refl _) _) HR5.out.lt).grown hgrow (fun e => HO5.out.ne HR5.out (by decide) e.symm)))
      have HB6 := Lib.hid ((HB5.out.alloc HB5.out.size _).grown hgrow (by have := HB5.out.size; simp; omega) (fun k hk => (HO5.out.lt k hk).1))
      clear hown' hgrow HO5 HR5 HB5 HO HR HB
      go_wp2
      go_roundw
      case rel => exact ⟨k + 1, by omega, by go_num, HO6.out, HR6.out, HB6.out⟩
      case measure => simp [intOf]; omega
    · obtain rfl : k = n := by omega
      have hz5 : 64 ≤ (mkS s).size := by omega
      have hz6 : 9 + 2 * (k : Int) ≤ s.length := by omega
      have HA := Lib.hid (show (mkS s).extract 64 s.length = mkS (s.drop 64) from mkS_drop s 64)
      have HT := Lib.hid (show (mkS s).extract 0 (9 + 2 * k) = mkS (s.take (9 + 2 * k)) from mkS_take s _)
      have hml := mkS_toList
      clear HR4 HB4
      obtain ⟨T, hT⟩ : ∃ T, Crc.tail (s.take (9 + 2 * k) ++ s.drop 64) = T := ⟨_, rfl⟩
      have HTE := Lib.hid hT
      have hTs : (mkS T).size = 4 := by rw [← hT]; rfl
      clear hT
      obtain ⟨g, cap, e, hcap⟩ := HO.out.at_ (by simp; omega)
      rw [List.length_map, List.length_range] at e hcap
      subst e
      go_wp2_with fail
      rw [HT.out, HA.out]
      refine (lr_tail _ _ _ (by rw [List.length_take]; omega) (by rw [List.length_drop]; omega)).mono ?_
      rintro e w5 ⟨rfl, hb5⟩
      rw [HTE.out]
      have HR5 := Lib.hid (HR.out.below hb5 HR.out.lt)
      have HO5 := Lib.hid (HO.out.below hb5)
      have HB5 := Lib.hid (below_trans HB.out hb5)
      clear hb5 HR HO HB
      go_wp2_with fail
      refine (rd_bytes w.heap.size 4 _ _ HR5.out (by rw [List.length_drop, HL.out]; omega) (by have := HM.out; rw [List.length_drop]; omega)).mono ?_
      rintro e w6 ⟨rfl, hr6, hg6⟩
      have HO6 := Lib.hid (HO5.out.grown hg6 (.inr (HO5.out.ne HR5.out (by decide))))
      have HB6 := Lib.hid (below_grown HB5.out hg6 (Nat.le_refl _))
      clear hr6 hg6 HR5 HO5 HB5
      by_cases hc : (s.drop (9 + 2 * k)).take 4 = T
      · have hcq : (((s.drop (9 + 2 * k)).take 4) == T) = true := by rw [beq_iff_eq]; exact hc
        have HC := Lib.hid hc
        clear hc
        go_wp2_with fail
        have HLEN := Lib.hid (show (s.drop 64).length = 64 * k from by rw [List.length_drop, HL.out]; omega)
        go_loopw [14, 81] (fun _ i wr => ∃ j : Nat, j ≤ k ∧ i = .int .i64 j ∧ OwnSecs wr w.heap.size (.slice (some ⟨g, 0, none⟩) k cap) (Lr.halfL s k j) ∧ Below w.heap.size w wr) (fun _ i _ => k - (intOf i).toNat)
        case atStart => exact ⟨0, by omega, rfl, HO6.out, HB6.out⟩
        case round =>
          obtain ⟨j, hj, rfl, hown, hb⟩ := hrel
          have HO := Lib.hid hown
          have HB := Lib.hid hb
          clear hown hb
          have hsA : ((s.drop 64).length : Int) = 64 * (k : Int) := by rw [HLEN.out]; omega
          have hmd : ∀ (r : List UInt8) (n : Nat), (mkS r).extract n r.length = mkS (r.drop n) := mkS_drop
          have hmt := mkS_take
          have hms := mkS_size
          by_cases hlt : j < k
          · have hb1 : (j : Int) * 64 + 64 ≤ ((s.drop 64).length : Int) := by omega
            clear hsA
            have HX := Lib.hid (show ((mkS (s.drop 64)).extract (j * 64) (s.length - 64)).extract 0 64 = mkS ((s.drop (64 + j * 64)).take 64) from by
              have := mkS_drop (s.drop 64) (j * 64)
              rw [mkS_size, List.length_drop] at this
              rw [this, mkS_take, List.drop_drop])
            have HXL := Lib.hid (show ((s.drop (64 + j * 64)).take 64).length = 64 from by rw [List.length_take, List.length_drop, HL.out]; omega)
            have hby : Lr.by_ s < 256 := by
              have := Fld.num_lt ((s.drop 8).take 1)
              rw [List.length_take, List.length_drop, HL.out, Nat.min_eq_left (by omega)] at this
              exact this
            go_wp2_with fail
            rw [HX.out]
            refine (lr_turned _ (Lr.by_ s) _ hby (by rw [mkS_size, HXL.out]; omega) (by rw [mkS_size, HXL.out]; unfold maxLen; omega)).mono ?_
            rintro e w7 ⟨rfl, hb7⟩
            rw [mkS_list]
            have HO7 := Lib.hid (HO.out.below hb7)
            have HB7 := Lib.hid (below_trans HB.out hb7)
            clear hb7
            obtain ⟨hp1, hp2, hp3, hp4⟩ := half_put HO7.out hlt
            have HP1 := Lib.hid hp1
            have HP2 := Lib.hid hp2
            have hgb := (HO7.out.lt g rfl).1
            clear hp1 hp2
            go_wp2
            go_roundw
            case rel => exact ⟨j + 1, by omega, by go_num, HP1.out, below_grown HB7.out HP2.out hgb⟩
            case measure => simp [intOf]; omega
          · obtain rfl : j = k := by omega
            have HHALF := Lib.hid (show Lr.halfL s j j = Lr.getL s j from by
              unfold Lr.halfL Lr.getL
              apply List.map_congr_left
              intro i hi
              rw [if_pos (by simpa using hi)])
            have ho := HO.out
            rw [HHALF.out] at ho
            have HO2 := Lib.hid ho
            clear ho hsA
            obtain ⟨A, c, e, hc2, hsecs⟩ := HO2.out.form
            have hgl : (Lr.getL s j).length = j := by unfold Lr.getL; rw [List.length_map, List.length_range]
            rw [hgl] at e hc2
            injection e with e1 e2 e3
            subst e1 e3
            have HSEC := Lib.hid hsecs
            have HPUT := Lib.hid (fun (w' : World) (h : Secs w' (some ⟨g, 0, none⟩) (Lr.getL s j)) => lr_put (Fld.num (s.tail.take 6)) (some ⟨g, 0, none⟩) cap (Lr.getL s j) w' h (by rw [hgl]; exact hc2))
            rw [hgl] at HPUT
            clear hsecs hgl
            go_wp2_with fail
            refine (HPUT.out _ HSEC.out).mono ?_
            rintro e w7 ⟨rfl, hb7⟩
            have HO7 := Lib.hid (HO2.out.below hb7)
            have HB7 := Lib.hid (below_trans HB.out hb7)
            clear hb7 hmd hmt hms
            have hn : s.length / 64 - 1 = j := by rw [HL.out]; omega
            have HGET := Lib.hid (show Lr.get s = if (Lr.Put (Fld.num (s.tail.take 6)) (Lr.getL s j)).2 ≠ 0 ∨ (Lr.Put (Fld.num (s.tail.take 6)) (Lr.getL s j)).1 ≠ s then (0, [], 4) else (((Fld.num (s.tail.take 6) : Nat) : Int), Lr.getL s j, 0) from by
              unfold Lr.get
              rw [if_neg (by rw [HL.out]; omega), hn, if_neg (by rw [HQ1.out]; rintro (h | h); exact h (by have := hq0; rwa [mkS_toList] at this); omega), if_neg (by rw [HTE.out]; exact fun h => h HC.out), List.drop_one])
            clear hn
            generalize Lr.Put (Fld.num (s.tail.take 6)) (Lr.getL s j) = P at *
            go_wp2
            · go_ret3
              have HG : Lr.get s = (0, [], 4) := by
                rw [HGET.out, if_pos]
                exact .inr (fun e => by
                  have h : (!P.1 == s) = true := by assumption
                  rw [e] at h
                  simp at h)
              exact ⟨.slice none 0 0, by rw [HG]; rfl, by rw [HG]; exact OwnSecs.nil _ _, HB7.out⟩
            · go_ret3
              have HG : Lr.get s = (((Fld.num (s.tail.take 6) : Nat) : Int), Lr.getL s j, 0) := by
                rw [HGET.out, if_neg]
                rintro (h | h)
                · exact h (by assumption)
                · have h' : (!P.1 == s) = false := by assumption
                  exact h (by simpa using h')
              exact ⟨.slice (some ⟨g, 0, none⟩) j cap, by rw [HG]; rfl, by rw [HG]; exact HO7.out, HB7.out⟩
            · go_ret3
              have HG : Lr.get s = (0, [], 4) := by
                rw [HGET.out, if_pos]
                exact .inl (by assumption)
              exact ⟨.slice none 0 0, by rw [HG]; rfl, by rw [HG]; exact OwnSecs.nil _ _, HB7.out⟩
      · have hcq : (((s.drop (9 + 2 * k)).take 4) == T) = false := by rw [beq_eq_false_iff_ne]; exact hc
        have HC := Lib.hid hc
        clear hc
        have HG := Lib.hid (show Lr.get s = (0, [], 5) from by
          have hn : s.length / 64 - 1 = k := by rw [HL.out]; omega
          unfold Lr.get
          rw [if_neg (by rw [HL.out]; omega), hn, if_neg (by rw [HQ1.out]; rintro (h | h); exact h (by have := hq0; rwa [mkS_toList] at this); omega), if_pos (by rw [HTE.out]; exact HC.out)])
        go_wp2
        go_ret3
        exact ⟨.slice none 0 0, by rw [HG.out]; rfl, by rw [HG.out]; exact OwnSecs.nil _ _, HB6.out⟩

theorem lr_get (s : List UInt8) (w : World) (hs : s.length ≤ maxLen) : Calls Try.prog 13 #[.string (mkS s)] w fun e w' => GetPost s w e w' := by
  by_cases h : s.length < 64 ∨ s.length % 64 ≠ 0
  · have HG : Lr.get s = (0, [], 12) := if_pos h
    refine (lr_get_size s w hs h).mono ?_
    rintro e w' ⟨rfl, hb⟩
    exact ⟨.slice none 0 0, by rw [HG], by rw [HG]; exact OwnSecs.nil _ _, hb⟩
  · obtain ⟨n, hn⟩ : ∃ n, s.length = 64 * (n + 1) := ⟨s.length / 64 - 1, by omega⟩
    have hd : s.length / 64 - 1 = n := by omega
    by_cases h2 : s.take 1 ≠ [82] ∨ Fld.num ((s.drop 7).take 1) ≠ n ∨ n < 1 ∨ 16 < n
    · have HG : Lr.get s = (0, [], 4) := by unfold Lr.get; rw [if_neg h, hd, if_pos h2]
      refine (lr_get_form s n w hs hn h2).mono ?_
      rintro e w' ⟨rfl, hb⟩
      exact ⟨.slice none 0 0, by rw [HG], by rw [HG]; exact OwnSecs.nil _ _, hb⟩
    · simp only [not_or, Classical.not_not] at h2
      exact lr_get_main s n w hs hn h2.1 h2.2.1 (by omega) (by omega)
end Go.Proofs.Ytgdkchjicggdlaa
