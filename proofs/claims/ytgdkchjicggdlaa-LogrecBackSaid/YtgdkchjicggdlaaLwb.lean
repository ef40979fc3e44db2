/- LogrecBack: the walk. -/
import Derived.Test.YtgdkchjicggdlaaLwk
import Derived.IntWalk
namespace Go.Proofs.Ytgdkchjicggdlaa
open Go.RowKit Go.Proofs.YtgdkchjicggdlaaW.PrintWords

def bval (y : UInt8) : Value := .int .u8 y.toNat

theorem turn_place (at_ : Int) (m : Nat) (h0 : 0 < m) (h1 : m ≤ 1088) : ∃ k : Nat, k < m ∧ wrap64 ((IntKind.u64.wrap at_).tmod (m : Int)) = (k : Int) := by
  have hu : 0 ≤ IntKind.u64.wrap at_ := by rw [IntKind.wrap_u64]; omega
  generalize IntKind.u64.wrap at_ = u at *
  rw [Int.tmod_eq_emod_of_nonneg hu]
  have e0 : 0 ≤ u % (m : Int) := Int.emod_nonneg _ (by omega)
  have e1 : u % (m : Int) < m := Int.emod_lt_of_pos _ (by omega)
  refine ⟨(u % (m : Int)).toNat, by omega, ?_⟩
  unfold wrap64
  omega

theorem back_string (w : World) (g : Nat) (X : List UInt8) (c0 n : Nat) (hn : X.length = n) (h : BytesAt w g X c0) :
    (convert 37 9 (.slice (some ⟨g, 0, none⟩) n c0)).run Try.prog w = .ok (.string (mkS X)) w := by
  subst hn
  have hb := run_convert_bytes_back (P := Try.prog) w 37 9 5 ⟨g, 0, none⟩ c0 X Try.underlying37 Try.underlying5 Try.underlying9 (fun j hj => by
    rw [show (⟨g, 0, none⟩ : Addr).add j = ⟨g, j, none⟩ from by unfold Addr.add; split <;> simp_all]
    exact h.cell j hj)
  exact hb

theorem four_at (y0 y1 y2 y3 : UInt8) (j : Nat) (hj : j < 4) : (#[bval y0, bval y1, bval y2, bval y3] : Array Value)[j]? = some (.int .u8 (([y0, y1, y2, y3].getD j 0).toNat)) := by
  match j, hj with
  | 0, _ => rfl
  | 1, _ => rfl
  | 2, _ => rfl
  | 3, _ => rfl

set_option maxRecDepth 100000 in
set_option maxHeartbeats 2000000 in
theorem law11_back (seq : Int) (A : Option Addr) (cap : Nat) (l : List Sec) (at_ : Int) (y0 y1 y2 y3 : UInt8) (w : World) (h : Secs w A l) (hcap : l.length ≤ cap) :
    Calls Try.prog 5 #[.int .i64 seq, .slice A l.length cap, .int .i64 at_, .agg #[bval y0, bval y1, bval y2, bval y3]] w fun e w' => e = .returned (.bool true) ∧ Below w.heap.size w w' := by
  have H := Lib.hid h
  have hmax := Kd.C_max h
  clear h
  go_enter Try.func5, Try.ntmps5
  go_wp2_with fail
  have HB0 := Lib.hid ((Below.refl w.heap.size w).alloc (Nat.le_refl _) (.cells #[bval y0, bval y1, bval y2, bval y3] 36))
  have HP0 := Lib.hid (Blk.alloc w #[bval y0, bval y1, bval y2, bval y3] 36)
  refine (law11_works _).mono ?_
  rintro e w1 ⟨rfl, hb1⟩
  have HB1 := Lib.hid (below_trans HB0.out hb1)
  have HP1 := Lib.hid (HP0.out.below hb1 HP0.out.lt)
  clear hb1 HB0 HP0
  go_wp2_with fail
  refine (law11_great A cap l _ (Kd.C_below H.out HB1.out)).mono ?_
  rintro e w' ⟨b, rfl, rfl⟩
  cases b with
  | true =>
    go_wp2
    go_ret
    exact ⟨rfl, HB1.out⟩
  | false =>
    go_wp2_with fail
    refine (lr_put seq A cap l _ (Kd.C_below H.out HB1.out) hcap).mono ?_
    rintro e w2 ⟨rfl, hb2⟩
    have HB2 := Lib.hid (below_trans HB1.out hb2)
    have HP2 := Lib.hid (HP1.out.below hb2 HP1.out.lt)
    clear hb2 HP1 HB1
    have hml := mkS_toList
    by_cases he : (Lr.Put seq l).2 = 0
    · obtain ⟨n, hn, rfl, hc, hput⟩ : ∃ n : Nat, n < 281474976710656 ∧ seq = (n : Int) ∧ Lr.check l = 0 ∧ Lr.Put seq l = (Lr.put n l, 0) := by
        unfold Lr.Put at he ⊢
        by_cases h1 : seq < 0 ∨ 281474976710656 ≤ seq
        · rw [if_pos h1] at he; simp at he
        · rw [if_neg h1] at he ⊢
          by_cases h2 : Lr.check l = 0
          · rw [if_neg (by simp [h2])]
            exact ⟨seq.toNat, by omega, by omega, h2, rfl⟩
          · rw [if_pos h2] at he; exact absurd he h2
      rw [hput]
      have HF := Lib.hid (Lr.check_fine hc)
      have hfew := HF.out.few
      have HC := Lib.hid hc
      have HN := Lib.hid hn
      have hlen := Lr.put_len HF.out n
      have HHD := Lib.hid (fun i h1 h2 hi => Lr.put_heads hc n i h1 h2 hi)
      have HGET := Lib.hid (Lr.get_put hc hn)
      have HSZ := Lib.hid (Lr.put_size hc hn)
      have HTUR := Lib.hid (fun b k h1 h2 h3 h4 => Lr.get_turned (b := b) (k := k) hc hn h1 h2 h3 h4)
      clear hput he hc hn
      generalize Lr.put n l = S at *
      have hz : (mkS S).size = S.length := rfl
      have hlb : ((S.length : Int) != ((l.length : Int) + 1) * 64) = false := by rw [bne_eq_false_iff_eq]; omega
      have HLEN := Lib.hid hlen
      have hmax1 : S.length ≤ 1088 := by omega
      clear hlen
      go_wp2
      go_loop [11] (fun i => ∃ k : Nat, 1 ≤ k ∧ k ≤ l.length + 1 ∧ i = .int .i64 k) (fun i => l.length + 1 - (intOf i).toNat)
      case atStart => exact ⟨1, by omega, by omega, rfl⟩
      case round =>
        obtain ⟨k, hk1, hk2, rfl⟩ := hrel
        by_cases hlt : k ≤ l.length
        · have hkl : k * 64 < S.length := by rw [HLEN.out]; omega
          have hne := HHD.out k hk1 hlt hkl
          have hix : ∀ w, (Instr.index 9 (.string (mkS S)) (.int .i64 ((k : Int) * 64))).run Try.prog w = .ok (.int .u8 S[k * 64].toNat) w := fun w => byte_at S (k * 64) hkl w
          have hcb : ((S[k * 64].toNat : Int) == 82) = false := by
            rw [beq_eq_false_iff_ne]
            intro e
            apply hne
            apply UInt8.toNat_inj.1
            show S[k * 64].toNat = 82
            omega
          have hc256 := S[k * 64].toNat_lt
          clear hne
          generalize S[k * 64].toNat = c at *
          go_wp2
          go_round
          case rel => exact ⟨k + 1, by omega, by omega, by go_num⟩
          case measure => simp [intOf]; omega
        · obtain rfl : k = l.length + 1 := by omega
          go_wp2_with fail
          refine (lr_get S _ (by unfold maxLen; omega)).mono ?_
          rintro e w3 ⟨v, rfl, hv, hb3⟩
          rw [HGET.out] at hv ⊢
          have HB3 := Lib.hid (below_trans HB2.out hb3)
          have HP3 := Lib.hid (HP2.out.below hb3 HP2.out.lt)
          obtain ⟨B, d, rfl, hd, hsecs⟩ := hv.form
          have HS3 := Lib.hid hsecs
          clear hb3 HP2 HB2 hv hd hsecs
          have hE : (mkS S).extract 0 64 = mkS (S.take 64) := mkS_take S 64
          have h64 : (64 : Int) ≤ (S.length : Int) := by have := HLEN.out; omega
          go_wp2_with fail
          refine (lr_size (S.take 64) n _ (by rw [List.length_take]; unfold maxLen; omega)).mono ?_
          rintro e w4 ⟨rfl, hb4⟩
          rw [HSZ.out]
          have HB4 := Lib.hid (below_trans HB3.out hb4)
          have HP4 := Lib.hid (HP3.out.below hb4 HP3.out.lt)
          have HS4 := Lib.hid (Kd.C_below HS3.out hb4)
          clear hb4 HP3 HB3 HS3
          have hcv := fun (w : World) (s : ByteArray) => run_bytes_of_string (P := Try.prog) w 9 37 5 s Try.underlying9 Try.underlying37 Try.underlying5
          go_wp2
          obtain ⟨k, hkS, hke⟩ := turn_place at_ S.length (by omega) hmax1
          rw [hke]
          have HB5 := Lib.hid (((Below.refl w4.heap.size w4).alloc (Nat.le_refl _) (.cells (bytesRow (mkS S) (grownCap w4 S.length 0 5)) 5 ((bytesRow (mkS S) (grownCap w4 S.length 0 5)).size, (bytesRow (mkS S) (grownCap w4 S.length 0 5)).size + 1))).drew)
          have HX5 : Hid (BytesAt (w4.alloc (.cells (bytesRow (mkS S) (grownCap w4 S.length 0 5)) 5 ((bytesRow (mkS S) (grownCap w4 S.length 0 5)).size, (bytesRow (mkS S) (grownCap w4 S.length 0 5)).size + 1))).drew w4.heap.size S (grownCap w4 S.length 0 5)) := Lib.hid (by
            unfold BytesAt
            show (w4.heap.push _)[w4.heap.size]? = _
            simp)
          generalize grownCap w4 S.length 0 5 = c0 at *
          generalize (w4.alloc (.cells (bytesRow (mkS S) c0) 5 ((bytesRow (mkS S) c0).size, (bytesRow (mkS S) c0).size + 1))).drew = w5 at *
          clear hke hcv
          go_loopw [19] (fun i wr => ∃ j : Nat, j ≤ 4 ∧ k + j ≤ S.length ∧ i = .int .i64 j ∧ BytesAt wr w4.heap.size (xw S k [y0, y1, y2, y3] j) c0 ∧ Below w4.heap.size w4 wr) (fun i _ => 4 - (intOf i).toNat)
          case atStart => exact ⟨0, by omega, by omega, rfl, HX5.out, HB5.out⟩
          case round =>
            obtain ⟨j, hj4, hjS, rfl, hx, hb⟩ := hrel
            have HX := Lib.hid hx
            have HW := Lib.hid hb
            have HP := Lib.hid (HP4.out.below hb HP4.out.lt)
            clear hx hb HX5 HB5
            by_cases hmore : j < 4 ∧ k + j < S.length
            · obtain ⟨hj, hkj⟩ := hmore
              have HXL := Lib.hid (xw_len S k [y0, y1, y2, y3] j)
              have hlX : k + j < (xw S k [y0, y1, y2, y3] j).length := by rw [HXL.out]; exact hkj
              have c0' := HX.out.cell (k + j) hlX
              have c0f := HX.out.free (k + j) hlX
              have c1 := HP.out.cell (four_at y0 y1 y2 y3 j hj)
              have HNX := Lib.hid (show xw S k [y0, y1, y2, y3] (j + 1) = (xw S k [y0, y1, y2, y3] j).set (k + j) ((xw S k [y0, y1, y2, y3] j)[k + j] ^^^ [y0, y1, y2, y3].getD j 0) from by
                show (xw S k [y0, y1, y2, y3] j).set (k + j) ((xw S k [y0, y1, y2, y3] j).getD (k + j) 0 ^^^ [y0, y1, y2, y3].getD j 0) = _
                rw [List.getD_eq_getElem?_getD, List.getElem?_eq_getElem hlX]
                rfl)
              generalize xw S k [y0, y1, y2, y3] j = X at *
              generalize [y0, y1, y2, y3].getD j 0 = y at *
              have HBX := Lib.hid (xor_byte X[k + j] y.toNat y.toNat_lt)
              have hy256 := y.toNat_lt
              have hx256 := X[k + j].toNat_lt
              have HST := Lib.hid (HX.out.set (k + j) hlX (X[k + j] ^^^ y))
              generalize X[k + j] = x at *
              have HUY := Lib.hid (show UInt8.ofNat y.toNat = y from by simp)
              go_wp2
              have hq1 : IntKind.i64.wrap ((k : Int) + (j : Int)) = (k : Int) + (j : Int) := IntWalk.i64_in _ ⟨by omega, by omega⟩
              have hq2 : 0 ≤ (k : Int) + (j : Int) := by omega
              have hq3 : ((k : Int) + (j : Int)).toNat = k + j := by omega
              have hq4 : (k : Int) + (j : Int) < (S.length : Int) := by omega
              go_still_tail 15, (by kernel_rfl)
              change wpList _ _ _ _ _ wr.drew
              go_wp2
              rw [← HUY.out] at HST
              rw [HUY.out] at HST
              clear hq1 hq2 hq3 hq4
              go_roundw
              case rel =>
                have hbx := HBX.out
                rw [HUY.out] at hbx
                rw [hbx]
                exact ⟨j + 1, by omega, by omega, by go_num, by rw [HNX.out]; exact HST.out, (below_grown HW.out (grown_set (k + j) _) (Nat.le_refl _)).drew⟩
              case measure => simp [intOf]; omega
            · by_cases hj : j < 4
              · have hex : k + j = S.length := by omega
                have hpos := HF.out.pos
                have hk : ¬ k < 9 + 2 * l.length := by have := HLEN.out; omega
                have hin : ¬ (k < 9 + 2 * l.length ∧ 9 + 2 * l.length < k + 4) := fun h => hk h.1
                have HXL := Lib.hid (xw_len S k [y0, y1, y2, y3] j)
                have HXT := Lib.hid (xw_take S k [y0, y1, y2, y3] j)
                have HXD := Lib.hid (show (xw S k [y0, y1, y2, y3] j).drop (k + 4) = S.drop (k + 4) from by
                  rw [List.drop_of_length_le (by rw [HXL.out]; omega), List.drop_of_length_le (by omega)])
                generalize xw S k [y0, y1, y2, y3] j = X at *
                have HIFF := Lib.hid (HTUR.out X k HXL.out HXT.out HXD.out)
                have hcvb := back_string wr w4.heap.size X c0 S.length HXL.out HX.out
                go_wp2_with fail
                refine (lr_get X _ (by rw [HXL.out]; unfold maxLen; omega)).mono ?_
                rintro e w6 ⟨v, rfl, hv, hb6⟩
                have HX6 := Lib.hid (show BytesAt w6 w4.heap.size X c0 from by
                  have hx := HX.out
                  unfold BytesAt at hx ⊢
                  rw [hb6.block _ (Array.getElem?_eq_some_iff.1 hx).1, hx])
                have HW6 := Lib.hid (below_trans HW.out hb6)
                have HB6 := Lib.hid (below_trans HB4.out HW6.out)
                have HS6 := Lib.hid (Kd.C_below HS4.out HW6.out)
                clear hv hb6 hcvb
                have hnn : ((n : Int) == (n : Int)) = true := by simp
                have HQ := Lib.hid (HIFF.out hin)
                generalize (Lr.get X).2.2 = R at *
                generalize (Lr.get X).1 = R1 at *
                clear HIFF
                by_cases hXS : X = S
                · have hr : (R == 0) = true := by rw [beq_iff_eq]; exact HQ.out.2 hXS
                  have hxs : (X == S) = true := by rw [beq_iff_eq]; exact hXS
                  clear hXS
                  clear hin
                  go_wp2_with fail
                  go_fit (law9_same A B cap d l _ (Kd.C_below H.out HB6.out) HS6.out)
                  rintro e w7 ⟨rfl, hb7⟩
                  have HB7 := Lib.hid (below_trans HB6.out hb7)
                  have hcv7 := back_string w7 w4.heap.size X c0 S.length HXL.out (by
                    have hx := HX6.out
                    unfold BytesAt at hx ⊢
                    rw [hb7.block _ (Array.getElem?_eq_some_iff.1 hx).1, hx])
                  clear hb7
                  go_wp2
                  go_ret
                  exact ⟨rfl, HB7.out⟩
                · have hr : (R == 0) = false := by rw [beq_eq_false_iff_ne]; exact fun e => hXS (HQ.out.1 e)
                  have hxs : (X == S) = false := by rw [beq_eq_false_iff_ne]; exact hXS
                  clear hXS
                  clear hin
                  go_wp2_with fail
                  go_fit (law9_same A B cap d l _ (Kd.C_below H.out HB6.out) HS6.out)
                  rintro e w7 ⟨rfl, hb7⟩
                  have HB7 := Lib.hid (below_trans HB6.out hb7)
                  have hcv7 := back_string w7 w4.heap.size X c0 S.length HXL.out (by
                    have hx := HX6.out
                    unfold BytesAt at hx ⊢
                    rw [hb7.block _ (Array.getElem?_eq_some_iff.1 hx).1, hx])
                  clear hb7
                  go_wp2
                  go_ret
                  exact ⟨rfl, HB7.out⟩
              · have hj4e : j = 4 := by omega
                have HXL := Lib.hid (xw_len S k [y0, y1, y2, y3] j)
                have HXT := Lib.hid (xw_take S k [y0, y1, y2, y3] j)
                have HXD := Lib.hid (show (xw S k [y0, y1, y2, y3] j).drop (k + 4) = S.drop (k + 4) from by
                  subst hj4e; exact xw_drop S k [y0, y1, y2, y3] 4)
                generalize xw S k [y0, y1, y2, y3] j = X at *
                have HIFF := Lib.hid (HTUR.out X k HXL.out HXT.out HXD.out)
                have hcvb := back_string wr w4.heap.size X c0 S.length HXL.out HX.out
                go_wp2_with fail
                refine (lr_get X _ (by rw [HXL.out]; unfold maxLen; omega)).mono ?_
                rintro e w6 ⟨v, rfl, hv, hb6⟩
                have HX6 := Lib.hid (show BytesAt w6 w4.heap.size X c0 from by
                  have hx := HX.out
                  unfold BytesAt at hx ⊢
                  rw [hb6.block _ (Array.getElem?_eq_some_iff.1 hx).1, hx])
                have HW6 := Lib.hid (below_trans HW.out hb6)
                have HB6 := Lib.hid (below_trans HB4.out HW6.out)
                have HS6 := Lib.hid (Kd.C_below HS4.out HW6.out)
                clear hv hb6 hcvb
                have hnn : ((n : Int) == (n : Int)) = true := by simp
                by_cases hin : k < 9 + 2 * l.length ∧ 9 + 2 * l.length < k + 4
                · obtain ⟨hin1, hin2⟩ := hin
                  clear HIFF
                  go_wp2_with fail
                  go_fit (law9_same A B cap d l _ (Kd.C_below H.out HB6.out) HS6.out)
                  rintro e w7 ⟨rfl, hb7⟩
                  have HB7 := Lib.hid (below_trans HB6.out hb7)
                  clear hb7
                  go_wp2
                  go_ret
                  exact ⟨rfl, HB7.out⟩
                · have HQ := Lib.hid (HIFF.out hin)
                  generalize (Lr.get X).2.2 = R at *
                  generalize (Lr.get X).1 = R1 at *
                  clear HIFF
                  by_cases hXS : X = S
                  · have hr : (R == 0) = true := by rw [beq_iff_eq]; exact HQ.out.2 hXS
                    have hxs : (X == S) = true := by rw [beq_iff_eq]; exact hXS
                    clear hXS
                    by_cases hk : k < 9 + 2 * l.length
                    · have hk4 : k + 4 ≤ 9 + 2 * l.length := by omega
                      clear hin
                      go_wp2_with fail
                      go_fit (law9_same A B cap d l _ (Kd.C_below H.out HB6.out) HS6.out)
                      rintro e w7 ⟨rfl, hb7⟩
                      have HB7 := Lib.hid (below_trans HB6.out hb7)
                      have hcv7 := back_string w7 w4.heap.size X c0 S.length HXL.out (by
                        have hx := HX6.out
                        unfold BytesAt at hx ⊢
                        rw [hb7.block _ (Array.getElem?_eq_some_iff.1 hx).1, hx])
                      clear hb7
                      go_wp2
                      go_ret
                      exact ⟨rfl, HB7.out⟩
                    · clear hin
                      go_wp2_with fail
                      go_fit (law9_same A B cap d l _ (Kd.C_below H.out HB6.out) HS6.out)
                      rintro e w7 ⟨rfl, hb7⟩
                      have HB7 := Lib.hid (below_trans HB6.out hb7)
                      have hcv7 := back_string w7 w4.heap.size X c0 S.length HXL.out (by
                        have hx := HX6.out
                        unfold BytesAt at hx ⊢
                        rw [hb7.block _ (Array.getElem?_eq_some_iff.1 hx).1, hx])
                      clear hb7
                      go_wp2
                      go_ret
                      exact ⟨rfl, HB7.out⟩
                  · have hr : (R == 0) = false := by rw [beq_eq_false_iff_ne]; exact fun e => hXS (HQ.out.1 e)
                    have hxs : (X == S) = false := by rw [beq_eq_false_iff_ne]; exact hXS
                    clear hXS
                    by_cases hk : k < 9 + 2 * l.length
                    · have hk4 : k + 4 ≤ 9 + 2 * l.length := by omega
                      clear hin
                      go_wp2_with fail
                      go_fit (law9_same A B cap d l _ (Kd.C_below H.out HB6.out) HS6.out)
                      rintro e w7 ⟨rfl, hb7⟩
                      have HB7 := Lib.hid (below_trans HB6.out hb7)
                      have hcv7 := back_string w7 w4.heap.size X c0 S.length HXL.out (by
                        have hx := HX6.out
                        unfold BytesAt at hx ⊢
                        rw [hb7.block _ (Array.getElem?_eq_some_iff.1 hx).1, hx])
                      clear hb7
                      go_wp2
                      go_ret
                      exact ⟨rfl, HB7.out⟩
                    · clear hin
                      go_wp2_with fail
                      go_fit (law9_same A B cap d l _ (Kd.C_below H.out HB6.out) HS6.out)
                      rintro e w7 ⟨rfl, hb7⟩
                      have HB7 := Lib.hid (below_trans HB6.out hb7)
                      have hcv7 := back_string w7 w4.heap.size X c0 S.length HXL.out (by
                        have hx := HX6.out
                        unfold BytesAt at hx ⊢
                        rw [hb7.block _ (Array.getElem?_eq_some_iff.1 hx).1, hx])
                      clear hb7
                      go_wp2
                      go_ret
                      exact ⟨rfl, HB7.out⟩
    · have he1 : ((Lr.Put seq l).2 != 0) = true := by rw [bne_iff_ne]; exact he
      have he2 : ((Lr.Put seq l).1 == []) = true := by
        rw [beq_iff_eq]
        unfold Lr.Put at he ⊢
        by_cases h1 : seq < 0 ∨ 281474976710656 ≤ seq
        · rw [if_pos h1]
        · rw [if_neg h1] at he ⊢
          by_cases h2 : Lr.check l = 0
          · rw [if_neg (by simp [h2])] at he; simp at he
          · rw [if_pos h2]
      clear he
      generalize Lr.Put seq l = P at *
      go_wp2
      go_ret
      exact ⟨rfl, HB2.out⟩
end Go.Proofs.Ytgdkchjicggdlaa
