/- ClientOver: whatever it is given, it answers true. -/
import Derived.Test.YtdnkbnpjbcalaaaCws
namespace Go.Proofs.Ytdnkbnpjbcalaaa
open Go.RowKit

set_option maxRecDepth 100000 in
set_option maxHeartbeats 4000000 in
theorem law44_over (A0 : Option Addr) (c0 : Nat) (l : List OpV) (E : Option Addr) (ce : Nat) (errs : List Int) (Hs : Option Addr) (ch : Nat) (hows : List Int) (w : World)
    (hl : OpsAt w A0 l) (hE : Ints w E errs) (hH : Ints w Hs hows) (he2 : errs.length ≤ 200) (hh2 : hows.length ≤ 200) :
    Calls Try.prog 3 #[.slice A0 l.length c0, .slice E errs.length ce, .slice Hs hows.length ch] w fun e w' => e = .returned (.bool true) ∧ Below w.heap.size w w' := by
  have HL := Lib.hid hl
  have HE := Lib.hid hE
  have HH := Lib.hid hH
  have hfE : ∀ ad, E = some ad → 0 < errs.length → ad.block < w.heap.size := fun ad e hp => by
    obtain ⟨ad', e', hc⟩ := hE.2 0 hp
    rw [e] at e'; injection e' with e'; subst e'
    have := World.block_lt_of_cell? w _ hc
    rwa [add_block] at this
  have hfH : ∀ ad, Hs = some ad → 0 < hows.length → ad.block < w.heap.size := fun ad e hp => by
    obtain ⟨ad', e', hc⟩ := hH.2 0 hp
    rw [e] at e'; injection e' with e'; subst e'
    have := World.block_lt_of_cell? w _ hc
    rwa [add_block] at this
  have HFE := Lib.hid hfE
  have HFH := Lib.hid hfH
  clear hl hE hH hfE hfH
  go_enter Try.func3, Try.ntmps3
  go_wp2_with fail
  refine (law44_works _).mono ?_
  rintro e w1 ⟨rfl, hb1⟩
  have HB1 := Lib.hid hb1
  clear hb1
  go_wp2_with fail
  refine (law44_great A0 c0 l _ (HL.out.below HB1.out)).mono ?_
  rintro e w2 ⟨rfl, b, rfl, hgr⟩
  cases b with
  | true =>
    go_wp2
    go_ret
    exact ⟨rfl, HB1.out⟩
  | false =>
    have hl90 := hgr rfl
    clear hgr
    obtain ⟨w3, hw3⟩ : ∃ w3, (w1.alloc (.cells #[.slice none 0 0, .slice Hs hows.length ch, .slice none 0 0, .slice none 0 0, .int .i64 0, .int .i64 0] 31)).alloc (.cells #[.slice E errs.length ce, .slice none 0 0, .slice none 0 0, .slice none 0 0, .int .i64 0, .int .i64 0] 31) = w3 := ⟨_, rfl⟩
    have hb3 : Below w1.heap.size w1 w3 := by rw [← hw3]; exact ((Below.refl _ _).alloc (Nat.le_refl _) _).alloc (by simp) _
    have hs3 : w3.heap.size = w1.heap.size + 2 := by rw [← hw3]; simp
    have HB3 := Lib.hid (below_trans HB1.out hb3)
    have HTA3 := Lib.hid (show TapeAt w3 w.heap.size w1.heap.size (tpNew none 0 [] Hs ch hows) from TapeAt.new (Ints.nil _ _) (HH.out.below HB3.out) (fun ad e => by cases e) HFH.out HB1.out.size (by
      rw [← hw3]
      exact (Blk.alloc _ _ _).below ((Below.refl _ _).alloc (Nat.le_refl _) _) (by simp)))
    have HTB3 := Lib.hid (show TapeAt w3 w.heap.size (w1.heap.size + 1) (tpNew E ce errs none 0 []) from TapeAt.new (HE.out.below HB3.out) (Ints.nil _ _) HFE.out (fun ad e => by cases e) (by have := HB1.out.size; omega) (by
      rw [← hw3]
      exact blk_new (by simp)))
    have HN := Lib.hid (cl_new (some w1.heap.size) (some (w1.heap.size + 1)) w3)
    have HS3 := Lib.hid hs3
    clear hb3 hs3
    go_wp2_with fail
    refine HN.out.mono ?_
    rintro e w4 ⟨rfl, hw4⟩
    have hb4 : Below w3.heap.size w3 w4 := by rw [← hw4]; exact (Below.refl _ _).alloc (Nat.le_refl _) _
    obtain ⟨ta, hta⟩ : ∃ ta, w1.heap.size = ta := ⟨_, rfl⟩
    obtain ⟨c, hc⟩ : ∃ c, w3.heap.size = c := ⟨_, rfl⟩
    have HO4 := Lib.hid (show OvAt w w4 c ta (ta + 1) (tpNew E ce errs none 0 []) clNew (tpNew none 0 [] Hs ch hows) 0 from
      ⟨by rw [← hc]; refine ClAt.new (by have := HB3.out.size; omega) ?_; rw [← hw4, ← hta]; exact Blk.alloc _ _ _, rfl, by rw [← hta]; exact HTA3.out.below hb4, by rw [← hta]; exact HTB3.out.below hb4, by omega, rfl, (fun j hj => by cases hj), Nat.zero_le _, Nat.zero_le _, (fun x hx => by cases hx), Nat.zero_le _, Nat.zero_le _, Nat.zero_le _, rfl, below_trans HB3.out hb4⟩)
    rw [hta, hc]
    clear hw3 hw4 hb4 HTA3 HTB3 HN HS3 hta hc
    go_wp2
    go_loopw [10] (fun i wr => ∃ k : Nat, k ≤ l.length ∧ i = .int .i64 k ∧ ∃ v A, OvAt w wr c ta (ta + 1) (tpNew E ce errs none 0 []) v A k) (fun i _ => l.length - (intOf i).toNat)
    case atStart => exact ⟨0, by omega, rfl, _, _, HO4.out⟩
    case round =>
      obtain ⟨k, hk, rfl, v, A, ho⟩ := hrel
      have HO := Lib.hid ho
      clear ho
      by_cases hlt : k < l.length
      · obtain ⟨ad, rfl, h0, h1, h2, h3⟩ := (HL.out.below HO.out.old).2 k hlt
        clear h3
        have HOP := Lib.hid (show OpAt w (ad.add (k * 11)) l[k] from by
          obtain ⟨ad', e, h⟩ := HL.out.2 k hlt
          injection e with e
          subst e
          exact h)
        generalize l[k] = o at *
        by_cases hk2 : o.kind < 2
        · have hkn : (o.kind == 2) = false := by rw [beq_eq_false_iff_ne]; omega
          have HOd := Lib.hid (HO.out.same (below_drew wr) (Nat.le_refl _))
          go_wp2
          go_still_tail 11, (by kernel_rfl)
          change wpList _ _ _ _ _ wr.drew
          go_wp2_with fail
          refine (cl_write _ w.heap.size c _ _ v ta A HOd.out.cl (by unfold ClV.used; rw [HOd.out.at0]; rfl) HOd.out.a HOd.out.ap (by have := HOd.out.kl; omega) (by have := HOd.out.an; omega) (by have := HOd.out.ao; omega) (by have := HOd.out.al; omega) o.ext o.data).mono ?_
          intro e w5 hp
          obtain ⟨rfl, v', A', ho'⟩ := HOd.out.wrote hp
          have HO' := Lib.hid ho'
          have g0 := (HOP.out.below ho'.old).1
          clear hp ho'
          go_wp2
          go_roundw
          case rel => exact ⟨k + 1, by omega, by go_num, v', A', HO'.out⟩
          case measure => simp [intOf]; omega
        · by_cases hke : o.kind = 2
          · have hkn : (o.kind == 2) = true := by rw [beq_iff_eq]; exact hke
            clear hke
            go_wp2_with fail
            refine (cl_flush _ w.heap.size c _ _ v ta A HO.out.cl (by unfold ClV.used; rw [HO.out.at0]; rfl) HO.out.a HO.out.ap (by have := HO.out.kl; omega) (by have := HO.out.fl; omega) HO.out.fo (by have := HO.out.an; omega) (by have := HO.out.ao; omega)).mono ?_
            intro e w5 hp
            obtain ⟨⟨bb, rfl⟩, v', A', ho'⟩ := HO.out.flushed hp
            have HO' := Lib.hid ho'
            clear hp ho'
            go_wp2
            go_roundw
            case rel => exact ⟨k + 1, by omega, by go_num, v', A', HO'.out⟩
            case measure => simp [intOf]; omega
          · have hkn : (o.kind == 2) = false := by rw [beq_eq_false_iff_ne]; exact hke
            clear hke
            have HO' := Lib.hid (HO.out.same (Below.refl _ _) (Nat.le_succ k))
            go_wp2
            go_roundw
            case rel => exact ⟨k + 1, by omega, by go_num, v, A, HO'.out⟩
            case measure => simp [intOf]; omega
      · obtain rfl : k = l.length := by omega
        have hkl := HO.out.kl
        have hvl : v.K.length ≤ 90 := by omega
        go_wp2_with fail
        refine (cl_kept _ _ c _ _ v HO.out.cl (by omega)).mono ?_
        rintro e w5 ⟨g, rfl, hx5, hg5, hb5⟩
        have HO5 := Lib.hid (HO.out.same hb5 (Nat.le_refl _))
        have HX5 := Lib.hid hx5
        obtain ⟨AA, cA, hwr, _, _⟩ := own_form HO5.out.a.own (by decide)
        have d3 : w5.cell? ⟨ta, 3, none⟩ = some (.slice AA A.wl.length cA) := by rw [← hwr]; exact HO5.out.a.box.cell (i := 3) rfl
        have HG5 := Lib.hid (show w.heap.size ≤ g from Nat.le_trans HO.out.old.size hg5)
        clear hx5 hb5 hwr hg5
        go_wp2
        go_loop [13, 14] (fun want n => ∃ (k : Nat) (r : Int), want = .int .i64 r ∧ n = .int .i64 k ∧ k ≤ v.K.length ∧ (∀ i, i < k → errAt errs i = 0) ∧ (r = 0 ∨ (k < v.K.length ∧ errAt errs k = r ∧ r ≠ 0))) (fun want n => 2 * (v.K.length - (intOf n).toNat) + (if intOf want = 0 then 1 else 0))
        case atStart => exact ⟨0, 0, rfl, rfl, by omega, fun i hi => by omega, .inl rfl⟩
        case round =>
          obtain ⟨k, r, rfl, rfl, hk, hok, hr⟩ := hrel
          by_cases hgo : r = 0 ∧ k < v.K.length
          · obtain ⟨rfl, hlt⟩ := hgo
            have HOK := Lib.hid hok
            clear hr hok
            by_cases hke : k < errs.length
            · obtain ⟨ed, rfl, he0⟩ := (HE.out.below HO5.out.old).2 k hke
              have HER := Lib.hid (show errAt errs k = errs[k] from by unfold errAt; rw [List.getD_eq_getElem?_getD, List.getElem?_eq_getElem hke]; rfl)
              generalize errs[k] = er at *
              by_cases h0 : er = 0
              · subst h0
                go_wp2
                go_round
                case rel => exact ⟨k + 1, 0, rfl, by go_num, by omega, fun i hi => by rcases Nat.lt_or_ge i k with h | h; exact HOK.out i h; (obtain rfl : i = k := by omega); exact HER.out, .inl rfl⟩
                case measure => simp [intOf]; omega
              · have h0b : (er == 0) = false := by rw [beq_eq_false_iff_ne]; exact h0
                have HNZ := Lib.hid h0
                clear h0
                go_wp2
                go_round
                case rel => exact ⟨k, er, rfl, rfl, by omega, HOK.out, .inr ⟨hlt, HER.out, HNZ.out⟩⟩
                case measure => simp [intOf, HNZ.out]
            · have HER := Lib.hid (show errAt errs k = 0 from by unfold errAt; rw [List.getD_eq_getElem?_getD, List.getElem?_eq_none (by omega)]; rfl)
              go_wp2
              go_round
              case rel => exact ⟨k + 1, 0, rfl, by go_num, by omega, fun i hi => by rcases Nat.lt_or_ge i k with h | h; exact HOK.out i h; (obtain rfl : i = k := by omega); exact HER.out, .inl rfl⟩
              case measure => simp [intOf]; omega
          · have HFAR := Lib.hid (show Far errs v.K.length k r from ⟨hk, hok, by
              rcases hr with h | h
              · exact .inl ⟨Decidable.byContradiction fun x => hgo ⟨h, by omega⟩, h⟩
              · exact .inr h⟩)
            have hcase : (¬ k < v.K.length) ∨ (k < v.K.length ∧ (r == 0) = false) := by
              by_cases hkk : k < v.K.length
              · exact .inr ⟨hkk, by rw [beq_eq_false_iff_ne]; exact fun h => hgo ⟨h, hkk⟩⟩
              · exact .inl hkk
            have hgl : (r != r) = false := by simp
            clear hok hr hgo d3
            obtain ⟨L, hL⟩ : ∃ L, v.K.length = L := ⟨_, rfl⟩
            have HLL := Lib.hid hL
            have hLb : L ≤ 90 := by omega
            rw [hL] at hcase hk
            rw [hL]
            clear hL
            rcases hcase with hc | ⟨hc, hc2⟩
            all_goals
              go_wp2_with fail
              refine (cl_over _ w.heap.size c _ _ v (ta + 1) (tpNew E ce errs none 0 []) HO5.out.cl (by rw [HO5.out.at0]; rfl) HO5.out.b (by omega) (by simp [tpNew]) (by simp [tpNew]) (by simp [tpNew])).mono ?_
              rintro e w6 ⟨m, r', ops', n', wvb, rfl, hm, hmok, hmr, hc6, hb6, hn6, ho6, hm6, hwv6⟩
              obtain ⟨rfl, rfl⟩ := Far.one HFAR.out (show Far errs v.K.length m r' from ⟨hm, fun i hi => by have := hmok i hi; rwa [show (tpNew E ce errs none 0 []).n + i = i from Nat.zero_add _] at this, by rwa [show (tpNew E ce errs none 0 []).n + m = m from Nat.zero_add _] at hmr⟩)
              have hlen : v.K.length ≤ 90 := hvl
              obtain ⟨ha6, hx6, hbl6⟩ := over_other HO5.out.cl HO5.out.a HO5.out.b.box HO5.out.b.hb HO5.out.ne HX5.out hm6
              have HBL6 := Lib.hid (show Below w.heap.size w w6 from HO5.out.old.trans (hbl6 HO5.out.old.size))
              obtain ⟨v6, hv6⟩ : ∃ v6 : ClV, v6 = ⟨1, v.kept, v.K, .slice none 0 0, []⟩ := ⟨_, rfl⟩
              obtain ⟨B6, hB6⟩ : ∃ B6 : TpV, B6 = { tpNew E ce errs none 0 [] with n := n', ops := ops', wrote := wvb, wl := v.K.take k } := ⟨_, rfl⟩
              have HC6 := Lib.hid (show ClAt w6 w.heap.size c (some ta) (some (ta + 1)) v6 from hc6.as (by rw [hv6, HO5.out.at0]))
              have HB6 := Lib.hid (show TapeAt w6 w.heap.size (ta + 1) B6 from hb6.as (by rw [hB6]; rfl))
              have HA6 := Lib.hid ha6
              have HX6 := Lib.hid hx6
              have HV6 := Lib.hid hv6
              have HBB6 := Lib.hid hB6
              have hob : OwnSecs w6 w.heap.size wvb (v.K.take k) := by have := HB6.out.own; rw [hB6] at this; exact this
              obtain ⟨AB, cb, hwb, _, _⟩ := own_form hob (by decide)
              rw [List.length_take, Nat.min_eq_left hm] at hwb
              have HRB := Lib.hid (show RdS w6 (.slice AB k cb) (v.K.take k) from by rw [← hwb]; exact rdS_own hob)
              have g3 : w6.cell? ⟨ta + 1, 3, none⟩ = some (.slice AB k cb) := by
                have := HB6.out.box.cell (i := 3) rfl
                rw [hB6] at this
                rw [← hwb]; exact this
              have HRK := Lib.hid (show RdS w6 (.slice (some ⟨g, 0, none⟩) L L) v.K from by have := rdS_blk hx6; rw [HLL.out] at this; exact this)
              have HRT := Lib.hid (show RdS w6 (.slice (some ⟨g, 0, none⟩) k L) (v.K.take k) from by have := rdS_to (rdS_blk hx6) k hm; rw [HLL.out] at this; exact this)
              obtain ⟨i0, hi, hz0, hz1, hz2⟩ := info_parts sec_info
              have hsl1 : ∀ W, (Instr.slice 29 (.slice (some ⟨g, 0, none⟩) L L) none (some (.int .i64 (k : Int))) none).run Try.prog W = .ok (.slice (some ⟨g, 0, none⟩) k L) W := fun W => run_slice_to W _ _ i0 Try.underlying29 hi _ _ _ _ hk
              have hK6 : v6.K = v.K := by rw [hv6]
              have hat6 : v6.at_ = 1 := by rw [hv6]
              have HQ6 := Lib.hid (And.intro hK6 hat6)
              have HTL := Lib.hid (show (v.K.take k).length ≤ 1000 from by rw [List.length_take]; omega)
              have HKL := Lib.hid (show v.K.length ≤ 1000 from by omega)
              clear hm hmok hmr hc6 hb6 hn6 ho6 hm6 hwv6 ha6 hx6 hbl6 hv6 hB6 hob hwb hK6 hat6
              have tk1 : True := trivial
              go_wp2
              go_region_held3 (fun W => W.cell? ⟨ta + 1, 3, none⟩ = some (.slice AB k cb)) (first | exact g3 | exact HS3.out | exact HS2.out | exact HS1.out) (first
                | (go_at_call 13; refine (cl_at _ c _ _ 1 _ _ (by have := HC6.out.box; rw [HQ6.out.2] at this; exact this)).mono ?_; rintro e x1 ⟨rfl, rfl⟩)
                | (go_at_call 14; have _t := tk1; refine (law9_sectors (.slice AB k cb) (.slice (some ⟨g, 0, none⟩) k L) (v.K.take k) _ (HRB.out.below (by exact below_drew _)) (HRT.out.below (by exact below_drew _)) HTL.out).mono ?_; rintro e x1 ⟨rfl, hbx1⟩; have HX1 := Lib.hid (show Below w6.heap.size w6 x1 from below_trans (below_drew _) hbx1); have HS1 := Lib.hid (cell_below HX1.out g3); clear hbx1 tk1)
                | (go_at_call 11; refine (cl_kept _ w.heap.size c _ _ v6 (HC6.out.below HX1.out) (by rw [HQ6.out.1]; exact HKL.out)).mono ?_; rintro e x2 ⟨g8, rfl, hx8, hg8, hbx2⟩; have HX2 := Lib.hid (below_trans HX1.out hbx2); have HS2 := Lib.hid (cell_below HX2.out g3); have HRK8 := Lib.hid (show RdS x2 (.slice (some ⟨g8, 0, none⟩) L L) v.K from by have := rdS_blk hx8; rw [HQ6.out.1, HLL.out] at this; exact this); rw [HQ6.out.1, HLL.out]; clear hx8 hg8 hbx2)
                | (go_at_call 14; refine (law9_sectors (.slice (some ⟨g8, 0, none⟩) L L) (.slice (some ⟨g, 0, none⟩) L L) v.K _ (by exact HRK8.out) (by exact HRK.out.below HX2.out) HKL.out).mono ?_; rintro e x3 ⟨rfl, hbx3⟩; have HX3 := Lib.hid (below_trans HX2.out hbx3); have HS3 := Lib.hid (cell_below HX3.out g3); clear hbx3))
              go_wp2_with fail
              refine (cl_over _ w.heap.size c _ _ v6 ta A (HC6.out.below HX3.out) (by rw [HQ6.out.2]; rfl) (HA6.out.below HX3.out) (by rw [HQ6.out.1]; exact HKL.out) (by have := HO5.out.an; omega) (by have := HO5.out.ao; omega) (by have := HO5.out.al; omega)).mono ?_
              rintro e w7 ⟨m7, r7, ops7, n7, wv7, rfl, hm7, hok7, hr7, hc7, ha7, _, _, hmv7, _⟩
              obtain ⟨rfl, rfl⟩ : m7 = v6.K.length ∧ r7 = 0 := by
                rcases hr7 with h | ⟨_, h2, h3⟩
                · exact h
                · exact absurd (h2.symm.trans (by rw [HO5.out.ae]; simp [errAt])) h3
              obtain ⟨_, hx7, hbl7⟩ := over_other (HC6.out.below HX3.out) (HB6.out.below HX3.out) (HA6.out.below HX3.out).box HA6.out.hb (fun e => HO5.out.ne e.symm) (HX6.out.below HX3.out HX6.out.lt) hmv7
              have HBL7 := Lib.hid (show Below w.heap.size w w7 from (HBL6.out.trans (HX3.out.mono HBL6.out.size)).trans (hbl7 (by have := HBL6.out.size; have := HX3.out.size; omega)))
              have hown7 : OwnSecs w7 w.heap.size wv7 (A.wl ++ v.K) := by have := ha7.own; rw [List.take_length, HQ6.out.1] at this; exact this
              obtain ⟨AW, cw, hww, hcw, _⟩ := own_form hown7 (by decide)
              have hbx7 : w7.cell? ⟨ta, 3, none⟩ = some wv7 := ha7.box.cell (i := 3) rfl
              obtain ⟨N, hN⟩ : ∃ N, (A.wl ++ v.K).length = N := ⟨_, rfl⟩
              rw [hN] at hww hcw
              rw [hww] at hbx7 hown7
              obtain ⟨i1, hi1, _, hz11, _⟩ := info_parts sec_info
              obtain ⟨u7, hsl7, hru7⟩ := rdS_from (P := Try.prog) Try.underlying29 hi1 hz11 (rdS_own hown7) hN hcw
              have HRU := Lib.hid hru7
              have HC7 := Lib.hid hc7
              have HRK7 := Lib.hid (show RdS w7 (.slice (some ⟨g, 0, none⟩) L L) v.K from by have := rdS_blk hx7; rw [HLL.out] at this; exact this)
              have hat7 : 1 - v6.at_ = 0 := by rw [HQ6.out.2]
              have HAT := Lib.hid hat7
              clear hm7 hok7 hr7 hc7 ha7 hmv7 hx7 hbl7 hown7 hww hcw hN hru7 hi1 hz11 hat7 hsl1
              go_wp2_with fail
              refine (cl_at _ c _ _ 0 _ _ (by have := HC7.out.box; simp only [HAT.out] at this; exact this)).mono ?_
              rintro e w8 ⟨rfl, rfl⟩
              go_wp2_with fail
              refine (law9_sectors u7 (.slice (some ⟨g, 0, none⟩) L L) v.K _ HRU.out HRK7.out HKL.out).mono ?_
              rintro e w9 ⟨rfl, hb9⟩
              have HB9 := Lib.hid hb9
              clear hb9
              go_wp2_with fail
              refine (cl_kept _ w.heap.size c _ _ _ (HC7.out.below HB9.out) (by show v6.K.length ≤ 1000; rw [HQ6.out.1]; exact HKL.out)).mono ?_
              rintro e w10 ⟨g10, rfl, hx10, _, hb10⟩
              have HB10 := Lib.hid (below_trans HB9.out hb10)
              have HR10 := Lib.hid (show RdS w10 (.slice (some ⟨g10, 0, none⟩) v6.K.length v6.K.length) v.K from by have := rdS_blk hx10; rw [← HQ6.out.1]; exact this)
              clear hx10 hb10
              go_wp2_with fail
              refine (law9_sectors _ (.slice (some ⟨g, 0, none⟩) L L) v.K _ HR10.out (HRK7.out.below HB10.out) HKL.out).mono ?_
              rintro e w11 ⟨rfl, hb11⟩
              have HB11 := Lib.hid (show Below w.heap.size w w11 from HBL7.out.trans ((below_trans HB10.out hb11).mono HBL7.out.size))
              clear hb11
              go_wp2
              go_ret
              exact ⟨rfl, HB11.out⟩
end Go.Proofs.Ytdnkbnpjbcalaaa
