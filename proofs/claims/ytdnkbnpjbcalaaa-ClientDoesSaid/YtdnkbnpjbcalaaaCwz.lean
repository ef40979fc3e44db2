/- ClientDoes: whatever it is given, it answers true. -/
import Derived.Test.YtdnkbnpjbcalaaaCyb
import Derived.Test.YtdnkbnpjbcalaaaCww
namespace Go.Proofs.Ytdnkbnpjbcalaaa
open Go.RowKit
set_option maxRecDepth 100000 in
set_option maxHeartbeats 4000000 in
theorem law44_does (A0 : Option Addr) (c0 : Nat) (l : List OpV) (E : Option Addr) (ce : Nat) (errs : List Int) (Hs : Option Addr) (ch : Nat) (hows : List Int) (w : World)
    (hl : OpsAt w A0 l) (hE : Ints w E errs) (hH : Ints w Hs hows) (he2 : errs.length ≤ 200) (hh2 : hows.length ≤ 200) :
    Calls Try.prog 4 #[.slice A0 l.length c0, .slice E errs.length ce, .slice Hs hows.length ch] w fun e w' => e = .returned (.bool true) ∧ Below w.heap.size w w' := by
  have HL := Lib.hid hl
  have HE := Lib.hid hE
  have HH := Lib.hid hH
  have hfE : ∀ ad, E = some ad → 0 < errs.length → ad.block < w.heap.size := fun ad e hp => by
    obtain ⟨ad', e', hc⟩ := hE.2 0 hp
    rw [e] at e'; injection e' with e'; subst e'
    have := World.block_lt_of_cell? w _ hc
    rwa [add_block] at this
  have hfH : ∀ ad, Hs = some ad → 0 < hows.length → ad.block < w.heap.size := fun ad e hp => by
    obtain ⟨ad', e', hc⟩ := hH.2 0 hp
    rw [e] at e'; injection e' with e'; subst e'
    have := World.block_lt_of_cell? w _ hc
    rwa [add_block] at this
  have HFE := Lib.hid hfE
  have HFH := Lib.hid hfH
  clear hl hE hH hfE hfH
  go_enter Try.func4, Try.ntmps4
  go_wp2_with fail
  refine (law44_works _).mono ?_
  rintro e w1 ⟨rfl, hb1⟩
  have HB1 := Lib.hid hb1
  clear hb1
  go_wp2_with fail
  refine (law44_great A0 c0 l _ (HL.out.below HB1.out)).mono ?_
  rintro e w2 ⟨rfl, bb, rfl, hgr⟩
  cases bb with
  | true =>
    go_wp2
    go_ret
    exact ⟨rfl, HB1.out⟩
  | false =>
    have hl90 := hgr rfl
    clear hgr
    obtain ⟨w3, hw3⟩ : ∃ w3, ((w1.alloc (.cells #[.slice E errs.length ce, .slice Hs hows.length ch, .slice none 0 0, .slice none 0 0, .int .i64 0, .int .i64 0] 31)).alloc (.cells #[.slice E errs.length ce, .slice Hs hows.length ch, .slice none 0 0, .slice none 0 0, .int .i64 0, .int .i64 0] 31)).alloc (.cells #[.slice none 0 0, .slice none 0 0, .slice none 0 0, .slice none 0 0, .int .i64 0, .int .i64 0] 31) = w3 := ⟨_, rfl⟩
    have hb3 : Below w1.heap.size w1 w3 := by rw [← hw3]; exact (((Below.refl _ _).alloc (Nat.le_refl _) _).alloc (by simp) _).alloc (by simp; omega) _
    have hs3 : w3.heap.size = w1.heap.size + 3 := by rw [← hw3]; simp
    have HB3 := Lib.hid (below_trans HB1.out hb3)
    have HT3 := Lib.hid (show TapeAt w3 w.heap.size w1.heap.size (tpNew E ce errs Hs ch hows) from TapeAt.new (HE.out.below HB3.out) (HH.out.below HB3.out) HFE.out HFH.out HB1.out.size (by
      rw [← hw3]
      exact ((Blk.alloc _ _ _).below ((Below.refl _ _).alloc (Nat.le_refl _) _) (by simp)).below ((Below.refl _ _).alloc (Nat.le_refl _) _) (by simp; omega)))
    have HW3 := Lib.hid (show TapeAt w3 w.heap.size (w1.heap.size + 1) (tpNew E ce errs Hs ch hows) from TapeAt.new (HE.out.below HB3.out) (HH.out.below HB3.out) HFE.out HFH.out (by have := HB1.out.size; omega) (by
      rw [← hw3]
      exact (blk_new (by simp)).below ((Below.refl _ _).alloc (Nat.le_refl _) _) (by simp)))
    have HN := Lib.hid (cl_new (some w1.heap.size) (some (w1.heap.size + 2)) w3)
    have HS3 := Lib.hid hs3
    clear hb3 hs3
    go_wp2_with fail
    refine HN.out.mono ?_
    rintro e w4 ⟨rfl, hw4⟩
    have hb4 : Below w3.heap.size w3 w4 := by rw [← hw4]; exact (Below.refl _ _).alloc (Nat.le_refl _) _
    have hs4 : w4.heap.size = w3.heap.size + 1 := by rw [← hw4]; simp
    obtain ⟨w5, hw5⟩ : ∃ w5, w4.alloc (.cells #[.slice none 0 0, .slice none 0 0] 52) = w5 := ⟨_, rfl⟩
    have hb5 : Below w4.heap.size w4 w5 := by rw [← hw5]; exact (Below.refl _ _).alloc (Nat.le_refl _) _
    have HP5 := Lib.hid (show Parts w w5 w3.heap.size w1.heap.size (w1.heap.size + 2) (w1.heap.size + 1) w4.heap.size clNew (tpNew E ce errs Hs ch hows) (tpNew E ce errs Hs ch hows) ⟨.slice none 0 0, [], .slice none 0 0, []⟩ from
      ⟨(ClAt.new (by have := HB3.out.size; omega) (by rw [← hw4]; exact Blk.alloc _ _ _)).below hb5, rfl, (HT3.out.below hb4).below hb5, (HW3.out.below hb4).below hb5, RefAt.nil (by rw [← hw5]; exact Blk.alloc _ _ _) (by have := HB3.out.size; have := hb4.size; omega), by omega, rfl, fun j hj => (by cases hj), fun j hj => (by cases hj), below_trans (below_trans HB3.out hb4) hb5⟩)
    have HR5 := Lib.hid (show Rel clNew (tpNew E ce errs Hs ch hows) (tpNew E ce errs Hs ch hows) ⟨.slice none 0 0, [], .slice none 0 0, []⟩ 0 from
      ⟨rfl, rfl, rfl, rfl, rfl, rfl, Nat.zero_le _, Nat.zero_le _, fun x hx => (by cases hx), Nat.zero_le _, Nat.zero_le _, Nat.zero_le _⟩)
    obtain ⟨b, hb⟩ : ∃ b, w4.heap.size = b := ⟨_, rfl⟩
    obtain ⟨c, hc⟩ : ∃ c, w3.heap.size = c := ⟨_, rfl⟩
    obtain ⟨t, ht⟩ : ∃ t, w1.heap.size = t := ⟨_, rfl⟩
    rw [hb, hc, ht] at HP5
    have HBB := Lib.hid hb
    rw [hc, ht]
    clear hw3 hw4 hb4 hb5 hs4 HT3 HW3 HN HS3 hb hc ht
    go_wp2
    simp only [HBB.out]
    go_loopw [11] (fun i wr => ∃ k : Nat, k ≤ l.length ∧ i = .int .i64 k ∧ ∃ v A T r, Parts w wr c t (t + 2) (t + 1) b v A T r ∧ Rel v A T r k) (fun i _ => l.length - (intOf i).toNat)
    case atStart => exact ⟨0, by omega, rfl, _, _, _, _, HP5.out, HR5.out⟩
    case round =>
      obtain ⟨k, hk, rfl, v, A, T, r, hp, hr⟩ := hrel
      have HP := Lib.hid hp
      have HR := Lib.hid hr
      clear hp hr
      by_cases hlt : k < l.length
      · obtain ⟨ad, rfl, h0, h1, h2, h3, h4, h5, h6, h7, h8, h9, h10⟩ := (HL.out.below HP.out.old).2 k hlt
        generalize l[k] = o at *
        obtain ⟨kind, ext, data, a0, a1, a2, a3, a4, a5, s, C, cn, cc⟩ := o
        obtain ⟨w6, hw6⟩ : ∃ w6, wr.alloc (.cells #[.int .i64 kind, .int .i64 ext, .string data, .int .i64 a0, .int .i64 a1, .int .i64 a2, .int .i64 a3, .int .i64 a4, .int .i64 a5, .string s, .slice C cn cc] 39) = w6 := ⟨_, rfl⟩
        have hb6 : Below wr.heap.size wr w6 := by rw [← hw6]; exact (Below.refl _ _).alloc (Nat.le_refl _) _
        have hx6 : Blk w6 wr.heap.size #[.int .i64 kind, .int .i64 ext, .string data, .int .i64 a0, .int .i64 a1, .int .i64 a2, .int .i64 a3, .int .i64 a4, .int .i64 a5, .string s, .slice C cn cc] 39 := by rw [← hw6]; exact Blk.alloc _ _ _
        have x0 := hx6.cell (i := 0) rfl
        have x1 := hx6.cell (i := 1) rfl
        have x2 := hx6.cell (i := 2) rfl
        have HX6 := Lib.hid hx6
        have HP6 := Lib.hid (HP.out.below hb6)
        have HS6 := Lib.hid (show wr.heap.size < w6.heap.size from hx6.lt)
        clear hx6 hb6
        have hwk : IntKind.i64.wrap ((k : Int) + 1) = (k : Int) + 1 := IntWalk.i64_in _ ⟨by omega, by omega⟩
        by_cases hk01 : kind = 0 ∨ kind = 1
        · by_cases hz : kind = 0
          · have n0 : (kind == 0) = true := by rw [beq_iff_eq]; exact hz
            clear hz hk01
            have HER := Lib.hid HR.out.err
            go_wp2_with fail
            refine (tp_next _ w.heap.size (t + 1) T HP6.out.tt (by rw [← HR.out.sn]; have := HR.out.an; omega) (by rw [← HR.out.so]; have := HR.out.ao; omega)).mono ?_
            rintro e w7 ⟨rfl, ht7, hm7⟩
            rw [HER.out.1, HER.out.2]
            have hp7 := HP6.out.next ht7 hm7
            have hy7 := HX6.out.mv hm7 (fun e => blk_ne HX6.out HP6.out.tt.box (by decide) e)
            obtain ⟨w8, hw8⟩ : ∃ w8, w7.alloc (.cells #[.int .i64 A.ev.1, .int .i64 A.ev.2] 54) = w8 := ⟨_, rfl⟩
            have hb8 : Below w7.heap.size w7 w8 := by rw [← hw8]; exact (Below.refl _ _).alloc (Nat.le_refl _) _
            have HP8 := Lib.hid (hp7.below hb8)
            have hy8 := hy7.below hb8 hy7.lt
            have j1 := hy8.cell (i := 1) rfl
            have j2 := hy8.cell (i := 2) rfl
            have HY8 := Lib.hid hy8
            clear ht7 hm7 hp7 hb8 hy7 hy8
            by_cases he : A.err = 0
            · have heb : (A.err == 0) = true := by rw [beq_iff_eq]; exact he
              have HE0 := Lib.hid he
              rw [he]
              clear he
              go_wp2_with fail
              refine (rf_wrote _ w.heap.size b r HP8.out.rf (by rw [HR.out.rk]; have := HR.out.kl; omega) ext data).mono ?_
              rintro e w9 ⟨rfl, kv9, hr9, hm9, hkv9⟩
              have HP9 := Lib.hid (HP8.out.ref hr9 hm9 (HP8.out.fresh hkv9))
              have hy9 := HY8.out.mv hm9 (fun e => blk_ne HY8.out HP8.out.rf.box (by decide) e)
              have l1 := hy9.cell (i := 1) rfl
              have l2 := hy9.cell (i := 2) rfl
              clear hr9 hm9 hkv9 hy9
              go_wp2_with fail
              refine (cl_write _ w.heap.size c _ _ v t A HP9.out.cl (by unfold ClV.used; rw [HP9.out.at0]; rfl) HP9.out.a HP9.out.ap (by have := HR.out.kl; omega) (by have := HR.out.an; omega) (by have := HR.out.ao; omega) (by have := HR.out.al; omega) ext data).mono ?_
              rintro e w10 ⟨rfl, kv10, wv10, hc10, ha10, hm10, hap10, hkv10, _⟩
              rw [if_pos HE0.out] at hc10 ha10
              rw [HE0.out]
              have HP10 := Lib.hid (HP9.out.client hc10 HP9.out.at0 ha10 hm10 hap10 hkv10)
              clear hc10 ha10 hm10 hap10 hkv10
              go_wp2
              obtain ⟨v7, A7, T7, r7, hp7, hr7⟩ : ∃ v7 A7 T7 r7, Parts w w10 c t (t + 2) (t + 1) b v7 A7 T7 r7 ∧ Rel v7 A7 T7 r7 (k + 1) := ⟨_, _, _, _, HP10.out, HR.out.wrote0 HE0.out _ _ _ _ _⟩
              have HP7 := Lib.hid hp7
              have HRR := Lib.hid hr7
              clear hp7 hr7
              obtain ⟨KA, kc, hkv, _, _⟩ := HP7.out.rf.kl
              have z0 : w10.cell? ⟨b, 0, none⟩ = some (.slice KA (r7).K.length kc) := by rw [← hkv]; exact HP7.out.rf.box.cell (i := 0) rfl
              have HZL := Lib.hid (show (v7).K.length ≤ 1000 from by have := HRR.out.kl; omega)
              have HZR := Lib.hid (show RdS w10 (.slice KA (r7).K.length kc) (v7).K from by have := HP7.out.rf.k; rw [hkv, HRR.out.rk] at this; rw [HRR.out.rk]; exact this)
              have HZC := Lib.hid HP7.out.cl
              have HZ0 := Lib.hid HP7.out.at0
              clear hkv
              go_region_held3 (fun W => W.cell? ⟨b, 0, none⟩ = some (.slice KA (r7).K.length kc)) (first | exact z0 | exact HS1.out | exact HS2.out) (first
                | (go_at_call 11; refine (cl_kept _ _ c _ _ _ (HZC.out.below (by exact below_drew _)) HZL.out).mono ?_; rintro e q1 ⟨g1, rfl, hg1, _, hq1⟩; have HQ1 := Lib.hid (show Below w10.heap.size w10 q1 from below_trans (below_drew _) hq1); have HS1 := Lib.hid (cell_below HQ1.out z0); have HG1 := Lib.hid (rdS_blk hg1); clear hg1 hq1)
                | (go_at_call 14; refine (law9_sectors _ _ _ _ (by exact HG1.out) (by exact HZR.out.below HQ1.out) HZL.out).mono ?_; rintro e q2 ⟨rfl, hq2⟩; have HQ2 := Lib.hid (below_trans HQ1.out hq2); have HS2 := Lib.hid (cell_below HQ2.out z0); clear hq2)
                | (go_at_call 13; refine (cl_at _ c _ _ 0 _ _ (by have := (HZC.out.below HQ2.out).box; rw [HZ0.out] at this; exact this)).mono ?_; rintro e q3 ⟨rfl, rfl⟩))
              all_goals
                go_wp2
                go_roundw
                case rel => exact ⟨k + 1, by omega, by go_num, _, _, _, _, HP7.out.below HQ2.out, HRR.out⟩
                case measure => simp [intOf]; omega
            · have heb : (A.err == 0) = false := by rw [beq_eq_false_iff_ne]; exact he
              have hee : (A.err == A.err) = true := by simp
              have HE0 := Lib.hid he
              clear he
              go_wp2_with fail
              refine (cl_write _ w.heap.size c _ _ v t A HP8.out.cl (by unfold ClV.used; rw [HP8.out.at0]; rfl) HP8.out.a HP8.out.ap (by have := HR.out.kl; omega) (by have := HR.out.an; omega) (by have := HR.out.ao; omega) (by have := HR.out.al; omega) ext data).mono ?_
              rintro e w10 ⟨rfl, kv10, wv10, hc10, ha10, hm10, hap10, hkv10, _⟩
              rw [if_neg HE0.out] at hc10 ha10
              have HP10 := Lib.hid (HP8.out.client hc10 HP8.out.at0 ha10 hm10 hap10 hkv10)
              clear hc10 ha10 hm10 hap10 hkv10
              go_wp2
              obtain ⟨v7, A7, T7, r7, hp7, hr7⟩ : ∃ v7 A7 T7 r7, Parts w w10 c t (t + 2) (t + 1) b v7 A7 T7 r7 ∧ Rel v7 A7 T7 r7 (k + 1) := ⟨_, _, _, _, HP10.out, HR.out.wrote1 HE0.out _ _⟩
              have HP7 := Lib.hid hp7
              have HRR := Lib.hid hr7
              clear hp7 hr7
              obtain ⟨KA, kc, hkv, _, _⟩ := HP7.out.rf.kl
              have z0 : w10.cell? ⟨b, 0, none⟩ = some (.slice KA (r7).K.length kc) := by rw [← hkv]; exact HP7.out.rf.box.cell (i := 0) rfl
              have HZL := Lib.hid (show (v7).K.length ≤ 1000 from by have := HRR.out.kl; omega)
              have HZR := Lib.hid (show RdS w10 (.slice KA (r7).K.length kc) (v7).K from by have := HP7.out.rf.k; rw [hkv, HRR.out.rk] at this; rw [HRR.out.rk]; exact this)
              have HZC := Lib.hid HP7.out.cl
              have HZ0 := Lib.hid HP7.out.at0
              clear hkv
              go_region_held3 (fun W => W.cell? ⟨b, 0, none⟩ = some (.slice KA (r7).K.length kc)) (first | exact z0 | exact HS1.out | exact HS2.out) (first
                | (go_at_call 11; refine (cl_kept _ _ c _ _ _ (HZC.out.below (by exact below_drew _)) HZL.out).mono ?_; rintro e q1 ⟨g1, rfl, hg1, _, hq1⟩; have HQ1 := Lib.hid (show Below w10.heap.size w10 q1 from below_trans (below_drew _) hq1); have HS1 := Lib.hid (cell_below HQ1.out z0); have HG1 := Lib.hid (rdS_blk hg1); clear hg1 hq1)
                | (go_at_call 14; refine (law9_sectors _ _ _ _ (by exact HG1.out) (by exact HZR.out.below HQ1.out) HZL.out).mono ?_; rintro e q2 ⟨rfl, hq2⟩; have HQ2 := Lib.hid (below_trans HQ1.out hq2); have HS2 := Lib.hid (cell_below HQ2.out z0); clear hq2)
                | (go_at_call 13; refine (cl_at _ c _ _ 0 _ _ (by have := (HZC.out.below HQ2.out).box; rw [HZ0.out] at this; exact this)).mono ?_; rintro e q3 ⟨rfl, rfl⟩))
              all_goals
                go_wp2
                go_roundw
                case rel => exact ⟨k + 1, by omega, by go_num, _, _, _, _, HP7.out.below HQ2.out, HRR.out⟩
                case measure => simp [intOf]; omega
          · have n0 : (kind == 0) = false := by rw [beq_eq_false_iff_ne]; exact hz
            have n1 : (kind == 1) = true := by rw [beq_iff_eq]; omega
            clear hz hk01
            have HER := Lib.hid HR.out.err
            go_wp2_with fail
            refine (tp_next _ w.heap.size (t + 1) T HP6.out.tt (by rw [← HR.out.sn]; have := HR.out.an; omega) (by rw [← HR.out.so]; have := HR.out.ao; omega)).mono ?_
            rintro e w7 ⟨rfl, ht7, hm7⟩
            rw [HER.out.1, HER.out.2]
            have hp7 := HP6.out.next ht7 hm7
            have hy7 := HX6.out.mv hm7 (fun e => blk_ne HX6.out HP6.out.tt.box (by decide) e)
            obtain ⟨w8, hw8⟩ : ∃ w8, w7.alloc (.cells #[.int .i64 A.ev.1, .int .i64 A.ev.2] 54) = w8 := ⟨_, rfl⟩
            have hb8 : Below w7.heap.size w7 w8 := by rw [← hw8]; exact (Below.refl _ _).alloc (Nat.le_refl _) _
            have HP8 := Lib.hid (hp7.below hb8)
            have hy8 := hy7.below hb8 hy7.lt
            have j1 := hy8.cell (i := 1) rfl
            have j2 := hy8.cell (i := 2) rfl
            have HY8 := Lib.hid hy8
            clear ht7 hm7 hp7 hb8 hy7 hy8
            by_cases he : A.err = 0
            · have heb : (A.err == 0) = true := by rw [beq_iff_eq]; exact he
              have HE0 := Lib.hid he
              rw [he]
              clear he
              go_wp2_with fail
              refine (rf_wrote _ w.heap.size b r HP8.out.rf (by rw [HR.out.rk]; have := HR.out.kl; omega) ext data).mono ?_
              rintro e w9 ⟨rfl, kv9, hr9, hm9, hkv9⟩
              have HP9 := Lib.hid (HP8.out.ref hr9 hm9 (HP8.out.fresh hkv9))
              have hy9 := HY8.out.mv hm9 (fun e => blk_ne HY8.out HP8.out.rf.box (by decide) e)
              have l1 := hy9.cell (i := 1) rfl
              have l2 := hy9.cell (i := 2) rfl
              clear hr9 hm9 hkv9 hy9
              go_wp2_with fail
              refine (cl_write _ w.heap.size c _ _ v t A HP9.out.cl (by unfold ClV.used; rw [HP9.out.at0]; rfl) HP9.out.a HP9.out.ap (by have := HR.out.kl; omega) (by have := HR.out.an; omega) (by have := HR.out.ao; omega) (by have := HR.out.al; omega) ext data).mono ?_
              rintro e w10 ⟨rfl, kv10, wv10, hc10, ha10, hm10, hap10, hkv10, _⟩
              rw [if_pos HE0.out] at hc10 ha10
              rw [HE0.out]
              have HP10 := Lib.hid (HP9.out.client hc10 HP9.out.at0 ha10 hm10 hap10 hkv10)
              clear hc10 ha10 hm10 hap10 hkv10
              go_wp2
              obtain ⟨v7, A7, T7, r7, hp7, hr7⟩ : ∃ v7 A7 T7 r7, Parts w w10 c t (t + 2) (t + 1) b v7 A7 T7 r7 ∧ Rel v7 A7 T7 r7 (k + 1) := ⟨_, _, _, _, HP10.out, HR.out.wrote0 HE0.out _ _ _ _ _⟩
              have HP7 := Lib.hid hp7
              have HRR := Lib.hid hr7
              clear hp7 hr7
              obtain ⟨KA, kc, hkv, _, _⟩ := HP7.out.rf.kl
              have z0 : w10.cell? ⟨b, 0, none⟩ = some (.slice KA (r7).K.length kc) := by rw [← hkv]; exact HP7.out.rf.box.cell (i := 0) rfl
              have HZL := Lib.hid (show (v7).K.length ≤ 1000 from by have := HRR.out.kl; omega)
              have HZR := Lib.hid (show RdS w10 (.slice KA (r7).K.length kc) (v7).K from by have := HP7.out.rf.k; rw [hkv, HRR.out.rk] at this; rw [HRR.out.rk]; exact this)
              have HZC := Lib.hid HP7.out.cl
              have HZ0 := Lib.hid HP7.out.at0
              clear hkv
              go_region_held3 (fun W => W.cell? ⟨b, 0, none⟩ = some (.slice KA (r7).K.length kc)) (first | exact z0 | exact HS1.out | exact HS2.out) (first
                | (go_at_call 11; refine (cl_kept _ _ c _ _ _ (HZC.out.below (by exact below_drew _)) HZL.out).mono ?_; rintro e q1 ⟨g1, rfl, hg1, _, hq1⟩; have HQ1 := Lib.hid (show Below w10.heap.size w10 q1 from below_trans (below_drew _) hq1); have HS1 := Lib.hid (cell_below HQ1.out z0); have HG1 := Lib.hid (rdS_blk hg1); clear hg1 hq1)
                | (go_at_call 14; refine (law9_sectors _ _ _ _ (by exact HG1.out) (by exact HZR.out.below HQ1.out) HZL.out).mono ?_; rintro e q2 ⟨rfl, hq2⟩; have HQ2 := Lib.hid (below_trans HQ1.out hq2); have HS2 := Lib.hid (cell_below HQ2.out z0); clear hq2)
                | (go_at_call 13; refine (cl_at _ c _ _ 0 _ _ (by have := (HZC.out.below HQ2.out).box; rw [HZ0.out] at this; exact this)).mono ?_; rintro e q3 ⟨rfl, rfl⟩))
              all_goals
                go_wp2
                go_roundw
                case rel => exact ⟨k + 1, by omega, by go_num, _, _, _, _, HP7.out.below HQ2.out, HRR.out⟩
                case measure => simp [intOf]; omega
            · have heb : (A.err == 0) = false := by rw [beq_eq_false_iff_ne]; exact he
              have hee : (A.err == A.err) = true := by simp
              have HE0 := Lib.hid he
              clear he
              go_wp2_with fail
              refine (cl_write _ w.heap.size c _ _ v t A HP8.out.cl (by unfold ClV.used; rw [HP8.out.at0]; rfl) HP8.out.a HP8.out.ap (by have := HR.out.kl; omega) (by have := HR.out.an; omega) (by have := HR.out.ao; omega) (by have := HR.out.al; omega) ext data).mono ?_
              rintro e w10 ⟨rfl, kv10, wv10, hc10, ha10, hm10, hap10, hkv10, _⟩
              rw [if_neg HE0.out] at hc10 ha10
              have HP10 := Lib.hid (HP8.out.client hc10 HP8.out.at0 ha10 hm10 hap10 hkv10)
              clear hc10 ha10 hm10 hap10 hkv10
              go_wp2
              obtain ⟨v7, A7, T7, r7, hp7, hr7⟩ : ∃ v7 A7 T7 r7, Parts w w10 c t (t + 2) (t + 1) b v7 A7 T7 r7 ∧ Rel v7 A7 T7 r7 (k + 1) := ⟨_, _, _, _, HP10.out, HR.out.wrote1 HE0.out _ _⟩
              have HP7 := Lib.hid hp7
              have HRR := Lib.hid hr7
              clear hp7 hr7
              obtain ⟨KA, kc, hkv, _, _⟩ := HP7.out.rf.kl
              have z0 : w10.cell? ⟨b, 0, none⟩ = some (.slice KA (r7).K.length kc) := by rw [← hkv]; exact HP7.out.rf.box.cell (i := 0) rfl
              have HZL := Lib.hid (show (v7).K.length ≤ 1000 from by have := HRR.out.kl; omega)
              have HZR := Lib.hid (show RdS w10 (.slice KA (r7).K.length kc) (v7).K from by have := HP7.out.rf.k; rw [hkv, HRR.out.rk] at this; rw [HRR.out.rk]; exact this)
              have HZC := Lib.hid HP7.out.cl
              have HZ0 := Lib.hid HP7.out.at0
              clear hkv
              go_region_held3 (fun W => W.cell? ⟨b, 0, none⟩ = some (.slice KA (r7).K.length kc)) (first | exact z0 | exact HS1.out | exact HS2.out) (first
                | (go_at_call 11; refine (cl_kept _ _ c _ _ _ (HZC.out.below (by exact below_drew _)) HZL.out).mono ?_; rintro e q1 ⟨g1, rfl, hg1, _, hq1⟩; have HQ1 := Lib.hid (show Below w10.heap.size w10 q1 from below_trans (below_drew _) hq1); have HS1 := Lib.hid (cell_below HQ1.out z0); have HG1 := Lib.hid (rdS_blk hg1); clear hg1 hq1)
                | (go_at_call 14; refine (law9_sectors _ _ _ _ (by exact HG1.out) (by exact HZR.out.below HQ1.out) HZL.out).mono ?_; rintro e q2 ⟨rfl, hq2⟩; have HQ2 := Lib.hid (below_trans HQ1.out hq2); have HS2 := Lib.hid (cell_below HQ2.out z0); clear hq2)
                | (go_at_call 13; refine (cl_at _ c _ _ 0 _ _ (by have := (HZC.out.below HQ2.out).box; rw [HZ0.out] at this; exact this)).mono ?_; rintro e q3 ⟨rfl, rfl⟩))
              all_goals
                go_wp2
                go_roundw
                case rel => exact ⟨k + 1, by omega, by go_num, _, _, _, _, HP7.out.below HQ2.out, HRR.out⟩
                case measure => simp [intOf]; omega
        · by_cases hk2 : kind = 2
          · have n0 : (kind == 0) = false := by rw [beq_eq_false_iff_ne]; omega
            have n1 : (kind == 1) = false := by rw [beq_eq_false_iff_ne]; omega
            have n2 : (kind == 2) = true := by rw [beq_iff_eq]; exact hk2
            clear hk01 hk2
            have HER := Lib.hid HR.out.err
            go_wp2_with fail
            refine (tp_next _ w.heap.size (t + 1) T HP6.out.tt (by rw [← HR.out.sn]; have := HR.out.an; omega) (by rw [← HR.out.so]; have := HR.out.ao; omega)).mono ?_
            rintro e w7 ⟨rfl, ht7, hm7⟩
            rw [HER.out.1, HER.out.2]
            have hp7 := HP6.out.next ht7 hm7
            obtain ⟨w8, hw8⟩ : ∃ w8, w7.alloc (.cells #[.int .i64 A.ev.1, .int .i64 A.ev.2] 54) = w8 := ⟨_, rfl⟩
            have hb8 : Below w7.heap.size w7 w8 := by rw [← hw8]; exact (Below.refl _ _).alloc (Nat.le_refl _) _
            have hx8 : Blk w8 w7.heap.size #[.int .i64 A.ev.1, .int .i64 A.ev.2] 54 := by rw [← hw8]; exact Blk.alloc _ _ _
            have HP8 := Lib.hid (hp7.below hb8)
            have HX8 := Lib.hid hx8
            clear ht7 hm7 hp7 hb8 hx8
            go_wp2_with fail
            refine (cl_flush _ w.heap.size c _ _ v t A HP8.out.cl (by unfold ClV.used; rw [HP8.out.at0]; rfl) HP8.out.a HP8.out.ap (by have := HR.out.kl; omega) (by have := HR.out.fl; omega) HR.out.fo (by have := HR.out.an; omega) (by have := HR.out.ao; omega)).mono ?_
            rintro e w9 ⟨rfl, kv9, wv9, hc9, ha9, hm9, hkv9⟩
            have HP9 := Lib.hid (HP8.out.client hc9 HP8.out.at0 ha9 hm9 (HP8.out.apart hkv9) hkv9)
            have hx9 : Blk w9 w7.heap.size #[.int .i64 A.ev.1, .int .i64 A.ev.2] 54 := HX8.out.mv hm9 (fun hi => by
              rcases hi with e | e | e | e
              · exact blk_ne HX8.out HP8.out.cl.box (by decide) e
              · exact blk_ne HX8.out HP8.out.a.box (by decide) e
              · exact own_type HP8.out.cl.k HX8.out (by decide) e
              · exact own_type HP8.out.cl.f HX8.out (by decide) e)
            have z1 := hx9.cell (i := 0) rfl
            have z2 := hx9.cell (i := 1) rfl
            clear hc9 ha9 hm9 hkv9 hx9
            by_cases he : A.err = 0
            · have heb : (A.err == 0) = true := by rw [beq_iff_eq]; exact he
              have HE0 := Lib.hid he
              have hdd : decide (A.err = 0 ∧ A.ev.2 = 2) = decide (A.ev.2 = 2) := by simp [he]
              rw [hdd, he]
              clear he hdd
              go_wp2_with fail
              refine (rf_flushed _ w.heap.size b r HP9.out.rf (by rw [HR.out.rF]; have := HR.out.fl; omega) (by rw [HR.out.rk]; have := HR.out.kl; omega) A.ev.1 A.ev.2).mono ?_
              rintro e w10 ⟨rfl, kv10, wv10, hr10, hm10, hkv10⟩
              have HP10 := Lib.hid (HP9.out.ref hr10 hm10 (fun j hj e => by
                rcases hkv10 with e' | e'
                · exact HP9.out.aq j hj (by rw [← e']; exact e)
                · have e : kv10.ownBlock = some j := e
                  rw [e'] at e; cases e))
              clear hr10 hm10 hkv10
              go_wp2
              obtain ⟨v7, A7, T7, r7, hp7, hr7⟩ : ∃ v7 A7 T7 r7, Parts w w10 c t (t + 2) (t + 1) b v7 A7 T7 r7 ∧ Rel v7 A7 T7 r7 (k + 1) := ⟨_, _, _, _, HP10.out, HR.out.flush0 HE0.out _ _ _ _⟩
              have HP7 := Lib.hid hp7
              have HRR := Lib.hid hr7
              clear hp7 hr7
              obtain ⟨KA, kc, hkv, _, _⟩ := HP7.out.rf.kl
              have z0 : w10.cell? ⟨b, 0, none⟩ = some (.slice KA (r7).K.length kc) := by rw [← hkv]; exact HP7.out.rf.box.cell (i := 0) rfl
              have HZL := Lib.hid (show (v7).K.length ≤ 1000 from by have := HRR.out.kl; omega)
              have HZR := Lib.hid (show RdS w10 (.slice KA (r7).K.length kc) (v7).K from by have := HP7.out.rf.k; rw [hkv, HRR.out.rk] at this; rw [HRR.out.rk]; exact this)
              have HZC := Lib.hid HP7.out.cl
              have HZ0 := Lib.hid HP7.out.at0
              clear hkv
              go_region_held3 (fun W => W.cell? ⟨b, 0, none⟩ = some (.slice KA (r7).K.length kc)) (first | exact z0 | exact HS1.out | exact HS2.out) (first
                | (go_at_call 11; refine (cl_kept _ _ c _ _ _ (HZC.out.below (by exact below_drew _)) HZL.out).mono ?_; rintro e q1 ⟨g1, rfl, hg1, _, hq1⟩; have HQ1 := Lib.hid (show Below w10.heap.size w10 q1 from below_trans (below_drew _) hq1); have HS1 := Lib.hid (cell_below HQ1.out z0); have HG1 := Lib.hid (rdS_blk hg1); clear hg1 hq1)
                | (go_at_call 14; refine (law9_sectors _ _ _ _ (by exact HG1.out) (by exact HZR.out.below HQ1.out) HZL.out).mono ?_; rintro e q2 ⟨rfl, hq2⟩; have HQ2 := Lib.hid (below_trans HQ1.out hq2); have HS2 := Lib.hid (cell_below HQ2.out z0); clear hq2)
                | (go_at_call 13; refine (cl_at _ c _ _ 0 _ _ (by have := (HZC.out.below HQ2.out).box; rw [HZ0.out] at this; exact this)).mono ?_; rintro e q3 ⟨rfl, rfl⟩))
              all_goals
                go_wp2
                go_roundw
                case rel => exact ⟨k + 1, by omega, by go_num, _, _, _, _, HP7.out.below HQ2.out, HRR.out⟩
                case measure => simp [intOf]; omega
            · have heb : (A.err == 0) = false := by rw [beq_eq_false_iff_ne]; exact he
              have hdd : decide (A.err = 0 ∧ A.ev.2 = 2) = false := by simp [he]
              have hee : (A.err == A.err) = true := by simp
              have HE0 := Lib.hid he
              rw [hdd]
              clear he hdd
              go_wp2
              obtain ⟨v7, A7, T7, r7, hp7, hr7⟩ : ∃ v7 A7 T7 r7, Parts w w9 c t (t + 2) (t + 1) b v7 A7 T7 r7 ∧ Rel v7 A7 T7 r7 (k + 1) := ⟨_, _, _, _, HP9.out, HR.out.flush1 HE0.out _ _⟩
              have HP7 := Lib.hid hp7
              have HRR := Lib.hid hr7
              clear hp7 hr7
              obtain ⟨KA, kc, hkv, _, _⟩ := HP7.out.rf.kl
              have z0 : w9.cell? ⟨b, 0, none⟩ = some (.slice KA (r7).K.length kc) := by rw [← hkv]; exact HP7.out.rf.box.cell (i := 0) rfl
              have HZL := Lib.hid (show (v7).K.length ≤ 1000 from by have := HRR.out.kl; omega)
              have HZR := Lib.hid (show RdS w9 (.slice KA (r7).K.length kc) (v7).K from by have := HP7.out.rf.k; rw [hkv, HRR.out.rk] at this; rw [HRR.out.rk]; exact this)
              have HZC := Lib.hid HP7.out.cl
              have HZ0 := Lib.hid HP7.out.at0
              clear hkv
              go_region_held3 (fun W => W.cell? ⟨b, 0, none⟩ = some (.slice KA (r7).K.length kc)) (first | exact z0 | exact HS1.out | exact HS2.out) (first
                | (go_at_call 11; refine (cl_kept _ _ c _ _ _ (HZC.out.below (by exact below_drew _)) HZL.out).mono ?_; rintro e q1 ⟨g1, rfl, hg1, _, hq1⟩; have HQ1 := Lib.hid (show Below w9.heap.size w9 q1 from below_trans (below_drew _) hq1); have HS1 := Lib.hid (cell_below HQ1.out z0); have HG1 := Lib.hid (rdS_blk hg1); clear hg1 hq1)
                | (go_at_call 14; refine (law9_sectors _ _ _ _ (by exact HG1.out) (by exact HZR.out.below HQ1.out) HZL.out).mono ?_; rintro e q2 ⟨rfl, hq2⟩; have HQ2 := Lib.hid (below_trans HQ1.out hq2); have HS2 := Lib.hid (cell_below HQ2.out z0); clear hq2)
                | (go_at_call 13; refine (cl_at _ c _ _ 0 _ _ (by have := (HZC.out.below HQ2.out).box; rw [HZ0.out] at this; exact this)).mono ?_; rintro e q3 ⟨rfl, rfl⟩))
              all_goals
                go_wp2
                go_roundw
                case rel => exact ⟨k + 1, by omega, by go_num, _, _, _, _, HP7.out.below HQ2.out, HRR.out⟩
                case measure => simp [intOf]; omega
          · by_cases hk3 : kind = 3
            · have n0 : (kind == 0) = false := by rw [beq_eq_false_iff_ne]; omega
              have n1 : (kind == 1) = false := by rw [beq_eq_false_iff_ne]; omega
              have n2 : (kind == 2) = false := by rw [beq_eq_false_iff_ne]; omega
              have n3 : (kind == 3) = true := by rw [beq_iff_eq]; exact hk3
              clear hk01 hk2 hk3
              obtain ⟨how, hhow⟩ : ∃ how : Int, 1 + (data.size : Int) % 2 = how := ⟨_, rfl⟩
              have hwm : IntKind.i64.wrap (1 + (data.size : Int) % 2) = how := by rw [← hhow]; exact IntWalk.i64_in _ ⟨by omega, by omega⟩
              obtain ⟨w7, hw7⟩ : ∃ w7, w6.alloc (.cells #[.int .i64 ext, .int .i64 how] 54) = w7 := ⟨_, rfl⟩
              have hb7 : Below w6.heap.size w6 w7 := by rw [← hw7]; exact (Below.refl _ _).alloc (Nat.le_refl _) _
              have hx7 : Blk w7 w6.heap.size #[.int .i64 ext, .int .i64 how] 54 := by rw [← hw7]; exact Blk.alloc _ _ _
              obtain ⟨w8, hw8⟩ : ∃ w8, w7.alloc (.cells #[.int .i64 ext, .int .i64 how] 54) = w8 := ⟨_, rfl⟩
              have hb8 : Below w7.heap.size w7 w8 := by rw [← hw8]; exact (Below.refl _ _).alloc (Nat.le_refl _) _
              have hx8 := hx7.below hb8 hx7.lt
              have hg8 : Blk w8 w7.heap.size #[.int .i64 ext, .int .i64 how] 54 := by rw [← hw8]; exact Blk.alloc _ _ _
              have hp8 := (HP6.out.below hb7).below hb8
              have m0 := hx7.cell (i := 0) rfl
              have m1 := hx7.cell (i := 1) rfl
              have tf2 := hp8.a.box.free 2
              have tc2 := hp8.a.box.cell (i := 2) rfl
              obtain ⟨w9, hw9⟩ : ∃ w9, w8.setCell ⟨t, 2, none⟩ (.slice (some ⟨w7.heap.size, 0, none⟩) 1 1) = w9 := ⟨_, rfl⟩
              have hp9 := hp8.come (.slice (some ⟨w7.heap.size, 0, none⟩) 1 1)
              rw [hw9] at hp9
              have hm9 : Mv w8 w9 (fun i => i = t) := by rw [← hw9]; exact Mv.of_set _ _ _ _ rfl
              have hx9 := hx8.mv hm9 (fun e => blk_ne hx8 hp8.a.box (by decide) e)
              have hg9 := hg8.mv hm9 (fun e => blk_ne hg8 hp8.a.box (by decide) e)
              have i0 := hx9.cell (i := 0) rfl
              have i1 := hx9.cell (i := 1) rfl
              have HP9 := Lib.hid hp9
              have HX9 := Lib.hid hx9
              have HG9 := Lib.hid hg9
              have HRF := Lib.hid HR.out.rF
              clear hb7 hx7 hb8 hx8 hg8 hp8 hp9 hm9 hx9 hg9
              go_wp2
              go_region_held3 (fun W => W.cell? ⟨w6.heap.size, 0, none⟩ = some (.int .i64 ext) ∧ W.cell? ⟨w6.heap.size, 1, none⟩ = some (.int .i64 how)) (first | exact ⟨i0, i1⟩ | exact HS1.out | exact HS2.out) (first
                | (go_at_call 18; refine (cl_poll _ w.heap.size c _ _ v t _ (HP9.out.cl.below (by exact below_drew _)) (by unfold ClV.used; rw [HP9.out.at0]; rfl) (HP9.out.a.below (by exact below_drew _)) (by have := HR.out.kl; omega) (by have := HR.out.fl; omega) HR.out.fo w7.heap.size ext how rfl (by exact HG9.out)).mono ?_; rintro e q1 ⟨rfl, kv1, wv1, hc1, ha1, hm1, hkv1⟩; have hm1' : Mv w9 q1 (fun i => i = c ∨ i = t) := Mv.of_drew hm1; have HQ1 := Lib.hid (HP9.out.client hc1 HP9.out.at0 ha1 (hm1'.mono (fun i _ e => e.elim (fun e => .inl e) (fun e => .inr (.inl e)))) (HP9.out.apart hkv1) hkv1); have HX1 := Lib.hid (HX9.out.mv hm1' (fun e => e.elim (fun e => blk_ne HX9.out HP9.out.cl.box (by decide) e) (fun e => blk_ne HX9.out HP9.out.a.box (by decide) e))); have HS1 := Lib.hid (show q1.cell? ⟨w6.heap.size, 0, none⟩ = some (.int .i64 ext) ∧ q1.cell? ⟨w6.heap.size, 1, none⟩ = some (.int .i64 how) from ⟨HX1.out.cell (i := 0) rfl, HX1.out.cell (i := 1) rfl⟩); clear hc1 ha1 hm1 hm1' hkv1)
                | (go_at_call 19; refine (rf_came _ w.heap.size b r (by exact HQ1.out.rf) (by rw [HRF.out]; have := HR.out.fl; omega) (by rw [HR.out.rk]; have := HR.out.kl; omega) (by rw [HRF.out, HR.out.rk]; exact HR.out.fo) ext how).mono ?_; rintro e q2 ⟨rfl, kv2, wv2, hr2, hm2, hkv2⟩; rw [HRF.out]; have HQ2 := Lib.hid (HQ1.out.ref hr2 hm2 (fun j hj e => HQ1.out.aq j hj (by rw [← hkv2]; exact e))); have HX2 := Lib.hid (HX1.out.mv hm2 (fun e => blk_ne HX1.out HQ1.out.rf.box (by decide) e)); have HS2 := Lib.hid (show q2.cell? ⟨w6.heap.size, 0, none⟩ = some (.int .i64 ext) ∧ q2.cell? ⟨w6.heap.size, 1, none⟩ = some (.int .i64 how) from ⟨HX2.out.cell (i := 0) rfl, HX2.out.cell (i := 1) rfl⟩); clear hr2 hm2 hkv2))
              all_goals
                go_wp2
                have HR7 := Lib.hid (HR.out.came ext how kv1 wv1 kv2 wv2 (.slice none 0 0))
                obtain ⟨v7, A7, r7, hp7, hr7⟩ : ∃ v7 A7 r7, Parts w q2 c t (t + 2) (t + 1) b v7 A7 T r7 ∧ Rel v7 A7 T r7 (k + 1) := ⟨_, _, _, HQ2.out, HR7.out⟩
                have HP7 := Lib.hid hp7
                have HRR := Lib.hid hr7
                clear hp7 hr7 HR7 HS1 HS2 HQ1 HQ2
                obtain ⟨KA, kc, hkv, _, _⟩ := HP7.out.rf.kl
                have z0 : q2.cell? ⟨b, 0, none⟩ = some (.slice KA (r7).K.length kc) := by rw [← hkv]; exact HP7.out.rf.box.cell (i := 0) rfl
                have HZL := Lib.hid (show (v7).K.length ≤ 1000 from by have := HRR.out.kl; omega)
                have HZR := Lib.hid (show RdS q2 (.slice KA (r7).K.length kc) (v7).K from by have := HP7.out.rf.k; rw [hkv, HRR.out.rk] at this; rw [HRR.out.rk]; exact this)
                have HZC := Lib.hid HP7.out.cl
                have HZ0 := Lib.hid HP7.out.at0
                clear hkv
                go_region_held3 (fun W => W.cell? ⟨b, 0, none⟩ = some (.slice KA (r7).K.length kc)) (first | exact z0 | exact HS1.out | exact HS2.out) (first
                  | (go_at_call 11; refine (cl_kept _ _ c _ _ _ (HZC.out.below (by exact below_drew _)) HZL.out).mono ?_; rintro e q1 ⟨g1, rfl, hg1, _, hq1⟩; have HQ1 := Lib.hid (show Below q2.heap.size q2 q1 from below_trans (below_drew _) hq1); have HS1 := Lib.hid (cell_below HQ1.out z0); have HG1 := Lib.hid (rdS_blk hg1); clear hg1 hq1)
                  | (go_at_call 14; refine (law9_sectors _ _ _ _ (by exact HG1.out) (by exact HZR.out.below HQ1.out) HZL.out).mono ?_; rintro e q2 ⟨rfl, hq2⟩; have HQ2 := Lib.hid (below_trans HQ1.out hq2); have HS2 := Lib.hid (cell_below HQ2.out z0); clear hq2)
                  | (go_at_call 13; refine (cl_at _ c _ _ 0 _ _ (by have := (HZC.out.below HQ2.out).box; rw [HZ0.out] at this; exact this)).mono ?_; rintro e q3 ⟨rfl, rfl⟩))
                all_goals
                  go_wp2
                  go_roundw
                  case rel => exact ⟨k + 1, by omega, by go_num, _, _, _, _, HP7.out.below HQ2.out, HRR.out⟩
                  case measure => simp [intOf]; omega
            · have n0 : (kind == 0) = false := by rw [beq_eq_false_iff_ne]; omega
              have n1 : (kind == 1) = false := by rw [beq_eq_false_iff_ne]; omega
              have n2 : (kind == 2) = false := by rw [beq_eq_false_iff_ne]; omega
              have n3 : (kind == 3) = false := by rw [beq_eq_false_iff_ne]; omega
              clear hk01 hk2 hk3
              go_wp2
              have HP7 := Lib.hid HP6.out
              have HR7 := Lib.hid (show Rel v A T r (k + 1) from HR.out.more (Nat.le_succ k))
              obtain ⟨KA, kc, hkv, _, _⟩ := HP7.out.rf.kl
              have z0 : w6.cell? ⟨b, 0, none⟩ = some (.slice KA (r).K.length kc) := by rw [← hkv]; exact HP7.out.rf.box.cell (i := 0) rfl
              have HZL := Lib.hid (show (v).K.length ≤ 1000 from by have := HR7.out.kl; omega)
              have HZR := Lib.hid (show RdS w6 (.slice KA (r).K.length kc) (v).K from by have := HP7.out.rf.k; rw [hkv, HR7.out.rk] at this; rw [HR7.out.rk]; exact this)
              have HZC := Lib.hid HP7.out.cl
              have HZ0 := Lib.hid HP7.out.at0
              clear hkv
              go_region_held3 (fun W => W.cell? ⟨b, 0, none⟩ = some (.slice KA (r).K.length kc)) (first | exact z0 | exact HS1.out | exact HS2.out) (first
                | (go_at_call 11; refine (cl_kept _ _ c _ _ _ (HZC.out.below (by exact below_drew _)) HZL.out).mono ?_; rintro e q1 ⟨g1, rfl, hg1, _, hq1⟩; have HQ1 := Lib.hid (show Below w6.heap.size w6 q1 from below_trans (below_drew _) hq1); have HS1 := Lib.hid (cell_below HQ1.out z0); have HG1 := Lib.hid (rdS_blk hg1); clear hg1 hq1)
                | (go_at_call 14; refine (law9_sectors _ _ _ _ (by exact HG1.out) (by exact HZR.out.below HQ1.out) HZL.out).mono ?_; rintro e q2 ⟨rfl, hq2⟩; have HQ2 := Lib.hid (below_trans HQ1.out hq2); have HS2 := Lib.hid (cell_below HQ2.out z0); clear hq2)
                | (go_at_call 13; refine (cl_at _ c _ _ 0 _ _ (by have := (HZC.out.below HQ2.out).box; rw [HZ0.out] at this; exact this)).mono ?_; rintro e q3 ⟨rfl, rfl⟩))
              all_goals
                go_wp2
                go_roundw
                case rel => exact ⟨k + 1, by omega, by go_num, _, _, _, _, HP7.out.below HQ2.out, HR7.out⟩
                case measure => simp [intOf]; omega
      · obtain rfl : k = l.length := by omega
        have HO := Lib.hid HP.out.old
        go_wp2
        go_ret
        exact ⟨rfl, HO.out⟩
end Go.Proofs.Ytdnkbnpjbcalaaa
