/- A client of tapes: going over. -/
import Derived.Test.YtdnkbnpjbcalaaaCwl
namespace Go.Proofs.Ytdnkbnpjbcalaaa
open Go.RowKit

def OverPost (w : World) (base c : Nat) (s0 s1 : Option Nat) (v : ClV) (t : Nat) (T : TpV) (e : Ending) (w' : World) : Prop :=
  ∃ (m : Nat) (r : Int) (ops' : Nat) (n' : Nat) (wv : Value), e = .returned (.int .i64 r) ∧ m ≤ v.K.length ∧ (∀ i, i < m → errAt T.errs (T.n + i) = 0) ∧ ((m = v.K.length ∧ r = 0) ∨ (m < v.K.length ∧ errAt T.errs (T.n + m) = r ∧ r ≠ 0)) ∧
    ClAt w' base c s0 s1 { v with at_ := 1 - v.at_, waits := .slice none 0 0, F := [] } ∧ TapeAt w' base t { T with n := n', ops := ops', wrote := wv, wl := T.wl ++ v.K.take m } ∧ n' ≤ T.n + v.K.length ∧ ops' ≤ T.ops + v.K.length ∧
    Mv w w' (fun i => i = c ∨ i = t) ∧ (wv.ownBlock = T.wrote.ownBlock ∨ ∃ j, wv.ownBlock = some j ∧ w.heap.size ≤ j)

theorem next_ok {T : TpV} (he : T.err = 0) : T.next = { T with n := T.n + 1, ops := T.ops + 1 } := by unfold TpV.next; rw [if_pos he]

set_option maxRecDepth 100000 in
set_option maxHeartbeats 1000000 in
theorem cl_over (w : World) (base c : Nat) (s0 s1 : Option Nat) (v : ClV) (t : Nat) (T : TpV) (h : ClAt w base c s0 s1 v) (hu : (if v.at_ = 0 then s1 else s0) = some t) (hT : TapeAt w base t T)
    (hK : v.K.length ≤ 1000) (hn : T.n ≤ 90000) (ho : T.ops ≤ 90000) (hl : T.wl.length ≤ 90000) :
    Calls Try.prog 12 #[.pointer (some ⟨c, 0, none⟩)] w fun e w' => OverPost w base c s0 s1 v t T e w' := by
  have hmw := method_write t
  have hat := h.ha
  have hwr : IntKind.i64.wrap (1 - (v.at_ : Int)) = ((1 - v.at_ : Nat) : Int) := by rw [show (1 - (v.at_ : Int)) = ((1 - v.at_ : Nat) : Int) from by omega]; exact IntWalk.i64_in _ ⟨by omega, by omega⟩
  have c2 := h.box.cell (i := 2) rfl
  have f2 := h.box.free 2
  obtain ⟨w1, hw1⟩ : ∃ w1, w.setCell ⟨c, 2, none⟩ (.int .i64 ((1 - v.at_ : Nat) : Int)) = w1 := ⟨_, rfl⟩
  have hbx1 : ClBox w1 c (srv s0) (srv s1) (1 - v.at_) v.kept v.waits := by rw [← hw1]; exact h.box.set 2 _
  have m1 : Mv w w1 (fun i => i = c) := by rw [← hw1]; exact Mv.of_set _ _ _ _ rfl
  have c4 := hbx1.cell (i := 4) rfl
  have f4 := hbx1.free 4
  obtain ⟨w2, hw2⟩ : ∃ w2, w1.setCell ⟨c, 4, none⟩ (.slice none 0 0) = w2 := ⟨_, rfl⟩
  have hbx2 : ClBox w2 c (srv s0) (srv s1) (1 - v.at_) v.kept (.slice none 0 0) := by rw [← hw2]; exact hbx1.set 4 _
  have m2 : Mv w w2 (fun i => i = c) := m1.trans (S' := fun i => i = c) (by rw [← hw2]; exact Mv.of_set _ _ _ _ rfl) (fun _ _ x => x)
  have hct : c ≠ t := fun e => by
    have h1 := h.box; have h2 := hT.box; unfold ClBox TpBox Blk at *; rw [e, h2] at h1; simp at h1
  obtain ⟨v2, hv2⟩ : ∃ v2 : ClV, v2 = { v with at_ := 1 - v.at_, waits := .slice none 0 0, F := [] } := ⟨_, rfl⟩
  have HC2 := Lib.hid (show ClAt w2 base c s0 s1 v2 from by
    rw [hv2]
    exact ⟨hbx2, own_mv h.k m2 (fun i hi e => own_type h.k h.box (by decide) (by rw [← e]; exact hi)), World.ownsRow_nil _ _ _ _, h.hb, by show 1 - v.at_ ≤ 1; omega⟩)
  have HT2 := Lib.hid (hT.mv m2 (fun i e => by rw [e]; exact h.hb) (fun e => hct e.symm) (fun i hi e => own_type hT.own h.box (by decide) (by rw [← e]; exact hi)))
  have HM2 := Lib.hid m2
  have HNE := Lib.hid hct
  have HU := Lib.hid (show srv (if (1 - v.at_ : Nat) = 0 then s0 else s1) = .iface 27 (.pointer (some ⟨t, 0, none⟩)) from by
    rcases (show v.at_ = 0 ∨ v.at_ = 1 from by omega) with e | e
    · rw [e] at hu ⊢
      have : s1 = some t := hu
      rw [this]; rfl
    · rw [e] at hu ⊢
      have : s0 = some t := hu
      rw [this]; rfl)
  have HV2 := Lib.hid hv2
  have HBX2 := Lib.hid hbx2
  clear h hu hT hbx1 hbx2 m1 m2 hct hv2
  go_enter Try.func12, Try.ntmps12
  go_wp2_with fail
  refine (cl_server _ c s0 s1 (1 - v.at_) v.kept (.slice none 0 0) HBX2.out (by omega)).mono ?_
  rintro e w3 ⟨rfl, hb3⟩
  rw [HU.out]
  have hk2 : v2.kept = v.kept := by rw [HV2.out]
  have hK2 : v2.K = v.K := by rw [HV2.out]
  have HC3 := Lib.hid (HC2.out.below hb3)
  have HT3 := Lib.hid (HT2.out.below hb3)
  have HM3 := Lib.hid (HM2.out.trans (Mv.of_below hb3 (fun i => i = c)) (fun _ _ x => x))
  obtain ⟨A, cp, hkp, hcp, _⟩ := own_form HC3.out.k (by decide)
  rw [hk2, hK2] at hkp
  have c3 : w3.cell? ⟨c, 3, none⟩ = some (.slice A v.K.length cp) := by
    rw [← hkp]
    have := HC3.out.box.cell (i := 3) rfl
    rw [hk2] at this
    exact this
  have HKP := Lib.hid hkp
  have HK2 := Lib.hid (And.intro hk2 hK2)
  clear hkp hk2 hK2 hb3 c2 f2 c4 f4 hwr
  go_wp2
  go_loopw [30] (fun i wr => ∃ k : Nat, k ≤ v.K.length ∧ i = .int .i64 k ∧ (∀ i, i < k → errAt T.errs (T.n + i) = 0) ∧ ∃ wv, ClAt wr base c s0 s1 v2 ∧ TapeAt wr base t { T with n := T.n + k, ops := T.ops + k, wrote := wv, wl := T.wl ++ v.K.take k } ∧ Mv w3 wr (fun i => i = t) ∧ (wv.ownBlock = T.wrote.ownBlock ∨ ∃ j, wv.ownBlock = some j ∧ w3.heap.size ≤ j)) (fun i _ => v.K.length - (intOf i).toNat)
  case atStart => exact ⟨0, by omega, rfl, fun i hi => by omega, T.wrote, HC3.out, by rw [List.take_zero, List.append_nil]; exact HT3.out, Mv.refl _ _, .inl rfl⟩
  case round =>
    obtain ⟨k, hk, rfl, hok, wv, hc, ht, hm, hwv⟩ := hrel
    have HC := Lib.hid hc
    have HT := Lib.hid ht
    have HM := Lib.hid hm
    have HOK := Lib.hid hok
    have HWV := Lib.hid hwv
    clear hc ht hm hok hwv
    by_cases hlt : k < v.K.length
    · obtain ⟨g, cap, hgv, hgb⟩ := World.ownsRow.form HC.out.k (by rw [HK2.out.2]; omega)
      have hcells := World.ownsRow.cells HC.out.k (g := g) (by rw [hgv]; rfl)
      rw [HK2.out.1, HKP.out, HK2.out.2] at hgv
      rw [HK2.out.2] at hcells
      injection hgv with hA hA2 hA3
      obtain ⟨ad, had⟩ : ∃ ad : Addr, (⟨g, 0, none⟩ : Addr) = ad := ⟨_, rfl⟩
      rw [had] at hA hcells
      subst hA hA3
      obtain ⟨q1, q2⟩ := secCells_get v.K k hlt
      have d1 := hcells _ _ q1
      have d2' := hcells _ _ q2
      rw [← add_add_] at d2'
      obtain ⟨y, hy⟩ : ∃ y, v.K[k] = y := ⟨_, rfl⟩
      rw [hy] at d1 d2'
      have d2 : wr.cell? ⟨(ad.add (k * 2)).block, (ad.add (k * 2)).off + 1, none⟩ = some (.string y.Data) := by
        rw [← d2']; unfold Addr.add; simp
      have HY := Lib.hid hy
      obtain ⟨w4, hw4⟩ : ∃ w4, wr.alloc (.cells #[.int .i64 y.At, .string y.Data] 71) = w4 := ⟨_, rfl⟩
      have hb4 : Below wr.heap.size wr w4 := by rw [← hw4]; exact (Below.refl _ _).alloc (Nat.le_refl _) _
      have hx4 : Blk w4 wr.heap.size #[.int .i64 y.At, .string y.Data] 71 := by rw [← hw4]; exact Blk.alloc _ _ _
      have k0 := hx4.cell (i := 0) rfl
      have k1 := hx4.cell (i := 1) rfl
      have HB4 := Lib.hid hb4
      have HLEN := Lib.hid (show (T.wl ++ v.K.take k).length ≤ 100000 from by rw [List.length_append, List.length_take]; omega)
      clear q1 q2 hy d2' hcells had hb4 hx4 hA2
      obtain ⟨Tk, hTk⟩ : ∃ Tk : TpV, { T with n := T.n + k, ops := T.ops + k, wrote := wv, wl := T.wl ++ v.K.take k } = Tk := ⟨_, rfl⟩
      rw [hTk] at HT
      have HTK := Lib.hid hTk
      have hn2 : Tk.n ≤ 100000 := by rw [← hTk]; show T.n + k ≤ _; omega
      have ho2 : Tk.ops ≤ 100000 := by rw [← hTk]; show T.ops + k ≤ _; omega
      have hl2 : Tk.wl.length ≤ 100000 := by rw [← hTk]; exact HLEN.out
      have HERR := Lib.hid (show Tk.err = errAt T.errs (T.n + k) from by rw [← hTk]; rfl)
      clear hTk
      go_wp2_with fail
      refine (tp_write _ base t Tk (HT.out.below HB4.out) hn2 ho2 hl2 (by have h1 := HT.out.hb; have h2 := HT.out.box.lt; have := HB4.out.size; omega) y.At y.Data).mono ?_
      rintro e w5 ⟨rfl, wv', ht5, hm5, hn5, hn6⟩
      obtain ⟨w6, hw6⟩ : ∃ w6, w5.alloc (.cells #[.int .i64 Tk.ev.1, .int .i64 Tk.ev.2] 54) = w6 := ⟨_, rfl⟩
      have hb6 : Below w5.heap.size w5 w6 := by rw [← hw6]; exact (Below.refl _ _).alloc (Nat.le_refl _) _
      have hM46 : Mv wr w6 (fun i => i = t) := ((Mv.of_below HB4.out _).trans hm5 (fun _ _ x => x)).trans (Mv.of_below hb6 (fun i => i = t)) (fun _ _ x => x)
      have hx6 : Blk w6 w5.heap.size #[.int .i64 Tk.ev.1, .int .i64 Tk.ev.2] 54 := by rw [← hw6]; exact Blk.alloc _ _ _
      have j0 := hx6.cell (i := 0) rfl
      have j1 := hx6.cell (i := 1) rfl
      have HC6 := Lib.hid (HC.out.mv hM46 HNE.out (fun i hi e => own_type HC.out.k HT.out.box (by decide) (by rw [← e]; exact hi)) (fun i hi e => own_type HC.out.f HT.out.box (by decide) (by rw [← e]; exact hi)))
      have HM6 := Lib.hid (HM.out.trans hM46 (fun _ _ x => x))
      have HT6 := Lib.hid (ht5.below hb6)
      have HN5 := Lib.hid hn5
      have HN6 := Lib.hid hn6
      have HS4 := Lib.hid (show w3.heap.size ≤ w4.heap.size from by have := HM.out.size; have := HB4.out.size; omega)
      clear ht5 hm5 hn5 hn6 hb6 hM46 hx6
      by_cases he : Tk.err = 0
      · have heb : (Tk.err != 0) = false := by rw [bne_eq_false_iff_eq]; exact he
        have HE := Lib.hid he
        clear he
        go_wp2
        go_roundw
        case rel =>
          have he := HE.out
          have ht6 := HT6.out
          rw [if_pos he, next_ok he] at ht6
          refine ⟨k + 1, by omega, by go_num, fun i hi => ?_, wv', HC6.out, ?_, HM6.out, ?_⟩
          · by_cases hik : i < k
            · exact HOK.out i hik
            · obtain rfl : i = k := by omega
              rw [← HERR.out]; exact he
          · rw [← HTK.out] at ht6
            rw [List.take_succ_eq_append_getElem hlt, ← List.append_assoc, HY.out]
            exact ht6
          · cases hb : wv'.ownBlock with
            | none =>
              exfalso
              obtain ⟨gg, cc, hx, _⟩ := World.ownsRow.form ht6.own (by rw [List.length_append]; simp)
              have hx : wv' = _ := hx
              rw [hx] at hb
              simp [Value.ownBlock] at hb
            | some j => exact .inr ⟨j, rfl, by have := HN5.out he j hb; have := HS4.out; omega⟩
        case measure => simp [intOf]; omega
      · have heb : (Tk.err != 0) = true := by rw [bne_iff_ne]; exact he
        go_wp2
        go_ret
        have ht6 := HT6.out
        rw [if_neg he, HN6.out he] at ht6
        refine ⟨k, Tk.err, Tk.next.ops, Tk.next.n, wv, rfl, hk, HOK.out, .inr ⟨hlt, HERR.out.symm, he⟩, by rw [← HV2.out]; exact HC6.out, ?_, ?_, ?_, ?_, ?_⟩
        · rw [← HTK.out] at ht6 ⊢; exact ht6
        · rw [← HTK.out]; show T.n + k + 1 ≤ _; omega
        · have : Tk.next.ops = Tk.ops := by unfold TpV.next; rw [if_neg he]
          rw [this, ← HTK.out]; show T.ops + k ≤ _; omega
        · exact (HM3.out.mono (S' := fun i => i = c ∨ i = t) (fun _ _ e => .inl e)).trans (HM6.out.mono (S' := fun i => i = c ∨ i = t) (fun _ _ e => .inr e)) (fun _ _ x => x)
        · rcases HWV.out with e | ⟨j, e, hj⟩
          · exact .inl e
          · exact .inr ⟨j, e, by have := HM3.out.size; omega⟩
    · obtain rfl : k = v.K.length := by omega
      go_wp2
      go_ret
      refine ⟨v.K.length, 0, T.ops + v.K.length, T.n + v.K.length, wv, rfl, Nat.le_refl _, HOK.out, .inl ⟨rfl, rfl⟩, by rw [← HV2.out]; exact HC.out, HT.out, Nat.le_refl _, Nat.le_refl _, ?_, ?_⟩
      · exact (HM3.out.mono (S' := fun i => i = c ∨ i = t) (fun _ _ e => .inl e)).trans (HM.out.mono (S' := fun i => i = c ∨ i = t) (fun _ _ e => .inr e)) (fun _ _ x => x)
      · rcases HWV.out with e | ⟨j, e, hj⟩
        · exact .inl e
        · exact .inr ⟨j, e, by have := HM3.out.size; omega⟩
end Go.Proofs.Ytdnkbnpjbcalaaa
