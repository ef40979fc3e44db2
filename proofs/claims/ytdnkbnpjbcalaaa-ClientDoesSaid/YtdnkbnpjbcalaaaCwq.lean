/- The Client laws' works. -/
import Derived.Test.YtdnkbnpjbcalaaaCwo
namespace Go.Proofs.Ytdnkbnpjbcalaaa
open Go.RowKit

def tpNew (E : Option Addr) (ce : Nat) (errs : List Int) (Hs : Option Addr) (ch : Nat) (hows : List Int) : TpV := ⟨E, ce, errs, Hs, ch, hows, .slice none 0 0, .slice none 0 0, [], 0, 0⟩
theorem TapeAt.new {w : World} {base : Nat} {E : Option Addr} {ce : Nat} {errs : List Int} {Hs : Option Addr} {ch : Nat} {hows : List Int} (hE : Ints w E errs) (hH : Ints w Hs hows) (h1 : ∀ ad, E = some ad → 0 < errs.length → ad.block < base) (h2 : ∀ ad, Hs = some ad → 0 < hows.length → ad.block < base) {b : Nat} (hb : base ≤ b)
    (hx : TpBox w b E errs.length ce Hs hows.length ch (.slice none 0 0) (.slice none 0 0) 0 0) : TapeAt w base b (tpNew E ce errs Hs ch hows) :=
  ⟨hx, hE, hH, h1, h2, World.ownsRow_nil _ _ _ _, hb⟩
def clNew : ClV := ⟨0, .slice none 0 0, [], .slice none 0 0, []⟩
theorem ClAt.new {w : World} {base c : Nat} {s0 s1 : Option Nat} (hb : base ≤ c) (hx : ClBox w c (srv s0) (srv s1) 0 (.slice none 0 0) (.slice none 0 0)) : ClAt w base c s0 s1 clNew :=
  ⟨hx, World.ownsRow_nil _ _ _ _, World.ownsRow_nil _ _ _ _, hb, Nat.zero_le _⟩
theorem ne_box {w : World} {c t : Nat} {s0 s1 : Value} {a : Nat} {k f : Value} {E : Option Addr} {ne ce : Nat} {Hs : Option Addr} {nh ch : Nat} {come wrote : Value} {n ops : Nat} (h1 : ClBox w c s0 s1 a k f) (h2 : TpBox w t E ne ce Hs nh ch come wrote n ops) : c ≠ t := fun e => by
  unfold ClBox TpBox Blk at *; rw [e, h2] at h1; simp at h1
/-- The other tape stays as it is. -/
theorem TapeAt.other {w w' : World} {base a b c : Nat} {A B : TpV} {s0 s1 : Option Nat} {v : ClV} (hB : TapeAt w base b B) (hC : ClAt w base c s0 s1 v) (hA : TapeAt w base a A) (hab : a ≠ b) (ap : Apart v.kept B.wrote) (hm : Mv w w' (ClS c a v)) : TapeAt w' base b B := by
  refine hB.mv hm (fun i hi => ?_) (fun hi => ?_) (fun i hj hi => ?_)
  · rcases hi with e | e | e | e
    · rw [e]; exact hC.hb
    · rw [e]; exact hA.hb
    · exact (own_lt hC.k e).2
    · exact (own_lt hC.f e).2
  · rcases hi with e | e | e | e
    · exact ne_box hC.box hB.box e.symm
    · exact hab e.symm
    · exact own_type hC.k hB.box (by decide) e
    · exact own_type hC.f hB.box (by decide) e
  · rcases hi with e | e | e | e
    · exact own_type hB.own hC.box (by decide) (by rw [← e]; exact hj)
    · exact own_type hB.own hA.box (by decide) (by rw [← e]; exact hj)
    · exact ap i e hj
    · exact own_apart hC.f hB.own (by decide) e hj
def oneX : List Sec := [⟨3, ⟨#[120]⟩⟩]
theorem ClAt.as {w : World} {base c : Nat} {s0 s1 : Option Nat} {v v' : ClV} (h : ClAt w base c s0 s1 v) (e : v = v') : ClAt w base c s0 s1 v' := e ▸ h
theorem TapeAt.as {w : World} {base b : Nat} {t t' : TpV} (h : TapeAt w base b t) (e : t = t') : TapeAt w base b t' := e ▸ h

set_option maxRecDepth 100000 in
set_option maxHeartbeats 2000000 in
theorem law44_works (w : World) : Calls Try.prog 6 #[] w fun e w' => e = .returned (.bool true) ∧ Below w.heap.size w w' := by
  obtain ⟨h, hh⟩ : ∃ h, w.heap.size = h := ⟨_, rfl⟩
  obtain ⟨w1, hw1⟩ : ∃ w1, ((w.alloc (.cells #[.int .i64 0, .int .i64 1] 3)).alloc (.cells #[.slice none 0 0, .slice (some ⟨w.heap.size, 0, none⟩) 2 2, .slice none 0 0, .slice none 0 0, .int .i64 0, .int .i64 0] 31)).alloc (.cells #[.slice none 0 0, .slice none 0 0, .slice none 0 0, .slice none 0 0, .int .i64 0, .int .i64 0] 31) = w1 := ⟨_, rfl⟩
  have hb1 : Below w.heap.size w w1 := by rw [← hw1]; exact (((Below.refl _ _).alloc (Nat.le_refl _) _).alloc (by simp) _).alloc (by simp; omega) _
  have hs1 : w1.heap.size = w.heap.size + 3 := by rw [← hw1]; simp
  have hI : Blk w1 w.heap.size #[.int .i64 0, .int .i64 1] 3 := by
    rw [← hw1]
    exact ((Blk.alloc w _ _).below ((Below.refl _ _).alloc (Nat.le_refl _) _) (by simp)).below ((Below.refl _ _).alloc (Nat.le_refl _) _) (by simp; omega)
  have hints : Ints w1 (some ⟨w.heap.size, 0, none⟩) [0, 1] := ⟨by simp, fun k hk => ⟨_, rfl, by
    match k, hk with
    | 0, _ => exact hI.cell (i := 0) rfl
    | 1, _ => exact hI.cell (i := 1) rfl
    | k + 2, hk => exact absurd hk (by simp)⟩⟩
  have HA := Lib.hid (show TapeAt w1 (w.heap.size + 1) (w.heap.size + 1) (tpNew none 0 [] (some ⟨w.heap.size, 0, none⟩) 2 [0, 1]) from TapeAt.new (Ints.nil _ _) hints (fun ad e => by cases e) (fun ad e _ => by injection e with e; subst e; show w.heap.size < _; omega) (Nat.le_refl _) (by
    rw [← hw1]
    exact (blk_new (by simp)).below ((Below.refl _ _).alloc (Nat.le_refl _) _) (by simp)))
  have HB := Lib.hid (show TapeAt w1 (w.heap.size + 1) (w.heap.size + 2) (tpNew none 0 [] none 0 []) from TapeAt.new (Ints.nil _ _) (Ints.nil _ _) (fun ad e => by cases e) (fun ad e => by cases e) (by omega) (by
    rw [← hw1]
    exact blk_new (by simp)))
  have HBL := Lib.hid hb1
  have HS1 := Lib.hid hs1
  have hn := cl_new (some (w.heap.size + 1)) (some (w.heap.size + 2)) w1
  have HN := Lib.hid hn
  clear hI hints hb1 hs1 hn hh
  go_enter Try.func6, Try.ntmps6
  go_wp2_with fail
  refine HN.out.mono ?_
  rintro e w2 ⟨rfl, hw2⟩
  have hb2 : Below w1.heap.size w1 w2 := by rw [← hw2]; exact (Below.refl _ _).alloc (Nat.le_refl _) _
  have HC2 := Lib.hid (show ClAt w2 (w.heap.size + 1) w1.heap.size (some (w.heap.size + 1)) (some (w.heap.size + 2)) clNew from ClAt.new (by have := HS1.out; omega) (by rw [← hw2]; exact Blk.alloc _ _ _))
  have HA2 := Lib.hid (HA.out.below hb2)
  have HB2 := Lib.hid (HB.out.below hb2)
  have HL2 := Lib.hid (below_trans HBL.out hb2)
  clear hw2 hb2
  go_wp2_with fail
  refine (cl_write _ _ w1.heap.size _ _ clNew (w.heap.size + 1) _ HC2.out rfl HA2.out (fun j hj => by cases hj) (by simp [clNew]) (by simp [tpNew]) (by simp [tpNew]) (by simp [tpNew]) 3 ⟨#[120]⟩).mono ?_
  rintro e w3 ⟨rfl, kv, wv, hc3, ha3, hm3, hap3, _, _⟩
  have HB3 := Lib.hid (HB2.out.other HC2.out HA2.out (by omega) (fun j hj => by cases hj) hm3)
  have HL3 := Lib.hid (show Below w.heap.size w w3 from HL2.out.trans (hm3.below (by have := HL2.out.size; omega) (fun i hi => by
    have := HS1.out
    rcases hi with e | e | e | e
    · omega
    · omega
    · cases e
    · cases e)))
  obtain ⟨v3, hv3⟩ : ∃ v3 : ClV, v3 = ⟨0, kv, oneX, .slice none 0 0, []⟩ := ⟨_, rfl⟩
  obtain ⟨A3, hA3⟩ : ∃ A3 : TpV, A3 = ⟨none, 0, [], some ⟨w.heap.size, 0, none⟩, 2, [0, 1], .slice none 0 0, wv, oneX, 1, 1⟩ := ⟨_, rfl⟩
  have HC3 := Lib.hid (show ClAt w3 _ _ _ _ v3 from hc3.as (by rw [hv3]; rfl))
  have HA3 := Lib.hid (show TapeAt w3 _ _ A3 from ha3.as (by rw [hA3]; rfl))
  have HAP3 := Lib.hid hap3
  have HV3 := Lib.hid hv3
  have HAA3 := Lib.hid hA3
  rw [show (tpNew none 0 [] (some ⟨w.heap.size, 0, none⟩) 2 [0, 1]).err = 0 from rfl]
  clear hc3 ha3 hm3 hap3 hv3 hA3
  go_wp2_with fail
  refine (cl_flush _ _ w1.heap.size _ _ v3 (w.heap.size + 1) A3 HC3.out (by rw [HV3.out]; rfl) HA3.out (by rw [HV3.out, HAA3.out]; exact HAP3.out) (by rw [HV3.out]; simp [oneX]) (by rw [HV3.out]; simp) (by rw [HV3.out]; simp) (by rw [HAA3.out]; simp) (by rw [HAA3.out]; simp)).mono ?_
  rintro e w4 ⟨rfl, kv4, fv4, hc4, ha4, hm4, hkv4⟩
  have HB4 := Lib.hid (HB3.out.other HC3.out HA3.out (by omega) (fun j _ hj => by cases hj) hm4)
  have HL4 := Lib.hid (show Below w.heap.size w w4 from HL3.out.trans (hm4.below (by have := HL3.out.size; omega) (fun i hi => by
    have := HS1.out
    rcases hi with e | e | e | e
    · omega
    · omega
    · have := (own_lt HC3.out.k e).2; omega
    · have := (own_lt HC3.out.f e).2; omega)))
  have HC4 := Lib.hid (show ClAt w4 _ _ _ _ ⟨0, kv4, oneX, fv4, []⟩ from hc4.as (by rw [HV3.out, HAA3.out]; rfl))
  have hd : decide (A3.err = 0 ∧ A3.ev.2 = 2) = false := by rw [HAA3.out]; rfl
  have he : A3.err = 0 := by rw [HAA3.out]; rfl
  rw [hd, he]
  clear hc4 ha4 hm4 hkv4 hd he
  go_wp2_with fail
  refine (cl_over _ _ w1.heap.size _ _ _ (w.heap.size + 2) (tpNew none 0 [] none 0 []) HC4.out rfl HB4.out (by simp [oneX]) (by simp [tpNew]) (by simp [tpNew]) (by simp [tpNew])).mono ?_
  rintro e w5 ⟨m, r, ops', n', wv5, rfl, hm, hok, hr, hc5, hb5, hn5, ho5, hm5, _⟩
  obtain ⟨rfl, rfl⟩ : m = 1 ∧ r = 0 := by
    rcases hr with ⟨h1, h2⟩ | ⟨_, h2, h3⟩
    · exact ⟨h1, h2⟩
    · exact absurd (h2.symm.trans (by simp [errAt, tpNew])) h3
  have HL5 := Lib.hid (show Below w.heap.size w w5 from HL4.out.trans (hm5.below (by have := HL4.out.size; omega) (fun i hi => by
    have := HS1.out
    rcases hi with e | e <;> omega)))
  have HC5 := Lib.hid hc5
  have HB5 := Lib.hid hb5
  clear hm hok hr hc5 hb5 hn5 ho5 hm5
  go_wp2_with fail
  refine (cl_read_one _ _ w1.heap.size _ _ _ (w.heap.size + 2) _ 3 ⟨#[120]⟩ HC5.out rfl HB5.out rfl).mono ?_
  rintro e w6 ⟨rfl, hb6⟩
  have HL6 := Lib.hid (below_trans HL5.out hb6)
  have HC6 := Lib.hid (HC5.out.below hb6)
  have HB6 := Lib.hid (HB5.out.below hb6)
  clear hb6
  go_wp2_with fail
  refine (cl_at _ w1.heap.size _ _ 1 _ _ HC6.out.box).mono ?_
  rintro e w7 ⟨rfl, rfl⟩
  go_wp2_with fail
  refine (cl_kept _ _ w1.heap.size _ _ _ HC6.out (by simp [oneX])).mono ?_
  rintro e w8 ⟨g8, rfl, hx8, _, hb8⟩
  have HL8 := Lib.hid (below_trans HL6.out hb8)
  have hb9 := HB6.out.below hb8
  have c3 := hb9.box.cell (i := 3) rfl
  obtain ⟨gw, cw, hw, _⟩ := World.ownsRow.form hb9.own (by simp [oneX, tpNew])
  have hw : wv5 = .slice (some ⟨gw, 0, none⟩) 1 cw := hw
  subst hw
  clear hx8 hb8 hb9
  go_wp2
  go_ret
  exact ⟨rfl, HL8.out⟩
end Go.Proofs.Ytdnkbnpjbcalaaa
