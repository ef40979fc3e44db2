/- What the package logrec comes to: check, turn, put. -/
import Derived.Test.YtgdkchjicggdlaaLrp
import Derived.Test.YtgdkchjicggdlaaBld
import Derived.Lib.FrozenHead
import Derived.Deep.QuietTactic
import Derived.BigQuiet
import Derived.WalkLawsBesides
namespace Go.Proofs.Ytgdkchjicggdlaa
open Go.RowKit Go.Proofs.YtgdkchjicggdlaaW.PrintWords

theorem xor_byte (c : UInt8) (n : Nat) (hn : n < 256) : Go.bits .xor .u8 (c.toNat : Int) (n : Int) = ((c ^^^ UInt8.ofNat n).toNat : Int) := by
  rw [u8_xor_nat _ _ c.toNat_lt hn, UInt8.toNat_xor, UInt8.toNat_ofNat', Nat.mod_eq_of_lt hn]
theorem head_of (s : ByteArray) (h : 0 < s.size) : s.data.toList.headD 0 = s[0] := by
  cases s with | mk d =>
  cases hd : d.toList with
  | nil =>
    have : d.size = 0 := by rw [← Array.length_toList, hd]; rfl
    have h' : 0 < d.size := h
    omega
  | cons c r =>
    have : d[0]? = some c := by rw [← Array.getElem?_toList, hd]; rfl
    have h2 : d[0]? = some d[0] := Array.getElem?_eq_getElem h
    rw [h2] at this
    show c = d[0]
    injection this with this
    exact this.symm
theorem turned_of (s : ByteArray) (n : Nat) (h : 0 < s.size) : mkS (Lr.turned n s.data.toList) = mkS [s[0] ^^^ UInt8.ofNat n] ++ s.extract 1 s.size := by
  have hh := head_of s h
  cases s with | mk d =>
  cases hd : d.toList with
  | nil =>
    have : d.size = 0 := by rw [← Array.length_toList, hd]; rfl
    have h' : 0 < d.size := h
    omega
  | cons c r =>
    simp only [hd, List.headD_cons] at hh
    rw [← hh]
    have e : (⟨d⟩ : ByteArray).extract 1 (⟨d⟩ : ByteArray).size = mkS r := by
      apply ByteArray.ext
      apply Array.ext'
      rw [ByteArray.data_extract, Array.toList_extract]
      have hl : d.toList.length = (⟨d⟩ : ByteArray).size := rfl
      simp only [hd, List.length_cons] at hl
      simp [List.extract, hd, mkS, ← hl]
    rw [e, mkS_append]
    rfl

set_option maxHeartbeats 400000 in
theorem lr_check1 (x y : Sec) (b : Nat) (w : World) (h : Blk w b #[.int .i64 y.At, .string y.Data] 59) :
    Calls Try.prog 36 #[x.val, .pointer (some ⟨b, 0, none⟩)] w fun e w' => e = .returned (.bool (x.At == y.At)) ∧ Below w.heap.size w w' := by
  have hlt := h.lt
  have c0 := h.cell (i := 0) rfl
  unfold Sec.val
  go_enter Try.func36, Try.ntmps36
  go_wp2
  go_ret
  exact ⟨rfl, (Below.refl _ _).alloc (Nat.le_refl _) _⟩

set_option maxHeartbeats 400000 in
theorem lr_turn1 (x : Sec) (n b : Nat) (w : World) (h : Blk w b #[.int .i64 n] 3) (hx : 0 < x.Data.size) (hn : n < 256) :
    Calls Try.prog 55 #[x.val, .pointer (some ⟨b, 0, none⟩)] w fun e w' => e = .returned (.bool (Lr.marked n x)) ∧ Below w.heap.size w w' := by
  have hlt := h.lt
  have c0 := h.cell (i := 0) rfl
  unfold Sec.val
  go_enter Try.func55, Try.ntmps55
  go_wp2
  go_quiet (fail)
  go_wp2
  go_ret
  refine ⟨ret_bool ?_, pw_below_drewN ((Below.refl _ _).alloc (Nat.le_refl _) _) nq⟩
  rw [xor_byte _ _ hn]
  unfold Lr.marked Sec.bytes
  rw [head_of _ hx]
  generalize x.Data[0] ^^^ UInt8.ofNat n = c
  show (((c.toNat : Int)) == 82) = (c == 82)
  by_cases e : c = 82
  · subst e; rfl
  · have : ¬ ((c.toNat : Int) = 82) := fun h => e (UInt8.toNat_inj.1 (by show c.toNat = 82; omega))
    rw [beq_eq_false_iff_ne.2 this, beq_eq_false_iff_ne.2 e]

set_option maxHeartbeats 400000 in
theorem lr_turned (s : ByteArray) (n : Nat) (w : World) (hn : n < 256) (hs : 0 < s.size) (hm : s.size ≤ maxLen) :
    Calls Try.prog 26 #[.string s, .int .i64 n] w fun e w' => e = .returned (.string (mkS (Lr.turned n s.data.toList))) ∧ Below w.heap.size w w' := by
  unfold maxLen at hm
  have hb := xor_byte s[0] n hn
  have hback := run_convert_bytes_back (P := Try.prog) (w.alloc (.cells #[.int .u8 (Go.bits .xor .u8 (s[0].toNat : Int) (n : Int))] 5)).drew 37 9 5 ⟨w.heap.size, 0, none⟩ 1 [s[0] ^^^ UInt8.ofNat n] Try.underlying37 Try.underlying5 Try.underlying9 (by
    intro j hj
    obtain rfl : j = 0 := by simp at hj; omega
    rw [hb]
    simp [Addr.add])
  have HT := Lib.hid (turned_of s n hs)
  have hsz : (mkS [s[0] ^^^ UInt8.ofNat n]).size = 1 := rfl
  rw [show (⟨[s[0] ^^^ UInt8.ofNat n].toArray⟩ : ByteArray) = mkS [s[0] ^^^ UInt8.ofNat n] from rfl] at hback
  simp only [List.length_cons, List.length_nil, Nat.zero_add] at hback
  clear hb
  go_enter Try.func26, Try.ntmps26
  go_wp2
  go_region
  all_goals go_wp2
  all_goals go_ret
  all_goals exact ⟨ret_str HT.out.symm, ((Below.refl _ _).alloc (Nat.le_refl _) _).drew⟩

set_option maxHeartbeats 400000 in
theorem lr_tail (a b : List UInt8) (w : World) (ha : a.length ≤ 4611686018427387903) (hb : b.length ≤ 4611686018427387903) :
    Calls Try.prog 28 #[.string (mkS a), .string (mkS b)] w fun e w' => e = .returned (.string (mkS (Crc.tail (a ++ b)))) ∧ Below w.heap.size w w' := by
  have h1 : (mkS a).size = a.length := rfl
  have h2 : (mkS b).size = b.length := rfl
  have HA := Lib.hid (mkS_append a b)
  go_enter Try.func28, Try.ntmps28
  go_wp2_with ((go_at_call 59; rw [HA.out]; refine (cyc_tail _ _ (by rw [mkS_size, List.length_append]; unfold maxLen; omega)).mono ?_; rintro e w1 ⟨rfl, hb⟩))
  go_ret
  exact ⟨rfl, hb⟩

theorem repeat_nul (c : Nat) : Lib.repeatL (⟨#[0]⟩ : ByteArray).data.toList c = List.replicate c 0 := by
  induction c with
  | zero => rfl
  | succ c ih => rw [Lib.repeatL, ih]; rfl

set_option maxHeartbeats 400000 in
theorem rg_pad (s : List UInt8) (w : World) (hs : s.length ≤ 4611686018427387903) :
    Calls Try.prog 27 #[.string (mkS s)] w fun e w' => e = .returned (.string (mkS (Lr.pad s))) ∧ Below w.heap.size w w' := by
  have h1 : (mkS s).size = s.length := rfl
  have hr : s.length % 64 < 64 := Nat.mod_lt _ (by omega)
  by_cases h0 : s.length % 64 = 0
  · have HP := Lib.hid (show Lr.pad s = s from by unfold Lr.pad; rw [h0]; simp)
    have hm : ((s.length : Int) % 64) = 0 := by omega
    go_enter Try.func27, Try.ntmps27
    go_wp2
    go_ret
    exact ⟨ret_str (by rw [HP.out]), Below.refl _ _⟩
  · have HP := Lib.hid (show mkS s ++ ⟨(Lib.repeatL (⟨#[0]⟩ : ByteArray).data.toList (64 - s.length % 64)).toArray⟩ = mkS (Lr.pad s) from by
      rw [repeat_nul]
      unfold Lr.pad
      rw [Nat.mod_eq_of_lt (show 64 - s.length % 64 < 64 by omega)]
      exact mkS_append _ _)
    have hm : 0 < ((s.length : Int) % 64) := by omega
    have HC := Lib.hid (show (64 : Int) - (s.length : Int) % 64 = ((64 - s.length % 64 : Nat) : Int) from by omega)
    have h2 : (⟨(Lib.repeatL (⟨#[0]⟩ : ByteArray).data.toList (64 - s.length % 64)).toArray⟩ : ByteArray).size ≤ 64 := by
      rw [repeat_nul]
      show (List.replicate (64 - s.length % 64) (0 : UInt8)).length ≤ 64
      simp
    clear h0
    go_enter Try.func27, Try.ntmps27
    go_wp2_with ((go_at_call 58; rw [HC.out]; refine (Try.strings_Repeat _ _ _ (by omega) (by show 1 * _ ≤ _; omega)).mono ?_; rintro e w1 ⟨rfl, hb⟩))
    go_ret
    exact ⟨ret_str HP.out, hb⟩

/-- The number in a block of one cell. -/
def cellNat (w : World) (b : Nat) : Nat := match w.cell? ⟨b, 0, none⟩ with
  | some (.int _ n) => n.toNat
  | _ => 0
theorem cellNat_of {w : World} {b : Nat} {k : IntKind} {n : Nat} {t : TypeId} (h : Blk w b #[.int k n] t) : cellNat w b = n := by
  unfold cellNat
  rw [h.cell (i := 0) (v := .int k n) rfl]
  simp
theorem enters_turn1 : ∀ args w, (callFunc 55 args).run Try.prog w = .ok (.enter 55 args) w := enters_of Try.func55 (by kernel_rfl) rfl
theorem enters_check1 : ∀ args w, (callFunc 36 args).run Try.prog w = .ok (.enter 36 args) w := enters_of Try.func36 (by kernel_rfl) rfl

set_option maxRecDepth 100000 in
set_option maxHeartbeats 400000 in
theorem lr_turn (A : Option Addr) (cap : Nat) (l : List Sec) (w : World) (h : Secs w A l) (hl : l.length ≤ 255) (hx : ∀ x, x ∈ l → 0 < x.Data.size) :
    Calls Try.prog 23 #[.slice A l.length cap] w fun e w' => e = .returned (.int .i64 (Lr.turn l)) ∧ Below w.heap.size w w' := by
  obtain ⟨m, hm, hfree⟩ := Lr.some_free l hl
  have H := Lib.hid h
  have hx0 := Lib.hid hx
  clear h hx
  go_enter Try.func23, Try.ntmps23
  go_wp2
  have HF := Lib.hid hfree
  clear hfree
  go_loopw [] (fun wr => ∃ n : Nat, n ≤ m ∧ (∀ j, j < n → Lr.bad l j = true) ∧ Blk wr w.heap.size #[.int .i64 n] 3 ∧ Below w.heap.size w wr) (fun wr => m - cellNat wr w.heap.size)
  case atStart => exact ⟨0, by omega, fun j hj => by omega, Blk.alloc _ _ _, (Below.refl _ _).alloc (Nat.le_refl _) _⟩
  case round =>
    obtain ⟨n, hn, hlow, hblk, hb⟩ := hrel
    have HLOW := Lib.hid hlow
    have HB := Lib.hid hb
    have HBLK := Lib.hid hblk
    clear hlow hb hblk
    have hlt : w.heap.size < wr.heap.size := HBLK.out.lt
    have HASK := Lib.hid (show Asks wr 55 #[.pointer (some ⟨w.heap.size, 0, none⟩)] l (Lr.marked n) from
      ⟨enters_turn1, fun x hx w1 h1 => lr_turn1 x n w.heap.size w1 (HBLK.out.below h1 hlt) (hx0.out x hx) (by omega)⟩)
    have HC := Lib.hid (sec_contains _ _ A cap l (Lr.marked n) _ (Kd.C_below H.out HB.out) HASK.out)
    clear HASK
    by_cases hbad : Lr.bad l n = true
    · have hnm : n < m := by
        rcases Nat.lt_or_ge n m with h | h
        · exact h
        · obtain rfl : n = m := by omega
          rw [HF.out] at hbad
          cases hbad
      have HN := Lib.hid (show ∀ j, j < n + 1 → Lr.bad l j = true from fun j hj => by
        rcases Nat.lt_or_ge j n with h | h
        · exact HLOW.out j h
        · obtain rfl : j = n := by omega
          exact hbad)
      have HBAD := Lib.hid (show l.any (Lr.marked n) = true from hbad)
      have HM := Lib.hid (cellNat_of HBLK.out)
      clear hbad
      go_wp2_with ((go_at_call 35; refine HC.out.mono ?_; rintro e w1 ⟨rfl, hb1⟩; rw [HBAD.out]; have HB1 := Lib.hid (HB.out.trans (hb1.mono (Nat.le_of_lt hlt))); have HBLK1 := Lib.hid (HBLK.out.below hb1 hlt); have hc0 := HBLK1.out.cell (i := 0) rfl; have hf0 := HBLK1.out.free 0; have hlt1 : w.heap.size < w1.heap.size := HBLK1.out.lt; clear hb1))
      go_roundw
      case rel => exact ⟨n + 1, by omega, HN.out, by have := HBLK1.out.set 0 (.int .i64 (n + 1)); simpa using this, HB1.out.setCell (p := ⟨w.heap.size, 0, none⟩) (Nat.le_refl _) _⟩
      case measure =>
        have := HBLK1.out.set 0 (.int .i64 ((n + 1 : Nat) : Int))
        rw [HM.out, show (n : Int) + 1 = ((n + 1 : Nat) : Int) from by omega, cellNat_of this]
        omega
    · have HT := Lib.hid (Lr.turn_of (by omega) (Bool.eq_false_iff.2 hbad) HLOW.out)
      have HBAD := Lib.hid (show l.any (Lr.marked n) = false from Bool.eq_false_iff.2 hbad)
      clear hbad
      go_wp2_with ((go_at_call 35; refine HC.out.mono ?_; rintro e w1 ⟨rfl, hb1⟩; rw [HBAD.out]; have HB1 := Lib.hid (HB.out.trans (hb1.mono (Nat.le_of_lt hlt))); have HBLK1 := Lib.hid (HBLK.out.below hb1 hlt); have hc0 := HBLK1.out.cell (i := 0) rfl; have hlt1 : w.heap.size < w1.heap.size := HBLK1.out.lt; clear hb1))
      go_ret
      exact ⟨ret_int (by rw [HT.out]), HB1.out⟩

theorem enc_sec (w : World) {A : Option Addr} {l : List Sec} (h : Secs w A l) (k : Nat) (hk : k ≤ l.length) : Secs w A (l.take k) := by
  have hn : (l.take k).length = k := by rw [List.length_take]; omega
  refine ⟨rfl, by have := Kd.C_max h; omega, fun hp => ?_⟩
  obtain ⟨ad, e, hc⟩ := h.2.2 (by omega)
  exact ⟨ad, e, fun j p hj => hc j p (by
    rw [List.getElem?_take] at hj
    split at hj
    · exact hj
    · cases hj)⟩

theorem check_step (l : List Sec) (k : Nat) (hk : k < l.length) : Lr.checkFrom (l.take k) (l.drop k) =
    if l[k].At < 0 ∨ 1000 ≤ l[k].At then 3 else if l[k].Data.size ≠ 64 then 12 else if (l.take k).any (fun t => t.At == l[k].At) then 9 else Lr.checkFrom (l.take (k + 1)) (l.drop (k + 1)) := by
  rw [List.drop_eq_getElem_cons hk]
  simp only [Lr.checkFrom]
  rw [List.take_succ_eq_append_getElem hk]

set_option maxRecDepth 100000 in
set_option maxHeartbeats 800000 in
theorem lr_check (A : Option Addr) (cap : Nat) (l : List Sec) (w : World) (h : Secs w A l) (hcap : l.length ≤ cap) :
    Calls Try.prog 11 #[.slice A l.length cap] w fun e w' => e = .returned (.int .i64 (Lr.check l)) ∧ Below w.heap.size w w' := by
  have hmax := Kd.C_max h
  have H := Lib.hid h
  clear h
  by_cases h0 : l.length = 0
  · have HC := Lib.hid (show Lr.check l = 8 from by unfold Lr.check; rw [if_pos h0])
    go_enter Try.func11, Try.ntmps11
    go_wp2
    go_ret
    exact ⟨ret_int HC.out.symm, Below.refl _ _⟩
  have h0b : ((l.length : Int) == 0) = false := by simpa using h0
  by_cases h16 : 16 < l.length
  · have HC := Lib.hid (show Lr.check l = 6 from by unfold Lr.check; rw [if_neg h0, if_pos h16])
    clear h0
    go_enter Try.func11, Try.ntmps11
    go_wp2
    go_ret
    exact ⟨ret_int HC.out.symm, Below.refl _ _⟩
  have HC := Lib.hid (show Lr.check l = Lr.checkFrom (l.take 0) (l.drop 0) from by unfold Lr.check; rw [if_neg h0, if_neg h16]; rfl)
  clear h0
  go_enter Try.func11, Try.ntmps11
  go_wp2
  go_loopw [3, 4, 15] (fun _ _ i wr => ∃ k : Nat, k ≤ l.length ∧ i = .int .i64 k ∧ Hid (Lr.check l = Lr.checkFrom (l.take k) (l.drop k)) ∧ Below w.heap.size w wr) (fun _ _ i _ => l.length - (intOf i).toNat)
  case atStart => exact ⟨0, by omega, rfl, HC, Below.refl _ _⟩
  case round =>
    obtain ⟨k, hk, rfl, HK, hb⟩ := hrel
    have HB := Lib.hid hb
    clear hb HC
    by_cases hlt : k < l.length
    · have HS := Lib.hid (HK.out.trans (check_step l k hlt))
      obtain ⟨ad, rfl, c0, c1⟩ := Secs.at_ (Kd.C_below H.out HB.out) k hlt
      have hsz : w.heap.size ≤ wr.heap.size := HB.out.size
      have HBA := Lib.hid (HB.out.alloc hsz (.cells #[.int .i64 l[k].At, .string l[k].Data] 59))
      by_cases h1 : l[k].At < 0
      · have HR := Lib.hid (HS.out.trans (if_pos (Or.inl h1)))
        go_wp2
        go_ret
        exact ⟨ret_int HR.out.symm, HBA.out⟩
      by_cases h2 : 1000 ≤ l[k].At
      · have HR := Lib.hid (HS.out.trans (if_pos (Or.inr h2)))
        go_wp2
        go_ret
        exact ⟨ret_int HR.out.symm, HBA.out⟩
      have HS2 := Lib.hid (HS.out.trans (if_neg (by omega)))
      by_cases h3 : l[k].Data.size ≠ 64
      · have HR := Lib.hid (HS2.out.trans (if_pos h3))
        have h3b : ((l[k].Data.size : Int) != 64) = true := by simp; omega
        clear h3
        go_wp2
        go_ret
        exact ⟨ret_int HR.out.symm, HBA.out⟩
      have HS3 := Lib.hid (HS2.out.trans (if_neg h3))
      have h3b : ((l[k].Data.size : Int) != 64) = false := by simp at h3; simp; omega
      have htl : (l.take k).length = k := by rw [List.length_take]; omega
      have HASK := Lib.hid (show Asks (wr.alloc (.cells #[.int .i64 l[k].At, .string l[k].Data] 59)) 36 #[.pointer (some ⟨wr.heap.size, 0, none⟩)] (l.take k) (fun t => t.At == l[k].At) from
        ⟨enters_check1, fun x hx w1 h1 => lr_check1 x l[k] wr.heap.size w1 ((Blk.alloc _ _ _).below h1 (by simp))⟩)
      have HCF := Lib.hid (sec_contains _ _ (some ad) cap (l.take k) (fun t => t.At == l[k].At) _ (enc_sec _ (Kd.C_below H.out (HBA.out)) k (by omega)) HASK.out)
      rw [htl] at HCF
      clear HASK htl h3
      by_cases h4 : (l.take k).any (fun t => t.At == l[k].At) = true
      · have HR := Lib.hid (HS3.out.trans (if_pos h4))
        have H4 := Lib.hid h4
        clear h4
        go_wp2_with ((go_at_call 35; refine HCF.out.mono ?_; rintro e w1 ⟨rfl, hb1⟩; rw [H4.out]; have HB1 := Lib.hid (below_trans HBA.out hb1); clear hb1))
        go_ret
        exact ⟨ret_int HR.out.symm, HB1.out⟩
      · have HR := Lib.hid (HS3.out.trans (if_neg h4))
        have H4 := Lib.hid (Bool.eq_false_iff.2 h4)
        clear h4
        go_wp2_with ((go_at_call 35; refine HCF.out.mono ?_; rintro e w1 ⟨rfl, hb1⟩; rw [H4.out]; have HB1 := Lib.hid (below_trans HBA.out hb1); clear hb1))
        go_roundw
        case rel => exact ⟨k + 1, by omega, by go_num, HR, HB1.out⟩
        case measure => simp [intOf]; omega
    · obtain rfl : k = l.length := by omega
      have HR := Lib.hid (HK.out.trans (show _ = 0 from by rw [List.drop_length]; rfl))
      go_wp2
      go_ret
      exact ⟨ret_int HR.out.symm, HB.out⟩
end Go.Proofs.Ytgdkchjicggdlaa
