/- Put, the program's and the reference's: the same plain function. -/
import Derived.Test.YtgdkchjicggdlaaRfb
namespace Go.Proofs.Ytgdkchjicggdlaa
open Go.RowKit Go.Proofs.YtgdkchjicggdlaaW.PrintWords

/-- Put, with what is wrong. -/
def Lr.Put (seq : Int) (l : List Sec) : List UInt8 × Int :=
  if seq < 0 ∨ 281474976710656 ≤ seq then ([], 3) else if Lr.check l ≠ 0 then ([], Lr.check l) else (Lr.put seq.toNat l, 0)

set_option maxRecDepth 100000 in
set_option maxHeartbeats 400000 in
theorem lr_put (seq : Int) (A : Option Addr) (cap : Nat) (l : List Sec) (w : World) (h : Secs w A l) (hcap : l.length ≤ cap) :
    Calls Try.prog 9 #[.int .i64 seq, .slice A l.length cap] w fun e w' => e = .returned (.tuple #[.string (mkS (Lr.Put seq l).1), .int .i64 (Lr.Put seq l).2]) ∧ Below w.heap.size w w' := by
  by_cases h1 : seq < 0
  · have HP := Lib.hid (show Lr.Put seq l = ([], 3) from if_pos (Or.inl h1))
    rw [HP.out]
    go_enter Try.func9, Try.ntmps9
    go_wp2
    go_ret2
    exact ⟨rfl, Below.refl _ _⟩
  by_cases h2 : 281474976710656 ≤ seq
  · have HP := Lib.hid (show Lr.Put seq l = ([], 3) from if_pos (Or.inr h2))
    rw [HP.out]
    have hge : decide ((281474976710656 : Int) ≤ seq) = true := by rw [decide_eq_true_iff]; omega
    clear h2
    go_enter Try.func9, Try.ntmps9
    go_wp2
    go_ret2
    exact ⟨rfl, Below.refl _ _⟩
  by_cases h3 : Lr.check l = 0
  · have HP := Lib.hid (show Lr.Put seq l = (Lr.put seq.toNat l, 0) from by unfold Lr.Put; rw [if_neg (by omega), if_neg (by omega)])
    rw [HP.out]
    obtain ⟨n, rfl⟩ := Int.eq_ofNat_of_zero_le (show 0 ≤ seq by omega)
    exact lr_put_ok n A cap l w h hcap (by omega) h3
  · have HP := Lib.hid (show Lr.Put seq l = ([], Lr.check l) from by unfold Lr.Put; rw [if_neg (by omega), if_pos h3])
    rw [HP.out]
    have hge : decide ((281474976710656 : Int) ≤ seq) = false := by rw [decide_eq_false_iff_not]; omega
    have h3b : (Lr.check l != 0) = true := by rw [bne_iff_ne]; exact h3
    have H := Lib.hid h
    clear h h2 h3
    go_enter Try.func9, Try.ntmps9
    go_wp2_with ((go_at_call 11; refine (lr_check A cap l _ H.out hcap).mono ?_; rintro e w1 ⟨rfl, hb1⟩))
    go_ret2
    exact ⟨rfl, hb1⟩

set_option maxRecDepth 100000 in
set_option maxHeartbeats 1000000 in
theorem r11_put_ok (seq : Nat) (A : Option Addr) (cap : Nat) (l : List Sec) (w : World) (h : Secs w A l) (hseq : seq < 281474976710656) (hc : Lr.check l = 0) :
    Calls Try.prog 10 #[.int .i64 seq, .slice A l.length cap] w fun e w' => e = .returned (.tuple #[.string (mkS (Lr.put seq l)), .int .i64 0]) ∧ Below w.heap.size w w' := by
  have hf := Lr.check_fine hc
  have hpos := hf.pos
  have hfew := hf.few
  have htl := Lr.turn_le hf.few
  have H := Lib.hid h
  have HC := Lib.hid hc
  have HF := Lib.hid hf
  have hge : decide ((281474976710656 : Int) ≤ (seq : Int)) = false := by rw [decide_eq_false_iff_not]; omega
  have HSEQ := Lib.hid hseq
  clear h hc hf hseq
  go_enter Try.func10, Try.ntmps10
  go_wp2_with (first
    | (go_at_call 12; refine (r11_check A cap l _ H.out).mono ?_; rintro e w1 ⟨rfl, hb1⟩; rw [HC.out]; have HB1 := Lib.hid hb1; clear hb1)
    | (go_at_call 30; refine (r11_turn A cap l _ (Kd.C_below H.out HB1.out) (by omega) (fun x hx => by have := HF.out.size x hx; omega)).mono ?_; rintro e w2 ⟨rfl, rfl⟩))
  refine (r2_put [82] seq 6 _ (by omega) (by omega) (by have := HSEQ.out; omega) (by have := HSEQ.out; omega) (by simp)).mono ?_
  rintro e w3 ⟨rfl, hb3⟩
  have HB3 := Lib.hid (below_trans HB1.out hb3)
  clear hb3 HB1
  go_wp2_with fail
  refine (r2_put _ l.length 1 _ (by omega) (by omega) (by omega) (by omega) (by simp [Fld.be_len])).mono ?_
  rintro e w4 ⟨rfl, hb4⟩
  have HB4 := Lib.hid (below_trans HB3.out hb4)
  clear hb4 HB3
  go_wp2_with fail
  refine (r2_put _ (Lr.turn l) 1 _ (by omega) (by omega) (by omega) (by omega) (by simp [Fld.be_len])).mono ?_
  rintro e w5 ⟨rfl, hb5⟩
  have HB5 := Lib.hid (below_trans HB4.out hb5)
  clear hb5 HB4
  go_wp2_with fail
  go_loopw [8, 9, 10] (fun told all i wr => ∃ k : Nat, k ≤ l.length ∧ i = .int .i64 k ∧ told = .string (mkS (Lr.toldTo seq l k)) ∧ all = .string (mkS (Lr.allTo l k)) ∧ Below w.heap.size w wr) (fun _ _ i _ => l.length - (intOf i).toNat)
  case atStart => exact ⟨0, by omega, rfl, rfl, rfl, HB5.out⟩
  case round =>
    obtain ⟨k, hk, rfl, rfl, rfl, hb⟩ := hrel
    have HB := Lib.hid hb
    clear hb
    have hl1 := Lr.toldTo_len seq l k hk
    have hl2 := Lr.allTo_len HF.out k hk
    by_cases hlt : k < l.length
    · obtain ⟨ad, rfl, c0, c1⟩ := Secs.at_ (Kd.C_below H.out HB.out) k hlt
      have hat := HF.out.at_ l[k] (List.getElem_mem hlt)
      have hsz := HF.out.size l[k] (List.getElem_mem hlt)
      obtain ⟨a, ha⟩ : ∃ a : Nat, l[k].At = (a : Int) := ⟨l[k].At.toNat, by omega⟩
      have hat2 : a < 1000 := by omega
      have hto := Lr.toldTo_succ seq l k hlt
      rw [show l[k].At.toNat = a from by omega] at hto
      have HTO := Lib.hid hto
      have HAL := Lib.hid ((mkS_append _ _).trans (congrArg mkS (Lr.allTo_succ l k hlt)).symm)
      have hsz' : (Lr.turned (Lr.turn l) l[k].bytes).length = 64 := by rw [Lr.turned_len, Sec.bytes_len]; exact hsz
      rw [ha] at c0
      have hz2 : (mkS (Lr.allTo l k)).size ≤ 1024 := by rw [mkS_size]; omega
      have hz3 : (mkS (Lr.turned (Lr.turn l) l[k].Data.data.toList)).size ≤ 64 := by rw [mkS_size]; unfold Sec.bytes at hsz'; omega
      have HL1 := Lib.hid hl1
      have HSZ := Lib.hid hsz
      clear hat hsz ha hl1 hl2 hto hsz'
      go_wp2_with fail
      refine (r2_put _ a 2 _ (by omega) (by omega) (by omega) (by omega) (by rw [HL1.out]; omega)).mono ?_
      rintro e w6 ⟨rfl, hb6⟩
      have HB6 := Lib.hid (below_trans HB.out hb6)
      clear hb6 c0 c1
      obtain ⟨_, e, _, d1⟩ := Secs.at_ (Kd.C_below H.out HB6.out) k hlt
      injection e with e
      subst e
      go_wp2_with fail
      refine (r11_turned _ _ _ (by omega) (by have := HSZ.out; omega) (by have := HSZ.out; unfold maxLen; omega)).mono ?_
      rintro e w7 ⟨rfl, hb7⟩
      have HB7 := Lib.hid (below_trans HB6.out hb7)
      clear hb7
      go_wp2
      go_roundw
      case rel => exact ⟨k + 1, by omega, by go_num, by rw [HTO.out], by rw [← HAL.out]; rfl, HB7.out⟩
      case measure => simp [intOf]; omega
    · obtain rfl : k = l.length := by omega
      have HL1 := Lib.hid hl1
      have HL2 := Lib.hid hl2
      have HP := Lib.hid (show Lr.put seq l = Lr.pad (Lr.toldTo seq l l.length ++ Crc.tail (Lr.toldTo seq l l.length ++ Lr.allTo l l.length)) ++ Lr.allTo l l.length from by
        unfold Lr.put Lr.toldTo Lr.allTo Lr.told Lr.all
        rw [List.take_length])
      have hz1 : (mkS (Lr.toldTo seq l l.length)).size ≤ 41 := by rw [mkS_size]; omega
      have hz2 : (mkS (Crc.tail (Lr.toldTo seq l l.length ++ Lr.allTo l l.length))).size ≤ 4 := Nat.le_refl 4
      have hz3 : (mkS (Lr.allTo l l.length)).size ≤ 1024 := by rw [mkS_size]; omega
      have hz4 : (mkS (Lr.pad (Lr.toldTo seq l l.length ++ Crc.tail (Lr.toldTo seq l l.length ++ Lr.allTo l l.length)))).size ≤ 128 := by
        rw [mkS_size]
        unfold Lr.pad
        rw [List.length_append, List.length_replicate, List.length_append, HL1.out, show (Crc.tail (Lr.toldTo seq l l.length ++ Lr.allTo l l.length)).length = 4 from rfl]
        omega
      have HZ5 := Lib.hid (show mkS (Lr.toldTo seq l l.length) ++ mkS (Crc.tail (Lr.toldTo seq l l.length ++ Lr.allTo l l.length)) = _ from mkS_append _ _)
      have HZ6 := Lib.hid (show mkS (Lr.toldTo seq l l.length) ++ mkS (Lr.allTo l l.length) = _ from mkS_append _ _)
      clear hl1 hl2
      go_wp2_with fail
      rw [HZ6.out]
      refine (r3_tail _ _ (by rw [mkS_size, List.length_append, HL1.out, HL2.out]; unfold maxLen; omega)).mono ?_
      rintro e w6 ⟨rfl, hb6⟩
      rw [mkS_list]
      have HB6 := Lib.hid (below_trans HB.out hb6)
      clear hb6
      go_wp2_with fail
      rw [HZ5.out]
      refine (r9_pad _ _ (by rw [List.length_append, HL1.out, show (Crc.tail (Lr.toldTo seq l l.length ++ Lr.allTo l l.length)).length = 4 from rfl]; omega)).mono ?_
      rintro e w8 ⟨rfl, rfl⟩
      go_wp2
      go_ret2
      exact ⟨by rw [HP.out, ← mkS_append]; rfl, HB6.out⟩
end Go.Proofs.Ytgdkchjicggdlaa
