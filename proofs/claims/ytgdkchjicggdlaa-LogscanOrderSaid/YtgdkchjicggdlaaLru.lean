/- What logrec.Put comes to. -/
import Derived.Test.YtgdkchjicggdlaaLrw
namespace Go.Proofs.Ytgdkchjicggdlaa
open Go.RowKit Go.Proofs.YtgdkchjicggdlaaW.PrintWords

namespace Lr
/-- What Put tells of the first so many sectors, and their bytes. -/
def toldTo (seq : Nat) (l : List Sec) (k : Nat) : List UInt8 := [82] ++ Fld.be seq 6 ++ Fld.be l.length 1 ++ Fld.be (turn l) 1 ++ (l.take k).flatMap fun x => Fld.be x.At.toNat 2
def allTo (l : List Sec) (k : Nat) : List UInt8 := (l.take k).flatMap fun x => turned (turn l) x.bytes
theorem flat_len (l : List Sec) (f : Sec → List UInt8) (n : Nat) (h : ∀ x, x ∈ l → (f x).length = n) : (l.flatMap f).length = l.length * n := by
  induction l with
  | nil => simp
  | cons x l ih =>
    rw [List.flatMap_cons, List.length_append, h x List.mem_cons_self, ih (fun y hy => h y (List.mem_cons_of_mem _ hy)), List.length_cons, Nat.succ_mul]
    omega
theorem toldTo_len (seq : Nat) (l : List Sec) (k : Nat) (hk : k ≤ l.length) : (toldTo seq l k).length = 9 + 2 * k := by
  unfold toldTo
  simp only [List.length_append, Fld.be_len]
  rw [flat_len _ _ 2 (fun x _ => Fld.be_len _ _), List.length_take, Nat.min_eq_left hk]
  simp
  omega
theorem allTo_len {l : List Sec} (h : Fine l) (k : Nat) (hk : k ≤ l.length) : (allTo l k).length = 64 * k := by
  unfold allTo
  rw [flat_len _ _ 64 (fun x hx => by rw [turned_len, Sec.bytes_len]; exact h.size x (List.mem_of_mem_take hx)), List.length_take, Nat.min_eq_left hk]
  omega
theorem flat_succ (l : List Sec) (f : Sec → List UInt8) (k : Nat) (hk : k < l.length) : (l.take (k + 1)).flatMap f = (l.take k).flatMap f ++ f l[k] := by
  rw [List.take_succ_eq_append_getElem hk, List.flatMap_append]
  simp only [List.flatMap_cons, List.flatMap_nil, List.append_nil]
theorem toldTo_succ (seq : Nat) (l : List Sec) (k : Nat) (hk : k < l.length) : toldTo seq l (k + 1) = toldTo seq l k ++ Fld.be l[k].At.toNat 2 := by
  unfold toldTo
  rw [flat_succ l _ k hk]
  simp only [List.append_assoc]
theorem allTo_succ (l : List Sec) (k : Nat) (hk : k < l.length) : allTo l (k + 1) = allTo l k ++ turned (turn l) l[k].bytes := by
  exact flat_succ l _ k hk
theorem turn_le {l : List Sec} (h : l.length ≤ 16) : turn l ≤ 16 := by
  obtain ⟨m, hm, hf⟩ := some_free l (by omega)
  have H : ∀ n, bad l n = false → n ≤ 16 → turn l ≤ 16 := by
    intro n
    induction n using Nat.strongRecOn with
    | _ n ih =>
      intro hb hn
      by_cases hx : ∃ j, j < n ∧ bad l j = false
      · obtain ⟨j, hj, hbj⟩ := hx
        exact ih j hj hbj (by omega)
      · have := turn_of (by omega) hb (fun j hj => by
          by_cases hb : bad l j = true
          · exact hb
          · exact absurd ⟨j, hj, Bool.eq_false_iff.2 hb⟩ hx)
        omega
  exact H m hf (by omega)
end Lr

theorem strCells_mk (l : List UInt8) : Lib.strCells (mkS l) = Lib.byteCells l := rfl
theorem byteCells_app (a b : List UInt8) : Lib.byteCells (a ++ b) = Lib.byteCells a ++ Lib.byteCells b := by simp [Lib.byteCells]

theorem fld_putL (s : List UInt8) (n size : Nat) (w : World) (h1 : 1 ≤ size) (h7 : size ≤ 7) (hn : n < 256 ^ size) (hb : n ≤ 9223372036854775807) (hs : s.length ≤ 4611686018427387904) :
    Calls Try.prog 24 #[.string (mkS s), .int .i64 n, .int .i64 size] w fun e w' => e = .returned (.string (mkS (s ++ Fld.be n size))) ∧ Below w.heap.size w w' := by
  rw [← mkS_append]
  exact fld_put (mkS s) n size w h1 h7 hn hb hs

set_option maxRecDepth 100000 in
set_option maxHeartbeats 1000000 in
theorem lr_put_ok (seq : Nat) (A : Option Addr) (cap : Nat) (l : List Sec) (w : World) (h : Secs w A l) (hcap : l.length ≤ cap) (hseq : seq < 281474976710656) (hc : Lr.check l = 0) :
    Calls Try.prog 9 #[.int .i64 seq, .slice A l.length cap] w fun e w' => e = .returned (.tuple #[.string (mkS (Lr.put seq l)), .int .i64 0]) ∧ Below w.heap.size w w' := by
  have hf := Lr.check_fine hc
  have hpos := hf.pos
  have hfew := hf.few
  have htl := Lr.turn_le hf.few
  have H := Lib.hid h
  have HC := Lib.hid hc
  have HF := Lib.hid hf
  have hge : decide ((281474976710656 : Int) ≤ (seq : Int)) = false := by rw [decide_eq_false_iff_not]; omega
  have HSEQ := Lib.hid hseq
  clear h hc hf hseq
  go_enter Try.func9, Try.ntmps9
  go_wp2_with (first
    | (go_at_call 11; refine (lr_check A cap l _ H.out hcap).mono ?_; rintro e w1 ⟨rfl, hb1⟩; rw [HC.out]; have HB1 := Lib.hid hb1; clear hb1)
    | (go_at_call 23; refine (lr_turn A cap l _ (Kd.C_below H.out HB1.out) (by omega) (fun x hx => by have := HF.out.size x hx; omega)).mono ?_; rintro e w2 ⟨rfl, hb2⟩; have HB2 := Lib.hid (below_trans HB1.out hb2); clear hb2))
  refine (fld_putL [82] seq 6 _ (by omega) (by omega) (by have := HSEQ.out; omega) (by have := HSEQ.out; omega) (by simp)).mono ?_
  rintro e w3 ⟨rfl, hb3⟩
  have HB3 := Lib.hid (below_trans HB2.out hb3)
  clear hb3 HB1 HB2
  go_wp2_with fail
  refine (fld_putL _ l.length 1 _ (by omega) (by omega) (by omega) (by omega) (by simp [Fld.be_len])).mono ?_
  rintro e w4 ⟨rfl, hb4⟩
  have HB4 := Lib.hid (below_trans HB3.out hb4)
  clear hb4 HB3
  go_wp2_with fail
  refine (fld_putL _ (Lr.turn l) 1 _ (by omega) (by omega) (by omega) (by omega) (by simp [Fld.be_len])).mono ?_
  rintro e w5 ⟨rfl, hb5⟩
  have HB5 := Lib.hid (below_trans HB4.out hb5)
  clear hb5 HB4
  go_wp2_with fail
  go_loopw [8, 11, 34] (fun told _ i wr => ∃ k : Nat, k ≤ l.length ∧ i = .int .i64 k ∧ told = .string (mkS (Lr.toldTo seq l k)) ∧ IsBld w5.heap.size w5.heap.size (Lib.byteCells (Lr.allTo l k)) wr ∧ Below w.heap.size w wr) (fun _ _ i _ => l.length - (intOf i).toNat)
  case atStart => exact ⟨0, by omega, rfl, rfl, Lib.fresh_isBuilder _ _ _, HB5.out.alloc HB5.out.size _⟩
  case round =>
    obtain ⟨k, hk, rfl, rfl, hbld, hb⟩ := hrel
    have HB := Lib.hid hb
    have HBLD := Lib.hid hbld
    clear hb hbld
    by_cases hlt : k < l.length
    · obtain ⟨ad, rfl, c0, c1⟩ := Secs.at_ (Kd.C_below H.out HB.out) k hlt
      have hat := HF.out.at_ l[k] (List.getElem_mem hlt)
      have hsz := HF.out.size l[k] (List.getElem_mem hlt)
      obtain ⟨a, ha⟩ : ∃ a : Nat, l[k].At = (a : Int) := ⟨l[k].At.toNat, by omega⟩
      have hat2 : a < 1000 := by omega
      have hto := Lr.toldTo_succ seq l k hlt
      rw [show l[k].At.toNat = a from by omega] at hto
      have HTO := Lib.hid hto
      have HAL := Lib.hid (Lr.allTo_succ l k hlt)
      have hl1 := Lr.toldTo_len seq l k hk
      have hl2 := Lr.allTo_len HF.out k hk
      have hsz' : (Lr.turned (Lr.turn l) l[k].bytes).length = 64 := by rw [Lr.turned_len, Sec.bytes_len]; exact hsz
      rw [ha] at c0
      have HL1 := Lib.hid hl1
      have HL2 := Lib.hid hl2
      have HSZ := Lib.hid hsz
      have HSZ2 := Lib.hid hsz'
      clear hat hsz ha hl1 hl2 hto hsz'
      go_wp2_with fail
      refine (fld_putL _ a 2 _ (by omega) (by omega) (by omega) (by omega) (by rw [HL1.out]; omega)).mono ?_
      rintro e w6 ⟨rfl, hb6⟩
      have hs6 : wr.heap.size + 1 ≤ w6.heap.size := by have := hb6.size; simpa using this
      have hc6 : w6.cell? ⟨wr.heap.size, 1, none⟩ = some (.string l[k].Data) := (Blk.below (Blk.alloc wr #[.int .i64 a, .string l[k].Data] 59) hb6 (by simp)).cell rfl
      have hball : Below wr.heap.size wr w6 := ((Below.refl _ _).alloc (Nat.le_refl _) _).trans (hb6.mono (by simp))
      have HB6 := Lib.hid (below_trans HB.out hball)
      have HBLD6 := Lib.hid (HBLD.out.below hball)
      clear hb6 hball
      go_wp2_with fail
      refine (lr_turned _ _ _ (by omega) (by have := HSZ.out; omega) (by have := HSZ.out; unfold maxLen; omega)).mono ?_
      rintro e w7 ⟨rfl, hb7⟩
      have HB7 := Lib.hid (below_trans HB6.out hb7)
      have HBLD7 := Lib.hid (HBLD6.out.below hb7)
      clear hb7 HBLD6
      go_wp2_with fail
      refine (bld_writeString _ _ _ _ _ HBLD7.out (by rw [Lib.byteCells_length, HL2.out, mkS_size]; have := HSZ2.out; unfold Sec.bytes at this; omega) (by have := HBLD7.out.lt; omega)).mono ?_
      rintro e w8 ⟨rfl, hbld8, hb8⟩
      have HB8 := Lib.hid (HB7.out.trans (hb8.mono HB5.out.size))
      rw [strCells_mk, ← byteCells_app] at hbld8
      have HBLD8 := Lib.hid hbld8
      clear hbld8 hb8
      go_wp2
      go_roundw
      case rel => exact ⟨k + 1, by omega, by go_num, by rw [HTO.out], by rw [HAL.out]; exact HBLD8.out, HB8.out⟩
      case measure => simp [intOf]; omega
    · obtain rfl : k = l.length := by omega
      have HL1 := Lib.hid (Lr.toldTo_len seq l l.length (Nat.le_refl _))
      have HL2 := Lib.hid (Lr.allTo_len HF.out l.length (Nat.le_refl _))
      have HP := Lib.hid (show Lr.put seq l = Lr.pad (Lr.toldTo seq l l.length ++ Crc.tail (Lr.toldTo seq l l.length ++ Lr.allTo l l.length)) ++ Lr.allTo l l.length from by
        unfold Lr.put Lr.toldTo Lr.allTo Lr.told Lr.all
        rw [List.take_length])
      have hz1 : (mkS (Lr.toldTo seq l l.length)).size ≤ 41 := by rw [mkS_size, HL1.out]; omega
      have hz2 : (mkS (Crc.tail (Lr.toldTo seq l l.length ++ Lr.allTo l l.length))).size ≤ 4 := Nat.le_refl 4
      have hz3 : (⟨(Lr.allTo l l.length).toArray⟩ : ByteArray).size ≤ 1024 := by
        show (Lr.allTo l l.length).length ≤ 1024
        rw [HL2.out]; omega
      have hz4 : (mkS (Lr.pad (Lr.toldTo seq l l.length ++ Crc.tail (Lr.toldTo seq l l.length ++ Lr.allTo l l.length)))).size ≤ 128 := by
        rw [mkS_size]
        unfold Lr.pad
        rw [List.length_append, List.length_replicate, List.length_append, HL1.out, show (Crc.tail (Lr.toldTo seq l l.length ++ Lr.allTo l l.length)).length = 4 from rfl]
        omega
      have HZ5 := Lib.hid (show mkS (Lr.toldTo seq l l.length) ++ mkS (Crc.tail (Lr.toldTo seq l l.length ++ Lr.allTo l l.length)) = _ from mkS_append _ _)
      go_wp2_with fail
      refine (Try.Builder_String_any_f _ _ _ _ (Lib.IsBuilderF.of HBLD.out) (by have := HBLD.out.lt; omega)).mono ?_
      rintro e w6 ⟨rfl, hbf, hb6⟩
      have HB6 := Lib.hid (HB.out.trans (hb6.mono HB5.out.size))
      have HBF := Lib.hid hbf
      clear hb6 hbf
      go_wp2_with fail
      refine (lr_tail _ _ _ (by rw [HL1.out]; omega) (by rw [HL2.out]; omega)).mono ?_
      rintro e w7 ⟨rfl, hb7⟩
      have HB7 := Lib.hid (below_trans HB6.out hb7)
      have HBF7 := Lib.hid (IsBldF.below HBF.out hb7)
      clear hb7
      go_wp2_with fail
      rw [HZ5.out]
      refine (rg_pad _ _ (by rw [List.length_append, HL1.out, show (Crc.tail (Lr.toldTo seq l l.length ++ Lr.allTo l l.length)).length = 4 from rfl]; omega)).mono ?_
      rintro e w8 ⟨rfl, hb8⟩
      have HB8 := Lib.hid (below_trans HB7.out hb8)
      have HBF8 := Lib.hid (IsBldF.below HBF7.out hb8)
      clear hb8
      go_wp2_with fail
      refine (Try.Builder_String_any_f _ _ _ _ HBF8.out (by have := HB5.out.size; have := HBF8.out; have : w5.heap.size < w8.heap.size := this.elim (fun h => h.lt) (fun h => h.lt); omega)).mono ?_
      rintro e w9 ⟨rfl, hbf, hb9⟩
      have HB9 := Lib.hid (HB8.out.trans (hb9.mono HB5.out.size))
      clear hb9 hbf
      go_wp2
      go_ret2
      exact ⟨by rw [HP.out, ← mkS_append]; rfl, HB9.out⟩
end Go.Proofs.Ytgdkchjicggdlaa
