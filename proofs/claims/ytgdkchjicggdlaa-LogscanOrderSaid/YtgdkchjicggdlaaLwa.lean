/- The anchor of layer 11 comes to true; which inputs are too great; put of the reference. -/
import Derived.Test.YtgdkchjicggdlaaLrb
namespace Go.Proofs.Ytgdkchjicggdlaa
open Go.RowKit Go.Proofs.YtgdkchjicggdlaaW.PrintWords

def z64 : List UInt8 := List.replicate 64 0
def zrow : Array Value := Array.replicate 64 (.int .u8 0)
theorem made_u8 (n : Nat) : madeCells (Value.int .u8 0).cells n = Array.replicate n (.int .u8 0) := by
  simp only [Value.cells, madeCells]
  apply Array.ext'
  simp [Array.toList_map, Array.toList_range]
  apply List.eq_replicate_iff.2
  refine ⟨by simp, fun b hb => ?_⟩
  obtain ⟨a, _, rfl⟩ := List.mem_map.1 hb
  rw [Nat.mod_one]
  rfl
theorem make64 (w : World) : (Instr.makeSlice 37 (.int .i64 64) (.int .i64 64)).run Try.prog w = .ok (.slice (some ⟨w.heap.size, 0, none⟩) 64 64) (w.alloc (.cells zrow 5)) := by
  obtain ⟨i, hi, hz0, hz1, hz2⟩ := info_parts (show (Try.prog.info? 5).map (fun i => (i.zero, i.size, i.bytes)) = some (some (.int .u8 0), 1, 1) from by kernel_rfl)
  have h := run_make (P := Try.prog) w 37 5 i (.int .u8 0) Try.underlying37 hi hz0 .i64 .i64 64 64 (by omega) (by omega) (by rw [hz2]; omega) (by omega)
  rw [h, hz1, show Int.toNat 64 * 1 = 64 from rfl, made_u8]
  rfl
theorem conv64 (w : World) : (convert 37 9 (.slice (some ⟨w.heap.size, 0, none⟩) 64 64)).run Try.prog (w.alloc (.cells zrow 5)) = .ok (.string (mkS z64)) (w.alloc (.cells zrow 5)) := by
  have h := run_convert_bytes_back (P := Try.prog) (w.alloc (.cells zrow 5)) 37 9 5 ⟨w.heap.size, 0, none⟩ 64 z64 Try.underlying37 Try.underlying5 Try.underlying9 (by
    intro j hj
    have hj' : j < 64 := by simpa [z64] using hj
    rw [show (⟨w.heap.size, 0, none⟩ : Addr).add j = ⟨w.heap.size, j, none⟩ from by unfold Addr.add; split <;> simp_all]
    rw [World.cell?_alloc_at _ _ _ _ rfl]
    have h0 : z64[j]'hj = 0 := List.getElem_replicate _
    rw [h0]
    unfold zrow
    rw [Array.getElem?_replicate, if_pos hj']
    rfl)
  exact h

/-- Sectors in a block known whole. -/
theorem secs_lit {w : World} {b : Nat} {l : List Sec} {t : TypeId} (h : Blk w b (secCells l).toArray t) (hl : l.length ≤ 1000) : Secs w (some ⟨b, 0, none⟩) l := by
  refine ⟨rfl, by omega, fun _ => ⟨_, rfl, fun j p hj => ?_⟩⟩
  obtain ⟨hlt, rfl⟩ := List.getElem?_eq_some_iff.1 hj
  obtain ⟨g0, g1⟩ := secCells_get l j hlt
  refine ⟨[.int .i64 l[j].At, .string l[j].Data], rfl, kSec_mk w _, fun i u hu => ?_⟩
  have hadd : ∀ n, (⟨b, 0, none⟩ : Addr).add n = ⟨b, n, none⟩ := fun n => by unfold Addr.add; split <;> simp_all
  match i, hu with
  | 0, hu => obtain rfl : Value.int .i64 l[j].At = u := by simpa using hu
             show w.cell? ((⟨b, 0, none⟩ : Addr).add (j * 2 + 0)) = _
             rw [hadd]; exact h.cell (by simpa using g0)
  | 1, hu => obtain rfl : Value.string l[j].Data = u := by simpa using hu
             show w.cell? ((⟨b, 0, none⟩ : Addr).add (j * 2 + 1)) = _
             rw [hadd]; exact h.cell (by simpa using g1)
  | i + 2, hu => simp at hu

theorem Blk.new {w : World} {cs : Array Value} {t : TypeId} {n : Nat} (hn : n = w.heap.size) : Blk (w.alloc (.cells cs t)) n cs t := by subst hn; exact Blk.alloc _ _ _

def L1 : List Sec := [⟨5, mkS z64⟩, ⟨2, mkS z64⟩]
def y64 : List UInt8 := 82 :: List.replicate 63 0
def L2 : List Sec := [⟨5, mkS y64⟩]
def W1 : List UInt8 := Lr.put 9 L1
def W2 : List UInt8 := Lr.put 9 L2
theorem L1_ok : Lr.check L1 = 0 := by decide +kernel
theorem L2_ok : Lr.check L2 = 0 := by decide +kernel
theorem W1_put : Lr.Put 9 L1 = (W1, 0) := by
  unfold Lr.Put
  rw [if_neg (by omega), if_neg (by rw [L1_ok]; simp)]
  rfl
theorem W2_put : Lr.Put 9 L2 = (W2, 0) := by
  unfold Lr.Put
  rw [if_neg (by omega), if_neg (by rw [L2_ok]; simp)]
  rfl
theorem W1_len : W1.length = 192 := Lr.put_len (Lr.check_fine L1_ok) 9
theorem W2_len : W2.length = 128 := Lr.put_len (Lr.check_fine L2_ok) 9
theorem W1_get : Lr.get W1 = (9, L1, 0) := Lr.get_put L1_ok (by omega)
theorem W2_get : Lr.get W2 = (9, L2, 0) := Lr.get_put L2_ok (by omega)
theorem z_size : Lr.size z64 9 = (0, 8) := by decide +kernel
theorem W2_64 : W2[64]? = some 83 := by
  have h : (W2.drop 64)[0]? = some 83 := by
    rw [show W2.drop 64 = Lr.allTo L2 L2.length from Lr.put_drop64 (Lr.check_fine L2_ok) 9]
    decide +kernel
  rw [List.getElem?_drop] at h
  exact h

theorem put1 (b : Nat) (w : World) (h : Blk w b #[.int .i64 5, .string (mkS z64), .int .i64 2, .string (mkS z64)] 59) :
    Calls Try.prog 9 #[.int .i64 9, .slice (some ⟨b, 0, none⟩) 2 2] w fun e w' => e = .returned (.tuple #[.string (mkS W1), .int .i64 0]) ∧ Below w.heap.size w w' := by
  have hs : Secs w (some ⟨b, 0, none⟩) L1 := secs_lit h (by decide)
  have := lr_put 9 _ 2 L1 w hs (by decide)
  rw [W1_put] at this
  exact this
theorem put2 (b : Nat) (w : World) (h : Blk w b #[.int .i64 5, .string (mkS y64)] 59) :
    Calls Try.prog 9 #[.int .i64 9, .slice (some ⟨b, 0, none⟩) 1 1] w fun e w' => e = .returned (.tuple #[.string (mkS W2), .int .i64 0]) ∧ Below w.heap.size w w' := by
  have hs : Secs w (some ⟨b, 0, none⟩) L2 := secs_lit h (by decide)
  have := lr_put 9 _ 1 L2 w hs (by decide)
  rw [W2_put] at this
  exact this
theorem sizez (w : World) : Calls Try.prog 15 #[.string (mkS z64), .int .i64 9] w fun e w' => e = .returned (.tuple #[.int .i64 0, .int .i64 8]) ∧ Below w.heap.size w w' := by
  have := lr_size z64 9 w (by unfold maxLen; decide)
  rw [z_size] at this
  exact this
def Get1 (w : World) (e : Ending) (w' : World) : Prop := ∃ A c, e = .returned (.tuple #[.int .i64 9, .slice A 2 c, .int .i64 0]) ∧ Hid (Secs w' A L1) ∧ Hid (Below w.heap.size w w')
theorem get1 (w : World) : Calls Try.prog 13 #[.string (mkS W1)] w fun e w' => Get1 w e w' := by
  refine (lr_get W1 w (by rw [W1_len]; unfold maxLen; decide)).mono ?_
  rintro e w' ⟨v, rfl, hv, hb⟩
  rw [W1_get] at hv ⊢
  obtain ⟨A, c, rfl, hc, hsecs⟩ := OwnSecs.form hv
  exact ⟨A, c, rfl, hsecs, hb⟩
def Get2 (w : World) (e : Ending) (w' : World) : Prop := ∃ A c, e = .returned (.tuple #[.int .i64 9, .slice A 1 c, .int .i64 0]) ∧ Hid (Secs w' A L2) ∧ Hid (Below w.heap.size w w')
theorem get2 (w : World) : Calls Try.prog 13 #[.string (mkS W2)] w fun e w' => Get2 w e w' := by
  refine (lr_get W2 w (by rw [W2_len]; unfold maxLen; decide)).mono ?_
  rintro e w' ⟨v, rfl, hv, hb⟩
  rw [W2_get] at hv ⊢
  obtain ⟨A, c, rfl, hc, hsecs⟩ := OwnSecs.form hv
  exact ⟨A, c, rfl, hsecs, hb⟩
theorem y_of : (⟨#[82]⟩ : ByteArray) ++ (mkS z64).extract 1 64 = mkS y64 := by
  have h := mkS_drop z64 1
  rw [show (mkS z64).size = 64 from rfl] at h
  rw [h, show (⟨#[82]⟩ : ByteArray) = mkS [82] from rfl, mkS_append]
  rfl
theorem z_sz : (mkS z64).size = 64 := rfl
theorem W1_sz : (mkS W1).size = 192 := W1_len
theorem W2_sz : (mkS W2).size = 128 := W2_len
theorem W2_ix (w : World) : (Instr.index 9 (.string (mkS W2)) (.int .i64 64)).run Try.prog w = .ok (.int .u8 83) w := by
  have hsz : (mkS W2).size = 128 := W2_len
  rw [run_index_string w _ _ _ _ Try.underlying9, dif_pos (by rw [hsz]; omega)]
  have h := W2_64
  have h2 : (mkS W2)[(64 : Int).toNat]'(by rw [hsz]; decide) = 83 := by
    have h3 : W2[64]? = some (W2[64]'(by rw [W2_len]; omega)) := List.getElem?_eq_getElem _
    exact Option.some.inj (h3.symm.trans h)
  rw [h2]
  rfl
attribute [local irreducible] z64 y64 W1 W2 zrow

set_option maxRecDepth 100000 in
set_option maxHeartbeats 1000000 in
theorem law11_works (w : World) : Calls Try.prog 7 #[] w fun e w' => e = .returned (.bool true) ∧ Below w.heap.size w w' := by
  have hmk := make64
  have hcv := conv64
  have hz1 := z_sz
  have hz2 := W1_sz
  have hz3 := W2_sz
  have HY := Lib.hid y_of
  go_enter Try.func7, Try.ntmps7
  go_wp2_with fail
  refine (put1 _ _ (Blk.new (by simp))).mono ?_
  rintro e w1 ⟨rfl, hb1⟩
  have HB1 := Lib.hid (show Below w.heap.size w w1 from (((Below.refl _ _).alloc (Nat.le_refl _) _).alloc (by simp) _).trans (hb1.mono (by simp; omega)))
  clear hb1
  go_wp2_with fail
  refine (sizez _).mono ?_
  rintro e w2 ⟨rfl, hb2⟩
  have HB2 := Lib.hid (below_trans HB1.out hb2)
  clear hb2
  go_wp2_with fail
  refine (get1 _).mono ?_
  rintro e w3 ⟨A, c, rfl, hs3, hb3⟩
  have HB3 := Lib.hid (below_trans HB2.out hb3.out)
  clear hb3
  go_wp2_with fail
  rw [HY.out]
  refine (put2 _ _ (Blk.new (by simp))).mono ?_
  rintro e w4 ⟨rfl, hb4⟩
  have HB4 := Lib.hid (below_trans HB3.out (((Below.refl w3.heap.size w3).alloc (Nat.le_refl _) _).trans (hb4.mono (by simp))))
  have HS4 := Lib.hid (Kd.C_below hs3.out (((Below.refl w3.heap.size w3).alloc (Nat.le_refl _) _).trans (hb4.mono (by simp))))
  clear hb4 hs3
  go_wp2_with fail
  refine (get2 _).mono ?_
  rintro e w5 ⟨A2, c2, rfl, hs5, hb5⟩
  have HB5 := Lib.hid (below_trans HB4.out hb5.out)
  have HS5 := Lib.hid (Kd.C_below HS4.out hb5.out)
  clear hb5 HS4
  obtain ⟨ad, rfl, a0, _⟩ := Secs.at_ HS5.out 1 (by decide)
  obtain ⟨ad2, rfl, _, b1⟩ := Secs.at_ hs5.out 0 (by decide)
  have a0' : w5.cell? ⟨ad.block, ad.off + 2, none⟩ = some (.int .i64 2) := a0
  have b1' : w5.cell? ⟨ad2.block, ad2.off + 1, none⟩ = some (.string (mkS y64)) := b1
  have hix := W2_ix
  clear a0 b1 hmk hcv
  go_wp2
  go_ret
  exact ⟨rfl, HB5.out⟩

def SomeBool (w : World) (e : Ending) (w' : World) : Prop := ∃ b : Bool, e = .returned (.bool b) ∧ w = w'

set_option maxRecDepth 100000 in
set_option maxHeartbeats 400000 in
theorem law11_great (A : Option Addr) (cap : Nat) (l : List Sec) (w : World) (h : Secs w A l) :
    Calls Try.prog 8 #[.slice A l.length cap] w fun e w' => SomeBool w e w' := by
  have hmax := Kd.C_max h
  have H := Lib.hid h
  clear h
  go_enter Try.func8, Try.ntmps8
  go_wp2
  go_loop [3] (fun i => ∃ k : Nat, k ≤ l.length ∧ i = .int .i64 k) (fun i => l.length - (intOf i).toNat)
  case atStart => exact ⟨0, by omega, rfl⟩
  case round =>
    obtain ⟨k, hk, rfl⟩ := hrel
    by_cases hlt : k < l.length
    · obtain ⟨ad, rfl, c0, c1⟩ := Secs.at_ H.out k hlt
      by_cases h40 : 40 ≤ k
      · go_wp2
        go_ret
        exact ⟨true, rfl, rfl⟩
      · by_cases h500 : 500 < l[k].Data.size
        · go_wp2
          go_ret
          exact ⟨true, rfl, rfl⟩
        · go_wp2
          go_round
          case rel => exact ⟨k + 1, by omega, by go_num⟩
          case measure => simp [intOf]; omega
    · go_wp2
      go_ret
      exact ⟨false, rfl, rfl⟩

set_option maxRecDepth 100000 in
set_option maxHeartbeats 400000 in
theorem r11_put (seq : Int) (A : Option Addr) (cap : Nat) (l : List Sec) (w : World) (h : Secs w A l) :
    Calls Try.prog 10 #[.int .i64 seq, .slice A l.length cap] w fun e w' => e = .returned (.tuple #[.string (mkS (Lr.Put seq l).1), .int .i64 (Lr.Put seq l).2]) ∧ Below w.heap.size w w' := by
  by_cases h1 : seq < 0
  · have HP := Lib.hid (show Lr.Put seq l = ([], 3) from if_pos (Or.inl h1))
    rw [HP.out]
    go_enter Try.func10, Try.ntmps10
    go_wp2
    go_ret2
    exact ⟨rfl, Below.refl _ _⟩
  by_cases h2 : 281474976710656 ≤ seq
  · have HP := Lib.hid (show Lr.Put seq l = ([], 3) from if_pos (Or.inr h2))
    rw [HP.out]
    have hge : decide ((281474976710656 : Int) ≤ seq) = true := by rw [decide_eq_true_iff]; omega
    clear h2
    go_enter Try.func10, Try.ntmps10
    go_wp2
    go_ret2
    exact ⟨rfl, Below.refl _ _⟩
  by_cases h3 : Lr.check l = 0
  · have HP := Lib.hid (show Lr.Put seq l = (Lr.put seq.toNat l, 0) from by unfold Lr.Put; rw [if_neg (by omega), if_neg (by omega)])
    rw [HP.out]
    obtain ⟨n, rfl⟩ := Int.eq_ofNat_of_zero_le (show 0 ≤ seq by omega)
    exact r11_put_ok n A cap l w h (by omega) h3
  · have HP := Lib.hid (show Lr.Put seq l = ([], Lr.check l) from by unfold Lr.Put; rw [if_neg (by omega), if_pos h3])
    rw [HP.out]
    have hge : decide ((281474976710656 : Int) ≤ seq) = false := by rw [decide_eq_false_iff_not]; omega
    have h3b : (Lr.check l != 0) = true := by rw [bne_iff_ne]; exact h3
    have H := Lib.hid h
    clear h h2 h3
    go_enter Try.func10, Try.ntmps10
    go_wp2_with ((go_at_call 12; refine (r11_check A cap l _ H.out).mono ?_; rintro e w1 ⟨rfl, hb1⟩))
    go_ret2
    exact ⟨rfl, hb1⟩

set_option maxRecDepth 100000 in
set_option maxHeartbeats 400000 in
theorem law11_puts (seq : Int) (A : Option Addr) (cap : Nat) (l : List Sec) (w : World) (h : Secs w A l) (hcap : l.length ≤ cap) :
    Calls Try.prog 3 #[.int .i64 seq, .slice A l.length cap] w fun e w' => e = .returned (.bool true) ∧ Below w.heap.size w w' := by
  have H := Lib.hid h
  clear h
  go_enter Try.func3, Try.ntmps3
  go_wp2_with fail
  refine (law11_works _).mono ?_
  rintro e w1 ⟨rfl, hb1⟩
  have HB1 := Lib.hid hb1
  clear hb1
  go_wp2_with fail
  refine (law11_great A cap l _ (Kd.C_below H.out HB1.out)).mono ?_
  rintro e w' ⟨b, rfl, rfl⟩
  cases b with
  | true =>
    go_wp2
    go_ret
    exact ⟨rfl, HB1.out⟩
  | false =>
    go_wp2_with fail
    refine (lr_put seq A cap l _ (Kd.C_below H.out HB1.out) hcap).mono ?_
    rintro e w2 ⟨rfl, hb2⟩
    have HB2 := Lib.hid (below_trans HB1.out hb2)
    clear hb2
    go_wp2_with fail
    refine (r11_put seq A cap l _ (Kd.C_below H.out HB2.out)).mono ?_
    rintro e w3 ⟨rfl, hb3⟩
    have HB3 := Lib.hid (below_trans HB2.out hb3)
    clear hb3
    generalize Lr.Put seq l = P
    go_wp2_with fail
    refine (lr_check A cap l _ (Kd.C_below H.out HB3.out) hcap).mono ?_
    rintro e w4 ⟨rfl, hb4⟩
    have HB4 := Lib.hid (below_trans HB3.out hb4)
    clear hb4
    go_wp2_with fail
    refine (r11_check A cap l _ (Kd.C_below H.out HB4.out)).mono ?_
    rintro e w5 ⟨rfl, hb5⟩
    have HB5 := Lib.hid (below_trans HB4.out hb5)
    clear hb5
    go_wp2
    go_ret
    exact ⟨rfl, HB5.out⟩
end Go.Proofs.Ytgdkchjicggdlaa
