/- What logrec.Size and logrec.Get come to. -/
import Derived.Test.YtgdkchjicggdlaaRfc
namespace Go.Proofs.Ytgdkchjicggdlaa
open Go.RowKit Go.Proofs.YtgdkchjicggdlaaW.PrintWords

theorem mkS_take (r : List UInt8) (n : Nat) : (mkS r).extract 0 n = mkS (r.take n) := by
  apply ByteArray.ext
  apply Array.ext'
  rw [ByteArray.data_extract, Array.toList_extract]
  simp [mkS, List.extract]
theorem mkS_drop (r : List UInt8) (n : Nat) : (mkS r).extract n (mkS r).size = mkS (r.drop n) := by
  apply ByteArray.ext
  apply Array.ext'
  rw [ByteArray.data_extract, Array.toList_extract]
  simp [mkS, List.extract]
  rw [show (ByteArray.size ⟨r.toArray⟩) = r.length from rfl, List.take_of_length_le (by simp)]
theorem mkS_mid (r : List UInt8) (i j : Nat) : (mkS r).extract i j = mkS ((r.drop i).take (j - i)) := by
  apply ByteArray.ext
  apply Array.ext'
  rw [ByteArray.data_extract, Array.toList_extract]
  simp [mkS, List.extract]

theorem rd_bytes (b n : Nat) (r : List UInt8) (w : World) (h : Rdr w b (mkS r) 0) (hn : n ≤ r.length) (hm : r.length ≤ maxLen) :
    Calls Try.prog 38 #[.pointer (some ⟨b, 0, none⟩), .int .i64 n] w fun e w' =>
      e = .returned (.string (mkS (r.take n))) ∧ Rdr w' b (mkS (r.drop n)) 0 ∧ w.grownBy w' (some b) := by
  refine (fld_bytes b n (mkS r) w h hn hm).mono ?_
  rintro e w' ⟨rfl, rfl⟩
  rw [mkS_take, mkS_drop]
  exact ⟨rfl, Blk.set h 0 _, grown_set 0 _⟩
theorem rd_num (b size : Nat) (r : List UInt8) (w : World) (h : Rdr w b (mkS r) 0) (h1 : 1 ≤ size) (h7 : size ≤ 7) (hn : size ≤ r.length) (hm : r.length ≤ maxLen) :
    Calls Try.prog 39 #[.pointer (some ⟨b, 0, none⟩), .int .i64 size] w fun e w' =>
      e = .returned (.int .i64 (Fld.num (r.take size))) ∧ Rdr w' b (mkS (r.drop size)) 0 ∧ w.grownBy w' (some b) := by
  refine (fld_num b size (mkS r) w h h1 h7 hn hm).mono ?_
  rintro e w' ⟨rfl, h1, h2⟩
  rw [mkS_drop] at h1
  exact ⟨rfl, h1, h2⟩

namespace Lr
/-- Of how many sectors a record is, that begins with a sector. -/
def size (s : List UInt8) (seq : Int) : Int × Int :=
  if s.length ≠ 64 then (0, 12)
  else if s.take 1 ≠ [82] ∨ (Fld.num ((s.drop 1).take 6) : Int) ≠ seq ∨ Fld.num ((s.drop 7).take 1) < 1 ∨ 16 < Fld.num ((s.drop 7).take 1) then (0, 8)
  else (Fld.num ((s.drop 7).take 1) + 1, 0)
end Lr

theorem mkS_toList (l : List UInt8) : (mkS l).toList = l := by rw [ByteArray.toList_eq]; rfl

set_option maxRecDepth 100000 in
set_option maxHeartbeats 1000000 in
theorem lr_size (s : List UInt8) (seq : Int) (w : World) (hs : s.length ≤ maxLen) :
    Calls Try.prog 15 #[.string (mkS s), .int .i64 seq] w fun e w' => e = .returned (.tuple #[.int .i64 (Lr.size s seq).1, .int .i64 (Lr.size s seq).2]) ∧ Below w.heap.size w w' := by
  have HM := Lib.hid hs
  unfold maxLen at hs
  have hz : (mkS s).size = s.length := rfl
  by_cases h1 : s.length ≠ 64
  · have HP := Lib.hid (show Lr.size s seq = (0, 12) from if_pos h1)
    have h1b : ((s.length : Int) != 64) = true := by simp; omega
    rw [HP.out]
    clear h1
    go_enter Try.func15, Try.ntmps15
    go_wp2
    go_ret2
    exact ⟨rfl, Below.refl _ _⟩
  have h1b : ((s.length : Int) != 64) = false := by simp; omega
  have HL := Lib.hid (show s.length = 64 by omega)
  go_enter Try.func15, Try.ntmps15
  go_wp2_with ((go_at_call 37; refine (fld_new _ _).mono ?_; rintro e w' ⟨rfl, rfl⟩))
  refine (rd_bytes w.heap.size 1 s _ (Blk.alloc _ _ _) (by rw [HL.out]; omega) HM.out).mono ?_
  rintro e w1 ⟨rfl, hr1, hg1⟩
  have HR1 := Lib.hid hr1
  have HB1 := Lib.hid (below_grown ((Below.refl _ _).alloc (Nat.le_refl _) _) hg1 (Nat.le_refl _))
  clear hr1 hg1
  go_wp2_with fail
  refine (rd_num w.heap.size 6 _ _ HR1.out (by omega) (by omega) (by rw [List.length_drop, HL.out]; omega) (by have := HM.out; rw [List.length_drop]; omega)).mono ?_
  rintro e w2 ⟨rfl, hr2, hg2⟩
  rw [List.drop_drop] at hr2
  have HR2 := Lib.hid hr2
  have HB2 := Lib.hid (below_grown HB1.out hg2 (Nat.le_refl _))
  clear hr2 hg2
  go_wp2_with fail
  refine (rd_num w.heap.size 1 _ _ HR2.out (by omega) (by omega) (by rw [List.length_drop, HL.out]; omega) (by have := HM.out; rw [List.length_drop]; omega)).mono ?_
  rintro e w3 ⟨rfl, hr3, hg3⟩
  have HB3 := Lib.hid (below_grown HB2.out hg3 (Nat.le_refl _))
  clear hr3 hg3
  have hP : Lr.size s seq = if ¬ (mkS (s.take 1)).toList = [82] ∨ ((Fld.num (s.tail.take 6) : Nat) : Int) ≠ seq ∨ Fld.num ((s.drop (1 + 6)).take 1) < 1 ∨ 16 < Fld.num ((s.drop (1 + 6)).take 1) then (0, 8) else ((Fld.num ((s.drop (1 + 6)).take 1) : Int) + 1, 0) := by
    unfold Lr.size
    rw [if_neg h1, mkS_toList, ← List.drop_one]
  generalize Fld.num ((s.drop (1 + 6)).take 1) = B at *
  have HP := Lib.hid hP
  clear hP h1
  go_wp2
  all_goals go_ret2
  all_goals refine ⟨?_, HB3.out⟩
  all_goals rw [HP.out]
  all_goals first
    | (rw [if_pos (by first | exact Or.inl (by assumption) | exact Or.inr (by omega))]; rfl)
    | (rw [if_neg (by rintro (h | h); exact h (by assumption); omega)]; rfl)
end Go.Proofs.Ytgdkchjicggdlaa
