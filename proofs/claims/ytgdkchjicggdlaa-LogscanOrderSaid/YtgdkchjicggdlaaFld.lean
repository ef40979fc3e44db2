/- What the package field comes to: numbers of a fixed width, laid and read. -/
import Derived.Test.YtgdkchjicggdlaaSec
import Derived.Test.YtgdkchjicggdlaaCyc
import Derived.Lib.Hide
namespace Go.Proofs.Ytgdkchjicggdlaa
open Go.RowKit Go.Proofs.YtgdkchjicggdlaaW.PrintWords

namespace Fld
/-- A number's bytes, the greatest first. -/
def be (n size : Nat) : List UInt8 := (List.range size).map fun j => UInt8.ofNat (n / 256 ^ (size - 1 - j))
theorem be_len (n size : Nat) : (be n size).length = size := by simp [be]
/-- The number that bytes say. -/
def num (l : List UInt8) : Nat := l.foldl (fun n c => n * 256 + c.toNat) 0
def row (n size k : Nat) : Array Value := ((List.range size).map fun j => Value.int .u8 (if j < k then ((n / 256 ^ (size - 1 - j) % 256 : Nat) : Int) else 0)).toArray
theorem row_get {n size k j : Nat} (h : j < size) : (row n size k)[j]? = some (.int .u8 (if j < k then ((n / 256 ^ (size - 1 - j) % 256 : Nat) : Int) else 0)) := by
  simp [row, h]
theorem row_set {n size k : Nat} : (row n size k).setIfInBounds k (.int .u8 ((n / 256 ^ (size - 1 - k) % 256 : Nat) : Int)) = row n size (k + 1) := by
  apply Array.ext_getElem?
  intro j
  rw [Array.getElem?_setIfInBounds]
  by_cases hj : j < size
  · rw [row_get hj, row_get hj]
    by_cases e : k = j
    · subst e
      rw [if_pos rfl, if_pos (by simp [row, hj]), if_pos (by omega)]
    · rw [if_neg e]
      by_cases hk : j < k
      · rw [if_pos hk, if_pos (by omega)]
      · rw [if_neg hk, if_neg (by omega)]
  · have h1 : (row n size k)[j]? = none := by simp [row]; omega
    have h2 : (row n size (k + 1))[j]? = none := by simp [row]; omega
    rw [h1, h2]
    split
    · rw [if_neg (by simp [row]; omega)]
    · rfl
theorem shift (n m : Nat) : ((n : Int) / 2 ^ (8 * m) % 256) = ((n / 256 ^ m % 256 : Nat) : Int) := by
  rw [show (256 : Nat) ^ m = 2 ^ (8 * m) from by rw [Nat.pow_mul]]
  simp [Int.natCast_emod, Int.natCast_ediv, Int.natCast_pow]
theorem num_lt (l : List UInt8) : num l < 256 ^ l.length := by
  have H : ∀ (l : List UInt8) (n m : Nat), n < 256 ^ m → l.foldl (fun n c => n * 256 + c.toNat) n < 256 ^ (m + l.length) := by
    intro l
    induction l with
    | nil => intro n m h; simpa using h
    | cons c l ih =>
      intro n m h
      have hc := c.toNat_lt
      have := ih (n * 256 + c.toNat) (m + 1) (by rw [Nat.pow_succ]; omega)
      simp only [List.foldl_cons, List.length_cons]
      rwa [show m + (l.length + 1) = m + 1 + l.length from by omega]
  have := H l 0 0 (by omega)
  rwa [Nat.zero_add] at this
theorem num_snoc (l : List UInt8) (c : UInt8) : num (l ++ [c]) = num l * 256 + c.toNat := by simp [num]
theorem bytesRow_get (s : ByteArray) (size k : Nat) (hk : k < size) (hs : k < s.size) (cap : Nat) : (bytesRow (s.extract 0 size) cap)[k]? = some (.int .u8 s[k].toNat) := by
  unfold bytesRow
  have h1 : k < ((s.extract 0 size).data.map (fun b => Value.int .u8 b.toNat)).size := by
    simp [ByteArray.data_extract]
    exact Nat.lt_min.2 ⟨hk, hs⟩
  rw [Array.getElem?_append_left h1, Array.getElem?_map]
  have h2 : (s.extract 0 size).data[k]? = some s[k] := by
    rw [ByteArray.data_extract, Array.getElem?_extract, if_pos (by have : s.data.size = s.size := rfl; omega), Nat.zero_add]
    exact Array.getElem?_eq_getElem hs
  rw [h2]
  rfl
theorem cell_alloc (w : World) (cs : Array Value) (t : TypeId) (fz : Nat × Nat) (n i : Nat) (hn : n = w.heap.size) : (w.alloc (.cells cs t fz)).cell? ⟨n, i, none⟩ = cs[i]? := by
  subst hn
  have : (w.alloc (.cells cs t fz)).heap[w.heap.size]? = some (.cells cs t fz) := by
    show (w.heap.push _)[w.heap.size]? = _
    simp
  show (match (w.alloc (.cells cs t fz)).heap[w.heap.size]? with
    | some (.cells c _ _) => if (none : Option Nat).isSome then none else c[i]?
    | _ => none) = _
  rw [this]
  rfl
end Fld

theorem fld_width (size : Nat) (w : World) (h1 : 1 ≤ size) (h7 : size ≤ 7) :
    Calls Try.prog 63 #[.int .i64 size] w fun e w' => e = .returned (.bool true) ∧ w = w' := by
  go_enter Try.func63, Try.ntmps63
  go_wp2
  go_ret
  exact ⟨ret_bool (by simp; omega), rfl⟩

set_option maxHeartbeats 400000 in
theorem fld_fits (n size : Nat) (w : World) (h1 : 1 ≤ size) (h7 : size ≤ 7) (hn : n < 256 ^ size) (_hb : n ≤ 9223372036854775807) :
    Calls Try.prog 56 #[.int .i64 n, .int .i64 size] w fun e w' => e = .returned (.bool true) ∧ w = w' := by
  have hz : (n : Int) / 2 ^ (8 * size) = 0 := by
    rw [show (256 : Nat) = 2 ^ 8 from rfl, ← Nat.pow_mul] at hn
    have : n / 2 ^ (8 * size) = 0 := Nat.div_eq_of_lt hn
    rw [show ((n : Int) / 2 ^ (8 * size)) = ((n / 2 ^ (8 * size) : Nat) : Int) from by rw [Int.natCast_ediv, Int.natCast_pow]; rfl, this]
    rfl
  have HZ := Lib.hid hz
  clear hz hn
  go_enter Try.func56, Try.ntmps56
  go_wp2
  go_ret
  exact ⟨ret_bool (by rw [HZ.out]; rfl), rfl⟩

theorem fld_make (n size : Nat) (h7 : size ≤ 7) (w : World) :
    (Instr.makeSlice 37 (.int .i64 size) (.int .i64 size)).run Try.prog w = .ok (.slice (some ⟨w.heap.size, 0, none⟩) size size) (w.alloc (.cells (Fld.row n size 0) 5)) := by
  obtain ⟨i, hi, hz0, hz1, hz2⟩ := info_parts (show (Try.prog.info? 5).map (fun i => (i.zero, i.size, i.bytes)) = some (some (.int .u8 0), 1, 1) from by kernel_rfl)
  have h := run_make (P := Try.prog) w 37 5 i (.int .u8 0) Try.underlying37 hi hz0 .i64 .i64 size size (by omega) (by omega) (by rw [hz2]; omega) (by omega)
  rw [h, hz1]
  have e : madeCells (Value.int .u8 0).cells (((size : Int)).toNat * 1) = Fld.row n size 0 := by
    simp only [Value.cells, madeCells, Fld.row, Int.toNat_natCast, Nat.mul_one]
    apply Array.ext'
    simp [Array.toList_map, Array.toList_range]
    intro a _
    rw [Nat.mod_one]
    rfl
  rw [e]
  rfl

set_option maxRecDepth 100000 in
set_option maxHeartbeats 400000 in
theorem fld_put (s : ByteArray) (n size : Nat) (w : World) (h1 : 1 ≤ size) (h7 : size ≤ 7) (hn : n < 256 ^ size) (hb : n ≤ 9223372036854775807) (hs : s.size ≤ 4611686018427387904) :
    Calls Try.prog 24 #[.string s, .int .i64 n, .int .i64 size] w fun e w' => e = .returned (.string (s ++ ⟨(Fld.be n size).toArray⟩)) ∧ Below w.heap.size w w' := by
  have HN := Lib.hid hn
  have HMK := Lib.hid (fld_make n size h7)
  clear hn
  go_enter Try.func24, Try.ntmps24
  have hmk := HMK.out
  go_wp2_with ((go_at_call 56; refine (fld_fits n size _ h1 h7 HN.out hb).mono ?_; rintro e w' ⟨rfl, rfl⟩))
  clear hmk
  go_loopw [8, 18] (fun _ i wr => ∃ k : Nat, k ≤ size ∧ i = .int .i64 k ∧ wr = w.alloc (.cells (Fld.row n size k) 5)) (fun _ i _ => size - (intOf i).toNat)
  case atStart => exact ⟨0, by omega, rfl, rfl⟩
  case round =>
    obtain ⟨k, hk, rfl, rfl⟩ := hrel
    by_cases hlt : k < size
    · have hget := Fld.row_get (n := n) (k := k) hlt
      rw [if_neg (by omega)] at hget
      have HSET := Lib.hid (Fld.row_set (n := n) (size := size) (k := k))
      have HV := Lib.hid (Fld.shift n (size - 1 - k))
      go_wp2
      go_roundw
      case rel => exact ⟨k + 1, by omega, by go_num, by rw [HV.out, HSET.out]⟩
      case measure => simp [intOf]; omega
    · obtain rfl : k = size := by omega
      have hback := run_convert_bytes_back (P := Try.prog) (w.alloc (.cells (Fld.row n k k) 5)) 37 9 5 ⟨w.heap.size, 0, none⟩ k (Fld.be n k) Try.underlying37 Try.underlying5 Try.underlying9 (by
        intro j hj
        have hj' : j < k := by simpa [Fld.be_len] using hj
        have := Fld.row_get (n := n) (size := k) (k := k) hj'
        rw [if_pos hj'] at this
        rw [show (⟨w.heap.size, 0, none⟩ : Addr).add j = ⟨w.heap.size, j, none⟩ from by unfold Addr.add; split <;> simp_all]
        rw [World.cell?_alloc_at _ _ _ _ rfl, this]
        simp [Fld.be])
      rw [Fld.be_len] at hback
      have hsz : (⟨(Fld.be n k).toArray⟩ : ByteArray).size ≤ 7 := by rw [show (⟨(Fld.be n k).toArray⟩ : ByteArray).size = (Fld.be n k).length from rfl, Fld.be_len]; omega
      go_wp2
      go_ret
      exact ⟨rfl, (Below.refl _ _).alloc (Nat.le_refl _) _⟩

/-! ### a block that is known whole -/
def Blk (w : World) (b : Nat) (cs : Array Value) (t : TypeId) : Prop := w.heap[b]? = some (.cells cs t (0, 0))
theorem Blk.lt {w : World} {b : Nat} {cs : Array Value} {t : TypeId} (h : Blk w b cs t) : b < w.heap.size := by
  unfold Blk at h
  exact (Array.getElem?_eq_some_iff.1 h).1
theorem Blk.cell {w : World} {b : Nat} {cs : Array Value} {t : TypeId} (h : Blk w b cs t) {i : Nat} {v : Value} (hi : cs[i]? = some v) : w.cell? ⟨b, i, none⟩ = some v := by
  unfold Blk at h
  simp [World.cell?, h, hi]
theorem Blk.free {w : World} {b : Nat} {cs : Array Value} {t : TypeId} (h : Blk w b cs t) (i : Nat) : w.frozen? ⟨b, i, none⟩ = false := by
  unfold Blk at h
  simp [World.frozen?, h]
theorem Blk.set {w : World} {b : Nat} {cs : Array Value} {t : TypeId} (h : Blk w b cs t) (i : Nat) (v : Value) : Blk (w.setCell ⟨b, i, none⟩ v) b (cs.setIfInBounds i v) t := by
  unfold Blk at *
  show (w.heap.modify b _)[b]? = _
  rw [Array.getElem?_modify, if_pos rfl, h]
  rfl
theorem Blk.grown {w w' : World} {b : Nat} {cs : Array Value} {t : TypeId} (h : Blk w b cs t) {r : Option Nat} (hg : w.grownBy w' r) (hr : some b ≠ r) : Blk w' b cs t := by
  unfold Blk at *
  rw [hg.block b (Blk.lt h) hr, h]
theorem Blk.below {w w' : World} {b : Nat} {cs : Array Value} {t : TypeId} (h : Blk w b cs t) {B : Nat} (hg : Below B w w') (hB : b < B) : Blk w' b cs t := by
  unfold Blk at *
  rw [hg.block b hB, h]
theorem Blk.alloc (w : World) (cs : Array Value) (t : TypeId) : Blk (w.alloc (.cells cs t)) w.heap.size cs t := by
  unfold Blk
  show (w.heap.push _)[w.heap.size]? = _
  simp
theorem grown_set {w : World} {b : Nat} (i : Nat) (v : Value) : w.grownBy (w.setCell ⟨b, i, none⟩ v) (some b) :=
  ⟨rfl, rfl, rfl, by simp [World.setCell], fun j _ hne => Below.heap_setCell w ⟨b, i, none⟩ v j (fun e => hne (by rw [e]))⟩
theorem grown_trans {a b c : World} {r : Option Nat} (h : a.grownBy b r) (k : b.grownBy c r) : a.grownBy c r :=
  ⟨k.os.trans h.os, k.tape.trans h.tape, k.output.trans h.output, Nat.le_trans h.size k.size, fun i hi hne => (k.block i (Nat.lt_of_lt_of_le hi h.size) hne).trans (h.block i hi hne)⟩
theorem grown_below {a b : World} (h : Below a.heap.size a b) (r : Option Nat) : a.grownBy b r := ⟨h.os, h.tape, h.output, h.size, fun i hi _ => h.block i hi⟩
/-- Growth that touches one block of the call's own leaves what was there ahead of the call. -/
theorem below_grown {a b c : World} (h : Below a.heap.size a b) {g : Nat} (k : b.grownBy c (some g)) (hg : a.heap.size ≤ g) : Below a.heap.size a c :=
  ⟨k.os.trans h.os, k.tape.trans h.tape, k.output.trans h.output, Nat.le_trans h.size k.size, fun i hi => (k.block i (Nat.lt_of_lt_of_le hi h.size) (fun e => by injection e with e; omega)).trans (h.block i hi)⟩

/-! ### the reader -/
abbrev Rdr (w : World) (b : Nat) (rest : ByteArray) (e : Int) : Prop := Blk w b #[.string rest, .int .i64 e] 100

set_option maxHeartbeats 400000 in
theorem fld_new (s : ByteArray) (w : World) :
    Calls Try.prog 37 #[.string s] w fun e w' => e = .returned (.pointer (some ⟨w.heap.size, 0, none⟩)) ∧ w.alloc (.cells #[.string s, .int .i64 0] 100) = w' := by
  go_enter Try.func37, Try.ntmps37
  go_wp2
  go_ret
  exact ⟨rfl, rfl⟩

set_option maxHeartbeats 400000 in
theorem fld_bytes (b n : Nat) (rest : ByteArray) (w : World) (h : Rdr w b rest 0) (hn : n ≤ rest.size) (_hm : rest.size ≤ maxLen) :
    Calls Try.prog 38 #[.pointer (some ⟨b, 0, none⟩), .int .i64 n] w fun e w' =>
      e = .returned (.string (rest.extract 0 n)) ∧ w.setCell ⟨b, 0, none⟩ (.string (rest.extract n rest.size)) = w' := by
  have c0 := h.cell (i := 0) rfl
  have c1 := h.cell (i := 1) rfl
  have f0 := h.free 0
  have H := Lib.hid h
  clear h
  go_enter Try.func38, Try.ntmps38
  go_wp2
  go_ret
  exact ⟨rfl, rfl⟩

theorem or_bytes (n c : Nat) (hn : n < 281474976710656) (hc : c < 256) : Go.bits .or .i64 (wrap64 ((n : Int) * 256)) (c : Int) = ((n * 256 + c : Nat) : Int) := by
  have hw : wrap64 ((n : Int) * 256) = ((n * 256 : Nat) : Int) := by unfold wrap64; omega
  have ho : n * 256 ||| c = n * 256 + c := by
    rw [show n * 256 = 2 ^ 8 * n from by omega]
    exact (Nat.two_pow_add_eq_or_of_lt hc n).symm
  have e1 : (BitVec.ofInt 64 ((n * 256 : Nat) : Int)).toNat = n * 256 := by
    rw [BitVec.ofInt_natCast, BitVec.toNat_ofNat]; exact Nat.mod_eq_of_lt (by omega)
  have e2 : (BitVec.ofInt 64 (c : Int)).toNat = c := by
    rw [BitVec.ofInt_natCast, BitVec.toNat_ofNat]; exact Nat.mod_eq_of_lt (by omega)
  rw [hw]
  show IntKind.i64.wrap ((BitVec.ofInt 64 ((n * 256 : Nat) : Int) ||| BitVec.ofInt 64 (c : Int)).toNat : Int) = _
  rw [BitVec.toNat_or, e1, e2, ho, IntKind.wrap_i64]
  omega

set_option maxHeartbeats 400000 in
theorem fld_num (b size : Nat) (rest : ByteArray) (w : World) (h : Rdr w b rest 0) (h1 : 1 ≤ size) (h7 : size ≤ 7) (hn : size ≤ rest.size) (hm : rest.size ≤ maxLen) :
    Calls Try.prog 39 #[.pointer (some ⟨b, 0, none⟩), .int .i64 size] w fun e w' =>
      e = .returned (.int .i64 (Fld.num (rest.data.toList.take size))) ∧ Rdr w' b (rest.extract size rest.size) 0 ∧ w.grownBy w' (some b) := by
  have H := Lib.hid h
  clear h
  go_enter Try.func39, Try.ntmps39
  have hcv := fun (w : World) (s : ByteArray) => run_bytes_of_string (P := Try.prog) w 9 37 5 s Try.underlying9 Try.underlying37 Try.underlying5
  go_wp2_with (first | (go_at_call 63; refine (fld_width size _ h1 h7).mono ?_; rintro e w' ⟨rfl, rfl⟩) | (go_at_call 38; refine (fld_bytes b size rest _ H.out hn hm).mono ?_; rintro e w' ⟨rfl, rfl⟩))
  clear hcv
  go_loop [5, 7, 20] (fun n _ i => ∃ k : Nat, k ≤ size ∧ i = .int .i64 k ∧ n = .int .i64 (Fld.num (rest.data.toList.take k))) (fun _ _ i => size - (intOf i).toNat)
  case atStart => exact ⟨0, by omega, rfl, rfl⟩
  case round =>
    obtain ⟨k, hk, rfl, rfl⟩ := hrel
    by_cases hlt : k < size
    · have hkr : k < rest.size := by omega
      have hbr : ∀ v cap fz, ((w.setCell ⟨b, 0, none⟩ v).alloc (.cells (bytesRow (rest.extract 0 size) cap) 5 fz)).cell? ⟨w.heap.size, k, none⟩ = some (.int .u8 rest[k].toNat) :=
        fun v cap fz => (Fld.cell_alloc _ _ _ fz w.heap.size k (by simp)).trans (Fld.bytesRow_get rest size k hlt hkr cap)
      have hc : rest[k].toNat < 256 := rest[k].toNat_lt
      have hlt' := Fld.num_lt (rest.data.toList.take k)
      have HO := Lib.hid (or_bytes (Fld.num (rest.data.toList.take k)) rest[k].toNat (by
        have : 256 ^ (rest.data.toList.take k).length ≤ 256 ^ 6 := Nat.pow_le_pow_right (by omega) (by rw [List.length_take]; omega)
        omega) hc)
      have HS := Lib.hid (show Fld.num (rest.data.toList.take (k + 1)) = _ from by rw [take_snoc rest k hkr, Fld.num_snoc])
      clear hlt'
      go_wp2
      go_round
      case rel => exact ⟨k + 1, by omega, by go_num, by rw [HO.out, HS.out]⟩
      case measure => simp [intOf]; omega
    · obtain rfl : k = size := by omega
      go_wp2
      go_ret
      refine ⟨rfl, ?_, ?_⟩
      · exact Blk.below (B := w.heap.size) (Blk.set H.out 0 _) (((Below.refl _ _).alloc (by simp) _).drew) (Blk.lt H.out)
      · exact grown_trans (grown_set 0 _) (grown_below (((Below.refl _ _).alloc (Nat.le_refl _) _).drew) _)
end Go.Proofs.Ytgdkchjicggdlaa
