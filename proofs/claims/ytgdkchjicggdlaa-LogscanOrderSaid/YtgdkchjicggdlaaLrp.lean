/- Transactions as records, as plain functions on lists of bytes. No program in sight. -/
import Derived.Test.YtgdkchjicggdlaaSec
import Derived.Test.YtgdkchjicggdlaaFld
namespace Go.Proofs.Ytgdkchjicggdlaa
def mkS (l : List UInt8) : ByteArray := ⟨l.toArray⟩
theorem mkS_size (l : List UInt8) : (mkS l).size = l.length := rfl
theorem mkS_list (l : List UInt8) : (mkS l).data.toList = l := rfl
theorem mkS_eta (s : ByteArray) : mkS s.data.toList = s := by cases s; simp [mkS]
theorem mkS_append (a b : List UInt8) : mkS a ++ mkS b = mkS (a ++ b) := by
  apply ByteArray.ext
  simp [mkS, ByteArray.data_append]
theorem mkS_inj {a b : List UInt8} (h : mkS a = mkS b) : a = b := by have := congrArg (fun s => s.data.toList) h; simpa [mkS] using this
def Sec.bytes (x : Sec) : List UInt8 := x.Data.data.toList
theorem Sec.bytes_len (x : Sec) : x.bytes.length = x.Data.size := rfl

namespace Lr
def checkFrom : List Sec → List Sec → Int
  | _, [] => 0
  | seen, x :: r => if x.At < 0 ∨ 1000 ≤ x.At then 3 else if x.Data.size ≠ 64 then 12 else if seen.any (fun t => t.At == x.At) then 9 else checkFrom (seen ++ [x]) r
/-- What is wrong with a transaction. -/
def check (l : List Sec) : Int := if l.length = 0 then 8 else if 16 < l.length then 6 else checkFrom [] l
/-- Does a sector's bytes, turned, begin with the mark? -/
def marked (n : Nat) (x : Sec) : Bool := (x.bytes.headD 0 ^^^ UInt8.ofNat n) == 82
def bad (l : List Sec) (n : Nat) : Bool := l.any (marked n)
def turn (l : List Sec) : Nat := ((List.range 256).find? fun n => !bad l n).getD 0
def turned (n : Nat) : List UInt8 → List UInt8
  | [] => []
  | c :: r => (c ^^^ UInt8.ofNat n) :: r
def told (seq n : Nat) (l : List Sec) : List UInt8 := [82] ++ Fld.be seq 6 ++ Fld.be l.length 1 ++ Fld.be n 1 ++ l.flatMap fun x => Fld.be x.At.toNat 2
def all (n : Nat) (l : List Sec) : List UInt8 := l.flatMap fun x => turned n x.bytes
def pad (s : List UInt8) : List UInt8 := s ++ List.replicate ((64 - s.length % 64) % 64) 0
def put (seq : Nat) (l : List Sec) : List UInt8 :=
  pad (told seq (turn l) l ++ Crc.tail (told seq (turn l) l ++ all (turn l) l)) ++ all (turn l) l

theorem turned_len (n : Nat) (d : List UInt8) : (turned n d).length = d.length := by cases d <;> rfl

/-- What check lets pass. -/
structure Fine (l : List Sec) : Prop where
  pos : 0 < l.length
  few : l.length ≤ 16
  at_ : ∀ x, x ∈ l → 0 ≤ x.At ∧ x.At < 1000
  size : ∀ x, x ∈ l → x.Data.size = 64
theorem checkFrom_fine : ∀ (l seen : List Sec), checkFrom seen l = 0 → ∀ x, x ∈ l → (0 ≤ x.At ∧ x.At < 1000) ∧ x.Data.size = 64
  | [], _, _, x, hx => by cases hx
  | y :: r, seen, h, x, hx => by
    unfold checkFrom at h
    by_cases h1 : y.At < 0 ∨ 1000 ≤ y.At
    · rw [if_pos h1] at h; omega
    · rw [if_neg h1] at h
      by_cases h2 : y.Data.size ≠ 64
      · rw [if_pos h2] at h; omega
      · rw [if_neg h2] at h
        split at h
        · omega
        · rcases List.mem_cons.1 hx with e | hx
          · subst e; exact ⟨by omega, by omega⟩
          · exact checkFrom_fine r _ h x hx
theorem check_fine {l : List Sec} (h : check l = 0) : Fine l := by
  unfold check at h
  by_cases h1 : l.length = 0
  · rw [if_pos h1] at h; omega
  · rw [if_neg h1] at h
    by_cases h2 : 16 < l.length
    · rw [if_pos h2] at h; omega
    · rw [if_neg h2] at h
      exact ⟨by omega, by omega, fun x hx => (checkFrom_fine l [] h x hx).1, fun x hx => (checkFrom_fine l [] h x hx).2⟩

theorem many_in : ∀ (m : Nat) (l : List UInt8), m ≤ 256 → (∀ n, n < m → UInt8.ofNat n ∈ l) → m ≤ l.length
  | 0, _, _, _ => Nat.zero_le _
  | m + 1, l, hm, h => by
    have h1 := h m (by omega)
    have := many_in m (l.erase (UInt8.ofNat m)) (by omega) (fun n hn => (List.mem_erase_of_ne (fun e => by
      have := congrArg UInt8.toNat e
      rw [UInt8.toNat_ofNat', UInt8.toNat_ofNat'] at this
      omega)).2 (h n (by omega)))
    rw [List.length_erase_of_mem h1] at this
    have : 0 < l.length := List.length_pos_of_mem h1
    omega
theorem bad_iff (l : List Sec) (n : Nat) : bad l n = true ↔ UInt8.ofNat n ∈ l.map fun x => x.bytes.headD 0 ^^^ 82 := by
  unfold bad marked
  rw [List.any_eq_true]
  constructor
  · rintro ⟨x, hx, h⟩
    refine List.mem_map.2 ⟨x, hx, ?_⟩
    have h := eq_of_beq h
    rw [← h, ← UInt8.xor_assoc, UInt8.xor_self, UInt8.zero_xor]
  · intro h
    obtain ⟨x, hx, e⟩ := List.mem_map.1 h
    refine ⟨x, hx, ?_⟩
    rw [← e, ← UInt8.xor_assoc, UInt8.xor_self, UInt8.zero_xor]
    rfl
/-- Among so many numbers one more than there are sectors is free. -/
theorem some_free (l : List Sec) (h : l.length ≤ 255) : ∃ n, n ≤ l.length ∧ bad l n = false := by
  by_cases hx : ∀ n, n < l.length + 1 → bad l n = true
  · have := many_in (l.length + 1) (l.map fun x => x.bytes.headD 0 ^^^ 82) (by omega) (fun n hn => (bad_iff l n).1 (hx n hn))
    simp at this
    omega
  · simp only [Classical.not_forall] at hx
    obtain ⟨n, hn, hb⟩ := hx
    exact ⟨n, by omega, by simpa using hb⟩
theorem turn_of {l : List Sec} {n : Nat} (hn : n < 256) (hb : bad l n = false) (hlow : ∀ m, m < n → bad l m = true) : turn l = n := by
  have : (List.range 256).find? (fun n => !bad l n) = some n := by
    rw [List.find?_range_eq_some]
    refine ⟨by simp [hb], by simpa using hn, fun m hm => by simp [hlow m hm]⟩
  simp [turn, this]
end Lr
end Go.Proofs.Ytgdkchjicggdlaa
