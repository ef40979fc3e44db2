/- A record is read as it was written: plain functions, no program in sight. -/
import Derived.Test.YtgdkchjicggdlaaLrt
namespace Go.Proofs.Ytgdkchjicggdlaa

namespace Fld
theorem num_foldl (l : List UInt8) (a : Nat) : l.foldl (fun n c => n * 256 + c.toNat) a = a * 256 ^ l.length + num l := by
  unfold num
  induction l generalizing a with
  | nil => simp
  | cons c l ih =>
    simp only [List.foldl_cons, List.length_cons]
    rw [ih, ih (0 * 256 + c.toNat), Nat.pow_succ]
    generalize l.foldl (fun n c => n * 256 + c.toNat) 0 = m
    have : (a * 256 + c.toNat) * 256 ^ l.length = a * (256 ^ l.length * 256) + c.toNat * 256 ^ l.length := by
      rw [Nat.add_mul, Nat.mul_assoc, Nat.mul_comm 256]
    rw [this]
    simp
    omega
theorem num_cons (c : UInt8) (l : List UInt8) : num (c :: l) = c.toNat * 256 ^ l.length + num l := by
  have := num_foldl l (0 * 256 + c.toNat)
  show (c :: l).foldl _ 0 = _
  rw [List.foldl_cons, this]
  simp
theorem num_be (n k : Nat) : num (be n k) = n % 256 ^ k := by
  induction k with
  | zero => simp [be, num, Nat.mod_one]
  | succ k ih =>
    rw [be_succ, num_cons, ih, be_len, UInt8.toNat_ofNat']
    have e := @Nat.mod_mul (256 ^ k) 256 n
    rw [show 256 ^ (k + 1) = 256 ^ k * 256 from Nat.pow_succ _ _, e, Nat.mul_comm (256 ^ k)]
    show n / 256 ^ k % 256 * 256 ^ k + _ = _
    omega
theorem num_be_of {n k : Nat} (h : n < 256 ^ k) : num (be n k) = n := by rw [num_be, Nat.mod_eq_of_lt h]
end Fld

namespace Lr
theorem turned_twice (n : Nat) (d : List UInt8) : turned n (turned n d) = d := by
  cases d with
  | nil => rfl
  | cons c r => simp only [turned, UInt8.xor_assoc, UInt8.xor_self, UInt8.xor_zero]

/-- A record in its parts. -/
theorem put_parts {l : List Sec} (h : Fine l) (seq : Nat) :
    put seq l = toldTo seq l l.length ++ (Crc.tail (toldTo seq l l.length ++ allTo l l.length) ++ (List.replicate (51 - 2 * l.length) 0 ++ allTo l l.length)) := by
  have hT := toldTo_len seq l l.length (Nat.le_refl _)
  have e1 : told seq (turn l) l = toldTo seq l l.length := by unfold told toldTo; rw [List.take_length]
  have e2 : all (turn l) l = allTo l l.length := by unfold all allTo; rw [List.take_length]
  unfold put pad
  rw [e1, e2]
  have hlen : (toldTo seq l l.length ++ Crc.tail (toldTo seq l l.length ++ allTo l l.length)).length = 13 + 2 * l.length := by
    rw [List.length_append, hT]
    show 9 + 2 * l.length + 4 = _
    omega
  have := h.few
  rw [hlen, show (64 - (13 + 2 * l.length) % 64) % 64 = 51 - 2 * l.length from by omega]
  simp only [List.append_assoc]
theorem put_len {l : List Sec} (h : Fine l) (seq : Nat) : (put seq l).length = 64 * (l.length + 1) := by
  have hT := toldTo_len seq l l.length (Nat.le_refl _)
  have hA := allTo_len h l.length (Nat.le_refl _)
  have := h.few
  rw [put_parts h]
  simp only [List.length_append, hT, hA, List.length_replicate]
  rw [show (Crc.tail (toldTo seq l l.length ++ allTo l l.length)).length = 4 from rfl]
  omega
theorem put_drop64 {l : List Sec} (h : Fine l) (seq : Nat) : (put seq l).drop 64 = allTo l l.length := by
  have hT := toldTo_len seq l l.length (Nat.le_refl _)
  have := h.few
  rw [put_parts h]
  rw [← List.append_assoc, ← List.append_assoc]
  rw [List.drop_append_of_le_length (by simp only [List.length_append, hT, List.length_replicate]; rw [show (Crc.tail (toldTo seq l l.length ++ allTo l l.length)).length = 4 from rfl]; omega)]
  rw [List.drop_of_length_le (by simp only [List.length_append, hT, List.length_replicate]; rw [show (Crc.tail (toldTo seq l l.length ++ allTo l l.length)).length = 4 from rfl]; omega)]
  rfl
theorem put_take {l : List Sec} (h : Fine l) (seq : Nat) : (put seq l).take (9 + 2 * l.length) = toldTo seq l l.length := by
  rw [put_parts h, ← toldTo_len seq l l.length (Nat.le_refl _), List.take_left]
theorem put_tail {l : List Sec} (h : Fine l) (seq : Nat) : ((put seq l).drop (9 + 2 * l.length)).take 4 = Crc.tail (toldTo seq l l.length ++ allTo l l.length) := by
  rw [put_parts h, ← toldTo_len seq l l.length (Nat.le_refl _), List.drop_left]
  exact List.take_left' rfl
theorem at_told (seq : Nat) (l : List Sec) (i m : Nat) (rest : List UInt8) (h : i + m ≤ (toldTo seq l l.length).length) : ((toldTo seq l l.length ++ rest).drop i).take m = ((toldTo seq l l.length).drop i).take m := by
  rw [List.drop_append_of_le_length (by omega), List.take_append_of_le_length (by rw [List.length_drop]; omega)]
theorem flat_at (f : Sec → List UInt8) (n : Nat) : ∀ (l : List Sec) (k : Nat) (hk : k < l.length), (∀ x, x ∈ l → (f x).length = n) → ((l.flatMap f).drop (k * n)).take n = f l[k]
  | [], _, hk, _ => by simp at hk
  | x :: l, 0, _, h => by
    rw [Nat.zero_mul, List.drop_zero, List.flatMap_cons, ← h x List.mem_cons_self, List.take_left]
    rfl
  | x :: l, k + 1, hk, h => by
    rw [List.flatMap_cons, Nat.succ_mul, Nat.add_comm, ← List.drop_drop]
    have hx := h x List.mem_cons_self
    rw [show (f x ++ List.flatMap f l).drop n = List.flatMap f l from by rw [← hx, List.drop_left]]
    exact flat_at f n l k (by simpa using hk) (fun y hy => h y (List.mem_cons_of_mem _ hy))
theorem told_parts (seq : Nat) (l : List Sec) : toldTo seq l l.length = [82] ++ (Fld.be seq 6 ++ (Fld.be l.length 1 ++ (Fld.be (turn l) 1 ++ l.flatMap fun x => Fld.be x.At.toNat 2))) := by
  unfold toldTo
  rw [List.take_length]
  simp only [List.append_assoc]
theorem told_1 (seq : Nat) (l : List Sec) : (toldTo seq l l.length).take 1 = [82] := by rw [told_parts]; rfl
theorem told_seq (seq : Nat) (l : List Sec) : ((toldTo seq l l.length).drop 1).take 6 = Fld.be seq 6 := by
  rw [told_parts]
  show ((Fld.be seq 6 ++ _)).take 6 = _
  exact List.take_left' (Fld.be_len _ _)
theorem told_many (seq : Nat) (l : List Sec) : ((toldTo seq l l.length).drop 7).take 1 = Fld.be l.length 1 := by
  rw [told_parts]
  show (((Fld.be seq 6 ++ (Fld.be l.length 1 ++ (Fld.be (turn l) 1 ++ l.flatMap fun x => Fld.be x.At.toNat 2)))).drop 6).take 1 = _
  rw [List.drop_left' (Fld.be_len _ _), List.take_left' (Fld.be_len _ _)]
theorem told_by (seq : Nat) (l : List Sec) : ((toldTo seq l l.length).drop 8).take 1 = Fld.be (turn l) 1 := by
  rw [told_parts]
  show (((Fld.be seq 6 ++ (Fld.be l.length 1 ++ (Fld.be (turn l) 1 ++ l.flatMap fun x => Fld.be x.At.toNat 2)))).drop (6 + 1)).take 1 = _
  rw [← List.drop_drop, List.drop_left' (Fld.be_len _ _), List.drop_left' (Fld.be_len _ _), List.take_left' (Fld.be_len _ _)]
theorem told_at (seq : Nat) (l : List Sec) (k : Nat) (hk : k < l.length) : ((toldTo seq l l.length).drop (9 + 2 * k)).take 2 = Fld.be l[k].At.toNat 2 := by
  rw [told_parts]
  have e : 9 + 2 * k = 1 + (6 + (1 + (1 + k * 2))) := by omega
  rw [e, ← List.drop_drop]
  show (((Fld.be seq 6 ++ (Fld.be l.length 1 ++ (Fld.be (turn l) 1 ++ l.flatMap fun x => Fld.be x.At.toNat 2)))).drop _).take 2 = _
  rw [← List.drop_drop, List.drop_left' (Fld.be_len _ _), ← List.drop_drop, List.drop_left' (Fld.be_len _ _), ← List.drop_drop, List.drop_left' (Fld.be_len _ _)]
  exact flat_at (fun x => Fld.be x.At.toNat 2) 2 l k hk (fun x _ => Fld.be_len _ _)

/-- What stands ahead of the tail, of a record. -/
theorem put_at {l : List Sec} (h : Fine l) (seq i m : Nat) (hi : i + m ≤ 9 + 2 * l.length) : ((put seq l).drop i).take m = ((toldTo seq l l.length).drop i).take m := by
  rw [put_parts h]
  exact at_told seq l i m _ (by rw [toldTo_len seq l l.length (Nat.le_refl _)]; exact hi)

theorem get_put {l : List Sec} (hc : check l = 0) {seq : Nat} (hs : seq < 281474976710656) : get (put seq l) = ((seq : Int), l, 0) := by
  have h := check_fine hc
  have hlen := put_len h seq
  have hp := h.pos
  have hf := h.few
  have ht := turn_le hf
  have hn : (put seq l).length / 64 - 1 = l.length := by rw [hlen]; omega
  have e1 : (put seq l).take 1 = [82] := by
    have := put_at h seq 0 1 (by omega)
    rw [List.drop_zero, List.drop_zero] at this
    rw [this, told_1]
  have e2 : Fld.num (((put seq l).drop 7).take 1) = l.length := by rw [put_at h seq 7 1 (by omega), told_many, Fld.num_be_of (by omega)]
  have e3 : Fld.num (((put seq l).drop 1).take 6) = seq := by rw [put_at h seq 1 6 (by omega), told_seq, Fld.num_be_of (by omega)]
  have e4 : by_ (put seq l) = turn l := by unfold by_; rw [put_at h seq 8 1 (by omega), told_by, Fld.num_be_of (by omega)]
  have e5 : getL (put seq l) l.length = l := by
    unfold getL
    apply List.ext_getElem?
    intro k
    by_cases hk : k < l.length
    · rw [List.getElem?_map, List.getElem?_range hk, Option.map_some, List.getElem?_eq_getElem hk]
      congr 1
      have hx := h.at_ l[k] (List.getElem_mem hk)
      have hd : ((put seq l).drop (64 + k * 64)).take 64 = turned (turn l) l[k].bytes := by
        rw [← List.drop_drop, put_drop64 h]
        unfold allTo
        rw [List.take_length]
        exact flat_at (fun x => turned (turn l) x.bytes) 64 l k hk (fun x hx => by rw [turned_len, Sec.bytes_len]; exact h.size x hx)
      unfold secAt
      rw [hd, e4, turned_twice, put_at h seq (9 + 2 * k) 2 (by omega), told_at seq l k hk, Fld.num_be_of (by omega)]
      rw [show ((l[k].At.toNat : Nat) : Int) = l[k].At from by omega]
      unfold Sec.bytes
      rw [mkS_eta]
    · rw [List.getElem?_eq_none (by simp; omega), List.getElem?_eq_none (by omega)]
  unfold get
  rw [if_neg (by rw [hlen]; omega), hn, if_neg (by rw [e1, e2]; rintro (h | h | h | h) <;> first | exact h rfl | omega)]
  rw [if_neg (by rw [put_tail h, put_take h, put_drop64 h]; simp)]
  rw [e3, e5]
  have hP : Put (seq : Int) l = (put seq l, 0) := by
    unfold Put
    rw [if_neg (by omega), if_neg (by omega)]
    rfl
  rw [hP, if_neg (by simp)]
end Lr
end Go.Proofs.Ytgdkchjicggdlaa
