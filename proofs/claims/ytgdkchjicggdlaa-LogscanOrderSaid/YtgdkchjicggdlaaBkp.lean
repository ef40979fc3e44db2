/- A record that is turned within four bytes in a row is not read: plain functions, no program in sight. -/
import Derived.Test.YtgdkchjicggdlaaLrb
namespace Go.Proofs.Ytgdkchjicggdlaa

namespace Crc
theorem byte_same {x y : UInt8} (h : x.toNat ^^^ y.toNat = 0) : x = y := UInt8.toNat_inj.1 (xor_eq_zero h)
theorem byte_xor_lt (x y : UInt8) : x.toNat ^^^ y.toNat < 256 := Nat.xor_lt_two_pow (n := 8) x.toNat_lt y.toNat_lt
theorem diff_cons (d : Nat) (x y : UInt8) (a b : List UInt8) : diff d (x :: a) (y :: b) = diff (bits 8 (d ^^^ (x.toNat ^^^ y.toNat))) a b := rfl
theorem diff_nil (d : Nat) : diff d [] [] = d := rfl
theorem burst4 (m : Nat) (X Y : List UInt8) (hx : X.length = 4) (hy : Y.length = 4) (h : run m X = run m Y) : X = Y := by
  match X, hx, Y, hy with
  | [x0, x1, x2, x3], _, [y0, y1, y2, y3], _ =>
    have hd := diff_run [x0, x1, x2, x3] [y0, y1, y2, y3] m m rfl
    rw [h, Nat.xor_self, Nat.xor_self] at hd
    have e : diff 0 [x0, x1, x2, x3] [y0, y1, y2, y3] = bits 8 (bits 8 (bits 8 (bits 8 (x0.toNat ^^^ y0.toNat) ^^^ (x1.toNat ^^^ y1.toNat)) ^^^ (x2.toNat ^^^ y2.toNat)) ^^^ (x3.toNat ^^^ y3.toNat)) := by
      rw [diff_cons, diff_cons, diff_cons, diff_cons, diff_nil, Nat.zero_xor]
    rw [e] at hd
    have h0 := byte_xor_lt x0 y0
    have h1 := byte_xor_lt x1 y1
    have h2 := byte_xor_lt x2 y2
    have h3 := byte_xor_lt x3 y3
    rw [four _ _ _ _ h0 h1 h2] at hd
    have hz := bits_inj 32 (a := (x0.toNat ^^^ y0.toNat) + (x1.toNat ^^^ y1.toNat) * 2 ^ 8 + (x2.toNat ^^^ y2.toNat) * 2 ^ 16 + (x3.toNat ^^^ y3.toNat) * 2 ^ 24) (b := 0) (by omega) (by omega) (by rw [← hd, bits_zero])
    have z0 : x0 = y0 := byte_same (by omega)
    have z1 : x1 = y1 := byte_same (by omega)
    have z2 : x2 = y2 := byte_same (by omega)
    have z3 : x3 = y3 := byte_same (by omega)
    rw [z0, z1, z2, z3]
theorem burst (m : Nat) (X Y : List UInt8) (hl : X.length = Y.length) (h4 : X.length ≤ 4) (h : run m X = run m Y) : X = Y := by
  have e := burst4 m (X ++ List.replicate (4 - X.length) 0) (Y ++ List.replicate (4 - X.length) 0) (by simp; omega) (by simp; omega) (by rw [run_append, run_append, h])
  exact (List.append_inj e hl).1
theorem of_burst (X Y : List UInt8) (j : Nat) (hl : X.length = Y.length) (h1 : X.take j = Y.take j) (h2 : X.drop (j + 4) = Y.drop (j + 4)) (h : of X = of Y) : X = Y := by
  have e : ∀ Z : List UInt8, Z = Z.take j ++ ((Z.drop j).take 4 ++ Z.drop (j + 4)) := fun Z => by
    rw [← List.drop_drop, List.take_append_drop, List.take_append_drop]
  have h := xor_cancel h
  rw [e X, e Y, run_append, run_append, run_append, run_append, h1, h2] at h
  have hm : run 4294967295 (Y.take j) < 2 ^ 32 := run_lt _ (by omega)
  have h := run_inj _ (run_lt _ hm) (run_lt _ hm) h
  have h := burst _ _ _ (by simp only [List.length_take, List.length_drop, hl]) (by rw [List.length_take]; omega) h
  rw [e X, e Y, h1, h2, h]
theorem tail_inj {X Y : List UInt8} (h : tail X = tail Y) : of X = of Y := by
  unfold tail at h
  have hx := of_lt X
  have hy := of_lt Y
  injection h with h0 h
  injection h with h1 h
  injection h with h2 h
  injection h with h3 h
  have c : ∀ i, byteAt (of X) i = byteAt (of Y) i → of X / 256 ^ i % 256 = of Y / 256 ^ i % 256 := fun i h => by
    have := congrArg UInt8.toNat h
    unfold byteAt at this
    rwa [UInt8.toNat_ofNat', UInt8.toNat_ofNat'] at this
  have c0 := c 0 h0
  have c1 := c 1 h1
  have c2 := c 2 h2
  have c3 := c 3 h3
  omega
theorem tail_len (X : List UInt8) : (tail X).length = 4 := rfl
end Crc

namespace Lr
/-- A record's form. -/
def form (n : Nat) (T A : List UInt8) : List UInt8 := T ++ (Crc.tail (T ++ A) ++ (List.replicate (51 - 2 * n) 0 ++ A))
theorem form_take {n : Nat} {T A : List UInt8} (hT : T.length = 9 + 2 * n) : (form n T A).take (9 + 2 * n) = T := by unfold form; rw [← hT, List.take_left]
theorem form_head {n : Nat} {T A : List UInt8} (hT : T.length = 9 + 2 * n) : (form n T A).take (9 + 2 * n + 4) = T ++ Crc.tail (T ++ A) := by
  unfold form
  rw [← List.append_assoc, List.take_left' (by rw [List.length_append, hT, Crc.tail_len])]
theorem form_drop {n : Nat} {T A : List UInt8} (hT : T.length = 9 + 2 * n) (hn : n ≤ 16) : (form n T A).drop 64 = A := by
  unfold form
  rw [← List.append_assoc, ← List.append_assoc]
  exact List.drop_left' (by rw [List.length_append, List.length_append, hT, Crc.tail_len, List.length_replicate]; omega)
theorem form_burst {n k : Nat} {T A T' A' : List UInt8} (hn : n ≤ 16) (hT : T.length = 9 + 2 * n) (hT' : T'.length = 9 + 2 * n) (hA : A.length = 64 * n) (hA' : A'.length = 64 * n)
    (h1 : (form n T' A').take k = (form n T A).take k) (h2 : (form n T' A').drop (k + 4) = (form n T A).drop (k + 4)) (hk : ¬ (k < 9 + 2 * n ∧ 9 + 2 * n < k + 4)) : T' = T ∧ A' = A := by
  by_cases hc : k + 4 ≤ 9 + 2 * n
  · have d : ∀ U B : List UInt8, U.length = 9 + 2 * n → (form n U B).drop (k + 4) = U.drop (k + 4) ++ (Crc.tail (U ++ B) ++ (List.replicate (51 - 2 * n) 0 ++ B)) := fun U B hU => by
      unfold form; rw [List.drop_append_of_le_length (by omega)]
    have t : ∀ U B : List UInt8, U.length = 9 + 2 * n → (form n U B).take k = U.take k := fun U B hU => by
      unfold form; rw [List.take_append_of_le_length (by omega)]
    rw [d _ _ hT, d _ _ hT'] at h2
    rw [t _ _ hT, t _ _ hT'] at h1
    have e := List.append_inj h2 (by rw [List.length_drop, List.length_drop, hT, hT'])
    have e2 := List.append_inj e.2 rfl
    have e3 := (List.append_inj e2.2 rfl).2
    subst e3
    have hof := Crc.tail_inj e2.1
    have := Crc.of_burst (T' ++ A') (T ++ A') k (by rw [List.length_append, List.length_append, hT, hT'])
      (by rw [List.take_append_of_le_length (by omega), List.take_append_of_le_length (by omega), h1])
      (by rw [List.drop_append_of_le_length (by omega), List.drop_append_of_le_length (by omega), e.1]) hof
    exact ⟨(List.append_inj this (by rw [hT, hT'])).1, rfl⟩
  · have hge : 9 + 2 * n ≤ k := by omega
    have eT : T' = T := by
      have := congrArg (List.take (9 + 2 * n)) h1
      rw [List.take_take, List.take_take, Nat.min_eq_left hge, form_take hT, form_take hT'] at this
      exact this
    subst eT
    refine ⟨rfl, ?_⟩
    by_cases hc2 : 9 + 2 * n + 4 ≤ k
    · have et : Crc.tail (T' ++ A') = Crc.tail (T' ++ A) := by
        have := congrArg (List.take (9 + 2 * n + 4)) h1
        rw [List.take_take, List.take_take, Nat.min_eq_left hc2, form_head hT, form_head hT] at this
        exact (List.append_inj this rfl).2
      have a1 : A'.take (k - 64) = A.take (k - 64) := by
        have := congrArg (List.drop 64) h1
        rw [List.drop_take, List.drop_take, form_drop hT hn, form_drop hT hn] at this
        exact this
      have d : ∀ B : List UInt8, (form n T' B).drop (64 + (k - 64 + 4)) = B.drop (k - 64 + 4) := fun B => by rw [← List.drop_drop, form_drop hT hn]
      have a2 : A'.drop (k - 64 + 4) = A.drop (k - 64 + 4) := by
        have := congrArg (List.drop (64 + (k - 64) - k)) h2
        rw [List.drop_drop, List.drop_drop, show k + 4 + (64 + (k - 64) - k) = 64 + (k - 64 + 4) from by omega, d, d] at this
        exact this
      have := Crc.of_burst (T' ++ A') (T' ++ A) (9 + 2 * n + (k - 64)) (by rw [List.length_append, List.length_append, hA, hA'])
        (by rw [← hT, List.take_length_add_append, List.take_length_add_append, a1])
        (by rw [Nat.add_assoc, ← hT, List.drop_length_add_append, List.drop_length_add_append, a2]) (Crc.tail_inj et)
      exact (List.append_inj this rfl).2
    · have := congrArg (List.drop (64 - (k + 4))) h2
      rw [List.drop_drop, List.drop_drop, show k + 4 + (64 - (k + 4)) = 64 from by omega, form_drop hT hn, form_drop hT hn] at this
      exact this

/-- What is read is a record. -/
theorem get_ok {b : List UInt8} (h : (get b).2.2 = 0) : ∃ seq l, check l = 0 ∧ l.length = b.length / 64 - 1 ∧ b = put seq l := by
  unfold get at h
  by_cases h1 : b.length < 64 ∨ b.length % 64 ≠ 0
  · rw [if_pos h1] at h; simp at h
  · rw [if_neg h1] at h
    by_cases h2 : b.take 1 ≠ [82] ∨ Fld.num ((b.drop 7).take 1) ≠ b.length / 64 - 1 ∨ b.length / 64 - 1 < 1 ∨ 16 < b.length / 64 - 1
    · rw [if_pos h2] at h; simp at h
    · rw [if_neg h2] at h
      by_cases h3 : (b.drop (9 + 2 * (b.length / 64 - 1))).take 4 ≠ Crc.tail (b.take (9 + 2 * (b.length / 64 - 1)) ++ b.drop 64)
      · rw [if_pos h3] at h; simp at h
      · rw [if_neg h3] at h
        by_cases h4 : (Put (Fld.num ((b.drop 1).take 6)) (getL b (b.length / 64 - 1))).2 ≠ 0 ∨ (Put (Fld.num ((b.drop 1).take 6)) (getL b (b.length / 64 - 1))).1 ≠ b
        · rw [if_pos h4] at h; simp at h
        · have h5 : (Put (Fld.num ((b.drop 1).take 6)) (getL b (b.length / 64 - 1))).2 = 0 := Classical.not_not.1 fun x => h4 (.inl x)
          have h6 : (Put (Fld.num ((b.drop 1).take 6)) (getL b (b.length / 64 - 1))).1 = b := Classical.not_not.1 fun x => h4 (.inr x)
          unfold Put at h5 h6
          by_cases h7 : ((Fld.num ((b.drop 1).take 6) : Nat) : Int) < 0 ∨ 281474976710656 ≤ ((Fld.num ((b.drop 1).take 6) : Nat) : Int)
          · rw [if_pos h7] at h5; simp at h5
          · rw [if_neg h7] at h5 h6
            by_cases h8 : check (getL b (b.length / 64 - 1)) = 0
            · rw [if_neg (by simp [h8])] at h6
              exact ⟨_, _, h8, by unfold getL; rw [List.length_map, List.length_range], h6.symm⟩
            · rw [if_pos h8] at h5
              exact absurd h5 h8

theorem put_form {l : List Sec} (h : Fine l) (seq : Nat) : put seq l = form l.length (toldTo seq l l.length) (allTo l l.length) := put_parts h seq

/-- A record that is turned within four bytes in a row, not both ahead of its tail and in it, is read only if nothing was turned. -/
theorem get_turned {l : List Sec} (hc : check l = 0) {seq : Nat} (hs : seq < 281474976710656) {b : List UInt8} {k : Nat} (hlen : b.length = (put seq l).length)
    (h1 : b.take k = (put seq l).take k) (h2 : b.drop (k + 4) = (put seq l).drop (k + 4)) (hk : ¬ (k < 9 + 2 * l.length ∧ 9 + 2 * l.length < k + 4)) : (get b).2.2 = 0 ↔ b = put seq l := by
  constructor
  · intro h
    obtain ⟨seq', l', hc', hl', rfl⟩ := get_ok h
    have hf := check_fine hc
    have hf' := check_fine hc'
    have hn : l'.length = l.length := by rw [hl', hlen, put_len hf]; omega
    have hT := toldTo_len seq l l.length (Nat.le_refl _)
    have hA := allTo_len hf l.length (Nat.le_refl _)
    have hT' := toldTo_len seq' l' l'.length (Nat.le_refl _)
    have hA' := allTo_len hf' l'.length (Nat.le_refl _)
    rw [put_form hf, put_form hf'] at h1 h2 ⊢
    generalize toldTo seq' l' l'.length = T' at *
    generalize allTo l' l'.length = A' at *
    rw [hn] at h1 h2 hT' hA' ⊢
    obtain ⟨e1, e2⟩ := form_burst hf.few hT hT' hA hA' h1 h2 hk
    rw [e1, e2]
  · rintro rfl
    rw [get_put hc hs]

theorem turn_free {l : List Sec} (h : l.length ≤ 255) : bad l (turn l) = false := by
  obtain ⟨m, hm, hb⟩ := some_free l h
  unfold turn
  cases hf : (List.range 256).find? fun n => !bad l n with
  | none =>
    rw [List.find?_eq_none] at hf
    exact absurd hb (by have := hf m (by simp; omega); simpa using this)
  | some n =>
    have := List.find?_some hf
    simpa using this
/-- No sector but the first begins as a first one does. -/
theorem put_heads {l : List Sec} (hc : check l = 0) (seq i : Nat) (h1 : 1 ≤ i) (h2 : i ≤ l.length) (hi : i * 64 < (put seq l).length) : (put seq l)[i * 64] ≠ 82 := by
  have hf := check_fine hc
  have hfew := hf.few
  have hd : ((put seq l).drop (64 + (i - 1) * 64)).take 64 = turned (turn l) l[i - 1].bytes := by
    rw [← List.drop_drop, put_drop64 hf]
    unfold allTo
    rw [List.take_length]
    exact flat_at (fun x => turned (turn l) x.bytes) 64 l (i - 1) (by omega) (fun x hx => by rw [turned_len, Sec.bytes_len]; exact hf.size x hx)
  have e : 64 + (i - 1) * 64 = i * 64 := by omega
  rw [e] at hd
  rw [List.drop_eq_getElem_cons hi] at hd
  have hb := turn_free (l := l) (by omega)
  unfold bad at hb
  rw [List.any_eq_false] at hb
  have hm := hb l[i - 1] (List.getElem_mem _)
  unfold marked at hm
  intro e82
  apply hm
  have hsz := hf.size l[i - 1] (List.getElem_mem _)
  cases hbs : l[i - 1].bytes with
  | nil =>
    have : l[i - 1].bytes.length = 64 := by rw [Sec.bytes_len]; exact hsz
    rw [hbs] at this
    simp at this
  | cons c r =>
    rw [hbs] at hd
    simp only [turned, List.take_succ_cons] at hd
    injection hd with hd _
    simp only [List.headD_cons]
    rw [← hd, e82]
    rfl
theorem put_size {l : List Sec} (hc : check l = 0) {seq : Nat} (hs : seq < 281474976710656) : size ((put seq l).take 64) seq = ((l.length : Int) + 1, 0) := by
  have hf := check_fine hc
  have hfew := hf.few
  have hpos := hf.pos
  have hlen := put_len hf seq
  have e : ∀ i m, i + m ≤ 64 → i + m ≤ 9 + 2 * l.length → (((put seq l).take 64).drop i).take m = ((toldTo seq l l.length).drop i).take m := fun i m h h' => by
    rw [List.drop_take, List.take_take, Nat.min_eq_left (by omega), put_at hf seq i m h']
  have e1 := e 0 1 (by omega) (by omega)
  rw [List.drop_zero, List.drop_zero, told_1] at e1
  have e2 := e 1 6 (by omega) (by omega)
  rw [told_seq] at e2
  have e3 := e 7 1 (by omega) (by omega)
  rw [told_many] at e3
  unfold size
  rw [if_neg (by rw [List.length_take, hlen]; omega), e1, e2, e3, Fld.num_be_of (by omega), Fld.num_be_of (by omega)]
  rw [if_neg]
  rintro (h | h | h)
  · exact h rfl
  · exact h rfl
  · omega
end Lr
end Go.Proofs.Ytgdkchjicggdlaa
