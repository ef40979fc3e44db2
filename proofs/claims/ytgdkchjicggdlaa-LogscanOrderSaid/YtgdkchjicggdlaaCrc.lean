/- The sum of bytes by division (CRC-32), as plain functions on natural numbers: linear, injective, and it tells every burst of four bytes. No program in sight. -/
namespace Go.Proofs.Ytgdkchjicggdlaa.Crc

def bit (n : Nat) : Nat := if n % 2 = 1 then (n / 2) ^^^ 3988292384 else n / 2
def bits : Nat → Nat → Nat
  | 0, n => n
  | k + 1, n => bits k (bit n)
def step (n c : Nat) : Nat := bits 8 (n ^^^ c)
def run (n : Nat) (l : List UInt8) : Nat := l.foldl (fun m c => step m c.toNat) n
def of (l : List UInt8) : Nat := run 4294967295 l ^^^ 4294967295
def byteAt (n i : Nat) : UInt8 := UInt8.ofNat (n / 256 ^ i)
def tail (l : List UInt8) : List UInt8 := [byteAt (of l) 0, byteAt (of l) 1, byteAt (of l) 2, byteAt (of l) 3]

theorem bit_lt {n : Nat} (h : n < 2 ^ 32) : bit n < 2 ^ 32 := by
  unfold bit
  split
  · exact Nat.xor_lt_two_pow (by omega) (by omega)
  · omega
theorem bits_lt : ∀ (k : Nat) {n : Nat}, n < 2 ^ 32 → bits k n < 2 ^ 32
  | 0, _, h => h
  | k + 1, _, h => bits_lt k (bit_lt h)
theorem step_lt {n c : Nat} (h : n < 2 ^ 32) (hc : c < 256) : step n c < 2 ^ 32 :=
  bits_lt 8 (Nat.xor_lt_two_pow h (by omega))
theorem run_lt : ∀ (l : List UInt8) {n : Nat}, n < 2 ^ 32 → run n l < 2 ^ 32
  | [], _, h => h
  | c :: l, _, h => run_lt l (step_lt h (by have := c.toNat_lt; omega))
theorem of_lt (l : List UInt8) : of l < 2 ^ 32 := Nat.xor_lt_two_pow (run_lt l (by omega)) (by omega)
theorem run_append (n : Nat) (a b : List UInt8) : run n (a ++ b) = run (run n a) b := by simp [run, List.foldl_append]

theorem xor_half (a b : Nat) : (a ^^^ b) / 2 = a / 2 ^^^ b / 2 := by
  apply Nat.eq_of_testBit_eq
  intro i
  rw [Nat.testBit_xor, ← Nat.testBit_succ, Nat.testBit_xor, Nat.testBit_succ, Nat.testBit_succ]
theorem xor_low (a b : Nat) : (a ^^^ b) % 2 = (a + b) % 2 := by
  have h := Nat.xor_mod_two_eq_one (a := a) (b := b)
  have h1 : (a ^^^ b) % 2 < 2 := Nat.mod_lt _ (by omega)
  by_cases h0 : (a ^^^ b) % 2 = 1
  · have := h.1 h0; omega
  · have : ¬ ¬ (a % 2 = 1 ↔ b % 2 = 1) := fun hh => h0 (h.2 hh)
    have := Classical.not_not.1 this
    omega

/-- 'bit' is linear. -/
theorem bit_xor (a b : Nat) : bit (a ^^^ b) = bit a ^^^ bit b := by
  have hl := xor_low a b
  have hh := xor_half a b
  unfold bit
  by_cases ha : a % 2 = 1 <;> by_cases hb : b % 2 = 1
  · rw [if_pos ha, if_pos hb, if_neg (by omega), hh]
    rw [Nat.xor_assoc, Nat.xor_comm (b / 2), ← Nat.xor_assoc 3988292384, Nat.xor_self, Nat.zero_xor]
  · rw [if_pos ha, if_neg hb, if_pos (by omega), hh]
    rw [Nat.xor_assoc, Nat.xor_assoc, Nat.xor_comm (b / 2)]
  · rw [if_neg ha, if_pos hb, if_pos (by omega), hh, Nat.xor_assoc]
  · rw [if_neg ha, if_neg hb, if_neg (by omega), hh]
theorem bits_xor : ∀ (k a b : Nat), bits k (a ^^^ b) = bits k a ^^^ bits k b
  | 0, _, _ => rfl
  | k + 1, a, b => by simp only [bits]; rw [bit_xor, bits_xor k]
theorem bits_zero : ∀ k, bits k 0 = 0
  | 0 => rfl
  | k + 1 => by simp only [bits]; rw [show bit 0 = 0 from rfl]; exact bits_zero k
theorem bits_add : ∀ (j k n : Nat), bits (j + k) n = bits k (bits j n)
  | 0, k, n => by simp [bits]
  | j + 1, k, n => by rw [Nat.add_right_comm]; simp only [bits]; exact bits_add j k _

theorem xor_cancel {a b c : Nat} (h : a ^^^ c = b ^^^ c) : a = b := by
  have : a ^^^ c ^^^ c = b ^^^ c ^^^ c := by rw [h]
  simpa [Nat.xor_assoc] using this
/-- The highest bit of the divisor tells the lowest bit of what was divided. -/
theorem bit_top {n : Nat} (h : n < 2 ^ 32) : (bit n).testBit 31 = decide (n % 2 = 1) := by
  have h0 : (n / 2).testBit 31 = false := Nat.testBit_lt_two_pow (by omega)
  unfold bit
  by_cases hn : n % 2 = 1
  · rw [if_pos hn, Nat.testBit_xor, h0]
    simp [hn]
    decide
  · rw [if_neg hn, h0]
    simp [hn]
theorem bit_inj {a b : Nat} (ha : a < 2 ^ 32) (hb : b < 2 ^ 32) (h : bit a = bit b) : a = b := by
  have t : decide (a % 2 = 1) = decide (b % 2 = 1) := by rw [← bit_top ha, ← bit_top hb, h]
  have e : a / 2 = b / 2 := by
    unfold bit at h
    by_cases x : a % 2 = 1
    · have y : b % 2 = 1 := by simpa [x] using t
      rw [if_pos x, if_pos y] at h
      exact xor_cancel h
    · have y : ¬ b % 2 = 1 := by simpa [x] using t
      rwa [if_neg x, if_neg y] at h
  have p : a % 2 = b % 2 := by
    by_cases x : a % 2 = 1
    · have y : b % 2 = 1 := by simpa [x] using t
      omega
    · have y : ¬ b % 2 = 1 := by simpa [x] using t
      omega
  omega
theorem bits_inj : ∀ (k : Nat) {a b : Nat}, a < 2 ^ 32 → b < 2 ^ 32 → bits k a = bits k b → a = b
  | 0, _, _, _, _, h => h
  | k + 1, _, _, ha, hb, h => bit_inj ha hb (bits_inj k (bit_lt ha) (bit_lt hb) h)
theorem run_inj : ∀ (l : List UInt8) {a b : Nat}, a < 2 ^ 32 → b < 2 ^ 32 → run a l = run b l → a = b
  | [], _, _, _, _, h => h
  | c :: l, a, b, ha, hb, h => by
    have hc : c.toNat < 256 := c.toNat_lt
    have := run_inj l (step_lt ha hc) (step_lt hb hc) h
    exact xor_cancel (bits_inj 8 (Nat.xor_lt_two_pow ha (by omega)) (Nat.xor_lt_two_pow hb (by omega)) this)

/-- What ends in so many noughts goes down by so many places. -/
theorem bits_shift : ∀ (k n : Nat), bits k (n * 2 ^ k) = n
  | 0, n => by simp [bits]
  | k + 1, n => by
    simp only [bits]
    have : bit (n * 2 ^ (k + 1)) = n * 2 ^ k := by
      unfold bit
      rw [Nat.pow_succ, ← Nat.mul_assoc, if_neg (by omega)]
      omega
    rw [this]
    exact bits_shift k n

/-- The difference of two sums over strings of one length is the sum, from the difference of what they began with, over the differences of the bytes. -/
def diff : Nat → List UInt8 → List UInt8 → Nat
  | d, [], _ => d
  | d, _, [] => d
  | d, x :: a, y :: b => diff (bits 8 (d ^^^ (x.toNat ^^^ y.toNat))) a b
theorem diff_run : ∀ (a b : List UInt8) (m n : Nat), a.length = b.length → run m a ^^^ run n b = diff (m ^^^ n) a b
  | [], [], _, _, _ => rfl
  | [], _ :: _, _, _, h => by simp at h
  | _ :: _, [], _, _, h => by simp at h
  | x :: a, y :: b, m, n, h => by
    have ih := diff_run a b (step m x.toNat) (step n y.toNat) (by simpa using h)
    have e : step m x.toNat ^^^ step n y.toNat = bits 8 (m ^^^ n ^^^ (x.toNat ^^^ y.toNat)) := by
      unfold step
      rw [← bits_xor]
      generalize x.toNat = p
      generalize y.toNat = q
      rw [show m ^^^ p ^^^ (n ^^^ q) = m ^^^ n ^^^ (p ^^^ q) from by
        rw [Nat.xor_assoc, Nat.xor_assoc, Nat.xor_comm p, Nat.xor_assoc n, Nat.xor_comm q]]
    show run (step m x.toNat) a ^^^ run (step n y.toNat) b = diff (bits 8 (m ^^^ n ^^^ (x.toNat ^^^ y.toNat))) a b
    rw [ih, e]

theorem xor_eq_zero {a b : Nat} (h : a ^^^ b = 0) : a = b := by
  have : a ^^^ b = b ^^^ b := by rw [h, Nat.xor_self]
  exact xor_cancel this

theorem shl_xor (a b k : Nat) (ha : a < 2 ^ k) : a ^^^ b * 2 ^ k = a + b * 2 ^ k := by
  apply Nat.eq_of_testBit_eq
  intro i
  rw [Nat.testBit_xor]
  by_cases hi : i < k
  · rw [Nat.testBit_mul_two_pow]
    simp only [Nat.not_le.2 hi, decide_false, Bool.false_and, Bool.xor_false]
    rw [Nat.add_comm, Nat.mul_comm, Nat.testBit_two_pow_mul_add _ ha]
    simp [hi]
  · rw [Nat.testBit_mul_two_pow, Nat.testBit_lt_two_pow (Nat.lt_of_lt_of_le ha (Nat.pow_le_pow_right (by omega) (by omega)))]
    rw [Nat.add_comm, Nat.mul_comm, Nat.testBit_two_pow_mul_add _ ha]
    simp [hi, Nat.le_of_not_lt hi]

theorem lift (k x c : Nat) : bits k x ^^^ c = bits k (x ^^^ c * 2 ^ k) := by rw [bits_xor, bits_shift]
/-- Four bytes' differences, one behind the other, are the sum over all of them at once. -/
theorem four (a b c d : Nat) (ha : a < 256) (hb : b < 256) (hc : c < 256) :
    bits 8 (bits 8 (bits 8 (bits 8 a ^^^ b) ^^^ c) ^^^ d) = bits 32 (a + b * 2 ^ 8 + c * 2 ^ 16 + d * 2 ^ 24) := by
  rw [lift 8 a b, ← bits_add, lift (8 + 8) _ c, ← bits_add, lift (8 + 8 + 8) _ d, ← bits_add]
  rw [shl_xor a b 8 (by omega), shl_xor _ c (8 + 8) (by omega), shl_xor _ d (8 + 8 + 8) (by omega)]
end Go.Proofs.Ytgdkchjicggdlaa.Crc
