/- What the reference's Get comes to: what is refused at once. -/
import Derived.Test.YtgdkchjicggdlaaRfe
import Derived.Deep.AppendLies
import Derived.Deep.RegionHeld3
namespace Go.Proofs.Ytgdkchjicggdlaa
open Go.RowKit Go.Proofs.YtgdkchjicggdlaaW.PrintWords

set_option maxRecDepth 100000 in
set_option maxHeartbeats 1000000 in
theorem r11_get_size (s : List UInt8) (w : World) (hs : s.length ≤ maxLen) (h : s.length < 64 ∨ s.length % 64 ≠ 0) :
    Calls Try.prog 14 #[.string (mkS s)] w fun e w' => e = .returned (.tuple #[.int .i64 0, .slice none 0 0, .int .i64 12]) ∧ Below w.heap.size w w' := by
  unfold maxLen at hs
  have hz : (mkS s).size = s.length := rfl
  have hml := mkS_toList
  by_cases h1 : s.length = 0
  · obtain rfl : s = [] := List.length_eq_zero_iff.1 h1
    clear h
    go_enter Try.func14, Try.ntmps14
    go_wp2
    go_ret3
    exact ⟨rfl, Below.refl _ _⟩
  · have hb : (s == []) = false := by rw [beq_eq_false_iff_ne]; rintro rfl; exact h1 rfl
    have hm : ((s.length : Int) % 64 != 0) = true := by simp; omega
    clear h
    go_enter Try.func14, Try.ntmps14
    go_wp2
    go_ret3
    exact ⟨rfl, Below.refl _ _⟩

theorem num_one (s : List UInt8) (i : Nat) (h : i < s.length) : Fld.num ((s.drop i).take 1) = s[i].toNat := by
  have e : (s.drop i).take 1 = [s[i]] := by rw [List.drop_eq_getElem_cons h]; rfl
  rw [e]
  simp [Fld.num]

theorem take_one (s : List UInt8) (h : 0 < s.length) : s.take 1 = [s[0]] := by cases s with
  | nil => simp at h
  | cons a r => rfl

set_option maxRecDepth 100000 in
set_option maxHeartbeats 1000000 in
theorem r11_get_form (s : List UInt8) (n : Nat) (w : World) (hs : s.length ≤ maxLen) (hn : s.length = 64 * (n + 1)) (h : s.take 1 ≠ [82] ∨ Fld.num ((s.drop 7).take 1) ≠ n ∨ n < 1 ∨ 16 < n) :
    Calls Try.prog 14 #[.string (mkS s)] w fun e w' => e = .returned (.tuple #[.int .i64 0, .slice none 0 0, .int .i64 4]) ∧ Below w.heap.size w w' := by
  have HM := Lib.hid hs
  unfold maxLen at hs
  have hz : (mkS s).size = s.length := rfl
  have hml := mkS_toList
  have hb : (s == []) = false := by rw [beq_eq_false_iff_ne]; rintro rfl; simp at hn
  have hd : ((s.length : Int) / 64) = (n : Int) + 1 := by omega
  have hm : ((s.length : Int) % 64 != 0) = false := by simp; omega
  have hi0 : ∀ w, (Instr.index 9 (.string (mkS s)) (.int .i64 0)).run Try.prog w = .ok (.int .u8 s[0].toNat) w := fun w => byte_at s 0 (by omega) w
  have hi7 : ∀ w, (Instr.index 9 (.string (mkS s)) (.int .i64 7)).run Try.prog w = .ok (.int .u8 s[7].toNat) w := fun w => byte_at s 7 (by omega) w
  rw [num_one s 7 (by omega)] at h
  have h0 : s.take 1 = [82] ↔ s[0].toNat = 82 := by
    rw [take_one s (by omega)]
    constructor
    · intro h; injection h with h; rw [h]; rfl
    · intro h; congr 1; exact UInt8.toNat_inj.1 h
  have hc := s[7].toNat_lt
  have hc0 := s[0].toNat_lt
  generalize s[7].toNat = c at *
  generalize s[0].toNat = c0 at *
  by_cases h1 : c0 = 82
  · have HH : c ≠ n ∨ n < 1 ∨ 16 < n := by rcases h with h | h; exact absurd (h0.2 h1) h; exact h
    have hb1 : ((c0 : Int) != 82) = false := by simp; omega
    clear h h0
    by_cases h2 : c = n
    · subst h2
      have hbb : ((c : Int) != (c : Int)) = false := by simp
      by_cases h3 : c < 1
      · clear HH h1
        go_enter Try.func14, Try.ntmps14
        go_wp2
        go_ret3
        exact ⟨rfl, Below.refl _ _⟩
      · have h4 : 16 < c := by omega
        clear HH h1
        go_enter Try.func14, Try.ntmps14
        go_wp2
        go_ret3
        exact ⟨rfl, Below.refl _ _⟩
    · have hb2 : ((c : Int) != (n : Int)) = true := by simp; omega
      clear HH h1 h2
      go_enter Try.func14, Try.ntmps14
      go_wp2
      go_ret3
      exact ⟨rfl, Below.refl _ _⟩
  · have hb1 : ((c0 : Int) != 82) = true := by simp; omega
    clear h h0 h1
    go_enter Try.func14, Try.ntmps14
    go_wp2
    go_ret3
    exact ⟨rfl, Below.refl _ _⟩
end Go.Proofs.Ytgdkchjicggdlaa
