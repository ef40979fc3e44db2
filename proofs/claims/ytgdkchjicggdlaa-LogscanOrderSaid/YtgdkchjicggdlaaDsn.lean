/- A new disk: slices.Repeat at strings. -/
import Derived.Test.YtgdkchjicggdlaaDsw
import Derived.Test.YtgdkchjicggdlaaShelf
import Derived.Laws.CopyOwn
import Derived.Deep.RegionHeld3
import Derived.Deep.DrawnRows
namespace Go.Proofs.Ytgdkchjicggdlaa
attribute [local go_sem ↓] Go.wp_at_zero Go.wp_at_succ
open Go.RowKit Go.Proofs.YtgdkchjicggdlaaW.PrintWords

def half (z : ByteArray) (n j : Nat) : List Value := List.replicate j (.string z) ++ List.replicate (n - j) (.string ⟨#[]⟩)
theorem half_len (z : ByteArray) (n j : Nat) (h : j ≤ n) : (half z n j).length = n := by unfold half; simp; omega
theorem half_copy (z : ByteArray) (n j m : Nat) : splice (half z n j) j (List.replicate m (.string z)) = half z n (j + m) := by
  unfold splice half
  rw [List.take_left' (by simp), List.drop_append]
  simp
  rw [← List.append_assoc, List.replicate_append_replicate, show n - j - m = n - (j + m) from by omega]
theorem made_str (w : World) (n : Nat) (hn : n ≤ 1000) : (Instr.makeSlice 107 (.int .i64 n) (.int .i64 n)).run Try.prog w = .ok (.slice (some ⟨w.heap.size, 0, none⟩) n n) (w.alloc (.cells (half ⟨#[]⟩ n 0).toArray 9)) := by
  obtain ⟨i, hi, hz0, hz1, hz2⟩ := info_parts (show (Try.prog.info? 9).map (fun i => (i.zero, i.size, i.bytes)) = some (some (.string ⟨#[]⟩), 1, 16) from by kernel_rfl)
  have h := run_make (P := Try.prog) w 107 9 i (.string ⟨#[]⟩) Try.underlying107 hi hz0 .i64 .i64 n n (by omega) (by omega) (by rw [hz2]; omega) (by omega)
  rw [h, hz1]
  have e : madeCells (Value.string ⟨#[]⟩).cells (Int.toNat (n : Int) * 1) = (half ⟨#[]⟩ n 0).toArray := by
    unfold half
    simp only [Value.cells, madeCells]
    apply Array.ext'
    simp [Array.toList_map, Array.toList_range]
    apply List.eq_replicate_iff.2
    refine ⟨by simp, fun b hb => ?_⟩
    obtain ⟨a, _, rfl⟩ := List.mem_map.1 hb
    rw [Nat.mod_one]
    rfl
  rw [e]
  rfl

set_option maxRecDepth 100000 in
set_option maxHeartbeats 1000000 in
theorem sl_repeat (xb : Nat) (z : ByteArray) (n : Nat) (w : World) (h1 : 1 ≤ n) (hn : n ≤ 1000) (hx : w.cell? ⟨xb, 0, none⟩ = some (.string z)) :
    Calls Try.prog 66 #[.slice (some ⟨xb, 0, none⟩) 1 1, .int .i64 n] w fun e w' => ∃ g, e = .returned (.slice (some ⟨g, 0, none⟩) n n) ∧ w.heap.size ≤ g ∧ Blk w' g (half z n n).toArray 9 ∧ Below w.heap.size w w' := by
  have hmk := fun w => made_str w n hn
  have HX := Lib.hid hx
  have hxl := World.block_lt_of_cell? w _ hx
  clear hx
  go_enter Try.func66, Try.ntmps66
  have hsz : (Try.prog.info? 9).map (·.size) = some 1 := by kernel_rfl
  go_wp2_with (first
    | (go_at_call 74; refine (Try.bits_Mul 1 n (by omega) (by omega) _).mono ?_; rintro e w1 ⟨rfl, rfl⟩; rw [Nat.one_mul, Nat.div_eq_of_lt (by omega), Nat.mod_eq_of_lt (by omega)])
    | (refine wpList_copy_splice (o := ⟨some 33, _, _, _, _, _⟩) rfl (.tmp 31) (.tmp 32) 107 107 rfl 9 Try.underlying107 hsz _ _ n n 1 1 rfl rfl _ 0 (half ⟨#[]⟩ n 0) 9 (heap_alloc_new _ _) [.string z] ?_ ?_ ?_ ?_ _ _ ((Below.refl _ _).alloc (Nat.le_refl _) _) (Nat.le_refl _) ?_))
  · exact (Nat.min_eq_left h1).symm
  · intro j v hj
    obtain rfl : j = 0 := by
      cases j with
      | zero => rfl
      | succ j => simp at hj
    obtain rfl : Value.string z = v := by simpa using hj
    exact HX.out
  · rw [half_len _ _ _ (Nat.zero_le _)]; simp; try omega
  · intro v hv; simp at hv; subst hv; rfl
  intro w2 hg2 hb2
  have HG2 := Lib.hid (show Blk w2 w1.heap.size (half z n 1).toArray 9 from by
    have e : splice (half ⟨#[]⟩ n 0) 0 [Value.string z] = half z n 1 := by
      have := half_copy z n 0 1
      rw [Nat.zero_add] at this
      exact this
    have h := hg2.out
    rw [e] at h
    exact h)
  have HB2 := Lib.hid hb2
  clear hg2 hb2 hmk
  go_wp2
  go_loopw [8] (fun i wr => ∃ j : Nat, 1 ≤ j ∧ j ≤ n ∧ i = .int .i64 j ∧ Blk wr w1.heap.size (half z n j).toArray 9 ∧ Below w1.heap.size w1 wr) (fun i _ => n - (intOf i).toNat)
  case atStart => exact ⟨1, by omega, h1, rfl, HG2.out, HB2.out⟩
  case round =>
    obtain ⟨j, hj1, hjn, rfl, hg, hb⟩ := hrel
    have HG := Lib.hid hg
    have HB := Lib.hid hb
    clear hg hb
    by_cases hlt : j < n
    · have hne : ¬ n = j := by omega
      have h1' : (List.replicate (Nat.min j (n - j)) (Value.string z)).length = Nat.min j (n - j) := List.length_replicate
      have h2' : j + (List.replicate (Nat.min j (n - j)) (Value.string z)).length ≤ (half z n j).length := by
        rw [h1', half_len z n j hjn]
        have : Nat.min j (n - j) ≤ n - j := Nat.min_le_right _ _
        omega
      have h3' : ∀ i v, (List.replicate (Nat.min j (n - j)) (Value.string z))[i]? = some v → wr.drew.cell? ((⟨w1.heap.size, 0, none⟩ : Addr).add i) = some v := by
        intro i v hi
        rw [List.getElem?_replicate] at hi
        split at hi
        · rename_i hlt'
          have : Nat.min j (n - j) ≤ j := Nat.min_le_left _ _
          rw [show (⟨w1.heap.size, 0, none⟩ : Addr).add i = ⟨w1.heap.size, i, none⟩ from by unfold Addr.add; split <;> simp_all]
          refine Eq.trans (HG.out.cell (i := i) (v := .string z) ?_) hi
          unfold half
          rw [List.getElem?_toArray, List.getElem?_append_left (by rw [List.length_replicate]; omega), List.getElem?_replicate, if_pos (by omega)]
        · simp at hi
      have h4' : ∀ v ∈ List.replicate (Nat.min j (n - j)) (Value.string z), v.oneCell' = true := fun v hv => by rw [List.eq_of_mem_replicate hv]; rfl
      go_wp2
      go_region_held3 (fun _ => True) (trivial) ((refine step_copy_splice (by rfl) (.tmp 41) (.tmp 44) 107 107 (by rfl) 9 Try.underlying107 hsz (some ⟨w1.heap.size, j, none⟩) (some ⟨w1.heap.size, 0, none⟩) (n - j) (n - j) j n (by rfl) (by rfl) w1.heap.size j (half z n j) 9 HG.out _ h1' (fun _ => ⟨rfl, _, rfl, h3'⟩) h2' h4' w1.heap.size w1 HB.out.drew (Nat.le_refl _) ?_; intro w4 hg4 hb4))
      rw [half_copy] at hg4
      have hmn : Nat.min j (n - j) ≤ n - j := Nat.min_le_right _ _
      have hmp : 1 ≤ Nat.min j (n - j) := Nat.le_min.2 ⟨hj1, by omega⟩
      rw [show IntKind.i64.wrap ((j : Int) + (Nat.min j (n - j) : Nat)) = ((j + Nat.min j (n - j) : Nat) : Int) from (IntWalk.i64_in _ ⟨by omega, by omega⟩).trans rfl]
      clear h1' h2' h3' h4'
      generalize Nat.min j (n - j) = m at *
      go_wp2
      go_roundw
      case rel => exact ⟨j + m, by omega, by omega, rfl, hg4.out, hb4⟩
      case measure => simp [intOf]; omega
    · obtain rfl : j = n := by omega
      go_wp2
      go_ret
      exact ⟨_, rfl, Nat.le_refl _, HG.out, HB.out⟩
end Go.Proofs.Ytgdkchjicggdlaa
