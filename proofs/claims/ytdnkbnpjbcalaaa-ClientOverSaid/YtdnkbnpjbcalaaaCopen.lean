/- What the rows of the Client laws lean on: their arguments, opened. -/
import Derived.Test.YtdnkbnpjbcalaaaCwo
import Derived.WalkKit
import Derived.ProofKit
import Derived.OpenShut
import Derived.ShutString
import Derived.ChangeOld
import Derived.Below
import Derived.SizedLaws
import Derived.Deep.Slices
import Derived.Deep.Fields
import Derived.ChangeSame
namespace Go.Proofs.Ytdnkbnpjbcalaaa
open Go.ChangeShapes Go.WideShapes Go.Deep Go.RowKit
theorem own_ : ownKnob Try.prog.godebug = none := by kernel_rfl
theorem laidOut_ : laidOutB Try.prog = true := by kernel_rfl

theorem add_pos (a : Addr) (j : Nat) (hp : 0 < j) : a.add j = ⟨a.block, a.off + j, none⟩ := by unfold Addr.add; rw [if_neg (by omega)]
/-- A slice of whole numbers of a type, opened. -/
theorem ints_open {H : Type} {enc : TypeId × Value → H} {w : World} {base : Nat} {spare : Nat → Bool} {held : Bool} {fuel : Nat} {t e : TypeId} (ht : Try.prog.underlying t = some (.slice e)) (he : Try.prog.underlying e = some (.int .i64)) (hc : Try.prog.cellsOf e = 1) {A : Option Addr} {len cap : Nat} {x : DataW H × List MemPlace}
    (h : DataW.trod enc Try.prog w base spare held fuel t [.slice A len cap] = some x) : ∃ l : List Int, l.length = len ∧ (len ≤ 1000 → Ints w A l) := by
  rcases open_slice ht h with ⟨hcs, _⟩ | ⟨a, l', c', m, n, D, Pl, hcs, _, hl, hm, hmm, _, hi⟩
  · simp only [List.cons.injEq, Value.slice.injEq, and_true] at hcs
    obtain ⟨rfl, rfl, rfl⟩ := hcs
    exact ⟨[], rfl, fun _ => Ints.nil _ _⟩
  · simp only [List.cons.injEq, Value.slice.injEq, and_true] at hcs
    obtain ⟨rfl, rfl, rfl⟩ := hcs
    have hle : len ≤ m := by rw [hmm]; split <;> omega
    have key : ∀ i, i < len → ∃ z : Int, w.cell? (a.add i) = some (.int .i64 z) := by
      intro i hil
      obtain ⟨cs', hcc, htt⟩ := hi i (by omega)
      rw [hc, Nat.mul_one] at hcc
      obtain ⟨_, hcl, hat⟩ := World.cells?_some hcc
      obtain ⟨v, rfl⟩ := List.length_eq_one_iff.1 hcl
      have h0 := hat 0 (by omega)
      have hadd : (a.add i).add 0 = a.add i := by rw [Go.Deep.add_add, Nat.add_zero]
      rw [hadd] at h0
      obtain ⟨z, e0, _, _⟩ := DataW.trod_int he htt
      simp only [List.cons.injEq, and_true] at e0
      subst e0
      exact ⟨z, by simpa using h0⟩
    obtain ⟨f, hf⟩ : ∃ f : Nat → Int, ∀ i, i < len → w.cell? (a.add i) = some (.int .i64 (f i)) := by
      refine ⟨fun i => if h : i < len then (key i h).choose else 0, fun i h => ?_⟩
      simp only [dif_pos h]
      exact (key i h).choose_spec
    have hlen : ((List.range len).map f).length = len := by rw [List.length_map, List.length_range]
    refine ⟨(List.range len).map f, hlen, fun hb => ⟨by omega, fun k hk => ⟨a, rfl, ?_⟩⟩⟩
    have hkl : k < len := by omega
    rw [List.getElem_map, List.getElem_range]
    exact hf k hkl

theorem ops_open {H : Type} {enc : TypeId × Value → H} {w : World} {base : Nat} {spare : Nat → Bool} {held : Bool} {fuel : Nat} {A : Option Addr} {len cap : Nat} {x : DataW H × List MemPlace}
    (h : DataW.trod enc Try.prog w base spare held fuel 22 [.slice A len cap] = some x) : ∃ l : List OpV, l.length = len ∧ OpsAt w A l := by
  have hce : Try.prog.cellsOf 39 = 11 := by kernel_rfl
  rcases open_slice Try.underlying22 h with ⟨hcs, _⟩ | ⟨a, l', c', m, n, D, Pl, hcs, _, hl, hm, hmm, _, hi⟩
  · simp only [List.cons.injEq, Value.slice.injEq, and_true] at hcs
    obtain ⟨rfl, rfl, rfl⟩ := hcs
    exact ⟨[], rfl, by simp, fun k hk => by simp at hk⟩
  · simp only [List.cons.injEq, Value.slice.injEq, and_true] at hcs
    obtain ⟨rfl, rfl, rfl⟩ := hcs
    have hle : len ≤ m := by rw [hmm]; split <;> omega
    have key : ∀ i, i < len → ∃ o : OpV, OpAt w (a.add (i * 11)) o := by
      intro i hil
      obtain ⟨cs', hcc, htt⟩ := hi i (by omega)
      rw [hce] at hcc
      obtain ⟨_, hcl, hat⟩ := World.cells?_some hcc
      obtain ⟨ys, n', _, _, _, hyl, hf⟩ := DataW.trod_struct Try.underlying39 htt
      have t0 : DataW.trod enc Try.prog w base spare held n' 3 ((cs'.drop 0).take (Try.prog.cellsOf 3)) = ys[0]? := hf 0 _ rfl
      have t1 : DataW.trod enc Try.prog w base spare held n' 3 ((cs'.drop 1).take (Try.prog.cellsOf 3)) = ys[1]? := hf 1 _ rfl
      have t2 : DataW.trod enc Try.prog w base spare held n' 9 ((cs'.drop 2).take (Try.prog.cellsOf 9)) = ys[2]? := hf 2 _ rfl
      have hc3 : Try.prog.cellsOf 3 = 1 := by kernel_rfl
      have hc9 : Try.prog.cellsOf 9 = 1 := by kernel_rfl
      rw [List.getElem?_eq_getElem (by rw [hyl]; decide)] at t0
      rw [List.getElem?_eq_getElem (by rw [hyl]; decide)] at t1
      rw [List.getElem?_eq_getElem (by rw [hyl]; decide)] at t2
      have one : ∀ j, j < cs'.length → (cs'.drop j).take 1 = [cs'.getD j undef] := fun j hj => by
        rw [List.drop_eq_getElem_cons hj, List.getD_eq_getElem?_getD, List.getElem?_eq_getElem hj]
        rfl
      rw [hc3, one _ (by omega)] at t0
      rw [hc3, one _ (by omega)] at t1
      rw [hc9, one _ (by omega)] at t2
      obtain ⟨z0, e0, _, _⟩ := DataW.trod_int Try.underlying3 t0
      obtain ⟨z1, e1, _, _⟩ := DataW.trod_int Try.underlying3 t1
      obtain ⟨s, e2, _, _⟩ := DataW.trod_string Try.underlying9 t2
      simp only [List.cons.injEq, and_true] at e0 e1 e2
      have cat : ∀ j, j < 11 → 0 < j → w.cell? ⟨(a.add (i * 11)).block, (a.add (i * 11)).off + j, none⟩ = some (cs'.getD j undef) := fun j hj hp => by
        have := hat j hj
        rw [List.getElem?_eq_getElem (by omega)] at this
        rw [List.getD_eq_getElem?_getD, List.getElem?_eq_getElem (by omega)]
        rw [← add_pos _ _ hp]
        exact this
      refine ⟨⟨z0, z1, s, fun q => cs'.getD (3 + q.val) undef⟩, ?_, ?_, ?_, fun q => ?_⟩
      · have := hat 0 (by omega)
        rw [show (a.add (i * 11)).add 0 = a.add (i * 11) from by rw [Go.Deep.add_add, Nat.add_zero], List.getElem?_eq_getElem (by omega)] at this
        rw [this]
        rw [List.getD_eq_getElem?_getD, List.getElem?_eq_getElem (by omega)] at e0
        exact congrArg some e0
      · rw [cat 1 (by omega) (by omega)]; exact congrArg some e1
      · rw [cat 2 (by omega) (by omega)]; exact congrArg some e2
      · have := cat (3 + q.val) (by omega) (by omega)
        rw [← Nat.add_assoc] at this
        exact this
    obtain ⟨f, hf⟩ : ∃ f : Nat → OpV, ∀ i, i < len → OpAt w (a.add (i * 11)) (f i) := by
      refine ⟨fun i => if h : i < len then (key i h).choose else ⟨0, 0, ⟨#[]⟩, fun _ => undef⟩, fun i h => ?_⟩
      simp only [dif_pos h]
      exact (key i h).choose_spec
    have hlen : ((List.range len).map f).length = len := by rw [List.length_map, List.length_range]
    refine ⟨(List.range len).map f, hlen, by rw [hlen]; unfold maxLen at hm; omega, fun k hk => ⟨a, rfl, ?_⟩⟩
    have hkl : k < len := by omega
    rw [List.getElem_map, List.getElem_range]
    exact hf k hkl
end Go.Proofs.Ytdnkbnpjbcalaaa
