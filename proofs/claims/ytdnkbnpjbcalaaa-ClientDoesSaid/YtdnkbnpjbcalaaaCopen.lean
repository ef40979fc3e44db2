/- What the rows of the Client laws lean on: their arguments, opened. -/
import Derived.Test.YtdnkbnpjbcalaaaCwo
import Derived.WalkKit
import Derived.ProofKit
import Derived.OpenShut
import Derived.ShutString
import Derived.ChangeOld
import Derived.Below
import Derived.SizedLaws
import Derived.Deep.Slices
import Derived.Deep.Fields
import Derived.ChangeSame
namespace Go.Proofs.Ytdnkbnpjbcalaaa
open Go.ChangeShapes Go.WideShapes Go.Deep Go.RowKit
theorem own_ : ownKnob Try.prog.godebug = none := by kernel_rfl
theorem laidOut_ : laidOutB Try.prog = true := by kernel_rfl

theorem add_pos (a : Addr) (j : Nat) (hp : 0 < j) : a.add j = ⟨a.block, a.off + j, none⟩ := by unfold Addr.add; rw [if_neg (by omega)]
/-- A slice of whole numbers of a type, opened. -/
theorem ints_open {H : Type} {enc : TypeId × Value → H} {w : World} {base : Nat} {spare : Nat → Bool} {held : Bool} {fuel : Nat} {t e : TypeId} (ht : Try.prog.underlying t = some (.slice e)) (he : Try.prog.underlying e = some (.int .i64)) (hc : Try.prog.cellsOf e = 1) {A : Option Addr} {len cap : Nat} {x : DataW H × List MemPlace}
    (h : DataW.trod enc Try.prog w base spare held fuel t [.slice A len cap] = some x) : ∃ l : List Int, l.length = len ∧ (len ≤ 1000 → Ints w A l) := by
  rcases open_slice ht h with ⟨hcs, _⟩ | ⟨a, l', c', m, n, D, Pl, hcs, _, hl, hm, hmm, _, hi⟩
  · simp only [List.cons.injEq, Value.slice.injEq, and_true] at hcs
    obtain ⟨rfl, rfl, rfl⟩ := hcs
    exact ⟨[], rfl, fun _ => Ints.nil _ _⟩
  · simp only [List.cons.injEq, Value.slice.injEq, and_true] at hcs
    obtain ⟨rfl, rfl, rfl⟩ := hcs
    have hle : len ≤ m := by rw [hmm]; split <;> omega
    have key : ∀ i, i < len → ∃ z : Int, w.cell? (a.add i) = some (.int .i64 z) := by
      intro i hil
      obtain ⟨cs', hcc, htt⟩ := hi i (by omega)
      rw [hc, Nat.mul_one] at hcc
      obtain ⟨_, hcl, hat⟩ := World.cells?_some hcc
      obtain ⟨v, rfl⟩ := List.length_eq_one_iff.1 hcl
      have h0 := hat 0 (by omega)
      have hadd : (a.add i).add 0 = a.add i := by rw [Go.Deep.add_add, Nat.add_zero]
      rw [hadd] at h0
      obtain ⟨z, e0, _, _⟩ := DataW.trod_int he htt
      simp only [List.cons.injEq, and_true] at e0
      subst e0
      exact ⟨z, by simpa using h0⟩
    obtain ⟨f, hf⟩ : ∃ f : Nat → Int, ∀ i, i < len → w.cell? (a.add i) = some (.int .i64 (f i)) := by
      refine ⟨fun i => if h : i < len then (key i h).choose else 0, fun i h => ?_⟩
      simp only [dif_pos h]
      exact (key i h).choose_spec
    have hlen : ((List.range len).map f).length = len := by rw [List.length_map, List.length_range]
    refine ⟨(List.range len).map f, hlen, fun hb => ⟨by omega, fun k hk => ⟨a, rfl, ?_⟩⟩⟩
    have hkl : k < len := by omega
    rw [List.getElem_map, List.getElem_range]
    exact hf k hkl

theorem ops_open {H : Type} {enc : TypeId × Value → H} {w : World} {base : Nat} {spare : Nat → Bool} {held : Bool} {fuel : Nat} {A : Option Addr} {len cap : Nat} {x : DataW H × List MemPlace}
    (h : DataW.trod enc Try.prog w base spare held fuel 22 [.slice A len cap] = some x) : ∃ l : List OpV, l.length = len ∧ OpsAt w A l := by
  have hce : Try.prog.cellsOf 39 = 11 := by kernel_rfl
  rcases open_slice Try.underlying22 h with ⟨hcs, _⟩ | ⟨a, l', c', m, n, D, Pl, hcs, _, hl, hm, hmm, _, hi⟩
  · simp only [List.cons.injEq, Value.slice.injEq, and_true] at hcs
    obtain ⟨rfl, rfl, rfl⟩ := hcs
    exact ⟨[], rfl, by simp, fun k hk => by simp at hk⟩
  · simp only [List.cons.injEq, Value.slice.injEq, and_true] at hcs
    obtain ⟨rfl, rfl, rfl⟩ := hcs
    have hle : len ≤ m := by rw [hmm]; split <;> omega
    have key : ∀ i, i < len → ∃ o : OpV, OpAt w (a.add (i * 11)) o := by
      intro i hil
      obtain ⟨cs', hcc, htt⟩ := hi i (by omega)
      rw [hce] at hcc
      obtain ⟨_, hcl, hat⟩ := World.cells?_some hcc
      obtain ⟨ys, n', _, _, _, hyl, hf⟩ := DataW.trod_struct Try.underlying39 htt
      have t0 : DataW.trod enc Try.prog w base spare held n' 3 ((cs'.drop 0).take (Try.prog.cellsOf 3)) = ys[0]? := hf 0 _ rfl
      have t1 : DataW.trod enc Try.prog w base spare held n' 3 ((cs'.drop 1).take (Try.prog.cellsOf 3)) = ys[1]? := hf 1 _ rfl
      have t2 : DataW.trod enc Try.prog w base spare held n' 9 ((cs'.drop 2).take (Try.prog.cellsOf 9)) = ys[2]? := hf 2 _ rfl
      have hc3 : Try.prog.cellsOf 3 = 1 := by kernel_rfl
      have hc9 : Try.prog.cellsOf 9 = 1 := by kernel_rfl
      rw [List.getElem?_eq_getElem (by rw [hyl]; decide)] at t0
      rw [List.getElem?_eq_getElem (by rw [hyl]; decide)] at t1
      rw [List.getElem?_eq_getElem (by rw [hyl]; decide)] at t2
      have one : ∀ j, j < cs'.length → (cs'.drop j).take 1 = [cs'.getD j undef] := fun j hj => by
        rw [List.drop_eq_getElem_cons hj, List.getD_eq_getElem?_getD, List.getElem?_eq_getElem hj]
        rfl
      rw [hc3, one _ (by omega)] at t0
      rw [hc3, one _ (by omega)] at t1
      rw [hc9, one _ (by omega)] at t2
      obtain ⟨z0, e0, _, _⟩ := DataW.trod_int Try.underlying3 t0
      obtain ⟨z1, e1, _, _⟩ := DataW.trod_int Try.underlying3 t1
      obtain ⟨s, e2, _, _⟩ := DataW.trod_string Try.underlying9 t2
      simp only [List.cons.injEq, and_true] at e0 e1 e2
      have cat : ∀ j, j < 11 → 0 < j → w.cell? ⟨(a.add (i * 11)).block, (a.add (i * 11)).off + j, none⟩ = some (cs'.getD j undef) := fun j hj hp => by
        have := hat j hj
        rw [List.getElem?_eq_getElem (by omega)] at this
        rw [List.getD_eq_getElem?_getD, List.getElem?_eq_getElem (by omega)]
        rw [← add_pos _ _ hp]
        exact this
      have t3 : DataW.trod enc Try.prog w base spare held n' 37 ((cs'.drop 3).take (Try.prog.cellsOf 37)) = ys[3]? := hf 3 _ rfl
      rw [List.getElem?_eq_getElem (by rw [hyl]; decide)] at t3
      obtain ⟨zs, n3, _, _, _, hzl, hg⟩ := DataW.trod_struct Try.underlying37 t3
      have hca : Try.prog.cellsOf 37 = 8 := by kernel_rfl
      have hcc4 : Try.prog.cellsOf 35 = 4 := by kernel_rfl
      have hcs : Try.prog.cellsOf 24 = 1 := by kernel_rfl
      have u0 : DataW.trod enc Try.prog w base spare held n3 3 ((((cs'.drop 3).take (Try.prog.cellsOf 37)).drop 0).take (Try.prog.cellsOf 3)) = zs[0]? := hg 0 _ rfl
      have u1 : DataW.trod enc Try.prog w base spare held n3 3 ((((cs'.drop 3).take (Try.prog.cellsOf 37)).drop 1).take (Try.prog.cellsOf 3)) = zs[1]? := hg 1 _ rfl
      have u2 : DataW.trod enc Try.prog w base spare held n3 3 ((((cs'.drop 3).take (Try.prog.cellsOf 37)).drop 2).take (Try.prog.cellsOf 3)) = zs[2]? := hg 2 _ rfl
      have u3 : DataW.trod enc Try.prog w base spare held n3 35 ((((cs'.drop 3).take (Try.prog.cellsOf 37)).drop 3).take (Try.prog.cellsOf 35)) = zs[3]? := hg 3 _ rfl
      have u4 : DataW.trod enc Try.prog w base spare held n3 24 ((((cs'.drop 3).take (Try.prog.cellsOf 37)).drop 7).take (Try.prog.cellsOf 24)) = zs[4]? := hg 4 _ rfl
      rw [List.getElem?_eq_getElem (by rw [hzl]; decide)] at u0
      rw [List.getElem?_eq_getElem (by rw [hzl]; decide)] at u1
      rw [List.getElem?_eq_getElem (by rw [hzl]; decide)] at u2
      rw [List.getElem?_eq_getElem (by rw [hzl]; decide)] at u3
      rw [List.getElem?_eq_getElem (by rw [hzl]; decide)] at u4
      obtain ⟨qs, n4, _, _, _, hql, hk⟩ := DataW.trod_struct Try.underlying35 u3
      have x0 : DataW.trod enc Try.prog w base spare held n4 3 ((((((cs'.drop 3).take (Try.prog.cellsOf 37)).drop 3).take (Try.prog.cellsOf 35)).drop 0).take (Try.prog.cellsOf 3)) = qs[0]? := hk 0 _ rfl
      have x1 : DataW.trod enc Try.prog w base spare held n4 3 ((((((cs'.drop 3).take (Try.prog.cellsOf 37)).drop 3).take (Try.prog.cellsOf 35)).drop 1).take (Try.prog.cellsOf 3)) = qs[1]? := hk 1 _ rfl
      have x2 : DataW.trod enc Try.prog w base spare held n4 3 ((((((cs'.drop 3).take (Try.prog.cellsOf 37)).drop 3).take (Try.prog.cellsOf 35)).drop 2).take (Try.prog.cellsOf 3)) = qs[2]? := hk 2 _ rfl
      have x3 : DataW.trod enc Try.prog w base spare held n4 9 ((((((cs'.drop 3).take (Try.prog.cellsOf 37)).drop 3).take (Try.prog.cellsOf 35)).drop 3).take (Try.prog.cellsOf 9)) = qs[3]? := hk 3 _ rfl
      rw [List.getElem?_eq_getElem (by rw [hql]; decide)] at x0
      rw [List.getElem?_eq_getElem (by rw [hql]; decide)] at x1
      rw [List.getElem?_eq_getElem (by rw [hql]; decide)] at x2
      rw [List.getElem?_eq_getElem (by rw [hql]; decide)] at x3
      have e11 : ∃ c0 c1 c2 c3 c4 c5 c6 c7 c8 c9 c10, cs' = [c0, c1, c2, c3, c4, c5, c6, c7, c8, c9, c10] := by
        match cs', hcl with
        | [c0, c1, c2, c3, c4, c5, c6, c7, c8, c9, c10], _ => exact ⟨_, _, _, _, _, _, _, _, _, _, _, rfl⟩
      obtain ⟨y0, y1, y2, y3, y4, y5, y6, y7, y8, y9, y10, rfl⟩ := e11
      rw [hca, hc3] at u0 u1 u2
      rw [hca, hcs] at u4
      rw [hca, hcc4, hc3] at x0 x1 x2
      rw [hca, hcc4, hc9] at x3
      obtain ⟨p0, f0, _, _⟩ := DataW.trod_int Try.underlying3 u0
      obtain ⟨p1, f1, _, _⟩ := DataW.trod_int Try.underlying3 u1
      obtain ⟨p2, f2, _, _⟩ := DataW.trod_int Try.underlying3 u2
      obtain ⟨p3, f3, _, _⟩ := DataW.trod_int Try.underlying3 x0
      obtain ⟨p4, f4, _, _⟩ := DataW.trod_int Try.underlying3 x1
      obtain ⟨p5, f5, _, _⟩ := DataW.trod_int Try.underlying3 x2
      obtain ⟨ps, f6, _, _⟩ := DataW.trod_string Try.underlying9 x3
      obtain ⟨pC, pn, pc, f7⟩ : ∃ C n c, [y10] = [Value.slice C n c] := by
        rcases open_slice Try.underlying24 u4 with ⟨hcs, _⟩ | ⟨a', l', c', m', nn, D', Pl', hcs, _⟩
        · exact ⟨_, _, _, hcs⟩
        · exact ⟨_, _, _, hcs⟩
      simp only [List.drop_succ_cons, List.drop_zero, List.take_succ_cons, List.take_zero, List.cons.injEq, and_true] at f0 f1 f2 f3 f4 f5 f6 f7
      refine ⟨⟨z0, z1, s, p0, p1, p2, p3, p4, p5, ps, pC, pn, pc⟩, ?_, ?_, ?_, ?_, ?_, ?_, ?_, ?_, ?_, ?_, ?_⟩
      · have := hat 0 (by omega)
        rw [show (a.add (i * 11)).add 0 = a.add (i * 11) from by rw [Go.Deep.add_add, Nat.add_zero]] at this
        rw [this]
        exact congrArg some e0
      · rw [cat 1 (by omega) (by omega)]; exact congrArg some e1
      · rw [cat 2 (by omega) (by omega)]; exact congrArg some e2
      · rw [cat 3 (by omega) (by omega)]; exact congrArg some f0
      · rw [cat 4 (by omega) (by omega)]; exact congrArg some f1
      · rw [cat 5 (by omega) (by omega)]; exact congrArg some f2
      · rw [cat 6 (by omega) (by omega)]; exact congrArg some f3
      · rw [cat 7 (by omega) (by omega)]; exact congrArg some f4
      · rw [cat 8 (by omega) (by omega)]; exact congrArg some f5
      · rw [cat 9 (by omega) (by omega)]; exact congrArg some f6
      · rw [cat 10 (by omega) (by omega)]; exact congrArg some f7
    obtain ⟨f, hf⟩ : ∃ f : Nat → OpV, ∀ i, i < len → OpAt w (a.add (i * 11)) (f i) := by
      refine ⟨fun i => if h : i < len then (key i h).choose else ⟨0, 0, ⟨#[]⟩, 0, 0, 0, 0, 0, 0, ⟨#[]⟩, none, 0, 0⟩, fun i h => ?_⟩
      simp only [dif_pos h]
      exact (key i h).choose_spec
    have hlen : ((List.range len).map f).length = len := by rw [List.length_map, List.length_range]
    refine ⟨(List.range len).map f, hlen, by rw [hlen]; unfold maxLen at hm; omega, fun k hk => ⟨a, rfl, ?_⟩⟩
    have hkl : k < len := by omega
    rw [List.getElem_map, List.getElem_range]
    exact hf k hkl
end Go.Proofs.Ytdnkbnpjbcalaaa
