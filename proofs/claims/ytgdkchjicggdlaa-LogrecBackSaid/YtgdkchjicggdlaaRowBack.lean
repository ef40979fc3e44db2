/- LogrecBack holds: for every number, list of sectors, place and four bytes the law answers true. No condition. -/
import Derived.Test.YtgdkchjicggdlaaRows
import Derived.Test.YtgdkchjicggdlaaOpen
import Derived.Test.YtgdkchjicggdlaaLwb
namespace Go.Proofs.Ytgdkchjicggdlaa.back
open Go.ChangeShapes Go.WideShapes Go.ChangeAt Go.RowKit
open Go.ChangeMaps (open_string shut_string)
set_option linter.unusedVariables false

theorem byte_open {H : Type} {enc : TypeId × Value → H} {w : World} {base : Nat} {spare : Nat → Bool} {held : Bool} {fuel : Nat} {cs : List Value} {x : DataW H × List MemPlace}
    (h : DataW.trod enc Try.prog w base spare held fuel 5 cs = some x) : ∃ y : UInt8, cs = [bval y] := by
  obtain ⟨a, ea, _, wa⟩ := DataW.trod_int Try.underlying5 h
  have hw : (decide (IntKind.u8.min ≤ a) && decide (a ≤ IntKind.u8.max)) = true := wa
  rw [Bool.and_eq_true, decide_eq_true_eq, decide_eq_true_eq] at hw
  have h0 : 0 ≤ a := hw.1
  have h1 : a ≤ 255 := hw.2
  refine ⟨UInt8.ofNat a.toNat, ?_⟩
  rw [ea]
  unfold bval
  rw [UInt8.toNat_ofNat', Nat.mod_eq_of_lt (by omega)]
  rw [show ((a.toNat : Nat) : Int) = a from by omega]

theorem four_open {H : Type} {enc : TypeId × Value → H} {w : World} {base : Nat} {spare : Nat → Bool} {held : Bool} {fuel : Nat} {cs : List Value} {x : DataW H × List MemPlace}
    (h : DataW.trod enc Try.prog w base spare held fuel 36 cs = some x) : ∃ y0 y1 y2 y3 : UInt8, cs = [bval y0, bval y1, bval y2, bval y3] := by
  have hc4 : Try.prog.cellsOf 36 = 4 := by kernel_rfl
  have hc1 : Try.prog.cellsOf 5 = 1 := by kernel_rfl
  obtain ⟨xs, m, _, _, hl, hx, hi⟩ := DataW.trod_array Try.underlying36 h
  rw [hc4] at hl
  rw [hc1] at hi
  match cs, hl with
  | [a, b, c, d], _ =>
    have e : ∀ i (hi4 : i < 4), xs[i]? = some (xs[i]'(by omega)) := fun i h4 => List.getElem?_eq_getElem (by omega)
    obtain ⟨y0, h0⟩ := byte_open ((hi 0 (by omega)).trans (e 0 (by omega)))
    obtain ⟨y1, h1⟩ := byte_open ((hi 1 (by omega)).trans (e 1 (by omega)))
    obtain ⟨y2, h2⟩ := byte_open ((hi 2 (by omega)).trans (e 2 (by omega)))
    obtain ⟨y3, h3⟩ := byte_open ((hi 3 (by omega)).trans (e 3 (by omega)))
    simp at h0 h1 h2 h3
    subst h0 h1 h2 h3
    exact ⟨y0, y1, y2, y3, rfl⟩

set_option maxRecDepth 100000 in
theorem lifted (os : Os) (started : os.Started) (H : Type) (enc : TypeId × Value → H) :
    ReturnsInHanded {} Try.checked os 5 .any (Rows.logrecBackSpec.pre6 enc Try.prog Try.f5 Rows.logrecBackRow.domain false) (Rows.logrecBackSpec.post enc Try.prog Try.f5 false true false false) := by
  refine returnsInHanded_of_change_sized (C := Try.checked) own_ started (by kernel_rfl) Try.func5
    (ChangeSpec.witness6 (enc := enc) (C := Try.checked) false ⟨#[], #[.int .i64 0, .slice none 0 0, .int .i64 0, .agg #[.int .u8 0, .int .u8 0, .int .u8 0, .int .u8 0]], []⟩ 8 (by kernel_rfl) (by kernel_rfl) (by kernel_rfl) (by kernel_rfl)) ?_
  intro W base args ds gs before hval0 hW hcnd hsz0 _
  have hval : ∀ (j : Nat) t v, Try.f5.params[j]? = some t → args[j]? = some v → Value.okWide Try.prog W .any base t v := hval0
  have hW' := hW
  obtain ⟨p, q, hA0, hV, rfl, hfz, hnd⟩ := hW
  have hA : DataW.TrodAll enc Try.prog W 0 (fun _ => true) true Try.f5.params.toList args.toList ds p := hA0
  rw [Try.params5] at hA hval
  obtain ⟨v0, vs0, d0, ds0, p0, q0, hargs, rfl, rfl, h0, r0⟩ := trodAll_cons hA
  obtain ⟨v1, vs1, d1, ds1, p1, q1, rfl, rfl, rfl, h1, r1⟩ := trodAll_cons r0
  obtain ⟨v2, vs2, d2, ds2, p2, q2, rfl, rfl, rfl, h2, r2⟩ := trodAll_cons r1
  obtain ⟨v3, vs3, d3, ds3, p3, q3, rfl, rfl, rfl, h3, r3⟩ := trodAll_cons r2
  obtain ⟨rfl, rfl, rfl⟩ := trodAll_nil r3
  obtain rfl : args = #[v0, v1, v2, v3] := by cases args; simp_all
  obtain ⟨rfl, rfl⟩ := trodVars_none hV
  obtain ⟨a0, rfl, rfl, rfl, w0⟩ := open_int Try.underlying3 (hval 0 3 v0 rfl rfl) h0
  obtain ⟨a1, len1, cap1, rfl⟩ := okWide_slice Try.underlying22 (hval 1 22 v1 rfl rfl)
  have k1 := h1
  have lt1 : ∀ x ∈ p1, x.block < W.heap.size := by obtain ⟨m, hm⟩ := k1; exact DataW.trod_lt m _ _ _ hm
  obtain ⟨l1, hl1, hc1, hs1⟩ : ∃ l : List Sec, l.length = len1 ∧ len1 ≤ cap1 ∧ Secs W a1 l := by
    obtain ⟨fuel, hf⟩ := h1
    exact secs_open (by simpa [Value.cells] using hf)
  subst hl1
  obtain ⟨a2, rfl, rfl, rfl, w2⟩ := open_int Try.underlying3 (hval 2 3 v2 rfl rfl) h2
  have k3 := h3
  have lt3 : ∀ x ∈ p3, x.block < W.heap.size := by obtain ⟨m, hm⟩ := k3; exact DataW.trod_lt m _ _ _ hm
  obtain ⟨cs3, rfl⟩ : ∃ cs : Array Value, v3 = .agg cs := by
    have h := hval 3 36 v3 rfl rfl
    simp only [Value.okWide, Try.underlying36] at h
    obtain ⟨cs, h1, _⟩ := h
    exact ⟨cs, h1⟩
  obtain ⟨y0, y1, y2, y3, e3⟩ : ∃ y0 y1 y2 y3 : UInt8, cs3.toList = [bval y0, bval y1, bval y2, bval y3] := by
    obtain ⟨fuel, hf⟩ := h3
    exact four_open (by simpa [Value.cells] using hf)
  obtain rfl : cs3 = #[bval y0, bval y1, bval y2, bval y3] := by apply Array.ext'; rw [e3]
  clear hA0 hval0 hsz0
  refine (law11_back a0 a1 cap1 l1 a2 y0 y1 y2 y3 W hs1 hc1).mono fun e W' ⟨he, bel⟩ => ?_
  subst he
  exact ⟨_, rfl, _, _, _, [], _, [], hW', trodAll_mk1 (shut_bool Try.underlying4 _), (trodAll_cons_mk (shut_int Try.underlying3 w0) (trodAll_cons_mk (Below.trod laidOut_ (by kernel_rfl) (of_decide_eq_true (by kernel_rfl)) k1 bel lt1) (trodAll_cons_mk (shut_int Try.underlying3 w2) (trodAll_cons_mk (Below.trod laidOut_ (by kernel_rfl) (of_decide_eq_true (by kernel_rfl)) k3 bel lt3) trodAll_mk0)))), rfl, bel.frame _, fun h => by cases h⟩

theorem proved : Rows.LogrecBackSaid :=
  OpenClaim.holds_of_wide 5 Try.f5 rfl rfl rfl rfl rfl rfl rfl ⟨rfl, rfl, rfl, rfl, rfl⟩ rfl rfl rfl rfl rfl (by kernel_rfl) Try.func5 (by kernel_rfl)
    (of_decide_eq_true (by kernel_rfl)) (by unfold Func.isWrapper; first | (rw [if_pos (by decide +kernel)]; kernel_rfl) | (rw [if_neg (by decide +kernel)]; exact ⟨rfl, rfl⟩))
    (fun os started H enc _ => lifted os started H enc)
#print axioms proved
end Go.Proofs.Ytgdkchjicggdlaa.back
namespace Go.Proofs.Ytgdkchjicggdlaa
theorem logrecBack_holds : Rows.LogrecBackSaid := back.proved
end Go.Proofs.Ytgdkchjicggdlaa
