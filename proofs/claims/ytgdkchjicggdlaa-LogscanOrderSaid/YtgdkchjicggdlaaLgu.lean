/- LogscanOrder: whatever it is given, it answers true. -/
import Derived.Test.YtgdkchjicggdlaaLgt
import Derived.Test.YtgdkchjicggdlaaOpen
namespace Go.Proofs.Ytgdkchjicggdlaa
open Go.RowKit Go.Proofs.YtgdkchjicggdlaaW.PrintWords

set_option maxRecDepth 100000 in
set_option maxHeartbeats 2000000 in
theorem law12_none (many : Int) (A1 : Option Addr) (c1 : Nat) (l : List (List Sec)) (at_ seq : Int) (A2 : Option Addr) (c2 : Nat) (old : List LayV) (w : World) (h2 : Lays w A2 old) (hm : many ≤ 0 ∨ 55 < many) :
    Calls Try.prog 6 #[.int .i64 many, .slice A1 l.length c1, .int .i64 at_, .int .i64 seq, .slice A2 old.length c2] w fun e w' => e = .returned (.bool true) ∧ Below w.heap.size w w' := by
  have H2 := Lib.hid h2
  clear h2
  go_enter Try.func6, Try.ntmps6
  go_wp2_with fail
  refine (law12_works _).mono ?_
  rintro e w1 ⟨rfl, hb1⟩
  have HB1 := Lib.hid hb1
  clear hb1
  go_wp2_with fail
  refine (law12_both_not _ many hm).mono ?_
  rintro e w2 ⟨rfl, hb2⟩
  have HB2 := Lib.hid (below_trans HB1.out hb2)
  clear hb2
  go_wp2_with fail
  refine (law12_great A2 c2 old _ (H2.out.below HB2.out)).mono ?_
  rintro e w3 ⟨b3, rfl, rfl, _⟩
  cases b3 with
  | true =>
    go_wp2
    go_ret
    exact ⟨rfl, HB2.out⟩
  | false =>
    by_cases h20 : 20 < l.length
    · go_wp2
      go_ret
      exact ⟨rfl, HB2.out⟩
    · go_wp2
      go_ret
      exact ⟨rfl, HB2.out⟩

set_option maxRecDepth 100000 in
set_option maxHeartbeats 2000000 in
theorem law12_out (many : Nat) (A1 : Option Addr) (c1 : Nat) (l : List (List Sec)) (at_ seq : Int) (A2 : Option Addr) (c2 : Nat) (old : List LayV) (w : World) (h2 : Lays w A2 old) (hm : 1 ≤ many) (hm2 : many ≤ 55)
    (hb : 20 < l.length ∨ at_ < 0 ∨ many ≤ at_ ∨ seq < 0 ∨ 1099511627776 < seq) :
    Calls Try.prog 6 #[.int .i64 many, .slice A1 l.length c1, .int .i64 at_, .int .i64 seq, .slice A2 old.length c2] w fun e w' => e = .returned (.bool true) ∧ Below w.heap.size w w' := by
  have H2 := Lib.hid h2
  have HBAD := Lib.hid hb
  clear h2 hb
  go_enter Try.func6, Try.ntmps6
  go_wp2_with fail
  refine (law12_works _).mono ?_
  rintro e w1 ⟨rfl, hb1⟩
  have HB1 := Lib.hid hb1
  clear hb1
  go_wp2_with fail
  refine (law12_both _ many hm hm2).mono ?_
  rintro e w2 ⟨d, p, r, c, b, rfl, _, hb2⟩
  have HB2 := Lib.hid (below_trans HB1.out hb2)
  clear hb2
  go_wp2_with fail
  refine (law12_great A2 c2 old _ (H2.out.below HB2.out)).mono ?_
  rintro e w3 ⟨b3, rfl, rfl, _⟩
  cases b3 with
  | true =>
    go_wp2
    go_ret
    exact ⟨rfl, HB2.out⟩
  | false =>
    by_cases h1 : 20 < l.length
    · go_wp2
      go_ret
      exact ⟨rfl, HB2.out⟩
    by_cases h2 : at_ < 0
    · go_wp2
      go_ret
      exact ⟨rfl, HB2.out⟩
    by_cases h3 : (many : Int) ≤ at_
    · have h2' : 0 ≤ at_ := by omega
      go_wp2
      go_ret
      exact ⟨rfl, HB2.out⟩
    by_cases h4 : seq < 0
    · have h2' : 0 ≤ at_ := by omega
      have h3' : at_ < many := by omega
      go_wp2
      go_ret
      exact ⟨rfl, HB2.out⟩
    · have h5 : 1099511627776 < seq := by
        rcases HBAD.out with h | h | h | h | h
        · exact absurd h h1
        · exact absurd h h2
        · exact absurd h h3
        · exact absurd h h4
        · exact h
      have h2' : 0 ≤ at_ := by omega
      have h3' : at_ < many := by omega
      have h4' : 0 ≤ seq := by omega
      go_wp2
      go_ret
      exact ⟨rfl, HB2.out⟩

theorem law12_order (many : Int) (A1 : Option Addr) (c1 : Nat) (l : List (List Sec)) (at_ seq : Int) (A2 : Option Addr) (c2 : Nat) (old : List LayV) (w : World) (h1 : Rows2 w A1 l) (h2 : Lays w A2 old) :
    Calls Try.prog 6 #[.int .i64 many, .slice A1 l.length c1, .int .i64 at_, .int .i64 seq, .slice A2 old.length c2] w fun e w' => e = .returned (.bool true) ∧ Below w.heap.size w w' := by
  by_cases hm : many ≤ 0 ∨ 55 < many
  · exact law12_none many A1 c1 l at_ seq A2 c2 old w h2 hm
  obtain ⟨m, rfl⟩ := Int.eq_ofNat_of_zero_le (show 0 ≤ many by omega)
  by_cases hb : 20 < l.length ∨ at_ < 0 ∨ (m : Int) ≤ at_ ∨ seq < 0 ∨ 1099511627776 < seq
  · exact law12_out m A1 c1 l at_ seq A2 c2 old w h2 (by omega) (by omega) hb
  obtain ⟨a, rfl⟩ := Int.eq_ofNat_of_zero_le (show 0 ≤ at_ by omega)
  obtain ⟨s, rfl⟩ := Int.eq_ofNat_of_zero_le (show 0 ≤ seq by omega)
  exact law12_main m A1 c1 l a s A2 c2 old w h1 h2 (by omega) (by omega) (by omega) (by omega) (by omega)
end Go.Proofs.Ytgdkchjicggdlaa

/- What LogscanOrder is given, opened. -/
namespace Go.Proofs.Ytgdkchjicggdlaa
open Go.ChangeShapes Go.WideShapes Go.Deep Go.RowKit Go.Proofs.YtgdkchjicggdlaaW.PrintWords

theorem sec_slice_open {H : Type} {enc : TypeId × Value → H} {w : World} {base : Nat} {spare : Nat → Bool} {held : Bool} {fuel : Nat} {v : Value} {x : DataW H × List MemPlace}
    (h : DataW.trod enc Try.prog w base spare held fuel 22 [v] = some x) : ∃ (l : List Sec) (B : Option Addr) (c : Nat), v = .slice B l.length c ∧ l.length ≤ c ∧ Secs w B l := by
  obtain ⟨B, n, c, rfl⟩ : ∃ B n c, v = .slice B n c := by
    rcases open_slice Try.underlying22 h with ⟨hcs, _⟩ | ⟨a, l', c', m, n, D, Pl, hcs, _⟩
    · simp only [List.cons.injEq, and_true] at hcs
      exact ⟨_, _, _, hcs⟩
    · simp only [List.cons.injEq, and_true] at hcs
      exact ⟨_, _, _, hcs⟩
  obtain ⟨l, h1, h2, h3⟩ := secs_open h
  subst h1
  exact ⟨l, B, c, rfl, h2, h3⟩

theorem rows2_open {H : Type} {enc : TypeId × Value → H} {w : World} {base : Nat} {spare : Nat → Bool} {held : Bool} {fuel : Nat} {A : Option Addr} {len cap : Nat} {x : DataW H × List MemPlace}
    (h : DataW.trod enc Try.prog w base spare held fuel 40 [.slice A len cap] = some x) : ∃ l : List (List Sec), l.length = len ∧ Rows2 w A l := by
  rcases open_slice Try.underlying40 h with ⟨hcs, _⟩ | ⟨a, l', c', m, n, D, Pl, hcs, _, hl, hm, hmm, _, hi⟩
  · simp only [List.cons.injEq, Value.slice.injEq, and_true] at hcs
    obtain ⟨rfl, rfl, rfl⟩ := hcs
    exact ⟨[], rfl, by simp, fun k hk => by simp at hk⟩
  · simp only [List.cons.injEq, Value.slice.injEq, and_true] at hcs
    obtain ⟨rfl, rfl, rfl⟩ := hcs
    have hle : len ≤ m := by rw [hmm]; split <;> omega
    have hce : Try.prog.cellsOf 22 = 1 := by kernel_rfl
    have key : ∀ i, i < len → ∃ s : List Sec, ∃ B c, w.cell? (a.add i) = some (.slice B s.length c) ∧ s.length ≤ c ∧ Secs w B s := by
      intro i hil
      obtain ⟨cs', hc, ht⟩ := hi i (by omega)
      rw [hce, Nat.mul_one] at hc
      obtain ⟨_, hcl, hat⟩ := World.cells?_some hc
      obtain ⟨v, rfl⟩ := List.length_eq_one_iff.1 hcl
      have h0 := hat 0 (by omega)
      have hadd : (a.add i).add 0 = a.add i := by rw [Go.Deep.add_add, Nat.add_zero]
      rw [hadd] at h0
      obtain ⟨s, B, c, rfl, h1, h2⟩ := sec_slice_open ht
      exact ⟨s, B, c, by simpa using h0, h1, h2⟩
    obtain ⟨f, hf⟩ : ∃ f : Nat → List Sec, ∀ i, i < len → ∃ B c, w.cell? (a.add i) = some (.slice B (f i).length c) ∧ (f i).length ≤ c ∧ Secs w B (f i) := by
      refine ⟨fun i => if h : i < len then (key i h).choose else [], fun i h => ?_⟩
      simp only [dif_pos h]
      exact (key i h).choose_spec
    have hlen : ((List.range len).map f).length = len := by rw [List.length_map, List.length_range]
    refine ⟨(List.range len).map f, hlen, by rw [hlen]; unfold maxLen at hm; omega, fun k hk => ⟨a, rfl, ?_⟩⟩
    have hkl : k < len := by rw [hlen] at hk; exact hk
    have e : ((List.range len).map f)[k] = f k := by rw [List.getElem_map, List.getElem_range]
    rw [e]
    exact hf k hkl

theorem lays_open {H : Type} {enc : TypeId × Value → H} {w : World} {base : Nat} {spare : Nat → Bool} {held : Bool} {fuel : Nat} {A : Option Addr} {len cap : Nat} {x : DataW H × List MemPlace}
    (h : DataW.trod enc Try.prog w base spare held fuel 41 [.slice A len cap] = some x) : ∃ l : List LayV, l.length = len ∧ Lays w A l := by
  rcases open_slice_fields Try.underlying41 Try.underlying51 (by kernel_rfl) (by kernel_rfl) h with ⟨hcs, _⟩ | ⟨a, l', c', m, D, Pl, hcs, _, hl, hm, hmm, _, hi⟩
  · simp only [List.cons.injEq, Value.slice.injEq, and_true] at hcs
    obtain ⟨rfl, rfl, rfl⟩ := hcs
    exact ⟨[], rfl, by simp, fun k hk => by simp at hk⟩
  · simp only [List.cons.injEq, Value.slice.injEq, and_true] at hcs
    obtain ⟨rfl, rfl, rfl⟩ := hcs
    have hle : len ≤ m := by rw [hmm]; split <;> omega
    have key : ∀ i, i < len → ∃ s : LayV, LayAt w (a.add (i * 4)) s := by
      intro i hil
      obtain ⟨ys, n, _, _, _, hf⟩ := hi i (by omega)
      obtain ⟨v0, y0, c0, _, t0⟩ := hf 0 _ rfl
      obtain ⟨v1, y1, c1, _, t1⟩ := hf 1 _ rfl
      obtain ⟨v2, y2, c2, _, t2⟩ := hf 2 _ rfl
      obtain ⟨v3, y3, c3, _, t3⟩ := hf 3 _ rfl
      obtain ⟨z0, e0, _, _⟩ := DataW.trod_int Try.underlying3 t0
      obtain ⟨z1, e1, _, _⟩ := DataW.trod_int Try.underlying3 t1
      obtain ⟨s, e2, _, _⟩ := DataW.trod_string Try.underlying9 t2
      obtain ⟨l, B, c, rfl, h1, h2⟩ := sec_slice_open t3
      simp only [List.cons.injEq, and_true] at e0 e1 e2
      subst e0 e1 e2
      refine ⟨⟨z0, z1, s, l⟩, c0, ?_, B, c, ?_, h1, h2⟩
      · rw [← add_field _ _ 2 (by omega)]; exact c2
      · rw [← add_field _ _ 3 (by omega)]; exact c3
    obtain ⟨f, hf⟩ : ∃ f : Nat → LayV, ∀ i, i < len → LayAt w (a.add (i * 4)) (f i) := by
      refine ⟨fun i => if h : i < len then (key i h).choose else ⟨0, 0, ⟨#[]⟩, []⟩, fun i h => ?_⟩
      simp only [dif_pos h]
      exact (key i h).choose_spec
    have hlen : ((List.range len).map f).length = len := by rw [List.length_map, List.length_range]
    refine ⟨(List.range len).map f, hlen, by rw [hlen]; unfold maxLen at hm; omega, fun k hk => ⟨a, rfl, ?_⟩⟩
    have hkl : k < len := by rw [hlen] at hk; exact hk
    have e : ((List.range len).map f)[k] = f k := by rw [List.getElem_map, List.getElem_range]
    rw [e]
    exact hf k hkl
end Go.Proofs.Ytgdkchjicggdlaa
