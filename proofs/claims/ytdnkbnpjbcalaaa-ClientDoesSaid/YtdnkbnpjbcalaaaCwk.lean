/- A flush that waits is over. -/
import Derived.Test.YtdnkbnpjbcalaaaCwj
namespace Go.Proofs.Ytdnkbnpjbcalaaa
open Go.RowKit

theorem run_slice_to {P : Program} (w : World) (t e : TypeId) (i : TypeInfo) (ht : P.underlying t = some (.slice e)) (hi : P.info? e = some i) (A : Option Addr) (L cp n : Nat) (hn : n ≤ cp) :
    (Instr.slice t (.slice A L cp) none (some (.int .i64 n)) none).run P w = .ok (.slice A n cp) w := by
  have h2 : (Option.map (fun x : Addr => x.add 0) A) = A := by cases A <;> simp [Addr.add]
  simp [Instr.slice, run_underlying ht, Instr.sliceBounds, Instr.sliceBound, asIntOf, sizeOf, typeInfo, hi, hn, h2]
theorem Rd.to {w : World} {size L cp n : Nat} {A : Option Addr} {ys : List Value} (h : Rd w size (.slice A L cp) L ys) (hn : n ≤ L) : Rd w size (.slice A n cp) n (ys.take (n * size)) := by
  refine ⟨by rw [List.length_take, h.1, Nat.min_eq_left (Nat.mul_le_mul_right _ hn)], ?_⟩
  rcases h.2 with ⟨h1, h2⟩ | ⟨ad, c, h1, h2⟩
  · left
    injection h1 with h3 h4 h5
    subst h3 h4 h5
    have : n = 0 := by omega
    subst this
    exact ⟨rfl, rfl⟩
  · right
    injection h1 with h3 h4 h5
    subst h3 h5
    refine ⟨ad, _, rfl, fun j x hx => h2 j x ?_⟩
    rw [List.getElem?_take] at hx
    split at hx
    · exact hx
    · cases hx
theorem flCells_drop : ∀ (l : List (Int × Int)) (n : Nat), (flCells l).drop (n * 2) = flCells (l.drop n)
  | l, 0 => by simp
  | [], n + 1 => by simp [flCells]
  | x :: l, n + 1 => by
    have e : flCells (x :: l) = .int .i64 x.1 :: .int .i64 x.2 :: flCells l := rfl
    rw [e, show (n + 1) * 2 = n * 2 + 1 + 1 from by omega, List.drop_succ_cons, List.drop_succ_cons, List.drop_succ_cons]
    exact flCells_drop l n
theorem flCells_take : ∀ (l : List (Int × Int)) (n : Nat), (flCells l).take (n * 2) = flCells (l.take n)
  | l, 0 => by simp [flCells]
  | [], n + 1 => by simp [flCells]
  | x :: l, n + 1 => by
    have e : flCells (x :: l) = .int .i64 x.1 :: .int .i64 x.2 :: flCells l := rfl
    rw [e, show (n + 1) * 2 = n * 2 + 1 + 1 from by omega, List.take_succ_cons, List.take_succ_cons, List.take_succ_cons, flCells_take l n]
    rfl
theorem Rd.mv {w w' : World} {size m : Nat} {u : Value} {ys : List Value} (h : Rd w size u m ys) (hm : Mv w w' (fun _ => False)) : Rd w' size u m ys := by
  refine ⟨h.1, ?_⟩
  rcases h.2 with h1 | ⟨ad, c, h1, h2⟩
  · exact .inl h1
  · exact .inr ⟨ad, c, h1, fun j x hx => cell_mv hm (h2 j x hx) (fun x => x)⟩

set_option maxRecDepth 100000 in
set_option maxHeartbeats 1000000 in
theorem cl_come_no (w : World) (base c : Nat) (s0 s1 : Option Nat) (v : ClV) (h : ClAt w base c s0 s1 v) (hF : v.F.length ≤ 1000) (id how : Int) (hno : ∀ x ∈ v.F, x.1 ≠ id) :
    Calls Try.prog 23 #[.pointer (some ⟨c, 0, none⟩), .agg #[.int .i64 id, .int .i64 how]] w fun e w' => e = .returned (.bool false) ∧ Below w.heap.size w w' := by
  obtain ⟨B, bp, hwp, hbp, _⟩ := own_form h.f (by decide)
  obtain ⟨w1, hw1⟩ : ∃ w1, w.alloc (.cells #[.int .i64 id, .int .i64 how] 54) = w1 := ⟨_, rfl⟩
  have hb1 : Below w.heap.size w w1 := by rw [← hw1]; exact (Below.refl _ _).alloc (Nat.le_refl _) _
  have hs1 : w1.heap.size = w.heap.size + 1 := by rw [← hw1]; simp
  have c4 : w1.cell? ⟨c, 4, none⟩ = some (.slice B v.F.length bp) := by rw [← hwp]; exact (h.below hb1).box.cell (i := 4) rfl
  have HX1 := Lib.hid (show Blk w1 w.heap.size #[.int .i64 id, .int .i64 how] 54 from by rw [← hw1]; exact Blk.alloc _ _ _)
  have HR1 := Lib.hid (show Rd w1 2 (.slice B v.F.length bp) v.F.length (flCells v.F) from by rw [← hwp]; exact Rd.own (h.below hb1).f)
  have HB1 := Lib.hid hb1
  have HNO := Lib.hid hno
  clear h hwp hb1 hno
  go_enter Try.func23, Try.ntmps23
  go_wp2
  go_loopw [13] (fun i wr => ∃ k : Nat, k ≤ v.F.length ∧ i = .int .i64 k ∧ Below w1.heap.size w1 wr) (fun i _ => v.F.length - (intOf i).toNat)
  case atStart => exact ⟨0, by omega, rfl, Below.refl _ _⟩
  case round =>
    obtain ⟨k, hk, rfl, hb⟩ := hrel
    have HB := Lib.hid hb
    clear hb
    by_cases hlt : k < v.F.length
    · have hne := HNO.out _ (List.getElem_mem hlt)
      obtain ⟨ad, cc, hB, hcell⟩ : ∃ ad cc, Value.slice B v.F.length bp = .slice (some ad) v.F.length cc ∧ ∀ (j : Nat) x, (flCells v.F)[j]? = some x → wr.cell? (ad.add j) = some x := by
        rcases (HR1.out.below HB.out).2 with ⟨_, h0⟩ | h0
        · omega
        · exact h0
      injection hB with hB hB2 hB3
      subst hB hB3
      obtain ⟨c1, c2⟩ := flCells_get v.F k hlt
      have d1 := hcell _ _ c1
      have d2 := hcell _ _ c2
      rw [← add_add_] at d2
      have d2 : wr.cell? ⟨(ad.add (k * 2)).block, (ad.add (k * 2)).off + 1, none⟩ = some (.int .i64 v.F[k].2) := by
        rw [← d2]; unfold Addr.add; simp
      obtain ⟨y, hy⟩ : ∃ y, v.F[k] = y := ⟨_, rfl⟩
      rw [hy] at d1 d2 hne
      have hx := HX1.out.below HB.out HX1.out.lt
      have e0 := hx.cell (i := 0) rfl
      have hnb : (y.1 != id) = true := by rw [bne_iff_ne]; exact hne
      have HY := Lib.hid hy
      have hsz := HB.out.size
      obtain ⟨w3, hw3⟩ : ∃ w3, wr.alloc (.cells #[.int .i64 y.1, .int .i64 y.2] 74) = w3 := ⟨_, rfl⟩
      have hb3 : Below wr.heap.size wr w3 := by rw [← hw3]; exact (Below.refl _ _).alloc (Nat.le_refl _) _
      have hx3 : Blk w3 wr.heap.size #[.int .i64 y.1, .int .i64 y.2] 74 := by rw [← hw3]; exact Blk.alloc _ _ _
      have q0 := hx3.cell (i := 0) rfl
      have q1 := hx3.cell (i := 1) rfl
      have hx33 := hx.below hb3 hx.lt
      have r0 := hx33.cell (i := 0) rfl
      have HB3 := Lib.hid hb3
      clear hy hx c1 c2 hcell hne hb3 hx3 hx33
      go_wp2
      exact ⟨⟨k + 1, by omega, by go_num, below_trans HB.out HB3.out⟩, by simp [intOf]; omega⟩
    · obtain rfl : k = v.F.length := by omega
      go_wp2
      go_ret
      exact ⟨rfl, below_trans HB1.out HB.out⟩

def CamePost (w : World) (base c : Nat) (s0 s1 : Option Nat) (v : ClV) (j : Nat) (how : Int) (e : Ending) (w' : World) : Prop :=
  e = .returned (.bool (decide (how = 2))) ∧ ∃ kv wv, ClAt w' base c s0 s1 { v with kept := kv, K := if how = 2 then v.K.drop (v.F.getD j (0, 0)).2.toNat else v.K, waits := wv, F := if how = 2 then (v.F.eraseIdx j).map (less (v.F.getD j (0, 0)).2.toNat) else v.F.eraseIdx j } ∧
    Mv w w' (fun i => i = c) ∧ (kv.ownBlock = v.kept.ownBlock ∨ ∃ j, kv.ownBlock = some j ∧ w.heap.size ≤ j)
theorem own_in {w : World} {b1 b2 : Nat} {e : TypeId} {size n : Nat} {v : Value} {xs : List Value} (h : w.ownsRow b1 e size v n xs) (hb : b2 ≤ b1) : w.ownsRow b2 e size v n xs := by
  obtain ⟨k1, k2⟩ := h
  refine ⟨k1, k2.imp (fun x => x) ?_⟩
  rintro ⟨g, cap, cur, e1, e2, e3⟩
  exact ⟨g, cap, cur, e1, by omega, e3⟩
theorem Mv.of_drew {w w' : World} {S : Nat → Prop} (h : Mv w.drew w' S) : Mv w w' S := ⟨h.os, h.tape, h.output, h.size, h.block⟩
theorem new_of {w : World} {v : Value} (h : v.ownBlock = (Value.slice none 0 0).ownBlock ∨ v.ownBlock = some w.heap.size) {i : Nat} (hi : i < w.heap.size) (x : v.ownBlock = some i) : False := by
  rcases h with e | e <;> rw [e] at x
  · cases x
  · injection x with x; omega
theorem erase_cells (l : List (Int × Int)) (j : Nat) : flCells (l.eraseIdx j) = (flCells l).take (j * 2) ++ (flCells l).drop ((j + 1) * 2) := by
  rw [flCells_take, flCells_drop, ← flCells_app, List.eraseIdx_eq_take_drop_succ]

set_option maxRecDepth 100000 in
set_option maxHeartbeats 1000000 in
theorem cl_come_yes (w : World) (base c : Nat) (s0 s1 : Option Nat) (v : ClV) (h : ClAt w base c s0 s1 v) (hF : v.F.length ≤ 1000) (hK : v.K.length ≤ 1000) (hf : ∀ x ∈ v.F, 0 ≤ x.2 ∧ x.2 ≤ v.K.length) (id how : Int) (j : Nat) (hj : j < v.F.length) (hid : v.F[j].1 = id) (hno : ∀ i (hi : i < j), v.F[i].1 ≠ id) :
    Calls Try.prog 23 #[.pointer (some ⟨c, 0, none⟩), .agg #[.int .i64 id, .int .i64 how]] w fun e w' => CamePost w base c s0 s1 v j how e w' := by
  obtain ⟨B, bp, hwp, hbp, _⟩ := own_form h.f (by decide)
  obtain ⟨w1, hw1⟩ : ∃ w1, w.alloc (.cells #[.int .i64 id, .int .i64 how] 54) = w1 := ⟨_, rfl⟩
  have hb1 : Below w.heap.size w w1 := by rw [← hw1]; exact (Below.refl _ _).alloc (Nat.le_refl _) _
  have hs1 : w1.heap.size = w.heap.size + 1 := by rw [← hw1]; simp
  have c4 : w1.cell? ⟨c, 4, none⟩ = some (.slice B v.F.length bp) := by rw [← hwp]; exact (h.below hb1).box.cell (i := 4) rfl
  have HX1 := Lib.hid (show Blk w1 w.heap.size #[.int .i64 id, .int .i64 how] 54 from by rw [← hw1]; exact Blk.alloc _ _ _)
  have HR1 := Lib.hid (show Rd w1 2 (.slice B v.F.length bp) v.F.length (flCells v.F) from by rw [← hwp]; exact Rd.own (h.below hb1).f)
  have HC1 := Lib.hid (h.below hb1)
  have HB1 := Lib.hid hb1
  have HNO := Lib.hid hno
  have HID := Lib.hid hid
  have HWP := Lib.hid hwp
  have HF := Lib.hid hf
  clear h hwp hb1 hno hid hf
  go_enter Try.func23, Try.ntmps23
  go_wp2
  go_loopw [13] (fun i wr => ∃ k : Nat, k ≤ j ∧ i = .int .i64 k ∧ Below w1.heap.size w1 wr) (fun i _ => v.F.length - (intOf i).toNat)
  case atStart => exact ⟨0, by omega, rfl, Below.refl _ _⟩
  case round =>
    obtain ⟨k, hk, rfl, hb⟩ := hrel
    have HB := Lib.hid hb
    clear hb
    have hlt : k < v.F.length := by omega
    obtain ⟨ad, cc, hB, hcell⟩ : ∃ ad cc, Value.slice B v.F.length bp = .slice (some ad) v.F.length cc ∧ ∀ (j : Nat) x, (flCells v.F)[j]? = some x → wr.cell? (ad.add j) = some x := by
      rcases (HR1.out.below HB.out).2 with ⟨_, h0⟩ | h0
      · omega
      · exact h0
    injection hB with hB hB2 hB3
    subst hB hB3
    obtain ⟨c1, c2⟩ := flCells_get v.F k hlt
    have d1 := hcell _ _ c1
    have d2 := hcell _ _ c2
    rw [← add_add_] at d2
    have d2 : wr.cell? ⟨(ad.add (k * 2)).block, (ad.add (k * 2)).off + 1, none⟩ = some (.int .i64 v.F[k].2) := by
      rw [← d2]; unfold Addr.add; simp
    have hx := HX1.out.below HB.out HX1.out.lt
    have hsz := HB.out.size
    obtain ⟨y, hy⟩ : ∃ y, v.F[k] = y := ⟨_, rfl⟩
    have hyf := HF.out _ (List.getElem_mem hlt)
    rw [hy] at d1 d2 hyf
    obtain ⟨y1, y2⟩ := y
    obtain ⟨n, rfl⟩ : ∃ n : Nat, y2 = n := Int.eq_ofNat_of_zero_le hyf.1
    have hnk : n ≤ v.K.length := by have := hyf.2; simp at this; omega
    obtain ⟨w3, hw3⟩ : ∃ w3, wr.alloc (.cells #[.int .i64 y1, .int .i64 (n : Int)] 74) = w3 := ⟨_, rfl⟩
    have hb3 : Below wr.heap.size wr w3 := by rw [← hw3]; exact (Below.refl _ _).alloc (Nat.le_refl _) _
    have hs3 : w3.heap.size = wr.heap.size + 1 := by rw [← hw3]; simp
    have hx3 : Blk w3 wr.heap.size #[.int .i64 y1, .int .i64 (n : Int)] 74 := by rw [← hw3]; exact Blk.alloc _ _ _
    have q0 := hx3.cell (i := 0) rfl
    have q1 := hx3.cell (i := 1) rfl
    have hx33 := hx.below hb3 hx.lt
    have r0 := hx33.cell (i := 0) rfl
    have r1 := hx33.cell (i := 1) rfl
    have HB3 := Lib.hid hb3
    have HX3 := Lib.hid hx3
    have HX33 := Lib.hid hx33
    by_cases hkj : k < j
    · have hnb : (y1 != id) = true := by rw [bne_iff_ne]; have := HNO.out k hkj; rw [hy] at this; exact this
      have HY := Lib.hid hy
      clear hy hx c1 c2 hcell hb3 hx3 hx33
      go_wp2
      exact ⟨⟨k + 1, by omega, by go_num, below_trans HB.out HB3.out⟩, by simp [intOf]; omega⟩
    · obtain rfl : k = j := by omega
      have hnb : (y1 != id) = false := by rw [bne_eq_false_iff_eq]; have := HID.out; rw [hy] at this; exact this
      have HY := Lib.hid hy
      have e4 : w3.cell? ⟨c, 4, none⟩ = some (.slice (some ad) v.F.length bp) := cell_below (Below.trans HB.out (HB3.out.mono hsz)) c4
      obtain ⟨i0, hi, hz0, hz1, hz2⟩ := info_parts fl_info
      have hrd3 : Rd w3 2 (.slice (some ad) v.F.length bp) v.F.length (flCells v.F) := (HR1.out.below HB.out).below HB3.out
      obtain ⟨u2, hsl2, hru2⟩ := slice_rd (P := Try.prog) Try.underlying65 hi hz1 hrd3 hbp (k + 1) (by omega)
      have hsl2' : ∀ W, (Instr.slice 65 (.slice (some ad) v.F.length bp) (some (.int .i64 ((k : Int) + 1))) none none).run Try.prog W = .ok u2 W := hsl2
      have hsl1 : ∀ W, (Instr.slice 65 (.slice (some ad) v.F.length bp) none (some (.int .i64 (k : Int))) none).run Try.prog W = .ok (.slice (some ad) k bp) W := fun W => run_slice_to W _ _ i0 Try.underlying65 hi _ _ _ _ (by omega)
      have HONE1 := Lib.hid (show ∀ x ∈ (flCells v.F).take (k * 2), x.oneCell' = true from fun x hx => flCells_one _ x (List.mem_of_mem_take hx))
      have HONE2 := Lib.hid (show ∀ x ∈ (flCells v.F).drop ((k + 1) * 2), x.oneCell' = true from fun x hx => flCells_one _ x (List.mem_of_mem_drop hx))
      have HRD1 := Lib.hid (hrd3.to (n := k) (by omega))
      have HRD2 := Lib.hid hru2
      have hw5 : IntKind.i64.wrap ((k : Int) + 1) = (k : Int) + 1 := IntWalk.i64_in _ ⟨by omega, by omega⟩
      clear hy hx c1 c2 hcell hb3 hx3 hx33 hrd3 hru2 hsl2
      go_wp2
      go_region_held3 (fun W => W.cell? ⟨c, 4, none⟩ = some (.slice (some ad) v.F.length bp)) (first | exact e4 | exact E4.out | exact E5.out) (first
        | (refine step_append_rd (by rfl) (.tmp 23) (.tmp 29) 65 (by rfl) w3.heap.size 74 i0 (.agg #[.int .i64 0, .int .i64 0]) 2 16 Try.underlying65 hi hz0 hz1 hz2 rfl (by decide) (.slice none 0 0) 0 [] (by rfl) (World.ownsRow_nil _ _ _ _) (.slice (some ad) k bp) k _ (by rfl) HRD1.out HONE1.out (by unfold maxLen; omega) (by omega) (Nat.le_refl _) ?_; intro v1 x1 hown1 hgrow1 hat1; have hm1 : Mv w3 x1 (fun _ => False) := Mv.of_drew (Mv.of_grown hgrow1 (fun i e => by cases e)); have E4 := Lib.hid (show x1.cell? ⟨c, 4, none⟩ = some (.slice (some ad) v.F.length bp) from cell_mv hm1 e4 (fun x => x)); have HO1 := Lib.hid hown1; have HM1 := Lib.hid hm1; have HA1 := Lib.hid hat1; have HSZ1 := Lib.hid hgrow1.size; clear hown1 hgrow1 hat1 hm1)
        | (refine step_append_rd (by rfl) (.tmp 30) (.tmp 37) 65 (by rfl) w3.heap.size 74 i0 (.agg #[.int .i64 0, .int .i64 0]) 2 16 Try.underlying65 hi hz0 hz1 hz2 rfl (by decide) v1 (0 + k) _ (by rfl) HO1.out u2 (v.F.length - (k + 1)) _ (by rfl) (HRD2.out.mv HM1.out) HONE2.out (by unfold maxLen; omega) (by omega) HSZ1.out ?_; intro v2 x2 hown2 hgrow2 hat2; have hm2 : Mv w3 x2 (fun _ => False) := HM1.out.trans (Mv.of_grown hgrow2 (S := fun i => v1.ownBlock = some i) (fun i e => e)) (fun i hi x => new_of HA1.out hi x); have E5 := Lib.hid (show x2.cell? ⟨c, 4, none⟩ = some (.slice (some ad) v.F.length bp) from cell_mv hm2 e4 (fun x => x)); have HO2 := Lib.hid hown2; have HM2 := Lib.hid hm2; clear hown2 hgrow2 hat2 hm2))
      have hown2 : x2.ownsRow base 74 2 v2 (v.F.eraseIdx k).length (flCells (v.F.eraseIdx k)) := by
        have h0 := own_in HO2.out (show base ≤ w3.heap.size from by have := HC1.out.hb; have := HC1.out.box.lt; omega)
        rw [erase_cells, List.length_eraseIdx, if_pos hlt]
        rw [List.nil_append, show 0 + k + (v.F.length - (k + 1)) = v.F.length - 1 from by omega] at h0
        exact h0
      obtain ⟨A2, c2, hv2, _⟩ := own_form hown2 (by decide)
      subst hv2
      have hm02 : Mv w x2 (fun _ => False) := ((Mv.of_below HB1.out _).trans (Mv.of_below (below_trans HB.out HB3.out) (fun _ => False)) (fun _ _ x => x)).trans HM2.out (fun _ _ x => x)
      have hm12 : Mv w1 x2 (fun _ => False) := (Mv.of_below (below_trans HB.out HB3.out) _).trans HM2.out (fun _ _ x => x)
      have hc2 := HC1.out.mv hm12 (fun x => x) (fun _ _ x => x) (fun _ _ x => x)
      obtain ⟨w4, hw4⟩ : ∃ w4, x2.setCell ⟨c, 4, none⟩ (.slice A2 (v.F.eraseIdx k).length c2) = w4 := ⟨_, rfl⟩
      have hm4 : Mv x2 w4 (fun i => i = c) := by rw [← hw4]; exact Mv.of_set _ _ _ _ rfl
      have hc4 : ClAt w4 base c s0 s1 { v with waits := .slice A2 (v.F.eraseIdx k).length c2, F := v.F.eraseIdx k } :=
        ⟨by rw [← hw4]; exact hc2.box.set 4 _, own_mv hc2.k hm4 (fun i hi e => own_type hc2.k hc2.box (by decide) (by rw [← e]; exact hi)), own_mv hown2 hm4 (fun i hi e => own_type hown2 hc2.box (by decide) (by rw [← e]; exact hi)), hc2.hb, hc2.ha⟩
      have f4 := hc2.box.free 4
      have hcl : c < w1.heap.size := HC1.out.box.lt
      have hcne : w.heap.size ≠ c := fun e => by
        have h1 := HX1.out; have h2 := HC1.out.box; unfold ClBox Blk at *; rw [e, h2] at h1; simp at h1
      have hx4 := (HX33.out.mv HM2.out (fun x => x)).mv hm4 hcne
      have t1 := hx4.cell (i := 1) rfl
      have hx5 := (HX3.out.mv HM2.out (fun x => x)).mv hm4 (by omega)
      have t2 := hx5.cell (i := 1) rfl
      have HC4 := Lib.hid hc4
      have HM4 := Lib.hid ((hm02.mono (S' := fun i => i = c) (fun _ _ x => x.elim)).trans hm4 (fun i _ x => x))
      have HG := Lib.hid (show v.F.getD k (0, 0) = (y1, (n : Int)) from by rw [List.getD_eq_getElem?_getD, List.getElem?_eq_getElem hlt, HY.out]; rfl)
      clear hown2 hm02 hm12 hc2 hm4 hc4 hx4 hx5 hsl1 hsl2' c4 e4
      by_cases hh : how = 2
      · have hhb : (how != 2) = false := by rw [bne_eq_false_iff_eq]; exact hh
        have HH := Lib.hid hh
        clear hh
        have hlen : (v.F.eraseIdx k).length ≤ 1000 := by rw [List.length_eraseIdx, if_pos hlt]; omega
        have HL := Lib.hid hlen
        go_wp2_with fail
        refine (cl_forget _ base c s0 s1 _ HC4.out hK HL.out n hnk (fun x hx => ?_)).mono ?_
        · have := HF.out x (List.mem_of_mem_eraseIdx hx); omega
        rintro e w5 ⟨rfl, kv, hc5, hm5, hkv⟩
        have HC5 := Lib.hid hc5
        have HM5 := Lib.hid hm5
        have HKV := Lib.hid hkv
        clear hc5 hm5 hkv
        go_wp2
        go_ret
        have hh := HH.out
        refine ⟨by rw [decide_eq_true hh]; rfl, kv, .slice A2 (v.F.eraseIdx k).length c2, ?_, HM4.out.trans HM5.out (fun i hi x => x.elim (fun e => e) (fun e => ?_)), ?_⟩
        · rw [if_pos hh, if_pos hh, HG.out]
          exact HC5.out
        · have := (own_lt HO2.out e).2; omega
        · obtain ⟨q, h1, h2⟩ := HKV.out
          exact .inr ⟨q, h1, by have := HM4.out.size; omega⟩
      · have hhb : (how != 2) = true := by rw [bne_iff_ne]; exact hh
        have HH := Lib.hid hh
        clear hh
        go_wp2
        go_ret
        have hh := HH.out
        refine ⟨by rw [decide_eq_false hh]; rfl, v.kept, .slice A2 (v.F.eraseIdx k).length c2, ?_, HM4.out.mono (fun _ _ x => x), .inl rfl⟩
        rw [if_neg hh, if_neg hh]
        exact HC4.out
end Go.Proofs.Ytdnkbnpjbcalaaa
