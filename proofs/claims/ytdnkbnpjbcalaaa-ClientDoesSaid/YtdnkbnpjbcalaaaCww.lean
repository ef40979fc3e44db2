/- The document's client: Flushed. -/
import Derived.Test.YtdnkbnpjbcalaaaCwx
namespace Go.Proofs.Ytdnkbnpjbcalaaa
open Go.RowKit

def RFlushPost (w : World) (base b : Nat) (r : RfV) (id how : Int) (e : Ending) (w' : World) : Prop :=
  e = .returned (.bool (decide (how = 2))) ∧ ∃ kv wv, RefAt w' base b { r with kv := kv, K := if how = 2 then [] else r.K, wv := wv, F := if how = 2 then [] else if how = 1 then r.F else r.F ++ [(id, (r.K.length : Int))] } ∧ Mv w w' (fun i => i = b) ∧ (kv = r.kv ∨ kv = .slice none 0 0)
theorem RefAt.nil {w : World} {base b : Nat} (h : Blk w b #[.slice none 0 0, .slice none 0 0] 52) (hb : base ≤ b) : RefAt w base b ⟨.slice none 0 0, [], .slice none 0 0, []⟩ :=
  ⟨h, ⟨rfl, .inl ⟨rfl, rfl⟩⟩, ⟨none, 0, rfl, Nat.le_refl _, fun _ => rfl⟩, (fun j hj => by cases hj), World.ownsRow_nil _ _ _ _, hb⟩

theorem app_one {w1 W x1 : World} {g : Nat} (hb : Below w1.heap.size w1 W) (hg : W.drew.grownBy x1 (some g)) (hge : w1.heap.size ≤ g) : Mv w1 x1 (fun _ => False) :=
  (Mv.of_below hb _).trans (show Mv W x1 (fun i => i = g) from ⟨hg.os, hg.tape, hg.output, hg.size, fun i hi hn => hg.block i hi (fun e => hn (Option.some.inj e))⟩) (fun i hi x => by omega)
theorem new_block {w1 W : World} {v : Value} {g : Nat} (h : v.ownBlock = (Value.slice (some ⟨g, 0, none⟩) 0 0).ownBlock ∨ v.ownBlock = some W.drew.heap.size) (hz : w1.heap.size ≤ W.heap.size) (hge : w1.heap.size ≤ g := by omega) : ∀ i, v.ownBlock = some i → w1.heap.size ≤ i := fun i hi => by
  rcases h with e | e
  · rw [e] at hi; have : g = i := by simpa [Value.ownBlock] using hi
    omega
  · rw [e] at hi; have : W.heap.size = i := Option.some.inj hi
    omega
theorem app_two {w1 x1 xa w5 : World} {v1 : Value} (hm : Mv w1 x1 (fun _ => False)) (hb : Below x1.heap.size x1 xa) (hg : xa.grownBy w5 v1.ownBlock) (hn : ∀ i, v1.ownBlock = some i → w1.heap.size ≤ i) : Mv w1 w5 (fun _ => False) :=
  (hm.trans (Mv.of_below hb (fun _ => False)) (fun _ _ x => x)).trans (Mv.of_grown hg (S := fun i => v1.ownBlock = some i) (fun i e => e)) (fun i hi x => by have := hn i x; omega)
theorem rflush_more {w w1 w5 : World} {base b : Nat} {r : RfV} {id how : Int} {g5 c5 : Nat} (h2 : ¬ how = 2) (h1 : ¬ how = 1) (hr1 : RefAt w1 base b r) (hb1 : Below w.heap.size w w1) (hm5 : Mv w1 w5 (fun _ => False)) (hr5 : RefAt w5 base b r)
    (hof : w5.ownsRow w1.heap.size 76 2 (.slice (some ⟨g5, 0, none⟩) (0 + r.F.length + 1) c5) (0 + r.F.length + 1) ([] ++ flCells r.F ++ [.int .i64 id, .int .i64 (r.K.length : Int)])) :
    RFlushPost w base b r id how (.returned (.bool false)) (w5.setCell ⟨b, 1, none⟩ (.slice (some ⟨g5, 0, none⟩) (r.F.length + 1) c5)) := by
  have g := Mv.of_set w5 b 1 (.slice (some ⟨g5, 0, none⟩) (r.F.length + 1) c5) (S := (fun i => i = b)) rfl
  rw [List.nil_append, Nat.zero_add] at hof
  have ho : w5.ownsRow base 76 2 (.slice (some ⟨g5, 0, none⟩) (r.F.length + 1) c5) (r.F ++ [(id, (r.K.length : Int))]).length (flCells (r.F ++ [(id, (r.K.length : Int))])) := by
    rw [List.length_append, flCells_app]
    exact own_in hof (by have := hr1.hb; have := hr1.box.lt; omega)
  refine ⟨by rw [decide_eq_false h2], r.kv, .slice (some ⟨g5, 0, none⟩) (r.F.length + 1) c5, ?_, ((Mv.of_below hb1 _).trans hm5 (fun _ _ x => x.elim)).trans g (fun _ _ x => x), .inl rfl⟩
  rw [if_neg h2, if_neg h2, if_neg h1]
  exact ⟨hr5.box.set 1 _, hr5.k.mv g (fun i hi e => hr5.kv_ne hr5.box (by decide) i hi e), hr5.kl, fun j hj => ⟨(hr5.kb j hj).1, by obtain ⟨cs, hx⟩ := (hr5.kb j hj).2; exact ⟨cs, hx.mv g (hr5.kv_ne hr5.box (by decide) j hj)⟩⟩,
    own_mv ho g (fun i hi e => own_type ho hr5.box (by decide) (by rw [← e]; exact hi)), hr5.hb⟩
set_option maxRecDepth 100000 in
set_option maxHeartbeats 4000000 in
theorem rf_flushed (w : World) (base b : Nat) (r : RfV) (h : RefAt w base b r) (hF : r.F.length ≤ 900) (_hK : r.K.length ≤ 1000) (id how : Int) :
    Calls Try.prog 17 #[.pointer (some ⟨b, 0, none⟩), .agg #[.int .i64 id, .int .i64 how]] w fun e w' => RFlushPost w base b r id how e w' := by
  obtain ⟨w1, hw1⟩ : ∃ w1, w.alloc (.cells #[.int .i64 id, .int .i64 how] 54) = w1 := ⟨_, rfl⟩
  have hb1 : Below w.heap.size w w1 := by rw [← hw1]; exact (Below.refl _ _).alloc (Nat.le_refl _) _
  have hs1 : w1.heap.size = w.heap.size + 1 := by rw [← hw1]; simp
  have hx1 : Blk w1 w.heap.size #[.int .i64 id, .int .i64 how] 54 := by rw [← hw1]; exact Blk.alloc _ _ _
  have hr1 := h.below hb1
  have e0 := hx1.cell (i := 0) rfl
  have e1 := hx1.cell (i := 1) rfl
  have HX1 := Lib.hid hx1
  have HR1 := Lib.hid hr1
  have HB1 := Lib.hid hb1
  have hbne : b ≠ w.heap.size := fun e => blk_ne hr1.box hx1 (by decide) e
  have f0 := hr1.box.free 0
  have f1 := hr1.box.free 1
  have c0 := hr1.box.cell (i := 0) rfl
  have c1 := hr1.box.cell (i := 1) rfl
  by_cases h2 : how = 2
  · have hhb : (how == 2) = true := by rw [beq_iff_eq]; exact h2
    obtain ⟨w2, hw2⟩ : ∃ w2, w1.setCell ⟨b, 0, none⟩ (.slice none 0 0) = w2 := ⟨_, rfl⟩
    have hm2 : Mv w1 w2 (fun i => i = b) := by rw [← hw2]; exact Mv.of_set _ _ _ _ rfl
    have hbx2 : Blk w2 b #[.slice none 0 0, r.wv] 52 := by rw [← hw2]; exact hr1.box.set 0 _
    have g1 := hbx2.cell (i := 1) rfl
    have gf1 := hbx2.free 1
    have HBX := Lib.hid hbx2
    have HM2 := Lib.hid hm2
    have HH := Lib.hid h2
    clear h hb1 hx1 hr1 hbx2 hm2 h2
    go_enter Try.func17, Try.ntmps17
    go_wp2
    go_ret
    have hh := HH.out
    refine ⟨by rw [decide_eq_true hh]; rfl, .slice none 0 0, .slice none 0 0, ?_, ((Mv.of_below HB1.out _).trans HM2.out (fun _ _ x => x)).trans (Mv.of_set _ b 1 (.slice none 0 0) (S := fun i => i = b) rfl) (fun _ _ x => x), .inr rfl⟩
    rw [if_pos hh, if_pos hh]
    exact RefAt.nil (HBX.out.set 1 _) HR1.out.hb
  · have hhb : (how == 2) = false := by rw [beq_eq_false_iff_ne]; exact h2
    have HH := Lib.hid h2
    by_cases h1 : how = 1
    · have hhb1 : (how == 1) = true := by rw [beq_iff_eq]; exact h1
      have H1 := Lib.hid h1
      clear h hb1 hx1 hr1 h1 h2
      go_enter Try.func17, Try.ntmps17
      go_wp2
      go_ret
      refine ⟨by rw [decide_eq_false HH.out]; rfl, r.kv, r.wv, ?_, Mv.of_below HB1.out _, .inl rfl⟩
      rw [if_neg HH.out, if_neg HH.out, if_pos H1.out]
      exact HR1.out
    · have hhb1 : (how == 1) = false := by rw [beq_eq_false_iff_ne]; exact h1
      have H1 := Lib.hid h1
      obtain ⟨i0, hi, hz0, hz1, hz2⟩ := info_parts rf_info
      obtain ⟨KA, kc, hkv, _, _⟩ := hr1.kl
      obtain ⟨B, bp, hwp, hbp, _⟩ := own_form hr1.f (by decide)
      rw [hkv] at c0
      rw [hwp] at c1
      have c0 : w1.cell? ⟨b, 0, none⟩ = some (.slice KA r.K.length kc) := c0
      have c1 : w1.cell? ⟨b, 1, none⟩ = some (.slice B r.F.length bp) := c1
      have hlb : b < w1.heap.size := hr1.box.lt
      have hlx : w.heap.size < w1.heap.size := hx1.lt
      have hbA : Below w1.heap.size w1 (w1.alloc (.cells #[] 76)) := (Below.refl _ _).alloc (Nat.le_refl _) _
      have hbB : Below w1.heap.size w1 ((w1.alloc (.cells #[] 76)).alloc (.cells #[.int .i64 id, .int .i64 (r.K.length : Int)] 76)) := ((Below.refl _ _).alloc (Nat.le_refl _) _).alloc (by simp) _
      have hbC : Below w1.heap.size w1 ((w1.alloc (.cells #[.int .i64 id, .int .i64 (r.K.length : Int)] 76)).alloc (.cells #[] 76)) := ((Below.refl _ _).alloc (Nat.le_refl _) _).alloc (by simp) _
      have HW1 := Lib.hid hbA
      have HW2 := Lib.hid hbB
      have HW3 := Lib.hid hbC
      have HO1 := Lib.hid (show (w1.alloc (.cells #[] 76)).ownsRow w1.heap.size 76 2 (.slice (some ⟨w1.heap.size, 0, none⟩) 0 0) 0 [] from own_empty (Blk.alloc _ _ _) (Nat.le_refl _))
      have HO2 := Lib.hid (show ((w1.alloc (.cells #[] 76)).alloc (.cells #[.int .i64 id, .int .i64 (r.K.length : Int)] 76)).ownsRow w1.heap.size 76 2 (.slice (some ⟨w1.heap.size, 0, none⟩) 0 0) 0 [] from own_empty ((Blk.alloc _ _ _).below ((Below.refl _ _).alloc (Nat.le_refl _) _) (by simp)) (Nat.le_refl _))
      have HO3 := Lib.hid (show ((w1.alloc (.cells #[.int .i64 id, .int .i64 (r.K.length : Int)] 76)).alloc (.cells #[] 76)).ownsRow w1.heap.size 76 2 (.slice (some ⟨w1.heap.size + 1, 0, none⟩) 0 0) 0 [] from own_empty (blk_new (by simp)) (by omega))
      have HQ1 := Lib.hid (show Rd (w1.alloc (.cells #[] 76)) 2 (.slice B r.F.length bp) r.F.length (flCells r.F) from by rw [← hwp]; exact Rd.own (hr1.below hbA).f)
      have HQ2 := Lib.hid (show Rd ((w1.alloc (.cells #[] 76)).alloc (.cells #[.int .i64 id, .int .i64 (r.K.length : Int)] 76)) 2 (.slice B r.F.length bp) r.F.length (flCells r.F) from by rw [← hwp]; exact Rd.own (hr1.below hbB).f)
      have HQ3 := Lib.hid (show Rd ((w1.alloc (.cells #[.int .i64 id, .int .i64 (r.K.length : Int)] 76)).alloc (.cells #[] 76)) 2 (.slice B r.F.length bp) r.F.length (flCells r.F) from by rw [← hwp]; exact Rd.own (hr1.below hbC).f)
      have HZ1 := Lib.hid hbA.size
      have HZ2 := Lib.hid hbB.size
      have HZ3 := Lib.hid hbC.size
      have HE2 := Lib.hid (show Blk ((w1.alloc (.cells #[] 76)).alloc (.cells #[.int .i64 id, .int .i64 (r.K.length : Int)] 76)) (w1.heap.size + 1) #[.int .i64 id, .int .i64 (r.K.length : Int)] 76 from blk_new (by simp))
      have HE3 := Lib.hid (show Blk ((w1.alloc (.cells #[.int .i64 id, .int .i64 (r.K.length : Int)] 76)).alloc (.cells #[] 76)) w1.heap.size #[.int .i64 id, .int .i64 (r.K.length : Int)] 76 from (Blk.alloc _ _ _).below ((Below.refl _ _).alloc (Nat.le_refl _) _) (by simp))
      have HONE := Lib.hid (flCells_one r.F)
      clear h hb1 hx1 hr1 h1 h2 hkv hwp hs1 hbA hbB hbC
      have tkA : True := trivial
      go_enter Try.func17, Try.ntmps17
      go_wp2
      go_region_law (first
        | (have _t := tkA; refine step_append_rd (by rfl) (.tmp 18) (.tmp 22) 50 (by rfl) w1.heap.size 76 i0 (.agg #[.int .i64 0, .int .i64 0]) 2 16 Try.underlying50 hi hz0 hz1 hz2 rfl (by decide) (.slice (some ⟨w1.heap.size, 0, none⟩) 0 0) 0 [] (by rfl) (by exact HO1.out) (.slice B r.F.length bp) r.F.length (flCells r.F) (by rfl) (by exact HQ1.out) HONE.out (by unfold maxLen; omega) (by omega) (by exact HZ1.out) ?_; intro v1 x1 hown1 hgrow1 hat1; have hm1 : Mv w1 x1 (fun _ => False) := app_one (g := w1.heap.size) HW1.out hgrow1 (by omega); have y0 : x1.cell? ⟨b, 0, none⟩ = some (.slice KA r.K.length kc) := cell_mv hm1 c0 (fun x => x); have y1 : x1.cell? ⟨w.heap.size, 0, none⟩ = some (.int .i64 id) := cell_mv hm1 e0 (fun x => x); have HM1 := Lib.hid hm1; have HOW := Lib.hid hown1; have HSX := Lib.hid (show w1.heap.size ≤ x1.heap.size from hm1.size); have HNB := Lib.hid (new_block (g := w1.heap.size) hat1 HZ1.out); clear hown1 hgrow1 hat1 hm1 tkA _t)
        | (have _t := tkA; refine step_append_rd (by rfl) (.tmp 18) (.tmp 22) 50 (by rfl) w1.heap.size 76 i0 (.agg #[.int .i64 0, .int .i64 0]) 2 16 Try.underlying50 hi hz0 hz1 hz2 rfl (by decide) (.slice (some ⟨w1.heap.size, 0, none⟩) 0 0) 0 [] (by rfl) (by exact HO2.out) (.slice B r.F.length bp) r.F.length (flCells r.F) (by rfl) (by exact HQ2.out) HONE.out (by unfold maxLen; omega) (by omega) (by exact HZ2.out) ?_; intro v1 x1 hown1 hgrow1 hat1; have hm1 : Mv w1 x1 (fun _ => False) := app_one (g := w1.heap.size) HW2.out hgrow1 (by omega); have y0 : x1.cell? ⟨b, 0, none⟩ = some (.slice KA r.K.length kc) := cell_mv hm1 c0 (fun x => x); have y1 : x1.cell? ⟨w.heap.size, 0, none⟩ = some (.int .i64 id) := cell_mv hm1 e0 (fun x => x); have HM1 := Lib.hid hm1; have HOW := Lib.hid hown1; have HSX := Lib.hid (show w1.heap.size ≤ x1.heap.size from hm1.size); have HNB := Lib.hid (new_block (g := w1.heap.size) hat1 HZ2.out); have HE1 := Lib.hid (show Blk x1 (w1.heap.size + 1) #[.int .i64 id, .int .i64 (r.K.length : Int)] 76 from Blk.grown (HE2.out) ⟨hgrow1.os, hgrow1.tape, hgrow1.output, hgrow1.size, hgrow1.block⟩ (fun e => by have e2 : w1.heap.size + 1 = w1.heap.size := Option.some.inj e; omega)); clear hown1 hgrow1 hat1 hm1 tkA _t)
        | (have _t := tkA; refine step_append_rd (by rfl) (.tmp 18) (.tmp 22) 50 (by rfl) w1.heap.size 76 i0 (.agg #[.int .i64 0, .int .i64 0]) 2 16 Try.underlying50 hi hz0 hz1 hz2 rfl (by decide) (.slice (some ⟨w1.heap.size + 1, 0, none⟩) 0 0) 0 [] (by rfl) (by exact HO3.out) (.slice B r.F.length bp) r.F.length (flCells r.F) (by rfl) (by exact HQ3.out) HONE.out (by unfold maxLen; omega) (by omega) (by exact HZ3.out) ?_; intro v1 x1 hown1 hgrow1 hat1; have hm1 : Mv w1 x1 (fun _ => False) := app_one (g := w1.heap.size + 1) HW3.out hgrow1 (by omega); have y0 : x1.cell? ⟨b, 0, none⟩ = some (.slice KA r.K.length kc) := cell_mv hm1 c0 (fun x => x); have y1 : x1.cell? ⟨w.heap.size, 0, none⟩ = some (.int .i64 id) := cell_mv hm1 e0 (fun x => x); have HM1 := Lib.hid hm1; have HOW := Lib.hid hown1; have HSX := Lib.hid (show w1.heap.size ≤ x1.heap.size from hm1.size); have HNB := Lib.hid (new_block (g := w1.heap.size + 1) hat1 HZ3.out); have HE1 := Lib.hid (show Blk x1 w1.heap.size #[.int .i64 id, .int .i64 (r.K.length : Int)] 76 from Blk.grown (HE3.out) ⟨hgrow1.os, hgrow1.tape, hgrow1.output, hgrow1.size, hgrow1.block⟩ (fun e => by have e2 : w1.heap.size = w1.heap.size + 1 := Option.some.inj e; omega)); clear hown1 hgrow1 hat1 hm1 tkA _t)
        | (have _t := HSX; refine step_append_rd (by rfl) (.tmp 23) (.tmp 32) 50 (by rfl) w1.heap.size 76 i0 (.agg #[.int .i64 0, .int .i64 0]) 2 16 Try.underlying50 hi hz0 hz1 hz2 rfl (by decide) v1 (0 + r.F.length) ([] ++ flCells r.F) (by rfl) (by exact own_mv HOW.out (Mv.of_below ((Below.refl _ _).alloc (Nat.le_refl _) _) (fun _ => False)) (fun _ _ x => x)) (.slice (some ⟨x1.heap.size, 0, none⟩) 1 1) 1 [.int .i64 id, .int .i64 (r.K.length : Int)] (by rfl) (by exact rd_blk (cs := #[.int .i64 id, .int .i64 (r.K.length : Int)]) (Blk.alloc _ _ _) rfl) (by simp [Value.oneCell']) (by unfold maxLen; omega) (by omega) (by exact Nat.le_trans HSX.out (by simp)) ?_; intro v5 w5 hown5 hgrow5 hat5; obtain ⟨g5, c5, rfl, _⟩ := World.ownsRow.form hown5 (by omega); have hm5 := app_two HM1.out (by first | exact Below.refl _ _ | exact (Below.refl _ _).alloc (Nat.le_refl _) _) hgrow5 HNB.out; have hr5 := HR1.out.mv hm5 (fun x => x) (fun _ _ x => x) (fun _ _ x => x); have d1 := hr5.box.cell (i := 1) rfl; have df1 := hr5.box.free 1; have HOF := Lib.hid hown5; have HM5 := Lib.hid hm5; have HR5 := Lib.hid hr5; clear hown5 hgrow5 hat5 hm5 hr5 _t)
        | (have _t := HSX; refine step_append_rd (by rfl) (.tmp 23) (.tmp 32) 50 (by rfl) w1.heap.size 76 i0 (.agg #[.int .i64 0, .int .i64 0]) 2 16 Try.underlying50 hi hz0 hz1 hz2 rfl (by decide) v1 (0 + r.F.length) ([] ++ flCells r.F) (by rfl) (by exact HOW.out) (.slice (some ⟨w1.heap.size + 1, 0, none⟩) 1 1) 1 [.int .i64 id, .int .i64 (r.K.length : Int)] (by rfl) (by exact rd_blk HE1.out rfl) (by simp [Value.oneCell']) (by unfold maxLen; omega) (by omega) (by exact HSX.out) ?_; intro v5 w5 hown5 hgrow5 hat5; obtain ⟨g5, c5, rfl, _⟩ := World.ownsRow.form hown5 (by omega); have hm5 := app_two HM1.out (by first | exact Below.refl _ _ | exact (Below.refl _ _).alloc (Nat.le_refl _) _) hgrow5 HNB.out; have hr5 := HR1.out.mv hm5 (fun x => x) (fun _ _ x => x) (fun _ _ x => x); have d1 := hr5.box.cell (i := 1) rfl; have df1 := hr5.box.free 1; have HOF := Lib.hid hown5; have HM5 := Lib.hid hm5; have HR5 := Lib.hid hr5; clear hown5 hgrow5 hat5 hm5 hr5 _t)
        | (have _t := HSX; refine step_append_rd (by rfl) (.tmp 23) (.tmp 32) 50 (by rfl) w1.heap.size 76 i0 (.agg #[.int .i64 0, .int .i64 0]) 2 16 Try.underlying50 hi hz0 hz1 hz2 rfl (by decide) v1 (0 + r.F.length) ([] ++ flCells r.F) (by rfl) (by exact HOW.out) (.slice (some ⟨w1.heap.size, 0, none⟩) 1 1) 1 [.int .i64 id, .int .i64 (r.K.length : Int)] (by rfl) (by exact rd_blk HE1.out rfl) (by simp [Value.oneCell']) (by unfold maxLen; omega) (by omega) (by exact HSX.out) ?_; intro v5 w5 hown5 hgrow5 hat5; obtain ⟨g5, c5, rfl, _⟩ := World.ownsRow.form hown5 (by omega); have hm5 := app_two HM1.out (by first | exact Below.refl _ _ | exact (Below.refl _ _).alloc (Nat.le_refl _) _) hgrow5 HNB.out; have hr5 := HR1.out.mv hm5 (fun x => x) (fun _ _ x => x) (fun _ _ x => x); have d1 := hr5.box.cell (i := 1) rfl; have df1 := hr5.box.free 1; have HOF := Lib.hid hown5; have HM5 := Lib.hid hm5; have HR5 := Lib.hid hr5; clear hown5 hgrow5 hat5 hm5 hr5 _t))
      all_goals
        go_wp2
        go_ret
        exact rflush_more HH.out H1.out HR1.out HB1.out HM5.out HR5.out HOF.out
end Go.Proofs.Ytdnkbnpjbcalaaa
