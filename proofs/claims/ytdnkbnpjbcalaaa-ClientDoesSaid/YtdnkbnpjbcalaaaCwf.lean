/- What moves: blocks of a set, and what is new; a tape whole, and what it answers next. -/
import Derived.Test.YtdnkbnpjbcalaaaCwe
namespace Go.Proofs.Ytdnkbnpjbcalaaa
open Go.RowKit

/-- All that was there is as it was, but for the blocks of S. -/
structure Mv (w w' : World) (S : Nat → Prop) : Prop where
  os : w'.os = w.os
  tape : w'.tape = w.tape
  output : w'.output = w.output
  size : w.heap.size ≤ w'.heap.size
  block : ∀ i, i < w.heap.size → ¬ S i → w'.heap[i]? = w.heap[i]?
theorem Mv.refl (w : World) (S : Nat → Prop) : Mv w w S := ⟨rfl, rfl, rfl, Nat.le_refl _, fun _ _ _ => rfl⟩
theorem Mv.of_below {w w' : World} (h : Below w.heap.size w w') (S : Nat → Prop) : Mv w w' S := ⟨h.os, h.tape, h.output, h.size, fun i hi _ => h.block i hi⟩
theorem Mv.of_grown {w w' : World} {r : Option Nat} (h : w.grownBy w' r) {S : Nat → Prop} (hs : ∀ i, r = some i → S i) : Mv w w' S :=
  ⟨h.os, h.tape, h.output, h.size, fun i hi hn => h.block i hi (fun e => hn (hs i e.symm))⟩
theorem Mv.of_set (w : World) (b i : Nat) (v : Value) {S : Nat → Prop} (hs : S b) : Mv w (w.setCell ⟨b, i, none⟩ v) S :=
  Mv.of_grown (grown_set i v) (fun j e => by injection e with e; subst e; exact hs)
theorem Mv.trans {a b c : World} {S S' : Nat → Prop} (h : Mv a b S) (k : Mv b c S') (hs : ∀ i, i < a.heap.size → S' i → S i) : Mv a c S :=
  ⟨k.os.trans h.os, k.tape.trans h.tape, k.output.trans h.output, Nat.le_trans h.size k.size, fun i hi hn => (k.block i (Nat.lt_of_lt_of_le hi h.size) (fun x => hn (hs i hi x))).trans (h.block i hi hn)⟩
theorem Mv.mono {a b : World} {S S' : Nat → Prop} (h : Mv a b S) (hs : ∀ i, i < a.heap.size → S i → S' i) : Mv a b S' :=
  ⟨h.os, h.tape, h.output, h.size, fun i hi hn => h.block i hi (fun x => hn (hs i hi x))⟩
theorem Mv.below {a b : World} {S : Nat → Prop} (h : Mv a b S) {B : Nat} (hB : B ≤ a.heap.size) (hs : ∀ i, S i → B ≤ i) : Below B a b :=
  ⟨h.os, h.tape, h.output, h.size, fun i hi => h.block i (Nat.lt_of_lt_of_le hi hB) (fun x => by have := hs i x; omega)⟩
theorem Mv.stays {a b : World} {S : Nat → Prop} (h : Mv a b S) : Stays a b S := ⟨h.size, h.block⟩
theorem Blk.mv {w w' : World} {b : Nat} {cs : Array Value} {t : TypeId} (h : Blk w b cs t) {S : Nat → Prop} (hk : Mv w w' S) (hs : ¬ S b) : Blk w' b cs t := h.stays hk.stays hs
theorem own_mv {w w' : World} {base : Nat} {e : TypeId} {size n : Nat} {v : Value} {xs : List Value} (h : w.ownsRow base e size v n xs) {S : Nat → Prop} (hk : Mv w w' S) (hs : ∀ i, v.ownBlock = some i → ¬ S i) : w'.ownsRow base e size v n xs :=
  own_stays h hk.stays hs
theorem cell_mv {w w' : World} {S : Nat → Prop} (hk : Mv w w' S) {a : Addr} {v : Value} (h : w.cell? a = some v) (hs : ¬ S a.block) : w'.cell? a = some v := by
  have := hk.block a.block (World.block_lt_of_cell? w a h) hs
  simpa [World.cell?, this] using h
theorem add_block (a : Addr) (k : Nat) : (a.add k).block = a.block := by unfold Addr.add; split <;> rfl
theorem Ints.mv {w w' : World} {A : Option Addr} {l : List Int} (h : Ints w A l) {S : Nat → Prop} (hk : Mv w w' S) (hs : ∀ ad, A = some ad → 0 < l.length → ¬ S ad.block) : Ints w' A l :=
  ⟨h.1, fun k hlt => by
    obtain ⟨ad, e, h2⟩ := h.2 k hlt
    exact ⟨ad, e, cell_mv hk h2 (by rw [add_block]; exact hs ad e (by omega))⟩⟩
theorem Blk.drewN {w : World} {b : Nat} {cs : Array Value} {t : TypeId} (h : Blk w b cs t) (n : Nat) : Blk (w.drewN n) b cs t := h
theorem Mv.drewN {w w' : World} {S : Nat → Prop} (h : Mv w w' S) (n : Nat) : Mv w (w'.drewN n) S := ⟨h.os, h.tape, h.output, h.size, h.block⟩
theorem Ints.nil (w : World) (A : Option Addr) : Ints w A [] := ⟨by simp, fun k h => by simp at h⟩

set_option maxRecDepth 100000 in
set_option maxHeartbeats 2000000 in
theorem tp_next_ok (w : World) (b : Nat) (E : Option Addr) (ce : Nat) (Hs : Option Addr) (ch : Nat) (come wrote : Value) (n ops : Nat) (errs hows : List Int) (hE : Ints w E errs) (hH : Ints w Hs hows)
    (h : TpBox w b E errs.length ce Hs hows.length ch come wrote n ops)
    (he : errAt errs n = 0) (hn2 : n ≤ 100000) (ho2 : ops ≤ 100000) (hfar : ∀ ad, E = some ad → 0 < errs.length → ad.block ≠ b) (hfar2 : ∀ ad, Hs = some ad → 0 < hows.length → ad.block ≠ b) :
    Calls Try.prog 15 #[.pointer (some ⟨b, 0, none⟩)] w fun e w' => e = .returned (.tuple #[.agg #[.int .i64 (ops + 1 : Nat), .int .i64 (howAt hows ops)], .int .i64 0]) ∧ TpBox w' b E errs.length ce Hs hows.length ch come wrote (n + 1) (ops + 1) ∧ Mv w w' (· = b) := by
  have hmax := hE.1
  have hmax2 := hH.1
  obtain ⟨wa, hwa⟩ : ∃ wa, w.alloc (.cells #[.int .i64 0, .int .i64 0] 54) = wa := ⟨_, rfl⟩
  have hba : Below w.heap.size w wa := by rw [← hwa]; exact (Below.refl _ _).alloc (Nat.le_refl _) _
  have hsa : wa.heap.size = w.heap.size + 1 := by rw [← hwa]; simp
  have hbx := h.below hba h.lt
  have c4 := hbx.cell (i := 4) rfl
  have f4 := hbx.free 4
  have hlt := h.lt
  have hw1 : IntKind.i64.wrap ((n : Int) + 1) = (n : Int) + 1 := IntWalk.i64_in _ ⟨by omega, by omega⟩
  obtain ⟨w1, hw1'⟩ : ∃ w1, wa.setCell ⟨b, 4, none⟩ (.int .i64 ((n : Int) + 1)) = w1 := ⟨_, rfl⟩
  have hb1 : TpBox w1 b E errs.length ce Hs hows.length ch come wrote (n + 1) ops := by rw [← hw1']; exact hbx.set 4 _
  have d0 := hb1.cell (i := 0) rfl
  have d1 := hb1.cell (i := 1) rfl
  have d4 := hb1.cell (i := 4) (v := .int .i64 ((n : Int) + 1)) rfl
  have d5 := hb1.cell (i := 5) rfl
  have f5 := hb1.free 5
  have hm1 : Mv w w1 (· = b) := (Mv.of_below hba _).trans (by rw [← hw1']; exact Mv.of_set _ _ _ _ rfl) (fun _ _ x => x)
  have hw4 : IntKind.i64.wrap ((ops : Int) + 1) = (ops : Int) + 1 := IntWalk.i64_in _ ⟨by omega, by omega⟩
  obtain ⟨w2, hw2'⟩ : ∃ w2, w1.setCell ⟨b, 5, none⟩ (.int .i64 ((ops : Int) + 1)) = w2 := ⟨_, rfl⟩
  have hb2 : TpBox w2 b E errs.length ce Hs hows.length ch come wrote (n + 1) (ops + 1) := by rw [← hw2']; exact hb1.set 5 _
  have e1 := hb2.cell (i := 1) rfl
  have e5 := hb2.cell (i := 5) (v := .int .i64 ((ops : Int) + 1)) rfl
  have hm2 : Mv w w2 (· = b) := hm1.trans (by rw [← hw2']; exact Mv.of_set _ _ _ _ rfl) (fun _ _ x => x)
  have hs2 : w2.heap.size = w.heap.size + 1 := by rw [← hw2', ← hw1']; simp [hsa]
  have hev : Blk w2 w.heap.size #[.int .i64 0, .int .i64 0] 54 := by
    have h0 : Blk wa w.heap.size #[.int .i64 0, .int .i64 0] 54 := by rw [← hwa]; exact Blk.alloc w _ _
    have h1 : Blk w1 w.heap.size #[.int .i64 0, .int .i64 0] 54 := h0.mv (by rw [← hw1']; exact Mv.of_set _ _ _ _ rfl) (S := (· = b)) (fun e => by omega)
    exact h1.mv (by rw [← hw2']; exact Mv.of_set _ _ _ _ rfl) (S := (· = b)) (fun e => by omega)
  have hw2q : ∀ m, (w1.drewN m).setCell ⟨b, 5, none⟩ (.int .i64 ((ops : Int) + 1)) = w2.drewN m := fun m => by rw [← hw2']; rfl
  obtain ⟨w3, hw3'⟩ : ∃ w3, w2.alloc (.cells #[.int .i64 ((ops : Int) + 1), .int .i64 0] 54) = w3 := ⟨_, rfl⟩
  have hw3q : ∀ m, (w2.drewN m).alloc (.cells #[.int .i64 ((ops : Int) + 1), .int .i64 0] 54) = w3.drewN m := fun m => by rw [← hw3']; rfl
  have hba3 : Below w2.heap.size w2 w3 := by rw [← hw3']; exact (Below.refl _ _).alloc (Nat.le_refl _) _
  have hb3 := hb2.below hba3 hb2.lt
  have g1 := hb3.cell (i := 1) rfl
  have g5 := hb3.cell (i := 5) (v := .int .i64 ((ops : Int) + 1)) rfl
  have hev3 := hev.below hba3 hev.lt
  have hx3 : Blk w3 (w.heap.size + 1) #[.int .i64 ((ops : Int) + 1), .int .i64 0] 54 := by rw [← hw3', ← hs2]; exact Blk.alloc w2 _ _
  have k0 := hx3.cell (i := 0) rfl
  have k1 := hx3.cell (i := 1) rfl
  have kf0 := hx3.free 0
  have kf1 := hx3.free 1
  have q0 := hev3.cell (i := 0) rfl
  have q1 := hev3.cell (i := 1) rfl
  have r0 := hev3.free 0
  have r1 := hev3.free 1
  have HB3 := Lib.hid hb3
  have HEV3 := Lib.hid hev3
  have HX3 := Lib.hid hx3
  have HW3 := Lib.hid hw3q
  have HM3 := Lib.hid (show Mv w w3 (· = b) from hm2.trans (Mv.of_below hba3 (fun _ => False)) (fun _ _ x => x.elim))
  have HNB := Lib.hid (show b ≠ w.heap.size ∧ b ≠ w.heap.size + 1 from by omega)
  clear hb3 hev3 hx3 hb2 hev hw3' hw2' hw3q hm2 hba3
  -- hm2.trans (Mv.of_below hba3 (fun _ => False)) (fun _ _ x => x.elim)
  by_cases hn : n < errs.length
  · by_cases ho : ops < hows.length
    · obtain ⟨ad, rfl, hc⟩ := hE.2 n hn
      have hz : errs[n] = 0 := by unfold errAt at he; rw [List.getD_eq_getElem?_getD, List.getElem?_eq_getElem hn] at he; exact he
      rw [hz] at hc
      have dE : w1.cell? (ad.add n) = some (.int .i64 0) := cell_mv hm1 hc (by rw [add_block]; exact hfar ad rfl (by omega))
      have hle : (n : Int) + 1 ≤ errs.length := by omega
      have hw2 : IntKind.i64.wrap ((n : Int) + 1 - 1) = n := by rw [show (n : Int) + 1 - 1 = n from by omega]; exact IntWalk.i64_in _ ⟨by omega, by omega⟩
      have hw3 : IntKind.i64.wrap (n : Int) = n := IntWalk.i64_in _ ⟨by omega, by omega⟩
      clear hc hz
      obtain ⟨hd, rfl, hc2⟩ := hH.2 ops ho
      have hho : howAt hows ops = hows[ops] := by unfold howAt; rw [List.getD_eq_getElem?_getD, List.getElem?_eq_getElem ho]; rfl
      generalize hows[ops] = how at hc2 hho
      have HHO := Lib.hid hho
      have dH : w3.cell? (hd.add ops) = some (.int .i64 how) := cell_mv HM3.out hc2 (by rw [add_block]; exact hfar2 hd rfl (by omega))
      have hgo : (ops : Int) + 1 ≤ hows.length := by omega
      have hw5 : IntKind.i64.wrap ((ops : Int) + 1 - 1) = ops := by rw [show (ops : Int) + 1 - 1 = ops from by omega]; exact IntWalk.i64_in _ ⟨by omega, by omega⟩
      have hw6 : IntKind.i64.wrap (ops : Int) = ops := IntWalk.i64_in _ ⟨by omega, by omega⟩
      clear hc2 hho
      clear hE hH h he hba hbx hb1 hm1 hfar hfar2
      go_enter Try.func15, Try.ntmps15
      go_wp2
      go_quiet (fail)
      go_wp2
      go_quiet (fail)
      go_wp2
      simp only [HW3.out]
      go_quiet (fail)
      go_wp2
      simp only [World.drewN_drewN]
      generalize hq : w3.drewN _ = wq
      have t1 : wq.cell? ⟨b, 1, none⟩ = some (.slice (some hd) hows.length ch) := by rw [← hq]; exact g1
      have t5 : wq.cell? ⟨b, 5, none⟩ = some (.int .i64 ((ops : Int) + 1)) := by rw [← hq]; exact g5
      have tH : wq.cell? (hd.add ops) = some (.int .i64 how) := by rw [← hq]; exact dH
      have tk1 : wq.cell? ⟨w.heap.size + 1, 1, none⟩ = some (.int .i64 0) := by rw [← hq]; exact k1
      have tkf1 : wq.frozen? ⟨w.heap.size + 1, 1, none⟩ = false := by rw [← hq]; exact kf1
      obtain ⟨w4, hw4'⟩ : ∃ w4, wq.drew.setCell ⟨w.heap.size + 1, 1, none⟩ (.int .i64 how) = w4 := ⟨_, rfl⟩
      have hw4q : (wq.setCell ⟨w.heap.size + 1, 1, none⟩ (.int .i64 how)).drew = w4 := by rw [← hw4']; rfl
      have hm4 : Mv w3 w4 (· = w.heap.size + 1) := by rw [← hw4', ← hq]; exact Mv.trans (S' := (· = w.heap.size + 1)) (b := (w3.drewN _).drew) ⟨rfl, rfl, rfl, Nat.le_refl _, fun _ _ _ => rfl⟩ (Mv.of_set _ _ 1 _ rfl) (fun _ _ x => x)
      have hx4 : Blk w4 (w.heap.size + 1) #[.int .i64 ((ops : Int) + 1), .int .i64 how] 54 := by rw [← hw4', ← hq]; exact HX3.out.set 1 _
      have hev4 := HEV3.out.mv hm4 (by omega)
      have j0 := hx4.cell (i := 0) rfl
      have j1 := hx4.cell (i := 1) rfl
      have p0 := hev4.cell (i := 0) rfl
      have p1 := hev4.cell (i := 1) rfl
      have pf0 := hev4.free 0
      have pf1 := hev4.free 1
      have HEV4 := Lib.hid hev4
      have HB4 := Lib.hid (HB3.out.mv hm4 HNB.out.2)
      have HM4 := Lib.hid (HM3.out.trans hm4 (fun i hi x => by omega))
      clear hm4 hx4 hev4 hq
      go_still_tail 12, (by kernel_rfl)
      change wpList _ _ _ _ _ wq.drew
      go_wp2
      (try simp only [Exit.inBlock, Exit.then]); refine bodyPost_ret (results_cell rfl _ _ _ ⟨w.heap.size, 0, none⟩ (.agg #[.int .i64 ((ops : Int) + 1), .int .i64 how]) rfl (load_event _ _ _ _ ?_ ?_)) rfl ?_
      · exact ((HEV4.out.set 0 _).set 1 _).cell (i := 0) rfl
      · exact ((HEV4.out.set 0 _).set 1 _).cell (i := 1) rfl
      · have g := (Mv.of_set w4 w.heap.size 0 (.int .i64 ((ops : Int) + 1)) (S := (· = w.heap.size)) rfl).trans (Mv.of_set _ w.heap.size 1 (.int .i64 how) (S := (· = w.heap.size)) rfl) (fun _ _ x => x)
        exact ⟨by rw [HHO.out]; rfl, HB4.out.mv g HNB.out.1, HM4.out.trans g (fun i hi x => by omega)⟩
    · obtain ⟨ad, rfl, hc⟩ := hE.2 n hn
      have hz : errs[n] = 0 := by unfold errAt at he; rw [List.getD_eq_getElem?_getD, List.getElem?_eq_getElem hn] at he; exact he
      rw [hz] at hc
      have dE : w1.cell? (ad.add n) = some (.int .i64 0) := cell_mv hm1 hc (by rw [add_block]; exact hfar ad rfl (by omega))
      have hle : (n : Int) + 1 ≤ errs.length := by omega
      have hw2 : IntKind.i64.wrap ((n : Int) + 1 - 1) = n := by rw [show (n : Int) + 1 - 1 = n from by omega]; exact IntWalk.i64_in _ ⟨by omega, by omega⟩
      have hw3 : IntKind.i64.wrap (n : Int) = n := IntWalk.i64_in _ ⟨by omega, by omega⟩
      clear hc hz
      have hgo : ¬ (ops : Int) + 1 ≤ hows.length := by omega
      have HHO := Lib.hid (show howAt hows ops = 0 from by unfold howAt; rw [List.getD_eq_getElem?_getD, List.getElem?_eq_none (by omega)]; rfl)
      clear hE hH h he hba hbx hb1 hm1 hfar hfar2
      go_enter Try.func15, Try.ntmps15
      go_wp2
      go_quiet (fail)
      go_wp2
      go_quiet (fail)
      go_wp2
      simp only [HW3.out]
      go_quiet (fail)
      go_wp2
      (try simp only [Exit.inBlock, Exit.then]); refine bodyPost_ret (results_cell rfl _ _ _ ⟨w.heap.size, 0, none⟩ (.agg #[.int .i64 ((ops : Int) + 1), .int .i64 0]) rfl (load_event _ _ _ _ ?_ ?_)) rfl ?_
      · exact (((HEV3.out.drewN _).set 0 _).set 1 _).cell (i := 0) rfl
      · exact (((HEV3.out.drewN _).set 0 _).set 1 _).cell (i := 1) rfl
      · have g := fun N => (Mv.of_set (w3.drewN N) w.heap.size 0 (.int .i64 ((ops : Int) + 1)) (S := (· = w.heap.size)) rfl).trans (Mv.of_set _ w.heap.size 1 (.int .i64 0) (S := (· = w.heap.size)) rfl) (fun _ _ x => x)
        exact ⟨by rw [HHO.out]; rfl, (HB3.out.drewN _).mv (g _) HNB.out.1, (HM3.out.drewN _).trans (g _) (fun i hi x => by omega)⟩
  · by_cases ho : ops < hows.length
    · have hle : ¬ (n : Int) + 1 ≤ errs.length := by omega
      obtain ⟨hd, rfl, hc2⟩ := hH.2 ops ho
      have hho : howAt hows ops = hows[ops] := by unfold howAt; rw [List.getD_eq_getElem?_getD, List.getElem?_eq_getElem ho]; rfl
      generalize hows[ops] = how at hc2 hho
      have HHO := Lib.hid hho
      have dH : w3.cell? (hd.add ops) = some (.int .i64 how) := cell_mv HM3.out hc2 (by rw [add_block]; exact hfar2 hd rfl (by omega))
      have hgo : (ops : Int) + 1 ≤ hows.length := by omega
      have hw5 : IntKind.i64.wrap ((ops : Int) + 1 - 1) = ops := by rw [show (ops : Int) + 1 - 1 = ops from by omega]; exact IntWalk.i64_in _ ⟨by omega, by omega⟩
      have hw6 : IntKind.i64.wrap (ops : Int) = ops := IntWalk.i64_in _ ⟨by omega, by omega⟩
      clear hc2 hho
      clear hE hH h he hba hbx hb1 hm1 hfar hfar2
      go_enter Try.func15, Try.ntmps15
      go_wp2
      go_quiet (fail)
      go_wp2
      simp only [HW3.out]
      go_quiet (fail)
      go_wp2
      simp only [World.drewN_drewN]
      generalize hq : w3.drewN _ = wq
      have t1 : wq.cell? ⟨b, 1, none⟩ = some (.slice (some hd) hows.length ch) := by rw [← hq]; exact g1
      have t5 : wq.cell? ⟨b, 5, none⟩ = some (.int .i64 ((ops : Int) + 1)) := by rw [← hq]; exact g5
      have tH : wq.cell? (hd.add ops) = some (.int .i64 how) := by rw [← hq]; exact dH
      have tk1 : wq.cell? ⟨w.heap.size + 1, 1, none⟩ = some (.int .i64 0) := by rw [← hq]; exact k1
      have tkf1 : wq.frozen? ⟨w.heap.size + 1, 1, none⟩ = false := by rw [← hq]; exact kf1
      obtain ⟨w4, hw4'⟩ : ∃ w4, wq.drew.setCell ⟨w.heap.size + 1, 1, none⟩ (.int .i64 how) = w4 := ⟨_, rfl⟩
      have hw4q : (wq.setCell ⟨w.heap.size + 1, 1, none⟩ (.int .i64 how)).drew = w4 := by rw [← hw4']; rfl
      have hm4 : Mv w3 w4 (· = w.heap.size + 1) := by rw [← hw4', ← hq]; exact Mv.trans (S' := (· = w.heap.size + 1)) (b := (w3.drewN _).drew) ⟨rfl, rfl, rfl, Nat.le_refl _, fun _ _ _ => rfl⟩ (Mv.of_set _ _ 1 _ rfl) (fun _ _ x => x)
      have hx4 : Blk w4 (w.heap.size + 1) #[.int .i64 ((ops : Int) + 1), .int .i64 how] 54 := by rw [← hw4', ← hq]; exact HX3.out.set 1 _
      have hev4 := HEV3.out.mv hm4 (by omega)
      have j0 := hx4.cell (i := 0) rfl
      have j1 := hx4.cell (i := 1) rfl
      have p0 := hev4.cell (i := 0) rfl
      have p1 := hev4.cell (i := 1) rfl
      have pf0 := hev4.free 0
      have pf1 := hev4.free 1
      have HEV4 := Lib.hid hev4
      have HB4 := Lib.hid (HB3.out.mv hm4 HNB.out.2)
      have HM4 := Lib.hid (HM3.out.trans hm4 (fun i hi x => by omega))
      clear hm4 hx4 hev4 hq
      go_still_tail 12, (by kernel_rfl)
      change wpList _ _ _ _ _ wq.drew
      go_wp2
      (try simp only [Exit.inBlock, Exit.then]); refine bodyPost_ret (results_cell rfl _ _ _ ⟨w.heap.size, 0, none⟩ (.agg #[.int .i64 ((ops : Int) + 1), .int .i64 how]) rfl (load_event _ _ _ _ ?_ ?_)) rfl ?_
      · exact ((HEV4.out.set 0 _).set 1 _).cell (i := 0) rfl
      · exact ((HEV4.out.set 0 _).set 1 _).cell (i := 1) rfl
      · have g := (Mv.of_set w4 w.heap.size 0 (.int .i64 ((ops : Int) + 1)) (S := (· = w.heap.size)) rfl).trans (Mv.of_set _ w.heap.size 1 (.int .i64 how) (S := (· = w.heap.size)) rfl) (fun _ _ x => x)
        exact ⟨by rw [HHO.out]; rfl, HB4.out.mv g HNB.out.1, HM4.out.trans g (fun i hi x => by omega)⟩
    · have hle : ¬ (n : Int) + 1 ≤ errs.length := by omega
      have hgo : ¬ (ops : Int) + 1 ≤ hows.length := by omega
      have HHO := Lib.hid (show howAt hows ops = 0 from by unfold howAt; rw [List.getD_eq_getElem?_getD, List.getElem?_eq_none (by omega)]; rfl)
      clear hE hH h he hba hbx hb1 hm1 hfar hfar2
      go_enter Try.func15, Try.ntmps15
      go_wp2
      go_quiet (fail)
      go_wp2
      simp only [HW3.out]
      go_quiet (fail)
      go_wp2
      (try simp only [Exit.inBlock, Exit.then]); refine bodyPost_ret (results_cell rfl _ _ _ ⟨w.heap.size, 0, none⟩ (.agg #[.int .i64 ((ops : Int) + 1), .int .i64 0]) rfl (load_event _ _ _ _ ?_ ?_)) rfl ?_
      · exact (((HEV3.out.drewN _).set 0 _).set 1 _).cell (i := 0) rfl
      · exact (((HEV3.out.drewN _).set 0 _).set 1 _).cell (i := 1) rfl
      · have g := fun N => (Mv.of_set (w3.drewN N) w.heap.size 0 (.int .i64 ((ops : Int) + 1)) (S := (· = w.heap.size)) rfl).trans (Mv.of_set _ w.heap.size 1 (.int .i64 0) (S := (· = w.heap.size)) rfl) (fun _ _ x => x)
        exact ⟨by rw [HHO.out]; rfl, (HB3.out.drewN _).mv (g _) HNB.out.1, (HM3.out.drewN _).trans (g _) (fun i hi x => by omega)⟩
end Go.Proofs.Ytdnkbnpjbcalaaa
