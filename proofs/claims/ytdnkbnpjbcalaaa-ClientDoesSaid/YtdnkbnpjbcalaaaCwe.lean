/- A tape: what is answered next, where that is an error. -/
import Derived.Test.YtdnkbnpjbcalaaaCwd
namespace Go.Proofs.Ytdnkbnpjbcalaaa
open Go.RowKit
set_option maxRecDepth 100000 in
set_option maxHeartbeats 1000000 in
theorem tp_next_err (w : World) (b : Nat) (E : Option Addr) (ce : Nat) (Hs : Option Addr) (nh ch : Nat) (come wrote : Value) (n ops : Nat) (errs : List Int) (hE : Ints w E errs) (h : TpBox w b E errs.length ce Hs nh ch come wrote n ops)
    (hn : n < errs.length) (he : errs[n] ≠ 0) (hn2 : n ≤ 100000) (hfar : ∀ ad, E = some ad → 0 < errs.length → ad.block ≠ b) :
    Calls Try.prog 15 #[.pointer (some ⟨b, 0, none⟩)] w fun e w' => e = .returned (.tuple #[.agg #[.int .i64 0, .int .i64 0], .int .i64 errs[n]]) ∧ TpBox w' b E errs.length ce Hs nh ch come wrote (n + 1) ops ∧ w.grownBy w' (some b) := by
  obtain ⟨ad, rfl, hc⟩ := hE.2 n hn
  have hmax := hE.1
  obtain ⟨v, hv⟩ : ∃ v, errs[n] = v := ⟨_, rfl⟩
  rw [hv] at hc he ⊢
  have heb : (v != 0) = true := by rw [bne_iff_ne]; exact he
  obtain ⟨wa, hwa⟩ : ∃ wa, w.alloc (.cells #[.int .i64 0, .int .i64 0] 54) = wa := ⟨_, rfl⟩
  have hba : Below w.heap.size w wa := by rw [← hwa]; exact (Below.refl _ _).alloc (Nat.le_refl _) _
  have hbx := h.below hba h.lt
  have c4 := hbx.cell (i := 4) rfl
  have f4 := hbx.free 4
  have hlt := h.lt
  have hw1 : IntKind.i64.wrap ((n : Int) + 1) = (n : Int) + 1 := IntWalk.i64_in _ ⟨by omega, by omega⟩
  obtain ⟨w1, hw1'⟩ : ∃ w1, wa.setCell ⟨b, 4, none⟩ (.int .i64 ((n : Int) + 1)) = w1 := ⟨_, rfl⟩
  have hb1 : TpBox w1 b (some ad) errs.length ce Hs nh ch come wrote (n + 1) ops := by rw [← hw1']; exact hbx.set 4 _
  have d0 := hb1.cell (i := 0) rfl
  have d4 := hb1.cell (i := 4) (v := .int .i64 ((n : Int) + 1)) rfl
  have hg1 : wa.grownBy w1 (some b) := by rw [← hw1']; exact grown_set 4 _
  have hcb := World.block_lt_of_cell? w _ hc
  have hne : (ad.add n).block ≠ b := by
    have h0 : (ad.add n).block = ad.block := by unfold Addr.add; split <;> rfl
    rw [h0]
    exact hfar ad rfl (by omega)
  have d1 : w1.cell? (ad.add n) = some (.int .i64 v) := by
    rw [← hw1', World.cell?_setCell_other _ _ _ _ (fun e => hne (by rw [← e]))]
    exact cell_below hba hc
  have hevb : Blk w1 w.heap.size #[.int .i64 0, .int .i64 0] 54 := by
    have : Blk wa w.heap.size #[.int .i64 0, .int .i64 0] 54 := by rw [← hwa]; exact Blk.alloc w _ _
    exact this.grown hg1 (fun e => by have := Option.some.inj e; omega)
  have ev0 := hevb.cell (i := 0) rfl
  have ev1 := hevb.cell (i := 1) rfl
  have fv0 := hevb.free 0
  have fv1 := hevb.free 1
  have hle : (n : Int) + 1 ≤ errs.length := by omega
  have hw2 : IntKind.i64.wrap ((n : Int) + 1 - 1) = n := by rw [show (n : Int) + 1 - 1 = n from by omega]; exact IntWalk.i64_in _ ⟨by omega, by omega⟩
  have hw3 : IntKind.i64.wrap (n : Int) = n := IntWalk.i64_in _ ⟨by omega, by omega⟩
  go_enter Try.func15, Try.ntmps15
  go_wp2
  go_quiet (fail)
  go_wp2
  go_quiet (fail)
  go_wp2
  (try simp only [Exit.inBlock, Exit.then]); refine bodyPost_ret (results_cell rfl _ _ _ ⟨w.heap.size, 0, none⟩ (.agg #[.int .i64 0, .int .i64 0]) rfl (load_event _ _ _ _ ?_ ?_)) rfl ?_
  · exact ((hevb.set 0 (.int .i64 0)).set 1 (.int .i64 0)).cell (i := 0) rfl
  · exact ((hevb.set 0 (.int .i64 0)).set 1 (.int .i64 0)).cell (i := 1) rfl
  · have g1 := grown_set (w := w1) (b := w.heap.size) 0 (.int .i64 0)
    have g2 := grown_set (w := w1.setCell ⟨w.heap.size, 0, none⟩ (.int .i64 0)) (b := w.heap.size) 1 (.int .i64 0)
    have g := grown_trans g1 g2
    have hbe := hb1.grown g (fun e => by have := Option.some.inj e; omega)
    refine ⟨rfl, hbe, ?_⟩
    refine ⟨(g.os.trans hg1.os).trans hba.os, (g.tape.trans hg1.tape).trans hba.tape, (g.output.trans hg1.output).trans hba.output, Nat.le_trans (Nat.le_trans hba.size hg1.size) g.size, fun i hi hn => ?_⟩
    have x1 := hba.block i hi
    have x2 := hg1.block i (Nat.lt_of_lt_of_le hi hba.size) hn
    have x3 := g.block i (Nat.lt_of_lt_of_le hi (Nat.le_trans hba.size hg1.size)) (fun e => by have := Option.some.inj e; omega)
    exact (x3.trans x2).trans x1
end Go.Proofs.Ytdnkbnpjbcalaaa
