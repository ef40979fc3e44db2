/- copy of a row onto a new one; what a client keeps, told and forgotten. -/
import Derived.Test.YtdnkbnpjbcalaaaCwh
import Derived.Laws.CopyOwn
import Derived.Laws.MakeOwn
namespace Go.Proofs.Ytdnkbnpjbcalaaa
open Go.RowKit

theorem run_copy_rd {P : Program} (w : World) (t ty e : TypeId) (i : TypeInfo) (size : Nat) (ht : P.underlying t = some (.slice e)) (hi : P.info? e = some i) (hsize : i.size = size)
    (g m c : Nat) (cur : Array Value) (e' : TypeId) (hg : Blk w g cur e') (hc : cur.size = m * size) (u : Value) (ys : List Value) (hu : Rd w size u m ys) (h1 : ∀ x ∈ ys, x.oneCell' = true) :
    ∃ w', (Builtin.copy_ #[t, t] ty #[.slice (some ⟨g, 0, none⟩) m c, u]).run P w = .ok (goInt m) w' ∧ Blk w' g ys.toArray e' ∧ w.grownBy w' (some g) := by
  subst hsize
  rcases hu.2 with ⟨rfl, rfl⟩ | ⟨ad, cc, rfl, hcell⟩
  · have hn : ys = [] := List.eq_nil_of_length_eq_zero (by have := hu.1; simpa using this)
    subst hn
    refine ⟨w, ?_, ?_, World.grownBy.refl w _⟩
    · simp [Builtin.copy_, run_underlying ht, Builtin.lenOf, Builtin.firstCells, sizeOf, typeInfo, hi, storeCells, goInt]
    · have : cur = #[] := Array.eq_empty_of_size_eq_zero (by simpa using hc)
      rw [this] at hg
      exact hg
  · have hl := run_loadCells_list (P := P) w ad ys hcell
    have hst := run_storeCells_at P g 0 e' ys 0 cur w hg (by rw [hu.1, hc]; omega) h1
    refine ⟨_, ?_, setRow_heap w g cur _ e' _ hg, ⟨rfl, rfl, rfl, by simp, fun k _ hk => setRow_other w g k _ (fun x => hk (by rw [x]))⟩⟩
    have e0 : (cur.toList.take (0 + 0) ++ ys ++ cur.toList.drop (0 + 0 + ys.length)).toArray = ys.toArray := by
      rw [List.drop_of_length_le (by rw [Array.length_toList, hc, hu.1]; omega)]
      simp
    rw [e0] at hst
    have hlen := hu.1
    simp [Builtin.copy_, run_underlying ht, Builtin.lenOf, Builtin.firstCells, sizeOf, typeInfo, hi, ← hlen, hl, hst]
theorem wpList_copy_rd {P : Program} {w : World} {ops : Array Oper} {rest : List Oper} {o : Oper} {a : Act} {Q : Exit → Act → World → Prop} (hgd : o.guard = none) (s x : Operand) (t : TypeId)
    (ho : o.op = .call { callee := .builtin .copy, args := #[s, x], argTypes := #[t, t] })
    (e : TypeId) (i : TypeInfo) (size : Nat) (ht : P.underlying t = some (.slice e)) (hi : P.info? e = some i) (hsize : i.size = size)
    (g m c : Nat) (hs : a.eval s = .slice (some ⟨g, 0, none⟩) m c) (cur : Array Value) (e' : TypeId) (hg : Blk w g cur e') (hc : cur.size = m * size) (u : Value) (hx : a.eval x = u) (ys : List Value) (hu : Rd w size u m ys) (h1 : ∀ x ∈ ys, x.oneCell' = true)
    (h : ∀ w', Blk w' g ys.toArray e' → w.grownBy w' (some g) → wpList P ops Q rest (a.put o.dst (goInt m)) w') : wpList P ops Q (o :: rest) a w := by
  refine wpList_plain hgd fun K hK => ?_
  obtain ⟨w', hr, h2, h3⟩ := run_copy_rd (P := P) w t o.type e i size ht hi hsize g m c cur e' hg hc u ys hu h1
  unfold Oper.wp execOp
  simp only [ho, resolve, invoke, builtin, Sem.run_bind, Sem.run_pure, Result.andThen_ok, List.map_toArray, List.map_cons, List.map_nil, hs, hx, hr]
  exact hK _ _ (h w' h2 h3)

theorem made_sec (w : World) (n : Nat) (hn : n ≤ 1000) : ∃ cs : Array Value, cs.size = n * 2 ∧ (Instr.makeSlice 29 (.int .i64 n) (.int .i64 n)).run Try.prog w = .ok (.slice (some ⟨w.heap.size, 0, none⟩) n n) (w.alloc (.cells cs 71)) := by
  obtain ⟨i, hi, hz0, hz1, hz2⟩ := info_parts sec_info
  have h := run_make (P := Try.prog) w 29 71 i (.agg #[.int .i64 0, .string ⟨#[]⟩]) Try.underlying29 hi hz0 .i64 .i64 n n (by omega) (by omega) (by rw [hz2]; omega) (by omega)
  refine ⟨_, ?_, h⟩
  rw [size_madeCells, hz1]
  simp

def KeptPost (w : World) (v : ClV) (e : Ending) (w' : World) : Prop :=
  ∃ g, e = .returned (.slice (some ⟨g, 0, none⟩) v.K.length v.K.length) ∧ Blk w' g (secCells v.K).toArray 71 ∧ w.heap.size ≤ g ∧ Below w.heap.size w w'
set_option maxRecDepth 100000 in
set_option maxHeartbeats 1000000 in
theorem cl_kept (w : World) (base c : Nat) (s0 s1 : Option Nat) (v : ClV) (h : ClAt w base c s0 s1 v) (hK : v.K.length ≤ 1000) :
    Calls Try.prog 11 #[.pointer (some ⟨c, 0, none⟩)] w fun e w' => KeptPost w v e w' := by
  obtain ⟨A, cp, hkp, hcp, _⟩ := own_form h.k (by decide)
  have c3 : w.cell? ⟨c, 3, none⟩ = some (.slice A v.K.length cp) := by rw [← hkp]; exact h.box.cell (i := 3) rfl
  obtain ⟨cs, hcs, hmk⟩ := made_sec w v.K.length hK
  obtain ⟨w1, hw1⟩ : ∃ w1, w.alloc (.cells cs 71) = w1 := ⟨_, rfl⟩
  rw [hw1] at hmk
  have hb1 : Below w.heap.size w w1 := by rw [← hw1]; exact (Below.refl _ _).alloc (Nat.le_refl _) _
  have HB1 := Lib.hid hb1
  have HX1 := Lib.hid (show Blk w1 w.heap.size cs 71 from by rw [← hw1]; exact Blk.alloc _ _ _)
  have d3 : w1.cell? ⟨c, 3, none⟩ = some (.slice A v.K.length cp) := cell_below hb1 c3
  have HR := Lib.hid (show Rd w1 2 (.slice A v.K.length cp) v.K.length (secCells v.K) from by rw [← hkp]; exact Rd.own (h.below hb1).k)
  obtain ⟨i0, hi, hz0, hz1, hz2⟩ := info_parts sec_info
  have HCS := Lib.hid hcs
  clear h hkp hcs hb1 hw1
  go_enter Try.func11, Try.ntmps11
  go_wp2_with (refine wpList_copy_rd (o := ⟨some 17, _, _, _, _, _⟩) rfl (.tmp 12) (.tmp 16) 29 rfl 71 i0 2 Try.underlying29 hi hz1 w.heap.size v.K.length v.K.length rfl cs 71 HX1.out HCS.out (.slice A v.K.length cp) rfl (secCells v.K) HR.out (secCells_one _) ?_
               intro w2 hx2 hg2
               have HX2 := Lib.hid hx2
               have HG2 := Lib.hid hg2
               clear hx2 hg2)
  go_ret
  exact ⟨_, rfl, HX2.out, Nat.le_refl _, below_grown HB1.out HG2.out (Nat.le_refl _)⟩
end Go.Proofs.Ytdnkbnpjbcalaaa
