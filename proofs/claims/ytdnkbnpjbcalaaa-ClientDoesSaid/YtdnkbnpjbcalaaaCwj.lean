/- What a client keeps, forgotten. -/
import Derived.Test.YtdnkbnpjbcalaaaCwi
namespace Go.Proofs.Ytdnkbnpjbcalaaa
open Go.RowKit

theorem run_slice_from {P : Program} (w : World) (t e : TypeId) (i : TypeInfo) (size : Nat) (ht : P.underlying t = some (.slice e)) (hi : P.info? e = some i) (hsize : i.size = size) (A : Option Addr) (L cp n : Nat) (hn : n ≤ L) :
    (Instr.slice t (.slice A L cp) (some (.int .i64 n)) none none).run P w = .ok (.slice (if cp = n then A else A.map (·.add (n * size))) (L - n) (cp - n)) w := by
  subst hsize
  have h1 : ¬ L < n := by omega
  simp [Instr.slice, run_underlying ht, Instr.sliceBounds, Instr.sliceBound, asIntOf, sizeOf, typeInfo, hi, h1]
theorem add_add_ (a : Addr) (i j : Nat) : (a.add i).add j = a.add (i + j) := by
  unfold Addr.add
  by_cases hi : i = 0 <;> by_cases hj : j = 0 <;> simp [hi, hj, Nat.add_assoc]
theorem Rd.from {w : World} {size L cp n : Nat} {A : Option Addr} {ys : List Value} (h : Rd w size (.slice A L cp) L ys) (hn : n ≤ L) (hc : L ≤ cp) : Rd w size (.slice (if cp = n then A else A.map (·.add (n * size))) (L - n) (cp - n)) (L - n) (ys.drop (n * size)) := by
  refine ⟨by rw [List.length_drop, h.1, Nat.sub_mul], ?_⟩
  rcases h.2 with ⟨h1, h2⟩ | ⟨ad, c, h1, h2⟩
  · left
    injection h1 with h3 h4 h5
    subst h3 h4 h5
    have : n = 0 := by omega
    subst this
    exact ⟨by simp, rfl⟩
  · right
    injection h1 with h3 h4 h5
    subst h3 h5
    by_cases he : cp = n
    · rw [if_pos he]
      refine ⟨ad, _, rfl, fun j x hx => ?_⟩
      rw [List.drop_of_length_le (by rw [h.1]; have : L = n := by omega
                                     rw [this]; exact Nat.le_refl _)] at hx
      simp at hx
    · rw [if_neg he]
      refine ⟨ad.add (n * size), _, rfl, fun j x hx => ?_⟩
      rw [add_add_]
      exact h2 _ x (by rw [← hx, List.getElem?_drop])
theorem slice_rd {P : Program} {w : World} {t e : TypeId} {i : TypeInfo} {size : Nat} (ht : P.underlying t = some (.slice e)) (hi : P.info? e = some i) (hsize : i.size = size) {A : Option Addr} {L cp : Nat} {ys : List Value} (h : Rd w size (.slice A L cp) L ys) (hc : L ≤ cp) (n : Nat) (hn : n ≤ L) :
    ∃ u, (∀ w, (Instr.slice t (.slice A L cp) (some (.int .i64 n)) none none).run P w = .ok u w) ∧ Rd w size u (L - n) (ys.drop (n * size)) :=
  ⟨_, fun w => run_slice_from w t e i size ht hi hsize A L cp n hn, h.from hn hc⟩
theorem secCells_drop : ∀ (l : List Sec) (n : Nat), (secCells l).drop (n * 2) = secCells (l.drop n)
  | l, 0 => by simp
  | [], n + 1 => by simp [secCells]
  | x :: l, n + 1 => by
    have e : secCells (x :: l) = .int .i64 x.At :: .string x.Data :: secCells l := rfl
    rw [e, show (n + 1) * 2 = n * 2 + 1 + 1 from by omega, List.drop_succ_cons, List.drop_succ_cons, List.drop_succ_cons]
    exact secCells_drop l n

def less (n : Nat) (x : Int × Int) : Int × Int := (x.1, max (x.2 - n) 0)
def lessTo (n : Nat) (l : List (Int × Int)) (k : Nat) : List (Int × Int) := (l.take k).map (less n) ++ l.drop k
theorem lessTo_len (n : Nat) (l : List (Int × Int)) (k : Nat) : (lessTo n l k).length = l.length := by unfold lessTo; simp; omega
theorem lessTo_get (n : Nat) (l : List (Int × Int)) (k : Nat) (hk : k < l.length) : (lessTo n l k)[k]'(by rw [lessTo_len]; exact hk) = l[k] := by
  unfold lessTo
  rw [List.getElem_append_right (by simp; omega)]
  simp [Nat.min_eq_left (Nat.le_of_lt hk)]
theorem lessTo_succ (n : Nat) (l : List (Int × Int)) (k : Nat) (hk : k < l.length) : (lessTo n l k).set k (l[k].1, max (l[k].2 - n) 0) = lessTo n l (k + 1) := by
  unfold lessTo
  have h1 : ((l.take k).map (less n)).length = k := by simp; omega
  rw [List.set_append, if_neg (by rw [h1]; omega), h1, Nat.sub_self, List.drop_eq_getElem_cons hk, List.set_cons_zero, List.take_succ_eq_append_getElem hk, List.map_append, List.append_assoc]
  rfl
theorem lessTo_all (n : Nat) (l : List (Int × Int)) : lessTo n l l.length = l.map (less n) := by unfold lessTo; simp

theorem cell_lt {w : World} {b i : Nat} {v : Value} (h : w.cell? ⟨b, i, none⟩ = some v) : b < w.heap.size := World.block_lt_of_cell? w _ h
def ForgetPost (w : World) (base c : Nat) (s0 s1 : Option Nat) (v : ClV) (n : Nat) (e : Ending) (w' : World) : Prop :=
  e = .returned (.tuple #[]) ∧ ∃ kv, ClAt w' base c s0 s1 { v with kept := kv, K := v.K.drop n, F := v.F.map (less n) } ∧ Mv w w' (fun i => i = c ∨ v.waits.ownBlock = some i) ∧ ∃ j, kv.ownBlock = some j ∧ w.heap.size ≤ j

set_option maxRecDepth 100000 in
set_option maxHeartbeats 1000000 in
theorem cl_forget (w : World) (base c : Nat) (s0 s1 : Option Nat) (v : ClV) (h : ClAt w base c s0 s1 v) (hK : v.K.length ≤ 1000) (hF : v.F.length ≤ 1000) (n : Nat) (hn : n ≤ v.K.length) (hf : ∀ x ∈ v.F, 0 ≤ x.2 ∧ x.2 ≤ 1000000) :
    Calls Try.prog 22 #[.pointer (some ⟨c, 0, none⟩), .int .i64 n] w fun e w' => ForgetPost w base c s0 s1 v n e w' := by
  obtain ⟨A, cp, hkp, hcp, _⟩ := own_form h.k (by decide)
  obtain ⟨B, bp, hwp, hbp, _⟩ := own_form h.f (by decide)
  have c3 : w.cell? ⟨c, 3, none⟩ = some (.slice A v.K.length cp) := by rw [← hkp]; exact h.box.cell (i := 3) rfl
  have hwr : IntKind.i64.wrap ((v.K.length : Int) - (n : Int)) = ((v.K.length - n : Nat) : Int) := by rw [show ((v.K.length : Int) - (n : Int)) = ((v.K.length - n : Nat) : Int) from by omega]; exact IntWalk.i64_in _ ⟨by omega, by omega⟩
  obtain ⟨cs, hcs, hmk⟩ := made_sec w (v.K.length - n) (by omega)
  obtain ⟨w1, hw1⟩ : ∃ w1, w.alloc (.cells cs 71) = w1 := ⟨_, rfl⟩
  rw [hw1] at hmk
  have hb1 : Below w.heap.size w w1 := by rw [← hw1]; exact (Below.refl _ _).alloc (Nat.le_refl _) _
  have HB1 := Lib.hid hb1
  have HX1 := Lib.hid (show Blk w1 w.heap.size cs 71 from by rw [← hw1]; exact Blk.alloc _ _ _)
  have d3 : w1.cell? ⟨c, 3, none⟩ = some (.slice A v.K.length cp) := cell_below hb1 c3
  obtain ⟨i0, hi, hz0, hz1, hz2⟩ := info_parts sec_info
  obtain ⟨u, hsl, hru⟩ := slice_rd (P := Try.prog) Try.underlying29 hi hz1 (show Rd w1 2 (.slice A v.K.length cp) v.K.length (secCells v.K) from by rw [← hkp]; exact Rd.own (h.below hb1).k) hcp n hn
  rw [secCells_drop] at hru
  have HR := Lib.hid hru
  have HCS := Lib.hid hcs
  have HC1 := Lib.hid (h.below hb1)
  have HWP := Lib.hid hwp
  have HF := Lib.hid hf
  have hle : (n : Int) ≤ v.K.length := by omega
  clear h hkp hcs hb1 hw1 hru hwp hf
  have HLT := Lib.hid (show c < w.heap.size from cell_lt c3)
  have tok1 : True := trivial
  go_enter Try.func22, Try.ntmps22
  go_wp2_with (have _t := tok1
               refine wpList_copy_rd (o := ⟨some 21, _, _, _, _, _⟩) rfl (.tmp 14) (.tmp 20) 29 rfl 71 i0 2 Try.underlying29 hi hz1 w.heap.size (v.K.length - n) (v.K.length - n) rfl cs 71 HX1.out HCS.out u rfl (secCells (v.K.drop n)) HR.out (secCells_one _) ?_
               intro w2 hx2 hg2
               have HX2 := Lib.hid hx2
               have HG2 := Lib.hid hg2
               have hbx2 := HC1.out.box.grown hg2 (fun e => by have := Option.some.inj e; have := HLT.out; omega)
               have e3 := hbx2.cell (i := 3) rfl
               have f3 := hbx2.free 3
               obtain ⟨w3, hw3⟩ : ∃ w3, w2.setCell ⟨c, 3, none⟩ (.slice (some ⟨w.heap.size, 0, none⟩) (v.K.length - n) (v.K.length - n)) = w3 := ⟨_, rfl⟩
               have hbx3 : ClBox w3 c (srv s0) (srv s1) v.at_ (.slice (some ⟨w.heap.size, 0, none⟩) (v.K.length - n) (v.K.length - n)) v.waits := by rw [← hw3]; exact hbx2.set 3 _
               have g4 : w3.cell? ⟨c, 4, none⟩ = some (.slice B v.F.length bp) := by rw [← HWP.out]; exact hbx3.cell (i := 4) rfl
               have HBX2 := Lib.hid hbx2
               have HBX3 := Lib.hid hbx3
               have HW3 := Lib.hid hw3
               clear tok1 hx2 hg2 hbx2 hbx3)
  have m23 : Mv w2 w3 (fun i => i = w.heap.size ∨ i = c) := by rw [← hw3]; exact Mv.of_set _ _ _ _ (.inr rfl)
  have m13 : Mv w1 w3 (fun i => i = w.heap.size ∨ i = c) := (Mv.of_grown HG2.out (fun i e => by injection e with e; exact .inl e.symm)).trans m23 (fun _ _ x => x)
  have HM3 := Lib.hid (show Mv w w3 (fun i => i = c) from (Mv.of_below HB1.out _).trans m13 (fun i hi x => by omega))
  have HF3 := Lib.hid (show w3.ownsRow base 74 2 v.waits v.F.length (flCells v.F) from own_mv HC1.out.f m13 (fun i hi x => x.elim (fun e => own_type HC1.out.f HX1.out (by decide) (by rw [← e]; exact hi)) (fun e => own_type HC1.out.f HC1.out.box (by decide) (by rw [← e]; exact hi))))
  have HK3 := Lib.hid (show Blk w3 w.heap.size (secCells (v.K.drop n)).toArray 71 from HX2.out.mv (S := fun i => i = c) (by rw [← hw3]; exact Mv.of_set _ _ _ _ rfl) (by have := HLT.out; omega))
  have HHC := Lib.hid hcp
  clear hw3 e3 f3 c3 d3 hwr hmk hsl m23 m13
  go_loopw [31] (fun i wr => ∃ k : Nat, k ≤ v.F.length ∧ i = .int .i64 k ∧ ClBox wr c (srv s0) (srv s1) v.at_ (.slice (some ⟨w.heap.size, 0, none⟩) (v.K.length - n) (v.K.length - n)) v.waits ∧ wr.ownsRow base 74 2 v.waits v.F.length (flCells (lessTo n v.F k)) ∧ Mv w3 wr (fun i => v.waits.ownBlock = some i)) (fun i _ => v.F.length - (intOf i).toNat)
  case atStart => exact ⟨0, by omega, rfl, HBX3.out, HF3.out, Mv.refl _ _⟩
  case round =>
    obtain ⟨k, hk, rfl, hbx, hrow, hmv⟩ := hrel
    have HBX := Lib.hid hbx
    have HROW := Lib.hid hrow
    have HMV := Lib.hid hmv
    have g4 : wr.cell? ⟨c, 4, none⟩ = some (.slice B v.F.length bp) := by rw [← HWP.out]; exact hbx.cell (i := 4) rfl
    clear hbx hrow hmv
    by_cases hlt : k < v.F.length
    · have hg := lessTo_get n v.F k hlt
      have hx := HF.out _ (List.getElem_mem hlt)
      have HST := Lib.hid (lessTo_succ n v.F k hlt)
      have hc12 := flCells_get (lessTo n v.F k) k (by rw [lessTo_len]; exact hlt)
      rw [hg] at hc12
      have HSET := Lib.hid (flCells_set (lessTo n v.F k) k (by rw [lessTo_len]; exact hlt) (max (v.F[k].2 - n) 0))
      rw [hg] at HSET
      obtain ⟨y, hy⟩ : ∃ y, v.F[k] = y := ⟨_, rfl⟩
      rw [hy] at hx hc12 HST HSET
      obtain ⟨g, cap, hgv, _⟩ := World.ownsRow.form HROW.out (by omega)
      have hgv2 := hgv
      rw [HWP.out] at hgv2
      injection hgv2 with hB hb1 hb2
      obtain ⟨ad, had⟩ : ∃ ad : Addr, (⟨g, 0, none⟩ : Addr) = ad := ⟨_, rfl⟩
      rw [had] at hB
      subst hB
      have hadd : ∀ m : Nat, (⟨g, 0, none⟩ : Addr).add m = ⟨g, m, none⟩ := fun m => by unfold Addr.add; split <;> simp_all
      have hsp : (⟨(ad.add (k * 2)).block, (ad.add (k * 2)).off + 1, none⟩ : Addr) = ⟨g, k * 2 + 1, none⟩ := by rw [← had, hadd]
      have hcells : wr.cell? ⟨(ad.add (k * 2)).block, (ad.add (k * 2)).off + 1, none⟩ = some (.int .i64 y.2) := by
        rw [hsp, ← hadd]
        exact (World.ownsRow.cells HROW.out (g := g) (by rw [hgv]; rfl)) (k * 2 + 1) _ hc12.2
      have hrow2 : wr.ownsRow base 74 2 (.slice (some ⟨g, 0, none⟩) v.F.length cap) v.F.length (flCells (lessTo n v.F k)) := by rw [← hgv]; exact HROW.out
      have hfz : wr.frozen? ⟨(ad.add (k * 2)).block, (ad.add (k * 2)).off + 1, none⟩ = false := by rw [hsp]; exact World.ownsRow.frozenAt hrow2 _
      have hw5 : IntKind.i64.wrap (y.2 - (n : Int)) = y.2 - n := IntWalk.i64_in _ ⟨by omega, by omega⟩
      have HSP := Lib.hid hsp
      have HR2 := Lib.hid hrow2
      have HGV := Lib.hid hgv
      clear had hy hgv hg hc12 hb1 hb2 hsp hrow2 hadd
      go_wp2
      go_still_tail 18, (by kernel_rfl)
      change wpList _ _ _ _ _ wr.drew
      go_wp2
      go_roundw
      case rel =>
        rw [HSP.out, show (if y.2 - (n : Int) < 0 then 0 else y.2 - (n : Int)) = max (y.2 - n) 0 from by split <;> omega]
        obtain ⟨q1, q2⟩ := World.ownsRow.stored HR2.out (k * 2 + 1) (.int .i64 (max (y.2 - n) 0))
        have q3 : Mv wr (wr.setCell ⟨g, k * 2 + 1, none⟩ (.int .i64 (max (y.2 - n) 0))).drew (fun i => v.waits.ownBlock = some i) := (Mv.of_grown q2 (fun i e => by rw [HGV.out]; exact e)).drewN 1
        refine ⟨k + 1, by omega, by go_num, HBX.out.mv q3 (fun e => own_type HROW.out HBX.out (by decide) e), ?_, HMV.out.trans q3 (fun _ _ x => x)⟩
        rw [HSET.out, HST.out, ← HGV.out] at q1
        exact q1
      case measure => simp [intOf]; omega
    · obtain rfl : k = v.F.length := by omega
      go_wp2
      go_end0
      have hrow := HROW.out
      rw [lessTo_all] at hrow
      have hk3 : Blk wr w.heap.size (secCells (v.K.drop n)).toArray 71 := HK3.out.mv HMV.out (fun e => own_type HF3.out HK3.out (by decide) e)
      refine ⟨rfl, .slice (some ⟨w.heap.size, 0, none⟩) (v.K.length - n) (v.K.length - n), ⟨HBX.out, ⟨secCells_len _, .inr ⟨w.heap.size, v.K.length - n, _, ?_, ?_, hk3, ?_, ?_, ?_, ?_⟩⟩, ?_, HC1.out.hb, HC1.out.ha⟩, (HM3.out.mono (fun i _ e => .inl e)).trans (HMV.out.mono (S' := fun i => i = c ∨ v.waits.ownBlock = some i) (fun i _ e => .inr e)) (fun _ _ x => x), w.heap.size, rfl, Nat.le_refl _⟩
      · rw [List.length_drop]
      · have := HC1.out.hb; have := HLT.out; omega
      · rw [List.length_drop]; exact Nat.le_refl _
      · unfold maxLen; omega
      · rw [List.size_toArray, secCells_len, List.length_drop]
      · rw [List.take_of_length_le]; simp [secCells_len]
      · have e : (v.F.map (less n)).length = v.F.length := List.length_map _
        show wr.ownsRow base _ 2 v.waits (v.F.map (less n)).length (flCells (v.F.map (less n)))
        rw [e]; exact hrow
end Go.Proofs.Ytdnkbnpjbcalaaa
