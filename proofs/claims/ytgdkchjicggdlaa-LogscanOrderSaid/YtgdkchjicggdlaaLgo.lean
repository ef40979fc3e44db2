/- The document's disk, as it is made. -/
import Derived.Test.YtgdkchjicggdlaaLgf
import Derived.Test.YtgdkchjicggdlaaLwa
import Derived.Deep.AppendLies
import Derived.Deep.RegionLaw
namespace Go.Proofs.Ytgdkchjicggdlaa
open Go.RowKit Go.Proofs.YtgdkchjicggdlaaW.PrintWords
attribute [local go_sem ↓] Go.wp_at_zero Go.wp_at_succ

abbrev RefDisk (w : World) (b : Nat) (s1 s2 : Value) : Prop := Blk w b #[s1, s2, .slice none 0 0, .int .i64 0, .slice none 0 0, .int .i64 0, .bool false] 117
def NewPost (w : World) (e : Ending) (w' : World) : Prop := ∃ b s1 A c, e = .returned (.pointer (some ⟨b, 0, none⟩)) ∧ RefDisk w' b s1 (.slice A 60 c) ∧ Below w.heap.size w w'
theorem str_info : (Try.prog.info? 9).map (fun i => (i.zero, i.size, i.bytes)) = some (some (.string ⟨#[]⟩), 1, 16) := by kernel_rfl

set_option maxRecDepth 100000 in
set_option maxHeartbeats 2000000 in
theorem r8_new (w : World) : Calls Try.prog 45 #[.int .i64 60] w fun e w' => NewPost w e w' := by
  have hmk := make64
  have hcv := conv64
  obtain ⟨i0, hi, hz0, hz1, hz2⟩ := info_parts str_info
  go_enter Try.func45, Try.ntmps45
  go_wp2
  have HB0 := Lib.hid (show ∀ o, Below w.heap.size w (w.alloc o) from fun o => (Below.refl _ _).alloc (Nat.le_refl _) _)
  have HBX := Lib.hid (Blk.alloc w #[.slice none 0 0, .slice none 0 0, .slice none 0 0, .int .i64 0, .slice none 0 0, .int .i64 0, .bool false] 117)
  go_loopw [4] (fun i wr => ∃ k : Nat, k ≤ 60 ∧ i = .int .i64 k ∧ ∃ v, RefDisk wr w.heap.size v (.slice none 0 0) ∧ wr.ownsRow w.heap.size 9 1 v k (List.replicate k (.string (mkS z64))) ∧ Below w.heap.size w wr) (fun i _ => 60 - (intOf i).toNat)
  case atStart => exact ⟨0, by omega, rfl, _, HBX.out, World.ownsRow_nil _ _ _ _, HB0.out _⟩
  case round =>
    obtain ⟨k, hk, rfl, v, hbx, hrow, hb⟩ := hrel
    have HBX2 := Lib.hid hbx
    have HROW := Lib.hid hrow
    have HB := Lib.hid hb
    have c0 := hbx.cell (i := 0) rfl
    have f0 := hbx.free 0
    clear hbx hrow hb
    have hlt0 : w.heap.size < wr.heap.size := HBX2.out.lt
    have hmin : min (max (60 : Int) 0) 1000 = 60 := by omega
    by_cases hlt : k < 60
    · have hcv2 : (convert 37 9 (.slice (some ⟨wr.heap.size, 0, none⟩) 64 64)).run Try.prog (wr.alloc (.cells zrow 5)).drew = .ok (.string (mkS z64)) (wr.alloc (.cells zrow 5)).drew := hcv wr.drew
      obtain ⟨X, hX⟩ : ∃ X, (wr.alloc (.cells zrow 5)).alloc (.cells #[.string (mkS z64)] 9) = X := ⟨_, rfl⟩
      have hbX : Below wr.heap.size wr X := by rw [← hX]; exact ((Below.refl _ _).alloc (Nat.le_refl _) _).alloc (by simp) _
      have HRW := Lib.hid (show X.ownsRow w.heap.size 9 1 v k (List.replicate k (.string (mkS z64))) from pw_own_below HROW.out hbX)
      have HBXX := Lib.hid (HBX2.out.below hbX hlt0)
      have HNW := Lib.hid (show X.heap[wr.heap.size + 1]? = some (.cells #[.string (mkS z64)] 9 (0, 0)) from by rw [← hX]; exact blk_new (by simp))
      have HXS := Lib.hid (show X.heap.size = wr.heap.size + 2 from by rw [← hX]; simp)
      have HXB := Lib.hid (show Below w.heap.size w X from below_trans HB.out hbX)
      have hA1 : k + 1 ≤ maxLen := by unfold maxLen; omega
      have hA2 : (k + 1) * 16 ≤ 140737488355328 := by omega
      clear hbX
      rw [← hX] at HRW HBXX HNW HXS HXB
      clear hX
      go_wp2
      first | go_region_law (refine step_append_lies _ (by rfl) _ _ _ (by rfl) w.heap.size 9 i0 (.string ⟨#[]⟩) 1 16 Try.underlying107 hi hz0 hz1 hz2 rfl (by decide) v k (List.replicate k (.string (mkS z64))) (by rfl) (by exact HRW.out) ⟨wr.heap.size + 1, 0, none⟩ 1 1 [.string (mkS z64)] (by rfl) (by rfl) (by exact World.news_of_block HNW.out) (by simp [Value.oneCell']) (by omega) hA1 hA2 (by exact HXB.out.size) (wr.heap.size + 2) (by exact HXS.out) ?_; intro g cap w3 hown3 hgrow3 hat3 hlt3; have hb3 := Blk.grown HBXX.out ⟨hgrow3.os, hgrow3.tape, hgrow3.output, hgrow3.size, hgrow3.block⟩ (fun e => own_type HRW.out HBXX.out (by decide) e.symm); have c03 := hb3.cell (i := 0) rfl; have f03 := hb3.free 0) | fail
      all_goals
        obtain ⟨w4, hw4⟩ : ∃ w4, w3.setCell ⟨w.heap.size, 0, none⟩ (.slice (some ⟨g, 0, none⟩) (k + 1) cap) = w4 := ⟨_, rfl⟩
        have HB4 := Lib.hid (show RefDisk w4 w.heap.size (.slice (some ⟨g, 0, none⟩) (k + 1) cap) (.slice none 0 0) from by rw [← hw4]; exact hb3.set 0 _)
        have hg4 : w3.grownBy w4 (some w.heap.size) := by rw [← hw4]; exact grown_set 0 _
        have HR4 := Lib.hid (show w4.ownsRow w.heap.size 9 1 (.slice (some ⟨g, 0, none⟩) (k + 1) cap) (k + 1) (List.replicate (k + 1) (.string (mkS z64))) from by
          rw [List.replicate_succ']
          exact World.ownsRow.kept hown3 hg4 (.inr (own_type hown3 hb3 (by decide))))
        have HBL4 := Lib.hid (show Below w.heap.size w w4 from by
          have hx := HXB.out
          exact ⟨(hg4.os.trans hgrow3.os).trans hx.os, (hg4.tape.trans hgrow3.tape).trans hx.tape, (hg4.output.trans hgrow3.output).trans hx.output, Nat.le_trans (Nat.le_trans hx.size hgrow3.size) hg4.size, fun i hi => by
            have h1 := hx.block i hi
            have h2 := hgrow3.block i (Nat.lt_of_lt_of_le hi hx.size) (fun e => by have := (own_lt HRW.out e.symm).2; omega)
            have h3 := hg4.block i (Nat.lt_of_lt_of_le hi (Nat.le_trans hx.size hgrow3.size)) (fun e => by have := Option.some.inj e; omega)
            exact (h3.trans h2).trans h1⟩)
        clear hown3 hgrow3 hat3 hlt3 hb3 c03 f03 hg4 hcv2 hA1 hA2 c0 f0
        subst hw4
        go_wp2
        go_roundw
        case rel => exact ⟨k + 1, by omega, by go_num, _, HB4.out, HR4.out, HBL4.out⟩
        case measure => simp [intOf]; omega
    · obtain rfl : k = 60 := by omega
      have hrow0 := HROW.out
      rcases hrow0.2 with ⟨_, h0⟩ | ⟨g, cap, cur, rfl, hg, hh, hn, hcm, hcs, hct⟩
      · omega
      obtain ⟨w2, hw2⟩ : ∃ w2, wr.alloc (.cells #[] 9) = w2 := ⟨_, rfl⟩
      have hb2 : Below wr.heap.size wr w2 := by rw [← hw2]; exact (Below.refl _ _).alloc (Nat.le_refl _) _
      have HNB := Lib.hid (show w2.heap[wr.heap.size]? = some (.cells #[] 9 (0, 0)) from by rw [← hw2]; exact heap_alloc_new wr _)
      have HR0 := Lib.hid (show w2.ownsRow w.heap.size 9 1 (.slice (some ⟨wr.heap.size, 0, none⟩) 0 0) 0 [] from
        ⟨rfl, .inr ⟨wr.heap.size, 0, #[], rfl, HB.out.size, HNB.out, Nat.le_refl _, Nat.zero_le _, rfl, rfl⟩⟩)
      have HNEWS := Lib.hid (show ∀ j u, (List.replicate 60 (Value.string (mkS z64)))[j]? = some u → w2.cell? ((⟨g, 0, none⟩ : Addr).add j) = some u from by
        intro j u hu
        rw [← hct, List.getElem?_take] at hu
        split at hu
        · have hh2 : w2.heap[g]? = some (.cells cur 9 (0, 0)) := (hb2.block g (blk_lt hh)).trans hh
          exact World.news_of_block hh2 j u hu
        · cases hu)
      have HBX3 := Lib.hid (HBX2.out.below hb2 hlt0)
      have c03 := HBX3.out.cell (i := 0) rfl
      have HW2 := Lib.hid (show Below w.heap.size w w2 from below_trans HB.out hb2)
      clear hh hn hcm hcs hct hrow0 hb2
      go_wp2_with (at_builtin; refine wpList_append_own_at _ rfl _ _ 107 rfl w.heap.size 9 i0 (.string ⟨#[]⟩) 1 16 Try.underlying107 hi hz0 hz1 hz2 rfl (by decide) (.slice (some ⟨wr.heap.size, 0, none⟩) 0 0) 0 [] rfl HR0.out ⟨g, 0, none⟩ 60 cap (List.replicate 60 (.string (mkS z64))) rfl ?_ HNEWS.out ?_ ?_ ?_ HW2.out.size ?_)
      · rw [List.length_replicate]
      · intro u hu; rw [List.eq_of_mem_replicate hu]; rfl
      · unfold maxLen; omega
      · omega
      intro v' w3 hown' hgrow _ hat
      have hb3 := HBX3.out.grown hgrow (fun e => own_type HR0.out HBX3.out (by decide) e.symm)
      have c13 := hb3.cell (i := 1) rfl
      have f13 := hb3.free 1
      obtain ⟨g2, cap2, rfl, _⟩ := World.ownsRow.form hown' (by omega)
      have HB3 := Lib.hid (hb3.set 1 (.slice (some ⟨g2, 0, none⟩) (0 + 60) cap2))
      have HBW := Lib.hid (show Below w.heap.size w (w3.setCell ⟨w.heap.size, 1, none⟩ (.slice (some ⟨g2, 0, none⟩) (0 + 60) cap2)) from by
        have hx := HW2.out
        have hg4 := grown_set (w := w3) (b := w.heap.size) 1 (.slice (some ⟨g2, 0, none⟩) (0 + 60) cap2)
        exact ⟨(hg4.os.trans hgrow.os).trans hx.os, (hg4.tape.trans hgrow.tape).trans hx.tape, (hg4.output.trans hgrow.output).trans hx.output, Nat.le_trans (Nat.le_trans hx.size hgrow.size) hg4.size, fun i hi => by
          have h1 := hx.block i hi
          have h2 := hgrow.block i (Nat.lt_of_lt_of_le hi hx.size) (fun e => by have := (own_lt HR0.out e.symm).2; omega)
          have h3 := hg4.block i (Nat.lt_of_lt_of_le hi (Nat.le_trans hx.size hgrow.size)) (fun e => by have := Option.some.inj e; omega)
          exact (h3.trans h2).trans h1⟩)
      clear hown' hgrow hat hb3 hw2
      go_wp2
      go_ret
      exact ⟨_, _, _, _, rfl, HB3.out, HBW.out⟩
end Go.Proofs.Ytgdkchjicggdlaa
