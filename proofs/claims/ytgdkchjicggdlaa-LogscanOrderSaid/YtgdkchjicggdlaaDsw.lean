/- The disk: writing. -/
import Derived.Test.YtgdkchjicggdlaaDsk
import Derived.Maps.AppendAt
import Derived.WalkSpells
import Derived.Deep.AppendLies
namespace Go.Proofs.Ytgdkchjicggdlaa
open Go.RowKit Go.Proofs.YtgdkchjicggdlaaW.PrintWords

theorem DiskAt.not_foot_m {w : World} {base : Nat} {p : Dpl} {k : Dk} (h : DiskAt w base p k) : p.s ≠ p.m ∧ p.wv.ownBlock ≠ some p.m ∧ p.fv.ownBlock ≠ some p.m := by
  have hm := h.seen
  unfold MapAt at hm
  have key : ∀ {e : TypeId} {size n : Nat} {v : Value} {xs : List Value}, w.ownsRow base e size v n xs → v.ownBlock ≠ some p.m := by
    intro e size n v xs hv e'
    rcases hv.2 with ⟨h1, _⟩ | ⟨g, cap, cur, h1, h2, h3, _⟩
    · subst h1; simp [Value.ownBlock] at e'
    · subst h1
      simp only [Value.ownBlock, Option.some.injEq] at e'
      subst e'
      rw [hm] at h3
      simp at h3
  refine ⟨fun e => ?_, key h.waits, key h.fails⟩
  have h1 := h.sure
  unfold Blk at h1
  rw [e, hm] at h1
  simp at h1

theorem own_apart {w : World} {base base' : Nat} {e e' : TypeId} {z z' n n' : Nat} {v v' : Value} {xs xs' : List Value} (h : w.ownsRow base e z v n xs) (h' : w.ownsRow base' e' z' v' n' xs') (he : e ≠ e') {j : Nat} (hj : v.ownBlock = some j) : v'.ownBlock ≠ some j := by
  rcases h.2 with ⟨h1, _⟩ | ⟨g, cap, cur, h1, h2, h3, _⟩
  · subst h1; simp [Value.ownBlock] at hj
  · subst h1
    simp only [Value.ownBlock, Option.some.injEq] at hj
    subst hj
    exact own_type h' (cs := cur) (t := e) h3 (fun q => he q.symm)

theorem DiskAt.wrote {w w1 w2 w3 : World} {base : Nat} {p : Dpl} {k : Dk} {i : Int} {data : ByteArray} {v' : Value} {o : Obj} (hd1 : DiskAt w1 base p k) (hg1 : w.grownBy w1 (some p.d)) (hr : 0 ≤ i ∧ i < k.sure.length)
    (hk2 : Kept w1 w2 (fun j => j = p.m)) (hm2 : MapAt w2 p.m (mput k.clock k.seen i (.string data)) (mclock k.clock k.seen i)) (hr2 : w2.os = w1.os ∧ w2.tape = w1.tape ∧ w2.output = w1.output)
    (hown : w3.ownsRow base 59 2 v' (k.waits.length + 1) (secCells k.waits ++ [.int .i64 i, .string data])) (hgrow : (w2.alloc o).grownBy w3 p.wv.ownBlock) (hat : v'.ownBlock = p.wv.ownBlock ∨ v'.ownBlock = some (w2.heap.size + 1)) :
    DkDone w (w3.setCell ⟨p.d, 2, none⟩ v') base p { k with seen := mput k.clock k.seen i (.string data), clock := mclock k.clock k.seen i, waits := k.waits ++ [⟨i, data⟩] } { p with wv := v' } := by
  have nm := hd1.not_foot_m
  have nd := hd1.ne_m
  have ns := hd1.ne_s
  have hw2 := own_kept hd1.waits hk2 (fun j hj e => nm.2.1 (by rw [hj, e]))
  have hf2 := own_kept hd1.fails hk2 (fun j hj e => nm.2.2 (by rw [hj, e]))
  have hs2 := hd1.sure.kept hk2 nm.1
  have hb2 := hd1.box.kept hk2 (fun e => nd e.symm)
  have k3 : Kept w2 w3 (fun j => j = p.d ∨ p.wv.ownBlock = some j) := Kept.of_grown hgrow ((Kept.refl w2 _).alloc o) (fun j hj => .inl (.inr hj))
  have k4 : Kept w2 (w3.setCell ⟨p.d, 2, none⟩ v') (fun j => j = p.d ∨ p.wv.ownBlock = some j) := k3.setCell (.inl (.inl rfl)) v'
  have hwd : p.wv.ownBlock ≠ some p.d := own_type hw2 hb2 (by decide)
  have hws : p.wv.ownBlock ≠ some p.s := own_type hw2 hs2 (by decide)
  have hfd : p.fv.ownBlock ≠ some p.d := own_type hf2 hb2 (by decide)
  have hb3 : Blk w3 p.d _ _ := (hb2.below ((Below.refl w2.heap.size w2).alloc (Nat.le_refl _) o) hb2.lt).grown hgrow (fun e => hwd e.symm)
  have hvd : v'.ownBlock ≠ some p.d := own_type hown hb3 (by decide)
  have hsz1 : w.heap.size ≤ w1.heap.size := hg1.size
  have hsz2 : w1.heap.size ≤ w2.heap.size := hk2.1
  refine ⟨⟨Blk.set hb3 2 v', hs2.kept k4 (fun e => e.elim ns hws), hd1.few, blk_kept hm2 k4 (fun e => e.elim nd nm.2.1), ?_, own_kept hf2 k4 (fun j hj e => e.elim (fun e => hfd (by rw [hj, e])) (fun e => own_apart hf2 hw2 (by decide) hj e)), hd1.based, ?_, ?_⟩, ⟨rfl, rfl, rfl⟩, ?_, ?_, ?_⟩
  · have e : secCells (k.waits ++ [⟨i, data⟩]) = secCells k.waits ++ [.int .i64 i, .string data] := by rw [secCells_app]; rfl
    show World.ownsRow _ base _ 2 v' (k.waits ++ [(⟨i, data⟩ : Sec)]).length (secCells (k.waits ++ [(⟨i, data⟩ : Sec)]))
    rw [e, List.length_append]
    exact own_kept hown ((Kept.refl w3 (fun j => j = p.d)).setCell (.inl rfl) v') (fun j hj e => hvd (by rw [hj, e]))
  · intro a v hv
    rw [mget_mput] at hv
    by_cases ha : a = i
    · rw [if_pos ha] at hv; exact ⟨data, (Option.some.inj hv).symm⟩
    · rw [if_neg ha] at hv; exact hd1.strs a v hv
  · intro x hx
    rcases List.mem_append.1 hx with h | h
    · exact hd1.inside x h
    · rw [List.mem_singleton.1 h]; exact hr
  · intro j hj
    rcases hj with h | h | h | h | h
    · exact .inl (.inl h)
    · exact .inl (.inr (.inl h))
    · exact .inl (.inr (.inr (.inl h)))
    · rcases hat with e | e
      · exact .inl (.inr (.inr (.inr (.inl (by rw [← e]; exact h)))))
      · right
        have h' : v'.ownBlock = some j := h
        rw [e] at h'
        have := Option.some.inj h'
        omega
    · exact .inl (.inr (.inr (.inr (.inr h))))
  · refine (Kept.of_grown hg1 (Kept.refl w p.foot) (fun j hj => .inl (.inl (Option.some.inj hj).symm))).then_ (S2 := fun j => j = p.m ∨ j = p.d ∨ p.wv.ownBlock = some j) ((hk2.mono (fun j h => .inl h)).then_ k4 (fun j h => .inl (.inr h))) ?_
    rintro j (h | h | h)
    · exact .inl (.inr (.inr (.inl h)))
    · exact .inl (.inl h)
    · exact .inl (.inr (.inr (.inr (.inl h))))
  · have a1 := hgrow.os
    have a2 := hgrow.tape
    have a3 := hgrow.output
    exact ⟨a1.trans (hr2.1.trans hg1.os), a2.trans (hr2.2.1.trans hg1.tape), a3.trans (hr2.2.2.trans hg1.output)⟩

set_option maxRecDepth 100000 in
set_option maxHeartbeats 1000000 in
theorem dk_write_in (w : World) (base : Nat) (p : Dpl) (k : Dk) (i : Int) (data : ByteArray) (h : DiskAt w base p k) (ho : k.ops ≤ 4611686018427387904) (hw : k.waits.length ≤ 1000000) (hbase : base ≤ w.heap.size)
    (he : (k.callE.1 != 0) = false ∨ ((k.callE.1 != 0) = true ∧ k.callE.2 = true)) (hh : k.has i = true) (hs : data.size = 64) :
    Calls Try.prog 71 #[.pointer (some ⟨p.d, 0, none⟩), .int .i64 i, .string data] w fun e w' => e = .returned (.int .i64 (k.writeR i data).1) ∧ ∃ p', DkDone w w' base p (k.writeR i data).2 p' := by
  have H := Lib.hid h
  have HO := Lib.hid ho
  have HR := Lib.hid (show k.writeR i data = (k.callE.1, { k.callD with seen := mput k.clock k.seen i (.string data), clock := mclock k.clock k.seen i, waits := k.waits ++ [⟨i, data⟩] }) from by
    unfold Dk.writeR
    rw [if_neg (by rintro ⟨h1, h2⟩; rcases he with h | h; exact h1 (by simpa using h); rw [h.2] at h2; cases h2), if_neg (by simp [hh]), if_neg (by simp [hs])])
  have hds : ((data.size : Int) != 64) = false := by simp; omega
  have HH := Lib.hid hh
  have hr : 0 ≤ i ∧ i < k.sure.length := by unfold Dk.has at hh; exact of_decide_eq_true hh
  have HRNG := Lib.hid hr
  have hen := fun w => run_eql_map_nil (P := Try.prog) w 109 3 9 (some p.m) Try.underlying109
  clear h ho hh hr hs
  rcases he with he1 | ⟨he1, he2⟩
  · go_enter Try.func71, Try.ntmps71
    go_wp2_with fail
    refine (dk_call _ base p k H.out HO.out).mono ?_
    rintro e w1 ⟨rfl, hd1, hg1⟩
    have HD1 := Lib.hid hd1
    have HG1 := Lib.hid hg1
    obtain ⟨w2, hw2⟩ : ∃ w2, World.setMap w1 p.m (mput k.clock k.seen i (.string data)) (mclock k.clock k.seen i) = w2 := ⟨_, rfl⟩
    have hup := run_mput (P := Try.prog) Try.underlying109 Try.underlying3 hd1.seen i (.string data)
    rw [show mput k.callD.clock k.callD.seen i (.string data) = mput k.clock k.seen i (.string data) from rfl, show mclock k.callD.clock k.callD.seen i = mclock k.clock k.seen i from rfl, hw2] at hup
    have HK2 := Lib.hid (show Kept w1 w2 (fun j => j = p.m) from by
      subst hw2
      exact ⟨by rw [setMap_size]; exact Nat.le_refl _, fun j _ hj => setMap_other hd1.seen _ _ hj⟩)
    have HM2 := Lib.hid (show MapAt w2 p.m (mput k.clock k.seen i (.string data)) (mclock k.clock k.seen i) from by subst hw2; exact setMap_at hd1.seen _ _)
    have HR2 := Lib.hid (show w2.os = w1.os ∧ w2.tape = w1.tape ∧ w2.output = w1.output from by subst hw2; exact ⟨rfl, rfl, rfl⟩)
    have c1 := hd1.box.cell (i := 1) rfl
    have HBX := Lib.hid (hd1.box.kept HK2.out (fun e => hd1.ne_m e.symm))
    have c2 := HBX.out.cell (i := 2) rfl
    have HW2 := Lib.hid (own_kept hd1.waits HK2.out (fun j hj e => hd1.not_foot_m.2.1 (by rw [hj, e])))
    clear hd1 hg1 hw2
    obtain ⟨i0, hi, hz0, hz1, hz2⟩ := info_parts sec_info
    go_wp2_with (first
      | (go_at_call 81; refine (dk_there _ base p k.callD i HD1.out).mono ?_; rintro e w3 ⟨rfl, rfl⟩; rw [show k.callD.has i = true from HH.out])
      | (at_builtin; refine wpList_append_own_at _ rfl _ _ 22 rfl base 59 i0 (.agg #[.int .i64 0, .string ⟨#[]⟩]) 2 24 Try.underlying22 hi hz0 hz1 hz2 rfl (by decide) p.wv k.waits.length (secCells k.waits) rfl (HW2.out.alloc _) ⟨w2.heap.size, 0, none⟩ 1 1 [.int .i64 i, .string data] rfl rfl ?_ ?_ ?_ ?_ ?_ ?_))
    · intro j u hu
      match j, hu with
      | 0, hu => obtain rfl : Value.int .i64 _ = u := by simpa using hu
                 simp [Addr.add]
      | 1, hu => obtain rfl : Value.string _ = u := by simpa using hu
                 simp [Addr.add]
      | j + 2, hu => simp at hu
    · intro u hu; simp at hu; rcases hu with rfl | rfl <;> rfl
    · unfold maxLen; omega
    · omega
    · have := HK2.out.1; have := HG1.out.size; simp; omega
    intro v' w3 hown' hgrow _ hat
    have HB3 := Lib.hid ((HBX.out.below ((Below.refl w2.heap.size w2).alloc (Nat.le_refl _) _) HBX.out.lt).grown hgrow (fun e => own_type HW2.out HBX.out (by decide) e.symm))
    have c2' := HB3.out.cell (i := 2) rfl
    have f2' := HB3.out.free 2
    have HDONE := Lib.hid (HD1.out.wrote HG1.out HRNG.out HK2.out HM2.out HR2.out hown' hgrow hat)
    obtain ⟨gv, capv, rfl, _⟩ := World.ownsRow.form hown' (by omega)
    clear hown' hgrow hat c2
    go_wp2
    go_ret
    exact ⟨by rw [HR.out]; rfl, _, by rw [HR.out]; exact HDONE.out⟩
  · go_enter Try.func71, Try.ntmps71
    go_wp2_with fail
    refine (dk_call _ base p k H.out HO.out).mono ?_
    rintro e w1 ⟨rfl, hd1, hg1⟩
    have HD1 := Lib.hid hd1
    have HG1 := Lib.hid hg1
    obtain ⟨w2, hw2⟩ : ∃ w2, World.setMap w1 p.m (mput k.clock k.seen i (.string data)) (mclock k.clock k.seen i) = w2 := ⟨_, rfl⟩
    have hup := run_mput (P := Try.prog) Try.underlying109 Try.underlying3 hd1.seen i (.string data)
    rw [show mput k.callD.clock k.callD.seen i (.string data) = mput k.clock k.seen i (.string data) from rfl, show mclock k.callD.clock k.callD.seen i = mclock k.clock k.seen i from rfl, hw2] at hup
    have HK2 := Lib.hid (show Kept w1 w2 (fun j => j = p.m) from by
      subst hw2
      exact ⟨by rw [setMap_size]; exact Nat.le_refl _, fun j _ hj => setMap_other hd1.seen _ _ hj⟩)
    have HM2 := Lib.hid (show MapAt w2 p.m (mput k.clock k.seen i (.string data)) (mclock k.clock k.seen i) from by subst hw2; exact setMap_at hd1.seen _ _)
    have HR2 := Lib.hid (show w2.os = w1.os ∧ w2.tape = w1.tape ∧ w2.output = w1.output from by subst hw2; exact ⟨rfl, rfl, rfl⟩)
    have c1 := hd1.box.cell (i := 1) rfl
    have HBX := Lib.hid (hd1.box.kept HK2.out (fun e => hd1.ne_m e.symm))
    have c2 := HBX.out.cell (i := 2) rfl
    have HW2 := Lib.hid (own_kept hd1.waits HK2.out (fun j hj e => hd1.not_foot_m.2.1 (by rw [hj, e])))
    clear hd1 hg1 hw2
    obtain ⟨i0, hi, hz0, hz1, hz2⟩ := info_parts sec_info
    go_wp2_with (first
      | (go_at_call 81; refine (dk_there _ base p k.callD i HD1.out).mono ?_; rintro e w3 ⟨rfl, rfl⟩; rw [show k.callD.has i = true from HH.out])
      | (at_builtin; refine wpList_append_own_at _ rfl _ _ 22 rfl base 59 i0 (.agg #[.int .i64 0, .string ⟨#[]⟩]) 2 24 Try.underlying22 hi hz0 hz1 hz2 rfl (by decide) p.wv k.waits.length (secCells k.waits) rfl (HW2.out.alloc _) ⟨w2.heap.size, 0, none⟩ 1 1 [.int .i64 i, .string data] rfl rfl ?_ ?_ ?_ ?_ ?_ ?_))
    · intro j u hu
      match j, hu with
      | 0, hu => obtain rfl : Value.int .i64 _ = u := by simpa using hu
                 simp [Addr.add]
      | 1, hu => obtain rfl : Value.string _ = u := by simpa using hu
                 simp [Addr.add]
      | j + 2, hu => simp at hu
    · intro u hu; simp at hu; rcases hu with rfl | rfl <;> rfl
    · unfold maxLen; omega
    · omega
    · have := HK2.out.1; have := HG1.out.size; simp; omega
    intro v' w3 hown' hgrow _ hat
    have HB3 := Lib.hid ((HBX.out.below ((Below.refl w2.heap.size w2).alloc (Nat.le_refl _) _) HBX.out.lt).grown hgrow (fun e => own_type HW2.out HBX.out (by decide) e.symm))
    have c2' := HB3.out.cell (i := 2) rfl
    have f2' := HB3.out.free 2
    have HDONE := Lib.hid (HD1.out.wrote HG1.out HRNG.out HK2.out HM2.out HR2.out hown' hgrow hat)
    obtain ⟨gv, capv, rfl, _⟩ := World.ownsRow.form hown' (by omega)
    clear hown' hgrow hat c2
    go_wp2
    go_ret
    exact ⟨by rw [HR.out]; rfl, _, by rw [HR.out]; exact HDONE.out⟩
end Go.Proofs.Ytgdkchjicggdlaa

/- The disk: a write that is refused; and any write. -/
namespace Go.Proofs.Ytgdkchjicggdlaa
open Go.RowKit Go.Proofs.YtgdkchjicggdlaaW.PrintWords

set_option maxRecDepth 100000 in
set_option maxHeartbeats 1000000 in
theorem dk_write_not (w : World) (base : Nat) (p : Dpl) (k : Dk) (i : Int) (data : ByteArray) (h : DiskAt w base p k) (ho : k.ops ≤ 4611686018427387904)
    (hn : ((k.callE.1 != 0) = true ∧ k.callE.2 = false) ∨ k.has i = false ∨ data.size ≠ 64) :
    Calls Try.prog 71 #[.pointer (some ⟨p.d, 0, none⟩), .int .i64 i, .string data] w fun e w' => e = .returned (.int .i64 (k.writeR i data).1) ∧ DiskAt w' base p k.callD ∧ w.grownBy w' (some p.d) ∧ (k.writeR i data).2 = k.callD := by
  have H := Lib.hid h
  have HO := Lib.hid ho
  clear h ho
  have hdm : k.callE.2 = true ∨ k.callE.2 = false := by cases k.callE.2 <;> simp
  by_cases h1 : (k.callE.1 != 0) = true ∧ k.callE.2 = false
  · obtain ⟨h1, h2⟩ := h1
    have HR := Lib.hid (show k.writeR i data = (k.callE.1, k.callD) from by unfold Dk.writeR; rw [if_pos ⟨by simpa using h1, h2⟩])
    clear hn hdm
    go_enter Try.func71, Try.ntmps71
    go_wp2_with fail
    refine (dk_call _ base p k H.out HO.out).mono ?_
    rintro e w1 ⟨rfl, hd1, hg1⟩
    go_wp2
    go_ret
    exact ⟨by rw [HR.out]; rfl, hd1, hg1, by rw [HR.out]⟩
  have hpass : (k.callE.1 != 0) = false ∨ ((k.callE.1 != 0) = true ∧ k.callE.2 = true) := by
    cases hb : (k.callE.1 != 0) with
    | false => exact .inl rfl
    | true =>
      right
      refine ⟨rfl, ?_⟩
      rcases hdm with h | h
      · exact h
      · exact absurd ⟨hb, h⟩ h1
  have HP := Lib.hid (show ¬ (k.callE.1 ≠ 0 ∧ k.callE.2 = false) from fun h => h1 ⟨by simpa using h.1, h.2⟩)
  clear h1
  by_cases hh : k.has i = false
  · have HH := Lib.hid hh
    have HR := Lib.hid (show k.writeR i data = ((if k.callE.2 then k.callE.1 else 3), k.callD) from by unfold Dk.writeR; rw [if_neg HP.out, if_pos hh])
    clear hn hh
    rcases hpass with he1 | ⟨he1, he2⟩
    · rcases hdm with he2 | he2
      · go_enter Try.func71, Try.ntmps71
        go_wp2_with fail
        refine (dk_call _ base p k H.out HO.out).mono ?_
        rintro e w1 ⟨rfl, hd1, hg1⟩
        have HD1 := Lib.hid hd1
        have HG1 := Lib.hid hg1
        clear hd1 hg1
        go_wp2_with ((go_at_call 81; refine (dk_there _ base p k.callD i HD1.out).mono ?_; rintro e w3 ⟨rfl, rfl⟩; rw [show k.callD.has i = false from HH.out]))
        all_goals go_ret
        all_goals exact ⟨by rw [HR.out]; simp [*], HD1.out, HG1.out, by rw [HR.out]⟩
      · go_enter Try.func71, Try.ntmps71
        go_wp2_with fail
        refine (dk_call _ base p k H.out HO.out).mono ?_
        rintro e w1 ⟨rfl, hd1, hg1⟩
        have HD1 := Lib.hid hd1
        have HG1 := Lib.hid hg1
        clear hd1 hg1
        go_wp2_with ((go_at_call 81; refine (dk_there _ base p k.callD i HD1.out).mono ?_; rintro e w3 ⟨rfl, rfl⟩; rw [show k.callD.has i = false from HH.out]))
        all_goals go_ret
        all_goals exact ⟨by rw [HR.out]; simp [*], HD1.out, HG1.out, by rw [HR.out]⟩
    · go_enter Try.func71, Try.ntmps71
      go_wp2_with fail
      refine (dk_call _ base p k H.out HO.out).mono ?_
      rintro e w1 ⟨rfl, hd1, hg1⟩
      have HD1 := Lib.hid hd1
      have HG1 := Lib.hid hg1
      clear hd1 hg1
      go_wp2_with ((go_at_call 81; refine (dk_there _ base p k.callD i HD1.out).mono ?_; rintro e w3 ⟨rfl, rfl⟩; rw [show k.callD.has i = false from HH.out]))
      all_goals go_ret
      all_goals exact ⟨by rw [HR.out]; simp [*], HD1.out, HG1.out, by rw [HR.out]⟩
  · have HH := Lib.hid (show k.has i = true from by simpa using hh)
    have hs : data.size ≠ 64 := by
      rcases hn with h | h | h
      · exact absurd ⟨by simpa using h.1, h.2⟩ HP.out
      · exact absurd h hh
      · exact h
    have hds : ((data.size : Int) != 64) = true := by simp; omega
    have HR := Lib.hid (show k.writeR i data = ((if k.callE.2 then k.callE.1 else 12), k.callD) from by unfold Dk.writeR; rw [if_neg HP.out, if_neg hh, if_pos hs])
    clear hn hh hs
    rcases hpass with he1 | ⟨he1, he2⟩
    · rcases hdm with he2 | he2
      · go_enter Try.func71, Try.ntmps71
        go_wp2_with fail
        refine (dk_call _ base p k H.out HO.out).mono ?_
        rintro e w1 ⟨rfl, hd1, hg1⟩
        have HD1 := Lib.hid hd1
        have HG1 := Lib.hid hg1
        clear hd1 hg1
        go_wp2_with ((go_at_call 81; refine (dk_there _ base p k.callD i HD1.out).mono ?_; rintro e w3 ⟨rfl, rfl⟩; rw [show k.callD.has i = true from HH.out]))
        all_goals go_ret
        all_goals exact ⟨by rw [HR.out]; simp [*], HD1.out, HG1.out, by rw [HR.out]⟩
      · go_enter Try.func71, Try.ntmps71
        go_wp2_with fail
        refine (dk_call _ base p k H.out HO.out).mono ?_
        rintro e w1 ⟨rfl, hd1, hg1⟩
        have HD1 := Lib.hid hd1
        have HG1 := Lib.hid hg1
        clear hd1 hg1
        go_wp2_with ((go_at_call 81; refine (dk_there _ base p k.callD i HD1.out).mono ?_; rintro e w3 ⟨rfl, rfl⟩; rw [show k.callD.has i = true from HH.out]))
        all_goals go_ret
        all_goals exact ⟨by rw [HR.out]; simp [*], HD1.out, HG1.out, by rw [HR.out]⟩
    · go_enter Try.func71, Try.ntmps71
      go_wp2_with fail
      refine (dk_call _ base p k H.out HO.out).mono ?_
      rintro e w1 ⟨rfl, hd1, hg1⟩
      have HD1 := Lib.hid hd1
      have HG1 := Lib.hid hg1
      clear hd1 hg1
      go_wp2_with ((go_at_call 81; refine (dk_there _ base p k.callD i HD1.out).mono ?_; rintro e w3 ⟨rfl, rfl⟩; rw [show k.callD.has i = true from HH.out]))
      all_goals go_ret
      all_goals exact ⟨by rw [HR.out]; simp [*], HD1.out, HG1.out, by rw [HR.out]⟩

theorem dk_write (w : World) (base : Nat) (p : Dpl) (k : Dk) (i : Int) (data : ByteArray) (h : DiskAt w base p k) (ho : k.ops ≤ 4611686018427387904) (hw : k.waits.length ≤ 1000000) (hbase : base ≤ w.heap.size) :
    Calls Try.prog 71 #[.pointer (some ⟨p.d, 0, none⟩), .int .i64 i, .string data] w fun e w' => e = .returned (.int .i64 (k.writeR i data).1) ∧ ∃ p', DkDone w w' base p (k.writeR i data).2 p' := by
  by_cases hn : ((k.callE.1 != 0) = true ∧ k.callE.2 = false) ∨ k.has i = false ∨ data.size ≠ 64
  · refine (dk_write_not w base p k i data h ho hn).mono ?_
    rintro e w' ⟨rfl, hd, hg, e2⟩
    exact ⟨rfl, p, by rw [e2]; exact DkDone.of_call hd hg⟩
  · simp only [not_or, Classical.not_not] at hn
    refine dk_write_in w base p k i data h ho hw hbase ?_ (by simpa using hn.2.1) hn.2.2
    cases hb : (k.callE.1 != 0) with
    | false => exact .inl rfl
    | true =>
      refine .inr ⟨rfl, ?_⟩
      cases h2 : k.callE.2 with
      | true => rfl
      | false => exact absurd ⟨hb, h2⟩ hn.1
end Go.Proofs.Ytgdkchjicggdlaa

/- The disk: making sure of what was written. -/
namespace Go.Proofs.Ytgdkchjicggdlaa
open Go.RowKit Go.Proofs.YtgdkchjicggdlaaW.PrintWords

def lay (s : List ByteArray) (x : Sec) : List ByteArray := s.set x.At.toNat x.Data
def layAll (s : List ByteArray) (l : List Sec) : List ByteArray := l.foldl lay s
theorem layAll_len (l : List Sec) : ∀ s, (layAll s l).length = s.length := by
  induction l with
  | nil => intro s; rfl
  | cons x l ih =>
    intro s
    show (layAll (lay s x) l).length = _
    rw [ih]
    exact List.length_set
theorem layAll_snoc (s : List ByteArray) (l : List Sec) (k : Nat) (hk : k < l.length) : layAll s (l.take (k + 1)) = lay (layAll s (l.take k)) l[k] := by
  unfold layAll
  rw [List.take_succ_eq_append_getElem hk, List.foldl_append]
  rfl
def strRow (s : List ByteArray) : Array Value := (s.map Value.string).toArray
theorem strRow_set (s : List ByteArray) (i : Nat) (d : ByteArray) : (strRow s).setIfInBounds i (.string d) = strRow (s.set i d) := by
  unfold strRow
  simp [List.map_set]

set_option maxRecDepth 100000 in
set_option maxHeartbeats 1000000 in
theorem dk_settle (w : World) (base : Nat) (p : Dpl) (k : Dk) (h : DiskAt w base p k) :
    Calls Try.prog 82 #[.pointer (some ⟨p.d, 0, none⟩), p.wv] w fun e w' => e = .returned (.tuple #[]) ∧ DkDone w w' base p { k with sure := layAll k.sure k.waits, seen := [], waits := [] } { p with wv := .slice none 0 0 } := by
  have H := Lib.hid h
  obtain ⟨A, c, hwv, hcap, hsecs⟩ := h.waits.form
  have HIN := Lib.hid h.inside
  have hmax := Kd.C_max hsecs
  have HSEC := Lib.hid hsecs
  have hfew := h.few
  rw [hwv]
  clear h hsecs hcap
  go_enter Try.func82, Try.ntmps82
  go_wp2
  go_loopw [8] (fun i wr => ∃ j : Nat, j ≤ k.waits.length ∧ i = .int .i64 j ∧ Blk wr p.s (strRow (layAll k.sure (k.waits.take j))) 9 ∧ Kept w wr (fun b => b = p.s) ∧ wr.os = w.os ∧ wr.tape = w.tape ∧ wr.output = w.output) (fun i _ => k.waits.length - (intOf i).toNat)
  case atStart => exact ⟨0, by omega, rfl, H.out.sure, Kept.refl _ _, rfl, rfl, rfl⟩
  case round =>
    obtain ⟨j, hj, rfl, hs, hk, hr⟩ := hrel
    have HS := Lib.hid hs
    have HK := Lib.hid hk
    have HR := Lib.hid hr
    clear hs hk hr
    have hks : ∀ i, p.wv.ownBlock = some i → ¬ i = p.s := fun i hi e => own_type H.out.waits H.out.sure (by decide) (by rw [hi, e])
    have HOW := Lib.hid (own_kept H.out.waits HK.out hks)
    have HBX := Lib.hid (H.out.box.kept HK.out (fun e => H.out.ne_s e.symm))
    by_cases hlt : j < k.waits.length
    · obtain ⟨A', c', hwv', _, hsecs'⟩ := OwnSecs.form HOW.out
      rw [hwv] at hwv'
      injection hwv' with e1 _ e3
      subst e1 e3
      obtain ⟨ad, rfl, c0, c1⟩ := Secs.at_ hsecs' j hlt
      have hin := HIN.out k.waits[j] (List.getElem_mem hlt)
      have HL := Lib.hid (layAll_snoc k.sure k.waits j hlt)
      have hll := layAll_len (k.waits.take j) k.sure
      obtain ⟨a, ha⟩ : ∃ a : Nat, k.waits[j].At = (a : Int) := ⟨k.waits[j].At.toNat, by omega⟩
      have HA := Lib.hid ha
      rw [ha] at c0
      have hal : a < k.sure.length := by omega
      have halI : (a : Int) < k.sure.length := by omega
      clear hin ha hsecs'
      go_wp2
      obtain ⟨w5, hw5⟩ : ∃ w5, wr.alloc (.cells #[.int .i64 a, .string k.waits[j].Data] 59) = w5 := ⟨_, rfl⟩
      rw [hw5]
      have HB5 := Lib.hid (show Below wr.heap.size wr w5 from by subst hw5; exact (Below.refl _ _).alloc (Nat.le_refl _) _)
      have HN5 := Lib.hid (show Blk w5 wr.heap.size #[.int .i64 a, .string k.waits[j].Data] 59 from by subst hw5; exact Blk.alloc _ _ _)
      have HBX5 := Lib.hid (HBX.out.below HB5.out HBX.out.lt)
      have HS5 := Lib.hid (HS.out.below HB5.out HS.out.lt)
      have d0 := HN5.out.cell (i := 0) rfl
      have d1 := HN5.out.cell (i := 1) rfl
      have cb0 := HBX5.out.cell (i := 0) rfl
      obtain ⟨D, hst⟩ : ∃ D, w5.cell? ⟨p.s, a, none⟩ = some (.string D) := ⟨(layAll k.sure (k.waits.take j))[a]'(by omega), HS5.out.cell (by unfold strRow; simp [hll, hal])⟩
      have hsf := HS5.out.free a
      clear hw5 c0 c1
      go_still_tail 9, (by kernel_rfl)
      change wpList _ _ _ _ _ w5.drew
      go_wp2
      refine ⟨⟨j + 1, by omega, by go_num, ?_, (HK.out.below HB5.out).setCell (.inl rfl) _, HB5.out.os.trans HR.out.1, HB5.out.tape.trans HR.out.2.1, HB5.out.output.trans HR.out.2.2⟩, by simp [intOf]; omega⟩
      have hb := Blk.set HS5.out a (.string k.waits[j].Data)
      rw [strRow_set] at hb
      rw [HL.out]
      unfold lay
      rw [HA.out]
      exact hb
    · obtain rfl : j = k.waits.length := by omega
      have hta : k.waits.take k.waits.length = k.waits := List.take_length
      rw [hta] at HS
      have HM := Lib.hid (show MapAt wr p.m k.seen k.clock from blk_kept H.out.seen HK.out (fun e => H.out.not_foot_m.1 e.symm))
      have hcl := fun ty => run_clear_map (P := Try.prog) Try.underlying109 ty HM.out
      obtain ⟨w2, hw2⟩ : ∃ w2, World.setMap wr p.m [] k.clock = w2 := ⟨_, rfl⟩
      have HK2 := Lib.hid (show Kept wr w2 (fun j => j = p.m) from by
        subst hw2
        exact ⟨by rw [setMap_size]; exact Nat.le_refl _, fun j _ hj => setMap_other HM.out _ _ hj⟩)
      have HM2 := Lib.hid (show MapAt w2 p.m [] k.clock from by subst hw2; exact setMap_at HM.out _ _)
      have HR2 := Lib.hid (show w2.os = wr.os ∧ w2.tape = wr.tape ∧ w2.output = wr.output from by subst hw2; exact ⟨rfl, rfl, rfl⟩)
      rw [hw2] at hcl
      have HBX2 := Lib.hid (HBX.out.kept HK2.out (fun e => H.out.ne_m e.symm))
      have cb1 := HBX.out.cell (i := 1) rfl
      have cb2 := HBX2.out.cell (i := 2) rfl
      have fb2 := HBX2.out.free 2
      clear hw2
      rw [hwv] at cb2
      have k24 : Kept w2 (w2.setCell ⟨p.d, 2, none⟩ (.slice none 0 0)) (fun b => b = p.d) := Kept.setCell (p := ⟨p.d, 2, none⟩) (Kept.refl w2 (fun b => b = p.d)) (.inl rfl) _
      have HD := Lib.hid (show DkDone w (w2.setCell ⟨p.d, 2, none⟩ (.slice none 0 0)) base p { k with sure := layAll k.sure k.waits, seen := [], waits := [] } { p with wv := .slice none 0 0 } from by
        have nm := H.out.not_foot_m
        have nd := H.out.ne_m
        have ns := H.out.ne_s
        have hf0 := own_kept H.out.fails HK.out (fun i hi e => own_type H.out.fails H.out.sure (by decide) (by rw [hi, e]))
        have hf2 := own_kept hf0 HK2.out (fun i hi e => nm.2.2 (by rw [hi, e]))
        have hb := Blk.set HBX2.out 2 (.slice none 0 0)
        rw [← layAll_len k.waits k.sure] at hb
        refine ⟨⟨hb, (HS.out.kept HK2.out nm.1).kept k24 ns, ?_, blk_kept HM2.out k24 nd, OwnSecs.nil _ _, own_kept hf2 k24 (fun i hi e => own_type H.out.fails H.out.box (by decide) (by rw [hi, e])), H.out.based, ?_, ?_⟩, ⟨rfl, rfl, rfl⟩, ?_, ?_, ?_⟩
        · show (layAll k.sure k.waits).length ≤ 1000
          rw [layAll_len]; exact H.out.few
        · intro i v hv; simp [mget] at hv
        · intro x hx; simp at hx
        · intro i hi
          rcases hi with h | h | h | h | h
          · exact .inl (.inl h)
          · exact .inl (.inr (.inl h))
          · exact .inl (.inr (.inr (.inl h)))
          · simp [Value.ownBlock] at h
          · exact .inl (.inr (.inr (.inr (.inr h))))
        · refine (HK.out.mono (fun i h => .inr (.inl h))).then_ (S2 := fun j => j = p.m ∨ j = p.d) ((HK2.out.mono (fun j h => .inl h)).then_ k24 (fun j h => .inl (.inr h))) ?_
          rintro i (h | h)
          · exact .inl (.inr (.inr (.inl h)))
          · exact .inl (.inl h)
        · exact ⟨HR2.out.1.trans HR.out.1, HR2.out.2.1.trans HR.out.2.1, HR2.out.2.2.trans HR.out.2.2⟩)
      clear k24
      go_wp2
      go_end0
      exact ⟨rfl, HD.out⟩

namespace Dk
def flushR (k : Dk) : Int × Dk := if k.callE.1 = 0 then (0, { k.callD with sure := layAll k.sure k.waits, seen := [], waits := [] }) else (k.callE.1, k.callD)
end Dk

theorem DkDone.trans_call {w w1 w2 : World} {base : Nat} {p p' : Dpl} {k' : Dk} (hg : w.grownBy w1 (some p.d)) (h : DkDone w1 w2 base p k' p') : DkDone w w2 base p k' p' where
  at_ := h.at_
  same := h.same
  foot := fun i hi => (h.foot i hi).elim .inl (fun x => .inr (Nat.le_trans hg.size x))
  kept := (Kept.of_grown hg (Kept.refl w p.foot) (fun _ hj => .inl (.inl (Option.some.inj hj).symm))).then_ h.kept (fun _ x => .inl x)
  rest := ⟨h.rest.1.trans hg.os, h.rest.2.1.trans hg.tape, h.rest.2.2.trans hg.output⟩

set_option maxRecDepth 100000 in
set_option maxHeartbeats 1000000 in
theorem dk_flush (w : World) (base : Nat) (p : Dpl) (k : Dk) (h : DiskAt w base p k) (ho : k.ops ≤ 4611686018427387904) :
    Calls Try.prog 72 #[.pointer (some ⟨p.d, 0, none⟩)] w fun e w' => e = .returned (.int .i64 k.flushR.1) ∧ ∃ p', DkDone w w' base p k.flushR.2 p' := by
  have H := Lib.hid h
  have HO := Lib.hid ho
  clear h ho
  by_cases he : k.callE.1 = 0
  · have heb : (k.callE.1 == 0) = true := by rw [beq_iff_eq]; exact he
    have HR := Lib.hid (show k.flushR = (0, { k.callD with sure := layAll k.sure k.waits, seen := [], waits := [] }) from if_pos he)
    have HE := Lib.hid he
    clear he
    go_enter Try.func72, Try.ntmps72
    go_wp2_with fail
    refine (dk_call _ base p k H.out HO.out).mono ?_
    rintro e w1 ⟨rfl, hd1, hg1⟩
    have HD1 := Lib.hid hd1
    have HG1 := Lib.hid hg1
    have c2 := hd1.box.cell (i := 2) rfl
    clear hd1 hg1
    go_wp2_with fail
    refine (dk_settle _ base p k.callD HD1.out).mono ?_
    rintro e w2 ⟨rfl, hdn⟩
    have HDN := Lib.hid (DkDone.trans_call HG1.out hdn)
    clear hdn
    go_wp2
    go_ret
    exact ⟨by rw [HR.out, ← HE.out]; rfl, _, by rw [HR.out]; exact HDN.out⟩
  · have heb : (k.callE.1 == 0) = false := by rw [beq_eq_false_iff_ne]; exact he
    have HR := Lib.hid (show k.flushR = (k.callE.1, k.callD) from if_neg he)
    clear he
    go_enter Try.func72, Try.ntmps72
    go_wp2_with fail
    refine (dk_call _ base p k H.out HO.out).mono ?_
    rintro e w1 ⟨rfl, hd1, hg1⟩
    have HDN := Lib.hid (DkDone.of_call hd1 hg1)
    clear hd1 hg1
    go_wp2
    go_ret
    exact ⟨by rw [HR.out]; rfl, _, by rw [HR.out]; exact HDN.out⟩
end Go.Proofs.Ytgdkchjicggdlaa
