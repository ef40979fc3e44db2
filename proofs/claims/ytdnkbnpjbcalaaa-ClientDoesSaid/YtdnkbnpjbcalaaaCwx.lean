/- The document's client: Came. -/
import Derived.Test.YtdnkbnpjbcalaaaCwv
namespace Go.Proofs.Ytdnkbnpjbcalaaa
open Go.RowKit

def restTo (F : List (Int × Int)) (id : Int) (k : Nat) : List (Int × Int) := match cameAt (F.take k) id with
  | none => F.take k
  | some j => (F.take k).eraseIdx j
def nTo (F : List (Int × Int)) (id : Int) (k : Nat) : Int := match cameAt (F.take k) id with
  | none => -1
  | some j => (F.getD j (0, 0)).2
theorem came_lt {F : List (Int × Int)} {id : Int} {j : Nat} (h : cameAt F id = some j) : j < F.length := (List.findIdx?_eq_some_iff_getElem.1 h).1
theorem came_succ (F : List (Int × Int)) (id : Int) (k : Nat) (hk : k < F.length) : cameAt (F.take (k + 1)) id = (cameAt (F.take k) id).or (if F[k].1 = id then some k else none) := by
  unfold cameAt
  rw [List.take_succ_eq_append_getElem hk, List.findIdx?_append, List.length_take, Nat.min_eq_left (Nat.le_of_lt hk)]
  congr 1
  by_cases h : F[k].1 = id
  · rw [if_pos h]; simp [List.findIdx?_cons, h]
  · rw [if_neg h]; simp [List.findIdx?_cons, h]
theorem rest_found (F : List (Int × Int)) (id : Int) (k : Nat) (hk : k < F.length) (hn : cameAt (F.take k) id = none) (hy : F[k].1 = id) : restTo F id (k + 1) = restTo F id k ∧ nTo F id (k + 1) = F[k].2 := by
  have h1 := came_succ F id k hk
  rw [hn, if_pos hy] at h1
  have h1 : cameAt (F.take (k + 1)) id = some k := h1
  unfold restTo nTo
  rw [h1, hn]
  refine ⟨?_, ?_⟩
  · show (F.take (k + 1)).eraseIdx k = F.take k
    rw [List.eraseIdx_eq_take_drop_succ, List.take_take, Nat.min_eq_left (Nat.le_succ k), List.drop_of_length_le (by rw [List.length_take]; omega), List.append_nil]
  · show (F.getD k (0, 0)).2 = _
    rw [List.getD_eq_getElem?_getD, List.getElem?_eq_getElem hk]; rfl
theorem rest_more (F : List (Int × Int)) (id : Int) (k : Nat) (hk : k < F.length) (h : ¬ (cameAt (F.take k) id = none ∧ F[k].1 = id)) : restTo F id (k + 1) = restTo F id k ++ [F[k]] ∧ nTo F id (k + 1) = nTo F id k := by
  have h1 := came_succ F id k hk
  cases hc : cameAt (F.take k) id with
  | none =>
    have hy : ¬ F[k].1 = id := fun e => h ⟨hc, e⟩
    rw [hc, if_neg hy] at h1
    have h1 : cameAt (F.take (k + 1)) id = none := h1
    unfold restTo nTo
    rw [h1, hc]
    exact ⟨List.take_succ_eq_append_getElem hk, rfl⟩
  | some j =>
    rw [hc] at h1
    have h1 : cameAt (F.take (k + 1)) id = some j := h1
    have hj := came_lt hc
    unfold restTo nTo
    rw [h1, hc]
    refine ⟨?_, rfl⟩
    show (F.take (k + 1)).eraseIdx j = (F.take k).eraseIdx j ++ [F[k]]
    rw [List.take_succ_eq_append_getElem hk, List.eraseIdx_append_of_lt_length hj]
theorem rest_len (F : List (Int × Int)) (id : Int) (k : Nat) : (restTo F id k).length ≤ F.length := by
  unfold restTo
  split
  · rw [List.length_take]; omega
  · rw [List.length_eraseIdx]; split <;> rw [List.length_take] <;> omega

def RCamePost (w : World) (base b : Nat) (r : RfV) (id how : Int) (e : Ending) (w' : World) : Prop :=
  e = .returned (.bool (cameB r.F id how)) ∧ ∃ kv wv, RefAt w' base b { r with kv := kv, K := cameK r.K r.F id how, wv := wv, F := cameF r.F id how } ∧ Mv w w' (fun i => i = b) ∧ (kv.ownBlock = r.kv.ownBlock)

theorem rdF_at {w : World} {base : Nat} {e : TypeId} {v : Value} {l : List (Int × Int)} (h : w.ownsRow base e 2 v l.length (flCells l)) {A : Option Addr} {c : Nat} (hv : v = .slice A l.length c) (k : Nat) (hk : k < l.length) :
    ∃ ad, A = some ad ∧ w.cell? (ad.add (k * 2)) = some (.int .i64 l[k].1) ∧ w.cell? ⟨(ad.add (k * 2)).block, (ad.add (k * 2)).off + 1, none⟩ = some (.int .i64 l[k].2) := by
  subst hv
  rcases (Rd.own h).2 with ⟨_, h0⟩ | ⟨ad, c', h1, h2⟩
  · omega
  · injection h1 with h1
    obtain ⟨q1, q2⟩ := flCells_get l k hk
    have d2 := h2 _ _ q2
    rw [← add_add_] at d2
    refine ⟨ad, h1, h2 _ _ q1, ?_⟩
    rw [← d2]; unfold Addr.add; simp
theorem rest_below {w1 wr wa w5 : World} {n : Nat} {e : TypeId} {z m : Nat} {rest : Value} {xs : List Value} (hb : Below w1.heap.size w1 wr) (hba : Below wr.heap.size wr wa) (hg : (wa.drewN n).grownBy w5 rest.ownBlock) (hr : wr.ownsRow w1.heap.size e z rest m xs) : Below w1.heap.size w1 w5 := by
  have hx : Mv wa w5 (fun i => rest.ownBlock = some i) := ⟨hg.os, hg.tape, hg.output, hg.size, fun i hi hn => hg.block i hi (fun e => hn e.symm)⟩
  exact (below_trans hb hba).trans (hx.below (Nat.le_trans hb.size hba.size) (fun i hi => (own_lt hr hi).2))
set_option maxRecDepth 100000 in
set_option maxHeartbeats 2000000 in
theorem rf_came (w : World) (base b : Nat) (r : RfV) (h : RefAt w base b r) (hF : r.F.length ≤ 1000) (hK : r.K.length ≤ 1000) (hf : ∀ x ∈ r.F, 0 ≤ x.2 ∧ x.2 ≤ r.K.length) (id how : Int) :
    Calls Try.prog 19 #[.pointer (some ⟨b, 0, none⟩), .agg #[.int .i64 id, .int .i64 how]] w fun e w' => RCamePost w base b r id how e w' := by
  obtain ⟨B, bp, hwp, hbp, _⟩ := own_form h.f (by decide)
  obtain ⟨i0, hi, hz0, hz1, hz2⟩ := info_parts rf_info
  obtain ⟨w1, hw1⟩ : ∃ w1, w.alloc (.cells #[.int .i64 id, .int .i64 how] 54) = w1 := ⟨_, rfl⟩
  have hb1 : Below w.heap.size w w1 := by rw [← hw1]; exact (Below.refl _ _).alloc (Nat.le_refl _) _
  have hs1 : w1.heap.size = w.heap.size + 1 := by rw [← hw1]; simp
  have HX1 := Lib.hid (show Blk w1 w.heap.size #[.int .i64 id, .int .i64 how] 54 from by rw [← hw1]; exact Blk.alloc _ _ _)
  have HR1 := Lib.hid (h.below hb1)
  have HB1 := Lib.hid hb1
  have HF := Lib.hid hf
  have HWP := Lib.hid hwp
  have HS1 := Lib.hid hs1
  clear h hb1 hf hwp hs1
  go_enter Try.func19, Try.ntmps19
  go_wp2
  go_loopw [5, 6, 7] (fun rest n i wr => ∃ k : Nat, k ≤ r.F.length ∧ i = .int .i64 k ∧ n = .int .i64 (nTo r.F id k) ∧ wr.ownsRow w1.heap.size 76 2 rest (restTo r.F id k).length (flCells (restTo r.F id k)) ∧ Below w1.heap.size w1 wr) (fun _ _ i _ => r.F.length - (intOf i).toNat)
  case atStart => exact ⟨0, by omega, rfl, rfl, World.ownsRow_nil _ _ _ _, Below.refl _ _⟩
  case round =>
    obtain ⟨k, hk, rfl, rfl, hrow, hb⟩ := hrel
    have HROW := Lib.hid hrow
    have HB := Lib.hid hb
    have hr := HR1.out.below hb
    have c1 : wr.cell? ⟨b, 1, none⟩ = some (.slice B r.F.length bp) := by rw [← HWP.out]; exact hr.box.cell (i := 1) rfl
    have hx := HX1.out.below hb HX1.out.lt
    have e0 := hx.cell (i := 0) rfl
    have HR := Lib.hid hr
    have HX := Lib.hid hx
    clear hrow hb hr hx
    by_cases hlt : k < r.F.length
    · obtain ⟨ad, rfl, d1, d2⟩ := rdF_at HR.out.f HWP.out k hlt
      have hy0 := HF.out _ (List.getElem_mem hlt)
      have hfound := rest_found r.F id k hlt
      have hmore := rest_more r.F id k hlt
      obtain ⟨y, hy⟩ : ∃ y, r.F[k] = y := ⟨_, rfl⟩
      rw [hy] at d1 d2 hy0 hfound hmore
      obtain ⟨y1, y2⟩ := y
      by_cases hcase : cameAt (r.F.take k) id = none ∧ y1 = id
      · obtain ⟨q1, q2⟩ := hfound hcase.1 hcase.2
        have hnt : nTo r.F id k = -1 := by unfold nTo; rw [hcase.1]
        have hyb : (y1 == id) = true := by rw [beq_iff_eq]; exact hcase.2
        rw [hnt]
        have HQ := Lib.hid (And.intro q1 q2)
        clear hfound hmore hy hcase q1 q2 hnt
        go_wp2
        go_quiet (fail)
        go_wp2
        go_roundw
        case rel => exact ⟨k + 1, by omega, by go_num, by rw [HQ.out.2], by rw [HQ.out.1]; exact HROW.out, below_trans HB.out (by exact ⟨rfl, rfl, rfl, Nat.le_refl _, fun _ _ => rfl⟩)⟩
        case measure => simp [intOf]; omega
      · obtain ⟨q1, q2⟩ := hmore hcase
        have hN : ¬ cameAt (r.F.take k) id = none → 0 ≤ nTo r.F id k := fun hne => by
          unfold nTo
          cases hc : cameAt (r.F.take k) id with
          | none => exact absurd hc hne
          | some j =>
            have hj := came_lt hc
            rw [List.length_take] at hj
            show 0 ≤ (r.F.getD j (0, 0)).2
            rw [List.getD_eq_getElem?_getD, List.getElem?_eq_getElem (show j < r.F.length by omega)]
            exact (HF.out _ (List.getElem_mem (show j < r.F.length by omega))).1
        have HQ := Lib.hid (And.intro q1 q2)
        have HCS := Lib.hid hcase
        have hrl := rest_len r.F id k
        have HNW := Lib.hid (show Rd (wr.alloc (.cells #[.int .i64 y1, .int .i64 y2] 76)) 2 (.slice (some ⟨wr.heap.size, 0, none⟩) 1 1) 1 [.int .i64 y1, .int .i64 y2] from rd_blk (cs := #[.int .i64 y1, .int .i64 y2]) (Blk.alloc _ _ _) rfl)
        have hba : Below wr.heap.size wr (wr.alloc (.cells #[.int .i64 y1, .int .i64 y2] 76)) := (Below.refl _ _).alloc (Nat.le_refl _) _
        have HBA := Lib.hid hba
        have HRA := Lib.hid (own_mv HROW.out (Mv.of_below hba (fun _ => False)) (fun _ _ x => x))
        have HSA := Lib.hid (show w1.heap.size ≤ (wr.alloc (.cells #[.int .i64 y1, .int .i64 y2] 76)).heap.size from Nat.le_trans HB.out.size hba.size)
        clear hfound hmore hy hcase q1 q2 hba
        by_cases hyid : y1 = id
        · have hyb : (y1 == id) = true := by rw [beq_iff_eq]; exact hyid
          have hN0 := hN (fun e => HCS.out ⟨e, hyid⟩)
          obtain ⟨N, hNN⟩ : ∃ N, nTo r.F id k = N := ⟨_, rfl⟩
          rw [hNN] at hN0 ⊢
          have HNN := Lib.hid hNN
          have hnn : ¬ N < 0 := by omega
          clear hyid hN hNN
          go_wp2
          go_quiet (fail)
          go_wp2_with (at_builtin; refine wpList_append_rd rfl (.tmp 41) (.tmp 49) _ rfl w1.heap.size 76 i0 (.agg #[.int .i64 0, .int .i64 0]) 2 16 Try.underlying50 hi hz0 hz1 hz2 rfl (by decide) _ _ _ rfl (by exact HRA.out) _ 1 [.int .i64 y1, .int .i64 y2] rfl (by exact HNW.out) (by simp [Value.oneCell']) (by unfold maxLen; omega) (by omega) (by exact HSA.out) ?_
                       intro v5 w5 hown5 hgrow5 hat5
                       have HO5 := Lib.hid hown5
                       have HG5 := Lib.hid hgrow5
                       clear hown5 hgrow5 hat5)
          go_roundw
          case rel => exact ⟨k + 1, by omega, by go_num, by rw [HQ.out.2, HNN.out], by rw [HQ.out.1, List.length_append, flCells_app]; exact HO5.out, rest_below HB.out HBA.out HG5.out HROW.out⟩
          case measure => simp [intOf]; omega
        · have hyb : (y1 == id) = false := by rw [beq_eq_false_iff_ne]; exact hyid
          clear hyid hN
          go_wp2
          go_quiet (fail)
          go_wp2_with (at_builtin; refine wpList_append_rd rfl (.tmp 41) (.tmp 49) _ rfl w1.heap.size 76 i0 (.agg #[.int .i64 0, .int .i64 0]) 2 16 Try.underlying50 hi hz0 hz1 hz2 rfl (by decide) _ _ _ rfl (by exact HRA.out) _ 1 [.int .i64 y1, .int .i64 y2] rfl (by exact HNW.out) (by simp [Value.oneCell']) (by unfold maxLen; omega) (by omega) (by exact HSA.out) ?_
                       intro v5 w5 hown5 hgrow5 hat5
                       have HO5 := Lib.hid hown5
                       have HG5 := Lib.hid hgrow5
                       clear hown5 hgrow5 hat5)
          go_roundw
          case rel => exact ⟨k + 1, by omega, by go_num, by rw [HQ.out.2], by rw [HQ.out.1, List.length_append, flCells_app]; exact HO5.out, rest_below HB.out HBA.out HG5.out HROW.out⟩
          case measure => simp [intOf]; omega
    · obtain rfl : k = r.F.length := by omega
      have hre : restTo r.F id r.F.length = match cameAt r.F id with | none => r.F | some j => r.F.eraseIdx j := by unfold restTo; rw [List.take_length]
      have hnt : nTo r.F id r.F.length = match cameAt r.F id with | none => -1 | some j => (r.F.getD j (0, 0)).2 := by unfold nTo; rw [List.take_length]
      cases hc : cameAt r.F id with
      | none =>
        rw [hc] at hre hnt
        rw [show nTo r.F id r.F.length = -1 from hnt]
        have HC := Lib.hid hc
        clear hre hnt hc hlt hk
        go_wp2
        go_ret
        have hc := HC.out
        refine ⟨by unfold cameB; rw [hc]; rfl, r.kv, r.wv, ?_, Mv.of_below (below_trans HB1.out HB.out) _, rfl⟩
        unfold cameK cameF
        rw [hc]
        exact HR.out
      | some j =>
        rw [hc] at hre hnt
        have hj := came_lt hc
        have hy := HF.out _ (List.getElem_mem hj)
        have hgd : r.F.getD j (0, 0) = r.F[j] := by rw [List.getD_eq_getElem?_getD, List.getElem?_eq_getElem hj]; rfl
        have hnt : nTo r.F id r.F.length = (r.F.getD j (0, 0)).2 := hnt
        rw [hgd] at hnt
        obtain ⟨n, hn⟩ := Int.eq_ofNat_of_zero_le hy.1
        rw [hn] at hnt hy
        have hre : restTo r.F id r.F.length = r.F.eraseIdx j := hre
        have hrow2 : wr.ownsRow w1.heap.size 76 2 u5 (r.F.eraseIdx j).length (flCells (r.F.eraseIdx j)) := by rw [← hre]; exact HROW.out
        obtain ⟨RA, rc, hrv, hrc, _⟩ := own_form hrow2 (by decide)
        have hlr : (r.F.eraseIdx j).length ≤ 1000 := by rw [List.length_eraseIdx, if_pos hj]; omega
        subst hrv
        have HGE := Lib.hid (show ∀ i, (Value.slice RA (r.F.eraseIdx j).length rc).ownBlock = some i → w1.heap.size ≤ i from fun i hi => (own_lt hrow2 hi).2)
        rw [hnt]
        have HC := Lib.hid hc
        have HN := Lib.hid (show (r.F.getD j (0, 0)).2.toNat = n from by rw [hgd, hn]; rfl)
        have hnn : ¬ (n : Int) < 0 := by omega
        have hnk : n ≤ r.K.length := by omega
        have hf1 := HR.out.box.free 1
        have hbne : b ≠ w.heap.size := fun e => blk_ne HR.out.box HX.out (by decide) e
        obtain ⟨w2, hw2⟩ : ∃ w2, wr.setCell ⟨b, 1, none⟩ (.slice RA (r.F.eraseIdx j).length rc) = w2 := ⟨_, rfl⟩
        have hm2 : Mv wr w2 (fun i => i = b) := by rw [← hw2]; exact Mv.of_set _ _ _ _ rfl
        have hx2 := HX.out.mv hm2 (fun e => hbne e.symm)
        have x1 := hx2.cell (i := 1) rfl
        have hrow3 := own_mv hrow2 hm2 (fun i hi e => own_type hrow2 HR.out.box (by decide) (by rw [← e]; exact hi))
        have hbw : base ≤ w1.heap.size := by have := HR1.out.hb; have := HR1.out.box.lt; omega
        have HR2 := Lib.hid (show RefAt w2 base b ⟨r.kv, r.K, .slice RA (r.F.eraseIdx j).length rc, r.F.eraseIdx j⟩ from
          ⟨by rw [← hw2]; exact HR.out.box.set 1 _, HR.out.k.mv hm2 (HR.out.kv_ne HR.out.box (by decide)), HR.out.kl, fun q hq => ⟨(HR.out.kb q hq).1, by obtain ⟨cs, hx⟩ := (HR.out.kb q hq).2; exact ⟨cs, hx.mv hm2 (HR.out.kv_ne HR.out.box (by decide) q hq)⟩⟩, own_in hrow3 hbw, HR.out.hb⟩)
        have HM2 := Lib.hid (show Mv w w2 (fun i => i = b) from ((Mv.of_below HB1.out _).trans (Mv.of_below HB.out (fun i => i = b)) (fun _ _ x => x)).trans hm2 (fun _ _ x => x))
        clear hm2 hx2 hrow3 hrow2 hre hnt hgd hc hy hn hlt hk
        by_cases hh : how = 2
        · have hhb : (how != 2) = false := by rw [bne_eq_false_iff_eq]; exact hh
          have HH := Lib.hid hh
          obtain ⟨KA, kc, hkv, hkc, hka⟩ := HR2.out.kl
          have hkv : r.kv = .slice KA r.K.length kc := hkv
          have hkc : r.K.length ≤ kc := hkc
          have k0 : w2.cell? ⟨b, 0, none⟩ = some (.slice KA r.K.length kc) := by rw [← hkv]; exact HR2.out.box.cell (i := 0) rfl
          have kf0 := HR2.out.box.free 0
          obtain ⟨i1, hi1, _, hz11, _⟩ := info_parts sec_info
          have hsl := fun W => run_slice_from (P := Try.prog) W 29 _ i1 2 Try.underlying29 hi1 hz11 KA r.K.length kc n hnk
          obtain ⟨KB, hKB⟩ : ∃ KB, (if kc = n then KA else KA.map (·.add (n * 2))) = KB := ⟨_, rfl⟩
          simp only [hKB] at hsl
          have hkr : RdS w2 (.slice KA r.K.length kc) r.K := by rw [← hkv]; exact HR2.out.k
          have hkr2 : RdS w2 (.slice KB (r.K.length - n) (kc - n)) (r.K.drop n) := by
            have := Rd.from hkr hnk hkc
            rw [hKB, secCells_drop] at this
            unfold RdS
            rw [List.length_drop]
            exact this
          have hkb2 : (Value.slice KB (r.K.length - n) (kc - n)).ownBlock = r.kv.ownBlock := by
            rw [hkv, ← hKB]
            cases KA with
            | none => simp [Value.ownBlock]
            | some a => by_cases hx : kc = n
                        · rw [if_pos hx]; rfl
                        · rw [if_neg hx]; show some ((a.add (n * 2)).block) = some a.block; rw [add_block]
          have hka2 : KB = none → kc - n = 0 := fun e => by
            cases KA with
            | none => have := hka rfl; omega
            | some a => rw [← hKB] at e; by_cases hx : kc = n
                        · omega
                        · rw [if_neg hx] at e; cases e
          obtain ⟨w3, hw3⟩ : ∃ w3, w2.setCell ⟨b, 0, none⟩ (.slice KB (r.K.length - n) (kc - n)) = w3 := ⟨_, rfl⟩
          have hm3 : Mv w2 w3 (fun i => i = b) := by rw [← hw3]; exact Mv.of_set _ _ _ _ rfl
          have HR3 := Lib.hid (show RefAt w3 base b ⟨.slice KB (r.K.length - n) (kc - n), r.K.drop n, .slice RA (r.F.eraseIdx j).length rc, r.F.eraseIdx j⟩ from
            ⟨by rw [← hw3]; exact HR2.out.box.set 0 _, hkr2.mv hm3 (fun i hi => HR2.out.kv_ne HR2.out.box (by decide) i (by rw [← hkb2]; exact hi)), ⟨_, _, by rw [List.length_drop], by rw [List.length_drop]; omega, hka2⟩, fun q hq => ⟨(HR2.out.kb q (by rw [← hkb2]; exact hq)).1, by obtain ⟨cs, hx⟩ := (HR2.out.kb q (by rw [← hkb2]; exact hq)).2; exact ⟨cs, hx.mv hm3 (HR2.out.kv_ne HR2.out.box (by decide) q (by rw [← hkb2]; exact hq))⟩⟩, own_mv HR2.out.f hm3 (fun i hi e => HR2.out.wv_ne HR2.out.box (by decide) i hi e), HR2.out.hb⟩)
          have HM3 := Lib.hid (HM2.out.trans hm3 (fun _ _ x => x))
          have HKB := Lib.hid hkb2
          clear hkr hkr2 hkb2 hka2 hm3 hh hkv hka hKB hi1 hz11
          go_wp2
          obtain ⟨F2, hF2⟩ : ∃ F2, r.F.eraseIdx j = F2 := ⟨_, rfl⟩
          rw [hF2] at HR3
          have hf2 : ∀ x ∈ F2, 0 ≤ x.2 ∧ x.2 ≤ r.K.length := fun x hx => by rw [← hF2] at hx; exact HF.out x (List.mem_of_mem_eraseIdx hx)
          have HF2 := Lib.hid hf2
          have HFF := Lib.hid hF2
          rw [hF2] at hlr HGE
          rw [hF2]
          clear hF2 hf2
          obtain ⟨wv, hwv⟩ : ∃ wv, Value.slice RA F2.length rc = wv := ⟨_, rfl⟩
          have HWV := Lib.hid hwv
          clear hwv
          go_loopw [8] (fun i wr => ∃ k : Nat, k ≤ F2.length ∧ i = .int .i64 k ∧ Blk wr b #[.slice KB (r.K.length - n) (kc - n), .slice RA F2.length rc] 52 ∧ wr.ownsRow base 76 2 wv F2.length (flCells (lessTo n F2 k)) ∧ Mv w3 wr (fun i => wv.ownBlock = some i)) (fun i _ => F2.length - (intOf i).toNat)
          case atStart => exact ⟨0, by omega, rfl, HR3.out.box, by rw [← HWV.out]; exact HR3.out.f, Mv.refl _ _⟩
          case round =>
            obtain ⟨k, hk, rfl, hbx, hrow, hmv⟩ := hrel
            have HBX := Lib.hid hbx
            have HRW := Lib.hid hrow
            have HMV := Lib.hid hmv
            have g4 := hbx.cell (i := 1) rfl
            clear hbx hrow hmv
            by_cases hlt : k < F2.length
            · have hg := lessTo_get n F2 k hlt
              have hx := HF2.out _ (List.getElem_mem hlt)
              have HST := Lib.hid (lessTo_succ n F2 k hlt)
              have hc12 := flCells_get (lessTo n F2 k) k (by rw [lessTo_len]; exact hlt)
              rw [hg] at hc12
              have HSET := Lib.hid (flCells_set (lessTo n F2 k) k (by rw [lessTo_len]; exact hlt) (max (F2[k].2 - n) 0))
              rw [hg] at HSET
              obtain ⟨y, hy⟩ : ∃ y, F2[k] = y := ⟨_, rfl⟩
              rw [hy] at hx hc12 HST HSET
              obtain ⟨g, cap, hgv, _⟩ := World.ownsRow.form HRW.out (by omega)
              have hgv2 := hgv
              rw [← HWV.out] at hgv2
              injection hgv2 with hB hb1 hb2
              obtain ⟨ad, had⟩ : ∃ ad : Addr, (⟨g, 0, none⟩ : Addr) = ad := ⟨_, rfl⟩
              rw [had] at hB
              subst hB
              have hadd : ∀ m : Nat, (⟨g, 0, none⟩ : Addr).add m = ⟨g, m, none⟩ := fun m => by unfold Addr.add; split <;> simp_all
              have hsp : (⟨(ad.add (k * 2)).block, (ad.add (k * 2)).off + 1, none⟩ : Addr) = ⟨g, k * 2 + 1, none⟩ := by rw [← had, hadd]
              have hcells : wr.cell? ⟨(ad.add (k * 2)).block, (ad.add (k * 2)).off + 1, none⟩ = some (.int .i64 y.2) := by
                rw [hsp, ← hadd]
                exact (World.ownsRow.cells HRW.out (g := g) (by rw [hgv]; rfl)) (k * 2 + 1) _ hc12.2
              have hrow2 : wr.ownsRow base 76 2 (.slice (some ⟨g, 0, none⟩) F2.length cap) F2.length (flCells (lessTo n F2 k)) := by rw [← hgv]; exact HRW.out
              have hfz : wr.frozen? ⟨(ad.add (k * 2)).block, (ad.add (k * 2)).off + 1, none⟩ = false := by rw [hsp]; exact World.ownsRow.frozenAt hrow2 _
              have hw5 : IntKind.i64.wrap (y.2 - (n : Int)) = y.2 - n := IntWalk.i64_in _ ⟨by omega, by omega⟩
              have HSP := Lib.hid hsp
              have HR2' := Lib.hid hrow2
              have HGV := Lib.hid hgv
              clear had hy hgv hg hc12 hb1 hb2 hsp hrow2 hadd
              go_wp2
              go_still_tail 18, (by kernel_rfl)
              change wpList _ _ _ _ _ wr.drew
              go_wp2
              go_roundw
              case rel =>
                rw [HSP.out, show (if y.2 - (n : Int) < 0 then 0 else y.2 - (n : Int)) = max (y.2 - n) 0 from by split <;> omega]
                obtain ⟨q1, q2⟩ := World.ownsRow.stored HR2'.out (k * 2 + 1) (.int .i64 (max (y.2 - n) 0))
                have q3 : Mv wr (wr.setCell ⟨g, k * 2 + 1, none⟩ (.int .i64 (max (y.2 - n) 0))).drew (fun i => wv.ownBlock = some i) := (Mv.of_grown q2 (fun i e => by rw [HGV.out]; exact e)).drewN 1
                refine ⟨k + 1, by omega, by go_num, HBX.out.mv q3 (fun e => own_type HRW.out HBX.out (by decide) e), ?_, HMV.out.trans q3 (fun _ _ x => x)⟩
                rw [HSET.out, HST.out, ← HGV.out] at q1
                exact q1
              case measure => simp [intOf]; omega
            · obtain rfl : k = F2.length := by omega
              go_wp2
              go_ret
              have hc := HC.out
              have hh := HH.out
              have hrow := HRW.out
              rw [lessTo_all] at hrow
              have hr3 := HR3.out
              refine ⟨by unfold cameB; rw [hc, decide_eq_true hh]; rfl, .slice KB (r.K.length - n) (kc - n), wv, ?_, HM3.out.trans HMV.out (fun i hi e => ?_), HKB.out⟩
              · unfold cameK cameF
                rw [hc]
                simp only [if_pos hh, HN.out, HFF.out]
                have hne : ∀ i, (Value.slice KB (r.K.length - n) (kc - n)).ownBlock = some i → ¬ wv.ownBlock = some i := fun i hi e => by
                  obtain ⟨cs, hx⟩ := (hr3.kb i hi).2
                  exact own_type (show w3.ownsRow base 76 2 wv _ _ from by rw [← HWV.out]; exact hr3.f) hx (by decide) e
                refine ⟨by rw [← HWV.out]; exact HBX.out, hr3.k.mv HMV.out hne, hr3.kl, fun q hq => ⟨(hr3.kb q hq).1, by obtain ⟨cs, hx⟩ := (hr3.kb q hq).2; exact ⟨cs, hx.mv HMV.out (hne q hq)⟩⟩, ?_, hr3.hb⟩
                show wr.ownsRow base _ 2 wv (F2.map (less n)).length (flCells (F2.map (less n)))
                rw [List.length_map]; exact hrow
              · have := HGE.out i (by rw [HWV.out]; exact e); have := HS1.out; omega
        · have hhb : (how != 2) = true := by rw [bne_iff_ne]; exact hh
          have HH := Lib.hid hh
          clear hh
          go_wp2
          go_ret
          have hc := HC.out
          have hh := HH.out
          refine ⟨by unfold cameB; rw [hc, decide_eq_false hh]; rfl, r.kv, .slice RA (r.F.eraseIdx j).length rc, ?_, HM2.out, rfl⟩
          unfold cameK cameF
          rw [hc]
          simp only [if_neg hh]
          exact HR2.out
end Go.Proofs.Ytdnkbnpjbcalaaa
