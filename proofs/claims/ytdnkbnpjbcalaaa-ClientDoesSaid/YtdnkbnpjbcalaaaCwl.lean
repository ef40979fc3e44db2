/- A client of tapes: Flush. -/
import Derived.Test.YtdnkbnpjbcalaaaCwk
namespace Go.Proofs.Ytdnkbnpjbcalaaa
open Go.RowKit

def flK (T : TpV) (K : List Sec) : List Sec := if T.err = 0 ∧ T.ev.2 = 2 then [] else K
def flF (T : TpV) (K : List Sec) (F : List (Int × Int)) : List (Int × Int) := if T.err = 0 then (if T.ev.2 = 2 then [] else if T.ev.2 = 1 then F else F ++ [(T.ev.1, (K.length : Int))]) else F
def CFlushPost (w : World) (base c : Nat) (s0 s1 : Option Nat) (v : ClV) (t : Nat) (T : TpV) (e : Ending) (w' : World) : Prop :=
  e = .returned (.tuple #[.bool (decide (T.err = 0 ∧ T.ev.2 = 2)), .int .i64 T.err]) ∧ ∃ kv wv, ClAt w' base c s0 s1 { v with kept := kv, K := flK T v.K, waits := wv, F := flF T v.K v.F } ∧ TapeAt w' base t T.next ∧
    Mv w w' (ClS c t v) ∧ (kv.ownBlock = v.kept.ownBlock ∨ ∃ j, kv.ownBlock = some j ∧ w.heap.size ≤ j)

theorem flush_more {w w3 w5 : World} {base c : Nat} {s0 s1 : Option Nat} {v : ClV} {t : Nat} {T : TpV} (he : T.err = 0) (h2 : ¬ T.ev.2 = 2) (h1 : ¬ T.ev.2 = 1) (hc3 : ClAt w3 base c s0 s1 v) (ht3 : TapeAt w3 base t T.next) (hne : c ≠ t)
    (hm3 : Mv w w3 (· = t)) {g5 c5 : Nat} (hx5 : ClBox w5 c (srv s0) (srv s1) v.at_ v.kept v.waits) (hm5 : Mv w3 w5 (fun i => v.waits.ownBlock = some i))
    (ho5 : w5.ownsRow base 74 2 (.slice (some ⟨g5, 0, none⟩) (v.F.length + 1) c5) (v.F.length + 1) (flCells v.F ++ [.int .i64 T.ev.1, .int .i64 (v.K.length : Int)])) :
    CFlushPost w base c s0 s1 v t T (.returned (.tuple #[.bool false, .int .i64 0])) (w5.setCell ⟨c, 4, none⟩ (.slice (some ⟨g5, 0, none⟩) (v.F.length + 1) c5)) := by
  have g := Mv.of_set w5 c 4 (.slice (some ⟨g5, 0, none⟩) (v.F.length + 1) c5) (S := (· = c)) rfl
  have hk0 : flK T v.K = v.K := by unfold flK; rw [if_neg (fun x => h2 x.2)]
  have hf0 : flF T v.K v.F = v.F ++ [(T.ev.1, (v.K.length : Int))] := by unfold flF; rw [if_pos he, if_neg h2, if_neg h1]
  have ho : OwnFl w5 base (.slice (some ⟨g5, 0, none⟩) (v.F.length + 1) c5) (v.F ++ [(T.ev.1, (v.K.length : Int))]) := by
    unfold OwnFl
    rw [List.length_append, flCells_app]
    exact ho5
  have hk5 := own_mv hc3.k hm5 (fun i hi e => own_apart hc3.f hc3.k (by decide) e hi)
  have ht5 : TapeAt w5 base t T.next := ht3.mv hm5 (fun i hi => (own_lt hc3.f hi).2) (own_type hc3.f ht3.box (by decide)) (fun i hi e => own_apart hc3.f ht3.own (by decide) e hi)
  refine ⟨by rw [decide_eq_false (fun x => h2 x.2), he], v.kept, .slice (some ⟨g5, 0, none⟩) (v.F.length + 1) c5, ⟨hx5.set 4 _, ?_, ?_, hc3.hb, hc3.ha⟩, ?_, ?_, .inl rfl⟩
  · rw [hk0]; exact own_mv hk5 g (fun i hi e => own_type hk5 hx5 (by decide) (by rw [← e]; exact hi))
  · rw [hf0]; exact own_mv ho g (fun i hi e => own_type ho hx5 (by decide) (by rw [← e]; exact hi))
  · exact ht5.mv g (fun i e => by rw [e]; exact hc3.hb) (fun e => hne e.symm) (fun i hi e => own_type ht5.own hx5 (by decide) (by rw [← e]; exact hi))
  · exact ((hm3.mono (S' := ClS c t v) (fun i _ e => .inr (.inl e))).trans (hm5.mono (S' := ClS c t v) (fun i _ e => .inr (.inr (.inr e)))) (fun _ _ x => x)).trans (g.mono (S' := ClS c t v) (fun i _ e => .inl e)) (fun _ _ x => x)

set_option maxRecDepth 100000 in
set_option maxHeartbeats 1000000 in
theorem cl_flush (w : World) (base c : Nat) (s0 s1 : Option Nat) (v : ClV) (t : Nat) (T : TpV) (h : ClAt w base c s0 s1 v) (hu : v.used s0 s1 = some t) (hT : TapeAt w base t T) (hap : Apart v.kept T.wrote)
    (hK : v.K.length ≤ 1000) (hF : v.F.length ≤ 900) (hf : ∀ x ∈ v.F, 0 ≤ x.2 ∧ x.2 ≤ v.K.length) (hn : T.n ≤ 100000) (ho : T.ops ≤ 100000) :
    Calls Try.prog 10 #[.pointer (some ⟨c, 0, none⟩)] w fun e w' => CFlushPost w base c s0 s1 v t T e w' := by
  have hmw := method_flush t
  have H := Lib.hid h
  have HT := Lib.hid hT
  have HU := Lib.hid hu
  have HAP := Lib.hid hap
  have HF := Lib.hid hf
  clear h hT hu hap hf
  go_enter Try.func10, Try.ntmps10
  go_wp2_with fail
  refine (cl_server _ c s0 s1 v.at_ v.kept v.waits H.out.box H.out.ha).mono ?_
  rintro e w1 ⟨rfl, hb1⟩
  have hu2 : srv (if v.at_ = 0 then s0 else s1) = .iface 27 (.pointer (some ⟨t, 0, none⟩)) := by
    have := HU.out; unfold ClV.used at this; rw [this]; rfl
  rw [hu2]
  have HB1 := Lib.hid hb1
  have HC1 := Lib.hid (H.out.below hb1)
  have HT1 := Lib.hid (HT.out.below hb1)
  clear hu2 hb1
  go_wp2_with fail
  refine (tp_flush _ base t T HT1.out hn ho).mono ?_
  rintro e w2 ⟨rfl, ht2, hm2⟩
  have hct : c ≠ t := fun e => by
    have h1 := HC1.out.box; have h2 := HT1.out.box; unfold ClBox TpBox Blk at *; rw [e, h2] at h1; simp at h1
  have HNE := Lib.hid hct
  obtain ⟨w3, hw3⟩ : ∃ w3, w2.alloc (.cells #[.int .i64 T.ev.1, .int .i64 T.ev.2] 54) = w3 := ⟨_, rfl⟩
  have hb3 : Below w2.heap.size w2 w3 := by rw [← hw3]; exact (Below.refl _ _).alloc (Nat.le_refl _) _
  have hs3 : w3.heap.size = w2.heap.size + 1 := by rw [← hw3]; simp
  have HM3 := Lib.hid (show Mv w w3 (· = t) from ((Mv.of_below HB1.out _).trans hm2 (fun _ _ x => x)).trans (Mv.of_below hb3 (fun _ => False)) (fun _ _ x => x.elim))
  have HT3 := Lib.hid (ht2.below hb3)
  have HC3 := Lib.hid ((HC1.out.mv hm2 hct (fun i hi e => own_type HC1.out.k HT1.out.box (by decide) (by rw [← e]; exact hi)) (fun i hi e => own_type HC1.out.f HT1.out.box (by decide) (by rw [← e]; exact hi))).below hb3)
  have hx3 : Blk w3 w2.heap.size #[.int .i64 T.ev.1, .int .i64 T.ev.2] 54 := by rw [← hw3]; exact Blk.alloc _ _ _
  have k0 := hx3.cell (i := 0) rfl
  have k1 := hx3.cell (i := 1) rfl
  have HX3 := Lib.hid hx3
  have HS1 := Lib.hid HB1.out.size
  clear ht2 hm2 hb3 hct hx3
  by_cases he : T.err = 0
  · have heb : (T.err != 0) = false := by rw [bne_eq_false_iff_eq]; exact he
    have HEE := Lib.hid he
    clear he
    obtain ⟨A, cp, hkp, hcp, _⟩ := own_form HC3.out.k (by decide)
    have e3 : w3.cell? ⟨c, 3, none⟩ = some (.slice A v.K.length cp) := by rw [← hkp]; exact HC3.out.box.cell (i := 3) rfl
    have HKP := Lib.hid hkp
    clear hkp
    by_cases h2 : T.ev.2 = 2
    · have hhb : (T.ev.2 == 2) = true := by rw [beq_iff_eq]; exact h2
      have H2 := Lib.hid h2
      clear h2
      go_wp2_with fail
      refine (cl_forget _ base c s0 s1 v HC3.out hK (by omega) v.K.length (Nat.le_refl _) (fun x hx => by have := HF.out x hx; omega)).mono ?_
      rintro e w5 ⟨rfl, kv, hc5, hm5, hkv⟩
      have f4 := hc5.box.free 4
      have c4 := hc5.box.cell (i := 4) rfl
      have HC5 := Lib.hid hc5
      have HM5 := Lib.hid hm5
      have HKV := Lib.hid hkv
      clear hc5 hm5 hkv
      go_wp2
      go_ret2
      have h2 := H2.out
      have he := HEE.out
      have g := Mv.of_set w5 c 4 (.slice none 0 0) (S := (· = c)) rfl
      have hc5 := HC5.out
      obtain ⟨q, hq1, hq2⟩ := HKV.out
      have hk0 : flK T v.K = v.K.drop v.K.length := by unfold flK; rw [if_pos ⟨he, h2⟩, List.drop_length]
      have hf0 : flF T v.K v.F = [] := by unfold flF; rw [if_pos he, if_pos h2]
      have ht5 : TapeAt w5 base t T.next := HT3.out.mv HM5.out (fun i hi => by
        rcases hi with e | e
        · rw [e]; exact hc5.hb
        · exact (own_lt HC3.out.f e).2) (fun hi => by
        rcases hi with e | e
        · exact HNE.out e.symm
        · exact own_type HC3.out.f HT3.out.box (by decide) e) (fun i hi e => by
        rcases e with e | e
        · exact own_type HT3.out.own HC3.out.box (by decide) (by rw [← e]; exact hi)
        · exact own_apart HC3.out.f HT3.out.own (by decide) e hi)
      refine ⟨by rw [decide_eq_true ⟨he, h2⟩, he]; rfl, kv, .slice none 0 0, ⟨hc5.box.set 4 _, ?_, ?_, hc5.hb, hc5.ha⟩, ?_, ?_, .inr ⟨q, hq1, ?_⟩⟩
      · rw [hk0]; exact own_mv hc5.k g (fun i hi e => own_type hc5.k hc5.box (by decide) (by rw [← e]; exact hi))
      · rw [hf0]; exact World.ownsRow_nil _ _ _ _
      · exact ht5.mv g (fun i e => by rw [e]; exact hc5.hb) (fun e => HNE.out e.symm) (fun i hi e => own_type ht5.own hc5.box (by decide) (by rw [← e]; exact hi))
      · exact ((HM3.out.mono (S' := ClS c t v) (fun i _ e => .inr (.inl e))).trans (HM5.out.mono (S' := ClS c t v) (fun i _ e => e.elim (fun e => .inl e) (fun e => .inr (.inr (.inr e))))) (fun _ _ x => x)).trans (g.mono (S' := ClS c t v) (fun i _ e => .inl e)) (fun _ _ x => x)
      · have := HM3.out.size; omega
    · have hhb : (T.ev.2 == 2) = false := by rw [beq_eq_false_iff_ne]; exact h2
      have H2 := Lib.hid h2
      clear h2
      by_cases h1 : T.ev.2 = 1
      · have hhb1 : (T.ev.2 == 1) = true := by rw [beq_iff_eq]; exact h1
        have H1 := Lib.hid h1
        clear h1
        go_wp2
        go_ret2
        have h1 := H1.out
        have h2 := H2.out
        have he := HEE.out
        have hk0 : flK T v.K = v.K := by unfold flK; rw [if_neg (fun x => h2 x.2)]
        have hf0 : flF T v.K v.F = v.F := by unfold flF; rw [if_pos he, if_neg h2, if_pos h1]
        refine ⟨by rw [decide_eq_false (fun x => h2 x.2), he]; rfl, v.kept, v.waits, ?_, HT3.out, HM3.out.mono (fun i _ e => .inr (.inl e)), .inl rfl⟩
        rw [hk0, hf0]
        exact HC3.out
      · have hhb1 : (T.ev.2 == 1) = false := by rw [beq_eq_false_iff_ne]; exact h1
        have H1 := Lib.hid h1
        clear h1
        obtain ⟨i0, hi, hz0, hz1, hz2⟩ := info_parts fl_info
        obtain ⟨B, bp, hwp, hbp, _⟩ := own_form HC3.out.f (by decide)
        have e4 : w3.cell? ⟨c, 4, none⟩ = some (.slice B v.F.length bp) := by rw [← hwp]; exact HC3.out.box.cell (i := 4) rfl
        have HWP := Lib.hid hwp
        have hbx : Below w3.heap.size w3 (w3.alloc (.cells #[.int .i64 T.ev.1, .int .i64 (v.K.length : Int)] 74)) := (Below.refl _ _).alloc (Nat.le_refl _) _
        have HBX := Lib.hid hbx
        have HROW := Lib.hid (show (w3.alloc (.cells #[.int .i64 T.ev.1, .int .i64 (v.K.length : Int)] 74)).ownsRow base 74 2 (.slice B v.F.length bp) v.F.length (flCells v.F) from by rw [← hwp]; exact (HC3.out.below hbx).f)
        have HNW := Lib.hid (show Rd (w3.alloc (.cells #[.int .i64 T.ev.1, .int .i64 (v.K.length : Int)] 74)) 2 (.slice (some ⟨w3.heap.size, 0, none⟩) 1 1) 1 [.int .i64 T.ev.1, .int .i64 (v.K.length : Int)] from rd_blk (cs := #[.int .i64 T.ev.1, .int .i64 (v.K.length : Int)]) (Blk.alloc _ _ _) rfl)
        have HBS := Lib.hid (show base ≤ (w3.alloc (.cells #[.int .i64 T.ev.1, .int .i64 (v.K.length : Int)] 74)).heap.size from by have h1 := HC3.out.hb; have h2 := HC3.out.box.lt; have := hbx.size; omega)
        have hl1 : c < w3.heap.size := HC3.out.box.lt
        have hl2 : w2.heap.size < w3.heap.size := by omega
        have HS3 := Lib.hid hs3
        clear hwp hbx hs3
        go_wp2
        first | go_region_law (refine step_append_rd (by rfl) (.tmp 39) (.tmp 48) 65 (by rfl) base 74 i0 (.agg #[.int .i64 0, .int .i64 0]) 2 16 Try.underlying65 hi hz0 hz1 hz2 rfl (by decide) (.slice B v.F.length bp) v.F.length (flCells v.F) (by rfl) (by exact HROW.out) (.slice (some ⟨w3.heap.size, 0, none⟩) 1 1) 1 [.int .i64 T.ev.1, .int .i64 (v.K.length : Int)] (by rfl) (by exact HNW.out) (by simp [Value.oneCell']) (by unfold maxLen; omega) (by omega) (by exact HBS.out) ?_; intro v5 w5 hown5 hgrow5 hat5; obtain ⟨g5, c5, rfl, _⟩ := World.ownsRow.form hown5 (by omega); have hm5 : Mv w3 w5 (fun i => v.waits.ownBlock = some i) := (Mv.of_below HBX.out _).trans (Mv.of_drew (Mv.of_grown hgrow5 (S := fun i => v.waits.ownBlock = some i) (fun i e => by rw [HWP.out]; exact e))) (fun _ _ x => x); have hbx5 := HC3.out.box.mv hm5 (own_type HC3.out.f HC3.out.box (by decide)); have d4 := hbx5.cell (i := 4) rfl; have f4 := hbx5.free 4; have HO5 := Lib.hid hown5; have HM5 := Lib.hid hm5; have HX5 := Lib.hid hbx5; clear hown5 hgrow5 hat5 hm5 hbx5) | fail
        all_goals
          go_wp2
          go_ret2
          exact flush_more HEE.out H2.out H1.out HC3.out HT3.out HNE.out HM3.out HX5.out HM5.out HO5.out
  · have heb : (T.err != 0) = true := by rw [bne_iff_ne]; exact he
    go_wp2
    go_ret2
    have hk0 : flK T v.K = v.K := by unfold flK; rw [if_neg (fun x => he x.1)]
    have hf0 : flF T v.K v.F = v.F := by unfold flF; rw [if_neg he]
    refine ⟨by rw [decide_eq_false (fun x => he x.1)]; rfl, v.kept, v.waits, ?_, HT3.out, HM3.out.mono (fun i _ e => .inr (.inl e)), .inl rfl⟩
    rw [hk0, hf0]
    exact HC3.out
end Go.Proofs.Ytdnkbnpjbcalaaa
