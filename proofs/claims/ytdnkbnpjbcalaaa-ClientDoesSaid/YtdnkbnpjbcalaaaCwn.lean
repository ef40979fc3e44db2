/- A client of tapes: Poll of one event; Read. -/
import Derived.Test.YtdnkbnpjbcalaaaCwm
namespace Go.Proofs.Ytdnkbnpjbcalaaa
open Go.RowKit

def cameAt (F : List (Int × Int)) (id : Int) : Option Nat := F.findIdx? (fun x => x.1 == id)
def cameB (F : List (Int × Int)) (id how : Int) : Bool := (cameAt F id).isSome && decide (how = 2)
def cameK (K : List Sec) (F : List (Int × Int)) (id how : Int) : List Sec := match cameAt F id with
  | none => K
  | some j => if how = 2 then K.drop (F.getD j (0, 0)).2.toNat else K
def cameF (F : List (Int × Int)) (id how : Int) : List (Int × Int) := match cameAt F id with
  | none => F
  | some j => if how = 2 then (F.eraseIdx j).map (less (F.getD j (0, 0)).2.toNat) else F.eraseIdx j
def AnyCamePost (w : World) (base c : Nat) (s0 s1 : Option Nat) (v : ClV) (id how : Int) (e : Ending) (w' : World) : Prop :=
  e = .returned (.bool (cameB v.F id how)) ∧ ∃ kv wv, ClAt w' base c s0 s1 { v with kept := kv, K := cameK v.K v.F id how, waits := wv, F := cameF v.F id how } ∧
    Mv w w' (fun i => i = c) ∧ (kv.ownBlock = v.kept.ownBlock ∨ ∃ j, kv.ownBlock = some j ∧ w.heap.size ≤ j)
theorem cl_come (w : World) (base c : Nat) (s0 s1 : Option Nat) (v : ClV) (h : ClAt w base c s0 s1 v) (hF : v.F.length ≤ 1000) (hK : v.K.length ≤ 1000) (hf : ∀ x ∈ v.F, 0 ≤ x.2 ∧ x.2 ≤ v.K.length) (id how : Int) :
    Calls Try.prog 23 #[.pointer (some ⟨c, 0, none⟩), .agg #[.int .i64 id, .int .i64 how]] w fun e w' => AnyCamePost w base c s0 s1 v id how e w' := by
  cases hc : cameAt v.F id with
  | none =>
    have hno : ∀ x ∈ v.F, x.1 ≠ id := by
      have := List.findIdx?_eq_none_iff.1 hc
      intro x hx
      have := this x hx
      simpa using this
    refine (cl_come_no w base c s0 s1 v h hF id how hno).mono ?_
    rintro e w' ⟨rfl, hb⟩
    refine ⟨by unfold cameB; rw [hc]; rfl, v.kept, v.waits, ?_, Mv.of_below hb _, .inl rfl⟩
    unfold cameK cameF
    rw [hc]
    exact h.below hb
  | some j =>
    obtain ⟨hj, h1, h2⟩ := List.findIdx?_eq_some_iff_getElem.1 hc
    refine (cl_come_yes w base c s0 s1 v h hF hK hf id how j hj (by simpa using h1) (fun i hi => by have := h2 i hi; simpa using this)).mono ?_
    rintro e w' ⟨rfl, kv, wv, hcl, hm, hkv⟩
    refine ⟨by unfold cameB; rw [hc]; rfl, kv, wv, ?_, hm, hkv⟩
    unfold cameK cameF
    rw [hc]
    exact hcl

def PollPost (w : World) (base c : Nat) (s0 s1 : Option Nat) (v : ClV) (t : Nat) (T : TpV) (id how : Int) (e : Ending) (w' : World) : Prop :=
  e = .returned (.bool (cameB v.F id how)) ∧ ∃ kv wv, ClAt w' base c s0 s1 { v with kept := kv, K := cameK v.K v.F id how, waits := wv, F := cameF v.F id how } ∧ TapeAt w' base t { T with come := .slice none 0 0 } ∧
    Mv w w' (fun i => i = c ∨ i = t) ∧ (kv.ownBlock = v.kept.ownBlock ∨ ∃ j, kv.ownBlock = some j ∧ w.heap.size ≤ j)
set_option maxRecDepth 100000 in
set_option maxHeartbeats 1000000 in
theorem cl_poll (w : World) (base c : Nat) (s0 s1 : Option Nat) (v : ClV) (t : Nat) (T : TpV) (h : ClAt w base c s0 s1 v) (hu : v.used s0 s1 = some t) (hT : TapeAt w base t T)
    (hK : v.K.length ≤ 1000) (hF : v.F.length ≤ 1000) (hf : ∀ x ∈ v.F, 0 ≤ x.2 ∧ x.2 ≤ v.K.length) (g : Nat) (id how : Int) (hcm : T.come = .slice (some ⟨g, 0, none⟩) 1 1) (hg : Blk w g #[.int .i64 id, .int .i64 how] 54) :
    Calls Try.prog 18 #[.pointer (some ⟨c, 0, none⟩)] w fun e w' => PollPost w base c s0 s1 v t T id how e w' := by
  have hmw := method_events t
  have H := Lib.hid h
  have HT := Lib.hid hT
  have HU := Lib.hid hu
  have HF := Lib.hid hf
  have HG := Lib.hid hg
  have HCM := Lib.hid hcm
  clear h hT hu hf hg hcm
  go_enter Try.func18, Try.ntmps18
  go_wp2_with fail
  refine (cl_server _ c s0 s1 v.at_ v.kept v.waits H.out.box H.out.ha).mono ?_
  rintro e w1 ⟨rfl, hb1⟩
  have hu2 : srv (if v.at_ = 0 then s0 else s1) = .iface 27 (.pointer (some ⟨t, 0, none⟩)) := by
    have := HU.out; unfold ClV.used at this; rw [this]; rfl
  rw [hu2]
  have HB1 := Lib.hid hb1
  have HC1 := Lib.hid (H.out.below hb1)
  have HT1 := Lib.hid (HT.out.below hb1)
  have HG1 := Lib.hid (HG.out.below hb1 HG.out.lt)
  clear hu2 hb1
  go_wp2_with fail
  refine (tp_events _ base t T HT1.out).mono ?_
  rintro e w2 ⟨rfl, ht2, hm2⟩
  rw [HCM.out]
  have hct : c ≠ t := fun e => by
    have h1 := HC1.out.box; have h2 := HT1.out.box; unfold ClBox TpBox Blk at *; rw [e, h2] at h1; simp at h1
  have hgt : g ≠ t := fun e => by
    have h1 := HG1.out; have h2 := HT1.out.box; unfold TpBox Blk at *; rw [e, h2] at h1; simp at h1
  have HNE := Lib.hid hct
  have HM2 := Lib.hid (show Mv w w2 (· = t) from (Mv.of_below HB1.out _).trans hm2 (fun _ _ x => x))
  have HC2 := Lib.hid (HC1.out.mv hm2 hct (fun i hi e => own_type HC1.out.k HT1.out.box (by decide) (by rw [← e]; exact hi)) (fun i hi e => own_type HC1.out.f HT1.out.box (by decide) (by rw [← e]; exact hi)))
  have HT2 := Lib.hid ht2
  have HG2 := Lib.hid (HG1.out.mv hm2 hgt)
  clear ht2 hm2 hct hgt
  go_wp2
  go_loopw [4, 14] (fun a i wr => (a = .bool false ∧ i = .int .i64 (0 : Nat) ∧ wr = w2) ∨ (i = .int .i64 (1 : Nat) ∧ a = .bool (cameB v.F id how) ∧ ∃ kv wv, ClAt wr base c s0 s1 { v with kept := kv, K := cameK v.K v.F id how, waits := wv, F := cameF v.F id how } ∧ Mv w2 wr (fun i => i = c) ∧ (kv.ownBlock = v.kept.ownBlock ∨ ∃ j, kv.ownBlock = some j ∧ w.heap.size ≤ j))) (fun _ i _ => 1 - (intOf i).toNat)
  case atStart => exact .inl ⟨rfl, rfl, rfl⟩
  case round =>
    rcases hrel with ⟨rfl, rfl, rfl⟩ | ⟨rfl, rfl, kv, wv, hc, hm, hkv⟩
    · have d0 := HG2.out.cell (i := 0) rfl
      have d1 := HG2.out.cell (i := 1) rfl
      obtain ⟨w3, hw3⟩ : ∃ w3, wr.alloc (.cells #[.int .i64 id, .int .i64 how] 54) = w3 := ⟨_, rfl⟩
      have hb3 : Below wr.heap.size wr w3 := by rw [← hw3]; exact (Below.refl _ _).alloc (Nat.le_refl _) _
      have hx3 : Blk w3 wr.heap.size #[.int .i64 id, .int .i64 how] 54 := by rw [← hw3]; exact Blk.alloc _ _ _
      have e0 := hx3.cell (i := 0) rfl
      have e1 := hx3.cell (i := 1) rfl
      have HB3 := Lib.hid hb3
      have HSZ := Lib.hid HM2.out.size
      clear hb3 hx3
      go_wp2_with fail
      refine (cl_come _ base c s0 s1 v (HC2.out.below HB3.out) hF hK HF.out id how).mono ?_
      rintro e w4 ⟨rfl, kv, wv, hc4, hm4, hkv⟩
      have HC4 := Lib.hid hc4
      have HM4 := Lib.hid ((Mv.of_below HB3.out (fun i => i = c)).trans hm4 (fun _ _ x => x))
      have HKV := Lib.hid hkv
      clear hc4 hm4 hkv
      cases hbb : cameB v.F id how with
      | true =>
        have HBB := Lib.hid hbb
        clear hbb
        go_wp2
        go_roundw
        case rel => exact .inr ⟨by go_num, by rw [HBB.out], kv, wv, HC4.out, HM4.out, HKV.out.imp (fun x => x) (fun ⟨j, h1, h2⟩ => ⟨j, h1, by have := HSZ.out; have := HB3.out.size; omega⟩)⟩
        case measure => simp [intOf]
      | false =>
        have HBB := Lib.hid hbb
        clear hbb
        go_wp2
        go_roundw
        case rel => exact .inr ⟨by go_num, by rw [HBB.out], kv, wv, HC4.out, HM4.out, HKV.out.imp (fun x => x) (fun ⟨j, h1, h2⟩ => ⟨j, h1, by have := HSZ.out; have := HB3.out.size; omega⟩)⟩
        case measure => simp [intOf]
    · have HC := Lib.hid hc
      have HM := Lib.hid hm
      have HKV := Lib.hid hkv
      clear hc hm hkv
      go_wp2
      go_ret
      have hbx := HC2.out.box
      refine ⟨rfl, kv, wv, HC.out, HT2.out.mv HM.out (fun i e => by rw [e]; exact HC2.out.hb) (fun e => HNE.out e.symm) (fun i hi e => own_type HT2.out.own hbx (by decide) (by rw [← e]; exact hi)), ?_, HKV.out⟩
      exact (HM2.out.mono (S' := fun i => i = c ∨ i = t) (fun _ _ e => .inr e)).trans (HM.out.mono (S' := fun i => i = c ∨ i = t) (fun _ _ e => .inl e)) (fun _ _ x => x)
end Go.Proofs.Ytdnkbnpjbcalaaa
