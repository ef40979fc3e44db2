/- The document's client: Wrote, Flushed. -/
import Derived.Test.YtdnkbnpjbcalaaaCws
namespace Go.Proofs.Ytdnkbnpjbcalaaa
open Go.RowKit

structure RfV where
  kv : Value
  K : List Sec
  wv : Value
  F : List (Int × Int)
structure RefAt (w : World) (base b : Nat) (r : RfV) : Prop where
  box : Blk w b #[r.kv, r.wv] 52
  k : RdS w r.kv r.K
  kl : ∃ A c, r.kv = .slice A r.K.length c ∧ r.K.length ≤ c ∧ (A = none → c = 0)
  kb : ∀ j, r.kv.ownBlock = some j → base ≤ j ∧ ∃ cs, Blk w j cs 71
  f : w.ownsRow base 76 2 r.wv r.F.length (flCells r.F)
  hb : base ≤ b
theorem blk_ne {w : World} {a b : Nat} {cs ds : Array Value} {s t : TypeId} (h : Blk w a cs s) (h' : Blk w b ds t) (ht : s ≠ t) : a ≠ b := fun e => by
  subst e
  unfold Blk at *
  rw [h] at h'
  simp at h'
  exact ht h'.2
theorem RdS.mv {w w' : World} {v : Value} {l : List Sec} (h : RdS w v l) {S : Nat → Prop} (hm : Mv w w' S) (hs : ∀ i, v.ownBlock = some i → ¬ S i) : RdS w' v l := by
  refine ⟨h.1, ?_⟩
  rcases h.2 with h1 | ⟨ad, c, h1, h2⟩
  · exact .inl h1
  · exact .inr ⟨ad, c, h1, fun j x hx => cell_mv hm (h2 j x hx) (by rw [add_block]; exact hs _ (by rw [h1]; rfl))⟩
theorem RefAt.mv {w w' : World} {base b : Nat} {r : RfV} (h : RefAt w base b r) {S : Nat → Prop} (hm : Mv w w' S) (hb : ¬ S b) (h1 : ∀ i, r.kv.ownBlock = some i → ¬ S i) (h2 : ∀ i, r.wv.ownBlock = some i → ¬ S i) : RefAt w' base b r :=
  ⟨h.box.mv hm hb, h.k.mv hm h1, h.kl, fun j hj => ⟨(h.kb j hj).1, by obtain ⟨cs, hx⟩ := (h.kb j hj).2; exact ⟨cs, hx.mv hm (h1 j hj)⟩⟩, own_mv h.f hm h2, h.hb⟩
theorem RefAt.below {w w' : World} {base b : Nat} {r : RfV} (h : RefAt w base b r) (hm : Below w.heap.size w w') : RefAt w' base b r :=
  h.mv (Mv.of_below hm (fun _ => False)) (fun x => x) (fun _ _ x => x) (fun _ _ x => x)
theorem RefAt.kv_ne {w : World} {base b : Nat} {r : RfV} (h : RefAt w base b r) {g : Nat} {cs : Array Value} {t : TypeId} (hx : Blk w g cs t) (ht : 71 ≠ t) : ∀ i, r.kv.ownBlock = some i → i ≠ g := fun i hi e => by
  obtain ⟨ds, hd⟩ := (h.kb i hi).2
  exact blk_ne hd hx ht e
theorem RefAt.wv_ne {w : World} {base b : Nat} {r : RfV} (h : RefAt w base b r) {g : Nat} {cs : Array Value} {t : TypeId} (hx : Blk w g cs t) (ht : 76 ≠ t) : ∀ i, r.wv.ownBlock = some i → i ≠ g := fun i hi e =>
  own_type h.f hx ht (by rw [← e]; exact hi)
theorem rf_info : (Try.prog.info? 76).map (fun i => (i.zero, i.size, i.bytes)) = some (some (.agg #[.int .i64 0, .int .i64 0]), 2, 16) := by kernel_rfl

def RWrotePost (w : World) (base b : Nat) (r : RfV) (x : Int) (d : ByteArray) (e : Ending) (w' : World) : Prop :=
  e = .returned (.tuple #[]) ∧ ∃ kv, RefAt w' base b { r with kv := kv, K := r.K ++ [⟨x, d⟩] } ∧ Mv w w' (fun i => i = b) ∧ ∃ j, kv.ownBlock = some j ∧ w.heap.size ≤ j
set_option maxRecDepth 100000 in
set_option maxHeartbeats 1000000 in
theorem rf_wrote (w : World) (base b : Nat) (r : RfV) (h : RefAt w base b r) (hl : r.K.length ≤ 1000) (x : Int) (d : ByteArray) :
    Calls Try.prog 16 #[.pointer (some ⟨b, 0, none⟩), .int .i64 x, .string d] w fun e w' => RWrotePost w base b r x d e w' := by
  obtain ⟨i0, hi, hz0, hz1, hz2⟩ := info_parts sec_info
  obtain ⟨w3, hw3⟩ : ∃ w3, w.alloc (.cells #[] 71) = w3 := ⟨_, rfl⟩
  have hb3 : Below w.heap.size w w3 := by rw [← hw3]; exact (Below.refl _ _).alloc (Nat.le_refl _) _
  have h3 := h.below hb3
  have HR3 := Lib.hid (show w3.ownsRow w.heap.size 71 2 (.slice (some ⟨w.heap.size, 0, none⟩) 0 0) 0 [] from own_empty (by rw [← hw3]; exact Blk.alloc _ _ _) (Nat.le_refl _))
  have d3 := h3.box.cell (i := 0) rfl
  have H3 := Lib.hid h3
  have HB3 := Lib.hid hb3
  have HS3 := Lib.hid (show w.heap.size ≤ w3.heap.size from hb3.size)
  have HLN := Lib.hid hl
  have H0 := Lib.hid h
  clear h h3 hb3 hl
  go_enter Try.func16, Try.ntmps16
  go_wp2_with (first
    | (at_builtin; refine wpList_append_rd rfl (.tmp 7) (.tmp 11) _ rfl w.heap.size 71 i0 (.agg #[.int .i64 0, .string ⟨#[]⟩]) 2 24 Try.underlying29 hi hz0 hz1 hz2 rfl (by decide) (.slice (some ⟨w.heap.size, 0, none⟩) 0 0) 0 [] rfl HR3.out r.kv r.K.length (secCells r.K) rfl H3.out.k (secCells_one _) (by have := HLN.out; unfold maxLen; omega) (by have := HLN.out; omega) HS3.out ?_
       intro v4 w4 hown4 hgrow4 hat4
       have HO4 := Lib.hid hown4
       have HG4 := Lib.hid hgrow4
       have HA4 := Lib.hid hat4
       clear hown4 hgrow4 hat4
       obtain ⟨w5, hw5⟩ : ∃ w5, w4.alloc (.cells #[.int .i64 x, .string d] 71) = w5 := ⟨_, rfl⟩
       have HB5 := Lib.hid (show Below w4.heap.size w4 w5 from by rw [← hw5]; exact (Below.refl _ _).alloc (Nat.le_refl _) _)
       have HR5 := Lib.hid (show w5.ownsRow w.heap.size 71 2 v4 (0 + r.K.length) ([] ++ secCells r.K) from own_stays HO4.out ⟨HB5.out.size, fun i hi _ => HB5.out.block i hi⟩ (S := fun _ => False) (fun _ _ x => x))
       have HN5 := Lib.hid (show Rd w5 2 (.slice (some ⟨w4.heap.size, 0, none⟩) 1 1) 1 [.int .i64 x, .string d] from rd_blk (cs := #[.int .i64 x, .string d]) (by rw [← hw5]; exact Blk.alloc _ _ _) rfl))
    | (at_builtin; refine wpList_append_rd rfl (.tmp 12) (.tmp 16) _ rfl w.heap.size 71 i0 (.agg #[.int .i64 0, .string ⟨#[]⟩]) 2 24 Try.underlying29 hi hz0 hz1 hz2 rfl (by decide) v4 (0 + r.K.length) ([] ++ secCells r.K) rfl HR5.out _ 1 [.int .i64 x, .string d] rfl HN5.out (by simp [Value.oneCell']) (by have := HLN.out; unfold maxLen; omega) (by have := HLN.out; omega) (by have := HS3.out; have := HG4.out.size; have := HB5.out.size; omega) ?_
       intro v6 w6 hown6 hgrow6 hat6
       obtain ⟨g6, c6, rfl, hg6⟩ := World.ownsRow.form hown6 (by omega)
       have hfin := two_app HB3.out HG4.out HA4.out HB5.out hgrow6
       have h6 := H0.out.mv hfin (fun x => x) (fun _ _ x => x) (fun _ _ x => x)
       have e0 := h6.box.cell (i := 0) rfl
       have ef := h6.box.free 0
       have H6 := Lib.hid h6
       have HM6 := Lib.hid hfin
       have HO6 := Lib.hid hown6
       clear hfin h6 hown6 hgrow6 hat6))
  go_end0
  have g := Mv.of_set w6 b 0 (.slice (some ⟨g6, 0, none⟩) (r.K.length + 1) c6) (S := (fun i => i = b)) rfl
  have h6 := H6.out
  have hok : OwnSecs w6 w.heap.size (.slice (some ⟨g6, 0, none⟩) (r.K.length + 1) c6) (r.K ++ [⟨x, d⟩]) := by
    have h0 := HO6.out
    rw [List.nil_append, Nat.zero_add] at h0
    unfold OwnSecs
    rw [List.length_append, secCells_app]
    exact h0
  have hbw : base ≤ w.heap.size := by have := H0.out.hb; have := H0.out.box.lt; omega
  have hblk : ∃ cs, Blk w6 g6 cs 71 := by
    rcases hok.2 with ⟨h1, _⟩ | ⟨g, cap, cur, h1, _, h3, _⟩
    · cases h1
    · injection h1 with h1
      injection h1 with h1
      injection h1 with h1
      subst h1
      exact ⟨cur, h3⟩
  obtain ⟨cs6, hx6⟩ := hblk
  have hcap6 : r.K.length + 1 ≤ c6 := by
    obtain ⟨A6, c6', e6, h6c, _⟩ := own_form hok (by decide)
    injection e6 with _ _ e6
    rw [List.length_append] at h6c
    rw [e6]; exact h6c
  have hne : g6 ≠ b := blk_ne hx6 h6.box (by decide)
  refine ⟨rfl, .slice (some ⟨g6, 0, none⟩) (r.K.length + 1) c6, ⟨h6.box.set 0 _, (rdS_own hok).mv g (fun i hi e => ?_), ⟨_, _, by rw [List.length_append]; rfl, by rw [List.length_append]; exact hcap6, fun e => by cases e⟩, fun j hj => ?_, own_mv h6.f g (fun i hi e => h6.wv_ne h6.box (by decide) i hi e), h6.hb⟩, (HM6.out.mono (fun _ _ x => x.elim)).trans g (fun _ _ x => x), g6, rfl, hg6.1⟩
  · have : g6 = i := by simpa [Value.ownBlock] using hi
    exact hne (by rw [this]; exact e)
  · have : g6 = j := by simpa [Value.ownBlock] using hj
    subst this
    exact ⟨by omega, cs6, hx6.mv g hne⟩
end Go.Proofs.Ytdnkbnpjbcalaaa
