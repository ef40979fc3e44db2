/- A client of tapes: what it keeps; Write. -/
import Derived.Test.YtdnkbnpjbcalaaaCwg
namespace Go.Proofs.Ytdnkbnpjbcalaaa
open Go.RowKit

def Apart (u v : Value) : Prop := ∀ j, u.ownBlock = some j → v.ownBlock ≠ some j
def flCells (l : List (Int × Int)) : List Value := l.flatMap fun x => [.int .i64 x.1, .int .i64 x.2]
theorem flCells_len (l : List (Int × Int)) : (flCells l).length = l.length * 2 := by
  unfold flCells
  induction l with
  | nil => rfl
  | cons x l ih => rw [List.flatMap_cons, List.length_append, ih, List.length_cons]; simp; omega
theorem flCells_app (a b : List (Int × Int)) : flCells (a ++ b) = flCells a ++ flCells b := by simp [flCells]
theorem flCells_get : ∀ (l : List (Int × Int)) (k : Nat) (hk : k < l.length), (flCells l)[k * 2]? = some (.int .i64 l[k].1) ∧ (flCells l)[k * 2 + 1]? = some (.int .i64 l[k].2)
  | [], _, h => by simp at h
  | x :: l, 0, _ => ⟨rfl, rfl⟩
  | x :: l, k + 1, h => by
    have ih := flCells_get l k (by simpa using h)
    have e : flCells (x :: l) = .int .i64 x.1 :: .int .i64 x.2 :: flCells l := rfl
    rw [e, show (k + 1) * 2 = k * 2 + 1 + 1 from by omega]
    simpa using ih
theorem flCells_set : ∀ (l : List (Int × Int)) (k : Nat) (hk : k < l.length) (d : Int), (flCells l).set (k * 2 + 1) (.int .i64 d) = flCells (l.set k (l[k].1, d))
  | [], _, h, _ => by simp at h
  | x :: l, 0, _, d => rfl
  | x :: l, k + 1, h, d => by
    have ih := flCells_set l k (by simpa using h) d
    have e : flCells (x :: l) = .int .i64 x.1 :: .int .i64 x.2 :: flCells l := rfl
    rw [e, show (k + 1) * 2 + 1 = k * 2 + 1 + 1 + 1 from by omega]
    simp only [List.set_cons_succ, List.getElem_cons_succ, ih]
    rfl
theorem flCells_one : ∀ (l : List (Int × Int)), ∀ u ∈ flCells l, u.oneCell' = true := by
  intro l u hu
  unfold flCells at hu
  obtain ⟨x, _, hx⟩ := List.mem_flatMap.1 hu
  simp only [List.mem_cons, List.not_mem_nil, or_false] at hx
  rcases hx with rfl | rfl <;> rfl
abbrev OwnFl (w : World) (base : Nat) (v : Value) (l : List (Int × Int)) : Prop := w.ownsRow base 74 2 v l.length (flCells l)
theorem fl_info : (Try.prog.info? 74).map (fun i => (i.zero, i.size, i.bytes)) = some (some (.agg #[.int .i64 0, .int .i64 0]), 2, 16) := by kernel_rfl

theorem own_form {w : World} {base : Nat} {e : TypeId} {size n : Nat} {v : Value} {xs : List Value} (h : w.ownsRow base e size v n xs) (hs : 0 < size) : ∃ A c, v = .slice A n c ∧ n ≤ c ∧ (A = none → n = 0 ∧ c = 0) := by
  rcases h.2 with ⟨h1, h2⟩ | ⟨g, cap, cur, h1, _, _, h4, _⟩
  · have : n = 0 := by
      have := h.1
      rw [h2] at this
      rcases Nat.eq_zero_or_pos n with h0 | h0
      · exact h0
      · have := Nat.mul_pos h0 hs; simp at *; omega
    subst this
    exact ⟨none, 0, h1, Nat.le_refl _, fun _ => ⟨rfl, rfl⟩⟩
  · exact ⟨_, cap, h1, h4, fun x => by cases x⟩
structure ClV where
  at_ : Nat
  kept : Value
  K : List Sec
  waits : Value
  F : List (Int × Int)
structure ClAt (w : World) (base c : Nat) (s0 s1 : Option Nat) (v : ClV) : Prop where
  box : ClBox w c (srv s0) (srv s1) v.at_ v.kept v.waits
  k : OwnSecs w base v.kept v.K
  f : OwnFl w base v.waits v.F
  hb : base ≤ c
  ha : v.at_ ≤ 1
theorem ClAt.mv {w w' : World} {base c : Nat} {s0 s1 : Option Nat} {v : ClV} (h : ClAt w base c s0 s1 v) {S : Nat → Prop} (hk : Mv w w' S) (hc : ¬ S c) (h1 : ∀ i, v.kept.ownBlock = some i → ¬ S i) (h2 : ∀ i, v.waits.ownBlock = some i → ¬ S i) : ClAt w' base c s0 s1 v :=
  ⟨h.box.mv hk hc, own_mv h.k hk h1, own_mv h.f hk h2, h.hb, h.ha⟩
theorem ClAt.below {w w' : World} {base c : Nat} {s0 s1 : Option Nat} {v : ClV} (h : ClAt w base c s0 s1 v) (hk : Below w.heap.size w w') : ClAt w' base c s0 s1 v :=
  h.mv (Mv.of_below hk (fun _ => False)) (fun x => x) (fun _ _ x => x) (fun _ _ x => x)
def ClV.used (v : ClV) (s0 s1 : Option Nat) : Option Nat := if v.at_ = 0 then s0 else s1
/-- What a client's call may move: itself, the tape, its two rows. -/
def ClS (c t : Nat) (v : ClV) (i : Nat) : Prop := i = c ∨ i = t ∨ v.kept.ownBlock = some i ∨ v.waits.ownBlock = some i

def CWrotePost (w : World) (base c : Nat) (s0 s1 : Option Nat) (v : ClV) (t : Nat) (T : TpV) (x : Int) (d : ByteArray) (e : Ending) (w' : World) : Prop :=
  e = .returned (.int .i64 T.err) ∧ ∃ kv wv, ClAt w' base c s0 s1 { v with kept := kv, K := if T.err = 0 then v.K ++ [⟨x, d⟩] else v.K } ∧ TapeAt w' base t { T.next with wrote := wv, wl := if T.err = 0 then T.wl ++ [⟨x, d⟩] else T.wl } ∧
    Mv w w' (ClS c t v) ∧ Apart kv wv ∧ (kv.ownBlock = v.kept.ownBlock ∨ ∃ j, kv.ownBlock = some j ∧ w.heap.size ≤ j) ∧ (wv.ownBlock = T.wrote.ownBlock ∨ ∃ j, wv.ownBlock = some j ∧ w.heap.size ≤ j)

set_option maxRecDepth 100000 in
set_option maxHeartbeats 1000000 in
theorem cl_write (w : World) (base c : Nat) (s0 s1 : Option Nat) (v : ClV) (t : Nat) (T : TpV) (h : ClAt w base c s0 s1 v) (hu : v.used s0 s1 = some t) (hT : TapeAt w base t T) (hap : Apart v.kept T.wrote)
    (hK : v.K.length < 200) (hn : T.n ≤ 100000) (ho : T.ops ≤ 100000) (hl : T.wl.length ≤ 100000) (x : Int) (d : ByteArray) :
    Calls Try.prog 9 #[.pointer (some ⟨c, 0, none⟩), .int .i64 x, .string d] w fun e w' => CWrotePost w base c s0 s1 v t T x d e w' := by
  have hmw := method_write t
  have H := Lib.hid h
  have HT := Lib.hid hT
  have HU := Lib.hid hu
  have HAP := Lib.hid hap
  obtain ⟨i0, hi, hz0, hz1, hz2⟩ := info_parts sec_info
  clear h hT hu hap
  go_enter Try.func9, Try.ntmps9
  go_wp2_with fail
  refine (cl_server _ c s0 s1 v.at_ v.kept v.waits H.out.box H.out.ha).mono ?_
  rintro e w1 ⟨rfl, hb1⟩
  have hu2 : srv (if v.at_ = 0 then s0 else s1) = .iface 27 (.pointer (some ⟨t, 0, none⟩)) := by
    have := HU.out; unfold ClV.used at this; rw [this]; rfl
  rw [hu2]
  have HB1 := Lib.hid hb1
  have HC1 := Lib.hid (H.out.below hb1)
  have HT1 := Lib.hid (HT.out.below hb1)
  obtain ⟨A, cp, hkp, hcp, _⟩ := own_form H.out.k (by decide)
  have c3 : w1.cell? ⟨c, 3, none⟩ = some (.slice A v.K.length cp) := by rw [← hkp]; exact HC1.out.box.cell (i := 3) rfl
  have HKP := Lib.hid hkp
  clear hu2 hb1 hkp
  go_wp2_with fail
  refine (tp_write _ base t T HT1.out hn ho hl (by have h1 := HT1.out.hb; have h2 := HT1.out.box.lt; omega) x d).mono ?_
  rintro e w2 ⟨rfl, wv, ht2, hm2, hwv, hwe⟩
  have hct : c ≠ t := fun e => by
    have h1 := HC1.out.box; have h2 := HT1.out.box; unfold ClBox TpBox Blk at *; rw [e, h2] at h1; simp at h1
  have HNE := Lib.hid hct
  obtain ⟨w3, hw3⟩ : ∃ w3, w2.alloc (.cells #[.int .i64 T.ev.1, .int .i64 T.ev.2] 54) = w3 := ⟨_, rfl⟩
  have hb3 : Below w2.heap.size w2 w3 := by rw [← hw3]; exact (Below.refl _ _).alloc (Nat.le_refl _) _
  have HM3 := Lib.hid (show Mv w w3 (· = t) from ((Mv.of_below HB1.out _).trans hm2 (fun _ _ x => x)).trans (Mv.of_below hb3 (fun _ => False)) (fun _ _ x => x.elim))
  have HT3 := Lib.hid (ht2.below hb3)
  have HC3 := Lib.hid ((HC1.out.mv hm2 hct (fun i hi e => own_type HC1.out.k HT1.out.box (by decide) (by rw [← e]; exact hi)) (fun i hi e => own_type HC1.out.f HT1.out.box (by decide) (by rw [← e]; exact hi))).below hb3)
  have HX3 := Lib.hid (show Blk w3 w2.heap.size #[.int .i64 T.ev.1, .int .i64 T.ev.2] 54 from by rw [← hw3]; exact Blk.alloc _ _ _)
  have HWV := Lib.hid hwv
  have HWE := Lib.hid hwe
  have HS1 := Lib.hid HB1.out.size
  clear ht2 hm2 hwv hwe hb3 c3 hct
  by_cases he : T.err = 0
  · have heb : (T.err != 0) = false := by rw [bne_eq_false_iff_eq]; exact he
    have HEE := Lib.hid he
    have e3 : w3.cell? ⟨c, 3, none⟩ = some (.slice A v.K.length cp) := by rw [← HKP.out]; exact HC3.out.box.cell (i := 3) rfl
    obtain ⟨w4, hw4⟩ : ∃ w4, w3.alloc (.cells #[.int .i64 x, .string d] 71) = w4 := ⟨_, rfl⟩
    have hb4 : Below w3.heap.size w3 w4 := by rw [← hw4]; exact (Below.refl _ _).alloc (Nat.le_refl _) _
    have HB4 := Lib.hid hb4
    have HN4 := Lib.hid (show Rd w4 2 (.slice (some ⟨w3.heap.size, 0, none⟩) 1 1) 1 [.int .i64 x, .string d] from rd_blk (cs := #[.int .i64 x, .string d]) (by rw [← hw4]; exact Blk.alloc _ _ _) rfl)
    have HK4 := Lib.hid (show w4.ownsRow base 71 2 (.slice A v.K.length cp) v.K.length (secCells v.K) from by rw [← HKP.out]; exact (HC3.out.below hb4).k)
    clear he hb4
    go_wp2_with (at_builtin; refine wpList_append_rd rfl (.tmp 36) (.tmp 40) _ rfl base 71 i0 (.agg #[.int .i64 0, .string ⟨#[]⟩]) 2 24 Try.underlying29 hi hz0 hz1 hz2 rfl (by decide) (.slice A v.K.length cp) v.K.length (secCells v.K) rfl HK4.out _ 1 [.int .i64 x, .string d] rfl HN4.out (by simp [Value.oneCell']) (by unfold maxLen; omega) (by omega) (by have h1 := HT1.out.hb; have h2 := HT1.out.box.lt; have h3 := HM3.out.size; have h4 := HB4.out.size; have h5 := HT3.out.box.lt; omega) ?_
                 intro kv w5 hown5 hgrow5 hat5
                 obtain ⟨g5, c5, rfl, _⟩ := World.ownsRow.form hown5 (by omega)
                 have hm5 : Mv w3 w5 (fun i => v.kept.ownBlock = some i) := (Mv.of_below HB4.out _).trans (Mv.of_grown hgrow5 (S := fun i => v.kept.ownBlock = some i) (fun i e => by rw [HKP.out]; exact e)) (fun _ _ x => x)
                 have hbx5 := HC3.out.box.mv hm5 (own_type HC3.out.k HC3.out.box (by decide))
                 have d3 := hbx5.cell (i := 3) rfl
                 have df3 := hbx5.free 3
                 have HO5 := Lib.hid hown5
                 have HA5 := Lib.hid hat5
                 have HM5 := Lib.hid hm5
                 have HX5 := Lib.hid hbx5
                 clear hown5 hgrow5 hat5 hm5 hbx5)
    go_ret
    have he := HEE.out
    have g := Mv.of_set w5 c 3 (.slice (some ⟨g5, 0, none⟩) (v.K.length + 1) c5) (S := (· = c)) rfl
    have hc3 := HC3.out
    have ht3 := HT3.out
    have hm5 := HM5.out
    rw [if_pos he] at ht3
    have hkw : ∀ i, v.kept.ownBlock = some i → wv.ownBlock ≠ some i := fun i hi e => by
      have h1 := HWV.out he i e
      have h2 := (own_lt HC1.out.k hi).1
      omega
    have hok : OwnSecs w5 base (.slice (some ⟨g5, 0, none⟩) (v.K.length + 1) c5) (v.K ++ [⟨x, d⟩]) := by
      unfold OwnSecs
      rw [List.length_append, secCells_app]
      exact HO5.out
    have hblk : (Value.slice (some ⟨g5, 0, none⟩) (v.K.length + 1) c5).ownBlock = v.kept.ownBlock ∨ (Value.slice (some ⟨g5, 0, none⟩) (v.K.length + 1) c5).ownBlock = some w4.heap.size := by rw [HKP.out]; exact HA5.out
    have hs34 := HB4.out.size
    have hs3 := HM3.out.size
    have ht5 : TapeAt w5 base t _ := ht3.mv hm5 (fun i hi => (own_lt hc3.k hi).2) (fun e => own_type hc3.k ht3.box (by decide) e) (fun i hi e => hkw i e hi)
    refine ⟨by rw [he]; rfl, _, wv, ⟨HX5.out.set 3 _, by rw [if_pos he]; exact own_mv hok g (fun i hi e => own_type hok HX5.out (by decide) (by rw [← e]; exact hi)), own_mv (own_mv hc3.f hm5 (fun i hi e => own_apart hc3.k hc3.f (by decide) e hi)) g (fun i hi e => own_type hc3.f hc3.box (by decide) (by rw [← e]; exact hi)), hc3.hb, hc3.ha⟩, ?_, ?_, ?_, ?_, ?_⟩
    · rw [if_pos he]
      exact ht5.mv g (fun i e => by rw [e]; exact hc3.hb) (fun e => HNE.out e.symm) (fun i hi e => own_type ht5.own HX5.out (by decide) (by rw [← e]; exact hi))
    · refine ((HM3.out.mono (fun i _ e => .inr (.inl e))).trans (hm5.mono (S' := ClS c t v) (fun i _ e => .inr (.inr (.inl e)))) (fun _ _ x => x)).trans (g.mono (S' := ClS c t v) (fun i _ e => .inl e)) (fun _ _ x => x)
    · intro j hj hw
      rcases hblk with e | e
      · exact hkw j (by rw [← e]; exact hj) hw
      · rw [hj] at e
        injection e with e
        have := (own_lt ht3.own hw).1
        omega
    · rcases hblk with e | e
      · exact .inl e
      · exact .inr ⟨_, e, by omega⟩
    · cases hb : wv.ownBlock with
      | none =>
        exfalso
        obtain ⟨gg, cc, hx, _⟩ := World.ownsRow.form ht3.own (by rw [List.length_append]; simp)
        have hx : wv = _ := hx
        rw [hx] at hb
        simp [Value.ownBlock] at hb
      | some j => exact .inr ⟨j, rfl, by have := HWV.out he j hb; have := HS1.out; omega⟩
  · have heb : (T.err != 0) = true := by rw [bne_iff_ne]; exact he
    have k0 := HX3.out.cell (i := 0) rfl
    have k1 := HX3.out.cell (i := 1) rfl
    go_wp2
    go_ret
    refine ⟨rfl, v.kept, T.wrote, ?_, ?_, HM3.out.mono (fun i _ e => .inr (.inl e)), HAP.out, .inl rfl, .inl rfl⟩
    · rw [if_neg he]; exact HC3.out
    · have := HT3.out
      rw [if_neg he] at this ⊢
      rw [← HWE.out he]
      exact this
end Go.Proofs.Ytdnkbnpjbcalaaa
