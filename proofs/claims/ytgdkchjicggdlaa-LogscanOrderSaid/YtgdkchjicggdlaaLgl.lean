/- logscan: a scan gone through to its end. -/
import Derived.Test.YtgdkchjicggdlaaLgk
namespace Go.Proofs.Ytgdkchjicggdlaa
open Go.RowKit Go.Proofs.YtgdkchjicggdlaaW.PrintWords

/-- What a scan tells, and where it ends. -/
inductive Scans (L : List ByteArray) (many : Nat) : Nat → Int → Nat → List Rec → Nat → Int → Nat → Prop
  | stop {at_ : Nat} {seq : Int} {used : Nat} (h : scanStep L many at_ seq used = none) : Scans L many at_ seq used [] at_ seq used
  | last {at_ : Nat} {seq : Int} {used : Nat} {l : List Sec} {n : Nat} (h : scanStep L many at_ seq used = some (l, n)) (hu : used + n = many) : Scans L many at_ seq used [⟨seq, at_, l⟩] ((at_ + n) % many) (seq + 1) (used + n)
  | more {at_ : Nat} {seq : Int} {used : Nat} {l : List Sec} {n : Nat} {rs : List Rec} {a : Nat} {s : Int} {u : Nat} (h : scanStep L many at_ seq used = some (l, n)) (hu : used + n ≠ many)
      (hr : Scans L many ((at_ + n) % many) (seq + 1) (used + n) rs a s u) : Scans L many at_ seq used (⟨seq, at_, l⟩ :: rs) a s u
theorem scanStep_le {L : List ByteArray} {many at_ : Nat} {seq : Int} {used : Nat} {l : List Sec} {n : Nat} (h : scanStep L many at_ seq used = some (l, n)) : 1 ≤ n ∧ used + n ≤ many := by
  unfold scanStep at h
  split at h
  · cases h
  · rename_i h1
    split at h
    · cases h
    · injection h with h
      injection h with _ h2
      have he : (Lr.size (readL L many at_ 1) seq).2 = 0 := Decidable.byContradiction fun x => h1 (.inl x)
      have hm : ¬ (many : Int) - used < (Lr.size (readL L many at_ 1) seq).1 := fun x => h1 (.inr x)
      have := size_ge _ _ he
      omega

def scanM (many c : Nat) (w : World) : Nat := 2 * (many - (match w.cell? ⟨c, 3, none⟩ with
  | some (.int _ n) => n.toNat
  | _ => 0)) + (match w.cell? ⟨c, 5, none⟩ with
  | some (.bool true) => 0
  | _ => 1)
theorem scanM_of {w : World} {many c r : Nat} {at_ seq : Int} {used : Nat} {tell : Value} {fin : Bool} (h : ScanBox w c r at_ seq used tell fin) : scanM many c w = 2 * (many - used) + (if fin then 0 else 1) := by
  unfold scanM
  rw [h.cell (i := 3) (v := .int .i64 used) rfl, h.cell (i := 5) (v := .bool fin) rfl]
  cases fin <;> simp

def rb (many u : Nat) (fin : Bool) : Nat := u * (many + 1) + (if fin then many + 1 else 0)
theorem rb_f (many u : Nat) : rb many u false = u * (many + 1) := rfl
theorem rb_t (many u : Nat) : rb many u true = u * (many + 1) + (many + 1) := rfl
theorem rb_le (many u : Nat) (fin : Bool) : u * (many + 1) ≤ rb many u fin := by unfold rb; omega
def RunPost (w0 : World) (base r : Nat) (p : Dpl) (many : Nat) (L : List ByteArray) (B c : Nat) (J : World → List Rec → Prop) (tell : Value) (at_ : Nat) (seq : Int) (e : Ending) (w' : World) : Prop :=
  e = .returned (.int .i64 0) ∧ ∃ rs a s u, Scans L many at_ seq 0 rs a s u ∧ ScanAt w0 w' base r p many L B c J tell a s u true rs

set_option maxRecDepth 100000 in
set_option maxHeartbeats 1000000 in
theorem sc_run (w0 w : World) (base r : Nat) (p : Dpl) (many : Nat) (L : List ByteArray) (B0 B c : Nat) (J : World → List Rec → Prop) (f : FuncId) (caps : Array Value) (at_ : Nat) (seq : Int)
    (h0 : LogAt w0 base r p many L B0) (hT : Teller w0.heap.size f caps J) (h : ScanAt w0 w base r p many L B c J (.func (.func f) #[] caps) at_ seq 0 false []) (hm : many ≤ 100) (hB : B ≤ 50000) (hat : at_ < many)
    (hs : 0 ≤ seq ∧ seq ≤ 4611686018427380000) :
    Calls Try.prog 68 #[.pointer (some ⟨c, 0, none⟩)] w fun e w' => RunPost w0 base r p many L (B + (many + 1) * (many + 1)) c J (.func (.func f) #[] caps) at_ seq e w' := by
  have H0 := Lib.hid h0
  have HT := Lib.hid hT
  have HS := Lib.hid h
  have c0 := h.box.cell (i := 0) rfl
  have c1 := h.box.cell (i := 1) rfl
  obtain ⟨from1, hface⟩ := h.log.at_.face (by omega)
  have hth : thereR at_ many = 0 := by unfold thereR; rw [if_pos ⟨by omega, by omega⟩]
  have HTH := Lib.hid (show ∀ W, Below w.heap.size w W → Calls Try.prog 47 #[.pointer (some ⟨r, 0, none⟩), .int .i64 at_] W fun e w' => e = .returned (.int .i64 0) ∧ W = w' from fun W hW => by
    have := ls_there r p.d from1 many W (hface.box.below hW hface.box.lt) hface.le at_
    rw [hth] at this
    exact this)
  have HDR := Lib.hid (h.below hT (below_drew w))
  clear h0 hT h hface hth
  go_enter Try.func68, Try.ntmps68
  go_wp2
  go_region_held3 (fun W => W.cell? ⟨c, 0, none⟩ = some (.pointer (some ⟨r, 0, none⟩)) ∧ W.cell? ⟨c, 1, none⟩ = some (.int .i64 at_)) (first | exact ⟨c0, c1⟩) (first
    | (go_at_call 47; refine (HTH.out _ (by exact ⟨rfl, rfl, rfl, Nat.le_refl _, fun _ _ => rfl⟩)).mono ?_; rintro e w1 ⟨rfl, rfl⟩))
  clear c0 c1
  go_wp2
  go_loopw [4] (fun _ wr => ∃ rs a s u fin, ScanAt w0 wr base r p many L (B + rb many u fin) c J (.func (.func f) #[] caps) a s u fin rs ∧ a < many ∧ u ≤ many ∧ rs.length ≤ u ∧ 0 ≤ s ∧ s ≤ 4611686018427380000 + u ∧ (fin = true → Scans L many at_ seq 0 rs a s u) ∧ (fin = false → ∀ rs' a' s' u', Scans L many a s u rs' a' s' u' → Scans L many at_ seq 0 (rs ++ rs') a' s' u')) (fun _ wr => scanM many c wr)
  case atStart => exact ⟨[], at_, seq, 0, false, by simpa [rb] using HDR.out, hat, by omega, by simp, hs.1, by omega, fun x => (by cases x), fun _ rs' a' s' u' x => x⟩
  case round =>
    obtain ⟨rs, a, s, u, fin, hsc, ha, hu, hrl, hs0, hs1, hf1, hf2⟩ := hrel
    have HSC := Lib.hid hsc
    have c5 := hsc.box.cell (i := 5) rfl
    have HM := Lib.hid (scanM_of (many := many) hsc.box)
    clear hsc
    cases fin with
    | true =>
      have HF := Lib.hid (hf1 rfl)
      have hbb : (u + 1) * (many + 1) ≤ (many + 1) * (many + 1) := Nat.mul_le_mul_right _ (by omega)
      rw [Nat.succ_mul] at hbb
      clear hf1 hf2
      go_wp2
      go_ret
      exact ⟨rfl, rs, a, s, u, HF.out, HSC.out.more (by rw [rb_t]; omega)⟩
    | false =>
      have HF := Lib.hid (hf2 rfl)
      have hbb : u * (many + 1) ≤ 100 * 101 := Nat.mul_le_mul (by omega) (by omega)
      clear hf1 hf2
      cases ho : scanStep L many a s u with
      | none =>
        have HO := Lib.hid ho
        have HS2 := Lib.hid (HF.out _ _ _ _ (Scans.stop ho))
        clear ho
        go_wp2_with fail
        refine (sc_next_none w0 _ base r p many L B0 _ c J f caps a s u false rs H0.out HT.out HSC.out (by rw [rb_f]; omega) ha hu HO.out).mono ?_
        rintro e w3 ⟨rfl, hsc3⟩
        have HSC3 := Lib.hid (show ScanAt w0 w3 base r p many L _ c J (.func (.func f) #[] caps) a s u true rs from hsc3)
        clear hsc3
        go_wp2
        go_roundw
        case rel => exact ⟨rs, a, s, u, true, HSC3.out.more (by rw [rb_f, rb_t]; omega), ha, hu, hrl, hs0, hs1, fun _ => (by have := HS2.out; rwa [List.append_nil] at this), fun x => (by cases x)⟩
        case measure => rw [HM.out, scanM_of HSC3.out.box]; simp
      | some o =>
        obtain ⟨l, n⟩ := o
        have hle := scanStep_le ho
        have HO := Lib.hid ho
        clear ho
        go_wp2_with fail
        refine (sc_next_some w0 _ base r p many L B0 _ c J f caps a s u false rs H0.out HT.out HSC.out (by rw [rb_f]; omega) ha hu ⟨hs0, by omega⟩ (by omega) l n HO.out).mono ?_
        rintro e w3 ⟨rfl, hsc3⟩
        have HSC3 := Lib.hid (show ScanAt w0 w3 base r p many L _ c J (.func (.func f) #[] caps) ((a + n) % many) (s + 1) (u + n) (decide (u + n = many)) (rs ++ [⟨s, a, l⟩]) from hsc3)
        have hbb2 : u * (many + 1) + (many + 1) ≤ (u + n) * (many + 1) := by rw [← Nat.succ_mul]; exact Nat.mul_le_mul_right _ (by omega)
        have hmd := Nat.mod_lt (a + n) (show 0 < many from by omega)
        clear hsc3
        go_wp2
        go_roundw
        case rel =>
          refine ⟨rs ++ [⟨s, a, l⟩], (a + n) % many, s + 1, u + n, decide (u + n = many), HSC3.out.more ?_, hmd, hle.2, ?_, by omega, by omega, fun hx => ?_, fun hx rs' a' s' u' hr => ?_⟩
          · have := rb_le many (u + n) (decide (u + n = many))
            rw [rb_f]
            omega
          · rw [List.length_append]; simp only [List.length_singleton]; omega
          · have hx := of_decide_eq_true hx
            exact HF.out _ _ _ _ (Scans.last HO.out hx)
          · have hx := of_decide_eq_false hx
            have := HF.out _ _ _ _ (Scans.more HO.out hx hr)
            rw [List.append_assoc]
            exact this
        case measure =>
          rw [HM.out, scanM_of HSC3.out.box]
          simp only [Bool.false_eq_true, if_false]
          split <;> omega
end Go.Proofs.Ytgdkchjicggdlaa

/- logscan: who is told records. -/
namespace Go.Proofs.Ytgdkchjicggdlaa
open Go.RowKit Go.Proofs.YtgdkchjicggdlaaW.PrintWords

theorem enters_end1 : ∀ args w, (callFunc 67 args).run Try.prog w = .ok (.enter 67 args) w := enters_of Try.func67 (by kernel_rfl) rfl
theorem enters_told1 : ∀ args w, (callFunc 54 args).run Try.prog w = .ok (.enter 54 args) w := enters_of Try.func54 (by kernel_rfl) rfl

set_option maxRecDepth 100000 in
theorem end1_teller (N : Nat) : Teller N 67 #[] (fun _ _ => True) where
  enters := enters_end1
  keep := fun _ _ _ _ _ => trivial
  call := by
    intro w rs x v hN _ _ hown
    obtain ⟨VA, vc, rfl, _, _⟩ := hown.form
    clear hown
    have HB := Lib.hid (show Below w.heap.size w (w.alloc (.cells #[.int .i64 x.seq, .int .i64 x.at_, .slice VA x.l.length vc] 56)) from (Below.refl _ _).alloc (Nat.le_refl _) _)
    go_enter Try.func67, Try.ntmps67
    go_wp2
    go_ret
    exact ⟨rfl, trivial, HB.out.mono hN, fun c cs hb => hb.below HB.out hb.lt, fun b cs _ _ _ _ hb => hb.below HB.out hb.lt⟩

/-! ### records in a row -/
def recCell (x : Rec) (v : Value) : List Value := [.int .i64 x.seq, .int .i64 x.at_, v]
def recCells (rs : List Rec) (vs : List Value) : List Value := (rs.zip vs).flatMap fun y => recCell y.1 y.2
theorem recCells_snoc (rs : List Rec) (vs : List Value) (h : rs.length = vs.length) (x : Rec) (v : Value) : recCells (rs ++ [x]) (vs ++ [v]) = recCells rs vs ++ recCell x v := by
  unfold recCells
  rw [List.zip_append h, List.flatMap_append]
  simp
theorem recCells_get : ∀ (rs : List Rec) (vs : List Value) (h : rs.length = vs.length) (k : Nat) (hk : k < rs.length), (recCells rs vs)[k * 3]? = some (.int .i64 rs[k].seq) ∧ (recCells rs vs)[k * 3 + 2]? = some (vs[k]'(h ▸ hk))
  | [], _, _, _, h => by simp at h
  | x :: rs, [], h, _, _ => by simp at h
  | x :: rs, v :: vs, _, 0, _ => ⟨rfl, rfl⟩
  | x :: rs, v :: vs, h, k + 1, hk => by
    have ih := recCells_get rs vs (by simpa using h) k (by simpa using hk)
    have e : recCells (x :: rs) (v :: vs) = .int .i64 x.seq :: .int .i64 x.at_ :: v :: recCells rs vs := rfl
    rw [e, show (k + 1) * 3 = k * 3 + 1 + 1 + 1 from by omega]
    simp only [List.getElem?_cons_succ, List.getElem_cons_succ]
    exact ih
theorem rec_info : (Try.prog.info? 56).map (fun i => (i.zero, i.size, i.bytes)) = some (some (.agg #[.int .i64 0, .int .i64 0, .slice none 0 0]), 3, 40) := by kernel_rfl

/-- Records in a row of one's own, from a block on. -/
structure Told (w : World) (N : Nat) (v : Value) (rs : List Rec) (vs : List Value) : Prop where
  len : rs.length = vs.length
  row : w.ownsRow N 56 3 v rs.length (recCells rs vs)
  secs : ∀ k (h1 : k < vs.length) (h2 : k < rs.length), OwnSecs w N vs[k] rs[k].l
def ToldAt (N bl bm : Nat) (w : World) (rs : List Rec) : Prop := N ≤ bl ∧ bl ≠ bm ∧ Blk w bm #[.int .i64 1000] 3 ∧ N ≤ bm ∧ ∃ v vs, Blk w bl #[v] 52 ∧ Told w N v rs vs
theorem own_hi {w w' : World} {N : Nat} {e : TypeId} {size n : Nat} {v : Value} {xs : List Value} (h : w.ownsRow N e size v n xs) (hk : KeptHi N w w') (he : e ≠ 115) : w'.ownsRow N e size v n xs := by
  have hl := fun i hi => own_lt (i := i) h hi
  obtain ⟨hl0, h⟩ := h
  refine ⟨hl0, ?_⟩
  rcases h with h | ⟨g, cap, cur, h1, h2, h3, h4⟩
  · exact .inl h
  · subst h1
    have hg := hl g rfl
    exact .inr ⟨g, cap, cur, rfl, h2, (hk.2 g hg.2 hg.1 (fun cs x => by unfold Blk at x; rw [h3] at x; simp at x; exact he x.2)).trans h3, h4⟩
theorem Blk.hi {w w' : World} {N b : Nat} {cs : Array Value} {t : TypeId} (h : Blk w b cs t) (hk : KeptHi N w w') (hN : N ≤ b) (ht : t ≠ 115) : Blk w' b cs t := by
  have := hk.2 b hN h.lt (fun cs' x => by unfold Blk at h x; rw [h] at x; simp at x; exact ht x.2)
  unfold Blk at *
  rw [this, h]
theorem Told.hi {w w' : World} {N : Nat} {v : Value} {rs : List Rec} {vs : List Value} (h : Told w N v rs vs) (hk : KeptHi N w w') : Told w' N v rs vs :=
  ⟨h.len, own_hi h.row hk (by decide), fun k h1 h2 => own_hi (h.secs k h1 h2) hk (by decide)⟩
theorem Told.below {w w' : World} {N : Nat} {v : Value} {rs : List Rec} {vs : List Value} (h : Told w N v rs vs) (hk : Below w.heap.size w w') : Told w' N v rs vs := h.hi (KeptHi.of_below hk)

set_option maxRecDepth 100000 in
set_option maxHeartbeats 1000000 in
theorem told1_teller (N bl bm : Nat) : Teller N 54 #[.pointer (some ⟨bl, 0, none⟩), .pointer (some ⟨bm, 0, none⟩)] (ToldAt N bl bm) where
  enters := enters_told1
  keep := by
    rintro w w' rs ⟨h1, h2, h3, h4, v, vs, h5, h6⟩ hk
    exact ⟨h1, h2, h3.hi hk h4 (by decide), h4, v, vs, h5.hi hk h1 (by decide), h6.hi hk⟩
  call := by
    rintro w rs x u hN ⟨h1, h2, h3, h4, v, vs, h5, h6⟩ hrs hown
    obtain ⟨VA, vc, rfl, _, _⟩ := hown.form
    obtain ⟨wa, hwa⟩ : ∃ wa, w.alloc (.cells #[.int .i64 x.seq, .int .i64 x.at_, .slice VA x.l.length vc] 56) = wa := ⟨_, rfl⟩
    have hba : Below w.heap.size w wa := by rw [← hwa]; exact (Below.refl _ _).alloc (Nat.le_refl _) _
    have hra : Blk wa w.heap.size #[.int .i64 x.seq, .int .i64 x.at_, .slice VA x.l.length vc] 56 := by rw [← hwa]; exact Blk.alloc w _ _
    have r0 := hra.cell (i := 0) rfl
    have r1 := hra.cell (i := 1) rfl
    have r2 := hra.cell (i := 2) rfl
    have hla := h5.below hba h5.lt
    have cl := hla.cell (i := 0) rfl
    have HOWN := Lib.hid (hown.below hba)
    have HT := Lib.hid (h6.below hba)
    have HBL := Lib.hid hla
    have HBM := Lib.hid (h3.below hba h3.lt)
    have HBA := Lib.hid hba
    have HNE := Lib.hid h2
    have HB0 := Lib.hid h5
    obtain ⟨i0, hi, hz0, hz1, hz2⟩ := info_parts rec_info
    clear hown hba hra hla h2 h3 h5 h6
    go_enter Try.func54, Try.ntmps54
    go_wp2_with (at_builtin; refine wpList_append_own_at _ rfl _ _ 52 rfl N 56 i0 (.agg #[.int .i64 0, .int .i64 0, .slice none 0 0]) 3 40 Try.underlying52 hi hz0 hz1 hz2 rfl (by decide) v rs.length (recCells rs vs) rfl (HT.out.row.alloc _) ⟨wa.heap.size, 0, none⟩ 1 1 [.int .i64 x.seq, .int .i64 x.at_, .slice VA x.l.length vc] rfl rfl ?_ ?_ ?_ ?_ ?_ ?_)
    · intro j u hu
      match j, hu with
      | 0, hu => obtain rfl : Value.int .i64 _ = u := by simpa using hu
                 simp [Addr.add]
      | 1, hu => obtain rfl : Value.int .i64 _ = u := by simpa using hu
                 simp [Addr.add]
      | 2, hu => obtain rfl : Value.slice _ _ _ = u := by simpa using hu
                 simp [Addr.add]
      | j + 3, hu => simp at hu
    · intro u hu; simp at hu; rcases hu with rfl | rfl | rfl <;> rfl
    · unfold maxLen; omega
    · omega
    · have := HBA.out.size; simp; omega
    intro v' w3 hown' hgrow _ hat
    obtain ⟨w2, hw2⟩ : ∃ w2, wa.alloc (.cells #[.int .i64 x.seq, .int .i64 x.at_, .slice VA x.l.length vc] 56) = w2 := ⟨_, rfl⟩
    rw [hw2] at hgrow
    have hb2 : Below wa.heap.size wa w2 := by rw [← hw2]; exact (Below.refl _ _).alloc (Nat.le_refl _) _
    have hs2 : w2.heap.size = wa.heap.size + 1 := by rw [← hw2]; simp
    have ht2 := HT.out.below hb2
    have hl2 := HBL.out.below hb2 HBL.out.lt
    have hm2 := HBM.out.below hb2 HBM.out.lt
    have ho2 := HOWN.out.below hb2
    have hl3 := hl2.grown hgrow (fun e => own_type ht2.row hl2 (by decide) e.symm)
    have hm3 := hm2.grown hgrow (fun e => own_type ht2.row hm2 (by decide) e.symm)
    have f3 := hl3.free 0
    have cl3 := hl3.cell (i := 0) rfl
    obtain ⟨gv, capv, rfl, _⟩ := World.ownsRow.form hown' (by omega)
    obtain ⟨w4, hw4⟩ : ∃ w4, w3.setCell ⟨bl, 0, none⟩ (.slice (some ⟨gv, 0, none⟩) (rs.length + 1) capv) = w4 := ⟨_, rfl⟩
    have hl4 : Blk w4 bl #[.slice (some ⟨gv, 0, none⟩) (rs.length + 1) capv] 52 := by rw [← hw4]; exact hl3.set 0 _
    have hg4 : w3.grownBy w4 (some bl) := by rw [← hw4]; exact grown_set 0 _
    have hm4 := hm3.grown hg4 (fun e => HNE.out (Option.some.inj e).symm)
    have cl4 := hl4.cell (i := 0) rfl
    have cm4 := hm4.cell (i := 0) rfl
    have hk : Kept w2 w4 (fun i => i = bl ∨ v.ownBlock = some i) := by
      refine ⟨Nat.le_trans hgrow.size hg4.size, fun i hi hn => (hg4.block i (Nat.lt_of_lt_of_le hi hgrow.size) (fun e => hn (.inl (Option.some.inj e)))).trans (hgrow.block i hi (fun e => hn (.inr e.symm)))⟩
    have HFIN := Lib.hid (show ToldAt N bl bm w4 (rs ++ [x]) ∧ Below N w w4 ∧ (∀ c cs, Blk w c cs 115 → Blk w4 c cs 115) ∧ (∀ b cs w5, ToldAt N bl bm w5 rs → KeptHi N w5 w → w5.heap.size ≤ b → Blk w b cs 56 → Blk w4 b cs 56) from by
      refine ⟨⟨h1, HNE.out, hm4, h4, _, vs ++ [.slice VA x.l.length vc], hl4, ?_, ?_, ?_⟩, ?_, ?_, ?_⟩
      · rw [List.length_append, List.length_append, ht2.len]; rfl
      · rw [recCells_snoc _ _ ht2.len, List.length_append]
        exact World.ownsRow.kept hown' hg4 (.inr (own_type hown' hl3 (by decide)))
      · intro k k1 k2
        by_cases hlt : k < vs.length
        · have hlr : k < rs.length := by rw [ht2.len]; exact hlt
          rw [List.getElem_append_left hlt, List.getElem_append_left hlr]
          exact own_kept (ht2.secs k hlt hlr) hk (fun i hi x => x.elim (fun e => own_type (ht2.secs k hlt hlr) hl2 (by decide) (by rw [hi, e])) (fun e => own_apart (ht2.secs k hlt hlr) ht2.row (by decide) hi e))
        · have hkv : k = vs.length := by rw [List.length_append] at k1; simp at k1; omega
          have e1 : (vs ++ [.slice VA x.l.length vc])[k] = .slice VA x.l.length vc := by subst hkv; simp
          have e2 : (rs ++ [x])[k] = x := by
            have : k = rs.length := by rw [ht2.len]; exact hkv
            subst this; simp
          rw [e1, e2]
          exact own_kept ho2 hk (fun i hi x => x.elim (fun e => own_type ho2 hl2 (by decide) (by rw [hi, e])) (fun e => own_apart ho2 ht2.row (by decide) hi e))
      · have h02 := HBA.out.trans (hb2.mono HBA.out.size)
        exact ⟨(hg4.os.trans hgrow.os).trans h02.os, (hg4.tape.trans hgrow.tape).trans h02.tape, (hg4.output.trans hgrow.output).trans h02.output, Nat.le_trans h02.size hk.1, fun i hi => by
          rw [← h02.block i (Nat.lt_of_lt_of_le hi hN)]
          refine hk.2 i (Nat.lt_of_lt_of_le hi (Nat.le_trans hN h02.size)) (fun x => x.elim (fun e => by omega) (fun e => by have := (own_lt ht2.row e).2; omega))⟩
      · intro c cs hc
        have hc2 := (hc.below HBA.out hc.lt).below hb2 (Nat.lt_of_lt_of_le hc.lt HBA.out.size)
        refine hc2.kept hk (fun x => x.elim (fun e => ?_) (fun e => own_type ht2.row hc2 (by decide) e))
        have h := hl2
        unfold Blk at h hc2
        rw [← e, hc2] at h
        simp at h
      · rintro b cs w5 ⟨_, _, _, _, v5, vs5, h55, h65⟩ hk5 hb5 hbb
        have hb2' := (hbb.below HBA.out hbb.lt).below hb2 (Nat.lt_of_lt_of_le hbb.lt HBA.out.size)
        have e5 : v5 = v := by
          have x1 := h55.hi hk5 h1 (by decide)
          have x2 := HB0.out
          unfold Blk at x1 x2
          rw [x1] at x2
          simpa using x2
        refine hb2'.kept hk (fun x => x.elim (fun e => ?_) (fun e => ?_))
        · have h := hl2
          unfold Blk at h hb2'
          rw [← e, hb2'] at h
          simp at h
        · have := (own_lt h65.row (by rw [e5]; exact e)).1
          omega)
    clear hown' hgrow hat hw2 hb2 hs2 ht2 hl2 hm2 ho2 hl3 hm3 hl4 hg4 hm4 hk cl r0 r1 r2 hwa
    go_wp2
    go_ret
    exact ⟨ret_bool (decide_eq_true (by omega)), HFIN.out⟩
end Go.Proofs.Ytgdkchjicggdlaa

/- logscan.Each, End; told. -/
namespace Go.Proofs.Ytgdkchjicggdlaa
open Go.RowKit Go.Proofs.YtgdkchjicggdlaaW.PrintWords

theorem results_four {fn : Func} {a b c d : Tmp} (h : fn.results = #[.tmp a, .tmp b, .tmp c, .tmp d]) (tmps : Array Value) (P : Program) (w : World) :
    (results fn tmps).run P w = .ok (.tuple #[tmps.getD a undef, tmps.getD b undef, tmps.getD c undef, tmps.getD d undef]) w := by
  simp [results, h]

def EachPost (w0 : World) (base r : Nat) (p : Dpl) (many : Nat) (L : List ByteArray) (B : Nat) (J : World → List Rec → Prop) (at_ : Nat) (seq : Int) (e : Ending) (w' : World) : Prop :=
  e = .returned (.int .i64 0) ∧ ∃ rs a s u, Scans L many at_ seq 0 rs a s u ∧ LogDone w0 w' base r p many L B p ∧ J w' rs

theorem ScanAt.start {w0 w : World} {base r : Nat} {p : Dpl} {many : Nat} {L : List ByteArray} {B : Nat} {J : World → List Rec → Prop} {tell : Value} {at_ : Nat} {seq : Int} {f : FuncId} {caps : Array Value} (hT : Teller w0.heap.size f caps J)
    (hl : LogDone w0 w base r p many L B p) (hj : J w []) : ScanAt w0 (w.alloc (.cells #[.pointer (some ⟨r, 0, none⟩), .int .i64 at_, .int .i64 seq, .int .i64 0, tell, .bool false] 115)) base r p many L B w.heap.size J tell at_ seq 0 false [] where
  log := hl.below ((Below.refl _ _).alloc (Nat.le_refl _) _)
  box := Blk.alloc w _ _
  told := hT.keep _ _ _ hj (KeptHi.of_below ((Below.refl _ _).alloc (Nat.le_refl _) _))
  new := hl.size

set_option maxRecDepth 100000 in
set_option maxHeartbeats 400000 in
theorem ls_each (w0 w : World) (base r : Nat) (p : Dpl) (many : Nat) (L : List ByteArray) (B0 B : Nat) (J : World → List Rec → Prop) (f : FuncId) (caps : Array Value) (at_ : Nat) (seq : Int)
    (h0 : LogAt w0 base r p many L B0) (hT : Teller w0.heap.size f caps J) (hl : LogDone w0 w base r p many L B p) (hj : J w []) (hm : many ≤ 100) (hB : B ≤ 50000) (hat : at_ < many) (hs : 0 ≤ seq ∧ seq ≤ 4611686018427380000) :
    Calls Try.prog 53 #[.pointer (some ⟨r, 0, none⟩), .int .i64 at_, .int .i64 seq, .func (.func f) #[] caps] w fun e w' => EachPost w0 base r p many L (B + (many + 1) * (many + 1)) J at_ seq e w' := by
  have H0 := Lib.hid h0
  have HT := Lib.hid hT
  have HST := Lib.hid (ScanAt.start (tell := .func (.func f) #[] caps) (at_ := at_) (seq := seq) hT hl hj)
  clear h0 hT hl hj
  go_enter Try.func53, Try.ntmps53
  go_wp2_with fail
  refine (sc_run w0 _ base r p many L B0 B w.heap.size J f caps at_ seq H0.out HT.out HST.out hm hB hat hs).mono ?_
  rintro e w1 ⟨rfl, rs, a, s, u, hsc, hfin⟩
  have HSC := Lib.hid hsc
  have HL := Lib.hid hfin.log
  have HJ := Lib.hid hfin.told
  clear hsc hfin
  go_wp2
  go_ret
  exact ⟨rfl, rs, a, s, u, HSC.out, HL.out, HJ.out⟩

def EndPost (w : World) (base r : Nat) (p : Dpl) (many : Nat) (L : List ByteArray) (B at_ : Nat) (seq : Int) (e : Ending) (w' : World) : Prop :=
  ∃ rs a s, ∃ u : Nat, e = .returned (.tuple #[.int .i64 (a : Nat), .int .i64 s, .int .i64 u, .int .i64 0]) ∧ Scans L many at_ seq 0 rs a s u ∧ LogDone w w' base r p many L B p

set_option maxRecDepth 100000 in
set_option maxHeartbeats 400000 in
theorem ls_end (w : World) (base r : Nat) (p : Dpl) (many : Nat) (L : List ByteArray) (B : Nat) (at_ : Nat) (seq : Int)
    (h0 : LogAt w base r p many L B) (hm : many ≤ 100) (hB : B ≤ 50000) (hat : at_ < many) (hs : 0 ≤ seq ∧ seq ≤ 4611686018427380000) :
    Calls Try.prog 44 #[.pointer (some ⟨r, 0, none⟩), .int .i64 at_, .int .i64 seq] w fun e w' => EndPost w base r p many L (B + (many + 1) * (many + 1)) at_ seq e w' := by
  have H0 := Lib.hid h0
  have HT := Lib.hid (end1_teller w.heap.size)
  have HST := Lib.hid (ScanAt.start (tell := .func (.func 67) #[] #[]) (at_ := at_) (seq := seq) (end1_teller w.heap.size) (LogDone.refl h0) trivial)
  clear h0
  go_enter Try.func44, Try.ntmps44
  go_wp2_with fail
  refine (sc_run w _ base r p many L B B w.heap.size (fun _ _ => True) 67 #[] at_ seq H0.out HT.out HST.out hm hB hat hs).mono ?_
  rintro e w1 ⟨rfl, rs, a, s, u, hsc, hfin⟩
  have HSC := Lib.hid hsc
  have HL := Lib.hid hfin.log
  have c1 := hfin.box.cell (i := 1) rfl
  have c2 := hfin.box.cell (i := 2) rfl
  have c3 := hfin.box.cell (i := 3) rfl
  clear hsc hfin
  go_wp2
  go_quiet (fail)
  go_wp2
  (try simp only [Exit.inBlock, Exit.then]); refine bodyPost_ret (results_four rfl _ _ _) rfl ?_
  exact ⟨rs, a, s, u, rfl, HSC.out, HL.out.below ⟨rfl, rfl, rfl, Nat.le_refl _, fun _ _ => rfl⟩⟩

def ToldPost (w : World) (base r : Nat) (p : Dpl) (many : Nat) (L : List ByteArray) (B at_ : Nat) (seq : Int) (e : Ending) (w' : World) : Prop :=
  ∃ v rs vs a s u, e = .returned (.tuple #[v, .int .i64 0]) ∧ Scans L many at_ seq 0 rs a s u ∧ LogDone w w' base r p many L B p ∧ Told w' w.heap.size v rs vs

set_option maxRecDepth 100000 in
set_option maxHeartbeats 400000 in
theorem law12_told (w : World) (base r : Nat) (p : Dpl) (many : Nat) (L : List ByteArray) (B : Nat) (at_ : Nat) (seq : Int)
    (h0 : LogAt w base r p many L B) (hm : many ≤ 100) (hB : B ≤ 50000) (hat : at_ < many) (hs : 0 ≤ seq ∧ seq ≤ 4611686018427380000) :
    Calls Try.prog 22 #[.pointer (some ⟨r, 0, none⟩), .int .i64 at_, .int .i64 seq, .int .i64 1000] w fun e w' => ToldPost w base r p many L (B + (many + 1) * (many + 1)) at_ seq e w' := by
  have H0 := Lib.hid h0
  obtain ⟨wa, hwa⟩ : ∃ wa, (w.alloc (.cells #[.int .i64 1000] 3)).alloc (.cells #[.slice none 0 0] 52) = wa := ⟨_, rfl⟩
  have hba : Below w.heap.size w wa := by rw [← hwa]; exact ((Below.refl _ _).alloc (Nat.le_refl _) _).alloc (by simp) _
  have HBA := Lib.hid hba
  have HJ := Lib.hid (show ToldAt w.heap.size (w.heap.size + 1) w.heap.size wa [] from by
    rw [← hwa]
    refine ⟨by omega, by omega, (Blk.alloc w _ _).below ((Below.refl _ _).alloc (Nat.le_refl _) _) (by simp), Nat.le_refl _, .slice none 0 0, [], blk_new (by simp), rfl, World.ownsRow_nil _ _ _ _, fun k h _ => by simp at h⟩)
  have HT := Lib.hid (told1_teller w.heap.size (w.heap.size + 1) w.heap.size)
  have HL := Lib.hid ((LogDone.refl h0).below hba)
  clear h0 hba
  go_enter Try.func22, Try.ntmps22
  go_wp2_with fail
  refine (ls_each w _ base r p many L B B (ToldAt w.heap.size (w.heap.size + 1) w.heap.size) 54 _ at_ seq H0.out HT.out HL.out HJ.out hm hB hat hs).mono ?_
  rintro e w1 ⟨rfl, rs, a, s, u, hsc, hlog, _, _, _, _, v, vs, hbl, htold⟩
  have HSC := Lib.hid hsc
  have HL1 := Lib.hid hlog
  have HTD := Lib.hid htold
  have cl := hbl.cell (i := 0) rfl
  clear hsc hlog hbl htold
  go_wp2
  go_ret2
  exact ⟨v, rs, vs, a, s, u, rfl, HSC.out, HL1.out, HTD.out⟩
end Go.Proofs.Ytgdkchjicggdlaa
