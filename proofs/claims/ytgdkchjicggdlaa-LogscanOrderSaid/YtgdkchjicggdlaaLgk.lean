/- logscan: a record read and told. -/
import Derived.Test.YtgdkchjicggdlaaLgh
import Derived.Deep.CutRange
import Derived.Test.YtgdkchjicggdlaaTwo
namespace Go.Proofs.Ytgdkchjicggdlaa
open Go.RowKit Go.Proofs.YtgdkchjicggdlaaW.PrintWords

theorem below_drewS (w w' : World) (h1 : w'.heap = w.heap) (h2 : w'.os = w.os) (h3 : w'.tape = w.tape) (h4 : w'.output = w.output) : Below w.heap.size w w' := ⟨h2, h3, h4, by rw [h1]; exact Nat.le_refl _, fun _ _ => by rw [h1]⟩
set_option maxRecDepth 100000 in
set_option maxHeartbeats 8000000 in
theorem sc_next_some (w0 w : World) (base r : Nat) (p : Dpl) (many : Nat) (L : List ByteArray) (B0 B c : Nat) (J : World → List Rec → Prop) (f : FuncId) (caps : Array Value) (at_ : Nat) (seq : Int) (used : Nat) (fin : Bool) (rs : List Rec)
    (h0 : LogAt w0 base r p many L B0) (hT : Teller w0.heap.size f caps J) (h : ScanAt w0 w base r p many L B c J (.func (.func f) #[] caps) at_ seq used fin rs) (hB : B + many ≤ 70000) (hat : at_ < many) (hused : used ≤ many)
    (hs : 0 ≤ seq ∧ seq ≤ 4611686018427387904) (hrs : rs.length ≤ 900) (l : List Sec) (n : Nat) (ho : scanStep L many at_ seq used = some (l, n)) :
    Calls Try.prog 79 #[.pointer (some ⟨c, 0, none⟩)] w fun e w' => NextPost w0 base r p many L (B + many + 1) c J (.func (.func f) #[] caps) at_ seq used rs (some (l, n)) e w' := by
  have H0 := Lib.hid h0
  have HT := Lib.hid hT
  have HS := Lib.hid h
  have hmany := h0.many_le
  have HNF := Lib.hid (show ¬ p.foot c from fun x => by have := (h0.foot_in x).1; have := h.new; omega)
  have c1 := h.box.cell (i := 1) rfl
  have HLEN := Lib.hid (fun k => readL_len L many at_ k h0.len (by omega) h0.size)
  obtain ⟨S, hS⟩ : ∃ S, readL L many at_ 1 = S := ⟨_, rfl⟩
  have HSZ := Lib.hid (show S.length = 64 from by rw [← hS, HLEN.out])
  have HST := Lib.hid hS
  unfold scanStep at ho
  rw [hS] at ho
  by_cases hbad : (Lr.size S seq).2 ≠ 0 ∨ (many : Int) - used < (Lr.size S seq).1
  · rw [if_pos hbad] at ho; cases ho
  rw [if_neg hbad] at ho
  have he : (Lr.size S seq).2 = 0 := Decidable.byContradiction fun x => hbad (.inl x)
  have hm : ¬ (many : Int) - used < (Lr.size S seq).1 := fun x => hbad (.inr x)
  have hg := size_ge S seq he
  obtain ⟨j, hj⟩ : ∃ j : Nat, (Lr.size S seq).1 = ((j + 1 : Nat) : Int) := ⟨((Lr.size S seq).1 - 1).toNat, by omega⟩
  rw [hj] at ho hm hg
  rw [Int.toNat_natCast] at ho
  by_cases hbad2 : (Lr.get (readL L many at_ (j + 1))).2.2 ≠ 0
  · rw [if_pos hbad2] at ho; cases ho
  rw [if_neg hbad2] at ho
  have hge : (Lr.get (readL L many at_ (j + 1))).2.2 = 0 := Decidable.byContradiction hbad2
  injection ho with ho
  injection ho with ho1 ho2
  subst ho2
  have HGE := Lib.hid hge
  have HGL := Lib.hid ho1
  have HSE := Lib.hid (show Lr.size S seq = (((j + 1 : Nat) : Int), 0) from Prod.ext hj he)
  have hm2 : ((j : Int) + 1) ≤ (many : Int) - used := by omega
  have hm3 : ¬ (many : Int) - used < (j : Int) + 1 := by omega
  have hj2 : 1 ≤ j ∧ j ≤ 16 := by omega
  have HRD := Lib.hid (show mkS S ++ mkS (readL L many (at_ + 1) j) = mkS (readL L many at_ (j + 1)) from by
    rw [← HST.out, mkS_append, readL_add, Nat.add_comm 1 j])
  have hx1 : IntKind.i64.wrap ((many : Int) - used) = (many : Int) - used := IntWalk.i64_in _ ⟨by omega, by omega⟩
  have hx2 : IntKind.i64.wrap ((at_ : Int) + 1) = (at_ : Int) + 1 := IntWalk.i64_in _ ⟨by omega, by omega⟩
  have hz1 : (mkS S).size = 64 := HSZ.out
  have hz2 : (mkS (readL L many (at_ + 1) j)).size = j * 64 := by rw [mkS_size]; exact readL_len L many (at_ + 1) j H0.out.len (by omega) H0.out.size
  obtain ⟨T, hT2⟩ : ∃ T, mkS (readL L many (at_ + 1) j) = T := ⟨_, rfl⟩
  obtain ⟨A, hA⟩ : ∃ A, mkS S = A := ⟨_, rfl⟩
  rw [hT2, hA] at HRD
  rw [hT2] at hz2
  rw [hA] at hz1
  have HAA := Lib.hid hA
  have HTT := Lib.hid hT2
  clear h0 hT h hS hbad hbad2 he hm hg hj ho1 hge hA hT2
  go_enter Try.func79, Try.ntmps79
  go_wp2_with fail
  refine (sc_read _ base r p many L B HS.out.log.at_ (by omega) c at_ seq used _ fin HS.out.box HNF.out at_ 1 (by omega) (by omega) (by omega)).mono ?_
  rintro e w1 ⟨rfl, hd1⟩
  rw [HST.out]
  have HS1 := Lib.hid (HS.out.on H0.out HT.out hd1)
  have c2 := HS1.out.box.cell (i := 2) rfl
  clear hd1 c1
  go_wp2_with fail
  refine (lr_size S seq _ (by rw [HSZ.out]; decide)).mono ?_
  rintro e w2 ⟨rfl, hb2⟩
  rw [HSE.out, HAA.out]
  have HS2 := Lib.hid (HS1.out.below HT.out hb2)
  have c0 := HS2.out.box.cell (i := 0) rfl
  have c3 := HS2.out.box.cell (i := 3) rfl
  obtain ⟨from1, hface⟩ := HS2.out.log.at_.face (by omega)
  have HMR := Lib.hid (show ∀ W, Below w2.heap.size w2 W → Calls Try.prog 48 #[.pointer (some ⟨r, 0, none⟩)] W fun e w' => e = .returned (.int .i64 many) ∧ w' = W from fun W hW => (rg_many r p.d from1 many W (hface.box.below hW hface.box.lt)).mono (fun _ _ x => ⟨x.1, x.2.symm⟩))
  clear hb2 hface c2
  go_wp2
  go_quiet ((go_at_call 48; exact Calls.quiet_of_same (HMR.out _ ⟨rfl, rfl, rfl, Nat.le_refl _, fun _ _ => rfl⟩)))
  have HS3 := Lib.hid (HS2.out.below (w1 := w2.drewN nq) HT.out ⟨rfl, rfl, rfl, Nat.le_refl _, fun _ _ => rfl⟩)
  obtain ⟨w3, hw3⟩ : ∃ w3, w2.drewN nq = w3 := ⟨_, rfl⟩
  rw [hw3] at HS3 ⊢
  have c1 := HS3.out.box.cell (i := 1) rfl
  clear hw3 c0 c3 HMR
  go_wp2_with fail
  refine (sc_readI _ base r p many L (B + 1) HS3.out.log.at_ (by omega) c at_ seq used _ fin HS3.out.box HNF.out (at_ + 1) j (by omega) (by omega) (by omega) _ _ ?_ ?_).mono ?_
  · omega
  · omega
  rintro e w4 ⟨rfl, hd4⟩
  rw [HTT.out]
  have HS4 := Lib.hid (HS3.out.on H0.out HT.out hd4)
  clear hd4 c1
  go_wp2_with fail
  rw [HRD.out]
  refine (lr_get (readL L many at_ (j + 1)) _ (by rw [HLEN.out]; unfold maxLen; omega)).mono ?_
  rintro e w5 ⟨v, rfl, hown, hb5⟩
  rw [HGE.out]
  rw [HGL.out] at hown
  have HOWN := Lib.hid (show OwnSecs w5 w0.heap.size v l from ⟨hown.1, hown.2.imp id (fun ⟨g, cap, cur, e1, e2, e3⟩ => ⟨g, cap, cur, e1, Nat.le_trans HS4.out.log.size e2, e3⟩)⟩)
  have HS5 := Lib.hid (HS4.out.below HT.out hb5)
  have c1 := HS5.out.box.cell (i := 1) rfl
  have c2 := HS5.out.box.cell (i := 2) rfl
  obtain ⟨VA, vc, rfl, _, _⟩ := hown.form
  clear hown hb5
  go_wp2
  go_region_held3 (fun W => W.cell? ⟨c, 1, none⟩ = some (.int .i64 at_) ∧ W.cell? ⟨c, 2, none⟩ = some (.int .i64 seq)) (first | exact ⟨c1, c2⟩ | go_keep) (first | fail)
  obtain ⟨w6, hw6⟩ : ∃ w6, (w5.alloc (.cells #[.int .i64 seq, .int .i64 at_, .slice VA l.length vc] 56)).drew = w6 := ⟨_, rfl⟩
  have HB6 := Lib.hid (show Below w5.heap.size w5 w6 from by
    rw [← hw6]
    have := (Below.refl w5.heap.size w5).alloc (Nat.le_refl _) (.cells #[.int .i64 seq, .int .i64 at_, .slice VA l.length vc] 56)
    exact ⟨this.os, this.tape, this.output, this.size, this.block⟩)
  have HRB := Lib.hid (show Blk w6 w5.heap.size #[.int .i64 seq, .int .i64 at_, .slice VA l.length vc] 56 from by rw [← hw6]; exact Blk.alloc w5 _ _)
  rw [hw6]
  have HS6 := Lib.hid (HS5.out.below HT.out HB6.out)
  have HOWN6 := Lib.hid (HOWN.out.below HB6.out)
  clear hw6 c1 c2
  have c0 := HS6.out.box.cell (i := 0) rfl
  have c1 := HS6.out.box.cell (i := 1) rfl
  have c2 := HS6.out.box.cell (i := 2) rfl
  have c3 := HS6.out.box.cell (i := 3) rfl
  have f1 := HS6.out.box.free 1
  have f2 := HS6.out.box.free 2
  have f3 := HS6.out.box.free 3
  obtain ⟨from1, hface⟩ := HS6.out.log.at_.face (by omega)
  obtain ⟨q, hq⟩ : ∃ q, (at_ + (j + 1)) % many = q := ⟨_, rfl⟩
  have HQ := Lib.hid hq
  have HWR := Lib.hid (show ∀ W, Below w6.heap.size w6 W → Calls Try.prog 51 #[.pointer (some ⟨r, 0, none⟩), .int .i64 ((at_ : Int) + (j + 1))] W fun e w' => e = .returned (.int .i64 q) ∧ W = w' from fun W hW => by
    have := ls_wrap r p.d from1 many W (hface.box.below hW hface.box.lt) (by omega) hmany (at_ + (j + 1)) (by omega)
    rw [hq] at this
    exact this)
  have hx3 : IntKind.i64.wrap ((at_ : Int) + (j + 1)) = (at_ : Int) + (j + 1) := IntWalk.i64_in _ ⟨by omega, by omega⟩
  have hx4 : IntKind.i64.wrap (seq + 1) = seq + 1 := IntWalk.i64_in _ ⟨by omega, by omega⟩
  have hx5 : IntKind.i64.wrap ((used : Int) + (j + 1)) = (used : Int) + (j + 1) := IntWalk.i64_in _ ⟨by omega, by omega⟩
  obtain ⟨W1, hW1⟩ : ∃ W1, w6.setCell ⟨c, 1, none⟩ (.int .i64 q) = W1 := ⟨_, rfl⟩
  obtain ⟨W2, hW2⟩ : ∃ W2, W1.setCell ⟨c, 2, none⟩ (.int .i64 (seq + 1)) = W2 := ⟨_, rfl⟩
  obtain ⟨W3, hW3⟩ : ∃ W3, W2.setCell ⟨c, 3, none⟩ (.int .i64 ((used : Int) + (j + 1))) = W3 := ⟨_, rfl⟩
  have b1 : ScanBox W1 c r q seq used (.func (.func f) #[] caps) fin := by rw [← hW1]; exact HS6.out.box.set 1 _
  have b2 : ScanBox W2 c r q (seq + 1) used (.func (.func f) #[] caps) fin := by rw [← hW2]; exact b1.set 2 _
  have b3 : ScanBox W3 c r q (seq + 1) ((used : Int) + (j + 1)) (.func (.func f) #[] caps) fin := by rw [← hW3]; exact b2.set 3 _
  have k1 := b1.cell (i := 0) rfl
  have k2 := b2.cell (i := 0) rfl
  have k3 := b3.cell (i := 0) rfl
  have g1 := b1.cell (i := 2) rfl
  have g2 := b2.cell (i := 3) rfl
  have fg1 := b1.free 2
  have fg2 := b2.free 3
  have HB3 := Lib.hid b3
  clear hface hq b1 b2 b3
  go_upto_region 16 with fail
  go_cut [] from 88 to 118 (fun wx => wx.heap = W3.heap ∧ wx.os = W3.os ∧ wx.tape = W3.tape ∧ wx.output = W3.output)
  case first =>
    refine region_X (fun W => W.cell? ⟨c, 0, none⟩ = some (.pointer (some ⟨r, 0, none⟩)) ∧ W.cell? ⟨c, 1, none⟩ = some (.int .i64 at_) ∧ W.cell? ⟨c, 2, none⟩ = some (.int .i64 seq) ∧ W.cell? ⟨c, 3, none⟩ = some (.int .i64 used)) [27, 30, 33] (by kernel_rfl) ?_
    change anyX _ _ _ _ _ _ 34 _ _ _
    refine anyX_free (i := 0) (v := ?_) rfl (by kernel_rfl) (fun _ _ _ h => h) (Or.inl ⟨by rfl, ?_⟩) ?_
    rotate_left
    · (intro W _; go_simp; try with_reducible rfl)
    refine anyX_free (i := 1) (v := ?_) rfl (by kernel_rfl) (fun _ _ _ h => h) (Or.inl ⟨by rfl, ?_⟩) ?_
    rotate_left
    · (intro W _; go_simp; try with_reducible rfl)
    refine anyX_free (i := 2) (v := ?_) rfl (by kernel_rfl) (fun _ _ _ h => h) (Or.inl ⟨by rfl, ?_⟩) ?_
    rotate_left
    · (intro W _; go_simp; try with_reducible rfl)
    refine anyX_free (i := 3) (v := ?_) rfl (by kernel_rfl) (fun _ _ _ h => h) (Or.inl ⟨by rfl, ?_⟩) ?_
    rotate_left
    · (intro W _; go_simp; try with_reducible rfl)
    refine anyX_free (i := 4) (v := ?_) rfl (by kernel_rfl) (fun _ _ _ h => h) (Or.inl ⟨by rfl, ?_⟩) ?_
    rotate_left
    · (intro W _; go_simp; try with_reducible rfl)
    refine anyX_free (i := 5) (v := ?_) rfl (by kernel_rfl) (fun _ _ _ h => h) (Or.inl ⟨by rfl, ?_⟩) ?_
    rotate_left
    · (intro W _; go_simp; try with_reducible rfl)
    refine anyX_take (i := 6) (v := ?_) rfl (by kernel_rfl) (fun _ _ _ h => h) ⟨c0, c1, c2, c3⟩ (Or.inl ⟨by rfl, ?_⟩) ?_
    rotate_left
    · (intro W hSW; obtain ⟨s0, s1, s2, s3⟩ := hSW; go_simp; try with_reducible rfl)
    refine anyX_free (i := 7) (v := ?_) rfl (by kernel_rfl) (fun _ _ _ h => h) (Or.inl ⟨by rfl, ?_⟩) ?_
    rotate_left
    · (intro W _; go_simp; try with_reducible rfl)
    refine anyX_free (i := 8) (v := ?_) rfl (by kernel_rfl) (fun _ _ _ h => h) (Or.inl ⟨by rfl, ?_⟩) ?_
    rotate_left
    · (intro W _; go_simp; try with_reducible rfl)
    refine anyX_free (i := 9) (v := ?_) rfl (by kernel_rfl) (fun _ _ _ h => h) (Or.inl ⟨by rfl, ?_⟩) ?_
    rotate_left
    · (intro W _; go_simp; try with_reducible rfl)
    refine anyX_take (i := 10) (v := ?_) rfl (by kernel_rfl) (fun _ _ _ h => h) ⟨c0, c1, c2, c3⟩ (Or.inl ⟨by rfl, ?_⟩) ?_
    rotate_left
    · (intro W hSW; obtain ⟨s0, s1, s2, s3⟩ := hSW; go_simp; try with_reducible rfl)
    refine anyX_free (i := 11) (v := ?_) rfl (by kernel_rfl) (fun _ _ _ h => h) (Or.inl ⟨by rfl, ?_⟩) ?_
    rotate_left
    · (intro W _; go_simp; try with_reducible rfl)
    refine anyX_free (i := 12) (v := ?_) rfl (by kernel_rfl) (fun _ _ _ h => h) (Or.inl ⟨by rfl, ?_⟩) ?_
    rotate_left
    · (intro W _; go_simp; try with_reducible rfl)
    refine anyX_free (i := 14) (v := ?_) rfl (by kernel_rfl) (fun _ _ _ h => h) (Or.inl ⟨by rfl, ?_⟩) ?_
    rotate_left
    · (intro W _; go_simp; try with_reducible rfl)
    refine anyX_free (i := 15) (v := ?_) rfl (by kernel_rfl) (fun _ _ _ h => h) (Or.inl ⟨by rfl, ?_⟩) ?_
    rotate_left
    · (intro W _; go_simp; try with_reducible rfl)
    refine anyX_free (i := 16) (v := ?_) rfl (by kernel_rfl) (fun _ _ _ h => h) (Or.inl ⟨by rfl, ?_⟩) ?_
    rotate_left
    · (intro W _; go_simp; try with_reducible rfl)
    refine anyX_take (i := 17) (v := ?_) rfl (by kernel_rfl) (fun _ _ _ h => h) ⟨c0, c1, c2, c3⟩ (Or.inl ⟨by rfl, ?_⟩) ?_
    rotate_left
    · (intro W hSW; obtain ⟨s0, s1, s2, s3⟩ := hSW; go_simp; try with_reducible rfl)
    refine anyX_free (i := 18) (v := ?_) rfl (by kernel_rfl) (fun _ _ _ h => h) (Or.inl ⟨by rfl, ?_⟩) ?_
    rotate_left
    · (intro W _; go_simp; try with_reducible rfl)
    refine anyX_free (i := 19) (v := ?_) rfl (by kernel_rfl) (fun _ _ _ h => h) (Or.inl ⟨by rfl, ?_⟩) ?_
    rotate_left
    · (intro W _; go_simp; try with_reducible rfl)
    refine anyX_free (i := 20) (v := ?_) rfl (by kernel_rfl) (fun _ _ _ h => h) (Or.inl ⟨by rfl, ?_⟩) ?_
    rotate_left
    · (intro W _; go_simp; try with_reducible rfl)
    refine anyX_free (i := 21) (v := ?_) rfl (by kernel_rfl) (fun _ _ _ h => h) (Or.inl ⟨by rfl, ?_⟩) ?_
    rotate_left
    · (intro W _; go_simp; try with_reducible rfl)
    refine anyX_take (i := 22) (v := ?_) rfl (by kernel_rfl) (fun _ _ _ h => h) ⟨c0, c1, c2, c3⟩ (Or.inl ⟨by rfl, ?_⟩) ?_
    rotate_left
    · (intro W hSW; obtain ⟨s0, s1, s2, s3⟩ := hSW; go_simp; try with_reducible rfl)
    refine anyX_free (i := 23) (v := ?_) rfl (by kernel_rfl) (fun _ _ _ h => h) (Or.inl ⟨by rfl, ?_⟩) ?_
    rotate_left
    · (intro W _; go_simp; try with_reducible rfl)
    refine anyX_free (i := 24) (v := ?_) rfl (by kernel_rfl) (fun _ _ _ h => h) (Or.inl ⟨by rfl, ?_⟩) ?_
    rotate_left
    · (intro W _; go_simp; try with_reducible rfl)
    refine anyX_only (i := 13) (by kernel_rfl) rfl (fun K hK => ?_)
    go_simp
    refine (HWR.out _ ?_).mono ?_
    · exact ⟨rfl, rfl, rfl, Nat.le_refl _, fun _ _ => rfl⟩
    rintro e w7 ⟨rfl, rfl⟩
    refine hK _ _ (.inr fun _ => ⟨c0, c1, c2, c3⟩) ?_
    clear hK K
    refine anyX_free (i := 25) (v := ?_) rfl (by kernel_rfl) (fun _ _ _ h => h) (Or.inl ⟨by rfl, ?_⟩) ?_
    rotate_left
    · (intro W _; go_simp; try with_reducible rfl)
    refine anyX_free (i := 26) (v := ?_) rfl (by kernel_rfl) (fun _ _ _ h => h) (Or.inl ⟨by rfl, ?_⟩) ?_
    rotate_left
    · (intro W _; go_simp; try with_reducible rfl)
    refine anyX_only (i := 27) (by kernel_rfl) rfl (fun K hK => ?_)
    go_simp
    refine hK _ _ (.inl (by rfl)) ?_
    clear hK K
    refine anyX_free (i := 28) (v := ?_) rfl (by kernel_rfl) (fun _ _ _ h => h) (Or.inl ⟨by rfl, ?_⟩) ?_
    rotate_left
    · (intro W _; go_simp; try with_reducible rfl)
    refine anyX_free (i := 29) (v := ?_) rfl (by kernel_rfl) (fun _ _ _ h => h) (Or.inl ⟨by rfl, ?_⟩) ?_
    rotate_left
    · (intro W _; go_simp; try with_reducible rfl)
    refine anyX_only (i := 30) (by kernel_rfl) rfl (fun K hK => ?_)
    go_simp
    refine hK _ _ (.inl (by rfl)) ?_
    clear hK K
    refine anyX_free (i := 31) (v := ?_) rfl (by kernel_rfl) (fun _ _ _ h => h) (Or.inl ⟨by rfl, ?_⟩) ?_
    rotate_left
    · (intro W _; go_simp; try with_reducible rfl)
    refine anyX_free (i := 32) (v := ?_) rfl (by kernel_rfl) (fun _ _ _ h => h) (Or.inl ⟨by rfl, ?_⟩) ?_
    rotate_left
    · (intro W _; go_simp; try with_reducible rfl)
    refine anyX_only (i := 33) (by kernel_rfl) rfl (fun K hK => ?_)
    go_simp
    refine hK _ _ (.inl (by rfl)) ?_
    clear hK K
    refine anyX_done (by kernel_rfl) ?_
    go_wp2_with fail
    go_meet
    exact ⟨rfl, rfl, rfl, rfl⟩
  case rest =>
    obtain ⟨hq1, hq2, hq3, hq4⟩ := hcut
    have HGC := Lib.hid (show w6.grownBy wc (some c) from by
      have g1 := grown_set (w := w6) (b := c) 1 (.int .i64 q)
      rw [hW1] at g1
      have g2 := grown_set (w := W1) (b := c) 2 (.int .i64 (seq + 1))
      rw [hW2] at g2
      have g3 := grown_set (w := W2) (b := c) 3 (.int .i64 ((used : Int) + (j + 1)))
      rw [hW3] at g3
      have g := grown_trans (grown_trans g1 g2) g3
      exact ⟨hq2.trans g.os, hq3.trans g.tape, hq4.trans g.output, by rw [hq1]; exact g.size, by rw [hq1]; exact g.block⟩)
    have HBC := Lib.hid (show ScanBox wc c r q (seq + 1) ((used : Int) + (j + 1)) (.func (.func f) #[] caps) fin from by have := HB3.out; unfold ScanBox Blk at *; rw [hq1]; exact this)
    clear hq1 hq2 hq3 hq4 hW1 hW2 hW3 k1 k2 k3 g1 g2 fg1 fg2 c0 c1 c2 c3 f1 f2 f3 hx3 hx4 hx5
    have HKC := Lib.hid (show Kept w6 wc (fun i => i = c) from ⟨HGC.out.size, fun i hi hn => HGC.out.block i hi (fun e => hn (Option.some.inj e))⟩)
    have HRC := Lib.hid (HRB.out.kept HKC.out (fun e => by
      have h1 := HRB.out
      have h2 := HS6.out.box
      unfold ScanBox Blk at h1 h2
      rw [e, h2] at h1
      simp at h1))
    have HOC := Lib.hid (show OwnSecs wc w0.heap.size (.slice VA l.length vc) l from own_kept HOWN6.out HKC.out (fun i hi e => own_type HOWN6.out HS6.out.box (by decide) (by rw [hi, e])))
    have HJC := Lib.hid (show J wc rs from HT.out.keep _ _ _ HS6.out.told ⟨HGC.out.size, fun i _ h2 h3 => HGC.out.block i h2 (fun e => by cases e; exact h3 _ HS6.out.box)⟩)
    have HLC := Lib.hid (show LogDone w0 wc base r p many L (B + 1 + j) p from HS6.out.log.own ⟨HGC.out.os, HGC.out.tape, HGC.out.output, HGC.out.size, fun i hi => HGC.out.block i (Nat.lt_of_lt_of_le hi HS6.out.log.size) (fun e => by have := Option.some.inj e; have := HS6.out.new; omega)⟩ (fun i hi => (H0.out.foot_in hi).1) H0.out.r_lt)
    have HNW := Lib.hid HS6.out.new
    have HCALL := Lib.hid (fun W (hW : Below wc.heap.size wc W) => HT.out.call W rs ⟨seq, at_, l⟩ (.slice VA l.length vc) (Nat.le_trans HLC.out.size hW.size) (HT.out.keep _ _ _ HJC.out (KeptHi.of_below hW)) hrs (HOC.out.below hW))
    have c0 := HBC.out.cell (i := 0) rfl
    have c3 := HBC.out.cell (i := 3) rfl
    have c4 := HBC.out.cell (i := 4) rfl
    have r0 := HRC.out.cell (i := 0) rfl
    have r1 := HRC.out.cell (i := 1) rfl
    have r2 := HRC.out.cell (i := 2) rfl
    have hcf := HT.out.enters
    have HK5 := Lib.hid (show KeptHi w0.heap.size w5 wc from ⟨Nat.le_trans HB6.out.size HGC.out.size, fun i _ h2 h3 => (HGC.out.block i (Nat.lt_of_lt_of_le h2 HB6.out.size) (fun e => by cases e; exact h3 _ HS5.out.box)).trans (HB6.out.block i h2)⟩)
    have HRN := Lib.hid (show some w5.heap.size ≠ some c from fun e => by have := HS5.out.box.lt; have := Option.some.inj e; omega)
    obtain ⟨from2, hface2⟩ := HLC.out.at_.face (by omega)
    have HRG := Lib.hid hface2.box
    have HQ2 := HQ.out
    clear hface2
    by_cases hfin : used + (j + 1) = many
    · have hfb : (((used : Int) + (j + 1)) == (many : Int)) = true := by rw [beq_iff_eq]; omega
      have HFN := Lib.hid (show decide (used + (j + 1) = many) = true from decide_eq_true hfin)
      clear hfin
      go_wp2
      go_region_held3 (fun W => W.cell? ⟨c, 0, none⟩ = some (.pointer (some ⟨r, 0, none⟩)) ∧ W.cell? ⟨c, 3, none⟩ = some (.int .i64 ((used : Int) + (j + 1))) ∧ W.cell? ⟨c, 4, none⟩ = some (.func (.func f) #[] caps) ∧ W.cell? ⟨w5.heap.size, 0, none⟩ = some (.int .i64 seq) ∧ W.cell? ⟨w5.heap.size, 1, none⟩ = some (.int .i64 at_) ∧ W.cell? ⟨w5.heap.size, 2, none⟩ = some (.slice VA l.length vc)) (first | exact ⟨c0, c3, c4, r0, r1, r2⟩ | exact HS8.out | exact HS9.out _) (first
        | (go_at_call 48; refine (rg_many r p.d from2 many _ (by exact HRG8.out)).mono ?_; rintro e w9 ⟨rfl, rfl⟩)
        | (refine (HCALL.out _ (by exact ⟨rfl, rfl, rfl, Nat.le_refl _, fun _ _ => rfl⟩)).mono ?_; rintro e w8 ⟨rfl, hj8, hb8, hs8, hr8⟩; have HB8 := Lib.hid (hs8 _ _ HBC.out); have HR8 := Lib.hid (hr8 w5.heap.size _ w5 HS5.out.told HK5.out (Nat.le_refl _) HRC.out); have HBB8 := Lib.hid (show Below w0.heap.size wc w8 from ⟨hb8.os, hb8.tape, hb8.output, hb8.size, hb8.block⟩); have HJ8 := Lib.hid hj8; have HS8 := Lib.hid (And.intro (HB8.out.cell (i := 0) rfl) (And.intro (HB8.out.cell (i := 3) rfl) (And.intro (HB8.out.cell (i := 4) rfl) (And.intro (HR8.out.cell (i := 0) rfl) (And.intro (HR8.out.cell (i := 1) rfl) (HR8.out.cell (i := 2) rfl)))))); have HS9 := Lib.hid (fun v => And.intro ((HB8.out.set 5 v).cell (i := 0) rfl) (And.intro ((HB8.out.set 5 v).cell (i := 3) rfl) (And.intro ((HB8.out.set 5 v).cell (i := 4) rfl) (And.intro ((HR8.out.grown (grown_set (b := c) 5 v) HRN.out).cell (i := 0) rfl) (And.intro ((HR8.out.grown (grown_set (b := c) 5 v) HRN.out).cell (i := 1) rfl) ((HR8.out.grown (grown_set (b := c) 5 v) HRN.out).cell (i := 2) rfl)))))); have HRG8 := Lib.hid (HRG.out.below HBB8.out H0.out.r_lt); have f58 := HB8.out.free 5; have c58 := HB8.out.cell (i := 5) rfl; clear hj8 hb8 hs8 hr8))
      all_goals
        have HS9' := Lib.hid (show ScanAt w0 (w8.setCell ⟨c, 5, none⟩ (.bool true)) base r p many L (B + many + 1) c J (.func (.func f) #[] caps) ((at_ + (j + 1)) % many) (seq + 1) (used + (j + 1)) (decide (used + (j + 1) = many)) (rs ++ [⟨seq, at_, l⟩]) from by
          have hlog := HLC.out.own HBB8.out (fun i hi => (H0.out.foot_in hi).1) H0.out.r_lt
          have hg := grown_set (w := w8) (b := c) 5 (.bool true)
          refine ScanAt.more (B := B + 1 + j) ⟨hlog.own ⟨hg.os, hg.tape, hg.output, hg.size, fun i hi => hg.block i (Nat.lt_of_lt_of_le hi hlog.size) (fun e => by have := Option.some.inj e; have := HNW.out; omega)⟩ (fun i hi => (H0.out.foot_in hi).1) H0.out.r_lt, ?_, HT.out.keep _ _ _ HJ8.out (KeptHi.of_set HB8.out), HNW.out⟩ (by omega)
          rw [HQ.out, HFN.out]
          have := HB8.out.set 5 (.bool true)
          rw [show ((used : Int) + (j + 1)) = ((used + (j + 1) : Nat) : Int) from by omega] at this
          exact this)
        go_wp2
        go_ret
        exact ⟨rfl, ⟨HS9'.out.log.below (below_drewS _ _ rfl rfl rfl rfl), HS9'.out.box, HT.out.keep _ _ _ HS9'.out.told (KeptHi.of_below (below_drewS _ _ rfl rfl rfl rfl)), HS9'.out.new⟩⟩
    · have hfb : (((used : Int) + (j + 1)) == (many : Int)) = false := by rw [beq_eq_false_iff_ne]; omega
      have HFN := Lib.hid (show decide (used + (j + 1) = many) = false from decide_eq_false hfin)
      clear hfin
      go_wp2
      go_region_held3 (fun W => W.cell? ⟨c, 0, none⟩ = some (.pointer (some ⟨r, 0, none⟩)) ∧ W.cell? ⟨c, 3, none⟩ = some (.int .i64 ((used : Int) + (j + 1))) ∧ W.cell? ⟨c, 4, none⟩ = some (.func (.func f) #[] caps) ∧ W.cell? ⟨w5.heap.size, 0, none⟩ = some (.int .i64 seq) ∧ W.cell? ⟨w5.heap.size, 1, none⟩ = some (.int .i64 at_) ∧ W.cell? ⟨w5.heap.size, 2, none⟩ = some (.slice VA l.length vc)) (first | exact ⟨c0, c3, c4, r0, r1, r2⟩ | exact HS8.out | exact HS9.out _) (first
        | (go_at_call 48; refine (rg_many r p.d from2 many _ (by exact HRG8.out)).mono ?_; rintro e w9 ⟨rfl, rfl⟩)
        | (refine (HCALL.out _ (by exact ⟨rfl, rfl, rfl, Nat.le_refl _, fun _ _ => rfl⟩)).mono ?_; rintro e w8 ⟨rfl, hj8, hb8, hs8, hr8⟩; have HB8 := Lib.hid (hs8 _ _ HBC.out); have HR8 := Lib.hid (hr8 w5.heap.size _ w5 HS5.out.told HK5.out (Nat.le_refl _) HRC.out); have HBB8 := Lib.hid (show Below w0.heap.size wc w8 from ⟨hb8.os, hb8.tape, hb8.output, hb8.size, hb8.block⟩); have HJ8 := Lib.hid hj8; have HS8 := Lib.hid (And.intro (HB8.out.cell (i := 0) rfl) (And.intro (HB8.out.cell (i := 3) rfl) (And.intro (HB8.out.cell (i := 4) rfl) (And.intro (HR8.out.cell (i := 0) rfl) (And.intro (HR8.out.cell (i := 1) rfl) (HR8.out.cell (i := 2) rfl)))))); have HS9 := Lib.hid (fun v => And.intro ((HB8.out.set 5 v).cell (i := 0) rfl) (And.intro ((HB8.out.set 5 v).cell (i := 3) rfl) (And.intro ((HB8.out.set 5 v).cell (i := 4) rfl) (And.intro ((HR8.out.grown (grown_set (b := c) 5 v) HRN.out).cell (i := 0) rfl) (And.intro ((HR8.out.grown (grown_set (b := c) 5 v) HRN.out).cell (i := 1) rfl) ((HR8.out.grown (grown_set (b := c) 5 v) HRN.out).cell (i := 2) rfl)))))); have HRG8 := Lib.hid (HRG.out.below HBB8.out H0.out.r_lt); have f58 := HB8.out.free 5; have c58 := HB8.out.cell (i := 5) rfl; clear hj8 hb8 hs8 hr8))
      all_goals
        have HS9' := Lib.hid (show ScanAt w0 (w8.setCell ⟨c, 5, none⟩ (.bool false)) base r p many L (B + many + 1) c J (.func (.func f) #[] caps) ((at_ + (j + 1)) % many) (seq + 1) (used + (j + 1)) (decide (used + (j + 1) = many)) (rs ++ [⟨seq, at_, l⟩]) from by
          have hlog := HLC.out.own HBB8.out (fun i hi => (H0.out.foot_in hi).1) H0.out.r_lt
          have hg := grown_set (w := w8) (b := c) 5 (.bool false)
          refine ScanAt.more (B := B + 1 + j) ⟨hlog.own ⟨hg.os, hg.tape, hg.output, hg.size, fun i hi => hg.block i (Nat.lt_of_lt_of_le hi hlog.size) (fun e => by have := Option.some.inj e; have := HNW.out; omega)⟩ (fun i hi => (H0.out.foot_in hi).1) H0.out.r_lt, ?_, HT.out.keep _ _ _ HJ8.out (KeptHi.of_set HB8.out), HNW.out⟩ (by omega)
          rw [HQ.out, HFN.out]
          have := HB8.out.set 5 (.bool false)
          rw [show ((used : Int) + (j + 1)) = ((used + (j + 1) : Nat) : Int) from by omega] at this
          exact this)
        go_wp2
        go_ret
        exact ⟨rfl, ⟨HS9'.out.log.below (below_drewS _ _ rfl rfl rfl rfl), HS9'.out.box, HT.out.keep _ _ _ HS9'.out.told (KeptHi.of_below (below_drewS _ _ rfl rfl rfl rfl)), HS9'.out.new⟩⟩
end Go.Proofs.Ytgdkchjicggdlaa
