/- A region: reading one sector, making sure. -/
import Derived.Test.YtgdkchjicggdlaaLga
import Derived.Test.YtgdkchjicggdlaaLru
import Derived.RegionCalls
import Derived.Deep.RegionHeld3
namespace Go.Proofs.Ytgdkchjicggdlaa
open Go.RowKit Go.Proofs.YtgdkchjicggdlaaW.PrintWords

theorem IsBld.kept {B b : Nat} {bs : List Value} {w w' : World} (h : IsBld B b bs w) {S : Nat → Prop} (hk : Kept w w' S) (hs : ∀ i, S i → i < B) : IsBld B b bs w' := by
  have key : ∀ p, Lib.BuilderAt 64 5 B b p bs w → Lib.BuilderAt 64 5 B b p bs w' := by
    intro p h
    obtain ⟨hB, v, hbk, hown, hne⟩ := h
    exact ⟨hB, v, blk_kept hbk hk (fun x => by have := hs b x; omega), own_kept hown hk (fun i hi x => by have := (own_lt hown hi).2; have := hs i x; omega), hne⟩
  exact h.imp (key _) (key _)

/-- What the disk of a log does for it, wherever worlds have gone on. -/
structure Face (w : World) (base r : Nat) (p : Dpl) (many : Nat) (L : List ByteArray) (B from_ : Nat) : Prop where
  le : from_ + many ≤ 1000
  box : RegBox w r p.d from_ many
  read : ∀ W, Below w.heap.size w W → ∀ (i : Nat) s, L[i]? = some s → Calls Try.prog 96 #[.pointer (some ⟨p.d, 0, none⟩), .int .i64 ((from_ : Int) + i)] W fun e w' => e = .returned (.tuple #[.string s, .int .i64 0]) ∧ LogDone W w' base r p many L (B + 1) p
  write : base ≤ w.heap.size → ∀ W, Below w.heap.size w W → ∀ (i : Nat) (d : ByteArray), i < many → d.size = 64 → Calls Try.prog 71 #[.pointer (some ⟨p.d, 0, none⟩), .int .i64 ((from_ : Int) + i), .string d] W fun e w' => e = .returned (.int .i64 0) ∧ ∃ p', LogDone W w' base r p many (L.set i d) (B + 1) p'
  flush : ∀ W, Below w.heap.size w W → Calls Try.prog 72 #[.pointer (some ⟨p.d, 0, none⟩)] W fun e w' => e = .returned (.int .i64 0) ∧ ∃ p', LogDone W w' base r p many L (B + 1) p'
theorem LogAt.face {w : World} {base r : Nat} {p : Dpl} {many : Nat} {L : List ByteArray} {B : Nat} (h : LogAt w base r p many L B) (hB : B ≤ 100000) : ∃ from_, Face w base r p many L B from_ := by
  obtain ⟨k1, V1, from1, hd1, hf1, hb1, hm1, hL1, ho1, hw1⟩ := h.ex
  have hsz := h.size
  have hfew := hd1.few
  have hfl := hf1.len
  refine ⟨from1, ⟨by omega, hb1, ?_, ?_, ?_⟩⟩
  · intro W hW i s hs
    have hi : i < many := by rw [← h.len]; exact (List.getElem?_eq_some_iff.1 hs).1
    have hv : V1[from1 + i]? = some s := by
      rw [hL1, List.getElem?_take, if_pos hi, List.getElem?_drop] at hs
      exact hs
    obtain ⟨hlt2, he2⟩ := List.getElem?_eq_some_iff.1 hv
    refine (dk_read W base p k1 _ (hd1.below hW) (by omega)).mono ?_
    rintro e w' ⟨rfl, hd', hg'⟩
    refine ⟨by rw [show (from1 : Int) + i = ((from1 + i : Nat) : Int) from by omega, hf1.read _ hlt2, he2], ?_⟩
    rw [hL1] at hsz ⊢
    exact LogAt.of_disk (hb1.below hW hb1.lt) h.apart (DkDone.of_call (base := base) hd' hg') hf1.callD hm1 (by show k1.ops + 1 ≤ _; omega) (by show k1.waits.length ≤ _; omega) hsz
  · intro hbase W hW i d hi hd
    obtain ⟨e1, e2, e3, e4⟩ := hf1.write (from1 + i) (by omega) d hd
    refine (dk_write W base p k1 _ d (hd1.below hW) (by omega) (by omega) (Nat.le_trans hbase hW.size)).mono ?_
    rintro e w' ⟨rfl, p', hdone⟩
    rw [show (from1 : Int) + i = ((from1 + i : Nat) : Int) from by omega] at hdone ⊢
    refine ⟨by rw [e1], p', ?_⟩
    have key : L.set i d = ((V1.set (from1 + i) d).drop from1).take many := by
      rw [hL1]
      apply List.ext_getElem?
      intro j
      rw [List.getElem?_set, List.getElem?_take, List.getElem?_take, List.length_take, List.length_drop, List.getElem?_drop, List.getElem?_drop, List.getElem?_set]
      by_cases hj : i = j
      · subst hj
        rw [if_pos rfl, if_pos (by omega), if_pos hi, if_pos rfl, if_pos (by omega)]
      · rw [if_neg hj, if_neg (by omega : ¬ from1 + i = from1 + j)]
    have hs2 : ∀ s, s ∈ L.set i d → s.size = 64 := by
      intro s hs
      rcases List.mem_or_eq_of_mem_set hs with h1 | h1
      · exact hsz s h1
      · rw [h1]; exact hd
    rw [key] at hs2 ⊢
    exact LogAt.of_disk (hb1.below hW hb1.lt) h.apart hdone e2 (by rw [List.length_set]; exact hm1) (by omega) (by omega) hs2
  · intro W hW
    obtain ⟨e1, e2, e3, e4⟩ := hf1.flush
    refine (dk_flush W base p k1 (hd1.below hW) (by omega)).mono ?_
    rintro e w' ⟨rfl, p', hdone⟩
    refine ⟨by rw [e1], p', ?_⟩
    rw [hL1] at hsz ⊢
    exact LogAt.of_disk (hb1.below hW hb1.lt) h.apart hdone e2 hm1 (by omega) (by omega) hsz
theorem below_drew (w : World) : Below w.heap.size w w.drew := ⟨rfl, rfl, rfl, Nat.le_refl _, fun _ _ => rfl⟩
theorem LogAt.drewN {w : World} {base r : Nat} {p : Dpl} {many : Nat} {L : List ByteArray} {B : Nat} (h : LogAt w base r p many L B) (n : Nat) : LogAt (w.drewN n) base r p many L B := h.below ⟨rfl, rfl, rfl, Nat.le_refl _, fun _ _ => rfl⟩

/-- Blocks of the caller's own were written. -/
theorem LogDone.own {w w1 w2 : World} {base r : Nat} {p : Dpl} {many : Nat} {L1 : List ByteArray} {B1 : Nat} (h : LogDone w w1 base r p many L1 B1 p) (hb : Below w.heap.size w1 w2) (h0 : ∀ i, p.foot i → i < w.heap.size) (hr : r < w.heap.size) : LogDone w w2 base r p many L1 B1 p where
  at_ := h.at_.kept (S := fun i => w.heap.size ≤ i) ⟨hb.size, fun i _ hn => hb.block i (by omega)⟩ (fun i hi x => by have := h0 i hi; omega) (by omega)
  foot := h.foot
  kept := ⟨Nat.le_trans h.size hb.size, fun i hi hn => (hb.block i hi).trans (h.kept.2 i hi hn)⟩
  rest := ⟨hb.os.trans h.rest.1, hb.tape.trans h.rest.2.1, hb.output.trans h.rest.2.2⟩
/-- One sector of a log read. -/
def ReadPost (w : World) (base r : Nat) (p : Dpl) (many : Nat) (L : List ByteArray) (B : Nat) (t : ByteArray) (e : Ending) (w' : World) : Prop :=
  e = .returned (.tuple #[.string t, .int .i64 0]) ∧ LogDone w w' base r p many L B p

set_option maxRecDepth 100000 in
set_option maxHeartbeats 1000000 in
theorem rg_read (w : World) (base r : Nat) (p : Dpl) (many : Nat) (L : List ByteArray) (B : Nat) (h : LogAt w base r p many L B) (hB : B ≤ 90000) (i : Nat) (s : ByteArray) (hs : L[i]? = some s) :
    Calls Try.prog 94 #[.pointer (some ⟨r, 0, none⟩), .int .i64 i, .int .i64 1] w fun e w' => ReadPost w base r p many L (B + 1) s e w' := by
  have H := Lib.hid h
  have hmany := h.many_le
  have hlen := h.len
  have hi : i < L.length := (List.getElem?_eq_some_iff.1 hs).1
  have HSZ := Lib.hid (h.size s (List.mem_of_getElem? hs))
  obtain ⟨from_, hface⟩ := h.face (by omega)
  have hr2 := hface.box.cell (i := 2) rfl
  have hin : inside i 1 many = true := by unfold inside; simp; omega
  have HBL := Lib.hid hB
  have HS := Lib.hid hs
  have hmi : i < many := by omega
  clear h hB hlen hi hs hface
  go_enter Try.func94, Try.ntmps94
  go_wp2_with ((go_at_call 64; refine (rg_inside i 1 many _ hmany).mono ?_; rintro e w1 ⟨rfl, rfl⟩; rw [hin]))
  have HW := Lib.hid (show ∀ o, LogDone w (w.alloc o) base r p many L B p from fun o => (LogDone.refl H.out).below ((Below.refl _ _).alloc (Nat.le_refl _) _))
  go_loopw [25] (fun i0 wr => ∃ k : Nat, k ≤ 1 ∧ i0 = .int .i64 k ∧ LogDone w wr base r p many L (B + k) p ∧ IsBld w.heap.size w.heap.size (Lib.byteCells (if k = 0 then [] else s.data.toList)) wr) (fun i0 _ => 1 - (intOf i0).toNat)
  case atStart => exact ⟨0, by omega, rfl, HW.out _, Lib.fresh_isBuilder _ _ _⟩
  case round =>
    obtain ⟨k, hk, rfl, hdone, hbld⟩ := hrel
    have HD := Lib.hid hdone
    have HBLD := Lib.hid hbld
    clear hbld
    by_cases hlt : k < 1
    · obtain rfl : k = 0 := by omega
      obtain ⟨from1, hfc⟩ := hdone.at_.face (by have := HBL.out; omega)
      have c0 := hfc.box.cell (i := 0) rfl
      have c1 := hfc.box.cell (i := 1) rfl
      have hle := hfc.le
      have hx1 : IntKind.i64.wrap ((from1 : Int) + i) = (from1 : Int) + i := IntWalk.i64_in _ ⟨by omega, by omega⟩
      have HRD := Lib.hid (fun W hW => hfc.read W hW i s HS.out)
      clear hdone hfc
      go_wp2
      first | go_region_with (first | (go_at_call 96; refine (HRD.out _ (by exact ⟨rfl, rfl, rfl, Nat.le_refl _, fun _ _ => rfl⟩)).mono ?_; rintro e w1 ⟨rfl, hd2⟩; have HDE := Lib.hid (LogDone.upon (w := wr) (by exact ⟨rfl, rfl, rfl, Nat.le_refl _, fun _ _ => rfl⟩) hd2).kept; have HD2 := Lib.hid (LogDone.then_ HD.out (LogDone.upon (w := wr) (by exact ⟨rfl, rfl, rfl, Nat.le_refl _, fun _ _ => rfl⟩) hd2)); clear hd2)) | fail
      all_goals
        have HBLD2 := Lib.hid (HBLD.out.kept (w' := w1) (S := p.foot) (by exact HDE.out) (fun j hj => (H.out.foot_in hj).1))
        go_wp2_with fail
        refine (bld_writeString _ _ _ _ _ HBLD2.out (by have := HSZ.out; show 0 + s.size ≤ _; omega) (by have := HD2.out.size; omega)).mono ?_
        rintro e w3 ⟨rfl, hbld3, hb3⟩
        have HBLD3 := Lib.hid hbld3
        have HD3 := Lib.hid (HD2.out.own hb3 (fun i hi => (H.out.foot_in hi).1) H.out.r_lt)
        clear hbld3 hb3
        go_wp2
        go_roundw
        case rel => exact ⟨1, by omega, by go_num, HD3.out, HBLD3.out⟩
        case measure => simp [intOf]
    · obtain rfl : k = 1 := by omega
      go_wp2_with fail
      refine (Try.Builder_String_any_f _ _ _ _ (Lib.IsBuilderF.of HBLD.out) (by have := HBLD.out.lt; omega)).mono ?_
      rintro e w6 ⟨rfl, hbf, hb6⟩
      have HD6 := Lib.hid (HD.out.own hb6 (fun i hi => (H.out.foot_in hi).1) H.out.r_lt)
      clear hb6 hbf
      go_wp2
      go_ret2
      exact ⟨rfl, HD6.out⟩
end Go.Proofs.Ytgdkchjicggdlaa

/- A region: one sector's bytes as a sector of the disk; writing it; making sure. -/
namespace Go.Proofs.Ytgdkchjicggdlaa
open Go.RowKit Go.Proofs.YtgdkchjicggdlaaW.PrintWords

def SplitPost (w : World) (i : Int) (d : ByteArray) (e : Ending) (w' : World) : Prop :=
  ∃ v, e = .returned (.tuple #[v, .int .i64 0]) ∧ OwnSecs w' w.heap.size v [⟨i, d⟩] ∧ Below w.heap.size w w'
theorem none_of {l : List Sec} (h : l = []) : l.length = 0 := by rw [h]; rfl

set_option maxRecDepth 100000 in
set_option maxHeartbeats 1000000 in
theorem rg_split (w : World) (r d from_ many : Nat) (h : RegBox w r d from_ many) (hle : from_ + many ≤ 1000) (i : Nat) (hi : i < many) (s : ByteArray) (hs : s.size = 64) :
    Calls Try.prog 70 #[.pointer (some ⟨r, 0, none⟩), .int .i64 i, .string s] w fun e w' => SplitPost w ((from_ : Int) + i) s e w' := by
  have c1 := h.cell (i := 1) rfl
  have c2 := h.cell (i := 2) rfl
  have HBOX := Lib.hid h
  have hin : inside i 1 many = true := by unfold inside; simp; omega
  have hx1 : IntKind.i64.wrap ((from_ : Int) + i) = (from_ : Int) + i := IntWalk.i64_in _ ⟨by omega, by omega⟩
  have hx2 : IntKind.i64.wrap ((from_ : Int) + i + 1) = (from_ : Int) + i + 1 := IntWalk.i64_in _ ⟨by omega, by omega⟩
  have HT := Lib.hid (show s.extract 0 64 = s from by rw [← hs]; exact ByteArray.extract_zero_size)
  have HU := Lib.hid (show s.extract 64 64 = ⟨#[]⟩ from by apply ByteArray.ext; simp)
  have HE := Lib.hid (show (s.toList == []) = false from by
    rw [beq_eq_false_iff_ne]
    intro e
    have := congrArg List.length e
    rw [ByteArray.toList_eq] at this
    simp only [List.length_nil] at this
    have h2 : s.data.toList.length = s.size := rfl
    omega)
  obtain ⟨i0, hi0, hz0, hz1, hz2⟩ := info_parts sec_info
  have hm : many ≤ 1000 := by omega
  clear h
  go_enter Try.func70, Try.ntmps70
  go_wp2_with ((go_at_call 64; refine (rg_inside i 1 many _ hm).mono ?_; rintro e w1 ⟨rfl, rfl⟩; rw [hin]))
  go_loopw [2, 9, 10] (fun dv l at_ wr => ∃ k : Nat, k ≤ 1 ∧ at_ = .int .i64 ((from_ : Int) + i + k) ∧ dv = .string (if k = 0 then s else ⟨#[]⟩) ∧ OwnSecs wr w.heap.size l (if k = 0 then [] else [⟨(from_ : Int) + i, s⟩]) ∧ Below w.heap.size w wr) (fun dv _ _ _ => match dv with | .string t => t.size | _ => 0)
  case atStart => exact ⟨0, by omega, by simp, rfl, OwnSecs.nil _ _, Below.refl _ _⟩
  case round =>
    obtain ⟨k, hk, rfl, rfl, hown, hb⟩ := hrel
    have HB := Lib.hid hb
    clear hb
    by_cases hlt : k < 1
    · obtain rfl : k = 0 := by omega
      rw [if_pos rfl] at hown
      have HW := Lib.hid hown
      have hes := HE.out
      go_wp2_with (at_builtin; refine wpList_append_own_at _ rfl _ _ 22 rfl w.heap.size 59 i0 (.agg #[.int .i64 0, .string ⟨#[]⟩]) 2 24 Try.underlying22 hi0 hz0 hz1 hz2 rfl (by decide) u9 0 [] rfl (HW.out.alloc _) ⟨wr.heap.size, 0, none⟩ 1 1 [.int .i64 ((from_ : Int) + i), .string s] rfl rfl ?_ ?_ ?_ ?_ ?_ ?_)
      · intro j u hu
        match j, hu with
        | 0, hu => obtain rfl : Value.int .i64 _ = u := by simpa using hu
                   simp [Addr.add]
        | 1, hu => obtain rfl : Value.string _ = u := by simpa using hu
                   simp [Addr.add, HT.out]
        | j + 2, hu => simp at hu
      · intro u hu; simp at hu; rcases hu with rfl | rfl <;> rfl
      · unfold maxLen; omega
      · omega
      · have := HB.out.size; simp; omega
      intro v' w3 hown' hgrow _ hat
      have HB3 := Lib.hid (show Below w.heap.size w w3 from by
        have hal : Below w.heap.size w (wr.alloc (.cells #[.int .i64 ((from_ : Int) + i), .string (s.extract 0 64)] 59)) := HB.out.alloc HB.out.size _
        refine ⟨hgrow.os.trans hal.os, hgrow.tape.trans hal.tape, hgrow.output.trans hal.output, Nat.le_trans hal.size hgrow.size, fun j hj => (hgrow.block j (Nat.lt_of_lt_of_le hj hal.size) ?_).trans (hal.block j hj)⟩
        intro e
        have := (own_lt HW.out e.symm).2
        omega)
      have HOWN := Lib.hid (show OwnSecs w3 w.heap.size v' [⟨(from_ : Int) + i, s⟩] from hown')
      have hu := HU.out
      obtain ⟨gv, capv, rfl, _⟩ := World.ownsRow.form hown' (by omega)
      clear hown' hgrow hat
      go_wp2
      go_roundw
      case rel => exact ⟨1, by omega, by go_num, by first | rfl | (rw [HU.out]; rfl), HOWN.out, HB3.out⟩
      case measure => show ByteArray.empty.size < s.size; rw [hs]; decide
    · obtain rfl : k = 1 := by omega
      go_wp2
      go_ret2
      exact ⟨_, rfl, hown, HB.out⟩

def WritePost (w : World) (base r : Nat) (p : Dpl) (many : Nat) (L : List ByteArray) (B : Nat) (e : Ending) (w' : World) : Prop :=
  e = .returned (.int .i64 0) ∧ ∃ p', LogDone w w' base r p many L B p'

set_option maxRecDepth 100000 in
set_option maxHeartbeats 1000000 in
theorem rg_write (w : World) (base r : Nat) (p : Dpl) (many : Nat) (L : List ByteArray) (B : Nat) (h : LogAt w base r p many L B) (hB : B ≤ 90000) (hbase : base ≤ w.heap.size) (i : Nat) (hi : i < many) (d : ByteArray) (hd : d.size = 64) :
    Calls Try.prog 50 #[.pointer (some ⟨r, 0, none⟩), .int .i64 i, .string d] w fun e w' => WritePost w base r p many (L.set i d) (B + 1) e w' := by
  obtain ⟨from_, hface⟩ := h.face (by omega)
  have H := Lib.hid h
  have HF := Lib.hid hface
  have HD := Lib.hid hd
  clear h hface hd
  go_enter Try.func50, Try.ntmps50
  go_wp2_with fail
  refine (rg_split _ r p.d from_ many HF.out.box HF.out.le i hi d HD.out).mono ?_
  rintro e w1 ⟨v, rfl, hown, hb1⟩
  obtain ⟨g, cap, rfl, hcap⟩ := hown.at_ (by show 0 < 1; omega)
  obtain ⟨A, c, he, _, hsecs⟩ := hown.form
  injection he with he1 he2 he3
  subst he1
  obtain ⟨ad, he4, ca, cd⟩ := hsecs.at_ 0 (by show 0 < 1; omega)
  obtain rfl := Option.some.inj he4
  have ca' : w1.cell? ⟨g, 0, none⟩ = some (.int .i64 ((from_ : Int) + i)) := ca
  have cd' : w1.cell? ⟨g, 1, none⟩ = some (.string d) := cd
  clear ca cd he4 he2 he3
  have HB1 := Lib.hid hb1
  have c0 := (HF.out.box.below hb1 HF.out.box.lt).cell (i := 0) rfl
  have HLT := Lib.hid (Nat.lt_of_lt_of_le H.out.r_lt hb1.size)
  clear hown hsecs hcap hb1
  go_wp2
  go_loopw [21] (fun j wr => ∃ k : Nat, k ≤ 1 ∧ j = .int .i64 k ∧ (k = 0 → wr = w1) ∧ (k = 1 → ∃ p', LogDone w wr base r p many (L.set i d) (B + 1) p')) (fun j _ => 1 - (intOf j).toNat)
  case atStart => exact ⟨0, by omega, rfl, fun _ => rfl, fun h => by omega⟩
  case round =>
    obtain ⟨k, hk, rfl, h0, h1⟩ := hrel
    by_cases hlt : k < 1
    · obtain rfl : k = 0 := by omega
      obtain rfl := h0 rfl
      clear h1 h0
      obtain ⟨wa, hwa⟩ : ∃ wa, wr.alloc (.cells #[.int .i64 ((from_ : Int) + i), .string d] 59) = wa := ⟨_, rfl⟩
      have HBX : Blk wa wr.heap.size #[.int .i64 ((from_ : Int) + i), .string d] 59 := by rw [← hwa]; exact Blk.alloc _ _ _
      have HBA := Lib.hid (show Below wr.heap.size wr wa from by rw [← hwa]; exact (Below.refl _ _).alloc (Nat.le_refl _) _)
      have HBW := Lib.hid (below_trans HB1.out HBA.out)
      go_wp2
      have d0 := HBX.cell (i := 0) rfl
      have d1 := HBX.cell (i := 1) rfl
      have c0' := (HF.out.box.below HBW.out HF.out.box.lt).cell (i := 0) rfl
      clear hwa c0 ca' cd' HBX
      first | go_region_with (first | (go_at_call 71; refine (HF.out.write hbase _ (by exact ⟨HBW.out.os, HBW.out.tape, HBW.out.output, HBW.out.size, HBW.out.block⟩) i d hi HD.out).mono ?_; rintro e w2 ⟨rfl, p', hd2⟩; have HD2 := Lib.hid (LogDone.upon (w := w) (by exact ⟨HBW.out.os, HBW.out.tape, HBW.out.output, HBW.out.size, HBW.out.block⟩) hd2); clear hd2)) | fail
      all_goals
        go_wp2
        go_roundw
        case rel => exact ⟨1, by omega, by go_num, fun h => by omega, fun _ => ⟨_, HD2.out⟩⟩
        case measure => simp [intOf]
    · obtain rfl : k = 1 := by omega
      obtain ⟨p', hdone⟩ := h1 rfl
      have HDN := Lib.hid hdone
      clear h1 h0 hdone
      go_wp2
      go_ret
      exact ⟨rfl, _, HDN.out⟩

set_option maxRecDepth 100000 in
theorem rg_flush (w : World) (base r : Nat) (p : Dpl) (many : Nat) (L : List ByteArray) (B : Nat) (h : LogAt w base r p many L B) (hB : B ≤ 90000) :
    Calls Try.prog 52 #[.pointer (some ⟨r, 0, none⟩)] w fun e w' => WritePost w base r p many L (B + 1) e w' := by
  obtain ⟨from_, hface⟩ := h.face (by omega)
  have c0 := hface.box.cell (i := 0) rfl
  have HF := Lib.hid hface
  clear h hface
  go_enter Try.func52, Try.ntmps52
  go_wp2_with fail
  refine (HF.out.flush _ (Below.refl _ _)).mono ?_
  rintro e w1 ⟨rfl, p', hdone⟩
  have HDN := Lib.hid hdone
  clear hdone
  go_wp2
  go_ret
  exact ⟨rfl, _, HDN.out⟩
end Go.Proofs.Ytgdkchjicggdlaa

/- logscan: round a log; laying one sector of a record. -/
namespace Go.Proofs.Ytgdkchjicggdlaa
open Go.RowKit Go.Proofs.YtgdkchjicggdlaaW.PrintWords

set_option maxRecDepth 100000 in
theorem ls_wrap (r d from_ many : Nat) (w : World) (h : RegBox w r d from_ many) (hm : 0 < many) (hm2 : many ≤ 1000) (at_ : Nat) (ha : at_ ≤ 1000000) :
    Calls Try.prog 51 #[.pointer (some ⟨r, 0, none⟩), .int .i64 at_] w fun e w' => e = .returned (.int .i64 ((at_ % many : Nat) : Int)) ∧ w = w' := by
  have H := Lib.hid h
  have hmi : (many : Int) ≠ 0 := by omega
  have hmb : ((many : Int) == 0) = false := by rw [beq_eq_false_iff_ne]; exact hmi
  have HM := Lib.hid (show Int.tmod (at_ : Int) (many : Int) = ((at_ % many : Nat) : Int) from rfl)
  clear h
  go_enter Try.func51, Try.ntmps51
  go_wp2_with fail
  refine (rg_many r d from_ many _ H.out).mono ?_
  rintro e w1 ⟨rfl, rfl⟩
  go_wp2
  go_ret
  exact ⟨by first | rfl | (rw [← HM.out]), rfl⟩

def thereR (i : Int) (many : Nat) : Int := if 0 ≤ i ∧ i < many then 0 else 3
set_option maxRecDepth 100000 in
theorem ls_there (r d from_ many : Nat) (w : World) (h : RegBox w r d from_ many) (hle : from_ + many ≤ 1000) (i : Int) :
    Calls Try.prog 47 #[.pointer (some ⟨r, 0, none⟩), .int .i64 i] w fun e w' => e = .returned (.int .i64 (thereR i many)) ∧ w = w' := by
  have H := Lib.hid h
  clear h
  have HP := Lib.hid (show (placeR i from_ many).2 = thereR i many from by unfold placeR thereR; split <;> rfl)
  go_enter Try.func47, Try.ntmps47
  go_wp2_with fail
  refine (rg_place r d from_ many i _ H.out (by omega) (by omega)).mono ?_
  rintro e w1 ⟨rfl, rfl⟩
  rw [HP.out]
  go_wp2
  go_ret
  exact ⟨rfl, rfl⟩

/-- The k-th sector of bytes. -/
def chunk (s : ByteArray) (k : Nat) : ByteArray := (s.extract (k * 64) s.size).extract 0 64
theorem chunk_size (s : ByteArray) (k : Nat) (h : (k + 1) * 64 ≤ s.size) : (chunk s k).size = 64 := by
  unfold chunk
  rw [ByteArray.size_extract, ByteArray.size_extract]
  omega
structure LayBox (w : World) (b3 b4 b5 r at_ : Nat) (s : ByteArray) : Prop where
  b3 : Blk w b3 #[.pointer (some ⟨r, 0, none⟩)] 43
  b4 : Blk w b4 #[.int .i64 at_] 3
  b5 : Blk w b5 #[.string s] 9
theorem LayBox.kept {w w' : World} {b3 b4 b5 r at_ : Nat} {s : ByteArray} (h : LayBox w b3 b4 b5 r at_ s) {S : Nat → Prop} (hk : Kept w w' S) (h3 : ¬ S b3) (h4 : ¬ S b4) (h5 : ¬ S b5) : LayBox w' b3 b4 b5 r at_ s :=
  ⟨h.b3.kept hk h3, h.b4.kept hk h4, h.b5.kept hk h5⟩

set_option maxRecDepth 100000 in
set_option maxHeartbeats 1000000 in
theorem ls_lay (w : World) (base r : Nat) (p : Dpl) (many : Nat) (L : List ByteArray) (B : Nat) (h : LogAt w base r p many L B) (hB : B ≤ 90000) (hbase : base ≤ w.heap.size)
    (b3 b4 b5 at_ : Nat) (s : ByteArray) (hbx : LayBox w b3 b4 b5 r at_ s) (hnf : ∀ b, b = b3 ∨ b = b4 ∨ b = b5 → ¬ p.foot b) (ha : at_ ≤ 1000) (k : Nat) (hk : (k + 1) * 64 ≤ s.size) (hk2 : k ≤ 1000) (hpos : 0 < many) :
    Calls Try.prog 49 #[.int .i64 k, .pointer (some ⟨b3, 0, none⟩), .pointer (some ⟨b4, 0, none⟩), .pointer (some ⟨b5, 0, none⟩)] w fun e w' => WritePost w base r p many (L.set ((at_ + k) % many) (chunk s k)) (B + 1) e w' := by
  obtain ⟨from_, hface⟩ := h.face (by omega)
  have H := Lib.hid h
  have HF := Lib.hid hface
  have c3 := hbx.b3.cell (i := 0) rfl
  have c4 := hbx.b4.cell (i := 0) rfl
  have c5 := hbx.b5.cell (i := 0) rfl
  have HCH := Lib.hid (chunk_size s k hk)
  have hx1 : IntKind.i64.wrap ((at_ : Int) + k) = (at_ : Int) + k := IntWalk.i64_in _ ⟨by omega, by omega⟩
  have hx2 : IntKind.i64.wrap ((k : Int) * 64) = (k : Int) * 64 := IntWalk.i64_in _ ⟨by omega, by omega⟩
  have hx3 : ((k : Int) * 64).toNat = k * 64 := by omega
  have hx4 : 0 ≤ (k : Int) * 64 := by omega
  have hx5 : (k : Int) * 64 ≤ (s.size : Int) := by omega
  obtain ⟨t, ht⟩ : ∃ t, s.extract (k * 64) s.size = t := ⟨_, rfl⟩
  have hx6 : 64 ≤ t.size := by rw [← ht, ByteArray.size_extract]; omega
  have hx7 : (64 : Int) ≤ (t.size : Int) := by omega
  obtain ⟨c, hc⟩ : ∃ c, t.extract 0 64 = c := ⟨_, rfl⟩
  have HC := Lib.hid (show chunk s k = c from by unfold chunk; rw [ht, hc])
  obtain ⟨q, hq⟩ : ∃ q, (at_ + k) % many = q := ⟨_, rfl⟩
  have HQ := Lib.hid hq
  have hx8 : k * 64 ≤ s.size := by omega
  have HI := Lib.hid (show q < many from by rw [← hq]; exact Nat.mod_lt (at_ + k) hpos)
  have HWR := Lib.hid (show ∀ W, Below w.heap.size w W → Calls Try.prog 51 #[.pointer (some ⟨r, 0, none⟩), .int .i64 ((at_ : Int) + k)] W fun e w' => e = .returned (.int .i64 q) ∧ W = w' from fun W hW => by
    have := ls_wrap r p.d from_ many W (hface.box.below hW hface.box.lt) hpos (by have := hface.le; omega) (at_ + k) (by omega)
    rw [hq] at this
    exact this)
  rw [HC.out, HQ.out]
  rw [HC.out] at HCH
  have HNF := Lib.hid (show ∀ b, b = b3 ∨ b = b4 ∨ b = b5 → ¬ p.foot b from hnf)
  have HBX := Lib.hid hbx
  clear h hface hbx hk hq hnf
  go_enter Try.func49, Try.ntmps49
  go_wp2
  go_region_held3 (fun W => W.cell? ⟨b3, 0, none⟩ = some (.pointer (some ⟨r, 0, none⟩)) ∧ W.cell? ⟨b4, 0, none⟩ = some (.int .i64 at_) ∧ W.cell? ⟨b5, 0, none⟩ = some (.string s)) (first | exact ⟨c3, c4, c5⟩ | exact HS2.out) (first
    | (go_at_call 51; refine (HWR.out _ (by exact ⟨rfl, rfl, rfl, Nat.le_refl _, fun _ _ => rfl⟩)).mono ?_; rintro e w1 ⟨rfl, rfl⟩)
    | (go_at_call 50; refine (rg_write _ base r p many L B (H.out.below (below_drew _)) hB hbase q HI.out c HCH.out).mono ?_; rintro e w2 ⟨rfl, p', hd2⟩; have HD2 := Lib.hid (LogDone.upon (w := w) (below_drew _) hd2); have HS2 := Lib.hid (show w2.cell? ⟨b3, 0, none⟩ = some (.pointer (some ⟨r, 0, none⟩)) ∧ w2.cell? ⟨b4, 0, none⟩ = some (.int .i64 at_) ∧ w2.cell? ⟨b5, 0, none⟩ = some (.string s) from (by have hb2 := HBX.out.kept HD2.out.kept (HNF.out _ (.inl rfl)) (HNF.out _ (.inr (.inl rfl))) (HNF.out _ (.inr (.inr rfl))); exact ⟨hb2.b3.cell rfl, hb2.b4.cell rfl, hb2.b5.cell rfl⟩)); clear hd2))
  all_goals
    go_wp2
    go_ret
    exact ⟨rfl, _, HD2.out⟩
end Go.Proofs.Ytgdkchjicggdlaa
