/- A log made: region.New, the document's, both. -/
import Derived.Test.YtgdkchjicggdlaaLgo
import Derived.Test.YtgdkchjicggdlaaLgl
import Derived.Test.YtgdkchjicggdlaaDso
namespace Go.Proofs.Ytgdkchjicggdlaa
open Go.RowKit Go.Proofs.YtgdkchjicggdlaaW.PrintWords

theorem layAll_nil (s : List ByteArray) : layAll s [] = s := rfl
theorem FineD.fresh (n : Nat) : FineD (Dk.fresh n) (List.replicate n zero64) where
  off := rfl
  at_ := rfl
  fails := rfl
  len := rfl
  lays := rfl
  over := fun i s h => by simp [Dk.over, Dk.fresh, mget] at h
  bare := fun _ _ => rfl

set_option maxRecDepth 100000 in
theorem rg_new (w : World) (base : Nat) (p : Dpl) (n : Nat) (h : DiskAt w base p (Dk.fresh n)) (ha : ¬ p.foot w.heap.size) (from_ many : Nat) (hn : n ≤ 1000) (hle : from_ + many ≤ n) (fi mi : Int) (hfi : fi = from_) (hmi : mi = many) :
    Calls Try.prog 42 #[.pointer (some ⟨p.d, 0, none⟩), .int .i64 fi, .int .i64 mi] w fun e w' => e = .returned (.tuple #[.pointer (some ⟨w.heap.size, 0, none⟩), .int .i64 0]) ∧ LogAt w' base w.heap.size p many (List.replicate many zero64) 0 ∧ Below w.heap.size w w' := by
  subst hfi hmi
  have H := Lib.hid h
  have HSL := Lib.hid (show (Dk.fresh n).sure.length = n from List.length_replicate)
  have hin : inside from_ many n = true := by unfold inside; simp; omega
  have HLOG := Lib.hid (show LogAt (w.alloc (.cells #[.pointer (some ⟨p.d, 0, none⟩), .int .i64 from_, .int .i64 many] 106)) base w.heap.size p many (List.replicate many zero64) 0 from by
    refine ⟨⟨Dk.fresh n, List.replicate n zero64, from_, h.below ((Below.refl _ _).alloc (Nat.le_refl _) _), FineD.fresh n, Blk.alloc w _ _, by rw [List.length_replicate]; exact hle, ?_, Nat.le_refl _, Nat.le_refl _⟩, ha, fun s hs => ?_⟩
    · rw [List.drop_replicate, List.take_replicate]
      congr 1
      omega
    · rw [List.eq_of_mem_replicate hs]; rfl)
  have HB := Lib.hid (show ∀ o, Below w.heap.size w (w.alloc o) from fun o => (Below.refl _ _).alloc (Nat.le_refl _) _)
  clear h
  go_enter Try.func42, Try.ntmps42
  go_wp2_with (first
    | (go_at_call 65; refine (dk_sectors _ base p _ H.out).mono ?_; rintro e w1 ⟨rfl, rfl⟩; rw [HSL.out])
    | (go_at_call 64; refine (rg_inside from_ many n _ hn).mono ?_; rintro e w1 ⟨rfl, rfl⟩; rw [hin]))
  go_ret2
  exact ⟨rfl, HLOG.out, HB.out _⟩
set_option maxRecDepth 100000 in
theorem rg_new_not (w : World) (base : Nat) (p : Dpl) (n : Nat) (h : DiskAt w base p (Dk.fresh n)) (fi mi : Int) (hn : n ≤ 1000) (hin : inside fi mi n = false) :
    Calls Try.prog 42 #[.pointer (some ⟨p.d, 0, none⟩), .int .i64 fi, .int .i64 mi] w fun e w' => e = .returned (.tuple #[.pointer none, .int .i64 3]) ∧ w = w' := by
  have H := Lib.hid h
  have HSL := Lib.hid (show (Dk.fresh n).sure.length = n from List.length_replicate)
  clear h
  go_enter Try.func42, Try.ntmps42
  go_wp2_with (first
    | (go_at_call 65; refine (dk_sectors _ base p _ H.out).mono ?_; rintro e w1 ⟨rfl, rfl⟩; rw [HSL.out])
    | (go_at_call 64; refine (rg_inside fi mi n _ hn).mono ?_; rintro e w1 ⟨rfl, rfl⟩; rw [hin]))
  go_ret2
  exact ⟨rfl, rfl⟩

set_option maxRecDepth 100000 in
theorem r9_new (w : World) (b : Nat) (s1 : Value) (A : Option Addr) (c : Nat) (h : RefDisk w b s1 (.slice A 60 c)) (many : Int) (h1 : 0 ≤ many) (h2 : many ≤ 55) :
    Calls Try.prog 46 #[.pointer (some ⟨b, 0, none⟩), .int .i64 5, .int .i64 many] w fun e w' => e = .returned (.tuple #[.pointer (some ⟨w.heap.size, 0, none⟩), .int .i64 0]) ∧ Below w.heap.size w w' := by
  have c1 := h.cell (i := 1) rfl
  have HB := Lib.hid (show ∀ o, Below w.heap.size w (w.alloc o) from fun o => (Below.refl _ _).alloc (Nat.le_refl _) _)
  clear h
  go_enter Try.func46, Try.ntmps46
  go_wp2
  go_ret2
  exact ⟨rfl, HB.out _⟩
set_option maxRecDepth 100000 in
theorem r9_new_not (w : World) (b : Nat) (s1 : Value) (A : Option Addr) (c : Nat) (h : RefDisk w b s1 (.slice A 60 c)) (many : Int) (h1 : many < 0 ∨ 55 < many) :
    Calls Try.prog 46 #[.pointer (some ⟨b, 0, none⟩), .int .i64 5, .int .i64 many] w fun e w' => e = .returned (.tuple #[.pointer none, .int .i64 3]) ∧ Below w.heap.size w w' := by
  have c1 := h.cell (i := 1) rfl
  clear h
  rcases h1 with h1 | h1
  all_goals
    go_enter Try.func46, Try.ntmps46
    go_wp2
    all_goals go_ret2
    all_goals exact ⟨rfl, Below.refl _ _⟩

theorem dk_newI (ni : Int) (n : Nat) (w : World) (base : Nat) (h1 : 1 ≤ n) (hn : n ≤ 1000) (hbase : base ≤ w.heap.size) (hni : ni = n) :
    Calls Try.prog 43 #[.int .i64 ni] w fun e w' => ∃ p, e = .returned (.pointer (some ⟨p.d, 0, none⟩)) ∧ DiskAt w' base p (Dk.fresh n) ∧ (∀ i, p.foot i → w.heap.size ≤ i) ∧ Below w.heap.size w w' := by
  subst hni
  exact dk_new n w base h1 hn hbase

def BothPost (w : World) (many : Nat) (e : Ending) (w' : World) : Prop :=
  ∃ d p r c b, e = .returned (.tuple #[.pointer (some ⟨d, 0, none⟩), .pointer (some ⟨r, 0, none⟩), .pointer (some ⟨c, 0, none⟩), .pointer (some ⟨b, 0, none⟩)]) ∧ LogAt w' w.heap.size r p many (List.replicate many zero64) 0 ∧ Below w.heap.size w w'
set_option maxRecDepth 100000 in
set_option maxHeartbeats 400000 in
theorem law12_both (w : World) (many : Nat) (h1 : 1 ≤ many) (h2 : many ≤ 55) :
    Calls Try.prog 19 #[.int .i64 many] w fun e w' => BothPost w many e w' := by
  have hm0 : ((many : Int) == 0) = false := by rw [beq_eq_false_iff_ne]; omega
  go_enter Try.func19, Try.ntmps19
  go_wp2_with fail
  refine (dk_newI 60 60 _ w.heap.size (by omega) (by omega) (Nat.le_refl _) rfl).mono ?_
  rintro e w1 ⟨p, rfl, hd1, hf1, hb1⟩
  have HD1 := Lib.hid hd1
  have HF1 := Lib.hid (fun i x => (hd1.foot_in (i := i) x).1)
  have HB1 := Lib.hid hb1
  clear hd1 hf1 hb1
  go_wp2_with fail
  refine (r8_new _).mono ?_
  rintro e w2 ⟨c, s1, A, cap, rfl, hc2, hb2⟩
  have HD2 := Lib.hid (HD1.out.below hb2)
  have HC2 := Lib.hid hc2
  have HB2 := Lib.hid (below_trans HB1.out hb2)
  have HNF := Lib.hid (show ¬ p.foot w2.heap.size from fun x => by have := HF1.out _ x; have := hb2.size; omega)
  clear hc2 hb2
  go_wp2_with fail
  refine (rg_new _ w.heap.size p 60 HD2.out HNF.out 5 many (by omega) (by omega) _ _ rfl rfl).mono ?_
  rintro e w3 ⟨rfl, hl3, hb3⟩
  have HL3 := Lib.hid hl3
  have HB3 := Lib.hid (below_trans HB2.out hb3)
  have HC3 := Lib.hid (HC2.out.below hb3 HC2.out.lt)
  clear hl3 hb3
  go_wp2_with fail
  refine (r9_new _ c s1 A cap HC3.out many (by omega) (by omega)).mono ?_
  rintro e w4 ⟨rfl, hb4⟩
  have HL4 := Lib.hid (HL3.out.below hb4)
  have HB4 := Lib.hid (below_trans HB3.out hb4)
  clear hb4
  go_wp2
  (try simp only [Exit.inBlock, Exit.then]); refine bodyPost_ret (results_four rfl _ _ _) rfl ?_
  exact ⟨_, p, _, _, _, rfl, HL4.out, HB4.out⟩

def NonePost (w : World) (e : Ending) (w' : World) : Prop := e = .returned (.tuple #[.pointer none, .pointer none, .pointer none, .pointer none]) ∧ Below w.heap.size w w'
set_option maxRecDepth 100000 in
set_option maxHeartbeats 400000 in
theorem law12_both_not (w : World) (many : Int) (h1 : many ≤ 0 ∨ 55 < many) :
    Calls Try.prog 19 #[.int .i64 many] w fun e w' => NonePost w e w' := by
  by_cases h0 : many = 0
  · subst h0
    clear h1
    go_enter Try.func19, Try.ntmps19
    go_wp2_with fail
    refine (dk_newI 60 60 _ w.heap.size (by omega) (by omega) (Nat.le_refl _) rfl).mono ?_
    rintro e w1 ⟨p, rfl, hd1, hf1, hb1⟩
    have HD1 := Lib.hid hd1
    have HF1 := Lib.hid (fun i x => (hd1.foot_in (i := i) x).1)
    have HB1 := Lib.hid hb1
    clear hd1 hf1 hb1
    go_wp2_with fail
    refine (r8_new _).mono ?_
    rintro e w2 ⟨c, s1, A, cap, rfl, hc2, hb2⟩
    have HD2 := Lib.hid (HD1.out.below hb2)
    have HC2 := Lib.hid hc2
    have HB2 := Lib.hid (below_trans HB1.out hb2)
    have HNF := Lib.hid (show ¬ p.foot w2.heap.size from fun x => by have := HF1.out _ x; have := hb2.size; omega)
    clear hc2 hb2
    go_wp2_with fail
    refine (rg_new _ w.heap.size p 60 HD2.out HNF.out 5 0 (by omega) (by omega) _ _ rfl rfl).mono ?_
    rintro e w3 ⟨rfl, hl3, hb3⟩
    have HB3 := Lib.hid (below_trans HB2.out hb3)
    have HC3 := Lib.hid (HC2.out.below hb3 HC2.out.lt)
    clear hl3 hb3
    go_wp2_with fail
    refine (r9_new _ c s1 A cap HC3.out 0 (by omega) (by omega)).mono ?_
    rintro e w4 ⟨rfl, hb4⟩
    have HB4 := Lib.hid (below_trans HB3.out hb4)
    clear hb4
    go_wp2
    (try simp only [Exit.inBlock, Exit.then]); refine bodyPost_ret (results_four rfl _ _ _) rfl ?_
    exact ⟨rfl, HB4.out⟩
  · have h2 : many < 0 ∨ 55 < many := by omega
    have hin : inside 5 many (60 : Nat) = false := by unfold inside; simp; omega
    clear h1
    go_enter Try.func19, Try.ntmps19
    go_wp2_with fail
    refine (dk_newI 60 60 _ w.heap.size (by omega) (by omega) (Nat.le_refl _) rfl).mono ?_
    rintro e w1 ⟨p, rfl, hd1, hf1, hb1⟩
    have HD1 := Lib.hid hd1
    have HB1 := Lib.hid hb1
    clear hd1 hf1 hb1
    go_wp2_with fail
    refine (r8_new _).mono ?_
    rintro e w2 ⟨c, s1, A, cap, rfl, hc2, hb2⟩
    have HD2 := Lib.hid (HD1.out.below hb2)
    have HC2 := Lib.hid hc2
    have HB2 := Lib.hid (below_trans HB1.out hb2)
    clear hc2 hb2
    go_wp2_with fail
    refine (rg_new_not _ w.heap.size p 60 HD2.out 5 many (by omega) hin).mono ?_
    rintro e w3 ⟨rfl, rfl⟩
    go_wp2_with fail
    refine (r9_new_not _ c s1 A cap HC2.out many h2).mono ?_
    rintro e w4 ⟨rfl, hb4⟩
    have HB4 := Lib.hid (below_trans HB2.out hb4)
    clear hb4
    go_wp2
    (try simp only [Exit.inBlock, Exit.then]); refine bodyPost_ret (results_four rfl _ _ _) rfl ?_
    exact ⟨rfl, HB4.out⟩
end Go.Proofs.Ytgdkchjicggdlaa
