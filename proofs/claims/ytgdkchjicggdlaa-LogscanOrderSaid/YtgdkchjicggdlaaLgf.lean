/- logscan.Put. -/
import Derived.Test.YtgdkchjicggdlaaLgc
import Derived.Test.YtgdkchjicggdlaaDso
namespace Go.Proofs.Ytgdkchjicggdlaa
open Go.RowKit Go.Proofs.YtgdkchjicggdlaaW.PrintWords

/-- After the sectors 1, 2, .. k of a record. -/
def layTo (L : List ByteArray) (many at_ : Nat) (s : ByteArray) : Nat → List ByteArray
  | 0 => L
  | k + 1 => (layTo L many at_ s k).set ((at_ + (k + 1)) % many) (chunk s (k + 1))
def putL (L : List ByteArray) (many at_ : Nat) (s : ByteArray) (n : Nat) : List ByteArray := (layTo L many at_ s (n - 1)).set ((at_ + 0) % many) (chunk s 0)

theorem enters_lay : ∀ args w, (callFunc 49 args).run Try.prog w = .ok (.enter 49 args) w := enters_of Try.func49 (by kernel_rfl) rfl

set_option maxRecDepth 100000 in
set_option maxHeartbeats 1000000 in
theorem ls_put_ok (w : World) (base r : Nat) (p : Dpl) (many : Nat) (L : List ByteArray) (B : Nat) (h : LogAt w base r p many L B) (hB : B ≤ 80000) (hbase : base ≤ w.heap.size)
    (at_ : Nat) (s : ByteArray) (n : Nat) (ha : at_ < many) (hs : s.size = n * 64) (hn : 1 ≤ n) (hn2 : n ≤ many) :
    Calls Try.prog 21 #[.pointer (some ⟨r, 0, none⟩), .int .i64 at_, .string s] w fun e w' => WritePost w base r p many (putL L many at_ s n) (B + n + 1) e w' := by
  obtain ⟨from_, hface⟩ := h.face (by omega)
  have hle := hface.le
  have henter := enters_lay
  have H := Lib.hid h
  have HS := Lib.hid hs
  have hd : ((s.size : Int) / 64) = (n : Int) := by omega
  have hne : ((s.size : Int) != (n : Int) * 64) = false := by rw [bne_eq_false_iff_eq]; omega
  have hwr : IntKind.i64.wrap ((n : Int) * 64) = (n : Int) * 64 := IntWalk.i64_in _ ⟨by omega, by omega⟩
  have hnz : ((n : Int) == 0) = false := by rw [beq_eq_false_iff_ne]; omega
  have hth : thereR at_ many = 0 := by unfold thereR; rw [if_pos ⟨by omega, by omega⟩]
  have hgt : ¬ many < n := by omega
  obtain ⟨wa, hwa⟩ : ∃ wa, ((w.alloc (.cells #[.pointer (some ⟨r, 0, none⟩)] 43)).alloc (.cells #[.int .i64 at_] 3)).alloc (.cells #[.string s] 9) = wa := ⟨_, rfl⟩
  have HA := Lib.hid (show Below w.heap.size w wa from by rw [← hwa]; exact (((Below.refl _ _).alloc (Nat.le_refl _) _).alloc (by simp) _).alloc (by simp; omega) _)
  have hbx : LayBox wa w.heap.size (w.heap.size + 1) (w.heap.size + 2) r at_ s := by
    rw [← hwa]
    refine ⟨?_, ?_, ?_⟩
    · exact ((Blk.alloc w _ _).below ((Below.refl _ _).alloc (Nat.le_refl _) _) (by simp)).below ((Below.refl _ _).alloc (Nat.le_refl _) _) (by simp; omega)
    · exact (blk_new (by simp)).below ((Below.refl _ _).alloc (Nat.le_refl _) _) (by simp)
    · exact blk_new (by simp)
  have c3 := hbx.b3.cell (i := 0) rfl
  have c4 := hbx.b4.cell (i := 0) rfl
  have c5 := hbx.b5.cell (i := 0) rfl
  have HBX := Lib.hid hbx
  have HF := Lib.hid (show RegBox wa r p.d from_ many from hface.box.below HA.out hface.box.lt)
  clear h hface hs hbx
  go_enter Try.func21, Try.ntmps21
  go_wp2_with (first
    | (go_at_call 47; refine (ls_there r p.d from_ many _ HF.out hle at_).mono ?_; rintro e w1 ⟨rfl, rfl⟩; rw [hth])
    | (go_at_call 48; refine (rg_many r p.d from_ many _ HF.out).mono ?_; rintro e w1 ⟨rfl, rfl⟩))
  have HFT := Lib.hid (show ∀ b, p.foot b → b < w.heap.size from fun b hb => (H.out.foot_in hb).1)
  have HSZ := Lib.hid (show wa.heap.size = w.heap.size + 3 from by rw [← hwa]; simp)
  have HLA := Lib.hid (H.out.below HA.out)
  clear hwa c3 c4 c5
  go_loopw [10] (fun i wr => ∃ k : Nat, 1 ≤ k ∧ k ≤ n ∧ i = .int .i64 k ∧ ∃ p1, LogDone wa wr base r p many (layTo L many at_ s (k - 1)) (B + (k - 1)) p1) (fun i _ => n - (intOf i).toNat)
  case atStart => exact ⟨1, by omega, hn, rfl, p, LogDone.refl HLA.out⟩
  case round =>
    obtain ⟨k, hk1, hk2, rfl, p1, hdone⟩ := hrel
    have HD := Lib.hid hdone
    have HNF := Lib.hid (show ∀ b, b = w.heap.size ∨ b = w.heap.size + 1 ∨ b = w.heap.size + 2 → ¬ p1.foot b from fun b hb => by
      have hs := HSZ.out
      refine hdone.not_foot (by omega) (fun x => ?_)
      have := HFT.out b x
      omega)
    have hbx := HBX.out.kept hdone.kept (fun x => by have := HFT.out _ x; omega) (fun x => by have := HFT.out _ x; omega) (fun x => by have := HFT.out _ x; omega)
    have HBR := Lib.hid hbx
    have c3 := hbx.b3.cell (i := 0) rfl
    clear hdone hbx
    by_cases hlt : k < n
    · obtain ⟨j, rfl⟩ : ∃ j, k = j + 1 := ⟨k - 1, by omega⟩
      go_wp2_with fail
      refine (ls_lay _ base r p1 many _ (B + j) HD.out.at_ (by omega) (by have := HD.out.size; have := HA.out.size; omega) _ _ _ at_ s HBR.out HNF.out (by omega) (j + 1) (by have := HS.out; omega) (by omega) (by omega)).mono ?_
      rintro e w2 ⟨rfl, p2, hd2⟩
      have HD2 := Lib.hid (LogDone.then_ HD.out hd2)
      clear hd2
      go_wp2
      go_roundw
      case rel => exact ⟨j + 1 + 1, by omega, by omega, by go_num, p2, HD2.out⟩
      case measure => simp [intOf]; omega
    · obtain rfl : k = n := by omega
      by_cases h1 : 1 < k
      · go_wp2_with fail
        refine (rg_flush _ base r p1 many _ (B + (k - 1)) HD.out.at_ (by omega)).mono ?_
        rintro e w2 ⟨rfl, p2, hd2⟩
        have HD2 := Lib.hid (LogDone.then_ HD.out hd2)
        have HNF2 := Lib.hid (show ∀ b, b = w.heap.size ∨ b = w.heap.size + 1 ∨ b = w.heap.size + 2 → ¬ p2.foot b from fun b hb => by
          have hs := HSZ.out
          refine HD2.out.not_foot (by omega) (fun x => ?_)
          have := HFT.out b x
          omega)
        have HBR2 := Lib.hid (HBX.out.kept HD2.out.kept (fun x => by have := HFT.out _ x; omega) (fun x => by have := HFT.out _ x; omega) (fun x => by have := HFT.out _ x; omega))
        clear hd2
        go_wp2_with fail
        refine (ls_lay _ base r p2 many _ (B + (k - 1) + 1) HD2.out.at_ (by omega) (by have := HD2.out.size; have := HA.out.size; omega) _ _ _ at_ s HBR2.out HNF2.out (by omega) 0 (by have := HS.out; omega) (by omega) (by omega)).mono ?_
        rintro e w3 ⟨rfl, p3, hd3⟩
        have HD3 := Lib.hid (LogDone.upon HA.out (LogDone.then_ HD2.out hd3))
        clear hd3
        go_wp2
        go_ret
        exact ⟨rfl, p3, by have := HD3.out; rw [show B + (k - 1) + 1 + 1 = B + k + 1 from by omega] at this; exact this⟩
      · go_wp2_with fail
        refine (ls_lay _ base r p1 many _ (B + (k - 1)) HD.out.at_ (by omega) (by have := HD.out.size; have := HA.out.size; omega) _ _ _ at_ s HBR.out HNF.out (by omega) 0 (by have := HS.out; omega) (by omega) (by omega)).mono ?_
        rintro e w3 ⟨rfl, p3, hd3⟩
        have HD3 := Lib.hid (LogDone.upon HA.out (LogDone.then_ HD.out hd3))
        clear hd3
        go_wp2
        go_ret
        exact ⟨rfl, p3, ⟨HD3.out.at_.more (by omega), HD3.out.foot, HD3.out.kept, HD3.out.rest⟩⟩
end Go.Proofs.Ytgdkchjicggdlaa

/- logscan.Put where it refuses; whatever it is given. -/
namespace Go.Proofs.Ytgdkchjicggdlaa
open Go.RowKit Go.Proofs.YtgdkchjicggdlaaW.PrintWords

def NotPost (w : World) (e : Ending) (w' : World) : Prop := ∃ v, e = .returned (.int .i64 v) ∧ Below w.heap.size w w'

set_option maxRecDepth 100000 in
set_option maxHeartbeats 1000000 in
theorem ls_put_not (w : World) (base r : Nat) (p : Dpl) (many : Nat) (L : List ByteArray) (B : Nat) (h : LogAt w base r p many L B) (hB : B ≤ 80000)
    (at_ : Int) (s : ByteArray) (hsz : s.size ≤ 1000000) (hn : ¬ (0 ≤ at_ ∧ at_ < many ∧ s.size = s.size / 64 * 64 ∧ 1 ≤ s.size / 64 ∧ s.size / 64 ≤ many)) :
    Calls Try.prog 21 #[.pointer (some ⟨r, 0, none⟩), .int .i64 at_, .string s] w fun e w' => NotPost w e w' := by
  obtain ⟨from_, hface⟩ := h.face (by omega)
  have hle := hface.le
  obtain ⟨n, hnn⟩ : ∃ n, s.size / 64 = n := ⟨_, rfl⟩
  rw [hnn] at hn
  have hd : ((s.size : Int) / 64) = (n : Int) := by omega
  have hwr : IntKind.i64.wrap ((n : Int) * 64) = (n : Int) * 64 := IntWalk.i64_in _ ⟨by omega, by omega⟩
  obtain ⟨wa, hwa⟩ : ∃ wa, ((w.alloc (.cells #[.pointer (some ⟨r, 0, none⟩)] 43)).alloc (.cells #[.int .i64 at_] 3)).alloc (.cells #[.string s] 9) = wa := ⟨_, rfl⟩
  have HA := Lib.hid (show Below w.heap.size w wa from by rw [← hwa]; exact (((Below.refl _ _).alloc (Nat.le_refl _) _).alloc (by simp) _).alloc (by simp; omega) _)
  have c3 : wa.cell? ⟨w.heap.size, 0, none⟩ = some (.pointer (some ⟨r, 0, none⟩)) := by
    rw [← hwa]
    exact (((Blk.alloc w _ _).below ((Below.refl _ _).alloc (Nat.le_refl _) _) (by simp)).below ((Below.refl _ _).alloc (Nat.le_refl _) _) (by simp; omega)).cell (i := 0) rfl
  have c4 : wa.cell? ⟨w.heap.size + 1, 0, none⟩ = some (.int .i64 at_) := by
    rw [← hwa]
    exact ((blk_new (n := w.heap.size + 1) (by simp)).below ((Below.refl _ _).alloc (Nat.le_refl _) _) (by simp)).cell (i := 0) rfl
  have c5 : wa.cell? ⟨w.heap.size + 2, 0, none⟩ = some (.string s) := by
    rw [← hwa]
    exact (blk_new (n := w.heap.size + 2) (by simp)).cell (i := 0) rfl
  have HF := Lib.hid (show RegBox wa r p.d from_ many from hface.box.below HA.out hface.box.lt)
  have ht : thereR at_ many = 0 ∨ thereR at_ many = 3 := by unfold thereR; split <;> simp
  by_cases h0 : n = 0
  · have hnz : ((n : Int) == 0) = true := by rw [beq_iff_eq]; omega
    clear h hface hn hnn h0
    rcases ht with ht | ht
    all_goals
      go_enter Try.func21, Try.ntmps21
      go_wp2_with (first
        | (go_at_call 47; refine (ls_there r p.d from_ many _ HF.out hle at_).mono ?_; rintro e w1 ⟨rfl, rfl⟩; rw [ht])
        | (go_at_call 48; refine (rg_many r p.d from_ many _ HF.out).mono ?_; rintro e w1 ⟨rfl, rfl⟩))
      go_ret
      exact ⟨_, rfl, HA.out⟩
  have hnz : ((n : Int) == 0) = false := by rw [beq_eq_false_iff_ne]; omega
  by_cases h1 : s.size = n * 64
  · have hne : ((s.size : Int) != (n : Int) * 64) = false := by rw [bne_eq_false_iff_eq]; omega
    by_cases h2 : 0 ≤ at_ ∧ at_ < many
    · have htz : thereR at_ many = 0 := by unfold thereR; rw [if_pos h2]
      have hgt : many < n := by omega
      clear h hface hn hnn h0 h1 h2 ht
      go_enter Try.func21, Try.ntmps21
      go_wp2_with (first
        | (go_at_call 47; refine (ls_there r p.d from_ many _ HF.out hle at_).mono ?_; rintro e w1 ⟨rfl, rfl⟩; rw [htz])
        | (go_at_call 48; refine (rg_many r p.d from_ many _ HF.out).mono ?_; rintro e w1 ⟨rfl, rfl⟩))
      go_ret
      exact ⟨_, rfl, HA.out⟩
    · have htz : thereR at_ many = 3 := by unfold thereR; rw [if_neg h2]
      clear h hface hn hnn h0 h1 h2 ht
      go_enter Try.func21, Try.ntmps21
      go_wp2_with (first
        | (go_at_call 47; refine (ls_there r p.d from_ many _ HF.out hle at_).mono ?_; rintro e w1 ⟨rfl, rfl⟩; rw [htz])
        | (go_at_call 48; refine (rg_many r p.d from_ many _ HF.out).mono ?_; rintro e w1 ⟨rfl, rfl⟩))
      go_ret
      exact ⟨_, rfl, HA.out⟩
  · have hne : ((s.size : Int) != (n : Int) * 64) = true := by rw [bne_iff_ne]; omega
    clear h hface hn hnn h0 h1
    rcases ht with ht | ht
    all_goals
      go_enter Try.func21, Try.ntmps21
      go_wp2_with (first
        | (go_at_call 47; refine (ls_there r p.d from_ many _ HF.out hle at_).mono ?_; rintro e w1 ⟨rfl, rfl⟩; rw [ht])
        | (go_at_call 48; refine (rg_many r p.d from_ many _ HF.out).mono ?_; rintro e w1 ⟨rfl, rfl⟩))
      go_ret
      exact ⟨_, rfl, HA.out⟩

/-- Whatever is put: the log is a log still. -/
def AnyPut (w : World) (base r : Nat) (p : Dpl) (many B : Nat) (e : Ending) (w' : World) : Prop :=
  ∃ v L' p', e = .returned (.int .i64 v) ∧ LogDone w w' base r p many L' B p'
theorem ls_put_any (w : World) (base r : Nat) (p : Dpl) (many : Nat) (L : List ByteArray) (B : Nat) (h : LogAt w base r p many L B) (hB : B ≤ 80000) (hbase : base ≤ w.heap.size)
    (at_ : Int) (s : ByteArray) (hsz : s.size ≤ 1000000) :
    Calls Try.prog 21 #[.pointer (some ⟨r, 0, none⟩), .int .i64 at_, .string s] w fun e w' => AnyPut w base r p many (B + many + 1) e w' := by
  by_cases hn : 0 ≤ at_ ∧ at_ < many ∧ s.size = s.size / 64 * 64 ∧ 1 ≤ s.size / 64 ∧ s.size / 64 ≤ many
  · obtain ⟨a, rfl⟩ := Int.eq_ofNat_of_zero_le hn.1
    refine (ls_put_ok w base r p many L B h hB hbase a s (s.size / 64) (by omega) hn.2.2.1 hn.2.2.2.1 hn.2.2.2.2).mono ?_
    rintro e w' ⟨rfl, p', hd⟩
    exact ⟨0, _, p', rfl, ⟨hd.at_.more (by omega), hd.foot, hd.kept, hd.rest⟩⟩
  · refine (ls_put_not w base r p many L B h hB at_ s hsz hn).mono ?_
    rintro e w' ⟨v, rfl, hb⟩
    exact ⟨v, L, p, rfl, (LogDone.refl (h.more (by omega))).below hb⟩
end Go.Proofs.Ytgdkchjicggdlaa
