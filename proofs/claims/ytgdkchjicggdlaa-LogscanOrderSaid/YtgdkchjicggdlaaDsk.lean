/- The disk: where it lies, and what counting a call comes to. -/
import Derived.Test.YtgdkchjicggdlaaMapi
import Derived.Test.YtgdkchjicggdlaaOwn
import Derived.Deep.QuietTactic
import Derived.StillTailTactics
import Derived.Deep.DeepFit
import Derived.IntWalk
namespace Go.Proofs.Ytgdkchjicggdlaa
open Go.RowKit Go.Proofs.YtgdkchjicggdlaaW.PrintWords

/-! ### whole numbers in a row -/
abbrev OwnInts (w : World) (base : Nat) (v : Value) (l : List Int) : Prop := w.ownsRow base 3 1 v l.length (l.map (Value.int .i64))
theorem OwnInts.form {w : World} {base : Nat} {v : Value} {l : List Int} (h : OwnInts w base v l) : (v = .slice none 0 0 ∧ l = []) ∨ ∃ g cap, v = .slice (some ⟨g, 0, none⟩) l.length cap ∧ l.length ≤ maxLen ∧ ∀ i (hi : i < l.length), w.cell? ⟨g, i, none⟩ = some (.int .i64 l[i]) := by
  obtain ⟨hl, h⟩ := h
  rcases h with ⟨h1, h2⟩ | ⟨g, cap, cur, h1, h2, h3, h4, h5, h6, h7⟩
  · exact .inl ⟨h1, List.length_eq_zero_iff.1 h2⟩
  · refine .inr ⟨g, cap, h1, by omega, fun i hi => ?_⟩
    have hx : (l.map (Value.int .i64))[i]? = some (.int .i64 l[i]) := by rw [List.getElem?_map, List.getElem?_eq_getElem hi]; rfl
    rw [← h7] at hx
    have hc : cur.toList[i]? = some (.int .i64 l[i]) := by
      rw [List.getElem?_take] at hx
      split at hx
      · exact hx
      · simp at hx
    rw [Array.getElem?_toList] at hc
    simp [World.cell?, h3, hc]

def idx (l : List Int) (x : Int) : Int := match l.findIdx? (· == x) with
  | some j => (j : Int)
  | none => -1
theorem idx_at {l : List Int} {x : Int} {k : Nat} (hk : k < l.length) (hx : l[k] = x) (hn : ∀ j (hj : j < k), l[j]'(by omega) ≠ x) : idx l x = k := by
  have : l.findIdx? (· == x) = some k := by
    rw [List.findIdx?_eq_some_iff_getElem]
    exact ⟨hk, by simpa using hx, fun j hj => by simpa using hn j hj⟩
  unfold idx
  rw [this]
theorem idx_none {l : List Int} {x : Int} (hn : ∀ j (hj : j < l.length), l[j] ≠ x) : idx l x = -1 := by
  have : l.findIdx? (· == x) = none := by
    rw [List.findIdx?_eq_none_iff]
    intro y hy
    obtain ⟨j, hj, rfl⟩ := List.getElem_of_mem hy
    simpa using hn j hj
  unfold idx
  rw [this]
theorem idx_mem (l : List Int) (x : Int) : decide (0 ≤ idx l x) = l.contains x := by
  by_cases h : x ∈ l
  · obtain ⟨j, hj, hx⟩ := List.getElem_of_mem h
    have hs : (l.findIdx? (· == x)).isSome = true := by
      rw [List.findIdx?_isSome, List.any_eq_true]
      exact ⟨x, h, by simp⟩
    obtain ⟨k, hk⟩ := Option.isSome_iff_exists.1 hs
    have e : idx l x = k := by unfold idx; rw [hk]
    rw [e]
    simp [h]
  · have e : idx l x = -1 := idx_none (fun j hj hx => h (hx ▸ List.getElem_mem hj))
    rw [e]
    simp [h]

set_option maxRecDepth 100000 in
set_option maxHeartbeats 400000 in
theorem ints_index (g cap : Nat) (l : List Int) (x : Int) (w : World) (hm : l.length ≤ maxLen) (hc : ∀ i (hi : i < l.length), w.cell? ⟨g, i, none⟩ = some (.int .i64 l[i])) :
    Calls Try.prog 95 #[.slice (some ⟨g, 0, none⟩) l.length cap, .int .i64 x] w fun e w' => e = .returned (.int .i64 (idx l x)) ∧ w = w' := by
  unfold maxLen at hm
  have HC := Lib.hid hc
  clear hc
  go_enter Try.func95, Try.ntmps95
  go_wp2
  go_loop [5, 8] (fun _ i => ∃ k : Nat, k ≤ l.length ∧ i = .int .i64 k ∧ Hid (∀ j (hj : j < k) (hl : j < l.length), l[j] ≠ x)) (fun _ i => l.length - (intOf i).toNat)
  case atStart => exact ⟨0, by omega, rfl, Lib.hid (fun j hj => by omega)⟩
  case round =>
    obtain ⟨k, hk, rfl, HN⟩ := hrel
    by_cases hlt : k < l.length
    · have hcell := HC.out k hlt
      by_cases he : l[k] = x
      · have HI := Lib.hid (idx_at hlt he (fun j hj => HN.out j hj (by omega)))
        have heb : (x == l[k]) = true := by rw [beq_iff_eq]; exact he.symm
        clear he
        go_wp2
        go_ret
        exact ⟨ret_int HI.out.symm, rfl⟩
      · have heb : (x == l[k]) = false := by rw [beq_eq_false_iff_ne]; exact fun h => he h.symm
        have HN2 := Lib.hid (show ∀ j (hj : j < k + 1) (hl : j < l.length), l[j] ≠ x from fun j hj hl => by
          rcases Nat.lt_or_ge j k with h | h
          · exact HN.out j h hl
          · obtain rfl : j = k := by omega
            exact he)
        clear he
        go_wp2
        go_round
        case rel => exact ⟨k + 1, by omega, by go_num, HN2⟩
        case measure => simp [intOf]; omega
    · obtain rfl : k = l.length := by omega
      have HI := Lib.hid (idx_none (l := l) (x := x) (fun j hj => HN.out j hj hj))
      go_wp2
      go_ret
      exact ⟨ret_int HI.out.symm, rfl⟩
set_option maxHeartbeats 400000 in
theorem ints_index_nil (x : Int) (w : World) :
    Calls Try.prog 95 #[.slice none 0 0, .int .i64 x] w fun e w' => e = .returned (.int .i64 (-1)) ∧ w = w' := by
  go_enter Try.func95, Try.ntmps95
  go_wp2
  go_loop [5, 8] (fun _ i => i = .int .i64 0) (fun _ _ => 0)
  case atStart => rfl
  case round =>
    subst hrel
    go_wp2
    go_ret
    exact ⟨rfl, rfl⟩
theorem ints_contains (base : Nat) (v : Value) (l : List Int) (x : Int) (w : World) (h : OwnInts w base v l) :
    Calls Try.prog 91 #[v, .int .i64 x] w fun e w' => e = .returned (.bool (l.contains x)) ∧ w = w' := by
  have HM := Lib.hid (idx_mem l x)
  rcases h.form with ⟨rfl, rfl⟩ | ⟨g, cap, rfl, hm, hc⟩
  · clear h
    go_enter Try.func91, Try.ntmps91
    go_wp2_with fail
    refine (ints_index_nil x _).mono ?_
    rintro e w1 ⟨rfl, rfl⟩
    go_wp2
    go_ret
    exact ⟨rfl, rfl⟩
  · clear h
    go_enter Try.func91, Try.ntmps91
    go_wp2_with fail
    refine (ints_index g cap l x _ hm hc).mono ?_
    rintro e w1 ⟨rfl, rfl⟩
    go_wp2
    go_ret
    exact ⟨by rw [HM.out]; rfl, rfl⟩

/-! ### the disk -/
/-- What a disk is: what is sure, what is seen over it, writes that wait, calls, numbers of calls that fail, the call at which it goes down, whether it is down. -/
structure Dk where
  sure : List ByteArray
  seen : List Ent
  clock : Nat
  waits : List Sec
  ops : Nat
  fails : List Int
  at_ : Int
  off : Bool
/-- Where it lies. -/
structure Dpl where
  d : Nat
  s : Nat
  m : Nat
  wv : Value
  fv : Value
structure DiskAt (w : World) (base : Nat) (p : Dpl) (k : Dk) : Prop where
  box : Blk w p.d #[.slice (some ⟨p.s, 0, none⟩) k.sure.length k.sure.length, .map (some p.m), p.wv, .int .i64 k.ops, p.fv, .int .i64 k.at_, .bool k.off] 112
  sure : Blk w p.s (k.sure.map Value.string).toArray 9
  few : k.sure.length ≤ 1000
  seen : MapAt w p.m k.seen k.clock
  waits : OwnSecs w base p.wv k.waits
  fails : OwnInts w base p.fv k.fails
  based : base ≤ p.d ∧ base ≤ p.s ∧ base ≤ p.m
  strs : ∀ i v, mget k.seen i = some v → ∃ t, v = .string t
  inside : ∀ x, x ∈ k.waits → 0 ≤ x.At ∧ x.At < k.sure.length
/-- The blocks that it lies in. -/
def Dpl.foot (p : Dpl) (i : Nat) : Prop := i = p.d ∨ i = p.s ∨ i = p.m ∨ p.wv.ownBlock = some i ∨ p.fv.ownBlock = some i

theorem own_kept {w w' : World} {base : Nat} {e : TypeId} {size n : Nat} {v : Value} {xs : List Value} (h : w.ownsRow base e size v n xs) {S : Nat → Prop} (hk : Kept w w' S) (hs : ∀ i, v.ownBlock = some i → ¬ S i) : w'.ownsRow base e size v n xs := by
  obtain ⟨hl, h⟩ := h
  refine ⟨hl, ?_⟩
  rcases h with h | ⟨g, cap, cur, h1, h2, h3, h4⟩
  · exact .inl h
  · subst h1
    exact .inr ⟨g, cap, cur, rfl, h2, blk_kept h3 hk (hs g rfl), h4⟩
theorem Blk.kept {w w' : World} {b : Nat} {cs : Array Value} {t : TypeId} (h : Blk w b cs t) {S : Nat → Prop} (hk : Kept w w' S) (hs : ¬ S b) : Blk w' b cs t := blk_kept h hk hs
theorem DiskAt.kept {w w' : World} {base : Nat} {p : Dpl} {k : Dk} (h : DiskAt w base p k) {S : Nat → Prop} (hk : Kept w w' S) (hs : ∀ i, p.foot i → ¬ S i) : DiskAt w' base p k where
  box := h.box.kept hk (hs _ (.inl rfl))
  sure := h.sure.kept hk (hs _ (.inr (.inl rfl)))
  few := h.few
  seen := blk_kept h.seen hk (hs _ (.inr (.inr (.inl rfl))))
  waits := own_kept h.waits hk (fun i hi => hs i (.inr (.inr (.inr (.inl hi)))))
  fails := own_kept h.fails hk (fun i hi => hs i (.inr (.inr (.inr (.inr hi)))))
  based := h.based
  strs := h.strs
  inside := h.inside
theorem DiskAt.below {w w' : World} {base : Nat} {p : Dpl} {k : Dk} (h : DiskAt w base p k) (hb : Below w.heap.size w w') : DiskAt w' base p k :=
  h.kept (Kept.of_below hb (fun _ => False)) (fun _ _ x => x)

theorem grown_drewN {w w' : World} {r : Option Nat} (h : w.grownBy w' r) (n : Nat) : w.grownBy (w'.drewN n) r := ⟨h.os, h.tape, h.output, h.size, h.block⟩
theorem own_type {w : World} {base : Nat} {e : TypeId} {size n : Nat} {v : Value} {xs : List Value} (h : w.ownsRow base e size v n xs) {b : Nat} {cs : Array Value} {t : TypeId} (hb : Blk w b cs t) (ht : e ≠ t) : v.ownBlock ≠ some b := by
  rcases h.2 with ⟨h1, _⟩ | ⟨g, cap, cur, h1, h2, h3, _⟩
  · subst h1; simp [Value.ownBlock]
  · subst h1
    intro e'
    simp only [Value.ownBlock, Option.some.injEq] at e'
    subst e'
    unfold Blk at hb
    rw [h3] at hb
    simp at hb
    exact ht hb.2
theorem DiskAt.ne_s {w : World} {base : Nat} {p : Dpl} {k : Dk} (h : DiskAt w base p k) : p.s ≠ p.d := fun e => by
  have h1 := h.sure
  have h2 := h.box
  unfold Blk at h1 h2
  rw [e, h2] at h1
  simp at h1
theorem DiskAt.ne_m {w : World} {base : Nat} {p : Dpl} {k : Dk} (h : DiskAt w base p k) : p.m ≠ p.d := fun e => by
  have h1 := h.seen
  have h2 := h.box
  unfold Blk at h2
  unfold MapAt at h1
  rw [e, h2] at h1
  simp at h1
/-- The struct alone was written. -/
theorem DiskAt.boxed {w w' : World} {base : Nat} {p : Dpl} {k : Dk} (h : DiskAt w base p k) (hg : w.grownBy w' (some p.d)) (ops : Nat) (at_ : Int) (off : Bool)
    (hb : Blk w' p.d #[.slice (some ⟨p.s, 0, none⟩) k.sure.length k.sure.length, .map (some p.m), p.wv, .int .i64 ops, p.fv, .int .i64 at_, .bool off] 112) : DiskAt w' base p { k with ops := ops, at_ := at_, off := off } where
  box := hb
  sure := h.sure.grown hg (fun e => h.ne_s (Option.some.inj e))
  few := h.few
  seen := by
    have h1 := h.seen
    unfold MapAt at h1 ⊢
    rw [hg.block p.m (blk_lt h1) (fun e => h.ne_m (Option.some.inj e)), h1]
  waits := h.waits.grown hg (.inr (own_type h.waits h.box (by decide)))
  fails := World.ownsRow.kept h.fails hg (.inr (own_type h.fails h.box (by decide)))
  based := h.based
  strs := h.strs
  inside := h.inside

namespace Dk
/-- A call more: what it comes to ahead of what it does, and whether the disk goes down at it. -/
def callE (k : Dk) : Int × Bool := if k.off then (31, false) else if ((k.ops + 1 : Nat) : Int) = k.at_ then (31, true) else if k.fails.contains ((k.ops + 1 : Nat) : Int) then (30, false) else (0, false)
def callD (k : Dk) : Dk := { k with ops := k.ops + 1, off := k.off || decide (((k.ops + 1 : Nat) : Int) = k.at_) }
end Dk

set_option maxRecDepth 100000 in
set_option maxHeartbeats 1000000 in
theorem dk_call (w : World) (base : Nat) (p : Dpl) (k : Dk) (h : DiskAt w base p k) (ho : k.ops ≤ 4611686018427387904) :
    Calls Try.prog 80 #[.pointer (some ⟨p.d, 0, none⟩)] w fun e w' => e = .returned (.tuple #[.int .i64 k.callE.1, .bool k.callE.2]) ∧ DiskAt w' base p k.callD ∧ w.grownBy w' (some p.d) := by
  have H := Lib.hid h
  have c3 := h.box.cell (i := 3) rfl
  have c4 := h.box.cell (i := 4) rfl
  have c5 := h.box.cell (i := 5) rfl
  have c6 := h.box.cell (i := 6) rfl
  have f3 := h.box.free 3
  have f6 := h.box.free 6
  clear h
  have HS1 := Lib.hid (Blk.set H.out.box 3 (.int .i64 (k.ops + 1 : Nat)))
  have HS2 := Lib.hid (Blk.set HS1.out 6 (.bool true))
  have hm : (k.ops : Int) + 1 ≤ 4611686018427387905 := by omega
  by_cases hoff : k.off = true
  · have HE := Lib.hid (show k.callE = (31, false) from by unfold Dk.callE; rw [if_pos hoff])
    have HD := Lib.hid (show k.callD = { k with ops := k.ops + 1, at_ := k.at_, off := k.off } from by unfold Dk.callD; rw [hoff]; rfl)
    have HC := Lib.hid hoff
    rw [hoff] at c6
    clear hoff
    go_enter Try.func80, Try.ntmps80
    go_wp2
    go_ret2
    exact ⟨by rw [HE.out]; rfl, by rw [HD.out]; exact H.out.boxed (grown_set 3 _) (k.ops + 1) k.at_ k.off HS1.out, grown_set 3 _⟩
  · have hoff' : k.off = false := by simpa using hoff
    have HC := Lib.hid hoff'
    rw [hoff'] at c6
    clear hoff hoff'
    by_cases hat : (k.ops : Int) + 1 = k.at_
    · have HE := Lib.hid (show k.callE = (31, true) from by unfold Dk.callE; rw [HC.out]; exact if_pos hat)
      have HD := Lib.hid (show k.callD = { k with ops := k.ops + 1, at_ := k.at_, off := true } from by unfold Dk.callD; rw [HC.out, show ((k.ops + 1 : Nat) : Int) = (k.ops : Int) + 1 from rfl, hat]; simp)
      have hb : ((k.ops : Int) + 1 == k.at_) = true := by rw [beq_iff_eq]; exact hat
      clear hat
      go_enter Try.func80, Try.ntmps80
      go_wp2
      go_quiet (fail)
      obtain ⟨w1, hw1⟩ : ∃ w1, (w.setCell ⟨p.d, 3, none⟩ (.int .i64 ((k.ops : Int) + 1))).drewN nq = w1 := ⟨_, rfl⟩
      rw [hw1]
      have HB1 := Lib.hid (show Blk w1 p.d #[.slice (some ⟨p.s, 0, none⟩) k.sure.length k.sure.length, .map (some p.m), p.wv, .int .i64 (k.ops + 1 : Nat), p.fv, .int .i64 k.at_, .bool k.off] 112 from by subst hw1; exact HS1.out)
      have HG1 := Lib.hid (show w.grownBy w1 (some p.d) from by subst hw1; exact grown_drewN (grown_set 3 _) nq)
      clear hw1 c3 c4 c5 c6 f3 f6 ho hm
      have f6 := HB1.out.free 6
      have c6 := HB1.out.cell (i := 6) rfl
      go_wp2
      go_ret2
      exact ⟨by rw [HE.out]; rfl, by rw [HD.out]; exact H.out.boxed (grown_trans HG1.out (grown_set 6 _)) (k.ops + 1) k.at_ true (Blk.set HB1.out 6 _), grown_trans HG1.out (grown_set 6 _)⟩
    · have HD := Lib.hid (show k.callD = { k with ops := k.ops + 1, at_ := k.at_, off := k.off } from by unfold Dk.callD; rw [HC.out, show ((k.ops + 1 : Nat) : Int) = (k.ops : Int) + 1 from rfl]; simp [hat])
      have hb : ((k.ops : Int) + 1 == k.at_) = false := by rw [beq_eq_false_iff_ne]; exact hat
      have HF := Lib.hid (show ∀ w', w.grownBy w' (some p.d) → OwnInts w' base p.fv k.fails from fun w' hg => World.ownsRow.kept H.out.fails hg (.inr (own_type H.out.fails H.out.box (by decide))))
      by_cases hfl : k.fails.contains ((k.ops : Int) + 1) = true
      · have HE := Lib.hid (show k.callE = (30, false) from by
          unfold Dk.callE
          rw [HC.out]
          simp only [Bool.false_eq_true, if_false, show ((k.ops + 1 : Nat) : Int) = (k.ops : Int) + 1 from rfl, if_neg hat, if_pos hfl])
        clear hat
        go_enter Try.func80, Try.ntmps80
        go_wp2
        go_quiet (fail)
        obtain ⟨w1, hw1⟩ : ∃ w1, (w.setCell ⟨p.d, 3, none⟩ (.int .i64 ((k.ops : Int) + 1))).drewN nq = w1 := ⟨_, rfl⟩
        rw [hw1]
        have HB1 := Lib.hid (show Blk w1 p.d #[.slice (some ⟨p.s, 0, none⟩) k.sure.length k.sure.length, .map (some p.m), p.wv, .int .i64 (k.ops + 1 : Nat), p.fv, .int .i64 k.at_, .bool k.off]   112   from by subst hw1; exact HS1.out)
        have HG1 := Lib.hid (show w.grownBy w1 (some p.d) from by subst hw1; exact grown_drewN (grown_set 3 _) nq)
        clear hw1 c3 c4 c5 c6 f3 f6 ho hm
        have c3 := HB1.out.cell (i := 3) rfl
        have c4 := HB1.out.cell (i := 4) rfl
        have c6 := HB1.out.cell (i := 6) rfl
        have hfc : ∀ n, Calls Try.prog 91 #[p.fv, .int .i64 ((k.ops : Int) + 1)] (w1.drewN n) fun e w' => e = .returned (.bool true) ∧ w' = w1.drewN n := fun n =>
          (ints_contains base p.fv k.fails _ (w1.drewN n) (HF.out w1 HG1.out)).mono (fun e w' ⟨h1, h2⟩ => ⟨by rw [h1, hfl], h2.symm⟩)
        have HFC := Lib.hid hfc
        clear hfc hfl
        go_wp2
        go_quiet ((go_at_call 91; exact Calls.quiet_of_same (HFC.out _)))
        go_wp2
        go_ret2
        exact ⟨by rw [HE.out]; rfl, by rw [HD.out]; exact H.out.boxed (grown_drewN HG1.out _) (k.ops + 1) k.at_ k.off HB1.out, grown_drewN HG1.out _⟩
      · have HE := Lib.hid (show k.callE = (0, false) from by
          unfold Dk.callE
          rw [HC.out]
          simp only [Bool.false_eq_true, if_false, show ((k.ops + 1 : Nat) : Int) = (k.ops : Int) + 1 from rfl, if_neg hat, if_neg hfl])
        replace hfl : k.fails.contains ((k.ops : Int) + 1) = false := by simpa using hfl
        clear hat
        go_enter Try.func80, Try.ntmps80
        go_wp2
        go_quiet (fail)
        obtain ⟨w1, hw1⟩ : ∃ w1, (w.setCell ⟨p.d, 3, none⟩ (.int .i64 ((k.ops : Int) + 1))).drewN nq = w1 := ⟨_, rfl⟩
        rw [hw1]
        have HB1 := Lib.hid (show Blk w1 p.d #[.slice (some ⟨p.s, 0, none⟩) k.sure.length k.sure.length, .map (some p.m), p.wv, .int .i64 (k.ops + 1 : Nat), p.fv, .int .i64 k.at_, .bool k.off]   112   from by subst hw1; exact HS1.out)
        have HG1 := Lib.hid (show w.grownBy w1 (some p.d) from by subst hw1; exact grown_drewN (grown_set 3 _) nq)
        clear hw1 c3 c4 c5 c6 f3 f6 ho hm
        have c3 := HB1.out.cell (i := 3) rfl
        have c4 := HB1.out.cell (i := 4) rfl
        have c6 := HB1.out.cell (i := 6) rfl
        have hfc : ∀ n, Calls Try.prog 91 #[p.fv, .int .i64 ((k.ops : Int) + 1)] (w1.drewN n) fun e w' => e = .returned (.bool false) ∧ w' = w1.drewN n := fun n =>
          (ints_contains base p.fv k.fails _ (w1.drewN n) (HF.out w1 HG1.out)).mono (fun e w' ⟨h1, h2⟩ => ⟨by rw [h1, hfl], h2.symm⟩)
        have HFC := Lib.hid hfc
        clear hfc hfl
        go_wp2
        go_quiet ((go_at_call 91; exact Calls.quiet_of_same (HFC.out _)))
        go_wp2
        go_ret2
        exact ⟨by rw [HE.out]; rfl, by rw [HD.out]; exact H.out.boxed (grown_drewN HG1.out _) (k.ops + 1) k.at_ k.off HB1.out, grown_drewN HG1.out _⟩
end Go.Proofs.Ytgdkchjicggdlaa

/- The disk: how many sectors, reading, writing. -/
namespace Go.Proofs.Ytgdkchjicggdlaa
open Go.RowKit Go.Proofs.YtgdkchjicggdlaaW.PrintWords

set_option maxRecDepth 100000 in
set_option maxHeartbeats 400000 in
theorem dk_sectors (w : World) (base : Nat) (p : Dpl) (k : Dk) (h : DiskAt w base p k) :
    Calls Try.prog 65 #[.pointer (some ⟨p.d, 0, none⟩)] w fun e w' => e = .returned (.int .i64 k.sure.length) ∧ w = w' := by
  have c0 := h.box.cell (i := 0) rfl
  clear h
  go_enter Try.func65, Try.ntmps65
  go_wp2
  go_ret
  exact ⟨rfl, rfl⟩

namespace Dk
def has (k : Dk) (i : Int) : Bool := decide (0 ≤ i ∧ i < k.sure.length)
def over (k : Dk) (i : Int) : Option ByteArray := match mget k.seen i with
  | some (.string s) => some s
  | _ => none
/-- What a sector is seen to hold. -/
def view (k : Dk) (i : Int) : ByteArray := (k.over i).getD (k.sure.getD i.toNat ⟨#[]⟩)
def readR (k : Dk) (i : Int) : ByteArray × Int := if k.callE.1 ≠ 0 then (⟨#[]⟩, k.callE.1) else if k.has i = false then (⟨#[]⟩, 3) else (k.view i, 0)
end Dk

set_option maxRecDepth 100000 in
set_option maxHeartbeats 400000 in
theorem dk_there (w : World) (base : Nat) (p : Dpl) (k : Dk) (i : Int) (h : DiskAt w base p k) :
    Calls Try.prog 81 #[.pointer (some ⟨p.d, 0, none⟩), .int .i64 i] w fun e w' => e = .returned (.bool (k.has i)) ∧ w = w' := by
  have H := Lib.hid h
  clear h
  by_cases h0 : 0 ≤ i
  · have HR := Lib.hid (show k.has i = decide (i < k.sure.length) from by unfold Dk.has; simp [h0])
    rw [HR.out]
    go_enter Try.func81, Try.ntmps81
    go_wp2_with ((go_at_call 65; refine (dk_sectors _ base p k H.out).mono ?_; rintro e w1 ⟨rfl, rfl⟩))
    all_goals go_ret
    all_goals exact ⟨by first | rfl | simp_all, rfl⟩
  · have HR := Lib.hid (show k.has i = false from by unfold Dk.has; simp [h0])
    rw [HR.out]
    have h1 : i < 0 := by omega
    clear h0
    go_enter Try.func81, Try.ntmps81
    go_wp2_with ((go_at_call 65; refine (dk_sectors _ base p k H.out).mono ?_; rintro e w1 ⟨rfl, rfl⟩))
    all_goals go_ret
    all_goals exact ⟨by first | rfl | simp_all, rfl⟩

theorem DiskAt.look {w : World} {base : Nat} {p : Dpl} {k : Dk} (h : DiskAt w base p k) (i : Int) :
    (Instr.lookup 109 (.map (some p.m)) (.int .i64 i) true).run Try.prog w = .ok (.tuple #[.string ((k.over i).getD ⟨#[]⟩), .bool (k.over i).isSome]) w := by
  have hz : (zeroValue 9).run Try.prog w = .ok (.string ⟨#[]⟩) w := by
    obtain ⟨j, hj, hz0, _, _⟩ := info_parts (show (Try.prog.info? 9).map (fun i => (i.zero, i.size, i.bytes)) = some (some (.string ⟨#[]⟩), 1, 16) from by kernel_rfl)
    simp only [zeroValue, typeInfo, Sem.run_bind, run_program, Result.andThen, hj, Sem.run_pure, hz0]
  rw [run_look Try.underlying109 Try.underlying3 hz h.seen i]
  unfold Dk.over
  cases hm : mget k.seen i with
  | none => rfl
  | some v =>
    obtain ⟨t, rfl⟩ := h.strs i v hm
    rfl
theorem DiskAt.sector {w : World} {base : Nat} {p : Dpl} {k : Dk} (h : DiskAt w base p k) (i : Nat) (hi : i < k.sure.length) : w.cell? ⟨p.s, i, none⟩ = some (.string (k.sure.getD i ⟨#[]⟩)) := by
  refine h.sure.cell ?_
  simp [hi]

set_option maxRecDepth 100000 in
set_option maxHeartbeats 1000000 in
theorem dk_read (w : World) (base : Nat) (p : Dpl) (k : Dk) (i : Int) (h : DiskAt w base p k) (ho : k.ops ≤ 4611686018427387904) :
    Calls Try.prog 96 #[.pointer (some ⟨p.d, 0, none⟩), .int .i64 i] w fun e w' => e = .returned (.tuple #[.string (k.readR i).1, .int .i64 (k.readR i).2]) ∧ DiskAt w' base p k.callD ∧ w.grownBy w' (some p.d) := by
  have H := Lib.hid h
  have HO := Lib.hid ho
  clear h ho
  by_cases he : k.callE.1 = 0
  · have heb : (k.callE.1 != 0) = false := by rw [bne_eq_false_iff_eq]; exact he
    by_cases hh : k.has i = true
    · have HR := Lib.hid (show k.readR i = (k.view i, 0) from by unfold Dk.readR; rw [if_neg (by simp [he]), if_neg (by simp [hh])])
      have hr : 0 ≤ i ∧ i < k.sure.length := by unfold Dk.has at hh; exact of_decide_eq_true hh
      obtain ⟨n, rfl⟩ := Int.eq_ofNat_of_zero_le hr.1
      have hn : n < k.sure.length := by omega
      have hnI : (n : Int) < k.sure.length := hr.2
      have HH := Lib.hid hh
      clear hh hr he
      cases hov : k.over n with
      | some t =>
        have HV := Lib.hid (show k.view n = t from by unfold Dk.view; rw [hov]; rfl)
        go_enter Try.func96, Try.ntmps96
        go_wp2_with fail
        refine (dk_call _ base p k H.out HO.out).mono ?_
        rintro e w1 ⟨rfl, hd1, hg1⟩
        have HD1 := Lib.hid hd1
        have HG1 := Lib.hid hg1
        have c1 := hd1.box.cell (i := 1) rfl
        have hlk := hd1.look n
        rw [show k.callD.over n = k.over n from rfl, hov] at hlk
        simp only [Option.getD_some, Option.isSome_some] at hlk
        clear hd1 hg1 hov
        go_wp2_with ((go_at_call 81; refine (dk_there _ base p k.callD n HD1.out).mono ?_; rintro e w2 ⟨rfl, rfl⟩; rw [show k.callD.has n = true from HH.out]))
        go_ret2
        exact ⟨by rw [HR.out, HV.out]; rfl, HD1.out, HG1.out⟩
      | none =>
        have HV := Lib.hid (show k.view n = k.sure[n] from by unfold Dk.view; rw [hov]; show k.sure.getD n ⟨#[]⟩ = _; rw [List.getD_eq_getElem?_getD, List.getElem?_eq_getElem hn]; rfl)
        go_enter Try.func96, Try.ntmps96
        go_wp2_with fail
        refine (dk_call _ base p k H.out HO.out).mono ?_
        rintro e w1 ⟨rfl, hd1, hg1⟩
        have HD1 := Lib.hid hd1
        have HG1 := Lib.hid hg1
        have c1 := hd1.box.cell (i := 1) rfl
        have c0 := hd1.box.cell (i := 0) rfl
        have hlk := hd1.look n
        have hsec := hd1.sector n hn
        rw [show k.callD.over n = k.over n from rfl, hov] at hlk
        simp only [Option.getD_none, Option.isSome_none] at hlk
        have hcs : k.callD.sure = k.sure := rfl
        rw [hcs] at hsec c0
        clear hd1 hg1 hov hcs
        go_wp2_with ((go_at_call 81; refine (dk_there _ base p k.callD n HD1.out).mono ?_; rintro e w2 ⟨rfl, rfl⟩; rw [show k.callD.has n = true from HH.out]))
        go_ret2
        exact ⟨by rw [HR.out, HV.out]; rfl, HD1.out, HG1.out⟩
    · have hh' : k.has i = false := by simpa using hh
      have HR := Lib.hid (show k.readR i = (⟨#[]⟩, 3) from by unfold Dk.readR; rw [if_neg (by simp [he]), if_pos hh'])
      have HH := Lib.hid hh'
      clear hh hh' he
      go_enter Try.func96, Try.ntmps96
      go_wp2_with fail
      refine (dk_call _ base p k H.out HO.out).mono ?_
      rintro e w1 ⟨rfl, hd1, hg1⟩
      have HD1 := Lib.hid hd1
      have HG1 := Lib.hid hg1
      clear hd1 hg1
      go_wp2_with ((go_at_call 81; refine (dk_there _ base p k.callD i HD1.out).mono ?_; rintro e w2 ⟨rfl, rfl⟩; rw [show k.callD.has i = false from HH.out]))
      go_ret2
      exact ⟨by rw [HR.out]; rfl, HD1.out, HG1.out⟩
  · have heb : (k.callE.1 != 0) = true := by rw [bne_iff_ne]; exact he
    have HR := Lib.hid (show k.readR i = (⟨#[]⟩, k.callE.1) from by unfold Dk.readR; rw [if_pos he])
    clear he
    go_enter Try.func96, Try.ntmps96
    go_wp2_with fail
    refine (dk_call _ base p k H.out HO.out).mono ?_
    rintro e w1 ⟨rfl, hd1, hg1⟩
    have HD1 := Lib.hid hd1
    have HG1 := Lib.hid hg1
    clear hd1 hg1
    go_wp2
    go_ret2
    exact ⟨by rw [HR.out]; rfl, HD1.out, HG1.out⟩

namespace Dk
def writeR (k : Dk) (i : Int) (data : ByteArray) : Int × Dk :=
  if k.callE.1 ≠ 0 ∧ k.callE.2 = false then (k.callE.1, k.callD)
  else if k.has i = false then ((if k.callE.2 then k.callE.1 else 3), k.callD)
  else if data.size ≠ 64 then ((if k.callE.2 then k.callE.1 else 12), k.callD)
  else (k.callE.1, { k.callD with seen := mput k.clock k.seen i (.string data), clock := mclock k.clock k.seen i, waits := k.waits ++ [⟨i, data⟩] })
end Dk
/-- A call's doing: only the disk's blocks were written, and it lies in them or in new ones. -/
structure DkDone (w w' : World) (base : Nat) (p : Dpl) (k' : Dk) (p' : Dpl) : Prop where
  at_ : DiskAt w' base p' k'
  same : p'.d = p.d ∧ p'.s = p.s ∧ p'.m = p.m
  foot : ∀ i, p'.foot i → p.foot i ∨ w.heap.size ≤ i
  kept : Kept w w' p.foot
  rest : w'.os = w.os ∧ w'.tape = w.tape ∧ w'.output = w.output
theorem DkDone.of_call {w w' : World} {base : Nat} {p : Dpl} {k : Dk} (h : DiskAt w' base p k) (hg : w.grownBy w' (some p.d)) : DkDone w w' base p k p where
  at_ := h
  same := ⟨rfl, rfl, rfl⟩
  foot := fun _ hi => .inl hi
  kept := ⟨hg.size, fun i hi hn => hg.block i hi (fun e => hn (.inl (Option.some.inj e)))⟩
  rest := ⟨hg.os, hg.tape, hg.output⟩
end Go.Proofs.Ytgdkchjicggdlaa
