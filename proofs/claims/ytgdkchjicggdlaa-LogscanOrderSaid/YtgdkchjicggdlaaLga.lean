/- A log that no call fails on: what it shows, and where it lies. -/
import Derived.Test.YtgdkchjicggdlaaDsw
import Derived.Deep.DrawnRows
namespace Go.Proofs.Ytgdkchjicggdlaa
open Go.RowKit Go.Proofs.YtgdkchjicggdlaaW.PrintWords

/-- A disk that no call fails on, and the sectors that it shows. -/
structure FineD (k : Dk) (V : List ByteArray) : Prop where
  off : k.off = false
  at_ : k.at_ = 0
  fails : k.fails = []
  len : k.sure.length = V.length
  lays : V = layAll k.sure k.waits
  over : ∀ (i : Int) s, k.over i = some s → 0 ≤ i ∧ V[i.toNat]? = some s
  bare : ∀ i : Nat, k.over i = none → V[i]? = k.sure[i]?
theorem FineD.callE {k : Dk} {V : List ByteArray} (h : FineD k V) : k.callE = (0, false) := by
  unfold Dk.callE
  rw [h.off, h.at_, h.fails]
  have : ¬ (k.ops : Int) + 1 = 0 := by omega
  simp [this]
theorem FineD.callD {k : Dk} {V : List ByteArray} (h : FineD k V) : FineD k.callD V where
  off := by
    unfold Dk.callD
    have : ¬ ((k.ops + 1 : Nat) : Int) = 0 := by omega
    simp only [h.off, h.at_, this, decide_false, Bool.or_false]
  at_ := h.at_
  fails := h.fails
  len := h.len
  lays := h.lays
  over := h.over
  bare := h.bare
theorem FineD.view {k : Dk} {V : List ByteArray} (h : FineD k V) (i : Nat) (hi : i < V.length) : k.view i = V[i] := by
  unfold Dk.view
  cases ho : k.over i with
  | some s =>
    have := (h.over i s ho).2
    rw [Int.toNat_natCast, List.getElem?_eq_getElem hi, Option.some.injEq] at this
    exact this.symm
  | none =>
    have h1 := h.bare i ho
    have h2 : i < k.sure.length := by rw [h.len]; exact hi
    rw [List.getElem?_eq_getElem hi, List.getElem?_eq_getElem h2, Option.some.injEq] at h1
    simp only [Option.getD_none, Int.toNat_natCast, List.getD_eq_getElem?_getD, List.getElem?_eq_getElem h2, Option.getD_some]
    exact h1.symm
theorem FineD.read {k : Dk} {V : List ByteArray} (h : FineD k V) (i : Nat) (hi : i < V.length) : k.readR i = (V[i], 0) := by
  unfold Dk.readR
  have h2 : i < k.sure.length := by rw [h.len]; exact hi
  rw [h.callE, if_neg (by simp), if_neg (by unfold Dk.has; simp [h2]), h.view i hi]
theorem layAll_one (s : List ByteArray) (l : List Sec) (x : Sec) : layAll s (l ++ [x]) = lay (layAll s l) x := by
  unfold layAll
  rw [List.foldl_append]
  rfl
theorem FineD.write {k : Dk} {V : List ByteArray} (h : FineD k V) (i : Nat) (hi : i < V.length) (d : ByteArray) (hd : d.size = 64) :
    (k.writeR i d).1 = 0 ∧ FineD (k.writeR i d).2 (V.set i d) ∧ (k.writeR i d).2.ops = k.ops + 1 ∧ (k.writeR i d).2.waits.length = k.waits.length + 1 := by
  have h2 : i < k.sure.length := by rw [h.len]; exact hi
  have e : k.writeR i d = (0, { k.callD with seen := mput k.clock k.seen i (.string d), clock := mclock k.clock k.seen i, waits := k.waits ++ [⟨i, d⟩] }) := by
    unfold Dk.writeR
    rw [h.callE, if_neg (by simp), if_neg (by unfold Dk.has; simp [h2]), if_neg (by simp [hd])]
  rw [e]
  refine ⟨rfl, ?_, rfl, by simp⟩
  have hov : ∀ j : Int, Dk.over { k.callD with seen := mput k.clock k.seen i (.string d), clock := mclock k.clock k.seen i, waits := k.waits ++ [⟨i, d⟩] } j = if j = (i : Int) then some d else k.over j := by
    intro j
    show (match mget (mput k.clock k.seen i (.string d)) j with
      | some (.string s) => some s
      | _ => none) = _
    rw [mget_mput]
    by_cases hj : j = (i : Int)
    · rw [if_pos hj, if_pos hj]
    · rw [if_neg hj, if_neg hj]; rfl
  refine ⟨h.callD.off, h.at_, h.fails, ?_, ?_, ?_, ?_⟩
  · rw [List.length_set]; exact h.len
  · show V.set i d = layAll k.sure (k.waits ++ [⟨i, d⟩])
    rw [layAll_one, ← h.lays]
    rfl
  · intro j s hs
    rw [hov] at hs
    by_cases hj : j = (i : Int)
    · rw [if_pos hj, Option.some.injEq] at hs
      subst hj hs
      refine ⟨by omega, ?_⟩
      rw [Int.toNat_natCast, List.getElem?_set_self (by omega)]
    · rw [if_neg hj] at hs
      obtain ⟨h0, h1⟩ := h.over j s hs
      refine ⟨h0, ?_⟩
      rw [List.getElem?_set_ne (by omega)]
      exact h1
  · intro j hj
    rw [hov] at hj
    by_cases he : (j : Int) = (i : Int)
    · rw [if_pos he] at hj; simp at hj
    · rw [if_neg he] at hj
      rw [List.getElem?_set_ne (by omega)]
      exact h.bare j hj
theorem FineD.flush {k : Dk} {V : List ByteArray} (h : FineD k V) : k.flushR.1 = 0 ∧ FineD k.flushR.2 V ∧ k.flushR.2.ops = k.ops + 1 ∧ k.flushR.2.waits.length = 0 := by
  have e : k.flushR = (0, { k.callD with sure := layAll k.sure k.waits, seen := [], waits := [] }) := by
    unfold Dk.flushR
    rw [h.callE]
    rfl
  rw [e]
  refine ⟨rfl, ⟨h.callD.off, h.at_, h.fails, ?_, ?_, ?_, ?_⟩, rfl, rfl⟩
  · show (layAll k.sure k.waits).length = _
    rw [← h.lays]
  · show V = layAll (layAll k.sure k.waits) []
    rw [← h.lays]; rfl
  · intro i s hs
    simp [Dk.over, mget] at hs
  · intro i _
    show V[i]? = (layAll k.sure k.waits)[i]?
    rw [← h.lays]

/-- A region of such a disk, at a block: how many sectors, what they hold, and a bound of the calls. -/
structure LogAt (w : World) (base r : Nat) (p : Dpl) (many : Nat) (L : List ByteArray) (B : Nat) : Prop where
  ex : ∃ k V, ∃ from_ : Nat, DiskAt w base p k ∧ FineD k V ∧ Blk w r #[.pointer (some ⟨p.d, 0, none⟩), .int .i64 from_, .int .i64 many] 106 ∧ from_ + many ≤ V.length ∧ L = (V.drop from_).take many ∧ k.ops ≤ B ∧ k.waits.length ≤ B
  apart : ¬ p.foot r
  size : ∀ s, s ∈ L → s.size = 64
theorem LogAt.len {w : World} {base r : Nat} {p : Dpl} {many : Nat} {L : List ByteArray} {B : Nat} (h : LogAt w base r p many L B) : L.length = many := by
  obtain ⟨k, V, from_, _, _, _, h1, rfl, _⟩ := h.ex
  rw [List.length_take, List.length_drop]
  omega
theorem LogAt.many_le {w : World} {base r : Nat} {p : Dpl} {many : Nat} {L : List ByteArray} {B : Nat} (h : LogAt w base r p many L B) : many ≤ 1000 := by
  obtain ⟨k, V, from_, hd, hf, _, h1, rfl, _⟩ := h.ex
  have := hd.few
  have := hf.len
  omega
theorem LogAt.kept {w w' : World} {base r : Nat} {p : Dpl} {many : Nat} {L : List ByteArray} {B : Nat} (h : LogAt w base r p many L B) {S : Nat → Prop} (hk : Kept w w' S) (hs : ∀ i, p.foot i → ¬ S i) (hr : ¬ S r) : LogAt w' base r p many L B := by
  obtain ⟨k, V, from_, hd, hf, hb, h1⟩ := h.ex
  exact ⟨⟨k, V, from_, hd.kept hk hs, hf, hb.kept hk hr, h1⟩, h.apart, h.size⟩
theorem LogAt.below {w w' : World} {base r : Nat} {p : Dpl} {many : Nat} {L : List ByteArray} {B : Nat} (h : LogAt w base r p many L B) (hb : Below w.heap.size w w') : LogAt w' base r p many L B :=
  h.kept (Kept.of_below hb (fun _ => False)) (fun _ _ x => x) (fun x => x)
theorem LogAt.more {w : World} {base r : Nat} {p : Dpl} {many : Nat} {L : List ByteArray} {B C : Nat} (h : LogAt w base r p many L B) (hc : B ≤ C) : LogAt w base r p many L C := by
  obtain ⟨k, V, from_, hd, hf, hb, h1, h2, h3, h4⟩ := h.ex
  exact ⟨⟨k, V, from_, hd, hf, hb, h1, h2, Nat.le_trans h3 hc, Nat.le_trans h4 hc⟩, h.apart, h.size⟩
theorem own_lt {w : World} {base : Nat} {e : TypeId} {size n : Nat} {v : Value} {xs : List Value} (h : w.ownsRow base e size v n xs) {i : Nat} (hi : v.ownBlock = some i) : i < w.heap.size ∧ base ≤ i := by
  rcases h.2 with ⟨h1, _⟩ | ⟨g, cap, cur, h1, h2, h3, _⟩
  · subst h1; simp [Value.ownBlock] at hi
  · subst h1
    simp only [Value.ownBlock, Option.some.injEq] at hi
    subst hi
    exact ⟨blk_lt h3, h2⟩
theorem DiskAt.foot_in {w : World} {base : Nat} {p : Dpl} {k : Dk} (h : DiskAt w base p k) {i : Nat} (hi : p.foot i) : i < w.heap.size ∧ base ≤ i := by
  have hm := h.seen
  unfold MapAt at hm
  rcases hi with rfl | rfl | rfl | hi | hi
  · exact ⟨h.box.lt, h.based.1⟩
  · exact ⟨h.sure.lt, h.based.2.1⟩
  · exact ⟨blk_lt hm, h.based.2.2⟩
  · exact own_lt h.waits hi
  · exact own_lt h.fails hi
theorem LogAt.foot_in {w : World} {base r : Nat} {p : Dpl} {many : Nat} {L : List ByteArray} {B : Nat} (h : LogAt w base r p many L B) {i : Nat} (hi : p.foot i) : i < w.heap.size ∧ base ≤ i := by
  obtain ⟨k, V, from_, hd, _⟩ := h.ex
  exact hd.foot_in hi
theorem LogAt.r_lt {w : World} {base r : Nat} {p : Dpl} {many : Nat} {L : List ByteArray} {B : Nat} (h : LogAt w base r p many L B) : r < w.heap.size := by
  obtain ⟨k, V, from_, hd, _, hb, _⟩ := h.ex
  exact hb.lt

/-- What calls upon a log have done. -/
structure LogDone (w w' : World) (base r : Nat) (p : Dpl) (many : Nat) (L' : List ByteArray) (B' : Nat) (p' : Dpl) : Prop where
  at_ : LogAt w' base r p' many L' B'
  foot : ∀ i, p'.foot i → p.foot i ∨ w.heap.size ≤ i
  kept : Kept w w' p.foot
  rest : w'.os = w.os ∧ w'.tape = w.tape ∧ w'.output = w.output
theorem LogDone.refl {w : World} {base r : Nat} {p : Dpl} {many : Nat} {L : List ByteArray} {B : Nat} (h : LogAt w base r p many L B) : LogDone w w base r p many L B p :=
  ⟨h, fun _ x => .inl x, Kept.refl w _, rfl, rfl, rfl⟩
theorem LogDone.size {w w' : World} {base r : Nat} {p p' : Dpl} {many : Nat} {L' : List ByteArray} {B' : Nat} (h : LogDone w w' base r p many L' B' p') : w.heap.size ≤ w'.heap.size := h.kept.1
/-- Calls upon a log, and then more. -/
theorem LogDone.then_ {w w1 w2 : World} {base r : Nat} {p p1 p2 : Dpl} {many : Nat} {L1 L2 : List ByteArray} {B1 B2 : Nat} (h : LogDone w w1 base r p many L1 B1 p1) (h2 : LogDone w1 w2 base r p1 many L2 B2 p2) : LogDone w w2 base r p many L2 B2 p2 where
  at_ := h2.at_
  foot := fun i hi => (h2.foot i hi).elim (h.foot i) (fun x => .inr (Nat.le_trans h.size x))
  kept := h.kept.then_ h2.kept (fun i x => h.foot i x)
  rest := ⟨h2.rest.1.trans h.rest.1, h2.rest.2.1.trans h.rest.2.1, h2.rest.2.2.trans h.rest.2.2⟩
theorem LogDone.below {w w1 w2 : World} {base r : Nat} {p p1 : Dpl} {many : Nat} {L1 : List ByteArray} {B1 : Nat} (h : LogDone w w1 base r p many L1 B1 p1) (hb : Below w1.heap.size w1 w2) : LogDone w w2 base r p many L1 B1 p1 where
  at_ := h.at_.below hb
  foot := h.foot
  kept := h.kept.then_ (Kept.of_below hb p1.foot) (fun i x => h.foot i x)
  rest := ⟨hb.os.trans h.rest.1, hb.tape.trans h.rest.2.1, hb.output.trans h.rest.2.2⟩
theorem LogDone.upon {w w1 w2 : World} {base r : Nat} {p p1 : Dpl} {many : Nat} {L1 : List ByteArray} {B1 : Nat} (hb : Below w.heap.size w w1) (h : LogDone w1 w2 base r p many L1 B1 p1) : LogDone w w2 base r p many L1 B1 p1 where
  at_ := h.at_
  foot := fun i hi => (h.foot i hi).elim .inl (fun x => .inr (Nat.le_trans hb.size x))
  kept := (Kept.of_below hb p.foot).then_ h.kept (fun _ x => .inl x)
  rest := ⟨h.rest.1.trans hb.os, h.rest.2.1.trans hb.tape, h.rest.2.2.trans hb.output⟩
theorem LogDone.to_below {w w1 : World} {base r : Nat} {p p1 : Dpl} {many : Nat} {L L1 : List ByteArray} {B B1 : Nat} (h0 : LogAt w base r p many L B) (h : LogDone w w1 base r p many L1 B1 p1) (hb : base ≤ w.heap.size) : Below base w w1 :=
  ⟨h.rest.1, h.rest.2.1, h.rest.2.2, h.size, fun i hi => h.kept.2 i (Nat.lt_of_lt_of_le hi hb) (fun hf => by have := (h0.foot_in hf).2; omega)⟩
/-- A block of the caller's own stays. -/
theorem LogDone.blk {w w1 : World} {base r : Nat} {p p1 : Dpl} {many : Nat} {L1 : List ByteArray} {B1 : Nat} (h : LogDone w w1 base r p many L1 B1 p1) {b : Nat} {cs : Array Value} {t : TypeId} (hb : Blk w b cs t) (hn : ¬ p.foot b) : Blk w1 b cs t := hb.kept h.kept hn
theorem LogDone.not_foot {w w1 : World} {base r : Nat} {p p1 : Dpl} {many : Nat} {L1 : List ByteArray} {B1 : Nat} (h : LogDone w w1 base r p many L1 B1 p1) {b : Nat} (hlt : b < w.heap.size) (hn : ¬ p.foot b) : ¬ p1.foot b := fun x => (h.foot b x).elim hn (fun y => by omega)

/-- A call upon the disk of a log. -/
theorem LogAt.of_disk {w w' : World} {base r : Nat} {p p' : Dpl} {many from_ : Nat} {k' : Dk} {V' : List ByteArray} {B' : Nat} (hb : Blk w r #[.pointer (some ⟨p.d, 0, none⟩), .int .i64 from_, .int .i64 many] 106) (ha : ¬ p.foot r)
    (h : DkDone w w' base p k' p') (hf : FineD k' V') (hm : from_ + many ≤ V'.length) (h1 : k'.ops ≤ B') (h2 : k'.waits.length ≤ B') (hs : ∀ s, s ∈ (V'.drop from_).take many → s.size = 64) : LogDone w w' base r p many ((V'.drop from_).take many) B' p' where
  at_ := ⟨⟨k', V', from_, h.at_, hf, by rw [h.same.1]; exact hb.kept h.kept ha, hm, rfl, h1, h2⟩, fun x => (h.foot r x).elim ha (fun y => by have := hb.lt; omega), hs⟩
  foot := h.foot
  kept := h.kept
  rest := h.rest
end Go.Proofs.Ytgdkchjicggdlaa

/- A region: how many, where, reading one sector. -/
namespace Go.Proofs.Ytgdkchjicggdlaa
open Go.RowKit Go.Proofs.YtgdkchjicggdlaaW.PrintWords

abbrev RegBox (w : World) (r d from_ many : Nat) : Prop := Blk w r #[.pointer (some ⟨d, 0, none⟩), .int .i64 from_, .int .i64 many] 106

set_option maxRecDepth 100000 in
theorem rg_many (r d from_ many : Nat) (w : World) (h : RegBox w r d from_ many) :
    Calls Try.prog 48 #[.pointer (some ⟨r, 0, none⟩)] w fun e w' => e = .returned (.int .i64 many) ∧ w = w' := by
  have c2 := h.cell (i := 2) rfl
  clear h
  go_enter Try.func48, Try.ntmps48
  go_wp2
  go_ret
  exact ⟨rfl, rfl⟩

def inside (i many all : Int) : Bool := decide (0 ≤ i ∧ 0 ≤ many ∧ i ≤ all ∧ many ≤ all - i)
set_option maxRecDepth 100000 in
set_option maxHeartbeats 400000 in
theorem rg_inside (i many : Int) (all : Nat) (w : World) (ha : all ≤ 1000) :
    Calls Try.prog 64 #[.int .i64 i, .int .i64 many, .int .i64 all] w fun e w' => e = .returned (.bool (inside i many all)) ∧ w = w' := by
  by_cases h0 : 0 ≤ i
  · by_cases h1 : 0 ≤ many
    · by_cases h2 : i ≤ all
      · have hw : IntKind.i64.wrap ((all : Int) - i) = (all : Int) - i := IntWalk.i64_in _ ⟨by omega, by omega⟩
        have HR := Lib.hid (show inside i many all = decide (many ≤ (all : Int) - i) from by unfold inside; simp [h0, h1, h2])
        rw [HR.out]
        clear HR
        go_enter Try.func64, Try.ntmps64
        go_wp2
        all_goals go_ret
        all_goals exact ⟨by first | rfl | simp_all, rfl⟩
      · have HR := Lib.hid (show inside i many all = false from by unfold inside; simp [h2])
        rw [HR.out]
        clear HR
        go_enter Try.func64, Try.ntmps64
        go_wp2
        all_goals go_ret
        all_goals exact ⟨by first | rfl | simp_all, rfl⟩
    · have HR := Lib.hid (show inside i many all = false from by unfold inside; simp [h1])
      rw [HR.out]
      clear HR
      go_enter Try.func64, Try.ntmps64
      go_wp2
      all_goals go_ret
      all_goals exact ⟨by first | rfl | simp_all, rfl⟩
  · have HR := Lib.hid (show inside i many all = false from by unfold inside; simp [h0])
    rw [HR.out]
    clear HR
    go_enter Try.func64, Try.ntmps64
    go_wp2
    all_goals go_ret
    all_goals exact ⟨by first | rfl | simp_all, rfl⟩

def placeR (i : Int) (from_ many : Nat) : Int × Int := if 0 ≤ i ∧ i < many then ((from_ : Int) + i, 0) else (0, 3)
set_option maxRecDepth 100000 in
set_option maxHeartbeats 400000 in
theorem rg_place (r d from_ many : Nat) (i : Int) (w : World) (h : RegBox w r d from_ many) (hf : from_ ≤ 1000) (hm : many ≤ 1000) :
    Calls Try.prog 69 #[.pointer (some ⟨r, 0, none⟩), .int .i64 i] w fun e w' => e = .returned (.tuple #[.int .i64 (placeR i from_ many).1, .int .i64 (placeR i from_ many).2]) ∧ w = w' := by
  have c2 := h.cell (i := 2) rfl
  have c1 := h.cell (i := 1) rfl
  clear h
  by_cases h0 : 0 ≤ i
  · by_cases h1 : i < many
    · have hw : IntKind.i64.wrap ((from_ : Int) + i) = (from_ : Int) + i := IntWalk.i64_in _ ⟨by omega, by omega⟩
      have HR := Lib.hid (show placeR i from_ many = ((from_ : Int) + i, 0) from by unfold placeR; rw [if_pos ⟨h0, h1⟩])
      rw [HR.out]
      clear HR
      go_enter Try.func69, Try.ntmps69
      go_wp2
      go_ret2
      exact ⟨rfl, rfl⟩
    · have HR := Lib.hid (show placeR i from_ many = (0, 3) from by unfold placeR; rw [if_neg (fun x => h1 x.2)])
      rw [HR.out]
      clear HR
      have h2 : (many : Int) ≤ i := by omega
      clear h1
      go_enter Try.func69, Try.ntmps69
      go_wp2
      go_ret2
      exact ⟨rfl, rfl⟩
  · have HR := Lib.hid (show placeR i from_ many = (0, 3) from by unfold placeR; rw [if_neg (fun x => h0 x.1)])
    rw [HR.out]
    clear HR
    have h2 : i < 0 := by omega
    clear h0
    go_enter Try.func69, Try.ntmps69
    go_wp2
    go_ret2
    exact ⟨rfl, rfl⟩
end Go.Proofs.Ytgdkchjicggdlaa
