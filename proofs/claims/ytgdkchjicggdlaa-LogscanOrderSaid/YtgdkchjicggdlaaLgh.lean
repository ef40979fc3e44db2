/- logscan: sectors of a log read, round. -/
import Derived.Test.YtgdkchjicggdlaaLgf
import Derived.Test.YtgdkchjicggdlaaLrt
namespace Go.Proofs.Ytgdkchjicggdlaa
open Go.RowKit Go.Proofs.YtgdkchjicggdlaaW.PrintWords

/-- The bytes of so many sectors, round. -/
def readL (L : List ByteArray) (many at_ m : Nat) : List UInt8 := (List.range m).flatMap fun k => (L.getD ((at_ + k) % many) ⟨#[]⟩).data.toList
theorem readL_succ (L : List ByteArray) (many at_ m : Nat) : readL L many at_ (m + 1) = readL L many at_ m ++ (L.getD ((at_ + m) % many) ⟨#[]⟩).data.toList := by
  unfold readL
  rw [List.range_succ, List.flatMap_append]
  simp
theorem readL_len (L : List ByteArray) (many at_ m : Nat) (hl : L.length = many) (hpos : 0 < many) (hs : ∀ s, s ∈ L → s.size = 64) : (readL L many at_ m).length = m * 64 := by
  induction m with
  | zero => rfl
  | succ m ih =>
    have hlt := Nat.mod_lt (at_ + m) hpos
    rw [readL_succ, List.length_append, ih, List.getD_eq_getElem?_getD, List.getElem?_eq_getElem (by omega)]
    have := hs _ (List.getElem_mem (l := L) (n := (at_ + m) % many) (by omega))
    have h2 : ∀ s : ByteArray, s.data.toList.length = s.size := fun _ => rfl
    rw [h2, Option.getD_some, this]
    omega

abbrev ScanBox (w : World) (c r : Nat) (at_ seq used : Int) (tell : Value) (fin : Bool) : Prop := Blk w c #[.pointer (some ⟨r, 0, none⟩), .int .i64 at_, .int .i64 seq, .int .i64 used, tell, .bool fin] 115

set_option maxRecDepth 100000 in
set_option maxHeartbeats 1000000 in
theorem sc_read (w : World) (base r : Nat) (p : Dpl) (many : Nat) (L : List ByteArray) (B : Nat) (h : LogAt w base r p many L B) (hpos : 0 < many)
    (c : Nat) (at_ seq used : Int) (tell : Value) (fin : Bool) (hc : ScanBox w c r at_ seq used tell fin) (hnf : ¬ p.foot c) (x m : Nat) (hB : B + m ≤ 80000) (hx : x ≤ 100000) (hm : m ≤ 1000) :
    Calls Try.prog 90 #[.pointer (some ⟨c, 0, none⟩), .int .i64 x, .int .i64 m] w fun e w' => ReadPost w base r p many L (B + m) (mkS (readL L many x m)) e w' := by
  have H := Lib.hid h
  have HC := Lib.hid hc
  have HN := Lib.hid hnf
  have HP := Lib.hid hpos
  have HLEN := Lib.hid h.len
  have HSZ := Lib.hid (fun k => readL_len L many x k h.len hpos h.size)
  have HBB := Lib.hid hB
  clear h hc hnf hpos hB
  go_enter Try.func90, Try.ntmps90
  go_wp2
  go_loopw [8, 13] (fun s i wr => ∃ k : Nat, k ≤ m ∧ i = .int .i64 k ∧ s = .string (mkS (readL L many x k)) ∧ LogDone w wr base r p many L (B + k) p) (fun _ i _ => m - (intOf i).toNat)
  case atStart => exact ⟨0, by omega, rfl, rfl, LogDone.refl H.out⟩
  case round =>
    obtain ⟨k, hk, rfl, rfl, hdone⟩ := hrel
    have HD := Lib.hid hdone
    by_cases hlt : k < m
    · have hbx := hdone.blk HC.out HN.out
      have HBX := Lib.hid hbx
      have c0 := hbx.cell (i := 0) rfl
      have HSK := Lib.hid (HSZ.out k)
      obtain ⟨from1, hface⟩ := hdone.at_.face (by have := HBB.out; omega)
      obtain ⟨q, hq⟩ : ∃ q, (x + k) % many = q := ⟨_, rfl⟩
      have hql : q < L.length := by rw [← hq, HLEN.out]; exact Nat.mod_lt _ HP.out
      have HWR := Lib.hid (show ∀ W, Below wr.heap.size wr W → Calls Try.prog 51 #[.pointer (some ⟨r, 0, none⟩), .int .i64 ((x : Int) + k)] W fun e w' => e = .returned (.int .i64 q) ∧ W = w' from fun W hW => by
        have := ls_wrap r p.d from1 many W (hface.box.below hW hface.box.lt) HP.out (by have := hface.le; omega) (x + k) (by omega)
        rw [hq] at this
        exact this)
      have HT := Lib.hid (show L[q]? = some L[q] from List.getElem?_eq_getElem hql)
      have HRS := Lib.hid (show mkS (readL L many x k) ++ L[q] = mkS (readL L many x (k + 1)) from by
        rw [readL_succ, hq, ← mkS_append, mkS_eta, List.getD_eq_getElem?_getD, List.getElem?_eq_getElem hql]
        rfl)
      have hz1 : (mkS (readL L many x k)).size = k * 64 := by rw [mkS_size]; exact HSK.out
      have hz2 : L[q].size = 64 := H.out.size _ (List.getElem_mem hql)
      obtain ⟨t, ht⟩ : ∃ t, L[q] = t := ⟨_, rfl⟩
      rw [ht] at hz2 HT HRS
      have hx1 : IntKind.i64.wrap ((x : Int) + k) = (x : Int) + k := IntWalk.i64_in _ ⟨by omega, by omega⟩
      obtain ⟨A, hA⟩ : ∃ A, mkS (readL L many x k) = A := ⟨_, rfl⟩
      rw [hA] at hz1 HRS ⊢
      clear hdone hface hq hql ht hbx
      go_wp2
      go_region_held3 (fun W => W.cell? ⟨c, 0, none⟩ = some (.pointer (some ⟨r, 0, none⟩))) (first | exact c0 | exact HS2.out) (first
        | (go_at_call 51; refine (HWR.out _ (by exact ⟨rfl, rfl, rfl, Nat.le_refl _, fun _ _ => rfl⟩)).mono ?_; rintro e w1 ⟨rfl, rfl⟩)
        | (go_at_call 94; refine (rg_read _ base r p many L (B + k) (HD.out.at_.below (below_drew _)) (by have := HBB.out; omega) q t HT.out).mono ?_; rintro e w2 ⟨rfl, hd2⟩; have HD2 := Lib.hid (LogDone.then_ HD.out (LogDone.upon (below_drew _) hd2)); have HS2 := Lib.hid (show w2.cell? ⟨c, 0, none⟩ = some (.pointer (some ⟨r, 0, none⟩)) from (HD2.out.blk HC.out HN.out).cell rfl); clear hd2))
      all_goals
        go_wp2
        go_roundw
        case rel => exact ⟨k + 1, by omega, by go_num, by rw [HRS.out], HD2.out⟩
        case measure => simp [intOf]; omega
    · obtain rfl : k = m := by omega
      clear hdone
      go_wp2
      go_ret2
      exact ⟨rfl, HD.out⟩
end Go.Proofs.Ytgdkchjicggdlaa

/- logscan: what reading a record comes to; whoever is told. -/
namespace Go.Proofs.Ytgdkchjicggdlaa
open Go.RowKit Go.Proofs.YtgdkchjicggdlaaW.PrintWords

/-- logscan.Record. -/
structure Rec where
  seq : Int
  at_ : Int
  l : List Sec

/-- The record that stands at a place, and how many sectors it takes; none, if there is none. -/
def scanStep (L : List ByteArray) (many at_ : Nat) (seq : Int) (used : Nat) : Option (List Sec × Nat) :=
  if (Lr.size (readL L many at_ 1) seq).2 ≠ 0 ∨ (many : Int) - used < (Lr.size (readL L many at_ 1) seq).1 then none
  else if (Lr.get (readL L many at_ (Lr.size (readL L many at_ 1) seq).1.toNat)).2.2 ≠ 0 then none
  else some ((Lr.get (readL L many at_ (Lr.size (readL L many at_ 1) seq).1.toNat)).2.1, (Lr.size (readL L many at_ 1) seq).1.toNat)
theorem size_ge (s : List UInt8) (seq : Int) (h : (Lr.size s seq).2 = 0) : 2 ≤ (Lr.size s seq).1 ∧ (Lr.size s seq).1 ≤ 17 := by
  unfold Lr.size at *
  split at h
  · simp at h
  · rename_i h1
    rw [if_neg h1]
    split at h
    · simp at h
    · rename_i h2
      rw [if_neg h2]
      simp only
      omega
theorem readL_add (L : List ByteArray) (many at_ a b : Nat) : readL L many at_ a ++ readL L many (at_ + a) b = readL L many at_ (a + b) := by
  induction b with
  | zero => simp [readL]
  | succ b ih => rw [readL_succ, ← List.append_assoc, ih, ← Nat.add_assoc, readL_succ, Nat.add_assoc]

/-- All blocks from one on are as they were, but such as hold a scan. -/
def KeptHi (N : Nat) (w w' : World) : Prop := w.heap.size ≤ w'.heap.size ∧ ∀ i, N ≤ i → i < w.heap.size → (∀ cs, ¬ Blk w i cs 115) → w'.heap[i]? = w.heap[i]?
theorem KeptHi.of_log {w w1 : World} {N base r : Nat} {p : Dpl} {many : Nat} {L1 : List ByteArray} {B1 : Nat} {p1 : Dpl} (h : LogDone w w1 base r p many L1 B1 p1) (hn : ∀ i, p.foot i → i < N) : KeptHi N w w1 :=
  ⟨h.size, fun i h1 h2 _ => h.kept.2 i h2 (fun x => by have := hn i x; omega)⟩
theorem KeptHi.of_below {w w1 : World} {N : Nat} (h : Below w.heap.size w w1) : KeptHi N w w1 := ⟨h.size, fun i _ h2 _ => h.block i h2⟩
theorem KeptHi.of_set {w : World} {N c i : Nat} {cs : Array Value} {v : Value} (h : Blk w c cs 115) : KeptHi N w (w.setCell ⟨c, i, none⟩ v) :=
  ⟨by simp [World.setCell], fun j _ _ hj => Below.heap_setCell w ⟨c, i, none⟩ v j (fun e => hj cs (by rw [e]; exact h))⟩
/-- Who is told records: f with what it holds; J: that it has been told these. -/
structure Teller (N : Nat) (f : FuncId) (caps : Array Value) (J : World → List Rec → Prop) : Prop where
  enters : ∀ args w, (callFunc f args).run Try.prog w = .ok (.enter f args) w
  keep : ∀ w w' rs, J w rs → KeptHi N w w' → J w' rs
  call : ∀ w rs x v, N ≤ w.heap.size → J w rs → rs.length ≤ 900 → OwnSecs w N v x.l → Calls Try.prog f (#[.agg #[.int .i64 x.seq, .int .i64 x.at_, v]] ++ caps) w fun e w' =>
    e = .returned (.bool true) ∧ J w' (rs ++ [x]) ∧ Below N w w' ∧ (∀ c cs, Blk w c cs 115 → Blk w' c cs 115) ∧ (∀ b cs w5, J w5 rs → KeptHi N w5 w → w5.heap.size ≤ b → Blk w b cs 56 → Blk w' b cs 56)

/-- Where a scan stands. -/
structure ScanAt (w0 w : World) (base r : Nat) (p : Dpl) (many : Nat) (L : List ByteArray) (B c : Nat) (J : World → List Rec → Prop) (tell : Value) (at_ : Nat) (seq : Int) (used : Nat) (fin : Bool) (rs : List Rec) : Prop where
  log : LogDone w0 w base r p many L B p
  box : ScanBox w c r at_ seq used tell fin
  told : J w rs
  new : w0.heap.size ≤ c

def NextPost (w0 : World) (base r : Nat) (p : Dpl) (many : Nat) (L : List ByteArray) (B c : Nat) (J : World → List Rec → Prop) (tell : Value) (at_ : Nat) (seq : Int) (used : Nat) (rs : List Rec) (o : Option (List Sec × Nat)) (e : Ending) (w' : World) : Prop :=
  e = .returned (.int .i64 0) ∧ match o with
    | none => ScanAt w0 w' base r p many L B c J tell at_ seq used true rs
    | some (l, n) => ScanAt w0 w' base r p many L B c J tell ((at_ + n) % many) (seq + 1) (used + n) (decide (used + n = many)) (rs ++ [⟨seq, at_, l⟩])
/-- A step of a scan's own writing. -/
theorem ScanAt.fin_ {w0 w : World} {base r : Nat} {p : Dpl} {many : Nat} {L : List ByteArray} {B c : Nat} {J : World → List Rec → Prop} {tell : Value} {at_ : Nat} {seq : Int} {used : Nat} {fin : Bool} {rs : List Rec} {B0 : Nat} (h0 : LogAt w0 base r p many L B0)
    (h : ScanAt w0 w base r p many L B c J tell at_ seq used fin rs) {f : FuncId} {caps : Array Value} (hT : Teller w0.heap.size f caps J) : ScanAt w0 (w.setCell ⟨c, 5, none⟩ (.bool true)) base r p many L B c J tell at_ seq used true rs where
  log := h.log.own (by
    have hg := grown_set (w := w) (b := c) 5 (.bool true)
    exact ⟨hg.os, hg.tape, hg.output, hg.size, fun i hi => hg.block i (Nat.lt_of_lt_of_le hi h.log.size) (fun e => by have := Option.some.inj e; have := h.new; omega)⟩) (fun i hi => (h0.foot_in hi).1) h0.r_lt
  box := h.box.set 5 (.bool true)
  told := hT.keep _ _ _ h.told (KeptHi.of_set h.box)
  new := h.new
theorem ScanAt.on {w0 w w1 : World} {base r : Nat} {p : Dpl} {many : Nat} {L : List ByteArray} {B B1 c : Nat} {J : World → List Rec → Prop} {tell : Value} {at_ : Nat} {seq : Int} {used : Nat} {fin : Bool} {rs : List Rec} {B0 : Nat} (h0 : LogAt w0 base r p many L B0)
    (h : ScanAt w0 w base r p many L B c J tell at_ seq used fin rs) {f : FuncId} {caps : Array Value} (hT : Teller w0.heap.size f caps J) (hd : LogDone w w1 base r p many L B1 p) : ScanAt w0 w1 base r p many L B1 c J tell at_ seq used fin rs where
  log := h.log.then_ hd
  box := hd.blk h.box (fun x => by have := (h0.foot_in x).1; have := h.new; omega)
  told := hT.keep _ _ _ h.told (KeptHi.of_log hd (fun i hi => (h0.foot_in hi).1))
  new := h.new
theorem ScanAt.below {w0 w w1 : World} {base r : Nat} {p : Dpl} {many : Nat} {L : List ByteArray} {B c : Nat} {J : World → List Rec → Prop} {tell : Value} {at_ : Nat} {seq : Int} {used : Nat} {fin : Bool} {rs : List Rec}
    (h : ScanAt w0 w base r p many L B c J tell at_ seq used fin rs) {f : FuncId} {caps : Array Value} (hT : Teller w0.heap.size f caps J) (hb : Below w.heap.size w w1) : ScanAt w0 w1 base r p many L B c J tell at_ seq used fin rs where
  log := h.log.below hb
  box := h.box.below hb h.box.lt
  told := hT.keep _ _ _ h.told (KeptHi.of_below hb)
  new := h.new
theorem ScanAt.more {w0 w : World} {base r : Nat} {p : Dpl} {many : Nat} {L : List ByteArray} {B B1 c : Nat} {J : World → List Rec → Prop} {tell : Value} {at_ : Nat} {seq : Int} {used : Nat} {fin : Bool} {rs : List Rec}
    (h : ScanAt w0 w base r p many L B c J tell at_ seq used fin rs) (hb : B ≤ B1) : ScanAt w0 w base r p many L B1 c J tell at_ seq used fin rs where
  log := ⟨h.log.at_.more hb, h.log.foot, h.log.kept, h.log.rest⟩
  box := h.box
  told := h.told
  new := h.new
end Go.Proofs.Ytgdkchjicggdlaa

/- logscan: a record read and told. -/
namespace Go.Proofs.Ytgdkchjicggdlaa
open Go.RowKit Go.Proofs.YtgdkchjicggdlaaW.PrintWords

theorem sc_readI (w : World) (base r : Nat) (p : Dpl) (many : Nat) (L : List ByteArray) (B : Nat) (h : LogAt w base r p many L B) (hpos : 0 < many)
    (c : Nat) (at_ seq used : Int) (tell : Value) (fin : Bool) (hc : ScanBox w c r at_ seq used tell fin) (hnf : ¬ p.foot c) (x m : Nat) (hB : B + m ≤ 80000) (hx : x ≤ 100000) (hm : m ≤ 1000) (xi mi : Int) (hxi : xi = x) (hmi : mi = m) :
    Calls Try.prog 90 #[.pointer (some ⟨c, 0, none⟩), .int .i64 xi, .int .i64 mi] w fun e w' => ReadPost w base r p many L (B + m) (mkS (readL L many x m)) e w' := by
  subst hxi hmi
  exact sc_read w base r p many L B h hpos c at_ seq used tell fin hc hnf x m hB hx hm
set_option maxRecDepth 100000 in
set_option maxHeartbeats 1000000 in
theorem sc_next_none (w0 w : World) (base r : Nat) (p : Dpl) (many : Nat) (L : List ByteArray) (B0 B c : Nat) (J : World → List Rec → Prop) (f : FuncId) (caps : Array Value) (at_ : Nat) (seq : Int) (used : Nat) (fin : Bool) (rs : List Rec)
    (h0 : LogAt w0 base r p many L B0) (hT : Teller w0.heap.size f caps J) (h : ScanAt w0 w base r p many L B c J (.func (.func f) #[] caps) at_ seq used fin rs) (hB : B + many ≤ 70000) (hat : at_ < many) (hused : used ≤ many)
    (ho : scanStep L many at_ seq used = none) :
    Calls Try.prog 79 #[.pointer (some ⟨c, 0, none⟩)] w fun e w' => NextPost w0 base r p many L (B + many + 1) c J (.func (.func f) #[] caps) at_ seq used rs none e w' := by
  have H0 := Lib.hid h0
  have HT := Lib.hid hT
  have HS := Lib.hid h
  have hmany := h0.many_le
  have HNF := Lib.hid (show ¬ p.foot c from fun x => by have := (h0.foot_in x).1; have := h.new; omega)
  have c1 := h.box.cell (i := 1) rfl
  have HO := Lib.hid ho
  have HLEN := Lib.hid (fun k => readL_len L many at_ k h0.len (by omega) h0.size)
  obtain ⟨S, hS⟩ : ∃ S, readL L many at_ 1 = S := ⟨_, rfl⟩
  have HSZ := Lib.hid (show S.length = 64 from by rw [← hS, HLEN.out])
  have HST := Lib.hid hS
  clear h0 hT h ho hS
  go_enter Try.func79, Try.ntmps79
  go_wp2_with fail
  refine (sc_read _ base r p many L B HS.out.log.at_ (by omega) c at_ seq used _ fin HS.out.box HNF.out at_ 1 (by omega) (by omega) (by omega)).mono ?_
  rintro e w1 ⟨rfl, hd1⟩
  rw [HST.out]
  have HS1 := Lib.hid (HS.out.on H0.out HT.out hd1)
  have c2 := HS1.out.box.cell (i := 2) rfl
  have f5 := HS1.out.box.free 5
  have c5 := HS1.out.box.cell (i := 5) rfl
  clear hd1 c1
  go_wp2_with fail
  refine (lr_size S seq _ (by rw [HSZ.out]; decide)).mono ?_
  rintro e w2 ⟨rfl, hb2⟩
  have HS2 := Lib.hid (HS1.out.below HT.out hb2)
  have c0 := HS2.out.box.cell (i := 0) rfl
  have c3 := HS2.out.box.cell (i := 3) rfl
  have f5 := HS2.out.box.free 5
  have c5 := HS2.out.box.cell (i := 5) rfl
  have HFIN := Lib.hid (show ∀ W, Below w2.heap.size w2 W → ScanAt w0 (W.setCell ⟨c, 5, none⟩ (.bool true)) base r p many L (B + many + 1) c J (.func (.func f) #[] caps) at_ seq used true rs from fun W hW => (((HS2.out.below HT.out hW).fin_ H0.out HT.out).more (B1 := B + many + 1) (by omega)))
  obtain ⟨from1, hface⟩ := HS2.out.log.at_.face (by omega)
  have HMR := Lib.hid (show ∀ W, Below w2.heap.size w2 W → Calls Try.prog 48 #[.pointer (some ⟨r, 0, none⟩)] W fun e w' => e = .returned (.int .i64 many) ∧ w' = W from fun W hW => (rg_many r p.d from1 many W (hface.box.below hW hface.box.lt)).mono (fun _ _ x => ⟨x.1, x.2.symm⟩))
  clear hb2 hface c2
  by_cases he : (Lr.size S seq).2 = 0
  · have hg := size_ge S seq he
    obtain ⟨n, hn⟩ : ∃ n : Nat, (Lr.size S seq).1 = (n : Int) := ⟨(Lr.size S seq).1.toNat, by omega⟩
    have heb : ((Lr.size S seq).2 != 0) = false := by rw [bne_eq_false_iff_eq]; exact he
    have hx1 : IntKind.i64.wrap ((many : Int) - used) = (many : Int) - used := IntWalk.i64_in _ ⟨by omega, by omega⟩
    by_cases hm : (many : Int) - used < n
    · rw [hn, he]
      have hm2 : (many : Int) - used < n := hm
      clear hg hn heb
      go_wp2
      go_quiet ((go_at_call 48; exact Calls.quiet_of_same (HMR.out _ ⟨rfl, rfl, rfl, Nat.le_refl _, fun _ _ => rfl⟩)))
      go_wp2
      go_ret
      exact ⟨rfl, HFIN.out _ ⟨rfl, rfl, rfl, Nat.le_refl _, fun _ _ => rfl⟩⟩
    · have hm2 : (n : Int) ≤ (many : Int) - used := by omega
      obtain ⟨j, rfl⟩ : ∃ j, n = j + 1 := ⟨n - 1, by omega⟩
      have hj : 1 ≤ j ∧ j ≤ 16 := by omega
      have HGE := Lib.hid (show (Lr.get (readL L many at_ (j + 1))).2.2 ≠ 0 from by
        have := HO.out
        unfold scanStep at this
        rw [HST.out, hn, he] at this
        rw [if_neg (by rintro (h | h); exact h rfl; exact hm h)] at this
        intro h
        rw [if_neg (by rw [Int.toNat_natCast]; exact fun x => x h)] at this
        cases this)
      have HRD := Lib.hid (show mkS S ++ mkS (readL L many (at_ + 1) j) = mkS (readL L many at_ (j + 1)) from by
        rw [← HST.out, mkS_append, readL_add, Nat.add_comm 1 j])
      rw [hn, he]
      have hx2 : IntKind.i64.wrap ((at_ : Int) + 1) = (at_ : Int) + 1 := IntWalk.i64_in _ ⟨by omega, by omega⟩
      have hz1 : (mkS S).size = 64 := HSZ.out
      have hz2 : (mkS (readL L many (at_ + 1) j)).size = j * 64 := by rw [mkS_size]; exact readL_len L many (at_ + 1) j H0.out.len (by omega) H0.out.size
      obtain ⟨T, hT2⟩ : ∃ T, mkS (readL L many (at_ + 1) j) = T := ⟨_, rfl⟩
      obtain ⟨A, hA⟩ : ∃ A, mkS S = A := ⟨_, rfl⟩
      rw [hT2, hA] at HRD
      rw [hT2] at hz2
      rw [hA] at hz1
      have HAA := Lib.hid hA
      have HTT := Lib.hid hT2
      rw [hA]
      clear hg hn heb hm hA hT2 he
      go_wp2
      go_quiet ((go_at_call 48; exact Calls.quiet_of_same (HMR.out _ ⟨rfl, rfl, rfl, Nat.le_refl _, fun _ _ => rfl⟩)))
      have HS3 := Lib.hid (HS2.out.below (w1 := w2.drewN nq) HT.out ⟨rfl, rfl, rfl, Nat.le_refl _, fun _ _ => rfl⟩)
      obtain ⟨w3, hw3⟩ : ∃ w3, w2.drewN nq = w3 := ⟨_, rfl⟩
      rw [hw3] at HS3 ⊢
      have c1 := HS3.out.box.cell (i := 1) rfl
      clear hw3 c0 c3 f5 c5
      go_wp2_with fail
      refine (sc_readI _ base r p many L (B + 1) HS3.out.log.at_ (by omega) c at_ seq used _ fin HS3.out.box HNF.out (at_ + 1) j (by omega) (by omega) (by omega) _ _ ?_ ?_).mono ?_
      · omega
      · omega
      rintro e w4 ⟨rfl, hd4⟩
      rw [HTT.out]
      have HS4 := Lib.hid (HS3.out.on H0.out HT.out hd4)
      clear hd4 c1
      go_wp2_with fail
      rw [HRD.out]
      refine (lr_get (readL L many at_ (j + 1)) _ (by rw [HLEN.out]; unfold maxLen; omega)).mono ?_
      rintro e w5 ⟨v, rfl, hown, hb5⟩
      have HS5 := Lib.hid (HS4.out.below HT.out hb5)
      obtain ⟨E, hE⟩ : ∃ E, (Lr.get (readL L many at_ (j + 1))).2.2 = E := ⟨_, rfl⟩
      have heb : (E != 0) = true := by rw [bne_iff_ne, ← hE]; exact HGE.out
      rw [hE]
      have f5 := HS5.out.box.free 5
      have c5 := HS5.out.box.cell (i := 5) rfl
      have HF5 := Lib.hid ((HS5.out.fin_ H0.out HT.out).more (B1 := B + many + 1) (by omega))
      clear hE hown hb5
      go_wp2
      go_ret
      exact ⟨rfl, HF5.out⟩
  · have heb : ((Lr.size S seq).2 != 0) = true := by rw [bne_iff_ne]; exact he
    obtain ⟨E, hE⟩ : ∃ E, (Lr.size S seq).2 = E := ⟨_, rfl⟩
    rw [hE] at he heb ⊢
    clear hE
    go_wp2
    go_quiet ((go_at_call 48; exact Calls.quiet_of_same (HMR.out _ ⟨rfl, rfl, rfl, Nat.le_refl _, fun _ _ => rfl⟩)))
    go_wp2
    go_ret
    exact ⟨rfl, HFIN.out _ ⟨rfl, rfl, rfl, Nat.le_refl _, fun _ _ => rfl⟩⟩
end Go.Proofs.Ytgdkchjicggdlaa
