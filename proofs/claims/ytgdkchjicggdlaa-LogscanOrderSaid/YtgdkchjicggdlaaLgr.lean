/- solderlaw12.works. -/
import Derived.Test.YtgdkchjicggdlaaLgp
import Derived.Test.YtgdkchjicggdlaaLgq
import Derived.Test.YtgdkchjicggdlaaLgl
namespace Go.Proofs.Ytgdkchjicggdlaa
open Go.RowKit Go.Proofs.YtgdkchjicggdlaaW.PrintWords

theorem ls_put_okI (w : World) (base r : Nat) (p : Dpl) (many : Nat) (L : List ByteArray) (B : Nat) (h : LogAt w base r p many L B) (hB : B ≤ 80000) (hbase : base ≤ w.heap.size)
    (at_ : Nat) (s : ByteArray) (n : Nat) (ha : at_ < many) (hs : s.size = n * 64) (hn : 1 ≤ n) (hn2 : n ≤ many) (ai : Int) (hai : ai = at_) :
    Calls Try.prog 21 #[.pointer (some ⟨r, 0, none⟩), .int .i64 ai, .string s] w fun e w' => WritePost w base r p many (putL L many at_ s n) (B + n + 1) e w' := by
  subst hai
  exact ls_put_ok w base r p many L B h hB hbase at_ s n ha hs hn hn2
theorem ls_endI (w : World) (base r : Nat) (p : Dpl) (many : Nat) (L : List ByteArray) (B : Nat) (at_ : Nat) (seq : Int)
    (h0 : LogAt w base r p many L B) (hm : many ≤ 100) (hB : B ≤ 50000) (hat : at_ < many) (hs : 0 ≤ seq ∧ seq ≤ 4611686018427380000) (ai : Int) (hai : ai = at_) :
    Calls Try.prog 44 #[.pointer (some ⟨r, 0, none⟩), .int .i64 ai, .int .i64 seq] w fun e w' => EndPost w base r p many L (B + (many + 1) * (many + 1)) at_ seq e w' := by
  subst hai
  exact ls_end w base r p many L B at_ seq h0 hm hB hat hs
theorem lr_put_okI (seq : Nat) (A : Option Addr) (cap : Nat) (l : List Sec) (w : World) (h : Secs w A l) (hcap : l.length ≤ cap) (hseq : seq < 281474976710656) (hc : Lr.check l = 0) (si : Int) (hsi : si = seq) (n : Nat) (hn : n = l.length) :
    Calls Try.prog 9 #[.int .i64 si, .slice A n cap] w fun e w' => e = .returned (.tuple #[.string (mkS (Lr.put seq l)), .int .i64 0]) ∧ Below w.heap.size w w' := by
  subst hsi hn
  exact lr_put_ok seq A cap l w h hcap hseq hc

def K1 : List Sec := [⟨1, mkS z64⟩]
def K2 : List Sec := [⟨2, mkS z64⟩]
theorem K1_ok : Lr.check K1 = 0 := by decide +kernel
theorem K2_ok : Lr.check K2 = 0 := by decide +kernel
def S1 : ByteArray := mkS (Lr.put 7 K1)
def S2 : ByteArray := mkS (Lr.put 8 K2)
theorem S1_sz : S1.size = 2 * 64 := by unfold S1; rw [mkS_size, Lr.put_len (Lr.check_fine K1_ok)]; rfl
theorem S2_sz : S2.size = 2 * 64 := by unfold S2; rw [mkS_size, Lr.put_len (Lr.check_fine K2_ok)]; rfl
def G0 : List ByteArray := List.replicate 5 zero64
def G1 : List ByteArray := putL G0 5 4 S1 2
def G2 : List ByteArray := putL G1 5 1 S2 2
theorem G2_len : G2.length = 5 := by unfold G2 G1 G0; rw [putL_len, putL_len, List.length_replicate]
theorem G2_holds : Holds G2 5 4 0 7 [K1, K2] := by
  have h1 : Holds G1 5 4 0 7 [K1] := Holds.put (L := G0) (many := 5) (at_ := 4) (ls := []) (s := 7) (l := K1) trivial (by unfold G0; rw [List.length_replicate]) K1_ok (by decide) (by decide)
  exact Holds.put (L := G1) (many := 5) (at_ := 4) (ls := [K1]) (s := 7) (l := K2) h1 (by unfold G1 G0; rw [putL_len, List.length_replicate]) K2_ok (by decide) (by decide)
theorem G2_end (h64 : ∀ x, x ∈ G2 → x.size = 64) {rs : List Rec} {a : Nat} {s : Int} {u : Nat} (h : Scans G2 5 4 7 0 rs a s u) : a = 3 ∧ s = 9 ∧ u = 4 := by
  have h1 : scanStep G2 5 4 7 0 = some (K1, 2) := Holds.step (at_ := 4) (u := 0) (s := 7) G2_holds G2_len (by decide) h64 (by decide)
  have h2 : scanStep G2 5 1 8 2 = some (K2, 2) := Holds.step (at_ := 4) (u := 2) (s := 8) G2_holds.2 G2_len (by decide) h64 (by decide)
  cases h with
  | stop h => rw [h1] at h; cases h
  | last h hu =>
    rw [h1] at h
    injection h with h
    injection h with e1 e2
    subst e2
    cases hu
  | more h hu hr =>
    rw [h1] at h
    injection h with h
    injection h with e1 e2
    subst e2
    have hr2 : Scans G2 5 1 8 2 _ a s u := hr
    cases hr2 with
    | stop h => rw [h2] at h; cases h
    | last h hu =>
      rw [h2] at h
      injection h with h
      injection h with e1 e2
      subst e2
      cases hu
    | more h hu hr =>
      rw [h2] at h
      injection h with h
      injection h with e1 e2
      subst e2
      have hr3 : Scans G2 5 3 9 4 _ a s u := hr
      obtain ⟨_, e1, e2, e3⟩ := hr3.full (by decide)
      exact ⟨e1, e2, e3⟩
attribute [local irreducible] z64 zrow S1 S2 G0 G1 G2

set_option maxRecDepth 100000 in
set_option maxHeartbeats 1000000 in
theorem law12_works (w : World) : Calls Try.prog 18 #[] w fun e w' => e = .returned (.bool true) ∧ Below w.heap.size w w' := by
  have hmk := make64
  have hcv := conv64
  have HG0 := Lib.hid (show List.replicate 5 zero64 = G0 from by unfold G0; rfl)
  have HS1 := Lib.hid (show mkS (Lr.put 7 K1) = S1 from by unfold S1; rfl)
  have HS2 := Lib.hid (show mkS (Lr.put 8 K2) = S2 from by unfold S2; rfl)
  have HG1 := Lib.hid (show putL G0 5 4 S1 2 = G1 from by unfold G1; rfl)
  have HG2 := Lib.hid (show putL G1 5 1 S2 2 = G2 from by unfold G2; rfl)
  go_enter Try.func18, Try.ntmps18
  go_wp2_with fail
  refine (dk_newI 5 5 _ w.heap.size (by omega) (by omega) (by simp) rfl).mono ?_
  rintro e w1 ⟨p, rfl, hd1, hf1, hb1⟩
  have HD1 := Lib.hid hd1
  have HF1 := Lib.hid (fun i x => (hd1.foot_in (i := i) x).1)
  have HB1 := Lib.hid (show Below w.heap.size w w1 from ((Below.refl _ _).alloc (Nat.le_refl _) _).trans (hb1.mono (by simp)))
  clear hd1 hf1 hb1
  go_wp2_with fail
  refine (rg_new _ w.heap.size p 5 HD1.out (fun x => by have := HF1.out _ x; omega) 0 5 (by omega) (by omega) _ _ rfl rfl).mono ?_
  rintro e w2 ⟨rfl, hl2, hb2⟩
  rw [HG0.out] at hl2
  have HL2 := Lib.hid hl2
  have HB2 := Lib.hid (below_trans HB1.out hb2)
  clear hl2 hb2
  go_wp2_with fail
  refine (lr_put_okI 7 _ 1 K1 _ (secs_lit (l := K1) (blk_new rfl) (by decide)) (by decide) (by decide) K1_ok _ rfl 1 rfl).mono ?_
  rintro e w3 ⟨rfl, hb3⟩
  rw [HS1.out]
  have hb3' := ((Below.refl w2.heap.size w2).alloc (Nat.le_refl _) _).trans (hb3.mono (by simp))
  have HB3 := Lib.hid (below_trans HB2.out hb3')
  have HL3 := Lib.hid (HL2.out.below hb3')
  clear hb3 hb3'
  go_wp2_with fail
  refine (lr_put_okI 8 _ 1 K2 _ (secs_lit (l := K2) (blk_new rfl) (by decide)) (by decide) (by decide) K2_ok _ rfl 1 rfl).mono ?_
  rintro e w4 ⟨rfl, hb4⟩
  rw [HS2.out]
  have hb4' := ((Below.refl w3.heap.size w3).alloc (Nat.le_refl _) _).trans (hb4.mono (by simp))
  have HB4 := Lib.hid (below_trans HB3.out hb4')
  have HL4 := Lib.hid (HL3.out.below hb4')
  clear hb4 hb4'
  go_wp2_with fail
  refine (ls_put_okI _ w.heap.size _ p 5 G0 0 HL4.out (by omega) (by have := HB4.out.size; exact this) 4 S1 2 (by omega) S1_sz (by omega) (by omega) _ rfl).mono ?_
  rintro e w5 ⟨rfl, p5, hd5⟩
  rw [HG1.out] at hd5
  have HD5 := Lib.hid hd5
  have HB5 := Lib.hid (HB4.out.trans (hd5.to_below HL4.out HB4.out.size))
  clear hd5
  go_wp2_with fail
  refine (ls_put_okI _ w.heap.size _ p5 5 G1 _ HD5.out.at_ (by omega) (by have := HB5.out.size; exact this) 1 S2 2 (by omega) S2_sz (by omega) (by omega) _ rfl).mono ?_
  rintro e w6 ⟨rfl, p6, hd6⟩
  rw [HG2.out] at hd6
  have HD6 := Lib.hid hd6
  have HB6 := Lib.hid (HB5.out.trans (hd6.to_below HD5.out.at_ HB5.out.size))
  clear hd6
  go_wp2_with fail
  refine (ls_endI _ w.heap.size _ p6 5 G2 _ 4 7 HD6.out.at_ (by omega) (by omega) (by omega) (by omega) _ rfl).mono ?_
  rintro e w7 ⟨rs, a, s, u, rfl, hsc, hd7⟩
  obtain ⟨rfl, rfl, rfl⟩ := G2_end HD6.out.at_.size hsc
  have HB7 := Lib.hid (HB6.out.trans (hd7.to_below HD6.out.at_ HB6.out.size))
  clear hd7 hsc
  go_wp2
  go_ret
  exact ⟨rfl, HB7.out⟩
end Go.Proofs.Ytgdkchjicggdlaa

/- What a law of logscan is given; great. -/
namespace Go.Proofs.Ytgdkchjicggdlaa
open Go.RowKit Go.Proofs.YtgdkchjicggdlaaW.PrintWords

/-- solderlaw12.Lay. -/
structure LayV where
  At : Int
  Seq : Int
  Data : ByteArray
  L : List Sec
def LayAt (w : World) (ad : Addr) (x : LayV) : Prop :=
  w.cell? ad = some (.int .i64 x.At) ∧ w.cell? ⟨ad.block, ad.off + 2, none⟩ = some (.string x.Data) ∧ ∃ B c, w.cell? ⟨ad.block, ad.off + 3, none⟩ = some (.slice B x.L.length c) ∧ x.L.length ≤ c ∧ Secs w B x.L
def Lays (w : World) (A : Option Addr) (l : List LayV) : Prop := l.length ≤ 9223372036854775807 ∧ ∀ k (hk : k < l.length), ∃ ad, A = some ad ∧ LayAt w (ad.add (k * 4)) l[k]
theorem cell_below {w w' : World} (hb : Below w.heap.size w w') {a : Addr} {v : Value} (h : w.cell? a = some v) : w'.cell? a = some v := by
  have := hb.block a.block (World.block_lt_of_cell? w a h)
  simpa [World.cell?, this] using h
theorem LayAt.below {w w' : World} {ad : Addr} {x : LayV} (h : LayAt w ad x) (hb : Below w.heap.size w w') : LayAt w' ad x := by
  obtain ⟨h1, h2, B, c, h3, h4, h5⟩ := h
  exact ⟨cell_below hb h1, cell_below hb h2, B, c, cell_below hb h3, h4, Kd.C_below h5 hb⟩
theorem Lays.below {w w' : World} {A : Option Addr} {l : List LayV} (h : Lays w A l) (hb : Below w.heap.size w w') : Lays w' A l :=
  ⟨h.1, fun k hk => by obtain ⟨ad, e, h2⟩ := h.2 k hk; exact ⟨ad, e, h2.below hb⟩⟩

/-- Slices of sectors in a row. -/
def Rows2 (w : World) (A : Option Addr) (l : List (List Sec)) : Prop := l.length ≤ 9223372036854775807 ∧ ∀ k (hk : k < l.length), ∃ ad, A = some ad ∧ ∃ B c, w.cell? (ad.add k) = some (.slice B l[k].length c) ∧ l[k].length ≤ c ∧ Secs w B l[k]
theorem Rows2.below {w w' : World} {A : Option Addr} {l : List (List Sec)} (h : Rows2 w A l) (hb : Below w.heap.size w w') : Rows2 w' A l :=
  ⟨h.1, fun k hk => by obtain ⟨ad, e, B, c, h2, h3, h4⟩ := h.2 k hk; exact ⟨ad, e, B, c, cell_below hb h2, h3, Kd.C_below h4 hb⟩⟩

def GreatPost (l : List LayV) (w : World) (e : Ending) (w' : World) : Prop := ∃ b : Bool, e = .returned (.bool b) ∧ w = w' ∧ (b = false → l.length ≤ 30 ∧ ∀ x, x ∈ l → x.Data.size ≤ 3000)

set_option maxRecDepth 100000 in
set_option maxHeartbeats 1000000 in
theorem law12_great (A : Option Addr) (cap : Nat) (l : List LayV) (w : World) (h : Lays w A l) :
    Calls Try.prog 20 #[.slice A l.length cap] w fun e w' => GreatPost l w e w' := by
  have H := Lib.hid h
  have hmax := h.1
  clear h
  go_enter Try.func20, Try.ntmps20
  go_wp2
  go_loop [3, 4] (fun n i => ∃ k m : Nat, k ≤ l.length ∧ k ≤ 30 ∧ i = .int .i64 k ∧ n = .int .i64 m ∧ m ≤ 3000 * k ∧ Hid (∀ j (hj : j < k) (hl : j < l.length), l[j].Data.size ≤ 3000)) (fun _ i => l.length - (intOf i).toNat)
  case atStart => exact ⟨0, 0, by omega, by omega, rfl, rfl, by omega, Lib.hid (fun j hj => by omega)⟩
  case round =>
    obtain ⟨k, m, hk, hk2, rfl, rfl, hm, HA⟩ := hrel
    by_cases hlt : k < l.length
    · obtain ⟨ad, rfl, hla⟩ := H.out.2 k hlt
      obtain ⟨c0, c2, B, c, c3, hcap, hsecs⟩ := hla
      have HSC := Lib.hid hsecs
      clear hsecs
      by_cases h30 : 30 ≤ k
      · go_wp2
        go_ret
        exact ⟨true, rfl, rfl, fun x => by cases x⟩
      by_cases h3k : 3000 < l[k].Data.size
      · go_wp2
        go_ret
        exact ⟨true, rfl, rfl, fun x => by cases x⟩
      have hw1 : IntKind.i64.wrap ((m : Int) + l[k].Data.size) = (m : Int) + l[k].Data.size := IntWalk.i64_in _ ⟨by omega, by omega⟩
      have HGR := Lib.hid (fun W (hW : Secs W B l[k].L) => law11_great B c l[k].L W hW)
      have HD := Lib.hid (show l[k].Data.size ≤ 3000 from by omega)
      obtain ⟨D, hD⟩ : ∃ D, l[k].Data = D := ⟨_, rfl⟩
      rw [hD] at c2 h3k hw1 HD
      have HDD := Lib.hid hD
      clear hD c0
      go_wp2_with fail
      refine (HGR.out _ HSC.out).mono ?_
      rintro e w1 ⟨b, rfl, rfl⟩
      cases b with
      | true =>
        go_wp2
        go_ret
        exact ⟨true, rfl, rfl, fun x => by cases x⟩
      | false =>
        have HN := Lib.hid (show ∀ j (hj : j < k + 1) (hl : j < l.length), l[j].Data.size ≤ 3000 from fun j hj hl => by
          by_cases hjk : j < k
          · exact HA.out j hjk hl
          · obtain rfl : j = k := by omega
            rw [HDD.out]; exact HD.out)
        have hds := HD.out
        go_wp2
        go_round
        case rel => exact ⟨k + 1, m + D.size, by omega, by omega, by go_num, by go_num, by omega, HN⟩
        case measure => simp [intOf]; omega
    · obtain rfl : k = l.length := by omega
      have HL := Lib.hid (show l.length ≤ 30 ∧ ∀ x, x ∈ l → x.Data.size ≤ 3000 from ⟨hk2, fun x hx => by
        obtain ⟨j, hj, rfl⟩ := List.getElem_of_mem hx
        exact HA.out j hj hj⟩)
      go_wp2
      go_ret
      exact ⟨_, rfl, rfl, fun _ => HL.out⟩
end Go.Proofs.Ytgdkchjicggdlaa
