/- The Client laws' works, great; the comparison of sectors. -/
import Derived.Test.YtdnkbnpjbcalaaaCwn
import Derived.BigQuiet
namespace Go.Proofs.Ytdnkbnpjbcalaaa
open Go.RowKit

set_option maxRecDepth 100000 in
set_option maxHeartbeats 1000000 in
theorem tp_read_one (w : World) (base b : Nat) (t : TpV) (x : Int) (d : ByteArray) (h : TapeAt w base b t) (hl : t.wl = [⟨x, d⟩]) :
    Calls Try.prog 41 #[.pointer (some ⟨b, 0, none⟩), .int .i64 x] w fun e w' => e = .returned (.tuple #[.string d, .int .i64 0]) ∧ Below w.heap.size w w' := by
  have ho := h.own
  have h3 := h.box.cell (i := 3) rfl
  rw [hl] at ho
  obtain ⟨g, cap, hv, _⟩ := World.ownsRow.form ho (by simp)
  have hv : t.wrote = .slice (some ⟨g, 0, none⟩) 1 cap := hv
  have hc := World.ownsRow.cells ho (g := g) (by rw [hv]; rfl)
  have h3 : w.cell? ⟨b, 3, none⟩ = some (.slice (some ⟨g, 0, none⟩) 1 cap) := by rw [← hv]; exact h3
  have d0 : w.cell? ⟨g, 0, none⟩ = some (.int .i64 x) := hc 0 _ rfl
  have d1 : w.cell? ⟨g, 1, none⟩ = some (.string d) := hc 1 _ rfl
  clear ho hc hl hv h
  go_enter Try.func41, Try.ntmps41
  go_wp2
  go_loopw [6] (fun i wr => i = .int .i64 (0 : Nat) ∧ wr = w) (fun _ _ => 0)
  case atStart => exact ⟨rfl, rfl⟩
  case round =>
    obtain ⟨rfl, rfl⟩ := hrel
    go_wp2
    go_ret2
    exact ⟨rfl, Below.refl _ _⟩
set_option maxRecDepth 100000 in
set_option maxHeartbeats 1000000 in
theorem cl_read_one (w : World) (base c : Nat) (s0 s1 : Option Nat) (v : ClV) (t : Nat) (T : TpV) (x : Int) (d : ByteArray) (h : ClAt w base c s0 s1 v) (hu : v.used s0 s1 = some t) (hT : TapeAt w base t T) (hl : T.wl = [⟨x, d⟩]) :
    Calls Try.prog 20 #[.pointer (some ⟨c, 0, none⟩), .int .i64 x] w fun e w' => e = .returned (.tuple #[.string d, .int .i64 0]) ∧ Below w.heap.size w w' := by
  have hmw := method_read t
  have H := Lib.hid h
  have HT := Lib.hid hT
  have HU := Lib.hid hu
  have HL := Lib.hid hl
  clear h hT hu hl
  go_enter Try.func20, Try.ntmps20
  go_wp2_with fail
  refine (cl_server _ c s0 s1 v.at_ v.kept v.waits H.out.box H.out.ha).mono ?_
  rintro e w1 ⟨rfl, hb1⟩
  have hu2 : srv (if v.at_ = 0 then s0 else s1) = .iface 27 (.pointer (some ⟨t, 0, none⟩)) := by
    have := HU.out; unfold ClV.used at this; rw [this]; rfl
  rw [hu2]
  have HB1 := Lib.hid hb1
  clear hu2 hb1
  go_wp2_with fail
  refine (tp_read_one _ base t T x d (HT.out.below HB1.out) HL.out).mono ?_
  rintro e w2 ⟨rfl, hb2⟩
  have HB2 := Lib.hid (below_trans HB1.out hb2)
  clear hb2
  go_wp2
  go_ret2
  exact ⟨rfl, HB2.out⟩

/-- A slice that reads as sectors. -/
abbrev RdS (w : World) (v : Value) (l : List Sec) : Prop := Rd w 2 v l.length (secCells l)
theorem RdS.at_ {w : World} {A : Option Addr} {n c : Nat} {l : List Sec} (h : RdS w (.slice A n c) l) (k : Nat) (hk : k < l.length) :
    ∃ ad, A = some ad ∧ w.cell? (ad.add (k * 2)) = some (.int .i64 l[k].At) ∧ w.cell? ⟨(ad.add (k * 2)).block, (ad.add (k * 2)).off + 1, none⟩ = some (.string l[k].Data) := by
  rcases h.2 with ⟨_, h0⟩ | ⟨ad, c', h1, h2⟩
  · omega
  · injection h1 with h1
    obtain ⟨q1, q2⟩ := secCells_get l k hk
    have d2 := h2 _ _ q2
    rw [← add_add_] at d2
    refine ⟨ad, h1, h2 _ _ q1, ?_⟩
    rw [← d2]; unfold Addr.add; simp
theorem RdS.form {w : World} {v : Value} {l : List Sec} (h : RdS w v l) : ∃ A c, v = .slice A l.length c := by
  rcases h.2 with ⟨h1, h0⟩ | ⟨ad, c', h1, _⟩
  · exact ⟨none, 0, by rw [h1, h0]⟩
  · exact ⟨_, _, h1⟩
set_option maxRecDepth 100000 in
set_option maxHeartbeats 800000 in
theorem law9_sectors (u v : Value) (l : List Sec) (w : World) (h : RdS w u l) (h' : RdS w v l) (hmax : l.length ≤ 1000) :
    Calls Try.prog 14 #[u, v] w fun e w' => e = .returned (.bool true) ∧ Below w.heap.size w w' := by
  obtain ⟨A, c, rfl⟩ := RdS.form h
  obtain ⟨B, d, rfl⟩ := RdS.form h'
  have HA := Lib.hid h
  have HB := Lib.hid h'
  have hnn : ((l.length : Int) != (l.length : Int)) = false := by simp
  clear h h'
  go_enter Try.func14, Try.ntmps14
  go_wp2
  go_loopw [5] (fun i wr => ∃ k : Nat, k ≤ l.length ∧ i = .int .i64 k ∧ Below w.heap.size w wr) (fun i _ => l.length - (intOf i).toNat)
  case atStart => exact ⟨0, by omega, rfl, Below.refl _ _⟩
  case round =>
    obtain ⟨k, hk, rfl, hb⟩ := hrel
    have HBL := Lib.hid hb
    clear hb
    by_cases hlt : k < l.length
    · obtain ⟨ad, rfl, c0, c1⟩ := RdS.at_ (HA.out.below HBL.out) k hlt
      obtain ⟨bd, rfl, d0, d1⟩ := RdS.at_ (HB.out.below HBL.out) k hlt
      go_wp2
      go_quiet (fail)
      go_wp2
      go_roundw
      case rel => exact ⟨k + 1, by omega, by go_num, below_trans HBL.out (by exact ⟨rfl, rfl, rfl, Nat.le_refl _, fun _ _ => rfl⟩)⟩
      case measure => simp [intOf]; omega
    · obtain rfl : k = l.length := by omega
      go_wp2
      go_ret
      exact ⟨rfl, HBL.out⟩

/-- What a step is: its kind, extent, bytes; and what it holds beside. -/
structure OpV where
  kind : Int
  ext : Int
  data : ByteArray
  a0 : Int
  a1 : Int
  a2 : Int
  a3 : Int
  a4 : Int
  a5 : Int
  s : ByteArray
  C : Option Addr
  cn : Nat
  cc : Nat
/-- What stands behind a step's bytes. -/
def OpRest (w : World) (ad : Addr) (o : OpV) : Prop :=
  w.cell? ⟨ad.block, ad.off + 3, none⟩ = some (.int .i64 o.a0) ∧ w.cell? ⟨ad.block, ad.off + 4, none⟩ = some (.int .i64 o.a1) ∧ w.cell? ⟨ad.block, ad.off + 5, none⟩ = some (.int .i64 o.a2) ∧ w.cell? ⟨ad.block, ad.off + 6, none⟩ = some (.int .i64 o.a3) ∧
  w.cell? ⟨ad.block, ad.off + 7, none⟩ = some (.int .i64 o.a4) ∧ w.cell? ⟨ad.block, ad.off + 8, none⟩ = some (.int .i64 o.a5) ∧ w.cell? ⟨ad.block, ad.off + 9, none⟩ = some (.string o.s) ∧ w.cell? ⟨ad.block, ad.off + 10, none⟩ = some (.slice o.C o.cn o.cc)
def OpAt (w : World) (ad : Addr) (o : OpV) : Prop :=
  w.cell? ad = some (.int .i64 o.kind) ∧ w.cell? ⟨ad.block, ad.off + 1, none⟩ = some (.int .i64 o.ext) ∧ w.cell? ⟨ad.block, ad.off + 2, none⟩ = some (.string o.data) ∧ OpRest w ad o
def OpsAt (w : World) (A : Option Addr) (l : List OpV) : Prop := l.length ≤ 9223372036854775807 ∧ ∀ k (hk : k < l.length), ∃ ad, A = some ad ∧ OpAt w (ad.add (k * 11)) l[k]
theorem OpAt.below {w w' : World} {ad : Addr} {o : OpV} (h : OpAt w ad o) (hb : Below w.heap.size w w') : OpAt w' ad o :=
  ⟨cell_below hb h.1, cell_below hb h.2.1, cell_below hb h.2.2.1, cell_below hb h.2.2.2.1, cell_below hb h.2.2.2.2.1, cell_below hb h.2.2.2.2.2.1, cell_below hb h.2.2.2.2.2.2.1, cell_below hb h.2.2.2.2.2.2.2.1, cell_below hb h.2.2.2.2.2.2.2.2.1, cell_below hb h.2.2.2.2.2.2.2.2.2.1, cell_below hb h.2.2.2.2.2.2.2.2.2.2⟩
theorem OpsAt.below {w w' : World} {A : Option Addr} {l : List OpV} (h : OpsAt w A l) (hb : Below w.heap.size w w') : OpsAt w' A l :=
  ⟨h.1, fun k hk => by obtain ⟨ad, e, h2⟩ := h.2 k hk; exact ⟨ad, e, h2.below hb⟩⟩

def GreatPost (w : World) (l : List OpV) (e : Ending) (w' : World) : Prop := w = w' ∧ ∃ b, e = .returned (.bool b) ∧ (b = false → l.length ≤ 90)
set_option maxRecDepth 100000 in
set_option maxHeartbeats 800000 in
theorem law44_great (A : Option Addr) (c : Nat) (l : List OpV) (w : World) (h : OpsAt w A l) :
    Calls Try.prog 7 #[.slice A l.length c] w fun e w' => GreatPost w l e w' := by
  have hmax := h.1
  have H := Lib.hid h
  clear h
  go_enter Try.func7, Try.ntmps7
  go_wp2
  go_loop [3] (fun i => ∃ k : Nat, k ≤ l.length ∧ k ≤ 90 ∧ i = .int .i64 k) (fun i => l.length - (intOf i).toNat)
  case atStart => exact ⟨0, by omega, by omega, rfl⟩
  case round =>
    obtain ⟨k, hk, hk2, rfl⟩ := hrel
    by_cases hlt : k < l.length
    · by_cases h90 : 90 ≤ k
      · go_wp2
        go_ret
        exact ⟨rfl, true, rfl, fun x => by cases x⟩
      · obtain ⟨ad, rfl, h0, h1, h2, h3⟩ := H.out.2 k hlt
        clear h3 h0 h1
        by_cases hd : 1000 < l[k].data.size
        · generalize l[k].data = D at *
          go_wp2
          go_ret
          exact ⟨rfl, true, rfl, fun x => by cases x⟩
        · generalize l[k].data = D at *
          go_wp2
          go_round
          case rel => exact ⟨k + 1, by omega, by omega, by go_num⟩
          case measure => simp [intOf]; omega
    · obtain rfl : k = l.length := by omega
      go_wp2
      go_ret
      exact ⟨rfl, false, rfl, fun _ => hk2⟩
end Go.Proofs.Ytdnkbnpjbcalaaa
