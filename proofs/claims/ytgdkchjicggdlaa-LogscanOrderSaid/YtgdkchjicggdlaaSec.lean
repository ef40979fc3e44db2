/- Sectors as plain values, slices of them that are read, and the library's search in them by a function. -/
import Derived.Test.YtgdkchjicggdlaaProg
import Derived.Test.YtgdkchjicggdlaaWMore
import Derived.WalkKit
import Derived.Lib.Hide
namespace Go.Proofs.Ytgdkchjicggdlaa
open Go.RowKit Go.Proofs.YtgdkchjicggdlaaW.PrintWords

theorem ret_int {k : IntKind} {a b : Int} (h : a = b) : Ending.returned (.int k a) = .returned (.int k b) := by rw [h]
theorem ret_bool {a b : Bool} (h : a = b) : Ending.returned (.bool a) = .returned (.bool b) := by rw [h]
theorem ret_str {a b : ByteArray} (h : a = b) : Ending.returned (.string a) = .returned (.string b) := by rw [h]

/-- api.Sector. -/
structure Sec where
  At : Int
  Data : ByteArray
def Sec.val (x : Sec) : Value := .agg #[.int .i64 x.At, .string x.Data]
def kSec : Kd Sec := Kd.iso (Kd.pair (Kd.int .i64) Kd.string) (fun x : Sec => (x.At, x.Data))
theorem kSec_open {w : World} {x : Sec} {cs : List Value} (h : kSec.K w x cs) : cs = [.int .i64 x.At, .string x.Data] := by
  obtain ⟨_, _, rfl, rfl, rfl⟩ := h
  exact rfl
theorem kSec_mk (w : World) (x : Sec) : kSec.K w x [.int .i64 x.At, .string x.Data] := ⟨[.int .i64 x.At], [.string x.Data], rfl, rfl, rfl⟩
theorem kSec_mkM (w : World) (base : Nat) (ok : Nat → Prop) (x : Sec) : kSec.M w base ok x [.int .i64 x.At, .string x.Data] := ⟨[.int .i64 x.At], [.string x.Data], rfl, rfl, rfl⟩

abbrev Secs (w : World) (A : Option Addr) (l : List Sec) : Prop := Kd.C kSec w A l.length l

theorem Secs.at_ {w : World} {A : Option Addr} {l : List Sec} (h : Secs w A l) (k : Nat) (hk : k < l.length) :
    ∃ ad, A = some ad ∧ w.cell? (ad.add (k * 2)) = some (.int .i64 l[k].At) ∧ w.cell? ⟨(ad.add (k * 2)).block, (ad.add (k * 2)).off + 1, none⟩ = some (.string l[k].Data) := by
  obtain ⟨ad, c, e, _, hK, hc0⟩ := Kd.C_get h ⟨0, ⟨#[]⟩⟩ (k : Int) (by omega) (by omega)
  have hc : ∀ j u, c[j]? = some u → w.cell? (ad.add (k * 2 + j)) = some u := fun j u hj => by
    have := hc0 j u hj
    simp only [Int.toNat_natCast] at this
    exact this
  have hg : l.getD (k : Int).toNat ⟨0, ⟨#[]⟩⟩ = l[k] := by simp [List.getD, List.getElem?_eq_getElem hk]
  rw [hg] at hK
  obtain rfl := kSec_open hK
  exact ⟨ad, e, hc 0 _ rfl, by rw [← add_field _ _ 1 (by omega)]; exact hc 1 _ rfl⟩

/-- A function value that answers 'p' of each of the sectors, and touches nothing that was there. -/
def Asks (w : World) (f : FuncId) (caps : Array Value) (l : List Sec) (p : Sec → Bool) : Prop :=
  (∀ args w, (callFunc f args).run Try.prog w = .ok (.enter f args) w) ∧ ∀ x, x ∈ l → ∀ w1, Below w.heap.size w w1 → Calls Try.prog f (#[x.val] ++ caps) w1 fun e w' => e = .returned (.bool (p x)) ∧ Below w1.heap.size w1 w'
theorem below_trans {a b c : World} (h : Below a.heap.size a b) (k : Below b.heap.size b c) : Below a.heap.size a c := h.trans (k.mono h.size)

def secIdx (l : List Sec) (p : Sec → Bool) : Int := match l.findIdx? p with
  | some i => (i : Int)
  | none => -1
theorem secIdx_at {l : List Sec} {p : Sec → Bool} {k : Nat} (hk : k < l.length) (hno : ∀ x, x ∈ l.take k → p x = false) (hp : p l[k] = true) : secIdx l p = k := by
  have : l.findIdx? p = some k := by
    rw [List.findIdx?_eq_some_iff_getElem]
    refine ⟨hk, hp, fun j hj => ?_⟩
    have := hno l[j] (List.mem_take_iff_getElem.2 ⟨j, by omega, rfl⟩)
    simp [this]
  simp [secIdx, this]
theorem secIdx_none {l : List Sec} {p : Sec → Bool} (hno : ∀ x, x ∈ l → p x = false) : secIdx l p = -1 := by
  have : l.findIdx? p = none := List.findIdx?_eq_none_iff.2 hno
  simp [secIdx, this]
theorem secIdx_ge (l : List Sec) (p : Sec → Bool) : decide (0 ≤ secIdx l p) = l.any p := by
  unfold secIdx
  cases h : l.findIdx? p with
  | none =>
    have := List.findIdx?_eq_none_iff.1 h
    simp only [show decide (0 ≤ (-1 : Int)) = false from rfl]
    rw [eq_comm, List.any_eq_false]
    intro x hx
    simp [this x hx]
  | some i =>
    obtain ⟨hi, hp, _⟩ := List.findIdx?_eq_some_iff_getElem.1 h
    rw [decide_eq_true (Int.natCast_nonneg i), eq_comm, List.any_eq_true]
    exact ⟨_, List.getElem_mem hi, hp⟩

set_option maxRecDepth 100000 in
set_option maxHeartbeats 400000 in
theorem sec_index (f : FuncId) (c : Value) (A : Option Addr) (cap : Nat) (l : List Sec) (p : Sec → Bool) (w : World) (h : Secs w A l) (hf : Asks w f #[c] l p) :
    Calls Try.prog 61 #[.slice A l.length cap, .func (.func f) #[] #[c]] w fun e w' =>
      e = .returned (.int .i64 (secIdx l p)) ∧ Below w.heap.size w w' := by
  have hmax := Kd.C_max h
  have H := Lib.hid h
  have HF := Lib.hid hf
  clear h hf
  go_enter Try.func61, Try.ntmps61
  go_wp2
  go_loopw [5, 8] (fun _ i wr => ∃ k : Nat, k ≤ l.length ∧ i = .int .i64 k ∧ (∀ x, x ∈ l.take k → p x = false) ∧ Below w.heap.size w wr) (fun _ i _ => l.length - (intOf i).toNat)
  case atStart => exact ⟨0, by omega, rfl, by simp, Below.refl _ _⟩
  case round =>
    obtain ⟨k, hk, rfl, hno, hb⟩ := hrel
    have HN := Lib.hid hno
    have HB := Lib.hid hb
    clear hno
    by_cases hlt : k < l.length
    · obtain ⟨ad, rfl, h0, h1⟩ := Secs.at_ (Kd.C_below H.out HB.out) k hlt
      have hcf := HF.out.1
      have hx := HF.out.2 l[k] (List.getElem_mem hlt) _ HB.out
      have HX := Lib.hid hx
      clear hx
      go_wp2_with fail
      refine (HX.out).mono ?_
      rintro e w' ⟨rfl, hb1⟩
      have HB1 := Lib.hid (below_trans HB.out hb1)
      clear hb1
      have HT := Lib.hid (show l.take (k + 1) = l.take k ++ [l[k]] from List.take_succ_eq_append_getElem hlt)
      by_cases hp : p l[k] = true
      · rw [hp]
        have HI := Lib.hid (secIdx_at hlt HN.out hp)
        clear hp
        go_wp2
        go_ret
        exact ⟨ret_int HI.out.symm, HB1.out⟩
      · rw [Bool.eq_false_iff.2 hp]
        have HP := Lib.hid hp
        clear hp
        go_wp2
        go_roundw
        case rel =>
          refine ⟨k + 1, by omega, by go_num, fun x hx => ?_, HB1.out⟩
          rw [HT.out, List.mem_append] at hx
          rcases hx with hx | hx
          · exact HN.out x hx
          · rw [List.mem_singleton.1 hx]; exact Bool.eq_false_iff.2 HP.out
        case measure => simp [intOf]; omega
    · obtain rfl : k = l.length := by omega
      have HI := Lib.hid (secIdx_none (p := p) (fun x hx => HN.out x (by rw [List.take_length]; exact hx)))
      go_wp2
      go_ret
      exact ⟨ret_int HI.out.symm, HB.out⟩

set_option maxHeartbeats 400000 in
theorem sec_contains (f : FuncId) (c : Value) (A : Option Addr) (cap : Nat) (l : List Sec) (p : Sec → Bool) (w : World) (h : Secs w A l) (hf : Asks w f #[c] l p) :
    Calls Try.prog 35 #[.slice A l.length cap, .func (.func f) #[] #[c]] w fun e w' =>
      e = .returned (.bool (l.any p)) ∧ Below w.heap.size w w' := by
  have H := Lib.hid h
  have HF := Lib.hid hf
  have HG := Lib.hid (secIdx_ge l p)
  clear h hf
  go_enter Try.func35, Try.ntmps35
  go_wp2_with ((go_at_call 61; refine (sec_index _ _ _ _ _ p _ H.out HF.out).mono ?_; rintro e w' ⟨rfl, hb⟩))
  go_ret
  exact ⟨ret_bool HG.out, hb⟩
end Go.Proofs.Ytgdkchjicggdlaa
