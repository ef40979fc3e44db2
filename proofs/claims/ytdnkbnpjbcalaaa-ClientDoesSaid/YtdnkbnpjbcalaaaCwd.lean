/- A tape as a server: which function a method called on it is; where it lies. -/
import Derived.Test.YtdnkbnpjbcalaaaCwc
namespace Go.Proofs.Ytdnkbnpjbcalaaa
open Go.RowKit

theorem method_write (b : Nat) (w : World) : (method 194 27 (.pointer (some ⟨b, 0, none⟩)) "Write").run Try.prog w = .ok (42, .pointer (some ⟨b, 0, none⟩)) w := by kernel_rfl
theorem method_flush (b : Nat) (w : World) : (method 194 27 (.pointer (some ⟨b, 0, none⟩)) "Flush").run Try.prog w = .ok (40, .pointer (some ⟨b, 0, none⟩)) w := by kernel_rfl
theorem method_read (b : Nat) (w : World) : (method 194 27 (.pointer (some ⟨b, 0, none⟩)) "Read").run Try.prog w = .ok (41, .pointer (some ⟨b, 0, none⟩)) w := by kernel_rfl
theorem method_events (b : Nat) (w : World) : (method 194 27 (.pointer (some ⟨b, 0, none⟩)) "Events").run Try.prog w = .ok (39, .pointer (some ⟨b, 0, none⟩)) w := by kernel_rfl

/-- Whole numbers that are read. -/
def Ints (w : World) (A : Option Addr) (l : List Int) : Prop := l.length ≤ 1000 ∧ ∀ k (hk : k < l.length), ∃ ad, A = some ad ∧ w.cell? (ad.add k) = some (.int .i64 l[k])
theorem Ints.below {w w' : World} {A : Option Addr} {l : List Int} (h : Ints w A l) (hb : Below w.heap.size w w') : Ints w' A l :=
  ⟨h.1, fun k hk => by obtain ⟨ad, e, h2⟩ := h.2 k hk; exact ⟨ad, e, cell_below hb h2⟩⟩
/-- A tape at a block: what it answers (errors, ways of coming out), what it was given, calls, operations. -/
abbrev TpBox (w : World) (b : Nat) (E : Option Addr) (ne ce : Nat) (Hs : Option Addr) (nh ch : Nat) (come wrote : Value) (n ops : Nat) : Prop :=
  Blk w b #[.slice E ne ce, .slice Hs nh ch, come, wrote, .int .i64 n, .int .i64 ops] 31
/-- What the next call comes to: its error; and how the operation comes out. -/
def errAt (errs : List Int) (n : Nat) : Int := errs.getD n 0
def howAt (hows : List Int) (ops : Nat) : Int := hows.getD ops 0
/-- A result that stands in a cell, and one in a slot. -/
theorem results_cell {fn : Func} {a u : Tmp} {t : TypeId} (h : fn.results = #[.cell a t, .tmp u]) (tmps : Array Value) (P : Program) (w : World) (p : Addr) (v : Value) (hp : tmps.getD a undef = .pointer (some p)) (hl : (loadVar t p).run P w = .ok v w) :
    (results fn tmps).run P w = .ok (.tuple #[v, tmps.getD u undef]) w := by
  have hp2 : tmps[a]?.getD undef = .pointer (some p) := by simpa using hp
  simp [results, h, hp2, asAddr, hl, Result.andThen]
theorem load_event (w : World) (b : Nat) (x y : Value) (h0 : w.cell? ⟨b, 0, none⟩ = some x) (h1 : w.cell? ⟨b, 1, none⟩ = some y) : (loadVar 54 ⟨b, 0, none⟩).run Try.prog w = .ok (.agg #[x, y]) w := by
  go_simp
end Go.Proofs.Ytdnkbnpjbcalaaa
