/- Slices of sectors that the call itself has made. -/
import Derived.Test.YtgdkchjicggdlaaLrg
namespace Go.Proofs.Ytgdkchjicggdlaa
open Go.RowKit Go.Proofs.YtgdkchjicggdlaaW.PrintWords

def Sec.cells (x : Sec) : List Value := [.int .i64 x.At, .string x.Data]
def secCells (l : List Sec) : List Value := l.flatMap Sec.cells
theorem secCells_len (l : List Sec) : (secCells l).length = l.length * 2 := by
  unfold secCells
  induction l with
  | nil => rfl
  | cons x l ih => rw [List.flatMap_cons, List.length_append, ih, List.length_cons]; simp [Sec.cells]; omega
theorem secCells_app (a b : List Sec) : secCells (a ++ b) = secCells a ++ secCells b := by simp [secCells]
theorem secCells_get : ∀ (l : List Sec) (k : Nat) (hk : k < l.length), (secCells l)[k * 2]? = some (.int .i64 l[k].At) ∧ (secCells l)[k * 2 + 1]? = some (.string l[k].Data)
  | [], _, h => by simp at h
  | x :: l, 0, _ => ⟨rfl, rfl⟩
  | x :: l, k + 1, h => by
    have ih := secCells_get l k (by simpa using h)
    have e : secCells (x :: l) = .int .i64 x.At :: .string x.Data :: secCells l := rfl
    rw [e, show (k + 1) * 2 = k * 2 + 1 + 1 from by omega]
    simpa using ih
theorem secCells_set : ∀ (l : List Sec) (k : Nat) (hk : k < l.length) (d : ByteArray), (secCells l).set (k * 2 + 1) (.string d) = secCells (l.set k ⟨l[k].At, d⟩)
  | [], _, h, _ => by simp at h
  | x :: l, 0, _, d => rfl
  | x :: l, k + 1, h, d => by
    have ih := secCells_set l k (by simpa using h) d
    have e : secCells (x :: l) = .int .i64 x.At :: .string x.Data :: secCells l := rfl
    rw [e, show (k + 1) * 2 + 1 = k * 2 + 1 + 1 + 1 from by omega]
    simp only [List.set_cons_succ, List.getElem_cons_succ, ih]
    rfl
theorem secCells_one : ∀ (l : List Sec), ∀ u ∈ secCells l, u.oneCell' = true := by
  intro l u hu
  unfold secCells at hu
  obtain ⟨x, _, hx⟩ := List.mem_flatMap.1 hu
  simp only [Sec.cells, List.mem_cons, List.not_mem_nil, or_false] at hx
  rcases hx with rfl | rfl <;> rfl

abbrev OwnSecs (w : World) (base : Nat) (v : Value) (l : List Sec) : Prop := w.ownsRow base 59 2 v l.length (secCells l)
theorem sec_info : (Try.prog.info? 59).map (fun i => (i.zero, i.size, i.bytes)) = some (some (.agg #[.int .i64 0, .string ⟨#[]⟩]), 2, 24) := by kernel_rfl

theorem OwnSecs.form {w : World} {base : Nat} {v : Value} {l : List Sec} (h : OwnSecs w base v l) : ∃ A c, v = .slice A l.length c ∧ l.length ≤ c ∧ Secs w A l := by
  have hmax : ∀ k, k ≤ maxLen → k ≤ 9223372036854775807 := fun k hk => by unfold maxLen at hk; omega
  rcases h.2 with ⟨rfl, h0⟩ | ⟨g, cap, cur, rfl, hg, hh, hn, hm, hs, ht⟩
  · have : l = [] := List.length_eq_zero_iff.1 h0
    subst this
    exact ⟨none, 0, rfl, Nat.le_refl _, Kd.C_nil _ _⟩
  · refine ⟨some ⟨g, 0, none⟩, cap, rfl, hn, ⟨rfl, hmax _ (by omega), fun _ => ⟨_, rfl, fun j p hj => ?_⟩⟩⟩
    obtain ⟨hlt, rfl⟩ := List.getElem?_eq_some_iff.1 hj
    obtain ⟨g0, g1⟩ := secCells_get l j hlt
    refine ⟨[.int .i64 l[j].At, .string l[j].Data], rfl, kSec_mk w _, fun i u hu => ?_⟩
    have hc := World.ownsRow.cells h (g := g) rfl
    match i, hu with
    | 0, hu => obtain rfl : Value.int .i64 l[j].At = u := by simpa using hu
               exact hc _ _ g0
    | 1, hu => obtain rfl : Value.string l[j].Data = u := by simpa using hu
               exact hc _ _ g1
    | i + 2, hu => simp at hu
theorem OwnSecs.nil (w : World) (base : Nat) : OwnSecs w base (.slice none 0 0) [] := World.ownsRow_nil w base _ _
theorem OwnSecs.below {w w' : World} {base : Nat} {v : Value} {l : List Sec} (h : OwnSecs w base v l) (hb : Below w.heap.size w w') : OwnSecs w' base v l := pw_own_below h hb
/-- Where something else has been written. -/
theorem OwnSecs.grown {w w' : World} {base : Nat} {v : Value} {l : List Sec} (h : OwnSecs w base v l) {r : Option Nat} (hg : w.grownBy w' r) (hne : v.ownBlock = none ∨ v.ownBlock ≠ r) : OwnSecs w' base v l := own_other h hg hne
/-- A block of another type is none of its own. -/
theorem OwnSecs.ne {w : World} {base : Nat} {v : Value} {l : List Sec} (h : OwnSecs w base v l) {b : Nat} {cs : Array Value} {t : TypeId} (hb : Blk w b cs t) (ht : 59 ≠ t) : v.ownBlock ≠ some b := fun e => own_ne h hb ht e.symm
theorem OwnSecs.at_ {w : World} {base : Nat} {v : Value} {l : List Sec} (h : OwnSecs w base v l) (hp : 0 < l.length) : ∃ g cap, v = .slice (some ⟨g, 0, none⟩) l.length cap ∧ l.length ≤ cap := by
  rcases h.2 with ⟨rfl, h0⟩ | ⟨g, cap, cur, rfl, hg, hh, hn, hm, hs, ht⟩
  · omega
  · exact ⟨g, cap, rfl, hn⟩
/-- The bytes of one of them are laid. -/
theorem OwnSecs.put {w : World} {base g n cap : Nat} {l : List Sec} (h : OwnSecs w base (.slice (some ⟨g, 0, none⟩) n cap) l) (hn : n = l.length) (k : Nat) (hk : k < l.length) (d : ByteArray) :
    OwnSecs (w.setCell ⟨g, k * 2 + 1, none⟩ (.string d)) base (.slice (some ⟨g, 0, none⟩) n cap) (l.set k ⟨l[k].At, d⟩) ∧ w.grownBy (w.setCell ⟨g, k * 2 + 1, none⟩ (.string d)) (some g) ∧
      w.cell? ⟨g, k * 2 + 1, none⟩ = some (.string l[k].Data) ∧ w.frozen? ⟨g, k * 2 + 1, none⟩ = false := by
  subst hn
  obtain ⟨h1, h2⟩ := World.ownsRow.stored h (k * 2 + 1) (.string d)
  refine ⟨?_, h2, ?_, World.ownsRow.frozenAt h _⟩
  · unfold OwnSecs
    rw [List.length_set, ← secCells_set l k hk d]
    exact h1
  · rw [World.ownsRow.cellAt h _ (by omega)]
    exact (secCells_get l k hk).2
end Go.Proofs.Ytgdkchjicggdlaa
