/- The Client laws' own ground: blocks, rows of one's own, what stays. -/
import Derived.Test.YtdnkbnpjbcalaaaProg
import Derived.Lib.Hide
import Derived.IntWalk
import Derived.Deep.QuietTactic
import Derived.StillTailTactics
import Derived.Deep.DeepFit
import Derived.Deep.RegionHeld3
import Derived.Maps.AppendAt
import Derived.WalkSpells
import Derived.WalkLawsBesides
import Derived.RowKit
namespace Go.Proofs.Ytdnkbnpjbcalaaa
open Go.RowKit

theorem ret_int {k : IntKind} {a b : Int} (h : a = b) : Ending.returned (.int k a) = .returned (.int k b) := by rw [h]
theorem ret_bool {a b : Bool} (h : a = b) : Ending.returned (.bool a) = .returned (.bool b) := by rw [h]
theorem ret_str {a b : ByteArray} (h : a = b) : Ending.returned (.string a) = .returned (.string b) := by rw [h]

/-- api.Sector. -/
structure Sec where
  At : Int
  Data : ByteArray
def Blk (w : World) (b : Nat) (cs : Array Value) (t : TypeId) : Prop := w.heap[b]? = some (.cells cs t (0, 0))
theorem Blk.lt {w : World} {b : Nat} {cs : Array Value} {t : TypeId} (h : Blk w b cs t) : b < w.heap.size := by
  unfold Blk at h
  exact (Array.getElem?_eq_some_iff.1 h).1
theorem Blk.cell {w : World} {b : Nat} {cs : Array Value} {t : TypeId} (h : Blk w b cs t) {i : Nat} {v : Value} (hi : cs[i]? = some v) : w.cell? ⟨b, i, none⟩ = some v := by
  unfold Blk at h
  simp [World.cell?, h, hi]
theorem Blk.free {w : World} {b : Nat} {cs : Array Value} {t : TypeId} (h : Blk w b cs t) (i : Nat) : w.frozen? ⟨b, i, none⟩ = false := by
  unfold Blk at h
  simp [World.frozen?, h]
theorem Blk.set {w : World} {b : Nat} {cs : Array Value} {t : TypeId} (h : Blk w b cs t) (i : Nat) (v : Value) : Blk (w.setCell ⟨b, i, none⟩ v) b (cs.setIfInBounds i v) t := by
  unfold Blk at *
  show (w.heap.modify b _)[b]? = _
  rw [Array.getElem?_modify, if_pos rfl, h]
  rfl
theorem Blk.grown {w w' : World} {b : Nat} {cs : Array Value} {t : TypeId} (h : Blk w b cs t) {r : Option Nat} (hg : w.grownBy w' r) (hr : some b ≠ r) : Blk w' b cs t := by
  unfold Blk at *
  rw [hg.block b (Blk.lt h) hr, h]
theorem Blk.below {w w' : World} {b : Nat} {cs : Array Value} {t : TypeId} (h : Blk w b cs t) {B : Nat} (hg : Below B w w') (hB : b < B) : Blk w' b cs t := by
  unfold Blk at *
  rw [hg.block b hB, h]
theorem Blk.alloc (w : World) (cs : Array Value) (t : TypeId) : Blk (w.alloc (.cells cs t)) w.heap.size cs t := by
  unfold Blk
  show (w.heap.push _)[w.heap.size]? = _
  simp
theorem grown_set {w : World} {b : Nat} (i : Nat) (v : Value) : w.grownBy (w.setCell ⟨b, i, none⟩ v) (some b) :=
  ⟨rfl, rfl, rfl, by simp [World.setCell], fun j _ hne => Below.heap_setCell w ⟨b, i, none⟩ v j (fun e => hne (by rw [e]))⟩
theorem grown_trans {a b c : World} {r : Option Nat} (h : a.grownBy b r) (k : b.grownBy c r) : a.grownBy c r :=
  ⟨k.os.trans h.os, k.tape.trans h.tape, k.output.trans h.output, Nat.le_trans h.size k.size, fun i hi hne => (k.block i (Nat.lt_of_lt_of_le hi h.size) hne).trans (h.block i hi hne)⟩
theorem grown_below {a b : World} (h : Below a.heap.size a b) (r : Option Nat) : a.grownBy b r := ⟨h.os, h.tape, h.output, h.size, fun i hi _ => h.block i hi⟩
/-- Growth that touches one block of the call's own leaves what was there ahead of the call. -/
theorem below_grown {a b c : World} (h : Below a.heap.size a b) {g : Nat} (k : b.grownBy c (some g)) (hg : a.heap.size ≤ g) : Below a.heap.size a c :=
  ⟨k.os.trans h.os, k.tape.trans h.tape, k.output.trans h.output, Nat.le_trans h.size k.size, fun i hi => (k.block i (Nat.lt_of_lt_of_le hi h.size) (fun e => by injection e with e; omega)).trans (h.block i hi)⟩


theorem blk_new {w : World} {cs : Array Value} {t : TypeId} {n : Nat} (hn : n = w.heap.size) : Blk (w.alloc (.cells cs t)) n cs t := by subst hn; exact Blk.alloc _ _ _
theorem below_trans {a b c : World} (h : Below a.heap.size a b) (k : Below b.heap.size b c) : Below a.heap.size a c := h.trans (k.mono h.size)
theorem heap_lt {w : World} {g : Nat} {o : Obj} (h : w.heap[g]? = some o) : g < w.heap.size := (Array.getElem?_eq_some_iff.1 h).1
/-- All blocks but S's are as they were. -/
def Stays (w w' : World) (S : Nat → Prop) : Prop := w.heap.size ≤ w'.heap.size ∧ ∀ i, i < w.heap.size → ¬ S i → w'.heap[i]? = w.heap[i]?
theorem Blk.stays {w w' : World} {b : Nat} {cs : Array Value} {t : TypeId} (h : Blk w b cs t) {S : Nat → Prop} (hk : Stays w w' S) (hs : ¬ S b) : Blk w' b cs t := by
  have := hk.2 b h.lt hs
  unfold Blk at *
  rw [this, h]
theorem own_stays {w w' : World} {base : Nat} {e : TypeId} {size n : Nat} {v : Value} {xs : List Value} (h : w.ownsRow base e size v n xs) {S : Nat → Prop} (hk : Stays w w' S) (hs : ∀ i, v.ownBlock = some i → ¬ S i) : w'.ownsRow base e size v n xs := by
  obtain ⟨hl, h⟩ := h
  refine ⟨hl, ?_⟩
  rcases h with h | ⟨g, cap, cur, h1, h2, h3, h4⟩
  · exact .inl h
  · subst h1
    exact .inr ⟨g, cap, cur, rfl, h2, (hk.2 g (heap_lt h3) (hs g rfl)).trans h3, h4⟩
theorem own_type {w : World} {base : Nat} {e : TypeId} {size n : Nat} {v : Value} {xs : List Value} (h : w.ownsRow base e size v n xs) {b : Nat} {cs : Array Value} {t : TypeId} (hb : Blk w b cs t) (ht : e ≠ t) : v.ownBlock ≠ some b := by
  rcases h.2 with ⟨h1, _⟩ | ⟨g, cap, cur, h1, h2, h3, _⟩
  · subst h1; simp [Value.ownBlock]
  · subst h1
    intro e'
    simp only [Value.ownBlock, Option.some.injEq] at e'
    subst e'
    unfold Blk at hb
    rw [h3] at hb
    simp at hb
    exact ht hb.2
theorem own_lt {w : World} {base : Nat} {e : TypeId} {size n : Nat} {v : Value} {xs : List Value} (h : w.ownsRow base e size v n xs) {i : Nat} (hi : v.ownBlock = some i) : i < w.heap.size ∧ base ≤ i := by
  rcases h.2 with ⟨h1, _⟩ | ⟨g, cap, cur, h1, h2, h3, _⟩
  · subst h1; simp [Value.ownBlock] at hi
  · subst h1
    simp only [Value.ownBlock, Option.some.injEq] at hi
    subst hi
    exact ⟨heap_lt h3, h2⟩
theorem own_apart {w : World} {base base' : Nat} {e e' : TypeId} {z z' n n' : Nat} {v v' : Value} {xs xs' : List Value} (h : w.ownsRow base e z v n xs) (h' : w.ownsRow base' e' z' v' n' xs') (he : e ≠ e') {j : Nat} (hj : v.ownBlock = some j) : v'.ownBlock ≠ some j := by
  rcases h.2 with ⟨h1, _⟩ | ⟨g, cap, cur, h1, h2, h3, _⟩
  · subst h1; simp [Value.ownBlock] at hj
  · subst h1
    simp only [Value.ownBlock, Option.some.injEq] at hj
    subst hj
    exact own_type h' (cs := cur) (t := e) h3 (fun q => he q.symm)

def Sec.cells (x : Sec) : List Value := [.int .i64 x.At, .string x.Data]
def secCells (l : List Sec) : List Value := l.flatMap Sec.cells
theorem secCells_len (l : List Sec) : (secCells l).length = l.length * 2 := by
  unfold secCells
  induction l with
  | nil => rfl
  | cons x l ih => rw [List.flatMap_cons, List.length_append, ih, List.length_cons]; simp [Sec.cells]; omega
theorem secCells_app (a b : List Sec) : secCells (a ++ b) = secCells a ++ secCells b := by simp [secCells]
theorem secCells_get : ∀ (l : List Sec) (k : Nat) (hk : k < l.length), (secCells l)[k * 2]? = some (.int .i64 l[k].At) ∧ (secCells l)[k * 2 + 1]? = some (.string l[k].Data)
  | [], _, h => by simp at h
  | x :: l, 0, _ => ⟨rfl, rfl⟩
  | x :: l, k + 1, h => by
    have ih := secCells_get l k (by simpa using h)
    have e : secCells (x :: l) = .int .i64 x.At :: .string x.Data :: secCells l := rfl
    rw [e, show (k + 1) * 2 = k * 2 + 1 + 1 from by omega]
    simpa using ih
theorem secCells_set : ∀ (l : List Sec) (k : Nat) (hk : k < l.length) (d : ByteArray), (secCells l).set (k * 2 + 1) (.string d) = secCells (l.set k ⟨l[k].At, d⟩)
  | [], _, h, _ => by simp at h
  | x :: l, 0, _, d => rfl
  | x :: l, k + 1, h, d => by
    have ih := secCells_set l k (by simpa using h) d
    have e : secCells (x :: l) = .int .i64 x.At :: .string x.Data :: secCells l := rfl
    rw [e, show (k + 1) * 2 + 1 = k * 2 + 1 + 1 + 1 from by omega]
    simp only [List.set_cons_succ, List.getElem_cons_succ, ih]
    rfl
theorem secCells_one : ∀ (l : List Sec), ∀ u ∈ secCells l, u.oneCell' = true := by
  intro l u hu
  unfold secCells at hu
  obtain ⟨x, _, hx⟩ := List.mem_flatMap.1 hu
  simp only [Sec.cells, List.mem_cons, List.not_mem_nil, or_false] at hx
  rcases hx with rfl | rfl <;> rfl

abbrev OwnSecs (w : World) (base : Nat) (v : Value) (l : List Sec) : Prop := w.ownsRow base 71 2 v l.length (secCells l)
theorem sec_info : (Try.prog.info? 71).map (fun i => (i.zero, i.size, i.bytes)) = some (some (.agg #[.int .i64 0, .string ⟨#[]⟩]), 2, 24) := by kernel_rfl
theorem below_drew (w : World) : Below w.heap.size w w.drew := ⟨rfl, rfl, rfl, Nat.le_refl _, fun _ _ => rfl⟩
theorem cell_below {w w' : World} (hb : Below w.heap.size w w') {a : Addr} {v : Value} (h : w.cell? a = some v) : w'.cell? a = some v := by
  have := hb.block a.block (World.block_lt_of_cell? w a h)
  simpa [World.cell?, this] using h
end Go.Proofs.Ytdnkbnpjbcalaaa
