/- LogrecBack: what the law answers. -/
import Derived.Test.YtgdkchjicggdlaaRfg
import Derived.Test.YtgdkchjicggdlaaBkp
import Derived.StillTailTactics
import Derived.Deep.DeepFit
namespace Go.Proofs.Ytgdkchjicggdlaa
open Go.RowKit Go.Proofs.YtgdkchjicggdlaaW.PrintWords

/-- A slice of bytes, made out of a string. -/
def BytesAt (w : World) (g : Nat) (X : List UInt8) (cap : Nat) : Prop := w.heap[g]? = some (.cells (bytesRow (mkS X) cap) 5 ((bytesRow (mkS X) cap).size, (bytesRow (mkS X) cap).size + 1))
theorem bytesRow_size (X : List UInt8) (cap : Nat) : (bytesRow (mkS X) cap).size = X.length + (cap - X.length) := by
  unfold bytesRow
  rw [Array.size_append, Array.size_map, Array.size_replicate]
  rfl
theorem bytesRow_set (X : List UInt8) (cap i : Nat) (hi : i < X.length) (c : UInt8) : (bytesRow (mkS X) cap).setIfInBounds i (.int .u8 c.toNat) = bytesRow (mkS (X.set i c)) cap := by
  apply Array.ext_getElem?
  intro j
  rw [Array.getElem?_setIfInBounds]
  have hs : (mkS (X.set i c)).size = (mkS X).size := by rw [mkS_size, mkS_size, List.length_set]
  unfold bytesRow
  rw [hs]
  by_cases hj : j < X.length
  · rw [Array.getElem?_append_left (by simpa [mkS] using hj), Array.getElem?_append_left (by simpa [mkS] using hj)]
    simp only [mkS, Array.getElem?_map, List.getElem?_toArray, List.getElem?_set]
    by_cases e : i = j
    · subst e
      simp [hi]
      simp [mkS] at *
      omega
    · simp [e]
  · rw [if_neg (by omega)]
    rw [Array.getElem?_append_right (by simpa [mkS] using hj), Array.getElem?_append_right (by simpa [mkS] using hj)]
    simp [mkS]
theorem BytesAt.cell {w : World} {g : Nat} {X : List UInt8} {cap : Nat} (h : BytesAt w g X cap) (i : Nat) (hi : i < X.length) : w.cell? ⟨g, i, none⟩ = some (.int .u8 X[i].toNat) := by
  unfold BytesAt at h
  have := bytesRow_at (mkS X) cap i hi
  simp [World.cell?, h, this]
  rfl
theorem BytesAt.free {w : World} {g : Nat} {X : List UInt8} {cap : Nat} (h : BytesAt w g X cap) (i : Nat) (hi : i < X.length) : w.frozen? ⟨g, i, none⟩ = false := by
  unfold BytesAt at h
  have := bytesRow_size X cap
  simp [World.frozen?, h]
  omega
theorem BytesAt.set {w : World} {g : Nat} {X : List UInt8} {cap : Nat} (h : BytesAt w g X cap) (i : Nat) (hi : i < X.length) (c : UInt8) : BytesAt (w.setCell ⟨g, i, none⟩ (.int .u8 c.toNat)) g (X.set i c) cap := by
  unfold BytesAt at *
  have hz : (bytesRow (mkS (X.set i c)) cap).size = (bytesRow (mkS X) cap).size := by rw [bytesRow_size, bytesRow_size, List.length_set]
  rw [hz, ← bytesRow_set X cap i hi c]
  show (w.heap.modify g _)[g]? = _
  rw [Array.getElem?_modify, if_pos rfl, h]
  rfl

/-- Bytes, of which so many from a place on are turned. -/
def xw (s : List UInt8) (k : Nat) (ys : List UInt8) : Nat → List UInt8
  | 0 => s
  | i + 1 => (xw s k ys i).set (k + i) ((xw s k ys i).getD (k + i) 0 ^^^ ys.getD i 0)
theorem xw_len (s : List UInt8) (k : Nat) (ys : List UInt8) : ∀ i, (xw s k ys i).length = s.length
  | 0 => rfl
  | i + 1 => by unfold xw; rw [List.length_set, xw_len s k ys i]
theorem xw_take (s : List UInt8) (k : Nat) (ys : List UInt8) : ∀ i, (xw s k ys i).take k = s.take k
  | 0 => rfl
  | i + 1 => by
    unfold xw
    rw [List.take_set_of_le (by omega), xw_take s k ys i]
theorem xw_drop (s : List UInt8) (k : Nat) (ys : List UInt8) : ∀ i, (xw s k ys i).drop (k + i) = s.drop (k + i)
  | 0 => rfl
  | i + 1 => by
    have ih := congrArg (List.drop 1) (xw_drop s k ys i)
    rw [List.drop_drop, List.drop_drop] at ih
    unfold xw
    rw [List.drop_set_of_lt (by omega)]
    exact ih
end Go.Proofs.Ytgdkchjicggdlaa
