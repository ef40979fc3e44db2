/- Maps from whole numbers, known whole: what a lookup, a store and clear come to, and what they leave. -/
import Derived.Test.YtgdkchjicggdlaaFld
import Derived.MapKept
namespace Go.Proofs.Ytgdkchjicggdlaa
open Go.RowKit Go.Proofs.YtgdkchjicggdlaaW.PrintWords

/-- A map's entry. -/
structure Ent where
  key : Int
  val : Value
  born : Nat
def Ent.mk_ (x : Ent) : MapEntry := { key := .int .i64 x.key, val := x.val, born := x.born }
def entries (L : List Ent) : Array MapEntry := (L.map Ent.mk_).toArray
/-- Block m is a map of these entries. -/
def MapAt (w : World) (m : Nat) (L : List Ent) (clock : Nat) : Prop := w.heap[m]? = some (.map (entries L) clock)
def mget : List Ent → Int → Option Value
  | [], _ => none
  | x :: L, k => if x.key = k then some x.val else mget L k
def mset : List Ent → Int → Value → List Ent
  | [], _, _ => []
  | x :: L, k, v => if x.key = k then { x with val := v } :: L else x :: mset L k v
/-- The entries behind a store. -/
def mput (clock : Nat) (L : List Ent) (k : Int) (v : Value) : List Ent := if (mget L k).isSome then mset L k v else L ++ [⟨k, v, clock⟩]
def mclock (clock : Nat) (L : List Ent) (k : Int) : Nat := if (mget L k).isSome then clock else clock + 1

theorem mget_append (x : Ent) (k : Int) : ∀ L : List Ent, mget (L ++ [x]) k = (mget L k).or (if x.key = k then some x.val else none)
  | [] => by simp [mget]
  | y :: L => by
    show (if y.key = k then some y.val else mget (L ++ [x]) k) = (if y.key = k then some y.val else mget L k).or _
    by_cases h : y.key = k
    · rw [if_pos h, if_pos h]; rfl
    · rw [if_neg h, if_neg h]; exact mget_append x k L
theorem mget_mset (k : Int) (v : Value) (k' : Int) : ∀ L : List Ent, mget (mset L k v) k' = if k' = k then (mget L k).map fun _ => v else mget L k'
  | [] => by simp [mget, mset]
  | x :: L => by
    have ih := mget_mset k v k' L
    by_cases h : x.key = k
    · rw [show mset (x :: L) k v = { x with val := v } :: L from if_pos h]
      by_cases h' : k' = k
      · subst h'
        simp [mget, h]
      · have h2 : ¬ x.key = k' := fun e => h' (e.symm.trans h)
        rw [if_neg h']
        show (if x.key = k' then some v else mget L k') = if x.key = k' then some x.val else mget L k'
        rw [if_neg h2, if_neg h2]
    · rw [show mset (x :: L) k v = x :: mset L k v from if_neg h]
      show (if x.key = k' then some x.val else mget (mset L k v) k') = _
      by_cases h' : k' = k
      · subst h'
        rw [if_neg h, ih, if_pos rfl, if_pos rfl]
        show _ = (if x.key = k' then some x.val else mget L k').map _
        rw [if_neg h]
      · rw [if_neg h']
        show _ = if x.key = k' then some x.val else mget L k'
        rw [ih, if_neg h']
theorem mget_mput (clock : Nat) (L : List Ent) (k : Int) (v : Value) (k' : Int) : mget (mput clock L k v) k' = if k' = k then some v else mget L k' := by
  unfold mput
  cases h : mget L k with
  | some y =>
    simp only [Option.isSome_some, if_true]
    rw [mget_mset, h]
    rfl
  | none =>
    simp only [Option.isSome_none, Bool.false_eq_true, if_false]
    rw [mget_append]
    by_cases e : k' = k
    · subst e
      rw [if_pos rfl, if_pos rfl, h]
      rfl
    · rw [if_neg e, if_neg (fun h => e h.symm)]
      cases mget L k' <;> rfl

theorem keys_int (L : List Ent) : ∀ x ∈ (entries L).toList, MapKept.IsKey (.int .i64) x.key := by
  intro x hx
  simp only [entries, List.mem_map] at hx
  obtain ⟨y, _, rfl⟩ := hx
  simp [Ent.mk_, MapKept.IsKey]

theorem find_now (k : Int) : ∀ (L : List Ent) (i : Nat), (mget L k = none ∧ Instr.findNow (.int .i64) (.int .i64 k) (entries L).toList i = some none) ∨
    ∃ j x, mget L k = some x.val ∧ Instr.findNow (.int .i64) (.int .i64 k) (entries L).toList i = some (some (i + j, x.val)) ∧ L[j]? = some x ∧ x.key = k ∧
      ∀ v, (entries L).modify j (fun e => { e with key := .int .i64 k, val := v }) = entries (mset L k v)
  | [], _ => .inl ⟨rfl, rfl⟩
  | x :: L, i => by
    have ih := find_now k L (i + 1)
    have e : (entries (x :: L)).toList = x.mk_ :: (entries L).toList := rfl
    rw [e]
    unfold Instr.findNow
    by_cases h : x.key = k
    · refine .inr ⟨0, x, if_pos h, ?_, rfl, h, fun v => ?_⟩
      · simp [Instr.sameNow, Ent.mk_, h]
      · apply Array.ext'
        rw [show mset (x :: L) k v = { x with val := v } :: L from if_pos h]
        rw [Array.toList_modify]
        simp [entries, Ent.mk_, h]
    · have h1 : (k == x.key) = false := by rw [beq_eq_false_iff_ne]; exact fun q => h q.symm
      have hm : mget (x :: L) k = mget L k := if_neg h
      rw [hm]
      simp only [Instr.sameNow, Ent.mk_, if_true, h1]
      rcases ih with ⟨h2, h3⟩ | ⟨j, y, h2, h3, h4, h5, h6⟩
      · exact .inl ⟨h2, h3⟩
      · refine .inr ⟨j + 1, y, h2, ?_, h4, h5, fun v => ?_⟩
        · rw [h3, show i + 1 + j = i + (j + 1) from by omega]
        · have := congrArg Array.toList (h6 v)
          apply Array.ext'
          rw [show mset (x :: L) k v = x :: mset L k v from if_neg h]
          rw [Array.toList_modify] at this ⊢
          simp only [entries, List.map_cons, List.modify_succ_cons] at this ⊢
          rw [this]

section
variable {P : Program} {w : World} {T kt et : TypeId} {m : Nat} {L : List Ent} {clock : Nat}
theorem run_look (hT : P.underlying T = some (.map kt et)) (hk : P.underlying kt = some (.int .i64)) {z : Value} (hz : (zeroValue et).run P w = .ok z w) (h : MapAt w m L clock) (k : Int) :
    (Instr.lookup T (.map (some m)) (.int .i64 k) true).run P w = .ok (.tuple #[(mget L k).getD z, .bool (mget L k).isSome]) w := by
  have hc : ∀ e, (Instr.checkKey e 10000 kt (.int .i64 k)).run P w = .ok () w := fun e => MapKept.run_checkKey (k := .int .i64 k) hk (by simp [MapKept.IsKey]) e 9999
  rcases find_now k L 0 with ⟨h1, h2⟩ | ⟨j, x, h1, h2, _⟩
  · simp [Instr.lookup, run_underlying hT, MapKept.run_getObj_map h, hc, MapKept.run_findKey hk h2, hz, Result.andThen, h1]
  · simp [Instr.lookup, run_underlying hT, MapKept.run_getObj_map h, hc, MapKept.run_findKey hk h2, Result.andThen, h1]
/-- The world behind a store into a map. -/
def World.setMap (w : World) (m : Nat) (L : List Ent) (clock : Nat) : World := { w with heap := w.heap.setIfInBounds m (.map (entries L) clock) }
theorem run_mput (hT : P.underlying T = some (.map kt et)) (hk : P.underlying kt = some (.int .i64)) (h : MapAt w m L clock) (k : Int) (v : Value) :
    (Instr.mapUpdate T (.map (some m)) (.int .i64 k) v).run P w = .ok () (World.setMap w m (mput clock L k v) (mclock clock L k)) := by
  have hc : ∀ e, (Instr.checkKey e 10000 kt (.int .i64 k)).run P w = .ok () w := fun e => MapKept.run_checkKey (k := .int .i64 k) hk (by simp [MapKept.IsKey]) e 9999
  rcases find_now k L 0 with ⟨h1, h2⟩ | ⟨j, x, h1, h2, h3, h4, h5⟩
  · simp [Instr.mapUpdate, run_underlying hT, MapKept.run_getObj_map h, hc, MapKept.run_findKey hk h2, MapKept.run_setObj_map _ h, Result.andThen, World.setMap, mput, mclock, h1]
    simp [entries, Ent.mk_]
  · have hj : (entries L)[j]? = some x.mk_ := by simp [entries, h3]
    have hks : (Instr.keyThatStays (.int .i64 k) (.int .i64 k)).run P w = .ok (.int .i64 k) w := MapKept.run_keyThatStays (d := .int .i64) (by simp [MapKept.IsKey])
    have hxk : x.mk_.key = .int .i64 k := by rw [← h4]; rfl
    simp [Instr.mapUpdate, run_underlying hT, MapKept.run_getObj_map h, hc, MapKept.run_findKey hk h2, MapKept.run_setObj_map _ h, Result.andThen, World.setMap, mput, mclock, h1, hj, hxk, hks, h5]
theorem setMap_at (h : MapAt w m L clock) (L' : List Ent) (c' : Nat) : MapAt (World.setMap w m L' c') m L' c' := (MapKept.heap_set h).1
theorem setMap_other (h : MapAt w m L clock) (L' : List Ent) (c' : Nat) {i : Nat} (hi : i ≠ m) : (World.setMap w m L' c').heap[i]? = w.heap[i]? := (MapKept.heap_set h).2 i hi
theorem setMap_size (L' : List Ent) (c' : Nat) : (World.setMap w m L' c').heap.size = w.heap.size := by simp [World.setMap]
theorem run_clear_map (hT : P.underlying T = some (.map kt et)) (ty : TypeId) (h : MapAt w m L clock) :
    (Builtin.clear_ #[T] ty #[.map (some m)]).run P w = .ok (.tuple #[]) (World.setMap w m [] clock) := by
  simp [Builtin.clear_, run_underlying hT, MapKept.run_getObj_map h, MapKept.run_setObj_map _ h, Result.andThen, World.setMap, entries]
end
end Go.Proofs.Ytgdkchjicggdlaa
