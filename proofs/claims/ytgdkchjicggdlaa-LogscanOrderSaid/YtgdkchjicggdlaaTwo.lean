/- A region that draws its order and ends in stores into cells that it reads: what holds of the world is asked behind every operation but those stores; each of the stores waits for what is taken first. -/
import Derived.OrdersHeld
import Derived.Deep.RegionHeld
import Derived.StillTail
namespace Go.Proofs.Ytgdkchjicggdlaa
open Go

section
variable {P : Program} {ops : Array Oper} {Q : Exit → Act → World → Prop} {md : Region.Mode} {S : World → Prop} {X : List Nat}

/-- Whatever order is picked from here on; every operation but those of X leaves S where it holds. -/
def anyX (P : Program) (md : Region.Mode) (ops : Array Oper) (Q : Exit → Act → World → Prop) (S : World → Prop) (X : List Nat) : Nat → Array Bool → Act → World → Prop
  | 0, listed, a, w => Region.ready md ops listed = [] ∧ Q .normal a w
  | f + 1, listed, a, w =>
    (Region.ready md ops listed = [] → Q .normal a w) ∧
      ∀ i ∈ Region.ready md ops listed, wpOp P ops Q i (fun a' w' => (X.contains i = true ∨ (S w → S w')) ∧ anyX P md ops Q S X f (listed.setIfInBounds i true) a' w') a w
theorem anyX_any : ∀ (f : Nat) (listed : Array Bool) (a : Act) (w : World), anyX P md ops Q S X f listed a w → wpAny P md ops Q f listed a w
  | 0, _, _, _, h => h
  | f + 1, _, _, _, h => ⟨h.1, fun i hi => wpOp_mono (fun a' w' x => anyX_any f _ a' w' x.2) (h.2 i hi)⟩

theorem anyX_first {i : Nat} {o : Oper} {v : Value} (ho : ops[i]? = some o) (hsel : ∀ (j : Nat) (o : Oper) cs b, ops[j]? = some o → o.op ≠ .select cs b) (hQ : ∀ c a w, Q (.panic c) (a.put o.dst v) w → Q (.panic c) a w)
    (hX : ∀ x, X.contains x = true → Region.waitsFor md ops x i = true) :
    ∀ (f : Nat) (listed : Array Bool) (a : Act) (w : World),
      (∀ j oj, ops[j]? = some oj → j ≠ i → listed.getD j true = false → (∀ e ∈ oj.after, Region.binds md e = true → e.on ≠ i) → o.apart ops oj = true) →
      i ∈ Region.ready md ops listed → YieldsIf P ops S o v a → S w → anyX P md ops Q S X f (listed.setIfInBounds i true) (a.put o.dst v) w → anyX P md ops Q S X (f + 1) listed a w := by
  intro f
  induction f with
  | zero =>
    intro listed a w _ hr hy hS hh
    refine ⟨fun e => (by rw [e] at hr; cases hr), fun j hj => ?_⟩
    rcases Decidable.em (j = i) with e | e
    · subst e
      exact hy.wpOp ho hS ⟨.inr id, hh⟩
    · have h2 := ready_mono hj e
      rw [hh.1] at h2
      cases h2
  | succ f ih =>
    intro listed a w hap hr hy hS hh
    have hun := (mem_ready.1 hr).1
    refine ⟨fun e => (by rw [e] at hr; cases hr), fun j hj => ?_⟩
    rcases Decidable.em (j = i) with e | e
    · subst e
      exact hy.wpOp ho hS ⟨.inr id, hh⟩
    · obtain ⟨hjun, oj, hoj, hall⟩ := mem_ready.1 hj
      have hne : ∀ e ∈ oj.after, Region.binds md e = true → e.on ≠ i := by
        intro e he hb hon
        have := hall e he hb
        rw [hon, getD_both hun] at this
        cases this
      have hjx : ¬ X.contains j = true := by
        intro hc
        obtain ⟨o', ho', e', he', hb', hon'⟩ := Region.waitsFor_spec (hX j hc)
        obtain rfl : oj = o' := Option.some.inj (hoj.symm.trans ho')
        exact hne e' he' hb' hon'
      refine wpOp_mono (fun a' w' h3 => ?_) (wpOp_putIf hoj (hap j oj hoj e hjun hne) (fun cs b => hsel i o cs b ho) (fun cs b => hsel j oj cs b hoj) hQ hy (hh.2 j (ready_mono hj e)))
      have hS' : S w' := h3.2.1.elim (fun x => absurd x hjx) (fun x => x hS)
      refine ⟨.inr fun _ => hS', ih (listed.setIfInBounds j true) a' w' ?_ (ready_mono hr (Ne.symm e)) h3.1 hS' ?_⟩
      · intro k ok hk hki hkun hno
        refine hap k ok hk hki ?_ hno
        rcases Decidable.em (j = k) with e2 | e2
        · subst e2; exact hjun
        · rwa [getD_set_ne true e2] at hkun
      · rw [Array.setIfInBounds_comm _ _ e]
        exact h3.2.2

def xWaits (md : Region.Mode) (ops : Array Oper) (X : List Nat) (i : Nat) : Bool := X.all fun x => Region.waitsFor md ops x i
/-- Number i is taken first. -/
theorem anyX_take {i : Nat} {o : Oper} {v : Value} {f : Nat} {listed : Array Bool} {a : Act} {w : World} (ho : ops[i]? = some o) (hB : (Region.noSelect ops && Region.free md ops listed i && (Region.ready md ops listed).contains i && xWaits md ops X i) = true)
    (hQ : ∀ c a w, Q (.panic c) (a.put o.dst v) w → Q (.panic c) a w) (hS : S w) (hy : YieldsIf P ops S o v a) (h : anyX P md ops Q S X f (listed.setIfInBounds i true) (a.put o.dst v) w) : anyX P md ops Q S X (f + 1) listed a w := by
  simp only [Bool.and_eq_true] at hB
  obtain ⟨⟨⟨h1, h2⟩, h3⟩, h4⟩ := hB
  exact anyX_first ho (Region.noSelect_spec h1) hQ (fun x hx => List.all_eq_true.1 h4 x (by simpa using hx)) f listed a w (Region.free_spec ho h2) (by simpa using h3) hy hS h
/-- What yields in whatever world may be taken first, too. -/
theorem anyX_first_free {i : Nat} {o : Oper} {v : Value} (ho : ops[i]? = some o) (hsel : ∀ (j : Nat) (o : Oper) cs b, ops[j]? = some o → o.op ≠ .select cs b) (hQ : ∀ c a w, Q (.panic c) (a.put o.dst v) w → Q (.panic c) a w) :
    ∀ (f : Nat) (listed : Array Bool) (a : Act) (w : World),
      (∀ j oj, ops[j]? = some oj → j ≠ i → listed.getD j true = false → (∀ e ∈ oj.after, Region.binds md e = true → e.on ≠ i) → o.apart ops oj = true) →
      i ∈ Region.ready md ops listed → YieldsIf P ops (fun _ => True) o v a → anyX P md ops Q S X f (listed.setIfInBounds i true) (a.put o.dst v) w → anyX P md ops Q S X (f + 1) listed a w := by
  intro f
  induction f with
  | zero =>
    intro listed a w _ hr hy hh
    refine ⟨fun e => (by rw [e] at hr; cases hr), fun j hj => ?_⟩
    rcases Decidable.em (j = i) with e | e
    · subst e
      exact hy.wpOp ho trivial ⟨.inr id, hh⟩
    · have h2 := ready_mono hj e
      rw [hh.1] at h2
      cases h2
  | succ f ih =>
    intro listed a w hap hr hy hh
    have hun := (mem_ready.1 hr).1
    refine ⟨fun e => (by rw [e] at hr; cases hr), fun j hj => ?_⟩
    rcases Decidable.em (j = i) with e | e
    · subst e
      exact hy.wpOp ho trivial ⟨.inr id, hh⟩
    · obtain ⟨hjun, oj, hoj, hall⟩ := mem_ready.1 hj
      have hne : ∀ e ∈ oj.after, Region.binds md e = true → e.on ≠ i := by
        intro e he hb hon
        have := hall e he hb
        rw [hon, getD_both hun] at this
        cases this
      refine wpOp_mono (fun a' w' h3 => ?_) (wpOp_putIf hoj (hap j oj hoj e hjun hne) (fun cs b => hsel i o cs b ho) (fun cs b => hsel j oj cs b hoj) hQ hy (hh.2 j (ready_mono hj e)))
      refine ⟨h3.2.1, ih (listed.setIfInBounds j true) a' w' ?_ (ready_mono hr (Ne.symm e)) h3.1 ?_⟩
      · intro k ok hk hki hkun hno
        refine hap k ok hk hki ?_ hno
        rcases Decidable.em (j = k) with e2 | e2
        · subst e2; exact hjun
        · rwa [getD_set_ne true e2] at hkun
      · rw [Array.setIfInBounds_comm _ _ e]
        exact h3.2.2
theorem anyX_free {i : Nat} {o : Oper} {v : Value} {f : Nat} {listed : Array Bool} {a : Act} {w : World} (ho : ops[i]? = some o) (hB : (Region.noSelect ops && Region.free md ops listed i && (Region.ready md ops listed).contains i) = true)
    (hQ : ∀ c a w, Q (.panic c) (a.put o.dst v) w → Q (.panic c) a w) (hy : YieldsIf P ops (fun _ => True) o v a) (h : anyX P md ops Q S X f (listed.setIfInBounds i true) (a.put o.dst v) w) : anyX P md ops Q S X (f + 1) listed a w := by
  simp only [Bool.and_eq_true] at hB
  obtain ⟨⟨h1, h2⟩, h3⟩ := hB
  exact anyX_first_free ho (Region.noSelect_spec h1) hQ f listed a w (Region.free_spec ho h2) (by simpa using h3) hy h
/-- One alone may come up. -/
theorem anyX_only {i f : Nat} {o : Oper} {listed : Array Bool} {a : Act} {w : World} (hr : Region.ready md ops listed = [i]) (ho : ops[i]? = some o)
    (h : ∀ K : Act → World → Prop, (∀ a' w', (X.contains i = true ∨ (S w → S w')) → anyX P md ops Q S X f (listed.setIfInBounds i true) a' w' → K a' w') → if Region.wanted o (yielded ops a.tmps) = true then Oper.wp P o a w K Q else K (a.put o.dst undef) w) : anyX P md ops Q S X (f + 1) listed a w := by
  refine ⟨fun e => (by rw [hr] at e; cases e), fun j hj => ?_⟩
  rw [hr] at hj
  obtain rfl : j = i := by simpa using hj
  have := h (fun a' w' => (X.contains j = true ∨ (S w → S w')) ∧ anyX P md ops Q S X f (listed.setIfInBounds j true) a' w') (fun _ _ x y => ⟨x, y⟩)
  unfold wpOp
  simp only [ho]
  split
  · rename_i hx; rw [if_pos hx] at this; exact .inl this
  · rename_i hx; rw [if_neg hx] at this; exact this
theorem anyX_done {listed : Array Bool} {a : Act} {w : World} (hr : Region.ready md ops listed = []) (h : Q .normal a w) : anyX P md ops Q S X 0 listed a w := ⟨hr, h⟩
theorem region_X {id : Nat} {a : Act} {w : World} (S : World → Prop) (X : List Nat) (hm : P.follows .mixedOrders = true) (h : anyX P .any ops Q S X ops.size (Array.replicate ops.size false) a w.drew) : (Code.region id ops true).wp P Q a w :=
  wp_region_any hm (anyX_any _ _ _ _ h)
end
end Go.Proofs.Ytgdkchjicggdlaa
