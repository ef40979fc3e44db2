/- ClientOver: what the client has done, and goes over. -/
import Derived.Test.YtdnkbnpjbcalaaaCwq
namespace Go.Proofs.Ytdnkbnpjbcalaaa
open Go.RowKit

/-- Where the law stands behind k steps: base is where its own ground begins. -/
structure OvAt (w0 w : World) (c ta tb : Nat) (B : TpV) (v : ClV) (A : TpV) (k : Nat) : Prop where
  cl : ClAt w w0.heap.size c (some ta) (some tb) v
  at0 : v.at_ = 0
  a : TapeAt w w0.heap.size ta A
  b : TapeAt w w0.heap.size tb B
  ne : ta ≠ tb
  bn : B.wrote = .slice none 0 0
  ap : Apart v.kept A.wrote
  kl : v.K.length ≤ k
  fl : v.F.length ≤ k
  fo : ∀ x ∈ v.F, 0 ≤ x.2 ∧ x.2 ≤ v.K.length
  an : A.n ≤ k
  ao : A.ops ≤ k
  al : A.wl.length ≤ k
  ae : A.errs = []
  old : Below w0.heap.size w0 w
theorem clS_ge {w : World} {base c t : Nat} {s0 s1 : Option Nat} {v : ClV} {T : TpV} (h : ClAt w base c s0 s1 v) (hT : TapeAt w base t T) : ∀ i, ClS c t v i → base ≤ i := fun i hi => by
  rcases hi with e | e | e | e
  · rw [e]; exact h.hb
  · rw [e]; exact hT.hb
  · exact (own_lt h.k e).2
  · exact (own_lt h.f e).2
theorem err_nil {T : TpV} (h : T.errs = []) : T.err = 0 := by unfold TpV.err errAt; rw [h]; rfl
theorem OvAt.wrote {w0 w w' : World} {c ta tb : Nat} {B : TpV} {v : ClV} {A : TpV} {k : Nat} (h : OvAt w0 w c ta tb B v A k) {x : Int} {d : ByteArray} {e : Ending} (hp : CWrotePost w w0.heap.size c (some ta) (some tb) v ta A x d e w') : e = .returned (.int .i64 0) ∧ ∃ v' A', OvAt w0 w' c ta tb B v' A' (k + 1) := by
  obtain ⟨rfl, kv, wv, hc, ha, hm, hap, hkv, hwv⟩ := hp
  have he := err_nil h.ae
  rw [if_pos he] at hc ha
  refine ⟨by rw [he], _, _, hc, h.at0, ha, h.b.other h.cl h.a h.ne (fun j _ e => by rw [h.bn] at e; cases e) hm, h.ne, h.bn, hap, ?_, ?_, ?_, ?_, ?_, ?_, h.ae, h.old.trans (hm.below h.old.size (clS_ge h.cl h.a))⟩
  · rw [List.length_append]; have := h.kl; simp; omega
  · have := h.fl; show v.F.length ≤ _; omega
  · intro x hx; have := h.fo x hx; rw [List.length_append]; simp; omega
  · have := h.an; show A.n + 1 ≤ _; omega
  · have := h.ao; show A.next.ops ≤ _; unfold TpV.next; rw [if_pos he]; show A.ops + 1 ≤ _; omega
  · rw [List.length_append]; have := h.al; simp; omega
theorem OvAt.flushed {w0 w w' : World} {c ta tb : Nat} {B : TpV} {v : ClV} {A : TpV} {k : Nat} (h : OvAt w0 w c ta tb B v A k) {e : Ending} (hp : CFlushPost w w0.heap.size c (some ta) (some tb) v ta A e w') : (∃ b, e = .returned (.tuple #[.bool b, .int .i64 0])) ∧ ∃ v' A', OvAt w0 w' c ta tb B v' A' (k + 1) := by
  obtain ⟨rfl, kv, wv, hc, ha, hm, hkv⟩ := hp
  have he := err_nil h.ae
  have hkk : (flK A v.K).length ≤ v.K.length := by unfold flK; split <;> simp
  have hff : (flF A v.K v.F).length ≤ v.F.length + 1 := by unfold flF; split <;> (try split) <;> (try split) <;> simp
  refine ⟨⟨_, by rw [he]⟩, _, _, hc, h.at0, ha, h.b.other h.cl h.a h.ne (fun j _ e => by rw [h.bn] at e; cases e) hm, h.ne, h.bn, ?_, ?_, ?_, ?_, ?_, ?_, ?_, h.ae, h.old.trans (hm.below h.old.size (clS_ge h.cl h.a))⟩
  · intro j hj hw
    have hw : A.wrote.ownBlock = some j := hw
    rcases hkv with e | ⟨q, e, hq⟩
    · exact h.ap j (by rw [← e]; exact hj) hw
    · have := (own_lt h.a.own hw).1
      have hj : kv.ownBlock = some j := hj
      rw [e] at hj; injection hj with hj; omega
  · have := h.kl; show (flK A v.K).length ≤ _; omega
  · have := h.fl; show (flF A v.K v.F).length ≤ _; omega
  · intro x hx
    have hx : x ∈ flF A v.K v.F := hx
    show 0 ≤ x.2 ∧ x.2 ≤ ((flK A v.K).length : Int)
    unfold flF at hx
    rw [if_pos he] at hx
    by_cases h2 : A.ev.2 = 2
    · rw [if_pos h2] at hx; cases hx
    · rw [if_neg h2] at hx
      have hk0 : flK A v.K = v.K := by unfold flK; rw [if_neg (fun z => h2 z.2)]
      rw [hk0]
      by_cases h1 : A.ev.2 = 1
      · rw [if_pos h1] at hx; exact h.fo x hx
      · rw [if_neg h1] at hx
        rcases List.mem_append.1 hx with hx | hx
        · exact h.fo x hx
        · rw [List.mem_singleton.1 hx]; exact ⟨by show (0 : Int) ≤ (v.K.length : Int); omega, Int.le_refl _⟩
  · have := h.an; show A.n + 1 ≤ _; omega
  · have := h.ao; show A.next.ops ≤ _; unfold TpV.next; rw [if_pos he]; show A.ops + 1 ≤ _; omega
  · have := h.al; show A.wl.length ≤ _; omega
theorem OvAt.same {w0 w w' : World} {c ta tb : Nat} {B : TpV} {v : ClV} {A : TpV} {k k' : Nat} (h : OvAt w0 w c ta tb B v A k) (hb : Below w.heap.size w w') (hk : k ≤ k') : OvAt w0 w' c ta tb B v A k' :=
  ⟨h.cl.below hb, h.at0, h.a.below hb, h.b.below hb, h.ne, h.bn, h.ap, Nat.le_trans h.kl hk, Nat.le_trans h.fl hk, h.fo, Nat.le_trans h.an hk, Nat.le_trans h.ao hk, Nat.le_trans h.al hk, h.ae, h.old.trans (hb.mono h.old.size)⟩

/-- How far errors let one come. -/
def Far (errs : List Int) (n m : Nat) (r : Int) : Prop := m ≤ n ∧ (∀ i, i < m → errAt errs i = 0) ∧ ((m = n ∧ r = 0) ∨ (m < n ∧ errAt errs m = r ∧ r ≠ 0))
theorem Far.one {errs : List Int} {n m m' : Nat} {r r' : Int} (h : Far errs n m r) (h' : Far errs n m' r') : m = m' ∧ r = r' := by
  obtain ⟨a, b, c⟩ := h
  obtain ⟨a', b', c'⟩ := h'
  rcases Nat.lt_trichotomy m m' with hl | hl | hl
  · have := b' m hl
    rcases c with ⟨e, _⟩ | ⟨_, e, ne⟩
    · omega
    · rw [this] at e; exact absurd e.symm ne
  · subst hl
    refine ⟨rfl, ?_⟩
    rcases c with ⟨e, e2⟩ | ⟨l, e, ne⟩ <;> rcases c' with ⟨e', e2'⟩ | ⟨l', e', ne'⟩
    · rw [e2, e2']
    · omega
    · omega
    · rw [← e, ← e']
  · have := b m' hl
    rcases c' with ⟨e, _⟩ | ⟨_, e, ne⟩
    · omega
    · rw [this] at e; exact absurd e.symm ne
/-- Going over moves the client and the tape that is used then, and nothing else. -/
theorem over_other {w w' : World} {base c ta tb g : Nat} {s0 s1 : Option Nat} {v : ClV} {A : TpV} {E : Option Addr} {ne ce : Nat} {Hs : Option Addr} {nh ch : Nat} {come wrote : Value} {n ops : Nat} (hc : ClAt w base c s0 s1 v) (ha : TapeAt w base ta A) (hb : TpBox w tb E ne ce Hs nh ch come wrote n ops) (htb : base ≤ tb) (hne : ta ≠ tb) {cs : Array Value} (hx : Blk w g cs 71)
    (hm : Mv w w' (fun i => i = c ∨ i = tb)) : TapeAt w' base ta A ∧ Blk w' g cs 71 ∧ (base ≤ w.heap.size → Below base w w') := by
  refine ⟨ha.mv hm (fun i hi => ?_) (fun hi => ?_) (fun i hj hi => ?_), hx.mv hm (fun hi => ?_), fun hs => hm.below hs (fun i hi => ?_)⟩
  · rcases hi with e | e
    · rw [e]; exact hc.hb
    · rw [e]; exact htb
  · rcases hi with e | e
    · exact ne_box hc.box ha.box e.symm
    · exact hne e
  · rcases hi with e | e
    · exact own_type ha.own hc.box (by decide) (by rw [← e]; exact hj)
    · exact own_type ha.own hb (by decide) (by rw [← e]; exact hj)
  · rcases hi with e | e
    · have h := hc.box
      unfold ClBox Blk at h
      unfold Blk at hx
      rw [← e, hx] at h
      simp at h
    · unfold TpBox Blk at hb
      unfold Blk at hx
      rw [← e, hx] at hb
      simp at hb
  · rcases hi with e | e
    · rw [e]; exact hc.hb
    · rw [e]; exact htb
theorem secCells_take : ∀ (l : List Sec) (n : Nat), (secCells l).take (n * 2) = secCells (l.take n)
  | l, 0 => by simp [secCells]
  | [], n + 1 => by simp [secCells]
  | x :: l, n + 1 => by
    have e : secCells (x :: l) = .int .i64 x.At :: .string x.Data :: secCells l := rfl
    rw [e, show (n + 1) * 2 = n * 2 + 1 + 1 from by omega, List.take_succ_cons, List.take_succ_cons, List.take_succ_cons, secCells_take l n]
    rfl
theorem rdS_blk {w : World} {g : Nat} {l : List Sec} (h : Blk w g (secCells l).toArray 71) : RdS w (.slice (some ⟨g, 0, none⟩) l.length l.length) l := by
  have := rd_blk (m := l.length) (size := 2) h (by rw [List.size_toArray, secCells_len])
  simpa using this
theorem rdS_to {w : World} {A : Option Addr} {c : Nat} {l : List Sec} (h : RdS w (.slice A l.length c) l) (m : Nat) (hm : m ≤ l.length) : RdS w (.slice A m c) (l.take m) := by
  have := Rd.to h hm
  rw [secCells_take] at this
  unfold RdS
  rw [List.length_take, Nat.min_eq_left hm]
  exact this
theorem rdS_from {P : Program} {w : World} {t : TypeId} {i : TypeInfo} {A : Option Addr} {N cp : Nat} {l l' : List Sec} (ht : P.underlying t = some (.slice 71)) (hi : P.info? 71 = some i) (hz : i.size = 2) (h : RdS w (.slice A N cp) (l ++ l')) (hN : (l ++ l').length = N) (hc : N ≤ cp) :
    ∃ u, (∀ W, (Instr.slice t (.slice A N cp) (some (.int .i64 (l.length : Int))) none none).run P W = .ok u W) ∧ RdS w u l' := by
  subst hN
  obtain ⟨u, h1, h2⟩ := slice_rd ht hi hz h hc l.length (by rw [List.length_append]; omega)
  refine ⟨u, h1, ?_⟩
  rw [secCells_drop, List.drop_left, List.length_append, show l.length + l'.length - l.length = l'.length from by omega] at h2
  exact h2
theorem rdS_own {w : World} {base : Nat} {v : Value} {l : List Sec} (h : OwnSecs w base v l) : RdS w v l := Rd.own h
end Go.Proofs.Ytdnkbnpjbcalaaa
