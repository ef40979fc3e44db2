/- ClientDoes: where the law stands. -/
import Derived.Test.YtdnkbnpjbcalaaaCwx
namespace Go.Proofs.Ytdnkbnpjbcalaaa
open Go.RowKit

theorem blk_inj {w : World} {a : Nat} {cs ds : Array Value} {s t : TypeId} (h : Blk w a cs s) (h' : Blk w a ds t) : s = t := by
  unfold Blk at *
  rw [h] at h'
  simp at h'
  exact h'.2
/-- A block of a type of its own moves. -/
theorem ClAt.away {w w' : World} {base c x : Nat} {s0 s1 : Option Nat} {v : ClV} {cs : Array Value} {t : TypeId} (h : ClAt w base c s0 s1 v) (hx : Blk w x cs t) (h1 : 67 ≠ t) (h2 : 71 ≠ t) (h3 : 74 ≠ t) (hm : Mv w w' (fun i => i = x)) : ClAt w' base c s0 s1 v :=
  h.mv hm (fun e => blk_ne h.box hx h1 e) (fun i hi e => own_type h.k hx h2 (by rw [← e]; exact hi)) (fun i hi e => own_type h.f hx h3 (by rw [← e]; exact hi))
theorem TapeAt.away {w w' : World} {base b x : Nat} {T : TpV} {cs : Array Value} {t : TypeId} (h : TapeAt w base b T) (hx : Blk w x cs t) (hge : base ≤ x) (h1 : b ≠ x) (h2 : 71 ≠ t) (hm : Mv w w' (fun i => i = x)) : TapeAt w' base b T :=
  h.mv hm (fun i e => by rw [e]; exact hge) h1 (fun i hi e => own_type h.own hx h2 (by rw [← e]; exact hi))
theorem RefAt.away {w w' : World} {base b x : Nat} {r : RfV} {cs : Array Value} {t : TypeId} (h : RefAt w base b r) (hx : Blk w x cs t) (h1 : 52 ≠ t) (h2 : 71 ≠ t) (h3 : 76 ≠ t) (hm : Mv w w' (fun i => i = x)) : RefAt w' base b r :=
  h.mv hm (fun e => blk_ne h.box hx h1 e) (fun i hi e => h.kv_ne hx h2 i hi e) (fun i hi e => h.wv_ne hx h3 i hi e)
/-- What the client moves is none of the document's. -/
theorem RefAt.client {w w' : World} {base b c t : Nat} {r : RfV} {s0 s1 : Option Nat} {v : ClV} {T : TpV} (h : RefAt w base b r) (hc : ClAt w base c s0 s1 v) (hT : TapeAt w base t T) (ap : Apart v.kept r.kv) (hm : Mv w w' (ClS c t v)) : RefAt w' base b r := by
  refine h.mv hm (fun hi => ?_) (fun i hj hi => ?_) (fun i hj hi => ?_)
  · rcases hi with e | e | e | e
    · exact blk_ne h.box hc.box (by decide) e
    · exact blk_ne h.box hT.box (by decide) e
    · exact own_type hc.k h.box (by decide) e
    · exact own_type hc.f h.box (by decide) e
  · rcases hi with e | e | e | e
    · exact h.kv_ne hc.box (by decide) i hj e
    · exact h.kv_ne hT.box (by decide) i hj e
    · exact ap i e hj
    · obtain ⟨cs, hx⟩ := (h.kb i hj).2
      exact own_type hc.f hx (by decide) e
  · rcases hi with e | e | e | e
    · exact h.wv_ne hc.box (by decide) i hj e
    · exact h.wv_ne hT.box (by decide) i hj e
    · exact own_apart hc.k h.f (by decide) e hj
    · exact own_apart hc.f h.f (by decide) e hj

theorem RefAt.nil {w : World} {base b : Nat} (h : Blk w b #[.slice none 0 0, .slice none 0 0] 52) (hb : base ≤ b) : RefAt w base b ⟨.slice none 0 0, [], .slice none 0 0, []⟩ :=
  ⟨h, ⟨rfl, .inl ⟨rfl, rfl⟩⟩, ⟨none, 0, rfl, Nat.le_refl _, fun _ => rfl⟩, (fun j hj => by cases hj), World.ownsRow_nil _ _ _ _, hb⟩
structure Parts (w0 w : World) (c t u tw b : Nat) (v : ClV) (A T : TpV) (r : RfV) : Prop where
  cl : ClAt w w0.heap.size c (some t) (some u) v
  at0 : v.at_ = 0
  a : TapeAt w w0.heap.size t A
  tt : TapeAt w w0.heap.size tw T
  rf : RefAt w w0.heap.size b r
  ne : t ≠ tw
  tn : T.wrote = .slice none 0 0
  ap : Apart v.kept A.wrote
  aq : Apart v.kept r.kv
  old : Below w0.heap.size w0 w
structure Rel (v : ClV) (A T : TpV) (r : RfV) (k : Nat) : Prop where
  se : A.errs = T.errs
  sh : A.hows = T.hows
  sn : A.n = T.n
  so : A.ops = T.ops
  rk : r.K = v.K
  rF : r.F = v.F
  kl : v.K.length ≤ k
  fl : v.F.length ≤ k
  fo : ∀ x ∈ v.F, 0 ≤ x.2 ∧ x.2 ≤ v.K.length
  an : A.n ≤ k
  ao : A.ops ≤ k
  al : A.wl.length ≤ k
theorem Rel.more {v : ClV} {A T : TpV} {r : RfV} {k k' : Nat} (h : Rel v A T r k) (hk : k ≤ k') : Rel v A T r k' :=
  ⟨h.se, h.sh, h.sn, h.so, h.rk, h.rF, Nat.le_trans h.kl hk, Nat.le_trans h.fl hk, h.fo, Nat.le_trans h.an hk, Nat.le_trans h.ao hk, Nat.le_trans h.al hk⟩
theorem Rel.err {v : ClV} {A T : TpV} {r : RfV} {k : Nat} (h : Rel v A T r k) : T.err = A.err ∧ T.ev = A.ev := by
  have h1 : T.err = A.err := by unfold TpV.err; rw [h.se, h.sn]
  refine ⟨h1, ?_⟩
  unfold TpV.ev
  rw [h1, h.sh, h.so]
section
variable {w0 w w' : World} {c t u tw b : Nat} {v : ClV} {A T : TpV} {r : RfV} {k : Nat}
theorem Parts.below (h : Parts w0 w c t u tw b v A T r) (hb : Below w.heap.size w w') : Parts w0 w' c t u tw b v A T r :=
  ⟨h.cl.below hb, h.at0, h.a.below hb, h.tt.below hb, h.rf.below hb, h.ne, h.tn, h.ap, h.aq, h.old.trans (hb.mono h.old.size)⟩
theorem Parts.next (h : Parts w0 w c t u tw b v A T r) (ht : TapeAt w' w0.heap.size tw T.next) (hm : Mv w w' (fun i => i = tw)) : Parts w0 w' c t u tw b v A T.next r :=
  ⟨h.cl.away h.tt.box (by decide) (by decide) (by decide) hm, h.at0, h.a.away h.tt.box h.tt.hb h.ne (by decide) hm, ht, h.rf.away h.tt.box (by decide) (by decide) (by decide) hm, h.ne, h.tn, h.ap, h.aq,
    h.old.trans (hm.below h.old.size (fun i e => by rw [e]; exact h.tt.hb))⟩
theorem Parts.ref {r' : RfV} (h : Parts w0 w c t u tw b v A T r) (hr : RefAt w' w0.heap.size b r') (hm : Mv w w' (fun i => i = b)) (hq : Apart v.kept r'.kv) : Parts w0 w' c t u tw b v A T r' :=
  ⟨h.cl.away h.rf.box (by decide) (by decide) (by decide) hm, h.at0, h.a.away h.rf.box h.rf.hb (fun e => blk_ne h.a.box h.rf.box (by decide) e) (by decide) hm, h.tt.away h.rf.box h.rf.hb (fun e => blk_ne h.tt.box h.rf.box (by decide) e) (by decide) hm, hr, h.ne, h.tn, h.ap, hq,
    h.old.trans (hm.below h.old.size (fun i e => by rw [e]; exact h.rf.hb))⟩
theorem Parts.client {v' : ClV} {A' : TpV} (h : Parts w0 w c t u tw b v A T r) (hc : ClAt w' w0.heap.size c (some t) (some u) v') (h0 : v'.at_ = 0) (ha : TapeAt w' w0.heap.size t A') (hm : Mv w w' (ClS c t v)) (hp : Apart v'.kept A'.wrote)
    (hk : v'.kept.ownBlock = v.kept.ownBlock ∨ ∃ j, v'.kept.ownBlock = some j ∧ w.heap.size ≤ j) : Parts w0 w' c t u tw b v' A' T r :=
  ⟨hc, h0, ha, h.tt.other h.cl h.a h.ne (fun j _ e => by rw [h.tn] at e; cases e) hm, h.rf.client h.cl h.a h.aq hm, h.ne, h.tn, hp, (by
    intro j hj e
    rcases hk with e' | ⟨q, e', hq⟩
    · exact h.aq j (by rw [← e']; exact hj) e
    · rw [e'] at hj; injection hj with hj
      obtain ⟨cs, hx⟩ := (h.rf.kb j e).2
      have := hx.lt
      omega), h.old.trans (hm.below h.old.size (clS_ge h.cl h.a))⟩
theorem Parts.fresh {kv : Value} (h : Parts w0 w c t u tw b v A T r) (hk : ∃ j, kv.ownBlock = some j ∧ w.heap.size ≤ j) : Apart v.kept kv := by
  obtain ⟨q, e', hq⟩ := hk
  intro j hj e
  rw [e'] at e; injection e with e
  have := (own_lt h.cl.k hj).1
  omega
theorem Parts.apart {kv : Value} (h : Parts w0 w c t u tw b v A T r) (hk : kv.ownBlock = v.kept.ownBlock ∨ ∃ j, kv.ownBlock = some j ∧ w.heap.size ≤ j) : Apart kv A.wrote := by
  intro j hj e
  rcases hk with e' | ⟨q, e', hq⟩
  · exact h.ap j (by rw [← e']; exact hj) e
  · rw [e'] at hj; injection hj with hj
    have := (own_lt h.a.own e).1
    omega
end
end Go.Proofs.Ytdnkbnpjbcalaaa
