/- ClientDoes: each step of both. -/
import Derived.Test.YtdnkbnpjbcalaaaCwy
namespace Go.Proofs.Ytdnkbnpjbcalaaa
open Go.RowKit

theorem next_n (T : TpV) : T.next.n = T.n + 1 := rfl
theorem next_ops (T : TpV) : T.next.ops = if T.err = 0 then T.ops + 1 else T.ops := rfl
section
variable {v : ClV} {A T : TpV} {r : RfV} {k : Nat}
theorem Rel.wrote0 (h : Rel v A T r k) (he : A.err = 0) (x : Int) (d : ByteArray) (kv wv rv : Value) :
    Rel { v with kept := kv, K := v.K ++ [⟨x, d⟩] } { A.next with wrote := wv, wl := A.wl ++ [⟨x, d⟩] } T.next { r with kv := rv, K := r.K ++ [⟨x, d⟩] } (k + 1) where
  se := h.se
  sh := h.sh
  sn := by show A.n + 1 = T.n + 1; rw [h.sn]
  so := by show A.next.ops = T.next.ops; rw [next_ops, next_ops, h.err.1, h.so]
  rk := by show r.K ++ _ = v.K ++ _; rw [h.rk]
  rF := h.rF
  kl := by rw [List.length_append]; have := h.kl; simp; omega
  fl := Nat.le_trans h.fl (Nat.le_succ k)
  fo := fun y hy => by have := h.fo y hy; rw [List.length_append]; simp; omega
  an := by show A.n + 1 ≤ k + 1; have := h.an; omega
  ao := by show A.next.ops ≤ k + 1; rw [next_ops, if_pos he]; have := h.ao; omega
  al := by rw [List.length_append]; have := h.al; simp; omega
theorem Rel.wrote1 (h : Rel v A T r k) (he : ¬ A.err = 0) (kv wv : Value) :
    Rel { v with kept := kv, K := v.K } { A.next with wrote := wv, wl := A.wl } T.next r (k + 1) where
  se := h.se
  sh := h.sh
  sn := by show A.n + 1 = T.n + 1; rw [h.sn]
  so := by show A.next.ops = T.next.ops; rw [next_ops, next_ops, h.err.1, h.so]
  rk := h.rk
  rF := h.rF
  kl := Nat.le_trans h.kl (Nat.le_succ k)
  fl := Nat.le_trans h.fl (Nat.le_succ k)
  fo := h.fo
  an := by show A.n + 1 ≤ k + 1; have := h.an; omega
  ao := by show A.next.ops ≤ k + 1; rw [next_ops, if_neg he]; have := h.ao; omega
  al := Nat.le_trans h.al (Nat.le_succ k)
theorem Rel.flush0 (h : Rel v A T r k) (he : A.err = 0) (kv wv rv rw_ : Value) :
    Rel { v with kept := kv, K := flK A v.K, waits := wv, F := flF A v.K v.F } A.next T.next { r with kv := rv, K := if A.ev.2 = 2 then [] else r.K, wv := rw_, F := if A.ev.2 = 2 then [] else if A.ev.2 = 1 then r.F else r.F ++ [(A.ev.1, (r.K.length : Int))] } (k + 1) := by
  have hK : flK A v.K = if A.ev.2 = 2 then [] else v.K := by
    unfold flK
    by_cases h2 : A.ev.2 = 2
    · rw [if_pos ⟨he, h2⟩, if_pos h2]
    · rw [if_neg (fun x => h2 x.2), if_neg h2]
  have hF : flF A v.K v.F = if A.ev.2 = 2 then [] else if A.ev.2 = 1 then v.F else v.F ++ [(A.ev.1, (v.K.length : Int))] := by unfold flF; rw [if_pos he]
  refine ⟨h.se, h.sh, ?_, ?_, ?_, ?_, ?_, ?_, ?_, ?_, ?_, Nat.le_trans h.al (Nat.le_succ k)⟩
  · show A.n + 1 = T.n + 1; rw [h.sn]
  · show A.next.ops = T.next.ops; rw [next_ops, next_ops, h.err.1, h.so]
  · show (if A.ev.2 = 2 then [] else r.K) = flK A v.K; rw [hK, h.rk]
  · show (if A.ev.2 = 2 then [] else if A.ev.2 = 1 then r.F else r.F ++ [(A.ev.1, (r.K.length : Int))]) = flF A v.K v.F; rw [hF, h.rk, h.rF]
  · show (flK A v.K).length ≤ k + 1; rw [hK]; have := h.kl; split <;> simp; omega
  · show (flF A v.K v.F).length ≤ k + 1; rw [hF]; have := h.fl; split
    · simp
    · split
      · omega
      · simp; omega
  · show ∀ x ∈ flF A v.K v.F, 0 ≤ x.2 ∧ x.2 ≤ ((flK A v.K).length : Int)
    rw [hF, hK]
    intro x hx
    by_cases h2 : A.ev.2 = 2
    · rw [if_pos h2] at hx; cases hx
    · rw [if_neg h2] at hx
      rw [if_neg h2]
      by_cases h1 : A.ev.2 = 1
      · rw [if_pos h1] at hx; exact h.fo x hx
      · rw [if_neg h1] at hx
        rcases List.mem_append.1 hx with hx | hx
        · exact h.fo x hx
        · rw [List.mem_singleton.1 hx]; exact ⟨by show (0 : Int) ≤ (v.K.length : Int); omega, Int.le_refl _⟩
  · show A.n + 1 ≤ k + 1; have := h.an; omega
  · show A.next.ops ≤ k + 1; rw [next_ops, if_pos he]; have := h.ao; omega
theorem Rel.flush1 (h : Rel v A T r k) (he : ¬ A.err = 0) (kv wv : Value) :
    Rel { v with kept := kv, K := flK A v.K, waits := wv, F := flF A v.K v.F } A.next T.next r (k + 1) := by
  have hK : flK A v.K = v.K := by unfold flK; rw [if_neg (fun x => he x.1)]
  have hF : flF A v.K v.F = v.F := by unfold flF; rw [if_neg he]
  rw [hK, hF]
  exact ⟨h.se, h.sh, by show A.n + 1 = T.n + 1; rw [h.sn], by show A.next.ops = T.next.ops; rw [next_ops, next_ops, h.err.1, h.so], h.rk, h.rF, Nat.le_trans h.kl (Nat.le_succ k), Nat.le_trans h.fl (Nat.le_succ k), h.fo,
    by show A.n + 1 ≤ k + 1; have := h.an; omega, by show A.next.ops ≤ k + 1; rw [next_ops, if_neg he]; have := h.ao; omega, Nat.le_trans h.al (Nat.le_succ k)⟩
theorem Rel.came (h : Rel v A T r k) (id how : Int) (kv wv rv rw_ cv : Value) :
    Rel { v with kept := kv, K := cameK v.K v.F id how, waits := wv, F := cameF v.F id how } { A with come := cv } T { r with kv := rv, K := cameK r.K r.F id how, wv := rw_, F := cameF r.F id how } (k + 1) := by
  refine ⟨h.se, h.sh, h.sn, h.so, by show cameK r.K r.F id how = cameK v.K v.F id how; rw [h.rk, h.rF], by show cameF r.F id how = cameF v.F id how; rw [h.rF], ?_, ?_, ?_, Nat.le_trans h.an (Nat.le_succ k), Nat.le_trans h.ao (Nat.le_succ k), Nat.le_trans h.al (Nat.le_succ k)⟩
  · show (cameK v.K v.F id how).length ≤ k + 1
    have := h.kl
    unfold cameK
    split
    · omega
    · split
      · rw [List.length_drop]; omega
      · omega
  · show (cameF v.F id how).length ≤ k + 1
    have := h.fl
    unfold cameF
    split
    · omega
    · split
      · rw [List.length_map, List.length_eraseIdx]; split <;> omega
      · rw [List.length_eraseIdx]; split <;> omega
  · show ∀ x ∈ cameF v.F id how, 0 ≤ x.2 ∧ x.2 ≤ ((cameK v.K v.F id how).length : Int)
    unfold cameF cameK
    cases hc : cameAt v.F id with
    | none => exact h.fo
    | some j =>
      have hj := came_lt hc
      by_cases h2 : how = 2
      · simp only [if_pos h2]
        intro x hx
        obtain ⟨y, hy, rfl⟩ := List.mem_map.1 hx
        have h1 := h.fo y (List.mem_of_mem_eraseIdx hy)
        have hg : v.F.getD j (0, 0) = v.F[j] := by rw [List.getD_eq_getElem?_getD, List.getElem?_eq_getElem hj]; rfl
        have h3 := h.fo _ (List.getElem_mem hj)
        rw [hg, List.length_drop]
        show 0 ≤ max (y.2 - ((v.F[j].2.toNat : Nat) : Int)) 0 ∧ max (y.2 - ((v.F[j].2.toNat : Nat) : Int)) 0 ≤ _
        omega
      · simp only [if_neg h2]
        exact fun x hx => h.fo x (List.mem_of_mem_eraseIdx hx)
end
section
variable {w0 w : World} {c t u tw b : Nat} {v : ClV} {A T : TpV} {r : RfV}
/-- What came is laid there. -/
theorem Parts.come (h : Parts w0 w c t u tw b v A T r) (cv : Value) : Parts w0 (w.setCell ⟨t, 2, none⟩ cv) c t u tw b v { A with come := cv } T r := by
  have g := Mv.of_set w t 2 cv (S := fun i => i = t) rfl
  exact ⟨h.cl.away h.a.box (by decide) (by decide) (by decide) g, h.at0, ⟨h.a.box.set 2 _, h.a.e.mv g (fun ad e hp x => by have := h.a.fe ad e hp; have := h.a.hb; omega), h.a.h.mv g (fun ad e hp x => by have := h.a.fh ad e hp; have := h.a.hb; omega), h.a.fe, h.a.fh, own_mv h.a.own g (fun i hi e => own_type h.a.own h.a.box (by decide) (by rw [← e]; exact hi)), h.a.hb⟩,
    h.tt.away h.a.box h.a.hb (fun e => h.ne e.symm) (by decide) g, h.rf.away h.a.box (by decide) (by decide) (by decide) g, h.ne, h.tn, h.ap, h.aq, h.old.trans (g.below h.old.size (fun i e => by rw [e]; exact h.a.hb))⟩
end
end Go.Proofs.Ytdnkbnpjbcalaaa
