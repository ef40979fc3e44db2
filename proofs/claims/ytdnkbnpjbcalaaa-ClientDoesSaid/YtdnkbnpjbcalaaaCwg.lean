/- append of a row, nil or not; a tape whole: what it answers to each call. -/
import Derived.Test.YtdnkbnpjbcalaaaCwf
import Derived.Laws.OwnMore
import Derived.Laws.AppendOwnNone
import Derived.Deep.RegionLaw
import Derived.Deep.AppendLies
namespace Go.Proofs.Ytdnkbnpjbcalaaa
open Go.RowKit

/-- A slice that reads as cells; nil bears none. -/
def Rd (w : World) (size : Nat) (u : Value) (m : Nat) (ys : List Value) : Prop :=
  ys.length = m * size ∧ ((u = .slice none 0 0 ∧ m = 0) ∨ ∃ ad c, u = .slice (some ad) m c ∧ ∀ (j : Nat) x, ys[j]? = some x → w.cell? (ad.add j) = some x)
theorem Rd.own {w : World} {base : Nat} {e : TypeId} {size m : Nat} {u : Value} {ys : List Value} (h : w.ownsRow base e size u m ys) : Rd w size u m ys := by
  refine ⟨h.1, ?_⟩
  rcases h.2 with ⟨h1, h2⟩ | ⟨g, cap, cur, h1, _⟩
  · subst h1
    by_cases hm : m = 0
    · exact .inl ⟨rfl, hm⟩
    · obtain ⟨_, _, hx, _⟩ := h.form (by omega)
      cases hx
  · subst h1
    exact .inr ⟨⟨g, 0, none⟩, cap, rfl, h.cells (g := g) rfl⟩
theorem Rd.below {w w' : World} {size m : Nat} {u : Value} {ys : List Value} (h : Rd w size u m ys) (hb : Below w.heap.size w w') : Rd w' size u m ys := by
  refine ⟨h.1, ?_⟩
  rcases h.2 with h1 | ⟨ad, c, h1, h2⟩
  · exact .inl h1
  · exact .inr ⟨ad, c, h1, fun j x hx => cell_below hb (h2 j x hx)⟩

theorem run_append_rd {P : Program} (w : World) (base : Nat) (t ty e : TypeId) (i : TypeInfo) (z : Value) (size bytes : Nat) (ht : P.underlying t = some (.slice e)) (hi : P.info? e = some i) (hz : i.zero = some z)
    (hsize : i.size = size) (hby : i.bytes = bytes) (hzs : z.cells.size = size) (hsz : 0 < size)
    (v : Value) (n : Nat) (xs : List Value) (hown : w.ownsRow base e size v n xs)
    (u : Value) (m : Nat) (news : List Value) (hu : Rd w size u m news) (h1 : ∀ x ∈ news, x.oneCell' = true)
    (h63 : n + m ≤ maxLen) (hbytes : (n + m) * bytes ≤ 140737488355328) (hbase : base ≤ w.heap.size) :
    ∃ v' w', (Builtin.append_ #[t, t] ty #[v, u]).run P w = .ok v' w' ∧ w'.ownsRow base e size v' (n + m) (xs ++ news) ∧ w.grownBy w' v.ownBlock ∧ (v'.ownBlock = v.ownBlock ∨ v'.ownBlock = some w.heap.size) := by
  rcases hu.2 with ⟨rfl, rfl⟩ | ⟨ad, c, rfl, hc⟩
  · have hn : news = [] := List.eq_nil_of_length_eq_zero (by have := hu.1; simpa using this)
    subst hn
    exact ⟨v, w, run_append_owned_none w base t ty e i size ht hi v n xs hown, by simpa using hown, World.grownBy.refl w _, .inl rfl⟩
  · obtain ⟨v', w', k1, k2, k3, _, k5⟩ := run_append_own_at (P := P) w base t ty e i z size bytes ht hi hz hsize hby hzs hsz v n xs hown ad m c news hu.1 hc h1 h63 hbytes hbase
    exact ⟨v', w', k1, k2, k3, k5⟩
theorem wp_append_rd {P : Program} {w : World} {o : Oper} {a : Act} {K : Act → World → Prop} {Q : Exit → Act → World → Prop} (s x : Operand) (t : TypeId)
    (ho : o.op = .call { callee := .builtin .append, args := #[s, x], argTypes := #[t, t] })
    (base : Nat) (e : TypeId) (i : TypeInfo) (z : Value) (size bytes : Nat) (ht : P.underlying t = some (.slice e)) (hi : P.info? e = some i) (hz : i.zero = some z)
    (hsize : i.size = size) (hby : i.bytes = bytes) (hzs : z.cells.size = size) (hsz : 0 < size)
    (v : Value) (n : Nat) (xs : List Value) (hs : a.eval s = v) (hown : w.ownsRow base e size v n xs)
    (u : Value) (m : Nat) (news : List Value) (hx : a.eval x = u) (hu : Rd w size u m news) (h1 : ∀ x ∈ news, x.oneCell' = true)
    (h63 : n + m ≤ maxLen) (hbytes : (n + m) * bytes ≤ 140737488355328) (hbase : base ≤ w.heap.size)
    (h : ∀ v' w', w'.ownsRow base e size v' (n + m) (xs ++ news) → w.grownBy w' v.ownBlock → (v'.ownBlock = v.ownBlock ∨ v'.ownBlock = some w.heap.size) → K (a.put o.dst v') w') : o.wp P a w K Q := by
  obtain ⟨v', w', hr, h2, h3, h5⟩ := run_append_rd (P := P) w base t o.type e i z size bytes ht hi hz hsize hby hzs hsz v n xs hown u m news hu h1 h63 hbytes hbase
  unfold Oper.wp execOp
  simp only [ho, resolve, invoke, builtin, Sem.run_bind, Sem.run_pure, Result.andThen_ok, List.map_toArray, List.map_cons, List.map_nil, hs, hx, hr]
  exact h v' w' h2 h3 h5
/-- At the operation, in the text's order. -/
theorem wpList_append_rd {P : Program} {w : World} {ops : Array Oper} {rest : List Oper} {o : Oper} {a : Act} {Q : Exit → Act → World → Prop} (hgd : o.guard = none) (s x : Operand) (t : TypeId)
    (ho : o.op = .call { callee := .builtin .append, args := #[s, x], argTypes := #[t, t] })
    (base : Nat) (e : TypeId) (i : TypeInfo) (z : Value) (size bytes : Nat) (ht : P.underlying t = some (.slice e)) (hi : P.info? e = some i) (hz : i.zero = some z)
    (hsize : i.size = size) (hby : i.bytes = bytes) (hzs : z.cells.size = size) (hsz : 0 < size)
    (v : Value) (n : Nat) (xs : List Value) (hs : a.eval s = v) (hown : w.ownsRow base e size v n xs)
    (u : Value) (m : Nat) (news : List Value) (hx : a.eval x = u) (hu : Rd w size u m news) (h1 : ∀ x ∈ news, x.oneCell' = true)
    (h63 : n + m ≤ maxLen) (hbytes : (n + m) * bytes ≤ 140737488355328) (hbase : base ≤ w.heap.size)
    (h : ∀ v' w', w'.ownsRow base e size v' (n + m) (xs ++ news) → w.grownBy w' v.ownBlock → (v'.ownBlock = v.ownBlock ∨ v'.ownBlock = some w.heap.size) → wpList P ops Q rest (a.put o.dst v') w') :
    wpList P ops Q (o :: rest) a w :=
  wpList_plain hgd fun _ hK => wp_append_rd s x t ho base e i z size bytes ht hi hz hsize hby hzs hsz v n xs hs hown u m news hx hu h1 h63 hbytes hbase fun v' w' k2 k3 k5 => hK _ _ (h v' w' k2 k3 k5)
/-- At a step of a region that draws. -/
theorem step_append_rd {P : Program} {w : World} {ops : Array Oper} {o : Oper} {a : Act} {K : Act → World → Prop} {Q : Exit → Act → World → Prop} {E : Prop} (hgd : o.guard = none) (s x : Operand) (t : TypeId)
    (ho : o.op = .call { callee := .builtin .append, args := #[s, x], argTypes := #[t, t] })
    (base : Nat) (e : TypeId) (i : TypeInfo) (z : Value) (size bytes : Nat) (ht : P.underlying t = some (.slice e)) (hi : P.info? e = some i) (hz : i.zero = some z)
    (hsize : i.size = size) (hby : i.bytes = bytes) (hzs : z.cells.size = size) (hsz : 0 < size)
    (v : Value) (n : Nat) (xs : List Value) (hs : a.eval s = v) (hown : w.ownsRow base e size v n xs)
    (u : Value) (m : Nat) (news : List Value) (hx : a.eval x = u) (hu : Rd w size u m news) (h1 : ∀ x ∈ news, x.oneCell' = true)
    (h63 : n + m ≤ maxLen) (hbytes : (n + m) * bytes ≤ 140737488355328) (hbase : base ≤ w.heap.size)
    (h : ∀ v' w', w'.ownsRow base e size v' (n + m) (xs ++ news) → w.grownBy w' v.ownBlock → (v'.ownBlock = v.ownBlock ∨ v'.ownBlock = some w.heap.size) → K (a.put o.dst v') w') :
    if Region.wanted o (yielded ops a.tmps) = true then Oper.wp P o a w K Q else E := by
  rw [if_pos (by simp [Region.wanted, hgd])]
  exact wp_append_rd s x t ho base e i z size bytes ht hi hz hsize hby hzs hsz v n xs hs hown u m news hx hu h1 h63 hbytes hbase h
theorem own_empty {w : World} {base b : Nat} {e : TypeId} {size : Nat} (h : Blk w b #[] e) (hb : base ≤ b) : w.ownsRow base e size (.slice (some ⟨b, 0, none⟩) 0 0) 0 [] :=
  ⟨by simp, .inr ⟨b, 0, #[], rfl, hb, h, Nat.le_refl _, Nat.zero_le _, by simp, by simp⟩⟩
theorem rd_blk {w : World} {b m size : Nat} {e : TypeId} {cs : Array Value} (h : Blk w b cs e) (hs : cs.size = m * size) : Rd w size (.slice (some ⟨b, 0, none⟩) m m) m cs.toList :=
  ⟨by simpa using hs, .inr ⟨_, _, rfl, World.news_of_block h⟩⟩

/-! ### a tape -/
structure TpV where
  E : Option Addr
  ce : Nat
  errs : List Int
  Hs : Option Addr
  ch : Nat
  hows : List Int
  come : Value
  wrote : Value
  wl : List Sec
  n : Nat
  ops : Nat
structure TapeAt (w : World) (base b : Nat) (t : TpV) : Prop where
  box : TpBox w b t.E t.errs.length t.ce t.Hs t.hows.length t.ch t.come t.wrote t.n t.ops
  e : Ints w t.E t.errs
  h : Ints w t.Hs t.hows
  fe : ∀ ad, t.E = some ad → 0 < t.errs.length → ad.block < base
  fh : ∀ ad, t.Hs = some ad → 0 < t.hows.length → ad.block < base
  own : OwnSecs w base t.wrote t.wl
  hb : base ≤ b
def TpV.err (t : TpV) : Int := errAt t.errs t.n
def TpV.ev (t : TpV) : Int × Int := if t.err = 0 then ((t.ops + 1 : Nat), howAt t.hows t.ops) else (0, 0)
def TpV.next (t : TpV) : TpV := { t with n := t.n + 1, ops := if t.err = 0 then t.ops + 1 else t.ops }
theorem TapeAt.mv {w w' : World} {base b : Nat} {t : TpV} (h : TapeAt w base b t) {S : Nat → Prop} (hk : Mv w w' S) (hs : ∀ i, S i → base ≤ i) (hb : ¬ S b) (ho : ∀ i, t.wrote.ownBlock = some i → ¬ S i) : TapeAt w' base b t where
  box := h.box.mv hk hb
  e := h.e.mv hk (fun ad e hp x => by have := hs _ x; have := h.fe ad e hp; omega)
  h := h.h.mv hk (fun ad e hp x => by have := hs _ x; have := h.fh ad e hp; omega)
  fe := h.fe
  fh := h.fh
  own := own_mv h.own hk ho
  hb := h.hb
theorem TapeAt.below {w w' : World} {base b : Nat} {t : TpV} (h : TapeAt w base b t) (hk : Below w.heap.size w w') : TapeAt w' base b t :=
  h.mv (Mv.of_below hk (fun _ => False)) (fun _ x => x.elim) (fun x => x) (fun _ _ x => x)

def evV (x : Int × Int) : Value := .agg #[.int .i64 x.1, .int .i64 x.2]
theorem tp_next (w : World) (base b : Nat) (t : TpV) (h : TapeAt w base b t) (hn : t.n ≤ 100000) (ho : t.ops ≤ 100000) :
    Calls Try.prog 15 #[.pointer (some ⟨b, 0, none⟩)] w fun e w' => e = .returned (.tuple #[.agg #[.int .i64 t.ev.1, .int .i64 t.ev.2], .int .i64 t.err]) ∧ TapeAt w' base b t.next ∧ Mv w w' (· = b) := by
  have hne : ∀ ad, t.E = some ad → 0 < t.errs.length → ad.block ≠ b := fun ad e hp => by have := h.fe ad e hp; have := h.hb; omega
  have hnh : ∀ ad, t.Hs = some ad → 0 < t.hows.length → ad.block ≠ b := fun ad e hp => by have := h.fh ad e hp; have := h.hb; omega
  have fin : ∀ w', TpBox w' b t.E t.errs.length t.ce t.Hs t.hows.length t.ch t.come t.wrote t.next.n t.next.ops → Mv w w' (· = b) → TapeAt w' base b t.next := fun w' hbx hm =>
    ⟨hbx, h.e.mv hm hne, h.h.mv hm hnh, h.fe, h.fh, own_mv h.own hm (fun i hi e => own_type h.own h.box (by decide) (by rw [← e]; exact hi)), h.hb⟩
  by_cases he : t.err = 0
  · have h1 : t.ev = (((t.ops + 1 : Nat) : Int), howAt t.hows t.ops) := by unfold TpV.ev; rw [if_pos he]
    have h2 : t.next.ops = t.ops + 1 := by unfold TpV.next; rw [if_pos he]
    refine (tp_next_ok w b t.E t.ce t.Hs t.ch t.come t.wrote t.n t.ops t.errs t.hows h.e h.h h.box he hn ho hne hnh).mono ?_
    rintro e w' ⟨rfl, hbx, hm⟩
    refine ⟨by rw [h1, he], fin _ ?_ hm, hm⟩
    rw [h2]; exact hbx
  · have h1 : t.ev = (0, 0) := by unfold TpV.ev; rw [if_neg he]
    have h2 : t.next.ops = t.ops := by unfold TpV.next; rw [if_neg he]
    have hlt : t.n < t.errs.length := by
      refine Decidable.byContradiction fun hx => he ?_
      unfold TpV.err errAt; rw [List.getD_eq_getElem?_getD, List.getElem?_eq_none (by omega)]; rfl
    have hee : t.err = t.errs[t.n] := by unfold TpV.err errAt; rw [List.getD_eq_getElem?_getD, List.getElem?_eq_getElem hlt]; rfl
    refine (tp_next_err w b t.E t.ce t.Hs t.hows.length t.ch t.come t.wrote t.n t.ops t.errs h.e h.box hlt (by rw [← hee]; exact he) hn hne).mono ?_
    rintro e w' ⟨rfl, hbx, hm⟩
    have hm2 : Mv w w' (· = b) := Mv.of_grown hm (fun i e => by injection e with e; exact e.symm)
    refine ⟨by rw [h1, hee], fin _ ?_ hm2, hm2⟩
    rw [h2]; exact hbx
set_option maxRecDepth 100000 in
set_option maxHeartbeats 1000000 in
theorem tp_flush (w : World) (base b : Nat) (t : TpV) (h : TapeAt w base b t) (hn : t.n ≤ 100000) (ho : t.ops ≤ 100000) :
    Calls Try.prog 40 #[.pointer (some ⟨b, 0, none⟩)] w fun e w' => e = .returned (.tuple #[.agg #[.int .i64 t.ev.1, .int .i64 t.ev.2], .int .i64 t.err]) ∧ TapeAt w' base b t.next ∧ Mv w w' (· = b) := by
  obtain ⟨wa, hwa⟩ : ∃ wa, w.alloc (.cells #[.int .i64 0, .int .i64 0] 54) = wa := ⟨_, rfl⟩
  have hba : Below w.heap.size w wa := by rw [← hwa]; exact (Below.refl _ _).alloc (Nat.le_refl _) _
  have HB := Lib.hid (show Blk wa w.heap.size #[.int .i64 0, .int .i64 0] 54 from by rw [← hwa]; exact Blk.alloc _ _ _)
  have hlt := h.box.lt
  have H := Lib.hid (h.below hba)
  have HM := Lib.hid (Mv.of_below hba (· = b))
  clear h hba
  go_enter Try.func40, Try.ntmps40
  go_wp2_with fail
  refine (tp_next _ base b t H.out hn ho).mono ?_
  rintro e w1 ⟨rfl, ht, hm⟩
  have hev := HB.out.mv hm (by omega)
  have q0 := hev.cell (i := 0) rfl
  have q1 := hev.cell (i := 1) rfl
  have f0 := hev.free 0
  have f1 := hev.free 1
  have HT := Lib.hid ht
  have HE := Lib.hid hev
  have HMM := Lib.hid (HM.out.trans hm (fun _ _ x => x))
  clear ht hm hev
  go_wp2
  (try simp only [Exit.inBlock, Exit.then]); refine bodyPost_ret (results_cell rfl _ _ _ ⟨w.heap.size, 0, none⟩ (.agg #[.int .i64 t.ev.1, .int .i64 t.ev.2]) rfl (load_event _ _ _ _ ?_ ?_)) rfl ?_
  · exact ((HE.out.set 0 _).set 1 _).cell (i := 0) rfl
  · exact ((HE.out.set 0 _).set 1 _).cell (i := 1) rfl
  · have g := (Mv.of_set w1 w.heap.size 0 (.int .i64 t.ev.1) (S := (· = w.heap.size)) rfl).trans (Mv.of_set _ w.heap.size 1 (.int .i64 t.ev.2) (S := (· = w.heap.size)) rfl) (fun _ _ x => x)
    have ht := HT.out
    have hbx := ht.box.lt
    refine ⟨rfl, ht.mv g (fun i e => by have := ht.hb; omega) (by omega) (fun i hi e => own_type ht.own HE.out (by decide) (by rw [← e]; exact hi)), HMM.out.trans g (fun i hi x => by omega)⟩

set_option maxRecDepth 100000 in
theorem tp_events (w : World) (base b : Nat) (t : TpV) (h : TapeAt w base b t) :
    Calls Try.prog 39 #[.pointer (some ⟨b, 0, none⟩)] w fun e w' => e = .returned t.come ∧ TapeAt w' base b { t with come := .slice none 0 0 } ∧ Mv w w' (· = b) := by
  have c2 := h.box.cell (i := 2) rfl
  have f2 := h.box.free 2
  have H := Lib.hid h
  clear h
  go_enter Try.func39, Try.ntmps39
  go_wp2
  go_ret
  have g := Mv.of_set w b 2 (.slice none 0 0) (S := (· = b)) rfl
  have h := H.out
  exact ⟨rfl, ⟨h.box.set 2 _, h.e.mv g (fun ad e hp => by have := h.fe ad e hp; have := h.hb; omega), h.h.mv g (fun ad e hp => by have := h.fh ad e hp; have := h.hb; omega), h.fe, h.fh, own_mv h.own g (fun i hi e => own_type h.own h.box (by decide) (by rw [← e]; exact hi)), h.hb⟩, g⟩

theorem two_app {w2 w3 w4 w5 w6 : World} {v4 : Value} (hx : Below w2.heap.size w2 w3) (m4 : w3.grownBy w4 (some w2.heap.size)) (hb4 : v4.ownBlock = some w2.heap.size ∨ v4.ownBlock = some w3.heap.size)
    (m5 : Below w4.heap.size w4 w5) (m6 : w5.grownBy w6 v4.ownBlock) : Mv w2 w6 (fun _ => False) := by
  have a1 : Mv w2 w4 (fun _ => False) := (Mv.of_below hx _).trans (Mv.of_grown m4 (S := (· = w2.heap.size)) (fun i e => by injection e with e; exact e.symm)) (fun i hi x => by omega)
  have a2 : Mv w4 w6 (fun i => v4.ownBlock = some i) := (Mv.of_below m5 _).trans (Mv.of_grown m6 (S := fun i => v4.ownBlock = some i) (fun i e => e)) (fun _ _ x => x)
  refine a1.trans a2 (fun i hi x => ?_)
  have := hx.size
  rcases hb4 with e | e <;> rw [e] at x <;> injection x with x <;> omega
def WrotePost (w : World) (base b : Nat) (t : TpV) (x : Int) (d : ByteArray) (e : Ending) (w' : World) : Prop :=
  e = .returned (.tuple #[.agg #[.int .i64 t.ev.1, .int .i64 t.ev.2], .int .i64 t.err]) ∧ ∃ v, TapeAt w' base b { t.next with wrote := v, wl := if t.err = 0 then t.wl ++ [⟨x, d⟩] else t.wl } ∧ Mv w w' (· = b) ∧ (t.err = 0 → ∀ j, v.ownBlock = some j → w.heap.size ≤ j) ∧ (t.err ≠ 0 → v = t.wrote)
set_option maxRecDepth 100000 in
set_option maxHeartbeats 1000000 in
theorem tp_write (w : World) (base b : Nat) (t : TpV) (h : TapeAt w base b t) (hn : t.n ≤ 100000) (ho : t.ops ≤ 100000) (hl : t.wl.length ≤ 100000) (hbase : base ≤ w.heap.size) (x : Int) (d : ByteArray) :
    Calls Try.prog 42 #[.pointer (some ⟨b, 0, none⟩), .int .i64 x, .string d] w fun e w' => WrotePost w base b t x d e w' := by
  obtain ⟨wa, hwa⟩ : ∃ wa, w.alloc (.cells #[.int .i64 0, .int .i64 0] 54) = wa := ⟨_, rfl⟩
  have hba : Below w.heap.size w wa := by rw [← hwa]; exact (Below.refl _ _).alloc (Nat.le_refl _) _
  have hsa : wa.heap.size = w.heap.size + 1 := by rw [← hwa]; simp
  have HB := Lib.hid (show Blk wa w.heap.size #[.int .i64 0, .int .i64 0] 54 from by rw [← hwa]; exact Blk.alloc _ _ _)
  have hlt := h.box.lt
  have H := Lib.hid (h.below hba)
  have HM := Lib.hid (Mv.of_below hba (· = b))
  obtain ⟨i0, hi, hz0, hz1, hz2⟩ := info_parts sec_info
  clear h hba
  go_enter Try.func42, Try.ntmps42
  go_wp2_with fail
  refine (tp_next _ base b t H.out hn ho).mono ?_
  rintro e w1 ⟨rfl, ht, hm⟩
  have hs1 := hm.size
  obtain ⟨w2, hw2⟩ : ∃ w2, w1.alloc (.cells #[.int .i64 t.ev.1, .int .i64 t.ev.2] 54) = w2 := ⟨_, rfl⟩
  have hb2 : Below w1.heap.size w1 w2 := by rw [← hw2]; exact (Below.refl _ _).alloc (Nat.le_refl _) _
  have hx2 : Blk w2 w1.heap.size #[.int .i64 t.ev.1, .int .i64 t.ev.2] 54 := by rw [← hw2]; exact Blk.alloc _ _ _
  have hev := (HB.out.mv hm (by omega)).below hb2 (by omega)
  have ht2 := ht.below hb2
  have HM2 := Lib.hid (HM.out.trans (hm.trans (Mv.of_below hb2 (· = b)) (fun _ _ x => x)) (fun _ _ x => x))
  have HX2 := Lib.hid hx2
  have HE := Lib.hid hev
  have HT := Lib.hid ht2
  clear ht hm hb2 hev ht2 hx2
  by_cases he : t.err = 0
  · have heb : (t.err == 0) = true := by rw [beq_iff_eq]; exact he
    obtain ⟨w3, hw3⟩ : ∃ w3, w2.alloc (.cells #[] 71) = w3 := ⟨_, rfl⟩
    have hb3 : Below w2.heap.size w2 w3 := by rw [← hw3]; exact (Below.refl _ _).alloc (Nat.le_refl _) _
    have ht3 := HT.out.below hb3
    have HR3 := Lib.hid (show w3.ownsRow w2.heap.size 71 2 (.slice (some ⟨w2.heap.size, 0, none⟩) 0 0) 0 [] from own_empty (by rw [← hw3]; exact Blk.alloc _ _ _) (Nat.le_refl _))
    have d3 := ht3.box.cell (i := 3) rfl
    have HT3 := Lib.hid ht3
    have HB3 := Lib.hid hb3
    have HS3 := Lib.hid (show w2.heap.size ≤ w3.heap.size from hb3.size)
    have HBS := Lib.hid (show base ≤ b ∧ b < w2.heap.size ∧ base ≤ w2.heap.size ∧ w.heap.size < w2.heap.size from ⟨HT.out.hb, HT.out.box.lt, by have := HT.out.box.lt; have := HT.out.hb; omega, by have := HE.out.lt; exact this⟩)
    have HLN := Lib.hid hl
    clear ht3 hb3 hl
    go_wp2_with (first
      | (at_builtin; refine wpList_append_rd rfl (.tmp 18) (.tmp 22) _ rfl w2.heap.size 71 i0 (.agg #[.int .i64 0, .string ⟨#[]⟩]) 2 24 Try.underlying29 hi hz0 hz1 hz2 rfl (by decide) (.slice (some ⟨w2.heap.size, 0, none⟩) 0 0) 0 [] rfl HR3.out t.wrote t.wl.length (secCells t.wl) rfl (Rd.own HT3.out.own) (secCells_one _) (by have := HLN.out; unfold maxLen; omega) (by have := HLN.out; omega) HS3.out ?_
         intro v4 w4 hown4 hgrow4 hat4
         have HO4 := Lib.hid hown4
         have HG4 := Lib.hid hgrow4
         have HA4 := Lib.hid hat4
         clear hown4 hgrow4 hat4
         obtain ⟨w5, hw5⟩ : ∃ w5, w4.alloc (.cells #[.int .i64 x, .string d] 71) = w5 := ⟨_, rfl⟩
         have HB5 := Lib.hid (show Below w4.heap.size w4 w5 from by rw [← hw5]; exact (Below.refl _ _).alloc (Nat.le_refl _) _)
         have HR5 := Lib.hid (show w5.ownsRow w2.heap.size 71 2 v4 (0 + t.wl.length) ([] ++ secCells t.wl) from own_stays HO4.out ⟨HB5.out.size, fun i hi _ => HB5.out.block i hi⟩ (S := fun _ => False) (fun _ _ x => x))
         have HN5 := Lib.hid (show Rd w5 2 (.slice (some ⟨w4.heap.size, 0, none⟩) 1 1) 1 [.int .i64 x, .string d] from rd_blk (cs := #[.int .i64 x, .string d]) (by rw [← hw5]; exact Blk.alloc _ _ _) rfl))
      | (at_builtin; refine wpList_append_rd rfl (.tmp 23) (.tmp 27) _ rfl w2.heap.size 71 i0 (.agg #[.int .i64 0, .string ⟨#[]⟩]) 2 24 Try.underlying29 hi hz0 hz1 hz2 rfl (by decide) v4 (0 + t.wl.length) ([] ++ secCells t.wl) rfl HR5.out _ 1 [.int .i64 x, .string d] rfl HN5.out (by simp [Value.oneCell']) (by have := HLN.out; unfold maxLen; omega) (by have := HLN.out; omega) (by have := HS3.out; have := HG4.out.size; have := HB5.out.size; omega) ?_
         intro v6 w6 hown6 hgrow6 hat6
         obtain ⟨g6, c6, rfl, _⟩ := World.ownsRow.form hown6 (by omega)
         have hfin := two_app HB3.out HG4.out HA4.out HB5.out hgrow6
         have ht6 := HT.out.mv hfin (fun _ x => x.elim) (fun x => x) (fun _ _ x => x)
         have e0 := ht6.box.cell (i := 3) rfl
         have ef := ht6.box.free 3
         have HT6 := Lib.hid ht6
         have HM6 := Lib.hid (HM2.out.trans hfin (fun _ _ x => x.elim))
         have HO6 := Lib.hid hown6
         have HA6 := Lib.hid hat6
         have HEV6 := Lib.hid (HE.out.mv hfin (fun x => x))
         obtain ⟨w7, hw7⟩ : ∃ w7, w6.setCell ⟨b, 3, none⟩ (.slice (some ⟨g6, 0, none⟩) (t.wl.length + 1) c6) = w7 := ⟨_, rfl⟩
         have hm7 : Mv w6 w7 (· = b) := by rw [← hw7]; exact Mv.of_set _ _ _ _ rfl
         have hev7 := HEV6.out.mv hm7 (by have := HBS.out; have := HE.out.lt; omega)
         have q0 := hev7.cell (i := 0) rfl
         have q1 := hev7.cell (i := 1) rfl
         have f0 := hev7.free 0
         have f1 := hev7.free 1
         have hx7 := (HX2.out.mv hfin (fun x => x)).mv hm7 (by have := HBS.out; omega)
         have k0 := hx7.cell (i := 0) rfl
         have k1 := hx7.cell (i := 1) rfl
         have HEV7 := Lib.hid hev7
         have HM7 := Lib.hid (HM6.out.trans hm7 (fun _ _ x => x))
         have HW7 := Lib.hid hw7
         clear hfin ht6 hown6 hgrow6 hat6 hm7 hev7 hx7))
    (try simp only [Exit.inBlock, Exit.then]); refine bodyPost_ret (results_cell rfl _ _ _ ⟨w.heap.size, 0, none⟩ (.agg #[.int .i64 t.ev.1, .int .i64 t.ev.2]) rfl (load_event _ _ _ _ ?_ ?_)) rfl ?_
    · exact ((HEV7.out.set 0 _).set 1 _).cell (i := 0) rfl
    · exact ((HEV7.out.set 0 _).set 1 _).cell (i := 1) rfl
    · have g := (Mv.of_set w7 w.heap.size 0 (.int .i64 t.ev.1) (S := (· = w.heap.size)) rfl).trans (Mv.of_set _ w.heap.size 1 (.int .i64 t.ev.2) (S := (· = w.heap.size)) rfl) (fun _ _ x => x)
      have ht := HT6.out
      have hbb := HBS.out
      have hbx := ht.box.lt
      have g7 : Mv w6 w7 (· = b) := by rw [← hw7]; exact Mv.of_set _ _ _ _ rfl
      have g67 : Mv w6 _ (fun i => i = b ∨ i = w.heap.size) := (g7.mono (fun i _ e => .inl e)).trans g (fun i _ e => .inr e)
      have hown7 : OwnSecs w6 base (.slice (some ⟨g6, 0, none⟩) (t.wl.length + 1) c6) (t.wl ++ [⟨x, d⟩]) := by
        have h0 := HO6.out
        rw [List.nil_append, Nat.zero_add] at h0
        unfold OwnSecs
        rw [List.length_append, secCells_app]
        obtain ⟨k1, k2⟩ := h0
        refine ⟨k1, k2.imp (fun x => x) ?_⟩
        rintro ⟨g, cap, cur, e1, e2, e3⟩
        exact ⟨g, cap, cur, e1, by omega, e3⟩
      refine ⟨by rw [he]; rfl, .slice (some ⟨g6, 0, none⟩) (t.wl.length + 1) c6, ?_, HM7.out.trans g (fun i hi x => by omega), fun _ j hj => ?_, fun hx => absurd he hx⟩
      · rw [if_pos he]
        refine ⟨?_, ht.e.mv g67 (fun ad e hp x => ?_), ht.h.mv g67 (fun ad e hp x => ?_), ht.fe, ht.fh, own_mv hown7 g67 (fun i hi x => ?_), ht.hb⟩
        · rw [← hw7] at g ⊢
          exact (ht.box.set 3 _).mv g (by omega)
        · have := ht.fe ad e hp; omega
        · have := ht.fh ad e hp; omega
        · rcases x with e | e
          · exact own_type hown7 ht.box (by decide) (by rw [← e]; exact hi)
          · exact own_type hown7 HEV6.out (by decide) (by rw [← e]; exact hi)
      · have : j = g6 := by simpa [Value.ownBlock] using hj.symm
        omega
  · have heb : (t.err == 0) = false := by rw [beq_eq_false_iff_ne]; exact he
    have q0 := HE.out.cell (i := 0) rfl
    have q1 := HE.out.cell (i := 1) rfl
    have f0 := HE.out.free 0
    have f1 := HE.out.free 1
    have k0 := HX2.out.cell (i := 0) rfl
    have k1 := HX2.out.cell (i := 1) rfl
    go_wp2
    (try simp only [Exit.inBlock, Exit.then]); refine bodyPost_ret (results_cell rfl _ _ _ ⟨w.heap.size, 0, none⟩ (.agg #[.int .i64 t.ev.1, .int .i64 t.ev.2]) rfl (load_event _ _ _ _ ?_ ?_)) rfl ?_
    · exact ((HE.out.set 0 _).set 1 _).cell (i := 0) rfl
    · exact ((HE.out.set 0 _).set 1 _).cell (i := 1) rfl
    · have g := (Mv.of_set w2 w.heap.size 0 (.int .i64 t.ev.1) (S := (· = w.heap.size)) rfl).trans (Mv.of_set _ w.heap.size 1 (.int .i64 t.ev.2) (S := (· = w.heap.size)) rfl) (fun _ _ x => x)
      have ht := HT.out
      have hbx := ht.box.lt
      have hbb := ht.hb
      refine ⟨rfl, t.wrote, ?_, HM2.out.trans g (fun i hi x => by omega), fun x => absurd x he, fun _ => rfl⟩
      rw [if_neg he]
      exact ht.mv g (fun i e => by omega) (by omega) (fun i hi e => own_type ht.own HE.out (by decide) (by rw [← e]; exact hi))
end Go.Proofs.Ytdnkbnpjbcalaaa
