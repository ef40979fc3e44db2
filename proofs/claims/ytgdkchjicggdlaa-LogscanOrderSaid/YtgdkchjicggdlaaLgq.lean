/- The plain law: what is put into a log is told. -/
import Derived.Test.YtgdkchjicggdlaaLgl
import Derived.Test.YtgdkchjicggdlaaLgf
import Derived.Test.YtgdkchjicggdlaaLrb
import Derived.Test.YtgdkchjicggdlaaBkp
namespace Go.Proofs.Ytgdkchjicggdlaa
open Go.RowKit Go.Proofs.YtgdkchjicggdlaaW.PrintWords

theorem mod_inj {many a i j : Nat} (hi : i < many) (hj : j < many) (h : (a + i) % many = (a + j) % many) : i = j := by
  rcases Nat.lt_trichotomy i j with hlt | rfl | hlt
  · exfalso
    have h2 : (a + i + (j - i)) % many = (a + i) % many := by rw [show a + i + (j - i) = a + j from by omega]; exact h.symm
    have h3 : (j - i) % many = 0 := by
      have h4 := Nat.sub_mod_eq_zero_of_mod_eq h2
      rwa [show a + i + (j - i) - (a + i) = j - i from by omega] at h4
    rw [Nat.mod_eq_of_lt (by omega)] at h3
    omega
  · rfl
  · exfalso
    have h2 : (a + j + (i - j)) % many = (a + j) % many := by rw [show a + j + (i - j) = a + i from by omega]; exact h
    have h3 : (i - j) % many = 0 := by
      have h4 := Nat.sub_mod_eq_zero_of_mod_eq h2
      rwa [show a + j + (i - j) - (a + j) = i - j from by omega] at h4
    rw [Nat.mod_eq_of_lt (by omega)] at h3
    omega
theorem layTo_len (L : List ByteArray) (many a : Nat) (s : ByteArray) (k : Nat) : (layTo L many a s k).length = L.length := by
  induction k with
  | zero => rfl
  | succ k ih => rw [layTo, List.length_set, ih]
theorem putL_len (L : List ByteArray) (many a : Nat) (s : ByteArray) (n : Nat) : (putL L many a s n).length = L.length := by
  unfold putL
  rw [List.length_set, layTo_len]
theorem getD_set_self (L : List ByteArray) (i : Nat) (x d : ByteArray) (h : i < L.length) : (L.set i x).getD i d = x := by
  rw [List.getD_eq_getElem?_getD, List.getElem?_set_self h]; rfl
theorem getD_set_far (L : List ByteArray) (i j : Nat) (x d : ByteArray) (h : i ≠ j) : (L.set i x).getD j d = L.getD j d := by
  rw [List.getD_eq_getElem?_getD, List.getD_eq_getElem?_getD, List.getElem?_set_ne h]
theorem layTo_at {L : List ByteArray} {many a : Nat} {s : ByteArray} (hl : L.length = many) (d : ByteArray) : ∀ k, k < many → ∀ j, j < many → (layTo L many a s k).getD ((a + j) % many) d = if 1 ≤ j ∧ j ≤ k then chunk s j else L.getD ((a + j) % many) d
  | 0, _, j, _ => by rw [if_neg (by omega)]; rfl
  | k + 1, hk, j, hj => by
    have hlt := Nat.mod_lt (a + (k + 1)) (show 0 < many by omega)
    rw [layTo]
    by_cases he : j = k + 1
    · subst he
      rw [getD_set_self _ _ _ _ (by rw [layTo_len, hl]; exact hlt), if_pos (by omega)]
    · rw [getD_set_far _ _ _ _ _ (fun h => he (mod_inj hk hj h).symm), layTo_at hl d k (by omega) j hj]
      by_cases h1 : 1 ≤ j ∧ j ≤ k
      · rw [if_pos h1, if_pos (by omega)]
      · rw [if_neg h1, if_neg (by omega)]
theorem putL_at {L : List ByteArray} {many a : Nat} {s : ByteArray} {n : Nat} (hl : L.length = many) (hn : 1 ≤ n) (hn2 : n ≤ many) (d : ByteArray) (j : Nat) (hj : j < many) : (putL L many a s n).getD ((a + j) % many) d = if j < n then chunk s j else L.getD ((a + j) % many) d := by
  have hlt := Nat.mod_lt (a + 0) (show 0 < many by omega)
  unfold putL
  by_cases h0 : j = 0
  · subst h0
    rw [getD_set_self _ _ _ _ (by rw [layTo_len, hl]; exact hlt), if_pos (by omega)]
  · rw [getD_set_far _ _ _ _ _ (fun h => h0 (mod_inj (by omega) hj h).symm), layTo_at hl d (n - 1) (by omega) j hj]
    by_cases h1 : j < n
    · rw [if_pos (by omega), if_pos h1]
    · rw [if_neg (by omega), if_neg h1]

theorem readL_mod (L : List ByteArray) (many x m : Nat) : readL L many (x % many) m = readL L many x m := by
  unfold readL
  congr 1
  funext k
  rw [Nat.mod_add_mod]
theorem readL_congr {L L' : List ByteArray} {many x m : Nat} (h : ∀ k, k < m → L.getD ((x + k) % many) ⟨#[]⟩ = L'.getD ((x + k) % many) ⟨#[]⟩) : readL L many x m = readL L' many x m := by
  induction m with
  | zero => rfl
  | succ m ih => rw [readL_succ, readL_succ, ih (fun k hk => h k (by omega)), h m (by omega)]
theorem chunk_list (s : ByteArray) (k : Nat) (_h : (k + 1) * 64 ≤ s.size) : (chunk s k).data.toList = (s.data.toList.drop (k * 64)).take 64 := by
  unfold chunk
  rw [ByteArray.data_extract, ByteArray.data_extract, Array.toList_extract, Array.toList_extract]
  simp only [List.extract, List.drop_zero, Nat.sub_zero]
  rw [List.take_of_length_le (l := s.data.toList.drop (k * 64)) (by rw [List.length_drop]; exact Nat.le_refl _)]
theorem chunks_all (s : ByteArray) (n : Nat) (h : n * 64 ≤ s.size) : ((List.range n).flatMap fun k => (chunk s k).data.toList) = s.data.toList.take (n * 64) := by
  induction n with
  | zero => simp
  | succ n ih =>
    rw [List.range_succ, List.flatMap_append, ih (by omega)]
    simp only [List.flatMap_cons, List.flatMap_nil, List.append_nil]
    rw [chunk_list s n h, Nat.succ_mul, ← List.take_add]
theorem flat_cong {α β : Type} (l : List α) (f g : α → List β) (h : ∀ x, x ∈ l → f x = g x) : l.flatMap f = l.flatMap g := by
  induction l with
  | nil => rfl
  | cons x l ih => rw [List.flatMap_cons, List.flatMap_cons, h x List.mem_cons_self, ih (fun y hy => h y (List.mem_cons_of_mem _ hy))]
theorem readL_put {L : List ByteArray} {many a : Nat} {s : ByteArray} {n : Nat} (hl : L.length = many) (hn : 1 ≤ n) (hn2 : n ≤ many) (hs : s.size = n * 64) : readL (putL L many a s n) many a n = s.data.toList := by
  have e : readL (putL L many a s n) many a n = (List.range n).flatMap fun k => (chunk s k).data.toList := by
    unfold readL
    refine flat_cong _ _ _ (fun k hk => ?_)
    have hk := List.mem_range.1 hk
    rw [putL_at hl hn hn2 _ k (by omega), if_pos hk]
  rw [e, chunks_all s n (by omega), ← hs]
  exact List.take_of_length_le (Nat.le_refl _)

/-! ### records that stand in a log -/
def total (ls : List (List Sec)) : Nat := (ls.map fun l => l.length + 1).sum
theorem total_snoc (ls : List (List Sec)) (l : List Sec) : total (ls ++ [l]) = total ls + (l.length + 1) := by simp [total]
def Holds (L : List ByteArray) (many at_ : Nat) : Nat → Nat → List (List Sec) → Prop
  | _, _, [] => True
  | u, s, l :: r => (Lr.check l = 0 ∧ s < 281474976710656 ∧ readL L many (at_ + u) (l.length + 1) = Lr.put s l) ∧ Holds L many at_ (u + (l.length + 1)) (s + 1) r
theorem Holds.congr {L L' : List ByteArray} {many at_ : Nat} : ∀ {ls : List (List Sec)} {u s : Nat}, (∀ j, u ≤ j → j < u + total ls → L.getD ((at_ + j) % many) ⟨#[]⟩ = L'.getD ((at_ + j) % many) ⟨#[]⟩) → Holds L many at_ u s ls → Holds L' many at_ u s ls
  | [], _, _, _, _ => trivial
  | l :: r, u, s, h, ⟨⟨h1, h2, h3⟩, hr⟩ => by
    have ht : total (l :: r) = l.length + 1 + total r := by simp [total]
    refine ⟨⟨h1, h2, ?_⟩, Holds.congr (fun j hj1 hj2 => h j (by omega) (by omega)) hr⟩
    rw [← h3]
    refine (readL_congr (fun k hk => ?_)).symm
    have := h (u + k) (by omega) (by omega)
    rwa [← Nat.add_assoc] at this
theorem Holds.snoc {L : List ByteArray} {many at_ : Nat} : ∀ {ls : List (List Sec)} {u s : Nat} {l : List Sec}, Holds L many at_ u s ls → Lr.check l = 0 → s + ls.length < 281474976710656 → readL L many (at_ + (u + total ls)) (l.length + 1) = Lr.put (s + ls.length) l → Holds L many at_ u s (ls ++ [l])
  | [], u, s, l, _, h1, h2, h3 => ⟨⟨h1, h2, by simpa [total] using h3⟩, trivial⟩
  | x :: r, u, s, l, ⟨h0, hr⟩, h1, h2, h3 => by
    have ht : total (x :: r) = x.length + 1 + total r := by simp [total]
    refine ⟨h0, Holds.snoc hr h1 (by simp only [List.length_cons] at h2; omega) ?_⟩
    rw [ht] at h3
    rw [show u + (x.length + 1) + total r = u + (x.length + 1 + total r) from by omega, h3]
    simp only [List.length_cons]
    rw [show s + 1 + r.length = s + (r.length + 1) from by omega]
/-- A record more. -/
theorem Holds.put {L : List ByteArray} {many at_ : Nat} {ls : List (List Sec)} {s : Nat} {l : List Sec} (h : Holds L many at_ 0 s ls) (hl : L.length = many) (hc : Lr.check l = 0) (hs : s + ls.length < 281474976710656) (hfit : total ls + (l.length + 1) ≤ many) :
    Holds (putL L many ((at_ + total ls) % many) (mkS (Lr.put (s + ls.length) l)) (l.length + 1)) many at_ 0 s (ls ++ [l]) := by
  have hsz : (mkS (Lr.put (s + ls.length) l)).size = (l.length + 1) * 64 := by
    rw [mkS_size, Lr.put_len (Lr.check_fine hc)]; omega
  refine Holds.snoc (Holds.congr (fun j _ hj => ?_) h) hc hs ?_
  · rw [Nat.zero_add] at hj
    have e : (at_ + j) % many = ((at_ + total ls) % many + (j + (many - total ls))) % many := by
      rw [Nat.mod_add_mod, show at_ + total ls + (j + (many - total ls)) = at_ + j + many from by omega, Nat.add_mod_right]
    rw [e, putL_at hl (by omega) (by omega) _ _ (by omega), if_neg (by omega)]
  · rw [Nat.zero_add, ← readL_mod, readL_put hl (by omega) (by omega) hsz]
    rfl
/-- A record that stands is read. -/
theorem Holds.step {L : List ByteArray} {many at_ u s : Nat} {l : List Sec} {r : List (List Sec)} (h : Holds L many at_ u s (l :: r)) (hl : L.length = many) (hpos : 0 < many) (h64 : ∀ x, x ∈ L → x.size = 64) (hfit : u + (l.length + 1) ≤ many) : scanStep L many ((at_ + u) % many) s u = some (l, l.length + 1) := by
  obtain ⟨⟨hc, hs, hr⟩, _⟩ := h
  have h1 : readL L many ((at_ + u) % many) 1 = (Lr.put s l).take 64 := by
    have e := readL_add L many (at_ + u) 1 l.length
    rw [Nat.add_comm 1, hr] at e
    rw [readL_mod, ← e]
    rw [List.take_append_of_le_length (by rw [readL_len L many _ 1 hl hpos h64]; omega), List.take_of_length_le (by rw [readL_len L many _ 1 hl hpos h64]; omega)]
  have h2 : readL L many ((at_ + u) % many) (l.length + 1) = Lr.put s l := by rw [readL_mod, hr]
  have h3 := Lr.put_size hc hs
  have h4 := Lr.get_put hc hs
  unfold scanStep
  rw [h1, h3]
  simp only
  rw [if_neg (by rintro (x | x); exact x rfl; omega)]
  rw [show ((l.length : Int) + 1).toNat = l.length + 1 from by omega, h2, h4]
  rw [if_neg (by simp)]
/-- What stands is told first. -/
theorem Scans.told {L : List ByteArray} {many at_ : Nat} (hl : L.length = many) (hpos : 0 < many) (h64 : ∀ x, x ∈ L → x.size = 64) : ∀ {ls : List (List Sec)} {u s : Nat} {rs : List Rec} {a' : Nat} {s' : Int} {u' : Nat}, Scans L many ((at_ + u) % many) s u rs a' s' u' → Holds L many at_ u s ls → u + total ls ≤ many →
    ls.length ≤ rs.length ∧ ∀ i (h1 : i < ls.length) (h2 : i < rs.length), rs[i].seq = s + i ∧ rs[i].l = ls[i]
  | [], _, _, _, _, _, _, _, _, _ => ⟨Nat.zero_le _, fun i h => by simp at h⟩
  | l :: r, u, s, rs, a', s', u', hsc, hh, hfit => by
    have ht : total (l :: r) = l.length + 1 + total r := by simp [total]
    have hst := hh.step hl hpos h64 (by omega)
    cases hsc with
    | stop h => rw [hst] at h; cases h
    | last h hu =>
      rw [hst] at h
      injection h with h
      injection h with e1 e2
      subst e1 e2
      have hr : r = [] := by
        cases r with
        | nil => rfl
        | cons y r => simp [total] at ht hfit; omega
      subst hr
      refine ⟨Nat.le_refl _, fun i h1 h2 => ?_⟩
      have : i = 0 := by simp at h1; omega
      subst this
      exact ⟨by simp, rfl⟩
    | more h hu hr =>
      rw [hst] at h
      injection h with h
      injection h with e1 e2
      subst e1 e2
      rw [Nat.mod_add_mod, Nat.add_assoc, show (s : Int) + 1 = ((s + 1 : Nat) : Int) from by omega] at hr
      have ih := Scans.told hl hpos h64 hr hh.2 (by omega)
      refine ⟨by simp only [List.length_cons]; omega, fun i h1 h2 => ?_⟩
      cases i with
      | zero => exact ⟨by simp, rfl⟩
      | succ i =>
        have := ih.2 i (by simpa using h1) (by simpa using h2)
        simp only [List.getElem_cons_succ]
        refine ⟨by rw [this.1]; omega, this.2⟩
theorem Scans.full {L : List ByteArray} {many at_ : Nat} {s : Int} {u : Nat} {rs : List Rec} {a' : Nat} {s' : Int} {u' : Nat} (h : Scans L many at_ s u rs a' s' u') (hu : many < u + 2) : rs = [] ∧ a' = at_ ∧ s' = s ∧ u' = u := by
  have hn : scanStep L many at_ s u = none := by
    unfold scanStep
    by_cases h1 : (Lr.size (readL L many at_ 1) s).2 ≠ 0
    · rw [if_pos (.inl h1)]
    · have h2 := size_ge (readL L many at_ 1) s (Decidable.byContradiction h1)
      rw [if_pos (.inr (by omega))]
  cases h with
  | stop h => exact ⟨rfl, rfl, rfl, rfl⟩
  | last h hu => rw [hn] at h; cases h
  | more h hu hr => rw [hn] at h; cases h
end Go.Proofs.Ytgdkchjicggdlaa
