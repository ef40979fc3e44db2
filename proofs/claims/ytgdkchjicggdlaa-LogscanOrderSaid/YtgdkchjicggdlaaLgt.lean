/- LogscanOrder where it has to do. -/
import Derived.Test.YtgdkchjicggdlaaLgr
import Derived.Test.YtgdkchjicggdlaaRfd
namespace Go.Proofs.Ytgdkchjicggdlaa
open Go.RowKit Go.Proofs.YtgdkchjicggdlaaW.PrintWords

/-- Slices of sectors that were put, in a row of one's own. -/
structure PutRow (w0 w : World) (N : Nat) (v : Value) (ls : List (List Sec)) (vals : List Value) : Prop where
  len : ls.length = vals.length
  row : w.ownsRow N 22 1 v ls.length vals
  secs : ∀ k (h1 : k < vals.length) (h2 : k < ls.length), ∃ B c, vals[k] = .slice B ls[k].length c ∧ ls[k].length ≤ c ∧ Secs w0 B ls[k]
theorem ss_info : (Try.prog.info? 22).map (fun i => (i.zero, i.size, i.bytes)) = some (some (.slice none 0 0), 1, 24) := by kernel_rfl

theorem DiskAt.not_foot_row {w : World} {base : Nat} {p : Dpl} {k : Dk} (h : DiskAt w base p k) {b' : Nat} {e : TypeId} {z n : Nat} {v : Value} {xs : List Value} (hr : w.ownsRow b' e z v n xs) (h1 : e ≠ 112) (h2 : e ≠ 9) (h3 : e ≠ 59) (h4 : e ≠ 3) :
    ∀ i, v.ownBlock = some i → ¬ p.foot i := by
  intro i hi hf
  rcases hf with rfl | rfl | rfl | hf | hf
  · exact own_type hr h.box h1 hi
  · exact own_type hr h.sure h2 hi
  · have hm := h.seen
    unfold MapAt at hm
    rcases hr.2 with ⟨h1, _⟩ | ⟨g, cap, cur, h1, _, h3, _⟩
    · subst h1; simp [Value.ownBlock] at hi
    · subst h1
      simp only [Value.ownBlock, Option.some.injEq] at hi
      subst hi
      rw [h3] at hm
      simp at hm
  · exact own_apart hr h.waits h3 hi hf
  · exact own_apart hr h.fails h4 hi hf
theorem LogAt.not_foot_row {w : World} {base r : Nat} {p : Dpl} {many : Nat} {L : List ByteArray} {B : Nat} (h : LogAt w base r p many L B) {b' : Nat} {z n : Nat} {v : Value} {xs : List Value} (hr : w.ownsRow b' 22 z v n xs) : ∀ i, v.ownBlock = some i → ¬ p.foot i := by
  obtain ⟨k, V, from_, hd, _⟩ := h.ex
  exact hd.not_foot_row hr (by decide) (by decide) (by decide) (by decide)
theorem PutRow.log {w0 w w1 : World} {N : Nat} {v : Value} {ls : List (List Sec)} {vals : List Value} (h : PutRow w0 w N v ls vals) {base r : Nat} {p p1 : Dpl} {many : Nat} {L L1 : List ByteArray} {B B1 : Nat} (hl : LogAt w base r p many L B) (hd : LogDone w w1 base r p many L1 B1 p1) : PutRow w0 w1 N v ls vals :=
  ⟨h.len, own_kept h.row hd.kept (hl.not_foot_row h.row), h.secs⟩
theorem PutRow.below {w0 w w1 : World} {N : Nat} {v : Value} {ls : List (List Sec)} {vals : List Value} (h : PutRow w0 w N v ls vals) (hb : Below w.heap.size w w1) : PutRow w0 w1 N v ls vals :=
  ⟨h.len, pw_own_below h.row hb, h.secs⟩
theorem PutRow.form {w0 w : World} {N : Nat} {v : Value} {ls : List (List Sec)} {vals : List Value} (h : PutRow w0 w N v ls vals) : ∃ PA cap, v = .slice PA ls.length cap ∧ ∀ k (hk : k < ls.length), ∃ g B c, PA = some ⟨g, 0, none⟩ ∧ w.cell? ⟨g, k, none⟩ = some (.slice B ls[k].length c) ∧ ls[k].length ≤ c ∧ Secs w0 B ls[k] := by
  rcases h.row.2 with ⟨h1, h2⟩ | ⟨g, cap, cur, h1, _, h3, _, _, _, h7⟩
  · refine ⟨none, 0, by rw [h1, h2], fun k hk => by omega⟩
  · refine ⟨some ⟨g, 0, none⟩, cap, h1, fun k hk => ?_⟩
    have hkv : k < vals.length := by rw [← h.len]; exact hk
    obtain ⟨B, c, e1, e2, e3⟩ := h.secs k hkv hk
    refine ⟨g, B, c, rfl, ?_, e2, e3⟩
    have hx : vals[k]? = some (.slice B ls[k].length c) := by rw [List.getElem?_eq_getElem hkv, e1]
    rw [← h7, List.getElem?_take] at hx
    split at hx
    · rw [Array.getElem?_toList] at hx
      have e4 : w.cell? ⟨g, k, none⟩ = cur[k]? := by simp [World.cell?, h3]
      rw [e4, hx]
    · cases hx
theorem LogAt.grown_row {w w1 : World} {base r : Nat} {p : Dpl} {many : Nat} {L : List ByteArray} {B : Nat} (h : LogAt w base r p many L B) {b' : Nat} {z n : Nat} {v : Value} {xs : List Value} (hr : w.ownsRow b' 22 z v n xs) (hg : w.grownBy w1 v.ownBlock) : LogAt w1 base r p many L B := by
  obtain ⟨k, V, from_, _, _, hbox, _⟩ := h.ex
  exact h.kept (S := fun i => v.ownBlock = some i) ⟨hg.size, fun i hi hn => hg.block i hi (fun e => hn e.symm)⟩ (fun i hf hs => h.not_foot_row hr i hs hf) (fun hs => own_type hr hbox (by decide) hs)
theorem Told.form {w : World} {N : Nat} {v : Value} {rs : List Rec} {vs : List Value} (h : Told w N v rs vs) : ∃ GA cap, v = .slice GA rs.length cap ∧ rs.length ≤ 9223372036854775807 ∧ ∀ k (hk : k < rs.length), ∃ g VB vc, GA = some ⟨g, 0, none⟩ ∧ w.cell? ⟨g, k * 3, none⟩ = some (.int .i64 rs[k].seq) ∧ w.cell? ⟨g, k * 3 + 2, none⟩ = some (.slice VB rs[k].l.length vc) ∧ Secs w VB rs[k].l := by
  rcases h.row.2 with ⟨h1, h2⟩ | ⟨g, cap, cur, h1, _, h3, h4, h5, _, h7⟩
  · refine ⟨none, 0, by rw [h1, h2], by omega, fun k hk => by omega⟩
  · refine ⟨some ⟨g, 0, none⟩, cap, h1, by unfold maxLen at h5; omega, fun k hk => ?_⟩
    have hkv : k < vs.length := by rw [← h.len]; exact hk
    obtain ⟨VB, vc, e1, _, e3⟩ := (h.secs k hkv hk).form
    obtain ⟨x0, x2⟩ := recCells_get rs vs h.len k hk
    have hc : ∀ j u, (recCells rs vs)[j]? = some u → w.cell? ⟨g, j, none⟩ = some u := by
      intro j u hj
      rw [← h7, List.getElem?_take] at hj
      split at hj
      · rw [Array.getElem?_toList] at hj
        simp [World.cell?, h3, hj]
      · cases hj
    refine ⟨g, VB, vc, rfl, hc _ _ x0, ?_, e3⟩
    rw [hc _ _ x2, e1]
theorem Put_ok {n : Nat} {l : List Sec} (h : (Lr.Put (n : Int) l).2 = 0) (hn : n < 281474976710656) : Lr.check l = 0 ∧ (Lr.Put (n : Int) l).1 = Lr.put n l := by
  unfold Lr.Put at *
  rw [if_neg (by omega)] at h ⊢
  by_cases hc : Lr.check l = 0
  · rw [if_neg (by omega)]
    exact ⟨hc, rfl⟩
  · rw [if_pos hc] at h
    exact absurd h hc

set_option maxRecDepth 100000 in
set_option maxHeartbeats 8000000 in
theorem law12_main (many : Nat) (A1 : Option Addr) (c1 : Nat) (l : List (List Sec)) (at_ seq : Nat) (A2 : Option Addr) (c2 : Nat) (old : List LayV) (w : World) (h1 : Rows2 w A1 l) (h2 : Lays w A2 old)
    (hm : 1 ≤ many) (hm2 : many ≤ 55) (hat : at_ < many) (hseq : seq ≤ 1099511627776) (hl : l.length ≤ 20) :
    Calls Try.prog 6 #[.int .i64 many, .slice A1 l.length c1, .int .i64 at_, .int .i64 seq, .slice A2 old.length c2] w fun e w' => e = .returned (.bool true) ∧ Below w.heap.size w w' := by
  have H1 := Lib.hid h1
  have H2 := Lib.hid h2
  clear h1 h2
  have hg1 : ¬ (20 : Int) < l.length := by omega
  have hg2 : ¬ (at_ : Int) < 0 := by omega
  have hgn1 : ¬ 20 < l.length := by omega
  have hgn3 : ¬ many ≤ at_ := by omega
  have hgn5 : ¬ 1099511627776 < seq := by omega
  have hg3 : ¬ (many : Int) ≤ at_ := by omega
  have hg4 : ¬ (seq : Int) < 0 := by omega
  have hg5 : ¬ (1099511627776 : Int) < seq := by omega
  go_enter Try.func6, Try.ntmps6
  go_wp2_with fail
  refine (law12_works _).mono ?_
  rintro e w1 ⟨rfl, hb1⟩
  have HB1 := Lib.hid hb1
  clear hb1
  go_wp2_with fail
  refine (law12_both _ many hm hm2).mono ?_
  rintro e w2 ⟨d, p, r, c, b, rfl, hlog2, hb2⟩
  have HL2 := Lib.hid hlog2
  have HB2 := Lib.hid (below_trans HB1.out hb2)
  have HSZ2 := Lib.hid hb2.size
  clear hb2 hlog2
  go_wp2_with fail
  refine (law12_great A2 c2 old _ (H2.out.below HB2.out)).mono ?_
  rintro e w3 ⟨b3, rfl, rfl, hgr⟩
  cases b3 with
  | true =>
    clear hgr
    go_wp2
    go_ret
    exact ⟨rfl, HB2.out⟩
  | false =>
    have HG := Lib.hid (hgr rfl)
    clear hgr
    obtain ⟨N, hN⟩ : ∃ N, w1.heap.size = N := ⟨_, rfl⟩
    rw [hN] at HL2
    have HNN := Lib.hid (show w.heap.size ≤ N from by rw [← hN]; exact HB1.out.size)
    have HN2 := Lib.hid (show N ≤ w2.heap.size from by rw [← hN]; exact HSZ2.out)
    clear hN
    go_wp2
    go_loopw [15] (fun i wr => ∃ k : Nat, k ≤ old.length ∧ i = .int .i64 k ∧ (∃ p L, LogAt wr N r p many L (k * 57)) ∧ Below w.heap.size w wr ∧ N ≤ wr.heap.size) (fun i _ => old.length - (intOf i).toNat)
    case atStart => exact ⟨0, by omega, rfl, ⟨p, _, by simpa using HL2.out⟩, HB2.out, HN2.out⟩
    case round =>
      obtain ⟨k, hk, rfl, ⟨p1, La, hlog⟩, hb, hNr⟩ := hrel
      have HL := Lib.hid hlog
      have HB := Lib.hid hb
      clear hlog hb
      have hold := HG.out.1
      by_cases hlt : k < old.length
      · obtain ⟨ad, rfl, q0w, q2w, _⟩ := H2.out.2 k hlt
        have q0 := cell_below HB.out q0w
        have q2 := cell_below HB.out q2w
        have hds := HG.out.2 _ (List.getElem_mem hlt)
        obtain ⟨D, hD⟩ : ∃ D, old[k].Data = D := ⟨_, rfl⟩
        obtain ⟨P, hP⟩ : ∃ P, old[k].At = P := ⟨_, rfl⟩
        rw [hD] at q2 hds q2w
        rw [hP] at q0 q0w
        have HQ0 := Lib.hid q0w
        have HQ2 := Lib.hid q2w
        have HDS := Lib.hid hds
        have hmax := H2.out.1
        clear hD hP hds q0w q2w
        go_wp2
        go_region_held3 (fun W => W.cell? (ad.add (k * 4)) = some (.int .i64 P) ∧ W.cell? ⟨(ad.add (k * 4)).block, (ad.add (k * 4)).off + 2, none⟩ = some (.string D)) (first | exact ⟨q0, q2⟩ | exact HS2.out) (first
          | (go_at_call 21; refine (ls_put_any _ N r p1 many La (k * 57) (HL.out.below (below_drew _)) (by omega) (by exact hNr) P D (by have := HDS.out; omega)).mono ?_; rintro e w4 ⟨v4, L4, p4, rfl, hd4⟩; have HD4 := Lib.hid hd4; have HBN4 := Lib.hid (show Below N wr w4 from LogDone.to_below HL.out (LogDone.upon (below_drew _) HD4.out) hNr); have HB4 := Lib.hid (show Below w.heap.size w w4 from HB.out.trans (HBN4.out.mono HNN.out)); have HS2 := Lib.hid (show w4.cell? (ad.add (k * 4)) = some (.int .i64 P) ∧ w4.cell? ⟨(ad.add (k * 4)).block, (ad.add (k * 4)).off + 2, none⟩ = some (.string D) from ⟨cell_below HB4.out HQ0.out, cell_below HB4.out HQ2.out⟩); clear hd4))
        all_goals
          go_wp2
          go_roundw
          case rel => exact ⟨k + 1, by omega, by go_num, ⟨p4, L4, HD4.out.at_.more (by omega)⟩, HB4.out, Nat.le_trans hNr HBN4.out.size⟩
          case measure => simp [intOf]; omega
      · obtain rfl : k = old.length := by omega
        have HL0 := Lib.hid (HL.out.more (C := 1800) (by omega))
        clear HL
        obtain ⟨i0, hi, hz0, hz1, hz2⟩ := info_parts ss_info
        go_wp2
        go_loopw [16, 17, 18, 19] (fun used n put i wq => ∃ (k : Nat) (ls : List (List Sec)) (vals : List Value) (L : List ByteArray) (p : Dpl), k ≤ l.length ∧ i = .int .i64 k ∧ n = .int .i64 ls.length ∧ used = .int .i64 (total ls) ∧ LogAt wq N r p many L (1800 + k * 57) ∧ Holds L many at_ 0 seq ls ∧ total ls ≤ many ∧ ls.length ≤ k ∧ PutRow w wq N put ls vals ∧ Below w.heap.size w wq ∧ N ≤ wq.heap.size) (fun _ _ _ i _ => l.length - (intOf i).toNat)
        case atStart => exact ⟨0, [], [], _, _, by omega, rfl, rfl, rfl, by simpa using HL0.out, trivial, by simp [total], by simp, ⟨rfl, World.ownsRow_nil _ _ _ _, fun k h => by simp at h⟩, HB.out, hNr⟩
        case round =>
          obtain ⟨k, ls, vals, L, p2, hk, rfl, rfl, rfl, hlog, hholds, htot, hlsk, hput, hbq, hNq⟩ := hrel
          have HLG := Lib.hid hlog
          have HHO := Lib.hid hholds
          have HPR := Lib.hid hput
          have HBQ := Lib.hid hbq
          clear hlog hholds hput hbq
          by_cases hlt : k < l.length
          · obtain ⟨ad, rfl, B, cc, q0w, hcap, hsecs⟩ := H1.out.2 k hlt
            obtain ⟨M, hM⟩ : ∃ M, l[k] = M := ⟨_, rfl⟩
            rw [hM] at q0w hcap hsecs
            have HSE := Lib.hid hsecs
            have HQW := Lib.hid q0w
            have q0 := cell_below HBQ.out q0w
            have hmaxl := H1.out.1
            clear hsecs q0w hM
            go_wp2_with fail
            refine (law11_great B cc M _ (Kd.C_below HSE.out HBQ.out)).mono ?_
            rintro e w5 ⟨bg, rfl, rfl⟩
            cases bg with
            | true =>
              go_wp2
              go_ret
              exact ⟨rfl, HBQ.out⟩
            | false =>
              have hws : IntKind.i64.wrap ((seq : Int) + ls.length) = (seq : Int) + ls.length := IntWalk.i64_in _ ⟨by omega, by omega⟩
              go_wp2_with fail
              refine (lr_put ((seq : Int) + ls.length) B cc M _ (Kd.C_below HSE.out HBQ.out) hcap).mono ?_
              rintro e w6 ⟨rfl, hb6⟩
              have HB6 := Lib.hid (below_trans HBQ.out hb6)
              have HLG6 := Lib.hid (HLG.out.below hb6)
              have HPR6 := Lib.hid (HPR.out.below hb6)
              have q06 := cell_below HB6.out HQW.out
              have hN6 : N ≤ w6.heap.size := Nat.le_trans hNq hb6.size
              clear hb6 q0
              obtain ⟨X, hX⟩ : ∃ X, Lr.Put ((seq : Int) + ls.length) M = X := ⟨_, rfl⟩
              rw [hX]
              by_cases he : X.2 = 0
              · have hpo := Put_ok (n := seq + ls.length) (l := M) (by rw [show ((seq + ls.length : Nat) : Int) = (seq : Int) + ls.length from by omega, hX]; exact he) (by omega)
                rw [show ((seq + ls.length : Nat) : Int) = (seq : Int) + ls.length from by omega, hX] at hpo
                obtain ⟨hck, hx1⟩ := hpo
                have hfew := (Lr.check_fine hck).few
                have hplen := Lr.put_len (Lr.check_fine hck) (seq + ls.length)
                have HCK := Lib.hid hck
                rw [he, hx1]
                obtain ⟨T, hT⟩ : ∃ T, mkS (Lr.put (seq + ls.length) M) = T := ⟨_, rfl⟩
                have hts : T.size = 64 * (M.length + 1) := by rw [← hT, mkS_size, hplen]
                rw [hT]
                have HT := Lib.hid hT
                have HTS := Lib.hid hts
                have hdv : (T.size : Int) / 64 = (M.length : Int) + 1 := by omega
                have hw2 : IntKind.i64.wrap ((many : Int) - total ls) = (many : Int) - total ls := IntWalk.i64_in _ ⟨by omega, by omega⟩
                clear hck hx1 hplen hT hts hX he
                by_cases hfit : total ls + (M.length + 1) ≤ many
                · have hng : ¬ (many : Int) - total ls < (M.length : Int) + 1 := by omega
                  have hw3 : IntKind.i64.wrap ((at_ : Int) + total ls) = (at_ : Int) + total ls := IntWalk.i64_in _ ⟨by omega, by omega⟩
                  have hmb : ((many : Int) == 0) = false := by rw [beq_eq_false_iff_ne]; omega
                  go_wp2_with fail
                  refine (ls_put_okI _ N r p2 many L (1800 + k * 57) HLG6.out (by omega) hN6 ((at_ + total ls) % many) T (M.length + 1) (Nat.mod_lt _ (by omega)) (by have := HTS.out; omega) (by omega) (by omega) _ ?_).mono ?_
                  · first | rfl | (rw [Int.natCast_emod, Int.natCast_add])
                  rintro e w7 ⟨rfl, p7, hd7⟩
                  have HLG7 := Lib.hid hd7.at_
                  have HPR7 := Lib.hid (HPR6.out.log HLG6.out hd7)
                  have hb67 := hd7.to_below HLG6.out hN6
                  have HB7 := Lib.hid (HB6.out.trans (hb67.mono HNN.out))
                  have hN7 : N ≤ w7.heap.size := Nat.le_trans hN6 hd7.size
                  have q07 := cell_below HB7.out HQW.out
                  have HHO7 := Lib.hid (show Holds (putL L many ((at_ + total ls) % many) T (M.length + 1)) many at_ 0 seq (ls ++ [M]) from by
                    rw [← HT.out]
                    exact HHO.out.put HLG6.out.len HCK.out (by omega) hfit)
                  have hw4 : IntKind.i64.wrap ((total ls : Int) + ((M.length : Int) + 1)) = (total ls : Int) + ((M.length : Int) + 1) := IntWalk.i64_in _ ⟨by omega, by omega⟩
                  have hw5 : IntKind.i64.wrap ((ls.length : Int) + 1) = (ls.length : Int) + 1 := IntWalk.i64_in _ ⟨by omega, by omega⟩
                  clear hd7 hb67 q06
                  go_wp2_with (at_builtin; refine wpList_append_own_at _ rfl _ _ 40 rfl N 22 i0 (.slice none 0 0) 1 24 Try.underlying40 hi hz0 hz1 hz2 rfl (by decide) u18 ls.length vals rfl (HPR7.out.row.alloc _) ⟨w7.heap.size, 0, none⟩ 1 1 [.slice B M.length cc] rfl rfl ?_ ?_ ?_ ?_ ?_ ?_)
                  · intro j u hu
                    match j, hu with
                    | 0, hu => obtain rfl : Value.slice _ _ _ = u := by simpa using hu
                               simp [Addr.add]
                    | j + 1, hu => simp at hu
                  · intro u hu; simp at hu; rw [hu]; rfl
                  · unfold maxLen; omega
                  · omega
                  · simp; omega
                  intro v' w8 hown' hgrow _ hat
                  have hba := (Below.refl w7.heap.size w7).alloc (Nat.le_refl _) (.cells #[.slice B M.length cc] 22)
                  have hra := HPR7.out.row.alloc (.cells #[.slice B M.length cc] 22)
                  have HFIN := Lib.hid (show LogAt w8 N r p7 many (putL L many ((at_ + total ls) % many) T (M.length + 1)) (1800 + (k + 1) * 57) ∧ PutRow w w8 N v' (ls ++ [M]) (vals ++ [.slice B M.length cc]) ∧ Below w.heap.size w w8 ∧ N ≤ w8.heap.size from by
                    refine ⟨((HLG7.out.below hba).grown_row hra hgrow).more (by omega), ⟨?_, ?_, ?_⟩, ?_, ?_⟩
                    · rw [List.length_append, List.length_append, HPR7.out.len]; rfl
                    · rw [List.length_append]; exact hown'
                    · intro j j1 j2
                      by_cases hjl : j < vals.length
                      · have hjr : j < ls.length := by rw [HPR7.out.len]; exact hjl
                        rw [List.getElem_append_left hjl]
                        have e2 : (ls ++ [M])[j] = ls[j] := List.getElem_append_left hjr
                        rw [e2]
                        exact HPR7.out.secs j hjl hjr
                      · have hjv : j = vals.length := by rw [List.length_append] at j1; simp at j1; omega
                        have e1 : (vals ++ [.slice B M.length cc])[j] = .slice B M.length cc := by subst hjv; simp
                        have e2 : (ls ++ [M])[j] = M := by
                          have : j = ls.length := by rw [HPR7.out.len]; exact hjv
                          subst this; simp
                        rw [e1, e2]
                        exact ⟨B, cc, rfl, hcap, HSE.out⟩
                    · have hx := HB7.out.alloc HB7.out.size (.cells #[.slice B M.length cc] 22)
                      exact ⟨hgrow.os.trans hx.os, hgrow.tape.trans hx.tape, hgrow.output.trans hx.output, Nat.le_trans hx.size hgrow.size, fun i hi => by
                        have h1 := hx.block i hi
                        have h2 := hgrow.block i (Nat.lt_of_lt_of_le hi hx.size) (fun e => by have := (own_lt hra e.symm).2; have := HNN.out; omega)
                        exact h2.trans h1⟩
                    · exact Nat.le_trans (Nat.le_trans hN7 hba.size) hgrow.size)
                  clear hown' hgrow hat hba hra q07
                  go_wp2
                  go_roundw
                  case rel => exact ⟨k + 1, ls ++ [M], vals ++ [.slice B M.length cc], _, p7, by omega, by go_num, by rw [List.length_append]; go_num, by rw [total_snoc]; go_num, HFIN.out.1, HHO7.out, by rw [total_snoc]; exact hfit, by rw [List.length_append]; simp only [List.length_singleton]; omega, HFIN.out.2.1, HFIN.out.2.2.1, HFIN.out.2.2.2⟩
                  case measure => simp [intOf]; omega
                · have hng : (many : Int) - total ls < (M.length : Int) + 1 := by omega
                  go_wp2
                  go_roundw
                  case rel => exact ⟨k + 1, ls, vals, L, p2, by omega, by go_num, rfl, rfl, HLG6.out.more (by omega), HHO.out, htot, by omega, HPR6.out, HB6.out, hN6⟩
                  case measure => simp [intOf]; omega
              · have heb : (X.2 != 0) = true := by rw [bne_iff_ne]; exact he
                go_wp2
                go_roundw
                case rel => exact ⟨k + 1, ls, vals, L, p2, by omega, by go_num, rfl, rfl, HLG6.out.more (by omega), HHO.out, htot, by omega, HPR6.out, HB6.out, hN6⟩
                case measure => simp [intOf]; omega
          · obtain rfl : k = l.length := by omega
            go_wp2_with fail
            refine (law12_told _ N r p2 many L _ at_ seq HLG.out (by omega) (by omega) hat ⟨by omega, by omega⟩).mono ?_
            rintro e w5 ⟨v, rs, vs, a', s', u', rfl, hsc, hd5, htold⟩
            have HPR5 := Lib.hid (HPR.out.log HLG.out hd5)
            have HB5 := Lib.hid (HBQ.out.trans ((hd5.to_below HLG.out hNq).mono HNN.out))
            obtain ⟨hlen, hall⟩ := Scans.told (u := 0) HLG.out.len (by omega) HLG.out.size (by rw [Nat.add_zero, Nat.mod_eq_of_lt hat]; exact hsc) HHO.out (by omega)
            obtain ⟨GA, gc, rfl, hgm, hgf⟩ := htold.form
            obtain ⟨PA, pc, hput18, hpf⟩ := HPR5.out.form
            subst hput18
            have HALL := Lib.hid hall
            have HGF := Lib.hid hgf
            have HPF := Lib.hid hpf
            have hnl : ¬ rs.length < ls.length := by omega
            have hnl2 : ¬ (rs.length : Int) < ls.length := by omega
            clear hall hgf hpf hsc hd5 htold
            go_wp2
            go_loopw [25] (fun i wz => ∃ j : Nat, j ≤ ls.length ∧ i = .int .i64 j ∧ Below w5.heap.size w5 wz) (fun i _ => ls.length - (intOf i).toNat)
            case atStart => exact ⟨0, by omega, rfl, Below.refl _ _⟩
            case round =>
              obtain ⟨j, hj, rfl, hbz⟩ := hrel
              have HBZ := Lib.hid hbz
              have HBZ2 := Lib.hid (below_trans HB5.out hbz)
              clear hbz
              by_cases hlt2 : j < ls.length
              · have hjr : j < rs.length := by omega
                obtain ⟨e1, e2⟩ := HALL.out j hlt2 hjr
                obtain ⟨g, VB, vc, rfl, x0, x2, hs1⟩ := HGF.out j hjr
                obtain ⟨g2, B, c3, rfl, y0, _, hs2⟩ := HPF.out j hlt2
                rw [e1] at x0
                rw [e2] at x2 hs1
                obtain ⟨M, hM⟩ : ∃ M, ls[j] = M := ⟨_, rfl⟩
                rw [hM] at x2 hs1 hs2 y0
                have z0 := cell_below HBZ.out x0
                have z2 := cell_below HBZ.out x2
                have z3 := cell_below HBZ.out y0
                have HZ0 := Lib.hid x0
                have HZ2 := Lib.hid x2
                have HZ3 := Lib.hid y0
                have HSA := Lib.hid (Kd.C_below hs1 HBZ.out)
                have HSB := Lib.hid (Kd.C_below hs2 HBZ2.out)
                have hws : IntKind.i64.wrap ((seq : Int) + j) = (seq : Int) + j := IntWalk.i64_in _ ⟨by omega, by omega⟩
                have hpl := HPR5.out.row
                clear x0 x2 y0 hs1 hs2 e1 e2 hM hpl
                go_wp2
                go_region_held3 (fun W => W.cell? ⟨g, j * 3, none⟩ = some (.int .i64 ((seq : Int) + j)) ∧ W.cell? ⟨g, j * 3 + 2, none⟩ = some (.slice VB M.length vc) ∧ W.cell? ⟨g2, j, none⟩ = some (.slice B M.length c3)) (first | exact ⟨z0, z2, z3⟩ | exact HS3.out) (first
                  | (go_at_call 17; refine (law9_same VB B vc c3 M _ ?_ ?_).mono ?_; (exact Kd.C_below HSA.out (below_drew _)); (exact Kd.C_below HSB.out (below_drew _)); rintro e w6 ⟨rfl, hb6⟩; have HB6 := Lib.hid (below_trans HBZ.out (below_trans (below_drew _) hb6)); have HS3 := Lib.hid (And.intro (cell_below HB6.out HZ0.out) (And.intro (cell_below HB6.out HZ2.out) (cell_below HB6.out HZ3.out))); clear hb6))
                all_goals
                  go_wp2
                  go_roundw
                  case rel => exact ⟨j + 1, by omega, by go_num, HB6.out⟩
                  case measure => simp [intOf]; omega
              · obtain rfl : j = ls.length := by omega
                go_wp2
                go_ret
                exact ⟨rfl, HBZ2.out⟩
end Go.Proofs.Ytgdkchjicggdlaa
