/- A new disk. -/
import Derived.Test.YtgdkchjicggdlaaDsn
import Derived.Test.YtgdkchjicggdlaaLrw
import Derived.WideMake
namespace Go.Proofs.Ytgdkchjicggdlaa
open Go.RowKit Go.Proofs.YtgdkchjicggdlaaW.PrintWords

theorem blk_new {w : World} {cs : Array Value} {t : TypeId} {n : Nat} (hn : n = w.heap.size) : Blk (w.alloc (.cells cs t)) n cs t := by subst hn; exact Blk.alloc _ _ _

def zero64 : ByteArray := mkS (List.replicate 64 0)
/-- A disk of so many sectors, as it was made. -/
def Dk.fresh (n : Nat) : Dk := ⟨List.replicate n zero64, [], 0, [], 0, [], 0, false⟩

set_option maxRecDepth 100000 in
set_option maxHeartbeats 1000000 in
theorem dk_new (n : Nat) (w : World) (base : Nat) (h1 : 1 ≤ n) (hn : n ≤ 1000) (hbase : base ≤ w.heap.size) :
    Calls Try.prog 43 #[.int .i64 n] w fun e w' => ∃ p, e = .returned (.pointer (some ⟨p.d, 0, none⟩)) ∧ DiskAt w' base p (Dk.fresh n) ∧ (∀ i, p.foot i → w.heap.size ≤ i) ∧ Below w.heap.size w w' := by
  have HZ := Lib.hid (show (⟨(Lib.repeatL (⟨#[0]⟩ : ByteArray).data.toList 64).toArray⟩ : ByteArray) = zero64 from by rw [repeat_nul]; rfl)
  have HMN := Lib.hid (show min (n : Int) 1000 = n from by omega)
  have hmm := fun w => run_makeMap_plain (P := Try.prog) w 109
  go_enter Try.func43, Try.ntmps43
  go_wp2_with ((go_at_call 58; refine (Try.strings_Repeat _ 64 _ (by omega) (by show 1 * 64 ≤ _; omega)).mono ?_; rintro e w1 ⟨rfl, hb1⟩; rw [HZ.out]; have HB1 := Lib.hid hb1; clear hb1))
  rw [HMN.out]
  refine (sl_repeat w1.heap.size zero64 n _ h1 hn (Blk.cell (Blk.alloc w1 _ _) rfl)).mono ?_
  rintro e w2 ⟨g, rfl, hg, hblk, hb2⟩
  have HB2 := Lib.hid (show Below w.heap.size w w2 from (HB1.out.alloc HB1.out.size _).trans (hb2.mono (by have := HB1.out.size; simp; omega)))
  have HG := Lib.hid hblk
  have HGS := Lib.hid (show w.heap.size ≤ g from by have := HB1.out.size; simp at hg; omega)
  clear hb2 hblk hg
  go_wp2
  have hbel := ((Below.refl w2.heap.size w2).alloc (Nat.le_refl _) (.map #[] 0)).alloc (by simp) (.cells #[.slice (some ⟨g, 0, none⟩) n n, .map (some w2.heap.size), .slice none 0 0, .int .i64 0, .slice none 0 0, .int .i64 0, .bool false] 112)
  have HF := Lib.hid (below_trans HB2.out hbel)
  have HSU := Lib.hid (HG.out.below hbel HG.out.lt)
  have HMP := Lib.hid (show ((w2.alloc (.map #[] 0)).alloc (.cells #[.slice (some ⟨g, 0, none⟩) n n, .map (some w2.heap.size), .slice none 0 0, .int .i64 0, .slice none 0 0, .int .i64 0, .bool false] 112)).heap[w2.heap.size]? = some (.map #[] 0) from by
    rw [((Below.refl (w2.alloc (.map #[] 0)).heap.size (w2.alloc (.map #[] 0))).alloc (Nat.le_refl _) _).block w2.heap.size (by simp)]
    exact heap_alloc_new w2 _)
  have HBX := Lib.hid (blk_new (w := w2.alloc (.map #[] 0)) (cs := #[.slice (some ⟨g, 0, none⟩) n n, .map (some w2.heap.size), .slice none 0 0, .int .i64 0, .slice none 0 0, .int .i64 0, .bool false]) (t := 112) (n := w2.heap.size + 1) (by simp))
  have hsz := HB2.out.size
  have HL := Lib.hid (show (Dk.fresh n).sure.length = n from List.length_replicate)
  go_ret
  refine ⟨⟨w2.heap.size + 1, g, w2.heap.size, .slice none 0 0, .slice none 0 0⟩, rfl, ⟨?_, ?_, by rw [HL.out]; exact hn, HMP.out, OwnSecs.nil _ _, World.ownsRow_nil _ _ _ _, ⟨by show base ≤ w2.heap.size + 1; omega, Nat.le_trans hbase HGS.out, by show base ≤ w2.heap.size; omega⟩, fun i v hv => by simp [Dk.fresh, mget] at hv, fun x hx => by simp [Dk.fresh] at hx⟩, ?_, HF.out⟩
  · rw [HL.out]; exact HBX.out
  · have e : (half zero64 n n).toArray = ((Dk.fresh n).sure.map Value.string).toArray := by
      unfold half Dk.fresh
      rw [List.map_replicate, Nat.sub_self, List.replicate_zero, List.append_nil]
    rw [← e]
    exact HSU.out
  · intro i hi
    rcases hi with h | h | h | h | h
    · rw [h]; show w.heap.size ≤ w2.heap.size + 1; omega
    · rw [h]; exact HGS.out
    · rw [h]; exact hsz
    · simp [Value.ownBlock] at h
    · simp [Value.ownBlock] at h
end Go.Proofs.Ytgdkchjicggdlaa
