/- History: the known case 'two', and the law HistoryRight: the program's Right is the reference's. -/
import Derived.Test.YtdilnfnakhhhaaaHist3
import Derived.Test.YtdilnfnakhhhaaaHist6
namespace Go.Proofs.Ytdilnfnakhhhaaa
open Go.RowKit

def evs2 : List Ev := [⟨0, 1, 4, 2, 0, 0, none, 0, 0, none, 0, 0⟩, ⟨1, 2, 0, 1, 0, 0, none, 0, 0, none, 0, 0⟩]
def cls2 : List Cl := [⟨0, 0, 0, 0, 0, 0⟩, ⟨1, 0, 0, 0, 0, 0⟩]

theorem evs2_sl {w : World} {g : Nat} {t : TypeId} (hb : w.heap[g]? = some (.cells #[.int .i64 0, .int .i64 1, .int .i64 4, .int .i64 2, .int .i64 0, .int .u64 0, .slice none 0 0, .slice none 0 0, .int .i64 1, .int .i64 2, .int .i64 0, .int .i64 1, .int .i64 0, .int .u64 0, .slice none 0 0, .slice none 0 0] t (0, 0))) :
    SlEv w (.slice (some ⟨g, 0, none⟩) 2 2) evs2 := by
  refine Sl.of_block (xs := evs2) hb (Nat.le_refl 2) (by decide) ?_
  intro k x hx j u hu
  rcases k with _ | _ | k
  · cases hx; rcases j with _ | _ | _ | _ | _ | _ | _ | _ | j <;> first | exact hu | cases hu
  · cases hx; rcases j with _ | _ | _ | _ | _ | _ | _ | _ | j <;> first | exact hu | cases hu
  · cases hx
theorem cls2_sl {w : World} {g : Nat} {t : TypeId} (hb : w.heap[g]? = some (.cells #[.int .i64 0, .int .i64 0, .int .i64 0, .int .u64 0, .int .u64 0, .int .u64 0, .int .i64 1, .int .i64 0, .int .i64 0, .int .u64 0, .int .u64 0, .int .u64 0] t (0, 0))) :
    SlCl w (.slice (some ⟨g, 0, none⟩) 2 2) cls2 := by
  refine Sl.of_block (xs := cls2) hb (Nat.le_refl 2) (by decide) ?_
  intro k x hx j u hu
  rcases k with _ | _ | k
  · cases hx; rcases j with _ | _ | _ | _ | _ | _ | j <;> first | exact hu | cases hu
  · cases hx; rcases j with _ | _ | _ | _ | _ | _ | j <;> first | exact hu | cases hu
  · cases hx
theorem evs2_wf : ∀ e ∈ evs2, EvWf e := by
  intro e he
  simp only [evs2, List.mem_cons, List.not_mem_nil, or_false] at he
  rcases he with rfl | rfl <;> exact ⟨by decide, by decide, by decide, by decide⟩

theorem k1 : Hid (rightB 2 cls2 evs2 4 = true) := by show _ = _; decide
theorem k2 : Hid (rightB 2 cls2 evs2 3 = false) := by show _ = _; decide
theorem k3 : Hid (aheadB evs2 0 1 = false) := by show _ = _; decide
theorem k4 : Hid (widthTo evs2 evs2.length = 2) := by show _ = _; decide
theorem k5 : Hid (ixTo evs2 pendB evs2.length = [1]) := by show _ = _; decide
theorem k6 : Hid (ixTo evs2 (ofB cls2 0) evs2.length = [0]) := by show _ = _; decide

set_option maxRecDepth 100000 in
set_option maxHeartbeats 1000000 in
theorem two_any (w : World) : Calls Try.prog 12 #[] w fun e w' => e = .returned (.bool true) ∧ Below w.heap.size w w' := by
  go_enter Try.func12, Try.ntmps12
  go_wp2_with fail
  generalize hW : World.alloc (World.alloc _ _) _ = W
  have hE : SlEv W (.slice (some ⟨w.heap.size, 0, none⟩) 2 2) evs2 := by
    rw [← hW]; exact evs2_sl ((Below.heap_alloc _ _ _ (by simp)).trans (heap_alloc_new w _))
  have hC : SlCl W (.slice (some ⟨w.heap.size + 1, 0, none⟩) 2 2) cls2 := by
    rw [← hW]; refine cls2_sl (t := 39) ?_; have := heap_alloc_new (w.alloc (.cells #[.int .i64 0, .int .i64 1, .int .i64 4, .int .i64 2, .int .i64 0, .int .u64 0, .slice none 0 0, .slice none 0 0, .int .i64 1, .int .i64 2, .int .i64 0, .int .i64 1, .int .i64 0, .int .u64 0, .slice none 0 0, .slice none 0 0] 37)) (.cells #[.int .i64 0, .int .i64 0, .int .i64 0, .int .u64 0, .int .u64 0, .int .u64 0, .int .i64 1, .int .i64 0, .int .i64 0, .int .u64 0, .int .u64 0, .int .u64 0] 39); rw [World.size_alloc] at this; exact this
  have hB : Below w.heap.size w W := by rw [← hW]; (repeat' (first | exact Below.refl _ _ | assumption | refine Below.drew ?_ | refine below_drewN ?_ _ | refine Below.alloc ?_ (by simp <;> omega) _ | refine Below.setCell ?_ (by simp <;> omega) _))
  clear hW
  have P := pending_any _ evs2 W hE (by decide)
  rw [k5.out] at P
  refine P.mono ?_
  clear P
  rintro e w1 ⟨v, rfl, hown, hb1⟩
  obtain ⟨g, cap, rfl⟩ := ownsRow_succ hown
  have hc1 := hown.cellAt 0 (by decide)
  have hg := (hown.lt g rfl)
  have hE1 := hE.below hb1 (Nat.le_refl _)
  have hC1 := hC.below hb1 (Nat.le_refl _)
  have hB1 := hB.trans (hb1.mono hB.size)
  clear hb1 hB hE hC hown
  go_wp2_with fail
  have P := right_any 2 4 _ _ cls2 evs2 w1 hC1 hE1 evs2_wf
  rw [k1.out] at P
  refine P.mono ?_
  clear P
  rintro e w2 ⟨rfl, hb2⟩
  have hE2 := hE1.below hb2 (Nat.le_refl _)
  have hC2 := hC1.below hb2 (Nat.le_refl _)
  have hB2 := hB1.trans (hb2.mono hB1.size)
  have hc2 := (hb2.cell (p := ⟨g, 0, none⟩) hg.2).trans hc1
  have hg2 := Nat.lt_of_lt_of_le hg.2 hb2.size
  clear hb2 hB1 hE1 hC1 hc1
  go_wp2_with fail
  have P := right_any 2 3 _ _ cls2 evs2 w2 hC2 hE2 evs2_wf
  rw [k2.out] at P
  refine P.mono ?_
  clear P
  rintro e w3 ⟨rfl, hb3⟩
  have hE3 := hE2.below hb3 (Nat.le_refl _)
  have hC3 := hC2.below hb3 (Nat.le_refl _)
  have hB3 := hB2.trans (hb3.mono hB2.size)
  have hc3 := (hb3.cell (p := ⟨g, 0, none⟩) hg2).trans hc2
  have hg3 := Nat.lt_of_lt_of_le hg2 hb3.size
  clear hb3 hB2 hE2 hC2 hc2
  go_wp2_with fail
  have P := ahead_any _ evs2 0 1 w3 hE3
  rw [k3.out] at P
  refine P.mono ?_
  clear P
  rintro e w4 ⟨rfl, n4, rfl⟩
  go_wp2_with fail
  have P := width_any _ evs2 (w3.drewN n4) (hE3.drewN n4) (by decide)
  rw [k4.out] at P
  refine P.mono ?_
  clear P
  rintro e w5 ⟨rfl, hb5⟩
  have hE5 := (hE3.drewN n4).below hb5 (Nat.le_refl _)
  have hC5 := (hC3.drewN n4).below hb5 (Nat.le_refl _)
  have hB5 := (below_drewN hB3 n4).trans (hb5.mono hB3.size)
  have hc5 := (hb5.cell (p := ⟨g, 0, none⟩) hg3).trans hc3
  clear hb5 hB3 hE3 hC3 hc3
  go_wp2_with fail
  have P := of_any _ _ cls2 evs2 0 w5 hC5 hE5 (by decide)
  rw [k6.out] at P
  refine P.mono ?_
  clear P
  rintro e w6 ⟨v, rfl, hown, hb6⟩
  obtain ⟨g', cap', rfl⟩ := ownsRow_succ hown
  have hB6 := hB5.trans (hb6.mono hB5.size)
  clear hb6 hB5 hE5 hC5 hown
  go_wp2
  go_ret
  exact ⟨rfl, hB6⟩
end Go.Proofs.Ytdilnfnakhhhaaa
