/- The laws about ticks and cuts: many, and the case that is known (adds). -/
import Derived.Test.YtmiimpmfkjcjlaaCu12
import Derived.Test.YtmiimpmfkjcjlaaPl1
import Derived.RangeFuncBox
namespace Go.Proofs.Ytmiimpmfkjcjlaa
open Go.RowKit

def addsC : List Cl := [⟨0, 0, 0, 0, 0, 0⟩, ⟨1, 0, 0, 0, 0, 0⟩]
def addsE : List Ev := [⟨1, 1, 1, 1, 0, 0, none, 0, 0, none, 0, 0⟩, ⟨0, 2, 2, 1, 0, 0, none, 0, 0, none, 0, 0⟩]
abbrev addsW (w : World) : World := ((w.alloc (.cells #[.int .i64 0, .int .i64 0, .int .i64 0, .int .u64 0, .int .u64 0, .int .u64 0, .int .i64 1, .int .i64 0, .int .i64 0, .int .u64 0, .int .u64 0, .int .u64 0] 39)).alloc
  (.cells #[.int .i64 1, .int .i64 1, .int .i64 1, .int .i64 1, .int .i64 0, .int .u64 0, .slice none 0 0, .slice none 0 0, .int .i64 0, .int .i64 2, .int .i64 2, .int .i64 1, .int .i64 0, .int .u64 0, .slice none 0 0, .slice none 0 0] 44))
theorem adds_calls (w : World) : SlCl (addsW w) (.slice (some ⟨w.heap.size, 0, none⟩) 2 2) addsC := by
  have hb : (addsW w).heap[w.heap.size]? = some (.cells #[.int .i64 0, .int .i64 0, .int .i64 0, .int .u64 0, .int .u64 0, .int .u64 0, .int .i64 1, .int .i64 0, .int .i64 0, .int .u64 0, .int .u64 0, .int .u64 0] 39 (0, 0)) :=
    (heap_alloc_old _ _ (by simp)).trans (heap_alloc_new _ _)
  refine Sl.of_block (xs := addsC) hb (Nat.le_refl 2) (by unfold maxLen; omega) ?_
  intro k x hx j u hu
  rcases k with _ | _ | k <;> first | (cases hx; rcases j with _ | _ | _ | _ | _ | _ | j <;> first | exact hu | cases hu) | cases hx
theorem adds_events (w : World) : SlEv (addsW w) (.slice (some ⟨w.heap.size + 1, 0, none⟩) 2 2) addsE := by
  have hb : (addsW w).heap[w.heap.size + 1]? = some (.cells #[.int .i64 1, .int .i64 1, .int .i64 1, .int .i64 1, .int .i64 0, .int .u64 0, .slice none 0 0, .slice none 0 0, .int .i64 0, .int .i64 2, .int .i64 2, .int .i64 1, .int .i64 0, .int .u64 0, .slice none 0 0, .slice none 0 0] 44 (0, 0)) := by
    have := heap_alloc_new (w.alloc (.cells #[.int .i64 0, .int .i64 0, .int .i64 0, .int .u64 0, .int .u64 0, .int .u64 0, .int .i64 1, .int .i64 0, .int .i64 0, .int .u64 0, .int .u64 0, .int .u64 0] 39)) (.cells #[.int .i64 1, .int .i64 1, .int .i64 1, .int .i64 1, .int .i64 0, .int .u64 0, .slice none 0 0, .slice none 0 0, .int .i64 0, .int .i64 2, .int .i64 2, .int .i64 1, .int .i64 0, .int .u64 0, .slice none 0 0, .slice none 0 0] 44)
    simpa using this
  refine Sl.of_block (xs := addsE) hb (Nat.le_refl 2) (by unfold maxLen; omega) ?_
  intro k x hx j u hu
  rcases k with _ | _ | k <;> first | (cases hx; rcases j with _ | _ | _ | _ | _ | _ | _ | _ | j <;> first | exact hu | cases hu) | cases hx
theorem adds_picks (w : World) (g : Nat) (hg : g = w.heap.size) : SlI (w.alloc (.cells #[.int .i64 1, .int .i64 0, .int .i64 0] 3)) (.slice (some ⟨g, 0, none⟩) 3 3) [1, 0, 0] := by
  subst hg
  refine Sl.of_block (xs := [1, 0, 0]) (heap_alloc_new _ _) (Nat.le_refl 3) (by unfold maxLen; omega) ?_
  intro k x hx j u hu
  rcases k with _ | _ | _ | k <;> first | (cases hx; rcases j with _ | j <;> first | exact hu | cases hu) | cases hx
theorem adds_tk : (tickF addsC addsE [1, 0, 0]).2 = [⟨1, 1, true, true⟩, ⟨0, 0, true, true⟩] := by rfl
theorem adds_at : atL addsE 1 (cntT (tkS addsC addsE [1, 0, 0] 1)) = [⟨1, 1, 1, 1, 0, 0, none, 0, 0, none, 0, 0⟩] := by
  unfold tkS
  rw [adds_tk]
  rfl
theorem adds_err : wrongC 2 addsC [1, 0, 0] = 0 := by decide

set_option maxRecDepth 100000 in
set_option maxHeartbeats 4000000 in
theorem adds36 (w : World) : Calls Try.prog 6 #[] w fun e w' => e = .returned (.bool true) ∧ Below w.heap.size w w' := by
  have N0 := fun W (h : SlCl W _ _) he hp => cutTicks 2 (some ⟨w.heap.size, 0, none⟩) (some ⟨w.heap.size + 1, 0, none⟩) (some ⟨w.heap.size + 2, 0, none⟩) 2 2 2 2 3 3 addsC addsE [1, 0, 0] W h rfl he rfl hp rfl
  have N1 := fun g W (h : SlCl W _ _) he hp => cutAt 2 1 (some ⟨w.heap.size, 0, none⟩) (some ⟨w.heap.size + 1, 0, none⟩) (some ⟨g, 0, none⟩) 2 2 2 2 3 3 addsC addsE [1, 0, 0] W h rfl he rfl hp rfl (by decide)
  unfold TicksPost at N0
  unfold AtPost at N1
  simp only [adds_err, adds_tk] at N0
  simp only [adds_err, adds_at] at N1
  have HC := hide (adds_calls w)
  have HE := hide (adds_events w)
  go_enter Try.func6, Try.ntmps6
  go_wp2_with fail
  refine (N0 _ (HC.out.alloc _) (HE.out.alloc _) (adds_picks _ _ (by simp))).mono ?_
  rintro e w1 (⟨h, _⟩ | ⟨_, v, rfl, hown, hb⟩)
  · exact absurd rfl h
  · have hB : Below (addsW w).heap.size (addsW w) w1 := ((Below.refl _ _).alloc (Nat.le_refl _) _).trans (hb.mono (by simp))
    obtain ⟨g, cap, rfl⟩ := ownsRow_succ (k := 1) hown
    have g0 : w1.cell? ⟨g, 0, none⟩ = some (.int .i64 1) := hown.cellAt 0 (by decide)
    have g1 : w1.cell? ⟨g, 1, none⟩ = some (.int .i64 1) := hown.cellAt 1 (by decide)
    have g2 : w1.cell? ⟨g, 2, none⟩ = some (.bool true) := hown.cellAt 2 (by decide)
    have g3 : w1.cell? ⟨g, 3, none⟩ = some (.bool true) := hown.cellAt 3 (by decide)
    have g5 : w1.cell? ⟨g, 5, none⟩ = some (.int .i64 0) := hown.cellAt 5 (by decide)
    have hg := (hown.lt g rfl).2
    have HB := hide hB
    have hz1 : w.heap.size + 2 ≤ w1.heap.size := by have := hB.size; simp at this; omega
    clear hown hb hB
    go_wp2_with fail
    refine (N1 _ _ ((HC.out.below HB.out (Nat.le_refl _)).alloc _) ((HE.out.below HB.out (Nat.le_refl _)).alloc _) (adds_picks _ _ rfl)).mono ?_
    rintro e w2 (⟨h, _⟩ | ⟨_, v, rfl, hown, hb⟩)
    · exact absurd rfl h
    · obtain ⟨f, cf, rfl⟩ := ownsRow_succ (k := 0) hown
      have f0 : w2.cell? ⟨f, 0, none⟩ = some (.int .i64 1) := hown.cellAt 0 (by decide)
      have f3 : w2.cell? ⟨f, 3, none⟩ = some (.int .i64 1) := hown.cellAt 3 (by decide)
      have hf := (hown.lt f rfl).2
      have hB1 : Below w1.heap.size w1 w2 := ((Below.refl _ _).alloc (Nat.le_refl _) _).trans (hb.mono (by simp))
      have h0 := (hB1.cell (p := ⟨g, 0, none⟩) hg).trans g0
      have h1 := (hB1.cell (p := ⟨g, 1, none⟩) hg).trans g1
      have h2 := (hB1.cell (p := ⟨g, 2, none⟩) hg).trans g2
      have h3 := (hB1.cell (p := ⟨g, 3, none⟩) hg).trans g3
      have h5 := (hB1.cell (p := ⟨g, 5, none⟩) hg).trans g5
      have HBB : Hid (Below w.heap.size w w2) := hide ((((Below.refl _ w).alloc (Nat.le_refl _) _).alloc (by simp) _).trans ((HB.out.trans (hB1.mono (by simp; omega))).mono (by simp; omega)))
      clear hown hb hB1 g0 g1 g2 g3 g5 N0 N1
      go_wp2
      go_ret
      exact ⟨ret_bool (by simp), HBB.out⟩

set_option maxRecDepth 100000 in
set_option maxHeartbeats 2000000 in
theorem many36 (n : Int) (As A Ap Ae : Option Addr) (ms cS m c mp cp me ce : Nat) (w : World) (hs : ms ≤ maxLen) (hm : m ≤ maxLen) (hp : mp ≤ maxLen) (he : me ≤ maxLen) :
    Calls Try.prog 5 #[.agg #[.int .i64 n, .slice As ms cS, .slice A m c, .slice Ap mp cp], .slice Ae me ce] w fun e w' => e = .returned (.bool (largeB ms m mp || decide (100 < me))) ∧ Below w.heap.size w w' := by
  have he63 : (me : Int) ≤ 9223372036854775807 := by unfold maxLen at he; omega
  have N0 := fun W => large_any n As A Ap ms cS m c mp cp W hs hm hp
  generalize largeB ms m mp = R at *
  have d0 : decide ((100 : Int) < (me : Int)) = decide (100 < me) := by simp; omega
  generalize decide (100 < me) = D at *
  go_enter Try.func5, Try.ntmps5
  go_wp2_with fail
  refine (N0 _).mono ?_
  rintro e w1 ⟨rfl, hb⟩
  have HB : Hid (Below w.heap.size w w1) := hide (((Below.refl _ w).alloc (Nat.le_refl _) _).trans (hb.mono (by simp)))
  clear hb
  cases R
  all_goals
    go_wp2
    go_ret
    exact ⟨rfl, HB.out⟩
end Go.Proofs.Ytmiimpmfkjcjlaa
