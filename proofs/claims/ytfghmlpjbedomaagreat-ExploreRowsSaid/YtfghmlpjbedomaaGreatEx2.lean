/- Rows of picks (law 35): explore.Nth walked. -/
import Derived.Test.YtfghmlpjbedomaaGreatBun1
import Derived.Test.YtfghmlpjbedomaaGreatBun2
import Derived.Test.YtfghmlpjbedomaaGreatBun3
import Derived.Deep.OwnRows
import Derived.Test.YtfghmlpjbedomaaGreatBun4
namespace Go.Proofs.YtfghmlpjbedomaaGreat
open Go.RowKit

def nthL (n L i j : Nat) : List Int := List.replicate (L - j) 0 ++ rowD n j i
theorem nthL_step {n L i j : Nat} (h : j < L) : (nthL n L i j).set (L - 1 - j) ((i / n ^ j % n : Nat) : Int) = nthL n L i (j + 1) := by
  unfold nthL
  rw [rowD_cons]
  obtain ⟨m, rfl⟩ : ∃ m, L = j + 1 + m := ⟨L - j - 1, by omega⟩
  rw [show j + 1 + m - j = m + 1 by omega, show j + 1 + m - (j + 1) = m by omega, show j + 1 + m - 1 - j = m by omega, List.replicate_succ', List.append_assoc, List.set_append_right _ _ (by simp)]
  simp
theorem nthL_len {n L i j : Nat} (h : j ≤ L) : (nthL n L i j).length = L := by
  unfold nthL
  rw [List.length_append, List.length_replicate, rowD_len]
  omega
def intCells (l : List Int) : Obj := .cells (l.map (Value.int .i64)).toArray 3
set_option maxRecDepth 100000 in
set_option maxHeartbeats 1000000 in
theorem nthBad {n L i : Int} (w : World) (h : ¬ (1 ≤ n ∧ n ≤ 16 ∧ 0 ≤ L ∧ L ≤ 12 ∧ 0 ≤ i)) : Calls Tryz.prog 7 #[.int .i64 n, .int .i64 L, .int .i64 i] w fun e w' => e = .returned (.slice none 0 0) ∧ w' = w := by
  have key : decide (n < 1) = true ∨ (decide (n < 1) = false ∧ decide (16 < n) = true) ∨ (decide (n < 1) = false ∧ decide (16 < n) = false ∧ decide (L < 0) = true) ∨ (decide (n < 1) = false ∧ decide (16 < n) = false ∧ decide (L < 0) = false ∧ decide (12 < L) = true) ∨ (decide (n < 1) = false ∧ decide (16 < n) = false ∧ decide (L < 0) = false ∧ decide (12 < L) = false ∧ decide (i < 0) = true) := by
    simp only [decide_eq_true_eq, decide_eq_false_iff_not]
    omega
  clear h
  rcases key with d1 | ⟨d1, d2⟩ | ⟨d1, d2, d3⟩ | ⟨d1, d2, d3, d4⟩ | ⟨d1, d2, d3, d4, d5⟩
  all_goals
    go_enter Tryz.func7, Tryz.ntmps7
    go_wp2
    go_ret
    exact ⟨rfl, rfl⟩
set_option maxRecDepth 100000 in
set_option maxHeartbeats 2000000 in
theorem nthW {n L i : Nat} (w : World) (hn : 1 ≤ n ∧ n ≤ 16) (hL : L ≤ 12) (hi : i ≤ 9223372036854775807) : Calls Tryz.prog 7 #[.int .i64 (n : Int), .int .i64 (L : Int), .int .i64 (i : Int)] w fun e w' => Below w.heap.size w w' ∧
    ((i / n ^ L = 0 ∧ e = .returned (.slice (some ⟨w.heap.size, 0, none⟩) L L) ∧ w'.heap[w.heap.size]? = some (.cells ((rowD n L i).map (Value.int .i64)).toArray 3 (0, 0))) ∨ (i / n ^ L ≠ 0 ∧ e = .returned (.slice none 0 0))) := by
  have d1 : decide ((n : Int) < 1) = false := by rw [decide_eq_false_iff_not]; omega
  have d2 : decide ((16 : Int) < n) = false := by rw [decide_eq_false_iff_not]; omega
  have d3 : decide ((L : Int) < 0) = false := by rw [decide_eq_false_iff_not]; omega
  have d4 : decide ((12 : Int) < L) = false := by rw [decide_eq_false_iff_not]; omega
  have d5 : decide ((i : Int) < 0) = false := by rw [decide_eq_false_iff_not]; omega
  have hmk : ∀ W, (Instr.makeSlice 22 (.int .i64 (L : Int)) (.int .i64 (L : Int))).run Tryz.prog W = .ok (.slice (some ⟨W.heap.size, 0, none⟩) L L) (W.alloc (.cells ((nthL n L i 0).map (Value.int .i64)).toArray 3)) := by
    intro W
    have := run_make_row' (P := Tryz.prog) 22 3 (.int .i64 0) 8 Tryz.underlying22 info_int rfl .i64 .i64 L (by omega) (by omega) W
    rw [this]
    have e1 : madeCells #[Value.int .i64 0] L = ((nthL n L i 0).map (Value.int .i64)).toArray := by
      apply Array.ext'
      rw [toList_madeCells_one]
      unfold nthL rowD
      simp
    rw [e1]
  have k1 : IntKind.i64.wrap ((L : Int) - 1) = (L : Int) - 1 := wrap_i64 (by omega) (by omega)
  have hnz : ¬ (n : Int) = 0 := by omega
  obtain ⟨D, hD⟩ : ∃ D : Prop, D = (i / n ^ L = 0) := ⟨_, rfl⟩
  have HD := hide hD
  unfold Ne
  rw [← hD]
  have HNN := hide hn
  have HI := hide hi
  have HLL := hide hL
  clear hn hi hD
  go_enter Tryz.func7, Tryz.ntmps7
  go_wp2
  go_loopw [8, 2] (fun k x wr => ∃ j : Nat, j ≤ L ∧ k = .int .i64 ((L : Int) - 1 - (j : Int)) ∧ x = .int .i64 ((i / n ^ j : Nat) : Int) ∧ Hid (Below w.heap.size w wr) ∧ Hid (wr.heap[w.heap.size]? = some (.cells ((nthL n L i j).map (Value.int .i64)).toArray 3 (0, 0)))) (fun k _ _ => (intOf k + 1).toNat)
  case atStart => exact ⟨0, Nat.zero_le _, by simp, by simp, hide ((Below.refl _ w).alloc (Nat.le_refl _) _), hide (heap_alloc_new w _)⟩
  case round =>
    obtain ⟨j, hj, rfl, rfl, hB, hR⟩ := hrel
    by_cases hlt : j < L
    · have hge : decide ((0 : Int) ≤ (L : Int) - 1 - (j : Int)) = true := by rw [decide_eq_true_iff]; omega
      obtain ⟨x, hx⟩ : ∃ x : Nat, i / n ^ j = x := ⟨_, rfl⟩
      have hxb : x ≤ 9223372036854775807 := by rw [← hx]; exact Nat.le_trans (Nat.div_le_self _ _) HI.out
      have hx1 := pow_step n i j
      rw [hx] at hx1
      obtain ⟨K, hK⟩ : ∃ K : Nat, (L : Int) - 1 - (j : Int) = (K : Int) := ⟨L - 1 - j, by omega⟩
      have hKN : K = L - 1 - j := by omega
      have hKL : K < L := by omega
      have hKi : (K : Int) < (L : Int) := by omega
      have hLi : (L : Int) ≤ 12 := by have := HLL.out; omega
      obtain ⟨v0, hv0⟩ : ∃ v0, (((nthL n L i j).map (Value.int .i64)).toArray)[K]? = some v0 := by
        refine ⟨_, Array.getElem?_eq_getElem ?_⟩
        simp only [List.size_toArray, List.length_map, nthL_len hj]
        exact hKL
      have c0 : wr.cell? ⟨w.heap.size, K, none⟩ = some v0 := (cell_of_row wr _ K _ _ _ hR.out).trans hv0
      have f0 := frozen_of_row wr w.heap.size K _ _ hR.out
      have hz := (Array.getElem?_eq_some_iff.1 hR.out).1
      have e1 : Int.tmod (x : Int) (n : Int) = ((x % n : Nat) : Int) := by rw [Int.tmod_eq_emod_of_nonneg (by omega)]; push_cast; rfl
      obtain ⟨y, hy⟩ : ∃ y : Nat, x / n = y := ⟨_, rfl⟩
      obtain ⟨z, hz0⟩ : ∃ z : Nat, x % n = z := ⟨_, rfl⟩
      have hm : z ≤ x := by rw [← hz0]; exact Nat.mod_le _ _
      have hdv : y ≤ x := by rw [← hy]; exact Nat.div_le_self _ _
      have e2 : Int.tdiv (x : Int) (n : Int) = (y : Int) := by rw [Int.tdiv_eq_ediv_of_nonneg (by omega), ← hy]; push_cast; rfl
      have e3 : (x : Int) / (n : Int) = (y : Int) := by rw [← hy]; push_cast; rfl
      have e4 : (x : Int) % (n : Int) = (z : Int) := by rw [← hz0]; push_cast; rfl
      rw [hz0] at e1
      have k2 : IntKind.i64.wrap (z : Int) = (z : Int) := wrap_i64 (by omega) (by omega)
      have k3 : IntKind.i64.wrap (y : Int) = (y : Int) := wrap_i64 (by omega) (by omega)
      have HY := hide hy
      have HZ := hide hz0
      clear hy hz0
      have k4 : IntKind.i64.wrap ((K : Int) - 1) = (K : Int) - 1 := wrap_i64 (by omega) (by omega)
      have hk0 : decide ((0 : Int) ≤ (K : Int)) = true := by rw [decide_eq_true_iff]; omega
      rw [hK, hx]
      have HST := hide (nthL_step (n := n) (i := i) hlt)
      have HX := hide hx
      have HX1 := hide hx1
      have HKN := hide hKN
      have HK := hide hK
      clear hge hx hx1 hKN hK hxb hm hdv hv0 hLi
      go_wp2
      go_roundw
      case rel =>
        refine ⟨j + 1, by omega, ?_, ?_, hide (Below.setCell hB.out (Nat.le_refl _) _), hide ((cells_set hR.out).trans ?_)⟩
        · rw [show (K : Int) - 1 = (L : Int) - 1 - ((j + 1 : Nat) : Int) from by have := HK.out; push_cast; omega]
        · rw [HX1.out, HY.out]
        · have e := HST.out
          rw [HX.out, ← HKN.out, HZ.out] at e
          rw [← e, List.setIfInBounds_toArray, List.map_set]
      case measure => first | (simp [intOf]; done) | (simp [intOf]; omega)
    · obtain rfl : j = L := by omega
      have hge : decide ((0 : Int) ≤ (j : Int) - 1 - (j : Int)) = false := by rw [decide_eq_false_iff_not]; omega
      have hge' : ¬ (0 : Int) ≤ (j : Int) - 1 - (j : Int) := by omega
      obtain ⟨x, hx⟩ : ∃ x : Nat, i / n ^ j = x := ⟨_, rfl⟩
      have hR' := hR.out
      have e0 : nthL n j i j = rowD n j i := by
        unfold nthL
        rw [Nat.sub_self]
        rfl
      rw [e0] at hR'
      have HR := hide hR'
      have HX := hide hx
      rw [hx]
      clear hx hR hR' hmk e0
      by_cases h0 : x = 0
      · subst h0
        go_wp2
        go_ret
        exact ⟨hB.out, Or.inl ⟨by rw [HD.out]; exact HX.out, rfl, HR.out⟩⟩
      · have hp : decide (0 < x) = true := by rw [decide_eq_true_iff]; omega
        have hp' : decide ((0 : Int) < (x : Int)) = true := by rw [decide_eq_true_iff]; omega
        go_wp2
        go_ret
        exact ⟨hB.out, Or.inr ⟨by rw [HD.out, HX.out]; exact h0, rfl⟩⟩
end Go.Proofs.YtfghmlpjbedomaaGreat
