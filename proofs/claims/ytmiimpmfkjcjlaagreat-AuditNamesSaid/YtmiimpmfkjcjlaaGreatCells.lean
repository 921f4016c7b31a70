/- The cells of a small block. -/
import Derived.Test.YtmiimpmfkjcjlaaGreatBase
namespace Go.Proofs.YtmiimpmfkjcjlaaGreat
open Go.RowKit

theorem cells3 {w : World} {g : Nat} {x y z : Value} {t : TypeId} (h : w.heap[g]? = some (.cells #[x, y, z] t (0, 0))) :
    w.cell? ⟨g, 0, none⟩ = some x ∧ w.cell? ⟨g, 1, none⟩ = some y ∧ w.cell? ⟨g, 2, none⟩ = some z ∧ w.frozen? ⟨g, 0, none⟩ = false ∧ w.frozen? ⟨g, 1, none⟩ = false ∧ w.frozen? ⟨g, 2, none⟩ = false ∧ g < w.heap.size :=
  ⟨cell_of_row w g 0 _ t _ h, cell_of_row w g 1 _ t _ h, cell_of_row w g 2 _ t _ h, frozen_of_row w g 0 _ t h, frozen_of_row w g 1 _ t h, frozen_of_row w g 2 _ t h, (Array.getElem?_eq_some_iff.1 h).1⟩
theorem cells4 {w : World} {g : Nat} {x y z u : Value} {t : TypeId} (h : w.heap[g]? = some (.cells #[x, y, z, u] t (0, 0))) :
    w.cell? ⟨g, 0, none⟩ = some x ∧ w.cell? ⟨g, 1, none⟩ = some y ∧ w.cell? ⟨g, 2, none⟩ = some z ∧ w.cell? ⟨g, 3, none⟩ = some u ∧ g < w.heap.size :=
  ⟨cell_of_row w g 0 _ t _ h, cell_of_row w g 1 _ t _ h, cell_of_row w g 2 _ t _ h, cell_of_row w g 3 _ t _ h, (Array.getElem?_eq_some_iff.1 h).1⟩
theorem new_one (w : World) (x : Value) (t : TypeId) : ∀ (j : Nat) (u : Value), [x][j]? = some u → (w.alloc (.cells #[x] t)).cell? ((⟨w.heap.size, 0, none⟩ : Addr).add j) = some u := by
  intro j u hu
  rcases j with _ | j
  · cases hu
    go_simp
  · cases hu

/-- The sum of the first k numbers. -/
def psum (xs : List Int) (k : Nat) : Int := (xs.take k).sum
theorem psum_zero (xs : List Int) : psum xs 0 = 0 := by simp [psum]
theorem psum_succ {xs : List Int} {k : Nat} {x : Int} (h : xs[k]? = some x) : psum xs (k + 1) = psum xs k + x := by
  unfold psum
  rw [List.take_add_one, h]
  simp [List.sum_append]
theorem psum_mono {xs : List Int} (hx : ∀ x ∈ xs, 0 ≤ x) {j k : Nat} (h : j ≤ k) : psum xs j ≤ psum xs k := by
  induction k with
  | zero => obtain rfl : j = 0 := by omega
            exact Int.le_refl _
  | succ k ih =>
    rcases Nat.lt_or_ge k j with h' | h'
    · obtain rfl : j = k + 1 := by omega
      exact Int.le_refl _
    · have := ih h'
      rcases hk : xs[k]? with _ | x
      · have e : psum xs (k + 1) = psum xs k := by
          unfold psum
          rw [List.take_add_one, hk]
          simp
        omega
      · rw [psum_succ hk]
        have := hx x (List.mem_of_getElem? hk)
        omega
theorem psum_nonneg {xs : List Int} (hx : ∀ x ∈ xs, 0 ≤ x) (k : Nat) : 0 ≤ psum xs k := by
  have := psum_mono hx (Nat.zero_le k)
  rwa [psum_zero] at this
theorem psum_all (xs : List Int) : psum xs xs.length = xs.sum := by unfold psum; rw [List.take_length]
def begins (xs : List Int) (k : Nat) : List Int := (List.range k).map (psum xs)
theorem begins_succ (xs : List Int) (k : Nat) : begins xs (k + 1) = begins xs k ++ [psum xs k] := by unfold begins; rw [List.range_succ, List.map_append]; rfl
theorem begins_length (xs : List Int) (k : Nat) : (begins xs k).length = k := by simp [begins]
end Go.Proofs.YtmiimpmfkjcjlaaGreat
