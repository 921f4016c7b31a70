/- Copies of rows of words (slices.Clone), and stores of function values. -/
/- The cells of a small block. -/
import Derived.Test.YtfghmlpjbedomaaGreatBun1
import Derived.Test.YtfghmlpjbedomaaGreatBun2
import Derived.Test.YtfghmlpjbedomaaGreatProg
import Derived.Maps.AppendAt
import Derived.Lib.SliceRun
namespace Go.Proofs.YtfghmlpjbedomaaGreat
open Go.RowKit

theorem info_word : (Tryz.prog.info? 37).map (fun i => (i.zero, i.size, i.bytes)) = some (some (.int .u64 0), 1, 8) := by kernel_rfl

abbrev WRow (w : World) (B : Nat) (v : Value) (l : List Int) : Prop := w.ownsRow B 37 1 v l.length (l.map (Value.int .u64))

set_option maxRecDepth 100000 in
set_option maxHeartbeats 1000000 in
/-- A copy: the same words, in memory of the call's own. -/
theorem clone_any (v : Value) (xs : List Int) (w : World) (h : SlW w v xs) (hb : xs.length ≤ 1000000) :
    Calls Tryz.prog 26 #[v] w fun e w' => ∃ v', e = .returned v' ∧ WRow w' w.heap.size v' xs ∧ Below w.heap.size w w' := by
  obtain ⟨A, cap, rfl, h1, h2, h3⟩ := h
  obtain ⟨i0, hi, hz0, hz1, hz2⟩ := info_parts info_word
  have q32 : ∀ (w : World) (a : Option Addr) (n c n' c' : Nat), (binOp .eql 33 (.slice a n c) (.slice none n' c')).run Tryz.prog w = .ok (.bool a.isNone) w := fun w a n c n' c' => Lib.run_eql_slice_nil w _ _ a n c n' c' Tryz.underlying33
  rcases A with _ | a
  · have hx : xs = [] := by
      rcases xs with _ | ⟨x, xs⟩
      · rfl
      · obtain ⟨b, o, hA, _⟩ := h3 0 x rfl
        cases hA
    subst hx
    clear h3
    go_enter Tryz.func26, Tryz.ntmps26
    go_wp2
    go_ret
    exact ⟨_, rfl, World.ownsRow_nil _ _ _ _, by (repeat' (first | exact Below.refl _ _ | assumption | refine Below.drew ?_ | refine below_drewN ?_ _ | refine Below.alloc ?_ (by simp <;> omega) _ | refine Below.setCell ?_ (by simp <;> omega) _))⟩
  · have hnews : ∀ j u, (xs.map (Value.int .u64))[j]? = some u → (w.alloc (.cells #[] 37)).cell? (a.add j) = some u := by
      intro j u hu
      rw [List.getElem?_map] at hu
      rcases hx : xs[j]? with _ | x
      · rw [hx] at hu; cases hu
      · rw [hx] at hu
        obtain ⟨b, o, hA, hbw, hc⟩ := h3 j x hx
        cases hA
        cases hu
        have := nt_cell hc
        rw [Addr.add_lit]
        simp only [Nat.mul_one] at this
        exact Lib.cell?_alloc_some _ this
    clear h3
    go_enter Tryz.func26, Tryz.ntmps26
    go_wp2_with (first
      | (at_builtin; refine wpList_append_own_at _ rfl _ _ 33 rfl w.heap.size 37 i0 (.int .u64 0) 1 8 Tryz.underlying33 hi hz0 hz1 hz2 rfl (by decide) _ _ _ rfl (World.ownsRow_made w #[] 0 (Nat.le_refl _) (Nat.zero_le _) rfl) a xs.length cap (xs.map (Value.int .u64)) rfl (by simp) hnews (ints_oneCell .u64 xs) (by unfold maxLen; omega) (by omega) (by simp) ?_; intro v' w5 hown' hgrow hnil hloc)
      | go_in)
    go_ret
    exact ⟨_, rfl, by simpa using hown', ((Below.refl _ w).alloc (Nat.le_refl _) _).grown hgrow (by simp) (by intro k hk; cases hk; exact Nat.le_refl _)⟩

/-- A row of words that the call owns reads as a list. -/
theorem wrow_sl {w : World} {B : Nat} {v : Value} {l : List Int} (h : WRow w B v l) (hm : l.length ≤ maxLen) : SlW w v l := sl_of_owns h hm

theorem run_store_fn {P : Program} {w : World} {a : Addr} {m : Mode} (g : Fn) (p q : Array Value) : (store a (.func g p q) m).run P w = stored P w a (.func g p q) m := run_store P w a _ m rfl
theorem run_store_nilfn {P : Program} {w : World} {a : Addr} {m : Mode} : (store a .nilFunc m).run P w = stored P w a .nilFunc m := run_store P w a _ m rfl
end Go.Proofs.YtfghmlpjbedomaaGreat

namespace Go.Proofs.YtfghmlpjbedomaaGreat
open Go.RowKit

theorem cells3 {w : World} {g : Nat} {x y z : Value} {t : TypeId} (h : w.heap[g]? = some (.cells #[x, y, z] t (0, 0))) :
    w.cell? ⟨g, 0, none⟩ = some x ∧ w.cell? ⟨g, 1, none⟩ = some y ∧ w.cell? ⟨g, 2, none⟩ = some z ∧ w.frozen? ⟨g, 0, none⟩ = false ∧ w.frozen? ⟨g, 1, none⟩ = false ∧ w.frozen? ⟨g, 2, none⟩ = false ∧ g < w.heap.size :=
  ⟨cell_of_row w g 0 _ t _ h, cell_of_row w g 1 _ t _ h, cell_of_row w g 2 _ t _ h, frozen_of_row w g 0 _ t h, frozen_of_row w g 1 _ t h, frozen_of_row w g 2 _ t h, (Array.getElem?_eq_some_iff.1 h).1⟩
theorem cells4 {w : World} {g : Nat} {x y z u : Value} {t : TypeId} (h : w.heap[g]? = some (.cells #[x, y, z, u] t (0, 0))) :
    w.cell? ⟨g, 0, none⟩ = some x ∧ w.cell? ⟨g, 1, none⟩ = some y ∧ w.cell? ⟨g, 2, none⟩ = some z ∧ w.cell? ⟨g, 3, none⟩ = some u ∧ g < w.heap.size :=
  ⟨cell_of_row w g 0 _ t _ h, cell_of_row w g 1 _ t _ h, cell_of_row w g 2 _ t _ h, cell_of_row w g 3 _ t _ h, (Array.getElem?_eq_some_iff.1 h).1⟩
theorem new_one (w : World) (x : Value) (t : TypeId) : ∀ (j : Nat) (u : Value), [x][j]? = some u → (w.alloc (.cells #[x] t)).cell? ((⟨w.heap.size, 0, none⟩ : Addr).add j) = some u := by
  intro j u hu
  rcases j with _ | j
  · cases hu
    go_simp
  · cases hu

/-- The sum of the first k numbers. -/
def psum (xs : List Int) (k : Nat) : Int := (xs.take k).sum
theorem psum_zero (xs : List Int) : psum xs 0 = 0 := by simp [psum]
theorem psum_succ {xs : List Int} {k : Nat} {x : Int} (h : xs[k]? = some x) : psum xs (k + 1) = psum xs k + x := by
  unfold psum
  rw [List.take_add_one, h]
  simp [List.sum_append]
theorem psum_mono {xs : List Int} (hx : ∀ x ∈ xs, 0 ≤ x) {j k : Nat} (h : j ≤ k) : psum xs j ≤ psum xs k := by
  induction k with
  | zero => obtain rfl : j = 0 := by omega
            exact Int.le_refl _
  | succ k ih =>
    rcases Nat.lt_or_ge k j with h' | h'
    · obtain rfl : j = k + 1 := by omega
      exact Int.le_refl _
    · have := ih h'
      rcases hk : xs[k]? with _ | x
      · have e : psum xs (k + 1) = psum xs k := by
          unfold psum
          rw [List.take_add_one, hk]
          simp
        omega
      · rw [psum_succ hk]
        have := hx x (List.mem_of_getElem? hk)
        omega
theorem psum_nonneg {xs : List Int} (hx : ∀ x ∈ xs, 0 ≤ x) (k : Nat) : 0 ≤ psum xs k := by
  have := psum_mono hx (Nat.zero_le k)
  rwa [psum_zero] at this
theorem psum_all (xs : List Int) : psum xs xs.length = xs.sum := by unfold psum; rw [List.take_length]
def begins (xs : List Int) (k : Nat) : List Int := (List.range k).map (psum xs)
theorem begins_succ (xs : List Int) (k : Nat) : begins xs (k + 1) = begins xs k ++ [psum xs k] := by unfold begins; rw [List.range_succ, List.map_append]; rfl
theorem begins_length (xs : List Int) (k : Nat) : (begins xs k).length = k := by simp [begins]
end Go.Proofs.YtfghmlpjbedomaaGreat
