/- Types of things (package seq): swappers, tables, sets. -/
import Derived.Test.YtmiimpmfkjcjlaaGreatSq5
import Derived.RangeFuncBox
namespace Go.Proofs.YtmiimpmfkjcjlaaGreat
open Go.RowKit
attribute [local go_sem] run_store_fn run_store_nilfn

def swapL (x kind a : Int) : List Int := if kind = 0 then [x] else if x = a / 65536 % 65536 then [a % 65536] else [x]
def swapV (x kind a : Int) : Int := if kind = 0 then x else if x = a / 65536 % 65536 then 1 else 0

set_option maxRecDepth 100000 in
set_option maxHeartbeats 1000000 in
theorem swaps_any (v : Value) (x kind a : Int) (w : World) (hv : SlW w v [x]) (ha0 : 0 ≤ a) (ha1 : a < 18446744073709551616) :
    Calls Tryz.prog 141 #[v, .int .i64 kind, .int .u64 a] w fun e w' => ∃ u, e = .returned (.tuple #[u, .agg #[.int .i64 0, .int .u64 (swapV x kind a), .slice none 0 0]]) ∧ SlW w' u (swapL x kind a) ∧ Below w.heap.size w w' := by
  have hv' := hv
  obtain ⟨A, c, rfl, h1, h2, h3⟩ := hv
  obtain ⟨b, o, rfl, hb, hc⟩ := h3 0 x rfl
  have c0 := nt_cell hc
  simp only [Nat.zero_mul, Nat.add_zero] at c0
  clear h3 hc
  unfold swapL swapV
  by_cases hk : kind = 0
  · have e0 : (kind == 0) = true := by simp [hk]
    simp only [if_pos hk]
    clear hk
    go_enter Tryz.func141, Tryz.ntmps141
    go_wp2_with (go_at_call 191; refine (ok_any _ _).mono ?_; rintro e w1 ⟨rfl, rfl⟩)
    refine bodyPost_ret (v := .tuple #[.slice (some ⟨b, o, none⟩) 1 c, .agg #[.int .i64 0, .int .u64 x, .slice none 0 0]]) (by simp [results, Tryz.results141, go_sem]) rfl ⟨_, rfl, hv'.below (B := w.heap.size) ?_ (Nat.le_refl _), ?_⟩
    · (repeat' (first | exact Below.refl _ _ | assumption | refine Below.drew ?_ | refine below_drewN ?_ _ | refine Below.alloc ?_ (by simp <;> omega) _ | refine Below.setCell ?_ (by simp <;> omega) _))
    · (repeat' (first | exact Below.refl _ _ | assumption | refine Below.drew ?_ | refine below_drewN ?_ _ | refine Below.alloc ?_ (by simp <;> omega) _ | refine Below.setCell ?_ (by simp <;> omega) _))
  · have e0 : (kind == 0) = false := by simp [hk]
    simp only [if_neg hk]
    clear hk
    have m0 : 0 ≤ a / 65536 := by omega
    have m1 : a / 65536 < 18446744073709551616 := by omega
    have m2 : 0 ≤ a / 65536 % 65536 := by omega
    by_cases hx : x = a / 65536 % 65536
    · have e1 : (x == a / 65536 % 65536) = true := by simp [hx]
      simp only [if_pos hx]
      clear hx
      go_enter Tryz.func141, Tryz.ntmps141
      go_wp2_with (go_at_call 191; refine (ok_any _ _).mono ?_; rintro e w1 ⟨rfl, rfl⟩)
      refine bodyPost_ret (v := .tuple #[.slice (some ⟨w.heap.size + 1, 0, none⟩) 1 1, .agg #[.int .i64 0, .int .u64 1, .slice none 0 0]]) (by simp [results, Tryz.results141, go_sem]) rfl ⟨_, rfl, sl_one (by go_simp; done) (by simp <;> omega), ?_⟩
      (repeat' (first | exact Below.refl _ _ | assumption | refine Below.drew ?_ | refine below_drewN ?_ _ | refine Below.alloc ?_ (by simp <;> omega) _ | refine Below.setCell ?_ (by simp <;> omega) _))
    · have e1 : (x == a / 65536 % 65536) = false := by simp [hx]
      simp only [if_neg hx]
      clear hx
      go_enter Tryz.func141, Tryz.ntmps141
      go_wp2_with (go_at_call 191; refine (ok_any _ _).mono ?_; rintro e w1 ⟨rfl, rfl⟩)
      refine bodyPost_ret (v := .tuple #[.slice (some ⟨b, o, none⟩) 1 c, .agg #[.int .i64 0, .int .u64 0, .slice none 0 0]]) (by simp [results, Tryz.results141, go_sem]) rfl ⟨_, rfl, hv'.below (B := w.heap.size) ?_ (Nat.le_refl _), ?_⟩
      · (repeat' (first | exact Below.refl _ _ | assumption | refine Below.drew ?_ | refine below_drewN ?_ _ | refine Below.alloc ?_ (by simp <;> omega) _ | refine Below.setCell ?_ (by simp <;> omega) _))
      · (repeat' (first | exact Below.refl _ _ | assumption | refine Below.drew ?_ | refine below_drewN ?_ _ | refine Below.alloc ?_ (by simp <;> omega) _ | refine Below.setCell ?_ (by simp <;> omega) _))

def tabI (kind a : Int) : Int := if kind = 1 then a / 16777216 else a
def tabL (xs : List Int) (kind a : Int) : List Int := if 8 ≤ tabI kind a then xs else if kind = 1 then xs.set (tabI kind a).toNat (a % 16777216) else xs
def tabE (kind a : Int) : Int := if 8 ≤ tabI kind a then 10 else 0
def tabV (xs : List Int) (kind a : Int) : Int := if 8 ≤ tabI kind a then 0 else (xs[(tabI kind a).toNat]?).getD 0

set_option maxRecDepth 100000 in
set_option maxHeartbeats 1000000 in
theorem tables_any (v : Value) (xs : List Int) (kind a : Int) (w : World) (hv : SlW w v xs) (hl : xs.length = 8) (ha0 : 0 ≤ a) (ha1 : a < 18446744073709551616) :
    Calls Tryz.prog 142 #[v, .int .i64 kind, .int .u64 a] w fun e w' => ∃ u, e = .returned (.tuple #[u, .agg #[.int .i64 (tabE kind a), .int .u64 (tabV xs kind a), .slice none 0 0]]) ∧ SlW w' u (tabL xs kind a) ∧ Below w.heap.size w w' := by
  have hv' := hv
  obtain ⟨A, c, rfl, h1, h2, h3⟩ := hv
  rw [hl] at h1 hv' ⊢
  by_cases hk : kind = 1
  · have e0 : (kind == 1) = true := by simp [hk]
    have hi1 : tabI kind a = a / 16777216 := by unfold tabI; rw [if_pos hk]
    by_cases hi : 8 ≤ a / 16777216
    · have hE : tabE kind a = 10 := by unfold tabE; rw [hi1, if_pos hi]
      have hV : tabV xs kind a = 0 := by unfold tabV; rw [hi1, if_pos hi]
      have hL : tabL xs kind a = xs := by unfold tabL; rw [hi1, if_pos hi]
      rw [hE, hV, hL]
      clear hE hV hL hi1 hk h3
      go_enter Tryz.func142, Tryz.ntmps142
      go_wp2_with (go_at_call 193; refine (no_any _ _).mono ?_; rintro e w1 ⟨rfl, rfl⟩)
      refine bodyPost_ret (v := .tuple #[.slice A 8 c, .agg #[.int .i64 10, .int .u64 0, .slice none 0 0]]) (by simp [results, Tryz.results142, go_sem]) rfl ⟨_, rfl, hv'.below (B := w.heap.size) ?_ (Nat.le_refl _), ?_⟩
      · (repeat' (first | exact Below.refl _ _ | assumption | refine Below.drew ?_ | refine below_drewN ?_ _ | refine Below.alloc ?_ (by simp <;> omega) _ | refine Below.setCell ?_ (by simp <;> omega) _))
      · (repeat' (first | exact Below.refl _ _ | assumption | refine Below.drew ?_ | refine below_drewN ?_ _ | refine Below.alloc ?_ (by simp <;> omega) _ | refine Below.setCell ?_ (by simp <;> omega) _))
    · have hj0 : 0 ≤ a / 16777216 := by omega
      have hil : (a / 16777216).toNat < xs.length := by omega
      obtain ⟨x, hx⟩ : ∃ x, xs[(a / 16777216).toNat]? = some x := ⟨_, List.getElem?_eq_getElem hil⟩
      have hE : tabE kind a = 0 := by unfold tabE; rw [hi1, if_neg hi]
      have hV : tabV xs kind a = x := by unfold tabV; rw [hi1, if_neg hi, hx]; rfl
      have hL : tabL xs kind a = xs.set (a / 16777216).toNat (a % 16777216) := by unfold tabL; rw [hi1, if_neg hi, if_pos hk]
      rw [hE, hV, hL]
      obtain ⟨b, o, rfl, hb, hc⟩ := h3 _ x hx
      have c0 := nt_cell hc
      simp only [Nat.mul_one] at c0
      have q8 : a / 16777216 < 8 := by omega
      have HX := hide hx
      have hS := (show SlW w (.slice (some ⟨b, o, none⟩) 8 c) xs from hv').alloc (.cells #[.int .i64 0, .int .u64 0, .slice none 0 0] 57)
      clear hE hV hL hi1 hk h3 hc hx
      go_enter Tryz.func142, Tryz.ntmps142
      go_wp2_with fail
      refine (clone_any _ xs _ hS (by omega)).mono ?_
      rintro e w1 ⟨v', rfl, hown', hb1⟩
      have hown : w1.ownsRow (w.heap.size + 1) 25 1 v' (7 + 1) (xs.map (Value.int .u64)) := by
        have := hown'
        unfold WRow at this
        rw [hl, World.size_alloc] at this
        exact this
      obtain ⟨g, cap, rfl⟩ := ownsRow_succ hown
      have hg := hown.lt g rfl
      have k0 : w1.cell? ⟨g, (a / 16777216).toNat, none⟩ = some (.int .u64 x) := by
        rw [hown.cellAt _ (by omega), List.getElem?_map, HX.out]; rfl
      have k1 := hown.frozenAt (a / 16777216).toNat
      have z0 : w1.cell? ⟨w.heap.size, 0, none⟩ = some (.int .i64 0) := (hb1.cell (p := ⟨w.heap.size, 0, none⟩) (by simp)).trans (by go_simp)
      have z1 : w1.cell? ⟨w.heap.size, 1, none⟩ = some (.int .u64 0) := (hb1.cell (p := ⟨w.heap.size, 1, none⟩) (by simp)).trans (by go_simp)
      have z2 : w1.cell? ⟨w.heap.size, 2, none⟩ = some (.slice none 0 0) := (hb1.cell (p := ⟨w.heap.size, 2, none⟩) (by simp)).trans (by go_simp)
      have f0 : w1.frozen? ⟨w.heap.size, 0, none⟩ = false := (hb1.frozen (p := ⟨w.heap.size, 0, none⟩) (by simp)).trans (by go_simp)
      have f1 : w1.frozen? ⟨w.heap.size, 1, none⟩ = false := (hb1.frozen (p := ⟨w.heap.size, 1, none⟩) (by simp)).trans (by go_simp)
      have f2 : w1.frozen? ⟨w.heap.size, 2, none⟩ = false := (hb1.frozen (p := ⟨w.heap.size, 2, none⟩) (by simp)).trans (by go_simp)
      have hz : w.heap.size < w1.heap.size := by have := hb1.size; simp at this; omega
      have hne : g ≠ w.heap.size := by omega
      have hne' : w.heap.size ≠ g := by omega
      have hB1 : Below w.heap.size w w1 := ((Below.refl _ w).alloc (Nat.le_refl _) _).trans (hb1.mono (by simp))
      have hst := (hown.stored (a / 16777216).toNat (.int .u64 (a % 16777216))).1
      clear hb1 hown' HX hS hv'
      go_wp2_with (go_at_call 191; refine (ok_any _ _).mono ?_; rintro e w1 ⟨rfl, rfl⟩)
      have key : ∀ W : World, W.ownsRow (w.heap.size + 1) 25 1 (.slice (some ⟨g, 0, none⟩) (7 + 1) cap) (7 + 1) ((xs.map (Value.int .u64)).set (a / 16777216).toNat (.int .u64 (a % 16777216))) → SlW W (.slice (some ⟨g, 0, none⟩) 8 cap) (xs.set (a / 16777216).toNat (a % 16777216)) := by
        intro W h
        refine sl_of_owns (base := w.heap.size + 1) (e := 25) ?_ (by rw [List.length_set, hl]; decide)
        rw [List.length_set, hl, List.map_set]
        exact h
      refine bodyPost_ret (v := .tuple #[.slice (some ⟨g, 0, none⟩) 8 cap, .agg #[.int .i64 0, .int .u64 x, .slice none 0 0]]) (by simp [results, Tryz.results142, go_sem, z0, z1, z2, hz]) rfl ⟨_, rfl, key _ ?_, ?_⟩
      · repeat' (first | with_reducible exact hst | with_reducible refine ownsRow_setCell_below ?_ ?_ _ | with_reducible refine World.ownsRow.alloc ?_ _ | (simp; done) | omega)
      · repeat' (first | with_reducible exact hB1 | with_reducible refine Below.alloc ?_ ?_ _ | with_reducible refine Below.setCell ?_ ?_ _ | omega | (simp; done) | (simp; omega))
  · have e0 : (kind == 1) = false := by simp [hk]
    have hi1 : tabI kind a = a := by unfold tabI; rw [if_neg hk]
    by_cases hi : 8 ≤ a
    · have hE : tabE kind a = 10 := by unfold tabE; rw [hi1, if_pos hi]
      have hV : tabV xs kind a = 0 := by unfold tabV; rw [hi1, if_pos hi]
      have hL : tabL xs kind a = xs := by unfold tabL; rw [hi1, if_pos hi]
      rw [hE, hV, hL]
      clear hE hV hL hi1 hk h3
      go_enter Tryz.func142, Tryz.ntmps142
      go_wp2_with (go_at_call 193; refine (no_any _ _).mono ?_; rintro e w1 ⟨rfl, rfl⟩)
      refine bodyPost_ret (v := .tuple #[.slice A 8 c, .agg #[.int .i64 10, .int .u64 0, .slice none 0 0]]) (by simp [results, Tryz.results142, go_sem]) rfl ⟨_, rfl, hv'.below (B := w.heap.size) ?_ (Nat.le_refl _), ?_⟩
      · (repeat' (first | exact Below.refl _ _ | assumption | refine Below.drew ?_ | refine below_drewN ?_ _ | refine Below.alloc ?_ (by simp <;> omega) _ | refine Below.setCell ?_ (by simp <;> omega) _))
      · (repeat' (first | exact Below.refl _ _ | assumption | refine Below.drew ?_ | refine below_drewN ?_ _ | refine Below.alloc ?_ (by simp <;> omega) _ | refine Below.setCell ?_ (by simp <;> omega) _))
    · obtain ⟨i, rfl⟩ := Int.eq_ofNat_of_zero_le ha0
      have hil : i < xs.length := by omega
      obtain ⟨x, hx⟩ : ∃ x, xs[i]? = some x := ⟨_, List.getElem?_eq_getElem hil⟩
      have hE : tabE kind i = 0 := by unfold tabE; rw [hi1, if_neg hi]
      have hV : tabV xs kind i = x := by unfold tabV; rw [hi1, if_neg hi, Int.toNat_natCast, hx]; rfl
      have hL : tabL xs kind i = xs := by unfold tabL; rw [hi1, if_neg hi, if_neg hk]
      rw [hE, hV, hL]
      obtain ⟨b, o, rfl, hb, hc⟩ := h3 i x hx
      have c0 := nt_cell hc
      simp only [Nat.mul_one] at c0
      have q8 : (i : Int) < 8 := by omega
      clear hE hV hL hi1 hk h3 hc hx
      go_enter Tryz.func142, Tryz.ntmps142
      go_wp2_with (go_at_call 191; refine (ok_any _ _).mono ?_; rintro e w1 ⟨rfl, rfl⟩)
      refine bodyPost_ret (v := .tuple #[.slice (some ⟨b, o, none⟩) 8 c, .agg #[.int .i64 0, .int .u64 x, .slice none 0 0]]) (by simp [results, Tryz.results142, go_sem]) rfl ⟨_, rfl, hv'.below (B := w.heap.size) ?_ (Nat.le_refl _), ?_⟩
      · (repeat' (first | exact Below.refl _ _ | assumption | refine Below.drew ?_ | refine below_drewN ?_ _ | refine Below.alloc ?_ (by simp <;> omega) _ | refine Below.setCell ?_ (by simp <;> omega) _))
      · (repeat' (first | exact Below.refl _ _ | assumption | refine Below.drew ?_ | refine below_drewN ?_ _ | refine Below.alloc ?_ (by simp <;> omega) _ | refine Below.setCell ?_ (by simp <;> omega) _))
end Go.Proofs.YtmiimpmfkjcjlaaGreat
