/- Types of things (package seq): swappers, tables, sets. -/
/- Types of things (package seq): slices.Delete of one word, in memory of the call's own. -/
import Derived.Test.YtmiimpmfkjcjlaaGreatBun4
import Derived.RangeFuncBox
import Derived.Shelf.SlicesE.Delete
namespace Go.Proofs.YtmiimpmfkjcjlaaGreat
open Go.RowKit
attribute [local go_sem] run_store_fn run_store_nilfn

def swapL (x kind a : Int) : List Int := if kind = 0 then [x] else if x = a / 65536 % 65536 then [a % 65536] else [x]
def swapV (x kind a : Int) : Int := if kind = 0 then x else if x = a / 65536 % 65536 then 1 else 0

set_option maxRecDepth 100000 in
set_option maxHeartbeats 1000000 in
theorem swaps_any (v : Value) (x kind a : Int) (w : World) (hv : SlW w v [x]) (ha0 : 0 ≤ a) (ha1 : a < 18446744073709551616) :
    Calls Tryz.prog 141 #[v, .int .i64 kind, .int .u64 a] w fun e w' => ∃ u, e = .returned (.tuple #[u, .agg #[.int .i64 0, .int .u64 (swapV x kind a), .slice none 0 0]]) ∧ SlW w' u (swapL x kind a) ∧ Below w.heap.size w w' := by
  have hv' := hv
  obtain ⟨A, c, rfl, h1, h2, h3⟩ := hv
  obtain ⟨b, o, rfl, hb, hc⟩ := h3 0 x rfl
  have c0 := nt_cell hc
  simp only [Nat.zero_mul, Nat.add_zero] at c0
  clear h3 hc
  unfold swapL swapV
  by_cases hk : kind = 0
  · have e0 : (kind == 0) = true := by simp [hk]
    simp only [if_pos hk]
    clear hk
    go_enter Tryz.func141, Tryz.ntmps141
    go_wp2_with (go_at_call 191; refine (ok_any _ _).mono ?_; rintro e w1 ⟨rfl, rfl⟩)
    refine bodyPost_ret (v := .tuple #[.slice (some ⟨b, o, none⟩) 1 c, .agg #[.int .i64 0, .int .u64 x, .slice none 0 0]]) (by simp [results, Tryz.results141, go_sem]) rfl ⟨_, rfl, hv'.below (B := w.heap.size) ?_ (Nat.le_refl _), ?_⟩
    · (repeat' (first | exact Below.refl _ _ | assumption | refine Below.drew ?_ | refine below_drewN ?_ _ | refine Below.alloc ?_ (by simp <;> omega) _ | refine Below.setCell ?_ (by simp <;> omega) _))
    · (repeat' (first | exact Below.refl _ _ | assumption | refine Below.drew ?_ | refine below_drewN ?_ _ | refine Below.alloc ?_ (by simp <;> omega) _ | refine Below.setCell ?_ (by simp <;> omega) _))
  · have e0 : (kind == 0) = false := by simp [hk]
    simp only [if_neg hk]
    clear hk
    have m0 : 0 ≤ a / 65536 := by omega
    have m1 : a / 65536 < 18446744073709551616 := by omega
    have m2 : 0 ≤ a / 65536 % 65536 := by omega
    by_cases hx : x = a / 65536 % 65536
    · have e1 : (x == a / 65536 % 65536) = true := by simp [hx]
      simp only [if_pos hx]
      clear hx
      go_enter Tryz.func141, Tryz.ntmps141
      go_wp2_with (go_at_call 191; refine (ok_any _ _).mono ?_; rintro e w1 ⟨rfl, rfl⟩)
      refine bodyPost_ret (v := .tuple #[.slice (some ⟨w.heap.size + 1, 0, none⟩) 1 1, .agg #[.int .i64 0, .int .u64 1, .slice none 0 0]]) (by simp [results, Tryz.results141, go_sem]) rfl ⟨_, rfl, sl_one (by go_simp; done) (by simp <;> omega), ?_⟩
      (repeat' (first | exact Below.refl _ _ | assumption | refine Below.drew ?_ | refine below_drewN ?_ _ | refine Below.alloc ?_ (by simp <;> omega) _ | refine Below.setCell ?_ (by simp <;> omega) _))
    · have e1 : (x == a / 65536 % 65536) = false := by simp [hx]
      simp only [if_neg hx]
      clear hx
      go_enter Tryz.func141, Tryz.ntmps141
      go_wp2_with (go_at_call 191; refine (ok_any _ _).mono ?_; rintro e w1 ⟨rfl, rfl⟩)
      refine bodyPost_ret (v := .tuple #[.slice (some ⟨b, o, none⟩) 1 c, .agg #[.int .i64 0, .int .u64 0, .slice none 0 0]]) (by simp [results, Tryz.results141, go_sem]) rfl ⟨_, rfl, hv'.below (B := w.heap.size) ?_ (Nat.le_refl _), ?_⟩
      · (repeat' (first | exact Below.refl _ _ | assumption | refine Below.drew ?_ | refine below_drewN ?_ _ | refine Below.alloc ?_ (by simp <;> omega) _ | refine Below.setCell ?_ (by simp <;> omega) _))
      · (repeat' (first | exact Below.refl _ _ | assumption | refine Below.drew ?_ | refine below_drewN ?_ _ | refine Below.alloc ?_ (by simp <;> omega) _ | refine Below.setCell ?_ (by simp <;> omega) _))

def tabI (kind a : Int) : Int := if kind = 1 then a / 16777216 else a
def tabL (xs : List Int) (kind a : Int) : List Int := if 8 ≤ tabI kind a then xs else if kind = 1 then xs.set (tabI kind a).toNat (a % 16777216) else xs
def tabE (kind a : Int) : Int := if 8 ≤ tabI kind a then 10 else 0
def tabV (xs : List Int) (kind a : Int) : Int := if 8 ≤ tabI kind a then 0 else (xs[(tabI kind a).toNat]?).getD 0

set_option maxRecDepth 100000 in
set_option maxHeartbeats 1000000 in
theorem tables_any (v : Value) (xs : List Int) (kind a : Int) (w : World) (hv : SlW w v xs) (hl : xs.length = 8) (ha0 : 0 ≤ a) (ha1 : a < 18446744073709551616) :
    Calls Tryz.prog 142 #[v, .int .i64 kind, .int .u64 a] w fun e w' => ∃ u, e = .returned (.tuple #[u, .agg #[.int .i64 (tabE kind a), .int .u64 (tabV xs kind a), .slice none 0 0]]) ∧ SlW w' u (tabL xs kind a) ∧ Below w.heap.size w w' := by
  have hv' := hv
  obtain ⟨A, c, rfl, h1, h2, h3⟩ := hv
  rw [hl] at h1 hv' ⊢
  by_cases hk : kind = 1
  · have e0 : (kind == 1) = true := by simp [hk]
    have hi1 : tabI kind a = a / 16777216 := by unfold tabI; rw [if_pos hk]
    by_cases hi : 8 ≤ a / 16777216
    · have hE : tabE kind a = 10 := by unfold tabE; rw [hi1, if_pos hi]
      have hV : tabV xs kind a = 0 := by unfold tabV; rw [hi1, if_pos hi]
      have hL : tabL xs kind a = xs := by unfold tabL; rw [hi1, if_pos hi]
      rw [hE, hV, hL]
      clear hE hV hL hi1 hk h3
      go_enter Tryz.func142, Tryz.ntmps142
      go_wp2_with (go_at_call 193; refine (no_any _ _).mono ?_; rintro e w1 ⟨rfl, rfl⟩)
      refine bodyPost_ret (v := .tuple #[.slice A 8 c, .agg #[.int .i64 10, .int .u64 0, .slice none 0 0]]) (by simp [results, Tryz.results142, go_sem]) rfl ⟨_, rfl, hv'.below (B := w.heap.size) ?_ (Nat.le_refl _), ?_⟩
      · (repeat' (first | exact Below.refl _ _ | assumption | refine Below.drew ?_ | refine below_drewN ?_ _ | refine Below.alloc ?_ (by simp <;> omega) _ | refine Below.setCell ?_ (by simp <;> omega) _))
      · (repeat' (first | exact Below.refl _ _ | assumption | refine Below.drew ?_ | refine below_drewN ?_ _ | refine Below.alloc ?_ (by simp <;> omega) _ | refine Below.setCell ?_ (by simp <;> omega) _))
    · have hj0 : 0 ≤ a / 16777216 := by omega
      have hil : (a / 16777216).toNat < xs.length := by omega
      obtain ⟨x, hx⟩ : ∃ x, xs[(a / 16777216).toNat]? = some x := ⟨_, List.getElem?_eq_getElem hil⟩
      have hE : tabE kind a = 0 := by unfold tabE; rw [hi1, if_neg hi]
      have hV : tabV xs kind a = x := by unfold tabV; rw [hi1, if_neg hi, hx]; rfl
      have hL : tabL xs kind a = xs.set (a / 16777216).toNat (a % 16777216) := by unfold tabL; rw [hi1, if_neg hi, if_pos hk]
      rw [hE, hV, hL]
      obtain ⟨b, o, rfl, hb, hc⟩ := h3 _ x hx
      have c0 := nt_cell hc
      simp only [Nat.mul_one] at c0
      have q8 : a / 16777216 < 8 := by omega
      have HX := hide hx
      have hS := (show SlW w (.slice (some ⟨b, o, none⟩) 8 c) xs from hv').alloc (.cells #[.int .i64 0, .int .u64 0, .slice none 0 0] 57)
      clear hE hV hL hi1 hk h3 hc hx
      go_enter Tryz.func142, Tryz.ntmps142
      go_wp2_with fail
      refine (clone_any _ xs _ hS (by omega)).mono ?_
      rintro e w1 ⟨v', rfl, hown', hb1⟩
      have hown : w1.ownsRow (w.heap.size + 1) 25 1 v' (7 + 1) (xs.map (Value.int .u64)) := by
        have := hown'
        unfold WRow at this
        rw [hl, World.size_alloc] at this
        exact this
      obtain ⟨g, cap, rfl⟩ := ownsRow_succ hown
      have hg := hown.lt g rfl
      have k0 : w1.cell? ⟨g, (a / 16777216).toNat, none⟩ = some (.int .u64 x) := by
        rw [hown.cellAt _ (by omega), List.getElem?_map, HX.out]; rfl
      have k1 := hown.frozenAt (a / 16777216).toNat
      have z0 : w1.cell? ⟨w.heap.size, 0, none⟩ = some (.int .i64 0) := (hb1.cell (p := ⟨w.heap.size, 0, none⟩) (by simp)).trans (by go_simp)
      have z1 : w1.cell? ⟨w.heap.size, 1, none⟩ = some (.int .u64 0) := (hb1.cell (p := ⟨w.heap.size, 1, none⟩) (by simp)).trans (by go_simp)
      have z2 : w1.cell? ⟨w.heap.size, 2, none⟩ = some (.slice none 0 0) := (hb1.cell (p := ⟨w.heap.size, 2, none⟩) (by simp)).trans (by go_simp)
      have f0 : w1.frozen? ⟨w.heap.size, 0, none⟩ = false := (hb1.frozen (p := ⟨w.heap.size, 0, none⟩) (by simp)).trans (by go_simp)
      have f1 : w1.frozen? ⟨w.heap.size, 1, none⟩ = false := (hb1.frozen (p := ⟨w.heap.size, 1, none⟩) (by simp)).trans (by go_simp)
      have f2 : w1.frozen? ⟨w.heap.size, 2, none⟩ = false := (hb1.frozen (p := ⟨w.heap.size, 2, none⟩) (by simp)).trans (by go_simp)
      have hz : w.heap.size < w1.heap.size := by have := hb1.size; simp at this; omega
      have hne : g ≠ w.heap.size := by omega
      have hne' : w.heap.size ≠ g := by omega
      have hB1 : Below w.heap.size w w1 := ((Below.refl _ w).alloc (Nat.le_refl _) _).trans (hb1.mono (by simp))
      have hst := (hown.stored (a / 16777216).toNat (.int .u64 (a % 16777216))).1
      clear hb1 hown' HX hS hv'
      go_wp2_with (go_at_call 191; refine (ok_any _ _).mono ?_; rintro e w1 ⟨rfl, rfl⟩)
      have key : ∀ W : World, W.ownsRow (w.heap.size + 1) 25 1 (.slice (some ⟨g, 0, none⟩) (7 + 1) cap) (7 + 1) ((xs.map (Value.int .u64)).set (a / 16777216).toNat (.int .u64 (a % 16777216))) → SlW W (.slice (some ⟨g, 0, none⟩) 8 cap) (xs.set (a / 16777216).toNat (a % 16777216)) := by
        intro W h
        refine sl_of_owns (base := w.heap.size + 1) (e := 25) ?_ (by rw [List.length_set, hl]; decide)
        rw [List.length_set, hl, List.map_set]
        exact h
      refine bodyPost_ret (v := .tuple #[.slice (some ⟨g, 0, none⟩) 8 cap, .agg #[.int .i64 0, .int .u64 x, .slice none 0 0]]) (by simp [results, Tryz.results142, go_sem, z0, z1, z2, hz]) rfl ⟨_, rfl, key _ ?_, ?_⟩
      · repeat' (first | with_reducible exact hst | with_reducible refine ownsRow_setCell_below ?_ ?_ _ | with_reducible refine World.ownsRow.alloc ?_ _ | (simp; done) | omega)
      · repeat' (first | with_reducible exact hB1 | with_reducible refine Below.alloc ?_ ?_ _ | with_reducible refine Below.setCell ?_ ?_ _ | omega | (simp; done) | (simp; omega))
  · have e0 : (kind == 1) = false := by simp [hk]
    have hi1 : tabI kind a = a := by unfold tabI; rw [if_neg hk]
    by_cases hi : 8 ≤ a
    · have hE : tabE kind a = 10 := by unfold tabE; rw [hi1, if_pos hi]
      have hV : tabV xs kind a = 0 := by unfold tabV; rw [hi1, if_pos hi]
      have hL : tabL xs kind a = xs := by unfold tabL; rw [hi1, if_pos hi]
      rw [hE, hV, hL]
      clear hE hV hL hi1 hk h3
      go_enter Tryz.func142, Tryz.ntmps142
      go_wp2_with (go_at_call 193; refine (no_any _ _).mono ?_; rintro e w1 ⟨rfl, rfl⟩)
      refine bodyPost_ret (v := .tuple #[.slice A 8 c, .agg #[.int .i64 10, .int .u64 0, .slice none 0 0]]) (by simp [results, Tryz.results142, go_sem]) rfl ⟨_, rfl, hv'.below (B := w.heap.size) ?_ (Nat.le_refl _), ?_⟩
      · (repeat' (first | exact Below.refl _ _ | assumption | refine Below.drew ?_ | refine below_drewN ?_ _ | refine Below.alloc ?_ (by simp <;> omega) _ | refine Below.setCell ?_ (by simp <;> omega) _))
      · (repeat' (first | exact Below.refl _ _ | assumption | refine Below.drew ?_ | refine below_drewN ?_ _ | refine Below.alloc ?_ (by simp <;> omega) _ | refine Below.setCell ?_ (by simp <;> omega) _))
    · obtain ⟨i, rfl⟩ := Int.eq_ofNat_of_zero_le ha0
      have hil : i < xs.length := by omega
      obtain ⟨x, hx⟩ : ∃ x, xs[i]? = some x := ⟨_, List.getElem?_eq_getElem hil⟩
      have hE : tabE kind i = 0 := by unfold tabE; rw [hi1, if_neg hi]
      have hV : tabV xs kind i = x := by unfold tabV; rw [hi1, if_neg hi, Int.toNat_natCast, hx]; rfl
      have hL : tabL xs kind i = xs := by unfold tabL; rw [hi1, if_neg hi, if_neg hk]
      rw [hE, hV, hL]
      obtain ⟨b, o, rfl, hb, hc⟩ := h3 i x hx
      have c0 := nt_cell hc
      simp only [Nat.mul_one] at c0
      have q8 : (i : Int) < 8 := by omega
      clear hE hV hL hi1 hk h3 hc hx
      go_enter Tryz.func142, Tryz.ntmps142
      go_wp2_with (go_at_call 191; refine (ok_any _ _).mono ?_; rintro e w1 ⟨rfl, rfl⟩)
      refine bodyPost_ret (v := .tuple #[.slice (some ⟨b, o, none⟩) 8 c, .agg #[.int .i64 0, .int .u64 x, .slice none 0 0]]) (by simp [results, Tryz.results142, go_sem]) rfl ⟨_, rfl, hv'.below (B := w.heap.size) ?_ (Nat.le_refl _), ?_⟩
      · (repeat' (first | exact Below.refl _ _ | assumption | refine Below.drew ?_ | refine below_drewN ?_ _ | refine Below.alloc ?_ (by simp <;> omega) _ | refine Below.setCell ?_ (by simp <;> omega) _))
      · (repeat' (first | exact Below.refl _ _ | assumption | refine Below.drew ?_ | refine below_drewN ?_ _ | refine Below.alloc ?_ (by simp <;> omega) _ | refine Below.setCell ?_ (by simp <;> omega) _))
end Go.Proofs.YtmiimpmfkjcjlaaGreat

namespace Go.Proofs.YtmiimpmfkjcjlaaGreat
open Go.RowKit Go.Shelf Go.Sort

def delRen : Ren := ⟨fun n => if n = 45 then 194 else n, fun n => if n = 0 then 0 else if n = 3 then 3 else if n = 4 then 4 else if n = 22 then 24 else if n = 23 then 25 else n, fun n => n⟩

theorem delLays : SlLaysE.n45 Tryz.prog delRen := {
  mixed := by kernel_rfl
  f45 := ⟨Tryz.f194.name, by decide, Tryz.func194.trans (congrArg some (by kernel_rfl))⟩
  t0 := by kernel_rfl
  a0 := fun _ => by kernel_rfl
  z0 := fun _ => by kernel_rfl
  v0 := fun _ => by kernel_rfl
  t3 := by kernel_rfl
  a3 := fun _ => by kernel_rfl
  z3 := fun _ => by kernel_rfl
  v3 := fun _ => by kernel_rfl
  t4 := by kernel_rfl
  a4 := fun _ => by kernel_rfl
  z4 := fun _ => by kernel_rfl
  v4 := fun _ => by kernel_rfl
  t22 := by kernel_rfl
  a22 := fun _ => by kernel_rfl
  z22 := fun _ => by kernel_rfl
  v22 := fun _ => by kernel_rfl
  a23 := fun _ => by kernel_rfl
  z23 := fun _ => by kernel_rfl }

theorem grown_putRow {α : Type} [Inhabited α] (enc : α → Value) (w : World) (g off : Nat) (d : Array α) : w.grownBy (putRow enc w g off d) (some g) := by
  refine ⟨rfl, rfl, rfl, by simp [putRow, mapBlock], fun k hk hne => ?_⟩
  have hgk : g ≠ k := fun e => hne (by rw [e])
  simp [putRow, mapBlock, Array.getElem?_modify, hgk]

theorem del_get (L R : List Int) (k : Nat) (x : Int) (h : L[k]? = some x) : (L ++ R).toArray[k]! = x := by
  obtain ⟨hk, rfl⟩ := List.getElem?_eq_some_iff.1 h
  rw [getElem!_pos _ _ (by simp; omega)]
  simp [List.getElem_append_left hk]

/-- One word is taken out of a row that the call owns. -/
theorem delete_any (B g cap : Nat) (xs : List Int) (i : Nat) (j : Int) (w : World) (hown : WRow w B (.slice (some ⟨g, 0, none⟩) xs.length cap) xs) (hi : i < xs.length) (hj : j = (i : Int) + 1) (hm : xs.length ≤ maxLen) :
    Calls Tryz.prog 194 #[.slice (some ⟨g, 0, none⟩) xs.length cap, .int .i64 i, .int .i64 j] w fun e w' =>
      e = .returned (.slice (some ⟨g, 0, none⟩) (xs.length - 1) cap) ∧ SlW w' (.slice (some ⟨g, 0, none⟩) (xs.length - 1) cap) (xs.eraseIdx i) ∧ w.grownBy w' (some g) := by
  obtain ⟨i0, hi0, hz0, hz1, hz2⟩ := info_parts info_word
  obtain ⟨A, c', hA, hnc, hcm, hsl⟩ := wrow_sl hown hm
  cases hA
  have hH : Holds (Value.int .u64) w g 0 xs.toArray := by
    intro k hk
    have hk' : k < xs.length := by simpa using hk
    refine ⟨?_, ?_⟩
    · rw [Nat.zero_add, hown.cellAt k (by simpa using hk'), List.getElem?_map]
      simp [hk']
    · rw [Nat.zero_add]; exact hown.frozenAt k
  have H := AnyE.slices_Delete delLays (Value.int .u64) (fun _ => rfl) 0 (fun _ => by kernel_rfl) i0 hi0 hz1 g 0 cap i (i + 1) xs.toArray w hH (by simpa using hnc) (by unfold maxLen at hcm; exact hcm) (by omega) (by simp; omega)
  subst hj
  rw [show (i : Int) + 1 = ((i + 1 : Nat) : Int) by omega]
  refine Calls.mono H ?_
  rintro e w' ⟨rfl, q, rfl⟩
  have hlen : (xs.toArray.toList.take i ++ xs.toArray.toList.drop (i + 1) ++ List.replicate (i + 1 - i) 0).toArray.size = xs.toArray.size := by simp; omega
  have hH' := holds_putRow (Value.int .u64) (Go.Sort.ahead w q) g 0 xs.toArray _ (fun k hk => hH k hk) hlen
  have hgr := grown_putRow (Value.int .u64) (Go.Sort.ahead w q) g 0 (xs.toArray.toList.take i ++ xs.toArray.toList.drop (i + 1) ++ List.replicate (i + 1 - i) 0).toArray
  have hgr' : w.grownBy (putRow (Value.int .u64) (Go.Sort.ahead w q) g 0 (xs.toArray.toList.take i ++ xs.toArray.toList.drop (i + 1) ++ List.replicate (i + 1 - i) 0).toArray) (some g) := ⟨hgr.os, hgr.tape, hgr.output, hgr.size, hgr.block⟩
  have hlt := hown.lt g rfl
  refine ⟨by simp, ⟨_, cap, by rw [List.length_eraseIdx, if_pos hi], by rw [List.length_eraseIdx, if_pos hi]; omega, hcm, fun k x hx => ⟨g, 0, rfl, ?_, fun t u hu => ?_⟩⟩, hgr'⟩
  · exact Nat.lt_of_lt_of_le hlt.2 hgr'.size
  · rcases t with _ | t
    · cases hu
      have hk := (List.getElem?_eq_some_iff.1 hx).1
      rw [List.length_eraseIdx, if_pos hi] at hk
      have := (hH' k (by rw [hlen]; simp; omega)).1
      simp only [Nat.mul_one, Nat.zero_add, Nat.add_zero] at this ⊢
      rw [this]
      rw [List.eraseIdx_eq_take_drop_succ] at hx
      rw [del_get _ _ k x hx]
    · cases hu

theorem sl_setCell {w : World} {g k cap : Nat} {xs : List Int} (h : SlW w (.slice (some ⟨g, 0, none⟩) k cap) xs) (p : Addr) (u : Value) (hp : p.block ≠ g) : SlW (w.setCell p u) (.slice (some ⟨g, 0, none⟩) k cap) xs := by
  obtain ⟨A, c, hA, h1, h2, h3⟩ := h
  refine ⟨A, c, hA, h1, h2, fun i x hx => ?_⟩
  obtain ⟨b, o, rfl, hb, hc⟩ := h3 i x hx
  cases hA
  exact ⟨g, 0, rfl, by simpa [World.setCell] using hb, hc.of_block (by simp [World.setCell, Array.getElem?_modify, hp])⟩
end Go.Proofs.YtmiimpmfkjcjlaaGreat
