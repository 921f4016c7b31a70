import Derived.Test.YtmiimpmfkjcjlaaGreatBun3
import Derived.Shelf.SlicesE.Delete
import Derived.Laws.BitsAllLaws
namespace Go.Proofs.YtmiimpmfkjcjlaaGreat
open Go.RowKit Go.Shelf Go.Sort
def delRen : Ren := ⟨fun n => if n = 45 then 194 else n, fun n => if n = 0 then 0 else if n = 3 then 3 else if n = 4 then 4 else if n = 22 then 24 else if n = 23 then 25 else n, fun n => n⟩
theorem delLays : SlLaysE.n45 Tryz.prog delRen := {
  mixed := by kernel_rfl
  f45 := ⟨Tryz.f194.name, by decide, Tryz.func194.trans (congrArg some (by kernel_rfl))⟩
  t0 := by kernel_rfl
  a0 := fun _ => by kernel_rfl
  z0 := fun _ => by kernel_rfl
  v0 := fun _ => by kernel_rfl
  t3 := by kernel_rfl
  a3 := fun _ => by kernel_rfl
  z3 := fun _ => by kernel_rfl
  v3 := fun _ => by kernel_rfl
  t4 := by kernel_rfl
  a4 := fun _ => by kernel_rfl
  z4 := fun _ => by kernel_rfl
  v4 := fun _ => by kernel_rfl
  t22 := by kernel_rfl
  a22 := fun _ => by kernel_rfl
  z22 := fun _ => by kernel_rfl
  v22 := fun _ => by kernel_rfl
  a23 := fun _ => by kernel_rfl
  z23 := fun _ => by kernel_rfl }
theorem grown_putRow {α : Type} [Inhabited α] (enc : α → Value) (w : World) (g off : Nat) (d : Array α) : w.grownBy (putRow enc w g off d) (some g) := by
  refine ⟨rfl, rfl, rfl, by simp [putRow, mapBlock], fun k hk hne => ?_⟩
  have hgk : g ≠ k := fun e => hne (by rw [e])
  simp [putRow, mapBlock, Array.getElem?_modify, hgk]
theorem del_get (L R : List Int) (k : Nat) (x : Int) (h : L[k]? = some x) : (L ++ R).toArray[k]! = x := by
  obtain ⟨hk, rfl⟩ := List.getElem?_eq_some_iff.1 h
  rw [getElem!_pos _ _ (by simp; omega)]
  simp [List.getElem_append_left hk]
theorem delete_any (B g cap : Nat) (xs : List Int) (i : Nat) (j : Int) (w : World) (hown : WRow w B (.slice (some ⟨g, 0, none⟩) xs.length cap) xs) (hi : i < xs.length) (hj : j = (i : Int) + 1) (hm : xs.length ≤ maxLen) :
    Calls Tryz.prog 194 #[.slice (some ⟨g, 0, none⟩) xs.length cap, .int .i64 i, .int .i64 j] w fun e w' =>
      e = .returned (.slice (some ⟨g, 0, none⟩) (xs.length - 1) cap) ∧ SlW w' (.slice (some ⟨g, 0, none⟩) (xs.length - 1) cap) (xs.eraseIdx i) ∧ w.grownBy w' (some g) := by
  obtain ⟨i0, hi0, hz0, hz1, hz2⟩ := info_parts info_word
  obtain ⟨A, c', hA, hnc, hcm, hsl⟩ := wrow_sl hown hm
  cases hA
  have hH : Holds (Value.int .u64) w g 0 xs.toArray := by
    intro k hk
    have hk' : k < xs.length := by simpa using hk
    refine ⟨?_, ?_⟩
    · rw [Nat.zero_add, hown.cellAt k (by simpa using hk'), List.getElem?_map]
      simp [hk']
    · rw [Nat.zero_add]; exact hown.frozenAt k
  have H := AnyE.slices_Delete delLays (Value.int .u64) (fun _ => rfl) 0 (fun _ => by kernel_rfl) i0 hi0 hz1 g 0 cap i (i + 1) xs.toArray w hH (by simpa using hnc) (by unfold maxLen at hcm; exact hcm) (by omega) (by simp; omega)
  subst hj
  rw [show (i : Int) + 1 = ((i + 1 : Nat) : Int) by omega]
  refine Calls.mono H ?_
  rintro e w' ⟨rfl, q, rfl⟩
  have hlen : (xs.toArray.toList.take i ++ xs.toArray.toList.drop (i + 1) ++ List.replicate (i + 1 - i) 0).toArray.size = xs.toArray.size := by simp; omega
  have hH' := holds_putRow (Value.int .u64) (Go.Sort.ahead w q) g 0 xs.toArray _ (fun k hk => hH k hk) hlen
  have hgr := grown_putRow (Value.int .u64) (Go.Sort.ahead w q) g 0 (xs.toArray.toList.take i ++ xs.toArray.toList.drop (i + 1) ++ List.replicate (i + 1 - i) 0).toArray
  have hgr' : w.grownBy (putRow (Value.int .u64) (Go.Sort.ahead w q) g 0 (xs.toArray.toList.take i ++ xs.toArray.toList.drop (i + 1) ++ List.replicate (i + 1 - i) 0).toArray) (some g) := ⟨hgr.os, hgr.tape, hgr.output, hgr.size, hgr.block⟩
  have hlt := hown.lt g rfl
  refine ⟨by simp, ⟨_, cap, by rw [List.length_eraseIdx, if_pos hi], by rw [List.length_eraseIdx, if_pos hi]; omega, hcm, fun k x hx => ⟨g, 0, rfl, ?_, fun t u hu => ?_⟩⟩, hgr'⟩
  · exact Nat.lt_of_lt_of_le hlt.2 hgr'.size
  · rcases t with _ | t
    · cases hu
      have hk := (List.getElem?_eq_some_iff.1 hx).1
      rw [List.length_eraseIdx, if_pos hi] at hk
      have := (hH' k (by rw [hlen]; simp; omega)).1
      simp only [Nat.mul_one, Nat.zero_add, Nat.add_zero] at this ⊢
      rw [this]
      rw [List.eraseIdx_eq_take_drop_succ] at hx
      rw [del_get _ _ k x hx]
    · cases hu
theorem sl_setCell {w : World} {g k cap : Nat} {xs : List Int} (h : SlW w (.slice (some ⟨g, 0, none⟩) k cap) xs) (p : Addr) (u : Value) (hp : p.block ≠ g) : SlW (w.setCell p u) (.slice (some ⟨g, 0, none⟩) k cap) xs := by
  obtain ⟨A, c, hA, h1, h2, h3⟩ := h
  refine ⟨A, c, hA, h1, h2, fun i x hx => ?_⟩
  obtain ⟨b, o, rfl, hb, hc⟩ := h3 i x hx
  cases hA
  exact ⟨g, 0, rfl, by simpa [World.setCell] using hb, hc.of_block (by simp [World.setCell, Array.getElem?_modify, hp])⟩
end Go.Proofs.YtmiimpmfkjcjlaaGreat

namespace Go.Proofs.YtmiimpmfkjcjlaaGreat
open Go.RowKit
attribute [local go_sem] run_store_fn run_store_nilfn
def rowL (p : Nat) (xs : List Int) (kind a : Int) : List Int := if kind = 0 then (if 8 ≤ xs.length then xs else xs ++ [a]) else if xs.length = 0 then xs else if kind = 1 then xs.eraseIdx p else xs
def rowE (xs : List Int) (kind : Int) : Int := if kind = 0 then (if 8 ≤ xs.length then 6 else 0) else if xs.length = 0 then 7 else 0
def rowV (p : Nat) (xs : List Int) (kind : Int) : Int := if kind = 0 then 0 else (xs[p]?).getD 0
theorem news1 (w : World) (x : Value) (t : TypeId) : ∀ (j : Nat) (u : Value), [x][j]? = some u → (w.alloc (.cells #[x] t)).cell? ((⟨w.heap.size, 0, none⟩ : Addr).add j) = some u := by
  intro j u hu
  rcases j with _ | j
  · cases hu
    go_simp
  · cases hu
abbrev ansWorld (w : World) : World := w.alloc (.cells #[.int .i64 0, .int .u64 0, .slice none 0 0] 57)
theorem ans_kept {w w5 : World} (h : Below (w.heap.size + 1) (w.alloc (.cells #[.int .i64 0, .int .u64 0, .slice none 0 0] 57)) w5) :
    w5.cell? ⟨w.heap.size, 0, none⟩ = some (.int .i64 0) ∧ w5.cell? ⟨w.heap.size, 1, none⟩ = some (.int .u64 0) ∧ w5.cell? ⟨w.heap.size, 2, none⟩ = some (.slice none 0 0) ∧
    w5.frozen? ⟨w.heap.size, 0, none⟩ = false ∧ w5.frozen? ⟨w.heap.size, 1, none⟩ = false ∧ w5.frozen? ⟨w.heap.size, 2, none⟩ = false ∧ w.heap.size < w5.heap.size := by
  refine ⟨(h.cell (p := ⟨w.heap.size, 0, none⟩) (by simp)).trans (by go_simp), (h.cell (p := ⟨w.heap.size, 1, none⟩) (by simp)).trans (by go_simp), (h.cell (p := ⟨w.heap.size, 2, none⟩) (by simp)).trans (by go_simp),
    (h.frozen (p := ⟨w.heap.size, 0, none⟩) (by simp)).trans (by go_simp), (h.frozen (p := ⟨w.heap.size, 1, none⟩) (by simp)).trans (by go_simp), (h.frozen (p := ⟨w.heap.size, 2, none⟩) (by simp)).trans (by go_simp), ?_⟩
  have := h.size
  simp at this
  omega
theorem next3 (n : Nat) (hn : 1 ≤ n) (hm : n ≤ 8) (w : World) : Calls Tryz.prog 137 #[.int .i64 n] w fun e w' => e = .returned (.int .i64 ((n - 1 : Nat) : Int)) ∧ w' = w := by
  rw [show ((n - 1 : Nat) : Int) = (n : Int) - 1 by omega]
  go_enter Tryz.func137, Tryz.ntmps137
  go_wp2
  go_ret
  exact ⟨rfl, rfl⟩
theorem next4 (n : Nat) (_hn : 1 ≤ n) (_hm : n ≤ 8) (w : World) : Calls Tryz.prog 138 #[.int .i64 n] w fun e w' => e = .returned (.int .i64 ((0 : Nat) : Int)) ∧ w' = w := by
  go_enter Tryz.func138, Tryz.ntmps138
  go_wp2
  go_ret
  exact ⟨rfl, rfl⟩
set_option maxRecDepth 100000 in
set_option maxHeartbeats 1000000 in
theorem row_put (v : Value) (xs : List Int) (kind a : Int) (p B : Nat) (w : World) (hv : SlW w v xs) (hl : xs.length ≤ 8) (hk : kind = 0) :
    Calls Tryz.prog 192 #[v, .int .i64 kind, .int .u64 a, .pointer (some ⟨B, 0, none⟩)] w fun e w' => ∃ u, e = .returned (.tuple #[u, .agg #[.int .i64 (rowE xs kind), .int .u64 (rowV p xs kind), .slice none 0 0]]) ∧ SlW w' u (rowL p xs kind a) ∧ Below w.heap.size w w' := by
  subst hk
  have hv' := hv
  obtain ⟨A, c, rfl, h1, h2, h3⟩ := hv
  obtain ⟨i0, hi, hz0, hz1, hz2⟩ := info_parts info_word
  by_cases h8 : 8 ≤ xs.length
  · have hE : rowE xs 0 = 6 := by unfold rowE; rw [if_pos rfl, if_pos h8]
    have hV : rowV p xs 0 = 0 := by unfold rowV; rw [if_pos rfl]
    have hL : rowL p xs 0 a = xs := by unfold rowL; rw [if_pos rfl, if_pos h8]
    rw [hE, hV, hL]
    have e8 : decide (8 ≤ xs.length) = true := by simp; omega
    clear hE hV hL h3
    go_enter Tryz.func192, Tryz.ntmps192
    go_wp2_with (go_at_call 193; refine (no_any _ _).mono ?_; rintro e w1 ⟨rfl, rfl⟩)
    refine bodyPost_ret (v := .tuple #[.slice A xs.length c, .agg #[.int .i64 6, .int .u64 0, .slice none 0 0]]) (by simp [results, Tryz.results192, go_sem]) rfl ⟨_, rfl, hv'.below (B := w.heap.size) ?_ (Nat.le_refl _), ?_⟩
    · (repeat' (first | exact Below.refl _ _ | assumption | refine Below.drew ?_ | refine below_drewN ?_ _ | refine Below.alloc ?_ (by simp <;> omega) _ | refine Below.setCell ?_ (by simp <;> omega) _))
    · (repeat' (first | exact Below.refl _ _ | assumption | refine Below.drew ?_ | refine below_drewN ?_ _ | refine Below.alloc ?_ (by simp <;> omega) _ | refine Below.setCell ?_ (by simp <;> omega) _))
  · have hE : rowE xs 0 = 0 := by unfold rowE; rw [if_pos rfl, if_neg h8]
    have hV : rowV p xs 0 = 0 := by unfold rowV; rw [if_pos rfl]
    have hL : rowL p xs 0 a = xs ++ [a] := by unfold rowL; rw [if_pos rfl, if_neg h8]
    rw [hE, hV, hL]
    have e8 : xs.length < 8 := by omega
    have hS := (show SlW w (.slice A xs.length c) xs from hv').alloc (.cells #[.int .i64 0, .int .u64 0, .slice none 0 0] 57)
    clear hE hV hL h3 h8
    go_enter Tryz.func192, Tryz.ntmps192
    go_wp2_with fail
    refine (clone_any _ xs _ hS (by omega)).mono ?_
    rintro e w1 ⟨v', rfl, hown, hb1⟩
    clear hS
    have hz : w.heap.size + 1 ≤ w1.heap.size := by have := hb1.size; simpa using this
    have hB1 : Below (w.heap.size + 1) (w.alloc (.cells #[.int .i64 0, .int .u64 0, .slice none 0 0] 57)) w1 := hb1.mono (by simp)
    have hown1 : w1.ownsRow (w.heap.size + 1) 25 1 v' xs.length (xs.map (Value.int .u64)) := by
      have := hown
      unfold WRow at this
      rw [World.size_alloc] at this
      exact this
    clear hown hb1
    go_wp2_with (at_builtin; refine wpList_append_own_at _ rfl _ _ 24 rfl (w.heap.size + 1) 25 i0 (.int .u64 0) 1 8 Tryz.underlying24 hi hz0 hz1 hz2 rfl (by decide) _ _ _ rfl (hown1.alloc _) ⟨w1.heap.size, 0, none⟩ 1 1 [.int .u64 a] rfl rfl (news1 _ _ _) (by simp [Value.oneCell']) (by unfold maxLen; omega) (by omega) (by simp; omega) ?_; intro v5 w5 hown5 hgrow _ _; have hB5 : Below (w.heap.size + 1) (w.alloc (.cells #[.int .i64 0, .int .u64 0, .slice none 0 0] 57)) w5 := (hB1.alloc hz _).grown hgrow (by simp; omega) (fun k hk => (hown1.lt k hk).1); obtain ⟨z0, z1, z2, f0, f1, f2, hz5⟩ := ans_kept hB5; clear hB1)
    go_wp2_with (go_at_call 191; refine (ok_any _ _).mono ?_; rintro e w1 ⟨rfl, rfl⟩)
    refine bodyPost_ret (v := .tuple #[v5, .agg #[.int .i64 0, .int .u64 0, .slice none 0 0]]) (by simp [results, Tryz.results192, go_sem, z0, z1, z2, hz5]) rfl ⟨_, rfl, ?_, ?_⟩
    · refine wrow_sl (B := w.heap.size + 1) ?_ (by simp; unfold maxLen; omega)
      unfold WRow
      have h5 : w5.ownsRow (w.heap.size + 1) 25 1 v5 (xs ++ [a]).length ((xs ++ [a]).map (Value.int .u64)) := by rw [List.length_append, List.map_append]; exact hown5
      repeat' (first | with_reducible exact h5 | with_reducible refine ownsRow_setCell_below ?_ ?_ _ | with_reducible refine World.ownsRow.alloc ?_ _ | (simp; done) | omega)
    · have hB : Below w.heap.size w w5 := ((Below.refl _ w).alloc (Nat.le_refl _) _).trans (hB5.mono (by omega))
      repeat' (first | with_reducible exact hB | with_reducible refine Below.alloc ?_ ?_ _ | with_reducible refine Below.setCell ?_ ?_ _ | omega | (simp; done) | (simp; omega))
set_option maxRecDepth 100000 in
set_option maxHeartbeats 1000000 in
theorem row_none (v : Value) (xs : List Int) (kind a : Int) (p B : Nat) (w : World) (hv : SlW w v xs) (hl : xs.length = 0) (hk : kind = 1 ∨ kind = 2) :
    Calls Tryz.prog 192 #[v, .int .i64 kind, .int .u64 a, .pointer (some ⟨B, 0, none⟩)] w fun e w' => ∃ u, e = .returned (.tuple #[u, .agg #[.int .i64 (rowE xs kind), .int .u64 (rowV p xs kind), .slice none 0 0]]) ∧ SlW w' u (rowL p xs kind a) ∧ Below w.heap.size w w' := by
  have hv' := hv
  obtain ⟨A, c, rfl, h1, h2, h3⟩ := hv
  have hE : rowE xs kind = 7 := by unfold rowE; rw [if_neg (by omega), if_pos hl]
  have hV : rowV p xs kind = 0 := by have : xs = [] := List.eq_nil_of_length_eq_zero hl; unfold rowV; rw [if_neg (by omega), this]; rfl
  have hL : rowL p xs kind a = xs := by unfold rowL; rw [if_neg (by omega), if_pos hl]
  rw [hE, hV, hL]
  rw [hl] at hv' ⊢
  have e0 : (kind == 0) = false := by simp; omega
  clear hE hV hL h3 h1 h2 hk
  go_enter Tryz.func192, Tryz.ntmps192
  go_wp2_with (go_at_call 193; refine (no_any _ _).mono ?_; rintro e w1 ⟨rfl, rfl⟩)
  refine bodyPost_ret (v := .tuple #[.slice A 0 c, .agg #[.int .i64 7, .int .u64 0, .slice none 0 0]]) (by simp [results, Tryz.results192, go_sem]) rfl ⟨_, rfl, hv'.below (B := w.heap.size) ?_ (Nat.le_refl _), ?_⟩
  · (repeat' (first | exact Below.refl _ _ | assumption | refine Below.drew ?_ | refine below_drewN ?_ _ | refine Below.alloc ?_ (by simp <;> omega) _ | refine Below.setCell ?_ (by simp <;> omega) _))
  · (repeat' (first | exact Below.refl _ _ | assumption | refine Below.drew ?_ | refine below_drewN ?_ _ | refine Below.alloc ?_ (by simp <;> omega) _ | refine Below.setCell ?_ (by simp <;> omega) _))
theorem delete_n (B g cap n : Nat) (xs : List Int) (i : Nat) (j : Int) (w : World) (hown : w.ownsRow B 25 1 (.slice (some ⟨g, 0, none⟩) n cap) n (xs.map (Value.int .u64))) (hn : xs.length = n) (hi : i < n) (hj : j = (i : Int) + 1) (hm : n ≤ maxLen) :
    Calls Tryz.prog 194 #[.slice (some ⟨g, 0, none⟩) n cap, .int .i64 i, .int .i64 j] w fun e w' =>
      e = .returned (.slice (some ⟨g, 0, none⟩) (n - 1) cap) ∧ SlW w' (.slice (some ⟨g, 0, none⟩) (n - 1) cap) (xs.eraseIdx i) ∧ w.grownBy w' (some g) := by
  subst hn
  exact delete_any B g cap xs i j w hown hi hj hm
set_option maxRecDepth 100000 in
set_option maxHeartbeats 1000000 in
theorem row_get (f : Nat) (v : Value) (xs : List Int) (kind a : Int) (p B m : Nat) (hf : ∀ W, Calls Tryz.prog f #[.int .i64 ((m : Int) + 1)] W fun e w' => e = .returned (.int .i64 p) ∧ w' = W)
    (hent : ∀ args w, (callFunc f args).run Tryz.prog w = .ok (.enter f args) w) (w : World) (hB : w.cell? ⟨B, 0, none⟩ = some (.func (.func f) #[] #[])) (hBl : B < w.heap.size)
    (hv : SlW w v xs) (hl : xs.length = m + 1) (hm : m < 8) (hp : p ≤ m) (hk : kind = 1 ∨ kind = 2) :
    Calls Tryz.prog 192 #[v, .int .i64 kind, .int .u64 a, .pointer (some ⟨B, 0, none⟩)] w fun e w' => ∃ u, e = .returned (.tuple #[u, .agg #[.int .i64 (rowE xs kind), .int .u64 (rowV p xs kind), .slice none 0 0]]) ∧ SlW w' u (rowL p xs kind a) ∧ Below w.heap.size w w' := by
  have hv' := hv
  obtain ⟨A, c, rfl, h1, h2, h3⟩ := hv
  rw [hl] at h1 hv' ⊢
  obtain ⟨x, hx⟩ : ∃ x, xs[p]? = some x := ⟨_, List.getElem?_eq_getElem (by omega)⟩
  obtain ⟨b, o, rfl, hb, hc⟩ := h3 p x hx
  have c0 := nt_cell hc
  simp only [Nat.mul_one] at c0
  have hE : rowE xs kind = 0 := by unfold rowE; rw [if_neg (by omega), if_neg (by omega)]
  have hV : rowV p xs kind = x := by unfold rowV; rw [if_neg (by omega), hx]; rfl
  have e0 : (kind == 0) = false := by simp; omega
  have q0 : (0 : Int) ≤ (p : Int) := by omega
  have q1 : (p : Int) < (m : Int) + 1 := by omega
  rw [hE, hV]
  clear hE hV hx h3 hc
  by_cases hk1 : kind = 1
  · have e1 : (kind == 1) = true := by simp [hk1]
    have hL : rowL p xs kind a = xs.eraseIdx p := by unfold rowL; rw [if_neg (by omega), if_neg (by omega), if_pos hk1]
    rw [hL]
    clear hL hk hk1
    have HL := hide hl
    have hS := (show SlW w (.slice (some ⟨b, o, none⟩) (m + 1) c) xs from hv').alloc (.cells #[.int .i64 0, .int .u64 0, .slice none 0 0] 57)
    clear hl
    go_enter Tryz.func192, Tryz.ntmps192
    go_wp2_with fail
    refine (hf _).mono ?_
    rintro e w1 ⟨rfl, rfl⟩
    go_wp2_with fail
    refine (clone_any _ xs _ hS (by have := HL.out; omega)).mono ?_
    rintro e w1 ⟨v', rfl, hown, hb1⟩
    clear hS c0 hent hB
    have hown1 : w1.ownsRow (w.heap.size + 1) 25 1 v' (m + 1) (xs.map (Value.int .u64)) := by
      have := hown
      unfold WRow at this
      rw [World.size_alloc, HL.out] at this
      exact this
    have hB1 : Below (w.heap.size + 1) (w.alloc (.cells #[.int .i64 0, .int .u64 0, .slice none 0 0] 57)) w1 := hb1.mono (by simp)
    clear hown hb1
    obtain ⟨g, cap, rfl⟩ := ownsRow_succ hown1
    have hg := hown1.lt g rfl
    go_wp2_with fail
    refine (delete_n _ g cap (m + 1) xs p _ _ hown1 HL.out (by omega) rfl (by unfold maxLen; omega)).mono ?_
    rintro e w5 ⟨rfl, hsl5, hgrow⟩
    simp only [Nat.add_sub_cancel] at hsl5 ⊢
    have hne : w.heap.size ≠ g := by omega
    have hB5 : Below (w.heap.size + 1) (w.alloc (.cells #[.int .i64 0, .int .u64 0, .slice none 0 0] 57)) w5 := hB1.grown hgrow (by omega) (fun k hk => by cases hk; exact hg.1)
    obtain ⟨z0, z1, z2, f0, f1, f2, hz5⟩ := ans_kept hB5
    clear hB1 hown1 hgrow
    go_wp2_with (go_at_call 191; refine (ok_any _ _).mono ?_; rintro e w1 ⟨rfl, rfl⟩)
    refine bodyPost_ret (v := .tuple #[.slice (some ⟨g, 0, none⟩) m cap, .agg #[.int .i64 0, .int .u64 x, .slice none 0 0]]) (by simp [results, Tryz.results192, go_sem, z0, z1, z2, hz5]) rfl ⟨_, rfl, ?_, ?_⟩
    · repeat' (first | with_reducible exact hsl5 | with_reducible refine sl_setCell ?_ _ _ ?_ | with_reducible refine Sl.alloc ?_ _ | (simp; done) | omega)
    · have hB : Below w.heap.size w w5 := ((Below.refl _ w).alloc (Nat.le_refl _) _).trans (hB5.mono (by omega))
      repeat' (first | with_reducible exact hB | with_reducible refine Below.alloc ?_ ?_ _ | with_reducible refine Below.setCell ?_ ?_ _ | omega | (simp; done) | (simp; omega))
  · have e1 : (kind == 1) = false := by simp [hk1]
    have hL : rowL p xs kind a = xs := by unfold rowL; rw [if_neg (by omega), if_neg (by omega), if_neg hk1]
    rw [hL]
    clear hL hk hk1 hl
    go_enter Tryz.func192, Tryz.ntmps192
    go_wp2_with fail
    refine (hf _).mono ?_
    rintro e w1 ⟨rfl, rfl⟩
    go_wp2_with (go_at_call 191; refine (ok_any _ _).mono ?_; rintro e w1 ⟨rfl, rfl⟩)
    refine bodyPost_ret (v := .tuple #[.slice (some ⟨b, o, none⟩) (m + 1) c, .agg #[.int .i64 0, .int .u64 x, .slice none 0 0]]) (by simp [results, Tryz.results192, go_sem]) rfl ⟨_, rfl, hv'.below (B := w.heap.size) ?_ (Nat.le_refl _), ?_⟩
    · (repeat' (first | exact Below.refl _ _ | assumption | refine Below.drew ?_ | refine below_drewN ?_ _ | refine Below.alloc ?_ (by simp <;> omega) _ | refine Below.setCell ?_ (by simp <;> omega) _))
    · (repeat' (first | exact Below.refl _ _ | assumption | refine Below.drew ?_ | refine below_drewN ?_ _ | refine Below.alloc ?_ (by simp <;> omega) _ | refine Below.setCell ?_ (by simp <;> omega) _))
end Go.Proofs.YtmiimpmfkjcjlaaGreat

namespace Go.Proofs.YtmiimpmfkjcjlaaGreat
open Go
theorem pow_lt64 {i : Nat} (hi : i < 64) : 2 ^ i < 18446744073709551616 := by
  have := Nat.pow_lt_pow_right (a := 2) (by decide) hi
  exact Nat.lt_of_lt_of_le this (by decide)
theorem nat_or_bit (x i : Nat) (hx : x < 18446744073709551616) (hi : i < 64) (h : x / 2 ^ i % 2 = 0) : x ||| 2 ^ i = x + 2 ^ i := by
  have hp := pow_lt64 hi
  have ha : x &&& 2 ^ i = 0 := by rw [nat_bit, h, Nat.zero_mul]
  have hz : BitVec.ofNat 65 x &&& BitVec.ofNat 65 (2 ^ i) = 0#65 := by
    apply BitVec.eq_of_toNat_eq
    rw [BitVec.toNat_and, BitVec.toNat_ofNat, BitVec.toNat_ofNat, Nat.mod_eq_of_lt (by omega), Nat.mod_eq_of_lt (by omega), ha]
    rfl
  have := congrArg BitVec.toNat (BitVec.add_eq_or_of_and_eq_zero _ _ hz)
  rw [BitVec.toNat_add, BitVec.toNat_or, BitVec.toNat_ofNat, BitVec.toNat_ofNat, Nat.mod_eq_of_lt (a := x) (by omega), Nat.mod_eq_of_lt (a := 2 ^ i) (by omega), Nat.mod_eq_of_lt (by omega)] at this
  exact this.symm
theorem nat_andNot_bit (x i : Nat) (hx : x < 18446744073709551616) (hi : i < 64) (h : x / 2 ^ i % 2 = 1) : x &&& (18446744073709551615 - 2 ^ i) = x - 2 ^ i := by
  have hp := pow_lt64 hi
  have hb : x.testBit i = true := by rw [Nat.testBit_eq_decide_div_mod_eq, h]; rfl
  have hpx : 2 ^ i ≤ x := Nat.ge_two_pow_of_testBit hb
  have e : 18446744073709551615 - 2 ^ i = 2 ^ 64 - (2 ^ i + 1) := by omega
  have hy : (x &&& (18446744073709551615 - 2 ^ i)) < 18446744073709551616 := Nat.lt_of_le_of_lt Nat.and_le_left hx
  have h0 : (x &&& (18446744073709551615 - 2 ^ i)) / 2 ^ i % 2 = 0 := by
    have hf : (x &&& (18446744073709551615 - 2 ^ i)).testBit i = false := by
      rw [Nat.testBit_and, e, Nat.testBit_two_pow_sub_succ (by omega)]
      simp
    rw [Nat.testBit_eq_decide_div_mod_eq] at hf
    simp at hf
    omega
  have hj := nat_or_bit _ i hy hi h0
  have hx' : (x &&& (18446744073709551615 - 2 ^ i)) ||| 2 ^ i = x := by
    apply Nat.eq_of_testBit_eq
    intro j
    rw [Nat.testBit_or, Nat.testBit_and, e, Nat.testBit_two_pow_sub_succ (by omega), Nat.testBit_two_pow]
    by_cases hij : i = j
    · subst hij; simp [hb]
    · simp [hij]
      intro ht
      rcases Nat.lt_or_ge j 64 with h | h
      · exact h
      · have := Nat.ge_two_pow_of_testBit ht
        have := Nat.pow_le_pow_right (n := 2) (by decide) h
        omega
  omega
theorem bit_and {x i : Nat} (hx : x < 18446744073709551616) (hi : i < 64) : bits .and .u64 (x : Int) ((2 ^ i : Nat) : Int) = ((x / 2 ^ i % 2 * 2 ^ i : Nat) : Int) := by
  rw [u64_and_nat x _ hx (pow_lt64 hi), nat_bit]
theorem bit_or {x i : Nat} (hx : x < 18446744073709551616) (hi : i < 64) (h : x / 2 ^ i % 2 = 0) : bits .or .u64 (x : Int) ((2 ^ i : Nat) : Int) = ((x + 2 ^ i : Nat) : Int) := by
  rw [u64_or_nat x _ hx (pow_lt64 hi), nat_or_bit x i hx hi h]
theorem bit_andNot {x i : Nat} (hx : x < 18446744073709551616) (hi : i < 64) (h : x / 2 ^ i % 2 = 1) : bits .andNot .u64 (x : Int) ((2 ^ i : Nat) : Int) = ((x - 2 ^ i : Nat) : Int) := by
  rw [u64_andNot_nat x _ hx (pow_lt64 hi), nat_andNot_bit x i hx hi h]
theorem bit_wrap {i : Nat} (hi : i < 64) : IntKind.u64.wrap ((2 : Int) ^ i) = ((2 ^ i : Nat) : Int) := by
  rw [show ((2 : Int) ^ i) = ((2 ^ i : Nat) : Int) by simp]
  have := pow_lt64 hi
  generalize 2 ^ i = p at *
  rw [IntKind.wrap_u64]
  omega
theorem or_lt {x i : Nat} (hx : x < 18446744073709551616) (hi : i < 64) (h : x / 2 ^ i % 2 = 0) : x + 2 ^ i < 18446744073709551616 := by
  rw [← nat_or_bit x i hx hi h]
  exact Nat.or_lt_two_pow (n := 64) hx (pow_lt64 hi)
theorem andNot_le {x i : Nat} (h : x / 2 ^ i % 2 = 1) : 2 ^ i ≤ x := by
  refine Nat.ge_two_pow_of_testBit ?_
  rw [Nat.testBit_eq_decide_div_mod_eq, h]; rfl
end Go.Proofs.YtmiimpmfkjcjlaaGreat
