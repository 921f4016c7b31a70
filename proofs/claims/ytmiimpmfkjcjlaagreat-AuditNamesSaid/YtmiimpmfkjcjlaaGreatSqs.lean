/- The reference of package seq: row at an empty row, and set. -/
import Derived.Test.YtmiimpmfkjcjlaaGreatSqr
namespace Go.Proofs.YtmiimpmfkjcjlaaGreat
open Go.RowKit
attribute [local go_sem] run_store_fn run_store_nilfn

set_option maxRecDepth 100000 in
set_option maxHeartbeats 1000000 in
theorem refRow_none (B n : Nat) (v : Value) (xs : List Int) (typ kind a : Int) (p : Nat) (w : World) (hown : WOwn w B v n xs) (hn : xs.length = n) (hl : n = 0) (hk : kind = 1 ∨ kind = 2) (hBw : B ≤ w.heap.size) :
    Calls Tryz.prog 200 #[.int .i64 typ, v, .int .i64 kind, .int .u64 a] w fun e w' => ∃ u, e = .returned (.agg #[u, .int .i64 (rowE xs kind), .int .u64 (rowV p xs kind)]) ∧ SlW w' u (rowL p xs kind a) ∧ Below B w w' ∧ ∀ b, b < B → OutOf b u := by
  subst hn
  have HO : ∀ b, b < B → OutOf b v := fun b hb => outOf_own hown hb
  have hsl : SlW w v xs := wrow_sl hown (by unfold maxLen; omega)
  have hE : rowE xs kind = 7 := by unfold rowE; rw [if_neg (by omega), if_pos hl]
  have hV : rowV p xs kind = 0 := by have : xs = [] := List.eq_nil_of_length_eq_zero hl; unfold rowV; rw [if_neg (by omega), this]; rfl
  have hL : rowL p xs kind a = xs := by unfold rowL; rw [if_neg (by omega), if_pos hl]
  rw [hE, hV, hL]
  have hsl' := hsl
  obtain ⟨A, c, rfl, h1, h2, h3⟩ := hsl
  rw [hl] at hsl' HO ⊢
  have e0 : (kind == 0) = false := by simp; omega
  clear hE hV hL h3 h1 h2 hk hown
  go_enter Tryz.func200, Tryz.ntmps200
  go_wp2
  refine bodyPost_ret (v := .agg #[.slice A 0 c, .int .i64 7, .int .u64 0]) (by simp [results, Tryz.results200, go_sem]) rfl ⟨_, rfl, hsl'.below (B := w.heap.size) ?_ (Nat.le_refl _), Below.mono (B := w.heap.size) ?_ hBw, HO⟩
  · (repeat' (first | exact Below.refl _ _ | assumption | refine Below.drew ?_ | refine below_drewN ?_ _ | refine Below.alloc ?_ (by simp <;> omega) _ | refine Below.setCell ?_ (by simp <;> omega) _))
  · (repeat' (first | exact Below.refl _ _ | assumption | refine Below.drew ?_ | refine below_drewN ?_ _ | refine Below.alloc ?_ (by simp <;> omega) _ | refine Below.setCell ?_ (by simp <;> omega) _))

theorem refRow_any (B n : Nat) (v : Value) (xs : List Int) (typ kind a : Int) (p : Nat) (w : World) (hown : WOwn w B v n xs) (hn : xs.length = n) (hl : n ≤ 8) (hk : kind = 0 ∨ kind = 1 ∨ kind = 2) (ht : typ = 2 ∧ p = n - 1 ∨ typ = 3 ∧ p = 0) (hBw : B ≤ w.heap.size) :
    Calls Tryz.prog 200 #[.int .i64 typ, v, .int .i64 kind, .int .u64 a] w fun e w' => ∃ u, e = .returned (.agg #[u, .int .i64 (rowE xs kind), .int .u64 (rowV p xs kind)]) ∧ SlW w' u (rowL p xs kind a) ∧ Below B w w' ∧ ∀ b, b < B → OutOf b u := by
  rcases hk with hk | hk
  · exact refRow_put B n v xs typ kind a p w hown hn hl hk hBw
  · rcases n with _ | m
    · exact refRow_none B 0 v xs typ kind a p w hown hn rfl hk hBw
    · exact refRow_get B m v xs typ kind a p w hown hn (by omega) hk (by omega) hBw

set_option maxRecDepth 100000 in
set_option maxHeartbeats 4000000 in
theorem refSet_any (v : Value) (x kind a : Int) (w : World) (hv : SlW w v [x]) (hx0 : 0 ≤ x) (hx1 : x < 18446744073709551616) (ha0 : 0 ≤ a) (ha1 : a < 18446744073709551616) (hk : kind = 0 ∨ kind = 1 ∨ kind = 2) :
    Calls Tryz.prog 201 #[v, .int .i64 kind, .int .u64 a] w fun e w' => ∃ u, e = .returned (.agg #[u, .int .i64 (setE a), .int .u64 (setV x kind a)]) ∧ SlW w' u (setL x kind a) ∧ Below w.heap.size w w' ∧ ∀ b, b < w.heap.size → OutOf b v → OutOf b u := by
  have hv' := hv
  obtain ⟨A, c, rfl, h1, h2, h3⟩ := hv
  obtain ⟨b, o, rfl, hb, hc⟩ := h3 0 x rfl
  have c0 := nt_cell hc
  simp only [Nat.zero_mul, Nat.add_zero] at c0
  clear h3 hc
  by_cases h64 : 64 ≤ a
  · have hE : setE a = 10 := by unfold setE; rw [if_pos h64]
    have hV : setV x kind a = 0 := by unfold setV; rw [if_pos h64]
    have hL : setL x kind a = [x] := by unfold setL; rw [if_pos h64]
    rw [hE, hV, hL]
    clear hE hV hL hk
    go_enter Tryz.func201, Tryz.ntmps201
    go_wp2
    refine bodyPost_ret (v := .agg #[.slice (some ⟨b, o, none⟩) 1 c, .int .i64 10, .int .u64 0]) (by simp [results, Tryz.results201, go_sem]) rfl ⟨_, rfl, hv'.below (B := w.heap.size) ?_ (Nat.le_refl _), ?_, fun b hb ho => ho⟩
    · (repeat' (first | exact Below.refl _ _ | assumption | refine Below.drew ?_ | refine below_drewN ?_ _ | refine Below.alloc ?_ (by simp <;> omega) _ | refine Below.setCell ?_ (by simp <;> omega) _))
    · (repeat' (first | exact Below.refl _ _ | assumption | refine Below.drew ?_ | refine below_drewN ?_ _ | refine Below.alloc ?_ (by simp <;> omega) _ | refine Below.setCell ?_ (by simp <;> omega) _))
  · have hE : setE a = 0 := by unfold setE; rw [if_neg h64]
    rw [hE]
    clear hE
    obtain ⟨F, h01⟩ := set_facts hx0 hx1 ha0 (by omega)
    have hV : setV x kind a = if kind = 1 then 1 - setH x a else setH x a := by unfold setV; rw [if_neg h64]
    have hL : setL x kind a = if kind = 1 then (if setH x a = 0 then [x + setP a] else [x]) else if kind = 2 then (if setH x a = 1 then [x - setP a] else [x]) else [x] := by unfold setL; rw [if_neg h64]
    have hH : x / setP a % 2 = setH x a := rfl
    rw [hV, hL]
    clear hV hL
    generalize setH x a = h at *
    generalize setP a = p at *
    have p0 := F.pos
    have p1 := F.lt
    have hshl := F.shl
    have d0 := F.q0
    have d1 := F.q1
    have hpz : (p == 0) = false := by simp; omega
    obtain ⟨q, hq⟩ : ∃ q, x / p = q := ⟨_, rfl⟩
    rw [hq] at hH d0 d1
    rcases h01 with rfl | rfl
    · have hor1 := F.or1 rfl
      clear F
      rcases hk with rfl | rfl | rfl
      · simp only [show ¬ ((0 : Int) = 1) by decide, show ¬ ((0 : Int) = 2) by decide, if_false]
        go_enter Tryz.func201, Tryz.ntmps201
        go_wp2
        refine bodyPost_ret (v := .agg #[.slice (some ⟨b, o, none⟩) 1 c, .int .i64 0, .int .u64 0]) (by simp [results, Tryz.results201, go_sem]) rfl ⟨_, rfl, hv'.below (B := w.heap.size) ?_ (Nat.le_refl _), ?_, fun b hb ho => ho⟩
        · (repeat' (first | exact Below.refl _ _ | assumption | refine Below.drew ?_ | refine below_drewN ?_ _ | refine Below.alloc ?_ (by simp <;> omega) _ | refine Below.setCell ?_ (by simp <;> omega) _))
        · (repeat' (first | exact Below.refl _ _ | assumption | refine Below.drew ?_ | refine below_drewN ?_ _ | refine Below.alloc ?_ (by simp <;> omega) _ | refine Below.setCell ?_ (by simp <;> omega) _))
      · simp only [if_true, Int.sub_zero]
        go_enter Tryz.func201, Tryz.ntmps201
        go_wp2
        refine bodyPost_ret (v := .agg #[.slice (some ⟨w.heap.size + 1, 0, none⟩) 1 1, .int .i64 0, .int .u64 1]) (by simp [results, Tryz.results201, go_sem]) rfl ⟨_, rfl, sl_one (by go_simp; done) (by simp <;> omega), ?_, fun b hb _ => outOf_new (by omega)⟩
        (repeat' (first | exact Below.refl _ _ | assumption | refine Below.drew ?_ | refine below_drewN ?_ _ | refine Below.alloc ?_ (by simp <;> omega) _ | refine Below.setCell ?_ (by simp <;> omega) _))
      · simp only [show ¬ ((2 : Int) = 1) by decide, show ¬ ((0 : Int) = 1) by decide, if_false, if_true]
        go_enter Tryz.func201, Tryz.ntmps201
        go_wp2
        refine bodyPost_ret (v := .agg #[.slice (some ⟨b, o, none⟩) 1 c, .int .i64 0, .int .u64 0]) (by simp [results, Tryz.results201, go_sem]) rfl ⟨_, rfl, hv'.below (B := w.heap.size) ?_ (Nat.le_refl _), ?_, fun b hb ho => ho⟩
        · (repeat' (first | exact Below.refl _ _ | assumption | refine Below.drew ?_ | refine below_drewN ?_ _ | refine Below.alloc ?_ (by simp <;> omega) _ | refine Below.setCell ?_ (by simp <;> omega) _))
        · (repeat' (first | exact Below.refl _ _ | assumption | refine Below.drew ?_ | refine below_drewN ?_ _ | refine Below.alloc ?_ (by simp <;> omega) _ | refine Below.setCell ?_ (by simp <;> omega) _))
    · have hnot1 := F.not1 rfl
      clear F
      rcases hk with rfl | rfl | rfl
      · simp only [show ¬ ((0 : Int) = 1) by decide, show ¬ ((0 : Int) = 2) by decide, if_false]
        go_enter Tryz.func201, Tryz.ntmps201
        go_wp2
        refine bodyPost_ret (v := .agg #[.slice (some ⟨b, o, none⟩) 1 c, .int .i64 0, .int .u64 1]) (by simp [results, Tryz.results201, go_sem]) rfl ⟨_, rfl, hv'.below (B := w.heap.size) ?_ (Nat.le_refl _), ?_, fun b hb ho => ho⟩
        · (repeat' (first | exact Below.refl _ _ | assumption | refine Below.drew ?_ | refine below_drewN ?_ _ | refine Below.alloc ?_ (by simp <;> omega) _ | refine Below.setCell ?_ (by simp <;> omega) _))
        · (repeat' (first | exact Below.refl _ _ | assumption | refine Below.drew ?_ | refine below_drewN ?_ _ | refine Below.alloc ?_ (by simp <;> omega) _ | refine Below.setCell ?_ (by simp <;> omega) _))
      · simp only [show ¬ ((1 : Int) = 0) by decide, if_true, if_false, Int.sub_self]
        go_enter Tryz.func201, Tryz.ntmps201
        go_wp2
        refine bodyPost_ret (v := .agg #[.slice (some ⟨b, o, none⟩) 1 c, .int .i64 0, .int .u64 0]) (by simp [results, Tryz.results201, go_sem]) rfl ⟨_, rfl, hv'.below (B := w.heap.size) ?_ (Nat.le_refl _), ?_, fun b hb ho => ho⟩
        · (repeat' (first | exact Below.refl _ _ | assumption | refine Below.drew ?_ | refine below_drewN ?_ _ | refine Below.alloc ?_ (by simp <;> omega) _ | refine Below.setCell ?_ (by simp <;> omega) _))
        · (repeat' (first | exact Below.refl _ _ | assumption | refine Below.drew ?_ | refine below_drewN ?_ _ | refine Below.alloc ?_ (by simp <;> omega) _ | refine Below.setCell ?_ (by simp <;> omega) _))
      · simp only [show ¬ ((2 : Int) = 1) by decide, if_false, if_true]
        go_enter Tryz.func201, Tryz.ntmps201
        go_wp2
        refine bodyPost_ret (v := .agg #[.slice (some ⟨w.heap.size + 1, 0, none⟩) 1 1, .int .i64 0, .int .u64 1]) (by simp [results, Tryz.results201, go_sem]) rfl ⟨_, rfl, sl_one (by go_simp; done) (by simp <;> omega), ?_, fun b hb _ => outOf_new (by omega)⟩
        (repeat' (first | exact Below.refl _ _ | assumption | refine Below.drew ?_ | refine below_drewN ?_ _ | refine Below.alloc ?_ (by simp <;> omega) _ | refine Below.setCell ?_ (by simp <;> omega) _))
end Go.Proofs.YtmiimpmfkjcjlaaGreat
