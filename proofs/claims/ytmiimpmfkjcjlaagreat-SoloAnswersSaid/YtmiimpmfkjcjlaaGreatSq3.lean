/- Types of things (package seq) and the reference: New, Right, Kinds. -/
import Derived.Test.YtmiimpmfkjcjlaaGreatBun3
import Derived.Deep.OwnRows
namespace Go.Proofs.YtmiimpmfkjcjlaaGreat
open Go.RowKit
attribute [local go_sem] run_store_fn run_store_nilfn

def newL (n : Int) : List Int := if n = 0 ∨ n = 1 ∨ n = 4 ∨ n = 5 ∨ n = 6 then [0] else if n = 7 then List.replicate 8 0 else []
def rightB17 (n : Int) (k : Nat) : Bool := if n = 0 ∨ n = 1 ∨ n = 4 ∨ n = 5 ∨ n = 6 then decide (k = 1) else if n = 2 ∨ n = 3 then decide (k ≤ 8) else decide (n = 7) && decide (k = 8)

theorem sl_zero1 (w : World) (t : TypeId) (g : Nat) (hg : g = w.heap.size) : SlW (w.alloc (.cells #[.int .u64 0] t)) (.slice (some ⟨g, 0, none⟩) 1 1) [0] := by
  subst hg
  refine Sl.of_block (xs := [0]) (heap_alloc_new _ _) (Nat.le_refl 1) (by decide) ?_
  intro k x hx j u hu
  rcases k with _ | k
  · cases hx; rcases j with _ | j <;> first | exact hu | cases hu
  · cases hx
theorem sl_zero8 (w : World) (t : TypeId) (g : Nat) (hg : g = w.heap.size) : SlW (w.alloc (.cells #[.int .u64 0, .int .u64 0, .int .u64 0, .int .u64 0, .int .u64 0, .int .u64 0, .int .u64 0, .int .u64 0] t)) (.slice (some ⟨g, 0, none⟩) 8 8) [0, 0, 0, 0, 0, 0, 0, 0] := by
  subst hg
  refine Sl.of_block (xs := [0, 0, 0, 0, 0, 0, 0, 0]) (heap_alloc_new _ _) (Nat.le_refl 8) (by decide) ?_
  intro k x hx j u hu
  rcases k with _ | _ | _ | _ | _ | _ | _ | _ | k <;> first | (cases hx; rcases j with _ | j <;> first | exact hu | cases hu) | cases hx
theorem sl_nothing (w : World) (A : Option Addr) (c : Nat) (hc : c = 0) : SlW w (.slice A 0 c) [] := ⟨A, c, rfl, Nat.zero_le _, by subst hc; decide, fun k x hx => by simp at hx⟩

theorem make8 (w : World) : (Instr.makeSlice 24 (.int .i64 8) (.int .i64 8)).run Tryz.prog w = .ok (.slice (some ⟨w.heap.size, 0, none⟩) 8 8) (w.alloc (.cells #[.int .u64 0, .int .u64 0, .int .u64 0, .int .u64 0, .int .u64 0, .int .u64 0, .int .u64 0, .int .u64 0] 25)) :=
  by
  have h := run_make_row' (P := Tryz.prog) 24 25 (.int .u64 0) 8 Tryz.underlying24 info_word rfl .i64 .i64 8 (by decide) (by decide) w
  have hm : madeCells #[Value.int .u64 0] 8 = #[.int .u64 0, .int .u64 0, .int .u64 0, .int .u64 0, .int .u64 0, .int .u64 0, .int .u64 0, .int .u64 0] := by kernel_rfl
  rw [hm] at h
  exact h
theorem make1 (w : World) : (Instr.makeSlice 24 (.int .i64 1) (.int .i64 1)).run Tryz.prog w = .ok (.slice (some ⟨w.heap.size, 0, none⟩) 1 1) (w.alloc (.cells #[.int .u64 0] 25)) :=
  by
  have h := run_make_row' (P := Tryz.prog) 24 25 (.int .u64 0) 8 Tryz.underlying24 info_word rfl .i64 .i64 1 (by decide) (by decide) w
  have hm : madeCells #[Value.int .u64 0] 1 = #[.int .u64 0] := by kernel_rfl
  rw [hm] at h
  exact h
theorem make0 (w : World) : (Instr.makeSlice 24 (.int .i64 0) (.int .i64 0)).run Tryz.prog w = .ok (.slice (some ⟨w.heap.size, 0, none⟩) 0 0) (w.alloc (.cells #[] 25)) :=
  by
  have h := run_make_row' (P := Tryz.prog) 24 25 (.int .u64 0) 8 Tryz.underlying24 info_word rfl .i64 .i64 0 (by decide) (by decide) w
  have hm : madeCells #[Value.int .u64 0] 0 = #[] := by kernel_rfl
  rw [hm] at h
  exact h

set_option maxRecDepth 100000 in
set_option maxHeartbeats 1000000 in
theorem refNew_any (n : Int) (w : World) : Calls Tryz.prog 42 #[.int .i64 n] w fun e w' => ∃ v, e = .returned v ∧ SlW w' v (newL n) ∧ Below w.heap.size w w' := by
  rcases cases8 n with (rfl | rfl | rfl | rfl | rfl | rfl | rfl | rfl) | hn
  iterate 8
    · go_enter Tryz.func42, Tryz.ntmps42
      have mk8 := make8
      go_wp2
      go_ret
      exact ⟨_, rfl, by first | exact sl_zero1 _ _ _ (by simp) | exact sl_zero8 _ _ _ (by simp) | exact sl_nothing _ _ _ rfl, by (repeat' (first | exact Below.refl _ _ | assumption | refine Below.drew ?_ | refine below_drewN ?_ _ | refine Below.alloc ?_ (by simp <;> omega) _ | refine Below.setCell ?_ (by simp <;> omega) _))⟩
  · have hk : newL n = [] := by unfold newL; rw [if_neg (by omega), if_neg (by omega)]
    rw [hk]
    have e0 : (n == 0) = false := by simp; omega
    have e1 : (n == 1) = false := by simp; omega
    have e2 : (n == 2) = false := by simp; omega
    have e3 : (n == 3) = false := by simp; omega
    have e4 : (n == 4) = false := by simp; omega
    have e5 : (n == 5) = false := by simp; omega
    have e6 : (n == 6) = false := by simp; omega
    have e7 : (n == 7) = false := by simp; omega
    clear hk
    go_enter Tryz.func42, Tryz.ntmps42
    have mk8 := make8
    go_wp2
    go_ret
    exact ⟨_, rfl, by first | exact sl_zero1 _ _ _ (by simp) | exact sl_zero8 _ _ _ (by simp) | exact sl_nothing _ _ _ rfl, by (repeat' (first | exact Below.refl _ _ | assumption | refine Below.drew ?_ | refine below_drewN ?_ _ | refine Below.alloc ?_ (by simp <;> omega) _ | refine Below.setCell ?_ (by simp <;> omega) _))⟩

set_option maxRecDepth 100000 in
set_option maxHeartbeats 1000000 in
theorem new_any (n : Int) (w : World) : Calls Tryz.prog 37 #[.int .i64 n] w fun e w' => ∃ v, e = .returned v ∧ SlW w' v (newL n) ∧ Below w.heap.size w w' := by
  have P := fun W => of_any n W
  have mk8 := make8
  have mk1 := make1
  have mk0 := make0
  rcases cases8 n with (rfl | rfl | rfl | rfl | rfl | rfl | rfl | rfl) | hn
  · have hk : kindsI 0 = 2 := by decide
    have hw : wordsI 0 = 1 := by decide
    rw [hk, hw] at P
    go_enter Tryz.func37, Tryz.ntmps37
    go_wp2_with (go_at_call 72; refine (P _).mono ?_; rintro e w1 ⟨fv, rfl, hone, hfn, hb1⟩; have hst : ∀ (w : World) (a : Addr) (m : Mode), (store a fv m).run Tryz.prog w = stored Tryz.prog w a fv m := fun w a m => run_store _ w a fv m hone)
    go_ret
    exact ⟨_, rfl, by first | exact sl_zero1 _ _ _ (by simp) | exact sl_zero8 _ _ _ (by simp) | exact sl_nothing _ _ _ rfl, (hb1.alloc hb1.size _).alloc (by have := hb1.size; simp; omega) _⟩
  · have hk : kindsI 1 = 2 := by decide
    have hw : wordsI 1 = 1 := by decide
    rw [hk, hw] at P
    go_enter Tryz.func37, Tryz.ntmps37
    go_wp2_with (go_at_call 72; refine (P _).mono ?_; rintro e w1 ⟨fv, rfl, hone, hfn, hb1⟩; have hst : ∀ (w : World) (a : Addr) (m : Mode), (store a fv m).run Tryz.prog w = stored Tryz.prog w a fv m := fun w a m => run_store _ w a fv m hone)
    go_ret
    exact ⟨_, rfl, by first | exact sl_zero1 _ _ _ (by simp) | exact sl_zero8 _ _ _ (by simp) | exact sl_nothing _ _ _ rfl, (hb1.alloc hb1.size _).alloc (by have := hb1.size; simp; omega) _⟩
  · have hk : kindsI 2 = 3 := by decide
    have hw : wordsI 2 = -1 := by decide
    rw [hk, hw] at P
    go_enter Tryz.func37, Tryz.ntmps37
    go_wp2_with (go_at_call 72; refine (P _).mono ?_; rintro e w1 ⟨fv, rfl, hone, hfn, hb1⟩; have hst : ∀ (w : World) (a : Addr) (m : Mode), (store a fv m).run Tryz.prog w = stored Tryz.prog w a fv m := fun w a m => run_store _ w a fv m hone)
    go_ret
    exact ⟨_, rfl, by first | exact sl_zero1 _ _ _ (by simp) | exact sl_zero8 _ _ _ (by simp) | exact sl_nothing _ _ _ rfl, (hb1.alloc hb1.size _).alloc (by have := hb1.size; simp; omega) _⟩
  · have hk : kindsI 3 = 3 := by decide
    have hw : wordsI 3 = -1 := by decide
    rw [hk, hw] at P
    go_enter Tryz.func37, Tryz.ntmps37
    go_wp2_with (go_at_call 72; refine (P _).mono ?_; rintro e w1 ⟨fv, rfl, hone, hfn, hb1⟩; have hst : ∀ (w : World) (a : Addr) (m : Mode), (store a fv m).run Tryz.prog w = stored Tryz.prog w a fv m := fun w a m => run_store _ w a fv m hone)
    go_ret
    exact ⟨_, rfl, by first | exact sl_zero1 _ _ _ (by simp) | exact sl_zero8 _ _ _ (by simp) | exact sl_nothing _ _ _ rfl, (hb1.alloc hb1.size _).alloc (by have := hb1.size; simp; omega) _⟩
  · have hk : kindsI 4 = 3 := by decide
    have hw : wordsI 4 = 1 := by decide
    rw [hk, hw] at P
    go_enter Tryz.func37, Tryz.ntmps37
    go_wp2_with (go_at_call 72; refine (P _).mono ?_; rintro e w1 ⟨fv, rfl, hone, hfn, hb1⟩; have hst : ∀ (w : World) (a : Addr) (m : Mode), (store a fv m).run Tryz.prog w = stored Tryz.prog w a fv m := fun w a m => run_store _ w a fv m hone)
    go_ret
    exact ⟨_, rfl, by first | exact sl_zero1 _ _ _ (by simp) | exact sl_zero8 _ _ _ (by simp) | exact sl_nothing _ _ _ rfl, (hb1.alloc hb1.size _).alloc (by have := hb1.size; simp; omega) _⟩
  · have hk : kindsI 5 = 2 := by decide
    have hw : wordsI 5 = 1 := by decide
    rw [hk, hw] at P
    go_enter Tryz.func37, Tryz.ntmps37
    go_wp2_with (go_at_call 72; refine (P _).mono ?_; rintro e w1 ⟨fv, rfl, hone, hfn, hb1⟩; have hst : ∀ (w : World) (a : Addr) (m : Mode), (store a fv m).run Tryz.prog w = stored Tryz.prog w a fv m := fun w a m => run_store _ w a fv m hone)
    go_ret
    exact ⟨_, rfl, by first | exact sl_zero1 _ _ _ (by simp) | exact sl_zero8 _ _ _ (by simp) | exact sl_nothing _ _ _ rfl, (hb1.alloc hb1.size _).alloc (by have := hb1.size; simp; omega) _⟩
  · have hk : kindsI 6 = 2 := by decide
    have hw : wordsI 6 = 1 := by decide
    rw [hk, hw] at P
    go_enter Tryz.func37, Tryz.ntmps37
    go_wp2_with (go_at_call 72; refine (P _).mono ?_; rintro e w1 ⟨fv, rfl, hone, hfn, hb1⟩; have hst : ∀ (w : World) (a : Addr) (m : Mode), (store a fv m).run Tryz.prog w = stored Tryz.prog w a fv m := fun w a m => run_store _ w a fv m hone)
    go_ret
    exact ⟨_, rfl, by first | exact sl_zero1 _ _ _ (by simp) | exact sl_zero8 _ _ _ (by simp) | exact sl_nothing _ _ _ rfl, (hb1.alloc hb1.size _).alloc (by have := hb1.size; simp; omega) _⟩
  · have hk : kindsI 7 = 2 := by decide
    have hw : wordsI 7 = 8 := by decide
    rw [hk, hw] at P
    go_enter Tryz.func37, Tryz.ntmps37
    go_wp2_with (go_at_call 72; refine (P _).mono ?_; rintro e w1 ⟨fv, rfl, hone, hfn, hb1⟩; have hst : ∀ (w : World) (a : Addr) (m : Mode), (store a fv m).run Tryz.prog w = stored Tryz.prog w a fv m := fun w a m => run_store _ w a fv m hone)
    go_ret
    exact ⟨_, rfl, by first | exact sl_zero1 _ _ _ (by simp) | exact sl_zero8 _ _ _ (by simp) | exact sl_nothing _ _ _ rfl, (hb1.alloc hb1.size _).alloc (by have := hb1.size; simp; omega) _⟩
  · have hk : kindsI n = 0 := by unfold kindsI; rw [if_neg (by omega), if_neg (by omega)]
    have hw : wordsI n = 0 := by unfold wordsI; rw [if_neg (by omega), if_neg (by omega), if_neg (by omega)]
    have hl : newL n = [] := by unfold newL; rw [if_neg (by omega), if_neg (by omega)]
    rw [hl]
    clear hl
    rw [hk, hw] at P
    go_enter Tryz.func37, Tryz.ntmps37
    go_wp2_with (go_at_call 72; refine (P _).mono ?_; rintro e w1 ⟨fv, rfl, hone, hfn, hb1⟩; have hst : ∀ (w : World) (a : Addr) (m : Mode), (store a fv m).run Tryz.prog w = stored Tryz.prog w a fv m := fun w a m => run_store _ w a fv m hone)
    go_ret
    exact ⟨_, rfl, by first | exact sl_zero1 _ _ _ (by simp) | exact sl_zero8 _ _ _ (by simp) | exact sl_nothing _ _ _ rfl, (hb1.alloc hb1.size _).alloc (by have := hb1.size; simp; omega) _⟩
end Go.Proofs.YtmiimpmfkjcjlaaGreat
