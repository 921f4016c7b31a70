/- Types of things (package seq) and the reference: which states may be. -/
/- Types of things (package seq): what the operations do. -/
import Derived.Test.YtmiimpmfkjcjlaaGreatSq3
namespace Go.Proofs.YtmiimpmfkjcjlaaGreat
open Go.RowKit
attribute [local go_sem] run_store_fn run_store_nilfn

set_option maxRecDepth 100000 in
set_option maxHeartbeats 1000000 in
theorem right0 (A : Option Addr) (k c : Nat) (w : World) : Calls Tryz.prog 39 #[.int .i64 0, .slice A k c] w fun e w' => e = .returned (.bool (rightB17 0 k)) ∧ Below w.heap.size w w' := by
  have P := fun W => of_any 0 W
  have hk : kindsI 0 = 2 := by decide
  have hw : wordsI 0 = 1 := by decide
  rw [hk, hw] at P
  by_cases h1 : k = 1
  · have e1 : ((k : Int) == 1) = true := by simp; omega
    have hr : rightB17 0 k = true := by subst h1; decide
    rw [hr]
    clear hr h1
    go_enter Tryz.func39, Tryz.ntmps39
    go_wp2_with (go_at_call 72; refine (P _).mono ?_; rintro e w1 ⟨fv, rfl, hone, hfn, hb1⟩; have hst : ∀ (w : World) (a : Addr) (m : Mode), (store a fv m).run Tryz.prog w = stored Tryz.prog w a fv m := fun w a m => run_store _ w a fv m hone)
    go_ret
    exact ⟨ret_bool (by first | rfl | (simp; done) | (simp <;> omega)), hb1.alloc hb1.size _⟩
  · have e1 : ((k : Int) == 1) = false := by simp; omega
    have hr : rightB17 0 k = false := by unfold rightB17; simp [h1]
    rw [hr]
    clear hr h1
    go_enter Tryz.func39, Tryz.ntmps39
    go_wp2_with (go_at_call 72; refine (P _).mono ?_; rintro e w1 ⟨fv, rfl, hone, hfn, hb1⟩; have hst : ∀ (w : World) (a : Addr) (m : Mode), (store a fv m).run Tryz.prog w = stored Tryz.prog w a fv m := fun w a m => run_store _ w a fv m hone)
    go_ret
    exact ⟨ret_bool (by first | rfl | (simp; done) | (simp <;> omega)), hb1.alloc hb1.size _⟩
set_option maxRecDepth 100000 in
set_option maxHeartbeats 1000000 in
theorem right1 (A : Option Addr) (k c : Nat) (w : World) : Calls Tryz.prog 39 #[.int .i64 1, .slice A k c] w fun e w' => e = .returned (.bool (rightB17 1 k)) ∧ Below w.heap.size w w' := by
  have P := fun W => of_any 1 W
  have hk : kindsI 1 = 2 := by decide
  have hw : wordsI 1 = 1 := by decide
  rw [hk, hw] at P
  by_cases h1 : k = 1
  · have e1 : ((k : Int) == 1) = true := by simp; omega
    have hr : rightB17 1 k = true := by subst h1; decide
    rw [hr]
    clear hr h1
    go_enter Tryz.func39, Tryz.ntmps39
    go_wp2_with (go_at_call 72; refine (P _).mono ?_; rintro e w1 ⟨fv, rfl, hone, hfn, hb1⟩; have hst : ∀ (w : World) (a : Addr) (m : Mode), (store a fv m).run Tryz.prog w = stored Tryz.prog w a fv m := fun w a m => run_store _ w a fv m hone)
    go_ret
    exact ⟨ret_bool (by first | rfl | (simp; done) | (simp <;> omega)), hb1.alloc hb1.size _⟩
  · have e1 : ((k : Int) == 1) = false := by simp; omega
    have hr : rightB17 1 k = false := by unfold rightB17; simp [h1]
    rw [hr]
    clear hr h1
    go_enter Tryz.func39, Tryz.ntmps39
    go_wp2_with (go_at_call 72; refine (P _).mono ?_; rintro e w1 ⟨fv, rfl, hone, hfn, hb1⟩; have hst : ∀ (w : World) (a : Addr) (m : Mode), (store a fv m).run Tryz.prog w = stored Tryz.prog w a fv m := fun w a m => run_store _ w a fv m hone)
    go_ret
    exact ⟨ret_bool (by first | rfl | (simp; done) | (simp <;> omega)), hb1.alloc hb1.size _⟩
set_option maxRecDepth 100000 in
set_option maxHeartbeats 1000000 in
theorem right2 (A : Option Addr) (k c : Nat) (w : World) : Calls Tryz.prog 39 #[.int .i64 2, .slice A k c] w fun e w' => e = .returned (.bool (rightB17 2 k)) ∧ Below w.heap.size w w' := by
  have P := fun W => of_any 2 W
  have hk : kindsI 2 = 3 := by decide
  have hw : wordsI 2 = -1 := by decide
  rw [hk, hw] at P
  have e1 : ((k : Int) == -1) = false := by simp
  by_cases h1 : k ≤ 8
  · have e2 : decide ((k : Int) ≤ 8) = true := by simp; omega
    have hr : rightB17 2 k = true := by unfold rightB17; simp [h1]
    rw [hr]
    clear hr
    go_enter Tryz.func39, Tryz.ntmps39
    go_wp2_with (go_at_call 72; refine (P _).mono ?_; rintro e w1 ⟨fv, rfl, hone, hfn, hb1⟩; have hst : ∀ (w : World) (a : Addr) (m : Mode), (store a fv m).run Tryz.prog w = stored Tryz.prog w a fv m := fun w a m => run_store _ w a fv m hone)
    go_ret
    exact ⟨ret_bool (by first | rfl | (simp; done) | (simp <;> omega)), hb1.alloc hb1.size _⟩
  · have e2 : decide ((k : Int) ≤ 8) = false := by simp; omega
    have hr : rightB17 2 k = false := by unfold rightB17; simp; omega
    rw [hr]
    clear hr
    go_enter Tryz.func39, Tryz.ntmps39
    go_wp2_with (go_at_call 72; refine (P _).mono ?_; rintro e w1 ⟨fv, rfl, hone, hfn, hb1⟩; have hst : ∀ (w : World) (a : Addr) (m : Mode), (store a fv m).run Tryz.prog w = stored Tryz.prog w a fv m := fun w a m => run_store _ w a fv m hone)
    go_ret
    exact ⟨ret_bool (by first | rfl | (simp; done) | (simp <;> omega)), hb1.alloc hb1.size _⟩
set_option maxRecDepth 100000 in
set_option maxHeartbeats 1000000 in
theorem right3 (A : Option Addr) (k c : Nat) (w : World) : Calls Tryz.prog 39 #[.int .i64 3, .slice A k c] w fun e w' => e = .returned (.bool (rightB17 3 k)) ∧ Below w.heap.size w w' := by
  have P := fun W => of_any 3 W
  have hk : kindsI 3 = 3 := by decide
  have hw : wordsI 3 = -1 := by decide
  rw [hk, hw] at P
  have e1 : ((k : Int) == -1) = false := by simp
  by_cases h1 : k ≤ 8
  · have e2 : decide ((k : Int) ≤ 8) = true := by simp; omega
    have hr : rightB17 3 k = true := by unfold rightB17; simp [h1]
    rw [hr]
    clear hr
    go_enter Tryz.func39, Tryz.ntmps39
    go_wp2_with (go_at_call 72; refine (P _).mono ?_; rintro e w1 ⟨fv, rfl, hone, hfn, hb1⟩; have hst : ∀ (w : World) (a : Addr) (m : Mode), (store a fv m).run Tryz.prog w = stored Tryz.prog w a fv m := fun w a m => run_store _ w a fv m hone)
    go_ret
    exact ⟨ret_bool (by first | rfl | (simp; done) | (simp <;> omega)), hb1.alloc hb1.size _⟩
  · have e2 : decide ((k : Int) ≤ 8) = false := by simp; omega
    have hr : rightB17 3 k = false := by unfold rightB17; simp; omega
    rw [hr]
    clear hr
    go_enter Tryz.func39, Tryz.ntmps39
    go_wp2_with (go_at_call 72; refine (P _).mono ?_; rintro e w1 ⟨fv, rfl, hone, hfn, hb1⟩; have hst : ∀ (w : World) (a : Addr) (m : Mode), (store a fv m).run Tryz.prog w = stored Tryz.prog w a fv m := fun w a m => run_store _ w a fv m hone)
    go_ret
    exact ⟨ret_bool (by first | rfl | (simp; done) | (simp <;> omega)), hb1.alloc hb1.size _⟩
set_option maxRecDepth 100000 in
set_option maxHeartbeats 1000000 in
theorem right4 (A : Option Addr) (k c : Nat) (w : World) : Calls Tryz.prog 39 #[.int .i64 4, .slice A k c] w fun e w' => e = .returned (.bool (rightB17 4 k)) ∧ Below w.heap.size w w' := by
  have P := fun W => of_any 4 W
  have hk : kindsI 4 = 3 := by decide
  have hw : wordsI 4 = 1 := by decide
  rw [hk, hw] at P
  by_cases h1 : k = 1
  · have e1 : ((k : Int) == 1) = true := by simp; omega
    have hr : rightB17 4 k = true := by subst h1; decide
    rw [hr]
    clear hr h1
    go_enter Tryz.func39, Tryz.ntmps39
    go_wp2_with (go_at_call 72; refine (P _).mono ?_; rintro e w1 ⟨fv, rfl, hone, hfn, hb1⟩; have hst : ∀ (w : World) (a : Addr) (m : Mode), (store a fv m).run Tryz.prog w = stored Tryz.prog w a fv m := fun w a m => run_store _ w a fv m hone)
    go_ret
    exact ⟨ret_bool (by first | rfl | (simp; done) | (simp <;> omega)), hb1.alloc hb1.size _⟩
  · have e1 : ((k : Int) == 1) = false := by simp; omega
    have hr : rightB17 4 k = false := by unfold rightB17; simp [h1]
    rw [hr]
    clear hr h1
    go_enter Tryz.func39, Tryz.ntmps39
    go_wp2_with (go_at_call 72; refine (P _).mono ?_; rintro e w1 ⟨fv, rfl, hone, hfn, hb1⟩; have hst : ∀ (w : World) (a : Addr) (m : Mode), (store a fv m).run Tryz.prog w = stored Tryz.prog w a fv m := fun w a m => run_store _ w a fv m hone)
    go_ret
    exact ⟨ret_bool (by first | rfl | (simp; done) | (simp <;> omega)), hb1.alloc hb1.size _⟩
set_option maxRecDepth 100000 in
set_option maxHeartbeats 1000000 in
theorem right5 (A : Option Addr) (k c : Nat) (w : World) : Calls Tryz.prog 39 #[.int .i64 5, .slice A k c] w fun e w' => e = .returned (.bool (rightB17 5 k)) ∧ Below w.heap.size w w' := by
  have P := fun W => of_any 5 W
  have hk : kindsI 5 = 2 := by decide
  have hw : wordsI 5 = 1 := by decide
  rw [hk, hw] at P
  by_cases h1 : k = 1
  · have e1 : ((k : Int) == 1) = true := by simp; omega
    have hr : rightB17 5 k = true := by subst h1; decide
    rw [hr]
    clear hr h1
    go_enter Tryz.func39, Tryz.ntmps39
    go_wp2_with (go_at_call 72; refine (P _).mono ?_; rintro e w1 ⟨fv, rfl, hone, hfn, hb1⟩; have hst : ∀ (w : World) (a : Addr) (m : Mode), (store a fv m).run Tryz.prog w = stored Tryz.prog w a fv m := fun w a m => run_store _ w a fv m hone)
    go_ret
    exact ⟨ret_bool (by first | rfl | (simp; done) | (simp <;> omega)), hb1.alloc hb1.size _⟩
  · have e1 : ((k : Int) == 1) = false := by simp; omega
    have hr : rightB17 5 k = false := by unfold rightB17; simp [h1]
    rw [hr]
    clear hr h1
    go_enter Tryz.func39, Tryz.ntmps39
    go_wp2_with (go_at_call 72; refine (P _).mono ?_; rintro e w1 ⟨fv, rfl, hone, hfn, hb1⟩; have hst : ∀ (w : World) (a : Addr) (m : Mode), (store a fv m).run Tryz.prog w = stored Tryz.prog w a fv m := fun w a m => run_store _ w a fv m hone)
    go_ret
    exact ⟨ret_bool (by first | rfl | (simp; done) | (simp <;> omega)), hb1.alloc hb1.size _⟩
set_option maxRecDepth 100000 in
set_option maxHeartbeats 1000000 in
theorem right6 (A : Option Addr) (k c : Nat) (w : World) : Calls Tryz.prog 39 #[.int .i64 6, .slice A k c] w fun e w' => e = .returned (.bool (rightB17 6 k)) ∧ Below w.heap.size w w' := by
  have P := fun W => of_any 6 W
  have hk : kindsI 6 = 2 := by decide
  have hw : wordsI 6 = 1 := by decide
  rw [hk, hw] at P
  by_cases h1 : k = 1
  · have e1 : ((k : Int) == 1) = true := by simp; omega
    have hr : rightB17 6 k = true := by subst h1; decide
    rw [hr]
    clear hr h1
    go_enter Tryz.func39, Tryz.ntmps39
    go_wp2_with (go_at_call 72; refine (P _).mono ?_; rintro e w1 ⟨fv, rfl, hone, hfn, hb1⟩; have hst : ∀ (w : World) (a : Addr) (m : Mode), (store a fv m).run Tryz.prog w = stored Tryz.prog w a fv m := fun w a m => run_store _ w a fv m hone)
    go_ret
    exact ⟨ret_bool (by first | rfl | (simp; done) | (simp <;> omega)), hb1.alloc hb1.size _⟩
  · have e1 : ((k : Int) == 1) = false := by simp; omega
    have hr : rightB17 6 k = false := by unfold rightB17; simp [h1]
    rw [hr]
    clear hr h1
    go_enter Tryz.func39, Tryz.ntmps39
    go_wp2_with (go_at_call 72; refine (P _).mono ?_; rintro e w1 ⟨fv, rfl, hone, hfn, hb1⟩; have hst : ∀ (w : World) (a : Addr) (m : Mode), (store a fv m).run Tryz.prog w = stored Tryz.prog w a fv m := fun w a m => run_store _ w a fv m hone)
    go_ret
    exact ⟨ret_bool (by first | rfl | (simp; done) | (simp <;> omega)), hb1.alloc hb1.size _⟩
set_option maxRecDepth 100000 in
set_option maxHeartbeats 1000000 in
theorem right7 (A : Option Addr) (k c : Nat) (w : World) : Calls Tryz.prog 39 #[.int .i64 7, .slice A k c] w fun e w' => e = .returned (.bool (rightB17 7 k)) ∧ Below w.heap.size w w' := by
  have P := fun W => of_any 7 W
  have hk : kindsI 7 = 2 := by decide
  have hw : wordsI 7 = 8 := by decide
  rw [hk, hw] at P
  by_cases h1 : k = 8
  · have e1 : ((k : Int) == 8) = true := by simp; omega
    have hr : rightB17 7 k = true := by subst h1; decide
    rw [hr]
    clear hr h1
    go_enter Tryz.func39, Tryz.ntmps39
    go_wp2_with (go_at_call 72; refine (P _).mono ?_; rintro e w1 ⟨fv, rfl, hone, hfn, hb1⟩; have hst : ∀ (w : World) (a : Addr) (m : Mode), (store a fv m).run Tryz.prog w = stored Tryz.prog w a fv m := fun w a m => run_store _ w a fv m hone)
    go_ret
    exact ⟨ret_bool (by first | rfl | (simp; done) | (simp <;> omega)), hb1.alloc hb1.size _⟩
  · have e1 : ((k : Int) == 8) = false := by simp; omega
    have hr : rightB17 7 k = false := by unfold rightB17; simp [h1]
    rw [hr]
    clear hr h1
    go_enter Tryz.func39, Tryz.ntmps39
    go_wp2_with (go_at_call 72; refine (P _).mono ?_; rintro e w1 ⟨fv, rfl, hone, hfn, hb1⟩; have hst : ∀ (w : World) (a : Addr) (m : Mode), (store a fv m).run Tryz.prog w = stored Tryz.prog w a fv m := fun w a m => run_store _ w a fv m hone)
    go_ret
    exact ⟨ret_bool (by first | rfl | (simp; done) | (simp <;> omega)), hb1.alloc hb1.size _⟩
set_option maxRecDepth 100000 in
theorem right_none (A : Option Addr) (k c : Nat) (n : Int) (hn : ¬ (0 ≤ n ∧ n ≤ 7)) (w : World) : Calls Tryz.prog 39 #[.int .i64 n, .slice A k c] w fun e w' => e = .returned (.bool (rightB17 n k)) ∧ Below w.heap.size w w' := by
  have P := fun W => of_any n W
  have hr : rightB17 n k = false := by unfold rightB17; rw [if_neg (by omega), if_neg (by omega)]; simp; omega
  have hd : decide (0 ≤ n ∧ n ≤ 7) = false := decide_eq_false hn
  rw [hd] at P
  rw [hr]
  clear hr hn hd
  go_enter Tryz.func39, Tryz.ntmps39
  go_wp2_with (go_at_call 72; refine (P _).mono ?_; rintro e w1 ⟨fv, rfl, hone, hfn, hb1⟩; have hst : ∀ (w : World) (a : Addr) (m : Mode), (store a fv m).run Tryz.prog w = stored Tryz.prog w a fv m := fun w a m => run_store _ w a fv m hone)
  go_ret
  exact ⟨ret_bool (by first | rfl | (simp; done) | (simp <;> omega)), hb1.alloc hb1.size _⟩

theorem right_any (v : Value) (xs : List Int) (n : Int) (w : World) (h : SlW w v xs) : Calls Tryz.prog 39 #[.int .i64 n, v] w fun e w' => e = .returned (.bool (rightB17 n xs.length)) ∧ Below w.heap.size w w' := by
  obtain ⟨A, c, rfl, _, _, _⟩ := h
  rcases cases8 n with (rfl | rfl | rfl | rfl | rfl | rfl | rfl | rfl) | hn
  · exact right0 A _ c w
  · exact right1 A _ c w
  · exact right2 A _ c w
  · exact right3 A _ c w
  · exact right4 A _ c w
  · exact right5 A _ c w
  · exact right6 A _ c w
  · exact right7 A _ c w
  · exact right_none A _ c n hn w

set_option maxRecDepth 100000 in
set_option maxHeartbeats 1000000 in
theorem refRight17 (v : Value) (xs : List Int) (n : Int) (w : World) (h : SlW w v xs) : Calls Tryz.prog 43 #[.int .i64 n, v] w fun e w' => e = .returned (.bool (rightB17 n xs.length)) ∧ Below w.heap.size w w' := by
  obtain ⟨A, c, rfl, h1, h2, h3⟩ := h
  have hm : (xs.length : Int) ≤ 9223372036854775807 := by unfold maxLen at h2; omega
  generalize xs.length = k at *
  clear h1 h2 h3
  obtain ⟨R, hR⟩ : ∃ R, rightB17 n k = R := ⟨_, rfl⟩
  rw [hR]
  unfold rightB17 at hR
  rcases cases8 n with (rfl | rfl | rfl | rfl | rfl | rfl | rfl | rfl) | hn
  iterate 8
    · simp at hR
      subst hR
      go_enter Tryz.func43, Tryz.ntmps43
      go_wp2
      go_ret
      exact ⟨ret_bool (by first | rfl | (simp; done) | omega | (rw [Bool.eq_iff_iff]; simp; omega)), by (repeat' (first | exact Below.refl _ _ | assumption | refine Below.drew ?_ | refine below_drewN ?_ _ | refine Below.alloc ?_ (by simp <;> omega) _ | refine Below.setCell ?_ (by simp <;> omega) _))⟩
  · rw [if_neg (by omega), if_neg (by omega), decide_eq_false (by omega : ¬ n = 7)] at hR
    simp at hR
    subst hR
    have e0 : (n == 0) = false := by simp; omega
    have e1 : (n == 1) = false := by simp; omega
    have e2 : (n == 2) = false := by simp; omega
    have e3 : (n == 3) = false := by simp; omega
    have e4 : (n == 4) = false := by simp; omega
    have e5 : (n == 5) = false := by simp; omega
    have e6 : (n == 6) = false := by simp; omega
    have e7 : (n == 7) = false := by simp; omega
    clear hn
    go_enter Tryz.func43, Tryz.ntmps43
    go_wp2
    go_ret
    exact ⟨ret_bool (by first | rfl | (simp; done) | omega | (rw [Bool.eq_iff_iff]; simp; omega)), by (repeat' (first | exact Below.refl _ _ | assumption | refine Below.drew ?_ | refine below_drewN ?_ _ | refine Below.alloc ?_ (by simp <;> omega) _ | refine Below.setCell ?_ (by simp <;> omega) _))⟩
end Go.Proofs.YtmiimpmfkjcjlaaGreat

namespace Go.Proofs.YtmiimpmfkjcjlaaGreat
open Go.RowKit
attribute [local go_sem] run_store_fn run_store_nilfn

theorem next1 (v a : Int) (w : World) : Calls Tryz.prog 134 #[.int .u64 v, .int .u64 a] w fun e w' => e = .returned (.int .u64 a) ∧ w' = w := by
  go_enter Tryz.func134, Tryz.ntmps134
  go_wp2
  go_ret
  exact ⟨rfl, rfl⟩
theorem next2 (v a : Int) (w : World) : Calls Tryz.prog 135 #[.int .u64 v, .int .u64 a] w fun e w' => e = .returned (.int .u64 (IntKind.u64.wrap (v + a))) ∧ w' = w := by
  go_enter Tryz.func135, Tryz.ntmps135
  go_wp2
  go_ret
  exact ⟨rfl, rfl⟩
theorem next5 (v a : Int) (w : World) : Calls Tryz.prog 140 #[.int .u64 v, .int .u64 a] w fun e w' => e = .returned (.int .u64 (max v a)) ∧ w' = w := by
  by_cases h : v < a
  · rw [show max v a = a by omega]
    go_enter Tryz.func140, Tryz.ntmps140
    go_wp2
    go_ret
    exact ⟨rfl, rfl⟩
  · rw [show max v a = v by omega]
    go_enter Tryz.func140, Tryz.ntmps140
    go_wp2
    go_ret
    exact ⟨rfl, rfl⟩

theorem sl_one {w : World} {g : Nat} {y : Int} (h : w.cell? ⟨g, 0, none⟩ = some (.int .u64 y)) (hg : g < w.heap.size) : SlW w (.slice (some ⟨g, 0, none⟩) 1 1) [y] := by
  refine ⟨_, 1, rfl, Nat.le_refl 1, by decide, fun k x hx => ?_⟩
  rcases k with _ | k
  · cases hx
    refine ⟨g, 0, rfl, hg, fun j u hu => ?_⟩
    rcases j with _ | j
    · cases hu; exact h
    · cases hu
  · cases hx

set_option maxRecDepth 100000 in
set_option maxHeartbeats 1000000 in
theorem one1 (f : Nat) (nx : Int → Int → Int) (hf : ∀ v a w, Calls Tryz.prog f #[.int .u64 v, .int .u64 a] w fun e w' => e = .returned (.int .u64 (nx v a)) ∧ w' = w)
    (hent : ∀ args w, (callFunc f args).run Tryz.prog w = .ok (.enter f args) w) (v : Value) (x kind a : Int) (B : Nat) (w : World) (hv : SlW w v [x]) (hB : w.cell? ⟨B, 0, none⟩ = some (.func (.func f) #[] #[])) (hBl : B < w.heap.size) :
    Calls Tryz.prog 190 #[v, .int .i64 kind, .int .u64 a, .pointer (some ⟨B, 0, none⟩)] w fun e w' => ∃ u, e = .returned (.tuple #[u, .agg #[.int .i64 0, .int .u64 x, .slice none 0 0]]) ∧ SlW w' u (if kind = 0 then [x] else [nx x a]) ∧ Below w.heap.size w w' := by
  have hv' := hv
  obtain ⟨A, c, rfl, h1, h2, h3⟩ := hv
  obtain ⟨b, o, rfl, hb, hc⟩ := h3 0 x rfl
  have c0 := nt_cell hc
  simp only [Nat.zero_mul, Nat.add_zero] at c0
  clear h3 hc
  by_cases hk : kind = 0
  · have e0 : (kind == 0) = true := by simp [hk]
    rw [if_pos hk]
    clear hk
    go_enter Tryz.func190, Tryz.ntmps190
    go_wp2_with (go_at_call 191; refine (ok_any _ _).mono ?_; rintro e w1 ⟨rfl, rfl⟩)
    refine bodyPost_ret (v := .tuple #[.slice (some ⟨b, o, none⟩) 1 c, .agg #[.int .i64 0, .int .u64 x, .slice none 0 0]]) (by simp [results, Tryz.results190, go_sem]) rfl ⟨_, rfl, hv'.below (B := w.heap.size) ?_ (Nat.le_refl _), ?_⟩
    · (repeat' (first | exact Below.refl _ _ | assumption | refine Below.drew ?_ | refine below_drewN ?_ _ | refine Below.alloc ?_ (by simp <;> omega) _ | refine Below.setCell ?_ (by simp <;> omega) _))
    · (repeat' (first | exact Below.refl _ _ | assumption | refine Below.drew ?_ | refine below_drewN ?_ _ | refine Below.alloc ?_ (by simp <;> omega) _ | refine Below.setCell ?_ (by simp <;> omega) _))
  · have e0 : (kind == 0) = false := by simp [hk]
    rw [if_neg hk]
    clear hk
    go_enter Tryz.func190, Tryz.ntmps190
    go_wp2
    refine wp_region_seq (fun w' => Below w.heap.size w w') (.take 0 <| .take 1 <| .take 2 <| .take 3 <| .take 4 <| .take 7 <| .take 8 <| .take 9 <| .run 5 <| .fork 6 (.run 10 <| .take 11 <| .run 12 <| .done) 10 (.run 6 <| .take 11 <| .run 12 <| .done)) (by kernel_rfl) (by kernel_rfl) (by kernel_rfl) (by (repeat' (first | exact Below.refl _ _ | assumption | refine Below.drew ?_ | refine below_drewN ?_ _ | refine Below.alloc ?_ (by simp <;> omega) _ | refine Below.setCell ?_ (by simp <;> omega) _))) ?_
    repeat (first | (refine seq_take (v := ?_) rfl (by rfl) ?_ ?_; rotate_left; (focus (intro wS hS; replace hS := bcellc hS; go_simp; exact rfl)); simp only [Act.put, List.setIfInBounds_toArray, List.set_cons_zero, List.set_cons_succ]) | (refine seq_skip rfl (by rfl) ?_; simp only [Act.put, List.setIfInBounds_toArray, List.set_cons_zero, List.set_cons_succ]) | (refine seq_pass rfl (by rfl) (by assumption) ?_; simp only [Act.put, List.setIfInBounds_toArray, List.set_cons_zero, List.set_cons_succ]))
    (refine seq_run rfl (by rfl) (fun K hK => ?_); go_simp)
    refine (hf _ _ _).mono ?_
    rintro e w1 ⟨rfl, rfl⟩
    refine hK _ _ (by (repeat' (first | exact Below.refl _ _ | assumption | refine Below.drew ?_ | refine below_drewN ?_ _ | refine Below.alloc ?_ (by simp <;> omega) _ | refine Below.setCell ?_ (by simp <;> omega) _))) ?_
    clear hK K
    refine seq_fork ?_ ?_
    · (refine seq_run rfl (by rfl) (fun K hK => ?_); go_simp)
      refine hK _ _ (by (repeat' (first | exact Below.refl _ _ | assumption | refine Below.drew ?_ | refine below_drewN ?_ _ | refine Below.alloc ?_ (by simp <;> omega) _ | refine Below.setCell ?_ (by simp <;> omega) _))) ?_
      clear hK K
      (refine seq_run rfl (by rfl) (fun K hK => ?_); go_simp)
      refine (ok_any _ _).mono ?_
      rintro e w1 ⟨rfl, rfl⟩
      refine hK _ _ (by (repeat' (first | exact Below.refl _ _ | assumption | refine Below.drew ?_ | refine below_drewN ?_ _ | refine Below.alloc ?_ (by simp <;> omega) _ | refine Below.setCell ?_ (by simp <;> omega) _))) ?_
      clear hK K
      repeat (first | (refine seq_take (v := ?_) rfl (by rfl) ?_ ?_; rotate_left; (focus (intro wS hS; replace hS := bcellc hS; go_simp; exact rfl)); simp only [Act.put, List.setIfInBounds_toArray, List.set_cons_zero, List.set_cons_succ]) | (refine seq_skip rfl (by rfl) ?_; simp only [Act.put, List.setIfInBounds_toArray, List.set_cons_zero, List.set_cons_succ]) | (refine seq_pass rfl (by rfl) (by assumption) ?_; simp only [Act.put, List.setIfInBounds_toArray, List.set_cons_zero, List.set_cons_succ]))
      (refine seq_run rfl (by rfl) (fun K hK => ?_); go_simp)
      refine hK _ _ (by (repeat' (first | exact Below.refl _ _ | assumption | refine Below.drew ?_ | refine below_drewN ?_ _ | refine Below.alloc ?_ (by simp <;> omega) _ | refine Below.setCell ?_ (by simp <;> omega) _))) ?_
      clear hK K
      refine seq_nil ?_
      go_wp2
      refine bodyPost_ret (v := .tuple #[.slice (some ⟨w.heap.size + 1, 0, none⟩) 1 1, .agg #[.int .i64 0, .int .u64 x, .slice none 0 0]]) (by simp [results, Tryz.results190, go_sem]; done) rfl ⟨_, rfl, sl_one (by go_simp; done) (by simp <;> omega), ?_⟩
      (repeat' (first | exact Below.refl _ _ | assumption | refine Below.drew ?_ | refine below_drewN ?_ _ | refine Below.alloc ?_ (by simp <;> omega) _ | refine Below.setCell ?_ (by simp <;> omega) _))
    · (refine seq_run rfl (by rfl) (fun K hK => ?_); go_simp)
      refine (ok_any _ _).mono ?_
      rintro e w1 ⟨rfl, rfl⟩
      refine hK _ _ (by (repeat' (first | exact Below.refl _ _ | assumption | refine Below.drew ?_ | refine below_drewN ?_ _ | refine Below.alloc ?_ (by simp <;> omega) _ | refine Below.setCell ?_ (by simp <;> omega) _))) ?_
      clear hK K
      (refine seq_run rfl (by rfl) (fun K hK => ?_); go_simp)
      refine hK _ _ (by (repeat' (first | exact Below.refl _ _ | assumption | refine Below.drew ?_ | refine below_drewN ?_ _ | refine Below.alloc ?_ (by simp <;> omega) _ | refine Below.setCell ?_ (by simp <;> omega) _))) ?_
      clear hK K
      repeat (first | (refine seq_take (v := ?_) rfl (by rfl) ?_ ?_; rotate_left; (focus (intro wS hS; replace hS := bcellc hS; go_simp; exact rfl)); simp only [Act.put, List.setIfInBounds_toArray, List.set_cons_zero, List.set_cons_succ]) | (refine seq_skip rfl (by rfl) ?_; simp only [Act.put, List.setIfInBounds_toArray, List.set_cons_zero, List.set_cons_succ]) | (refine seq_pass rfl (by rfl) (by assumption) ?_; simp only [Act.put, List.setIfInBounds_toArray, List.set_cons_zero, List.set_cons_succ]))
      (refine seq_run rfl (by rfl) (fun K hK => ?_); go_simp)
      refine hK _ _ (by (repeat' (first | exact Below.refl _ _ | assumption | refine Below.drew ?_ | refine below_drewN ?_ _ | refine Below.alloc ?_ (by simp <;> omega) _ | refine Below.setCell ?_ (by simp <;> omega) _))) ?_
      clear hK K
      refine seq_nil ?_
      go_wp2
      refine bodyPost_ret (v := .tuple #[.slice (some ⟨w.heap.size + 1 + 1, 0, none⟩) 1 1, .agg #[.int .i64 0, .int .u64 x, .slice none 0 0]]) (by simp [results, Tryz.results190, go_sem]; done) rfl ⟨_, rfl, sl_one (by go_simp; done) (by simp <;> omega), ?_⟩
      (repeat' (first | exact Below.refl _ _ | assumption | refine Below.drew ?_ | refine below_drewN ?_ _ | refine Below.alloc ?_ (by simp <;> omega) _ | refine Below.setCell ?_ (by simp <;> omega) _))
end Go.Proofs.YtmiimpmfkjcjlaaGreat
