/- Types of things (package seq) and the reference: which states may be. -/
import Derived.Test.YtmiimpmfkjcjlaaGreatSq3
namespace Go.Proofs.YtmiimpmfkjcjlaaGreat
open Go.RowKit
attribute [local go_sem] run_store_fn run_store_nilfn

set_option maxRecDepth 100000 in
set_option maxHeartbeats 1000000 in
theorem right0 (A : Option Addr) (k c : Nat) (w : World) : Calls Tryz.prog 39 #[.int .i64 0, .slice A k c] w fun e w' => e = .returned (.bool (rightB17 0 k)) ∧ Below w.heap.size w w' := by
  have P := fun W => of_any 0 W
  have hk : kindsI 0 = 2 := by decide
  have hw : wordsI 0 = 1 := by decide
  rw [hk, hw] at P
  by_cases h1 : k = 1
  · have e1 : ((k : Int) == 1) = true := by simp; omega
    have hr : rightB17 0 k = true := by subst h1; decide
    rw [hr]
    clear hr h1
    go_enter Tryz.func39, Tryz.ntmps39
    go_wp2_with (go_at_call 72; refine (P _).mono ?_; rintro e w1 ⟨fv, rfl, hone, hfn, hb1⟩; have hst : ∀ (w : World) (a : Addr) (m : Mode), (store a fv m).run Tryz.prog w = stored Tryz.prog w a fv m := fun w a m => run_store _ w a fv m hone)
    go_ret
    exact ⟨ret_bool (by first | rfl | (simp; done) | (simp <;> omega)), hb1.alloc hb1.size _⟩
  · have e1 : ((k : Int) == 1) = false := by simp; omega
    have hr : rightB17 0 k = false := by unfold rightB17; simp [h1]
    rw [hr]
    clear hr h1
    go_enter Tryz.func39, Tryz.ntmps39
    go_wp2_with (go_at_call 72; refine (P _).mono ?_; rintro e w1 ⟨fv, rfl, hone, hfn, hb1⟩; have hst : ∀ (w : World) (a : Addr) (m : Mode), (store a fv m).run Tryz.prog w = stored Tryz.prog w a fv m := fun w a m => run_store _ w a fv m hone)
    go_ret
    exact ⟨ret_bool (by first | rfl | (simp; done) | (simp <;> omega)), hb1.alloc hb1.size _⟩
set_option maxRecDepth 100000 in
set_option maxHeartbeats 1000000 in
theorem right1 (A : Option Addr) (k c : Nat) (w : World) : Calls Tryz.prog 39 #[.int .i64 1, .slice A k c] w fun e w' => e = .returned (.bool (rightB17 1 k)) ∧ Below w.heap.size w w' := by
  have P := fun W => of_any 1 W
  have hk : kindsI 1 = 2 := by decide
  have hw : wordsI 1 = 1 := by decide
  rw [hk, hw] at P
  by_cases h1 : k = 1
  · have e1 : ((k : Int) == 1) = true := by simp; omega
    have hr : rightB17 1 k = true := by subst h1; decide
    rw [hr]
    clear hr h1
    go_enter Tryz.func39, Tryz.ntmps39
    go_wp2_with (go_at_call 72; refine (P _).mono ?_; rintro e w1 ⟨fv, rfl, hone, hfn, hb1⟩; have hst : ∀ (w : World) (a : Addr) (m : Mode), (store a fv m).run Tryz.prog w = stored Tryz.prog w a fv m := fun w a m => run_store _ w a fv m hone)
    go_ret
    exact ⟨ret_bool (by first | rfl | (simp; done) | (simp <;> omega)), hb1.alloc hb1.size _⟩
  · have e1 : ((k : Int) == 1) = false := by simp; omega
    have hr : rightB17 1 k = false := by unfold rightB17; simp [h1]
    rw [hr]
    clear hr h1
    go_enter Tryz.func39, Tryz.ntmps39
    go_wp2_with (go_at_call 72; refine (P _).mono ?_; rintro e w1 ⟨fv, rfl, hone, hfn, hb1⟩; have hst : ∀ (w : World) (a : Addr) (m : Mode), (store a fv m).run Tryz.prog w = stored Tryz.prog w a fv m := fun w a m => run_store _ w a fv m hone)
    go_ret
    exact ⟨ret_bool (by first | rfl | (simp; done) | (simp <;> omega)), hb1.alloc hb1.size _⟩
set_option maxRecDepth 100000 in
set_option maxHeartbeats 1000000 in
theorem right2 (A : Option Addr) (k c : Nat) (w : World) : Calls Tryz.prog 39 #[.int .i64 2, .slice A k c] w fun e w' => e = .returned (.bool (rightB17 2 k)) ∧ Below w.heap.size w w' := by
  have P := fun W => of_any 2 W
  have hk : kindsI 2 = 3 := by decide
  have hw : wordsI 2 = -1 := by decide
  rw [hk, hw] at P
  have e1 : ((k : Int) == -1) = false := by simp
  by_cases h1 : k ≤ 8
  · have e2 : decide ((k : Int) ≤ 8) = true := by simp; omega
    have hr : rightB17 2 k = true := by unfold rightB17; simp [h1]
    rw [hr]
    clear hr
    go_enter Tryz.func39, Tryz.ntmps39
    go_wp2_with (go_at_call 72; refine (P _).mono ?_; rintro e w1 ⟨fv, rfl, hone, hfn, hb1⟩; have hst : ∀ (w : World) (a : Addr) (m : Mode), (store a fv m).run Tryz.prog w = stored Tryz.prog w a fv m := fun w a m => run_store _ w a fv m hone)
    go_ret
    exact ⟨ret_bool (by first | rfl | (simp; done) | (simp <;> omega)), hb1.alloc hb1.size _⟩
  · have e2 : decide ((k : Int) ≤ 8) = false := by simp; omega
    have hr : rightB17 2 k = false := by unfold rightB17; simp; omega
    rw [hr]
    clear hr
    go_enter Tryz.func39, Tryz.ntmps39
    go_wp2_with (go_at_call 72; refine (P _).mono ?_; rintro e w1 ⟨fv, rfl, hone, hfn, hb1⟩; have hst : ∀ (w : World) (a : Addr) (m : Mode), (store a fv m).run Tryz.prog w = stored Tryz.prog w a fv m := fun w a m => run_store _ w a fv m hone)
    go_ret
    exact ⟨ret_bool (by first | rfl | (simp; done) | (simp <;> omega)), hb1.alloc hb1.size _⟩
set_option maxRecDepth 100000 in
set_option maxHeartbeats 1000000 in
theorem right3 (A : Option Addr) (k c : Nat) (w : World) : Calls Tryz.prog 39 #[.int .i64 3, .slice A k c] w fun e w' => e = .returned (.bool (rightB17 3 k)) ∧ Below w.heap.size w w' := by
  have P := fun W => of_any 3 W
  have hk : kindsI 3 = 3 := by decide
  have hw : wordsI 3 = -1 := by decide
  rw [hk, hw] at P
  have e1 : ((k : Int) == -1) = false := by simp
  by_cases h1 : k ≤ 8
  · have e2 : decide ((k : Int) ≤ 8) = true := by simp; omega
    have hr : rightB17 3 k = true := by unfold rightB17; simp [h1]
    rw [hr]
    clear hr
    go_enter Tryz.func39, Tryz.ntmps39
    go_wp2_with (go_at_call 72; refine (P _).mono ?_; rintro e w1 ⟨fv, rfl, hone, hfn, hb1⟩; have hst : ∀ (w : World) (a : Addr) (m : Mode), (store a fv m).run Tryz.prog w = stored Tryz.prog w a fv m := fun w a m => run_store _ w a fv m hone)
    go_ret
    exact ⟨ret_bool (by first | rfl | (simp; done) | (simp <;> omega)), hb1.alloc hb1.size _⟩
  · have e2 : decide ((k : Int) ≤ 8) = false := by simp; omega
    have hr : rightB17 3 k = false := by unfold rightB17; simp; omega
    rw [hr]
    clear hr
    go_enter Tryz.func39, Tryz.ntmps39
    go_wp2_with (go_at_call 72; refine (P _).mono ?_; rintro e w1 ⟨fv, rfl, hone, hfn, hb1⟩; have hst : ∀ (w : World) (a : Addr) (m : Mode), (store a fv m).run Tryz.prog w = stored Tryz.prog w a fv m := fun w a m => run_store _ w a fv m hone)
    go_ret
    exact ⟨ret_bool (by first | rfl | (simp; done) | (simp <;> omega)), hb1.alloc hb1.size _⟩
set_option maxRecDepth 100000 in
set_option maxHeartbeats 1000000 in
theorem right4 (A : Option Addr) (k c : Nat) (w : World) : Calls Tryz.prog 39 #[.int .i64 4, .slice A k c] w fun e w' => e = .returned (.bool (rightB17 4 k)) ∧ Below w.heap.size w w' := by
  have P := fun W => of_any 4 W
  have hk : kindsI 4 = 3 := by decide
  have hw : wordsI 4 = 1 := by decide
  rw [hk, hw] at P
  by_cases h1 : k = 1
  · have e1 : ((k : Int) == 1) = true := by simp; omega
    have hr : rightB17 4 k = true := by subst h1; decide
    rw [hr]
    clear hr h1
    go_enter Tryz.func39, Tryz.ntmps39
    go_wp2_with (go_at_call 72; refine (P _).mono ?_; rintro e w1 ⟨fv, rfl, hone, hfn, hb1⟩; have hst : ∀ (w : World) (a : Addr) (m : Mode), (store a fv m).run Tryz.prog w = stored Tryz.prog w a fv m := fun w a m => run_store _ w a fv m hone)
    go_ret
    exact ⟨ret_bool (by first | rfl | (simp; done) | (simp <;> omega)), hb1.alloc hb1.size _⟩
  · have e1 : ((k : Int) == 1) = false := by simp; omega
    have hr : rightB17 4 k = false := by unfold rightB17; simp [h1]
    rw [hr]
    clear hr h1
    go_enter Tryz.func39, Tryz.ntmps39
    go_wp2_with (go_at_call 72; refine (P _).mono ?_; rintro e w1 ⟨fv, rfl, hone, hfn, hb1⟩; have hst : ∀ (w : World) (a : Addr) (m : Mode), (store a fv m).run Tryz.prog w = stored Tryz.prog w a fv m := fun w a m => run_store _ w a fv m hone)
    go_ret
    exact ⟨ret_bool (by first | rfl | (simp; done) | (simp <;> omega)), hb1.alloc hb1.size _⟩
set_option maxRecDepth 100000 in
set_option maxHeartbeats 1000000 in
theorem right5 (A : Option Addr) (k c : Nat) (w : World) : Calls Tryz.prog 39 #[.int .i64 5, .slice A k c] w fun e w' => e = .returned (.bool (rightB17 5 k)) ∧ Below w.heap.size w w' := by
  have P := fun W => of_any 5 W
  have hk : kindsI 5 = 2 := by decide
  have hw : wordsI 5 = 1 := by decide
  rw [hk, hw] at P
  by_cases h1 : k = 1
  · have e1 : ((k : Int) == 1) = true := by simp; omega
    have hr : rightB17 5 k = true := by subst h1; decide
    rw [hr]
    clear hr h1
    go_enter Tryz.func39, Tryz.ntmps39
    go_wp2_with (go_at_call 72; refine (P _).mono ?_; rintro e w1 ⟨fv, rfl, hone, hfn, hb1⟩; have hst : ∀ (w : World) (a : Addr) (m : Mode), (store a fv m).run Tryz.prog w = stored Tryz.prog w a fv m := fun w a m => run_store _ w a fv m hone)
    go_ret
    exact ⟨ret_bool (by first | rfl | (simp; done) | (simp <;> omega)), hb1.alloc hb1.size _⟩
  · have e1 : ((k : Int) == 1) = false := by simp; omega
    have hr : rightB17 5 k = false := by unfold rightB17; simp [h1]
    rw [hr]
    clear hr h1
    go_enter Tryz.func39, Tryz.ntmps39
    go_wp2_with (go_at_call 72; refine (P _).mono ?_; rintro e w1 ⟨fv, rfl, hone, hfn, hb1⟩; have hst : ∀ (w : World) (a : Addr) (m : Mode), (store a fv m).run Tryz.prog w = stored Tryz.prog w a fv m := fun w a m => run_store _ w a fv m hone)
    go_ret
    exact ⟨ret_bool (by first | rfl | (simp; done) | (simp <;> omega)), hb1.alloc hb1.size _⟩
set_option maxRecDepth 100000 in
set_option maxHeartbeats 1000000 in
theorem right6 (A : Option Addr) (k c : Nat) (w : World) : Calls Tryz.prog 39 #[.int .i64 6, .slice A k c] w fun e w' => e = .returned (.bool (rightB17 6 k)) ∧ Below w.heap.size w w' := by
  have P := fun W => of_any 6 W
  have hk : kindsI 6 = 2 := by decide
  have hw : wordsI 6 = 1 := by decide
  rw [hk, hw] at P
  by_cases h1 : k = 1
  · have e1 : ((k : Int) == 1) = true := by simp; omega
    have hr : rightB17 6 k = true := by subst h1; decide
    rw [hr]
    clear hr h1
    go_enter Tryz.func39, Tryz.ntmps39
    go_wp2_with (go_at_call 72; refine (P _).mono ?_; rintro e w1 ⟨fv, rfl, hone, hfn, hb1⟩; have hst : ∀ (w : World) (a : Addr) (m : Mode), (store a fv m).run Tryz.prog w = stored Tryz.prog w a fv m := fun w a m => run_store _ w a fv m hone)
    go_ret
    exact ⟨ret_bool (by first | rfl | (simp; done) | (simp <;> omega)), hb1.alloc hb1.size _⟩
  · have e1 : ((k : Int) == 1) = false := by simp; omega
    have hr : rightB17 6 k = false := by unfold rightB17; simp [h1]
    rw [hr]
    clear hr h1
    go_enter Tryz.func39, Tryz.ntmps39
    go_wp2_with (go_at_call 72; refine (P _).mono ?_; rintro e w1 ⟨fv, rfl, hone, hfn, hb1⟩; have hst : ∀ (w : World) (a : Addr) (m : Mode), (store a fv m).run Tryz.prog w = stored Tryz.prog w a fv m := fun w a m => run_store _ w a fv m hone)
    go_ret
    exact ⟨ret_bool (by first | rfl | (simp; done) | (simp <;> omega)), hb1.alloc hb1.size _⟩
set_option maxRecDepth 100000 in
set_option maxHeartbeats 1000000 in
theorem right7 (A : Option Addr) (k c : Nat) (w : World) : Calls Tryz.prog 39 #[.int .i64 7, .slice A k c] w fun e w' => e = .returned (.bool (rightB17 7 k)) ∧ Below w.heap.size w w' := by
  have P := fun W => of_any 7 W
  have hk : kindsI 7 = 2 := by decide
  have hw : wordsI 7 = 8 := by decide
  rw [hk, hw] at P
  by_cases h1 : k = 8
  · have e1 : ((k : Int) == 8) = true := by simp; omega
    have hr : rightB17 7 k = true := by subst h1; decide
    rw [hr]
    clear hr h1
    go_enter Tryz.func39, Tryz.ntmps39
    go_wp2_with (go_at_call 72; refine (P _).mono ?_; rintro e w1 ⟨fv, rfl, hone, hfn, hb1⟩; have hst : ∀ (w : World) (a : Addr) (m : Mode), (store a fv m).run Tryz.prog w = stored Tryz.prog w a fv m := fun w a m => run_store _ w a fv m hone)
    go_ret
    exact ⟨ret_bool (by first | rfl | (simp; done) | (simp <;> omega)), hb1.alloc hb1.size _⟩
  · have e1 : ((k : Int) == 8) = false := by simp; omega
    have hr : rightB17 7 k = false := by unfold rightB17; simp [h1]
    rw [hr]
    clear hr h1
    go_enter Tryz.func39, Tryz.ntmps39
    go_wp2_with (go_at_call 72; refine (P _).mono ?_; rintro e w1 ⟨fv, rfl, hone, hfn, hb1⟩; have hst : ∀ (w : World) (a : Addr) (m : Mode), (store a fv m).run Tryz.prog w = stored Tryz.prog w a fv m := fun w a m => run_store _ w a fv m hone)
    go_ret
    exact ⟨ret_bool (by first | rfl | (simp; done) | (simp <;> omega)), hb1.alloc hb1.size _⟩
set_option maxRecDepth 100000 in
theorem right_none (A : Option Addr) (k c : Nat) (n : Int) (hn : ¬ (0 ≤ n ∧ n ≤ 7)) (w : World) : Calls Tryz.prog 39 #[.int .i64 n, .slice A k c] w fun e w' => e = .returned (.bool (rightB17 n k)) ∧ Below w.heap.size w w' := by
  have P := fun W => of_any n W
  have hr : rightB17 n k = false := by unfold rightB17; rw [if_neg (by omega), if_neg (by omega)]; simp; omega
  have hd : decide (0 ≤ n ∧ n ≤ 7) = false := decide_eq_false hn
  rw [hd] at P
  rw [hr]
  clear hr hn hd
  go_enter Tryz.func39, Tryz.ntmps39
  go_wp2_with (go_at_call 72; refine (P _).mono ?_; rintro e w1 ⟨fv, rfl, hone, hfn, hb1⟩; have hst : ∀ (w : World) (a : Addr) (m : Mode), (store a fv m).run Tryz.prog w = stored Tryz.prog w a fv m := fun w a m => run_store _ w a fv m hone)
  go_ret
  exact ⟨ret_bool (by first | rfl | (simp; done) | (simp <;> omega)), hb1.alloc hb1.size _⟩

theorem right_any (v : Value) (xs : List Int) (n : Int) (w : World) (h : SlW w v xs) : Calls Tryz.prog 39 #[.int .i64 n, v] w fun e w' => e = .returned (.bool (rightB17 n xs.length)) ∧ Below w.heap.size w w' := by
  obtain ⟨A, c, rfl, _, _, _⟩ := h
  rcases cases8 n with (rfl | rfl | rfl | rfl | rfl | rfl | rfl | rfl) | hn
  · exact right0 A _ c w
  · exact right1 A _ c w
  · exact right2 A _ c w
  · exact right3 A _ c w
  · exact right4 A _ c w
  · exact right5 A _ c w
  · exact right6 A _ c w
  · exact right7 A _ c w
  · exact right_none A _ c n hn w

set_option maxRecDepth 100000 in
set_option maxHeartbeats 1000000 in
theorem refRight17 (v : Value) (xs : List Int) (n : Int) (w : World) (h : SlW w v xs) : Calls Tryz.prog 43 #[.int .i64 n, v] w fun e w' => e = .returned (.bool (rightB17 n xs.length)) ∧ Below w.heap.size w w' := by
  obtain ⟨A, c, rfl, h1, h2, h3⟩ := h
  have hm : (xs.length : Int) ≤ 9223372036854775807 := by unfold maxLen at h2; omega
  generalize xs.length = k at *
  clear h1 h2 h3
  obtain ⟨R, hR⟩ : ∃ R, rightB17 n k = R := ⟨_, rfl⟩
  rw [hR]
  unfold rightB17 at hR
  rcases cases8 n with (rfl | rfl | rfl | rfl | rfl | rfl | rfl | rfl) | hn
  iterate 8
    · simp at hR
      subst hR
      go_enter Tryz.func43, Tryz.ntmps43
      go_wp2
      go_ret
      exact ⟨ret_bool (by first | rfl | (simp; done) | omega | (rw [Bool.eq_iff_iff]; simp; omega)), by (repeat' (first | exact Below.refl _ _ | assumption | refine Below.drew ?_ | refine below_drewN ?_ _ | refine Below.alloc ?_ (by simp <;> omega) _ | refine Below.setCell ?_ (by simp <;> omega) _))⟩
  · rw [if_neg (by omega), if_neg (by omega), decide_eq_false (by omega : ¬ n = 7)] at hR
    simp at hR
    subst hR
    have e0 : (n == 0) = false := by simp; omega
    have e1 : (n == 1) = false := by simp; omega
    have e2 : (n == 2) = false := by simp; omega
    have e3 : (n == 3) = false := by simp; omega
    have e4 : (n == 4) = false := by simp; omega
    have e5 : (n == 5) = false := by simp; omega
    have e6 : (n == 6) = false := by simp; omega
    have e7 : (n == 7) = false := by simp; omega
    clear hn
    go_enter Tryz.func43, Tryz.ntmps43
    go_wp2
    go_ret
    exact ⟨ret_bool (by first | rfl | (simp; done) | omega | (rw [Bool.eq_iff_iff]; simp; omega)), by (repeat' (first | exact Below.refl _ _ | assumption | refine Below.drew ?_ | refine below_drewN ?_ _ | refine Below.alloc ?_ (by simp <;> omega) _ | refine Below.setCell ?_ (by simp <;> omega) _))⟩
end Go.Proofs.YtmiimpmfkjcjlaaGreat
