import Derived.Test.YtmiimpmfkjcjlaaGreatBun2
import Derived.RangeFuncBox
namespace Go.Proofs.YtmiimpmfkjcjlaaGreat
open Go.RowKit
attribute [local go_sem] run_store_fn run_store_nilfn
set_option maxRecDepth 100000 in
set_option maxHeartbeats 1000000 in
theorem right0 (A : Option Addr) (k c : Nat) (w : World) : Calls Tryz.prog 39 #[.int .i64 0, .slice A k c] w fun e w' => e = .returned (.bool (rightB17 0 k)) ∧ Below w.heap.size w w' := by
  have P := fun W => of_any 0 W
  have hk : kindsI 0 = 2 := by decide
  have hw : wordsI 0 = 1 := by decide
  rw [hk, hw] at P
  by_cases h1 : k = 1
  · have e1 : ((k : Int) == 1) = true := by simp; omega
    have hr : rightB17 0 k = true := by subst h1; decide
    rw [hr]
    clear hr h1
    go_enter Tryz.func39, Tryz.ntmps39
    go_wp2_with (go_at_call 72; refine (P _).mono ?_; rintro e w1 ⟨fv, rfl, hone, hfn, hb1⟩; have hst : ∀ (w : World) (a : Addr) (m : Mode), (store a fv m).run Tryz.prog w = stored Tryz.prog w a fv m := fun w a m => run_store _ w a fv m hone)
    go_ret
    exact ⟨ret_bool (by first | rfl | (simp; done) | (simp <;> omega)), hb1.alloc hb1.size _⟩
  · have e1 : ((k : Int) == 1) = false := by simp; omega
    have hr : rightB17 0 k = false := by unfold rightB17; simp [h1]
    rw [hr]
    clear hr h1
    go_enter Tryz.func39, Tryz.ntmps39
    go_wp2_with (go_at_call 72; refine (P _).mono ?_; rintro e w1 ⟨fv, rfl, hone, hfn, hb1⟩; have hst : ∀ (w : World) (a : Addr) (m : Mode), (store a fv m).run Tryz.prog w = stored Tryz.prog w a fv m := fun w a m => run_store _ w a fv m hone)
    go_ret
    exact ⟨ret_bool (by first | rfl | (simp; done) | (simp <;> omega)), hb1.alloc hb1.size _⟩
set_option maxRecDepth 100000 in
set_option maxHeartbeats 1000000 in
theorem right1 (A : Option Addr) (k c : Nat) (w : World) : Calls Tryz.prog 39 #[.int .i64 1, .slice A k c] w fun e w' => e = .returned (.bool (rightB17 1 k)) ∧ Below w.heap.size w w' := by
  have P := fun W => of_any 1 W
  have hk : kindsI 1 = 2 := by decide
  have hw : wordsI 1 = 1 := by decide
  rw [hk, hw] at P
  by_cases h1 : k = 1
  · have e1 : ((k : Int) == 1) = true := by simp; omega
    have hr : rightB17 1 k = true := by subst h1; decide
    rw [hr]
    clear hr h1
    go_enter Tryz.func39, Tryz.ntmps39
    go_wp2_with (go_at_call 72; refine (P _).mono ?_; rintro e w1 ⟨fv, rfl, hone, hfn, hb1⟩; have hst : ∀ (w : World) (a : Addr) (m : Mode), (store a fv m).run Tryz.prog w = stored Tryz.prog w a fv m := fun w a m => run_store _ w a fv m hone)
    go_ret
    exact ⟨ret_bool (by first | rfl | (simp; done) | (simp <;> omega)), hb1.alloc hb1.size _⟩
  · have e1 : ((k : Int) == 1) = false := by simp; omega
    have hr : rightB17 1 k = false := by unfold rightB17; simp [h1]
    rw [hr]
    clear hr h1
    go_enter Tryz.func39, Tryz.ntmps39
    go_wp2_with (go_at_call 72; refine (P _).mono ?_; rintro e w1 ⟨fv, rfl, hone, hfn, hb1⟩; have hst : ∀ (w : World) (a : Addr) (m : Mode), (store a fv m).run Tryz.prog w = stored Tryz.prog w a fv m := fun w a m => run_store _ w a fv m hone)
    go_ret
    exact ⟨ret_bool (by first | rfl | (simp; done) | (simp <;> omega)), hb1.alloc hb1.size _⟩
set_option maxRecDepth 100000 in
set_option maxHeartbeats 1000000 in
theorem right2 (A : Option Addr) (k c : Nat) (w : World) : Calls Tryz.prog 39 #[.int .i64 2, .slice A k c] w fun e w' => e = .returned (.bool (rightB17 2 k)) ∧ Below w.heap.size w w' := by
  have P := fun W => of_any 2 W
  have hk : kindsI 2 = 3 := by decide
  have hw : wordsI 2 = -1 := by decide
  rw [hk, hw] at P
  have e1 : ((k : Int) == -1) = false := by simp
  by_cases h1 : k ≤ 8
  · have e2 : decide ((k : Int) ≤ 8) = true := by simp; omega
    have hr : rightB17 2 k = true := by unfold rightB17; simp [h1]
    rw [hr]
    clear hr
    go_enter Tryz.func39, Tryz.ntmps39
    go_wp2_with (go_at_call 72; refine (P _).mono ?_; rintro e w1 ⟨fv, rfl, hone, hfn, hb1⟩; have hst : ∀ (w : World) (a : Addr) (m : Mode), (store a fv m).run Tryz.prog w = stored Tryz.prog w a fv m := fun w a m => run_store _ w a fv m hone)
    go_ret
    exact ⟨ret_bool (by first | rfl | (simp; done) | (simp <;> omega)), hb1.alloc hb1.size _⟩
  · have e2 : decide ((k : Int) ≤ 8) = false := by simp; omega
    have hr : rightB17 2 k = false := by unfold rightB17; simp; omega
    rw [hr]
    clear hr
    go_enter Tryz.func39, Tryz.ntmps39
    go_wp2_with (go_at_call 72; refine (P _).mono ?_; rintro e w1 ⟨fv, rfl, hone, hfn, hb1⟩; have hst : ∀ (w : World) (a : Addr) (m : Mode), (store a fv m).run Tryz.prog w = stored Tryz.prog w a fv m := fun w a m => run_store _ w a fv m hone)
    go_ret
    exact ⟨ret_bool (by first | rfl | (simp; done) | (simp <;> omega)), hb1.alloc hb1.size _⟩
set_option maxRecDepth 100000 in
set_option maxHeartbeats 1000000 in
theorem right3 (A : Option Addr) (k c : Nat) (w : World) : Calls Tryz.prog 39 #[.int .i64 3, .slice A k c] w fun e w' => e = .returned (.bool (rightB17 3 k)) ∧ Below w.heap.size w w' := by
  have P := fun W => of_any 3 W
  have hk : kindsI 3 = 3 := by decide
  have hw : wordsI 3 = -1 := by decide
  rw [hk, hw] at P
  have e1 : ((k : Int) == -1) = false := by simp
  by_cases h1 : k ≤ 8
  · have e2 : decide ((k : Int) ≤ 8) = true := by simp; omega
    have hr : rightB17 3 k = true := by unfold rightB17; simp [h1]
    rw [hr]
    clear hr
    go_enter Tryz.func39, Tryz.ntmps39
    go_wp2_with (go_at_call 72; refine (P _).mono ?_; rintro e w1 ⟨fv, rfl, hone, hfn, hb1⟩; have hst : ∀ (w : World) (a : Addr) (m : Mode), (store a fv m).run Tryz.prog w = stored Tryz.prog w a fv m := fun w a m => run_store _ w a fv m hone)
    go_ret
    exact ⟨ret_bool (by first | rfl | (simp; done) | (simp <;> omega)), hb1.alloc hb1.size _⟩
  · have e2 : decide ((k : Int) ≤ 8) = false := by simp; omega
    have hr : rightB17 3 k = false := by unfold rightB17; simp; omega
    rw [hr]
    clear hr
    go_enter Tryz.func39, Tryz.ntmps39
    go_wp2_with (go_at_call 72; refine (P _).mono ?_; rintro e w1 ⟨fv, rfl, hone, hfn, hb1⟩; have hst : ∀ (w : World) (a : Addr) (m : Mode), (store a fv m).run Tryz.prog w = stored Tryz.prog w a fv m := fun w a m => run_store _ w a fv m hone)
    go_ret
    exact ⟨ret_bool (by first | rfl | (simp; done) | (simp <;> omega)), hb1.alloc hb1.size _⟩
set_option maxRecDepth 100000 in
set_option maxHeartbeats 1000000 in
theorem right4 (A : Option Addr) (k c : Nat) (w : World) : Calls Tryz.prog 39 #[.int .i64 4, .slice A k c] w fun e w' => e = .returned (.bool (rightB17 4 k)) ∧ Below w.heap.size w w' := by
  have P := fun W => of_any 4 W
  have hk : kindsI 4 = 3 := by decide
  have hw : wordsI 4 = 1 := by decide
  rw [hk, hw] at P
  by_cases h1 : k = 1
  · have e1 : ((k : Int) == 1) = true := by simp; omega
    have hr : rightB17 4 k = true := by subst h1; decide
    rw [hr]
    clear hr h1
    go_enter Tryz.func39, Tryz.ntmps39
    go_wp2_with (go_at_call 72; refine (P _).mono ?_; rintro e w1 ⟨fv, rfl, hone, hfn, hb1⟩; have hst : ∀ (w : World) (a : Addr) (m : Mode), (store a fv m).run Tryz.prog w = stored Tryz.prog w a fv m := fun w a m => run_store _ w a fv m hone)
    go_ret
    exact ⟨ret_bool (by first | rfl | (simp; done) | (simp <;> omega)), hb1.alloc hb1.size _⟩
  · have e1 : ((k : Int) == 1) = false := by simp; omega
    have hr : rightB17 4 k = false := by unfold rightB17; simp [h1]
    rw [hr]
    clear hr h1
    go_enter Tryz.func39, Tryz.ntmps39
    go_wp2_with (go_at_call 72; refine (P _).mono ?_; rintro e w1 ⟨fv, rfl, hone, hfn, hb1⟩; have hst : ∀ (w : World) (a : Addr) (m : Mode), (store a fv m).run Tryz.prog w = stored Tryz.prog w a fv m := fun w a m => run_store _ w a fv m hone)
    go_ret
    exact ⟨ret_bool (by first | rfl | (simp; done) | (simp <;> omega)), hb1.alloc hb1.size _⟩
set_option maxRecDepth 100000 in
set_option maxHeartbeats 1000000 in
theorem right5 (A : Option Addr) (k c : Nat) (w : World) : Calls Tryz.prog 39 #[.int .i64 5, .slice A k c] w fun e w' => e = .returned (.bool (rightB17 5 k)) ∧ Below w.heap.size w w' := by
  have P := fun W => of_any 5 W
  have hk : kindsI 5 = 2 := by decide
  have hw : wordsI 5 = 1 := by decide
  rw [hk, hw] at P
  by_cases h1 : k = 1
  · have e1 : ((k : Int) == 1) = true := by simp; omega
    have hr : rightB17 5 k = true := by subst h1; decide
    rw [hr]
    clear hr h1
    go_enter Tryz.func39, Tryz.ntmps39
    go_wp2_with (go_at_call 72; refine (P _).mono ?_; rintro e w1 ⟨fv, rfl, hone, hfn, hb1⟩; have hst : ∀ (w : World) (a : Addr) (m : Mode), (store a fv m).run Tryz.prog w = stored Tryz.prog w a fv m := fun w a m => run_store _ w a fv m hone)
    go_ret
    exact ⟨ret_bool (by first | rfl | (simp; done) | (simp <;> omega)), hb1.alloc hb1.size _⟩
  · have e1 : ((k : Int) == 1) = false := by simp; omega
    have hr : rightB17 5 k = false := by unfold rightB17; simp [h1]
    rw [hr]
    clear hr h1
    go_enter Tryz.func39, Tryz.ntmps39
    go_wp2_with (go_at_call 72; refine (P _).mono ?_; rintro e w1 ⟨fv, rfl, hone, hfn, hb1⟩; have hst : ∀ (w : World) (a : Addr) (m : Mode), (store a fv m).run Tryz.prog w = stored Tryz.prog w a fv m := fun w a m => run_store _ w a fv m hone)
    go_ret
    exact ⟨ret_bool (by first | rfl | (simp; done) | (simp <;> omega)), hb1.alloc hb1.size _⟩
set_option maxRecDepth 100000 in
set_option maxHeartbeats 1000000 in
theorem right6 (A : Option Addr) (k c : Nat) (w : World) : Calls Tryz.prog 39 #[.int .i64 6, .slice A k c] w fun e w' => e = .returned (.bool (rightB17 6 k)) ∧ Below w.heap.size w w' := by
  have P := fun W => of_any 6 W
  have hk : kindsI 6 = 2 := by decide
  have hw : wordsI 6 = 1 := by decide
  rw [hk, hw] at P
  by_cases h1 : k = 1
  · have e1 : ((k : Int) == 1) = true := by simp; omega
    have hr : rightB17 6 k = true := by subst h1; decide
    rw [hr]
    clear hr h1
    go_enter Tryz.func39, Tryz.ntmps39
    go_wp2_with (go_at_call 72; refine (P _).mono ?_; rintro e w1 ⟨fv, rfl, hone, hfn, hb1⟩; have hst : ∀ (w : World) (a : Addr) (m : Mode), (store a fv m).run Tryz.prog w = stored Tryz.prog w a fv m := fun w a m => run_store _ w a fv m hone)
    go_ret
    exact ⟨ret_bool (by first | rfl | (simp; done) | (simp <;> omega)), hb1.alloc hb1.size _⟩
  · have e1 : ((k : Int) == 1) = false := by simp; omega
    have hr : rightB17 6 k = false := by unfold rightB17; simp [h1]
    rw [hr]
    clear hr h1
    go_enter Tryz.func39, Tryz.ntmps39
    go_wp2_with (go_at_call 72; refine (P _).mono ?_; rintro e w1 ⟨fv, rfl, hone, hfn, hb1⟩; have hst : ∀ (w : World) (a : Addr) (m : Mode), (store a fv m).run Tryz.prog w = stored Tryz.prog w a fv m := fun w a m => run_store _ w a fv m hone)
    go_ret
    exact ⟨ret_bool (by first | rfl | (simp; done) | (simp <;> omega)), hb1.alloc hb1.size _⟩
set_option maxRecDepth 100000 in
set_option maxHeartbeats 1000000 in
theorem right7 (A : Option Addr) (k c : Nat) (w : World) : Calls Tryz.prog 39 #[.int .i64 7, .slice A k c] w fun e w' => e = .returned (.bool (rightB17 7 k)) ∧ Below w.heap.size w w' := by
  have P := fun W => of_any 7 W
  have hk : kindsI 7 = 2 := by decide
  have hw : wordsI 7 = 8 := by decide
  rw [hk, hw] at P
  by_cases h1 : k = 8
  · have e1 : ((k : Int) == 8) = true := by simp; omega
    have hr : rightB17 7 k = true := by subst h1; decide
    rw [hr]
    clear hr h1
    go_enter Tryz.func39, Tryz.ntmps39
    go_wp2_with (go_at_call 72; refine (P _).mono ?_; rintro e w1 ⟨fv, rfl, hone, hfn, hb1⟩; have hst : ∀ (w : World) (a : Addr) (m : Mode), (store a fv m).run Tryz.prog w = stored Tryz.prog w a fv m := fun w a m => run_store _ w a fv m hone)
    go_ret
    exact ⟨ret_bool (by first | rfl | (simp; done) | (simp <;> omega)), hb1.alloc hb1.size _⟩
  · have e1 : ((k : Int) == 8) = false := by simp; omega
    have hr : rightB17 7 k = false := by unfold rightB17; simp [h1]
    rw [hr]
    clear hr h1
    go_enter Tryz.func39, Tryz.ntmps39
    go_wp2_with (go_at_call 72; refine (P _).mono ?_; rintro e w1 ⟨fv, rfl, hone, hfn, hb1⟩; have hst : ∀ (w : World) (a : Addr) (m : Mode), (store a fv m).run Tryz.prog w = stored Tryz.prog w a fv m := fun w a m => run_store _ w a fv m hone)
    go_ret
    exact ⟨ret_bool (by first | rfl | (simp; done) | (simp <;> omega)), hb1.alloc hb1.size _⟩
set_option maxRecDepth 100000 in
theorem right_none (A : Option Addr) (k c : Nat) (n : Int) (hn : ¬ (0 ≤ n ∧ n ≤ 7)) (w : World) : Calls Tryz.prog 39 #[.int .i64 n, .slice A k c] w fun e w' => e = .returned (.bool (rightB17 n k)) ∧ Below w.heap.size w w' := by
  have P := fun W => of_any n W
  have hr : rightB17 n k = false := by unfold rightB17; rw [if_neg (by omega), if_neg (by omega)]; simp; omega
  have hd : decide (0 ≤ n ∧ n ≤ 7) = false := decide_eq_false hn
  rw [hd] at P
  rw [hr]
  clear hr hn hd
  go_enter Tryz.func39, Tryz.ntmps39
  go_wp2_with (go_at_call 72; refine (P _).mono ?_; rintro e w1 ⟨fv, rfl, hone, hfn, hb1⟩; have hst : ∀ (w : World) (a : Addr) (m : Mode), (store a fv m).run Tryz.prog w = stored Tryz.prog w a fv m := fun w a m => run_store _ w a fv m hone)
  go_ret
  exact ⟨ret_bool (by first | rfl | (simp; done) | (simp <;> omega)), hb1.alloc hb1.size _⟩
theorem right_any (v : Value) (xs : List Int) (n : Int) (w : World) (h : SlW w v xs) : Calls Tryz.prog 39 #[.int .i64 n, v] w fun e w' => e = .returned (.bool (rightB17 n xs.length)) ∧ Below w.heap.size w w' := by
  obtain ⟨A, c, rfl, _, _, _⟩ := h
  rcases cases8 n with (rfl | rfl | rfl | rfl | rfl | rfl | rfl | rfl) | hn
  · exact right0 A _ c w
  · exact right1 A _ c w
  · exact right2 A _ c w
  · exact right3 A _ c w
  · exact right4 A _ c w
  · exact right5 A _ c w
  · exact right6 A _ c w
  · exact right7 A _ c w
  · exact right_none A _ c n hn w
end Go.Proofs.YtmiimpmfkjcjlaaGreat

namespace Go.Proofs.YtmiimpmfkjcjlaaGreat
open Go.RowKit
attribute [local go_sem] run_store_fn run_store_nilfn
theorem next1 (v a : Int) (w : World) : Calls Tryz.prog 134 #[.int .u64 v, .int .u64 a] w fun e w' => e = .returned (.int .u64 a) ∧ w' = w := by
  go_enter Tryz.func134, Tryz.ntmps134
  go_wp2
  go_ret
  exact ⟨rfl, rfl⟩
theorem next2 (v a : Int) (w : World) : Calls Tryz.prog 135 #[.int .u64 v, .int .u64 a] w fun e w' => e = .returned (.int .u64 (IntKind.u64.wrap (v + a))) ∧ w' = w := by
  go_enter Tryz.func135, Tryz.ntmps135
  go_wp2
  go_ret
  exact ⟨rfl, rfl⟩
theorem next5 (v a : Int) (w : World) : Calls Tryz.prog 140 #[.int .u64 v, .int .u64 a] w fun e w' => e = .returned (.int .u64 (max v a)) ∧ w' = w := by
  by_cases h : v < a
  · rw [show max v a = a by omega]
    go_enter Tryz.func140, Tryz.ntmps140
    go_wp2
    go_ret
    exact ⟨rfl, rfl⟩
  · rw [show max v a = v by omega]
    go_enter Tryz.func140, Tryz.ntmps140
    go_wp2
    go_ret
    exact ⟨rfl, rfl⟩
theorem sl_one {w : World} {g : Nat} {y : Int} (h : w.cell? ⟨g, 0, none⟩ = some (.int .u64 y)) (hg : g < w.heap.size) : SlW w (.slice (some ⟨g, 0, none⟩) 1 1) [y] := by
  refine ⟨_, 1, rfl, Nat.le_refl 1, by decide, fun k x hx => ?_⟩
  rcases k with _ | k
  · cases hx
    refine ⟨g, 0, rfl, hg, fun j u hu => ?_⟩
    rcases j with _ | j
    · cases hu; exact h
    · cases hu
  · cases hx
set_option maxRecDepth 100000 in
set_option maxHeartbeats 1000000 in
theorem one1 (f : Nat) (nx : Int → Int → Int) (hf : ∀ v a w, Calls Tryz.prog f #[.int .u64 v, .int .u64 a] w fun e w' => e = .returned (.int .u64 (nx v a)) ∧ w' = w)
    (hent : ∀ args w, (callFunc f args).run Tryz.prog w = .ok (.enter f args) w) (v : Value) (x kind a : Int) (B : Nat) (w : World) (hv : SlW w v [x]) (hB : w.cell? ⟨B, 0, none⟩ = some (.func (.func f) #[] #[])) (hBl : B < w.heap.size) :
    Calls Tryz.prog 190 #[v, .int .i64 kind, .int .u64 a, .pointer (some ⟨B, 0, none⟩)] w fun e w' => ∃ u, e = .returned (.tuple #[u, .agg #[.int .i64 0, .int .u64 x, .slice none 0 0]]) ∧ SlW w' u (if kind = 0 then [x] else [nx x a]) ∧ Below w.heap.size w w' := by
  have hv' := hv
  obtain ⟨A, c, rfl, h1, h2, h3⟩ := hv
  obtain ⟨b, o, rfl, hb, hc⟩ := h3 0 x rfl
  have c0 := nt_cell hc
  simp only [Nat.zero_mul, Nat.add_zero] at c0
  clear h3 hc
  by_cases hk : kind = 0
  · have e0 : (kind == 0) = true := by simp [hk]
    rw [if_pos hk]
    clear hk
    go_enter Tryz.func190, Tryz.ntmps190
    go_wp2_with (go_at_call 191; refine (ok_any _ _).mono ?_; rintro e w1 ⟨rfl, rfl⟩)
    refine bodyPost_ret (v := .tuple #[.slice (some ⟨b, o, none⟩) 1 c, .agg #[.int .i64 0, .int .u64 x, .slice none 0 0]]) (by simp [results, Tryz.results190, go_sem]) rfl ⟨_, rfl, hv'.below (B := w.heap.size) ?_ (Nat.le_refl _), ?_⟩
    · (repeat' (first | exact Below.refl _ _ | assumption | refine Below.drew ?_ | refine below_drewN ?_ _ | refine Below.alloc ?_ (by simp <;> omega) _ | refine Below.setCell ?_ (by simp <;> omega) _))
    · (repeat' (first | exact Below.refl _ _ | assumption | refine Below.drew ?_ | refine below_drewN ?_ _ | refine Below.alloc ?_ (by simp <;> omega) _ | refine Below.setCell ?_ (by simp <;> omega) _))
  · have e0 : (kind == 0) = false := by simp [hk]
    rw [if_neg hk]
    clear hk
    go_enter Tryz.func190, Tryz.ntmps190
    go_wp2
    refine wp_region_seq (fun w' => Below w.heap.size w w') (.take 0 <| .take 1 <| .take 2 <| .take 3 <| .take 4 <| .take 7 <| .take 8 <| .take 9 <| .run 5 <| .fork 6 (.run 10 <| .take 11 <| .run 12 <| .done) 10 (.run 6 <| .take 11 <| .run 12 <| .done)) (by kernel_rfl) (by kernel_rfl) (by kernel_rfl) (by (repeat' (first | exact Below.refl _ _ | assumption | refine Below.drew ?_ | refine below_drewN ?_ _ | refine Below.alloc ?_ (by simp <;> omega) _ | refine Below.setCell ?_ (by simp <;> omega) _))) ?_
    repeat (first | (refine seq_take (v := ?_) rfl (by rfl) ?_ ?_; rotate_left; (focus (intro wS hS; replace hS := bcellc hS; go_simp; exact rfl)); simp only [Act.put, sqA, sqB, sqC]) | (refine seq_skip rfl (by rfl) ?_; simp only [Act.put, sqA, sqB, sqC]) | (refine seq_pass rfl (by rfl) (by assumption) ?_; simp only [Act.put, sqA, sqB, sqC]))
    (refine seq_run rfl (by rfl) (fun K hK => ?_); go_simp)
    refine (hf _ _ _).mono ?_
    rintro e w1 ⟨rfl, rfl⟩
    refine hK _ _ (by (repeat' (first | exact Below.refl _ _ | assumption | refine Below.drew ?_ | refine below_drewN ?_ _ | refine Below.alloc ?_ (by simp <;> omega) _ | refine Below.setCell ?_ (by simp <;> omega) _))) ?_
    clear hK K
    refine seq_fork ?_ ?_
    · (refine seq_run rfl (by rfl) (fun K hK => ?_); go_simp)
      refine hK _ _ (by (repeat' (first | exact Below.refl _ _ | assumption | refine Below.drew ?_ | refine below_drewN ?_ _ | refine Below.alloc ?_ (by simp <;> omega) _ | refine Below.setCell ?_ (by simp <;> omega) _))) ?_
      clear hK K
      (refine seq_run rfl (by rfl) (fun K hK => ?_); go_simp)
      refine (ok_any _ _).mono ?_
      rintro e w1 ⟨rfl, rfl⟩
      refine hK _ _ (by (repeat' (first | exact Below.refl _ _ | assumption | refine Below.drew ?_ | refine below_drewN ?_ _ | refine Below.alloc ?_ (by simp <;> omega) _ | refine Below.setCell ?_ (by simp <;> omega) _))) ?_
      clear hK K
      repeat (first | (refine seq_take (v := ?_) rfl (by rfl) ?_ ?_; rotate_left; (focus (intro wS hS; replace hS := bcellc hS; go_simp; exact rfl)); simp only [Act.put, sqA, sqB, sqC]) | (refine seq_skip rfl (by rfl) ?_; simp only [Act.put, sqA, sqB, sqC]) | (refine seq_pass rfl (by rfl) (by assumption) ?_; simp only [Act.put, sqA, sqB, sqC]))
      (refine seq_run rfl (by rfl) (fun K hK => ?_); go_simp)
      refine hK _ _ (by (repeat' (first | exact Below.refl _ _ | assumption | refine Below.drew ?_ | refine below_drewN ?_ _ | refine Below.alloc ?_ (by simp <;> omega) _ | refine Below.setCell ?_ (by simp <;> omega) _))) ?_
      clear hK K
      refine seq_nil ?_
      go_wp2
      refine bodyPost_ret (v := .tuple #[.slice (some ⟨w.heap.size + 1, 0, none⟩) 1 1, .agg #[.int .i64 0, .int .u64 x, .slice none 0 0]]) (by simp [results, Tryz.results190, go_sem]; done) rfl ⟨_, rfl, sl_one (by go_simp; done) (by simp <;> omega), ?_⟩
      (repeat' (first | exact Below.refl _ _ | assumption | refine Below.drew ?_ | refine below_drewN ?_ _ | refine Below.alloc ?_ (by simp <;> omega) _ | refine Below.setCell ?_ (by simp <;> omega) _))
    · (refine seq_run rfl (by rfl) (fun K hK => ?_); go_simp)
      refine (ok_any _ _).mono ?_
      rintro e w1 ⟨rfl, rfl⟩
      refine hK _ _ (by (repeat' (first | exact Below.refl _ _ | assumption | refine Below.drew ?_ | refine below_drewN ?_ _ | refine Below.alloc ?_ (by simp <;> omega) _ | refine Below.setCell ?_ (by simp <;> omega) _))) ?_
      clear hK K
      (refine seq_run rfl (by rfl) (fun K hK => ?_); go_simp)
      refine hK _ _ (by (repeat' (first | exact Below.refl _ _ | assumption | refine Below.drew ?_ | refine below_drewN ?_ _ | refine Below.alloc ?_ (by simp <;> omega) _ | refine Below.setCell ?_ (by simp <;> omega) _))) ?_
      clear hK K
      repeat (first | (refine seq_take (v := ?_) rfl (by rfl) ?_ ?_; rotate_left; (focus (intro wS hS; replace hS := bcellc hS; go_simp; exact rfl)); simp only [Act.put, sqA, sqB, sqC]) | (refine seq_skip rfl (by rfl) ?_; simp only [Act.put, sqA, sqB, sqC]) | (refine seq_pass rfl (by rfl) (by assumption) ?_; simp only [Act.put, sqA, sqB, sqC]))
      (refine seq_run rfl (by rfl) (fun K hK => ?_); go_simp)
      refine hK _ _ (by (repeat' (first | exact Below.refl _ _ | assumption | refine Below.drew ?_ | refine below_drewN ?_ _ | refine Below.alloc ?_ (by simp <;> omega) _ | refine Below.setCell ?_ (by simp <;> omega) _))) ?_
      clear hK K
      refine seq_nil ?_
      go_wp2
      refine bodyPost_ret (v := .tuple #[.slice (some ⟨w.heap.size + 1 + 1, 0, none⟩) 1 1, .agg #[.int .i64 0, .int .u64 x, .slice none 0 0]]) (by simp [results, Tryz.results190, go_sem]; done) rfl ⟨_, rfl, sl_one (by go_simp; done) (by simp <;> omega), ?_⟩
      (repeat' (first | exact Below.refl _ _ | assumption | refine Below.drew ?_ | refine below_drewN ?_ _ | refine Below.alloc ?_ (by simp <;> omega) _ | refine Below.setCell ?_ (by simp <;> omega) _))
end Go.Proofs.YtmiimpmfkjcjlaaGreat

namespace Go.Proofs.YtmiimpmfkjcjlaaGreat
open Go.RowKit
attribute [local go_sem] run_store_fn run_store_nilfn
def swapL (x kind a : Int) : List Int := if kind = 0 then [x] else if x = a / 65536 % 65536 then [a % 65536] else [x]
def swapV (x kind a : Int) : Int := if kind = 0 then x else if x = a / 65536 % 65536 then 1 else 0
set_option maxRecDepth 100000 in
set_option maxHeartbeats 1000000 in
theorem swaps_any (v : Value) (x kind a : Int) (w : World) (hv : SlW w v [x]) (ha0 : 0 ≤ a) (ha1 : a < 18446744073709551616) :
    Calls Tryz.prog 141 #[v, .int .i64 kind, .int .u64 a] w fun e w' => ∃ u, e = .returned (.tuple #[u, .agg #[.int .i64 0, .int .u64 (swapV x kind a), .slice none 0 0]]) ∧ SlW w' u (swapL x kind a) ∧ Below w.heap.size w w' := by
  have hv' := hv
  obtain ⟨A, c, rfl, h1, h2, h3⟩ := hv
  obtain ⟨b, o, rfl, hb, hc⟩ := h3 0 x rfl
  have c0 := nt_cell hc
  simp only [Nat.zero_mul, Nat.add_zero] at c0
  clear h3 hc
  unfold swapL swapV
  by_cases hk : kind = 0
  · have e0 : (kind == 0) = true := by simp [hk]
    simp only [if_pos hk]
    clear hk
    go_enter Tryz.func141, Tryz.ntmps141
    go_wp2_with (go_at_call 191; refine (ok_any _ _).mono ?_; rintro e w1 ⟨rfl, rfl⟩)
    refine bodyPost_ret (v := .tuple #[.slice (some ⟨b, o, none⟩) 1 c, .agg #[.int .i64 0, .int .u64 x, .slice none 0 0]]) (by simp [results, Tryz.results141, go_sem]) rfl ⟨_, rfl, hv'.below (B := w.heap.size) ?_ (Nat.le_refl _), ?_⟩
    · (repeat' (first | exact Below.refl _ _ | assumption | refine Below.drew ?_ | refine below_drewN ?_ _ | refine Below.alloc ?_ (by simp <;> omega) _ | refine Below.setCell ?_ (by simp <;> omega) _))
    · (repeat' (first | exact Below.refl _ _ | assumption | refine Below.drew ?_ | refine below_drewN ?_ _ | refine Below.alloc ?_ (by simp <;> omega) _ | refine Below.setCell ?_ (by simp <;> omega) _))
  · have e0 : (kind == 0) = false := by simp [hk]
    simp only [if_neg hk]
    clear hk
    have m0 : 0 ≤ a / 65536 := by omega
    have m1 : a / 65536 < 18446744073709551616 := by omega
    have m2 : 0 ≤ a / 65536 % 65536 := by omega
    by_cases hx : x = a / 65536 % 65536
    · have e1 : (x == a / 65536 % 65536) = true := by simp [hx]
      simp only [if_pos hx]
      clear hx
      go_enter Tryz.func141, Tryz.ntmps141
      go_wp2_with (go_at_call 191; refine (ok_any _ _).mono ?_; rintro e w1 ⟨rfl, rfl⟩)
      refine bodyPost_ret (v := .tuple #[.slice (some ⟨w.heap.size + 1, 0, none⟩) 1 1, .agg #[.int .i64 0, .int .u64 1, .slice none 0 0]]) (by simp [results, Tryz.results141, go_sem]) rfl ⟨_, rfl, sl_one (by go_simp; done) (by simp <;> omega), ?_⟩
      (repeat' (first | exact Below.refl _ _ | assumption | refine Below.drew ?_ | refine below_drewN ?_ _ | refine Below.alloc ?_ (by simp <;> omega) _ | refine Below.setCell ?_ (by simp <;> omega) _))
    · have e1 : (x == a / 65536 % 65536) = false := by simp [hx]
      simp only [if_neg hx]
      clear hx
      go_enter Tryz.func141, Tryz.ntmps141
      go_wp2_with (go_at_call 191; refine (ok_any _ _).mono ?_; rintro e w1 ⟨rfl, rfl⟩)
      refine bodyPost_ret (v := .tuple #[.slice (some ⟨b, o, none⟩) 1 c, .agg #[.int .i64 0, .int .u64 0, .slice none 0 0]]) (by simp [results, Tryz.results141, go_sem]) rfl ⟨_, rfl, hv'.below (B := w.heap.size) ?_ (Nat.le_refl _), ?_⟩
      · (repeat' (first | exact Below.refl _ _ | assumption | refine Below.drew ?_ | refine below_drewN ?_ _ | refine Below.alloc ?_ (by simp <;> omega) _ | refine Below.setCell ?_ (by simp <;> omega) _))
      · (repeat' (first | exact Below.refl _ _ | assumption | refine Below.drew ?_ | refine below_drewN ?_ _ | refine Below.alloc ?_ (by simp <;> omega) _ | refine Below.setCell ?_ (by simp <;> omega) _))
def tabI (kind a : Int) : Int := if kind = 1 then a / 16777216 else a
def tabL (xs : List Int) (kind a : Int) : List Int := if 8 ≤ tabI kind a then xs else if kind = 1 then xs.set (tabI kind a).toNat (a % 16777216) else xs
def tabE (kind a : Int) : Int := if 8 ≤ tabI kind a then 10 else 0
def tabV (xs : List Int) (kind a : Int) : Int := if 8 ≤ tabI kind a then 0 else (xs[(tabI kind a).toNat]?).getD 0
set_option maxRecDepth 100000 in
set_option maxHeartbeats 1000000 in
theorem tables_any (v : Value) (xs : List Int) (kind a : Int) (w : World) (hv : SlW w v xs) (hl : xs.length = 8) (ha0 : 0 ≤ a) (ha1 : a < 18446744073709551616) :
    Calls Tryz.prog 142 #[v, .int .i64 kind, .int .u64 a] w fun e w' => ∃ u, e = .returned (.tuple #[u, .agg #[.int .i64 (tabE kind a), .int .u64 (tabV xs kind a), .slice none 0 0]]) ∧ SlW w' u (tabL xs kind a) ∧ Below w.heap.size w w' := by
  have hv' := hv
  obtain ⟨A, c, rfl, h1, h2, h3⟩ := hv
  rw [hl] at h1 hv' ⊢
  by_cases hk : kind = 1
  · have e0 : (kind == 1) = true := by simp [hk]
    have hi1 : tabI kind a = a / 16777216 := by unfold tabI; rw [if_pos hk]
    by_cases hi : 8 ≤ a / 16777216
    · have hE : tabE kind a = 10 := by unfold tabE; rw [hi1, if_pos hi]
      have hV : tabV xs kind a = 0 := by unfold tabV; rw [hi1, if_pos hi]
      have hL : tabL xs kind a = xs := by unfold tabL; rw [hi1, if_pos hi]
      rw [hE, hV, hL]
      clear hE hV hL hi1 hk h3
      go_enter Tryz.func142, Tryz.ntmps142
      go_wp2_with (go_at_call 193; refine (no_any _ _).mono ?_; rintro e w1 ⟨rfl, rfl⟩)
      refine bodyPost_ret (v := .tuple #[.slice A 8 c, .agg #[.int .i64 10, .int .u64 0, .slice none 0 0]]) (by simp [results, Tryz.results142, go_sem]) rfl ⟨_, rfl, hv'.below (B := w.heap.size) ?_ (Nat.le_refl _), ?_⟩
      · (repeat' (first | exact Below.refl _ _ | assumption | refine Below.drew ?_ | refine below_drewN ?_ _ | refine Below.alloc ?_ (by simp <;> omega) _ | refine Below.setCell ?_ (by simp <;> omega) _))
      · (repeat' (first | exact Below.refl _ _ | assumption | refine Below.drew ?_ | refine below_drewN ?_ _ | refine Below.alloc ?_ (by simp <;> omega) _ | refine Below.setCell ?_ (by simp <;> omega) _))
    · have hj0 : 0 ≤ a / 16777216 := by omega
      have hil : (a / 16777216).toNat < xs.length := by omega
      obtain ⟨x, hx⟩ : ∃ x, xs[(a / 16777216).toNat]? = some x := ⟨_, List.getElem?_eq_getElem hil⟩
      have hE : tabE kind a = 0 := by unfold tabE; rw [hi1, if_neg hi]
      have hV : tabV xs kind a = x := by unfold tabV; rw [hi1, if_neg hi, hx]; rfl
      have hL : tabL xs kind a = xs.set (a / 16777216).toNat (a % 16777216) := by unfold tabL; rw [hi1, if_neg hi, if_pos hk]
      rw [hE, hV, hL]
      obtain ⟨b, o, rfl, hb, hc⟩ := h3 _ x hx
      have c0 := nt_cell hc
      simp only [Nat.mul_one] at c0
      have q8 : a / 16777216 < 8 := by omega
      have HX := hide hx
      have hS := (show SlW w (.slice (some ⟨b, o, none⟩) 8 c) xs from hv').alloc (.cells #[.int .i64 0, .int .u64 0, .slice none 0 0] 57)
      clear hE hV hL hi1 hk h3 hc hx
      go_enter Tryz.func142, Tryz.ntmps142
      go_wp2_with fail
      refine (clone_any _ xs _ hS (by omega)).mono ?_
      rintro e w1 ⟨v', rfl, hown', hb1⟩
      have hown : w1.ownsRow (w.heap.size + 1) 25 1 v' (7 + 1) (xs.map (Value.int .u64)) := by
        have := hown'
        unfold WRow at this
        rw [hl, World.size_alloc] at this
        exact this
      obtain ⟨g, cap, rfl⟩ := ownsRow_succ hown
      have hg := hown.lt g rfl
      have k0 : w1.cell? ⟨g, (a / 16777216).toNat, none⟩ = some (.int .u64 x) := by
        rw [hown.cellAt _ (by omega), List.getElem?_map, HX.out]; rfl
      have k1 := hown.frozenAt (a / 16777216).toNat
      have z0 : w1.cell? ⟨w.heap.size, 0, none⟩ = some (.int .i64 0) := (hb1.cell (p := ⟨w.heap.size, 0, none⟩) (by simp)).trans (by go_simp)
      have z1 : w1.cell? ⟨w.heap.size, 1, none⟩ = some (.int .u64 0) := (hb1.cell (p := ⟨w.heap.size, 1, none⟩) (by simp)).trans (by go_simp)
      have z2 : w1.cell? ⟨w.heap.size, 2, none⟩ = some (.slice none 0 0) := (hb1.cell (p := ⟨w.heap.size, 2, none⟩) (by simp)).trans (by go_simp)
      have f0 : w1.frozen? ⟨w.heap.size, 0, none⟩ = false := (hb1.frozen (p := ⟨w.heap.size, 0, none⟩) (by simp)).trans (by go_simp)
      have f1 : w1.frozen? ⟨w.heap.size, 1, none⟩ = false := (hb1.frozen (p := ⟨w.heap.size, 1, none⟩) (by simp)).trans (by go_simp)
      have f2 : w1.frozen? ⟨w.heap.size, 2, none⟩ = false := (hb1.frozen (p := ⟨w.heap.size, 2, none⟩) (by simp)).trans (by go_simp)
      have hz : w.heap.size < w1.heap.size := by have := hb1.size; simp at this; omega
      have hne : g ≠ w.heap.size := by omega
      have hne' : w.heap.size ≠ g := by omega
      have hB1 : Below w.heap.size w w1 := ((Below.refl _ w).alloc (Nat.le_refl _) _).trans (hb1.mono (by simp))
      have hst := (hown.stored (a / 16777216).toNat (.int .u64 (a % 16777216))).1
      clear hb1 hown' HX hS hv'
      go_wp2_with (go_at_call 191; refine (ok_any _ _).mono ?_; rintro e w1 ⟨rfl, rfl⟩)
      have key : ∀ W : World, W.ownsRow (w.heap.size + 1) 25 1 (.slice (some ⟨g, 0, none⟩) (7 + 1) cap) (7 + 1) ((xs.map (Value.int .u64)).set (a / 16777216).toNat (.int .u64 (a % 16777216))) → SlW W (.slice (some ⟨g, 0, none⟩) 8 cap) (xs.set (a / 16777216).toNat (a % 16777216)) := by
        intro W h
        refine sl_of_owns (base := w.heap.size + 1) (e := 25) ?_ (by rw [List.length_set, hl]; decide)
        rw [List.length_set, hl, List.map_set]
        exact h
      refine bodyPost_ret (v := .tuple #[.slice (some ⟨g, 0, none⟩) 8 cap, .agg #[.int .i64 0, .int .u64 x, .slice none 0 0]]) (by simp [results, Tryz.results142, go_sem, z0, z1, z2, hz]) rfl ⟨_, rfl, key _ ?_, ?_⟩
      · repeat' (first | with_reducible exact hst | with_reducible refine ownsRow_setCell_below ?_ ?_ _ | with_reducible refine World.ownsRow.alloc ?_ _ | (simp; done) | omega)
      · repeat' (first | with_reducible exact hB1 | with_reducible refine Below.alloc ?_ ?_ _ | with_reducible refine Below.setCell ?_ ?_ _ | omega | (simp; done) | (simp; omega))
  · have e0 : (kind == 1) = false := by simp [hk]
    have hi1 : tabI kind a = a := by unfold tabI; rw [if_neg hk]
    by_cases hi : 8 ≤ a
    · have hE : tabE kind a = 10 := by unfold tabE; rw [hi1, if_pos hi]
      have hV : tabV xs kind a = 0 := by unfold tabV; rw [hi1, if_pos hi]
      have hL : tabL xs kind a = xs := by unfold tabL; rw [hi1, if_pos hi]
      rw [hE, hV, hL]
      clear hE hV hL hi1 hk h3
      go_enter Tryz.func142, Tryz.ntmps142
      go_wp2_with (go_at_call 193; refine (no_any _ _).mono ?_; rintro e w1 ⟨rfl, rfl⟩)
      refine bodyPost_ret (v := .tuple #[.slice A 8 c, .agg #[.int .i64 10, .int .u64 0, .slice none 0 0]]) (by simp [results, Tryz.results142, go_sem]) rfl ⟨_, rfl, hv'.below (B := w.heap.size) ?_ (Nat.le_refl _), ?_⟩
      · (repeat' (first | exact Below.refl _ _ | assumption | refine Below.drew ?_ | refine below_drewN ?_ _ | refine Below.alloc ?_ (by simp <;> omega) _ | refine Below.setCell ?_ (by simp <;> omega) _))
      · (repeat' (first | exact Below.refl _ _ | assumption | refine Below.drew ?_ | refine below_drewN ?_ _ | refine Below.alloc ?_ (by simp <;> omega) _ | refine Below.setCell ?_ (by simp <;> omega) _))
    · obtain ⟨i, rfl⟩ := Int.eq_ofNat_of_zero_le ha0
      have hil : i < xs.length := by omega
      obtain ⟨x, hx⟩ : ∃ x, xs[i]? = some x := ⟨_, List.getElem?_eq_getElem hil⟩
      have hE : tabE kind i = 0 := by unfold tabE; rw [hi1, if_neg hi]
      have hV : tabV xs kind i = x := by unfold tabV; rw [hi1, if_neg hi, Int.toNat_natCast, hx]; rfl
      have hL : tabL xs kind i = xs := by unfold tabL; rw [hi1, if_neg hi, if_neg hk]
      rw [hE, hV, hL]
      obtain ⟨b, o, rfl, hb, hc⟩ := h3 i x hx
      have c0 := nt_cell hc
      simp only [Nat.mul_one] at c0
      have q8 : (i : Int) < 8 := by omega
      clear hE hV hL hi1 hk h3 hc hx
      go_enter Tryz.func142, Tryz.ntmps142
      go_wp2_with (go_at_call 191; refine (ok_any _ _).mono ?_; rintro e w1 ⟨rfl, rfl⟩)
      refine bodyPost_ret (v := .tuple #[.slice (some ⟨b, o, none⟩) 8 c, .agg #[.int .i64 0, .int .u64 x, .slice none 0 0]]) (by simp [results, Tryz.results142, go_sem]) rfl ⟨_, rfl, hv'.below (B := w.heap.size) ?_ (Nat.le_refl _), ?_⟩
      · (repeat' (first | exact Below.refl _ _ | assumption | refine Below.drew ?_ | refine below_drewN ?_ _ | refine Below.alloc ?_ (by simp <;> omega) _ | refine Below.setCell ?_ (by simp <;> omega) _))
      · (repeat' (first | exact Below.refl _ _ | assumption | refine Below.drew ?_ | refine below_drewN ?_ _ | refine Below.alloc ?_ (by simp <;> omega) _ | refine Below.setCell ?_ (by simp <;> omega) _))
end Go.Proofs.YtmiimpmfkjcjlaaGreat
