import Derived.Test.YtmiimpmfkjcjlaaGreatBun2
import Derived.Deep.QuietTactic
import Derived.BigQuiet
namespace Go.Proofs.YtmiimpmfkjcjlaaGreat
open Go.RowKit
attribute [local go_sem] run_store_fn run_store_nilfn
theorem tacts_c (n : Int) (w : World) : Calls Tryz.prog 114 #[.int .i64 n] w fun e w' => e = .returned (.func (.func 162) #[] #[.pointer (some ⟨w.heap.size, 0, none⟩)]) ∧ w' = w.alloc (.cells #[.int .i64 n] 3) := by
  go_enter Tryz.func114, Tryz.ntmps114
  go_wp2
  go_ret
  exact ⟨rfl, rfl⟩
theorem tupTo_c (n : Int) (w : World) : Calls Tryz.prog 115 #[.int .i64 n] w fun e w' => e = .returned (.func (.func 163) #[] #[.pointer (some ⟨w.heap.size, 0, none⟩)]) ∧ w' = w.alloc (.cells #[.int .i64 n] 3) := by
  go_enter Tryz.func115, Tryz.ntmps115
  go_wp2
  go_ret
  exact ⟨rfl, rfl⟩
theorem tacts1 (s : Sp) (B : Nat) (n : Int) (w : World) (hB : w.cell? ⟨B, 0, none⟩ = some (.int .i64 n)) (hBl : B < w.heap.size) :
    Calls Tryz.prog 162 #[spV s, .pointer (some ⟨B, 0, none⟩)] w fun e w' => e = .returned (.int .i64 n) ∧ Below w.heap.size w w' := by
  go_enter Tryz.func162, Tryz.ntmps162
  go_wp2
  go_ret
  exact ⟨rfl, by (repeat' (first | exact Below.refl _ _ | assumption | refine Below.drew ?_ | refine below_drewN ?_ _ | refine Below.alloc ?_ (by simp <;> omega) _ | refine Below.setCell ?_ (by simp <;> omega) _))⟩
theorem tupTo1 (s : Sp) (B : Nat) (n : Int) (w : World) (hB : w.cell? ⟨B, 0, none⟩ = some (.int .i64 n)) (hBl : B < w.heap.size) :
    Calls Tryz.prog 163 #[spV s, .pointer (some ⟨B, 0, none⟩)] w fun e w' => e = .returned (.bool (decide (1 ≤ s.p) && decide (s.p ≤ n))) ∧ Below w.heap.size w w' := by
  by_cases h : 1 ≤ s.p
  · have d1 : decide (1 ≤ s.p) = true := by simpa using h
    go_enter Tryz.func163, Tryz.ntmps163
    go_wp2
    go_ret
    exact ⟨ret_bool (by first | rfl | (simp; done) | (rw [Bool.eq_iff_iff]; simp; done) | (rw [Bool.eq_iff_iff]; simp; omega)), by (repeat' (first | exact Below.refl _ _ | assumption | refine Below.drew ?_ | refine below_drewN ?_ _ | refine Below.alloc ?_ (by simp <;> omega) _ | refine Below.setCell ?_ (by simp <;> omega) _))⟩
  · have d1 : decide (1 ≤ s.p) = false := by simpa using h
    go_enter Tryz.func163, Tryz.ntmps163
    go_wp2
    go_ret
    exact ⟨ret_bool (by first | rfl | (simp; done) | (rw [Bool.eq_iff_iff]; simp; done) | (rw [Bool.eq_iff_iff]; simp; omega)), by (repeat' (first | exact Below.refl _ _ | assumption | refine Below.drew ?_ | refine below_drewN ?_ _ | refine Below.alloc ?_ (by simp <;> omega) _ | refine Below.setCell ?_ (by simp <;> omega) _))⟩
theorem twhatever (s : Sp) (w : World) : Calls Tryz.prog 119 #[spV s] w fun e w' => e = .returned (.bool true) ∧ Below w.heap.size w w' := by
  go_enter Tryz.func119, Tryz.ntmps119
  go_wp2
  go_ret
  exact ⟨rfl, by (repeat' (first | exact Below.refl _ _ | assumption | refine Below.drew ?_ | refine below_drewN ?_ _ | refine Below.alloc ?_ (by simp <;> omega) _ | refine Below.setCell ?_ (by simp <;> omega) _))⟩
theorem tone (n : Int) (s : Sp) (w : World) : Calls Tryz.prog 120 #[.int .i64 n, spV s] w fun e w' => e = .returned (.int .i64 1) ∧ Below w.heap.size w w' := by
  go_enter Tryz.func120, Tryz.ntmps120
  go_wp2
  go_ret
  exact ⟨rfl, by (repeat' (first | exact Below.refl _ _ | assumption | refine Below.drew ?_ | refine below_drewN ?_ _ | refine Below.alloc ?_ (by simp <;> omega) _ | refine Below.setCell ?_ (by simp <;> omega) _))⟩
theorem tsizeCell (n : Int) (s : Sp) (w : World) : Calls Tryz.prog 116 #[.int .i64 n, spV s] w fun e w' => e = .returned (.int .i64 s.p) ∧ Below w.heap.size w w' := by
  go_enter Tryz.func116, Tryz.ntmps116
  go_wp2
  go_ret
  exact ⟨rfl, by (repeat' (first | exact Below.refl _ _ | assumption | refine Below.drew ?_ | refine below_drewN ?_ _ | refine Below.alloc ?_ (by simp <;> omega) _ | refine Below.setCell ?_ (by simp <;> omega) _))⟩
theorem tsizeTally (n : Int) (s : Sp) (w : World) : Calls Tryz.prog 123 #[.int .i64 n, spV s] w fun e w' => e = .returned (.int .i64 n) ∧ Below w.heap.size w w' := by
  go_enter Tryz.func123, Tryz.ntmps123
  go_wp2
  go_ret
  exact ⟨rfl, by (repeat' (first | exact Below.refl _ _ | assumption | refine Below.drew ?_ | refine below_drewN ?_ _ | refine Below.alloc ?_ (by simp <;> omega) _ | refine Below.setCell ?_ (by simp <;> omega) _))⟩
theorem maxSize (p : Int) (h1 : 1 ≤ p) (h2 : p ≤ 12) (w : World) : Calls Tryz.prog 129 #[.int .i64 p] w fun e w' => e = .returned (.int .i64 (2 ^ p.toNat - 1)) ∧ w' = w := by
  obtain ⟨b1, b2⟩ := pow_bd h1 h2
  have hw : IntKind.i64.wrap (2 ^ p.toNat) = 2 ^ p.toNat := IntWalk.i64_in _ (by omega)
  have hu : IntKind.u64.wrap p = p := by rw [IntKind.wrap_u64]; omega
  go_enter Tryz.func129, Tryz.ntmps129
  go_wp2
  go_ret
  exact ⟨rfl, rfl⟩
theorem tsizeMax (n : Int) (s : Sp) (h1 : 1 ≤ s.p) (h2 : s.p ≤ 12) (w : World) : Calls Tryz.prog 128 #[.int .i64 n, spV s] w fun e w' => e = .returned (.int .i64 (2 ^ s.p.toNat - 1)) ∧ Below w.heap.size w w' := by
  go_enter Tryz.func128, Tryz.ntmps128
  go_wp2_with fail
  refine (maxSize s.p h1 h2 _).mono ?_
  rintro e w1 ⟨rfl, rfl⟩
  go_wp2
  go_ret
  exact ⟨rfl, by (repeat' (first | exact Below.refl _ _ | assumption | refine Below.drew ?_ | refine below_drewN ?_ _ | refine Below.alloc ?_ (by simp <;> omega) _ | refine Below.setCell ?_ (by simp <;> omega) _))⟩
theorem snapSize (n p : Int) (hn1 : 1 ≤ n) (hn2 : n ≤ 16) (h1 : 1 ≤ p) (h2 : p ≤ 64) (w : World) : Calls Tryz.prog 165 #[.int .i64 n, .int .i64 p] w fun e w' => e = .returned (.int .i64 (n + n * p * (n + 1))) ∧ w' = w := by
  obtain ⟨a1, a2⟩ := mul_bd (show 0 ≤ n by omega) hn2 (show 0 ≤ p by omega) h2
  obtain ⟨b1, b2⟩ := mul_bd a1 a2 (show 0 ≤ n + 1 by omega) (show n + 1 ≤ 17 by omega)
  go_enter Tryz.func165, Tryz.ntmps165
  go_wp2
  go_ret
  exact ⟨rfl, rfl⟩
theorem tsizeSnap (n : Int) (s : Sp) (hn1 : 1 ≤ n) (hn2 : n ≤ 16) (h1 : 1 ≤ s.p) (h2 : s.p ≤ 64) (w : World) : Calls Tryz.prog 164 #[.int .i64 n, spV s] w fun e w' => e = .returned (.int .i64 (n + n * s.p * (n + 1))) ∧ Below w.heap.size w w' := by
  go_enter Tryz.func164, Tryz.ntmps164
  go_wp2_with fail
  refine (snapSize n s.p hn1 hn2 h1 h2 _).mono ?_
  rintro e w1 ⟨rfl, rfl⟩
  go_wp2
  go_ret
  exact ⟨rfl, by (repeat' (first | exact Below.refl _ _ | assumption | refine Below.drew ?_ | refine below_drewN ?_ _ | refine Below.alloc ?_ (by simp <;> omega) _ | refine Below.setCell ?_ (by simp <;> omega) _))⟩
theorem multiSize (n p q : Int) (hn1 : 1 ≤ n) (hn2 : n ≤ 16) (h1 : 1 ≤ p) (h2 : p ≤ 16) (h3 : 1 ≤ q) (h4 : q ≤ 64) (w : World) : Calls Tryz.prog 170 #[.int .i64 n, .int .i64 p, .int .i64 q] w fun e w' => e = .returned (.int .i64 (p + n * q * (p + 1))) ∧ w' = w := by
  obtain ⟨a1, a2⟩ := mul_bd (show 0 ≤ n by omega) hn2 (show 0 ≤ q by omega) h4
  obtain ⟨b1, b2⟩ := mul_bd a1 a2 (show 0 ≤ p + 1 by omega) (show p + 1 ≤ 17 by omega)
  go_enter Tryz.func170, Tryz.ntmps170
  go_wp2
  go_ret
  exact ⟨rfl, rfl⟩
theorem tsizeMulti (n : Int) (s : Sp) (hn1 : 1 ≤ n) (hn2 : n ≤ 16) (h1 : 1 ≤ s.p) (h2 : s.p ≤ 16) (h3 : 1 ≤ s.q) (h4 : s.q ≤ 64) (w : World) : Calls Tryz.prog 169 #[.int .i64 n, spV s] w fun e w' => e = .returned (.int .i64 (s.p + n * s.q * (s.p + 1))) ∧ Below w.heap.size w w' := by
  go_enter Tryz.func169, Tryz.ntmps169
  go_wp2_with fail
  refine (multiSize n s.p s.q hn1 hn2 h1 h2 h3 h4 _).mono ?_
  rintro e w1 ⟨rfl, rfl⟩
  go_wp2
  go_ret
  exact ⟨rfl, by (repeat' (first | exact Below.refl _ _ | assumption | refine Below.drew ?_ | refine below_drewN ?_ _ | refine Below.alloc ?_ (by simp <;> omega) _ | refine Below.setCell ?_ (by simp <;> omega) _))⟩
theorem trightMulti (s : Sp) (w : World) : Calls Tryz.prog 168 #[spV s] w fun e w' => e = .returned (.bool (decide (1 ≤ s.p) && (decide (s.p ≤ 16) && (decide (1 ≤ s.q) && decide (s.q ≤ 64))))) ∧ Below w.heap.size w w' := by
  go_enter Tryz.func168, Tryz.ntmps168
  go_wp2
  all_goals (go_ret; exact ⟨ret_bool (by first | rfl | (simp; done) | (rw [Bool.eq_iff_iff]; simp; done) | (rw [Bool.eq_iff_iff]; simp; omega)), by (repeat' (first | exact Below.refl _ _ | assumption | refine Below.drew ?_ | refine below_drewN ?_ _ | refine Below.alloc ?_ (by simp <;> omega) _ | refine Below.setCell ?_ (by simp <;> omega) _))⟩)
theorem tactsUniv (s : Sp) (w : World) : Calls Tryz.prog 173 #[spV s] w fun e w' => e = .returned (.int .i64 (kindsI s.p)) ∧ Below w.heap.size w w' := by
  obtain ⟨K, hK⟩ : ∃ K, kindsI s.p = K := ⟨_, rfl⟩
  have N0 := fun W => kinds_any s.p W
  rw [hK] at N0 ⊢
  clear hK
  go_enter Tryz.func173, Tryz.ntmps173
  go_wp2_with fail
  refine (N0 _).mono ?_
  rintro e w1 ⟨rfl, hb⟩
  go_wp2
  go_ret
  exact ⟨rfl, ((Below.refl _ w).alloc (Nat.le_refl _) _).trans (hb.mono (by simp))⟩
theorem univRight (p q : Int) (w : World) : Calls Tryz.prog 176 #[.int .i64 p, .int .i64 q] w fun e w' => e = .returned (.bool (decide (0 < kindsI p) && (decide (1 ≤ q) && decide (q ≤ 256)))) ∧ Below w.heap.size w w' := by
  obtain ⟨K, hK⟩ : ∃ K, kindsI p = K := ⟨_, rfl⟩
  have N0 := fun W => kinds_any p W
  rw [hK] at N0 ⊢
  clear hK
  go_enter Tryz.func176, Tryz.ntmps176
  go_wp2_with fail
  refine (N0 _).mono ?_
  rintro e w1 ⟨rfl, hb⟩
  go_wp2
  all_goals (go_ret; exact ⟨ret_bool (by first | rfl | (simp; done) | (rw [Bool.eq_iff_iff]; simp; done) | (rw [Bool.eq_iff_iff]; simp; omega)), hb⟩)
theorem trightUniv (s : Sp) (w : World) : Calls Tryz.prog 175 #[spV s] w fun e w' => e = .returned (.bool (decide (0 < kindsI s.p) && (decide (1 ≤ s.q) && decide (s.q ≤ 256)))) ∧ Below w.heap.size w w' := by
  obtain ⟨R, hR⟩ : ∃ R, (decide (0 < kindsI s.p) && (decide (1 ≤ s.q) && decide (s.q ≤ 256))) = R := ⟨_, rfl⟩
  have N0 := fun W => univRight s.p s.q W
  rw [hR] at N0 ⊢
  clear hR
  go_enter Tryz.func175, Tryz.ntmps175
  go_wp2_with fail
  refine (N0 _).mono ?_
  rintro e w1 ⟨rfl, hb⟩
  go_wp2
  go_ret
  exact ⟨rfl, ((Below.refl _ w).alloc (Nat.le_refl _) _).trans (hb.mono (by simp))⟩
theorem tsizeUniv (n : Int) (s : Sp) (hn1 : 1 ≤ n) (hn2 : n ≤ 16) (h3 : 1 ≤ s.q) (h4 : s.q ≤ 256) (w : World) : Calls Tryz.prog 177 #[.int .i64 n, spV s] w fun e w' => e = .returned (.int .i64 (n + s.q)) ∧ Below w.heap.size w w' := by
  go_enter Tryz.func177, Tryz.ntmps177
  go_wp2
  go_ret
  exact ⟨rfl, by (repeat' (first | exact Below.refl _ _ | assumption | refine Below.drew ?_ | refine below_drewN ?_ _ | refine Below.alloc ?_ (by simp <;> omega) _ | refine Below.setCell ?_ (by simp <;> omega) _))⟩
theorem queueRight (p q : Int) (w : World) : Calls Tryz.prog 181 #[.int .i64 p, .int .i64 q] w fun e w' => e = .returned (.bool (decide (1 ≤ p) && (decide (p ≤ 32) && (decide (0 ≤ q) && decide (q ≤ 3))))) ∧ w' = w := by
  go_enter Tryz.func181, Tryz.ntmps181
  go_wp2
  all_goals (go_ret; exact ⟨ret_bool (by first | rfl | (simp; done) | (rw [Bool.eq_iff_iff]; simp; done) | (rw [Bool.eq_iff_iff]; simp; omega)), rfl⟩)
theorem trightQueue (s : Sp) (w : World) : Calls Tryz.prog 180 #[spV s] w fun e w' => e = .returned (.bool (decide (1 ≤ s.p) && (decide (s.p ≤ 32) && (decide (0 ≤ s.q) && decide (s.q ≤ 3))))) ∧ Below w.heap.size w w' := by
  obtain ⟨R, hR⟩ : ∃ R, (decide (1 ≤ s.p) && (decide (s.p ≤ 32) && (decide (0 ≤ s.q) && decide (s.q ≤ 3)))) = R := ⟨_, rfl⟩
  have N0 := fun W => queueRight s.p s.q W
  rw [hR] at N0 ⊢
  clear hR
  go_enter Tryz.func180, Tryz.ntmps180
  go_wp2_with fail
  refine (N0 _).mono ?_
  rintro e w1 ⟨rfl, rfl⟩
  go_wp2
  go_ret
  exact ⟨rfl, by (repeat' (first | exact Below.refl _ _ | assumption | refine Below.drew ?_ | refine below_drewN ?_ _ | refine Below.alloc ?_ (by simp <;> omega) _ | refine Below.setCell ?_ (by simp <;> omega) _))⟩
theorem nodeRight (n p : Int) (hn1 : 1 ≤ n) (hn2 : n ≤ 16) (h1 : 1 ≤ p) (h2 : p ≤ 32) (w : World) : Calls Tryz.prog 206 #[.int .i64 n, .int .i64 p] w fun e w' => e = .returned (.bool true) ∧ w' = w := by
  go_enter Tryz.func206, Tryz.ntmps206
  go_wp2
  all_goals (go_ret; exact ⟨ret_bool (by first | rfl | (simp; done) | (rw [Bool.eq_iff_iff]; simp; done) | (rw [Bool.eq_iff_iff]; simp; omega)), rfl⟩)
theorem nodeSize (n p : Int) (hn1 : 1 ≤ n) (hn2 : n ≤ 16) (h1 : 1 ≤ p) (h2 : p ≤ 32) (w : World) : Calls Tryz.prog 183 #[.int .i64 n, .int .i64 p] w fun e w' => e = .returned (.int .i64 (2 + n + 4 * (1 + n * p))) ∧ w' = w := by
  obtain ⟨a1, a2⟩ := mul_bd (show 0 ≤ n by omega) hn2 (show 0 ≤ p by omega) h2
  go_enter Tryz.func183, Tryz.ntmps183
  go_wp2_with fail
  refine (nodeRight n p hn1 hn2 h1 h2 _).mono ?_
  rintro e w1 ⟨rfl, rfl⟩
  go_wp2
  go_ret
  exact ⟨rfl, rfl⟩
theorem tsizeQueue (n : Int) (s : Sp) (hn1 : 1 ≤ n) (hn2 : n ≤ 16) (h1 : 1 ≤ s.p) (h2 : s.p ≤ 32) (w : World) : Calls Tryz.prog 182 #[.int .i64 n, spV s] w fun e w' => e = .returned (.int .i64 (2 + n + 4 * (1 + n * s.p))) ∧ Below w.heap.size w w' := by
  go_enter Tryz.func182, Tryz.ntmps182
  go_wp2_with fail
  refine (nodeSize n s.p hn1 hn2 h1 h2 _).mono ?_
  rintro e w1 ⟨rfl, rfl⟩
  go_wp2
  go_ret
  exact ⟨rfl, by (repeat' (first | exact Below.refl _ _ | assumption | refine Below.drew ?_ | refine below_drewN ?_ _ | refine Below.alloc ?_ (by simp <;> omega) _ | refine Below.setCell ?_ (by simp <;> omega) _))⟩
theorem pinSize (n p : Int) (hn1 : 1 ≤ n) (hn2 : n ≤ 16) (h1 : 1 ≤ p) (h2 : p ≤ 8) (w : World) : Calls Tryz.prog 187 #[.int .i64 n, .int .i64 p] w fun e w' => e = .returned (.int .i64 (1 + (n + 1) * (p + 1))) ∧ w' = w := by
  obtain ⟨a1, a2⟩ := mul_bd (show 0 ≤ n + 1 by omega) (show n + 1 ≤ 17 by omega) (show 0 ≤ p + 1 by omega) (show p + 1 ≤ 9 by omega)
  go_enter Tryz.func187, Tryz.ntmps187
  go_wp2
  go_ret
  exact ⟨rfl, rfl⟩
theorem tsizePin (n : Int) (s : Sp) (hn1 : 1 ≤ n) (hn2 : n ≤ 16) (h1 : 1 ≤ s.p) (h2 : s.p ≤ 8) (w : World) : Calls Tryz.prog 186 #[.int .i64 n, spV s] w fun e w' => e = .returned (.int .i64 (1 + (n + 1) * (s.p + 1))) ∧ Below w.heap.size w w' := by
  go_enter Tryz.func186, Tryz.ntmps186
  go_wp2_with fail
  refine (pinSize n s.p hn1 hn2 h1 h2 _).mono ?_
  rintro e w1 ⟨rfl, rfl⟩
  go_wp2
  go_ret
  exact ⟨rfl, by (repeat' (first | exact Below.refl _ _ | assumption | refine Below.drew ?_ | refine below_drewN ?_ _ | refine Below.alloc ?_ (by simp <;> omega) _ | refine Below.setCell ?_ (by simp <;> omega) _))⟩
end Go.Proofs.YtmiimpmfkjcjlaaGreat
