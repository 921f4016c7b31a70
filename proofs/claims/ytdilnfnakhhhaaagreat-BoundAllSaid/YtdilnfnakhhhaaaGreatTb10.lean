/- How many steps operations make at most: the reference's Most and All. -/
import Derived.Test.YtdilnfnakhhhaaaGreatTb9
namespace Go.Proofs.YtdilnfnakhhhaaaGreat
open Go.RowKit

set_option maxRecDepth 100000 in
set_option maxHeartbeats 4000000 in
theorem refMost_any (n : Int) (s : Sp) (kd : Int) (h : sizeE n s = 0) (hk0 : 0 ≤ kd) (hk1 : kd < actsT s.kind s.p) (w : World) :
    Calls Tryz.prog 18 #[.int .i64 n, spV s, .int .i64 kd] w fun e w' => e = .returned (.int .i64 (mostT n s kd)) ∧ Below w.heap.size w w' := by
  obtain ⟨⟨hn1, hn2⟩, ⟨h0, h9⟩, hr⟩ := sizeE_zero h
  obtain ⟨k, p, q⟩ := s
  simp only at *
  obtain ⟨e1, e2⟩ := mul_bd (show 0 ≤ n by omega) hn2 (show 0 ≤ n by omega) hn2
  obtain ⟨e3, e4⟩ := mul_bd (show 0 ≤ 2 * n by omega) (show 2 * n ≤ 32 by omega) (show 0 ≤ n by omega) hn2
  obtain ⟨e5, e6⟩ := mul_bd (show 0 ≤ n + 1 by omega) (show n + 1 ≤ 17 by omega) (show 0 ≤ 15 * (2 * n * n + 8) + 1 by omega) (show 15 * (2 * n * n + 8) + 1 ≤ 7801 by omega)
  have HA := hide (show n * (n + 2) = n * n + 2 * n by rw [Int.mul_add]; omega)
  have HB := hide (show p * (n + 3) = p * n + 3 * p by rw [Int.mul_add]; omega)
  have HC := hide (show p * (n + 2) = p * n + 2 * p by rw [Int.mul_add]; omega)
  have hk : k = 0 ∨ k = 1 ∨ k = 2 ∨ k = 3 ∨ k = 4 ∨ k = 5 ∨ k = 6 ∨ k = 7 ∨ k = 8 ∨ k = 9 := by omega
  clear h h0 h9
  unfold mostT
  rcases hk with rfl | rfl | rfl | rfl | rfl | rfl | rfl | rfl | rfl | rfl <;> simp [rightT, actsT] at hr hk1 ⊢
  · by_cases hk : kd = 1
    · subst hk
      go_enter Tryz.func18, Tryz.ntmps18
      go_wp2
      go_ret
      exact ⟨ret_int (by have := HA.out; have := HB.out; have := HC.out; first | rfl | (simp; done) | (simp; omega) | omega), by (repeat' (first | exact Below.refl _ _ | assumption | refine Below.drew ?_ | refine below_drewN ?_ _ | refine Below.alloc ?_ (by simp <;> omega) _ | refine Below.setCell ?_ (by simp <;> omega) _))⟩
    · have d1 : (kd == 1) = false := by simpa using hk
      try simp only [if_neg hk]
      clear hk
      go_enter Tryz.func18, Tryz.ntmps18
      go_wp2
      go_ret
      exact ⟨ret_int (by have := HA.out; have := HB.out; have := HC.out; first | rfl | (simp; done) | (simp; omega) | omega), by (repeat' (first | exact Below.refl _ _ | assumption | refine Below.drew ?_ | refine below_drewN ?_ _ | refine Below.alloc ?_ (by simp <;> omega) _ | refine Below.setCell ?_ (by simp <;> omega) _))⟩
  · by_cases hk : kd = 1
    · subst hk
      go_enter Tryz.func18, Tryz.ntmps18
      go_wp2
      go_ret
      exact ⟨ret_int (by have := HA.out; have := HB.out; have := HC.out; first | rfl | (simp; done) | (simp; omega) | omega), by (repeat' (first | exact Below.refl _ _ | assumption | refine Below.drew ?_ | refine below_drewN ?_ _ | refine Below.alloc ?_ (by simp <;> omega) _ | refine Below.setCell ?_ (by simp <;> omega) _))⟩
    · obtain rfl : kd = 0 := by omega
      go_enter Tryz.func18, Tryz.ntmps18
      go_wp2
      go_ret
      exact ⟨ret_int (by have := HA.out; have := HB.out; have := HC.out; first | rfl | (simp; done) | (simp; omega) | omega), by (repeat' (first | exact Below.refl _ _ | assumption | refine Below.drew ?_ | refine below_drewN ?_ _ | refine Below.alloc ?_ (by simp <;> omega) _ | refine Below.setCell ?_ (by simp <;> omega) _))⟩
  · by_cases hk : kd = 1
    · subst hk
      go_enter Tryz.func18, Tryz.ntmps18
      go_wp2
      go_ret
      exact ⟨ret_int (by have := HA.out; have := HB.out; have := HC.out; first | rfl | (simp; done) | (simp; omega) | omega), by (repeat' (first | exact Below.refl _ _ | assumption | refine Below.drew ?_ | refine below_drewN ?_ _ | refine Below.alloc ?_ (by simp <;> omega) _ | refine Below.setCell ?_ (by simp <;> omega) _))⟩
    · have d1 : (kd == 1) = false := by simpa using hk
      try simp only [if_neg hk]
      clear hk
      go_enter Tryz.func18, Tryz.ntmps18
      go_wp2
      go_ret
      exact ⟨ret_int (by have := HA.out; have := HB.out; have := HC.out; first | rfl | (simp; done) | (simp; omega) | omega), by (repeat' (first | exact Below.refl _ _ | assumption | refine Below.drew ?_ | refine below_drewN ?_ _ | refine Below.alloc ?_ (by simp <;> omega) _ | refine Below.setCell ?_ (by simp <;> omega) _))⟩
  · by_cases hk : kd = 1
    · subst hk
      go_enter Tryz.func18, Tryz.ntmps18
      go_wp2
      go_ret
      exact ⟨ret_int (by have := HA.out; have := HB.out; have := HC.out; first | rfl | (simp; done) | (simp; omega) | omega), by (repeat' (first | exact Below.refl _ _ | assumption | refine Below.drew ?_ | refine below_drewN ?_ _ | refine Below.alloc ?_ (by simp <;> omega) _ | refine Below.setCell ?_ (by simp <;> omega) _))⟩
    · have d1 : (kd == 1) = false := by simpa using hk
      try simp only [if_neg hk]
      clear hk
      go_enter Tryz.func18, Tryz.ntmps18
      go_wp2
      go_ret
      exact ⟨ret_int (by have := HA.out; have := HB.out; have := HC.out; first | rfl | (simp; done) | (simp; omega) | omega), by (repeat' (first | exact Below.refl _ _ | assumption | refine Below.drew ?_ | refine below_drewN ?_ _ | refine Below.alloc ?_ (by simp <;> omega) _ | refine Below.setCell ?_ (by simp <;> omega) _))⟩
  · by_cases hk : kd = 1
    · subst hk
      go_enter Tryz.func18, Tryz.ntmps18
      go_wp2
      go_ret
      exact ⟨ret_int (by have := HA.out; have := HB.out; have := HC.out; first | rfl | (simp; done) | (simp; omega) | omega), by (repeat' (first | exact Below.refl _ _ | assumption | refine Below.drew ?_ | refine below_drewN ?_ _ | refine Below.alloc ?_ (by simp <;> omega) _ | refine Below.setCell ?_ (by simp <;> omega) _))⟩
    · have d1 : (kd == 1) = false := by simpa using hk
      try simp only [if_neg hk]
      clear hk
      go_enter Tryz.func18, Tryz.ntmps18
      go_wp2
      go_ret
      exact ⟨ret_int (by have := HA.out; have := HB.out; have := HC.out; first | rfl | (simp; done) | (simp; omega) | omega), by (repeat' (first | exact Below.refl _ _ | assumption | refine Below.drew ?_ | refine below_drewN ?_ _ | refine Below.alloc ?_ (by simp <;> omega) _ | refine Below.setCell ?_ (by simp <;> omega) _))⟩
  · by_cases hk : kd = 1
    · subst hk
      go_enter Tryz.func18, Tryz.ntmps18
      go_wp2
      go_ret
      exact ⟨ret_int (by have := HA.out; have := HB.out; have := HC.out; first | rfl | (simp; done) | (simp; omega) | omega), by (repeat' (first | exact Below.refl _ _ | assumption | refine Below.drew ?_ | refine below_drewN ?_ _ | refine Below.alloc ?_ (by simp <;> omega) _ | refine Below.setCell ?_ (by simp <;> omega) _))⟩
    · have d1 : (kd == 1) = false := by simpa using hk
      try simp only [if_neg hk]
      clear hk
      go_enter Tryz.func18, Tryz.ntmps18
      go_wp2
      go_ret
      exact ⟨ret_int (by have := HA.out; have := HB.out; have := HC.out; first | rfl | (simp; done) | (simp; omega) | omega), by (repeat' (first | exact Below.refl _ _ | assumption | refine Below.drew ?_ | refine below_drewN ?_ _ | refine Below.alloc ?_ (by simp <;> omega) _ | refine Below.setCell ?_ (by simp <;> omega) _))⟩
  · obtain ⟨g1, g2⟩ := mul_bd (show 0 ≤ p by omega) hr.2.1 (show 0 ≤ n + 2 by omega) (show n + 2 ≤ 18 by omega)
    obtain ⟨g3, g4⟩ := mul_bd (show 0 ≤ p by omega) hr.2.1 (show 0 ≤ n + 3 by omega) (show n + 3 ≤ 19 by omega)
    by_cases hk : kd = 1
    · subst hk
      go_enter Tryz.func18, Tryz.ntmps18
      go_wp2
      go_ret
      exact ⟨ret_int (by have := HA.out; have := HB.out; have := HC.out; first | rfl | (simp; done) | (simp; omega) | omega), by (repeat' (first | exact Below.refl _ _ | assumption | refine Below.drew ?_ | refine below_drewN ?_ _ | refine Below.alloc ?_ (by simp <;> omega) _ | refine Below.setCell ?_ (by simp <;> omega) _))⟩
    · have d1 : (kd == 1) = false := by simpa using hk
      try simp only [if_neg hk]
      clear hk
      go_enter Tryz.func18, Tryz.ntmps18
      go_wp2
      go_ret
      exact ⟨ret_int (by have := HA.out; have := HB.out; have := HC.out; first | rfl | (simp; done) | (simp; omega) | omega), by (repeat' (first | exact Below.refl _ _ | assumption | refine Below.drew ?_ | refine below_drewN ?_ _ | refine Below.alloc ?_ (by simp <;> omega) _ | refine Below.setCell ?_ (by simp <;> omega) _))⟩
  · by_cases hk : kd = 1
    · subst hk
      go_enter Tryz.func18, Tryz.ntmps18
      go_wp2
      go_ret
      exact ⟨ret_int (by have := HA.out; have := HB.out; have := HC.out; first | rfl | (simp; done) | (simp; omega) | omega), by (repeat' (first | exact Below.refl _ _ | assumption | refine Below.drew ?_ | refine below_drewN ?_ _ | refine Below.alloc ?_ (by simp <;> omega) _ | refine Below.setCell ?_ (by simp <;> omega) _))⟩
    · have d1 : (kd == 1) = false := by simpa using hk
      try simp only [if_neg hk]
      clear hk
      go_enter Tryz.func18, Tryz.ntmps18
      go_wp2
      go_ret
      exact ⟨ret_int (by have := HA.out; have := HB.out; have := HC.out; first | rfl | (simp; done) | (simp; omega) | omega), by (repeat' (first | exact Below.refl _ _ | assumption | refine Below.drew ?_ | refine below_drewN ?_ _ | refine Below.alloc ?_ (by simp <;> omega) _ | refine Below.setCell ?_ (by simp <;> omega) _))⟩
  · by_cases hk : kd = 1
    · subst hk
      go_enter Tryz.func18, Tryz.ntmps18
      go_wp2
      go_ret
      exact ⟨ret_int (by have := HA.out; have := HB.out; have := HC.out; first | rfl | (simp; done) | (simp; omega) | omega), by (repeat' (first | exact Below.refl _ _ | assumption | refine Below.drew ?_ | refine below_drewN ?_ _ | refine Below.alloc ?_ (by simp <;> omega) _ | refine Below.setCell ?_ (by simp <;> omega) _))⟩
    · have d1 : (kd == 1) = false := by simpa using hk
      try simp only [if_neg hk]
      clear hk
      go_enter Tryz.func18, Tryz.ntmps18
      go_wp2
      go_ret
      exact ⟨ret_int (by have := HA.out; have := HB.out; have := HC.out; first | rfl | (simp; done) | (simp; omega) | omega), by (repeat' (first | exact Below.refl _ _ | assumption | refine Below.drew ?_ | refine below_drewN ?_ _ | refine Below.alloc ?_ (by simp <;> omega) _ | refine Below.setCell ?_ (by simp <;> omega) _))⟩
  · by_cases hk : kd = 1
    · subst hk
      go_enter Tryz.func18, Tryz.ntmps18
      go_wp2
      go_ret
      exact ⟨ret_int (by have := HA.out; have := HB.out; have := HC.out; first | rfl | (simp; done) | (simp; omega) | omega), by (repeat' (first | exact Below.refl _ _ | assumption | refine Below.drew ?_ | refine below_drewN ?_ _ | refine Below.alloc ?_ (by simp <;> omega) _ | refine Below.setCell ?_ (by simp <;> omega) _))⟩
    · have d1 : (kd == 1) = false := by simpa using hk
      try simp only [if_neg hk]
      clear hk
      go_enter Tryz.func18, Tryz.ntmps18
      go_wp2
      go_ret
      exact ⟨ret_int (by have := HA.out; have := HB.out; have := HC.out; first | rfl | (simp; done) | (simp; omega) | omega), by (repeat' (first | exact Below.refl _ _ | assumption | refine Below.drew ?_ | refine below_drewN ?_ _ | refine Below.alloc ?_ (by simp <;> omega) _ | refine Below.setCell ?_ (by simp <;> omega) _))⟩
end Go.Proofs.YtdilnfnakhhhaaaGreat
