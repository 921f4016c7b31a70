/- The reference's sizes and numbers of operations of objects. -/
import Derived.Test.YtmiimpmfkjcjlaaGreatTb3
namespace Go.Proofs.YtmiimpmfkjcjlaaGreat
open Go.RowKit

set_option maxRecDepth 100000 in
set_option maxHeartbeats 1000000 in
theorem beside_none (n : Int) (s : Sp) (hk : s.kind ≤ 9) (w : World) : Calls Tryz.prog 75 #[.int .i64 n, spV s] w fun e w' => e = .returned (.int .i64 (-1)) ∧ Below w.heap.size w w' := by
  have e10 : (s.kind == 10) = false := by simp; omega
  have e11 : (s.kind == 11) = false := by simp; omega
  have e12 : (s.kind == 12) = false := by simp; omega
  have e13 : (s.kind == 13) = false := by simp; omega
  have e14 : (s.kind == 14) = false := by simp; omega
  have e15 : (s.kind == 15) = false := by simp; omega
  have e16 : (s.kind == 16) = false := by simp; omega
  have e17 : (s.kind == 17) = false := by simp; omega
  clear hk
  go_enter Tryz.func75, Tryz.ntmps75
  go_wp2
  go_ret
  exact ⟨rfl, by (repeat' (first | exact Below.refl _ _ | assumption | refine Below.drew ?_ | refine below_drewN ?_ _ | refine Below.alloc ?_ (by simp <;> omega) _ | refine Below.setCell ?_ (by simp <;> omega) _))⟩

theorem queueSize (n p : Int) (hn1 : 1 ≤ n) (hn2 : n ≤ 16) (h1 : 1 ≤ p) (h2 : p ≤ 32) (w : World) : Calls Tryz.prog 74 #[.int .i64 n, .int .i64 p] w fun e w' => e = .returned (.int .i64 (2 + n + 4 * (1 + n * p))) ∧ w' = w := by
  obtain ⟨a1, a2⟩ := mul_bd (show 0 ≤ n by omega) hn2 (show 0 ≤ p by omega) h2
  go_enter Tryz.func74, Tryz.ntmps74
  go_wp2
  go_ret
  exact ⟨rfl, rfl⟩

set_option maxRecDepth 100000 in
set_option maxHeartbeats 1000000 in
theorem psize_0 (n p q : Int) (_hn1 : 1 ≤ n) (_hn2 : n ≤ 16) (h0 : 1 ≤ p) (h1 : p ≤ 64) (w : World) : Calls Tryz.prog 38 #[.int .i64 n, spV ⟨0, p, q⟩] w fun e w' => e = .returned (.int .i64 (p)) ∧ Below w.heap.size w w' := by
  have d0 : decide (1 ≤ p) = true := by simpa using h0
  have d1 : decide (p ≤ 64) = true := by simpa using h1
  go_enter Tryz.func38, Tryz.ntmps38
  go_wp2
  go_ret
  exact ⟨rfl, by (repeat' (first | exact Below.refl _ _ | assumption | refine Below.drew ?_ | refine below_drewN ?_ _ | refine Below.alloc ?_ (by simp <;> omega) _ | refine Below.setCell ?_ (by simp <;> omega) _))⟩
set_option maxRecDepth 100000 in
set_option maxHeartbeats 1000000 in
theorem psizeNo_0_0 (n p q : Int) (g0 : ¬ (1 ≤ p)) (w : World) : Calls Tryz.prog 38 #[.int .i64 n, spV ⟨0, p, q⟩] w fun e w' => e = .returned (.int .i64 (-1)) ∧ Below w.heap.size w w' := by
  have d0 : decide (1 ≤ p) = false := by simpa using g0
  go_enter Tryz.func38, Tryz.ntmps38
  go_wp2_with fail
  refine (beside_none n ⟨0, p, q⟩ (show (0 : Int) ≤ 9 by decide) _).mono ?_
  rintro e w2 ⟨rfl, hb2⟩
  go_wp2
  go_ret
  exact ⟨rfl, ((Below.refl _ w).alloc (Nat.le_refl _) _).trans (hb2.mono (by simp))⟩
set_option maxRecDepth 100000 in
set_option maxHeartbeats 1000000 in
theorem psizeNo_0_1 (n p q : Int) (g0 : 1 ≤ p) (g1 : ¬ (p ≤ 64)) (w : World) : Calls Tryz.prog 38 #[.int .i64 n, spV ⟨0, p, q⟩] w fun e w' => e = .returned (.int .i64 (-1)) ∧ Below w.heap.size w w' := by
  have d0 : decide (1 ≤ p) = true := by simpa using g0
  have d1 : decide (p ≤ 64) = false := by simpa using g1
  go_enter Tryz.func38, Tryz.ntmps38
  go_wp2_with fail
  refine (beside_none n ⟨0, p, q⟩ (show (0 : Int) ≤ 9 by decide) _).mono ?_
  rintro e w2 ⟨rfl, hb2⟩
  go_wp2
  go_ret
  exact ⟨rfl, ((Below.refl _ w).alloc (Nat.le_refl _) _).trans (hb2.mono (by simp))⟩
set_option maxRecDepth 100000 in
set_option maxHeartbeats 1000000 in
theorem psize_1 (n p q : Int) (_hn1 : 1 ≤ n) (_hn2 : n ≤ 16) (w : World) : Calls Tryz.prog 38 #[.int .i64 n, spV ⟨1, p, q⟩] w fun e w' => e = .returned (.int .i64 (1)) ∧ Below w.heap.size w w' := by
  go_enter Tryz.func38, Tryz.ntmps38
  go_wp2
  go_ret
  exact ⟨rfl, by (repeat' (first | exact Below.refl _ _ | assumption | refine Below.drew ?_ | refine below_drewN ?_ _ | refine Below.alloc ?_ (by simp <;> omega) _ | refine Below.setCell ?_ (by simp <;> omega) _))⟩
set_option maxRecDepth 100000 in
set_option maxHeartbeats 1000000 in
theorem psize_2 (n p q : Int) (_hn1 : 1 ≤ n) (_hn2 : n ≤ 16) (w : World) : Calls Tryz.prog 38 #[.int .i64 n, spV ⟨2, p, q⟩] w fun e w' => e = .returned (.int .i64 (n)) ∧ Below w.heap.size w w' := by
  go_enter Tryz.func38, Tryz.ntmps38
  go_wp2
  go_ret
  exact ⟨rfl, by (repeat' (first | exact Below.refl _ _ | assumption | refine Below.drew ?_ | refine below_drewN ?_ _ | refine Below.alloc ?_ (by simp <;> omega) _ | refine Below.setCell ?_ (by simp <;> omega) _))⟩
set_option maxRecDepth 100000 in
set_option maxHeartbeats 1000000 in
theorem psize_3 (n p q : Int) (_hn1 : 1 ≤ n) (_hn2 : n ≤ 16) (w : World) : Calls Tryz.prog 38 #[.int .i64 n, spV ⟨3, p, q⟩] w fun e w' => e = .returned (.int .i64 (1)) ∧ Below w.heap.size w w' := by
  go_enter Tryz.func38, Tryz.ntmps38
  go_wp2
  go_ret
  exact ⟨rfl, by (repeat' (first | exact Below.refl _ _ | assumption | refine Below.drew ?_ | refine below_drewN ?_ _ | refine Below.alloc ?_ (by simp <;> omega) _ | refine Below.setCell ?_ (by simp <;> omega) _))⟩
set_option maxRecDepth 100000 in
set_option maxHeartbeats 1000000 in
theorem psize_4 (n p q : Int) (_hn1 : 1 ≤ n) (_hn2 : n ≤ 16) (h0 : 1 ≤ p) (h1 : p ≤ 12) (w : World) : Calls Tryz.prog 38 #[.int .i64 n, spV ⟨4, p, q⟩] w fun e w' => e = .returned (.int .i64 (2 ^ p.toNat - 1)) ∧ Below w.heap.size w w' := by
  obtain ⟨b1, b2⟩ := pow_bd h0 h1
  have hw : IntKind.i64.wrap (2 ^ p.toNat) = 2 ^ p.toNat := IntWalk.i64_in _ (by omega)
  have hu : IntKind.u64.wrap p = p := by rw [IntKind.wrap_u64]; omega
  have d0 : decide (1 ≤ p) = true := by simpa using h0
  have d1 : decide (p ≤ 12) = true := by simpa using h1
  go_enter Tryz.func38, Tryz.ntmps38
  go_wp2
  go_ret
  exact ⟨rfl, by (repeat' (first | exact Below.refl _ _ | assumption | refine Below.drew ?_ | refine below_drewN ?_ _ | refine Below.alloc ?_ (by simp <;> omega) _ | refine Below.setCell ?_ (by simp <;> omega) _))⟩
set_option maxRecDepth 100000 in
set_option maxHeartbeats 1000000 in
theorem psizeNo_4_0 (n p q : Int) (g0 : ¬ (1 ≤ p)) (w : World) : Calls Tryz.prog 38 #[.int .i64 n, spV ⟨4, p, q⟩] w fun e w' => e = .returned (.int .i64 (-1)) ∧ Below w.heap.size w w' := by
  have d0 : decide (1 ≤ p) = false := by simpa using g0
  go_enter Tryz.func38, Tryz.ntmps38
  go_wp2_with fail
  refine (beside_none n ⟨4, p, q⟩ (show (4 : Int) ≤ 9 by decide) _).mono ?_
  rintro e w2 ⟨rfl, hb2⟩
  go_wp2
  go_ret
  exact ⟨rfl, ((Below.refl _ w).alloc (Nat.le_refl _) _).trans (hb2.mono (by simp))⟩
set_option maxRecDepth 100000 in
set_option maxHeartbeats 1000000 in
theorem psizeNo_4_1 (n p q : Int) (g0 : 1 ≤ p) (g1 : ¬ (p ≤ 12)) (w : World) : Calls Tryz.prog 38 #[.int .i64 n, spV ⟨4, p, q⟩] w fun e w' => e = .returned (.int .i64 (-1)) ∧ Below w.heap.size w w' := by
  have d0 : decide (1 ≤ p) = true := by simpa using g0
  have d1 : decide (p ≤ 12) = false := by simpa using g1
  go_enter Tryz.func38, Tryz.ntmps38
  go_wp2_with fail
  refine (beside_none n ⟨4, p, q⟩ (show (4 : Int) ≤ 9 by decide) _).mono ?_
  rintro e w2 ⟨rfl, hb2⟩
  go_wp2
  go_ret
  exact ⟨rfl, ((Below.refl _ w).alloc (Nat.le_refl _) _).trans (hb2.mono (by simp))⟩
set_option maxRecDepth 100000 in
set_option maxHeartbeats 1000000 in
theorem psize_5 (n p q : Int) (hn1 : 1 ≤ n) (hn2 : n ≤ 16) (h0 : 1 ≤ p) (h1 : p ≤ 64) (w : World) : Calls Tryz.prog 38 #[.int .i64 n, spV ⟨5, p, q⟩] w fun e w' => e = .returned (.int .i64 (n + n * p * (n + 1))) ∧ Below w.heap.size w w' := by
  obtain ⟨a1, a2⟩ := mul_bd (show 0 ≤ n by omega) hn2 (show 0 ≤ p by omega) h1
  obtain ⟨b1, b2⟩ := mul_bd a1 a2 (show 0 ≤ n + 1 by omega) (show n + 1 ≤ 17 by omega)
  have d0 : decide (1 ≤ p) = true := by simpa using h0
  have d1 : decide (p ≤ 64) = true := by simpa using h1
  go_enter Tryz.func38, Tryz.ntmps38
  go_wp2
  go_ret
  exact ⟨rfl, by (repeat' (first | exact Below.refl _ _ | assumption | refine Below.drew ?_ | refine below_drewN ?_ _ | refine Below.alloc ?_ (by simp <;> omega) _ | refine Below.setCell ?_ (by simp <;> omega) _))⟩
set_option maxRecDepth 100000 in
set_option maxHeartbeats 1000000 in
theorem psizeNo_5_0 (n p q : Int) (g0 : ¬ (1 ≤ p)) (w : World) : Calls Tryz.prog 38 #[.int .i64 n, spV ⟨5, p, q⟩] w fun e w' => e = .returned (.int .i64 (-1)) ∧ Below w.heap.size w w' := by
  have d0 : decide (1 ≤ p) = false := by simpa using g0
  go_enter Tryz.func38, Tryz.ntmps38
  go_wp2_with fail
  refine (beside_none n ⟨5, p, q⟩ (show (5 : Int) ≤ 9 by decide) _).mono ?_
  rintro e w2 ⟨rfl, hb2⟩
  go_wp2
  go_ret
  exact ⟨rfl, ((Below.refl _ w).alloc (Nat.le_refl _) _).trans (hb2.mono (by simp))⟩
set_option maxRecDepth 100000 in
set_option maxHeartbeats 1000000 in
theorem psizeNo_5_1 (n p q : Int) (g0 : 1 ≤ p) (g1 : ¬ (p ≤ 64)) (w : World) : Calls Tryz.prog 38 #[.int .i64 n, spV ⟨5, p, q⟩] w fun e w' => e = .returned (.int .i64 (-1)) ∧ Below w.heap.size w w' := by
  have d0 : decide (1 ≤ p) = true := by simpa using g0
  have d1 : decide (p ≤ 64) = false := by simpa using g1
  go_enter Tryz.func38, Tryz.ntmps38
  go_wp2_with fail
  refine (beside_none n ⟨5, p, q⟩ (show (5 : Int) ≤ 9 by decide) _).mono ?_
  rintro e w2 ⟨rfl, hb2⟩
  go_wp2
  go_ret
  exact ⟨rfl, ((Below.refl _ w).alloc (Nat.le_refl _) _).trans (hb2.mono (by simp))⟩
set_option maxRecDepth 100000 in
set_option maxHeartbeats 1000000 in
theorem psize_6 (n p q : Int) (hn1 : 1 ≤ n) (hn2 : n ≤ 16) (h0 : 1 ≤ p) (h1 : p ≤ 16) (h2 : 1 ≤ q) (h3 : q ≤ 64) (w : World) : Calls Tryz.prog 38 #[.int .i64 n, spV ⟨6, p, q⟩] w fun e w' => e = .returned (.int .i64 (p + n * q * (p + 1))) ∧ Below w.heap.size w w' := by
  obtain ⟨a1, a2⟩ := mul_bd (show 0 ≤ n by omega) hn2 (show 0 ≤ q by omega) h3
  obtain ⟨b1, b2⟩ := mul_bd a1 a2 (show 0 ≤ p + 1 by omega) (show p + 1 ≤ 17 by omega)
  have d0 : decide (1 ≤ p) = true := by simpa using h0
  have d1 : decide (p ≤ 16) = true := by simpa using h1
  have d2 : decide (1 ≤ q) = true := by simpa using h2
  have d3 : decide (q ≤ 64) = true := by simpa using h3
  go_enter Tryz.func38, Tryz.ntmps38
  go_wp2
  go_ret
  exact ⟨rfl, by (repeat' (first | exact Below.refl _ _ | assumption | refine Below.drew ?_ | refine below_drewN ?_ _ | refine Below.alloc ?_ (by simp <;> omega) _ | refine Below.setCell ?_ (by simp <;> omega) _))⟩
set_option maxRecDepth 100000 in
set_option maxHeartbeats 1000000 in
theorem psizeNo_6_0 (n p q : Int) (g0 : ¬ (1 ≤ p)) (w : World) : Calls Tryz.prog 38 #[.int .i64 n, spV ⟨6, p, q⟩] w fun e w' => e = .returned (.int .i64 (-1)) ∧ Below w.heap.size w w' := by
  have d0 : decide (1 ≤ p) = false := by simpa using g0
  go_enter Tryz.func38, Tryz.ntmps38
  go_wp2_with fail
  refine (beside_none n ⟨6, p, q⟩ (show (6 : Int) ≤ 9 by decide) _).mono ?_
  rintro e w2 ⟨rfl, hb2⟩
  go_wp2
  go_ret
  exact ⟨rfl, ((Below.refl _ w).alloc (Nat.le_refl _) _).trans (hb2.mono (by simp))⟩
set_option maxRecDepth 100000 in
set_option maxHeartbeats 1000000 in
theorem psizeNo_6_1 (n p q : Int) (g0 : 1 ≤ p) (g1 : ¬ (p ≤ 16)) (w : World) : Calls Tryz.prog 38 #[.int .i64 n, spV ⟨6, p, q⟩] w fun e w' => e = .returned (.int .i64 (-1)) ∧ Below w.heap.size w w' := by
  have d0 : decide (1 ≤ p) = true := by simpa using g0
  have d1 : decide (p ≤ 16) = false := by simpa using g1
  go_enter Tryz.func38, Tryz.ntmps38
  go_wp2_with fail
  refine (beside_none n ⟨6, p, q⟩ (show (6 : Int) ≤ 9 by decide) _).mono ?_
  rintro e w2 ⟨rfl, hb2⟩
  go_wp2
  go_ret
  exact ⟨rfl, ((Below.refl _ w).alloc (Nat.le_refl _) _).trans (hb2.mono (by simp))⟩
set_option maxRecDepth 100000 in
set_option maxHeartbeats 1000000 in
theorem psizeNo_6_2 (n p q : Int) (g0 : 1 ≤ p) (g1 : p ≤ 16) (g2 : ¬ (1 ≤ q)) (w : World) : Calls Tryz.prog 38 #[.int .i64 n, spV ⟨6, p, q⟩] w fun e w' => e = .returned (.int .i64 (-1)) ∧ Below w.heap.size w w' := by
  have d0 : decide (1 ≤ p) = true := by simpa using g0
  have d1 : decide (p ≤ 16) = true := by simpa using g1
  have d2 : decide (1 ≤ q) = false := by simpa using g2
  go_enter Tryz.func38, Tryz.ntmps38
  go_wp2_with fail
  refine (beside_none n ⟨6, p, q⟩ (show (6 : Int) ≤ 9 by decide) _).mono ?_
  rintro e w2 ⟨rfl, hb2⟩
  go_wp2
  go_ret
  exact ⟨rfl, ((Below.refl _ w).alloc (Nat.le_refl _) _).trans (hb2.mono (by simp))⟩
set_option maxRecDepth 100000 in
set_option maxHeartbeats 1000000 in
theorem psizeNo_6_3 (n p q : Int) (g0 : 1 ≤ p) (g1 : p ≤ 16) (g2 : 1 ≤ q) (g3 : ¬ (q ≤ 64)) (w : World) : Calls Tryz.prog 38 #[.int .i64 n, spV ⟨6, p, q⟩] w fun e w' => e = .returned (.int .i64 (-1)) ∧ Below w.heap.size w w' := by
  have d0 : decide (1 ≤ p) = true := by simpa using g0
  have d1 : decide (p ≤ 16) = true := by simpa using g1
  have d2 : decide (1 ≤ q) = true := by simpa using g2
  have d3 : decide (q ≤ 64) = false := by simpa using g3
  go_enter Tryz.func38, Tryz.ntmps38
  go_wp2_with fail
  refine (beside_none n ⟨6, p, q⟩ (show (6 : Int) ≤ 9 by decide) _).mono ?_
  rintro e w2 ⟨rfl, hb2⟩
  go_wp2
  go_ret
  exact ⟨rfl, ((Below.refl _ w).alloc (Nat.le_refl _) _).trans (hb2.mono (by simp))⟩
set_option maxRecDepth 100000 in
set_option maxHeartbeats 1000000 in
theorem psize_7 (n p q : Int) (hn1 : 1 ≤ n) (hn2 : n ≤ 16) (h0 : 1 ≤ q) (h1 : q ≤ 256) (hK : 0 < kindsI p) (w : World) : Calls Tryz.prog 38 #[.int .i64 n, spV ⟨7, p, q⟩] w fun e w' => e = .returned (.int .i64 (n + q)) ∧ Below w.heap.size w w' := by
  obtain ⟨K, hK'⟩ : ∃ K, kindsI p = K := ⟨_, rfl⟩
  have N0 := fun W => refKinds_any p W
  rw [hK'] at N0 hK
  have dK : decide (0 < K) = true := by simpa using hK
  clear hK'
  have d0 : decide (1 ≤ q) = true := by simpa using h0
  have d1 : decide (q ≤ 256) = true := by simpa using h1
  go_enter Tryz.func38, Tryz.ntmps38
  go_wp2_with fail
  refine (N0 _).mono ?_
  rintro e w1 ⟨rfl, hb⟩
  have hB : Below (w.heap.size + 1) (w.alloc (.cells #[.int .i64 7, .int .i64 p, .int .i64 q] 23)) w1 := hb.mono (by simp)
  obtain ⟨x0, x1, x2, _, _, _, xz⟩ := cells3 ((hB.block _ (by omega)).trans (heap_alloc_new _ _))
  go_wp2
  go_ret
  exact ⟨rfl, ((Below.refl _ w).alloc (Nat.le_refl _) _).trans (hb.mono (by simp))⟩
set_option maxRecDepth 100000 in
set_option maxHeartbeats 1000000 in
theorem psizeNo_7_0 (n p q : Int) (g0 : ¬ (0 < kindsI p)) (w : World) : Calls Tryz.prog 38 #[.int .i64 n, spV ⟨7, p, q⟩] w fun e w' => e = .returned (.int .i64 (-1)) ∧ Below w.heap.size w w' := by
  obtain ⟨K, hK'⟩ : ∃ K, kindsI p = K := ⟨_, rfl⟩
  have N0 := fun W => refKinds_any p W
  rw [hK'] at N0 g0
  clear hK'
  have d0 : decide (0 < K) = false := by simpa using g0
  go_enter Tryz.func38, Tryz.ntmps38
  go_wp2_with fail
  refine (N0 _).mono ?_
  rintro e w1 ⟨rfl, hb⟩
  have hB : Below (w.heap.size + 1) (w.alloc (.cells #[.int .i64 7, .int .i64 p, .int .i64 q] 23)) w1 := hb.mono (by simp)
  obtain ⟨x0, x1, x2, _, _, _, xz⟩ := cells3 ((hB.block _ (by omega)).trans (heap_alloc_new _ _))
  have hB1 : Below w.heap.size w w1 := ((Below.refl _ w).alloc (Nat.le_refl _) _).trans (hb.mono (by simp))
  clear hb hB
  go_wp2_with fail
  refine (beside_none n ⟨7, p, q⟩ (show (7 : Int) ≤ 9 by decide) _).mono ?_
  rintro e w2 ⟨rfl, hb2⟩
  go_wp2
  go_ret
  exact ⟨rfl, hB1.trans (hb2.mono hB1.size)⟩
set_option maxRecDepth 100000 in
set_option maxHeartbeats 1000000 in
theorem psizeNo_7_1 (n p q : Int) (g0 : 0 < kindsI p) (g1 : ¬ (1 ≤ q)) (w : World) : Calls Tryz.prog 38 #[.int .i64 n, spV ⟨7, p, q⟩] w fun e w' => e = .returned (.int .i64 (-1)) ∧ Below w.heap.size w w' := by
  obtain ⟨K, hK'⟩ : ∃ K, kindsI p = K := ⟨_, rfl⟩
  have N0 := fun W => refKinds_any p W
  rw [hK'] at N0 g0
  clear hK'
  have d0 : decide (0 < K) = true := by simpa using g0
  have d1 : decide (1 ≤ q) = false := by simpa using g1
  go_enter Tryz.func38, Tryz.ntmps38
  go_wp2_with fail
  refine (N0 _).mono ?_
  rintro e w1 ⟨rfl, hb⟩
  have hB : Below (w.heap.size + 1) (w.alloc (.cells #[.int .i64 7, .int .i64 p, .int .i64 q] 23)) w1 := hb.mono (by simp)
  obtain ⟨x0, x1, x2, _, _, _, xz⟩ := cells3 ((hB.block _ (by omega)).trans (heap_alloc_new _ _))
  have hB1 : Below w.heap.size w w1 := ((Below.refl _ w).alloc (Nat.le_refl _) _).trans (hb.mono (by simp))
  clear hb hB
  go_wp2_with fail
  refine (beside_none n ⟨7, p, q⟩ (show (7 : Int) ≤ 9 by decide) _).mono ?_
  rintro e w2 ⟨rfl, hb2⟩
  go_wp2
  go_ret
  exact ⟨rfl, hB1.trans (hb2.mono hB1.size)⟩
set_option maxRecDepth 100000 in
set_option maxHeartbeats 1000000 in
theorem psizeNo_7_2 (n p q : Int) (g0 : 0 < kindsI p) (g1 : 1 ≤ q) (g2 : ¬ (q ≤ 256)) (w : World) : Calls Tryz.prog 38 #[.int .i64 n, spV ⟨7, p, q⟩] w fun e w' => e = .returned (.int .i64 (-1)) ∧ Below w.heap.size w w' := by
  obtain ⟨K, hK'⟩ : ∃ K, kindsI p = K := ⟨_, rfl⟩
  have N0 := fun W => refKinds_any p W
  rw [hK'] at N0 g0
  clear hK'
  have d0 : decide (0 < K) = true := by simpa using g0
  have d1 : decide (1 ≤ q) = true := by simpa using g1
  have d2 : decide (q ≤ 256) = false := by simpa using g2
  go_enter Tryz.func38, Tryz.ntmps38
  go_wp2_with fail
  refine (N0 _).mono ?_
  rintro e w1 ⟨rfl, hb⟩
  have hB : Below (w.heap.size + 1) (w.alloc (.cells #[.int .i64 7, .int .i64 p, .int .i64 q] 23)) w1 := hb.mono (by simp)
  obtain ⟨x0, x1, x2, _, _, _, xz⟩ := cells3 ((hB.block _ (by omega)).trans (heap_alloc_new _ _))
  have hB1 : Below w.heap.size w w1 := ((Below.refl _ w).alloc (Nat.le_refl _) _).trans (hb.mono (by simp))
  clear hb hB
  go_wp2_with fail
  refine (beside_none n ⟨7, p, q⟩ (show (7 : Int) ≤ 9 by decide) _).mono ?_
  rintro e w2 ⟨rfl, hb2⟩
  go_wp2
  go_ret
  exact ⟨rfl, hB1.trans (hb2.mono hB1.size)⟩
set_option maxRecDepth 100000 in
set_option maxHeartbeats 1000000 in
theorem psize_8 (n p q : Int) (hn1 : 1 ≤ n) (hn2 : n ≤ 16) (h0 : 1 ≤ p) (h1 : p ≤ 32) (h2 : 0 ≤ q) (h3 : q ≤ 3) (w : World) : Calls Tryz.prog 38 #[.int .i64 n, spV ⟨8, p, q⟩] w fun e w' => e = .returned (.int .i64 (2 + n + 4 * (1 + n * p))) ∧ Below w.heap.size w w' := by
  have d0 : decide (1 ≤ p) = true := by simpa using h0
  have d1 : decide (p ≤ 32) = true := by simpa using h1
  have d2 : decide (0 ≤ q) = true := by simpa using h2
  have d3 : decide (q ≤ 3) = true := by simpa using h3
  go_enter Tryz.func38, Tryz.ntmps38
  go_wp2_with fail
  refine (queueSize n p hn1 hn2 h0 h1 _).mono ?_
  rintro e w1 ⟨rfl, rfl⟩
  go_wp2
  go_ret
  exact ⟨rfl, by (repeat' (first | exact Below.refl _ _ | assumption | refine Below.drew ?_ | refine below_drewN ?_ _ | refine Below.alloc ?_ (by simp <;> omega) _ | refine Below.setCell ?_ (by simp <;> omega) _))⟩
set_option maxRecDepth 100000 in
set_option maxHeartbeats 1000000 in
theorem psizeNo_8_0 (n p q : Int) (g0 : ¬ (1 ≤ p)) (w : World) : Calls Tryz.prog 38 #[.int .i64 n, spV ⟨8, p, q⟩] w fun e w' => e = .returned (.int .i64 (-1)) ∧ Below w.heap.size w w' := by
  have d0 : decide (1 ≤ p) = false := by simpa using g0
  go_enter Tryz.func38, Tryz.ntmps38
  go_wp2_with fail
  refine (beside_none n ⟨8, p, q⟩ (show (8 : Int) ≤ 9 by decide) _).mono ?_
  rintro e w2 ⟨rfl, hb2⟩
  go_wp2
  go_ret
  exact ⟨rfl, ((Below.refl _ w).alloc (Nat.le_refl _) _).trans (hb2.mono (by simp))⟩
set_option maxRecDepth 100000 in
set_option maxHeartbeats 1000000 in
theorem psizeNo_8_1 (n p q : Int) (g0 : 1 ≤ p) (g1 : ¬ (p ≤ 32)) (w : World) : Calls Tryz.prog 38 #[.int .i64 n, spV ⟨8, p, q⟩] w fun e w' => e = .returned (.int .i64 (-1)) ∧ Below w.heap.size w w' := by
  have d0 : decide (1 ≤ p) = true := by simpa using g0
  have d1 : decide (p ≤ 32) = false := by simpa using g1
  go_enter Tryz.func38, Tryz.ntmps38
  go_wp2_with fail
  refine (beside_none n ⟨8, p, q⟩ (show (8 : Int) ≤ 9 by decide) _).mono ?_
  rintro e w2 ⟨rfl, hb2⟩
  go_wp2
  go_ret
  exact ⟨rfl, ((Below.refl _ w).alloc (Nat.le_refl _) _).trans (hb2.mono (by simp))⟩
set_option maxRecDepth 100000 in
set_option maxHeartbeats 1000000 in
theorem psizeNo_8_2 (n p q : Int) (g0 : 1 ≤ p) (g1 : p ≤ 32) (g2 : ¬ (0 ≤ q)) (w : World) : Calls Tryz.prog 38 #[.int .i64 n, spV ⟨8, p, q⟩] w fun e w' => e = .returned (.int .i64 (-1)) ∧ Below w.heap.size w w' := by
  have d0 : decide (1 ≤ p) = true := by simpa using g0
  have d1 : decide (p ≤ 32) = true := by simpa using g1
  have d2 : decide (0 ≤ q) = false := by simpa using g2
  go_enter Tryz.func38, Tryz.ntmps38
  go_wp2_with fail
  refine (beside_none n ⟨8, p, q⟩ (show (8 : Int) ≤ 9 by decide) _).mono ?_
  rintro e w2 ⟨rfl, hb2⟩
  go_wp2
  go_ret
  exact ⟨rfl, ((Below.refl _ w).alloc (Nat.le_refl _) _).trans (hb2.mono (by simp))⟩
set_option maxRecDepth 100000 in
set_option maxHeartbeats 1000000 in
theorem psizeNo_8_3 (n p q : Int) (g0 : 1 ≤ p) (g1 : p ≤ 32) (g2 : 0 ≤ q) (g3 : ¬ (q ≤ 3)) (w : World) : Calls Tryz.prog 38 #[.int .i64 n, spV ⟨8, p, q⟩] w fun e w' => e = .returned (.int .i64 (-1)) ∧ Below w.heap.size w w' := by
  have d0 : decide (1 ≤ p) = true := by simpa using g0
  have d1 : decide (p ≤ 32) = true := by simpa using g1
  have d2 : decide (0 ≤ q) = true := by simpa using g2
  have d3 : decide (q ≤ 3) = false := by simpa using g3
  go_enter Tryz.func38, Tryz.ntmps38
  go_wp2_with fail
  refine (beside_none n ⟨8, p, q⟩ (show (8 : Int) ≤ 9 by decide) _).mono ?_
  rintro e w2 ⟨rfl, hb2⟩
  go_wp2
  go_ret
  exact ⟨rfl, ((Below.refl _ w).alloc (Nat.le_refl _) _).trans (hb2.mono (by simp))⟩
set_option maxRecDepth 100000 in
set_option maxHeartbeats 1000000 in
theorem psize_9 (n p q : Int) (hn1 : 1 ≤ n) (hn2 : n ≤ 16) (h0 : 1 ≤ p) (h1 : p ≤ 8) (w : World) : Calls Tryz.prog 38 #[.int .i64 n, spV ⟨9, p, q⟩] w fun e w' => e = .returned (.int .i64 (1 + (n + 1) * (p + 1))) ∧ Below w.heap.size w w' := by
  obtain ⟨a1, a2⟩ := mul_bd (show 0 ≤ n + 1 by omega) (show n + 1 ≤ 17 by omega) (show 0 ≤ p + 1 by omega) (show p + 1 ≤ 9 by omega)
  have d0 : decide (1 ≤ p) = true := by simpa using h0
  have d1 : decide (p ≤ 8) = true := by simpa using h1
  go_enter Tryz.func38, Tryz.ntmps38
  go_wp2
  go_ret
  exact ⟨rfl, by (repeat' (first | exact Below.refl _ _ | assumption | refine Below.drew ?_ | refine below_drewN ?_ _ | refine Below.alloc ?_ (by simp <;> omega) _ | refine Below.setCell ?_ (by simp <;> omega) _))⟩
set_option maxRecDepth 100000 in
set_option maxHeartbeats 1000000 in
theorem psizeNo_9_0 (n p q : Int) (g0 : ¬ (1 ≤ p)) (w : World) : Calls Tryz.prog 38 #[.int .i64 n, spV ⟨9, p, q⟩] w fun e w' => e = .returned (.int .i64 (-1)) ∧ Below w.heap.size w w' := by
  have d0 : decide (1 ≤ p) = false := by simpa using g0
  go_enter Tryz.func38, Tryz.ntmps38
  go_wp2_with fail
  refine (beside_none n ⟨9, p, q⟩ (show (9 : Int) ≤ 9 by decide) _).mono ?_
  rintro e w2 ⟨rfl, hb2⟩
  go_wp2
  go_ret
  exact ⟨rfl, ((Below.refl _ w).alloc (Nat.le_refl _) _).trans (hb2.mono (by simp))⟩
set_option maxRecDepth 100000 in
set_option maxHeartbeats 1000000 in
theorem psizeNo_9_1 (n p q : Int) (g0 : 1 ≤ p) (g1 : ¬ (p ≤ 8)) (w : World) : Calls Tryz.prog 38 #[.int .i64 n, spV ⟨9, p, q⟩] w fun e w' => e = .returned (.int .i64 (-1)) ∧ Below w.heap.size w w' := by
  have d0 : decide (1 ≤ p) = true := by simpa using g0
  have d1 : decide (p ≤ 8) = false := by simpa using g1
  go_enter Tryz.func38, Tryz.ntmps38
  go_wp2_with fail
  refine (beside_none n ⟨9, p, q⟩ (show (9 : Int) ≤ 9 by decide) _).mono ?_
  rintro e w2 ⟨rfl, hb2⟩
  go_wp2
  go_ret
  exact ⟨rfl, ((Below.refl _ w).alloc (Nat.le_refl _) _).trans (hb2.mono (by simp))⟩

theorem psize_any (n : Int) (s : Sp) (hn1 : 1 ≤ n) (hn2 : n ≤ 16) (hk0 : 0 ≤ s.kind) (hk9 : s.kind ≤ 9) (w : World) :
    Calls Tryz.prog 38 #[.int .i64 n, spV s] w fun e w' => e = .returned (.int .i64 (if rightT s.kind s.p s.q = true then sizeT n s.kind s.p s.q else -1)) ∧ Below w.heap.size w w' := by
  obtain ⟨k, p, q⟩ := s
  simp only at hk0 hk9 ⊢
  have hk : k = 0 ∨ k = 1 ∨ k = 2 ∨ k = 3 ∨ k = 4 ∨ k = 5 ∨ k = 6 ∨ k = 7 ∨ k = 8 ∨ k = 9 := by omega
  rcases hk with rfl | rfl | rfl | rfl | rfl | rfl | rfl | rfl | rfl | rfl
  · by_cases g0 : 1 ≤ p
    · by_cases g1 : p ≤ 64
      · rw [if_pos (by simp [rightT, g0, g1])]
        exact psize_0 n p q hn1 hn2 g0 g1 w
      · rw [if_neg (by simp [rightT, g0, g1])]
        exact psizeNo_0_1 n p q g0 g1 w
    · rw [if_neg (by simp [rightT, g0])]
      exact psizeNo_0_0 n p q g0 w
  · exact psize_1 n p q hn1 hn2 w
  · exact psize_2 n p q hn1 hn2 w
  · exact psize_3 n p q hn1 hn2 w
  · by_cases g0 : 1 ≤ p
    · by_cases g1 : p ≤ 12
      · rw [if_pos (by simp [rightT, g0, g1])]
        exact psize_4 n p q hn1 hn2 g0 g1 w
      · rw [if_neg (by simp [rightT, g0, g1])]
        exact psizeNo_4_1 n p q g0 g1 w
    · rw [if_neg (by simp [rightT, g0])]
      exact psizeNo_4_0 n p q g0 w
  · by_cases g0 : 1 ≤ p
    · by_cases g1 : p ≤ 64
      · rw [if_pos (by simp [rightT, g0, g1])]
        exact psize_5 n p q hn1 hn2 g0 g1 w
      · rw [if_neg (by simp [rightT, g0, g1])]
        exact psizeNo_5_1 n p q g0 g1 w
    · rw [if_neg (by simp [rightT, g0])]
      exact psizeNo_5_0 n p q g0 w
  · by_cases g0 : 1 ≤ p
    · by_cases g1 : p ≤ 16
      · by_cases g2 : 1 ≤ q
        · by_cases g3 : q ≤ 64
          · rw [if_pos (by simp [rightT, g0, g1, g2, g3])]
            exact psize_6 n p q hn1 hn2 g0 g1 g2 g3 w
          · rw [if_neg (by simp [rightT, g0, g1, g2, g3])]
            exact psizeNo_6_3 n p q g0 g1 g2 g3 w
        · rw [if_neg (by simp [rightT, g0, g1, g2])]
          exact psizeNo_6_2 n p q g0 g1 g2 w
      · rw [if_neg (by simp [rightT, g0, g1])]
        exact psizeNo_6_1 n p q g0 g1 w
    · rw [if_neg (by simp [rightT, g0])]
      exact psizeNo_6_0 n p q g0 w
  · by_cases g0 : 0 < kindsI p
    · by_cases g1 : 1 ≤ q
      · by_cases g2 : q ≤ 256
        · rw [if_pos (by simp [rightT, g0, g1, g2])]
          exact psize_7 n p q hn1 hn2 g1 g2 g0 w
        · rw [if_neg (by simp [rightT, g0, g1, g2])]
          exact psizeNo_7_2 n p q g0 g1 g2 w
      · rw [if_neg (by simp [rightT, g0, g1])]
        exact psizeNo_7_1 n p q g0 g1 w
    · rw [if_neg (by simp [rightT, g0])]
      exact psizeNo_7_0 n p q g0 w
  · by_cases g0 : 1 ≤ p
    · by_cases g1 : p ≤ 32
      · by_cases g2 : 0 ≤ q
        · by_cases g3 : q ≤ 3
          · rw [if_pos (by simp [rightT, g0, g1, g2, g3])]
            exact psize_8 n p q hn1 hn2 g0 g1 g2 g3 w
          · rw [if_neg (by simp [rightT, g0, g1, g2, g3])]
            exact psizeNo_8_3 n p q g0 g1 g2 g3 w
        · rw [if_neg (by simp [rightT, g0, g1, g2])]
          exact psizeNo_8_2 n p q g0 g1 g2 w
      · rw [if_neg (by simp [rightT, g0, g1])]
        exact psizeNo_8_1 n p q g0 g1 w
    · rw [if_neg (by simp [rightT, g0])]
      exact psizeNo_8_0 n p q g0 w
  · by_cases g0 : 1 ≤ p
    · by_cases g1 : p ≤ 8
      · rw [if_pos (by simp [rightT, g0, g1])]
        exact psize_9 n p q hn1 hn2 g0 g1 w
      · rw [if_neg (by simp [rightT, g0, g1])]
        exact psizeNo_9_1 n p q g0 g1 w
    · rw [if_neg (by simp [rightT, g0])]
      exact psizeNo_9_0 n p q g0 w
end Go.Proofs.YtmiimpmfkjcjlaaGreat
