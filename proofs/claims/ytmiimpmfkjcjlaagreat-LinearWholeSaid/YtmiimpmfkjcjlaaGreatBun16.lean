import Derived.Test.YtmiimpmfkjcjlaaGreatBun15
import Derived.Test.YtmiimpmfkjcjlaaGreatBun5
import Derived.Test.YtmiimpmfkjcjlaaGreatBun9
import Derived.Test.YtmiimpmfkjcjlaaGreatBun1
import Derived.Test.YtmiimpmfkjcjlaaGreatProg
import Derived.Maps.AppendAt
namespace Go.Proofs.YtmiimpmfkjcjlaaGreat
open Go.RowKit
set_option maxRecDepth 100000 in
set_option maxHeartbeats 1000000 in
theorem beside_none (n : Int) (s : Sp) (hk : s.kind ≤ 9) (w : World) : Calls Tryz.prog 75 #[.int .i64 n, spV s] w fun e w' => e = .returned (.int .i64 (-1)) ∧ Below w.heap.size w w' := by
  have e10 : (s.kind == 10) = false := by simp; omega
  have e11 : (s.kind == 11) = false := by simp; omega
  have e12 : (s.kind == 12) = false := by simp; omega
  have e13 : (s.kind == 13) = false := by simp; omega
  have e14 : (s.kind == 14) = false := by simp; omega
  have e15 : (s.kind == 15) = false := by simp; omega
  have e16 : (s.kind == 16) = false := by simp; omega
  have e17 : (s.kind == 17) = false := by simp; omega
  clear hk
  go_enter Tryz.func75, Tryz.ntmps75
  go_wp2
  go_ret
  exact ⟨rfl, by (repeat' (first | exact Below.refl _ _ | assumption | refine Below.drew ?_ | refine below_drewN ?_ _ | refine Below.alloc ?_ (by simp <;> omega) _ | refine Below.setCell ?_ (by simp <;> omega) _))⟩
theorem queueSize (n p : Int) (hn1 : 1 ≤ n) (hn2 : n ≤ 16) (h1 : 1 ≤ p) (h2 : p ≤ 32) (w : World) : Calls Tryz.prog 74 #[.int .i64 n, .int .i64 p] w fun e w' => e = .returned (.int .i64 (2 + n + 4 * (1 + n * p))) ∧ w' = w := by
  obtain ⟨a1, a2⟩ := mul_bd (show 0 ≤ n by omega) hn2 (show 0 ≤ p by omega) h2
  go_enter Tryz.func74, Tryz.ntmps74
  go_wp2
  go_ret
  exact ⟨rfl, rfl⟩
set_option maxRecDepth 100000 in
set_option maxHeartbeats 1000000 in
theorem psize_0 (n p q : Int) (_hn1 : 1 ≤ n) (_hn2 : n ≤ 16) (h0 : 1 ≤ p) (h1 : p ≤ 64) (w : World) : Calls Tryz.prog 38 #[.int .i64 n, spV ⟨0, p, q⟩] w fun e w' => e = .returned (.int .i64 (p)) ∧ Below w.heap.size w w' := by
  have d0 : decide (1 ≤ p) = true := by simpa using h0
  have d1 : decide (p ≤ 64) = true := by simpa using h1
  go_enter Tryz.func38, Tryz.ntmps38
  go_wp2
  go_ret
  exact ⟨rfl, by (repeat' (first | exact Below.refl _ _ | assumption | refine Below.drew ?_ | refine below_drewN ?_ _ | refine Below.alloc ?_ (by simp <;> omega) _ | refine Below.setCell ?_ (by simp <;> omega) _))⟩
set_option maxRecDepth 100000 in
set_option maxHeartbeats 1000000 in
theorem psizeNo_0_0 (n p q : Int) (g0 : ¬ (1 ≤ p)) (w : World) : Calls Tryz.prog 38 #[.int .i64 n, spV ⟨0, p, q⟩] w fun e w' => e = .returned (.int .i64 (-1)) ∧ Below w.heap.size w w' := by
  have d0 : decide (1 ≤ p) = false := by simpa using g0
  go_enter Tryz.func38, Tryz.ntmps38
  go_wp2_with fail
  refine (beside_none n ⟨0, p, q⟩ (show (0 : Int) ≤ 9 by decide) _).mono ?_
  rintro e w2 ⟨rfl, hb2⟩
  go_wp2
  go_ret
  exact ⟨rfl, ((Below.refl _ w).alloc (Nat.le_refl _) _).trans (hb2.mono (by simp))⟩
set_option maxRecDepth 100000 in
set_option maxHeartbeats 1000000 in
theorem psizeNo_0_1 (n p q : Int) (g0 : 1 ≤ p) (g1 : ¬ (p ≤ 64)) (w : World) : Calls Tryz.prog 38 #[.int .i64 n, spV ⟨0, p, q⟩] w fun e w' => e = .returned (.int .i64 (-1)) ∧ Below w.heap.size w w' := by
  have d0 : decide (1 ≤ p) = true := by simpa using g0
  have d1 : decide (p ≤ 64) = false := by simpa using g1
  go_enter Tryz.func38, Tryz.ntmps38
  go_wp2_with fail
  refine (beside_none n ⟨0, p, q⟩ (show (0 : Int) ≤ 9 by decide) _).mono ?_
  rintro e w2 ⟨rfl, hb2⟩
  go_wp2
  go_ret
  exact ⟨rfl, ((Below.refl _ w).alloc (Nat.le_refl _) _).trans (hb2.mono (by simp))⟩
set_option maxRecDepth 100000 in
set_option maxHeartbeats 1000000 in
theorem psize_1 (n p q : Int) (_hn1 : 1 ≤ n) (_hn2 : n ≤ 16) (w : World) : Calls Tryz.prog 38 #[.int .i64 n, spV ⟨1, p, q⟩] w fun e w' => e = .returned (.int .i64 (1)) ∧ Below w.heap.size w w' := by
  go_enter Tryz.func38, Tryz.ntmps38
  go_wp2
  go_ret
  exact ⟨rfl, by (repeat' (first | exact Below.refl _ _ | assumption | refine Below.drew ?_ | refine below_drewN ?_ _ | refine Below.alloc ?_ (by simp <;> omega) _ | refine Below.setCell ?_ (by simp <;> omega) _))⟩
set_option maxRecDepth 100000 in
set_option maxHeartbeats 1000000 in
theorem psize_2 (n p q : Int) (_hn1 : 1 ≤ n) (_hn2 : n ≤ 16) (w : World) : Calls Tryz.prog 38 #[.int .i64 n, spV ⟨2, p, q⟩] w fun e w' => e = .returned (.int .i64 (n)) ∧ Below w.heap.size w w' := by
  go_enter Tryz.func38, Tryz.ntmps38
  go_wp2
  go_ret
  exact ⟨rfl, by (repeat' (first | exact Below.refl _ _ | assumption | refine Below.drew ?_ | refine below_drewN ?_ _ | refine Below.alloc ?_ (by simp <;> omega) _ | refine Below.setCell ?_ (by simp <;> omega) _))⟩
set_option maxRecDepth 100000 in
set_option maxHeartbeats 1000000 in
theorem psize_3 (n p q : Int) (_hn1 : 1 ≤ n) (_hn2 : n ≤ 16) (w : World) : Calls Tryz.prog 38 #[.int .i64 n, spV ⟨3, p, q⟩] w fun e w' => e = .returned (.int .i64 (1)) ∧ Below w.heap.size w w' := by
  go_enter Tryz.func38, Tryz.ntmps38
  go_wp2
  go_ret
  exact ⟨rfl, by (repeat' (first | exact Below.refl _ _ | assumption | refine Below.drew ?_ | refine below_drewN ?_ _ | refine Below.alloc ?_ (by simp <;> omega) _ | refine Below.setCell ?_ (by simp <;> omega) _))⟩
set_option maxRecDepth 100000 in
set_option maxHeartbeats 1000000 in
theorem psize_4 (n p q : Int) (_hn1 : 1 ≤ n) (_hn2 : n ≤ 16) (h0 : 1 ≤ p) (h1 : p ≤ 12) (w : World) : Calls Tryz.prog 38 #[.int .i64 n, spV ⟨4, p, q⟩] w fun e w' => e = .returned (.int .i64 (2 ^ p.toNat - 1)) ∧ Below w.heap.size w w' := by
  obtain ⟨b1, b2⟩ := pow_bd h0 h1
  have hw : IntKind.i64.wrap (2 ^ p.toNat) = 2 ^ p.toNat := IntWalk.i64_in _ (by omega)
  have hu : IntKind.u64.wrap p = p := by rw [IntKind.wrap_u64]; omega
  have d0 : decide (1 ≤ p) = true := by simpa using h0
  have d1 : decide (p ≤ 12) = true := by simpa using h1
  go_enter Tryz.func38, Tryz.ntmps38
  go_wp2
  go_ret
  exact ⟨rfl, by (repeat' (first | exact Below.refl _ _ | assumption | refine Below.drew ?_ | refine below_drewN ?_ _ | refine Below.alloc ?_ (by simp <;> omega) _ | refine Below.setCell ?_ (by simp <;> omega) _))⟩
set_option maxRecDepth 100000 in
set_option maxHeartbeats 1000000 in
theorem psizeNo_4_0 (n p q : Int) (g0 : ¬ (1 ≤ p)) (w : World) : Calls Tryz.prog 38 #[.int .i64 n, spV ⟨4, p, q⟩] w fun e w' => e = .returned (.int .i64 (-1)) ∧ Below w.heap.size w w' := by
  have d0 : decide (1 ≤ p) = false := by simpa using g0
  go_enter Tryz.func38, Tryz.ntmps38
  go_wp2_with fail
  refine (beside_none n ⟨4, p, q⟩ (show (4 : Int) ≤ 9 by decide) _).mono ?_
  rintro e w2 ⟨rfl, hb2⟩
  go_wp2
  go_ret
  exact ⟨rfl, ((Below.refl _ w).alloc (Nat.le_refl _) _).trans (hb2.mono (by simp))⟩
set_option maxRecDepth 100000 in
set_option maxHeartbeats 1000000 in
theorem psizeNo_4_1 (n p q : Int) (g0 : 1 ≤ p) (g1 : ¬ (p ≤ 12)) (w : World) : Calls Tryz.prog 38 #[.int .i64 n, spV ⟨4, p, q⟩] w fun e w' => e = .returned (.int .i64 (-1)) ∧ Below w.heap.size w w' := by
  have d0 : decide (1 ≤ p) = true := by simpa using g0
  have d1 : decide (p ≤ 12) = false := by simpa using g1
  go_enter Tryz.func38, Tryz.ntmps38
  go_wp2_with fail
  refine (beside_none n ⟨4, p, q⟩ (show (4 : Int) ≤ 9 by decide) _).mono ?_
  rintro e w2 ⟨rfl, hb2⟩
  go_wp2
  go_ret
  exact ⟨rfl, ((Below.refl _ w).alloc (Nat.le_refl _) _).trans (hb2.mono (by simp))⟩
set_option maxRecDepth 100000 in
set_option maxHeartbeats 1000000 in
theorem psize_5 (n p q : Int) (hn1 : 1 ≤ n) (hn2 : n ≤ 16) (h0 : 1 ≤ p) (h1 : p ≤ 64) (w : World) : Calls Tryz.prog 38 #[.int .i64 n, spV ⟨5, p, q⟩] w fun e w' => e = .returned (.int .i64 (n + n * p * (n + 1))) ∧ Below w.heap.size w w' := by
  obtain ⟨a1, a2⟩ := mul_bd (show 0 ≤ n by omega) hn2 (show 0 ≤ p by omega) h1
  obtain ⟨b1, b2⟩ := mul_bd a1 a2 (show 0 ≤ n + 1 by omega) (show n + 1 ≤ 17 by omega)
  have d0 : decide (1 ≤ p) = true := by simpa using h0
  have d1 : decide (p ≤ 64) = true := by simpa using h1
  go_enter Tryz.func38, Tryz.ntmps38
  go_wp2
  go_ret
  exact ⟨rfl, by (repeat' (first | exact Below.refl _ _ | assumption | refine Below.drew ?_ | refine below_drewN ?_ _ | refine Below.alloc ?_ (by simp <;> omega) _ | refine Below.setCell ?_ (by simp <;> omega) _))⟩
set_option maxRecDepth 100000 in
set_option maxHeartbeats 1000000 in
theorem psizeNo_5_0 (n p q : Int) (g0 : ¬ (1 ≤ p)) (w : World) : Calls Tryz.prog 38 #[.int .i64 n, spV ⟨5, p, q⟩] w fun e w' => e = .returned (.int .i64 (-1)) ∧ Below w.heap.size w w' := by
  have d0 : decide (1 ≤ p) = false := by simpa using g0
  go_enter Tryz.func38, Tryz.ntmps38
  go_wp2_with fail
  refine (beside_none n ⟨5, p, q⟩ (show (5 : Int) ≤ 9 by decide) _).mono ?_
  rintro e w2 ⟨rfl, hb2⟩
  go_wp2
  go_ret
  exact ⟨rfl, ((Below.refl _ w).alloc (Nat.le_refl _) _).trans (hb2.mono (by simp))⟩
set_option maxRecDepth 100000 in
set_option maxHeartbeats 1000000 in
theorem psizeNo_5_1 (n p q : Int) (g0 : 1 ≤ p) (g1 : ¬ (p ≤ 64)) (w : World) : Calls Tryz.prog 38 #[.int .i64 n, spV ⟨5, p, q⟩] w fun e w' => e = .returned (.int .i64 (-1)) ∧ Below w.heap.size w w' := by
  have d0 : decide (1 ≤ p) = true := by simpa using g0
  have d1 : decide (p ≤ 64) = false := by simpa using g1
  go_enter Tryz.func38, Tryz.ntmps38
  go_wp2_with fail
  refine (beside_none n ⟨5, p, q⟩ (show (5 : Int) ≤ 9 by decide) _).mono ?_
  rintro e w2 ⟨rfl, hb2⟩
  go_wp2
  go_ret
  exact ⟨rfl, ((Below.refl _ w).alloc (Nat.le_refl _) _).trans (hb2.mono (by simp))⟩
set_option maxRecDepth 100000 in
set_option maxHeartbeats 1000000 in
theorem psize_6 (n p q : Int) (hn1 : 1 ≤ n) (hn2 : n ≤ 16) (h0 : 1 ≤ p) (h1 : p ≤ 16) (h2 : 1 ≤ q) (h3 : q ≤ 64) (w : World) : Calls Tryz.prog 38 #[.int .i64 n, spV ⟨6, p, q⟩] w fun e w' => e = .returned (.int .i64 (p + n * q * (p + 1))) ∧ Below w.heap.size w w' := by
  obtain ⟨a1, a2⟩ := mul_bd (show 0 ≤ n by omega) hn2 (show 0 ≤ q by omega) h3
  obtain ⟨b1, b2⟩ := mul_bd a1 a2 (show 0 ≤ p + 1 by omega) (show p + 1 ≤ 17 by omega)
  have d0 : decide (1 ≤ p) = true := by simpa using h0
  have d1 : decide (p ≤ 16) = true := by simpa using h1
  have d2 : decide (1 ≤ q) = true := by simpa using h2
  have d3 : decide (q ≤ 64) = true := by simpa using h3
  go_enter Tryz.func38, Tryz.ntmps38
  go_wp2
  go_ret
  exact ⟨rfl, by (repeat' (first | exact Below.refl _ _ | assumption | refine Below.drew ?_ | refine below_drewN ?_ _ | refine Below.alloc ?_ (by simp <;> omega) _ | refine Below.setCell ?_ (by simp <;> omega) _))⟩
set_option maxRecDepth 100000 in
set_option maxHeartbeats 1000000 in
theorem psizeNo_6_0 (n p q : Int) (g0 : ¬ (1 ≤ p)) (w : World) : Calls Tryz.prog 38 #[.int .i64 n, spV ⟨6, p, q⟩] w fun e w' => e = .returned (.int .i64 (-1)) ∧ Below w.heap.size w w' := by
  have d0 : decide (1 ≤ p) = false := by simpa using g0
  go_enter Tryz.func38, Tryz.ntmps38
  go_wp2_with fail
  refine (beside_none n ⟨6, p, q⟩ (show (6 : Int) ≤ 9 by decide) _).mono ?_
  rintro e w2 ⟨rfl, hb2⟩
  go_wp2
  go_ret
  exact ⟨rfl, ((Below.refl _ w).alloc (Nat.le_refl _) _).trans (hb2.mono (by simp))⟩
set_option maxRecDepth 100000 in
set_option maxHeartbeats 1000000 in
theorem psizeNo_6_1 (n p q : Int) (g0 : 1 ≤ p) (g1 : ¬ (p ≤ 16)) (w : World) : Calls Tryz.prog 38 #[.int .i64 n, spV ⟨6, p, q⟩] w fun e w' => e = .returned (.int .i64 (-1)) ∧ Below w.heap.size w w' := by
  have d0 : decide (1 ≤ p) = true := by simpa using g0
  have d1 : decide (p ≤ 16) = false := by simpa using g1
  go_enter Tryz.func38, Tryz.ntmps38
  go_wp2_with fail
  refine (beside_none n ⟨6, p, q⟩ (show (6 : Int) ≤ 9 by decide) _).mono ?_
  rintro e w2 ⟨rfl, hb2⟩
  go_wp2
  go_ret
  exact ⟨rfl, ((Below.refl _ w).alloc (Nat.le_refl _) _).trans (hb2.mono (by simp))⟩
set_option maxRecDepth 100000 in
set_option maxHeartbeats 1000000 in
theorem psizeNo_6_2 (n p q : Int) (g0 : 1 ≤ p) (g1 : p ≤ 16) (g2 : ¬ (1 ≤ q)) (w : World) : Calls Tryz.prog 38 #[.int .i64 n, spV ⟨6, p, q⟩] w fun e w' => e = .returned (.int .i64 (-1)) ∧ Below w.heap.size w w' := by
  have d0 : decide (1 ≤ p) = true := by simpa using g0
  have d1 : decide (p ≤ 16) = true := by simpa using g1
  have d2 : decide (1 ≤ q) = false := by simpa using g2
  go_enter Tryz.func38, Tryz.ntmps38
  go_wp2_with fail
  refine (beside_none n ⟨6, p, q⟩ (show (6 : Int) ≤ 9 by decide) _).mono ?_
  rintro e w2 ⟨rfl, hb2⟩
  go_wp2
  go_ret
  exact ⟨rfl, ((Below.refl _ w).alloc (Nat.le_refl _) _).trans (hb2.mono (by simp))⟩
set_option maxRecDepth 100000 in
set_option maxHeartbeats 1000000 in
theorem psizeNo_6_3 (n p q : Int) (g0 : 1 ≤ p) (g1 : p ≤ 16) (g2 : 1 ≤ q) (g3 : ¬ (q ≤ 64)) (w : World) : Calls Tryz.prog 38 #[.int .i64 n, spV ⟨6, p, q⟩] w fun e w' => e = .returned (.int .i64 (-1)) ∧ Below w.heap.size w w' := by
  have d0 : decide (1 ≤ p) = true := by simpa using g0
  have d1 : decide (p ≤ 16) = true := by simpa using g1
  have d2 : decide (1 ≤ q) = true := by simpa using g2
  have d3 : decide (q ≤ 64) = false := by simpa using g3
  go_enter Tryz.func38, Tryz.ntmps38
  go_wp2_with fail
  refine (beside_none n ⟨6, p, q⟩ (show (6 : Int) ≤ 9 by decide) _).mono ?_
  rintro e w2 ⟨rfl, hb2⟩
  go_wp2
  go_ret
  exact ⟨rfl, ((Below.refl _ w).alloc (Nat.le_refl _) _).trans (hb2.mono (by simp))⟩
set_option maxRecDepth 100000 in
set_option maxHeartbeats 1000000 in
theorem psize_7 (n p q : Int) (hn1 : 1 ≤ n) (hn2 : n ≤ 16) (h0 : 1 ≤ q) (h1 : q ≤ 256) (hK : 0 < kindsI p) (w : World) : Calls Tryz.prog 38 #[.int .i64 n, spV ⟨7, p, q⟩] w fun e w' => e = .returned (.int .i64 (n + q)) ∧ Below w.heap.size w w' := by
  obtain ⟨K, hK'⟩ : ∃ K, kindsI p = K := ⟨_, rfl⟩
  have N0 := fun W => refKinds_any p W
  rw [hK'] at N0 hK
  have dK : decide (0 < K) = true := by simpa using hK
  clear hK'
  have d0 : decide (1 ≤ q) = true := by simpa using h0
  have d1 : decide (q ≤ 256) = true := by simpa using h1
  go_enter Tryz.func38, Tryz.ntmps38
  go_wp2_with fail
  refine (N0 _).mono ?_
  rintro e w1 ⟨rfl, hb⟩
  have hB : Below (w.heap.size + 1) (w.alloc (.cells #[.int .i64 7, .int .i64 p, .int .i64 q] 23)) w1 := hb.mono (by simp)
  obtain ⟨x0, x1, x2, _, _, _, xz⟩ := cells3 ((hB.block _ (by omega)).trans (heap_alloc_new _ _))
  go_wp2
  go_ret
  exact ⟨rfl, ((Below.refl _ w).alloc (Nat.le_refl _) _).trans (hb.mono (by simp))⟩
set_option maxRecDepth 100000 in
set_option maxHeartbeats 1000000 in
theorem psizeNo_7_0 (n p q : Int) (g0 : ¬ (0 < kindsI p)) (w : World) : Calls Tryz.prog 38 #[.int .i64 n, spV ⟨7, p, q⟩] w fun e w' => e = .returned (.int .i64 (-1)) ∧ Below w.heap.size w w' := by
  obtain ⟨K, hK'⟩ : ∃ K, kindsI p = K := ⟨_, rfl⟩
  have N0 := fun W => refKinds_any p W
  rw [hK'] at N0 g0
  clear hK'
  have d0 : decide (0 < K) = false := by simpa using g0
  go_enter Tryz.func38, Tryz.ntmps38
  go_wp2_with fail
  refine (N0 _).mono ?_
  rintro e w1 ⟨rfl, hb⟩
  have hB : Below (w.heap.size + 1) (w.alloc (.cells #[.int .i64 7, .int .i64 p, .int .i64 q] 23)) w1 := hb.mono (by simp)
  obtain ⟨x0, x1, x2, _, _, _, xz⟩ := cells3 ((hB.block _ (by omega)).trans (heap_alloc_new _ _))
  have hB1 : Below w.heap.size w w1 := ((Below.refl _ w).alloc (Nat.le_refl _) _).trans (hb.mono (by simp))
  clear hb hB
  go_wp2_with fail
  refine (beside_none n ⟨7, p, q⟩ (show (7 : Int) ≤ 9 by decide) _).mono ?_
  rintro e w2 ⟨rfl, hb2⟩
  go_wp2
  go_ret
  exact ⟨rfl, hB1.trans (hb2.mono hB1.size)⟩
set_option maxRecDepth 100000 in
set_option maxHeartbeats 1000000 in
theorem psizeNo_7_1 (n p q : Int) (g0 : 0 < kindsI p) (g1 : ¬ (1 ≤ q)) (w : World) : Calls Tryz.prog 38 #[.int .i64 n, spV ⟨7, p, q⟩] w fun e w' => e = .returned (.int .i64 (-1)) ∧ Below w.heap.size w w' := by
  obtain ⟨K, hK'⟩ : ∃ K, kindsI p = K := ⟨_, rfl⟩
  have N0 := fun W => refKinds_any p W
  rw [hK'] at N0 g0
  clear hK'
  have d0 : decide (0 < K) = true := by simpa using g0
  have d1 : decide (1 ≤ q) = false := by simpa using g1
  go_enter Tryz.func38, Tryz.ntmps38
  go_wp2_with fail
  refine (N0 _).mono ?_
  rintro e w1 ⟨rfl, hb⟩
  have hB : Below (w.heap.size + 1) (w.alloc (.cells #[.int .i64 7, .int .i64 p, .int .i64 q] 23)) w1 := hb.mono (by simp)
  obtain ⟨x0, x1, x2, _, _, _, xz⟩ := cells3 ((hB.block _ (by omega)).trans (heap_alloc_new _ _))
  have hB1 : Below w.heap.size w w1 := ((Below.refl _ w).alloc (Nat.le_refl _) _).trans (hb.mono (by simp))
  clear hb hB
  go_wp2_with fail
  refine (beside_none n ⟨7, p, q⟩ (show (7 : Int) ≤ 9 by decide) _).mono ?_
  rintro e w2 ⟨rfl, hb2⟩
  go_wp2
  go_ret
  exact ⟨rfl, hB1.trans (hb2.mono hB1.size)⟩
set_option maxRecDepth 100000 in
set_option maxHeartbeats 1000000 in
theorem psizeNo_7_2 (n p q : Int) (g0 : 0 < kindsI p) (g1 : 1 ≤ q) (g2 : ¬ (q ≤ 256)) (w : World) : Calls Tryz.prog 38 #[.int .i64 n, spV ⟨7, p, q⟩] w fun e w' => e = .returned (.int .i64 (-1)) ∧ Below w.heap.size w w' := by
  obtain ⟨K, hK'⟩ : ∃ K, kindsI p = K := ⟨_, rfl⟩
  have N0 := fun W => refKinds_any p W
  rw [hK'] at N0 g0
  clear hK'
  have d0 : decide (0 < K) = true := by simpa using g0
  have d1 : decide (1 ≤ q) = true := by simpa using g1
  have d2 : decide (q ≤ 256) = false := by simpa using g2
  go_enter Tryz.func38, Tryz.ntmps38
  go_wp2_with fail
  refine (N0 _).mono ?_
  rintro e w1 ⟨rfl, hb⟩
  have hB : Below (w.heap.size + 1) (w.alloc (.cells #[.int .i64 7, .int .i64 p, .int .i64 q] 23)) w1 := hb.mono (by simp)
  obtain ⟨x0, x1, x2, _, _, _, xz⟩ := cells3 ((hB.block _ (by omega)).trans (heap_alloc_new _ _))
  have hB1 : Below w.heap.size w w1 := ((Below.refl _ w).alloc (Nat.le_refl _) _).trans (hb.mono (by simp))
  clear hb hB
  go_wp2_with fail
  refine (beside_none n ⟨7, p, q⟩ (show (7 : Int) ≤ 9 by decide) _).mono ?_
  rintro e w2 ⟨rfl, hb2⟩
  go_wp2
  go_ret
  exact ⟨rfl, hB1.trans (hb2.mono hB1.size)⟩
set_option maxRecDepth 100000 in
set_option maxHeartbeats 1000000 in
theorem psize_8 (n p q : Int) (hn1 : 1 ≤ n) (hn2 : n ≤ 16) (h0 : 1 ≤ p) (h1 : p ≤ 32) (h2 : 0 ≤ q) (h3 : q ≤ 3) (w : World) : Calls Tryz.prog 38 #[.int .i64 n, spV ⟨8, p, q⟩] w fun e w' => e = .returned (.int .i64 (2 + n + 4 * (1 + n * p))) ∧ Below w.heap.size w w' := by
  have d0 : decide (1 ≤ p) = true := by simpa using h0
  have d1 : decide (p ≤ 32) = true := by simpa using h1
  have d2 : decide (0 ≤ q) = true := by simpa using h2
  have d3 : decide (q ≤ 3) = true := by simpa using h3
  go_enter Tryz.func38, Tryz.ntmps38
  go_wp2_with fail
  refine (queueSize n p hn1 hn2 h0 h1 _).mono ?_
  rintro e w1 ⟨rfl, rfl⟩
  go_wp2
  go_ret
  exact ⟨rfl, by (repeat' (first | exact Below.refl _ _ | assumption | refine Below.drew ?_ | refine below_drewN ?_ _ | refine Below.alloc ?_ (by simp <;> omega) _ | refine Below.setCell ?_ (by simp <;> omega) _))⟩
set_option maxRecDepth 100000 in
set_option maxHeartbeats 1000000 in
theorem psizeNo_8_0 (n p q : Int) (g0 : ¬ (1 ≤ p)) (w : World) : Calls Tryz.prog 38 #[.int .i64 n, spV ⟨8, p, q⟩] w fun e w' => e = .returned (.int .i64 (-1)) ∧ Below w.heap.size w w' := by
  have d0 : decide (1 ≤ p) = false := by simpa using g0
  go_enter Tryz.func38, Tryz.ntmps38
  go_wp2_with fail
  refine (beside_none n ⟨8, p, q⟩ (show (8 : Int) ≤ 9 by decide) _).mono ?_
  rintro e w2 ⟨rfl, hb2⟩
  go_wp2
  go_ret
  exact ⟨rfl, ((Below.refl _ w).alloc (Nat.le_refl _) _).trans (hb2.mono (by simp))⟩
set_option maxRecDepth 100000 in
set_option maxHeartbeats 1000000 in
theorem psizeNo_8_1 (n p q : Int) (g0 : 1 ≤ p) (g1 : ¬ (p ≤ 32)) (w : World) : Calls Tryz.prog 38 #[.int .i64 n, spV ⟨8, p, q⟩] w fun e w' => e = .returned (.int .i64 (-1)) ∧ Below w.heap.size w w' := by
  have d0 : decide (1 ≤ p) = true := by simpa using g0
  have d1 : decide (p ≤ 32) = false := by simpa using g1
  go_enter Tryz.func38, Tryz.ntmps38
  go_wp2_with fail
  refine (beside_none n ⟨8, p, q⟩ (show (8 : Int) ≤ 9 by decide) _).mono ?_
  rintro e w2 ⟨rfl, hb2⟩
  go_wp2
  go_ret
  exact ⟨rfl, ((Below.refl _ w).alloc (Nat.le_refl _) _).trans (hb2.mono (by simp))⟩
set_option maxRecDepth 100000 in
set_option maxHeartbeats 1000000 in
theorem psizeNo_8_2 (n p q : Int) (g0 : 1 ≤ p) (g1 : p ≤ 32) (g2 : ¬ (0 ≤ q)) (w : World) : Calls Tryz.prog 38 #[.int .i64 n, spV ⟨8, p, q⟩] w fun e w' => e = .returned (.int .i64 (-1)) ∧ Below w.heap.size w w' := by
  have d0 : decide (1 ≤ p) = true := by simpa using g0
  have d1 : decide (p ≤ 32) = true := by simpa using g1
  have d2 : decide (0 ≤ q) = false := by simpa using g2
  go_enter Tryz.func38, Tryz.ntmps38
  go_wp2_with fail
  refine (beside_none n ⟨8, p, q⟩ (show (8 : Int) ≤ 9 by decide) _).mono ?_
  rintro e w2 ⟨rfl, hb2⟩
  go_wp2
  go_ret
  exact ⟨rfl, ((Below.refl _ w).alloc (Nat.le_refl _) _).trans (hb2.mono (by simp))⟩
set_option maxRecDepth 100000 in
set_option maxHeartbeats 1000000 in
theorem psizeNo_8_3 (n p q : Int) (g0 : 1 ≤ p) (g1 : p ≤ 32) (g2 : 0 ≤ q) (g3 : ¬ (q ≤ 3)) (w : World) : Calls Tryz.prog 38 #[.int .i64 n, spV ⟨8, p, q⟩] w fun e w' => e = .returned (.int .i64 (-1)) ∧ Below w.heap.size w w' := by
  have d0 : decide (1 ≤ p) = true := by simpa using g0
  have d1 : decide (p ≤ 32) = true := by simpa using g1
  have d2 : decide (0 ≤ q) = true := by simpa using g2
  have d3 : decide (q ≤ 3) = false := by simpa using g3
  go_enter Tryz.func38, Tryz.ntmps38
  go_wp2_with fail
  refine (beside_none n ⟨8, p, q⟩ (show (8 : Int) ≤ 9 by decide) _).mono ?_
  rintro e w2 ⟨rfl, hb2⟩
  go_wp2
  go_ret
  exact ⟨rfl, ((Below.refl _ w).alloc (Nat.le_refl _) _).trans (hb2.mono (by simp))⟩
set_option maxRecDepth 100000 in
set_option maxHeartbeats 1000000 in
theorem psize_9 (n p q : Int) (hn1 : 1 ≤ n) (hn2 : n ≤ 16) (h0 : 1 ≤ p) (h1 : p ≤ 8) (w : World) : Calls Tryz.prog 38 #[.int .i64 n, spV ⟨9, p, q⟩] w fun e w' => e = .returned (.int .i64 (1 + (n + 1) * (p + 1))) ∧ Below w.heap.size w w' := by
  obtain ⟨a1, a2⟩ := mul_bd (show 0 ≤ n + 1 by omega) (show n + 1 ≤ 17 by omega) (show 0 ≤ p + 1 by omega) (show p + 1 ≤ 9 by omega)
  have d0 : decide (1 ≤ p) = true := by simpa using h0
  have d1 : decide (p ≤ 8) = true := by simpa using h1
  go_enter Tryz.func38, Tryz.ntmps38
  go_wp2
  go_ret
  exact ⟨rfl, by (repeat' (first | exact Below.refl _ _ | assumption | refine Below.drew ?_ | refine below_drewN ?_ _ | refine Below.alloc ?_ (by simp <;> omega) _ | refine Below.setCell ?_ (by simp <;> omega) _))⟩
set_option maxRecDepth 100000 in
set_option maxHeartbeats 1000000 in
theorem psizeNo_9_0 (n p q : Int) (g0 : ¬ (1 ≤ p)) (w : World) : Calls Tryz.prog 38 #[.int .i64 n, spV ⟨9, p, q⟩] w fun e w' => e = .returned (.int .i64 (-1)) ∧ Below w.heap.size w w' := by
  have d0 : decide (1 ≤ p) = false := by simpa using g0
  go_enter Tryz.func38, Tryz.ntmps38
  go_wp2_with fail
  refine (beside_none n ⟨9, p, q⟩ (show (9 : Int) ≤ 9 by decide) _).mono ?_
  rintro e w2 ⟨rfl, hb2⟩
  go_wp2
  go_ret
  exact ⟨rfl, ((Below.refl _ w).alloc (Nat.le_refl _) _).trans (hb2.mono (by simp))⟩
set_option maxRecDepth 100000 in
set_option maxHeartbeats 1000000 in
theorem psizeNo_9_1 (n p q : Int) (g0 : 1 ≤ p) (g1 : ¬ (p ≤ 8)) (w : World) : Calls Tryz.prog 38 #[.int .i64 n, spV ⟨9, p, q⟩] w fun e w' => e = .returned (.int .i64 (-1)) ∧ Below w.heap.size w w' := by
  have d0 : decide (1 ≤ p) = true := by simpa using g0
  have d1 : decide (p ≤ 8) = false := by simpa using g1
  go_enter Tryz.func38, Tryz.ntmps38
  go_wp2_with fail
  refine (beside_none n ⟨9, p, q⟩ (show (9 : Int) ≤ 9 by decide) _).mono ?_
  rintro e w2 ⟨rfl, hb2⟩
  go_wp2
  go_ret
  exact ⟨rfl, ((Below.refl _ w).alloc (Nat.le_refl _) _).trans (hb2.mono (by simp))⟩
theorem psize_any (n : Int) (s : Sp) (hn1 : 1 ≤ n) (hn2 : n ≤ 16) (hk0 : 0 ≤ s.kind) (hk9 : s.kind ≤ 9) (w : World) :
    Calls Tryz.prog 38 #[.int .i64 n, spV s] w fun e w' => e = .returned (.int .i64 (if rightT s.kind s.p s.q = true then sizeT n s.kind s.p s.q else -1)) ∧ Below w.heap.size w w' := by
  obtain ⟨k, p, q⟩ := s
  simp only at hk0 hk9 ⊢
  have hk : k = 0 ∨ k = 1 ∨ k = 2 ∨ k = 3 ∨ k = 4 ∨ k = 5 ∨ k = 6 ∨ k = 7 ∨ k = 8 ∨ k = 9 := by omega
  rcases hk with rfl | rfl | rfl | rfl | rfl | rfl | rfl | rfl | rfl | rfl
  · by_cases g0 : 1 ≤ p
    · by_cases g1 : p ≤ 64
      · rw [if_pos (by simp [rightT, g0, g1])]
        exact psize_0 n p q hn1 hn2 g0 g1 w
      · rw [if_neg (by simp [rightT, g0, g1])]
        exact psizeNo_0_1 n p q g0 g1 w
    · rw [if_neg (by simp [rightT, g0])]
      exact psizeNo_0_0 n p q g0 w
  · exact psize_1 n p q hn1 hn2 w
  · exact psize_2 n p q hn1 hn2 w
  · exact psize_3 n p q hn1 hn2 w
  · by_cases g0 : 1 ≤ p
    · by_cases g1 : p ≤ 12
      · rw [if_pos (by simp [rightT, g0, g1])]
        exact psize_4 n p q hn1 hn2 g0 g1 w
      · rw [if_neg (by simp [rightT, g0, g1])]
        exact psizeNo_4_1 n p q g0 g1 w
    · rw [if_neg (by simp [rightT, g0])]
      exact psizeNo_4_0 n p q g0 w
  · by_cases g0 : 1 ≤ p
    · by_cases g1 : p ≤ 64
      · rw [if_pos (by simp [rightT, g0, g1])]
        exact psize_5 n p q hn1 hn2 g0 g1 w
      · rw [if_neg (by simp [rightT, g0, g1])]
        exact psizeNo_5_1 n p q g0 g1 w
    · rw [if_neg (by simp [rightT, g0])]
      exact psizeNo_5_0 n p q g0 w
  · by_cases g0 : 1 ≤ p
    · by_cases g1 : p ≤ 16
      · by_cases g2 : 1 ≤ q
        · by_cases g3 : q ≤ 64
          · rw [if_pos (by simp [rightT, g0, g1, g2, g3])]
            exact psize_6 n p q hn1 hn2 g0 g1 g2 g3 w
          · rw [if_neg (by simp [rightT, g0, g1, g2, g3])]
            exact psizeNo_6_3 n p q g0 g1 g2 g3 w
        · rw [if_neg (by simp [rightT, g0, g1, g2])]
          exact psizeNo_6_2 n p q g0 g1 g2 w
      · rw [if_neg (by simp [rightT, g0, g1])]
        exact psizeNo_6_1 n p q g0 g1 w
    · rw [if_neg (by simp [rightT, g0])]
      exact psizeNo_6_0 n p q g0 w
  · by_cases g0 : 0 < kindsI p
    · by_cases g1 : 1 ≤ q
      · by_cases g2 : q ≤ 256
        · rw [if_pos (by simp [rightT, g0, g1, g2])]
          exact psize_7 n p q hn1 hn2 g1 g2 g0 w
        · rw [if_neg (by simp [rightT, g0, g1, g2])]
          exact psizeNo_7_2 n p q g0 g1 g2 w
      · rw [if_neg (by simp [rightT, g0, g1])]
        exact psizeNo_7_1 n p q g0 g1 w
    · rw [if_neg (by simp [rightT, g0])]
      exact psizeNo_7_0 n p q g0 w
  · by_cases g0 : 1 ≤ p
    · by_cases g1 : p ≤ 32
      · by_cases g2 : 0 ≤ q
        · by_cases g3 : q ≤ 3
          · rw [if_pos (by simp [rightT, g0, g1, g2, g3])]
            exact psize_8 n p q hn1 hn2 g0 g1 g2 g3 w
          · rw [if_neg (by simp [rightT, g0, g1, g2, g3])]
            exact psizeNo_8_3 n p q g0 g1 g2 g3 w
        · rw [if_neg (by simp [rightT, g0, g1, g2])]
          exact psizeNo_8_2 n p q g0 g1 g2 w
      · rw [if_neg (by simp [rightT, g0, g1])]
        exact psizeNo_8_1 n p q g0 g1 w
    · rw [if_neg (by simp [rightT, g0])]
      exact psizeNo_8_0 n p q g0 w
  · by_cases g0 : 1 ≤ p
    · by_cases g1 : p ≤ 8
      · rw [if_pos (by simp [rightT, g0, g1])]
        exact psize_9 n p q hn1 hn2 g0 g1 w
      · rw [if_neg (by simp [rightT, g0, g1])]
        exact psizeNo_9_1 n p q g0 g1 w
    · rw [if_neg (by simp [rightT, g0])]
      exact psizeNo_9_0 n p q g0 w
end Go.Proofs.YtmiimpmfkjcjlaaGreat

namespace Go.Proofs.YtmiimpmfkjcjlaaGreat
open Go.RowKit
def regE (xs : List Int) : Int := if xs.sum ≤ 65536 then 0 else 3
def regEnd (xs : List Int) : Int := if xs.sum ≤ 65536 then xs.sum else 0
def regL (xs : List Int) : List Int := if xs.sum ≤ 65536 then begins xs xs.length else []
def RegPost (xs : List Int) (w : World) (e : Ending) (w' : World) : Prop :=
  ∃ u, e = .returned (.tuple #[u, .int .i64 (regEnd xs), .int .i64 (regE xs)]) ∧ SlI w' u (regL xs) ∧ Below w.heap.size w w'
theorem regPost_ok {xs : List Int} {w w' : World} {u : Value} {E : Int} (h : xs.sum ≤ 65536) (hE : xs.sum = E) (hs : IOwn w' w.heap.size u xs.length (begins xs xs.length)) (hm : xs.length ≤ maxLen) (hb : Below w.heap.size w w') :
    RegPost xs w (.returned (.tuple #[u, .int .i64 E, .int .i64 0])) w' := by
  refine ⟨u, by unfold regEnd regE; rw [if_pos h, if_pos h, hE], ?_, hb⟩
  unfold regL
  rw [if_pos h]
  refine sl_of_owns (base := w.heap.size) (e := 3) ?_ (by rw [begins_length]; exact hm)
  rw [begins_length]
  exact hs
theorem regPost_no {xs : List Int} {w w' : World} (h : ¬ xs.sum ≤ 65536) (hb : Below w.heap.size w w') : RegPost xs w (.returned (.tuple #[.slice none 0 0, .int .i64 0, .int .i64 3])) w' := by
  refine ⟨_, by unfold regEnd regE; rw [if_neg h, if_neg h], ?_, hb⟩
  unfold regL
  rw [if_neg h]
  exact ⟨none, 0, rfl, Nat.le_refl _, Nat.zero_le _, fun k x hx => by simp at hx⟩
theorem iown_succ {w' : World} {B k : Nat} {v' : Value} {xs : List Int} {E : Int} (hE : psum xs k = E) (h : w'.ownsRow B 3 1 v' (k + 1) ((begins xs k).map (Value.int .i64) ++ [.int .i64 E])) : IOwn w' B v' (k + 1) (begins xs (k + 1)) := by
  unfold IOwn
  rw [begins_succ, List.map_append, hE]
  exact h
set_option maxRecDepth 100000 in
set_option maxHeartbeats 1000000 in
theorem regionLay (A : Option Addr) (n c : Nat) (xs : List Int) (w : World) (h : SlI w (.slice A n c) xs) (hn : xs.length = n) (hx : ∀ x ∈ xs, 0 ≤ x ∧ x ≤ 100000) (hl : n ≤ 1000) :
    Calls Tryz.prog 104 #[.slice A n c] w (RegPost xs w) := by
  have HN := hide hn
  have HX := hide hx
  have HZ : Hid (∀ x ∈ xs, 0 ≤ x) := fun x hx' => (hx x hx').1
  have HH := hide h
  clear hn hx h
  obtain ⟨j0, hj, hj0, hj1, hj2⟩ := info_parts info_int
  go_enter Tryz.func104, Tryz.ntmps104
  go_wp2
  go_loopw [5, 6, 11] (fun out en i wr => ∃ (k : Nat) (E : Int), k ≤ n ∧ en = .int .i64 E ∧ i = .int .i64 k ∧ Hid (psum xs k = E) ∧ 0 ≤ E ∧ E ≤ 65536 ∧ Hid (IOwn wr w.heap.size out k (begins xs k)) ∧ Hid (Below w.heap.size w wr)) (fun _ _ i _ => n - (intOf i).toNat)
  case atStart => exact ⟨0, 0, Nat.zero_le _, rfl, rfl, hide (psum_zero xs), by decide, by decide, hide (World.ownsRow_nil _ _ _ _), hide (Below.refl _ _)⟩
  case round =>
    obtain ⟨k, E, hk, rfl, rfl, hE, hE0, hE1, hown, hB⟩ := hrel
    by_cases hlt : k < n
    · obtain ⟨x, hxk⟩ : ∃ x, xs[k]? = some x := ⟨_, List.getElem?_eq_getElem (by have := HN.out; omega)⟩
      obtain ⟨hx0, hx1⟩ := HX.out x (List.mem_of_getElem? hxk)
      obtain ⟨A', c', e, _, _, h3⟩ := HH.out.below hB.out (Nat.le_refl _)
      obtain ⟨b, o, e', hb, hc⟩ := h3 k x hxk
      rw [HN.out] at e
      cases e
      cases e'
      have c0 := nt_cell hc
      simp only [Nat.mul_one] at c0
      have HS := hide (psum_succ hxk)
      have HK := hide hxk
      clear h3 hc hxk
      by_cases hbig : x ≤ 65536 - E
      · have hd : decide (65536 - E < x) = false := by simp; omega
        have hd0 : decide (x < 0) = false := by simp; omega
        have hown' := hown.out
        have hsz := hB.out.size
        go_wp2_with (at_builtin; refine wpList_append_own_at _ rfl _ _ 42 rfl w.heap.size 3 j0 (.int .i64 0) 1 8 Tryz.underlying42 hj hj0 hj1 hj2 rfl (by decide) _ k _ rfl (hown'.alloc _) ⟨wr.heap.size, 0, none⟩ 1 1 [.int .i64 E] rfl rfl (new_one _ _ _) (by simp [Value.oneCell']) (by unfold maxLen; omega) (by omega) (by simp; omega) ?_; intro v5 w5 hown5 hgrow _ _; have HO := hide (iown_succ hE.out hown5); have HB := hide ((hB.out.alloc hsz _).grown hgrow (by simp; omega) (fun j hj => (hown'.lt j hj).1)); clear hown5 hgrow hown' hown hB)
        go_roundw
        case rel => exact ⟨k + 1, E + x, by omega, rfl, by go_num, hide (by rw [HS.out, hE.out]), by omega, by omega, HO, HB⟩
        case measure => simp [intOf] <;> omega
      · have hd : decide (65536 - E < x) = true := by simp; omega
        have hd0 : decide (x < 0) = false := by simp; omega
        have hbad : Hid (65536 < xs.sum) := by
          show 65536 < xs.sum
          have h1 := psum_mono HZ.out (show k + 1 ≤ xs.length by have := HN.out; omega)
          rw [psum_all, HS.out, hE.out] at h1
          omega
        go_wp2
        go_ret3
        exact regPost_no (by have := hbad.out; omega) hB.out
    · go_wp2
      go_ret3
      obtain rfl : k = n := by omega
      have hs : xs.sum = E := by rw [← psum_all, HN.out]; exact hE.out
      exact regPost_ok (by omega) hs (by rw [HN.out]; exact hown.out) (by rw [HN.out]; unfold maxLen; omega) hB.out
end Go.Proofs.YtmiimpmfkjcjlaaGreat
