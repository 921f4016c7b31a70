/- How many steps operations make at most (package bound): most, Most. -/
import Derived.Test.YtdilnfnakhhhaaaGreatTb7
namespace Go.Proofs.YtdilnfnakhhhaaaGreat
open Go.RowKit

def mostT (n : Int) (s : Sp) (kd : Int) : Int :=
  if s.kind = 1 then 2 - kd else if s.kind = 2 then (if kd = 1 then n else 2) else if s.kind = 4 then s.p else if s.kind = 5 then (if kd = 1 then n * (n + 2) else n * (n + 2) + n + 2) else
  if s.kind = 6 then (if kd = 1 then s.p * (n + 2) else s.p * (n + 2) + s.p + 2) else if s.kind = 7 then 4 * s.q + 1 else
  if s.kind = 8 then (n + 1) * (15 * (2 * n * n + 8) + 1) + s.p + 14 * s.q + n + 14 else if s.kind = 9 then (if kd = 1 then s.p + 2 else n + s.p + 1) else 1

theorem most_bd {n : Int} {s : Sp} {kd : Int} (h : sizeE n s = 0) (hk0 : 0 ≤ kd) (hk1 : kd < actsT s.kind s.p) : 1 ≤ mostT n s kd ∧ mostT n s kd ≤ 1000000 := by
  obtain ⟨⟨hn1, hn2⟩, ⟨h0, h9⟩, hr⟩ := sizeE_zero h
  obtain ⟨k, p, q⟩ := s
  simp only at *
  have e1 := mul_bd (show 0 ≤ n by omega) hn2 (show 0 ≤ n + 2 by omega) (show n + 2 ≤ 18 by omega)
  have e6 := Int.mul_le_mul hn1 (show 3 ≤ n + 2 by omega) (by decide) (show 0 ≤ n by omega)
  have e2 := mul_bd (show 0 ≤ 2 * n by omega) (show 2 * n ≤ 32 by omega) (show 0 ≤ n by omega) hn2
  have e3 := mul_bd (show 0 ≤ n + 1 by omega) (show n + 1 ≤ 17 by omega) (show 0 ≤ 15 * (2 * n * n + 8) + 1 by omega) (show 15 * (2 * n * n + 8) + 1 ≤ 7801 by omega)
  have hk : k = 0 ∨ k = 1 ∨ k = 2 ∨ k = 3 ∨ k = 4 ∨ k = 5 ∨ k = 6 ∨ k = 7 ∨ k = 8 ∨ k = 9 := by omega
  unfold mostT
  rcases hk with rfl | rfl | rfl | rfl | rfl | rfl | rfl | rfl | rfl | rfl <;> simp [rightT, actsT] at hr hk1 ⊢
  · omega
  · split <;> omega
  · omega
  · split <;> omega
  · have e4 := mul_bd (show 0 ≤ p by omega) hr.2.1 (show 0 ≤ n + 2 by omega) (show n + 2 ≤ 18 by omega)
    have e5 := Int.mul_le_mul hr.1 (show 1 ≤ n + 2 by omega) (by decide) (show 0 ≤ p by omega)
    split <;> omega
  · omega
  · omega
  · split <;> omega

theorem bqueue_any (n p q : Int) (hn1 : 1 ≤ n) (hn2 : n ≤ 16) (h1 : 1 ≤ p) (h2 : p ≤ 32) (h3 : 0 ≤ q) (h4 : q ≤ 3) (w : World) :
    Calls Tryz.prog 33 #[.int .i64 n, .int .i64 p, .int .i64 q] w fun e w' => e = .returned (.int .i64 ((n + 1) * (15 * (2 * n * n + 8) + 1) + p + 14 * q + n + 14)) ∧ w' = w := by
  obtain ⟨a1, a2⟩ := mul_bd (show 0 ≤ 2 * n by omega) (show 2 * n ≤ 32 by omega) (show 0 ≤ n by omega) hn2
  obtain ⟨b1, b2⟩ := mul_bd (show 0 ≤ n + 1 by omega) (show n + 1 ≤ 17 by omega) (show 0 ≤ 15 * (2 * n * n + 8) + 1 by omega) (show 15 * (2 * n * n + 8) + 1 ≤ 7801 by omega)
  go_enter Tryz.func33, Tryz.ntmps33
  go_wp2
  go_ret
  exact ⟨rfl, rfl⟩

set_option maxRecDepth 100000 in
set_option maxHeartbeats 2000000 in
theorem bmost_any (n : Int) (s : Sp) (kd : Int) (h : sizeE n s = 0) (hk0 : 0 ≤ kd) (hk1 : kd < actsT s.kind s.p) (w : World) :
    Calls Tryz.prog 27 #[.int .i64 n, spV s, .int .i64 kd] w fun e w' => e = .returned (.int .i64 (mostT n s kd)) ∧ Below w.heap.size w w' := by
  obtain ⟨⟨hn1, hn2⟩, ⟨h0, h9⟩, hr⟩ := sizeE_zero h
  obtain ⟨k, p, q⟩ := s
  simp only at *
  obtain ⟨e1, e2⟩ := mul_bd (show 0 ≤ n by omega) hn2 (show 0 ≤ n + 2 by omega) (show n + 2 ≤ 18 by omega)
  have hk : k = 0 ∨ k = 1 ∨ k = 2 ∨ k = 3 ∨ k = 4 ∨ k = 5 ∨ k = 6 ∨ k = 7 ∨ k = 8 ∨ k = 9 := by omega
  clear h h0 h9
  unfold mostT
  rcases hk with rfl | rfl | rfl | rfl | rfl | rfl | rfl | rfl | rfl | rfl <;> simp [rightT, actsT] at hr hk1 ⊢
  · go_enter Tryz.func27, Tryz.ntmps27
    go_wp2
    go_ret
    exact ⟨rfl, by (repeat' (first | exact Below.refl _ _ | assumption | refine Below.drew ?_ | refine below_drewN ?_ _ | refine Below.alloc ?_ (by simp <;> omega) _ | refine Below.setCell ?_ (by simp <;> omega) _))⟩
  · go_enter Tryz.func27, Tryz.ntmps27
    go_wp2
    go_ret
    exact ⟨rfl, by (repeat' (first | exact Below.refl _ _ | assumption | refine Below.drew ?_ | refine below_drewN ?_ _ | refine Below.alloc ?_ (by simp <;> omega) _ | refine Below.setCell ?_ (by simp <;> omega) _))⟩
  · by_cases hk : kd = 1
    · subst hk
      go_enter Tryz.func27, Tryz.ntmps27
      go_wp2
      go_ret
      exact ⟨rfl, by (repeat' (first | exact Below.refl _ _ | assumption | refine Below.drew ?_ | refine below_drewN ?_ _ | refine Below.alloc ?_ (by simp <;> omega) _ | refine Below.setCell ?_ (by simp <;> omega) _))⟩
    · have d1 : (kd == 1) = false := by simpa using hk
      rw [if_neg hk]
      clear hk
      go_enter Tryz.func27, Tryz.ntmps27
      go_wp2
      go_ret
      exact ⟨rfl, by (repeat' (first | exact Below.refl _ _ | assumption | refine Below.drew ?_ | refine below_drewN ?_ _ | refine Below.alloc ?_ (by simp <;> omega) _ | refine Below.setCell ?_ (by simp <;> omega) _))⟩
  · go_enter Tryz.func27, Tryz.ntmps27
    go_wp2
    go_ret
    exact ⟨rfl, by (repeat' (first | exact Below.refl _ _ | assumption | refine Below.drew ?_ | refine below_drewN ?_ _ | refine Below.alloc ?_ (by simp <;> omega) _ | refine Below.setCell ?_ (by simp <;> omega) _))⟩
  · go_enter Tryz.func27, Tryz.ntmps27
    go_wp2
    go_ret
    exact ⟨rfl, by (repeat' (first | exact Below.refl _ _ | assumption | refine Below.drew ?_ | refine below_drewN ?_ _ | refine Below.alloc ?_ (by simp <;> omega) _ | refine Below.setCell ?_ (by simp <;> omega) _))⟩
  · by_cases hk : kd = 1
    · subst hk
      go_enter Tryz.func27, Tryz.ntmps27
      go_wp2
      go_ret
      exact ⟨rfl, by (repeat' (first | exact Below.refl _ _ | assumption | refine Below.drew ?_ | refine below_drewN ?_ _ | refine Below.alloc ?_ (by simp <;> omega) _ | refine Below.setCell ?_ (by simp <;> omega) _))⟩
    · have d1 : (kd == 1) = false := by simpa using hk
      rw [if_neg hk]
      clear hk
      go_enter Tryz.func27, Tryz.ntmps27
      go_wp2
      go_ret
      exact ⟨rfl, by (repeat' (first | exact Below.refl _ _ | assumption | refine Below.drew ?_ | refine below_drewN ?_ _ | refine Below.alloc ?_ (by simp <;> omega) _ | refine Below.setCell ?_ (by simp <;> omega) _))⟩
  · obtain ⟨g1, g2⟩ := mul_bd (show 0 ≤ p by omega) hr.2.1 (show 0 ≤ n + 2 by omega) (show n + 2 ≤ 18 by omega)
    by_cases hk : kd = 1
    · subst hk
      go_enter Tryz.func27, Tryz.ntmps27
      go_wp2
      go_ret
      exact ⟨rfl, by (repeat' (first | exact Below.refl _ _ | assumption | refine Below.drew ?_ | refine below_drewN ?_ _ | refine Below.alloc ?_ (by simp <;> omega) _ | refine Below.setCell ?_ (by simp <;> omega) _))⟩
    · have d1 : (kd == 1) = false := by simpa using hk
      rw [if_neg hk]
      clear hk
      go_enter Tryz.func27, Tryz.ntmps27
      go_wp2
      go_ret
      exact ⟨rfl, by (repeat' (first | exact Below.refl _ _ | assumption | refine Below.drew ?_ | refine below_drewN ?_ _ | refine Below.alloc ?_ (by simp <;> omega) _ | refine Below.setCell ?_ (by simp <;> omega) _))⟩
  · go_enter Tryz.func27, Tryz.ntmps27
    go_wp2
    go_ret
    exact ⟨rfl, by (repeat' (first | exact Below.refl _ _ | assumption | refine Below.drew ?_ | refine below_drewN ?_ _ | refine Below.alloc ?_ (by simp <;> omega) _ | refine Below.setCell ?_ (by simp <;> omega) _))⟩
  · go_enter Tryz.func27, Tryz.ntmps27
    go_wp2_with fail
    refine (bqueue_any n p q hn1 hn2 hr.1 hr.2.1 hr.2.2.1 hr.2.2.2 _).mono ?_
    rintro e w1 ⟨rfl, rfl⟩
    go_wp2
    go_ret
    exact ⟨rfl, by (repeat' (first | exact Below.refl _ _ | assumption | refine Below.drew ?_ | refine below_drewN ?_ _ | refine Below.alloc ?_ (by simp <;> omega) _ | refine Below.setCell ?_ (by simp <;> omega) _))⟩
  · by_cases hk : kd = 1
    · subst hk
      go_enter Tryz.func27, Tryz.ntmps27
      go_wp2
      go_ret
      exact ⟨rfl, by (repeat' (first | exact Below.refl _ _ | assumption | refine Below.drew ?_ | refine below_drewN ?_ _ | refine Below.alloc ?_ (by simp <;> omega) _ | refine Below.setCell ?_ (by simp <;> omega) _))⟩
    · have d1 : (kd == 1) = false := by simpa using hk
      rw [if_neg hk]
      clear hk
      go_enter Tryz.func27, Tryz.ntmps27
      go_wp2
      go_ret
      exact ⟨rfl, by (repeat' (first | exact Below.refl _ _ | assumption | refine Below.drew ?_ | refine below_drewN ?_ _ | refine Below.alloc ?_ (by simp <;> omega) _ | refine Below.setCell ?_ (by simp <;> omega) _))⟩

def mostE (n : Int) (s : Sp) (kd : Int) : Int := if sizeE n s = 0 then (if 0 ≤ kd ∧ kd < actsT s.kind s.p then 0 else 9) else sizeE n s
def mostV (n : Int) (s : Sp) (kd : Int) : Int := if mostE n s kd = 0 then mostT n s kd else 0

set_option maxRecDepth 100000 in
set_option maxHeartbeats 2000000 in
theorem most_any (n : Int) (s : Sp) (kd : Int) (w : World) : Calls Tryz.prog 15 #[.int .i64 n, spV s, .int .i64 kd] w fun e w' => e = .returned (.tuple #[.int .i64 (mostV n s kd), .int .i64 (mostE n s kd)]) ∧ Below w.heap.size w w' := by
  have N0 := fun W => tsize_any n s W
  by_cases hE : sizeE n s = 0
  · have N1 := fun W => tkinds_any s W
    by_cases hk : 0 ≤ kd ∧ kd < actsT s.kind s.p
    · have hM : mostE n s kd = 0 := by unfold mostE; rw [if_pos hE, if_pos hk]
      have hV : mostV n s kd = mostT n s kd := by unfold mostV; rw [hM]; rfl
      have N2 := fun W => bmost_any n s kd hE hk.1 hk.2 W
      rw [hM, hV]
      rw [hE] at N0
      generalize mostT n s kd = T at *
      generalize actsT s.kind s.p = K at *
      generalize sizeV n s = V at *
      obtain ⟨hk0, hk1⟩ := hk
      have d0 : decide (kd < 0) = false := by simp; omega
      have d1 : decide (K ≤ kd) = false := by simp; omega
      clear hM hV hE
      go_enter Tryz.func15, Tryz.ntmps15
      go_wp2_with fail
      refine (N0 _).mono ?_
      rintro e w1 ⟨rfl, hb1⟩
      have hB1 : Below (w.heap.size + 1) (w.alloc (.cells #[.int .i64 s.kind, .int .i64 s.p, .int .i64 s.q] 40)) w1 := hb1.mono (by simp)
      obtain ⟨x0, x1, x2⟩ := spec_box hB1
      have hz1 : w.heap.size + 1 ≤ w1.heap.size := by have := hB1.size; simpa using this
      clear hb1
      go_wp2_with fail
      refine (N1 _).mono ?_
      rintro e w2 ⟨rfl, hb2⟩
      have hB2 := hB1.trans (hb2.mono hz1)
      have hz2 : w.heap.size + 1 ≤ w2.heap.size := by have := hB2.size; simpa using this
      clear hb2 x0 x1 x2
      obtain ⟨x0, x1, x2⟩ := spec_box hB2
      go_wp2_with fail
      refine (N2 _).mono ?_
      rintro e w3 ⟨rfl, hb3⟩
      go_wp2
      go_ret2
      exact ⟨rfl, ((Below.refl _ w).alloc (Nat.le_refl _) _).trans ((hB2.trans (hb3.mono hz2)).mono (by omega))⟩
    · have hM : mostE n s kd = 9 := by unfold mostE; rw [if_pos hE, if_neg hk]
      have hV : mostV n s kd = 0 := by unfold mostV; rw [hM]; rfl
      rw [hM, hV]
      rw [hE] at N0
      generalize actsT s.kind s.p = K at *
      generalize sizeV n s = V at *
      clear hM hV hE
      rcases (by omega : kd < 0 ∨ 0 ≤ kd ∧ K ≤ kd) with hk0 | ⟨hk0, hk1⟩
      · have d0 : decide (kd < 0) = true := by simp; omega
        clear hk
        go_enter Tryz.func15, Tryz.ntmps15
        go_wp2_with fail
        refine (N0 _).mono ?_
        rintro e w1 ⟨rfl, hb1⟩
        go_wp2
        go_ret2
        exact ⟨rfl, ((Below.refl _ w).alloc (Nat.le_refl _) _).trans (hb1.mono (by simp))⟩
      · have d0 : decide (kd < 0) = false := by simp; omega
        have d1 : decide (K ≤ kd) = true := by simp; omega
        clear hk
        go_enter Tryz.func15, Tryz.ntmps15
        go_wp2_with fail
        refine (N0 _).mono ?_
        rintro e w1 ⟨rfl, hb1⟩
        have hB1 : Below (w.heap.size + 1) (w.alloc (.cells #[.int .i64 s.kind, .int .i64 s.p, .int .i64 s.q] 40)) w1 := hb1.mono (by simp)
        obtain ⟨x0, x1, x2⟩ := spec_box hB1
        have hz1 : w.heap.size + 1 ≤ w1.heap.size := by have := hB1.size; simpa using this
        clear hb1
        go_wp2_with fail
        refine (N1 _).mono ?_
        rintro e w2 ⟨rfl, hb2⟩
        go_wp2
        go_ret2
        exact ⟨rfl, ((Below.refl _ w).alloc (Nat.le_refl _) _).trans ((hB1.trans (hb2.mono hz1)).mono (by omega))⟩
  · have hM : mostE n s kd = sizeE n s := by unfold mostE; rw [if_neg hE]
    have hV : mostV n s kd = 0 := by unfold mostV; rw [hM, if_neg hE]
    rw [hM, hV]
    generalize sizeE n s = E at *
    generalize sizeV n s = V at *
    have he : (E != 0) = true := by simpa using hE
    clear hM hV
    go_enter Tryz.func15, Tryz.ntmps15
    go_wp2_with fail
    refine (N0 _).mono ?_
    rintro e w1 ⟨rfl, hb1⟩
    go_wp2
    go_ret2
    exact ⟨rfl, ((Below.refl _ w).alloc (Nat.le_refl _) _).trans (hb1.mono (by simp))⟩

/-- The greatest bound of the first kd kinds of operations, and what was so far. -/
def kmax (n : Int) (s : Sp) (o : Int) : Nat → Int
  | 0 => o
  | k + 1 => max (kmax n s o k) (mostT n s k)
def allV (n : Int) : List Sp → Int → Int
  | [], o => o
  | s :: l, o => allV n l (kmax n s o (actsT s.kind s.p).toNat)
theorem kmax_bd {n : Int} {s : Sp} {o : Int} (h : sizeE n s = 0) (ho : 1 ≤ o ∧ o ≤ 1000000) : ∀ k : Nat, (k : Int) ≤ actsT s.kind s.p → 1 ≤ kmax n s o k ∧ kmax n s o k ≤ 1000000
  | 0, _ => ho
  | k + 1, hk => by
    have h1 := kmax_bd h ho k (by omega)
    have h2 := most_bd (kd := (k : Int)) h (by omega) (by omega)
    show 1 ≤ max _ _ ∧ max _ _ ≤ _
    omega
theorem allV_step {n : Int} {l : List Sp} {k : Nat} {s : Sp} {o : Int} (h : l[k]? = some s) : allV n (l.drop k) o = allV n (l.drop (k + 1)) (kmax n s o (actsT s.kind s.p).toNat) := by
  have : l.drop k = s :: l.drop (k + 1) := by rw [List.drop_eq_getElem?_toList_append, h]; rfl
  rw [this]; rfl
theorem actsT_bd (k p : Int) : 0 ≤ actsT k p ∧ actsT k p ≤ 4 := by
  have := kindsI_le p
  unfold actsT
  repeat' split <;> omega
end Go.Proofs.YtdilnfnakhhhaaaGreat
