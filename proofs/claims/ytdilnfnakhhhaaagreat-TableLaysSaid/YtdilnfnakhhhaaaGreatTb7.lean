/- Kinds of objects: the reference's Size and Kinds; the known case. -/
import Derived.Test.YtdilnfnakhhhaaaGreatTb4
import Derived.Test.YtdilnfnakhhhaaaGreatTb6
namespace Go.Proofs.YtdilnfnakhhhaaaGreat
open Go.RowKit

theorem spec_box {w X : World} {s : Sp} (h : Below (w.heap.size + 1) (w.alloc (.cells #[.int .i64 s.kind, .int .i64 s.p, .int .i64 s.q] 40)) X) :
    X.cell? ⟨w.heap.size, 0, none⟩ = some (.int .i64 s.kind) ∧ X.cell? ⟨w.heap.size, 1, none⟩ = some (.int .i64 s.p) ∧ X.cell? ⟨w.heap.size, 2, none⟩ = some (.int .i64 s.q) := by
  obtain ⟨a, b, c, _⟩ := cells3 ((h.block w.heap.size (by omega)).trans (heap_alloc_new _ _))
  exact ⟨a, b, c⟩

set_option maxRecDepth 100000 in
set_option maxHeartbeats 1000000 in
theorem refSize_any (n : Int) (s : Sp) (w : World) : Calls Tryz.prog 14 #[.int .i64 n, spV s] w fun e w' => e = .returned (.tuple #[.int .i64 (sizeV n s), .int .i64 (sizeE n s)]) ∧ Below w.heap.size w w' := by
  by_cases hn : 1 ≤ n ∧ n ≤ 16
  · have n0 : decide (n < 1) = false := by simp; omega
    have n1 : decide (16 < n) = false := by simp; omega
    by_cases hk : 0 ≤ s.kind ∧ s.kind ≤ 9
    · have k0 : decide (s.kind < 0) = false := by simp; omega
      have k1 : decide (9 < s.kind) = false := by simp; omega
      have N0 := fun W => psize_any n s hn.1 hn.2 hk.1 hk.2 W
      by_cases hr : rightT s.kind s.p s.q = true
      · have hE : sizeE n s = 0 := by unfold sizeE; rw [if_neg (by omega), if_neg (by omega), if_neg (by rw [hr]; decide)]
        have hV : sizeV n s = sizeT n s.kind s.p s.q := by unfold sizeV; rw [hE]; rfl
        have hT := size_bd hk.1 hk.2 hn.1 hn.2 hr
        rw [hE, hV]
        rw [if_pos hr] at N0
        generalize sizeT n s.kind s.p s.q = T at *
        have d0 : decide (T < 0) = false := by simp; omega
        clear hE hV hn hk hr
        go_enter Tryz.func14, Tryz.ntmps14
        go_wp2_with fail
        refine (N0 _).mono ?_
        rintro e w1 ⟨rfl, hb⟩
        go_wp2
        go_ret2
        exact ⟨rfl, ((Below.refl _ w).alloc (Nat.le_refl _) _).trans (hb.mono (by simp))⟩
      · have hr' : rightT s.kind s.p s.q = false := by simpa using hr
        have hE : sizeE n s = 10 := by unfold sizeE; rw [if_neg (by omega), if_neg (by omega), if_pos hr']
        have hV : sizeV n s = 0 := by unfold sizeV; rw [hE]; rfl
        rw [hE, hV]
        rw [if_neg hr] at N0
        clear hE hV hn hk hr hr'
        go_enter Tryz.func14, Tryz.ntmps14
        go_wp2_with fail
        refine (N0 _).mono ?_
        rintro e w1 ⟨rfl, hb⟩
        go_wp2
        go_ret2
        exact ⟨rfl, ((Below.refl _ w).alloc (Nat.le_refl _) _).trans (hb.mono (by simp))⟩
    · have hE : sizeE n s = 9 := by unfold sizeE; rw [if_neg (by omega), if_pos hk]
      have hV : sizeV n s = 0 := by unfold sizeV; rw [hE]; rfl
      rw [hE, hV]
      rcases (by omega : s.kind < 0 ∨ 0 ≤ s.kind ∧ 9 < s.kind) with h0 | ⟨h0, h1⟩
      · have k0 : decide (s.kind < 0) = true := by simp; omega
        clear hE hV hn hk
        go_enter Tryz.func14, Tryz.ntmps14
        go_wp2
        go_ret2
        exact ⟨rfl, by (repeat' (first | exact Below.refl _ _ | assumption | refine Below.drew ?_ | refine below_drewN ?_ _ | refine Below.alloc ?_ (by simp <;> omega) _ | refine Below.setCell ?_ (by simp <;> omega) _))⟩
      · have k0 : decide (s.kind < 0) = false := by simp; omega
        have k1 : decide (9 < s.kind) = true := by simp; omega
        clear hE hV hn hk
        go_enter Tryz.func14, Tryz.ntmps14
        go_wp2
        go_ret2
        exact ⟨rfl, by (repeat' (first | exact Below.refl _ _ | assumption | refine Below.drew ?_ | refine below_drewN ?_ _ | refine Below.alloc ?_ (by simp <;> omega) _ | refine Below.setCell ?_ (by simp <;> omega) _))⟩
  · have hE : sizeE n s = 1 := by unfold sizeE; rw [if_pos hn]
    have hV : sizeV n s = 0 := by unfold sizeV; rw [hE]; rfl
    rw [hE, hV]
    rcases (by omega : n < 1 ∨ 1 ≤ n ∧ 16 < n) with h0 | ⟨h0, h1⟩
    · have n0 : decide (n < 1) = true := by simp; omega
      clear hE hV hn
      go_enter Tryz.func14, Tryz.ntmps14
      go_wp2
      go_ret2
      exact ⟨rfl, by (repeat' (first | exact Below.refl _ _ | assumption | refine Below.drew ?_ | refine below_drewN ?_ _ | refine Below.alloc ?_ (by simp <;> omega) _ | refine Below.setCell ?_ (by simp <;> omega) _))⟩
    · have n0 : decide (n < 1) = false := by simp; omega
      have n1 : decide (16 < n) = true := by simp; omega
      clear hE hV hn
      go_enter Tryz.func14, Tryz.ntmps14
      go_wp2
      go_ret2
      exact ⟨rfl, by (repeat' (first | exact Below.refl _ _ | assumption | refine Below.drew ?_ | refine below_drewN ?_ _ | refine Below.alloc ?_ (by simp <;> omega) _ | refine Below.setCell ?_ (by simp <;> omega) _))⟩

set_option maxRecDepth 100000 in
set_option maxHeartbeats 2000000 in
theorem refTKinds_any (s : Sp) (w : World) : Calls Tryz.prog 17 #[spV s] w fun e w' => e = .returned (.int .i64 (actsT s.kind s.p)) ∧ Below w.heap.size w w' := by
  obtain ⟨k, p, q⟩ := s
  simp only
  by_cases hk : 0 ≤ k ∧ k ≤ 9
  · by_cases h7 : k = 7
    · subst h7
      have hT : actsT 7 p = kindsI p := by unfold actsT; rw [if_neg (by decide), if_neg (by decide), if_pos rfl]
      rw [hT]
      generalize hK : kindsI p = K
      have N0 := fun W => refKinds_any p W
      rw [hK] at N0
      clear hk hT hK
      go_enter Tryz.func17, Tryz.ntmps17
      go_wp2_with fail
      refine (N0 _).mono ?_
      rintro e w1 ⟨rfl, hb⟩
      go_wp2
      go_ret
      exact ⟨rfl, ((Below.refl _ w).alloc (Nat.le_refl _) _).trans (hb.mono (by simp))⟩
    · have h9 : k = 0 ∨ k = 1 ∨ k = 2 ∨ k = 3 ∨ k = 4 ∨ k = 5 ∨ k = 6 ∨ k = 8 ∨ k = 9 := by omega
      rcases h9 with rfl | rfl | rfl | rfl | rfl | rfl | rfl | rfl | rfl
      all_goals
        clear hk h7
        go_enter Tryz.func17, Tryz.ntmps17
        go_wp2
        go_ret
        exact ⟨rfl, by (repeat' (first | exact Below.refl _ _ | assumption | refine Below.drew ?_ | refine below_drewN ?_ _ | refine Below.alloc ?_ (by simp <;> omega) _ | refine Below.setCell ?_ (by simp <;> omega) _))⟩
  · have hT : actsT k p = 0 := by unfold actsT; rw [if_neg (by omega), if_neg (by omega), if_neg (by omega), if_neg (by omega)]
    rw [hT]
    rcases (by omega : k < 0 ∨ 0 ≤ k ∧ 9 < k) with h0 | ⟨h0, h1⟩
    · have k0 : decide (k < 0) = true := by simp; omega
      clear hk hT
      go_enter Tryz.func17, Tryz.ntmps17
      go_wp2
      go_ret
      exact ⟨rfl, by (repeat' (first | exact Below.refl _ _ | assumption | refine Below.drew ?_ | refine below_drewN ?_ _ | refine Below.alloc ?_ (by simp <;> omega) _ | refine Below.setCell ?_ (by simp <;> omega) _))⟩
    · have k0 : decide (k < 0) = false := by simp; omega
      have k1 : decide (9 < k) = true := by simp; omega
      clear hk hT
      go_enter Tryz.func17, Tryz.ntmps17
      go_wp2
      go_ret
      exact ⟨rfl, by (repeat' (first | exact Below.refl _ _ | assumption | refine Below.drew ?_ | refine below_drewN ?_ _ | refine Below.alloc ?_ (by simp <;> omega) _ | refine Below.setCell ?_ (by simp <;> omega) _))⟩

theorem sl_two_specs (w : World) (t : TypeId) (a b : Sp) : SlSp (w.alloc (.cells #[.int .i64 a.kind, .int .i64 a.p, .int .i64 a.q, .int .i64 b.kind, .int .i64 b.p, .int .i64 b.q] t)) (.slice (some ⟨w.heap.size, 0, none⟩) 2 2) [a, b] := by
  refine Sl.of_block (xs := [a, b]) (heap_alloc_new _ _) (Nat.le_refl 2) (by decide) ?_
  intro k x hx j u hu
  rcases k with _ | _ | k
  · cases hx; rcases j with _ | _ | _ | j <;> first | exact hu | cases hu
  · cases hx; rcases j with _ | _ | _ | j <;> first | exact hu | cases hu
  · cases hx

theorem pair_facts : layE 2 [⟨2, 0, 0⟩, ⟨8, 1, 0⟩] = 0 ∧ layEnd 2 [⟨2, 0, 0⟩, ⟨8, 1, 0⟩] = 18 ∧ layL 2 [⟨2, 0, 0⟩, ⟨8, 1, 0⟩] = [0, 2] := by decide
set_option maxRecDepth 100000 in
set_option maxHeartbeats 2000000 in
theorem pair_any (w : World) : Calls Tryz.prog 9 #[] w fun e w' => e = .returned (.bool true) ∧ Below w.heap.size w w' := by
  have N0 := fun W h => tlay_any 2 (some ⟨w.heap.size, 0, none⟩) 2 2 [⟨2, 0, 0⟩, ⟨8, 1, 0⟩] W h rfl
  unfold LayPost at N0
  rw [pair_facts.1, pair_facts.2.1, pair_facts.2.2] at N0
  have N1 := fun W => tkinds_any ⟨0, 0, 0⟩ W
  rw [show actsT 0 0 = 4 by decide] at N1
  go_enter Tryz.func9, Tryz.ntmps9
  go_wp2_with fail
  refine (N0 _ (sl_two_specs w _ _ _)).mono ?_
  rintro e w1 ⟨u, rfl, hs, hb⟩
  have hB : Below w.heap.size w w1 := ((Below.refl _ w).alloc (Nat.le_refl _) _).trans (hb.mono (by simp))
  obtain ⟨A, c, rfl, h1, h2, h3⟩ := hs
  obtain ⟨b, o, rfl, hbl, hc⟩ := h3 0 0 rfl
  obtain ⟨b', o', e', _, hc'⟩ := h3 1 2 rfl
  cases e'
  have c0 := nt_cell hc
  have c1 := nt_cell hc'
  simp only [Nat.zero_mul, Nat.add_zero, Nat.one_mul] at c0 c1
  clear h3 hc hc' hb N0
  go_wp2_with fail
  refine (N1 _).mono ?_
  rintro e w2 ⟨rfl, hb2⟩
  go_wp2
  go_ret
  exact ⟨rfl, hB.trans (hb2.mono hB.size)⟩
end Go.Proofs.YtdilnfnakhhhaaaGreat
