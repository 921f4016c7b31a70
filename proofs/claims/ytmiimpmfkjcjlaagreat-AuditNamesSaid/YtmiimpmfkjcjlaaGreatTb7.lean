/- Kinds of objects: the reference's Size and Kinds; the known case. -/
import Derived.Test.YtmiimpmfkjcjlaaGreatTb4
import Derived.Test.YtmiimpmfkjcjlaaGreatTb6
namespace Go.Proofs.YtmiimpmfkjcjlaaGreat
open Go.RowKit

theorem spec_box {w X : World} {s : Sp} (h : Below (w.heap.size + 1) (w.alloc (.cells #[.int .i64 s.kind, .int .i64 s.p, .int .i64 s.q] 23)) X) :
    X.cell? ⟨w.heap.size, 0, none⟩ = some (.int .i64 s.kind) ∧ X.cell? ⟨w.heap.size, 1, none⟩ = some (.int .i64 s.p) ∧ X.cell? ⟨w.heap.size, 2, none⟩ = some (.int .i64 s.q) := by
  obtain ⟨a, b, c, _⟩ := cells3 ((h.block w.heap.size (by omega)).trans (heap_alloc_new _ _))
  exact ⟨a, b, c⟩

set_option maxRecDepth 100000 in
set_option maxHeartbeats 1000000 in
theorem refSize_any (n : Int) (s : Sp) (w : World) : Calls Tryz.prog 10 #[.int .i64 n, spV s] w fun e w' => e = .returned (.tuple #[.int .i64 (sizeV n s), .int .i64 (sizeE n s)]) ∧ Below w.heap.size w w' := by
  by_cases hn : 1 ≤ n ∧ n ≤ 16
  · have n0 : decide (n < 1) = false := by simp; omega
    have n1 : decide (16 < n) = false := by simp; omega
    by_cases hk : 0 ≤ s.kind ∧ s.kind ≤ 9
    · have k0 : decide (s.kind < 0) = false := by simp; omega
      have k1 : decide (9 < s.kind) = false := by simp; omega
      have N0 := fun W => psize_any n s hn.1 hn.2 hk.1 hk.2 W
      by_cases hr : rightT s.kind s.p s.q = true
      · have hE : sizeE n s = 0 := by unfold sizeE; rw [if_neg (by omega), if_neg (by omega), if_neg (by rw [hr]; decide)]
        have hV : sizeV n s = sizeT n s.kind s.p s.q := by unfold sizeV; rw [hE]; rfl
        have hT := size_bd hk.1 hk.2 hn.1 hn.2 hr
        rw [hE, hV]
        rw [if_pos hr] at N0
        generalize sizeT n s.kind s.p s.q = T at *
        have d0 : decide (T < 0) = false := by simp; omega
        clear hE hV hn hk hr
        go_enter Tryz.func10, Tryz.ntmps10
        go_wp2_with fail
        refine (N0 _).mono ?_
        rintro e w1 ⟨rfl, hb⟩
        go_wp2
        go_ret2
        exact ⟨rfl, ((Below.refl _ w).alloc (Nat.le_refl _) _).trans (hb.mono (by simp))⟩
      · have hr' : rightT s.kind s.p s.q = false := by simpa using hr
        have hE : sizeE n s = 10 := by unfold sizeE; rw [if_neg (by omega), if_neg (by omega), if_pos hr']
        have hV : sizeV n s = 0 := by unfold sizeV; rw [hE]; rfl
        rw [hE, hV]
        rw [if_neg hr] at N0
        clear hE hV hn hk hr hr'
        go_enter Tryz.func10, Tryz.ntmps10
        go_wp2_with fail
        refine (N0 _).mono ?_
        rintro e w1 ⟨rfl, hb⟩
        go_wp2
        go_ret2
        exact ⟨rfl, ((Below.refl _ w).alloc (Nat.le_refl _) _).trans (hb.mono (by simp))⟩
    · have hE : sizeE n s = 9 := by unfold sizeE; rw [if_neg (by omega), if_pos hk]
      have hV : sizeV n s = 0 := by unfold sizeV; rw [hE]; rfl
      rw [hE, hV]
      rcases (by omega : s.kind < 0 ∨ 0 ≤ s.kind ∧ 9 < s.kind) with h0 | ⟨h0, h1⟩
      · have k0 : decide (s.kind < 0) = true := by simp; omega
        clear hE hV hn hk
        go_enter Tryz.func10, Tryz.ntmps10
        go_wp2
        go_ret2
        exact ⟨rfl, by (repeat' (first | exact Below.refl _ _ | assumption | refine Below.drew ?_ | refine below_drewN ?_ _ | refine Below.alloc ?_ (by simp <;> omega) _ | refine Below.setCell ?_ (by simp <;> omega) _))⟩
      · have k0 : decide (s.kind < 0) = false := by simp; omega
        have k1 : decide (9 < s.kind) = true := by simp; omega
        clear hE hV hn hk
        go_enter Tryz.func10, Tryz.ntmps10
        go_wp2
        go_ret2
        exact ⟨rfl, by (repeat' (first | exact Below.refl _ _ | assumption | refine Below.drew ?_ | refine below_drewN ?_ _ | refine Below.alloc ?_ (by simp <;> omega) _ | refine Below.setCell ?_ (by simp <;> omega) _))⟩
  · have hE : sizeE n s = 1 := by unfold sizeE; rw [if_pos hn]
    have hV : sizeV n s = 0 := by unfold sizeV; rw [hE]; rfl
    rw [hE, hV]
    rcases (by omega : n < 1 ∨ 1 ≤ n ∧ 16 < n) with h0 | ⟨h0, h1⟩
    · have n0 : decide (n < 1) = true := by simp; omega
      clear hE hV hn
      go_enter Tryz.func10, Tryz.ntmps10
      go_wp2
      go_ret2
      exact ⟨rfl, by (repeat' (first | exact Below.refl _ _ | assumption | refine Below.drew ?_ | refine below_drewN ?_ _ | refine Below.alloc ?_ (by simp <;> omega) _ | refine Below.setCell ?_ (by simp <;> omega) _))⟩
    · have n0 : decide (n < 1) = false := by simp; omega
      have n1 : decide (16 < n) = true := by simp; omega
      clear hE hV hn
      go_enter Tryz.func10, Tryz.ntmps10
      go_wp2
      go_ret2
      exact ⟨rfl, by (repeat' (first | exact Below.refl _ _ | assumption | refine Below.drew ?_ | refine below_drewN ?_ _ | refine Below.alloc ?_ (by simp <;> omega) _ | refine Below.setCell ?_ (by simp <;> omega) _))⟩

end Go.Proofs.YtmiimpmfkjcjlaaGreat
