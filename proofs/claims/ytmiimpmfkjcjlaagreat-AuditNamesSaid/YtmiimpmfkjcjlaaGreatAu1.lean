/- Audit's names. -/
import Derived.Test.YtmiimpmfkjcjlaaGreatCmp
namespace Go.Proofs.YtmiimpmfkjcjlaaGreat
open Go.RowKit

def nameM (k : Int) : Array UInt8 :=
  if k = 1 then #[116, 97, 98, 108, 101] else if k = 2 then #[104, 105, 115, 116, 111, 114, 121] else if k = 3 then #[98, 111, 117, 110, 100] else if k = 4 then #[107, 101, 121] else if k = 5 then #[97, 104, 101, 97, 100]
  else if k = 6 then #[97, 110, 115, 119, 101, 114] else if k = 7 then #[115, 116, 101, 112, 115] else if k = 8 then #[97, 99, 99, 101, 115, 115, 101, 115] else #[]
set_option maxRecDepth 100000 in
set_option maxHeartbeats 2000000 in
theorem name_any (k : Int) (w : World) : Calls Tryz.prog 34 #[.int .i64 k] w fun e w' => e = .returned (.string ⟨nameM k⟩) ∧ Below w.heap.size w w' := by
  by_cases h : 0 ≤ k ∧ k < 9
  · rcases (by omega : k = 0 ∨ k = 1 ∨ k = 2 ∨ k = 3 ∨ k = 4 ∨ k = 5 ∨ k = 6 ∨ k = 7 ∨ k = 8) with rfl | rfl | rfl | rfl | rfl | rfl | rfl | rfl | rfl
    all_goals
      clear h
      go_enter Tryz.func34, Tryz.ntmps34
      go_wp2
      go_ret
      exact ⟨rfl, (Below.refl _ w).alloc (Nat.le_refl _) _⟩
  · have hM : nameM k = #[] := by unfold nameM; rw [if_neg (by omega), if_neg (by omega), if_neg (by omega), if_neg (by omega), if_neg (by omega), if_neg (by omega), if_neg (by omega), if_neg (by omega)]
    rw [hM]
    clear hM
    rcases (by omega : k < 0 ∨ (0 ≤ k ∧ 9 ≤ k)) with hk | ⟨hk, hk'⟩
    · have d0 : decide (k < 0) = true := by simpa using hk
      clear h hk
      go_enter Tryz.func34, Tryz.ntmps34
      go_wp2
      go_ret
      exact ⟨rfl, (Below.refl _ w).alloc (Nat.le_refl _) _⟩
    · have d0 : decide (k < 0) = false := by simpa using hk
      have d1 : decide (9 ≤ k) = true := by simpa using hk'
      clear h hk hk'
      go_enter Tryz.func34, Tryz.ntmps34
      go_wp2
      go_ret
      exact ⟨rfl, (Below.refl _ w).alloc (Nat.le_refl _) _⟩
theorem name_no (k : Int) : nameM k = #[] ↔ ¬ (1 ≤ k ∧ k ≤ 8) := by
  by_cases h : 1 ≤ k ∧ k ≤ 8
  · rcases (by omega : k = 1 ∨ k = 2 ∨ k = 3 ∨ k = 4 ∨ k = 5 ∨ k = 6 ∨ k = 7 ∨ k = 8) with rfl | rfl | rfl | rfl | rfl | rfl | rfl | rfl <;> decide
  · have hM : nameM k = #[] := by unfold nameM; rw [if_neg (by omega), if_neg (by omega), if_neg (by omega), if_neg (by omega), if_neg (by omega), if_neg (by omega), if_neg (by omega), if_neg (by omega)]
    exact ⟨fun _ => h, fun _ => hM⟩
theorem name_one (k l : Int) (h : nameM k = nameM l) : k = l ∨ nameM k = #[] := by
  by_cases hk : 1 ≤ k ∧ k ≤ 8
  · by_cases hl : 1 ≤ l ∧ l ≤ 8
    · left
      rcases (by omega : k = 1 ∨ k = 2 ∨ k = 3 ∨ k = 4 ∨ k = 5 ∨ k = 6 ∨ k = 7 ∨ k = 8) with rfl | rfl | rfl | rfl | rfl | rfl | rfl | rfl <;>
      rcases (by omega : l = 1 ∨ l = 2 ∨ l = 3 ∨ l = 4 ∨ l = 5 ∨ l = 6 ∨ l = 7 ∨ l = 8) with rfl | rfl | rfl | rfl | rfl | rfl | rfl | rfl <;> first | rfl | (revert h; decide)
    · exact Or.inr (h.trans ((name_no l).2 hl))
  · exact Or.inr ((name_no k).2 hk)
end Go.Proofs.YtmiimpmfkjcjlaaGreat
