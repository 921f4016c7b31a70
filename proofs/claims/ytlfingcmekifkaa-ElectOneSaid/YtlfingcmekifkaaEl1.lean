/- An election (package elect): leaves, Size, New. -/
import Derived.Test.YtlfingcmekifkaaOj1
import Derived.Test.YtlfingcmekifkaaLe2
import Derived.WalkMore
namespace Go.Proofs.Ytlfingcmekifkaa
open Go.RowKit

/-- How many doublings there are up to so many threads. -/
def dep (n : Nat) : Nat := if n ≤ 1 then 0 else if n ≤ 2 then 1 else if n ≤ 4 then 2 else if n ≤ 8 then 3 else 4
theorem dep_cases {n : Nat} (h : 1 ≤ n ∧ n ≤ 16) : (dep n = 0 ∧ n = 1) ∨ (dep n = 1 ∧ n = 2) ∨ (dep n = 2 ∧ 3 ≤ n ∧ n ≤ 4) ∨ (dep n = 3 ∧ 5 ≤ n ∧ n ≤ 8) ∨ (dep n = 4 ∧ 9 ≤ n) := by
  unfold dep
  by_cases h1 : n ≤ 1
  · rw [if_pos h1]; omega
  · rw [if_neg h1]
    by_cases h2 : n ≤ 2
    · rw [if_pos h2]; omega
    · rw [if_neg h2]
      by_cases h3 : n ≤ 4
      · rw [if_pos h3]; omega
      · rw [if_neg h3]
        by_cases h4 : n ≤ 8
        · rw [if_pos h4]; omega
        · rw [if_neg h4]; omega
def pw2 : Nat → Int
  | 0 => 1
  | 1 => 2
  | 2 => 4
  | 3 => 8
  | _ => 16
theorem pw2_is {d : Nat} (h : d ≤ 4) : pw2 d = ((2 ^ d : Nat) : Int) := by
  rcases (by omega : d = 0 ∨ d = 1 ∨ d = 2 ∨ d = 3 ∨ d = 4) with rfl | rfl | rfl | rfl | rfl <;> rfl
theorem dep_le (n : Nat) : dep n ≤ 4 := by
  unfold dep
  split
  · omega
  · split
    · omega
    · split
      · omega
      · split <;> omega
set_option maxRecDepth 100000 in
theorem elLeaves (n : Nat) (hn : 1 ≤ n ∧ n ≤ 16) (w : World) : Calls Try.prog 45 #[.int .i64 n] w fun e w' => e = .returned (.int .i64 (pw2 (dep n))) ∧ w' = w := by
  have hc := dep_cases hn
  have hd4 := dep_le n
  generalize dep n = D at hc hd4 ⊢
  go_enter Try.func45, Try.ntmps45
  go_wp2
  go_step3
  go_wp2
  go_step3
  go_wp2
  go_loopw [3] (fun i wr => ∃ d : Nat, d ≤ D ∧ i = .int .i64 (pw2 d) ∧ wr = w) (fun i _ => 32 - (intOf i).toNat)
  case atStart => exact ⟨0, Nat.zero_le _, rfl, rfl⟩
  case round =>
    obtain ⟨d, hd, rfl, hW⟩ := hrel
    subst hW
    rcases (by omega : d = 0 ∨ d = 1 ∨ d = 2 ∨ d = 3 ∨ d = 4) with rfl | rfl | rfl | rfl | rfl
    all_goals simp only [pw2]
    · by_cases hlt : 0 < D
      · have hx : ¬ (n : Int) ≤ 1 := by omega
        clear hc
        go_wp2
        go_roundw
        case rel => exact ⟨1, by omega, by first | rfl | go_num, by first | trivial | rfl⟩
        case measure => first | (simp [intOf]; done) | (simp [intOf]; omega)
      · obtain rfl : D = 0 := by omega
        have hx : (n : Int) ≤ 1 := by omega
        clear hc
        go_wp2
        first | (rw [Exit.noGoto_ret]; go_ret) | go_ret
        exact ⟨by first | rfl | simp [pw2], rfl⟩
    · by_cases hlt : 1 < D
      · have hx : ¬ (n : Int) ≤ 2 := by omega
        clear hc
        go_wp2
        go_roundw
        case rel => exact ⟨2, by omega, by first | rfl | go_num, by first | trivial | rfl⟩
        case measure => first | (simp [intOf]; done) | (simp [intOf]; omega)
      · obtain rfl : D = 1 := by omega
        have hx : (n : Int) ≤ 2 := by omega
        clear hc
        go_wp2
        first | (rw [Exit.noGoto_ret]; go_ret) | go_ret
        exact ⟨by first | rfl | simp [pw2], rfl⟩
    · by_cases hlt : 2 < D
      · have hx : ¬ (n : Int) ≤ 4 := by omega
        clear hc
        go_wp2
        go_roundw
        case rel => exact ⟨3, by omega, by first | rfl | go_num, by first | trivial | rfl⟩
        case measure => first | (simp [intOf]; done) | (simp [intOf]; omega)
      · obtain rfl : D = 2 := by omega
        have hx : (n : Int) ≤ 4 := by omega
        clear hc
        go_wp2
        first | (rw [Exit.noGoto_ret]; go_ret) | go_ret
        exact ⟨by first | rfl | simp [pw2], rfl⟩
    · by_cases hlt : 3 < D
      · have hx : ¬ (n : Int) ≤ 8 := by omega
        clear hc
        go_wp2
        go_roundw
        case rel => exact ⟨4, by omega, by first | rfl | go_num, by first | trivial | rfl⟩
        case measure => first | (simp [intOf]; done) | (simp [intOf]; omega)
      · obtain rfl : D = 3 := by omega
        have hx : (n : Int) ≤ 8 := by omega
        clear hc
        go_wp2
        first | (rw [Exit.noGoto_ret]; go_ret) | go_ret
        exact ⟨by first | rfl | simp [pw2], rfl⟩
    · obtain rfl : D = 4 := by omega
      have hx : (n : Int) ≤ 16 := by omega
      clear hc
      go_wp2
      first | (rw [Exit.noGoto_ret]; go_ret) | go_ret
      exact ⟨by first | rfl | simp [pw2], rfl⟩
end Go.Proofs.Ytlfingcmekifkaa
