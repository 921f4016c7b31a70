/- An election (law 42): the reference's leaves; ElectOne walked. -/
import Derived.Test.YtlfingcmekifkaaBun4
namespace Go.Proofs.Ytlfingcmekifkaa
open Go.RowKit

set_option maxRecDepth 100000 in
theorem leaves11W (n : Nat) (hn : 1 ≤ n ∧ n ≤ 16) (w : World) : Calls Try.prog 26 #[.int .i64 n] w fun e w' => e = .returned (.int .i64 (pw2 (dep n))) ∧ w' = w := by
  have hc := dep_cases hn
  have hd4 := dep_le n
  generalize dep n = D at hc hd4 ⊢
  rcases (by omega : D = 0 ∨ D = 1 ∨ D = 2 ∨ D = 3 ∨ D = 4) with rfl | rfl | rfl | rfl | rfl
  · simp only [pw2]
    have h1 : n ≤ 1 := by omega
    have h2 : n ≤ 2 := by omega
    have h4 : n ≤ 4 := by omega
    have h8 : n ≤ 8 := by omega
    have x1 : ¬ (1 : Int) < n := by omega
    have x2 : ¬ (2 : Int) < n := by omega
    have x4 : ¬ (4 : Int) < n := by omega
    have x8 : ¬ (8 : Int) < n := by omega
    have x16 : ¬ (16 : Int) < n := by omega
    clear hc
    go_enter Try.func26, Try.ntmps26
    go_wp2
    go_loopw [3, 4] (fun v i wr => ∃ k : Nat, k ≤ 5 ∧ i = .int .i64 k ∧ v = .int .i64 (pw2 (min k 0)) ∧ wr = w) (fun _ i _ => 5 - (intOf i).toNat)
    case atStart => exact ⟨0, Nat.zero_le _, rfl, rfl, rfl⟩
    case round =>
      obtain ⟨k, hk, rfl, rfl, hW⟩ := hrel
      subst hW
      rcases (by omega : k = 0 ∨ k = 1 ∨ k = 2 ∨ k = 3 ∨ k = 4 ∨ k = 5) with rfl | rfl | rfl | rfl | rfl | rfl
      · simp only [show pw2 (min 0 0) = 1 from rfl]
        go_wp2
        go_roundw
        case rel => exact ⟨1, by decide, by first | rfl | go_num, by first | rfl | (simp; rfl), by first | trivial | rfl⟩
        case measure => first | (simp [intOf]; done) | (simp [intOf]; omega)
      · simp only [show pw2 (min 1 0) = 1 from rfl]
        go_wp2
        go_roundw
        case rel => exact ⟨2, by decide, by first | rfl | go_num, by first | rfl | (simp; rfl), by first | trivial | rfl⟩
        case measure => first | (simp [intOf]; done) | (simp [intOf]; omega)
      · simp only [show pw2 (min 2 0) = 1 from rfl]
        go_wp2
        go_roundw
        case rel => exact ⟨3, by decide, by first | rfl | go_num, by first | rfl | (simp; rfl), by first | trivial | rfl⟩
        case measure => first | (simp [intOf]; done) | (simp [intOf]; omega)
      · simp only [show pw2 (min 3 0) = 1 from rfl]
        go_wp2
        go_roundw
        case rel => exact ⟨4, by decide, by first | rfl | go_num, by first | rfl | (simp; rfl), by first | trivial | rfl⟩
        case measure => first | (simp [intOf]; done) | (simp [intOf]; omega)
      · simp only [show pw2 (min 4 0) = 1 from rfl]
        go_wp2
        go_roundw
        case rel => exact ⟨5, by decide, by first | rfl | go_num, by first | rfl | (simp; rfl), by first | trivial | rfl⟩
        case measure => first | (simp [intOf]; done) | (simp [intOf]; omega)
      · simp only [show pw2 (min 5 0) = 1 from rfl]
        go_wp2
        go_ret
        exact ⟨rfl, rfl⟩
  · simp only [pw2]
    have h1 : ¬ n ≤ 1 := by omega
    have h2 : n ≤ 2 := by omega
    have h4 : n ≤ 4 := by omega
    have h8 : n ≤ 8 := by omega
    have x1 : (1 : Int) < n := by omega
    have x2 : ¬ (2 : Int) < n := by omega
    have x4 : ¬ (4 : Int) < n := by omega
    have x8 : ¬ (8 : Int) < n := by omega
    have x16 : ¬ (16 : Int) < n := by omega
    clear hc
    go_enter Try.func26, Try.ntmps26
    go_wp2
    go_loopw [3, 4] (fun v i wr => ∃ k : Nat, k ≤ 5 ∧ i = .int .i64 k ∧ v = .int .i64 (pw2 (min k 1)) ∧ wr = w) (fun _ i _ => 5 - (intOf i).toNat)
    case atStart => exact ⟨0, Nat.zero_le _, rfl, rfl, rfl⟩
    case round =>
      obtain ⟨k, hk, rfl, rfl, hW⟩ := hrel
      subst hW
      rcases (by omega : k = 0 ∨ k = 1 ∨ k = 2 ∨ k = 3 ∨ k = 4 ∨ k = 5) with rfl | rfl | rfl | rfl | rfl | rfl
      · simp only [show pw2 (min 0 1) = 1 from rfl]
        go_wp2
        go_roundw
        case rel => exact ⟨1, by decide, by first | rfl | go_num, by first | rfl | (simp; rfl), by first | trivial | rfl⟩
        case measure => first | (simp [intOf]; done) | (simp [intOf]; omega)
      · simp only [show pw2 (min 1 1) = 2 from rfl]
        go_wp2
        go_roundw
        case rel => exact ⟨2, by decide, by first | rfl | go_num, by first | rfl | (simp; rfl), by first | trivial | rfl⟩
        case measure => first | (simp [intOf]; done) | (simp [intOf]; omega)
      · simp only [show pw2 (min 2 1) = 2 from rfl]
        go_wp2
        go_roundw
        case rel => exact ⟨3, by decide, by first | rfl | go_num, by first | rfl | (simp; rfl), by first | trivial | rfl⟩
        case measure => first | (simp [intOf]; done) | (simp [intOf]; omega)
      · simp only [show pw2 (min 3 1) = 2 from rfl]
        go_wp2
        go_roundw
        case rel => exact ⟨4, by decide, by first | rfl | go_num, by first | rfl | (simp; rfl), by first | trivial | rfl⟩
        case measure => first | (simp [intOf]; done) | (simp [intOf]; omega)
      · simp only [show pw2 (min 4 1) = 2 from rfl]
        go_wp2
        go_roundw
        case rel => exact ⟨5, by decide, by first | rfl | go_num, by first | rfl | (simp; rfl), by first | trivial | rfl⟩
        case measure => first | (simp [intOf]; done) | (simp [intOf]; omega)
      · simp only [show pw2 (min 5 1) = 2 from rfl]
        go_wp2
        go_ret
        exact ⟨rfl, rfl⟩
  · simp only [pw2]
    have h1 : ¬ n ≤ 1 := by omega
    have h2 : ¬ n ≤ 2 := by omega
    have h4 : n ≤ 4 := by omega
    have h8 : n ≤ 8 := by omega
    have x1 : (1 : Int) < n := by omega
    have x2 : (2 : Int) < n := by omega
    have x4 : ¬ (4 : Int) < n := by omega
    have x8 : ¬ (8 : Int) < n := by omega
    have x16 : ¬ (16 : Int) < n := by omega
    clear hc
    go_enter Try.func26, Try.ntmps26
    go_wp2
    go_loopw [3, 4] (fun v i wr => ∃ k : Nat, k ≤ 5 ∧ i = .int .i64 k ∧ v = .int .i64 (pw2 (min k 2)) ∧ wr = w) (fun _ i _ => 5 - (intOf i).toNat)
    case atStart => exact ⟨0, Nat.zero_le _, rfl, rfl, rfl⟩
    case round =>
      obtain ⟨k, hk, rfl, rfl, hW⟩ := hrel
      subst hW
      rcases (by omega : k = 0 ∨ k = 1 ∨ k = 2 ∨ k = 3 ∨ k = 4 ∨ k = 5) with rfl | rfl | rfl | rfl | rfl | rfl
      · simp only [show pw2 (min 0 2) = 1 from rfl]
        go_wp2
        go_roundw
        case rel => exact ⟨1, by decide, by first | rfl | go_num, by first | rfl | (simp; rfl), by first | trivial | rfl⟩
        case measure => first | (simp [intOf]; done) | (simp [intOf]; omega)
      · simp only [show pw2 (min 1 2) = 2 from rfl]
        go_wp2
        go_roundw
        case rel => exact ⟨2, by decide, by first | rfl | go_num, by first | rfl | (simp; rfl), by first | trivial | rfl⟩
        case measure => first | (simp [intOf]; done) | (simp [intOf]; omega)
      · simp only [show pw2 (min 2 2) = 4 from rfl]
        go_wp2
        go_roundw
        case rel => exact ⟨3, by decide, by first | rfl | go_num, by first | rfl | (simp; rfl), by first | trivial | rfl⟩
        case measure => first | (simp [intOf]; done) | (simp [intOf]; omega)
      · simp only [show pw2 (min 3 2) = 4 from rfl]
        go_wp2
        go_roundw
        case rel => exact ⟨4, by decide, by first | rfl | go_num, by first | rfl | (simp; rfl), by first | trivial | rfl⟩
        case measure => first | (simp [intOf]; done) | (simp [intOf]; omega)
      · simp only [show pw2 (min 4 2) = 4 from rfl]
        go_wp2
        go_roundw
        case rel => exact ⟨5, by decide, by first | rfl | go_num, by first | rfl | (simp; rfl), by first | trivial | rfl⟩
        case measure => first | (simp [intOf]; done) | (simp [intOf]; omega)
      · simp only [show pw2 (min 5 2) = 4 from rfl]
        go_wp2
        go_ret
        exact ⟨rfl, rfl⟩
  · simp only [pw2]
    have h1 : ¬ n ≤ 1 := by omega
    have h2 : ¬ n ≤ 2 := by omega
    have h4 : ¬ n ≤ 4 := by omega
    have h8 : n ≤ 8 := by omega
    have x1 : (1 : Int) < n := by omega
    have x2 : (2 : Int) < n := by omega
    have x4 : (4 : Int) < n := by omega
    have x8 : ¬ (8 : Int) < n := by omega
    have x16 : ¬ (16 : Int) < n := by omega
    clear hc
    go_enter Try.func26, Try.ntmps26
    go_wp2
    go_loopw [3, 4] (fun v i wr => ∃ k : Nat, k ≤ 5 ∧ i = .int .i64 k ∧ v = .int .i64 (pw2 (min k 3)) ∧ wr = w) (fun _ i _ => 5 - (intOf i).toNat)
    case atStart => exact ⟨0, Nat.zero_le _, rfl, rfl, rfl⟩
    case round =>
      obtain ⟨k, hk, rfl, rfl, hW⟩ := hrel
      subst hW
      rcases (by omega : k = 0 ∨ k = 1 ∨ k = 2 ∨ k = 3 ∨ k = 4 ∨ k = 5) with rfl | rfl | rfl | rfl | rfl | rfl
      · simp only [show pw2 (min 0 3) = 1 from rfl]
        go_wp2
        go_roundw
        case rel => exact ⟨1, by decide, by first | rfl | go_num, by first | rfl | (simp; rfl), by first | trivial | rfl⟩
        case measure => first | (simp [intOf]; done) | (simp [intOf]; omega)
      · simp only [show pw2 (min 1 3) = 2 from rfl]
        go_wp2
        go_roundw
        case rel => exact ⟨2, by decide, by first | rfl | go_num, by first | rfl | (simp; rfl), by first | trivial | rfl⟩
        case measure => first | (simp [intOf]; done) | (simp [intOf]; omega)
      · simp only [show pw2 (min 2 3) = 4 from rfl]
        go_wp2
        go_roundw
        case rel => exact ⟨3, by decide, by first | rfl | go_num, by first | rfl | (simp; rfl), by first | trivial | rfl⟩
        case measure => first | (simp [intOf]; done) | (simp [intOf]; omega)
      · simp only [show pw2 (min 3 3) = 8 from rfl]
        go_wp2
        go_roundw
        case rel => exact ⟨4, by decide, by first | rfl | go_num, by first | rfl | (simp; rfl), by first | trivial | rfl⟩
        case measure => first | (simp [intOf]; done) | (simp [intOf]; omega)
      · simp only [show pw2 (min 4 3) = 8 from rfl]
        go_wp2
        go_roundw
        case rel => exact ⟨5, by decide, by first | rfl | go_num, by first | rfl | (simp; rfl), by first | trivial | rfl⟩
        case measure => first | (simp [intOf]; done) | (simp [intOf]; omega)
      · simp only [show pw2 (min 5 3) = 8 from rfl]
        go_wp2
        go_ret
        exact ⟨rfl, rfl⟩
  · simp only [pw2]
    have h1 : ¬ n ≤ 1 := by omega
    have h2 : ¬ n ≤ 2 := by omega
    have h4 : ¬ n ≤ 4 := by omega
    have h8 : ¬ n ≤ 8 := by omega
    have x1 : (1 : Int) < n := by omega
    have x2 : (2 : Int) < n := by omega
    have x4 : (4 : Int) < n := by omega
    have x8 : (8 : Int) < n := by omega
    have x16 : ¬ (16 : Int) < n := by omega
    clear hc
    go_enter Try.func26, Try.ntmps26
    go_wp2
    go_loopw [3, 4] (fun v i wr => ∃ k : Nat, k ≤ 5 ∧ i = .int .i64 k ∧ v = .int .i64 (pw2 (min k 4)) ∧ wr = w) (fun _ i _ => 5 - (intOf i).toNat)
    case atStart => exact ⟨0, Nat.zero_le _, rfl, rfl, rfl⟩
    case round =>
      obtain ⟨k, hk, rfl, rfl, hW⟩ := hrel
      subst hW
      rcases (by omega : k = 0 ∨ k = 1 ∨ k = 2 ∨ k = 3 ∨ k = 4 ∨ k = 5) with rfl | rfl | rfl | rfl | rfl | rfl
      · simp only [show pw2 (min 0 4) = 1 from rfl]
        go_wp2
        go_roundw
        case rel => exact ⟨1, by decide, by first | rfl | go_num, by first | rfl | (simp; rfl), by first | trivial | rfl⟩
        case measure => first | (simp [intOf]; done) | (simp [intOf]; omega)
      · simp only [show pw2 (min 1 4) = 2 from rfl]
        go_wp2
        go_roundw
        case rel => exact ⟨2, by decide, by first | rfl | go_num, by first | rfl | (simp; rfl), by first | trivial | rfl⟩
        case measure => first | (simp [intOf]; done) | (simp [intOf]; omega)
      · simp only [show pw2 (min 2 4) = 4 from rfl]
        go_wp2
        go_roundw
        case rel => exact ⟨3, by decide, by first | rfl | go_num, by first | rfl | (simp; rfl), by first | trivial | rfl⟩
        case measure => first | (simp [intOf]; done) | (simp [intOf]; omega)
      · simp only [show pw2 (min 3 4) = 8 from rfl]
        go_wp2
        go_roundw
        case rel => exact ⟨4, by decide, by first | rfl | go_num, by first | rfl | (simp; rfl), by first | trivial | rfl⟩
        case measure => first | (simp [intOf]; done) | (simp [intOf]; omega)
      · simp only [show pw2 (min 4 4) = 16 from rfl]
        go_wp2
        go_roundw
        case rel => exact ⟨5, by decide, by first | rfl | go_num, by first | rfl | (simp; rfl), by first | trivial | rfl⟩
        case measure => first | (simp [intOf]; done) | (simp [intOf]; omega)
      · simp only [show pw2 (min 5 4) = 16 from rfl]
        go_wp2
        go_ret
        exact ⟨rfl, rfl⟩
end Go.Proofs.Ytlfingcmekifkaa
