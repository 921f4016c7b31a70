import Derived.Test.YtlfingcmekifkaaGreatBun9
import Derived.Test.YtlfingcmekifkaaGreatBun12
import Derived.WalkMore
namespace Go.Proofs.YtlfingcmekifkaaGreat
open Go.RowKit
def dep (n : Nat) : Nat := if n ≤ 1 then 0 else if n ≤ 2 then 1 else if n ≤ 4 then 2 else if n ≤ 8 then 3 else 4
theorem dep_cases {n : Nat} (h : 1 ≤ n ∧ n ≤ 16) : (dep n = 0 ∧ n = 1) ∨ (dep n = 1 ∧ n = 2) ∨ (dep n = 2 ∧ 3 ≤ n ∧ n ≤ 4) ∨ (dep n = 3 ∧ 5 ≤ n ∧ n ≤ 8) ∨ (dep n = 4 ∧ 9 ≤ n) := by
  unfold dep
  by_cases h1 : n ≤ 1
  · rw [if_pos h1]; omega
  · rw [if_neg h1]
    by_cases h2 : n ≤ 2
    · rw [if_pos h2]; omega
    · rw [if_neg h2]
      by_cases h3 : n ≤ 4
      · rw [if_pos h3]; omega
      · rw [if_neg h3]
        by_cases h4 : n ≤ 8
        · rw [if_pos h4]; omega
        · rw [if_neg h4]; omega
def pw2 : Nat → Int
  | 0 => 1
  | 1 => 2
  | 2 => 4
  | 3 => 8
  | _ => 16
theorem pw2_is {d : Nat} (h : d ≤ 4) : pw2 d = ((2 ^ d : Nat) : Int) := by
  rcases (by omega : d = 0 ∨ d = 1 ∨ d = 2 ∨ d = 3 ∨ d = 4) with rfl | rfl | rfl | rfl | rfl <;> rfl
theorem dep_le (n : Nat) : dep n ≤ 4 := by
  unfold dep
  split
  · omega
  · split
    · omega
    · split
      · omega
      · split <;> omega
theorem pw2_bd (d : Nat) : 1 ≤ pw2 d ∧ pw2 d ≤ 16 := by
  unfold pw2
  split <;> decide
set_option maxRecDepth 100000 in
theorem leaves11W (n : Nat) (hn : 1 ≤ n ∧ n ≤ 16) (w : World) : Calls Tryz.prog 92 #[.int .i64 n] w fun e w' => e = .returned (.int .i64 (pw2 (dep n))) ∧ w' = w := by
  have hc := dep_cases hn
  have hd4 := dep_le n
  generalize dep n = D at hc hd4 ⊢
  rcases (by omega : D = 0 ∨ D = 1 ∨ D = 2 ∨ D = 3 ∨ D = 4) with rfl | rfl | rfl | rfl | rfl
  · simp only [pw2]
    have h1 : n ≤ 1 := by omega
    have h2 : n ≤ 2 := by omega
    have h4 : n ≤ 4 := by omega
    have h8 : n ≤ 8 := by omega
    have x1 : ¬ (1 : Int) < n := by omega
    have x2 : ¬ (2 : Int) < n := by omega
    have x4 : ¬ (4 : Int) < n := by omega
    have x8 : ¬ (8 : Int) < n := by omega
    have x16 : ¬ (16 : Int) < n := by omega
    clear hc
    go_enter Tryz.func92, Tryz.ntmps92
    go_wp2
    go_loopw [3, 4] (fun v i wr => ∃ k : Nat, k ≤ 5 ∧ i = .int .i64 k ∧ v = .int .i64 (pw2 (min k 0)) ∧ wr = w) (fun _ i _ => 5 - (intOf i).toNat)
    case atStart => exact ⟨0, Nat.zero_le _, rfl, rfl, rfl⟩
    case round =>
      obtain ⟨k, hk, rfl, rfl, hW⟩ := hrel
      subst hW
      rcases (by omega : k = 0 ∨ k = 1 ∨ k = 2 ∨ k = 3 ∨ k = 4 ∨ k = 5) with rfl | rfl | rfl | rfl | rfl | rfl
      · simp only [show pw2 (min 0 0) = 1 from rfl]
        go_wp2
        go_roundw
        case rel => exact ⟨1, by decide, by first | rfl | go_num, by first | rfl | (simp; rfl), by first | trivial | rfl⟩
        case measure => first | (simp [intOf]; done) | (simp [intOf]; omega)
      · simp only [show pw2 (min 1 0) = 1 from rfl]
        go_wp2
        go_roundw
        case rel => exact ⟨2, by decide, by first | rfl | go_num, by first | rfl | (simp; rfl), by first | trivial | rfl⟩
        case measure => first | (simp [intOf]; done) | (simp [intOf]; omega)
      · simp only [show pw2 (min 2 0) = 1 from rfl]
        go_wp2
        go_roundw
        case rel => exact ⟨3, by decide, by first | rfl | go_num, by first | rfl | (simp; rfl), by first | trivial | rfl⟩
        case measure => first | (simp [intOf]; done) | (simp [intOf]; omega)
      · simp only [show pw2 (min 3 0) = 1 from rfl]
        go_wp2
        go_roundw
        case rel => exact ⟨4, by decide, by first | rfl | go_num, by first | rfl | (simp; rfl), by first | trivial | rfl⟩
        case measure => first | (simp [intOf]; done) | (simp [intOf]; omega)
      · simp only [show pw2 (min 4 0) = 1 from rfl]
        go_wp2
        go_roundw
        case rel => exact ⟨5, by decide, by first | rfl | go_num, by first | rfl | (simp; rfl), by first | trivial | rfl⟩
        case measure => first | (simp [intOf]; done) | (simp [intOf]; omega)
      · simp only [show pw2 (min 5 0) = 1 from rfl]
        go_wp2
        go_ret
        exact ⟨rfl, rfl⟩
  · simp only [pw2]
    have h1 : ¬ n ≤ 1 := by omega
    have h2 : n ≤ 2 := by omega
    have h4 : n ≤ 4 := by omega
    have h8 : n ≤ 8 := by omega
    have x1 : (1 : Int) < n := by omega
    have x2 : ¬ (2 : Int) < n := by omega
    have x4 : ¬ (4 : Int) < n := by omega
    have x8 : ¬ (8 : Int) < n := by omega
    have x16 : ¬ (16 : Int) < n := by omega
    clear hc
    go_enter Tryz.func92, Tryz.ntmps92
    go_wp2
    go_loopw [3, 4] (fun v i wr => ∃ k : Nat, k ≤ 5 ∧ i = .int .i64 k ∧ v = .int .i64 (pw2 (min k 1)) ∧ wr = w) (fun _ i _ => 5 - (intOf i).toNat)
    case atStart => exact ⟨0, Nat.zero_le _, rfl, rfl, rfl⟩
    case round =>
      obtain ⟨k, hk, rfl, rfl, hW⟩ := hrel
      subst hW
      rcases (by omega : k = 0 ∨ k = 1 ∨ k = 2 ∨ k = 3 ∨ k = 4 ∨ k = 5) with rfl | rfl | rfl | rfl | rfl | rfl
      · simp only [show pw2 (min 0 1) = 1 from rfl]
        go_wp2
        go_roundw
        case rel => exact ⟨1, by decide, by first | rfl | go_num, by first | rfl | (simp; rfl), by first | trivial | rfl⟩
        case measure => first | (simp [intOf]; done) | (simp [intOf]; omega)
      · simp only [show pw2 (min 1 1) = 2 from rfl]
        go_wp2
        go_roundw
        case rel => exact ⟨2, by decide, by first | rfl | go_num, by first | rfl | (simp; rfl), by first | trivial | rfl⟩
        case measure => first | (simp [intOf]; done) | (simp [intOf]; omega)
      · simp only [show pw2 (min 2 1) = 2 from rfl]
        go_wp2
        go_roundw
        case rel => exact ⟨3, by decide, by first | rfl | go_num, by first | rfl | (simp; rfl), by first | trivial | rfl⟩
        case measure => first | (simp [intOf]; done) | (simp [intOf]; omega)
      · simp only [show pw2 (min 3 1) = 2 from rfl]
        go_wp2
        go_roundw
        case rel => exact ⟨4, by decide, by first | rfl | go_num, by first | rfl | (simp; rfl), by first | trivial | rfl⟩
        case measure => first | (simp [intOf]; done) | (simp [intOf]; omega)
      · simp only [show pw2 (min 4 1) = 2 from rfl]
        go_wp2
        go_roundw
        case rel => exact ⟨5, by decide, by first | rfl | go_num, by first | rfl | (simp; rfl), by first | trivial | rfl⟩
        case measure => first | (simp [intOf]; done) | (simp [intOf]; omega)
      · simp only [show pw2 (min 5 1) = 2 from rfl]
        go_wp2
        go_ret
        exact ⟨rfl, rfl⟩
  · simp only [pw2]
    have h1 : ¬ n ≤ 1 := by omega
    have h2 : ¬ n ≤ 2 := by omega
    have h4 : n ≤ 4 := by omega
    have h8 : n ≤ 8 := by omega
    have x1 : (1 : Int) < n := by omega
    have x2 : (2 : Int) < n := by omega
    have x4 : ¬ (4 : Int) < n := by omega
    have x8 : ¬ (8 : Int) < n := by omega
    have x16 : ¬ (16 : Int) < n := by omega
    clear hc
    go_enter Tryz.func92, Tryz.ntmps92
    go_wp2
    go_loopw [3, 4] (fun v i wr => ∃ k : Nat, k ≤ 5 ∧ i = .int .i64 k ∧ v = .int .i64 (pw2 (min k 2)) ∧ wr = w) (fun _ i _ => 5 - (intOf i).toNat)
    case atStart => exact ⟨0, Nat.zero_le _, rfl, rfl, rfl⟩
    case round =>
      obtain ⟨k, hk, rfl, rfl, hW⟩ := hrel
      subst hW
      rcases (by omega : k = 0 ∨ k = 1 ∨ k = 2 ∨ k = 3 ∨ k = 4 ∨ k = 5) with rfl | rfl | rfl | rfl | rfl | rfl
      · simp only [show pw2 (min 0 2) = 1 from rfl]
        go_wp2
        go_roundw
        case rel => exact ⟨1, by decide, by first | rfl | go_num, by first | rfl | (simp; rfl), by first | trivial | rfl⟩
        case measure => first | (simp [intOf]; done) | (simp [intOf]; omega)
      · simp only [show pw2 (min 1 2) = 2 from rfl]
        go_wp2
        go_roundw
        case rel => exact ⟨2, by decide, by first | rfl | go_num, by first | rfl | (simp; rfl), by first | trivial | rfl⟩
        case measure => first | (simp [intOf]; done) | (simp [intOf]; omega)
      · simp only [show pw2 (min 2 2) = 4 from rfl]
        go_wp2
        go_roundw
        case rel => exact ⟨3, by decide, by first | rfl | go_num, by first | rfl | (simp; rfl), by first | trivial | rfl⟩
        case measure => first | (simp [intOf]; done) | (simp [intOf]; omega)
      · simp only [show pw2 (min 3 2) = 4 from rfl]
        go_wp2
        go_roundw
        case rel => exact ⟨4, by decide, by first | rfl | go_num, by first | rfl | (simp; rfl), by first | trivial | rfl⟩
        case measure => first | (simp [intOf]; done) | (simp [intOf]; omega)
      · simp only [show pw2 (min 4 2) = 4 from rfl]
        go_wp2
        go_roundw
        case rel => exact ⟨5, by decide, by first | rfl | go_num, by first | rfl | (simp; rfl), by first | trivial | rfl⟩
        case measure => first | (simp [intOf]; done) | (simp [intOf]; omega)
      · simp only [show pw2 (min 5 2) = 4 from rfl]
        go_wp2
        go_ret
        exact ⟨rfl, rfl⟩
  · simp only [pw2]
    have h1 : ¬ n ≤ 1 := by omega
    have h2 : ¬ n ≤ 2 := by omega
    have h4 : ¬ n ≤ 4 := by omega
    have h8 : n ≤ 8 := by omega
    have x1 : (1 : Int) < n := by omega
    have x2 : (2 : Int) < n := by omega
    have x4 : (4 : Int) < n := by omega
    have x8 : ¬ (8 : Int) < n := by omega
    have x16 : ¬ (16 : Int) < n := by omega
    clear hc
    go_enter Tryz.func92, Tryz.ntmps92
    go_wp2
    go_loopw [3, 4] (fun v i wr => ∃ k : Nat, k ≤ 5 ∧ i = .int .i64 k ∧ v = .int .i64 (pw2 (min k 3)) ∧ wr = w) (fun _ i _ => 5 - (intOf i).toNat)
    case atStart => exact ⟨0, Nat.zero_le _, rfl, rfl, rfl⟩
    case round =>
      obtain ⟨k, hk, rfl, rfl, hW⟩ := hrel
      subst hW
      rcases (by omega : k = 0 ∨ k = 1 ∨ k = 2 ∨ k = 3 ∨ k = 4 ∨ k = 5) with rfl | rfl | rfl | rfl | rfl | rfl
      · simp only [show pw2 (min 0 3) = 1 from rfl]
        go_wp2
        go_roundw
        case rel => exact ⟨1, by decide, by first | rfl | go_num, by first | rfl | (simp; rfl), by first | trivial | rfl⟩
        case measure => first | (simp [intOf]; done) | (simp [intOf]; omega)
      · simp only [show pw2 (min 1 3) = 2 from rfl]
        go_wp2
        go_roundw
        case rel => exact ⟨2, by decide, by first | rfl | go_num, by first | rfl | (simp; rfl), by first | trivial | rfl⟩
        case measure => first | (simp [intOf]; done) | (simp [intOf]; omega)
      · simp only [show pw2 (min 2 3) = 4 from rfl]
        go_wp2
        go_roundw
        case rel => exact ⟨3, by decide, by first | rfl | go_num, by first | rfl | (simp; rfl), by first | trivial | rfl⟩
        case measure => first | (simp [intOf]; done) | (simp [intOf]; omega)
      · simp only [show pw2 (min 3 3) = 8 from rfl]
        go_wp2
        go_roundw
        case rel => exact ⟨4, by decide, by first | rfl | go_num, by first | rfl | (simp; rfl), by first | trivial | rfl⟩
        case measure => first | (simp [intOf]; done) | (simp [intOf]; omega)
      · simp only [show pw2 (min 4 3) = 8 from rfl]
        go_wp2
        go_roundw
        case rel => exact ⟨5, by decide, by first | rfl | go_num, by first | rfl | (simp; rfl), by first | trivial | rfl⟩
        case measure => first | (simp [intOf]; done) | (simp [intOf]; omega)
      · simp only [show pw2 (min 5 3) = 8 from rfl]
        go_wp2
        go_ret
        exact ⟨rfl, rfl⟩
  · simp only [pw2]
    have h1 : ¬ n ≤ 1 := by omega
    have h2 : ¬ n ≤ 2 := by omega
    have h4 : ¬ n ≤ 4 := by omega
    have h8 : ¬ n ≤ 8 := by omega
    have x1 : (1 : Int) < n := by omega
    have x2 : (2 : Int) < n := by omega
    have x4 : (4 : Int) < n := by omega
    have x8 : (8 : Int) < n := by omega
    have x16 : ¬ (16 : Int) < n := by omega
    clear hc
    go_enter Tryz.func92, Tryz.ntmps92
    go_wp2
    go_loopw [3, 4] (fun v i wr => ∃ k : Nat, k ≤ 5 ∧ i = .int .i64 k ∧ v = .int .i64 (pw2 (min k 4)) ∧ wr = w) (fun _ i _ => 5 - (intOf i).toNat)
    case atStart => exact ⟨0, Nat.zero_le _, rfl, rfl, rfl⟩
    case round =>
      obtain ⟨k, hk, rfl, rfl, hW⟩ := hrel
      subst hW
      rcases (by omega : k = 0 ∨ k = 1 ∨ k = 2 ∨ k = 3 ∨ k = 4 ∨ k = 5) with rfl | rfl | rfl | rfl | rfl | rfl
      · simp only [show pw2 (min 0 4) = 1 from rfl]
        go_wp2
        go_roundw
        case rel => exact ⟨1, by decide, by first | rfl | go_num, by first | rfl | (simp; rfl), by first | trivial | rfl⟩
        case measure => first | (simp [intOf]; done) | (simp [intOf]; omega)
      · simp only [show pw2 (min 1 4) = 2 from rfl]
        go_wp2
        go_roundw
        case rel => exact ⟨2, by decide, by first | rfl | go_num, by first | rfl | (simp; rfl), by first | trivial | rfl⟩
        case measure => first | (simp [intOf]; done) | (simp [intOf]; omega)
      · simp only [show pw2 (min 2 4) = 4 from rfl]
        go_wp2
        go_roundw
        case rel => exact ⟨3, by decide, by first | rfl | go_num, by first | rfl | (simp; rfl), by first | trivial | rfl⟩
        case measure => first | (simp [intOf]; done) | (simp [intOf]; omega)
      · simp only [show pw2 (min 3 4) = 8 from rfl]
        go_wp2
        go_roundw
        case rel => exact ⟨4, by decide, by first | rfl | go_num, by first | rfl | (simp; rfl), by first | trivial | rfl⟩
        case measure => first | (simp [intOf]; done) | (simp [intOf]; omega)
      · simp only [show pw2 (min 4 4) = 16 from rfl]
        go_wp2
        go_roundw
        case rel => exact ⟨5, by decide, by first | rfl | go_num, by first | rfl | (simp; rfl), by first | trivial | rfl⟩
        case measure => first | (simp [intOf]; done) | (simp [intOf]; omega)
      · simp only [show pw2 (min 5 4) = 16 from rfl]
        go_wp2
        go_ret
        exact ⟨rfl, rfl⟩
end Go.Proofs.YtlfingcmekifkaaGreat
