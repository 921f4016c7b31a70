/- Kinds of objects as plain data: how many operations, whether they may be made so, how many words they have. -/
import Derived.Test.YtmiimpmfkjcjlaaGreatSq2
import Derived.Test.YtmiimpmfkjcjlaaGreatSp0
namespace Go.Proofs.YtmiimpmfkjcjlaaGreat
open Go.RowKit

def actsT (k p : Int) : Int := if k = 0 then 4 else if k = 3 then 3 else if k = 7 then kindsI p else if 0 ≤ k ∧ k ≤ 9 then 2 else 0
def rightT (k p q : Int) : Bool :=
  if k = 0 ∨ k = 5 then decide (1 ≤ p) && decide (p ≤ 64) else if k = 4 then decide (1 ≤ p) && decide (p ≤ 12) else
  if k = 6 then decide (1 ≤ p) && (decide (p ≤ 16) && (decide (1 ≤ q) && decide (q ≤ 64))) else if k = 7 then decide (0 < kindsI p) && (decide (1 ≤ q) && decide (q ≤ 256)) else
  if k = 8 then decide (1 ≤ p) && (decide (p ≤ 32) && (decide (0 ≤ q) && decide (q ≤ 3))) else if k = 9 then decide (1 ≤ p) && decide (p ≤ 8) else true
def sizeT (n k p q : Int) : Int :=
  if k = 0 then p else if k = 1 then 1 else if k = 2 then n else if k = 3 then 1 else if k = 4 then 2 ^ p.toNat - 1 else if k = 5 then n + n * p * (n + 1) else
  if k = 6 then p + n * q * (p + 1) else if k = 7 then n + q else if k = 8 then 2 + n + 4 * (1 + n * p) else 1 + (n + 1) * (p + 1)
/-- Why an object may not be made: 0: it may. -/
def sizeE (n : Int) (s : Sp) : Int := if ¬ (1 ≤ n ∧ n ≤ 16) then 1 else if ¬ (0 ≤ s.kind ∧ s.kind ≤ 9) then 9 else if rightT s.kind s.p s.q = false then 10 else 0
def sizeV (n : Int) (s : Sp) : Int := if sizeE n s = 0 then sizeT n s.kind s.p s.q else 0

theorem kindsI_le (p : Int) : 0 ≤ kindsI p ∧ kindsI p ≤ 3 := by unfold kindsI; repeat' split <;> omega

theorem mul_bd {a b A B : Int} (ha0 : 0 ≤ a) (ha : a ≤ A) (hb0 : 0 ≤ b) (hb : b ≤ B) : 0 ≤ a * b ∧ a * b ≤ A * B :=
  ⟨Int.mul_nonneg ha0 hb0, Int.mul_le_mul ha hb hb0 (Int.le_trans ha0 ha)⟩
theorem pow_bd {p : Int} (h1 : 1 ≤ p) (h2 : p ≤ 12) : 2 ≤ (2 : Int) ^ p.toNat ∧ (2 : Int) ^ p.toNat ≤ 4096 := by
  obtain ⟨k, rfl⟩ := Int.eq_ofNat_of_zero_le (by omega : 0 ≤ p)
  rw [Int.toNat_natCast]
  have a := Nat.pow_le_pow_right (n := 2) (by decide) (show 1 ≤ k by omega)
  have b := Nat.pow_le_pow_right (n := 2) (by decide) (show k ≤ 12 by omega)
  have e : (2 : Int) ^ k = ((2 ^ k : Nat) : Int) := by simp
  rw [e]
  generalize 2 ^ k = m at *
  simp at a b
  omega
theorem size_bd {n k p q : Int} (hk0 : 0 ≤ k) (hk9 : k ≤ 9) (hn1 : 1 ≤ n) (hn2 : n ≤ 16) (hr : rightT k p q = true) : 1 ≤ sizeT n k p q ∧ sizeT n k p q ≤ 100000 := by
  unfold rightT at hr
  unfold sizeT
  repeat' split at hr
  all_goals simp at hr
  · split
    · omega
    · rename_i h h0
      obtain rfl : k = 5 := by omega
      simp
      have a := mul_bd (show 0 ≤ n by omega) hn2 (show 0 ≤ p by omega) hr.2
      have b := mul_bd a.1 a.2 (show 0 ≤ n + 1 by omega) (show n + 1 ≤ 17 by omega)
      omega
  · have := pow_bd hr.1 hr.2
    rename_i h; subst h; simp; omega
  · rename_i h; subst h; simp
    have a := mul_bd (show 0 ≤ n by omega) hn2 (show 0 ≤ q by omega) hr.2.2.2
    have b := mul_bd a.1 a.2 (show 0 ≤ p + 1 by omega) (show p + 1 ≤ 17 by omega)
    omega
  · rename_i h; subst h; simp; omega
  · rename_i h; subst h; simp
    have a := mul_bd (show 0 ≤ n by omega) hn2 (show 0 ≤ p by omega) hr.2.1
    omega
  · rename_i h; subst h; simp
    have a := mul_bd (show 0 ≤ n + 1 by omega) (show n + 1 ≤ 17 by omega) (show 0 ≤ p + 1 by omega) (show p + 1 ≤ 9 by omega)
    omega
  · have h9 : k = 1 ∨ k = 2 ∨ k = 3 := by omega
    rcases h9 with rfl | rfl | rfl <;> simp <;> omega

end Go.Proofs.YtmiimpmfkjcjlaaGreat
