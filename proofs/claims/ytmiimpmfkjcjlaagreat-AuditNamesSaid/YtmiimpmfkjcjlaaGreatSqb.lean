/- Plain law on bits: a number's bit i by '&', '|', '&^' and by division. -/
import Derived.Laws.BitsAllLaws
namespace Go.Proofs.YtmiimpmfkjcjlaaGreat
open Go

theorem pow_lt64 {i : Nat} (hi : i < 64) : 2 ^ i < 18446744073709551616 := by
  have := Nat.pow_lt_pow_right (a := 2) (by decide) hi
  exact Nat.lt_of_lt_of_le this (by decide)

theorem nat_or_bit (x i : Nat) (hx : x < 18446744073709551616) (hi : i < 64) (h : x / 2 ^ i % 2 = 0) : x ||| 2 ^ i = x + 2 ^ i := by
  have hp := pow_lt64 hi
  have ha : x &&& 2 ^ i = 0 := by rw [nat_bit, h, Nat.zero_mul]
  have hz : BitVec.ofNat 65 x &&& BitVec.ofNat 65 (2 ^ i) = 0#65 := by
    apply BitVec.eq_of_toNat_eq
    rw [BitVec.toNat_and, BitVec.toNat_ofNat, BitVec.toNat_ofNat, Nat.mod_eq_of_lt (by omega), Nat.mod_eq_of_lt (by omega), ha]
    rfl
  have := congrArg BitVec.toNat (BitVec.add_eq_or_of_and_eq_zero _ _ hz)
  rw [BitVec.toNat_add, BitVec.toNat_or, BitVec.toNat_ofNat, BitVec.toNat_ofNat, Nat.mod_eq_of_lt (a := x) (by omega), Nat.mod_eq_of_lt (a := 2 ^ i) (by omega), Nat.mod_eq_of_lt (by omega)] at this
  exact this.symm

theorem nat_andNot_bit (x i : Nat) (hx : x < 18446744073709551616) (hi : i < 64) (h : x / 2 ^ i % 2 = 1) : x &&& (18446744073709551615 - 2 ^ i) = x - 2 ^ i := by
  have hp := pow_lt64 hi
  have hb : x.testBit i = true := by rw [Nat.testBit_eq_decide_div_mod_eq, h]; rfl
  have hpx : 2 ^ i ≤ x := Nat.ge_two_pow_of_testBit hb
  have e : 18446744073709551615 - 2 ^ i = 2 ^ 64 - (2 ^ i + 1) := by omega
  have hy : (x &&& (18446744073709551615 - 2 ^ i)) < 18446744073709551616 := Nat.lt_of_le_of_lt Nat.and_le_left hx
  have h0 : (x &&& (18446744073709551615 - 2 ^ i)) / 2 ^ i % 2 = 0 := by
    have hf : (x &&& (18446744073709551615 - 2 ^ i)).testBit i = false := by
      rw [Nat.testBit_and, e, Nat.testBit_two_pow_sub_succ (by omega)]
      simp
    rw [Nat.testBit_eq_decide_div_mod_eq] at hf
    simp at hf
    omega
  have hj := nat_or_bit _ i hy hi h0
  have hx' : (x &&& (18446744073709551615 - 2 ^ i)) ||| 2 ^ i = x := by
    apply Nat.eq_of_testBit_eq
    intro j
    rw [Nat.testBit_or, Nat.testBit_and, e, Nat.testBit_two_pow_sub_succ (by omega), Nat.testBit_two_pow]
    by_cases hij : i = j
    · subst hij; simp [hb]
    · simp [hij]
      intro ht
      rcases Nat.lt_or_ge j 64 with h | h
      · exact h
      · have := Nat.ge_two_pow_of_testBit ht
        have := Nat.pow_le_pow_right (n := 2) (by decide) h
        omega
  omega

theorem bit_and {x i : Nat} (hx : x < 18446744073709551616) (hi : i < 64) : bits .and .u64 (x : Int) ((2 ^ i : Nat) : Int) = ((x / 2 ^ i % 2 * 2 ^ i : Nat) : Int) := by
  rw [u64_and_nat x _ hx (pow_lt64 hi), nat_bit]
theorem bit_or {x i : Nat} (hx : x < 18446744073709551616) (hi : i < 64) (h : x / 2 ^ i % 2 = 0) : bits .or .u64 (x : Int) ((2 ^ i : Nat) : Int) = ((x + 2 ^ i : Nat) : Int) := by
  rw [u64_or_nat x _ hx (pow_lt64 hi), nat_or_bit x i hx hi h]
theorem bit_andNot {x i : Nat} (hx : x < 18446744073709551616) (hi : i < 64) (h : x / 2 ^ i % 2 = 1) : bits .andNot .u64 (x : Int) ((2 ^ i : Nat) : Int) = ((x - 2 ^ i : Nat) : Int) := by
  rw [u64_andNot_nat x _ hx (pow_lt64 hi), nat_andNot_bit x i hx hi h]
theorem bit_wrap {i : Nat} (hi : i < 64) : IntKind.u64.wrap ((2 : Int) ^ i) = ((2 ^ i : Nat) : Int) := by
  rw [show ((2 : Int) ^ i) = ((2 ^ i : Nat) : Int) by simp]
  have := pow_lt64 hi
  generalize 2 ^ i = p at *
  rw [IntKind.wrap_u64]
  omega
theorem or_lt {x i : Nat} (hx : x < 18446744073709551616) (hi : i < 64) (h : x / 2 ^ i % 2 = 0) : x + 2 ^ i < 18446744073709551616 := by
  rw [← nat_or_bit x i hx hi h]
  exact Nat.or_lt_two_pow (n := 64) hx (pow_lt64 hi)
theorem andNot_le {x i : Nat} (h : x / 2 ^ i % 2 = 1) : 2 ^ i ≤ x := by
  refine Nat.ge_two_pow_of_testBit ?_
  rw [Nat.testBit_eq_decide_div_mod_eq, h]; rfl
end Go.Proofs.YtmiimpmfkjcjlaaGreat
