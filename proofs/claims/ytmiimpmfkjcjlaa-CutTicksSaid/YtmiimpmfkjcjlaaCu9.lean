/- The document's answer about ticks: Wrong (chapter 36). -/
import Derived.Test.YtmiimpmfkjcjlaaCu8
namespace Go.Proofs.Ytmiimpmfkjcjlaa
open Go.RowKit

set_option maxRecDepth 100000 in
set_option maxHeartbeats 2000000 in
theorem refWrong36 (n : Int) (A Ap : Option Addr) (m c mp cp : Nat) (cs : List Cl) (picks : List Int) (w : World) (h : SlCl w (.slice A m c) cs) (hm : cs.length = m) (_hp : SlI w (.slice Ap mp cp) picks) (hmp : picks.length = mp) :
    Calls Try.prog 8 #[.int .i64 n, .slice A m c, .slice Ap mp cp] w fun e w' => e = .returned (.int .i64 (wrongC n cs picks)) ∧ w' = w := by
  have N0 := refWrong05 n A m c cs w h hm
  obtain ⟨E, hE⟩ : ∃ E, wrongC n cs picks = E := ⟨_, rfl⟩
  have HE := hide hE
  rw [hE]
  have HM := hide hm
  have HMP := hide hmp
  clear h hm hmp hE
  by_cases hn : 1 ≤ n ∧ n ≤ 16
  · have n0 : decide (n < 1) = false := by simp; omega
    have n1 : decide (16 < n) = false := by simp; omega
    by_cases h8 : 1000 < m
    · have hE1 : Hid (3 = E) := hide (by
        rw [← HE.out]; unfold wrongC wrongE
        rw [if_neg (show ¬ ¬ (1 ≤ n ∧ n ≤ 16) by omega), if_pos (show 1000 < cs.length by have := HM.out; omega)]
        split <;> rfl)
      have h8' : (1000 : Int) < (m : Int) := by omega
      have d8 : decide ((1000 : Int) < (m : Int)) = true := by simpa using h8'
      clear hn N0
      go_enter Try.func8, Try.ntmps8
      go_wp2
      go_ret
      exact ⟨by rw [← hE1.out]; rfl, rfl⟩
    · have h8' : ¬ (1000 : Int) < (m : Int) := by omega
      have d8 : decide ((1000 : Int) < (m : Int)) = false := by simpa using h8'
      by_cases h9 : 65536 < mp
      · have hE1 : Hid (3 = E) := hide (by
          rw [← HE.out]; unfold wrongC
          rw [if_pos ⟨hn, by have := HMP.out; omega⟩])
        have h9' : (65536 : Int) < (mp : Int) := by omega
        have d9 : decide ((65536 : Int) < (mp : Int)) = true := by simpa using h9'
        clear hn N0
        go_enter Try.func8, Try.ntmps8
        go_wp2
        go_ret
        exact ⟨by rw [← hE1.out]; rfl, rfl⟩
      · have h9' : ¬ (65536 : Int) < (mp : Int) := by omega
        have d9 : decide ((65536 : Int) < (mp : Int)) = false := by simpa using h9'
        have hE1 : wrongE n cs = E := by
          rw [← HE.out]; unfold wrongC
          rw [if_neg (by have := HMP.out; omega)]
        rw [hE1] at N0
        clear hn hE1
        go_enter Try.func8, Try.ntmps8
        go_wp2_with fail
        refine N0.mono ?_
        rintro e w1 ⟨rfl, rfl⟩
        go_wp2
        go_ret
        exact ⟨rfl, rfl⟩
  · have hE1 : Hid (1 = E) := hide (by
      rw [← HE.out]; unfold wrongC wrongE
      rw [if_neg (by omega), if_pos hn])
    rcases (by omega : n < 1 ∨ 1 ≤ n ∧ 16 < n) with h0 | ⟨h0, h1⟩
    · have n0 : decide (n < 1) = true := by simp; omega
      clear hn N0
      go_enter Try.func8, Try.ntmps8
      go_wp2
      go_ret
      exact ⟨by rw [← hE1.out]; rfl, rfl⟩
    · have n0 : decide (n < 1) = false := by simp; omega
      have n1 : decide (16 < n) = true := by simp; omega
      clear hn N0
      go_enter Try.func8, Try.ntmps8
      go_wp2
      go_ret
      exact ⟨by rw [← hE1.out]; rfl, rfl⟩
end Go.Proofs.Ytmiimpmfkjcjlaa
