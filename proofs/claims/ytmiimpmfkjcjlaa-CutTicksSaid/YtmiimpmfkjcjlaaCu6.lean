/- The document's answer about ticks: Wrong, Now (chapter 5), Wrong, Event, Ticks (chapter 36). -/
import Derived.Test.YtmiimpmfkjcjlaaCu5
namespace Go.Proofs.Ytmiimpmfkjcjlaa
open Go.RowKit

set_option maxRecDepth 100000 in
set_option maxHeartbeats 2000000 in
theorem refWrong05 (n : Int) (A : Option Addr) (m c : Nat) (cs : List Cl) (w : World) (h : SlCl w (.slice A m c) cs) (hm : cs.length = m) :
    Calls Try.prog 19 #[.int .i64 n, .slice A m c] w fun e w' => e = .returned (.int .i64 (wrongE n cs)) ∧ w' = w := by
  have hle : m ≤ maxLen := by obtain ⟨_, _, e, h1, h2, _⟩ := h; cases e; omega
  have hm63 : (m : Int) ≤ 9223372036854775807 := by unfold maxLen at hle; omega
  have HH := hide h
  have HM := hide hm
  by_cases hn : 1 ≤ n ∧ n ≤ 16
  · have n0 : decide (n < 1) = false := by simp; omega
    have n1 : decide (16 < n) = false := by simp; omega
    by_cases h8 : 1000 < m
    · have hE : wrongE n cs = 3 := by unfold wrongE; rw [if_neg (by omega), if_pos (by omega)]
      have h8' : (1000 : Int) < (m : Int) := by omega
      rw [hE]
      clear h hm hn hE
      go_enter Try.func19, Try.ntmps19
      go_wp2
      go_ret
      exact ⟨rfl, rfl⟩
    · have h8' : ¬ (1000 : Int) < (m : Int) := by omega
      have HN := hide hn
      obtain ⟨E, hE⟩ : ∃ E, wrongE n cs = E := ⟨_, rfl⟩
      have HE := hide hE
      rw [hE]
      clear h hm hn hE
      go_enter Try.func19, Try.ntmps19
      go_wp2
      go_loopw [17] (fun i wr => ∃ k : Nat, k ≤ m ∧ i = .int .i64 k ∧ Hid (∀ (j : Nat) (x : Cl), j < k → cs[j]? = some x → 0 ≤ x.thread ∧ x.thread < n) ∧ wr = w) (fun i _ => m - (intOf i).toNat)
      case atStart => exact ⟨0, Nat.zero_le _, rfl, hide (fun j x hj => by omega), rfl⟩
      case round =>
        obtain ⟨k, hk, rfl, hOk, rfl⟩ := hrel
        by_cases hlt : k < m
        · obtain ⟨x, hxk⟩ : ∃ x, cs[k]? = some x := ⟨_, List.getElem?_eq_getElem (by have := HM.out; omega)⟩
          obtain ⟨A', c', e, _, _, h3⟩ := HH.out
          obtain ⟨b, oo, e', hb, hc⟩ := h3 k x hxk
          rw [HM.out] at e
          cases e
          cases e'
          obtain ⟨c0, c1, c2, c3, c4, c5⟩ := cl_cells hc
          have HK := hide hxk
          clear h3 hc hxk
          rcases (by omega : x.thread < 0 ∨ (0 ≤ x.thread ∧ n ≤ x.thread) ∨ (0 ≤ x.thread ∧ x.thread < n)) with ht | ⟨ht, ht'⟩ | ⟨ht, ht'⟩
          · have d0 : decide (x.thread < 0) = true := by simpa using ht
            have hE1 : Hid (1 = E) := hide (by rw [← HE.out]; unfold wrongE; rw [if_neg (by have := HN.out; omega), if_neg (by have := HM.out; omega), if_neg (not_all HK.out (Or.inl ht))])
            go_wp2
            go_ret
            exact ⟨by rw [← hE1.out]; rfl, rfl⟩
          · have d0 : decide (x.thread < 0) = false := by simpa using ht
            have d1 : decide (n ≤ x.thread) = true := by simpa using ht'
            have hE1 : Hid (1 = E) := hide (by rw [← HE.out]; unfold wrongE; rw [if_neg (by have := HN.out; omega), if_neg (by have := HM.out; omega), if_neg (not_all HK.out (Or.inr ht'))])
            go_wp2
            go_ret
            exact ⟨by rw [← hE1.out]; rfl, rfl⟩
          · have d0 : decide (x.thread < 0) = false := by simpa using ht
            have d1 : decide (n ≤ x.thread) = false := by simpa using ht'
            have hok1 : Hid (∀ (j : Nat) (y : Cl), j < k + 1 → cs[j]? = some y → 0 ≤ y.thread ∧ y.thread < n) := by
              intro j y hj hy
              by_cases e : j = k
              · subst e
                rw [HK.out] at hy
                cases hy
                exact ⟨ht, ht'⟩
              · exact hOk.out j y (by omega) hy
            go_wp2
            go_roundw
            case rel => exact ⟨k + 1, by omega, by go_num, hok1, trivial⟩
            case measure => first | (simp [intOf]; done) | (simp [intOf]; omega)
        · obtain rfl : k = m := by omega
          have hE1 : Hid (0 = E) := hide (by rw [← HE.out]; unfold wrongE; rw [if_neg (by have := HN.out; omega), if_neg (by have := HM.out; omega), if_pos (all_take (fun j x hx => hOk.out j x (by have := (List.getElem?_eq_some_iff.1 hx).1; have := HM.out; omega) hx))])
          go_wp2
          go_ret
          exact ⟨by rw [← hE1.out]; rfl, rfl⟩
  · have hE : wrongE n cs = 1 := by unfold wrongE; rw [if_pos hn]
    rw [hE]
    rcases (by omega : n < 1 ∨ 1 ≤ n ∧ 16 < n) with h0 | ⟨h0, h1⟩
    · have n0 : decide (n < 1) = true := by simp; omega
      clear h hm hn hE
      go_enter Try.func19, Try.ntmps19
      go_wp2
      go_ret
      exact ⟨rfl, rfl⟩
    · have n0 : decide (n < 1) = false := by simp; omega
      have n1 : decide (16 < n) = true := by simp; omega
      clear h hm hn hE
      go_enter Try.func19, Try.ntmps19
      go_wp2
      go_ret
      exact ⟨rfl, rfl⟩
end Go.Proofs.Ytmiimpmfkjcjlaa
