/- Agreeing (package adopt): alone, verdict. -/
import Derived.Test.YtlfingcmekifkaaBun9
namespace Go.Proofs.Ytlfingcmekifkaa
open Go.RowKit

theorem aloneF_snoc (v : Int) (l : List Int) (x : Int) : aloneF v (l ++ [x]) = (aloneF v l && decide (x = 0 ∨ x = v)) := by unfold aloneF; simp
theorem firstF_snoc (l : List Int) (x : Int) : firstF (l ++ [x]) = if x = 0 then firstF l else if x % 2 = 0 then firstF l else if firstF l = 0 then x / 2 else firstF l := by unfold firstF; simp
theorem allF_snoc (l : List Int) (x : Int) : allF (l ++ [x]) = (allF l && decide (x = 0 ∨ x % 2 ≠ 0)) := by unfold allF; simp
theorem take_snoc {l : List Int} {k : Nat} {x : Int} (h : l[k]? = some x) : l.take (k + 1) = l.take k ++ [x] := by
  rw [List.take_add_one, h]
  rfl
theorem aloneF_false {v : Int} {l : List Int} {x : Int} (h : x ∈ l) (h0 : x ≠ 0) (hv : x ≠ v) : aloneF v l = false := by
  rw [Bool.eq_false_iff]
  intro ha
  have := List.all_eq_true.1 ha x h
  simp at this
  omega
set_option maxRecDepth 100000 in
theorem adAlone (v : Int) (A : Option Addr) (n c : Nat) (xs : List Int) (w : World) (h : SlW w (.slice A n c) xs) (hn : xs.length = n) (hl : n ≤ 1000) :
    Calls Try.prog 120 #[.int .u64 v, .slice A n c] w fun e w' => e = .returned (.bool (aloneF v xs)) ∧ w' = w := by
  have HH := hide h
  have HN := hide hn
  have hl' : (n : Int) ≤ 1000 := by omega
  clear h hn
  go_enter Try.func120, Try.ntmps120
  go_wp2
  go_loopw [9] (fun i wr => ∃ k : Nat, k ≤ n ∧ i = .int .i64 k ∧ wr = w ∧ Hid (aloneF v (xs.take k) = true)) (fun i _ => n - (intOf i).toNat)
  case atStart => exact ⟨0, Nat.zero_le _, rfl, rfl, hide rfl⟩
  case round =>
    obtain ⟨k, hk, rfl, hW, hA⟩ := hrel
    subst hW
    by_cases hlt : k < n
    · obtain ⟨x, hx⟩ : ∃ x, xs[k]? = some x := ⟨_, List.getElem?_eq_getElem (by rw [HN.out]; exact hlt)⟩
      obtain ⟨A', c', e, g1, g2, g3⟩ := HH.out
      obtain ⟨bb, oo, e', hbb, hc⟩ := g3 k x hx
      rw [HN.out] at e
      cases e
      cases e'
      have c0 := nt_cell hc
      simp only [Nat.mul_one] at c0
      have hkk : (k : Int) < (n : Int) := by omega
      have HX := hide hx
      clear g3 hc g1 g2 hx
      by_cases hb : x ≠ 0 ∧ x ≠ v
      · obtain ⟨h0, h1⟩ := hb
        have hF := aloneF_false (List.mem_of_getElem? HX.out) h0 h1
        have h0 : ¬ x = 0 := h0
        have h1 : ¬ x = v := h1
        have d0 : (x != 0) = true := by simpa using h0
        have d1 : (x != v) = true := by simpa using h1
        go_wp2
        go_ret
        exact ⟨by rw [hF]; rfl, rfl⟩
      · have hF : aloneF v (xs.take (k + 1)) = true := by
          rw [take_snoc HX.out, aloneF_snoc, hA.out]
          simp
          omega
        have HF := hide hF
        clear hF
        by_cases h0 : x = 0
        · subst h0
          clear hb
          go_wp2
          go_roundw
          case rel => exact ⟨k + 1, by omega, by go_num, by trivial, HF⟩
          case measure => first | (simp [intOf]; done) | (simp [intOf]; omega)
        · obtain rfl : x = v := by omega
          have d0 : (x != 0) = true := by simpa using h0
          clear hb h0
          go_wp2
          go_roundw
          case rel => exact ⟨k + 1, by omega, by go_num, by trivial, HF⟩
          case measure => first | (simp [intOf]; done) | (simp [intOf]; omega)
    · obtain rfl : k = n := by omega
      have hF := hA.out
      rw [List.take_of_length_le (by rw [HN.out]; exact Nat.le_refl _)] at hF
      have HF := hide hF
      clear hF
      go_wp2
      go_ret
      exact ⟨by rw [HF.out]; rfl, rfl⟩
set_option maxRecDepth 100000 in
theorem adVerdict (A : Option Addr) (n c : Nat) (xs : List Int) (w : World) (h : SlW w (.slice A n c) xs) (hn : xs.length = n) (hl : n ≤ 1000) (hb : ∀ x ∈ xs, 0 ≤ x ∧ x < 18446744073709551616) :
    Calls Try.prog 119 #[.slice A n c] w fun e w' => e = .returned (.tuple #[.int .u64 (firstF xs), .bool (allF xs)]) ∧ w' = w := by
  have HH := hide h
  have HN := hide hn
  have hl' : (n : Int) ≤ 1000 := by omega
  have HB := hide hb
  clear h hn hb
  go_enter Try.func119, Try.ntmps119
  go_wp2
  go_loopw [10, 4, 5] (fun i f a wr => ∃ k : Nat, k ≤ n ∧ i = .int .i64 k ∧ wr = w ∧ f = .int .u64 (firstF (xs.take k)) ∧ a = .bool (allF (xs.take k))) (fun i _ _ _ => n - (intOf i).toNat)
  case atStart => exact ⟨0, Nat.zero_le _, rfl, rfl, rfl, rfl⟩
  case round =>
    obtain ⟨k, hk, rfl, hW, rfl, rfl⟩ := hrel
    subst hW
    by_cases hlt : k < n
    · obtain ⟨x, hx⟩ : ∃ x, xs[k]? = some x := ⟨_, List.getElem?_eq_getElem (by rw [HN.out]; exact hlt)⟩
      obtain ⟨A', c', e, g1, g2, g3⟩ := HH.out
      obtain ⟨bb, oo, e', hbb, hc⟩ := g3 k x hx
      rw [HN.out] at e
      cases e
      cases e'
      have c0 := nt_cell hc
      simp only [Nat.mul_one] at c0
      have hkk : (k : Int) < (n : Int) := by omega
      obtain ⟨x0, x1⟩ := HB.out x (List.mem_of_getElem? hx)
      have hsn := take_snoc hx
      have HF : firstF (xs.take (k + 1)) = if x = 0 then firstF (xs.take k) else if x % 2 = 0 then firstF (xs.take k) else if firstF (xs.take k) = 0 then x / 2 else firstF (xs.take k) := by rw [hsn, firstF_snoc]
      have HA : allF (xs.take (k + 1)) = (allF (xs.take k) && decide (x = 0 ∨ x % 2 ≠ 0)) := by rw [hsn, allF_snoc]
      have HF := hide HF
      have HA := hide HA
      clear g3 hc g1 g2 hx hsn
      generalize firstF (xs.take k) = f at HF ⊢
      generalize allF (xs.take k) = a at HA ⊢
      by_cases h0 : x = 0
      · subst h0
        go_wp2
        go_roundw
        case rel => exact ⟨k + 1, by omega, by go_num, by trivial, by rw [HF.out]; simp, by rw [HA.out]; simp⟩
        case measure => first | (simp [intOf]; done) | (simp [intOf]; omega)
      · have h0' : ¬ x = 0 := h0
        have hr : Int.tmod x 2 = x % 2 := Int.tmod_eq_emod_of_nonneg x0
        have hq : Int.tdiv x 2 = x / 2 := Int.tdiv_eq_ediv_of_nonneg x0
        by_cases h2 : x % 2 = 0
        · have d2 : (x % 2 == 0) = true := by simpa using h2
          have d0 : (x == 0) = false := by simpa using h0
          go_wp2
          go_roundw
          case rel => exact ⟨k + 1, by omega, by go_num, by trivial, by rw [HF.out, if_neg h0, if_pos h2], by rw [HA.out]; simp [h0, h2]⟩
          case measure => first | (simp [intOf]; done) | (simp [intOf]; omega)
        · have h2' : ¬ x % 2 = 0 := h2
          have d0 : (x == 0) = false := by simpa using h0
          have d2 : (x % 2 == 0) = false := by simpa using h2
          by_cases h3 : f = 0
          · subst h3
            go_wp2
            go_roundw
            case rel => exact ⟨k + 1, by omega, by go_num, by trivial, by rw [HF.out, if_neg h0, if_neg h2, if_pos rfl], by rw [HA.out]; simp [h0, h2]⟩
            case measure => first | (simp [intOf]; done) | (simp [intOf]; omega)
          · have h3' : ¬ f = 0 := h3
            have d3 : (f == 0) = false := by simpa using h3
            go_wp2
            go_roundw
            case rel => exact ⟨k + 1, by omega, by go_num, by trivial, by rw [HF.out, if_neg h0, if_neg h2, if_neg h3], by rw [HA.out]; simp [h0, h2]⟩
            case measure => first | (simp [intOf]; done) | (simp [intOf]; omega)
    · obtain rfl : k = n := by omega
      rw [List.take_of_length_le (by rw [HN.out]; exact Nat.le_refl _)]
      go_wp2
      go_ret2
      exact ⟨rfl, rfl⟩
end Go.Proofs.Ytlfingcmekifkaa
