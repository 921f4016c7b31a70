/- Two lists of numbers held against each other: roundelayplain.Ints, roundelayref02.Same. -/
import Derived.Test.YtlfingcmekifkaaProg
import Derived.Test.YtlfingcmekifkaaBase
import Derived.Deep.QuietTactic
import Derived.BigQuiet
namespace Go.Proofs.Ytlfingcmekifkaa
open Go.RowKit

/-- A row that the call owns reads as a list of numbers. -/
theorem sl_of_owns {w : World} {base : Nat} {e : TypeId} {v : Value} {kk : IntKind} {xs : List Int} (h : w.ownsRow base e 1 v xs.length (xs.map (Value.int kk))) (hm : xs.length ≤ maxLen) : Sl (ntEnc kk) 1 w v xs := by
  rcases h.2 with ⟨rfl, h0⟩ | ⟨g, cap, cur, rfl, _, hg, hnc, hcm, _, htake⟩
  · have : xs = [] := List.eq_nil_of_length_eq_zero h0
    subst this
    exact ⟨none, 0, rfl, Nat.le_refl _, Nat.zero_le _, fun k x hx => by simp at hx⟩
  · refine ⟨_, cap, rfl, hnc, hcm, fun k x hx => ⟨g, 0, rfl, (Array.getElem?_eq_some_iff.1 hg).1, fun j u hu => ?_⟩⟩
    have hk := (List.getElem?_eq_some_iff.1 hx).1
    rcases j with _ | j
    · simp only [ntEnc, List.getElem?_cons_zero, Option.some.injEq] at hu
      subst hu
      rw [cell_of_row w g _ cur e (0, 0) hg]
      have : (cur.toList.take (xs.length * 1))[k]? = some (.int kk x) := by rw [htake]; simp [hx]
      rw [List.getElem?_take] at this
      split at this
      · simpa using this
      · cases this
    · simp [ntEnc] at hu

theorem nt_cell {w : World} {kk : IntKind} {b p : Nat} {n : Int} (h : CellsAt w b p (ntEnc kk n)) : w.cell? ⟨b, p, none⟩ = some (.int kk n) := h 0 _ rfl

theorem list_ext_of {xs ys : List Int} (hl : xs.length = ys.length) (h : ∀ j, j < xs.length → xs[j]? = ys[j]?) : xs = ys := by
  apply List.ext_getElem?
  intro i
  by_cases hi : i < xs.length
  · exact h i hi
  · rw [List.getElem?_eq_none (by omega), List.getElem?_eq_none (by omega)]

set_option maxHeartbeats 1000000 in
theorem same_any (v1 v2 : Value) (xs ys : List Int) (w : World) (h1 : SlW w v1 xs) (h2 : SlW w v2 ys) :
    Calls Try.prog 42 #[v1, v2] w fun e w' => e = .returned (.bool (decide (xs = ys))) ∧ ∃ n, w' = w.drewN n := by
  obtain ⟨A, cA, rfl, a1, a2, a3⟩ := h1
  obtain ⟨B, cB, rfl, b1, b2, b3⟩ := h2
  have hlx : (xs.length : Int) ≤ 9223372036854775807 := by unfold maxLen at a2; omega
  by_cases hl : xs.length = ys.length
  · have hl1 : ((xs.length : Int) != (ys.length : Int)) = false := by simp [hl]
    have hl2 : ((xs.length : Int) == (ys.length : Int)) = true := by simp [hl]
    have HL := hide hl
    clear hl
    obtain ⟨R, hR⟩ : ∃ R, decide (xs = ys) = R := ⟨_, rfl⟩
    have HR := hide hR
    rw [hR]
    clear hR
    go_enter Try.func42, Try.ntmps42
    go_wp2
    go_loopw [13] (fun i wr => ∃ k : Nat, k ≤ xs.length ∧ i = .int .i64 k ∧ Hid (∀ j, j < k → xs[j]? = ys[j]?) ∧ Hid (∃ n, wr = w.drewN n)) (fun i _ => xs.length - (intOf i).toNat)
    case atStart => exact ⟨0, Nat.zero_le _, rfl, hide (fun j hj => by omega), hide ⟨0, rfl⟩⟩
    case round =>
      obtain ⟨k, hk, rfl, hok, hn⟩ := hrel
      obtain ⟨n, rfl⟩ := hn.out
      clear hn
      by_cases hlt : k < xs.length
      · obtain ⟨x, hx⟩ : ∃ x, xs[k]? = some x := ⟨_, List.getElem?_eq_getElem hlt⟩
        obtain ⟨y, hy⟩ : ∃ y, ys[k]? = some y := ⟨_, List.getElem?_eq_getElem (by have := HL.out; omega)⟩
        obtain ⟨b, o, rfl, hb, hc⟩ := a3 k x hx
        obtain ⟨b', o', rfl, hb', hc'⟩ := b3 k y hy
        have c1 := nt_cell hc
        have c2 := nt_cell hc'
        simp only [Nat.mul_one] at c1 c2
        have q0 : (0 : Int) ≤ (k : Int) := by omega
        have q1 : (k : Int) < (xs.length : Int) := by omega
        have q2 : (k : Int) < (ys.length : Int) := by have := HL.out; omega
        clear a3 b3 hc hc'
        by_cases hxy : x = y
        · have e1 : (x == y) = true := by simp [hxy]
          have e2 : (x != y) = false := by simp [hxy]
          have HN := hide (show xs[k]? = ys[k]? by rw [hx, hy, hxy])
          clear hx hy hxy
          go_wp2
          go_quiet (fail)
          go_wp2
          go_roundw
          case rel => exact ⟨k + 1, by omega, by go_num, hide (fun j hj => by by_cases h : j = k; (subst h; exact HN.out); exact hok.out j (by omega)), hide ⟨_, rfl⟩⟩
          case measure => simp [intOf] <;> omega
        · have e1 : (x == y) = false := by simp [hxy]
          have e2 : (x != y) = true := by simp [hxy]
          have HF : Hid (false = R) := by
            show _ = _
            rw [← HR.out, eq_comm, decide_eq_false_iff_not]
            intro he
            subst he
            rw [hx] at hy
            exact hxy (Option.some.inj hy)
          clear hx hy hxy hok
          go_wp2
          go_quiet (fail)
          go_wp2
          go_ret
          exact ⟨ret_bool HF.out, _, World.drewN_drewN _ _ _⟩
      · go_wp2
        go_ret
        refine ⟨ret_bool ?_, n, rfl⟩
        rw [← HR.out, eq_comm, decide_eq_true_eq]
        exact list_ext_of HL.out (fun j hj => hok.out j (by omega))
  · have hl1 : ((xs.length : Int) != (ys.length : Int)) = true := by simp; omega
    have hl2 : ((xs.length : Int) == (ys.length : Int)) = false := by simp; omega
    have HF : Hid (decide (xs = ys) = false) := by show _ = _; simp; intro he; exact hl (by rw [he])
    rw [HF.out]
    clear hl a3 b3
    go_enter Try.func42, Try.ntmps42
    go_wp2
    go_ret
    exact ⟨rfl, 0, rfl⟩
end Go.Proofs.Ytlfingcmekifkaa
