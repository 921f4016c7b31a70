/- Rows of picks (law 35): the reference's row, and what its digits say together. -/
/- Two lists of numbers held against each other: roundelayplain.Ints. -/
import Derived.Test.YtfghmlpjbedomaaGreatEx2
import Derived.Test.YtfghmlpjbedomaaGreatBun2
namespace Go.Proofs.YtfghmlpjbedomaaGreat
open Go.RowKit

theorem rowD_nat {n : Nat} : ∀ (k i j : Nat), j < k → ∃ x : Nat, (rowD n k i)[j]? = some (x : Int)
  | 0, _, _, h => by omega
  | k + 1, i, j, h => by
    by_cases hj : j < k
    · obtain ⟨x, hx⟩ := rowD_nat k (i / n) j hj
      refine ⟨x, ?_⟩
      show (rowD n k (i / n) ++ [_])[j]? = _
      rw [List.getElem?_append_left (by rw [rowD_len]; exact hj), hx]
    · obtain rfl : j = k := by omega
      refine ⟨i % n, ?_⟩
      show (rowD n j (i / n) ++ [_])[j]? = _
      rw [List.getElem?_append_right (by rw [rowD_len]; exact Nat.le_refl _), rowD_len]
      simp
theorem horn_bd {n L i j : Nat} (hn : 1 ≤ n) (h : j < L) : ∃ x b : Nat, (rowD n L i)[j]? = some (x : Int) ∧ hornD n ((rowD n L i).take j) 0 = (b : Int) ∧ b * n + x ≤ i ∧ hornD n ((rowD n L i).take (j + 1)) 0 = ((b * n + x : Nat) : Int) := by
  obtain ⟨x, hx⟩ := rowD_nat (n := n) L i j h
  have h1 := horn_take n hn L i j (by omega)
  have h2 := horn_take n hn L i (j + 1) h
  have h3 : hornD n ((rowD n L i).take (j + 1)) 0 = hornD n ((rowD n L i).take j) 0 * n + x := by
    unfold hornD
    rw [List.take_add_one, hx, List.foldl_append]
    rfl
  refine ⟨x, _, hx, h1, ?_, by rw [h3, h1]; push_cast; rfl⟩
  rw [h1, h2] at h3
  have h4 : i % n ^ L / n ^ (L - (j + 1)) = i % n ^ L / n ^ (L - j) * n + x := by exact_mod_cast h3
  rw [← h4]
  exact Nat.le_trans (Nat.div_le_self _ _) (Nat.mod_le _ _)
set_option maxRecDepth 100000 in
set_option maxHeartbeats 2000000 in
theorem row35W {n L i : Nat} (w : World) (hn : 1 ≤ n ∧ n ≤ 16) (hL : L ≤ 12) (hi : i ≤ 9223372036854775807) : Calls Tryz.prog 9 #[.int .i64 (n : Int), .int .i64 (L : Int), .int .i64 (i : Int)] w fun e w' => (∃ v, e = .returned v ∧ SlI w' v (rowD n L i)) ∧ Below w.heap.size w w' := by
  have hnz : ¬ (n : Int) = 0 := by omega
  obtain ⟨i0, hi0, hz0, hz1, hz2⟩ := info_parts info_int
  have HN := hide hn
  have HI := hide hi
  have HLL := hide hL
  clear hn hi hL
  go_enter Tryz.func9, Tryz.ntmps9
  go_wp2
  go_loopw [9, 7, 2] (fun k o x wr => ∃ j : Nat, j ≤ L ∧ k = .int .i64 (j : Int) ∧ x = .int .i64 ((i / n ^ j : Nat) : Int) ∧ Hid (IOwn wr w.heap.size o j (rowD n j i)) ∧ Hid (Below w.heap.size w wr)) (fun k _ _ _ => L - (intOf k).toNat)
  case atStart => exact ⟨0, Nat.zero_le _, rfl, by simp, hide (World.ownsRow_nil _ _ _ _), hide (Below.refl _ w)⟩
  case round =>
    obtain ⟨j, hj, rfl, rfl, hO, hB⟩ := hrel
    by_cases hlt : j < L
    · have hltI : (j : Int) < (L : Int) := by omega
      have hLi : (L : Int) ≤ 12 := by have := HLL.out; omega
      obtain ⟨x, hx⟩ : ∃ x : Nat, i / n ^ j = x := ⟨_, rfl⟩
      have hxb : x ≤ 9223372036854775807 := by rw [← hx]; exact Nat.le_trans (Nat.div_le_self _ _) HI.out
      have hx1 := pow_step n i j
      have hrow := rowD_cons n j i
      rw [hx] at hx1 hrow
      have e1 : Int.tmod (x : Int) (n : Int) = ((x % n : Nat) : Int) := by rw [Int.tmod_eq_emod_of_nonneg (by omega)]; push_cast; rfl
      obtain ⟨y, hy⟩ : ∃ y : Nat, x / n = y := ⟨_, rfl⟩
      obtain ⟨z, hz⟩ : ∃ z : Nat, x % n = z := ⟨_, rfl⟩
      have hm : z ≤ x := by rw [← hz]; exact Nat.mod_le _ _
      have hdv : y ≤ x := by rw [← hy]; exact Nat.div_le_self _ _
      have e2 : Int.tdiv (x : Int) (n : Int) = (y : Int) := by rw [Int.tdiv_eq_ediv_of_nonneg (by omega), ← hy]; push_cast; rfl
      have e3 : (x : Int) / (n : Int) = (y : Int) := by rw [← hy]; push_cast; rfl
      have e4 : (x : Int) % (n : Int) = (z : Int) := by rw [← hz]; push_cast; rfl
      rw [hz] at e1 hrow
      have k2 : IntKind.i64.wrap (z : Int) = (z : Int) := wrap_i64 (by omega) (by omega)
      have k3 : IntKind.i64.wrap (y : Int) = (y : Int) := wrap_i64 (by omega) (by omega)
      rw [hx]
      have HX1 := hide hx1
      have HY := hide hy
      have HR := hide hrow
      have hzw := hB.out.size
      have HW := hide hzw
      obtain ⟨A, c, rfl⟩ := own_slice hO.out
      have hlit : World.ownsRow (wr.alloc (.cells #[.int .i64 (z : Int)] 3)) w.heap.size 3 1 (.slice (some ⟨wr.heap.size, 0, none⟩) 1 1) 1 [.int .i64 (z : Int)] :=
        ⟨rfl, Or.inr ⟨wr.heap.size, 1, #[.int .i64 (z : Int)], rfl, hzw, heap_alloc_new _ _, Nat.le_refl _, by unfold maxLen; decide, rfl, rfl⟩⟩
      have HLIT := hide hlit
      clear hx hx1 hrow hxb hm hdv hy hz hlit hzw
      rcases hO.out.2 with ⟨e1, h0⟩ | ⟨g, cp, cur, e1, _⟩
      · cases e1
        go_wp2_with (first | (at_builtin; refine wpList_append_own_none rfl _ _ 22 rfl w.heap.size 3 i0 1 Tryz.underlying22 hi0 _ 1 [.int .i64 (z : Int)] rfl HLIT.out rfl ?_) | fail)
        go_roundw
        case rel =>
          refine ⟨1, by omega, by go_num, ?_, hide ?_, hide (hB.out.alloc HW.out _)⟩
          · rw [HX1.out, HY.out]
          · unfold IOwn
            rw [HR.out]
            exact HLIT.out
        case measure => first | (simp [intOf]; done) | (simp [intOf]; omega)
      · cases e1
        have hnw := (World.ownsRow.alloc hO.out (.cells #[.int .i64 (z : Int)] 3)).cells (g := g) rfl
        have hnw2 := hide hnw
        clear hnw
        go_wp2_with (first | (at_builtin; refine wpList_append_own_at _ rfl _ _ 22 rfl w.heap.size 3 i0 (.int .i64 0) 1 8 Tryz.underlying22 hi0 hz0 hz1 hz2 rfl (by decide) _ 1 [.int .i64 (z : Int)] rfl HLIT.out ⟨g, 0, none⟩ j c ((rowD n j i).map (Value.int .i64)) rfl (by simp [rowD_len]) hnw2.out (ints_oneCell .i64 (rowD n j i)) (by unfold maxLen; omega) (by omega) (by simp; have := HW.out; omega) ?_; intro v7 w7 hown7 hgrow7 _ _) | fail)
        have hB7 := (hB.out.alloc HW.out (.cells #[.int .i64 (z : Int)] 3)).grown hgrow7 (by have := HW.out; simp; omega) (fun k hk => by cases hk; exact HW.out)
        go_roundw
        case rel =>
          refine ⟨j + 1, by omega, by go_num, ?_, hide ?_, hide hB7⟩
          · rw [HX1.out, HY.out]
          · unfold IOwn
            rw [HR.out, Nat.add_comm]
            exact hown7
        case measure => first | (simp [intOf]; done) | (simp [intOf]; omega)
    · obtain rfl : j = L := by omega
      go_wp2
      go_ret
      have hO2 : IOwn wr w.heap.size u7 (rowD n j i).length (rowD n j i) := by rw [rowD_len]; exact hO.out
      exact ⟨⟨_, rfl, sl_of_owns (kk := .i64) hO2 (by rw [rowD_len]; unfold maxLen; have := HLL.out; omega)⟩, hB.out⟩
end Go.Proofs.YtfghmlpjbedomaaGreat

namespace Go.Proofs.YtfghmlpjbedomaaGreat
open Go.RowKit

set_option maxHeartbeats 1000000 in
theorem ints_any (v1 v2 : Value) (xs ys : List Int) (w : World) (h1 : SlI w v1 xs) (h2 : SlI w v2 ys) :
    Calls Tryz.prog 10 #[v1, v2] w fun e w' => e = .returned (.bool (decide (xs = ys))) ∧ ∃ n, w' = w.drewN n := by
  obtain ⟨A, cA, rfl, a1, a2, a3⟩ := h1
  obtain ⟨B, cB, rfl, b1, b2, b3⟩ := h2
  have hlx : (xs.length : Int) ≤ 9223372036854775807 := by unfold maxLen at a2; omega
  by_cases hl : xs.length = ys.length
  · have hl1 : ((xs.length : Int) != (ys.length : Int)) = false := by simp [hl]
    have hl2 : ((xs.length : Int) == (ys.length : Int)) = true := by simp [hl]
    have HL := hide hl
    clear hl
    obtain ⟨R, hR⟩ : ∃ R, decide (xs = ys) = R := ⟨_, rfl⟩
    have HR := hide hR
    rw [hR]
    clear hR
    go_enter Tryz.func10, Tryz.ntmps10
    go_wp2
    go_loopw [13] (fun i wr => ∃ k : Nat, k ≤ xs.length ∧ i = .int .i64 k ∧ Hid (∀ j, j < k → xs[j]? = ys[j]?) ∧ Hid (∃ n, wr = w.drewN n)) (fun i _ => xs.length - (intOf i).toNat)
    case atStart => exact ⟨0, Nat.zero_le _, rfl, hide (fun j hj => by omega), hide ⟨0, rfl⟩⟩
    case round =>
      obtain ⟨k, hk, rfl, hok, hn⟩ := hrel
      obtain ⟨n, rfl⟩ := hn.out
      clear hn
      by_cases hlt : k < xs.length
      · obtain ⟨x, hx⟩ : ∃ x, xs[k]? = some x := ⟨_, List.getElem?_eq_getElem hlt⟩
        obtain ⟨y, hy⟩ : ∃ y, ys[k]? = some y := ⟨_, List.getElem?_eq_getElem (by have := HL.out; omega)⟩
        obtain ⟨b, o, rfl, hb, hc⟩ := a3 k x hx
        obtain ⟨b', o', rfl, hb', hc'⟩ := b3 k y hy
        have c1 := nt_cell hc
        have c2 := nt_cell hc'
        simp only [Nat.mul_one] at c1 c2
        have q0 : (0 : Int) ≤ (k : Int) := by omega
        have q1 : (k : Int) < (xs.length : Int) := by omega
        have q2 : (k : Int) < (ys.length : Int) := by have := HL.out; omega
        clear a3 b3 hc hc'
        by_cases hxy : x = y
        · have e1 : (x == y) = true := by simp [hxy]
          have e2 : (x != y) = false := by simp [hxy]
          have HN := hide (show xs[k]? = ys[k]? by rw [hx, hy, hxy])
          clear hx hy hxy
          go_wp2
          go_quiet (fail)
          go_wp2
          go_roundw
          case rel => exact ⟨k + 1, by omega, by go_num, hide (fun j hj => by by_cases h : j = k; (subst h; exact HN.out); exact hok.out j (by omega)), hide ⟨_, rfl⟩⟩
          case measure => simp [intOf] <;> omega
        · have e1 : (x == y) = false := by simp [hxy]
          have e2 : (x != y) = true := by simp [hxy]
          have HF : Hid (false = R) := by
            show _ = _
            rw [← HR.out, eq_comm, decide_eq_false_iff_not]
            intro he
            subst he
            rw [hx] at hy
            exact hxy (Option.some.inj hy)
          clear hx hy hxy hok
          go_wp2
          go_quiet (fail)
          go_wp2
          go_ret
          exact ⟨ret_bool HF.out, _, World.drewN_drewN _ _ _⟩
      · go_wp2
        go_ret
        refine ⟨ret_bool ?_, n, rfl⟩
        rw [← HR.out, eq_comm, decide_eq_true_eq]
        exact list_ext_of HL.out (fun j hj => hok.out j (by omega))
  · have hl1 : ((xs.length : Int) != (ys.length : Int)) = true := by simp; omega
    have hl2 : ((xs.length : Int) == (ys.length : Int)) = false := by simp; omega
    have HF : Hid (decide (xs = ys) = false) := by show _ = _; simp; intro he; exact hl (by rw [he])
    rw [HF.out]
    clear hl a3 b3
    go_enter Tryz.func10, Tryz.ntmps10
    go_wp2
    go_ret
    exact ⟨rfl, 0, rfl⟩
end Go.Proofs.YtfghmlpjbedomaaGreat
