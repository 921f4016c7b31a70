/- Law 35: any row of picks (ExploreRows), walked. -/
import Derived.Test.YtfghmlpjbedomaaGreatEx8
import Derived.Test.YtfghmlpjbedomaaGreatBun15
namespace Go.Proofs.YtfghmlpjbedomaaGreat
open Go.RowKit

theorem both35_specs {w : World} {b : Nat} {t : TypeId} (h : w.heap[b]? = some (.cells #[.int .i64 1, .int .i64 0, .int .i64 0] t (0, 0))) : SlSp w (.slice (some ⟨b, 0, none⟩) 1 1) [⟨1, 0, 0⟩] := by
  refine Sl.of_block (enc := spEnc) (sz := 3) (xs := [⟨1, 0, 0⟩]) (c := 1) h (Nat.le_refl _) (by unfold maxLen; decide) ?_
  intro k x hx j u hu
  rcases k with _ | k
  · simp at hx
    subst hx
    rcases j with _ | _ | _ | j <;> simp [spEnc] at hu ⊢ <;> exact hu
  · simp at hx
theorem both35_calls {w : World} {b : Nat} {t : TypeId} (h : w.heap[b]? = some (.cells #[.int .i64 0, .int .i64 0, .int .i64 0, .int .u64 1, .int .u64 0, .int .u64 0, .int .i64 1, .int .i64 0, .int .i64 0, .int .u64 2, .int .u64 0, .int .u64 0] t (0, 0))) : SlCl w (.slice (some ⟨b, 0, none⟩) 2 2) exC := by
  refine Sl.of_block (enc := clEnc) (sz := 6) (xs := exC) (c := 2) h (Nat.le_refl _) (by unfold maxLen; decide) ?_
  intro k x hx j u hu
  rcases k with _ | _ | k
  · simp [exC] at hx
    subst hx
    rcases j with _ | _ | _ | _ | _ | _ | j <;> simp [clEnc] at hu ⊢ <;> exact hu
  · simp [exC] at hx
    subst hx
    rcases j with _ | _ | _ | _ | _ | _ | j <;> simp [clEnc] at hu ⊢ <;> exact hu
  · simp [exC] at hx
set_option maxRecDepth 100000 in
set_option maxHeartbeats 2000000 in
theorem both35 (w : World) : Calls Tryz.prog 8 #[] w fun e w' => e = .returned (.bool true) ∧ Below w.heap.size w w' := by
  have hb : Below w.heap.size w ((w.alloc (.cells #[.int .i64 1, .int .i64 0, .int .i64 0] 51)).alloc (.cells #[.int .i64 0, .int .i64 0, .int .i64 0, .int .u64 1, .int .u64 0, .int .u64 0, .int .i64 1, .int .i64 0, .int .i64 0, .int .u64 2, .int .u64 0, .int .u64 0] 54)) := ((Below.refl _ _).alloc (Nat.le_refl _) _).alloc (by simp) _
  have hs1 : (w.alloc (.cells #[.int .i64 1, .int .i64 0, .int .i64 0] 51)).heap.size = w.heap.size + 1 := by simp
  have hh1 : ((w.alloc (.cells #[.int .i64 1, .int .i64 0, .int .i64 0] 51)).alloc (.cells #[.int .i64 0, .int .i64 0, .int .i64 0, .int .u64 1, .int .u64 0, .int .u64 0, .int .i64 1, .int .i64 0, .int .i64 0, .int .u64 2, .int .u64 0, .int .u64 0] 54)).heap[w.heap.size]? = some (.cells #[.int .i64 1, .int .i64 0, .int .i64 0] 51 (0, 0)) := (Below.heap_alloc _ _ _ (by simp)).trans (heap_alloc_new _ _)
  have hh2 : ((w.alloc (.cells #[.int .i64 1, .int .i64 0, .int .i64 0] 51)).alloc (.cells #[.int .i64 0, .int .i64 0, .int .i64 0, .int .u64 1, .int .u64 0, .int .u64 0, .int .i64 1, .int .i64 0, .int .i64 0, .int .u64 2, .int .u64 0, .int .u64 0] 54)).heap[w.heap.size + 1]? = some (.cells #[.int .i64 0, .int .i64 0, .int .i64 0, .int .u64 1, .int .u64 0, .int .u64 0, .int .i64 1, .int .i64 0, .int .i64 0, .int .u64 2, .int .u64 0, .int .u64 0] 54 (0, 0)) := by rw [← hs1]; exact heap_alloc_new _ _
  have N := allW ((w.alloc (.cells #[.int .i64 1, .int .i64 0, .int .i64 0] 51)).alloc (.cells #[.int .i64 0, .int .i64 0, .int .i64 0, .int .u64 1, .int .u64 0, .int .u64 0, .int .i64 1, .int .i64 0, .int .i64 0, .int .u64 2, .int .u64 0, .int .u64 0] 54)) (both35_specs hh1) (both35_calls hh2)
  have HB := hide hb
  clear hb hs1 hh1 hh2
  go_enter Tryz.func8, Tryz.ntmps8
  go_wp2_with fail
  refine N.mono ?_
  rintro e w1 ⟨⟨q, rfl⟩, hb1⟩
  have hz := hb1.size
  have hz0 : w.heap.size ≤ w1.heap.size := by have := HB.out.size; omega
  have HB1 := hide (HB.out.trans (hb1.mono HB.out.size))
  clear N hb1 hz
  have N2 := fun W => nthW (n := 3) (L := 3) (i := 5) W (by omega) (by omega) (by omega)
  go_wp2_with fail
  refine (N2 _).mono ?_
  rintro e w2 ⟨hb2, ⟨_, rfl, hrow⟩ | ⟨hz, _⟩⟩
  · obtain ⟨X, hX⟩ : ∃ X, X = w1.alloc (.cells #[.int .i64 16, .int .i64 6, .int .i64 2, .int .i64 q] 46) := ⟨_, rfl⟩
    have hx0 : X.heap[w1.heap.size]? = some (.cells #[.int .i64 16, .int .i64 6, .int .i64 2, .int .i64 q] 46 (0, 0)) := by rw [hX]; exact heap_alloc_new _ _
    have hxb : Below w.heap.size w X := by rw [hX]; exact HB1.out.alloc (by omega) _
    rw [← hX] at hb2 hrow ⊢
    have hx1 := (hb2.block _ (Array.getElem?_eq_some_iff.1 hx0).1).trans hx0
    obtain ⟨g, hg⟩ : ∃ g, X.heap.size = g := ⟨_, rfl⟩
    rw [hg] at hrow ⊢
    have hr0 : w2.heap[g]? = some (.cells #[.int .i64 0, .int .i64 1, .int .i64 2] 3 (0, 0)) := hrow
    have f0 : w2.cell? ⟨w1.heap.size, 0, none⟩ = some (.int .i64 16) := cell_of_row _ _ 0 _ _ _ hx1
    have f1 : w2.cell? ⟨w1.heap.size, 1, none⟩ = some (.int .i64 6) := cell_of_row _ _ 1 _ _ _ hx1
    have f2 : w2.cell? ⟨w1.heap.size, 2, none⟩ = some (.int .i64 2) := cell_of_row _ _ 2 _ _ _ hx1
    have g0 : w2.cell? ⟨g, 0, none⟩ = some (.int .i64 0) := cell_of_row _ _ 0 _ _ _ hr0
    have g1 : w2.cell? ⟨g, 1, none⟩ = some (.int .i64 1) := cell_of_row _ _ 1 _ _ _ hr0
    have g2 : w2.cell? ⟨g, 2, none⟩ = some (.int .i64 2) := cell_of_row _ _ 2 _ _ _ hr0
    have HB2 := hide (hxb.trans (hb2.mono hxb.size))
    clear hX hx0 hxb hb2 hrow hx1 hg hr0 N2
    go_wp2_with fail
    go_ret
    exact ⟨rfl, HB2.out⟩
  · exact absurd rfl hz
theorem row_sl {w : World} {g n L i : Nat} (h : w.heap[g]? = some (.cells ((rowD n L i).map (Value.int .i64)).toArray 3 (0, 0))) (hL : L ≤ 12) : SlI w (.slice (some ⟨g, 0, none⟩) L L) (rowD n L i) := by
  have h2 := Sl.of_block (enc := ntEnc .i64) (sz := 1) (xs := rowD n L i) (c := L) h (by rw [rowD_len]; exact Nat.le_refl _) (by unfold maxLen; omega) (fun k x hx j u hu => by
    rcases j with _ | j
    · simp [ntEnc] at hu
      subst hu
      simp [hx]
    · simp [ntEnc] at hu)
  rw [rowD_len] at h2
  exact h2
set_option maxRecDepth 100000 in
set_option maxHeartbeats 4000000 in
theorem law35 (n L i : Int) (w : World) (hi : i ≤ 9223372036854775807) : Calls Tryz.prog 3 #[.int .i64 n, .int .i64 L, .int .i64 i] w fun e w' => e = .returned (.bool true) ∧ Below w.heap.size w w' := by
  by_cases h : 1 ≤ n ∧ n ≤ 16 ∧ 0 ≤ L ∧ L ≤ 12 ∧ 0 ≤ i
  · obtain ⟨n, rfl⟩ := Int.eq_ofNat_of_zero_le (show 0 ≤ n by omega)
    obtain ⟨L, rfl⟩ := Int.eq_ofNat_of_zero_le (show 0 ≤ L by omega)
    obtain ⟨i, rfl⟩ := Int.eq_ofNat_of_zero_le (show 0 ≤ i by omega)
    have d1 : decide ((n : Int) < 1) = false := by rw [decide_eq_false_iff_not]; omega
    have d2 : decide ((16 : Int) < n) = false := by rw [decide_eq_false_iff_not]; omega
    have d3 : decide ((L : Int) < 0) = false := by rw [decide_eq_false_iff_not]; omega
    have d4 : decide ((12 : Int) < L) = false := by rw [decide_eq_false_iff_not]; omega
    have d5 : decide ((i : Int) < 0) = false := by rw [decide_eq_false_iff_not]; omega
    have hn : 1 ≤ n ∧ n ≤ 16 := by omega
    have hL : L ≤ 12 := by omega
    have hi2 : i ≤ 9223372036854775807 := by omega
    have N := nthW (i := i) w hn hL hi2
    have NR0 := fun W => row35W (i := i) W hn hL hi2
    have HN := hide hn
    have HLL := hide hL
    have HI := hide hi2
    clear h hi hn hL hi2
    go_enter Tryz.func3, Tryz.ntmps3
    go_wp2_with fail
    refine N.mono ?_
    rintro e w1 ⟨hb1, hcase⟩
    have NR := NR0 w1
    have HB1 := hide hb1
    clear N NR0 hb1
    rcases hcase with ⟨h0, rfl, hrow⟩ | ⟨h0, rfl⟩
    · have HROW := hide hrow
      have H0 := hide h0
      clear hrow h0
      go_wp2_with fail
      refine NR.mono ?_
      rintro e w2 ⟨⟨v, rfl, hS⟩, hb2⟩
      obtain ⟨A, c, rfl, s1, s2, s3⟩ := id hS
      rw [rowD_len] at s1
      simp only [rowD_len] at *
      have HS := hide hS
      have HB12 := hide hb2
      have HB2 := hide (HB1.out.trans (hb2.mono HB1.out.size))
      have HS3 := hide s3
      have hLi : (L : Int) ≤ 12 := by have := HLL.out; omega
      clear NR hS hb2 s1 s2 s3
      go_wp2_with fail
      go_loopw [45, 9] (fun k b wr => ∃ j : Nat, j ≤ L ∧ k = .int .i64 (j : Int) ∧ b = .int .i64 (hornD n ((rowD n L i).take j) 0) ∧ wr = w2) (fun k _ _ => L - (intOf k).toNat)
      case atStart => exact ⟨0, Nat.zero_le _, rfl, rfl, rfl⟩
      case round =>
        obtain ⟨j, hj, rfl, rfl, rfl⟩ := hrel
        by_cases hlt : j < L
        · have hltI : (j : Int) < (L : Int) := by omega
          have hjI : (0 : Int) ≤ (j : Int) := by omega
          obtain ⟨x, b, hx, hb, hle, hnext⟩ := horn_bd (i := i) HN.out.1 hlt
          obtain ⟨bb, oo, rfl, hbb, hc⟩ := HS3.out j x hx
          have c0 := nt_cell hc
          simp only [Nat.mul_one] at c0
          have hle1 : ((b * n + x : Nat) : Int) ≤ (i : Int) := by exact_mod_cast hle
          rw [Int.natCast_add, Int.natCast_mul] at hle1
          have hle2 : (b : Int) * (n : Int) + (x : Int) ≤ 9223372036854775807 := by have := HI.out; omega
          have hbn : (0 : Int) ≤ (b : Int) * (n : Int) := Int.mul_nonneg (by omega) (by omega)
          have k1 : IntKind.i64.wrap ((b : Int) * (n : Int)) = (b : Int) * (n : Int) := wrap_i64 (by omega) (by omega)
          have k2 : IntKind.i64.wrap ((b : Int) * (n : Int) + (x : Int)) = (b : Int) * (n : Int) + (x : Int) := wrap_i64 (by omega) (by omega)
          rw [hb]
          have HNX := hide hnext
          clear hx hb hle hnext hc hle1 hle2 hbn
          go_wp2
          go_roundw
          case rel => exact ⟨j + 1, by omega, by go_num, by rw [HNX.out]; push_cast; rfl, by first | rfl | trivial⟩
          case measure => first | (simp [intOf]; done) | (simp [intOf]; omega)
        · obtain rfl : j = L := by omega
          rw [List.take_of_length_le (by rw [rowD_len]; exact Nat.le_refl _), horn_row n HN.out.1]
          have hmod : i % n ^ j = i := (row_over HN.out.1).2 H0.out
          rw [hmod]
          have hSA := row_sl (HROW.out) HLL.out
          have hb12 := HB2.out
          have hsA2 := hSA.below HB12.out (Nat.le_refl _)
          have NI := ints_any _ _ (rowD n j i) (rowD n j i) wr hsA2 HS.out
          clear hSA hsA2 hmod hb12
          go_wp2_with fail
          refine NI.mono ?_
          rintro e w3 ⟨he, q, rfl⟩
          have he' : e = .returned (.bool true) := he.trans (by simp)
          subst he'
          clear he
          clear NI
          go_wp2_with fail
          refine (both35 _).mono ?_
          rintro e w4 ⟨rfl, hb4⟩
          have HB4 := hide hb4
          clear hb4
          go_wp2
          go_ret
          exact ⟨rfl, (below_drewN HB2.out q).trans (HB4.out.mono (below_drewN HB2.out q).size)⟩
    · have H0 := hide h0
      clear h0
      go_wp2_with fail
      refine NR.mono ?_
      rintro e w2 ⟨⟨v, rfl, hS⟩, hb2⟩
      obtain ⟨A, c, rfl, s1, s2, s3⟩ := id hS
      rw [rowD_len] at s1
      simp only [rowD_len] at *
      have HS := hide hS
      have HB12 := hide hb2
      have HB2 := hide (HB1.out.trans (hb2.mono HB1.out.size))
      have HS3 := hide s3
      have hLi : (L : Int) ≤ 12 := by have := HLL.out; omega
      clear NR hS hb2 s1 s2 s3
      go_wp2_with fail
      go_loopw [45, 9] (fun k b wr => ∃ j : Nat, j ≤ L ∧ k = .int .i64 (j : Int) ∧ b = .int .i64 (hornD n ((rowD n L i).take j) 0) ∧ wr = w2) (fun k _ _ => L - (intOf k).toNat)
      case atStart => exact ⟨0, Nat.zero_le _, rfl, rfl, rfl⟩
      case round =>
        obtain ⟨j, hj, rfl, rfl, rfl⟩ := hrel
        by_cases hlt : j < L
        · have hltI : (j : Int) < (L : Int) := by omega
          have hjI : (0 : Int) ≤ (j : Int) := by omega
          obtain ⟨x, b, hx, hb, hle, hnext⟩ := horn_bd (i := i) HN.out.1 hlt
          obtain ⟨bb, oo, rfl, hbb, hc⟩ := HS3.out j x hx
          have c0 := nt_cell hc
          simp only [Nat.mul_one] at c0
          have hle1 : ((b * n + x : Nat) : Int) ≤ (i : Int) := by exact_mod_cast hle
          rw [Int.natCast_add, Int.natCast_mul] at hle1
          have hle2 : (b : Int) * (n : Int) + (x : Int) ≤ 9223372036854775807 := by have := HI.out; omega
          have hbn : (0 : Int) ≤ (b : Int) * (n : Int) := Int.mul_nonneg (by omega) (by omega)
          have k1 : IntKind.i64.wrap ((b : Int) * (n : Int)) = (b : Int) * (n : Int) := wrap_i64 (by omega) (by omega)
          have k2 : IntKind.i64.wrap ((b : Int) * (n : Int) + (x : Int)) = (b : Int) * (n : Int) + (x : Int) := wrap_i64 (by omega) (by omega)
          rw [hb]
          have HNX := hide hnext
          clear hx hb hle hnext hc hle1 hle2 hbn
          go_wp2
          go_roundw
          case rel => exact ⟨j + 1, by omega, by go_num, by rw [HNX.out]; push_cast; rfl, by first | rfl | trivial⟩
          case measure => first | (simp [intOf]; done) | (simp [intOf]; omega)
        · obtain rfl : j = L := by omega
          rw [List.take_of_length_le (by rw [rowD_len]; exact Nat.le_refl _), horn_row n HN.out.1]
          obtain ⟨b, hb⟩ : ∃ b, i % n ^ j = b := ⟨_, rfl⟩
          have hmod : ¬ (b : Int) = (i : Int) := by
            have := mt (row_over (n := n) (k := j) (i := i) HN.out.1).1 H0.out
            rw [hb] at this
            omega
          rw [hb]
          clear hb
          go_wp2_with fail
          refine (both35 _).mono ?_
          rintro e w4 ⟨rfl, hb4⟩
          have HB4 := hide hb4
          clear hb4
          go_wp2
          go_ret
          exact ⟨rfl, HB2.out.trans (HB4.out.mono HB2.out.size)⟩
  · have N := nthBad w h
    have key : decide (n < 1) = true ∨ (decide (n < 1) = false ∧ decide (16 < n) = true) ∨ (decide (n < 1) = false ∧ decide (16 < n) = false ∧ decide (L < 0) = true) ∨ (decide (n < 1) = false ∧ decide (16 < n) = false ∧ decide (L < 0) = false ∧ decide (12 < L) = true) ∨ (decide (n < 1) = false ∧ decide (16 < n) = false ∧ decide (L < 0) = false ∧ decide (12 < L) = false ∧ decide (i < 0) = true) := by
      simp only [decide_eq_true_eq, decide_eq_false_iff_not]
      omega
    have NB := both35 w
    clear h hi
    rcases key with d1 | ⟨d1, d2⟩ | ⟨d1, d2, d3⟩ | ⟨d1, d2, d3, d4⟩ | ⟨d1, d2, d3, d4, d5⟩
    all_goals
      go_enter Tryz.func3, Tryz.ntmps3
      go_wp2_with fail
      refine N.mono ?_
      rintro e w1 ⟨rfl, rfl⟩
      go_wp2_with fail
      refine NB.mono ?_
      rintro e w2 ⟨rfl, hb⟩
      have HB := hide hb
      clear hb
      go_wp2
      go_ret
      exact ⟨rfl, HB.out⟩
end Go.Proofs.YtfghmlpjbedomaaGreat
