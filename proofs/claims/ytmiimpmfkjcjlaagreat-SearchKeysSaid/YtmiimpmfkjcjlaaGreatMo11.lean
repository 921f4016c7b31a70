import Derived.Test.YtmiimpmfkjcjlaaGreatMo10
namespace Go.Proofs.YtmiimpmfkjcjlaaGreat
open Go.RowKit
attribute [local go_sem] run_store_fn run_store_nilfn
set_option maxRecDepth 100000 in
set_option maxHeartbeats 1000000 in
theorem mright_7 (n p q : Int) (A : Option Addr) (m vc : Nat) (st : List Int) (w : World) (h : SlW w (.slice A m vc) st) (hm : st.length = m) (hl : (m : Int) ≤ 9223372036854775807) (hE : sizeE n ⟨7, p, q⟩ = 0) :
    Calls Tryz.prog 11 #[.int .i64 n, .agg #[.int .i64 7, .int .i64 p, .int .i64 q], .slice A m vc] w fun e w' => e = .returned (.bool (decide (0 < m) && rightB17 p (m - 1))) ∧ Below w.heap.size w w' := by
  have N0 : ∀ W, Calls Tryz.prog 9 #[.int .i64 n, .agg #[.int .i64 7, .int .i64 p, .int .i64 q]] W (NewMPost n ⟨7, p, q⟩ W) := fun W => modelNew n ⟨7, p, q⟩ W
  unfold NewMPost at N0
  have hm63 : (m : Int) ≤ 9223372036854775807 := hl
  have HNL := newM_len n _ hE
  rw [hE] at N0
  simp only [ne_eq, not_true_eq_false, false_and, false_or, true_and] at N0
  generalize newM n ⟨7, p, q⟩ = NL at *
  by_cases h0 : m = 0
  · subst h0
    clear hE HNL
    go_enter Tryz.func11, Tryz.ntmps11
    go_wp2_with fail
    refine (N0 _).mono ?_
    rintro e w1 ⟨v, rfl, _, hb⟩
    have hbx : Below (w.heap.size + 1) (w.alloc (.cells #[.int .i64 7, .int .i64 p, .int .i64 q] 23)) w1 := hb.mono (by simp)
    obtain ⟨s0, s1, s2, _⟩ := cells3 ((hbx.block w.heap.size (by simp)).trans (heap_alloc_new _ _))
    have HB1 : Hid (Below w.heap.size w w1) := hide (((Below.refl _ w).alloc (Nat.le_refl _) _).trans (hbx.mono (by simp)))
    have hz1 : w.heap.size < w1.heap.size := by have := hbx.size; simp at this; omega
    clear hb hbx
    go_wp2_with fail
    refine wp_region_seq (Below w1.heap.size w1) (.take 0 <| .take 1 <| .take 2 <| .take 3 <| .take 4 <| .take 5 <| .take 6 <| .take 7 <| .run 8 <| .take 9 <| .take 10 <| .done) (by kernel_rfl) (by kernel_rfl) (by kernel_rfl) (by (repeat' (first | exact Below.refl _ _ | assumption | refine Below.drew ?_ | refine below_drewN ?_ _ | refine Below.alloc ?_ (by simp <;> omega) _ | refine Below.setCell ?_ (by simp <;> omega) _))) ?_
    repeat (first | (refine seq_take (v := ?_) rfl (by rfl) ?_ ?_; rotate_left; (focus (intro wS hS; have z0 := (hS.cell (p := ⟨w.heap.size, 0, none⟩) hz1).trans s0; have z1 := (hS.cell (p := ⟨w.heap.size, 1, none⟩) hz1).trans s1; go_simp; exact rfl)); simp only [Act.put, List.setIfInBounds_toArray, List.set_cons_zero, List.set_cons_succ]) | (refine seq_skip rfl (by rfl) ?_; simp only [Act.put, List.setIfInBounds_toArray, List.set_cons_zero, List.set_cons_succ]))
    refine seq_pass rfl (by rfl) (by (repeat' (first | exact Below.refl _ _ | assumption | refine Below.drew ?_ | refine below_drewN ?_ _ | refine Below.alloc ?_ (by simp <;> omega) _ | refine Below.setCell ?_ (by simp <;> omega) _))) ?_
    simp only [Act.put, List.setIfInBounds_toArray, List.set_cons_zero, List.set_cons_succ]
    repeat (first | (refine seq_take (v := ?_) rfl (by rfl) ?_ ?_; rotate_left; (focus (intro wS hS; have z0 := (hS.cell (p := ⟨w.heap.size, 0, none⟩) hz1).trans s0; have z1 := (hS.cell (p := ⟨w.heap.size, 1, none⟩) hz1).trans s1; go_simp; exact rfl)); simp only [Act.put, List.setIfInBounds_toArray, List.set_cons_zero, List.set_cons_succ]) | (refine seq_skip rfl (by rfl) ?_; simp only [Act.put, List.setIfInBounds_toArray, List.set_cons_zero, List.set_cons_succ]))
    refine seq_nil ?_
    go_wp2
    go_ret
    exact ⟨ret_bool (by simp), by have := HB1.out; (repeat' (first | exact Below.refl _ _ | assumption | refine Below.drew ?_ | refine below_drewN ?_ _ | refine Below.alloc ?_ (by simp <;> omega) _ | refine Below.setCell ?_ (by simp <;> omega) _))⟩
  · have hm0 : 0 < m := by omega
    have q0 : (0 : Int) < (m : Int) := by omega
    have q1 : (1 : Int) ≤ (m : Int) := by omega
    have d0 : decide ((0 : Int) < (m : Int)) = true := by simpa using hm0
    have e0 : decide (0 < m) = true := by simpa using hm0
    rw [e0, Bool.true_and]
    obtain ⟨x, hx⟩ : ∃ x, st[0]? = some x := ⟨_, List.getElem?_eq_getElem (by omega)⟩
    obtain ⟨sb, so, rfl, _, hsb⟩ := sl_at h 0 x hx
    have hsl0 := h
    obtain ⟨X, hX, hXs⟩ := sl_drop (k := 1) h (by omega)
    unfold sliced at hX
    have hdl : (st.drop 1).length = m - 1 := by rw [List.length_drop, hm]
    have hvm : m ≤ vc := by obtain ⟨_, _, e, h1, _⟩ := h; cases e; omega
    by_cases hvc : vc = 1
    · rw [if_pos hvc] at hX
      subst hvc
      obtain rfl : m = 1 := by omega
      subst hX
      clear h0 e0 hx
      have N1 := fun v W (h : SlW W v (st.drop 1)) => right_any v (st.drop 1) p W h
      rw [hdl] at N1
      have HX := hide hXs
      have HM := hide hm
      clear hXs hE HNL hdl hsl0 h
      go_enter Tryz.func11, Tryz.ntmps11
      go_wp2_with fail
      refine (N0 _).mono ?_
      rintro e w1 ⟨v, rfl, _, hb⟩
      have hbx : Below (w.heap.size + 1) (w.alloc (.cells #[.int .i64 7, .int .i64 p, .int .i64 q] 23)) w1 := hb.mono (by simp)
      obtain ⟨s0, s1, s2, _⟩ := cells3 ((hbx.block w.heap.size (by simp)).trans (heap_alloc_new _ _))
      have HB1 : Hid (Below w.heap.size w w1) := hide (((Below.refl _ w).alloc (Nat.le_refl _) _).trans (hbx.mono (by simp)))
      have hz1 : w.heap.size < w1.heap.size := by have := hbx.size; simp at this; omega
      clear hb hbx
      go_wp2_with fail
      refine wp_region_seq (Below w1.heap.size w1) (.take 0 <| .take 1 <| .take 2 <| .take 3 <| .take 4 <| .take 5 <| .take 6 <| .take 7 <| .run 8 <| .take 9 <| .take 10 <| .done) (by kernel_rfl) (by kernel_rfl) (by kernel_rfl) (by (repeat' (first | exact Below.refl _ _ | assumption | refine Below.drew ?_ | refine below_drewN ?_ _ | refine Below.alloc ?_ (by simp <;> omega) _ | refine Below.setCell ?_ (by simp <;> omega) _))) ?_
      repeat (first | (refine seq_take (v := ?_) rfl (by rfl) ?_ ?_; rotate_left; (focus (intro wS hS; have z0 := (hS.cell (p := ⟨w.heap.size, 0, none⟩) hz1).trans s0; have z1 := (hS.cell (p := ⟨w.heap.size, 1, none⟩) hz1).trans s1; go_simp; exact rfl)); simp only [Act.put, List.setIfInBounds_toArray, List.set_cons_zero, List.set_cons_succ]) | (refine seq_skip rfl (by rfl) ?_; simp only [Act.put, List.setIfInBounds_toArray, List.set_cons_zero, List.set_cons_succ]))
      refine seq_run rfl (by rfl) (fun K hK => ?_)
      go_simp
      refine (N1 _ _ ?_).mono ?_
      · exact HX.out.below HB1.out.drew (Nat.le_refl _)
      rintro e w2 ⟨rfl, hb2⟩
      have hB2 : Below w1.heap.size w1 w2 := (Below.refl _ _).drew.trans (hb2.mono (by simp))
      refine hK _ _ hB2 ?_
      clear hK K
      repeat (first | (refine seq_take (v := ?_) rfl (by rfl) ?_ ?_; rotate_left; (focus (intro wS hS; have z0 := (hS.cell (p := ⟨w.heap.size, 0, none⟩) hz1).trans s0; have z1 := (hS.cell (p := ⟨w.heap.size, 1, none⟩) hz1).trans s1; go_simp; exact rfl)); simp only [Act.put, List.setIfInBounds_toArray, List.set_cons_zero, List.set_cons_succ]) | (refine seq_skip rfl (by rfl) ?_; simp only [Act.put, List.setIfInBounds_toArray, List.set_cons_zero, List.set_cons_succ]))
      refine seq_nil ?_
      have HB2 : Hid (Below w.heap.size w w2) := hide (HB1.out.trans (hB2.mono (by omega)))
      clear hb2 hB2
      go_wp2
      go_ret
      exact ⟨ret_bool (by first | rfl | simp), HB2.out⟩
    · rw [if_neg hvc] at hX
      simp only [Option.map_some, Addr.add, Nat.mul_one] at hX
      rw [if_neg (by omega)] at hX
      subst hX
      clear h0 e0 hx
      have N1 := fun v W (h : SlW W v (st.drop 1)) => right_any v (st.drop 1) p W h
      rw [hdl] at N1
      have HX := hide hXs
      have HM := hide hm
      clear hXs hE HNL hdl hsl0 h
      go_enter Tryz.func11, Tryz.ntmps11
      go_wp2_with fail
      refine (N0 _).mono ?_
      rintro e w1 ⟨v, rfl, _, hb⟩
      have hbx : Below (w.heap.size + 1) (w.alloc (.cells #[.int .i64 7, .int .i64 p, .int .i64 q] 23)) w1 := hb.mono (by simp)
      obtain ⟨s0, s1, s2, _⟩ := cells3 ((hbx.block w.heap.size (by simp)).trans (heap_alloc_new _ _))
      have HB1 : Hid (Below w.heap.size w w1) := hide (((Below.refl _ w).alloc (Nat.le_refl _) _).trans (hbx.mono (by simp)))
      have hz1 : w.heap.size < w1.heap.size := by have := hbx.size; simp at this; omega
      clear hb hbx
      go_wp2_with fail
      refine wp_region_seq (Below w1.heap.size w1) (.take 0 <| .take 1 <| .take 2 <| .take 3 <| .take 4 <| .take 5 <| .take 6 <| .take 7 <| .run 8 <| .take 9 <| .take 10 <| .done) (by kernel_rfl) (by kernel_rfl) (by kernel_rfl) (by (repeat' (first | exact Below.refl _ _ | assumption | refine Below.drew ?_ | refine below_drewN ?_ _ | refine Below.alloc ?_ (by simp <;> omega) _ | refine Below.setCell ?_ (by simp <;> omega) _))) ?_
      repeat (first | (refine seq_take (v := ?_) rfl (by rfl) ?_ ?_; rotate_left; (focus (intro wS hS; have z0 := (hS.cell (p := ⟨w.heap.size, 0, none⟩) hz1).trans s0; have z1 := (hS.cell (p := ⟨w.heap.size, 1, none⟩) hz1).trans s1; go_simp; exact rfl)); simp only [Act.put, List.setIfInBounds_toArray, List.set_cons_zero, List.set_cons_succ]) | (refine seq_skip rfl (by rfl) ?_; simp only [Act.put, List.setIfInBounds_toArray, List.set_cons_zero, List.set_cons_succ]))
      refine seq_run rfl (by rfl) (fun K hK => ?_)
      go_simp
      refine (N1 _ _ ?_).mono ?_
      · exact HX.out.below HB1.out.drew (Nat.le_refl _)
      rintro e w2 ⟨rfl, hb2⟩
      have hB2 : Below w1.heap.size w1 w2 := (Below.refl _ _).drew.trans (hb2.mono (by simp))
      refine hK _ _ hB2 ?_
      clear hK K
      repeat (first | (refine seq_take (v := ?_) rfl (by rfl) ?_ ?_; rotate_left; (focus (intro wS hS; have z0 := (hS.cell (p := ⟨w.heap.size, 0, none⟩) hz1).trans s0; have z1 := (hS.cell (p := ⟨w.heap.size, 1, none⟩) hz1).trans s1; go_simp; exact rfl)); simp only [Act.put, List.setIfInBounds_toArray, List.set_cons_zero, List.set_cons_succ]) | (refine seq_skip rfl (by rfl) ?_; simp only [Act.put, List.setIfInBounds_toArray, List.set_cons_zero, List.set_cons_succ]))
      refine seq_nil ?_
      have HB2 : Hid (Below w.heap.size w w2) := hide (HB1.out.trans (hB2.mono (by omega)))
      clear hb2 hB2
      go_wp2
      go_ret
      exact ⟨ret_bool (by first | rfl | simp), HB2.out⟩
set_option maxRecDepth 100000 in
set_option maxHeartbeats 1000000 in
theorem mright_o (n k p q : Int) (A : Option Addr) (m vc : Nat) (st : List Int) (w : World) (hm : st.length = m) (hl : (m : Int) ≤ 9223372036854775807) (hE : sizeE n ⟨k, p, q⟩ = 0) (h7 : k ≠ 7) :
    Calls Tryz.prog 11 #[.int .i64 n, .agg #[.int .i64 k, .int .i64 p, .int .i64 q], .slice A m vc] w fun e w' => e = .returned (.bool (shapeM n ⟨k, p, q⟩ st)) ∧ Below w.heap.size w w' := by
  have N0 : ∀ W, Calls Tryz.prog 9 #[.int .i64 n, .agg #[.int .i64 k, .int .i64 p, .int .i64 q]] W (NewMPost n ⟨k, p, q⟩ W) := fun W => modelNew n ⟨k, p, q⟩ W
  unfold NewMPost at N0
  have hm63 : (m : Int) ≤ 9223372036854775807 := hl
  have HNL := newM_len n _ hE
  rw [hE] at N0
  simp only [ne_eq, not_true_eq_false, false_and, false_or, true_and] at N0
  have hS : shapeM n ⟨k, p, q⟩ st = if k = 8 then decide (m % 2 = 0) else decide (m = (newM n ⟨k, p, q⟩).length) := by unfold shapeM; rw [if_neg h7, hm]
  rw [hS]
  have d7 : (k == 7) = false := by simpa using h7
  generalize newM n ⟨k, p, q⟩ = NL at *
  have hNL : (NL.length : Int) ≤ 80 := by omega
  clear hS hE h7
  by_cases h8 : k = 8
  · subst h8
    rw [if_pos rfl]
    have d2 : ((m : Int).tmod 2 == 0) = decide (m % 2 = 0) := by
      rw [Bool.eq_iff_iff]
      simp
      rw [Int.tmod_eq_emod_of_nonneg (by omega)]
      omega
    go_enter Tryz.func11, Tryz.ntmps11
    go_wp2_with fail
    refine (N0 _).mono ?_
    rintro e w1 ⟨v, rfl, _, hb⟩
    have hbx : Below (w.heap.size + 1) (w.alloc (.cells #[.int .i64 8, .int .i64 p, .int .i64 q] 23)) w1 := hb.mono (by simp)
    obtain ⟨s0, s1, s2, _⟩ := cells3 ((hbx.block w.heap.size (by simp)).trans (heap_alloc_new _ _))
    have HB1 : Hid (Below w.heap.size w w1) := hide (((Below.refl _ w).alloc (Nat.le_refl _) _).trans (hbx.mono (by simp)))
    have hz1 : w.heap.size < w1.heap.size := by have := hbx.size; simp at this; omega
    clear hb hbx
    go_wp2
    go_ret
    exact ⟨ret_bool (by first | exact d2 | (rw [← d2]) | (simp; omega)), HB1.out⟩
  · rw [if_neg h8]
    have d8 : (k == 8) = false := by simpa using h8
    have d2 : ((m : Int) == (NL.length : Int)) = decide (m = NL.length) := by
      rw [Bool.eq_iff_iff]
      simp
      omega
    go_enter Tryz.func11, Tryz.ntmps11
    go_wp2_with fail
    refine (N0 _).mono ?_
    rintro e w1 ⟨v, rfl, hown, hb⟩
    obtain ⟨nA, nc, rfl⟩ := own_slice hown
    clear hown h8
    have hbx : Below (w.heap.size + 1) (w.alloc (.cells #[.int .i64 k, .int .i64 p, .int .i64 q] 23)) w1 := hb.mono (by simp)
    obtain ⟨s0, s1, s2, _⟩ := cells3 ((hbx.block w.heap.size (by simp)).trans (heap_alloc_new _ _))
    have HB1 : Hid (Below w.heap.size w w1) := hide (((Below.refl _ w).alloc (Nat.le_refl _) _).trans (hbx.mono (by simp)))
    have hz1 : w.heap.size < w1.heap.size := by have := hbx.size; simp at this; omega
    clear hb hbx
    go_wp2
    go_ret
    exact ⟨ret_bool (by first | exact d2 | (rw [← d2]) | (simp; omega)), HB1.out⟩
set_option maxRecDepth 100000 in
set_option maxHeartbeats 1000000 in
theorem mright_e (n k p q : Int) (A : Option Addr) (m vc : Nat) (w : World) (hE : sizeE n ⟨k, p, q⟩ ≠ 0) :
    Calls Tryz.prog 11 #[.int .i64 n, .agg #[.int .i64 k, .int .i64 p, .int .i64 q], .slice A m vc] w fun e w' => e = .returned (.bool false) ∧ Below w.heap.size w w' := by
  have N0 : ∀ W, Calls Tryz.prog 9 #[.int .i64 n, .agg #[.int .i64 k, .int .i64 p, .int .i64 q]] W (NewMPost n ⟨k, p, q⟩ W) := fun W => modelNew n ⟨k, p, q⟩ W
  unfold NewMPost at N0
  generalize sizeE n ⟨k, p, q⟩ = E at *
  have he : (E != 0) = true := by simpa using hE
  go_enter Tryz.func11, Tryz.ntmps11
  go_wp2_with fail
  refine (N0 _).mono ?_
  rintro e w1 (⟨_, rfl, hb⟩ | ⟨h, _⟩)
  · have hbx : Below (w.heap.size + 1) (w.alloc (.cells #[.int .i64 k, .int .i64 p, .int .i64 q] 23)) w1 := hb.mono (by simp)
    obtain ⟨s0, s1, s2, _⟩ := cells3 ((hbx.block w.heap.size (by simp)).trans (heap_alloc_new _ _))
    have HB1 : Hid (Below w.heap.size w w1) := hide (((Below.refl _ w).alloc (Nat.le_refl _) _).trans (hbx.mono (by simp)))
    have hz1 : w.heap.size < w1.heap.size := by have := hbx.size; simp at this; omega
    clear hb hbx
    go_wp2
    go_ret
    exact ⟨rfl, HB1.out⟩
  · exact absurd h hE
theorem mright_any (n : Int) (s : Sp) (A : Option Addr) (m vc : Nat) (st : List Int) (w : World) (h : SlW w (.slice A m vc) st) (hm : st.length = m) (hl : (m : Int) ≤ 9223372036854775807) :
    Calls Tryz.prog 11 #[.int .i64 n, spV s, .slice A m vc] w fun e w' => e = .returned (.bool (rightM n s st)) ∧ Below w.heap.size w w' := by
  obtain ⟨k, p, q⟩ := s
  by_cases hE : sizeE n ⟨k, p, q⟩ = 0
  · have hR : rightM n ⟨k, p, q⟩ st = shapeM n ⟨k, p, q⟩ st := by unfold rightM; rw [decide_eq_true hE]; rfl
    rw [hR]
    by_cases h7 : k = 7
    · subst h7
      have hS : shapeM n ⟨7, p, q⟩ st = (decide (0 < m) && rightB17 p (m - 1)) := by unfold shapeM; rw [if_pos rfl, hm]
      rw [hS]
      exact mright_7 n p q A m vc st w h hm hl hE
    · exact mright_o n k p q A m vc st w hm hl hE h7
  · have hR : rightM n ⟨k, p, q⟩ st = false := by unfold rightM; rw [decide_eq_false hE]; rfl
    rw [hR]
    exact mright_e n k p q A m vc w hE
end Go.Proofs.YtmiimpmfkjcjlaaGreat
