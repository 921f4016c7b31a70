/- BoundRises: for every input the law returns true, and the input reads as it did. -/
import Derived.Test.YtdilnfnakhhhaaaRowSp
import Derived.Test.YtdilnfnakhhhaaaTb9
namespace Go.Proofs.Ytdilnfnakhhhaaa
open Go.ChangeShapes Go.WideShapes Go.ChangeAt Go.RowKit

theorem most_mono {a b : Int} {s : Sp} {kd : Int} (ha : sizeE a s = 0) (hb : sizeE b s = 0) (hab : a ≤ b) : mostT a s kd ≤ mostT b s kd := by
  obtain ⟨⟨ha1, ha2⟩, ⟨h0, h9⟩, hr⟩ := sizeE_zero ha
  obtain ⟨⟨hb1, hb2⟩, _, _⟩ := sizeE_zero hb
  obtain ⟨k, p, q⟩ := s
  simp only at *
  have e1 := Int.mul_le_mul hab (show a + 2 ≤ b + 2 by omega) (show 0 ≤ a + 2 by omega) (show 0 ≤ b by omega)
  have e2 := Int.mul_le_mul (show 2 * a ≤ 2 * b by omega) hab (show 0 ≤ a by omega) (show 0 ≤ 2 * b by omega)
  have e4 := Int.mul_nonneg (show 0 ≤ 2 * a by omega) (show 0 ≤ a by omega)
  have e3 := Int.mul_le_mul (show a + 1 ≤ b + 1 by omega) (show 15 * (2 * a * a + 8) + 1 ≤ 15 * (2 * b * b + 8) + 1 by omega) (show 0 ≤ 15 * (2 * a * a + 8) + 1 by omega) (show 0 ≤ b + 1 by omega)
  have hk : k = 0 ∨ k = 1 ∨ k = 2 ∨ k = 3 ∨ k = 4 ∨ k = 5 ∨ k = 6 ∨ k = 7 ∨ k = 8 ∨ k = 9 := by omega
  unfold mostT
  rcases hk with rfl | rfl | rfl | rfl | rfl | rfl | rfl | rfl | rfl | rfl <;> simp [rightT] at hr ⊢
  · split <;> omega
  · split <;> omega
  · have e5 := Int.mul_le_mul_of_nonneg_left (show a + 2 ≤ b + 2 by omega) (show 0 ≤ p by omega)
    split <;> omega
  · omega
  · split <;> omega

theorem mostE_zero {n : Int} {s : Sp} {kd : Int} (h : mostE n s kd = 0) : sizeE n s = 0 ∧ 0 ≤ kd ∧ kd < actsT s.kind s.p := by
  unfold mostE at h
  by_cases h1 : sizeE n s = 0
  · rw [if_pos h1] at h
    by_cases h2 : 0 ≤ kd ∧ kd < actsT s.kind s.p
    · exact ⟨h1, h2⟩
    · rw [if_neg h2] at h; cases h
  · rw [if_neg h1] at h
    exact absurd h h1
theorem mostV_zero (n : Int) (s : Sp) (kd : Int) : (mostV n s kd == 0) = (mostE n s kd != 0) := by
  by_cases h : mostE n s kd = 0
  · have hz := mostE_zero h
    have hb := most_bd hz.1 hz.2.1 hz.2.2
    have hv : mostV n s kd = mostT n s kd := by unfold mostV; rw [if_pos h]
    rw [hv, h]
    simp; omega
  · have hv : mostV n s kd = 0 := by unfold mostV; rw [if_neg h]
    rw [hv]
    simpa using h

set_option maxRecDepth 100000 in
set_option maxHeartbeats 4000000 in
theorem law_rises (q0 q1 : Int) (s : Sp) (kd : Int) (w : World) :
    Calls Try.prog 11 #[.agg #[.int .i64 q0, .int .i64 q1], spV s, .int .i64 kd] w fun e w' => e = .returned (.bool true) ∧ Below w.heap.size w w' := by
  have N0 := fun W => most_any q0 s kd W
  have N1 := fun W => most_any q1 s kd W
  have hX := mostV_zero q0 s kd
  have hY := mostV_zero q1 s kd
  have hlast : (mostE q0 s kd != 0) = false → (mostE q1 s kd != 0) = false → decide (q1 < q0) = false → decide (1 ≤ mostV q0 s kd) = true ∧ decide (mostV q0 s kd ≤ mostV q1 s kd) = true := by
    intro h1 h2 h3
    have h1' : mostE q0 s kd = 0 := by simpa using h1
    have h2' : mostE q1 s kd = 0 := by simpa using h2
    have h3' : q0 ≤ q1 := by simpa using h3
    have a := mostE_zero h1'
    have b := mostE_zero h2'
    have hv1 : mostV q0 s kd = mostT q0 s kd := by unfold mostV; rw [if_pos h1']
    have hv2 : mostV q1 s kd = mostT q1 s kd := by unfold mostV; rw [if_pos h2']
    rw [hv1, hv2]
    have := most_bd a.1 a.2.1 a.2.2
    have := most_mono (kd := kd) a.1 b.1 h3'
    simp; omega
  generalize mostV q0 s kd = X at *
  generalize mostV q1 s kd = Y at *
  generalize mostE q0 s kd = E at *
  generalize mostE q1 s kd = F at *
  obtain ⟨b0, hE⟩ : ∃ b, (E != 0) = b := ⟨_, rfl⟩
  obtain ⟨b1, hF⟩ : ∃ b, (F != 0) = b := ⟨_, rfl⟩
  obtain ⟨b2, hq⟩ : ∃ b, decide (q1 < q0) = b := ⟨_, rfl⟩
  rw [hE] at hX hlast
  rw [hF] at hY hlast
  rw [hq] at hlast
  have hl2 : b0 = false → b1 = false → b2 = false → decide (1 ≤ X) = true := fun a b c => (hlast a b c).1
  have hl3 : b0 = false → b1 = false → b2 = false → decide (X ≤ Y) = true := fun a b c => (hlast a b c).2
  clear hlast
  cases b0 <;> cases b1 <;> cases b2
  all_goals
    try have g2 := hl2 rfl rfl rfl
    try have g3 := hl3 rfl rfl rfl
    clear hl2 hl3
    go_enter Try.func11, Try.ntmps11
    go_wp2_with fail
    refine (N0 _).mono ?_
    rintro e w1 ⟨rfl, hb1⟩
    have hB1 : Below (w.heap.size + 1 + 1) ((w.alloc (.cells #[.int .i64 q0, .int .i64 q1] 22)).alloc (.cells #[.int .i64 s.kind, .int .i64 s.p, .int .i64 s.q] 75)) w1 := hb1.mono (by simp)
    have hk1 : w1.heap[w.heap.size]? = some (.cells #[.int .i64 q0, .int .i64 q1] 22 (0, 0)) := (hB1.block _ (by omega)).trans ((heap_alloc_old _ _ (by simp)).trans (heap_alloc_new _ _))
    have hk2 : w1.heap[w.heap.size + 1]? = some (.cells #[.int .i64 s.kind, .int .i64 s.p, .int .i64 s.q] 75 (0, 0)) := (hB1.block _ (by omega)).trans (by have := heap_alloc_new (w.alloc (.cells #[.int .i64 q0, .int .i64 q1] 22)) (.cells #[.int .i64 s.kind, .int .i64 s.p, .int .i64 s.q] 75); simpa using this)
    have x0 := cell_of_row w1 _ 0 _ _ _ hk1
    have x1 := cell_of_row w1 _ 1 _ _ _ hk1
    obtain ⟨y0, y1, y2, _, _, _, yz⟩ := cells3 hk2
    have xz : w.heap.size < w1.heap.size := by omega
    have hBw : Below w.heap.size w w1 := (((Below.refl _ w).alloc (Nat.le_refl _) _).alloc (by simp) _).trans (hb1.mono (by simp; omega))
    clear hb1 hB1
    go_wp2_with fail
    refine (N1 _).mono ?_
    rintro e w2 ⟨rfl, hb2⟩
    have hBw2 := hBw.trans (hb2.mono hBw.size)
    have hk3 := (hb2.block w.heap.size xz).trans hk1
    clear x0 x1 y0 y1 y2 hk1 hk2
    have x0 := cell_of_row w2 _ 0 _ _ _ hk3
    have x1 := cell_of_row w2 _ 1 _ _ _ hk3
    have xz2 : w.heap.size < w2.heap.size := Nat.lt_of_lt_of_le xz hb2.size
    clear hb2 hBw hk3
    go_wp2_with fail
    refine (known24 _).mono ?_
    rintro e w3 ⟨rfl, hb3⟩
    have hBw3 := hBw2.trans (hb3.mono hBw2.size)
    clear hb3
    go_wp2
    go_ret
    exact ⟨ret_bool (by first | rfl | (simp; done)), hBw3⟩

set_option maxRecDepth 100000 in
theorem boundRises_lifted (os : Os) (started : os.Started) (H : Type) (enc : TypeId × Value → H) :
    ReturnsInHanded {} Try.checked os 11 .any (Rows.boundRisesSpec.pre6 enc Try.prog Try.f11 Rows.boundRisesRow.domain false) (Rows.boundRisesSpec.post enc Try.prog Try.f11 false true false false) := by
  refine returnsInHanded_of_change (C := Try.checked) Try.own started (by kernel_rfl) Try.func11
    (ChangeSpec.witness6 (enc := enc) (C := Try.checked) false ⟨#[], #[.agg #[.int .i64 0, .int .i64 0], .agg #[.int .i64 0, .int .i64 0, .int .i64 0], .int .i64 0], []⟩ 8 (by kernel_rfl) (by kernel_rfl) (by kernel_rfl) (by kernel_rfl)) ?_
  intro W base args ds gs before hval0 hW hcnd _
  have hval : ∀ (j : Nat) t v, Try.f11.params[j]? = some t → args[j]? = some v → Value.okWide Try.prog W .any base t v := hval0
  have hW' := hW
  obtain ⟨p, q, hA0, hV, rfl, hfz, hnd⟩ := hW
  have hA : DataW.TrodAll enc Try.prog W 0 (fun _ => true) true Try.f11.params.toList args.toList ds p := hA0
  have hA1 := hA
  rw [Try.params11] at hA hval
  obtain ⟨v0, v1, v2, d0, d1, d2, p0, p1, p2, rfl, rfl, rfl, h0, h1, h2⟩ := trodAll_three hA
  obtain ⟨rfl, rfl⟩ := trodVars_none hV
  obtain ⟨q0, q1, rfl, hw0, hx0⟩ := read_arr2 (hval 0 _ v0 rfl rfl) h0
  obtain ⟨s, rfl, hw1⟩ := read_specv (hval 1 _ v1 rfl rfl) h1
  obtain ⟨kd, rfl, hw2⟩ := read_int (hval 2 _ v2 rfl rfl) h2
  simp only [List.append_nil] at hW'
  refine (law_rises q0 q1 s kd W).mono fun e W' ⟨he, hb⟩ => ?_
  subst he
  exact ⟨_, rfl, law_post rfl rfl hW' hA1 rfl rfl rfl (by rw [Try.params11]; intro t ht; simp only [List.mem_cons, List.not_mem_nil, or_false] at ht; rcases ht with rfl | rfl | rfl <;> exact ⟨by kernel_rfl, of_decide_eq_true (by kernel_rfl)⟩) hb⟩

theorem boundRises_holds : Rows.BoundRisesSaid :=
  OpenClaim.holds_of_wide 11 Try.f11 rfl rfl rfl rfl rfl rfl rfl ⟨rfl, rfl, rfl, rfl, rfl⟩ rfl rfl rfl rfl rfl (by kernel_rfl) Try.func11 (by kernel_rfl)
    (of_decide_eq_true (by kernel_rfl)) (by unfold Func.isWrapper; first | (rw [if_pos (by decide +kernel)]; kernel_rfl) | (rw [if_neg (by decide +kernel)]; exact ⟨rfl, rfl⟩))
    (fun os started H enc _ => boundRises_lifted os started H enc)
#print axioms boundRises_holds
end Go.Proofs.Ytdilnfnakhhhaaa
