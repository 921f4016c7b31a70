/- BoundTells: for every input the law returns true, and the input reads as it did. -/
import Derived.Test.YtdilnfnakhhhaaaGreatRowSp
import Derived.Test.YtdilnfnakhhhaaaGreatTb10
namespace Go.Proofs.YtdilnfnakhhhaaaGreat
open Go.ChangeShapes Go.WideShapes Go.ChangeAt Go.RowKit

set_option maxRecDepth 100000 in
set_option maxHeartbeats 2000000 in
theorem law_tells (n : Int) (s : Sp) (kd : Int) (w : World) : Calls Tryz.prog 4 #[.int .i64 n, spV s, .int .i64 kd] w fun e w' => e = .returned (.bool true) ∧ Below w.heap.size w w' := by
  have N0 := fun W => most_any n s kd W
  have N1 := fun W => refSize_any n s W
  have N2 := fun W => refTKinds_any s W
  by_cases hE : sizeE n s = 0
  · by_cases hk : 0 ≤ kd ∧ kd < actsT s.kind s.p
    · have hM : mostE n s kd = 0 := by unfold mostE; rw [if_pos hE, if_pos hk]
      have hV : mostV n s kd = mostT n s kd := by unfold mostV; rw [hM]; rfl
      have N3 := fun W => refMost_any n s kd hE hk.1 hk.2 W
      rw [hM, hV] at N0
      rw [hE] at N1
      generalize mostT n s kd = T at *
      generalize actsT s.kind s.p = K at *
      generalize sizeV n s = V at *
      obtain ⟨hk0, hk1⟩ := hk
      have d0 : decide (kd < 0) = false := by simp; omega
      have d1 : decide (K ≤ kd) = false := by simp; omega
      clear hM hV hE
      go_enter Tryz.func4, Tryz.ntmps4
      go_wp2_with fail
      refine (N0 _).mono ?_
      rintro e w1 ⟨rfl, hb1⟩
      have hB1 : Below (w.heap.size + 1) (w.alloc (.cells #[.int .i64 s.kind, .int .i64 s.p, .int .i64 s.q] 40)) w1 := hb1.mono (by simp)
      obtain ⟨x0, x1, x2⟩ := spec_box hB1
      have hz1 : w.heap.size + 1 ≤ w1.heap.size := by have := hB1.size; simpa using this
      clear hb1
      go_wp2_with fail
      refine (N1 _).mono ?_
      rintro e w2 ⟨rfl, hb2⟩
      have hB2 := hB1.trans (hb2.mono hz1)
      have hz2 : w.heap.size + 1 ≤ w2.heap.size := by have := hB2.size; simpa using this
      clear hb2 x0 x1 x2 hB1
      obtain ⟨x0, x1, x2⟩ := spec_box hB2
      go_wp2_with fail
      refine (N2 _).mono ?_
      rintro e w3 ⟨rfl, hb3⟩
      have hB3 := hB2.trans (hb3.mono hz2)
      have hz3 : w.heap.size + 1 ≤ w3.heap.size := by have := hB3.size; simpa using this
      clear hb3 x0 x1 x2 hB2
      obtain ⟨x0, x1, x2⟩ := spec_box hB3
      go_wp2_with fail
      refine (N3 _).mono ?_
      rintro e w4 ⟨rfl, hb4⟩
      have hB4 := hB3.trans (hb4.mono hz3)
      have hz4 : w.heap.size + 1 ≤ w4.heap.size := by have := hB4.size; simpa using this
      go_wp2_with fail
      refine (known24 _).mono ?_
      rintro e w9 ⟨rfl, hb9⟩
      have hB9 : Below w.heap.size w w9 := ((Below.refl _ w).alloc (Nat.le_refl _) _).trans ((hB4.trans (hb9.mono hz4)).mono (by omega))
      go_wp2
      go_ret
      exact ⟨ret_bool (by first | rfl | (simp; done)), hB9⟩
    · have hM : mostE n s kd = 9 := by unfold mostE; rw [if_pos hE, if_neg hk]
      have hV : mostV n s kd = 0 := by unfold mostV; rw [hM]; rfl
      rw [hM, hV] at N0
      rw [hE] at N1
      generalize actsT s.kind s.p = K at *
      generalize sizeV n s = V at *
      clear hM hV hE
      rcases (by omega : kd < 0 ∨ 0 ≤ kd ∧ K ≤ kd) with hk0 | ⟨hk0, hk1⟩
      · have d0 : decide (kd < 0) = true := by simp; omega
        clear hk
        go_enter Tryz.func4, Tryz.ntmps4
        go_wp2_with fail
        refine (N0 _).mono ?_
        rintro e w1 ⟨rfl, hb1⟩
        have hB1 : Below (w.heap.size + 1) (w.alloc (.cells #[.int .i64 s.kind, .int .i64 s.p, .int .i64 s.q] 40)) w1 := hb1.mono (by simp)
        obtain ⟨x0, x1, x2⟩ := spec_box hB1
        have hz1 : w.heap.size + 1 ≤ w1.heap.size := by have := hB1.size; simpa using this
        clear hb1
        go_wp2_with fail
        refine (N1 _).mono ?_
        rintro e w2 ⟨rfl, hb2⟩
        have hB2 := hB1.trans (hb2.mono hz1)
        have hz2 : w.heap.size + 1 ≤ w2.heap.size := by have := hB2.size; simpa using this
        clear hb2 x0 x1 x2 hB1
        obtain ⟨x0, x1, x2⟩ := spec_box hB2
        go_wp2_with fail
        refine (known24 _).mono ?_
        rintro e w9 ⟨rfl, hb9⟩
        have hB9 : Below w.heap.size w w9 := ((Below.refl _ w).alloc (Nat.le_refl _) _).trans ((hB2.trans (hb9.mono hz2)).mono (by omega))
        go_wp2
        go_ret
        exact ⟨ret_bool (by first | rfl | (simp; done)), hB9⟩
      · have d0 : decide (kd < 0) = false := by simp; omega
        have d1 : decide (K ≤ kd) = true := by simp; omega
        clear hk
        go_enter Tryz.func4, Tryz.ntmps4
        go_wp2_with fail
        refine (N0 _).mono ?_
        rintro e w1 ⟨rfl, hb1⟩
        have hB1 : Below (w.heap.size + 1) (w.alloc (.cells #[.int .i64 s.kind, .int .i64 s.p, .int .i64 s.q] 40)) w1 := hb1.mono (by simp)
        obtain ⟨x0, x1, x2⟩ := spec_box hB1
        have hz1 : w.heap.size + 1 ≤ w1.heap.size := by have := hB1.size; simpa using this
        clear hb1
        go_wp2_with fail
        refine (N1 _).mono ?_
        rintro e w2 ⟨rfl, hb2⟩
        have hB2 := hB1.trans (hb2.mono hz1)
        have hz2 : w.heap.size + 1 ≤ w2.heap.size := by have := hB2.size; simpa using this
        clear hb2 x0 x1 x2 hB1
        obtain ⟨x0, x1, x2⟩ := spec_box hB2
        go_wp2_with fail
        refine (N2 _).mono ?_
        rintro e w3 ⟨rfl, hb3⟩
        have hB4 := hB2.trans (hb3.mono hz2)
        have hz4 : w.heap.size + 1 ≤ w3.heap.size := by have := hB4.size; simpa using this
        go_wp2_with fail
        refine (known24 _).mono ?_
        rintro e w9 ⟨rfl, hb9⟩
        have hB9 : Below w.heap.size w w9 := ((Below.refl _ w).alloc (Nat.le_refl _) _).trans ((hB4.trans (hb9.mono hz4)).mono (by omega))
        go_wp2
        go_ret
        exact ⟨ret_bool (by first | rfl | (simp; done)), hB9⟩
  · have hM : mostE n s kd = sizeE n s := by unfold mostE; rw [if_neg hE]
    have hV : mostV n s kd = 0 := by unfold mostV; rw [hM, if_neg hE]
    rw [hM, hV] at N0
    generalize sizeE n s = E at *
    generalize sizeV n s = V at *
    have he : (E != 0) = true := by simpa using hE
    clear hM hV
    go_enter Tryz.func4, Tryz.ntmps4
    go_wp2_with fail
    refine (N0 _).mono ?_
    rintro e w1 ⟨rfl, hb1⟩
    have hB1 : Below (w.heap.size + 1) (w.alloc (.cells #[.int .i64 s.kind, .int .i64 s.p, .int .i64 s.q] 40)) w1 := hb1.mono (by simp)
    obtain ⟨x0, x1, x2⟩ := spec_box hB1
    have hz1 : w.heap.size + 1 ≤ w1.heap.size := by have := hB1.size; simpa using this
    clear hb1
    go_wp2_with fail
    refine (N1 _).mono ?_
    rintro e w2 ⟨rfl, hb2⟩
    have hB2 := hB1.trans (hb2.mono hz1)
    have hz2 : w.heap.size + 1 ≤ w2.heap.size := by have := hB2.size; simpa using this
    clear hb2 x0 x1 x2 hB1
    obtain ⟨x0, x1, x2⟩ := spec_box hB2
    go_wp2_with fail
    refine (known24 _).mono ?_
    rintro e w9 ⟨rfl, hb9⟩
    have hB9 : Below w.heap.size w w9 := ((Below.refl _ w).alloc (Nat.le_refl _) _).trans ((hB2.trans (hb9.mono hz2)).mono (by omega))
    go_wp2
    go_ret
    exact ⟨ret_bool (by first | rfl | (simp; done)), hB9⟩

set_option maxRecDepth 100000 in
theorem boundTells_lifted (os : Os) (started : os.Started) (H : Type) (enc : TypeId × Value → H) :
    ReturnsInHanded {} Tryz.checked os 4 .any (Rows.boundTellsSpec.pre6 enc Tryz.prog Tryz.f4 Rows.boundTellsRow.domain false) (Rows.boundTellsSpec.post enc Tryz.prog Tryz.f4 false true false false) := by
  refine returnsInHanded_of_change (C := Tryz.checked) Tryz.own started (by kernel_rfl) Tryz.func4
    (ChangeSpec.witness6 (enc := enc) (C := Tryz.checked) false ⟨#[], #[.int .i64 0, .agg #[.int .i64 0, .int .i64 0, .int .i64 0], .int .i64 0], []⟩ 8 (by kernel_rfl) (by kernel_rfl) (by kernel_rfl) (by kernel_rfl)) ?_
  intro W base args ds gs before hval0 hW hcnd _
  have hval : ∀ (j : Nat) t v, Tryz.f4.params[j]? = some t → args[j]? = some v → Value.okWide Tryz.prog W .any base t v := hval0
  have hW' := hW
  obtain ⟨p, q, hA0, hV, rfl, hfz, hnd⟩ := hW
  have hA : DataW.TrodAll enc Tryz.prog W 0 (fun _ => true) true Tryz.f4.params.toList args.toList ds p := hA0
  have hA1 := hA
  rw [Tryz.params4] at hA hval
  obtain ⟨v0, v1, v2, d0, d1, d2, p0, p1, p2, rfl, rfl, rfl, h0, h1, h2⟩ := trodAll_three hA
  obtain ⟨rfl, rfl⟩ := trodVars_none hV
  obtain ⟨n, rfl, hw0⟩ := read_int (hval 0 _ v0 rfl rfl) h0
  obtain ⟨s, rfl, hw1⟩ := read_specv (hval 1 _ v1 rfl rfl) h1
  obtain ⟨kd, rfl, hw2⟩ := read_int (hval 2 _ v2 rfl rfl) h2
  simp only [List.append_nil] at hW'
  refine (law_tells n s kd W).mono fun e W' ⟨he, hb⟩ => ?_
  subst he
  exact ⟨_, rfl, law_post rfl rfl hW' hA1 rfl rfl rfl (by rw [Tryz.params4]; intro t ht; simp only [List.mem_cons, List.not_mem_nil, or_false] at ht; rcases ht with rfl | rfl | rfl <;> exact ⟨by kernel_rfl, of_decide_eq_true (by kernel_rfl)⟩) hb⟩

theorem boundTells_holds : Rows.BoundTellsSaid :=
  OpenClaim.holds_of_wide 4 Tryz.f4 rfl rfl rfl rfl rfl rfl rfl ⟨rfl, rfl, rfl, rfl, rfl⟩ rfl rfl rfl rfl rfl (by kernel_rfl) Tryz.func4 (by kernel_rfl)
    (of_decide_eq_true (by kernel_rfl)) (by unfold Func.isWrapper; first | (rw [if_pos (by decide +kernel)]; kernel_rfl) | (rw [if_neg (by decide +kernel)]; exact ⟨rfl, rfl⟩))
    (fun os started H enc _ => boundTells_lifted os started H enc)
#print axioms boundTells_holds
end Go.Proofs.YtdilnfnakhhhaaaGreat
