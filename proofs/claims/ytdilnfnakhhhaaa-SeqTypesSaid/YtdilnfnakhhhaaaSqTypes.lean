/- SeqTypes: for every input the law returns true, and the input reads as it did. -/
import Derived.Test.YtdilnfnakhhhaaaRow
import Derived.Test.YtdilnfnakhhhaaaSqk
namespace Go.Proofs.Ytdilnfnakhhhaaa
open Go.ChangeShapes Go.WideShapes Go.ChangeAt Go.RowKit

set_option maxRecDepth 100000 in
set_option maxHeartbeats 1000000 in
theorem law_types (n : Int) (v : Value) (xs : List Int) (w : World) (h : SlW w v xs) :
    Calls Try.prog 7 #[.int .i64 n, v] w fun e w' => e = .returned (.bool true) ∧ Below w.heap.size w w' := by
  obtain ⟨K, hK⟩ : ∃ K, kindsI n = K := ⟨_, rfl⟩
  obtain ⟨R, hR⟩ : ∃ R, rightB17 n xs.length = R := ⟨_, rfl⟩
  have N0 := fun W => kinds_any n W
  have N1 := fun W => refKinds_any n W
  have N2 := fun W => new_any n W
  have N3 := fun W => refNew_any n W
  have N4 := fun W h => right_any v xs n W h
  have N5 := fun W h => refRight17 v xs n W h
  rw [hK] at N0 N1
  rw [hR] at N4 N5
  clear hK hR
  go_enter Try.func7, Try.ntmps7
  go_wp2_with fail
  refine (N0 _).mono ?_
  rintro e w1 ⟨rfl, hb1⟩
  go_wp2_with fail
  refine (N1 _).mono ?_
  rintro e w2 ⟨rfl, hb2⟩
  have hB2 := hb1.trans (hb2.mono hb1.size)
  go_wp2_with fail
  refine (N2 _).mono ?_
  rintro e w3 ⟨v3, rfl, h3, hb3⟩
  have hB3 := hB2.trans (hb3.mono hB2.size)
  go_wp2_with fail
  refine (N3 _).mono ?_
  rintro e w4 ⟨v4, rfl, h4, hb4⟩
  have hB4 := hB3.trans (hb4.mono hB3.size)
  have h3' := h3.below hb4 (Nat.le_refl _)
  clear hb1 hb2 hb3 hb4 hB2 hB3 h3
  go_wp2_with fail
  refine (same_any v3 v4 _ _ _ h3' h4).mono ?_
  rintro e w5 ⟨rfl, nd, rfl⟩
  have hB5 := below_drewN hB4 nd
  rw [decide_eq_true (rfl : newL n = newL n)]
  clear h3' h4
  go_wp2_with fail
  refine (N4 _ (h.below hB5 (Nat.le_refl _))).mono ?_
  rintro e w6 ⟨rfl, hb6⟩
  have hB6 := hB5.trans (hb6.mono hB5.size)
  go_wp2_with fail
  refine (N5 _ (h.below hB6 (Nat.le_refl _))).mono ?_
  rintro e w7 ⟨rfl, hb7⟩
  have hB7 := hB6.trans (hb7.mono hB6.size)
  clear hb6 hb7 hB5 hB6 hB4
  go_wp2_with fail
  refine (known17 _).mono ?_
  rintro e w8 ⟨rfl, hb8⟩
  have hB8 := hB7.trans (hb8.mono hB7.size)
  clear hb8 hB7
  go_wp2
  go_ret
  exact ⟨ret_bool (by first | rfl | (simp; done)), hB8⟩

set_option maxRecDepth 100000 in
theorem seqTypes_lifted (os : Os) (started : os.Started) (H : Type) (enc : TypeId × Value → H) :
    ReturnsInHanded {} Try.checked os 7 .any (Rows.seqTypesSpec.pre6 enc Try.prog Try.f7 Rows.seqTypesRow.domain false) (Rows.seqTypesSpec.post enc Try.prog Try.f7 false true false false) := by
  refine returnsInHanded_of_change (C := Try.checked) Try.own started (by kernel_rfl) Try.func7
    (ChangeSpec.witness6 (enc := enc) (C := Try.checked) false ⟨#[], #[.int .i64 0, .slice none 0 0], []⟩ 8 (by kernel_rfl) (by kernel_rfl) (by kernel_rfl) (by kernel_rfl)) ?_
  intro W base args ds gs before hval0 hW hcnd _
  have hval : ∀ (j : Nat) t v, Try.f7.params[j]? = some t → args[j]? = some v → Value.okWide Try.prog W .any base t v := hval0
  have hW' := hW
  obtain ⟨p, q, hA0, hV, rfl, hfz, hnd⟩ := hW
  have hA : DataW.TrodAll enc Try.prog W 0 (fun _ => true) true Try.f7.params.toList args.toList ds p := hA0
  have hA1 := hA
  rw [Try.params7] at hA hval
  obtain ⟨v0, v1, d0, d1, p0, p1, rfl, rfl, rfl, h0, h1⟩ := trodAll_two hA
  obtain ⟨rfl, rfl⟩ := trodVars_none hV
  obtain ⟨n, rfl, _⟩ := read_int (hval 0 _ v0 rfl rfl) h0
  obtain ⟨xs, hxs, hwf, _⟩ := read_words (hval 1 _ v1 rfl rfl) h1
  simp only [List.append_nil] at hW'
  refine (law_types n v1 xs W hxs).mono fun e W' ⟨he, hb⟩ => ?_
  subst he
  exact ⟨_, rfl, law_post rfl rfl hW' hA1 rfl rfl rfl (by rw [Try.params7]; intro t ht; simp only [List.mem_cons, List.not_mem_nil, or_false] at ht; rcases ht with rfl | rfl <;> exact ⟨by kernel_rfl, of_decide_eq_true (by kernel_rfl)⟩) hb⟩

theorem seqTypes_holds : Rows.SeqTypesSaid :=
  OpenClaim.holds_of_wide 7 Try.f7 rfl rfl rfl rfl rfl rfl rfl ⟨rfl, rfl, rfl, rfl, rfl⟩ rfl rfl rfl rfl rfl (by kernel_rfl) Try.func7 (by kernel_rfl)
    (of_decide_eq_true (by kernel_rfl)) (by unfold Func.isWrapper; first | (rw [if_pos (by decide +kernel)]; kernel_rfl) | (rw [if_neg (by decide +kernel)]; exact ⟨rfl, rfl⟩))
    (fun os started H enc _ => seqTypes_lifted os started H enc)
#print axioms seqTypes_holds
end Go.Proofs.Ytdilnfnakhhhaaa
