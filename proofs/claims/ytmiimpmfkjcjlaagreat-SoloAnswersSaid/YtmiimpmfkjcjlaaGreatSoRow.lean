/- The law SoloAnswers holds: what any calls answer that are done whole, and what any object is at last, or why not: for every input. No conditions. -/
import Derived.Test.YtmiimpmfkjcjlaaGreatBun26
import Derived.Test.YtmiimpmfkjcjlaaGreatRowE
namespace Go.Proofs.YtmiimpmfkjcjlaaGreat
open Go.ChangeShapes Go.WideShapes Go.ChangeAt Go.RowKit Go.Deep

set_option maxRecDepth 100000 in
theorem soloAnswers_lifted (os : Os) (started : os.Started) (H : Type) (enc : TypeId × Value → H) :
    ReturnsInHanded {} Tryz.checked os 4 .any (Rows.soloAnswersSpec.pre6 enc Tryz.prog Tryz.f4 Rows.soloAnswersRow.domain false) (Rows.soloAnswersSpec.post enc Tryz.prog Tryz.f4 false true false false) := by
  refine returnsInHanded_of_change (C := Tryz.checked) Tryz.own started (by kernel_rfl) Tryz.func4
    (ChangeSpec.witness6 (enc := enc) (C := Tryz.checked) false ⟨#[], #[.agg #[.int .i64 0, .slice none 0 0, .slice none 0 0, .slice none 0 0], .int .i64 0], []⟩ 8 (by kernel_rfl) (by kernel_rfl) (by kernel_rfl) (by kernel_rfl)) ?_
  intro W base args ds gs before hval0 hW hcnd _
  have hval : ∀ (j : Nat) t v, Tryz.f4.params[j]? = some t → args[j]? = some v → Value.okWide Tryz.prog W .any base t v := hval0
  have hW' := hW
  obtain ⟨p, q, hA0, hV, rfl, hfz, hnd⟩ := hW
  have hA : DataW.TrodAll enc Tryz.prog W 0 (fun _ => true) true Tryz.f4.params.toList args.toList ds p := hA0
  have hA1 := hA
  rw [Tryz.params4] at hA hval
  obtain ⟨v0, v1, d0, d1, p0, p1, rfl, rfl, rfl, h0, h1⟩ := trodAll_two hA
  obtain ⟨rfl, rfl⟩ := trodVars_none hV
  obtain ⟨n0, S0, C0, P0, sp0, cs0, ps0, rfl, ⟨hnw0, ⟨hs0, hsw0⟩, ⟨hc0, hcw0⟩, ⟨hp0, hpw0⟩⟩⟩ := read_scene (hval 0 _ v0 rfl rfl) h0
  obtain ⟨x1, rfl, hw1⟩ := read_int (hval 1 _ v1 rfl rfl) h1
  simp only [List.append_nil] at hW'
  have hs0' := hs0
  obtain ⟨As0, cS0, rfl, _, _, _⟩ := hs0'
  have hc0' := hc0
  obtain ⟨A0, c0, rfl, _, _, _⟩ := hc0'
  have hp0' := hp0
  obtain ⟨Ap0, cp0, rfl, _, _, _⟩ := hp0'
  refine (law_solo n0 x1 As0 A0 Ap0 sp0.length cS0 cs0.length c0 ps0.length cp0 sp0 cs0 W hs0 rfl hc0 rfl (fun c hc => by obtain ⟨_, _, _, g4, g5, g6⟩ := hcw0 c hc; exact ⟨bounds_u64 g4, bounds_u64 g5, bounds_u64 g6⟩)).mono fun e W' ⟨he, hb⟩ => ?_
  subst he
  exact ⟨_, rfl, law_post rfl rfl hW' hA1 rfl rfl rfl (by rw [Tryz.params4]; intro t ht; simp only [List.mem_cons, List.not_mem_nil, or_false] at ht; rcases ht with rfl | rfl <;> exact ⟨by kernel_rfl, of_decide_eq_true (by kernel_rfl)⟩) hb⟩

theorem soloAnswers_holds : Rows.SoloAnswersSaid :=
  OpenClaim.holds_of_wide 4 Tryz.f4 rfl rfl rfl rfl rfl rfl rfl ⟨rfl, rfl, rfl, rfl, rfl⟩ rfl rfl rfl rfl rfl (by kernel_rfl) Tryz.func4 (by kernel_rfl)
    (of_decide_eq_true (by kernel_rfl)) (by unfold Func.isWrapper; first | (rw [if_pos (by decide +kernel)]; kernel_rfl) | (rw [if_neg (by decide +kernel)]; exact ⟨rfl, rfl⟩))
    (fun os started H enc _ => soloAnswers_lifted os started H enc)
#print axioms soloAnswers_holds
end Go.Proofs.YtmiimpmfkjcjlaaGreat
