/- The law CutTicks holds: whose each tick of any play was, by any events, or why it isn't told: for every input. No conditions. -/
import Derived.Test.YtmiimpmfkjcjlaaCu14
namespace Go.Proofs.Ytmiimpmfkjcjlaa
open Go.ChangeShapes Go.WideShapes Go.ChangeAt Go.RowKit Go.Deep

set_option maxRecDepth 100000 in
theorem cutTicks_lifted (os : Os) (started : os.Started) (H : Type) (enc : TypeId × Value → H) :
    ReturnsInHanded {} Try.checked os 3 .any (Rows.cutTicksSpec.pre6 enc Try.prog Try.f3 Rows.cutTicksRow.domain false) (Rows.cutTicksSpec.post enc Try.prog Try.f3 false true false false) := by
  refine returnsInHanded_of_change (C := Try.checked) Try.own started (by kernel_rfl) Try.func3
    (ChangeSpec.witness6 (enc := enc) (C := Try.checked) false ⟨#[], #[.agg #[.int .i64 0, .slice none 0 0, .slice none 0 0, .slice none 0 0], .slice none 0 0], []⟩ 8 (by kernel_rfl) (by kernel_rfl) (by kernel_rfl) (by kernel_rfl)) ?_
  intro W base args ds gs before hval0 hW hcnd _
  have hval : ∀ (j : Nat) t v, Try.f3.params[j]? = some t → args[j]? = some v → Value.okWide Try.prog W .any base t v := hval0
  have hW' := hW
  obtain ⟨p, q, hA0, hV, rfl, hfz, hnd⟩ := hW
  have hA : DataW.TrodAll enc Try.prog W 0 (fun _ => true) true Try.f3.params.toList args.toList ds p := hA0
  have hA1 := hA
  rw [Try.params3] at hA hval
  obtain ⟨v0, v1, d0, d1, p0, p1, rfl, rfl, rfl, h0, h1⟩ := trodAll_two hA
  obtain ⟨rfl, rfl⟩ := trodVars_none hV
  obtain ⟨n0, S0, C0, P0, sp0, cs0, ps0, rfl, ⟨hnw0, ⟨hs0, hsw0⟩, ⟨hc0, hcw0⟩, ⟨hp0, hpw0⟩⟩⟩ := read_scene (hval 0 _ v0 rfl rfl) h0
  obtain ⟨l1, hl1, hlw1, hll1⟩ := read_events (hval 1 _ v1 rfl rfl) h1
  simp only [List.append_nil] at hW'
  have hs0' := hs0
  obtain ⟨As0, cS0, rfl, _, _, _⟩ := hs0'
  have hc0' := hc0
  obtain ⟨A0, c0, rfl, _, _, _⟩ := hc0'
  have hp0' := hp0
  obtain ⟨Ap0, cp0, rfl, _, _, _⟩ := hp0'
  have hl1' := hl1
  obtain ⟨A1, c1, rfl, _, _, _⟩ := hl1'
  refine (law_cutTicks n0 As0 A0 Ap0 A1 sp0.length cS0 cs0.length c0 ps0.length cp0 l1.length c1 sp0 cs0 ps0 l1 W hs0 rfl hc0 rfl hp0 rfl hl1 rfl).mono fun e W' ⟨he, hb⟩ => ?_
  subst he
  exact ⟨_, rfl, law_post rfl rfl hW' hA1 rfl rfl rfl (by rw [Try.params3]; intro t ht; simp only [List.mem_cons, List.not_mem_nil, or_false] at ht; rcases ht with rfl | rfl <;> exact ⟨by kernel_rfl, of_decide_eq_true (by kernel_rfl)⟩) hb⟩

theorem cutTicks_holds : Rows.CutTicksSaid :=
  OpenClaim.holds_of_wide 3 Try.f3 rfl rfl rfl rfl rfl rfl rfl ⟨rfl, rfl, rfl, rfl, rfl⟩ rfl rfl rfl rfl rfl (by kernel_rfl) Try.func3 (by kernel_rfl)
    (of_decide_eq_true (by kernel_rfl)) (by unfold Func.isWrapper; first | (rw [if_pos (by decide +kernel)]; kernel_rfl) | (rw [if_neg (by decide +kernel)]; exact ⟨rfl, rfl⟩))
    (fun os started H enc _ => cutTicks_lifted os started H enc)
#print axioms cutTicks_holds
end Go.Proofs.Ytmiimpmfkjcjlaa
