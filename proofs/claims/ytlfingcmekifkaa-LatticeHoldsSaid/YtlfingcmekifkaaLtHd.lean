/- The law LatticeHolds holds: a set that is told has all that the thread gave so far, and nothing that nobody gave, in as many steps as the bounds tell: for every input. No conditions. -/
import Derived.Test.YtlfingcmekifkaaLw39
import Derived.Test.YtlfingcmekifkaaBun26
namespace Go.Proofs.Ytlfingcmekifkaa
open Go.ChangeShapes Go.WideShapes Go.ChangeAt Go.RowKit Go.Deep

set_option maxRecDepth 100000 in
theorem latticeHolds_lifted (os : Os) (started : os.Started) (H : Type) (enc : TypeId × Value → H) :
    ReturnsInHanded {} Try.checked os 8 .any (Rows.latticeHoldsSpec.pre6 enc Try.prog Try.f8 Rows.latticeHoldsRow.domain false) (Rows.latticeHoldsSpec.post enc Try.prog Try.f8 false true false false) := by
  refine returnsInHanded_of_change (C := Try.checked) Try.own started (by kernel_rfl) Try.func8
    (ChangeSpec.witness6 (enc := enc) (C := Try.checked) false ⟨#[], #[.agg #[.int .i64 0, .int .i64 0], .slice none 0 0, .slice none 0 0], []⟩ 8 (by kernel_rfl) (by kernel_rfl) (by kernel_rfl) (by kernel_rfl)) ?_
  intro W base args ds gs before hval0 hW hcnd _
  have hval : ∀ (j : Nat) t v, Try.f8.params[j]? = some t → args[j]? = some v → Value.okWide Try.prog W .any base t v := hval0
  have hW' := hW
  obtain ⟨p, q, hA0, hV, rfl, hfz, hnd⟩ := hW
  have hA : DataW.TrodAll enc Try.prog W 0 (fun _ => true) true Try.f8.params.toList args.toList ds p := hA0
  have hA1 := hA
  rw [Try.params8] at hA hval
  obtain ⟨v0, v1, v2, d0, d1, d2, p0, p1, p2, rfl, rfl, rfl, h0, h1, h2⟩ := trodAll_three hA
  obtain ⟨rfl, rfl⟩ := trodVars_none hV
  obtain ⟨n0, n1, rfl, _, _⟩ := read_arr2 (hval 0 _ v0 rfl rfl) h0
  obtain ⟨cs, hc, hcw, hcl⟩ := read_calls (hval 1 _ v1 rfl rfl) h1
  obtain ⟨ps, hp, hpw, hpl⟩ := read_ints (hval 2 _ v2 rfl rfl) h2
  simp only [List.append_nil] at hW'
  have hc' := hc
  obtain ⟨A0, c0, rfl, _, _, _⟩ := hc'
  have hp' := hp
  obtain ⟨Ap, cp, rfl, _, _, _⟩ := hp'
  refine (latticeHoldsW n0 n1 A0 cs.length c0 cs Ap ps.length cp ps W hc rfl hp rfl (fun c hc => by obtain ⟨_, _, _, g4, g5, g6⟩ := hcw c hc; exact ⟨bounds_u64 g4, bounds_u64 g5, bounds_u64 g6⟩)).mono fun e W' ⟨he, hb⟩ => ?_
  subst he
  exact ⟨_, rfl, law_post rfl rfl hW' hA1 rfl rfl rfl (by rw [Try.params8]; intro t ht; simp only [List.mem_cons, List.not_mem_nil, or_false] at ht; rcases ht with rfl | rfl | rfl <;> exact ⟨by kernel_rfl, of_decide_eq_true (by kernel_rfl)⟩) hb⟩

theorem latticeHolds_holds : Rows.LatticeHoldsSaid :=
  OpenClaim.holds_of_wide 8 Try.f8 rfl rfl rfl rfl rfl rfl rfl ⟨rfl, rfl, rfl, rfl, rfl⟩ rfl rfl rfl rfl rfl (by kernel_rfl) Try.func8 (by kernel_rfl)
    (of_decide_eq_true (by kernel_rfl)) (by unfold Func.isWrapper; first | (rw [if_pos (by decide +kernel)]; kernel_rfl) | (rw [if_neg (by decide +kernel)]; exact ⟨rfl, rfl⟩))
    (fun os started H enc _ => latticeHolds_lifted os started H enc)
#print axioms latticeHolds_holds
end Go.Proofs.Ytlfingcmekifkaa
