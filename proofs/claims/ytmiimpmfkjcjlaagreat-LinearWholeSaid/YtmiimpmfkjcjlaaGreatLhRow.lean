import Derived.Test.YtmiimpmfkjcjlaaGreatBun39
namespace Go.Proofs.YtmiimpmfkjcjlaaGreat
open Go.ChangeShapes Go.WideShapes Go.ChangeAt Go.RowKit Go.Deep
set_option maxRecDepth 100000 in
theorem linearWhole_lifted (os : Os) (started : os.Started) (H : Type) (enc : TypeId × Value → H) :
    ReturnsInHanded {} Tryz.checked os 7 .any (Rows.linearWholeSpec.pre6 enc Tryz.prog Tryz.f7 Rows.linearWholeRow.domain false) (Rows.linearWholeSpec.post enc Tryz.prog Tryz.f7 false true false false) := by
  refine returnsInHanded_of_change (C := Tryz.checked) Tryz.own started (by kernel_rfl) Tryz.func7
    (ChangeSpec.witness6 (enc := enc) (C := Tryz.checked) false ⟨#[], #[.agg #[.int .i64 0, .slice none 0 0, .slice none 0 0, .slice none 0 0, .slice none 0 0, .int .i64 0]], []⟩ 8 (by kernel_rfl) (by kernel_rfl) (by kernel_rfl) (by kernel_rfl)) ?_
  intro W base args ds gs before hval0 hW hcnd _
  have hval : ∀ (j : Nat) t v, Tryz.f7.params[j]? = some t → args[j]? = some v → Value.okWide Tryz.prog W .any base t v := hval0
  have hW' := hW
  obtain ⟨p, q, hA0, hV, rfl, hfz, hnd⟩ := hW
  have hA : DataW.TrodAll enc Tryz.prog W 0 (fun _ => true) true Tryz.f7.params.toList args.toList ds p := hA0
  have hA1 := hA
  rw [Tryz.params7] at hA hval
  obtain ⟨v0, d0, rfl, rfl, h0⟩ := trodAll_one hA
  obtain ⟨rfl, rfl⟩ := trodVars_none hV
  obtain ⟨n0, S0, C0, P0, L0, x2, sp0, cs0, ps0, l1, rfl, ⟨hnw0, ⟨hs0, hsw0⟩, ⟨hc0, hcw0⟩, ⟨hp0, hpw0⟩⟩, hl1, hlw1⟩ := read_ev28 (hval 0 _ v0 rfl rfl) h0
  simp only [List.append_nil] at hW'
  have hsk : ∀ k : Nat, ∃ l : List Int × List Int, ∀ e, l1[k]? = some e → (SlW W (.slice e.lA e.lN e.lC) l.1) ∧ (SlI W (.slice e.kA e.kN e.kC) l.2 ∧ ∀ x ∈ l.2, (Lit.int .i64 x).wf = true) := by
    intro k
    rcases hk : l1[k]? with _ | e
    · exact ⟨([], []), fun e he => by cases he⟩
    · obtain ⟨_, _, _, ⟨a, ha, _⟩, ⟨b, hb, hb2⟩⟩ := hlw1 e (List.mem_of_getElem? hk)
      exact ⟨(a, b), fun e' he => by cases he; exact ⟨ha, hb, hb2⟩⟩
  obtain ⟨f, hf⟩ := Classical.skolem.1 hsk
  have hP : ∃ a b c, P0 = .slice a b c ∧ b ≤ maxLen := by
    obtain ⟨Ap, cp, e, g1, g2, _⟩ := hp0
    exact ⟨Ap, _, cp, e, by omega⟩
  refine (law28h n0 x2 S0 C0 P0 L0 sp0 cs0 l1 (fun k => (f k).1) (fun k => (f k).2) W ⟨⟨hs0, hc0, ⟨hl1, fun k e he => (hf k e he).2.1⟩, fun k e he => (hf k e he).1⟩, hP, fun c hc => (by obtain ⟨_, _, _, g4, g5, g6⟩ := hcw0 c hc; exact ⟨bounds_u64 g4, bounds_u64 g5, bounds_u64 g6⟩), fun e he => (hlw1 e he).wf, fun k e he => (hf k e he).2.2⟩).mono fun e W' ⟨he, hb⟩ => ?_
  subst he
  exact ⟨_, rfl, law_post rfl rfl hW' hA1 rfl rfl rfl (by rw [Tryz.params7]; intro t ht; simp only [List.mem_cons, List.not_mem_nil, or_false] at ht; subst ht; exact ⟨by kernel_rfl, of_decide_eq_true (by kernel_rfl)⟩) hb⟩
theorem linearWhole_holds : Rows.LinearWholeSaid :=
  OpenClaim.holds_of_wide 7 Tryz.f7 rfl rfl rfl rfl rfl rfl rfl ⟨rfl, rfl, rfl, rfl, rfl⟩ rfl rfl rfl rfl rfl (by kernel_rfl) Tryz.func7 (by kernel_rfl)
    (of_decide_eq_true (by kernel_rfl)) (by unfold Func.isWrapper; first | (rw [if_pos (by decide +kernel)]; kernel_rfl) | (rw [if_neg (by decide +kernel)]; exact ⟨rfl, rfl⟩))
    (fun os started H enc _ => linearWhole_lifted os started H enc)
#print axioms linearWhole_holds
end Go.Proofs.YtmiimpmfkjcjlaaGreat
