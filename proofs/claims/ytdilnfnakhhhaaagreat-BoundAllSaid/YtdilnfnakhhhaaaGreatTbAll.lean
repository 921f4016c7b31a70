/- BoundAll: for every input the law returns true, and the input reads as it did. -/
import Derived.Test.YtdilnfnakhhhaaaGreatRowSp
import Derived.Test.YtdilnfnakhhhaaaGreatTb11
namespace Go.Proofs.YtdilnfnakhhhaaaGreat
open Go.ChangeShapes Go.WideShapes Go.ChangeAt Go.RowKit

set_option maxRecDepth 100000 in
set_option maxHeartbeats 4000000 in
theorem law_all (n : Int) (A : Option Addr) (m c : Nat) (l : List Sp) (w : World) (h : SlSp w (.slice A m c) l) (hm : l.length = m) :
    Calls Tryz.prog 5 #[.int .i64 n, .slice A m c] w fun e w' => e = .returned (.bool true) ∧ Below w.heap.size w w' := by
  by_cases h1000 : 1000 < m
  · have h1 : (1000 : Int) < (m : Int) := by omega
    go_enter Tryz.func5, Tryz.ntmps5
    go_wp2_with fail
    refine (known24 _).mono ?_
    rintro e w1 ⟨rfl, hb1⟩
    go_wp2
    go_ret
    exact ⟨rfl, hb1⟩
  · have h1 : ¬ (1000 : Int) < (m : Int) := by omega
    have h2 : (m : Int) ≤ 1000 := by omega
    have N0 := fun W h => all_any n A m c l W h hm
    unfold AllPost at N0
    have NS := fun s W => refSize_any n s W
    have HR := hide (fun (h0 : firstE n l = 0) W h => refAll_any n A m c l W h hm h0)
    have hM := hide hm
    have HH := hide h
    generalize hFE : firstE n l = FE at *
    have HFE := hide hFE
    generalize hX : (if FE = 0 then allV n l 1 else 0) = X at *
    have HX := hide hX
    clear h1000 hm hFE hX
    go_enter Tryz.func5, Tryz.ntmps5
    go_wp2_with fail
    refine (N0 _ h).mono ?_
    rintro e w1 ⟨rfl, hb1⟩
    have HB1 := hide hb1
    clear hb1 N0 h
    go_wp2
    go_loopw [22] (fun i wr => ∃ (k : Nat), k ≤ m ∧ i = .int .i64 k ∧ Hid (firstE n l = firstE n (l.drop k)) ∧ Hid (Below w.heap.size w wr)) (fun i _ => m - (intOf i).toNat)
    case atStart => exact ⟨0, Nat.zero_le _, rfl, hide rfl, HB1⟩
    case round =>
      obtain ⟨k, hk, rfl, hF, hB⟩ := hrel
      by_cases hlt : k < m
      · obtain ⟨s, hsk⟩ : ∃ s, l[k]? = some s := ⟨_, List.getElem?_eq_getElem (by have := hM.out; omega)⟩
        obtain ⟨A', c', e, _, _, h3⟩ := HH.out.below hB.out (Nat.le_refl _)
        obtain ⟨b, oo, e', hb, hc⟩ := h3 k s hsk
        rw [hM.out] at e
        cases e
        cases e'
        obtain ⟨c0, c1, c2⟩ := spec_cells hc
        have q0 : (0 : Int) ≤ (k : Int) := by omega
        have q1 : (k : Int) < (m : Int) := by omega
        have hstep := firstE_step (n := n) hsk
        have NS1 := fun W => NS s W
        generalize sizeV n s = V at NS1
        clear h3 hsk hc
        by_cases hE : sizeE n s = 0
        · rw [if_pos hE] at hstep
          rw [hE] at NS1
          have HF := hide hstep
          clear hstep hE
          go_wp2_with fail
          refine (NS1 _).mono ?_
          rintro e w2 ⟨rfl, hb2⟩
          have HB2 := hide (hB.out.trans (hb2.mono hB.out.size))
          clear hb2
          go_wp2
          go_roundw
          case rel => exact ⟨k + 1, by omega, by go_num, hide (by rw [hF.out, HF.out]), HB2⟩
          case measure => first | (simp [intOf]; done) | (simp [intOf]; omega)
        · rw [if_neg hE] at hstep
          have hfe : FE = sizeE n s := by rw [← HFE.out, hF.out, hstep]
          have hx0 : X = 0 := by rw [← HX.out, if_neg (by rw [hfe]; exact hE)]
          rw [← hfe] at NS1 hE
          have he : (FE != 0) = true := by simpa using hE
          have hx1 : (X == 0) = true := by rw [hx0]; rfl
          clear hstep hfe hx0 hE
          go_wp2_with fail
          refine (NS1 _).mono ?_
          rintro e w2 ⟨rfl, hb2⟩
          have hB2 := hB.out.trans (hb2.mono hB.out.size)
          clear hb2
          go_wp2_with fail
          refine (known24 _).mono ?_
          rintro e w3 ⟨rfl, hb3⟩
          go_wp2
          go_ret
          exact ⟨ret_bool (by first | rfl | (simp; done)), hB2.trans (hb3.mono hB2.size)⟩
      · obtain rfl : k = m := by omega
        have h0 : FE = 0 := by rw [← HFE.out, hF.out, ← hM.out, List.drop_length]; rfl
        have hx0 : X = allV n l 1 := by rw [← HX.out, if_pos h0]
        have NR := fun W h => HR.out h0 W h
        rw [← hx0] at NR
        have he : (FE == 0) = true := by rw [h0]; rfl
        have hHH := HH.out.below hB.out (Nat.le_refl _)
        clear h0 hx0
        go_wp2_with fail
        refine (NR _ hHH).mono ?_
        rintro e w2 ⟨rfl, hb2⟩
        have hB2 := hB.out.trans (hb2.mono hB.out.size)
        clear hb2
        go_wp2_with fail
        refine (known24 _).mono ?_
        rintro e w3 ⟨rfl, hb3⟩
        go_wp2
        go_ret
        exact ⟨ret_bool (by first | rfl | (simp; done)), hB2.trans (hb3.mono hB2.size)⟩

set_option maxRecDepth 100000 in
theorem boundAll_lifted (os : Os) (started : os.Started) (H : Type) (enc : TypeId × Value → H) :
    ReturnsInHanded {} Tryz.checked os 5 .any (Rows.boundAllSpec.pre6 enc Tryz.prog Tryz.f5 Rows.boundAllRow.domain false) (Rows.boundAllSpec.post enc Tryz.prog Tryz.f5 false true false false) := by
  refine returnsInHanded_of_change (C := Tryz.checked) Tryz.own started (by kernel_rfl) Tryz.func5
    (ChangeSpec.witness6 (enc := enc) (C := Tryz.checked) false ⟨#[], #[.int .i64 0, .slice none 0 0], []⟩ 8 (by kernel_rfl) (by kernel_rfl) (by kernel_rfl) (by kernel_rfl)) ?_
  intro W base args ds gs before hval0 hW hcnd _
  have hval : ∀ (j : Nat) t v, Tryz.f5.params[j]? = some t → args[j]? = some v → Value.okWide Tryz.prog W .any base t v := hval0
  have hW' := hW
  obtain ⟨p, q, hA0, hV, rfl, hfz, hnd⟩ := hW
  have hA : DataW.TrodAll enc Tryz.prog W 0 (fun _ => true) true Tryz.f5.params.toList args.toList ds p := hA0
  have hA1 := hA
  rw [Tryz.params5] at hA hval
  obtain ⟨v0, v1, d0, d1, p0, p1, rfl, rfl, rfl, h0, h1⟩ := trodAll_two hA
  obtain ⟨rfl, rfl⟩ := trodVars_none hV
  obtain ⟨n, rfl, hw0⟩ := read_int (hval 0 _ v0 rfl rfl) h0
  obtain ⟨l, hs1, hw1, hl1⟩ := read_specs (hval 1 _ v1 rfl rfl) h1
  simp only [List.append_nil] at hW'
  have hs1' := hs1
  obtain ⟨A1, c1, rfl, _, _, _⟩ := hs1'
  refine (law_all n A1 _ c1 l W hs1 rfl).mono fun e W' ⟨he, hb⟩ => ?_
  subst he
  exact ⟨_, rfl, law_post rfl rfl hW' hA1 rfl rfl rfl (by rw [Tryz.params5]; intro t ht; simp only [List.mem_cons, List.not_mem_nil, or_false] at ht; rcases ht with rfl | rfl <;> exact ⟨by kernel_rfl, of_decide_eq_true (by kernel_rfl)⟩) hb⟩

theorem boundAll_holds : Rows.BoundAllSaid :=
  OpenClaim.holds_of_wide 5 Tryz.f5 rfl rfl rfl rfl rfl rfl rfl ⟨rfl, rfl, rfl, rfl, rfl⟩ rfl rfl rfl rfl rfl (by kernel_rfl) Tryz.func5 (by kernel_rfl)
    (of_decide_eq_true (by kernel_rfl)) (by unfold Func.isWrapper; first | (rw [if_pos (by decide +kernel)]; kernel_rfl) | (rw [if_neg (by decide +kernel)]; exact ⟨rfl, rfl⟩))
    (fun os started H enc _ => boundAll_lifted os started H enc)
#print axioms boundAll_holds
end Go.Proofs.YtdilnfnakhhhaaaGreat
