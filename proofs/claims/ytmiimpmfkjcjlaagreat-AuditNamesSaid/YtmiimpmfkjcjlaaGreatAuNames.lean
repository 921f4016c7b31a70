/- AuditNames: for every input the law returns true, and the input reads as it did. -/
import Derived.Test.YtmiimpmfkjcjlaaGreatAu6
import Derived.Test.YtmiimpmfkjcjlaaGreatRow0
namespace Go.Proofs.YtmiimpmfkjcjlaaGreat
open Go.ChangeShapes Go.WideShapes Go.ChangeAt Go.RowKit

def nameL (k : Int) : List UInt8 :=
  if k = 1 then [116, 97, 98, 108, 101] else if k = 2 then [104, 105, 115, 116, 111, 114, 121] else if k = 3 then [98, 111, 117, 110, 100] else if k = 4 then [107, 101, 121] else if k = 5 then [97, 104, 101, 97, 100]
  else if k = 6 then [97, 110, 115, 119, 101, 114] else if k = 7 then [115, 116, 101, 112, 115] else if k = 8 then [97, 99, 99, 101, 115, 115, 101, 115] else []
theorem name_list (k : Int) : (ByteArray.mk (nameM k)).toList = nameL k := by
  unfold nameM nameL
  repeat' split
  all_goals first | rfl | kernel_rfl | (decide +kernel) | (simp [ByteArray.toList, ByteArray.toList.loop, ByteArray.size, ByteArray.get!]; done) | go_simp
theorem nameL_no (k : Int) : nameL k = [] ↔ ¬ (1 ≤ k ∧ k ≤ 8) := by
  by_cases h : 1 ≤ k ∧ k ≤ 8
  · rcases (by omega : k = 1 ∨ k = 2 ∨ k = 3 ∨ k = 4 ∨ k = 5 ∨ k = 6 ∨ k = 7 ∨ k = 8) with rfl | rfl | rfl | rfl | rfl | rfl | rfl | rfl <;> decide
  · have hM : nameL k = [] := by unfold nameL; rw [if_neg (by omega), if_neg (by omega), if_neg (by omega), if_neg (by omega), if_neg (by omega), if_neg (by omega), if_neg (by omega), if_neg (by omega)]
    exact ⟨fun _ => h, fun _ => hM⟩
theorem nameL_one (k l : Int) (hk : 1 ≤ k ∧ k ≤ 8) (h : nameL k = nameL l) : k = l := by
  by_cases hl : 1 ≤ l ∧ l ≤ 8
  · rcases (by omega : k = 1 ∨ k = 2 ∨ k = 3 ∨ k = 4 ∨ k = 5 ∨ k = 6 ∨ k = 7 ∨ k = 8) with rfl | rfl | rfl | rfl | rfl | rfl | rfl | rfl <;>
      rcases (by omega : l = 1 ∨ l = 2 ∨ l = 3 ∨ l = 4 ∨ l = 5 ∨ l = 6 ∨ l = 7 ∨ l = 8) with rfl | rfl | rfl | rfl | rfl | rfl | rfl | rfl <;> first | rfl | (revert h; decide)
  · exact absurd hk ((nameL_no k).1 (h.trans ((nameL_no l).2 hl)))
set_option maxRecDepth 100000 in
set_option maxHeartbeats 1000000 in
theorem auditNames_walk (x y : Int) (w : World) : Calls Tryz.prog 8 #[.int .i64 x, .int .i64 y] w fun e w' => e = .returned (.bool true) ∧ Below w.heap.size w w' := by
  have N0 := fun W => name_any x W
  have N2 := fun W => name_any y W
  have N1 := fun W => tick_any W
  have l1 := name_list x
  have l2 := name_list y
  obtain ⟨s1, hs1⟩ : ∃ s, ByteArray.mk (nameM x) = s := ⟨_, rfl⟩
  obtain ⟨s2, hs2⟩ : ∃ s, ByteArray.mk (nameM y) = s := ⟨_, rfl⟩
  rw [hs1] at N0 l1
  rw [hs2] at N2 l2
  clear hs1 hs2
  by_cases hx : 1 ≤ x ∧ x ≤ 8
  · have d1 : s1.toList.isEmpty = false := by
      rw [l1]
      have : nameL x ≠ [] := fun h => (nameL_no x).1 h hx
      simpa using this
    have d2 : decide (1 ≤ x) = true := by simpa using hx.1
    have d3 : decide (x ≤ 8) = true := by simpa using hx.2
    by_cases he : nameL x = nameL y
    · obtain rfl := nameL_one x y hx he
      have d4 : (s1.toList == s2.toList) = true := by rw [l1, l2]; simp
      clear l1 l2 he hx
      go_enter Tryz.func8, Tryz.ntmps8
      go_wp2_with fail
      refine (N0 _).mono ?_
      rintro e w1 ⟨rfl, hb1⟩
      have HB1 := hide hb1
      clear hb1
      go_wp2_with fail
      refine (N2 _).mono ?_
      rintro e w2 ⟨rfl, hb2⟩
      replace HB1 := hide (HB1.out.trans (hb2.mono HB1.out.size))
      clear hb2
      go_wp2_with fail
      refine (N1 _).mono ?_
      rintro e w3 ⟨rfl, hb3⟩
      replace HB1 := hide (HB1.out.trans (hb3.mono HB1.out.size))
      clear hb3
      go_wp2
      go_ret
      exact ⟨rfl, HB1.out⟩
    · have d4 : (s1.toList == s2.toList) = false := by rw [l1, l2]; simpa using he
      clear l1 l2 he hx
      go_enter Tryz.func8, Tryz.ntmps8
      go_wp2_with fail
      refine (N0 _).mono ?_
      rintro e w1 ⟨rfl, hb1⟩
      have HB1 := hide hb1
      clear hb1
      go_wp2_with fail
      refine (N2 _).mono ?_
      rintro e w2 ⟨rfl, hb2⟩
      replace HB1 := hide (HB1.out.trans (hb2.mono HB1.out.size))
      clear hb2
      go_wp2_with fail
      refine (N1 _).mono ?_
      rintro e w3 ⟨rfl, hb3⟩
      replace HB1 := hide (HB1.out.trans (hb3.mono HB1.out.size))
      clear hb3
      go_wp2
      go_ret
      exact ⟨rfl, HB1.out⟩
  · have d1 : s1.toList.isEmpty = true := by rw [l1, (nameL_no x).2 hx]; rfl
    have dd : (decide (1 ≤ x) && decide (x ≤ 8)) = false := by simp; omega
    rcases hq : decide (1 ≤ x) with _ | _
    · by_cases he : nameL x = nameL y
      · have d4 : (s1.toList == s2.toList) = true := by rw [l1, l2]; simpa using he
        rcases hxy : (x == y) with _ | _
        all_goals
          clear l1 l2 he hx dd
          go_enter Tryz.func8, Tryz.ntmps8
          go_wp2_with fail
          refine (N0 _).mono ?_
          rintro e w1 ⟨rfl, hb1⟩
          have HB1 := hide hb1
          clear hb1
          go_wp2_with fail
          refine (N2 _).mono ?_
          rintro e w2 ⟨rfl, hb2⟩
          replace HB1 := hide (HB1.out.trans (hb2.mono HB1.out.size))
          clear hb2
          go_wp2_with fail
          refine (N1 _).mono ?_
          rintro e w3 ⟨rfl, hb3⟩
          replace HB1 := hide (HB1.out.trans (hb3.mono HB1.out.size))
          clear hb3
          go_wp2
          go_ret
          exact ⟨rfl, HB1.out⟩
      · have d4 : (s1.toList == s2.toList) = false := by rw [l1, l2]; simpa using he
        clear l1 l2 he hx dd
        go_enter Tryz.func8, Tryz.ntmps8
        go_wp2_with fail
        refine (N0 _).mono ?_
        rintro e w1 ⟨rfl, hb1⟩
        have HB1 := hide hb1
        clear hb1
        go_wp2_with fail
        refine (N2 _).mono ?_
        rintro e w2 ⟨rfl, hb2⟩
        replace HB1 := hide (HB1.out.trans (hb2.mono HB1.out.size))
        clear hb2
        go_wp2_with fail
        refine (N1 _).mono ?_
        rintro e w3 ⟨rfl, hb3⟩
        replace HB1 := hide (HB1.out.trans (hb3.mono HB1.out.size))
        clear hb3
        go_wp2
        go_ret
        exact ⟨rfl, HB1.out⟩
    · rw [hq] at dd
      have d3 : decide (x ≤ 8) = false := by simpa using dd
      by_cases he : nameL x = nameL y
      · have d4 : (s1.toList == s2.toList) = true := by rw [l1, l2]; simpa using he
        rcases hxy : (x == y) with _ | _
        all_goals
          clear l1 l2 he hx dd
          go_enter Tryz.func8, Tryz.ntmps8
          go_wp2_with fail
          refine (N0 _).mono ?_
          rintro e w1 ⟨rfl, hb1⟩
          have HB1 := hide hb1
          clear hb1
          go_wp2_with fail
          refine (N2 _).mono ?_
          rintro e w2 ⟨rfl, hb2⟩
          replace HB1 := hide (HB1.out.trans (hb2.mono HB1.out.size))
          clear hb2
          go_wp2_with fail
          refine (N1 _).mono ?_
          rintro e w3 ⟨rfl, hb3⟩
          replace HB1 := hide (HB1.out.trans (hb3.mono HB1.out.size))
          clear hb3
          go_wp2
          go_ret
          exact ⟨rfl, HB1.out⟩
      · have d4 : (s1.toList == s2.toList) = false := by rw [l1, l2]; simpa using he
        clear l1 l2 he hx dd
        go_enter Tryz.func8, Tryz.ntmps8
        go_wp2_with fail
        refine (N0 _).mono ?_
        rintro e w1 ⟨rfl, hb1⟩
        have HB1 := hide hb1
        clear hb1
        go_wp2_with fail
        refine (N2 _).mono ?_
        rintro e w2 ⟨rfl, hb2⟩
        replace HB1 := hide (HB1.out.trans (hb2.mono HB1.out.size))
        clear hb2
        go_wp2_with fail
        refine (N1 _).mono ?_
        rintro e w3 ⟨rfl, hb3⟩
        replace HB1 := hide (HB1.out.trans (hb3.mono HB1.out.size))
        clear hb3
        go_wp2
        go_ret
        exact ⟨rfl, HB1.out⟩

set_option maxRecDepth 100000 in
theorem auditNames_lifted (os : Os) (started : os.Started) (H : Type) (enc : TypeId × Value → H) :
    ReturnsInHanded {} Tryz.checked os 8 .any (Rows.auditNamesSpec.pre6 enc Tryz.prog Tryz.f8 Rows.auditNamesRow.domain false) (Rows.auditNamesSpec.post enc Tryz.prog Tryz.f8 false true false false) := by
  refine returnsInHanded_of_change (C := Tryz.checked) Tryz.own started (by kernel_rfl) Tryz.func8
    (ChangeSpec.witness6 (enc := enc) (C := Tryz.checked) false ⟨#[], #[.int .i64 0, .int .i64 0], []⟩ 8 (by kernel_rfl) (by kernel_rfl) (by kernel_rfl) (by kernel_rfl)) ?_
  intro W base args ds gs before hval0 hW hcnd _
  have hval : ∀ (j : Nat) t v, Tryz.f8.params[j]? = some t → args[j]? = some v → Value.okWide Tryz.prog W .any base t v := hval0
  have hW' := hW
  obtain ⟨p, q, hA0, hV, rfl, hfz, hnd⟩ := hW
  have hA : DataW.TrodAll enc Tryz.prog W 0 (fun _ => true) true Tryz.f8.params.toList args.toList ds p := hA0
  have hA1 := hA
  rw [Tryz.params8] at hA hval
  obtain ⟨v0, v1, d0, d1, p0, p1, rfl, rfl, rfl, h0, h1⟩ := trodAll_two hA
  obtain ⟨rfl, rfl⟩ := trodVars_none hV
  obtain ⟨x0, rfl, hw0⟩ := read_int (hval 0 _ v0 rfl rfl) h0
  obtain ⟨x1, rfl, hw1⟩ := read_int (hval 1 _ v1 rfl rfl) h1
  simp only [List.append_nil] at hW'
  refine (auditNames_walk x0 x1 W).mono fun e W' ⟨he, hb⟩ => ?_
  subst he
  exact ⟨_, rfl, law_post rfl rfl hW' hA1 rfl rfl rfl (by rw [Tryz.params8]; intro t ht; simp only [List.mem_cons, List.not_mem_nil, or_false] at ht; rcases ht with rfl | rfl <;> exact ⟨by kernel_rfl, of_decide_eq_true (by kernel_rfl)⟩) hb⟩

theorem auditNames_holds : Rows.AuditNamesSaid :=
  OpenClaim.holds_of_wide 8 Tryz.f8 rfl rfl rfl rfl rfl rfl rfl ⟨rfl, rfl, rfl, rfl, rfl⟩ rfl rfl rfl rfl rfl (by kernel_rfl) Tryz.func8 (by kernel_rfl)
    (of_decide_eq_true (by kernel_rfl)) (by unfold Func.isWrapper; first | (rw [if_pos (by decide +kernel)]; kernel_rfl) | (rw [if_neg (by decide +kernel)]; exact ⟨rfl, rfl⟩))
    (fun os started H enc _ => auditNames_lifted os started H enc)
#print axioms auditNames_holds
end Go.Proofs.YtmiimpmfkjcjlaaGreat
