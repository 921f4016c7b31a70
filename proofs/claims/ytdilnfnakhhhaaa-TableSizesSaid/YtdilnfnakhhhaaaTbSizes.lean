/- TableSizes: for every input the law returns true, and the input reads as it did. -/
import Derived.Test.YtdilnfnakhhhaaaRowSp
import Derived.Test.YtdilnfnakhhhaaaSeq
import Derived.Test.YtdilnfnakhhhaaaTb7
namespace Go.Proofs.Ytdilnfnakhhhaaa
open Go.ChangeShapes Go.WideShapes Go.ChangeAt Go.RowKit

theorem spec_box {w X : World} {s : Sp} (h : Below (w.heap.size + 1) (w.alloc (.cells #[.int .i64 s.kind, .int .i64 s.p, .int .i64 s.q] 75)) X) :
    X.cell? ⟨w.heap.size, 0, none⟩ = some (.int .i64 s.kind) ∧ X.cell? ⟨w.heap.size, 1, none⟩ = some (.int .i64 s.p) ∧ X.cell? ⟨w.heap.size, 2, none⟩ = some (.int .i64 s.q) := by
  obtain ⟨a, b, c, _⟩ := cells3 ((h.block w.heap.size (by omega)).trans (heap_alloc_new _ _))
  exact ⟨a, b, c⟩

set_option maxRecDepth 100000 in
set_option maxHeartbeats 2000000 in
theorem law_sizes (n : Int) (s : Sp) (w : World) : Calls Try.prog 10 #[.int .i64 n, spV s] w fun e w' => e = .returned (.bool true) ∧ Below w.heap.size w w' := by
  have N0 := fun W => tsize_any n s W
  have N1 := fun W => refSize_any n s W
  have N2 := fun W => tkinds_any s W
  have N3 := fun W => refTKinds_any s W
  generalize sizeV n s = V at *
  generalize sizeE n s = E at *
  generalize actsT s.kind s.p = K at *
  go_enter Try.func10, Try.ntmps10
  go_wp2_with fail
  refine (N0 _).mono ?_
  rintro e w1 ⟨rfl, hb1⟩
  have hB1 : Below (w.heap.size + 1) (w.alloc (.cells #[.int .i64 s.kind, .int .i64 s.p, .int .i64 s.q] 75)) w1 := hb1.mono (by simp)
  obtain ⟨x0, x1, x2⟩ := spec_box hB1
  have hz1 : w.heap.size + 1 ≤ w1.heap.size := by have := hB1.size; simpa using this
  go_wp2_with fail
  refine (N1 _).mono ?_
  rintro e w2 ⟨rfl, hb2⟩
  have hB2 := hB1.trans (hb2.mono hz1)
  have hz2 : w.heap.size + 1 ≤ w2.heap.size := by have := hB2.size; simpa using this
  clear hb1 hb2 hB1 x0 x1 x2
  go_wp2
  refine wp_region_seq (fun X => Below (w.heap.size + 1) (w.alloc (.cells #[.int .i64 s.kind, .int .i64 s.p, .int .i64 s.q] 75)) X) (.take 0 <| .take 1 <| .take 2 <| .take 3 <| .take 4 <| .take 5 <| .take 6 <| .take 7 <| .take 8 <| .take 9 <| .take 11 <| .run 10 <| .run 12 <| .take 13 <| .take 14 <| .take 15 <| .run 16 <| .take 17 <| .take 18 <| .done) (by kernel_rfl) (by kernel_rfl) (by kernel_rfl) (Below.drew hB2) ?_
  repeat (refine seq_take (v := ?_) rfl (by rfl) ?_ ?_; rotate_left; (focus (intro wS hS; obtain ⟨s0, s1, s2⟩ := spec_box hS; go_simp; exact rfl)); simp only [Act.put, List.setIfInBounds_toArray, List.set_cons_zero, List.set_cons_succ])
  (refine seq_run rfl (by rfl) (fun K hK => ?_); go_simp)
  refine (N2 _).mono ?_
  rintro e w3 ⟨rfl, hb3⟩
  have hB3 := (Below.drew hB2).trans (hb3.mono (by simpa using hz2))
  have hz3 : w.heap.size + 1 ≤ w3.heap.size := by have := hB3.size; simpa using this
  refine hK _ _ hB3 ?_
  clear hK hb3
  (refine seq_run rfl (by rfl) (fun K hK => ?_); go_simp)
  refine (N3 _).mono ?_
  rintro e w4 ⟨rfl, hb4⟩
  have hB4 := hB3.trans (hb4.mono hz3)
  have hz4 : w.heap.size + 1 ≤ w4.heap.size := by have := hB4.size; simpa using this
  refine hK _ _ hB4 ?_
  clear hK hb4
  repeat (refine seq_take (v := ?_) rfl (by rfl) ?_ ?_; rotate_left; (focus (intro wS hS; obtain ⟨s0, s1, s2⟩ := spec_box hS; go_simp; exact rfl)); simp only [Act.put, List.setIfInBounds_toArray, List.set_cons_zero, List.set_cons_succ])
  (refine seq_run rfl (by rfl) (fun K hK => ?_); go_simp)
  refine (pair_any _).mono ?_
  rintro e w5 ⟨rfl, hb5⟩
  have hB5 := hB4.trans (hb5.mono hz4)
  refine hK _ _ hB5 ?_
  clear hK hb5
  repeat (refine seq_take (v := ?_) rfl (by rfl) ?_ ?_; rotate_left; (focus (intro wS hS; obtain ⟨s0, s1, s2⟩ := spec_box hS; go_simp; exact rfl)); simp only [Act.put, List.setIfInBounds_toArray, List.set_cons_zero, List.set_cons_succ])
  refine seq_nil ?_
  go_wp2
  go_ret
  exact ⟨ret_bool (by first | rfl | (simp; done)), ((Below.refl _ w).alloc (Nat.le_refl _) _).trans (hB5.mono (by omega))⟩

set_option maxRecDepth 100000 in
theorem tableSizes_lifted (os : Os) (started : os.Started) (H : Type) (enc : TypeId × Value → H) :
    ReturnsInHanded {} Try.checked os 10 .any (Rows.tableSizesSpec.pre6 enc Try.prog Try.f10 Rows.tableSizesRow.domain false) (Rows.tableSizesSpec.post enc Try.prog Try.f10 false true false false) := by
  refine returnsInHanded_of_change (C := Try.checked) Try.own started (by kernel_rfl) Try.func10
    (ChangeSpec.witness6 (enc := enc) (C := Try.checked) false ⟨#[], #[.int .i64 0, .agg #[.int .i64 0, .int .i64 0, .int .i64 0]], []⟩ 8 (by kernel_rfl) (by kernel_rfl) (by kernel_rfl) (by kernel_rfl)) ?_
  intro W base args ds gs before hval0 hW hcnd _
  have hval : ∀ (j : Nat) t v, Try.f10.params[j]? = some t → args[j]? = some v → Value.okWide Try.prog W .any base t v := hval0
  have hW' := hW
  obtain ⟨p, q, hA0, hV, rfl, hfz, hnd⟩ := hW
  have hA : DataW.TrodAll enc Try.prog W 0 (fun _ => true) true Try.f10.params.toList args.toList ds p := hA0
  have hA1 := hA
  rw [Try.params10] at hA hval
  obtain ⟨v0, v1, d0, d1, p0, p1, rfl, rfl, rfl, h0, h1⟩ := trodAll_two hA
  obtain ⟨rfl, rfl⟩ := trodVars_none hV
  obtain ⟨n, rfl, _⟩ := read_int (hval 0 _ v0 rfl rfl) h0
  obtain ⟨s, rfl, _⟩ := read_specv (hval 1 _ v1 rfl rfl) h1
  simp only [List.append_nil] at hW'
  refine (law_sizes n s W).mono fun e W' ⟨he, hb⟩ => ?_
  subst he
  exact ⟨_, rfl, law_post rfl rfl hW' hA1 rfl rfl rfl (by rw [Try.params10]; intro t ht; simp only [List.mem_cons, List.not_mem_nil, or_false] at ht; rcases ht with rfl | rfl <;> exact ⟨by kernel_rfl, of_decide_eq_true (by kernel_rfl)⟩) hb⟩

theorem tableSizes_holds : Rows.TableSizesSaid :=
  OpenClaim.holds_of_wide 10 Try.f10 rfl rfl rfl rfl rfl rfl rfl ⟨rfl, rfl, rfl, rfl, rfl⟩ rfl rfl rfl rfl rfl (by kernel_rfl) Try.func10 (by kernel_rfl)
    (of_decide_eq_true (by kernel_rfl)) (by unfold Func.isWrapper; first | (rw [if_pos (by decide +kernel)]; kernel_rfl) | (rw [if_neg (by decide +kernel)]; exact ⟨rfl, rfl⟩))
    (fun os started H enc _ => tableSizes_lifted os started H enc)
#print axioms tableSizes_holds
end Go.Proofs.Ytdilnfnakhhhaaa
