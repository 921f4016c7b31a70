/- One tally of two threads, as table makes it: Words, Make. -/
import Derived.Test.YtfghmlpjbedomaaGreatTt1
namespace Go.Proofs.YtfghmlpjbedomaaGreat
open Go.RowKit
attribute [local go_sem] run_store_fn run_store_nilfn

theorem info_object : (Tryz.prog.info? 123).map (fun i => (i.zero, i.size, i.bytes)) = some (some .nilIface, 1, 16) := by kernel_rfl
set_option maxRecDepth 100000 in
set_option maxHeartbeats 2000000 in
theorem ttWords {B cc : Nat} (w : World) (h : SlSp w (.slice (some ⟨B, 0, none⟩) 1 cc) [⟨2, 0, 0⟩]) : Calls Tryz.prog 54 #[.int .i64 2, .slice (some ⟨B, 0, none⟩) 1 cc] w fun e w' => ∃ g, e = .returned (.tuple #[.slice (some ⟨g, 0, none⟩) 2 2, .int .i64 0]) ∧ w'.heap[g]? = some (.cells #[.int .u64 0, .int .u64 0] 37 (0, 0)) ∧ w.heap.size ≤ g ∧ Below w.heap.size w w' := by
  have NL := ttLay w h
  have hmc : madeCells #[Value.int .u64 0] 2 = #[Value.int .u64 0, Value.int .u64 0] := by kernel_rfl
  have hmk : ∀ W, (Instr.makeSlice 33 (.int .i64 2) (.int .i64 2)).run Tryz.prog W = .ok (.slice (some ⟨W.heap.size, 0, none⟩) 2 2) (W.alloc (.cells #[.int .u64 0, .int .u64 0] 37)) := by
    intro W
    rw [← hmc]
    exact run_make_row' (P := Tryz.prog) 33 37 (.int .u64 0) 8 Tryz.underlying33 info_word rfl .i64 .i64 2 (by omega) (by omega) W
  clear hmc
  obtain ⟨A', c', e1, q1, q2, q3⟩ := h
  obtain ⟨bb, oo, e2, hbb, hcc⟩ := q3 0 _ rfl
  cases e1
  cases e2
  obtain ⟨c0, c1, c2⟩ := spec_cells hcc
  clear q3 hcc q1 q2
  simp only [Nat.zero_mul, Nat.add_zero] at c0 c1 c2
  go_enter Tryz.func54, Tryz.ntmps54
  go_wp2_with fail
  refine NL.mono ?_
  rintro e w1 ⟨u, rfl, hs, hb1⟩
  obtain ⟨Au, cu, hu, _, _, hcu⟩ := hs
  subst hu
  obtain ⟨ub, uo, hA, hubz, huc⟩ := hcu 0 0 rfl
  subst hA
  have hu0 := nt_cell huc
  simp only [Nat.mul_one, Nat.add_zero] at hu0
  have b0 := (hb1.cell (p := ⟨B, 0, none⟩) hbb).trans c0
  have b1 := (hb1.cell (p := ⟨B, 0 + 1, none⟩) hbb).trans c1
  have b2 := (hb1.cell (p := ⟨B, 0 + 2, none⟩) hbb).trans c2
  have hzB : B < w1.heap.size := Nat.lt_of_lt_of_le hbb hb1.size
  have HB1 := hide hb1
  clear hb1 huc hcu NL
  simp only [List.length_cons, List.length_nil, Nat.zero_add]
  clear c0 c1 c2 hu0
  go_wp2
  go_loopw [26] (fun i wr => ∃ k : Nat, k ≤ 1 ∧ i = .int .i64 k ∧ Hid (Below (w1.heap.size + 1) (w1.alloc (.cells #[.int .u64 0, .int .u64 0] 37)) wr)) (fun i _ => 1 - (intOf i).toNat)
  case atStart => exact ⟨0, Nat.zero_le _, rfl, hide (Below.refl _ _)⟩
  case round =>
    obtain ⟨k, hk, rfl, hB⟩ := hrel
    have hsz := hB.out.size
    simp only [World.alloc, Array.size_push] at hsz
    have a0 : wr.cell? ⟨B, 0, none⟩ = some (.int .i64 2) := (hB.out.cell (p := ⟨B, 0, none⟩) (by show B < _; omega)).trans (Lib.cell?_alloc_some _ b0)
    have a1 : wr.cell? ⟨B, 0 + 1, none⟩ = some (.int .i64 0) := (hB.out.cell (p := ⟨B, 0 + 1, none⟩) (by show B < _; omega)).trans (Lib.cell?_alloc_some _ b1)
    have a2 : wr.cell? ⟨B, 0 + 2, none⟩ = some (.int .i64 0) := (hB.out.cell (p := ⟨B, 0 + 2, none⟩) (by show B < _; omega)).trans (Lib.cell?_alloc_some _ b2)
    have hzb : B < wr.heap.size := by omega
    by_cases hlt : k = 0
    · subst hlt
      have HB2 := hide (hB.out.alloc (by omega) (.cells #[.int .i64 2, .int .i64 0, .int .i64 0] 51))
      clear b0 b1 b2
      go_wp2
      go_roundw
      case rel => exact ⟨1, Nat.le_refl _, by go_num, HB2⟩
      case measure => first | (simp [intOf]; done) | (simp [intOf]; omega)
    · obtain rfl : k = 1 := by omega
      clear hlt
      go_wp2
      go_ret2
      have hbw : Below w1.heap.size w1 wr := ((Below.refl _ w1).alloc (Nat.le_refl _) _).trans (hB.out.mono (by omega))
      exact ⟨w1.heap.size, rfl, (hB.out.block w1.heap.size (by omega)).trans (heap_alloc_new _ _), HB1.out.size, HB1.out.trans (hbw.mono HB1.out.size)⟩
set_option maxRecDepth 100000 in
set_option maxHeartbeats 4000000 in
theorem ttMake {B cc : Nat} (w : World) (h : SlSp w (.slice (some ⟨B, 0, none⟩) 1 cc) [⟨2, 0, 0⟩]) : Calls Tryz.prog 38 #[.int .i64 2, .slice (some ⟨B, 0, none⟩) 1 cc] w fun e w' => ∃ ob oc g, e = .returned (.tuple #[.slice (some ⟨ob, 0, none⟩) 1 oc, .slice (some ⟨g, 0, none⟩) 2 2, .int .i64 0]) ∧ w'.ownsRow w.heap.size 123 1 (.slice (some ⟨ob, 0, none⟩) 1 oc) 1 [taV] ∧ w'.heap[g]? = some (.cells #[.int .u64 0, .int .u64 0] 37 (0, 0)) ∧ w.heap.size ≤ g ∧ Below w.heap.size w w' := by
  have NL := ttLay w h
  have HS := hide h
  obtain ⟨i0, hi, hx0, hx1, hx2⟩ := info_parts info_object
  obtain ⟨A', c', e1, q1, q2, q3⟩ := h
  obtain ⟨bb, oo, e2, hbb, hcc⟩ := q3 0 _ rfl
  cases e1
  cases e2
  obtain ⟨c0, c1, c2⟩ := spec_cells hcc
  clear q3 hcc q1 q2
  simp only [Nat.zero_mul, Nat.add_zero] at c0 c1 c2
  go_enter Tryz.func38, Tryz.ntmps38
  go_wp2_with fail
  refine NL.mono ?_
  rintro e w1 ⟨u, rfl, hs, hb1⟩
  obtain ⟨Au, cu, hu, _, _, hcu⟩ := hs
  subst hu
  obtain ⟨ub, uo, hA, hubz, huc⟩ := hcu 0 0 rfl
  subst hA
  have hu0 := nt_cell huc
  simp only [Nat.mul_one, Nat.add_zero] at hu0
  have b0 := (hb1.cell (p := ⟨B, 0, none⟩) hbb).trans c0
  have b1 := (hb1.cell (p := ⟨B, 0 + 1, none⟩) hbb).trans c1
  have b2 := (hb1.cell (p := ⟨B, 0 + 2, none⟩) hbb).trans c2
  have hzB : B < w1.heap.size := Nat.lt_of_lt_of_le hbb hb1.size
  have HB1 := hide hb1
  clear hb1 huc hcu NL
  simp only [List.length_cons, List.length_nil, Nat.zero_add]
  clear c0 c1 c2
  go_wp2
  go_loopw [28, 10] (fun i v wr => ∃ k : Nat, k ≤ 1 ∧ i = .int .i64 k ∧ Hid (wr.ownsRow w1.heap.size 123 1 v k (List.replicate k taV)) ∧ Hid (Below w1.heap.size w1 wr)) (fun i _ _ => 1 - (intOf i).toNat)
  case atStart => exact ⟨0, Nat.zero_le _, rfl, hide (World.ownsRow_nil _ _ _ _), hide (Below.refl _ _)⟩
  case round =>
    obtain ⟨k, hk, rfl, hown, hB⟩ := hrel
    have hsz := hB.out.size
    have a0 : wr.cell? ⟨B, 0, none⟩ = some (.int .i64 2) := (hB.out.cell (p := ⟨B, 0, none⟩) hzB).trans b0
    have a1 : wr.cell? ⟨B, 0 + 1, none⟩ = some (.int .i64 0) := (hB.out.cell (p := ⟨B, 0 + 1, none⟩) hzB).trans b1
    have a2 : wr.cell? ⟨B, 0 + 2, none⟩ = some (.int .i64 0) := (hB.out.cell (p := ⟨B, 0 + 2, none⟩) hzB).trans b2
    have hzb : B < wr.heap.size := by omega
    by_cases hlt : k = 0
    · subst hlt
      go_wp2_with fail
      refine (ttOf _).mono ?_
      rintro e w2 ⟨⟨b, rfl⟩, hb2⟩
      obtain ⟨Av, cv, rfl⟩ := own_slice hown.out
      have hbr2 : Below w1.heap.size w1 w2 := (hB.out.alloc hsz _).trans (hb2.mono (by simp; omega))
      have hz2 : wr.heap.size < w2.heap.size := by have := hb2.size; simp at this; omega
      have e0 : w2.cell? ⟨wr.heap.size, 0, none⟩ = some (.int .i64 2) := (hb2.cell (p := ⟨wr.heap.size, 0, none⟩) (by simp)).trans (by go_simp)
      have e1 : w2.cell? ⟨wr.heap.size, 1, none⟩ = some (.int .i64 0) := (hb2.cell (p := ⟨wr.heap.size, 1, none⟩) (by simp)).trans (by go_simp)
      have e2 : w2.cell? ⟨wr.heap.size, 2, none⟩ = some (.int .i64 0) := (hb2.cell (p := ⟨wr.heap.size, 2, none⟩) (by simp)).trans (by go_simp)
      have u1 := (HB1.out.size)
      have hubz1 : ub < w1.heap.size := hubz
      have eu := (hbr2.cell (p := ⟨ub, uo, none⟩) hubz1).trans hu0
      have hzu : ub < w2.heap.size := by have := hbr2.size; omega
      have hown2 := owns_keepV (owns_keepV hown.out ((Keep.refl (fun k => k < wr.heap.size) wr).alloc (fun k hk => hk) (.cells #[.int .i64 2, .int .i64 0, .int .i64 0] 51)) (fun k hk => (hown.out.lt k hk).2)) (Keep.of_below (K := fun k => k < wr.heap.size) hb2 (fun k hk => by simp; omega)) (fun k hk => (hown.out.lt k hk).2)
      have HW2 := hide hown2
      have HBR := hide hbr2
      have HOL := hide (fun k hk => hown.out.lt k hk)
      clear hb2 hown hB hbr2 hown2 a0 a1 a2 b0 b1 b2 hu0
      go_upto_region 9 with fail
      refine wp_region_seq (fun Y => Y.cell? ⟨w2.heap.size, 3, none⟩ = some (.func (.func 90) #[] #[]) ∧ Y.cell? ⟨ub, uo, none⟩ = some (.int .i64 0) ∧ Y.cell? ⟨wr.heap.size, 0, none⟩ = some (.int .i64 2) ∧ Y.cell? ⟨wr.heap.size, 1, none⟩ = some (.int .i64 0) ∧ Y.cell? ⟨wr.heap.size, 2, none⟩ = some (.int .i64 0)) (.take 0 <| .take 1 <| .take 2 <| .take 3 <| .take 4 <| .take 5 <| .take 6 <| .take 7 <| .take 8 <| .run 9 <| .run 10 <| .run 11 <| .take 12 <| .done) (by kernel_rfl) (by kernel_rfl) (by kernel_rfl) (by refine ⟨?_, ?_, ?_, ?_, ?_⟩ <;> go_simp) ?_
      iterate 9 (refine seq_take (v := ?_) rfl (by rfl) ?_ ?_; rotate_left; (focus (intro wS hS; obtain ⟨s0, s1, s2, s3, s4⟩ := hS; go_simp; exact rfl)); simp only [Act.put, List.setIfInBounds_toArray, List.set_cons_zero, List.set_cons_succ])
      (refine seq_run rfl (by rfl) (fun K hK => ?_); go_simp)
      refine (ttMk _).mono ?_
      rintro e w3 ⟨rfl, hb3⟩
      have hz3 : w2.heap.size < w3.heap.size := by have := hb3.size; simp at this; omega
      have s0 : w3.cell? ⟨w2.heap.size, 3, none⟩ = some (.func (.func 90) #[] #[]) := (hb3.cell (p := ⟨w2.heap.size, 3, none⟩) (by simp)).trans (by go_simp)
      have s1 : w3.cell? ⟨ub, uo, none⟩ = some (.int .i64 0) := (hb3.cell (p := ⟨ub, uo, none⟩) (by simp; omega)).trans (by go_simp)
      have s2 : w3.cell? ⟨wr.heap.size, 0, none⟩ = some (.int .i64 2) := (hb3.cell (p := ⟨wr.heap.size, 0, none⟩) (by simp; omega)).trans (by go_simp)
      have s3 : w3.cell? ⟨wr.heap.size, 1, none⟩ = some (.int .i64 0) := (hb3.cell (p := ⟨wr.heap.size, 1, none⟩) (by simp; omega)).trans (by go_simp)
      have s4 : w3.cell? ⟨wr.heap.size, 2, none⟩ = some (.int .i64 0) := (hb3.cell (p := ⟨wr.heap.size, 2, none⟩) (by simp; omega)).trans (by go_simp)
      refine hK _ _ ⟨s0, s1, s2, s3, s4⟩ ?_
      unfold taV
      have hk3 : Keep (fun k => k < w2.heap.size) w2 w3 := (((Keep.refl (fun k => k < w2.heap.size) w2).alloc (fun k hk => hk) (.cells #[.func (.func 108) #[] #[.pointer (some ⟨b, 0, none⟩)], .func (.func 85) #[] #[], .func (.func 89) #[] #[], .func (.func 90) #[] #[]] 119)).drew).trans (Keep.of_below (K := fun k => k < w2.heap.size) hb3 (fun k hk => by simp; omega))
      have hzr2 := HBR.out.size
      have hown3 := owns_keepV HW2.out hk3 (fun k hk => (HW2.out.lt k hk).2)
      have HK3 := hide hk3
      have hzu3 : ub < w3.heap.size := by omega
      have hzr3 : wr.heap.size < w3.heap.size := by omega
      clear hK K hb3 hk3 e0 e1 e2 eu
      (refine seq_run rfl (by rfl) (fun K hK => ?_); go_simp)
      refine hK _ _ (by refine ⟨?_, ?_, ?_, ?_, ?_⟩ <;> first | (go_simp; done) | exact Lib.cell?_alloc_some _ (by assumption)) ?_
      clear hK K
      refine seq_run rfl (by rfl) (fun K hK => ?_)
      refine wp_append_own_at _ _ 91 rfl w1.heap.size 123 i0 .nilIface 1 16 Tryz.underlying91 hi hx0 hx1 hx2 rfl (by decide) (.slice Av 0 cv) _ _ (by rfl) (World.ownsRow.alloc hown3 (.cells #[.iface 174 (.agg #[.int .i64 0, .int .i64 2])] 123)) ⟨w3.heap.size, 0, none⟩ 1 1 [.iface 174 (.agg #[.int .i64 0, .int .i64 2])] (by rfl) rfl (by intro j u hu; rcases j with _ | j; (simp at hu; subst hu; go_simp); (simp at hu)) (by simp [Value.oneCell']) (by unfold maxLen; omega) (by omega) (by simp; omega) ?_
      intro v' w5 hown5 hgrow hnil hloc
      have hk5 : Keep (fun j => j < w3.heap.size ∧ (j < w1.heap.size ∨ wr.heap.size ≤ j)) w3 w5 := ((Keep.refl _ w3).alloc (fun k hk => hk.1) _).grown hgrow (fun k hk => by simp; omega) (fun k hk hh => by
        have h := HOL.out k hk
        have h1 : w1.heap.size ≤ k := h.1
        have h2 : k < wr.heap.size := h.2
        omega)
      have hb23 : Below w2.heap.size w2 w3 := HK3.out.below (fun k hk => hk)
      have hb13 : Below w1.heap.size w1 w3 := HBR.out.trans (hb23.mono HBR.out.size)
      have hb15 : Below w1.heap.size w1 w5 := (hb13.alloc hb13.size _).grown hgrow (by simp; have := hb13.size; omega) (fun j hj => (HOL.out j hj).1)
      refine hK _ _ ⟨(hk5.cell (p := ⟨w2.heap.size, 3, none⟩) ⟨hz3, Or.inr (by show wr.heap.size ≤ w2.heap.size; omega)⟩).trans s0, (hk5.cell (p := ⟨ub, uo, none⟩) ⟨hzu3, Or.inl hubz1⟩).trans s1, (hk5.cell (p := ⟨wr.heap.size, 0, none⟩) ⟨hzr3, Or.inr (Nat.le_refl _)⟩).trans s2, (hk5.cell (p := ⟨wr.heap.size, 1, none⟩) ⟨hzr3, Or.inr (Nat.le_refl _)⟩).trans s3, (hk5.cell (p := ⟨wr.heap.size, 2, none⟩) ⟨hzr3, Or.inr (Nat.le_refl _)⟩).trans s4⟩ ?_
      have HO5 := hide hown5
      have HB5 := hide hb15
      clear hK K hown5 hgrow hnil hloc hk5 hb23 hb13 hb15 s0 s1 s2 s3 s4 hown3
      (refine seq_take (v := ?_) rfl (by rfl) ?_ ?_; rotate_left; (focus (intro wS hS; obtain ⟨s0, s1, s2, s3, s4⟩ := hS; go_simp; exact rfl)); simp only [Act.put, List.setIfInBounds_toArray, List.set_cons_zero, List.set_cons_succ])
      refine seq_nil ?_
      go_wp2
      go_roundw
      case rel => exact ⟨1, Nat.le_refl _, by go_num, HO5, HB5⟩
      case measure => first | (simp [intOf]; done) | (simp [intOf]; omega)
    · obtain rfl : k = 1 := by omega
      obtain ⟨Av, cv, hv⟩ := own_slice hown.out
      subst hv
      have hr := hown.out
      rcases hr.2 with ⟨h1, _⟩ | ⟨ob, oc, cur, hv, hob, hh, hr4⟩
      · cases h1
      cases hv
      have NW := ttWords wr (HS.out.below (HB1.out.trans (hB.out.mono HB1.out.size)) (Nat.le_refl _))
      have hb0 := HB1.out.trans (hB.out.mono HB1.out.size)
      have HR := hide hr
      have HHB := hide hb0
      clear hlt hr hh hown hr4 hb0
      go_wp2_with fail
      refine NW.mono ?_
      rintro e w3 ⟨g, rfl, hg, hgz, hb3⟩
      have HG := hide hg
      have HB3 := hide hb3
      clear hg hb3 NW
      go_wp2
      go_ret3
      have hz0 := HHB.out.size
      refine ⟨ob, cv, g, rfl, ?_, HG.out, by omega, HHB.out.trans (HB3.out.mono hz0)⟩
      exact owns_base (owns_keepV HR.out (Keep.of_below (K := fun k => k < wr.heap.size) HB3.out (fun k hk => hk)) (fun k hk => (HR.out.lt k hk).2)) HB1.out.size
end Go.Proofs.YtfghmlpjbedomaaGreat
