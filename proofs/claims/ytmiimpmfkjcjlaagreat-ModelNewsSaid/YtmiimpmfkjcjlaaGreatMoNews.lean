/- ModelNews: the law's walk. -/
import Derived.Test.YtmiimpmfkjcjlaaGreatMoE
namespace Go.Proofs.YtmiimpmfkjcjlaaGreat
open Go.RowKit
attribute [local go_sem] run_store_fn run_store_nilfn

set_option maxRecDepth 100000 in
set_option maxHeartbeats 4000000 in
theorem modelNews_walk (n : Int) (s : Sp) (c : Cl) (A : Option Addr) (m vc : Nat) (st : List Int) (w : World) (h : SlW w (.slice A m vc) st) (hm : st.length = m) (hm63 : (m : Int) ≤ 9223372036854775807) :
    Calls Tryz.prog 3 #[thV n s (.slice A m vc) c] w fun e w' => e = .returned (.bool true) ∧ Below w.heap.size w w' := by
  have N0 : ∀ W, Calls Tryz.prog 9 #[.int .i64 n, .agg #[.int .i64 s.kind, .int .i64 s.p, .int .i64 s.q]] W (NewMPost n s W) := fun W => modelNew n s W
  have N1 := fun W => refSize_any n s W
  have N2 : ∀ A m vc l W, SlW W (.slice A m vc) l → l.length = m → (m : Int) ≤ 9223372036854775807 → Calls Tryz.prog 11 #[.int .i64 n, .agg #[.int .i64 s.kind, .int .i64 s.p, .int .i64 s.q], .slice A m vc] W fun e w' => e = .returned (.bool (rightM n s l)) ∧ Below W.heap.size W w' := fun A m vc l W h h1 h2 => mright_any n s A m vc l W h h1 h2
  have N3 := fun W h => lright_any n s c A m vc st W h hm hm63
  have N4 := fun W => five_any W
  have HS := hide h
  have HM := hide hm
  unfold NewMPost at N0
  obtain ⟨R, hR⟩ : ∃ R, rightM n s st = R := ⟨_, rfl⟩
  have N2s := fun W h => N2 A m vc st W h hm hm63
  rw [hR] at N3 N2s
  by_cases hE : sizeE n s = 0
  · have NW : ∀ W, Calls Tryz.prog 14 #[.int .i64 n, .agg #[.int .i64 s.kind, .int .i64 s.p, .int .i64 s.q]] W (RNewPost n s W) := fun W => refNew27 n s W hE
    unfold RNewPost at NW
    have HNL := newM_len n s hE
    have hRN := rightM_newM n s hE
    rw [hE] at N0 N1
    simp only [ne_eq, not_true_eq_false, false_and, false_or, true_and] at N0
    generalize sizeV n s = SV at *
    generalize newM n s = NL at *
    have N5 : ∀ v1 v2 W, SlW W v1 NL → SlW W v2 NL → Calls Tryz.prog 13 #[v1, v2] W fun e w' => e = .returned (.bool true) ∧ Below W.heap.size W w' := fun v1 v2 W h1 h2 => (same_any v1 v2 NL NL W h1 h2).mono (by rintro e w' ⟨rfl, k, rfl⟩; exact ⟨by simp, below_drewN (Below.refl _ _) k⟩)
    have HNL' := hide HNL
    have HRN := hide hRN
    clear HNL hRN h hm hE hR
    go_enter Tryz.func3, Tryz.ntmps3
    go_wp2_with fail
    refine (N0 _).mono ?_
    rintro e w1 ⟨v1, rfl, hO1, hb1⟩
    obtain ⟨A1, c1, rfl⟩ := own_slice hO1
    have hs1 : SlW w1 (.slice A1 NL.length c1) NL := wrow_sl hO1 (by have := HNL'.out; unfold maxLen; omega)
    have hbx : Below (w.heap.size + 1) _ w1 := hb1.mono (by simp)
    have t1 := (thc_new w n s _ c).below hbx (by omega)
    have HB1 : Hid (Below w.heap.size w w1) := hide (((Below.refl _ w).alloc (Nat.le_refl _) _).trans (hbx.mono (by simp)))
    have hz1 : w.heap.size < w1.heap.size := by have := hbx.size; simp at this; omega
    obtain ⟨s0, s1, s2, s3, s4, _⟩ := t1.cells
    clear hb1 hbx N0 hO1
    go_wp2_with fail
    refine (N1 _).mono ?_
    rintro e w2 ⟨rfl, hb2⟩
    have hs2 := hs1.below hb2 (Nat.le_refl _)
    replace t1 := t1.below hb2 hz1
    have hz2 : w.heap.size < w2.heap.size := by have := hb2.size; omega
    replace HB1 := hide (HB1.out.trans (hb2.mono (by omega)))
    clear s0 s1 s2 s3 s4 hs1 hb2 N1 hz1
    obtain ⟨s0, s1, s2, s3, s4, s5, s6, s7, s8, s9, s10⟩ := t1.cells
    clear t1
    have hHS := HS.out.below HB1.out (Nat.le_refl _)
    go_wp2_with fail
    refine wp_region_seq (Below w2.heap.size w2) (.take 0 <| .take 1 <| .take 2 <| .take 3 <| .take 4 <| .take 5 <| .take 6 <| .take 7 <| .run 8 <| .run 9 <| .take 10 <| .take 11 <| .take 12 <| .take 13 <| .take 14 <| .take 15 <| .take 16 <| .run 17 <| .take 18 <| .take 19 <| .take 20 <| .take 21 <| .take 22 <| .take 23 <| .take 24 <| .take 25 <| .take 27 <| .run 26 <| .run 28 <| .take 29 <| .take 30 <| .take 31 <| .run 32 <| .take 33 <| .take 34 <| .done) (by kernel_rfl) (by kernel_rfl) (by kernel_rfl) (by (repeat' (first | exact Below.refl _ _ | assumption | refine Below.drew ?_ | refine below_drewN ?_ _ | refine Below.alloc ?_ (by simp <;> omega) _ | refine Below.setCell ?_ (by simp <;> omega) _))) ?_
    repeat (refine seq_take (v := ?_) rfl (by rfl) ?_ ?_; rotate_left; (focus (intro wS hS; have z0 := (hS.cell (p := ⟨w.heap.size, 0, none⟩) hz2).trans s0; have z1 := (hS.cell (p := ⟨w.heap.size, 1, none⟩) hz2).trans s1; have z2 := (hS.cell (p := ⟨w.heap.size, 2, none⟩) hz2).trans s2; have z3 := (hS.cell (p := ⟨w.heap.size, 3, none⟩) hz2).trans s3; have z4 := (hS.cell (p := ⟨w.heap.size, 4, none⟩) hz2).trans s4; have z5 := (hS.cell (p := ⟨w.heap.size, 5, none⟩) hz2).trans s5; have z6 := (hS.cell (p := ⟨w.heap.size, 6, none⟩) hz2).trans s6; have z7 := (hS.cell (p := ⟨w.heap.size, 7, none⟩) hz2).trans s7; have z8 := (hS.cell (p := ⟨w.heap.size, 8, none⟩) hz2).trans s8; have z9 := (hS.cell (p := ⟨w.heap.size, 9, none⟩) hz2).trans s9; have z10 := (hS.cell (p := ⟨w.heap.size, 10, none⟩) hz2).trans s10; go_simp; exact rfl)); simp only [Act.put, List.setIfInBounds_toArray, List.set_cons_zero, List.set_cons_succ])
    refine seq_run rfl (by rfl) (fun K hK => ?_)
    go_simp
    refine (NW _).mono ?_
    rintro e w3 ⟨v3, rfl, hO3, hb3⟩
    have hs3 : SlW w3 v3 NL := wrow_sl hO3 (by have := HNL'.out; unfold maxLen; omega)
    have hB3 : Below w2.heap.size w2 w3 := (Below.refl _ _).drew.trans (hb3.mono (by simp))
    refine hK _ _ hB3 ?_
    clear hK K hb3 hO3
    refine seq_run rfl (by rfl) (fun K hK => ?_)
    go_simp
    refine (N5 _ _ _ ?_ ?_).mono ?_
    · first | exact (hs2.below hB3 (Nat.le_refl _)) | exact Sl.below (hs2.below hB3 (Nat.le_refl _)) (Below.refl _ _).drew (Nat.le_refl _)
    · first | exact hs3 | exact Sl.below hs3 (Below.refl _ _).drew (Nat.le_refl _)
    rintro e w4 ⟨rfl, hb4⟩
    have hB4 : Below w2.heap.size w2 w4 := by first | exact hB3.trans (hb4.mono (by have := hB3.size; omega)) | exact hB3.drew.trans (hb4.mono (by have := hB3.size; simp; omega))
    refine hK _ _ hB4 ?_
    clear hK K hb4
    repeat (refine seq_take (v := ?_) rfl (by rfl) ?_ ?_; rotate_left; (focus (intro wS hS; have z0 := (hS.cell (p := ⟨w.heap.size, 0, none⟩) hz2).trans s0; have z1 := (hS.cell (p := ⟨w.heap.size, 1, none⟩) hz2).trans s1; have z2 := (hS.cell (p := ⟨w.heap.size, 2, none⟩) hz2).trans s2; have z3 := (hS.cell (p := ⟨w.heap.size, 3, none⟩) hz2).trans s3; have z4 := (hS.cell (p := ⟨w.heap.size, 4, none⟩) hz2).trans s4; have z5 := (hS.cell (p := ⟨w.heap.size, 5, none⟩) hz2).trans s5; have z6 := (hS.cell (p := ⟨w.heap.size, 6, none⟩) hz2).trans s6; have z7 := (hS.cell (p := ⟨w.heap.size, 7, none⟩) hz2).trans s7; have z8 := (hS.cell (p := ⟨w.heap.size, 8, none⟩) hz2).trans s8; have z9 := (hS.cell (p := ⟨w.heap.size, 9, none⟩) hz2).trans s9; have z10 := (hS.cell (p := ⟨w.heap.size, 10, none⟩) hz2).trans s10; go_simp; exact rfl)); simp only [Act.put, List.setIfInBounds_toArray, List.set_cons_zero, List.set_cons_succ])
    refine seq_run rfl (by rfl) (fun K hK => ?_)
    go_simp
    refine (N2 _ _ _ NL _ ?_ rfl (by have := HNL'.out; omega)).mono ?_
    · first | exact (hs2.below hB4 (Nat.le_refl _)) | exact Sl.below (hs2.below hB4 (Nat.le_refl _)) (Below.refl _ _).drew (Nat.le_refl _)
    rintro e w5 ⟨rfl, hb5⟩
    rw [HRN.out] at *
    have hB5 : Below w2.heap.size w2 w5 := by first | exact hB4.trans (hb5.mono (by have := hB4.size; omega)) | exact hB4.drew.trans (hb5.mono (by have := hB4.size; simp; omega))
    refine hK _ _ hB5 ?_
    clear hK K hb5
    repeat (refine seq_take (v := ?_) rfl (by rfl) ?_ ?_; rotate_left; (focus (intro wS hS; have z0 := (hS.cell (p := ⟨w.heap.size, 0, none⟩) hz2).trans s0; have z1 := (hS.cell (p := ⟨w.heap.size, 1, none⟩) hz2).trans s1; have z2 := (hS.cell (p := ⟨w.heap.size, 2, none⟩) hz2).trans s2; have z3 := (hS.cell (p := ⟨w.heap.size, 3, none⟩) hz2).trans s3; have z4 := (hS.cell (p := ⟨w.heap.size, 4, none⟩) hz2).trans s4; have z5 := (hS.cell (p := ⟨w.heap.size, 5, none⟩) hz2).trans s5; have z6 := (hS.cell (p := ⟨w.heap.size, 6, none⟩) hz2).trans s6; have z7 := (hS.cell (p := ⟨w.heap.size, 7, none⟩) hz2).trans s7; have z8 := (hS.cell (p := ⟨w.heap.size, 8, none⟩) hz2).trans s8; have z9 := (hS.cell (p := ⟨w.heap.size, 9, none⟩) hz2).trans s9; have z10 := (hS.cell (p := ⟨w.heap.size, 10, none⟩) hz2).trans s10; go_simp; exact rfl)); simp only [Act.put, List.setIfInBounds_toArray, List.set_cons_zero, List.set_cons_succ])
    refine seq_run rfl (by rfl) (fun K hK => ?_)
    go_simp
    refine (N2s _ ?_).mono ?_
    · first | exact (hHS.below hB5 (Nat.le_refl _)) | exact Sl.below (hHS.below hB5 (Nat.le_refl _)) (Below.refl _ _).drew (Nat.le_refl _)
    rintro e w6 ⟨rfl, hb6⟩
    have hB6 : Below w2.heap.size w2 w6 := by first | exact hB5.trans (hb6.mono (by have := hB5.size; omega)) | exact hB5.drew.trans (hb6.mono (by have := hB5.size; simp; omega))
    refine hK _ _ hB6 ?_
    clear hK K hb6
    refine seq_run rfl (by rfl) (fun K hK => ?_)
    go_simp
    refine (N3 _ ?_).mono ?_
    · first | exact (hHS.below hB6 (Nat.le_refl _)) | exact Sl.below (hHS.below hB6 (Nat.le_refl _)) (Below.refl _ _).drew (Nat.le_refl _)
    rintro e w7 ⟨rfl, hb7⟩
    have hB7 : Below w2.heap.size w2 w7 := by first | exact hB6.trans (hb7.mono (by have := hB6.size; omega)) | exact hB6.drew.trans (hb7.mono (by have := hB6.size; simp; omega))
    refine hK _ _ hB7 ?_
    clear hK K hb7
    have dR : (R == R) = true := by simp
    repeat (refine seq_take (v := ?_) rfl (by rfl) ?_ ?_; rotate_left; (focus (intro wS hS; have z0 := (hS.cell (p := ⟨w.heap.size, 0, none⟩) hz2).trans s0; have z1 := (hS.cell (p := ⟨w.heap.size, 1, none⟩) hz2).trans s1; have z2 := (hS.cell (p := ⟨w.heap.size, 2, none⟩) hz2).trans s2; have z3 := (hS.cell (p := ⟨w.heap.size, 3, none⟩) hz2).trans s3; have z4 := (hS.cell (p := ⟨w.heap.size, 4, none⟩) hz2).trans s4; have z5 := (hS.cell (p := ⟨w.heap.size, 5, none⟩) hz2).trans s5; have z6 := (hS.cell (p := ⟨w.heap.size, 6, none⟩) hz2).trans s6; have z7 := (hS.cell (p := ⟨w.heap.size, 7, none⟩) hz2).trans s7; have z8 := (hS.cell (p := ⟨w.heap.size, 8, none⟩) hz2).trans s8; have z9 := (hS.cell (p := ⟨w.heap.size, 9, none⟩) hz2).trans s9; have z10 := (hS.cell (p := ⟨w.heap.size, 10, none⟩) hz2).trans s10; go_simp; exact rfl)); simp only [Act.put, List.setIfInBounds_toArray, List.set_cons_zero, List.set_cons_succ])
    refine seq_run rfl (by rfl) (fun K hK => ?_)
    go_simp
    refine (N4 _).mono ?_
    rintro e w8 ⟨rfl, hb8⟩
    have hB8 : Below w2.heap.size w2 w8 := by first | exact hB7.trans (hb8.mono (by have := hB7.size; omega)) | exact hB7.drew.trans (hb8.mono (by have := hB7.size; simp; omega))
    refine hK _ _ hB8 ?_
    clear hK K hb8
    repeat (refine seq_take (v := ?_) rfl (by rfl) ?_ ?_; rotate_left; (focus (intro wS hS; have z0 := (hS.cell (p := ⟨w.heap.size, 0, none⟩) hz2).trans s0; have z1 := (hS.cell (p := ⟨w.heap.size, 1, none⟩) hz2).trans s1; have z2 := (hS.cell (p := ⟨w.heap.size, 2, none⟩) hz2).trans s2; have z3 := (hS.cell (p := ⟨w.heap.size, 3, none⟩) hz2).trans s3; have z4 := (hS.cell (p := ⟨w.heap.size, 4, none⟩) hz2).trans s4; have z5 := (hS.cell (p := ⟨w.heap.size, 5, none⟩) hz2).trans s5; have z6 := (hS.cell (p := ⟨w.heap.size, 6, none⟩) hz2).trans s6; have z7 := (hS.cell (p := ⟨w.heap.size, 7, none⟩) hz2).trans s7; have z8 := (hS.cell (p := ⟨w.heap.size, 8, none⟩) hz2).trans s8; have z9 := (hS.cell (p := ⟨w.heap.size, 9, none⟩) hz2).trans s9; have z10 := (hS.cell (p := ⟨w.heap.size, 10, none⟩) hz2).trans s10; go_simp; exact rfl)); simp only [Act.put, List.setIfInBounds_toArray, List.set_cons_zero, List.set_cons_succ])
    refine seq_nil ?_
    go_wp2
    go_ret
    exact ⟨rfl, HB1.out.trans (hB8.mono (by omega))⟩
  · have hRE : R = false := by rw [← hR]; unfold rightM; rw [decide_eq_false hE]; rfl
    subst hRE
    generalize sizeV n s = SV at *
    obtain ⟨E, hEE⟩ : ∃ E, sizeE n s = E := ⟨_, rfl⟩
    rw [hEE] at N0 N1 hE
    have he : (E != 0) = true := by simpa using hE
    have HEE := hide hE
    clear h hm hR hEE hE
    go_enter Tryz.func3, Tryz.ntmps3
    go_wp2_with fail
    refine (N0 _).mono ?_
    rintro e w1 (⟨_, rfl, hb1⟩ | ⟨h0, _⟩)
    · have hbx : Below (w.heap.size + 1) _ w1 := hb1.mono (by simp)
      have t1 := (thc_new w n s _ c).below hbx (by omega)
      have HB1 : Hid (Below w.heap.size w w1) := hide (((Below.refl _ w).alloc (Nat.le_refl _) _).trans (hbx.mono (by simp)))
      have hz1 : w.heap.size < w1.heap.size := by have := hbx.size; simp at this; omega
      obtain ⟨s0, s1, s2, s3, s4, _⟩ := t1.cells
      clear hb1 hbx N0
      go_wp2_with fail
      refine (N1 _).mono ?_
      rintro e w2 ⟨rfl, hb2⟩
      replace t1 := t1.below hb2 hz1
      have hz2 : w.heap.size < w2.heap.size := by have := hb2.size; omega
      replace HB1 := hide (HB1.out.trans (hb2.mono (by omega)))
      clear s0 s1 s2 s3 s4 hb2 N1 hz1
      obtain ⟨s0, s1, s2, s3, s4, _⟩ := t1.cells
      have hHS := HS.out.below HB1.out (Nat.le_refl _)
      have dE : (E == E) = true := by simp
      clear t1
      go_wp2_with fail
      refine (N2s _ ?_).mono ?_
      · exact hHS
      rintro e w3 ⟨rfl, hb3⟩
      replace HB1 := hide (HB1.out.trans (hb3.mono (by omega)))
      clear hb3 hHS s0 s1 s2 s3 s4
      go_wp2_with fail
      refine (N4 _).mono ?_
      rintro e w4 ⟨rfl, hb4⟩
      replace HB1 := hide (HB1.out.trans (hb4.mono HB1.out.size))
      go_wp2
      go_ret
      exact ⟨rfl, HB1.out⟩
    · exact absurd h0 HEE.out
end Go.Proofs.YtmiimpmfkjcjlaaGreat
