import Derived.Test.YtmiimpmfkjcjlaaGreatBun29
import Derived.Test.YtmiimpmfkjcjlaaGreatBun31
import Derived.Test.YtmiimpmfkjcjlaaGreatBun32
namespace Go.Proofs.YtmiimpmfkjcjlaaGreat
open Go.RowKit
def ansEq (a b : An) : Bool := decide (a.err = b.err) && (decide (a.val = b.val) && decide (a.list = b.list))
set_option maxRecDepth 100000 in
set_option maxHeartbeats 2000000 in
theorem answer_any (a b : An) (A B : Option Addr) (n c m d : Nat) (w : World) (h : SlW w (.slice A n c) a.list) (h' : SlW w (.slice B m d) b.list) :
    Calls Tryz.prog 22 #[.agg #[.int .i64 a.err, .int .u64 a.val, .slice A n c], .agg #[.int .i64 b.err, .int .u64 b.val, .slice B m d]] w fun e w' => e = .returned (.bool (ansEq a b)) ∧ Below w.heap.size w w' := by
  have N0 := fun W h h' => same_any (.slice A n c) (.slice B m d) a.list b.list W h h'
  have H := hide h
  have H' := hide h'
  obtain ⟨R, hR⟩ : ∃ R, ansEq a b = R := ⟨_, rfl⟩
  rw [hR]
  have HR := hide hR
  clear h h' hR
  by_cases e1 : a.err = b.err
  · have d1 : (a.err == b.err) = true := by simpa using e1
    by_cases e2 : a.val = b.val
    · have d2 : (a.val == b.val) = true := by simpa using e2
      have HF : Hid (decide (a.list = b.list) = R) := hide (by rw [← HR.out]; unfold ansEq; rw [decide_eq_true e1, decide_eq_true e2]; rfl)
      clear e1 e2
      go_enter Tryz.func22, Tryz.ntmps22
      go_wp2_with fail
      refine (N0 _ ((H.out.alloc _).alloc _) ((H'.out.alloc _).alloc _)).mono ?_
      rintro e w1 ⟨rfl, k, rfl⟩
      go_wp2
      go_ret
      exact ⟨ret_bool HF.out, by (repeat' (first | exact Below.refl _ _ | assumption | refine Below.drew ?_ | refine below_drewN ?_ _ | refine Below.alloc ?_ (by simp <;> omega) _ | refine Below.setCell ?_ (by simp <;> omega) _))⟩
    · have d2 : (a.val == b.val) = false := by simpa using e2
      have HF : Hid (false = R) := hide (by rw [← HR.out]; unfold ansEq; rw [decide_eq_true e1, decide_eq_false e2]; rfl)
      clear e1 e2
      go_enter Tryz.func22, Tryz.ntmps22
      go_wp2
      go_ret
      exact ⟨ret_bool HF.out, by (repeat' (first | exact Below.refl _ _ | assumption | refine Below.drew ?_ | refine below_drewN ?_ _ | refine Below.alloc ?_ (by simp <;> omega) _ | refine Below.setCell ?_ (by simp <;> omega) _))⟩
  · have d1 : (a.err == b.err) = false := by simpa using e1
    have HF : Hid (false = R) := hide (by rw [← HR.out]; unfold ansEq; rw [decide_eq_false e1]; rfl)
    clear e1
    go_enter Tryz.func22, Tryz.ntmps22
    go_wp2
    go_ret
    exact ⟨ret_bool HF.out, by (repeat' (first | exact Below.refl _ _ | assumption | refine Below.drew ?_ | refine below_drewN ?_ _ | refine Below.alloc ?_ (by simp <;> omega) _ | refine Below.setCell ?_ (by simp <;> omega) _))⟩
theorem legal_full {n : Int} {s : Sp} {st : List Int} {c : Cl} {a : An} (h1 : s.kind = 8) (h2 : c.kind = 0) (h3 : (applyM n s st c).2.err = 0) (h4 : a.err = 6) : legalM n s st c a = (st, decide (a.val = 0) && (decide (a.list.length = 0) && decide (s.p - n - 1 ≤ ownN st c.thread))) := by
  unfold legalM
  rw [if_neg]
  · unfold fullM
    rw [decide_eq_true h1, decide_eq_true h2, decide_eq_true h3, decide_eq_true h4]
    rfl
  · unfold okM
    rw [h3, h4]
    simp
theorem legal_eq {n : Int} {s : Sp} {st : List Int} {c : Cl} {a : An} (h : ¬ (s.kind = 8 ∧ c.kind = 0 ∧ (applyM n s st c).2.err = 0 ∧ a.err = 6)) : (legalM n s st c a).2 = ansEq a (applyM n s st c).2 ∧ (ansEq a (applyM n s st c).2 = true → (legalM n s st c a).1 = (applyM n s st c).1) := by
  have e : okM n s st c a = ansEq a (applyM n s st c).2 := rfl
  unfold legalM
  rw [e]
  rcases hb : ansEq a (applyM n s st c).2 with _ | _
  · refine ⟨?_, fun h => by cases h⟩
    rw [if_neg (by simp)]
    show fullM n s st c a = false
    unfold fullM
    by_cases h1 : s.kind = 8
    · by_cases h2 : c.kind = 0
      · by_cases h3 : (applyM n s st c).2.err = 0
        · have h4 : a.err ≠ 6 := fun h4 => h ⟨h1, h2, h3, h4⟩
          simp [h4]
        · simp [h3]
      · simp [h2]
    · simp [h1]
  · exact ⟨by rw [if_pos rfl], fun _ => by rw [if_pos rfl]⟩
def RLegPost (n : Int) (s : Sp) (st : List Int) (c : Cl) (a : An) (w : World) (e : Ending) (w' : World) : Prop :=
  ∃ v, e = .returned (.tuple #[v, .bool (legalM n s st c a).2]) ∧ ((legalM n s st c a).2 = true → SlW w' v (legalM n s st c a).1 ∧ Tw w' v) ∧ (∃ A k d, v = .slice A k d) ∧ Below w.heap.size w w'
abbrev RLegFin (n : Int) (s : Sp) (st : List Int) (c : Cl) (a : An) (Q : Bool) (w : World) (v : Value) (r : Bool) (w' : World) : Prop :=
  ∃ v', Ending.returned (.tuple #[v, .bool r]) = .returned (.tuple #[v', .bool Q]) ∧ (Q = true → SlW w' v' (legalM n s st c a).1 ∧ Tw w' v') ∧ (∃ A k d, v' = .slice A k d) ∧ Below w.heap.size w w'
set_option maxRecDepth 100000 in
set_option maxHeartbeats 4000000 in
theorem rlegal_any (n : Int) (s : Sp) (c : Cl) (a : An) (A LA : Option Addr) (m vc ln lc : Nat) (st : List Int) (w : World) (h : SlW w (.slice A m vc) st) (htw : Tw w (.slice A m vc)) (hl : st.length ≤ 10000) (hR : rightM n s st = true) (ht0 : 0 ≤ c.thread) (ht1 : c.thread < n) (ha : U64 c.a) (hb : U64 c.b) (hu : ∀ z ∈ st, U64 z)
    (hla : SlW w (.slice LA ln lc) a.list) :
    Calls Tryz.prog 66 #[.int .i64 n, spV s, .slice A m vc, clV c, .agg #[.int .i64 a.err, .int .u64 a.val, .slice LA ln lc]] w (RLegPost n s st c a w) := by
  have hm : st.length = m := by obtain ⟨_, _, e, _⟩ := h; injection e with _ e2; exact e2.symm
  have N0 := fun W (h : SlW W (.slice A m vc) st) => rapply_any n s c A m vc st W h hl hR ht0 ht1 ha hb hu
  unfold RPost at N0
  have hlz : ln = a.list.length := by obtain ⟨_, _, e, _⟩ := hla; injection e
  have hlz63 : (ln : Int) ≤ 9223372036854775807 := by obtain ⟨_, _, e, h1, h2, _⟩ := hla; injection e; unfold maxLen at h2; omega
  have hn16 : n ≤ 16 ∧ (s.kind = 8 → st.length % 2 = 0 ∧ 1 ≤ s.p ∧ s.p ≤ 32) ∧ 1 ≤ n := by
    have hR' := hR
    unfold rightM at hR'
    simp only [Bool.and_eq_true, decide_eq_true_eq] at hR'
    obtain ⟨⟨z1, z2⟩, _, z3⟩ := sizeE_zero hR'.1
    refine ⟨z2, fun h8 => ?_, z1⟩
    have := hR'.2
    unfold shapeM at this
    rw [if_neg (by omega), if_pos h8] at this
    rw [h8] at z3
    simp [rightT] at z3
    exact ⟨by simpa using this, z3.1, z3.2.1⟩
  have HS := hide h
  have HTW := hide htw
  have HLA := hide hla
  have HLZ := hide hlz
  have HM := hide hm
  have NE := fun v1 v2 (l : List Int) W h1 h2 => same_any v1 v2 a.list l W h1 h2
  obtain ⟨RR, hRR⟩ : ∃ RR, applyM n s st c = RR := ⟨_, rfl⟩
  rw [hRR] at N0
  obtain ⟨R1, E, V, l⟩ := RR
  simp only at N0
  unfold spV clV at N0 ⊢
  have HN := hide N0
  clear N0 h htw hla hlz hm hR ha hb hu
  by_cases b1 : s.kind = 8
  · have d1 : (s.kind == 8) = true := by simpa using b1
    by_cases b2 : c.kind = 0
    · have d2 : (c.kind == 0) = true := by simpa using b2
      by_cases b3 : E = 0
      · have d3 : (E == 0) = true := by simpa using b3
        by_cases b4 : a.err = 6
        · have d4 : (a.err == 6) = true := by simpa using b4
          have lf := legal_full (n := n) (s := s) (st := st) (c := c) (a := a) b1 b2 (by rw [hRR]; exact b3) b4
          unfold RLegPost
          rw [lf]
          simp only
          obtain ⟨Q, hQ⟩ : ∃ Q, (decide (a.val = 0) && (decide (a.list.length = 0) && decide (s.p - n - 1 ≤ ownN st c.thread))) = Q := ⟨_, rfl⟩
          rw [hQ]
          have HQ := hide hQ
          obtain ⟨he2, hp1, hp2⟩ := hn16.2.1 b1
          have hn1 := hn16.1
          have hn0 := hn16.2.2
          have NO := fun W (h : SlW W (.slice A m vc) st) => rown_any c.thread A m vc st W h HM.out (by have := HM.out; omega) (by rw [← HM.out]; exact he2) ht0 (by omega)
          have HNO := hide NO
          have ow := own_le st c.thread (m / 2)
          have hown : ((ownN st c.thread : Nat) : Int) ≤ 10000 := by unfold ownN; have := HM.out; have := own_le st c.thread (st.length / 2); omega
          clear hQ hRR lf b1 b2 b3 b4 NO hn16 ow he2
          go_enter Tryz.func66, Tryz.ntmps66
          go_wp2_with fail
          refine (HN.out _ ?_).mono ?_
          · exact HS.out.below (legW_below w s c _ _ _) (Nat.le_refl _)
          rintro e w1 ⟨v1, L1, rfl, hO1, hL1, hb1, ht1', ht2'⟩
          have hB1 : Below (w.heap.size + 3) (legW w s c a.err a.val (.slice LA ln lc)) w1 := hb1.mono (by simp)
          obtain ⟨A1, c1', rfl, _⟩ := id hO1
          obtain ⟨B1, d1', rfl, _⟩ := id hL1
          have hba := legW_blocks w s c a.err a.val (.slice LA ln lc)
          obtain ⟨s0, s1, s2, _, _, _, sz⟩ := cells3 ((hB1.block w.heap.size (by omega)).trans hba.1)
          obtain ⟨c0, c1, c2, c3, c4, c5, cz⟩ := cells6 ((hB1.block (w.heap.size + 1) (by omega)).trans hba.2.1)
          obtain ⟨r0, r1, r2, g0, g1, g2, rz⟩ := cells3 ((hB1.block (w.heap.size + 2) (by omega)).trans hba.2.2)
          have hW1 : Below w.heap.size w w1 := (legW_below w s c _ _ _).trans (hB1.mono (by omega))
          have HW1 := hide hW1
          have HO1 := hide hO1
          have HL1 := hide hL1
          have HT1 := hide ht1'
          have HLA1 := hide (HLA.out.below hW1 (Nat.le_refl _))
          have HST := hide (HS.out.below hW1 (Nat.le_refl _))
          clear hB1 hb1 hO1 hL1 hba hW1 ht1' ht2' g0 g1 g2
          have hfin : ∀ (X2 : World) (r : Bool), Below w1.heap.size w1 X2 → r = Q → ∃ v', Ending.returned (.tuple #[.slice A m vc, .bool r]) = .returned (.tuple #[v', .bool Q]) ∧ (Q = true → SlW X2 v' st ∧ Tw X2 v') ∧ (∃ A k d, v' = .slice A k d) ∧ Below w.heap.size w X2 := fun X2 r hX2 hr => by
            subst hr
            exact ⟨_, rfl, fun _ => ⟨HST.out.below hX2 (Nat.le_refl _), tw_below (tw_below HTW.out HW1.out) hX2⟩, ⟨_, _, _, rfl⟩, HW1.out.trans (hX2.mono HW1.out.size)⟩
          have HFIN := hide hfin
          clear hfin
          go_wp2_with fail
          by_cases v0 : a.val = 0
          · have g1 : (a.val == 0) = true := by simpa using v0
            by_cases l0 : a.list.length = 0
            · have g2 : ((ln : Int) == 0) = true := by have := HLZ.out; simp; omega
              have g2' : (ln == 0) = true := by have := HLZ.out; simp; omega
              obtain ⟨OW, hOW⟩ : ∃ OW : Nat, ownN st c.thread = OW := ⟨_, rfl⟩
              rw [hOW] at hown
              have HOW := hide hOW
              have HF : Hid (decide (s.p - n - 1 ≤ (OW : Int)) = Q) := hide (by rw [← HQ.out, decide_eq_true v0, decide_eq_true l0, HOW.out]; rfl)
              have wr1 : IntKind.i64.wrap (s.p - n) = s.p - n := wrap_i64 (by omega) (by omega)
              have wr2 : IntKind.i64.wrap (s.p - n - 1) = s.p - n - 1 := wrap_i64 (by omega) (by omega)
              clear v0 l0 hOW
              refine wp_region_seq (Below w1.heap.size w1) (.take 0 <| .take 1 <| .take 2 <| .take 3 <| .take 4 <| .take 5 <| .take 6 <| .take 7 <| .take 8 <| .take 9 <| .take 10 <| .take 11 <| .take 12 <| .take 13 <| .take 15 <| .take 16 <| .take 17 <| .take 18 <| .take 19 <| .run 14 <| .take 20 <| .take 21 <| .take 22 <| .take 23 <| .done) (by kernel_rfl) (by kernel_rfl) (by kernel_rfl) (by (repeat' (first | with_reducible (first | assumption | exact Below.refl _ _ | refine Below.drew ?_ | refine below_drewN ?_ _ | refine Below.alloc ?_ ?_ _ | refine Below.setCell ?_ ?_ _) | omega | (simp; done) | (simp; omega)))) ?_
              iterate 19 (refine seq_take (v := ?_) rfl (by rfl) ?_ ?_; rotate_left; (focus (intro wS hS; have y1 := (hS.cell (p := ⟨w.heap.size, 1, none⟩) sz).trans s1; have x0 := (hS.cell (p := ⟨w.heap.size + 1, 0, none⟩) cz).trans c0; have z1 := (hS.cell (p := ⟨w.heap.size + 2, 1, none⟩) rz).trans r1; have z2 := (hS.cell (p := ⟨w.heap.size + 2, 2, none⟩) rz).trans r2; go_simp; exact rfl)); simp only [Act.put, sqA, sqB, sqC])
              refine seq_run rfl (by rfl) (fun K hK => ?_)
              go_simp
              refine (HNO.out _ ?_).mono ?_
              · exact HST.out.below (by (repeat' (first | with_reducible (first | assumption | exact Below.refl _ _ | refine Below.drew ?_ | refine below_drewN ?_ _ | refine Below.alloc ?_ ?_ _ | refine Below.setCell ?_ ?_ _) | omega | (simp; done) | (simp; omega)))) (Nat.le_refl _)
              rw [HOW.out]
              rintro e5 w5 ⟨rfl, rfl⟩
              refine hK _ _ (by (repeat' (first | with_reducible (first | assumption | exact Below.refl _ _ | refine Below.drew ?_ | refine below_drewN ?_ _ | refine Below.alloc ?_ ?_ _ | refine Below.setCell ?_ ?_ _) | omega | (simp; done) | (simp; omega)))) ?_
              clear hK K
              iterate 4 (refine seq_take (v := ?_) rfl (by rfl) ?_ ?_; rotate_left; (focus (intro wS hS; have y1 := (hS.cell (p := ⟨w.heap.size, 1, none⟩) sz).trans s1; have x0 := (hS.cell (p := ⟨w.heap.size + 1, 0, none⟩) cz).trans c0; have z1 := (hS.cell (p := ⟨w.heap.size + 2, 1, none⟩) rz).trans r1; have z2 := (hS.cell (p := ⟨w.heap.size + 2, 2, none⟩) rz).trans r2; go_simp; exact rfl)); simp only [Act.put, sqA, sqB, sqC])
              refine seq_nil ?_
              go_wp2
              go_ret2
              exact HFIN.out _ _ (by (repeat' (first | with_reducible (first | assumption | exact Below.refl _ _ | refine Below.drew ?_ | refine below_drewN ?_ _ | refine Below.alloc ?_ ?_ _ | refine Below.setCell ?_ ?_ _) | omega | (simp; done) | (simp; omega)))) (by first | exact HF.out | (rw [← HF.out, wr1, wr2]; done) | (rw [← HF.out]; simp [wr1, wr2]))
            · have g2 : ((ln : Int) == 0) = false := by have := HLZ.out; rw [beq_eq_false_iff_ne]; omega
              have g2' : (ln == 0) = false := by have := HLZ.out; rw [beq_eq_false_iff_ne]; omega
              have HF : Hid (false = Q) := hide (by rw [← HQ.out, decide_eq_false l0]; simp)
              clear v0 l0
              refine wp_region_seq (Below w1.heap.size w1) (.take 0 <| .take 1 <| .take 2 <| .take 3 <| .take 4 <| .take 5 <| .take 6 <| .take 7 <| .take 8 <| .take 9 <| .take 10 <| .take 11 <| .take 12 <| .take 13 <| .take 15 <| .take 16 <| .take 17 <| .take 18 <| .take 19 <| .run 14 <| .take 20 <| .take 21 <| .take 22 <| .take 23 <| .done) (by kernel_rfl) (by kernel_rfl) (by kernel_rfl) (by (repeat' (first | with_reducible (first | assumption | exact Below.refl _ _ | refine Below.drew ?_ | refine below_drewN ?_ _ | refine Below.alloc ?_ ?_ _ | refine Below.setCell ?_ ?_ _) | omega | (simp; done) | (simp; omega)))) ?_
              iterate 19 (first | (refine seq_take (v := ?_) rfl (by rfl) ?_ ?_; rotate_left; (focus (intro wS hS; have y1 := (hS.cell (p := ⟨w.heap.size, 1, none⟩) sz).trans s1; have x0 := (hS.cell (p := ⟨w.heap.size + 1, 0, none⟩) cz).trans c0; have z1 := (hS.cell (p := ⟨w.heap.size + 2, 1, none⟩) rz).trans r1; have z2 := (hS.cell (p := ⟨w.heap.size + 2, 2, none⟩) rz).trans r2; go_simp; exact rfl)); simp only [Act.put, sqA, sqB, sqC]) | (refine seq_skip rfl (by rfl) ?_; simp only [Act.put, sqA, sqB, sqC]))
              refine seq_pass rfl (by rfl) (by (repeat' (first | with_reducible (first | assumption | exact Below.refl _ _ | refine Below.drew ?_ | refine below_drewN ?_ _ | refine Below.alloc ?_ ?_ _ | refine Below.setCell ?_ ?_ _) | omega | (simp; done) | (simp; omega)))) ?_
              simp only [Act.put, sqA, sqB, sqC]
              iterate 4 (first | (refine seq_take (v := ?_) rfl (by rfl) ?_ ?_; rotate_left; (focus (intro wS hS; have y1 := (hS.cell (p := ⟨w.heap.size, 1, none⟩) sz).trans s1; have x0 := (hS.cell (p := ⟨w.heap.size + 1, 0, none⟩) cz).trans c0; have z1 := (hS.cell (p := ⟨w.heap.size + 2, 1, none⟩) rz).trans r1; have z2 := (hS.cell (p := ⟨w.heap.size + 2, 2, none⟩) rz).trans r2; go_simp; exact rfl)); simp only [Act.put, sqA, sqB, sqC]) | (refine seq_skip rfl (by rfl) ?_; simp only [Act.put, sqA, sqB, sqC]))
              refine seq_nil ?_
              go_wp2
              go_ret2
              exact HFIN.out _ _ (by (repeat' (first | with_reducible (first | assumption | exact Below.refl _ _ | refine Below.drew ?_ | refine below_drewN ?_ _ | refine Below.alloc ?_ ?_ _ | refine Below.setCell ?_ ?_ _) | omega | (simp; done) | (simp; omega)))) HF.out
          · have g1 : (a.val == 0) = false := by simpa using v0
            have HF : Hid (false = Q) := hide (by rw [← HQ.out, decide_eq_false v0]; rfl)
            clear v0
            refine wp_region_seq (Below w1.heap.size w1) (.take 0 <| .take 1 <| .take 2 <| .take 3 <| .take 4 <| .take 5 <| .take 6 <| .take 7 <| .take 8 <| .take 9 <| .take 10 <| .take 11 <| .take 12 <| .take 13 <| .take 15 <| .take 16 <| .take 17 <| .take 18 <| .take 19 <| .run 14 <| .take 20 <| .take 21 <| .take 22 <| .take 23 <| .done) (by kernel_rfl) (by kernel_rfl) (by kernel_rfl) (by (repeat' (first | with_reducible (first | assumption | exact Below.refl _ _ | refine Below.drew ?_ | refine below_drewN ?_ _ | refine Below.alloc ?_ ?_ _ | refine Below.setCell ?_ ?_ _) | omega | (simp; done) | (simp; omega)))) ?_
            iterate 19 (first | (refine seq_take (v := ?_) rfl (by rfl) ?_ ?_; rotate_left; (focus (intro wS hS; have y1 := (hS.cell (p := ⟨w.heap.size, 1, none⟩) sz).trans s1; have x0 := (hS.cell (p := ⟨w.heap.size + 1, 0, none⟩) cz).trans c0; have z1 := (hS.cell (p := ⟨w.heap.size + 2, 1, none⟩) rz).trans r1; have z2 := (hS.cell (p := ⟨w.heap.size + 2, 2, none⟩) rz).trans r2; go_simp; exact rfl)); simp only [Act.put, sqA, sqB, sqC]) | (refine seq_skip rfl (by rfl) ?_; simp only [Act.put, sqA, sqB, sqC]))
            refine seq_pass rfl (by rfl) (by (repeat' (first | with_reducible (first | assumption | exact Below.refl _ _ | refine Below.drew ?_ | refine below_drewN ?_ _ | refine Below.alloc ?_ ?_ _ | refine Below.setCell ?_ ?_ _) | omega | (simp; done) | (simp; omega)))) ?_
            simp only [Act.put, sqA, sqB, sqC]
            iterate 4 (first | (refine seq_take (v := ?_) rfl (by rfl) ?_ ?_; rotate_left; (focus (intro wS hS; have y1 := (hS.cell (p := ⟨w.heap.size, 1, none⟩) sz).trans s1; have x0 := (hS.cell (p := ⟨w.heap.size + 1, 0, none⟩) cz).trans c0; have z1 := (hS.cell (p := ⟨w.heap.size + 2, 1, none⟩) rz).trans r1; have z2 := (hS.cell (p := ⟨w.heap.size + 2, 2, none⟩) rz).trans r2; go_simp; exact rfl)); simp only [Act.put, sqA, sqB, sqC]) | (refine seq_skip rfl (by rfl) ?_; simp only [Act.put, sqA, sqB, sqC]))
            refine seq_nil ?_
            go_wp2
            go_ret2
            exact HFIN.out _ _ (by (repeat' (first | with_reducible (first | assumption | exact Below.refl _ _ | refine Below.drew ?_ | refine below_drewN ?_ _ | refine Below.alloc ?_ ?_ _ | refine Below.setCell ?_ ?_ _) | omega | (simp; done) | (simp; omega)))) HF.out
        · have d4 : (a.err == 6) = false := by simpa using b4
          have hcond : ¬ (s.kind = 8 ∧ c.kind = 0 ∧ E = 0 ∧ a.err = 6) := fun h => b4 h.2.2.2
          clear b1 b2 b3 b4
          obtain ⟨lq1, lq2⟩ := legal_eq (n := n) (s := s) (st := st) (c := c) (a := a) (by rw [hRR]; exact hcond)
          rw [hRR] at lq1 lq2
          have HL2 := hide lq2
          have HL0 := hide lq1
          unfold RLegPost
          rw [lq1]
          obtain ⟨Q, hQ⟩ : ∃ Q, ansEq a ⟨E, V, l⟩ = Q := ⟨_, rfl⟩
          rw [hQ]
          have HQ := hide hQ
          have HCOND := hide hcond
          clear hcond lq1 lq2 hQ hRR
          go_enter Tryz.func66, Tryz.ntmps66
          go_wp2_with fail
          refine (HN.out _ ?_).mono ?_
          · exact HS.out.below (legW_below w s c _ _ _) (Nat.le_refl _)
          rintro e w1 ⟨v1, L1, rfl, hO1, hL1, hb1, ht1', ht2'⟩
          have hB1 : Below (w.heap.size + 3) (legW w s c a.err a.val (.slice LA ln lc)) w1 := hb1.mono (by simp)
          obtain ⟨A1, c1', rfl, _⟩ := id hO1
          obtain ⟨B1, d1', rfl, _⟩ := id hL1
          have hba := legW_blocks w s c a.err a.val (.slice LA ln lc)
          obtain ⟨s0, s1, s2, _, _, _, sz⟩ := cells3 ((hB1.block w.heap.size (by omega)).trans hba.1)
          obtain ⟨c0, c1, c2, c3, c4, c5, cz⟩ := cells6 ((hB1.block (w.heap.size + 1) (by omega)).trans hba.2.1)
          obtain ⟨r0, r1, r2, g0, g1, g2, rz⟩ := cells3 ((hB1.block (w.heap.size + 2) (by omega)).trans hba.2.2)
          have hW1 : Below w.heap.size w w1 := (legW_below w s c _ _ _).trans (hB1.mono (by omega))
          have HW1 := hide hW1
          have HO1 := hide hO1
          have HL1 := hide hL1
          have HT1 := hide ht1'
          have HLA1 := hide (HLA.out.below hW1 (Nat.le_refl _))
          have HST := hide (HS.out.below hW1 (Nat.le_refl _))
          clear hB1 hb1 hO1 hL1 hba hW1 ht1' ht2' g0 g1 g2
          have hfin : ∀ (X2 : World) (r : Bool), Below w1.heap.size w1 X2 → r = Q → RLegFin n s st c a Q w (.slice A1 R1.length c1') r X2 := fun X2 r hX2 hr => by
            subst hr
            refine ⟨_, rfl, fun hq => ?_, ⟨_, _, _, rfl⟩, HW1.out.trans (hX2.mono HW1.out.size)⟩
            have := HL2.out (HQ.out.trans hq)
            rw [this]
            exact ⟨HO1.out.below hX2 (Nat.le_refl _), tw_below HT1.out hX2⟩
          have HFIN := hide hfin
          clear hfin
          by_cases e1 : a.err = E
          · have f1 : (a.err == E) = true := by simpa using e1
            by_cases e2 : a.val = V
            · have f2 : (a.val == V) = true := by simpa using e2
              have HF : Hid (decide (a.list = l) = Q) := hide (by rw [← HQ.out]; unfold ansEq; rw [decide_eq_true e1, decide_eq_true e2]; rfl)
              clear e1 e2
              skip
              go_wp2_with fail
              refine (NE _ _ _ _ (HLA1.out.alloc _) (HL1.out.alloc _)).mono ?_
              rintro e w2 ⟨rfl, k, rfl⟩
              go_wp2
              go_ret2
              exact HFIN.out _ _ (by (repeat' (first | exact Below.refl _ _ | assumption | refine Below.drew ?_ | refine below_drewN ?_ _ | refine Below.alloc ?_ (by simp <;> omega) _ | refine Below.setCell ?_ (by simp <;> omega) _))) HF.out
            · have f2 : (a.val == V) = false := by simpa using e2
              have HF : Hid (false = Q) := hide (by rw [← HQ.out]; unfold ansEq; rw [decide_eq_false e2]; simp)
              clear e1 e2
              skip
              go_wp2
              go_ret2
              exact HFIN.out _ _ (by (repeat' (first | exact Below.refl _ _ | assumption | refine Below.drew ?_ | refine below_drewN ?_ _ | refine Below.alloc ?_ (by simp <;> omega) _ | refine Below.setCell ?_ (by simp <;> omega) _))) HF.out
          · have f1 : (a.err == E) = false := by simpa using e1
            have HF : Hid (false = Q) := hide (by rw [← HQ.out]; unfold ansEq; rw [decide_eq_false e1]; rfl)
            clear e1
            skip
            go_wp2
            go_ret2
            exact HFIN.out _ _ (by (repeat' (first | exact Below.refl _ _ | assumption | refine Below.drew ?_ | refine below_drewN ?_ _ | refine Below.alloc ?_ (by simp <;> omega) _ | refine Below.setCell ?_ (by simp <;> omega) _))) HF.out
      · have d3 : (E == 0) = false := by simpa using b3
        have hcond : ¬ (s.kind = 8 ∧ c.kind = 0 ∧ E = 0 ∧ a.err = 6) := fun h => b3 h.2.2.1
        clear b1 b2 b3
        obtain ⟨lq1, lq2⟩ := legal_eq (n := n) (s := s) (st := st) (c := c) (a := a) (by rw [hRR]; exact hcond)
        rw [hRR] at lq1 lq2
        have HL2 := hide lq2
        have HL0 := hide lq1
        unfold RLegPost
        rw [lq1]
        obtain ⟨Q, hQ⟩ : ∃ Q, ansEq a ⟨E, V, l⟩ = Q := ⟨_, rfl⟩
        rw [hQ]
        have HQ := hide hQ
        have HCOND := hide hcond
        clear hcond lq1 lq2 hQ hRR
        go_enter Tryz.func66, Tryz.ntmps66
        go_wp2_with fail
        refine (HN.out _ ?_).mono ?_
        · exact HS.out.below (legW_below w s c _ _ _) (Nat.le_refl _)
        rintro e w1 ⟨v1, L1, rfl, hO1, hL1, hb1, ht1', ht2'⟩
        have hB1 : Below (w.heap.size + 3) (legW w s c a.err a.val (.slice LA ln lc)) w1 := hb1.mono (by simp)
        obtain ⟨A1, c1', rfl, _⟩ := id hO1
        obtain ⟨B1, d1', rfl, _⟩ := id hL1
        have hba := legW_blocks w s c a.err a.val (.slice LA ln lc)
        obtain ⟨s0, s1, s2, _, _, _, sz⟩ := cells3 ((hB1.block w.heap.size (by omega)).trans hba.1)
        obtain ⟨c0, c1, c2, c3, c4, c5, cz⟩ := cells6 ((hB1.block (w.heap.size + 1) (by omega)).trans hba.2.1)
        obtain ⟨r0, r1, r2, g0, g1, g2, rz⟩ := cells3 ((hB1.block (w.heap.size + 2) (by omega)).trans hba.2.2)
        have hW1 : Below w.heap.size w w1 := (legW_below w s c _ _ _).trans (hB1.mono (by omega))
        have HW1 := hide hW1
        have HO1 := hide hO1
        have HL1 := hide hL1
        have HT1 := hide ht1'
        have HLA1 := hide (HLA.out.below hW1 (Nat.le_refl _))
        have HST := hide (HS.out.below hW1 (Nat.le_refl _))
        clear hB1 hb1 hO1 hL1 hba hW1 ht1' ht2' g0 g1 g2
        have hfin : ∀ (X2 : World) (r : Bool), Below w1.heap.size w1 X2 → r = Q → RLegFin n s st c a Q w (.slice A1 R1.length c1') r X2 := fun X2 r hX2 hr => by
          subst hr
          refine ⟨_, rfl, fun hq => ?_, ⟨_, _, _, rfl⟩, HW1.out.trans (hX2.mono HW1.out.size)⟩
          have := HL2.out (HQ.out.trans hq)
          rw [this]
          exact ⟨HO1.out.below hX2 (Nat.le_refl _), tw_below HT1.out hX2⟩
        have HFIN := hide hfin
        clear hfin
        by_cases e1 : a.err = E
        · have f1 : (a.err == E) = true := by simpa using e1
          by_cases e2 : a.val = V
          · have f2 : (a.val == V) = true := by simpa using e2
            have HF : Hid (decide (a.list = l) = Q) := hide (by rw [← HQ.out]; unfold ansEq; rw [decide_eq_true e1, decide_eq_true e2]; rfl)
            clear e1 e2
            skip
            go_wp2_with fail
            refine (NE _ _ _ _ (HLA1.out.alloc _) (HL1.out.alloc _)).mono ?_
            rintro e w2 ⟨rfl, k, rfl⟩
            go_wp2
            go_ret2
            exact HFIN.out _ _ (by (repeat' (first | exact Below.refl _ _ | assumption | refine Below.drew ?_ | refine below_drewN ?_ _ | refine Below.alloc ?_ (by simp <;> omega) _ | refine Below.setCell ?_ (by simp <;> omega) _))) HF.out
          · have f2 : (a.val == V) = false := by simpa using e2
            have HF : Hid (false = Q) := hide (by rw [← HQ.out]; unfold ansEq; rw [decide_eq_false e2]; simp)
            clear e1 e2
            skip
            go_wp2
            go_ret2
            exact HFIN.out _ _ (by (repeat' (first | exact Below.refl _ _ | assumption | refine Below.drew ?_ | refine below_drewN ?_ _ | refine Below.alloc ?_ (by simp <;> omega) _ | refine Below.setCell ?_ (by simp <;> omega) _))) HF.out
        · have f1 : (a.err == E) = false := by simpa using e1
          have HF : Hid (false = Q) := hide (by rw [← HQ.out]; unfold ansEq; rw [decide_eq_false e1]; rfl)
          clear e1
          skip
          go_wp2
          go_ret2
          exact HFIN.out _ _ (by (repeat' (first | exact Below.refl _ _ | assumption | refine Below.drew ?_ | refine below_drewN ?_ _ | refine Below.alloc ?_ (by simp <;> omega) _ | refine Below.setCell ?_ (by simp <;> omega) _))) HF.out
    · have d2 : (c.kind == 0) = false := by simpa using b2
      have hcond : ¬ (s.kind = 8 ∧ c.kind = 0 ∧ E = 0 ∧ a.err = 6) := fun h => b2 h.2.1
      clear b1 b2
      obtain ⟨lq1, lq2⟩ := legal_eq (n := n) (s := s) (st := st) (c := c) (a := a) (by rw [hRR]; exact hcond)
      rw [hRR] at lq1 lq2
      have HL2 := hide lq2
      have HL0 := hide lq1
      unfold RLegPost
      rw [lq1]
      obtain ⟨Q, hQ⟩ : ∃ Q, ansEq a ⟨E, V, l⟩ = Q := ⟨_, rfl⟩
      rw [hQ]
      have HQ := hide hQ
      have HCOND := hide hcond
      clear hcond lq1 lq2 hQ hRR
      go_enter Tryz.func66, Tryz.ntmps66
      go_wp2_with fail
      refine (HN.out _ ?_).mono ?_
      · exact HS.out.below (legW_below w s c _ _ _) (Nat.le_refl _)
      rintro e w1 ⟨v1, L1, rfl, hO1, hL1, hb1, ht1', ht2'⟩
      have hB1 : Below (w.heap.size + 3) (legW w s c a.err a.val (.slice LA ln lc)) w1 := hb1.mono (by simp)
      obtain ⟨A1, c1', rfl, _⟩ := id hO1
      obtain ⟨B1, d1', rfl, _⟩ := id hL1
      have hba := legW_blocks w s c a.err a.val (.slice LA ln lc)
      obtain ⟨s0, s1, s2, _, _, _, sz⟩ := cells3 ((hB1.block w.heap.size (by omega)).trans hba.1)
      obtain ⟨c0, c1, c2, c3, c4, c5, cz⟩ := cells6 ((hB1.block (w.heap.size + 1) (by omega)).trans hba.2.1)
      obtain ⟨r0, r1, r2, g0, g1, g2, rz⟩ := cells3 ((hB1.block (w.heap.size + 2) (by omega)).trans hba.2.2)
      have hW1 : Below w.heap.size w w1 := (legW_below w s c _ _ _).trans (hB1.mono (by omega))
      have HW1 := hide hW1
      have HO1 := hide hO1
      have HL1 := hide hL1
      have HT1 := hide ht1'
      have HLA1 := hide (HLA.out.below hW1 (Nat.le_refl _))
      have HST := hide (HS.out.below hW1 (Nat.le_refl _))
      clear hB1 hb1 hO1 hL1 hba hW1 ht1' ht2' g0 g1 g2
      have hfin : ∀ (X2 : World) (r : Bool), Below w1.heap.size w1 X2 → r = Q → RLegFin n s st c a Q w (.slice A1 R1.length c1') r X2 := fun X2 r hX2 hr => by
        subst hr
        refine ⟨_, rfl, fun hq => ?_, ⟨_, _, _, rfl⟩, HW1.out.trans (hX2.mono HW1.out.size)⟩
        have := HL2.out (HQ.out.trans hq)
        rw [this]
        exact ⟨HO1.out.below hX2 (Nat.le_refl _), tw_below HT1.out hX2⟩
      have HFIN := hide hfin
      clear hfin
      by_cases e1 : a.err = E
      · have f1 : (a.err == E) = true := by simpa using e1
        by_cases e2 : a.val = V
        · have f2 : (a.val == V) = true := by simpa using e2
          have HF : Hid (decide (a.list = l) = Q) := hide (by rw [← HQ.out]; unfold ansEq; rw [decide_eq_true e1, decide_eq_true e2]; rfl)
          clear e1 e2
          skip
          go_wp2_with fail
          refine (NE _ _ _ _ (HLA1.out.alloc _) (HL1.out.alloc _)).mono ?_
          rintro e w2 ⟨rfl, k, rfl⟩
          go_wp2
          go_ret2
          exact HFIN.out _ _ (by (repeat' (first | exact Below.refl _ _ | assumption | refine Below.drew ?_ | refine below_drewN ?_ _ | refine Below.alloc ?_ (by simp <;> omega) _ | refine Below.setCell ?_ (by simp <;> omega) _))) HF.out
        · have f2 : (a.val == V) = false := by simpa using e2
          have HF : Hid (false = Q) := hide (by rw [← HQ.out]; unfold ansEq; rw [decide_eq_false e2]; simp)
          clear e1 e2
          skip
          go_wp2
          go_ret2
          exact HFIN.out _ _ (by (repeat' (first | exact Below.refl _ _ | assumption | refine Below.drew ?_ | refine below_drewN ?_ _ | refine Below.alloc ?_ (by simp <;> omega) _ | refine Below.setCell ?_ (by simp <;> omega) _))) HF.out
      · have f1 : (a.err == E) = false := by simpa using e1
        have HF : Hid (false = Q) := hide (by rw [← HQ.out]; unfold ansEq; rw [decide_eq_false e1]; rfl)
        clear e1
        skip
        go_wp2
        go_ret2
        exact HFIN.out _ _ (by (repeat' (first | exact Below.refl _ _ | assumption | refine Below.drew ?_ | refine below_drewN ?_ _ | refine Below.alloc ?_ (by simp <;> omega) _ | refine Below.setCell ?_ (by simp <;> omega) _))) HF.out
  · have d1 : (s.kind == 8) = false := by simpa using b1
    have hcond : ¬ (s.kind = 8 ∧ c.kind = 0 ∧ E = 0 ∧ a.err = 6) := fun h => b1 h.1
    clear b1
    obtain ⟨lq1, lq2⟩ := legal_eq (n := n) (s := s) (st := st) (c := c) (a := a) (by rw [hRR]; exact hcond)
    rw [hRR] at lq1 lq2
    have HL2 := hide lq2
    have HL0 := hide lq1
    unfold RLegPost
    rw [lq1]
    obtain ⟨Q, hQ⟩ : ∃ Q, ansEq a ⟨E, V, l⟩ = Q := ⟨_, rfl⟩
    rw [hQ]
    have HQ := hide hQ
    have HCOND := hide hcond
    clear hcond lq1 lq2 hQ hRR
    go_enter Tryz.func66, Tryz.ntmps66
    go_wp2_with fail
    refine (HN.out _ ?_).mono ?_
    · exact HS.out.below (legW_below w s c _ _ _) (Nat.le_refl _)
    rintro e w1 ⟨v1, L1, rfl, hO1, hL1, hb1, ht1', ht2'⟩
    have hB1 : Below (w.heap.size + 3) (legW w s c a.err a.val (.slice LA ln lc)) w1 := hb1.mono (by simp)
    obtain ⟨A1, c1', rfl, _⟩ := id hO1
    obtain ⟨B1, d1', rfl, _⟩ := id hL1
    have hba := legW_blocks w s c a.err a.val (.slice LA ln lc)
    obtain ⟨s0, s1, s2, _, _, _, sz⟩ := cells3 ((hB1.block w.heap.size (by omega)).trans hba.1)
    obtain ⟨c0, c1, c2, c3, c4, c5, cz⟩ := cells6 ((hB1.block (w.heap.size + 1) (by omega)).trans hba.2.1)
    obtain ⟨r0, r1, r2, g0, g1, g2, rz⟩ := cells3 ((hB1.block (w.heap.size + 2) (by omega)).trans hba.2.2)
    have hW1 : Below w.heap.size w w1 := (legW_below w s c _ _ _).trans (hB1.mono (by omega))
    have HW1 := hide hW1
    have HO1 := hide hO1
    have HL1 := hide hL1
    have HT1 := hide ht1'
    have HLA1 := hide (HLA.out.below hW1 (Nat.le_refl _))
    have HST := hide (HS.out.below hW1 (Nat.le_refl _))
    clear hB1 hb1 hO1 hL1 hba hW1 ht1' ht2' g0 g1 g2
    have hfin : ∀ (X2 : World) (r : Bool), Below w1.heap.size w1 X2 → r = Q → RLegFin n s st c a Q w (.slice A1 R1.length c1') r X2 := fun X2 r hX2 hr => by
      subst hr
      refine ⟨_, rfl, fun hq => ?_, ⟨_, _, _, rfl⟩, HW1.out.trans (hX2.mono HW1.out.size)⟩
      have := HL2.out (HQ.out.trans hq)
      rw [this]
      exact ⟨HO1.out.below hX2 (Nat.le_refl _), tw_below HT1.out hX2⟩
    have HFIN := hide hfin
    clear hfin
    by_cases e1 : a.err = E
    · have f1 : (a.err == E) = true := by simpa using e1
      by_cases e2 : a.val = V
      · have f2 : (a.val == V) = true := by simpa using e2
        have HF : Hid (decide (a.list = l) = Q) := hide (by rw [← HQ.out]; unfold ansEq; rw [decide_eq_true e1, decide_eq_true e2]; rfl)
        clear e1 e2
        skip
        go_wp2_with fail
        refine (NE _ _ _ _ (HLA1.out.alloc _) (HL1.out.alloc _)).mono ?_
        rintro e w2 ⟨rfl, k, rfl⟩
        go_wp2
        go_ret2
        exact HFIN.out _ _ (by (repeat' (first | exact Below.refl _ _ | assumption | refine Below.drew ?_ | refine below_drewN ?_ _ | refine Below.alloc ?_ (by simp <;> omega) _ | refine Below.setCell ?_ (by simp <;> omega) _))) HF.out
      · have f2 : (a.val == V) = false := by simpa using e2
        have HF : Hid (false = Q) := hide (by rw [← HQ.out]; unfold ansEq; rw [decide_eq_false e2]; simp)
        clear e1 e2
        skip
        go_wp2
        go_ret2
        exact HFIN.out _ _ (by (repeat' (first | exact Below.refl _ _ | assumption | refine Below.drew ?_ | refine below_drewN ?_ _ | refine Below.alloc ?_ (by simp <;> omega) _ | refine Below.setCell ?_ (by simp <;> omega) _))) HF.out
    · have f1 : (a.err == E) = false := by simpa using e1
      have HF : Hid (false = Q) := hide (by rw [← HQ.out]; unfold ansEq; rw [decide_eq_false e1]; rfl)
      clear e1
      skip
      go_wp2
      go_ret2
      exact HFIN.out _ _ (by (repeat' (first | exact Below.refl _ _ | assumption | refine Below.drew ?_ | refine below_drewN ?_ _ | refine Below.alloc ?_ (by simp <;> omega) _ | refine Below.setCell ?_ (by simp <;> omega) _))) HF.out
end Go.Proofs.YtmiimpmfkjcjlaaGreat
