import Derived.Test.YtmiimpmfkjcjlaaGreatBun34
import Derived.Test.YtmiimpmfkjcjlaaGreatBun11
namespace Go.Proofs.YtmiimpmfkjcjlaaGreat
open Go.RowKit
set_option maxRecDepth 100000 in
set_option maxHeartbeats 4000000 in
theorem ldo_in (b B o : Nat) (n : Int) (S V : Value) (specs : List Sp) (ps : List StP) (e : Ev) (l : List Int) (c : Cl) (s : Sp) (p : StP) (w : World) (hA : MdAt w b n S V) (hSp : SlSp w S specs) (hSt : StRow w B V ps) (hlst : SlW w (.slice e.lA e.lN e.lC) l) (hco : c.obj = (o : Int)) (hs : specs[o]? = some s) (hp : ps[o]? = some p)
    (ht0 : 0 ≤ c.thread) (ht1 : c.thread < n) (ua : U64 c.a) (ub : U64 c.b) (uc : U64 c.c) (hR : rightM n s p.1 = true) (hu : ∀ z ∈ p.1, U64 z) (hl : p.1.length ≤ 9000) (hpl : ps.length ≤ 1000) :
    Calls Tryz.prog 63 #[.pointer (some ⟨b, 0, none⟩), clV c, evAg e] w (MdPost B b V (stepC n specs (ps.map Prod.fst) e l c) w) := by
  have hxo : (ps.map Prod.fst)[o]? = some p.1 := by rw [List.getElem?_map, hp]; rfl
  obtain ⟨a0, a1, a2, _, _, _, bz⟩ := cells3 hA
  obtain ⟨As, cs, rfl, gs1, gs2, gs3⟩ := id hSp
  obtain ⟨vA, vc, rfl, _⟩ := ob_len stEn_len hSt
  obtain ⟨X, hX⟩ : ∃ X, X = (w.alloc (.cells #[.int .i64 c.thread, .int .i64 c.obj, .int .i64 c.kind, .int .u64 c.a, .int .u64 c.b, .int .u64 c.c] 27)).alloc (.cells #[.int .i64 e.call, .int .i64 e.inv, .int .i64 e.resp, .int .i64 e.steps, .int .i64 e.err, .int .u64 e.val, .slice e.lA e.lN e.lC, .slice e.kA e.kN e.kC] 62) := ⟨_, rfl⟩
  have hBX : Below w.heap.size w X := by rw [hX]; exact ((Below.refl _ _).alloc (Nat.le_refl _) _).alloc (by simp) _
  obtain ⟨c0, c1, c2, c3, c4, c5, cz⟩ := cells6 (show X.heap[w.heap.size]? = some (.cells #[.int .i64 c.thread, .int .i64 c.obj, .int .i64 c.kind, .int .u64 c.a, .int .u64 c.b, .int .u64 c.c] 27 (0, 0)) from by rw [hX]; exact (heap_alloc_old _ _ (by simp)).trans (heap_alloc_new _ _))
  obtain ⟨e0, e1, e2, e3, e4, e5, e6, e7, ez⟩ := cells8e (show X.heap[w.heap.size + 1]? = some (.cells #[.int .i64 e.call, .int .i64 e.inv, .int .i64 e.resp, .int .i64 e.steps, .int .i64 e.err, .int .u64 e.val, .slice e.lA e.lN e.lC, .slice e.kA e.kN e.kC] 62 (0, 0)) from by rw [hX]; have := heap_alloc_new (w.alloc (.cells #[.int .i64 c.thread, .int .i64 c.obj, .int .i64 c.kind, .int .u64 c.a, .int .u64 c.b, .int .u64 c.c] 27)) (.cells #[.int .i64 e.call, .int .i64 e.inv, .int .i64 e.resp, .int .i64 e.steps, .int .i64 e.err, .int .u64 e.val, .slice e.lA e.lN e.lC, .slice e.kA e.kN e.kC] 62); simpa using this)
  replace a0 := (hBX.cell (p := ⟨b, 0, none⟩) bz).trans a0
  replace a1 := (hBX.cell (p := ⟨b, 1, none⟩) bz).trans a1
  replace a2 := (hBX.cell (p := ⟨b, 2, none⟩) bz).trans a2
  have bz2 : b < X.heap.size := by omega
  have hzx := hBX.size
  have HBX := hide hBX
  have HST := hide hSt
  have HAB := hide hA
  clear hBX
  obtain ⟨gs, os, rfl, gsz0, hcs⟩ := gs3 o s hs
  obtain ⟨s0, s1, s2⟩ := spec_cells hcs
  obtain ⟨gv, vcap, hv, _, gvz0, _, hcv, hsl, htw⟩ := ob_get stEn_len hSt hp
  cases hv
  have r0 := hcv 0 _ rfl
  simp only [Nat.mul_one, Nat.add_zero] at r0
  obtain ⟨st, pA, pc⟩ := p
  simp only at hR hu hl hxo r0 hsl htw
  have q4 : (0 : Int) ≤ (o : Int) := by omega
  have q5 : (o : Int) < (ps.length : Int) := by have := (List.getElem?_eq_some_iff.1 hp).1; omega
  have q6 : (o : Int) < (specs.length : Int) := by have := (List.getElem?_eq_some_iff.1 hs).1; omega
  have q7 : o < specs.length := by omega
  have q8 : o < ps.length := by omega
  have HSL := hide hsl
  have HP := hide hp
  have hlN : e.lN = l.length := by obtain ⟨_, _, e1, _⟩ := hlst; injection e1
  have HLST := hide hlst
  have hal := applyM_ok hR hu ua ub uc ht0 ht1
  have hal2 := applyM_list n s st c
  have NA := fun W (h : SlW W (.slice pA st.length pc) st) => mapply_any n s c pA st.length pc st W h rfl (by omega) ua ub hu
  have NL := fun W (h : SlW W (.slice pA st.length pc) st) (h2 : SlW W (.slice e.lA e.lN e.lC) l) => mlegal_any n s c ⟨e.err, e.val, l⟩ pA e.lA st.length pc e.lN e.lC st W h rfl (by omega) ua ub hu h2 (by omega) (by omega)
  unfold ApPost clV spV at NA
  unfold LegPost clV spV at NL
  rw [hco] at NA NL c1 hX
  have hleg := legalM_ok ⟨e.err, e.val, l⟩ hR hu ua ub uc ht0 ht1
  have gsz : gs < X.heap.size := by omega
  have gvz : gv < X.heap.size := by omega
  replace s0 := (HBX.out.cell (p := ⟨gs, os + o * 3, none⟩) gsz0).trans s0
  replace s1 := (HBX.out.cell (p := ⟨gs, os + o * 3 + 1, none⟩) gsz0).trans s1
  replace s2 := (HBX.out.cell (p := ⟨gs, os + o * 3 + 2, none⟩) gsz0).trans s2
  replace r0 := (HBX.out.cell (p := ⟨gv, o, none⟩) gvz0).trans r0
  have d0 : decide ((o : Int) < 0) = false := by simp
  have d1 : decide ((specs.length : Int) ≤ (o : Int)) = false := by simp; omega
  have d2 : decide (specs.length ≤ o) = false := by simp; omega
  have hsl63 : (specs.length : Int) ≤ 9223372036854775807 := by unfold maxLen at gs2; omega
  by_cases hr : e.resp = 0
  · rw [stepC_in0 hco hs hxo hr]
    have g1 : (e.resp == 0) = true := by simp [hr]
    obtain ⟨RR, hRR⟩ : ∃ RR, applyM n s st c = RR := ⟨_, rfl⟩
    rw [hRR] at NA hal ⊢
    obtain ⟨R1, E, V, R3⟩ := RR
    simp only at NA hal ⊢
    have HRL := hide (show R1.length ≤ 10000 by omega)
    have HNA := hide NA
    have HMap : Hid (∀ Q : StP, Q.1 = R1 → (ps.set o Q).map Prod.fst = (ps.map Prod.fst).set o R1) := hide (fun Q hQ => by rw [List.map_set, hQ])
    clear hA hSp hSt gs3 hlst hlN hR hu hl hp hs hxo hsl htw hcv hcs hal hal2 NA NL hleg hRR hr ua ub uc
    unfold MdPost clV
    rw [hco]
    clear hco
    go_enter Tryz.func63, Tryz.ntmps63
    go_wp2_with fail
    rw [← hX]
    clear hX
    refine wp_region_seq (Below X.heap.size X) (.take 0 <| .take 1 <| .take 2 <| .take 3 <| .take 4 <| .take 5 <| .take 6 <| .take 7 <| .take 8 <| .take 9 <| .take 10 <| .take 11 <| .take 12 <| .done) (by kernel_rfl) (by kernel_rfl) (by kernel_rfl) (by (repeat' (first | with_reducible (first | assumption | exact Below.refl _ _ | refine Below.drew ?_ | refine below_drewN ?_ _ | refine Below.alloc ?_ ?_ _ | refine Below.setCell ?_ ?_ _) | omega | (simp; done) | (simp; omega)))) ?_
    repeat (first | (refine seq_take (v := ?_) rfl (by rfl) ?_ ?_; rotate_left; (focus (intro wS hS; have z1 := (hS.cell (p := ⟨b, 1, none⟩) bz2).trans a1; have y1 := (hS.cell (p := ⟨w.heap.size, 1, none⟩) cz).trans c1; go_simp; exact rfl)); simp only [Act.put, sqA, sqB, sqC]) | (refine seq_skip rfl (by rfl) ?_; simp only [Act.put, sqA, sqB, sqC]))
    refine seq_nil ?_
    go_wp2_with fail
    refine wp_region_seq (Below X.heap.size X) (.take 0 <| .take 1 <| .take 2 <| .take 3 <| .take 4 <| .take 5 <| .take 6 <| .take 7 <| .done) (by kernel_rfl) (by kernel_rfl) (by kernel_rfl) (by (repeat' (first | with_reducible (first | assumption | exact Below.refl _ _ | refine Below.drew ?_ | refine below_drewN ?_ _ | refine Below.alloc ?_ ?_ _ | refine Below.setCell ?_ ?_ _) | omega | (simp; done) | (simp; omega)))) ?_
    repeat (first | (refine seq_take (v := ?_) rfl (by rfl) ?_ ?_; rotate_left; (focus (intro wS hS; have z2 := (hS.cell (p := ⟨b, 2, none⟩) bz2).trans a2; have y1 := (hS.cell (p := ⟨w.heap.size, 1, none⟩) cz).trans c1; go_simp; exact rfl)); simp only [Act.put, sqA, sqB, sqC]) | (refine seq_skip rfl (by rfl) ?_; simp only [Act.put, sqA, sqB, sqC]))
    refine seq_nil ?_
    go_wp2_with fail
    refine wp_region_seqm (Below X.heap.size X) [22] [0, 1, 2, 3, 5, 6, 7, 9, 11, 13, 14, 18, 19, 20, 21] (.take 0 <| .take 1 <| .take 2 <| .take 3 <| .take 4 <| .take 5 <| .take 6 <| .take 7 <| .take 8 <| .take 9 <| .take 10 <| .take 11 <| .take 12 <| .take 13 <| .take 14 <| .take 15 <| .take 16 <| .run 17 <| .take 18 <| .take 19 <| .take 20 <| .take 21 <| .run 22 <| .done) (by kernel_rfl) (by kernel_rfl) (by kernel_rfl) (by (repeat' (first | with_reducible (first | assumption | exact Below.refl _ _ | refine Below.drew ?_ | refine below_drewN ?_ _ | refine Below.alloc ?_ ?_ _ | refine Below.setCell ?_ ?_ _) | omega | (simp; done) | (simp; omega)))) ?_
    iterate 17 (first | (refine seqm_take (v := ?_) rfl rfl (by rfl) ?_ ?_; rotate_left; (focus (intro wS hS; have z0 := (hS.cell (p := ⟨b, 0, none⟩) bz2).trans a0; have z1 := (hS.cell (p := ⟨b, 1, none⟩) bz2).trans a1; have z2 := (hS.cell (p := ⟨b, 2, none⟩) bz2).trans a2; have y0 := (hS.cell (p := ⟨w.heap.size, 0, none⟩) cz).trans c0; have y1 := (hS.cell (p := ⟨w.heap.size, 1, none⟩) cz).trans c1; have y2 := (hS.cell (p := ⟨w.heap.size, 2, none⟩) cz).trans c2; have y3 := (hS.cell (p := ⟨w.heap.size, 3, none⟩) cz).trans c3; have y4 := (hS.cell (p := ⟨w.heap.size, 4, none⟩) cz).trans c4; have y5 := (hS.cell (p := ⟨w.heap.size, 5, none⟩) cz).trans c5; have k0 := (hS.cell (p := ⟨gs, os + o * 3, none⟩) gsz).trans s0; have k1 := (hS.cell (p := ⟨gs, os + o * 3 + 1, none⟩) gsz).trans s1; have k2 := (hS.cell (p := ⟨gs, os + o * 3 + 2, none⟩) gsz).trans s2; have m4 := (hS.cell (p := ⟨w.heap.size + 1, 4, none⟩) ez).trans e4; have m5 := (hS.cell (p := ⟨w.heap.size + 1, 5, none⟩) ez).trans e5; have m6 := (hS.cell (p := ⟨w.heap.size + 1, 6, none⟩) ez).trans e6; have n0 := (hS.cell (p := ⟨gv, o, none⟩) gvz).trans r0; go_simp; exact rfl)); simp only [Act.put, sqA, sqB, sqC]) | (refine seqm_pure (v := ?_) rfl rfl (by rfl) ?_ ?_; rotate_left; (focus (intro wS; go_simp; exact rfl)); simp only [Act.put, sqA, sqB, sqC]))
    refine seqm_run rfl (by rfl) (fun K hK => ?_)
    go_simp
    (with_reducible refine (HNA.out _ ?_).mono ?_)
    · exact HSL.out.below (by have hq := HBX.out; (repeat' (first | with_reducible (first | assumption | exact Below.refl _ _ | refine Below.drew ?_ | refine below_drewN ?_ _ | refine Below.alloc ?_ ?_ _ | refine Below.setCell ?_ ?_ _) | omega | (simp; done) | (simp; omega)))) (Nat.le_refl _)
    rintro e3' w3 ⟨v5, L5, rfl, hO5, hL5, hb3⟩
    obtain ⟨A5, c5', rfl⟩ := own_slice hO5
    have hB3 : Below X.heap.size X w3 := Below.trans (by (repeat' (first | with_reducible (first | assumption | exact Below.refl _ _ | refine Below.drew ?_ | refine below_drewN ?_ _ | refine Below.alloc ?_ ?_ _ | refine Below.setCell ?_ ?_ _) | omega | (simp; done) | (simp; omega)))) (hb3.mono (by simp))
    refine hK _ _ hB3 ?_
    clear hK K hL5 hb3
    iterate 4 (first | (refine seqm_take (v := ?_) rfl rfl (by rfl) ?_ ?_; rotate_left; (focus (intro wS hS; have z0 := (hS.cell (p := ⟨b, 0, none⟩) bz2).trans a0; have z1 := (hS.cell (p := ⟨b, 1, none⟩) bz2).trans a1; have z2 := (hS.cell (p := ⟨b, 2, none⟩) bz2).trans a2; have y0 := (hS.cell (p := ⟨w.heap.size, 0, none⟩) cz).trans c0; have y1 := (hS.cell (p := ⟨w.heap.size, 1, none⟩) cz).trans c1; have y2 := (hS.cell (p := ⟨w.heap.size, 2, none⟩) cz).trans c2; have y3 := (hS.cell (p := ⟨w.heap.size, 3, none⟩) cz).trans c3; have y4 := (hS.cell (p := ⟨w.heap.size, 4, none⟩) cz).trans c4; have y5 := (hS.cell (p := ⟨w.heap.size, 5, none⟩) cz).trans c5; have k0 := (hS.cell (p := ⟨gs, os + o * 3, none⟩) gsz).trans s0; have k1 := (hS.cell (p := ⟨gs, os + o * 3 + 1, none⟩) gsz).trans s1; have k2 := (hS.cell (p := ⟨gs, os + o * 3 + 2, none⟩) gsz).trans s2; have m4 := (hS.cell (p := ⟨w.heap.size + 1, 4, none⟩) ez).trans e4; have m5 := (hS.cell (p := ⟨w.heap.size + 1, 5, none⟩) ez).trans e5; have m6 := (hS.cell (p := ⟨w.heap.size + 1, 6, none⟩) ez).trans e6; have n0 := (hS.cell (p := ⟨gv, o, none⟩) gvz).trans r0; go_simp; exact rfl)); simp only [Act.put, sqA, sqB, sqC]) | (refine seqm_pure (v := ?_) rfl rfl (by rfl) ?_ ?_; rotate_left; (focus (intro wS; go_simp; exact rfl)); simp only [Act.put, sqA, sqB, sqC]))
    have r3 := (hB3.cell (p := ⟨gv, o, none⟩) gvz).trans r0
    have HB3 : Hid (Below w.heap.size w w3) := hide (HBX.out.trans (hB3.mono hzx))
    have HST3 := hide (ob_below HST.out HB3.out)
    have f3 := World.ownsRow.frozenAt HST3.out.1 o
    have HB3x := hide hB3
    have HO3 := hide hO5
    have HFin : Hid (StRow (w3.setCell ⟨gv, o, none⟩ (.slice A5 R1.length c5')) B (.slice (some ⟨gv, 0, none⟩) ps.length vc) (ps.set o (R1, A5, c5')) ∧ (w3.setCell ⟨gv, o, none⟩ (.slice A5 R1.length c5')).heap[b]? = w.heap[b]? ∧ Keep (fun j => j < w.heap.size ∧ some j ≠ (Value.slice (some ⟨gv, 0, none⟩) ps.length vc).ownBlock) w (w3.setCell ⟨gv, o, none⟩ (.slice A5 R1.length c5'))) := hide (by
      have hab := (HB3.out.block b bz).trans HAB.out
      have hne := own_ne HST3.out.1 hab (by decide)
      refine ⟨st_set HST3.out (wrow_sl (show WRow w3 _ _ R1 from HO3.out) (by show R1.length ≤ _; have := HRL.out; unfold maxLen; omega)) (tw_own HO3.out) rfl, ?_, ?_⟩
      · have hk : Keep (fun j => j ≠ gv) w3 (w3.setCell ⟨gv, o, none⟩ (.slice A5 R1.length c5')) := (Keep.refl _ _).setCell (by simp) _
        exact (hk.block b (fun e => hne (by rw [e]; rfl))).trans (HB3.out.block b bz)
      · exact (Keep.of_below HB3.out (fun j h => h.1)).setCell (fun h => h.2 rfl) _)
    clear hB3 hO5 a0 a1 a2 c0 c1 c2 c3 c4 c5 e0 e1 e2 e3 e4 e5 e6 e7 s0 s1 s2 r0
    refine seqm_late rfl rfl (by rfl) (fun K hK => ?_)
    go_simp
    refine hK _ _ ?_
    clear hK K
    refine seqm_nil ?_
    go_wp2
    go_ret
    exact ⟨_, rfl, HFin.out.1, HMap.out (R1, A5, c5') rfl, HFin.out.2.1, HFin.out.2.2⟩
  · rw [stepC_in1 hco hs hxo hr]
    have g1 : (e.resp == 0) = false := by simp [hr]
    obtain ⟨RR, hRR⟩ : ∃ RR, legalM n s st c ⟨e.err, e.val, l⟩ = RR := ⟨_, rfl⟩
    rw [hRR] at NL hleg ⊢
    obtain ⟨R1, ok⟩ := RR
    simp only at NL hleg ⊢
    have HRL := hide (show R1.length ≤ 10000 by omega)
    have HNL := hide NL
    have HMap : Hid (∀ Q : StP, Q.1 = R1 → (ps.set o Q).map Prod.fst = (ps.map Prod.fst).set o R1) := hide (fun Q hQ => by rw [List.map_set, hQ])
    clear hA hSp hSt gs3 hlst hlN hR hu hl hp hs hxo hsl htw hcv hcs hal hal2 NA NL hleg hRR hr ua ub uc
    unfold MdPost clV
    rw [hco]
    clear hco
    go_enter Tryz.func63, Tryz.ntmps63
    go_wp2_with fail
    rw [← hX]
    clear hX
    refine wp_region_seq (Below X.heap.size X) (.take 0 <| .take 1 <| .take 2 <| .take 3 <| .take 4 <| .take 5 <| .take 6 <| .take 7 <| .take 8 <| .take 9 <| .take 10 <| .take 11 <| .take 12 <| .done) (by kernel_rfl) (by kernel_rfl) (by kernel_rfl) (by (repeat' (first | with_reducible (first | assumption | exact Below.refl _ _ | refine Below.drew ?_ | refine below_drewN ?_ _ | refine Below.alloc ?_ ?_ _ | refine Below.setCell ?_ ?_ _) | omega | (simp; done) | (simp; omega)))) ?_
    repeat (first | (refine seq_take (v := ?_) rfl (by rfl) ?_ ?_; rotate_left; (focus (intro wS hS; have z1 := (hS.cell (p := ⟨b, 1, none⟩) bz2).trans a1; have y1 := (hS.cell (p := ⟨w.heap.size, 1, none⟩) cz).trans c1; go_simp; exact rfl)); simp only [Act.put, sqA, sqB, sqC]) | (refine seq_skip rfl (by rfl) ?_; simp only [Act.put, sqA, sqB, sqC]))
    refine seq_nil ?_
    go_wp2_with fail
    refine wp_region_seq (Below X.heap.size X) (.take 0 <| .take 1 <| .take 2 <| .take 3 <| .take 4 <| .take 5 <| .take 6 <| .take 7 <| .done) (by kernel_rfl) (by kernel_rfl) (by kernel_rfl) (by (repeat' (first | with_reducible (first | assumption | exact Below.refl _ _ | refine Below.drew ?_ | refine below_drewN ?_ _ | refine Below.alloc ?_ ?_ _ | refine Below.setCell ?_ ?_ _) | omega | (simp; done) | (simp; omega)))) ?_
    repeat (first | (refine seq_take (v := ?_) rfl (by rfl) ?_ ?_; rotate_left; (focus (intro wS hS; have z2 := (hS.cell (p := ⟨b, 2, none⟩) bz2).trans a2; have y1 := (hS.cell (p := ⟨w.heap.size, 1, none⟩) cz).trans c1; go_simp; exact rfl)); simp only [Act.put, sqA, sqB, sqC]) | (refine seq_skip rfl (by rfl) ?_; simp only [Act.put, sqA, sqB, sqC]))
    refine seq_nil ?_
    go_wp2_with fail
    refine wp_region_seq (Below X.heap.size X) (.take 0 <| .take 1 <| .take 2 <| .take 3 <| .take 4 <| .take 5 <| .take 6 <| .take 7 <| .take 8 <| .take 9 <| .take 10 <| .take 11 <| .take 12 <| .take 13 <| .take 14 <| .take 15 <| .take 16 <| .take 17 <| .run 18 <| .take 19 <| .take 20 <| .take 21 <| .take 22 <| .take 23 <| .done) (by kernel_rfl) (by kernel_rfl) (by kernel_rfl) (by (repeat' (first | with_reducible (first | assumption | exact Below.refl _ _ | refine Below.drew ?_ | refine below_drewN ?_ _ | refine Below.alloc ?_ ?_ _ | refine Below.setCell ?_ ?_ _) | omega | (simp; done) | (simp; omega)))) ?_
    iterate 18 (refine seq_take (v := ?_) rfl (by rfl) ?_ ?_; rotate_left; (focus (intro wS hS; have z0 := (hS.cell (p := ⟨b, 0, none⟩) bz2).trans a0; have z1 := (hS.cell (p := ⟨b, 1, none⟩) bz2).trans a1; have z2 := (hS.cell (p := ⟨b, 2, none⟩) bz2).trans a2; have y0 := (hS.cell (p := ⟨w.heap.size, 0, none⟩) cz).trans c0; have y1 := (hS.cell (p := ⟨w.heap.size, 1, none⟩) cz).trans c1; have y2 := (hS.cell (p := ⟨w.heap.size, 2, none⟩) cz).trans c2; have y3 := (hS.cell (p := ⟨w.heap.size, 3, none⟩) cz).trans c3; have y4 := (hS.cell (p := ⟨w.heap.size, 4, none⟩) cz).trans c4; have y5 := (hS.cell (p := ⟨w.heap.size, 5, none⟩) cz).trans c5; have k0 := (hS.cell (p := ⟨gs, os + o * 3, none⟩) gsz).trans s0; have k1 := (hS.cell (p := ⟨gs, os + o * 3 + 1, none⟩) gsz).trans s1; have k2 := (hS.cell (p := ⟨gs, os + o * 3 + 2, none⟩) gsz).trans s2; have m4 := (hS.cell (p := ⟨w.heap.size + 1, 4, none⟩) ez).trans e4; have m5 := (hS.cell (p := ⟨w.heap.size + 1, 5, none⟩) ez).trans e5; have m6 := (hS.cell (p := ⟨w.heap.size + 1, 6, none⟩) ez).trans e6; have n0 := (hS.cell (p := ⟨gv, o, none⟩) gvz).trans r0; go_simp; exact rfl)); simp only [Act.put, sqA, sqB, sqC])
    refine seq_run rfl (by rfl) (fun K hK => ?_)
    go_simp
    (with_reducible refine (HNL.out _ ?_ ?_).mono ?_)
    · exact HSL.out.below (by have hq := HBX.out; (repeat' (first | with_reducible (first | assumption | exact Below.refl _ _ | refine Below.drew ?_ | refine below_drewN ?_ _ | refine Below.alloc ?_ ?_ _ | refine Below.setCell ?_ ?_ _) | omega | (simp; done) | (simp; omega)))) (Nat.le_refl _)
    · exact HLST.out.below (by have hq := HBX.out; (repeat' (first | with_reducible (first | assumption | exact Below.refl _ _ | refine Below.drew ?_ | refine below_drewN ?_ _ | refine Below.alloc ?_ ?_ _ | refine Below.setCell ?_ ?_ _) | omega | (simp; done) | (simp; omega)))) (Nat.le_refl _)
    rintro e3' w3 ⟨v5, rfl, hO5, hb3⟩
    obtain ⟨A5, c5', rfl⟩ := own_slice hO5
    have hB3 : Below X.heap.size X w3 := Below.trans (by (repeat' (first | with_reducible (first | assumption | exact Below.refl _ _ | refine Below.drew ?_ | refine below_drewN ?_ _ | refine Below.alloc ?_ ?_ _ | refine Below.setCell ?_ ?_ _) | omega | (simp; done) | (simp; omega)))) (hb3.mono (by simp))
    refine hK _ _ hB3 ?_
    clear hK K hb3
    iterate 5 (refine seq_take (v := ?_) rfl (by rfl) ?_ ?_; rotate_left; (focus (intro wS hS; have z0 := (hS.cell (p := ⟨b, 0, none⟩) bz2).trans a0; have z1 := (hS.cell (p := ⟨b, 1, none⟩) bz2).trans a1; have z2 := (hS.cell (p := ⟨b, 2, none⟩) bz2).trans a2; have y0 := (hS.cell (p := ⟨w.heap.size, 0, none⟩) cz).trans c0; have y1 := (hS.cell (p := ⟨w.heap.size, 1, none⟩) cz).trans c1; have y2 := (hS.cell (p := ⟨w.heap.size, 2, none⟩) cz).trans c2; have y3 := (hS.cell (p := ⟨w.heap.size, 3, none⟩) cz).trans c3; have y4 := (hS.cell (p := ⟨w.heap.size, 4, none⟩) cz).trans c4; have y5 := (hS.cell (p := ⟨w.heap.size, 5, none⟩) cz).trans c5; have k0 := (hS.cell (p := ⟨gs, os + o * 3, none⟩) gsz).trans s0; have k1 := (hS.cell (p := ⟨gs, os + o * 3 + 1, none⟩) gsz).trans s1; have k2 := (hS.cell (p := ⟨gs, os + o * 3 + 2, none⟩) gsz).trans s2; have m4 := (hS.cell (p := ⟨w.heap.size + 1, 4, none⟩) ez).trans e4; have m5 := (hS.cell (p := ⟨w.heap.size + 1, 5, none⟩) ez).trans e5; have m6 := (hS.cell (p := ⟨w.heap.size + 1, 6, none⟩) ez).trans e6; have n0 := (hS.cell (p := ⟨gv, o, none⟩) gvz).trans r0; go_simp; exact rfl)); simp only [Act.put, sqA, sqB, sqC])
    refine seq_nil ?_
    have r3 := (hB3.cell (p := ⟨gv, o, none⟩) gvz).trans r0
    have HB3 : Hid (Below w.heap.size w w3) := hide (HBX.out.trans (hB3.mono hzx))
    have HST3 := hide (ob_below HST.out HB3.out)
    have f3 := World.ownsRow.frozenAt HST3.out.1 o
    have HB3x := hide hB3
    have HO3 := hide hO5
    have HFin : Hid (StRow (w3.setCell ⟨gv, o, none⟩ (.slice A5 R1.length c5')) B (.slice (some ⟨gv, 0, none⟩) ps.length vc) (ps.set o (R1, A5, c5')) ∧ (w3.setCell ⟨gv, o, none⟩ (.slice A5 R1.length c5')).heap[b]? = w.heap[b]? ∧ Keep (fun j => j < w.heap.size ∧ some j ≠ (Value.slice (some ⟨gv, 0, none⟩) ps.length vc).ownBlock) w (w3.setCell ⟨gv, o, none⟩ (.slice A5 R1.length c5'))) := hide (by
      have hab := (HB3.out.block b bz).trans HAB.out
      have hne := own_ne HST3.out.1 hab (by decide)
      refine ⟨st_set HST3.out (wrow_sl (show WRow w3 _ _ R1 from HO3.out) (by show R1.length ≤ _; have := HRL.out; unfold maxLen; omega)) (tw_own HO3.out) rfl, ?_, ?_⟩
      · have hk : Keep (fun j => j ≠ gv) w3 (w3.setCell ⟨gv, o, none⟩ (.slice A5 R1.length c5')) := (Keep.refl _ _).setCell (by simp) _
        exact (hk.block b (fun e => hne (by rw [e]; rfl))).trans (HB3.out.block b bz)
      · exact (Keep.of_below HB3.out (fun j h => h.1)).setCell (fun h => h.2 rfl) _)
    clear hB3 hO5 a0 a1 a2 c0 c1 c2 c3 c4 c5 e0 e1 e2 e3 e4 e5 e6 e7 s0 s1 s2 r0
    go_wp2
    go_ret
    exact ⟨_, rfl, HFin.out.1, HMap.out (R1, A5, c5') rfl, HFin.out.2.1, HFin.out.2.2⟩
end Go.Proofs.YtmiimpmfkjcjlaaGreat

namespace Go.Proofs.YtmiimpmfkjcjlaaGreat
open Go.RowKit
theorem ldo_any (b B M : Nat) (n : Int) (S V : Value) (specs : List Sp) (ps : List StP) (e : Ev) (l : List Int) (c : Cl) (w : World) (hA : MdAt w b n S V) (hSp : SlSp w S specs) (hSt : StRow w B V ps) (hlst : SlW w (.slice e.lA e.lN e.lC) l)
    (ht0 : 0 ≤ c.thread) (ht1 : c.thread < n) (hu : U64 c.a ∧ U64 c.b ∧ U64 c.c) (hO : StOk n specs (ps.map Prod.fst) M) (hM : M ≤ 9000) (hm8 : specs.length ≤ 1000) :
    Calls Tryz.prog 63 #[.pointer (some ⟨b, 0, none⟩), clV c, evAg e] w (MdPost B b V (stepC n specs (ps.map Prod.fst) e l c) w) := by
  by_cases ho : 0 ≤ c.obj ∧ c.obj < specs.length
  · obtain ⟨o, hco⟩ := Int.eq_ofNat_of_zero_le ho.1
    have hpl : ps.length = specs.length := by have := hO.len; simpa using this
    obtain ⟨s, hs⟩ : ∃ s, specs[o]? = some s := ⟨_, List.getElem?_eq_getElem (by omega)⟩
    obtain ⟨p, hp⟩ : ∃ p, ps[o]? = some p := ⟨_, List.getElem?_eq_getElem (by omega)⟩
    obtain ⟨g1, g2, g3⟩ := hO.ok o s p.1 hs (by rw [List.getElem?_map, hp]; rfl)
    exact ldo_in b B o n S V specs ps e l c s p w hA hSp hSt hlst hco hs hp ht0 ht1 hu.1 hu.2.1 hu.2.2 g1 g2 (by omega) (by omega)
  · exact ldo_out b B n S V specs ps e l c w hA hSp hSt (by obtain ⟨_, _, e1, _⟩ := hlst; injection e1) ho
structure LwCtx (W0 : World) (Bc Be : Nat) (S C L : Value) (specs : List Sp) (calls : List Cl) (es : List Ev) (ls : Nat → List Int) : Prop where
  c0 : W0.cell? ⟨Bc, 0, none⟩ = some C
  e0 : W0.cell? ⟨Be, 0, none⟩ = some L
  cz : Bc < W0.heap.size
  ez : Be < W0.heap.size
  specs : SlSp W0 S specs
  calls : SlCl W0 C calls
  evs : SlEv W0 L es
  lst : ∀ (k : Nat) (e : Ev), es[k]? = some e → SlW W0 (.slice e.lA e.lN e.lC) (ls k)
structure LwSt (W0 W : World) (Bt b : Nat) (n : Int) (S V : Value) (ps : List StP) : Prop where
  at_ : MdAt W b n S V
  tb : W.heap[Bt]? = some (.cells #[.pointer (some ⟨b, 0, none⟩)] 114 (0, 0))
  st : StRow W W0.heap.size V ps
  bel : Below W0.heap.size W0 W
theorem LwSt.keep {W0 W W' : World} {Bt b : Nat} {n : Int} {S V : Value} {ps ps' : List StP} (h : LwSt W0 W Bt b n S V ps) (h1 : StRow W' W0.heap.size V ps') (h2 : W'.heap[b]? = W.heap[b]?) (h3 : Keep (fun j => j < W.heap.size ∧ some j ≠ V.ownBlock) W W') : LwSt W0 W' Bt b n S V ps' :=
  ⟨h2.trans h.at_, (h3.block Bt ⟨(Array.getElem?_eq_some_iff.1 h.tb).1, own_ne h.st.1 h.tb (by decide)⟩).trans h.tb, h1, h.bel.trans (Keep.below h3 (fun k hk => ⟨Nat.lt_of_lt_of_le hk h.bel.size, fun e => by have := (h.st.1.lt k e.symm).1; omega⟩))⟩
def W2Post (W0 : World) (Bt b : Nat) (n : Int) (S V : Value) (R : List (List Int) × Bool) (W : World) (e : Ending) (W' : World) : Prop :=
  ∃ ps, e = .returned (.bool (!R.2)) ∧ LwSt W0 W' Bt b n S V ps ∧ ps.map Prod.fst = R.1 ∧ Keep (fun j => j < W.heap.size ∧ some j ≠ V.ownBlock) W W'
set_option maxRecDepth 100000 in
set_option maxHeartbeats 2000000 in
theorem wrong2_any (W0 W : World) (Bt Bc Be b i M : Nat) (n : Int) (S V C L : Value) (specs : List Sp) (calls : List Cl) (es : List Ev) (ls : Nat → List Int) (ps : List StP) (h : LwCtx W0 Bc Be S C L specs calls es ls) (hS : LwSt W0 W Bt b n S V ps) (hE : EvsOk n calls es) (hi : i < es.length) (hO : StOk n specs (ps.map Prod.fst) M) (hM : M ≤ 9000) (hm8 : specs.length ≤ 1000) :
    Calls Tryz.prog 62 #[.int .i64 (i : Int), .pointer (some ⟨Bt, 0, none⟩), .pointer (some ⟨Bc, 0, none⟩), .pointer (some ⟨Be, 0, none⟩)] W (W2Post W0 Bt b n S V (stepL n specs calls es ls (ps.map Prod.fst) i) W) := by
  obtain ⟨e, he⟩ : ∃ e, es[i]? = some e := ⟨_, List.getElem?_eq_getElem hi⟩
  obtain ⟨hc0, hc1⟩ := hE.call i e he
  obtain ⟨i2, hi2⟩ := Int.eq_ofNat_of_zero_le hc0
  have hci : e.call.toNat = i2 := by omega
  obtain ⟨c, hc⟩ : ∃ c, calls[i2]? = some c := ⟨_, List.getElem?_eq_getElem (by omega)⟩
  rw [stepL_eq he (by rw [hci]; exact hc)]
  obtain ⟨ht0, ht1⟩ := hE.thread i e c he (by rw [hci]; exact hc)
  have hu := hE.word c (List.mem_of_getElem? hc)
  have hbW := hS.bel
  have N1 := fun (W' : World) (hb : Below W.heap.size W W') => ldo_any b W0.heap.size M n S V specs ps e (ls i) c W' ((hb.block b (Array.getElem?_eq_some_iff.1 hS.at_).1).trans hS.at_) ((h.specs.below hbW (Nat.le_refl _)).below hb (Nat.le_refl _)) (ob_below hS.st hb) (((h.lst i e he).below hbW (Nat.le_refl _)).below hb (Nat.le_refl _)) ht0 ht1 hu hO hM hm8
  obtain ⟨Ae, ce, rfl, ge1, ge2, ge3⟩ := id h.evs
  obtain ⟨Ac, cc, rfl, gc1, gc2, gc3⟩ := id h.calls
  obtain ⟨ge, oe, rfl, gez0, hce⟩ := ge3 i e he
  obtain ⟨gc, oc, rfl, gcz0, hcc⟩ := gc3 i2 c hc
  obtain ⟨k0, k1, k2, k3, k4, k5, k6, k7⟩ := ev_cells (hce.of_block (w' := W) (hbW.block ge gez0))
  obtain ⟨x0, x1, x2, x3, x4, x5⟩ := cl_cells (hcc.of_block (w' := W) (hbW.block gc gcz0))
  have t0 := cell_of_row W Bt 0 _ _ _ hS.tb
  have c0 := (hbW.cell (p := ⟨Bc, 0, none⟩) h.cz).trans h.c0
  have e0 := (hbW.cell (p := ⟨Be, 0, none⟩) h.ez).trans h.e0
  have tz := (Array.getElem?_eq_some_iff.1 hS.tb).1
  have cz := Nat.lt_of_lt_of_le h.cz hbW.size
  have ez := Nat.lt_of_lt_of_le h.ez hbW.size
  have gez := Nat.lt_of_lt_of_le gez0 hbW.size
  have gcz := Nat.lt_of_lt_of_le gcz0 hbW.size
  have q0 : (0 : Int) ≤ (i : Int) := by omega
  have q1 : (i : Int) < (es.length : Int) := by omega
  have q2 : (0 : Int) ≤ (i2 : Int) := by omega
  have q3 : (i2 : Int) < (calls.length : Int) := by omega
  obtain ⟨RR, hRR⟩ : ∃ RR, stepC n specs (ps.map Prod.fst) e (ls i) c = RR := ⟨_, rfl⟩
  rw [hRR] at N1 ⊢
  obtain ⟨R1, ok⟩ := RR
  unfold MdPost clV at N1
  simp only [evAg] at N1
  rw [hi2] at N1 k0
  have HS := hide hS
  have HN := hide N1
  clear h hE he hc hce hcc ge3 gc3 hO hRR N1 hbW hS hi2 hci ht0 ht1 hu hc0 hc1
  go_enter Tryz.func62, Tryz.ntmps62
  go_wp2_with fail
  refine wp_region_seqm (Below W.heap.size W) [13] [3, 4, 5, 7, 10, 11, 14, 15] (.take 0 <| .take 1 <| .take 2 <| .take 3 <| .take 4 <| .take 5 <| .take 6 <| .take 7 <| .take 8 <| .take 9 <| .take 10 <| .take 11 <| .take 12 <| .run 13 <| .take 14 <| .take 15 <| .done) (by kernel_rfl) (by kernel_rfl) (by kernel_rfl) (by (repeat' (first | with_reducible (first | assumption | exact Below.refl _ _ | refine Below.drew ?_ | refine below_drewN ?_ _ | refine Below.alloc ?_ ?_ _ | refine Below.setCell ?_ ?_ _) | omega | (simp; done) | (simp; omega)))) ?_
  iterate 13 (first | (refine seqm_take (v := ?_) rfl rfl (by rfl) ?_ ?_; rotate_left; (focus (intro wS hS; have z0 := (hS.cell (p := ⟨Bt, 0, none⟩) tz).trans t0; have z1 := (hS.cell (p := ⟨Bc, 0, none⟩) cz).trans c0; have z2 := (hS.cell (p := ⟨Be, 0, none⟩) ez).trans e0; have u0 := (hS.cell (p := ⟨ge, oe + i * 8, none⟩) gez).trans k0; have u1 := (hS.cell (p := ⟨ge, oe + i * 8 + 1, none⟩) gez).trans k1; have u2 := (hS.cell (p := ⟨ge, oe + i * 8 + 2, none⟩) gez).trans k2; have u3 := (hS.cell (p := ⟨ge, oe + i * 8 + 3, none⟩) gez).trans k3; have u4 := (hS.cell (p := ⟨ge, oe + i * 8 + 4, none⟩) gez).trans k4; have u5 := (hS.cell (p := ⟨ge, oe + i * 8 + 5, none⟩) gez).trans k5; have u6 := (hS.cell (p := ⟨ge, oe + i * 8 + 6, none⟩) gez).trans k6; have u7 := (hS.cell (p := ⟨ge, oe + i * 8 + 7, none⟩) gez).trans k7; have y0 := (hS.cell (p := ⟨gc, oc + i2 * 6, none⟩) gcz).trans x0; have y1 := (hS.cell (p := ⟨gc, oc + i2 * 6 + 1, none⟩) gcz).trans x1; have y2 := (hS.cell (p := ⟨gc, oc + i2 * 6 + 2, none⟩) gcz).trans x2; have y3 := (hS.cell (p := ⟨gc, oc + i2 * 6 + 3, none⟩) gcz).trans x3; have y4 := (hS.cell (p := ⟨gc, oc + i2 * 6 + 4, none⟩) gcz).trans x4; have y5 := (hS.cell (p := ⟨gc, oc + i2 * 6 + 5, none⟩) gcz).trans x5; go_simp; exact rfl)); simp only [Act.put, sqA, sqB, sqC]) | (refine seqm_pure (v := ?_) rfl rfl (by rfl) ?_ ?_; rotate_left; (focus (intro wS; go_simp; exact rfl)); simp only [Act.put, sqA, sqB, sqC]))
  clear t0 c0 e0 k0 k1 k2 k3 k4 k5 k6 k7 x0 x1 x2 x3 x4 x5
  refine seqm_late rfl rfl (by rfl) (fun K hK => ?_)
  go_simp
  (with_reducible refine (HN.out _ ?_).mono ?_)
  · (repeat' (first | with_reducible (first | assumption | exact Below.refl _ _ | refine Below.drew ?_ | refine below_drewN ?_ _ | refine Below.alloc ?_ ?_ _ | refine Below.setCell ?_ ?_ _) | omega | (simp; done) | (simp; omega)))
  rintro e3 w3 ⟨ps', rfl, h1, h2, h3, h4⟩
  have HF : Hid (LwSt W0 w3 Bt b n S V ps' ∧ Keep (fun j => j < W.heap.size ∧ some j ≠ V.ownBlock) W w3) := hide (by
    have hk : Keep (fun j => j < W.heap.size ∧ some j ≠ V.ownBlock) W w3 := Keep.trans (Keep.refl _ _).drew (h4.mono (fun k hk => ⟨by simpa using hk.1, hk.2⟩))
    exact ⟨HS.out.keep h1 h3 hk, hk⟩)
  have HM := hide h2
  clear h1 h2 h3 h4
  refine hK _ _ ?_
  clear hK K
  iterate 2 (refine seqm_pure (v := ?_) rfl rfl (by rfl) ?_ ?_; rotate_left; (focus (intro wS; go_simp; exact rfl)); simp only [Act.put, sqA, sqB, sqC])
  refine seqm_nil ?_
  go_wp2
  go_ret
  exact ⟨ps', rfl, HF.out.1, HM.out, HF.out.2⟩
end Go.Proofs.YtmiimpmfkjcjlaaGreat

namespace Go.Proofs.YtmiimpmfkjcjlaaGreat
open Go.RowKit
abbrev doF (Bt Bc Be : Nat) : Value := .func (.func 62) #[] #[.pointer (some ⟨Bt, 0, none⟩), .pointer (some ⟨Bc, 0, none⟩), .pointer (some ⟨Be, 0, none⟩)]
def LxPost (n : Int) (specs : List Sp) (calls : List Cl) (es : List Ev) (ls : Nat → List Int) (L : List Nat) (sts : List (List Int)) (V : Value) (w : World) (e : Ending) (w' : World) : Prop :=
  Keep (fun j => j < w.heap.size ∧ some j ≠ V.ownBlock) w w' ∧ ((e = .returned (.int .i64 (-1)) ∧ runL n specs calls es ls L sts = none) ∨ ∃ k i : Nat, e = .returned (.int .i64 (k : Int)) ∧ L[k]? = some i ∧ runL n specs calls es ls L sts = some i)
set_option maxRecDepth 100000 in
set_option maxHeartbeats 2000000 in
theorem lindex_any (W0 w : World) (Bt Bc Be b : Nat) (A : Option Addr) (cap : Nat) (n : Int) (S V C Lv : Value) (specs : List Sp) (calls : List Cl) (es : List Ev) (ls : Nat → List Int) (ps0 : List StP) (L : List Nat) (h : LwCtx W0 Bc Be S C Lv specs calls es ls) (hS : LwSt W0 w Bt b n S V ps0) (hL : SlI w (.slice A L.length cap) (ordI L)) (hA : ∀ a, A = some a → some a.block ≠ V.ownBlock)
    (hm : ∀ x ∈ L, x < es.length) (hE : EvsOk n calls es) (hO : StOk n specs (ps0.map Prod.fst) 80) (hlen : L.length ≤ 1000) (hm8 : specs.length ≤ 1000) :
    Calls Tryz.prog 61 #[.slice A L.length cap, doF Bt Bc Be] w (LxPost n specs calls es ls L (ps0.map Prod.fst) V w) := by
  have he : ∀ args w, (callFunc 62 args).run Tryz.prog w = .ok (.enter 62 args) w := enters_of Tryz.func62 (by kernel_rfl) rfl
  have HX := hide h
  have HS0 := hide hS
  have HL := hide hL
  have HA := hide hA
  have HM := hide hm
  have HE := hide hE
  have HO := hide hO
  clear h hS hL hA hm hE hO
  obtain ⟨n1, hn⟩ : ∃ m, L.length = m := ⟨_, rfl⟩
  have HN := hide hn
  rw [hn] at HL hlen ⊢
  have hcm : n1 ≤ cap ∧ cap ≤ maxLen := by
    obtain ⟨A9, c9, e9, f1, f2, _⟩ := HL.out
    injection e9 with _ e2 e3
    rw [e3]
    rw [← e2] at f1
    exact ⟨f1, f2⟩
  clear hn
  go_enter Tryz.func61, Tryz.ntmps61
  go_wp2
  go_loopw [8] (fun i wr => ∃ (k : Nat) (ps : List StP), k ≤ n1 ∧ i = .int .i64 k ∧ Hid (LwSt W0 wr Bt b n S V ps) ∧ Hid (runL n specs calls es ls L (ps0.map Prod.fst) = runL n specs calls es ls (L.drop k) (ps.map Prod.fst)) ∧ Hid (StOk n specs (ps.map Prod.fst) (80 + 2 * k)) ∧ Hid (Keep (fun j => j < w.heap.size ∧ some j ≠ V.ownBlock) w wr)) (fun i _ => n1 - (intOf i).toNat)
  case atStart => exact ⟨0, ps0, Nat.zero_le _, rfl, HS0, hide (by rw [List.drop_zero]), hide HO.out, hide (Keep.refl _ _)⟩
  case round =>
    obtain ⟨k, ps, hk, rfl, hS, hR, hO, hK⟩ := hrel
    by_cases hlt : k < n1
    · obtain ⟨i, hi⟩ : ∃ i, L[k]? = some i := ⟨_, List.getElem?_eq_getElem (by have := HN.out; omega)⟩
      have hdrop : L.drop k = i :: L.drop (k + 1) := by
        have hkl := (List.getElem?_eq_some_iff.1 hi).1
        rw [List.drop_eq_getElem_cons hkl, (List.getElem?_eq_some_iff.1 hi).2]
      have hR2 := hR.out
      rw [hdrop, runL_cons] at hR2
      obtain ⟨gl, ol, rfl, hgl, cx⟩ := sln_at (by have := HL.out; exact this) hi
      have hkc : wr.cell? ⟨gl, ol + k, none⟩ = some (.int .i64 (i : Int)) := (hK.out.cell (p := ⟨gl, ol + k, none⟩) ⟨hgl, HA.out ⟨gl, ol, none⟩ rfl⟩).trans cx
      have hd1 : decide ((k : Int) < (n1 : Int)) = true := by simp; omega
      have hd2 : decide (k < n1) = true := by simp; omega
      have q0 : (0 : Int) ≤ (k : Int) := by omega
      have q1 : (k : Int) < (n1 : Int) := by omega
      have him := HM.out i (List.mem_of_getElem? hi)
      have N1 := fun W' hS' => wrong2_any W0 W' Bt Bc Be b i (80 + 2 * k) n S V C Lv specs calls es ls ps HX.out hS' HE.out him hO.out (by omega) hm8
      have HO2 := hide (hO.out.step (ls := ls) (by omega) HE.out i)
      obtain ⟨RR, hRR⟩ : ∃ RR, stepL n specs calls es ls (ps.map Prod.fst) i = RR := ⟨_, rfl⟩
      rw [hRR] at N1 hR2 HO2
      obtain ⟨R1, ok⟩ := RR
      have HR2 := hide hR2
      have HI := hide hi
      have HN1 := hide N1
      unfold W2Post at HN1
      simp only at HN1
      clear hR hR2 hdrop hRR cx hi N1 him
      go_wp2_with fail
      refine (HN1.out _ hS.out).mono ?_
      rintro e3 w3 ⟨ps', rfl, h1, h2, h3⟩
      have HS3 := hide h1
      have HP3 := hide h2
      have HK3 : Hid (Keep (fun j => j < w.heap.size ∧ some j ≠ V.ownBlock) w w3) := hide (hK.out.trans (h3.mono (fun j hj => ⟨Nat.lt_of_lt_of_le hj.1 hK.out.size, hj.2⟩)))
      clear h1 h2 h3 hkc HN1
      cases ok
      · have HF : Hid (LxPost n specs calls es ls L (ps0.map Prod.fst) V w (.returned (.int .i64 (k : Int))) w3) := hide ⟨HK3.out, Or.inr ⟨k, i, rfl, HI.out, by rw [HR2.out]; simp⟩⟩
        go_wp2
        go_ret
        exact HF
      · have HRn : Hid (runL n specs calls es ls L (ps0.map Prod.fst) = runL n specs calls es ls (L.drop (k + 1)) (ps'.map Prod.fst)) := hide (by rw [HR2.out, HP3.out]; simp)
        have HOn : Hid (StOk n specs (ps'.map Prod.fst) (80 + 2 * (k + 1))) := hide (by rw [HP3.out]; exact HO2.out.mono (by omega))
        go_wp2
        go_roundw
        case rel => exact ⟨k + 1, ps', by omega, by go_num, HS3, HRn, HOn, HK3⟩
        case measure => simp [intOf] <;> omega
    · have d1 : decide ((k : Int) < (n1 : Int)) = false := by simp; omega
      have d2 : decide (k < n1) = false := by simp; omega
      have HF : Hid (LxPost n specs calls es ls L (ps0.map Prod.fst) V w (.returned (.int .i64 (-1))) wr) := hide ⟨hK.out, Or.inl ⟨rfl, by rw [hR.out, List.drop_of_length_le (by have := HN.out; omega)]; rfl⟩⟩
      go_wp2
      go_ret
      exact HF
end Go.Proofs.YtmiimpmfkjcjlaaGreat
