import Derived.Test.YtmiimpmfkjcjlaaGreatBun23
namespace Go.Proofs.YtmiimpmfkjcjlaaGreat
open Go.RowKit
set_option maxRecDepth 100000 in
set_option maxHeartbeats 4000000 in
theorem sdo_in (b B i o : Nat) (n : Int) (S C L v : Value) (specs : List Sp) (calls : List Cl) (es : List Ev) (ls : Nat → List Int) (ps : List StP) (e : Ev) (c : Cl) (s : Sp) (p : StP) (w : World) (hX : SsCtx w b n S C L specs calls es ls) (hSt : StRow w B v ps) (hBB : B ≤ w.heap.size) (hE : EvsOk n calls es) (he : es[i]? = some e) (hc : calls[e.call.toNat]? = some c) (hco : c.obj = (o : Int)) (hs : specs[o]? = some s) (hp : ps[o]? = some p)
    (hR : rightM n s p.1 = true) (hu : ∀ z ∈ p.1, U64 z) (hl : p.1.length ≤ 9000) (hpl : ps.length ≤ 1000) :
    Calls Tryz.prog 96 #[.pointer (some ⟨b, 0, none⟩), v, .int .i64 (i : Int)] w (SdPost B (stepL n specs calls es ls (ps.map Prod.fst) i) w) := by
  obtain ⟨ht0, ht1⟩ := hE.thread i e c he hc
  obtain ⟨ua, ub, uc⟩ := hE.word c (List.mem_of_getElem? hc)
  have hlst := hX.lst i e he
  have hxo : (ps.map Prod.fst)[o]? = some p.1 := by rw [List.getElem?_map, hp]; rfl
  rw [stepL_eq he hc]
  obtain ⟨Ae, ce, rfl, ge1, ge2, ge3⟩ := id hX.evs
  obtain ⟨As, cs, rfl, gs1, gs2, gs3⟩ := id hX.specs
  obtain ⟨Ac, cc, rfl, gc1, gc2, gc3⟩ := id hX.calls
  obtain ⟨ge, oe, rfl, gez, hce⟩ := ge3 i e he
  obtain ⟨u0, u1, u2, u3, u4, u5, u6, u7⟩ := ev_cells hce
  obtain ⟨hc0, hc1⟩ := hE.call i e he
  obtain ⟨i2, hi2⟩ := Int.eq_ofNat_of_zero_le hc0
  have hci : e.call.toNat = i2 := by omega
  rw [hci] at hc
  obtain ⟨gc, oc, rfl, gcz0, hcc⟩ := gc3 i2 c hc
  obtain ⟨x0, x1, x2, x3, x4, x5⟩ := cl_cells hcc
  obtain ⟨a0, a1, a2, a3, bz0⟩ := cells4 hX.at_
  obtain ⟨vA, vc, rfl, _⟩ := ob_len stEn_len hSt
  have hil := (List.getElem?_eq_some_iff.1 he).1
  have q0 : (0 : Int) ≤ (i : Int) := by omega
  have q1 : (i : Int) < (es.length : Int) := by omega
  have q2 : (0 : Int) ≤ (i2 : Int) := by omega
  have q3 : (i2 : Int) < (calls.length : Int) := by omega
  have HX := hide hX
  have HST := hide hSt
  have HI2 := hide hi2
  have bz1 := bz0
  have gz1 := gcz0
  obtain ⟨gs, os, rfl, gsz0, hcs⟩ := gs3 o s hs
  obtain ⟨s0, s1, s2⟩ := spec_cells hcs
  obtain ⟨gv, vcap, hv, _, gvz, _, hcv, hsl, htw⟩ := ob_get stEn_len hSt hp
  cases hv
  have r0 := hcv 0 _ rfl
  simp only [Nat.mul_one, Nat.add_zero] at r0
  obtain ⟨st, pA, pc⟩ := p
  simp only at hR hu hl hxo r0 hsl htw
  have q4 : (0 : Int) ≤ (o : Int) := by omega
  have q5 : (o : Int) < (ps.length : Int) := by have := (List.getElem?_eq_some_iff.1 hp).1; omega
  have q6 : (o : Int) < (specs.length : Int) := by have := (List.getElem?_eq_some_iff.1 hs).1; omega
  have q7 : o < specs.length := by omega
  have q8 : o < ps.length := by omega
  have HSL := hide hsl
  have HP := hide hp
  have HBB := hide hBB
  have HCO := hide hco
  have hlN : e.lN = (ls i).length := by obtain ⟨_, _, e1, _⟩ := hlst; injection e1
  have HLST := hide hlst
  have hal := applyM_ok hR hu ua ub uc ht0 ht1
  have hal2 := applyM_list n s st c
  have NA := fun W (h : SlW W (.slice pA st.length pc) st) => mapply_any n s c pA st.length pc st W h rfl (by omega) ua ub hu
  have NL := fun W (h : SlW W (.slice pA st.length pc) st) (h2 : SlW W (.slice e.lA e.lN e.lC) (ls i)) => mlegal_any n s c ⟨e.err, e.val, ls i⟩ pA e.lA st.length pc e.lN e.lC st W h rfl (by omega) ua ub hu h2 (by omega) (by omega)
  unfold ApPost clV spV at NA
  unfold LegPost clV spV at NL
  rw [hco] at NA NL
  have hleg := legalM_ok ⟨e.err, e.val, ls i⟩ hR hu ua ub uc ht0 ht1
  by_cases hr : e.resp = 0
  · rw [stepC_in0 hco hs hxo hr]
    have g1 : (e.resp == 0) = true := by simp [hr]
    obtain ⟨RR, hRR⟩ : ∃ RR, applyM n s st c = RR := ⟨_, rfl⟩
    rw [hRR] at NA hal ⊢
    obtain ⟨R1, E, V, R3⟩ := RR
    simp only at NA hal ⊢
    have HRL := hide (show R1.length ≤ 10000 by omega)
    have HNA := hide NA
    clear hX hSt hE he hc hce hcc ge3 gc3 gs3 hi2 hci hlst hlN hc0 hc1 hR hu hl hp hs hxo hsl htw hcv hcs hal hal2 NA NL hleg hRR hco hr hBB ua ub uc
    go_enter Tryz.func96, Tryz.ntmps96
    go_wp2_with fail
    go_upto_region 2 with fail
    go_cut [9] (fun v9 wx => v9 = .pointer (some ⟨w.heap.size + 1, 0, none⟩) ∧ Hid (Below w.heap.size w wx) ∧ Hid (wx.heap[w.heap.size]? = some (.cells #[.int .i64 e.call, .int .i64 e.inv, .int .i64 e.resp, .int .i64 e.steps, .int .i64 e.err, .int .u64 e.val, .slice e.lA e.lN e.lC, .slice e.kA e.kN e.kC] 62 (0, 0))) ∧ Hid (wx.heap[w.heap.size + 1]? = some (.cells #[.int .i64 c.thread, .int .i64 c.obj, .int .i64 c.kind, .int .u64 c.a, .int .u64 c.b, .int .u64 c.c] 27 (0, 0))))
    case first =>
      obtain ⟨W, hW⟩ : ∃ W, W = w.alloc (.cells #[.int .i64 e.call, .int .i64 e.inv, .int .i64 e.resp, .int .i64 e.steps, .int .i64 e.err, .int .u64 e.val, .slice e.lA e.lN e.lC, .slice e.kA e.kN e.kC] 62) := ⟨_, rfl⟩
      have hBW : Below w.heap.size w W := by rw [hW]; exact (Below.refl _ _).alloc (Nat.le_refl _) _
      have hzW : W.heap.size = w.heap.size + 1 := by rw [hW]; simp
      have HEW : Hid (W.heap[w.heap.size]? = some (.cells #[.int .i64 e.call, .int .i64 e.inv, .int .i64 e.resp, .int .i64 e.steps, .int .i64 e.err, .int .u64 e.val, .slice e.lA e.lN e.lC, .slice e.kA e.kN e.kC] 62 (0, 0))) := hide (by rw [hW]; exact heap_alloc_new _ _)
      obtain ⟨e0, e1, e2, e3, e4, e5, e6, e7, ez⟩ := cells8e HEW.out
      rw [HI2.out] at e0
      replace a2 := (hBW.cell (p := ⟨b, 2, none⟩) bz0).trans a2
      replace x0 := (hBW.cell (p := ⟨gc, oc + i2 * 6, none⟩) gcz0).trans x0
      replace x1 := (hBW.cell (p := ⟨gc, oc + i2 * 6 + 1, none⟩) gcz0).trans x1
      replace x2 := (hBW.cell (p := ⟨gc, oc + i2 * 6 + 2, none⟩) gcz0).trans x2
      replace x3 := (hBW.cell (p := ⟨gc, oc + i2 * 6 + 3, none⟩) gcz0).trans x3
      replace x4 := (hBW.cell (p := ⟨gc, oc + i2 * 6 + 4, none⟩) gcz0).trans x4
      replace x5 := (hBW.cell (p := ⟨gc, oc + i2 * 6 + 5, none⟩) gcz0).trans x5
      have bz : b < W.heap.size := by omega
      have gcz : gc < W.heap.size := by omega
      have HBW := hide hBW
      rw [← hW]
      clear hW hBW
      refine wp_region_seq (Below W.heap.size W) (.take 0 <| .take 1 <| .take 2 <| .take 3 <| .take 4 <| .take 5 <| .take 6 <| .take 7 <| .run 8 <| .run 9 <| .done) (by kernel_rfl) (by kernel_rfl) (by kernel_rfl) (by (repeat' (first | with_reducible assumption | with_reducible exact Below.refl _ _ | with_reducible refine Below.drew ?_ | with_reducible refine below_drewN ?_ _ | with_reducible refine Below.alloc ?_ ?_ _ | with_reducible refine Below.setCell ?_ ?_ _ | omega | (simp; done) | (simp; omega)))) ?_
      iterate 8 (refine seq_take (v := ?_) rfl (by rfl) ?_ ?_; rotate_left; (focus (intro wS hS; have z2 := (hS.cell (p := ⟨b, 2, none⟩) bz).trans a2; have y0 := (hS.cell (p := ⟨w.heap.size, 0, none⟩) ez).trans e0; have k0 := (hS.cell (p := ⟨gc, oc + i2 * 6, none⟩) gcz).trans x0; have k1 := (hS.cell (p := ⟨gc, oc + i2 * 6 + 1, none⟩) gcz).trans x1; have k2 := (hS.cell (p := ⟨gc, oc + i2 * 6 + 2, none⟩) gcz).trans x2; have k3 := (hS.cell (p := ⟨gc, oc + i2 * 6 + 3, none⟩) gcz).trans x3; have k4 := (hS.cell (p := ⟨gc, oc + i2 * 6 + 4, none⟩) gcz).trans x4; have k5 := (hS.cell (p := ⟨gc, oc + i2 * 6 + 5, none⟩) gcz).trans x5; go_simp; exact rfl)); simp only [Act.put, List.setIfInBounds_toArray, List.set_cons_zero, List.set_cons_succ])
      refine seq_run rfl (by rfl) (fun K hK => ?_)
      go_simp
      refine hK _ _ (by (repeat' (first | with_reducible assumption | with_reducible exact Below.refl _ _ | with_reducible refine Below.drew ?_ | with_reducible refine below_drewN ?_ _ | with_reducible refine Below.alloc ?_ ?_ _ | with_reducible refine Below.setCell ?_ ?_ _ | omega | (simp; done) | (simp; omega)))) ?_
      clear hK K
      refine seq_run rfl (by rfl) (fun K hK => ?_)
      go_simp
      refine hK _ _ (by (repeat' (first | with_reducible assumption | with_reducible exact Below.refl _ _ | with_reducible refine Below.drew ?_ | with_reducible refine below_drewN ?_ _ | with_reducible refine Below.alloc ?_ ?_ _ | with_reducible refine Below.setCell ?_ ?_ _ | omega | (simp; done) | (simp; omega)))) ?_
      clear hK K
      refine seq_nil ?_
      go_wp2
      go_meet
      refine ⟨by first | rfl | rw [hzW], hide ?_, hide ?_, hide ?_⟩
      · exact HBW.out.trans (by have hq : Below W.heap.size W W := Below.refl _ _; exact Below.mono (B := W.heap.size) (by (repeat' (first | with_reducible assumption | with_reducible exact Below.refl _ _ | with_reducible refine Below.drew ?_ | with_reducible refine below_drewN ?_ _ | with_reducible refine Below.alloc ?_ ?_ _ | with_reducible refine Below.setCell ?_ ?_ _ | omega | (simp; done) | (simp; omega)))) (by omega))
      · rw [← HEW.out]
        exact (heap_alloc_old _ _ (by show w.heap.size < W.heap.size; omega)).trans rfl
      · rw [← hzW]
        exact heap_alloc_new _ _
    case rest =>
      obtain ⟨rfl, HBX, HEX, HCX⟩ := hcut
      obtain ⟨X, rfl⟩ : ∃ X, X = wc := ⟨_, rfl⟩
      obtain ⟨e0, e1, e2, e3, e4, e5, e6, e7, ez⟩ := cells8e HEX.out
      obtain ⟨c0, c1, c2, c3, c4, c5, cz⟩ := cells6 HCX.out
      rw [HI2.out] at e0
      have hzx := HBX.out.size
      replace a0 := (HBX.out.cell (p := ⟨b, 0, none⟩) bz1).trans a0
      replace a1 := (HBX.out.cell (p := ⟨b, 1, none⟩) bz1).trans a1
      replace a2 := (HBX.out.cell (p := ⟨b, 2, none⟩) bz1).trans a2
      replace a3 := (HBX.out.cell (p := ⟨b, 3, none⟩) bz1).trans a3
      have bz : b < X.heap.size := by omega
      clear x0 x1 x2 x3 x4 x5 u0 u1 u2 u3 u4 u5 u6 u7
      have gsz1 : gs < X.heap.size := by omega
      have gvz1 : gv < X.heap.size := by omega
      replace s0 := (HBX.out.cell (p := ⟨gs, os + o * 3, none⟩) gsz0).trans s0
      replace s1 := (HBX.out.cell (p := ⟨gs, os + o * 3 + 1, none⟩) gsz0).trans s1
      replace s2 := (HBX.out.cell (p := ⟨gs, os + o * 3 + 2, none⟩) gsz0).trans s2
      replace r0 := (HBX.out.cell (p := ⟨gv, o, none⟩) gvz).trans r0
      rw [HCO.out] at c1
      go_upto_region 3 with fail
      go_cut [41] (fun v41 wx => v41 = .bool false ∧ Hid (Below X.heap.size X wx))
      case first =>
        have d0 : decide ((o : Int) < 0) = false := by simp
        have d1 : decide ((specs.length : Int) ≤ (o : Int)) = false := by simp; omega
        have d2 : decide (specs.length ≤ o) = false := by simp; omega
        refine wp_region_seq (Below X.heap.size X) (.take 0 <| .take 1 <| .take 2 <| .take 3 <| .take 4 <| .take 5 <| .take 6 <| .take 7 <| .take 8 <| .take 9 <| .take 10 <| .take 11 <| .take 12 <| .done) (by kernel_rfl) (by kernel_rfl) (by kernel_rfl) (by (repeat' (first | with_reducible assumption | with_reducible exact Below.refl _ _ | with_reducible refine Below.drew ?_ | with_reducible refine below_drewN ?_ _ | with_reducible refine Below.alloc ?_ ?_ _ | with_reducible refine Below.setCell ?_ ?_ _ | omega | (simp; done) | (simp; omega)))) ?_
        repeat (first | (refine seq_take (v := ?_) rfl (by rfl) ?_ ?_; rotate_left; (focus (intro wS hS; have z1 := (hS.cell (p := ⟨b, 1, none⟩) bz).trans a1; have y1 := (hS.cell (p := ⟨w.heap.size + 1, 1, none⟩) cz).trans c1; go_simp; exact rfl)); simp only [Act.put, List.setIfInBounds_toArray, List.set_cons_zero, List.set_cons_succ]) | (refine seq_skip rfl (by rfl) ?_; simp only [Act.put, List.setIfInBounds_toArray, List.set_cons_zero, List.set_cons_succ]))
        refine seq_nil ?_
        go_wp2
        go_meet
        exact ⟨rfl, hide (by (repeat' (first | with_reducible assumption | with_reducible exact Below.refl _ _ | with_reducible refine Below.drew ?_ | with_reducible refine below_drewN ?_ _ | with_reducible refine Below.alloc ?_ ?_ _ | with_reducible refine Below.setCell ?_ ?_ _ | omega | (simp; done) | (simp; omega))))⟩
      obtain ⟨rfl, HBV⟩ := hcut
      obtain ⟨Y, rfl⟩ : ∃ Y, Y = wc := ⟨_, rfl⟩
      have hzy := HBV.out.size
      have hBY := HBV.out
      have HBY : Hid (Below w.heap.size w Y) := hide (HBX.out.trans (HBV.out.mono (by omega)))
      replace s0 := (hBY.cell (p := ⟨gs, os + o * 3, none⟩) gsz1).trans s0
      replace s1 := (hBY.cell (p := ⟨gs, os + o * 3 + 1, none⟩) gsz1).trans s1
      replace s2 := (hBY.cell (p := ⟨gs, os + o * 3 + 2, none⟩) gsz1).trans s2
      replace r0 := (hBY.cell (p := ⟨gv, o, none⟩) gvz1).trans r0
      replace a0 := (hBY.cell (p := ⟨b, 0, none⟩) bz).trans a0
      replace a1 := (hBY.cell (p := ⟨b, 1, none⟩) bz).trans a1
      replace c0 := (hBY.cell (p := ⟨w.heap.size + 1, 0, none⟩) cz).trans c0
      replace c1 := (hBY.cell (p := ⟨w.heap.size + 1, 1, none⟩) cz).trans c1
      replace c2 := (hBY.cell (p := ⟨w.heap.size + 1, 2, none⟩) cz).trans c2
      replace c3 := (hBY.cell (p := ⟨w.heap.size + 1, 3, none⟩) cz).trans c3
      replace c4 := (hBY.cell (p := ⟨w.heap.size + 1, 4, none⟩) cz).trans c4
      replace c5 := (hBY.cell (p := ⟨w.heap.size + 1, 5, none⟩) cz).trans c5
      replace e2 := (hBY.cell (p := ⟨w.heap.size, 2, none⟩) ez).trans e2
      replace e4 := (hBY.cell (p := ⟨w.heap.size, 4, none⟩) ez).trans e4
      replace e5 := (hBY.cell (p := ⟨w.heap.size, 5, none⟩) ez).trans e5
      replace e6 := (hBY.cell (p := ⟨w.heap.size, 6, none⟩) ez).trans e6
      replace bz : b < Y.heap.size := by omega
      replace cz : w.heap.size + 1 < Y.heap.size := by omega
      replace ez : w.heap.size < Y.heap.size := by omega
      have gsz : gs < Y.heap.size := by omega
      clear HBV
      go_wp2_with fail
      refine wp_region_seq (Below Y.heap.size Y) (.take 0 <| .take 1 <| .take 2 <| .take 3 <| .take 4 <| .take 5 <| .take 6 <| .take 7 <| .take 8 <| .take 9 <| .take 10 <| .take 11 <| .take 12 <| .take 13 <| .run 14 <| .take 15 <| .take 16 <| .take 17 <| .take 18 <| .done) (by kernel_rfl) (by kernel_rfl) (by kernel_rfl) (by (repeat' (first | with_reducible assumption | with_reducible exact Below.refl _ _ | with_reducible refine Below.drew ?_ | with_reducible refine below_drewN ?_ _ | with_reducible refine Below.alloc ?_ ?_ _ | with_reducible refine Below.setCell ?_ ?_ _ | omega | (simp; done) | (simp; omega)))) ?_
      iterate 14 (refine seq_take (v := ?_) rfl (by rfl) ?_ ?_; rotate_left; (focus (intro wS hS; have z0 := (hS.cell (p := ⟨b, 0, none⟩) bz).trans a0; have z1 := (hS.cell (p := ⟨b, 1, none⟩) bz).trans a1; have y0 := (hS.cell (p := ⟨w.heap.size + 1, 0, none⟩) cz).trans c0; have y1 := (hS.cell (p := ⟨w.heap.size + 1, 1, none⟩) cz).trans c1; have y2 := (hS.cell (p := ⟨w.heap.size + 1, 2, none⟩) cz).trans c2; have y3 := (hS.cell (p := ⟨w.heap.size + 1, 3, none⟩) cz).trans c3; have y4 := (hS.cell (p := ⟨w.heap.size + 1, 4, none⟩) cz).trans c4; have y5 := (hS.cell (p := ⟨w.heap.size + 1, 5, none⟩) cz).trans c5; have k0 := (hS.cell (p := ⟨gs, os + o * 3, none⟩) gsz).trans s0; have k1 := (hS.cell (p := ⟨gs, os + o * 3 + 1, none⟩) gsz).trans s1; have k2 := (hS.cell (p := ⟨gs, os + o * 3 + 2, none⟩) gsz).trans s2; have m4 := (hS.cell (p := ⟨w.heap.size, 4, none⟩) ez).trans e4; have m5 := (hS.cell (p := ⟨w.heap.size, 5, none⟩) ez).trans e5; have m6 := (hS.cell (p := ⟨w.heap.size, 6, none⟩) ez).trans e6; go_simp; exact rfl)); simp only [Act.put, List.setIfInBounds_toArray, List.set_cons_zero, List.set_cons_succ])
      refine seq_run rfl (by rfl) (fun K hK => ?_)
      go_simp
      (with_reducible refine (HNA.out _ ?_).mono ?_)
      · exact HSL.out.below (by have hq := HBY.out; (repeat' (first | with_reducible assumption | with_reducible exact Below.refl _ _ | with_reducible refine Below.drew ?_ | with_reducible refine below_drewN ?_ _ | with_reducible refine Below.alloc ?_ ?_ _ | with_reducible refine Below.setCell ?_ ?_ _ | omega | (simp; done) | (simp; omega)))) (Nat.le_refl _)
      rintro e3' w3 ⟨v5, L5, rfl, hO5, hL5, hb3⟩
      obtain ⟨A5, c5', rfl⟩ := own_slice hO5
      have hB3 : Below Y.heap.size Y w3 := Below.trans (by (repeat' (first | with_reducible assumption | with_reducible exact Below.refl _ _ | with_reducible refine Below.drew ?_ | with_reducible refine below_drewN ?_ _ | with_reducible refine Below.alloc ?_ ?_ _ | with_reducible refine Below.setCell ?_ ?_ _ | omega | (simp; done) | (simp; omega)))) (hb3.mono (by simp))
      refine hK _ _ hB3 ?_
      clear hK K hL5 hb3
      iterate 4 (refine seq_take (v := ?_) rfl (by rfl) ?_ ?_; rotate_left; (focus (intro wS hS; have z0 := (hS.cell (p := ⟨b, 0, none⟩) bz).trans a0; have z1 := (hS.cell (p := ⟨b, 1, none⟩) bz).trans a1; have y0 := (hS.cell (p := ⟨w.heap.size + 1, 0, none⟩) cz).trans c0; have y1 := (hS.cell (p := ⟨w.heap.size + 1, 1, none⟩) cz).trans c1; have y2 := (hS.cell (p := ⟨w.heap.size + 1, 2, none⟩) cz).trans c2; have y3 := (hS.cell (p := ⟨w.heap.size + 1, 3, none⟩) cz).trans c3; have y4 := (hS.cell (p := ⟨w.heap.size + 1, 4, none⟩) cz).trans c4; have y5 := (hS.cell (p := ⟨w.heap.size + 1, 5, none⟩) cz).trans c5; have k0 := (hS.cell (p := ⟨gs, os + o * 3, none⟩) gsz).trans s0; have k1 := (hS.cell (p := ⟨gs, os + o * 3 + 1, none⟩) gsz).trans s1; have k2 := (hS.cell (p := ⟨gs, os + o * 3 + 2, none⟩) gsz).trans s2; have m4 := (hS.cell (p := ⟨w.heap.size, 4, none⟩) ez).trans e4; have m5 := (hS.cell (p := ⟨w.heap.size, 5, none⟩) ez).trans e5; have m6 := (hS.cell (p := ⟨w.heap.size, 6, none⟩) ez).trans e6; go_simp; exact rfl)); simp only [Act.put, List.setIfInBounds_toArray, List.set_cons_zero, List.set_cons_succ])
      refine seq_nil ?_
      have hz3 := hB3.size
      replace c1 := (hB3.cell (p := ⟨w.heap.size + 1, 1, none⟩) cz).trans c1
      have HB3 : Hid (Below w.heap.size w w3) := hide (HBX.out.trans (hBY.trans (hB3.mono (by omega)) |>.mono (by omega)))
      have HO3 := hide hO5
      have HST3 := hide (ob_below HST.out HB3.out)
      have cz3 : w.heap.size + 1 < w3.heap.size := by omega
      clear a0 a1 a2 a3 c0 c2 c3 c4 c5 e0 e1 e2 e3 e4 e5 e6 e7 s0 s1 s2 r0 hB3 hO5 hBY
      go_wp2_with fail
      refine (stclone_any _ B ps w3 HST3.out hpl).mono ?_
      rintro e4 w4 ⟨v4, rfl, hS4, hb4⟩
      obtain ⟨g4, cap4, rfl, _, g4z, _, hc4, _⟩ := ob_get stEn_len hS4 HP.out
      have r4 := hc4 0 _ rfl
      simp only [Nat.mul_one, Nat.add_zero] at r4
      have f4 := World.ownsRow.frozenAt hS4.1 o
      replace c1 := (hb4.cell (p := ⟨w.heap.size + 1, 1, none⟩) cz3).trans c1
      have HS4 := hide hS4
      have HB4 := hide (HB3.out.trans (hb4.mono HB3.out.size))
      have HO4 := hide (owns_keepB HO3.out (Keep.of_below (K := fun j => j < w3.heap.size) hb4 (fun k h => h)) (fun j _ hl => hl))
      clear hc4 hS4 hb4
      go_wp2
      go_ret2
      refine ⟨_, ps.set o (R1, A5, c5'), rfl, ?_, ?_, ?_⟩
      · show StRow _ B (.slice (some ⟨g4, 0, none⟩) ps.length cap4) (ps.set o (R1, A5, c5'))
        exact ob_mono (st_set HS4.out (wrow_sl (show WRow w4 _ _ R1 from HO4.out) (by show R1.length ≤ _; have := HRL.out; unfold maxLen; omega)) (tw_own HO4.out) rfl) (Nat.le_trans HBB.out HB3.out.size)
      · rw [List.map_set]
      · have hq := HB4.out
        have := HB3.out.size
        (repeat' (first | with_reducible assumption | with_reducible exact Below.refl _ _ | with_reducible refine Below.drew ?_ | with_reducible refine below_drewN ?_ _ | with_reducible refine Below.alloc ?_ ?_ _ | with_reducible refine Below.setCell ?_ ?_ _ | omega | (simp; done) | (simp; omega)))
  · rw [stepC_in1 hco hs hxo hr]
    have g1 : (e.resp == 0) = false := by simp [hr]
    obtain ⟨RR, hRR⟩ : ∃ RR, legalM n s st c ⟨e.err, e.val, ls i⟩ = RR := ⟨_, rfl⟩
    rw [hRR] at NL hleg ⊢
    obtain ⟨R1, ok⟩ := RR
    simp only at NL hleg ⊢
    have HRL := hide (show R1.length ≤ 10000 by omega)
    have HNL := hide NL
    clear hX hSt hE he hc hce hcc ge3 gc3 gs3 hi2 hci hlst hlN hc0 hc1 hR hu hl hp hs hxo hsl htw hcv hcs hal hal2 NA NL hleg hRR hco hr hBB ua ub uc
    go_enter Tryz.func96, Tryz.ntmps96
    go_wp2_with fail
    go_upto_region 2 with fail
    go_cut [9] (fun v9 wx => v9 = .pointer (some ⟨w.heap.size + 1, 0, none⟩) ∧ Hid (Below w.heap.size w wx) ∧ Hid (wx.heap[w.heap.size]? = some (.cells #[.int .i64 e.call, .int .i64 e.inv, .int .i64 e.resp, .int .i64 e.steps, .int .i64 e.err, .int .u64 e.val, .slice e.lA e.lN e.lC, .slice e.kA e.kN e.kC] 62 (0, 0))) ∧ Hid (wx.heap[w.heap.size + 1]? = some (.cells #[.int .i64 c.thread, .int .i64 c.obj, .int .i64 c.kind, .int .u64 c.a, .int .u64 c.b, .int .u64 c.c] 27 (0, 0))))
    case first =>
      obtain ⟨W, hW⟩ : ∃ W, W = w.alloc (.cells #[.int .i64 e.call, .int .i64 e.inv, .int .i64 e.resp, .int .i64 e.steps, .int .i64 e.err, .int .u64 e.val, .slice e.lA e.lN e.lC, .slice e.kA e.kN e.kC] 62) := ⟨_, rfl⟩
      have hBW : Below w.heap.size w W := by rw [hW]; exact (Below.refl _ _).alloc (Nat.le_refl _) _
      have hzW : W.heap.size = w.heap.size + 1 := by rw [hW]; simp
      have HEW : Hid (W.heap[w.heap.size]? = some (.cells #[.int .i64 e.call, .int .i64 e.inv, .int .i64 e.resp, .int .i64 e.steps, .int .i64 e.err, .int .u64 e.val, .slice e.lA e.lN e.lC, .slice e.kA e.kN e.kC] 62 (0, 0))) := hide (by rw [hW]; exact heap_alloc_new _ _)
      obtain ⟨e0, e1, e2, e3, e4, e5, e6, e7, ez⟩ := cells8e HEW.out
      rw [HI2.out] at e0
      replace a2 := (hBW.cell (p := ⟨b, 2, none⟩) bz0).trans a2
      replace x0 := (hBW.cell (p := ⟨gc, oc + i2 * 6, none⟩) gcz0).trans x0
      replace x1 := (hBW.cell (p := ⟨gc, oc + i2 * 6 + 1, none⟩) gcz0).trans x1
      replace x2 := (hBW.cell (p := ⟨gc, oc + i2 * 6 + 2, none⟩) gcz0).trans x2
      replace x3 := (hBW.cell (p := ⟨gc, oc + i2 * 6 + 3, none⟩) gcz0).trans x3
      replace x4 := (hBW.cell (p := ⟨gc, oc + i2 * 6 + 4, none⟩) gcz0).trans x4
      replace x5 := (hBW.cell (p := ⟨gc, oc + i2 * 6 + 5, none⟩) gcz0).trans x5
      have bz : b < W.heap.size := by omega
      have gcz : gc < W.heap.size := by omega
      have HBW := hide hBW
      rw [← hW]
      clear hW hBW
      refine wp_region_seq (Below W.heap.size W) (.take 0 <| .take 1 <| .take 2 <| .take 3 <| .take 4 <| .take 5 <| .take 6 <| .take 7 <| .run 8 <| .run 9 <| .done) (by kernel_rfl) (by kernel_rfl) (by kernel_rfl) (by (repeat' (first | with_reducible assumption | with_reducible exact Below.refl _ _ | with_reducible refine Below.drew ?_ | with_reducible refine below_drewN ?_ _ | with_reducible refine Below.alloc ?_ ?_ _ | with_reducible refine Below.setCell ?_ ?_ _ | omega | (simp; done) | (simp; omega)))) ?_
      iterate 8 (refine seq_take (v := ?_) rfl (by rfl) ?_ ?_; rotate_left; (focus (intro wS hS; have z2 := (hS.cell (p := ⟨b, 2, none⟩) bz).trans a2; have y0 := (hS.cell (p := ⟨w.heap.size, 0, none⟩) ez).trans e0; have k0 := (hS.cell (p := ⟨gc, oc + i2 * 6, none⟩) gcz).trans x0; have k1 := (hS.cell (p := ⟨gc, oc + i2 * 6 + 1, none⟩) gcz).trans x1; have k2 := (hS.cell (p := ⟨gc, oc + i2 * 6 + 2, none⟩) gcz).trans x2; have k3 := (hS.cell (p := ⟨gc, oc + i2 * 6 + 3, none⟩) gcz).trans x3; have k4 := (hS.cell (p := ⟨gc, oc + i2 * 6 + 4, none⟩) gcz).trans x4; have k5 := (hS.cell (p := ⟨gc, oc + i2 * 6 + 5, none⟩) gcz).trans x5; go_simp; exact rfl)); simp only [Act.put, List.setIfInBounds_toArray, List.set_cons_zero, List.set_cons_succ])
      refine seq_run rfl (by rfl) (fun K hK => ?_)
      go_simp
      refine hK _ _ (by (repeat' (first | with_reducible assumption | with_reducible exact Below.refl _ _ | with_reducible refine Below.drew ?_ | with_reducible refine below_drewN ?_ _ | with_reducible refine Below.alloc ?_ ?_ _ | with_reducible refine Below.setCell ?_ ?_ _ | omega | (simp; done) | (simp; omega)))) ?_
      clear hK K
      refine seq_run rfl (by rfl) (fun K hK => ?_)
      go_simp
      refine hK _ _ (by (repeat' (first | with_reducible assumption | with_reducible exact Below.refl _ _ | with_reducible refine Below.drew ?_ | with_reducible refine below_drewN ?_ _ | with_reducible refine Below.alloc ?_ ?_ _ | with_reducible refine Below.setCell ?_ ?_ _ | omega | (simp; done) | (simp; omega)))) ?_
      clear hK K
      refine seq_nil ?_
      go_wp2
      go_meet
      refine ⟨by first | rfl | rw [hzW], hide ?_, hide ?_, hide ?_⟩
      · exact HBW.out.trans (by have hq : Below W.heap.size W W := Below.refl _ _; exact Below.mono (B := W.heap.size) (by (repeat' (first | with_reducible assumption | with_reducible exact Below.refl _ _ | with_reducible refine Below.drew ?_ | with_reducible refine below_drewN ?_ _ | with_reducible refine Below.alloc ?_ ?_ _ | with_reducible refine Below.setCell ?_ ?_ _ | omega | (simp; done) | (simp; omega)))) (by omega))
      · rw [← HEW.out]
        exact (heap_alloc_old _ _ (by show w.heap.size < W.heap.size; omega)).trans rfl
      · rw [← hzW]
        exact heap_alloc_new _ _
    case rest =>
      obtain ⟨rfl, HBX, HEX, HCX⟩ := hcut
      obtain ⟨X, rfl⟩ : ∃ X, X = wc := ⟨_, rfl⟩
      obtain ⟨e0, e1, e2, e3, e4, e5, e6, e7, ez⟩ := cells8e HEX.out
      obtain ⟨c0, c1, c2, c3, c4, c5, cz⟩ := cells6 HCX.out
      rw [HI2.out] at e0
      have hzx := HBX.out.size
      replace a0 := (HBX.out.cell (p := ⟨b, 0, none⟩) bz1).trans a0
      replace a1 := (HBX.out.cell (p := ⟨b, 1, none⟩) bz1).trans a1
      replace a2 := (HBX.out.cell (p := ⟨b, 2, none⟩) bz1).trans a2
      replace a3 := (HBX.out.cell (p := ⟨b, 3, none⟩) bz1).trans a3
      have bz : b < X.heap.size := by omega
      clear x0 x1 x2 x3 x4 x5 u0 u1 u2 u3 u4 u5 u6 u7
      have gsz1 : gs < X.heap.size := by omega
      have gvz1 : gv < X.heap.size := by omega
      replace s0 := (HBX.out.cell (p := ⟨gs, os + o * 3, none⟩) gsz0).trans s0
      replace s1 := (HBX.out.cell (p := ⟨gs, os + o * 3 + 1, none⟩) gsz0).trans s1
      replace s2 := (HBX.out.cell (p := ⟨gs, os + o * 3 + 2, none⟩) gsz0).trans s2
      replace r0 := (HBX.out.cell (p := ⟨gv, o, none⟩) gvz).trans r0
      rw [HCO.out] at c1
      go_upto_region 3 with fail
      go_cut [41] (fun v41 wx => v41 = .bool false ∧ Hid (Below X.heap.size X wx))
      case first =>
        have d0 : decide ((o : Int) < 0) = false := by simp
        have d1 : decide ((specs.length : Int) ≤ (o : Int)) = false := by simp; omega
        have d2 : decide (specs.length ≤ o) = false := by simp; omega
        refine wp_region_seq (Below X.heap.size X) (.take 0 <| .take 1 <| .take 2 <| .take 3 <| .take 4 <| .take 5 <| .take 6 <| .take 7 <| .take 8 <| .take 9 <| .take 10 <| .take 11 <| .take 12 <| .done) (by kernel_rfl) (by kernel_rfl) (by kernel_rfl) (by (repeat' (first | with_reducible assumption | with_reducible exact Below.refl _ _ | with_reducible refine Below.drew ?_ | with_reducible refine below_drewN ?_ _ | with_reducible refine Below.alloc ?_ ?_ _ | with_reducible refine Below.setCell ?_ ?_ _ | omega | (simp; done) | (simp; omega)))) ?_
        repeat (first | (refine seq_take (v := ?_) rfl (by rfl) ?_ ?_; rotate_left; (focus (intro wS hS; have z1 := (hS.cell (p := ⟨b, 1, none⟩) bz).trans a1; have y1 := (hS.cell (p := ⟨w.heap.size + 1, 1, none⟩) cz).trans c1; go_simp; exact rfl)); simp only [Act.put, List.setIfInBounds_toArray, List.set_cons_zero, List.set_cons_succ]) | (refine seq_skip rfl (by rfl) ?_; simp only [Act.put, List.setIfInBounds_toArray, List.set_cons_zero, List.set_cons_succ]))
        refine seq_nil ?_
        go_wp2
        go_meet
        exact ⟨rfl, hide (by (repeat' (first | with_reducible assumption | with_reducible exact Below.refl _ _ | with_reducible refine Below.drew ?_ | with_reducible refine below_drewN ?_ _ | with_reducible refine Below.alloc ?_ ?_ _ | with_reducible refine Below.setCell ?_ ?_ _ | omega | (simp; done) | (simp; omega))))⟩
      obtain ⟨rfl, HBV⟩ := hcut
      obtain ⟨Y, rfl⟩ : ∃ Y, Y = wc := ⟨_, rfl⟩
      have hzy := HBV.out.size
      have hBY := HBV.out
      have HBY : Hid (Below w.heap.size w Y) := hide (HBX.out.trans (HBV.out.mono (by omega)))
      replace s0 := (hBY.cell (p := ⟨gs, os + o * 3, none⟩) gsz1).trans s0
      replace s1 := (hBY.cell (p := ⟨gs, os + o * 3 + 1, none⟩) gsz1).trans s1
      replace s2 := (hBY.cell (p := ⟨gs, os + o * 3 + 2, none⟩) gsz1).trans s2
      replace r0 := (hBY.cell (p := ⟨gv, o, none⟩) gvz1).trans r0
      replace a0 := (hBY.cell (p := ⟨b, 0, none⟩) bz).trans a0
      replace a1 := (hBY.cell (p := ⟨b, 1, none⟩) bz).trans a1
      replace c0 := (hBY.cell (p := ⟨w.heap.size + 1, 0, none⟩) cz).trans c0
      replace c1 := (hBY.cell (p := ⟨w.heap.size + 1, 1, none⟩) cz).trans c1
      replace c2 := (hBY.cell (p := ⟨w.heap.size + 1, 2, none⟩) cz).trans c2
      replace c3 := (hBY.cell (p := ⟨w.heap.size + 1, 3, none⟩) cz).trans c3
      replace c4 := (hBY.cell (p := ⟨w.heap.size + 1, 4, none⟩) cz).trans c4
      replace c5 := (hBY.cell (p := ⟨w.heap.size + 1, 5, none⟩) cz).trans c5
      replace e2 := (hBY.cell (p := ⟨w.heap.size, 2, none⟩) ez).trans e2
      replace e4 := (hBY.cell (p := ⟨w.heap.size, 4, none⟩) ez).trans e4
      replace e5 := (hBY.cell (p := ⟨w.heap.size, 5, none⟩) ez).trans e5
      replace e6 := (hBY.cell (p := ⟨w.heap.size, 6, none⟩) ez).trans e6
      replace bz : b < Y.heap.size := by omega
      replace cz : w.heap.size + 1 < Y.heap.size := by omega
      replace ez : w.heap.size < Y.heap.size := by omega
      have gsz : gs < Y.heap.size := by omega
      clear HBV
      go_wp2_with fail
      refine wp_region_seq (Below Y.heap.size Y) (.take 0 <| .take 1 <| .take 2 <| .take 3 <| .take 4 <| .take 5 <| .take 6 <| .take 7 <| .take 8 <| .take 9 <| .take 10 <| .take 11 <| .take 12 <| .take 13 <| .take 14 <| .take 15 <| .run 16 <| .take 17 <| .take 18 <| .take 19 <| .take 20 <| .take 21 <| .done) (by kernel_rfl) (by kernel_rfl) (by kernel_rfl) (by (repeat' (first | with_reducible assumption | with_reducible exact Below.refl _ _ | with_reducible refine Below.drew ?_ | with_reducible refine below_drewN ?_ _ | with_reducible refine Below.alloc ?_ ?_ _ | with_reducible refine Below.setCell ?_ ?_ _ | omega | (simp; done) | (simp; omega)))) ?_
      iterate 16 (refine seq_take (v := ?_) rfl (by rfl) ?_ ?_; rotate_left; (focus (intro wS hS; have z0 := (hS.cell (p := ⟨b, 0, none⟩) bz).trans a0; have z1 := (hS.cell (p := ⟨b, 1, none⟩) bz).trans a1; have y0 := (hS.cell (p := ⟨w.heap.size + 1, 0, none⟩) cz).trans c0; have y1 := (hS.cell (p := ⟨w.heap.size + 1, 1, none⟩) cz).trans c1; have y2 := (hS.cell (p := ⟨w.heap.size + 1, 2, none⟩) cz).trans c2; have y3 := (hS.cell (p := ⟨w.heap.size + 1, 3, none⟩) cz).trans c3; have y4 := (hS.cell (p := ⟨w.heap.size + 1, 4, none⟩) cz).trans c4; have y5 := (hS.cell (p := ⟨w.heap.size + 1, 5, none⟩) cz).trans c5; have k0 := (hS.cell (p := ⟨gs, os + o * 3, none⟩) gsz).trans s0; have k1 := (hS.cell (p := ⟨gs, os + o * 3 + 1, none⟩) gsz).trans s1; have k2 := (hS.cell (p := ⟨gs, os + o * 3 + 2, none⟩) gsz).trans s2; have m4 := (hS.cell (p := ⟨w.heap.size, 4, none⟩) ez).trans e4; have m5 := (hS.cell (p := ⟨w.heap.size, 5, none⟩) ez).trans e5; have m6 := (hS.cell (p := ⟨w.heap.size, 6, none⟩) ez).trans e6; go_simp; exact rfl)); simp only [Act.put, List.setIfInBounds_toArray, List.set_cons_zero, List.set_cons_succ])
      refine seq_run rfl (by rfl) (fun K hK => ?_)
      go_simp
      (with_reducible refine (HNL.out _ ?_ ?_).mono ?_)
      · exact HSL.out.below (by have hq := HBY.out; (repeat' (first | with_reducible assumption | with_reducible exact Below.refl _ _ | with_reducible refine Below.drew ?_ | with_reducible refine below_drewN ?_ _ | with_reducible refine Below.alloc ?_ ?_ _ | with_reducible refine Below.setCell ?_ ?_ _ | omega | (simp; done) | (simp; omega)))) (Nat.le_refl _)
      · exact HLST.out.below (by have hq := HBY.out; (repeat' (first | with_reducible assumption | with_reducible exact Below.refl _ _ | with_reducible refine Below.drew ?_ | with_reducible refine below_drewN ?_ _ | with_reducible refine Below.alloc ?_ ?_ _ | with_reducible refine Below.setCell ?_ ?_ _ | omega | (simp; done) | (simp; omega)))) (Nat.le_refl _)
      rintro e3' w3 ⟨v5, rfl, hO5, hb3⟩
      obtain ⟨A5, c5', rfl⟩ := own_slice hO5
      have hB3 : Below Y.heap.size Y w3 := Below.trans (by (repeat' (first | with_reducible assumption | with_reducible exact Below.refl _ _ | with_reducible refine Below.drew ?_ | with_reducible refine below_drewN ?_ _ | with_reducible refine Below.alloc ?_ ?_ _ | with_reducible refine Below.setCell ?_ ?_ _ | omega | (simp; done) | (simp; omega)))) (hb3.mono (by simp))
      refine hK _ _ hB3 ?_
      clear hK K hb3
      iterate 5 (refine seq_take (v := ?_) rfl (by rfl) ?_ ?_; rotate_left; (focus (intro wS hS; have z0 := (hS.cell (p := ⟨b, 0, none⟩) bz).trans a0; have z1 := (hS.cell (p := ⟨b, 1, none⟩) bz).trans a1; have y0 := (hS.cell (p := ⟨w.heap.size + 1, 0, none⟩) cz).trans c0; have y1 := (hS.cell (p := ⟨w.heap.size + 1, 1, none⟩) cz).trans c1; have y2 := (hS.cell (p := ⟨w.heap.size + 1, 2, none⟩) cz).trans c2; have y3 := (hS.cell (p := ⟨w.heap.size + 1, 3, none⟩) cz).trans c3; have y4 := (hS.cell (p := ⟨w.heap.size + 1, 4, none⟩) cz).trans c4; have y5 := (hS.cell (p := ⟨w.heap.size + 1, 5, none⟩) cz).trans c5; have k0 := (hS.cell (p := ⟨gs, os + o * 3, none⟩) gsz).trans s0; have k1 := (hS.cell (p := ⟨gs, os + o * 3 + 1, none⟩) gsz).trans s1; have k2 := (hS.cell (p := ⟨gs, os + o * 3 + 2, none⟩) gsz).trans s2; have m4 := (hS.cell (p := ⟨w.heap.size, 4, none⟩) ez).trans e4; have m5 := (hS.cell (p := ⟨w.heap.size, 5, none⟩) ez).trans e5; have m6 := (hS.cell (p := ⟨w.heap.size, 6, none⟩) ez).trans e6; go_simp; exact rfl)); simp only [Act.put, List.setIfInBounds_toArray, List.set_cons_zero, List.set_cons_succ])
      refine seq_nil ?_
      have hz3 := hB3.size
      replace c1 := (hB3.cell (p := ⟨w.heap.size + 1, 1, none⟩) cz).trans c1
      have HB3 : Hid (Below w.heap.size w w3) := hide (HBX.out.trans (hBY.trans (hB3.mono (by omega)) |>.mono (by omega)))
      have HO3 := hide hO5
      have HST3 := hide (ob_below HST.out HB3.out)
      have cz3 : w.heap.size + 1 < w3.heap.size := by omega
      clear a0 a1 a2 a3 c0 c2 c3 c4 c5 e0 e1 e2 e3 e4 e5 e6 e7 s0 s1 s2 r0 hB3 hO5 hBY
      go_wp2_with fail
      refine (stclone_any _ B ps w3 HST3.out hpl).mono ?_
      rintro e4 w4 ⟨v4, rfl, hS4, hb4⟩
      obtain ⟨g4, cap4, rfl, _, g4z, _, hc4, _⟩ := ob_get stEn_len hS4 HP.out
      have r4 := hc4 0 _ rfl
      simp only [Nat.mul_one, Nat.add_zero] at r4
      have f4 := World.ownsRow.frozenAt hS4.1 o
      replace c1 := (hb4.cell (p := ⟨w.heap.size + 1, 1, none⟩) cz3).trans c1
      have HS4 := hide hS4
      have HB4 := hide (HB3.out.trans (hb4.mono HB3.out.size))
      have HO4 := hide (owns_keepB HO3.out (Keep.of_below (K := fun j => j < w3.heap.size) hb4 (fun k h => h)) (fun j _ hl => hl))
      clear hc4 hS4 hb4
      go_wp2
      go_ret2
      refine ⟨_, ps.set o (R1, A5, c5'), rfl, ?_, ?_, ?_⟩
      · show StRow _ B (.slice (some ⟨g4, 0, none⟩) ps.length cap4) (ps.set o (R1, A5, c5'))
        exact ob_mono (st_set HS4.out (wrow_sl (show WRow w4 _ _ R1 from HO4.out) (by show R1.length ≤ _; have := HRL.out; unfold maxLen; omega)) (tw_own HO4.out) rfl) (Nat.le_trans HBB.out HB3.out.size)
      · rw [List.map_set]
      · have hq := HB4.out
        have := HB3.out.size
        (repeat' (first | with_reducible assumption | with_reducible exact Below.refl _ _ | with_reducible refine Below.drew ?_ | with_reducible refine below_drewN ?_ _ | with_reducible refine Below.alloc ?_ ?_ _ | with_reducible refine Below.setCell ?_ ?_ _ | omega | (simp; done) | (simp; omega)))
theorem sdo_any (b B i M : Nat) (n : Int) (S C L v : Value) (specs : List Sp) (calls : List Cl) (es : List Ev) (ls : Nat → List Int) (ps : List StP) (w : World) (hX : SsCtx w b n S C L specs calls es ls) (hSt : StRow w B v ps) (hBB : B ≤ w.heap.size) (hE : EvsOk n calls es) (hi : i < es.length) (hO : StOk n specs (ps.map Prod.fst) M) (hM : M ≤ 9000) (hm8 : specs.length ≤ 1000) :
    Calls Tryz.prog 96 #[.pointer (some ⟨b, 0, none⟩), v, .int .i64 (i : Int)] w (SdPost B (stepL n specs calls es ls (ps.map Prod.fst) i) w) := by
  obtain ⟨e, he⟩ : ∃ e, es[i]? = some e := ⟨_, List.getElem?_eq_getElem hi⟩
  obtain ⟨h0, h1⟩ := hE.call i e he
  obtain ⟨c, hc⟩ : ∃ c, calls[e.call.toNat]? = some c := ⟨_, List.getElem?_eq_getElem (by omega)⟩
  by_cases ho : 0 ≤ c.obj ∧ c.obj < specs.length
  · obtain ⟨o, hco⟩ := Int.eq_ofNat_of_zero_le ho.1
    have hpl : ps.length = specs.length := by have := hO.len; simpa using this
    obtain ⟨s, hs⟩ : ∃ s, specs[o]? = some s := ⟨_, List.getElem?_eq_getElem (by omega)⟩
    obtain ⟨p, hp⟩ : ∃ p, ps[o]? = some p := ⟨_, List.getElem?_eq_getElem (by omega)⟩
    obtain ⟨g1, g2, g3⟩ := hO.ok o s p.1 hs (by rw [List.getElem?_map, hp]; rfl)
    exact sdo_in b B i o n S C L v specs calls es ls ps e c s p w hX hSt hBB hE he hc hco hs hp g1 g2 (by omega) (by omega)
  · exact sdo_out b B i n S C L v specs calls es ls ps e c w hX hSt hE he hc ho
end Go.Proofs.YtmiimpmfkjcjlaaGreat
