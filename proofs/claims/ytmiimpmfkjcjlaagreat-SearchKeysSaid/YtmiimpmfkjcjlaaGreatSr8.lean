import Derived.Test.YtmiimpmfkjcjlaaGreatBun24
namespace Go.Proofs.YtmiimpmfkjcjlaaGreat
open Go.RowKit
set_option maxRecDepth 100000 in
set_option maxHeartbeats 4000000 in
theorem scheck43 (b : Nat) (n : Int) (S C L : Value) (specs : List Sp) (calls : List Cl) (es : List Ev) (w : World) (hA : SsAt w b n S C L) (hs : SlSp w S specs) (hc : SlCl w C calls) (hes : SlEv w L es) :
    Calls Tryz.prog 50 #[.pointer (some ⟨b, 0, none⟩)] w fun e w' => e = .returned (.int .i64 (srchE n specs calls es)) ∧ Below w.heap.size w w' := by
  obtain ⟨Ae, ce, rfl, ge1, ge2, ge3⟩ := id hes
  obtain ⟨As, cs, rfl, gs1, gs2, gs3⟩ := id hs
  obtain ⟨Ac, cc, rfl, gc1, gc2, gc3⟩ := id hc
  obtain ⟨a0, a1, a2, a3, bz⟩ := cells4 hA
  have hlen : (es.length : Int) ≤ 9223372036854775807 := by unfold maxLen at ge2; omega
  have hcl63 : (calls.length : Int) ≤ 9223372036854775807 := by unfold maxLen at gc2; omega
  have NL := fun W (h : SlSp W (.slice As specs.length cs) specs) => tlay_any n As specs.length cs specs W h rfl
  unfold LayPost at NL
  obtain ⟨LE, hLE⟩ : ∃ LE, layE n specs = LE := ⟨_, rfl⟩
  rw [hLE] at NL
  have HLE := hide hLE
  clear hLE
  have HNL := hide NL
  have HS := hide hs
  obtain ⟨E, hE⟩ : ∃ E, srchE n specs calls es = E := ⟨_, rfl⟩
  rw [hE]
  have HE := hide hE
  have gsz3 := hide gs3
  clear NL hs hA hes hc hE gs3
  have hbz := bz
  have a0w := a0
  have a2w := a2
  go_enter Tryz.func50, Tryz.ntmps50
  go_wp2_with fail
  refine wp_region_seq (Below w.heap.size w) (.take 0 <| .take 1 <| .take 2 <| .take 3 <| .take 4 <| .take 5 <| .take 6 <| .take 7 <| .run 8 <| .take 9 <| .take 10 <| .take 11 <| .take 12 <| .take 13 <| .take 14 <| .take 15 <| .done) (by kernel_rfl) (by kernel_rfl) (by kernel_rfl) (by (repeat' (first | with_reducible assumption | with_reducible exact Below.refl _ _ | with_reducible refine Below.drew ?_ | with_reducible refine below_drewN ?_ _ | with_reducible refine Below.alloc ?_ ?_ _ | with_reducible refine Below.setCell ?_ ?_ _ | omega | (simp; done) | (simp; omega)))) ?_
  iterate 8 (refine seq_take (v := ?_) rfl (by rfl) ?_ ?_; rotate_left; (focus (intro wS hS; have z0 := (hS.cell (p := ⟨b, 0, none⟩) bz).trans a0; have z1 := (hS.cell (p := ⟨b, 1, none⟩) bz).trans a1; go_simp; exact rfl)); simp only [Act.put, List.setIfInBounds_toArray, List.set_cons_zero, List.set_cons_succ])
  refine seq_run rfl (by rfl) (fun K hK => ?_)
  go_simp
  refine (HNL.out w.drew (HS.out.below ((Below.refl _ _).drew) (Nat.le_refl _))).mono ?_
  rintro e1 w1 ⟨u, rfl, _, hb1⟩
  have hB1 : Below w.heap.size w w1 := (Below.refl _ _).drew.trans hb1
  refine hK _ _ hB1 ?_
  clear hK K hb1
  iterate 7 (refine seq_take (v := ?_) rfl (by rfl) ?_ ?_; rotate_left; (focus (intro wS hS; have z0 := (hS.cell (p := ⟨b, 0, none⟩) bz).trans a0; have z1 := (hS.cell (p := ⟨b, 1, none⟩) bz).trans a1; go_simp; exact rfl)); simp only [Act.put, List.setIfInBounds_toArray, List.set_cons_zero, List.set_cons_succ])
  refine seq_nil ?_
  have HB1 := hide hB1
  by_cases h0 : LE = 0
  · have d0 : (LE != 0) = false := by simp [h0]
    have d0' : (LE == 0) = true := by simp [h0]
    replace a0 := (hB1.cell (p := ⟨b, 0, none⟩) bz).trans a0
    replace a2 := (hB1.cell (p := ⟨b, 2, none⟩) bz).trans a2
    replace a3 := (hB1.cell (p := ⟨b, 3, none⟩) bz).trans a3
    replace bz : b < w1.heap.size := Nat.lt_of_lt_of_le bz hB1.size
    have H0 := hide h0
    clear hB1 a1
    by_cases h6 : 6 < es.length
    · have d6 : decide ((6 : Int) < (es.length : Int)) = true := by simp; omega
      have hr : Hid (3 = E) := hide (by rw [← HE.out]; unfold srchE; rw [HLE.out, if_neg (by simp [h0]), if_pos h6])
      clear h6 h0
      go_wp2
      go_ret
      exact ⟨ret_int hr.out, HB1.out⟩
    · have d6 : decide ((6 : Int) < (es.length : Int)) = false := by simp; omega
      have HNE : Hid (E = if es.all (okEv n calls) = true then 0 else 5) := hide (by rw [← HE.out]; unfold srchE; rw [HLE.out, if_neg (by simp [h0]), if_neg h6])
      clear h6 h0
      go_wp2
      go_loopw [35] (fun i wr => ∃ k : Nat, k ≤ es.length ∧ i = .int .i64 k ∧ Hid (∀ (j : Nat) (e : Ev), j < k → es[j]? = some e → okEv n calls e = true) ∧ Hid (Below w.heap.size w wr)) (fun i _ => es.length - (intOf i).toNat)
      case atStart => exact ⟨0, Nat.zero_le _, rfl, hide (fun j e hj => by omega), HB1⟩
      case round =>
        obtain ⟨k, hk, rfl, hok, hB⟩ := hrel
        have hzr := hB.out.size
        by_cases hlt : k < es.length
        · obtain ⟨e, he⟩ : ∃ e, es[k]? = some e := ⟨_, List.getElem?_eq_getElem hlt⟩
          obtain ⟨g, o, rfl, hg, hce⟩ := ge3 k e he
          obtain ⟨u0, u1, u2, u3, u4, u5, u6, u7⟩ := ev_cells (hce.of_block (w' := wr) (hB.out.block g hg))
          have q0 : (0 : Int) ≤ (k : Int) := by omega
          have q1 : (k : Int) < (es.length : Int) := by omega
          obtain ⟨W, hW⟩ : ∃ W, W = wr.alloc (.cells #[.int .i64 e.call, .int .i64 e.inv, .int .i64 e.resp, .int .i64 e.steps, .int .i64 e.err, .int .u64 e.val, .slice e.lA e.lN e.lC, .slice e.kA e.kN e.kC] 62) := ⟨_, rfl⟩
          have hBW : Below wr.heap.size wr W := by rw [hW]; exact (Below.refl _ _).alloc (Nat.le_refl _) _
          have hzW : W.heap.size = wr.heap.size + 1 := by rw [hW]; simp
          obtain ⟨e0, _, _, _, _, _, _, _, ez⟩ := cells8e (show W.heap[wr.heap.size]? = _ from by rw [hW]; exact heap_alloc_new _ _)
          replace a0 := (hBW.cell (p := ⟨b, 0, none⟩) (Nat.lt_of_lt_of_le hbz hB.out.size)).trans ((hB.out.cell (p := ⟨b, 0, none⟩) hbz).trans a0w)
          replace a2 := (hBW.cell (p := ⟨b, 2, none⟩) (Nat.lt_of_lt_of_le hbz hB.out.size)).trans ((hB.out.cell (p := ⟨b, 2, none⟩) hbz).trans a2w)
          replace bz : b < W.heap.size := Nat.lt_of_lt_of_le (Nat.lt_of_lt_of_le hbz hB.out.size) hBW.size
          have HBW := hide hBW
          have hzr2 : wr.heap.size ≤ W.heap.size := by omega
          clear hBW hce hzW
          by_cases c0 : e.call < 0
          · have g0 : decide (e.call < 0) = true := by simpa using c0
            have hbad : okEv n calls e = false := by
              rcases h : okEv n calls e with _ | _
              · rfl
              · have := (okEv_iff.1 h).1; omega
            clear c0
            have hr : Hid (5 = E) := hide (by rw [HNE.out, okEv_no he hbad]; simp)
            clear he hbad
            go_wp2_with fail
            rw [← hW]
            clear hW
            refine wp_region_seq (Below W.heap.size W) (.take 0 <| .take 1 <| .take 2 <| .take 3 <| .take 4 <| .take 5 <| .take 6 <| .take 7 <| .take 8 <| .take 9 <| .take 10 <| .take 11 <| .take 12 <| .take 13 <| .take 14 <| .take 15 <| .take 16 <| .take 17 <| .take 18 <| .take 19 <| .take 20 <| .take 21 <| .take 22 <| .take 23 <| .take 24 <| .take 25 <| .take 26 <| .take 27 <| .take 28 <| .take 29 <| .take 30 <| .take 31 <| .take 32 <| .take 33 <| .take 34 <| .take 35 <| .take 36 <| .take 37 <| .take 38 <| .take 39 <| .take 40 <| .done) (by kernel_rfl) (by kernel_rfl) (by kernel_rfl) (by (repeat' (first | with_reducible assumption | with_reducible exact Below.refl _ _ | with_reducible refine Below.drew ?_ | with_reducible refine below_drewN ?_ _ | with_reducible refine Below.alloc ?_ ?_ _ | with_reducible refine Below.setCell ?_ ?_ _ | omega | (simp; done) | (simp; omega)))) ?_
            iterate 41 (first | (refine seq_take (v := ?_) rfl (by rfl) ?_ ?_; rotate_left; (focus (intro wS hS; have z0 := (hS.cell (p := ⟨b, 0, none⟩) bz).trans a0; have z2 := (hS.cell (p := ⟨b, 2, none⟩) bz).trans a2; have y0 := (hS.cell (p := ⟨wr.heap.size, 0, none⟩) ez).trans e0; go_simp; exact rfl)); simp only [Act.put, List.setIfInBounds_toArray, List.set_cons_zero, List.set_cons_succ]) | (refine seq_skip rfl (by rfl) ?_; simp only [Act.put, List.setIfInBounds_toArray, List.set_cons_zero, List.set_cons_succ]))
            refine seq_nil ?_
            go_wp2
            go_ret
            refine ⟨ret_int hr.out, ?_⟩
            have hq := HBW.out
            exact (hB.out.trans (hq.mono hzr)).trans (Below.mono (B := W.heap.size) (by (repeat' (first | with_reducible assumption | with_reducible exact Below.refl _ _ | with_reducible refine Below.drew ?_ | with_reducible refine below_drewN ?_ _ | with_reducible refine Below.alloc ?_ ?_ _ | with_reducible refine Below.setCell ?_ ?_ _ | omega | (simp; done) | (simp; omega)))) (by omega))
          · have g0 : decide (e.call < 0) = false := by simpa using c0
            by_cases c1 : (calls.length : Int) ≤ e.call
            · have g1 : decide ((calls.length : Int) ≤ e.call) = true := by simpa using c1
              have hbad : okEv n calls e = false := by
                rcases h : okEv n calls e with _ | _
                · rfl
                · have := (okEv_iff.1 h).1; omega
              clear c0 c1
              have hr : Hid (5 = E) := hide (by rw [HNE.out, okEv_no he hbad]; simp)
              clear he hbad
              go_wp2_with fail
              rw [← hW]
              clear hW
              refine wp_region_seq (Below W.heap.size W) (.take 0 <| .take 1 <| .take 2 <| .take 3 <| .take 4 <| .take 5 <| .take 6 <| .take 7 <| .take 8 <| .take 9 <| .take 10 <| .take 11 <| .take 12 <| .take 13 <| .take 14 <| .take 15 <| .take 16 <| .take 17 <| .take 18 <| .take 19 <| .take 20 <| .take 21 <| .take 22 <| .take 23 <| .take 24 <| .take 25 <| .take 26 <| .take 27 <| .take 28 <| .take 29 <| .take 30 <| .take 31 <| .take 32 <| .take 33 <| .take 34 <| .take 35 <| .take 36 <| .take 37 <| .take 38 <| .take 39 <| .take 40 <| .done) (by kernel_rfl) (by kernel_rfl) (by kernel_rfl) (by (repeat' (first | with_reducible assumption | with_reducible exact Below.refl _ _ | with_reducible refine Below.drew ?_ | with_reducible refine below_drewN ?_ _ | with_reducible refine Below.alloc ?_ ?_ _ | with_reducible refine Below.setCell ?_ ?_ _ | omega | (simp; done) | (simp; omega)))) ?_
              iterate 41 (first | (refine seq_take (v := ?_) rfl (by rfl) ?_ ?_; rotate_left; (focus (intro wS hS; have z0 := (hS.cell (p := ⟨b, 0, none⟩) bz).trans a0; have z2 := (hS.cell (p := ⟨b, 2, none⟩) bz).trans a2; have y0 := (hS.cell (p := ⟨wr.heap.size, 0, none⟩) ez).trans e0; go_simp; exact rfl)); simp only [Act.put, List.setIfInBounds_toArray, List.set_cons_zero, List.set_cons_succ]) | (refine seq_skip rfl (by rfl) ?_; simp only [Act.put, List.setIfInBounds_toArray, List.set_cons_zero, List.set_cons_succ]))
              refine seq_nil ?_
              go_wp2
              go_ret
              refine ⟨ret_int hr.out, ?_⟩
              have hq := HBW.out
              exact (hB.out.trans (hq.mono hzr)).trans (Below.mono (B := W.heap.size) (by (repeat' (first | with_reducible assumption | with_reducible exact Below.refl _ _ | with_reducible refine Below.drew ?_ | with_reducible refine below_drewN ?_ _ | with_reducible refine Below.alloc ?_ ?_ _ | with_reducible refine Below.setCell ?_ ?_ _ | omega | (simp; done) | (simp; omega)))) (by omega))
            · have g1 : decide ((calls.length : Int) ≤ e.call) = false := by simpa using c1
              obtain ⟨i2, hi2⟩ := Int.eq_ofNat_of_zero_le (show 0 ≤ e.call by omega)
              obtain ⟨c, hc⟩ : ∃ c, calls[i2]? = some c := ⟨_, List.getElem?_eq_getElem (by omega)⟩
              obtain ⟨gc, oc, rfl, gcz0, hcc⟩ := gc3 i2 c hc
              have x0 := (cl_cells hcc).1
              replace x0 := (HBW.out.cell (p := ⟨gc, oc + i2 * 6, none⟩) (Nat.lt_of_lt_of_le gcz0 hB.out.size)).trans ((hB.out.cell (p := ⟨gc, oc + i2 * 6, none⟩) gcz0).trans x0)
              have gcz : gc < W.heap.size := by have := hB.out.size; omega
              have hct : e.call.toNat = i2 := by omega
              rw [hi2] at e0 u0 g0 g1 hW
              have q2 : (0 : Int) ≤ (i2 : Int) := by omega
              have g1n : decide (calls.length ≤ i2) = false := by simp; omega
              have q3 : (i2 : Int) < (calls.length : Int) := by omega
              have hbd : ∀ (h : ¬ (0 ≤ c.thread ∧ c.thread < n)), okEv n calls e = false := fun h => by
                rcases hk : okEv n calls e with _ | _
                · rfl
                · exact absurd ((okEv_iff.1 hk).2 c (by rw [hct]; exact hc)) h
              have hgd : ∀ (h : 0 ≤ c.thread ∧ c.thread < n), okEv n calls e = true := fun h => okEv_iff.2 ⟨by omega, fun c' hc' => by rw [hct, hc] at hc'; cases hc'; exact h⟩
              clear hcc c0 c1 hct hc
              by_cases t0 : c.thread < 0
              · have g2 : decide (c.thread < 0) = true := by simpa using t0
                have hbad := hbd (by omega)
                clear t0 hbd hgd hi2
                have hr : Hid (5 = E) := hide (by rw [HNE.out, okEv_no he hbad]; simp)
                clear he hbad
                go_wp2_with fail
                rw [← hW]
                clear hW
                refine wp_region_seq (Below W.heap.size W) (.take 0 <| .take 1 <| .take 2 <| .take 3 <| .take 4 <| .take 5 <| .take 6 <| .take 7 <| .take 8 <| .take 9 <| .take 10 <| .take 11 <| .take 12 <| .take 13 <| .take 14 <| .take 15 <| .take 16 <| .take 17 <| .take 18 <| .take 19 <| .take 20 <| .take 21 <| .take 22 <| .take 23 <| .take 24 <| .take 25 <| .take 26 <| .take 27 <| .take 28 <| .take 29 <| .take 30 <| .take 31 <| .take 32 <| .take 33 <| .take 34 <| .take 35 <| .take 36 <| .take 37 <| .take 38 <| .take 39 <| .take 40 <| .done) (by kernel_rfl) (by kernel_rfl) (by kernel_rfl) (by (repeat' (first | with_reducible assumption | with_reducible exact Below.refl _ _ | with_reducible refine Below.drew ?_ | with_reducible refine below_drewN ?_ _ | with_reducible refine Below.alloc ?_ ?_ _ | with_reducible refine Below.setCell ?_ ?_ _ | omega | (simp; done) | (simp; omega)))) ?_
                iterate 41 (first | (refine seq_take (v := ?_) rfl (by rfl) ?_ ?_; rotate_left; (focus (intro wS hS; have z0 := (hS.cell (p := ⟨b, 0, none⟩) bz).trans a0; have z2 := (hS.cell (p := ⟨b, 2, none⟩) bz).trans a2; have y0 := (hS.cell (p := ⟨wr.heap.size, 0, none⟩) ez).trans e0; have k0 := (hS.cell (p := ⟨gc, oc + i2 * 6, none⟩) gcz).trans x0; go_simp; exact rfl)); simp only [Act.put, List.setIfInBounds_toArray, List.set_cons_zero, List.set_cons_succ]) | (refine seq_skip rfl (by rfl) ?_; simp only [Act.put, List.setIfInBounds_toArray, List.set_cons_zero, List.set_cons_succ]))
                refine seq_nil ?_
                go_wp2
                go_ret
                refine ⟨ret_int hr.out, ?_⟩
                have hq := HBW.out
                exact (hB.out.trans (hq.mono hzr)).trans (Below.mono (B := W.heap.size) (by (repeat' (first | with_reducible assumption | with_reducible exact Below.refl _ _ | with_reducible refine Below.drew ?_ | with_reducible refine below_drewN ?_ _ | with_reducible refine Below.alloc ?_ ?_ _ | with_reducible refine Below.setCell ?_ ?_ _ | omega | (simp; done) | (simp; omega)))) (by omega))
              · have g2 : decide (c.thread < 0) = false := by simpa using t0
                by_cases t1 : n ≤ c.thread
                · have g3 : decide (n ≤ c.thread) = true := by simpa using t1
                  have hbad := hbd (by omega)
                  clear t0 t1 hbd hgd hi2
                  have hr : Hid (5 = E) := hide (by rw [HNE.out, okEv_no he hbad]; simp)
                  clear he hbad
                  go_wp2_with fail
                  rw [← hW]
                  clear hW
                  refine wp_region_seq (Below W.heap.size W) (.take 0 <| .take 1 <| .take 2 <| .take 3 <| .take 4 <| .take 5 <| .take 6 <| .take 7 <| .take 8 <| .take 9 <| .take 10 <| .take 11 <| .take 12 <| .take 13 <| .take 14 <| .take 15 <| .take 16 <| .take 17 <| .take 18 <| .take 19 <| .take 20 <| .take 21 <| .take 22 <| .take 23 <| .take 24 <| .take 25 <| .take 26 <| .take 27 <| .take 28 <| .take 29 <| .take 30 <| .take 31 <| .take 32 <| .take 33 <| .take 34 <| .take 35 <| .take 36 <| .take 37 <| .take 38 <| .take 39 <| .take 40 <| .done) (by kernel_rfl) (by kernel_rfl) (by kernel_rfl) (by (repeat' (first | with_reducible assumption | with_reducible exact Below.refl _ _ | with_reducible refine Below.drew ?_ | with_reducible refine below_drewN ?_ _ | with_reducible refine Below.alloc ?_ ?_ _ | with_reducible refine Below.setCell ?_ ?_ _ | omega | (simp; done) | (simp; omega)))) ?_
                  iterate 41 (first | (refine seq_take (v := ?_) rfl (by rfl) ?_ ?_; rotate_left; (focus (intro wS hS; have z0 := (hS.cell (p := ⟨b, 0, none⟩) bz).trans a0; have z2 := (hS.cell (p := ⟨b, 2, none⟩) bz).trans a2; have y0 := (hS.cell (p := ⟨wr.heap.size, 0, none⟩) ez).trans e0; have k0 := (hS.cell (p := ⟨gc, oc + i2 * 6, none⟩) gcz).trans x0; go_simp; exact rfl)); simp only [Act.put, List.setIfInBounds_toArray, List.set_cons_zero, List.set_cons_succ]) | (refine seq_skip rfl (by rfl) ?_; simp only [Act.put, List.setIfInBounds_toArray, List.set_cons_zero, List.set_cons_succ]))
                  refine seq_nil ?_
                  go_wp2
                  go_ret
                  refine ⟨ret_int hr.out, ?_⟩
                  have hq := HBW.out
                  exact (hB.out.trans (hq.mono hzr)).trans (Below.mono (B := W.heap.size) (by (repeat' (first | with_reducible assumption | with_reducible exact Below.refl _ _ | with_reducible refine Below.drew ?_ | with_reducible refine below_drewN ?_ _ | with_reducible refine Below.alloc ?_ ?_ _ | with_reducible refine Below.setCell ?_ ?_ _ | omega | (simp; done) | (simp; omega)))) (by omega))
                · have g3 : decide (n ≤ c.thread) = false := by simpa using t1
                  have hgood := hgd (by omega)
                  have HOK : Hid (∀ (j : Nat) (e : Ev), j < k + 1 → es[j]? = some e → okEv n calls e = true) := hide (fun j e' hj he' => by
                    by_cases hjk : j = k
                    · subst hjk
                      rw [he] at he'
                      cases he'
                      exact hgood
                    · exact hok.out j e' (by omega) he')
                  clear t0 t1 hbd hgd hi2 he hgood
                  go_wp2_with fail
                  rw [← hW]
                  clear hW
                  refine wp_region_seq (Below W.heap.size W) (.take 0 <| .take 1 <| .take 2 <| .take 3 <| .take 4 <| .take 5 <| .take 6 <| .take 7 <| .take 8 <| .take 9 <| .take 10 <| .take 11 <| .take 12 <| .take 13 <| .take 14 <| .take 15 <| .take 16 <| .take 17 <| .take 18 <| .take 19 <| .take 20 <| .take 21 <| .take 22 <| .take 23 <| .take 24 <| .take 25 <| .take 26 <| .take 27 <| .take 28 <| .take 29 <| .take 30 <| .take 31 <| .take 32 <| .take 33 <| .take 34 <| .take 35 <| .take 36 <| .take 37 <| .take 38 <| .take 39 <| .take 40 <| .done) (by kernel_rfl) (by kernel_rfl) (by kernel_rfl) (by (repeat' (first | with_reducible assumption | with_reducible exact Below.refl _ _ | with_reducible refine Below.drew ?_ | with_reducible refine below_drewN ?_ _ | with_reducible refine Below.alloc ?_ ?_ _ | with_reducible refine Below.setCell ?_ ?_ _ | omega | (simp; done) | (simp; omega)))) ?_
                  iterate 41 (first | (refine seq_take (v := ?_) rfl (by rfl) ?_ ?_; rotate_left; (focus (intro wS hS; have z0 := (hS.cell (p := ⟨b, 0, none⟩) bz).trans a0; have z2 := (hS.cell (p := ⟨b, 2, none⟩) bz).trans a2; have y0 := (hS.cell (p := ⟨wr.heap.size, 0, none⟩) ez).trans e0; have k0 := (hS.cell (p := ⟨gc, oc + i2 * 6, none⟩) gcz).trans x0; go_simp; exact rfl)); simp only [Act.put, List.setIfInBounds_toArray, List.set_cons_zero, List.set_cons_succ]) | (refine seq_skip rfl (by rfl) ?_; simp only [Act.put, List.setIfInBounds_toArray, List.set_cons_zero, List.set_cons_succ]))
                  refine seq_nil ?_
                  go_wp2
                  go_roundw
                  case rel =>
                    refine ⟨k + 1, by omega, by go_num, HOK, hide ?_⟩
                    have hq := HBW.out
                    exact (hB.out.trans (hq.mono hzr)).trans (Below.mono (B := W.heap.size) (by (repeat' (first | with_reducible assumption | with_reducible exact Below.refl _ _ | with_reducible refine Below.drew ?_ | with_reducible refine below_drewN ?_ _ | with_reducible refine Below.alloc ?_ ?_ _ | with_reducible refine Below.setCell ?_ ?_ _ | omega | (simp; done) | (simp; omega)))) (by omega))
                  case measure => first | (simp [intOf]; done) | (simp [intOf]; omega)
        · have hr : Hid (0 = E) := hide (by rw [HNE.out, okEv_all (fun j e hj he => hok.out j e (by omega) he)]; simp)
          have d9 : decide ((k : Int) < (es.length : Int)) = false := by simp; omega
          have d8 : decide (k < es.length) = false := by simp; omega
          have hle : es.length ≤ k := by omega
          clear ge3
          go_wp2
          go_ret
          exact ⟨ret_int hr.out, hB.out⟩
  · have d0 : (LE != 0) = true := by simp [h0]
    have d0' : (LE == 0) = false := by simp [h0]
    have hr : Hid (LE = E) := hide (by rw [← HE.out]; unfold srchE; rw [HLE.out, if_pos h0])
    clear h0
    go_wp2
    go_ret
    exact ⟨ret_int hr.out, HB1.out⟩
end Go.Proofs.YtmiimpmfkjcjlaaGreat
