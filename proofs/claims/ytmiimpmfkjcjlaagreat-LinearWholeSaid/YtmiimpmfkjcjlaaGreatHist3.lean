import Derived.Test.YtmiimpmfkjcjlaaGreatBun30
import Derived.Test.YtmiimpmfkjcjlaaGreatBun1
namespace Go.Proofs.YtmiimpmfkjcjlaaGreat
open Go.RowKit
set_option maxHeartbeats 400000 in
theorem refAhead_any (a b : Ev) (w : World) :
    Calls Tryz.prog 99 #[.agg (evEnc a).toArray, .agg (evEnc b).toArray] w fun e w' => e = .returned (.bool (aheadE a b)) ∧ Below w.heap.size w w' := by
  by_cases hr : a.resp = 0
  · have e2 : (a.resp == 0) = true := by simp [hr]
    have e3 : (a.resp != 0) = false := by simp [hr]
    have hfin : Hid (aheadE a b = false) := by show _ = _; unfold aheadE; simp [hr]
    rw [hfin.out]
    clear hr
    unfold evEnc
    go_enter Tryz.func99, Tryz.ntmps99
    go_wp2
    (go_ret; refine ⟨ret_bool (by (first | rfl | (simp; done) | (simp <;> omega) | (simp [*]; done) | (simp [*] <;> omega))), ?_⟩; (repeat' (first | exact Below.refl _ _ | assumption | refine Below.drew ?_ | refine below_drewN ?_ _ | refine Below.alloc ?_ (by simp <;> omega) _ | refine Below.setCell ?_ (by simp <;> omega) _)))
  · have e2 : (a.resp == 0) = false := by simp [hr]
    have e3 : (a.resp != 0) = true := by simp [hr]
    have hfin : Hid (aheadE a b = decide (a.resp < b.inv)) := by show _ = _; unfold aheadE; simp [hr]
    rw [hfin.out]
    clear hr
    unfold evEnc
    go_enter Tryz.func99, Tryz.ntmps99
    go_wp2
    all_goals (go_ret; refine ⟨ret_bool (by (first | rfl | (simp; done) | (simp <;> omega) | (simp [*]; done) | (simp [*] <;> omega))), ?_⟩; (repeat' (first | exact Below.refl _ _ | assumption | refine Below.drew ?_ | refine below_drewN ?_ _ | refine Below.alloc ?_ (by simp <;> omega) _ | refine Below.setCell ?_ (by simp <;> omega) _)))
set_option maxHeartbeats 4000000 in
set_option maxRecDepth 100000 in
theorem refRight_any (n ticks : Int) (vc ve : Value) (cs : List Cl) (es : List Ev) (w : World) (hcs : SlCl w vc cs) (hes : SlEv w ve es) (hwf : ∀ e ∈ es, EvWf e) :
    Calls Tryz.prog 52 #[.int .i64 n, vc, ve, .int .i64 ticks] w fun e w' => e = .returned (.bool (refB n cs es ticks)) ∧ Below w.heap.size w w' := by
  have hes' := hes
  obtain ⟨A, cap, rfl, h1, h2, h3⟩ := hes
  obtain ⟨Ac, capc, rfl, g1, g2, g3⟩ := hcs
  obtain ⟨R, hR⟩ : ∃ R, refB n cs es ticks = R := ⟨_, rfl⟩
  have HR := hide hR
  rw [hR]
  clear hR
  have hlen : (es.length : Int) ≤ 9223372036854775807 := by unfold maxLen at h2; omega
  go_enter Tryz.func52, Tryz.ntmps52
  go_wp2
  go_loopw [15] (fun vk wr => ∃ k : Nat, k ≤ es.length ∧ vk = .int .i64 k ∧ Hid (∀ j, j < k → fstB n cs es ticks j = true) ∧ Below w.heap.size w wr) (fun vk _ => es.length - (intOf vk).toNat)
  case atStart => exact ⟨0, by omega, rfl, hide (fun j hj => by omega), Below.refl _ _⟩
  case round =>
    obtain ⟨k, hk, rfl, hok, hbw⟩ := hrel
    by_cases hlt : k < es.length
    ·
      obtain ⟨e, hee⟩ : ∃ e, es[k]? = some e := ⟨_, List.getElem?_eq_getElem hlt⟩
      obtain ⟨b, o, rfl, hb, hce⟩ := h3 k e hee
      have hce' := hce.of_block (w' := wr) (hbw.block b hb)
      obtain ⟨c0, c1, c2, c3, c4, c5, c6, c7⟩ := ev_cells hce'
      clear hce hce'
      have hmem : e ∈ es := List.mem_of_getElem? hee
      obtain ⟨wf0, wf1, wf2, wf3⟩ := hwf e hmem
      rcases hA : evCall cs e with _ | c
      · have HF : Hid (false = R) := (refB_false1 hlt (fstB_none hee hA)).symm.trans HR.out
        have hc : ¬ (0 ≤ e.call ∧ e.call < cs.length) := by
          intro hc
          obtain ⟨cl, _, hev⟩ := evCall_some hc
          rw [hev] at hA; cases hA
        clear hA hee hok h3 g3 HR wf0 wf1 wf2 wf3
        go_wp2
        all_goals first | (exfalso; omega) | (go_ret; exact ⟨ret_bool HF.out, (by first | exact hbw.alloc hbw.size _ | exact below_drewN (hbw.alloc hbw.size _) _)⟩)
      · have hc : 0 ≤ e.call ∧ e.call < cs.length := by
          by_cases hc : 0 ≤ e.call ∧ e.call < cs.length
          · exact hc
          · rw [evCall_none hc] at hA; cases hA
        obtain ⟨cl, hcl, hev⟩ := evCall_some hc
        obtain rfl : cl = c := by rw [hev] at hA; exact Option.some.inj hA
        obtain ⟨hc0, hc1⟩ := hc
        obtain ⟨bc, oc, rfl, hbc, hcc⟩ := g3 _ _ hcl
        have d0 := (cl_cells (hcc.of_block (w' := wr) (hbw.block bc hbc))).1
        have hbc' : bc < wr.heap.size := Nat.lt_of_lt_of_le hbc hbw.size
        have hbr : b < wr.heap.size := Nat.lt_of_lt_of_le hb hbw.size
        have hf := fstB_eq (n := n) (ticks := ticks) hee hA
        clear hcc hev hcl g3 hA
        by_cases hT : 0 ≤ cl.thread ∧ cl.thread < n
        · obtain ⟨hT0, hT1⟩ := hT
          have hf' : fstB n cs es ticks k = (mayB e ticks && decide (invAt es k < e.inv)) := by rw [hf, decide_eq_true ⟨hT0, hT1⟩, Bool.true_and]
          clear hf
          by_cases hA : 1 ≤ e.inv ∧ e.inv ≤ ticks ∧ 1 ≤ e.steps
          · obtain ⟨hA1, hA2, hA3⟩ := hA
            have hm : mayB e ticks = (decide (e.resp = 0) || decide (e.inv ≤ e.resp ∧ e.resp ≤ ticks ∧ e.steps - 1 ≤ e.resp - e.inv)) := by unfold mayB; rw [decide_eq_true ⟨hA1, hA2, hA3⟩, Bool.true_and]
            have q1 : decide (e.inv < 1) = false := by simp; omega
            have q2 : decide (ticks < e.inv) = false := by simp; omega
            have q3 : decide (e.steps < 1) = false := by simp; omega
            by_cases hk0 : k = 0
            · have hI : Hid (invAt es k < e.inv) := by show _ < _; rw [hk0]; simp only [invAt]; omega
              have hkp : decide (0 < k) = false := by simp [hk0]
              clear hk0
              by_cases hr : e.resp = 0
              · have r1 : (e.resp == 0) = true := by simp [hr]
                have r2 : (e.resp != 0) = false := by simp [hr]
                have HN : Hid (fstB n cs es ticks _ = true) := hf'.trans (by rw [hm, decide_eq_true hr, decide_eq_true hI.out]; rfl)
                clear hf' hm hr
                go_wp2
                go_quiet (fail)
                go_wp2
                (go_roundw; (case rel => exact ⟨k + 1, hlt, by go_num, hide (fstAll_succ hok.out HN.out), (by first | exact hbw.alloc hbw.size _ | exact below_drewN (hbw.alloc hbw.size _) _)⟩); (case measure => (simp [intOf] <;> omega)))
              · have r1 : (e.resp == 0) = false := by simp [hr]
                have r2 : (e.resp != 0) = true := by simp [hr]
                obtain ⟨_, _⟩ := bounds_i64 wf1
                obtain ⟨_, _⟩ := bounds_i64 wf2
                obtain ⟨_, _⟩ := bounds_i64 wf3
                by_cases hB : e.inv ≤ e.resp ∧ e.resp ≤ ticks ∧ e.steps - 1 ≤ e.resp - e.inv
                · have HN : Hid (fstB n cs es ticks _ = true) := hf'.trans (by rw [hm, decide_eq_true hB, decide_eq_true hI.out]; simp)
                  obtain ⟨hB1, hB2, hB3⟩ := hB
                  clear hf' hm hr
                  go_wp2
                  go_quiet (fail)
                  go_wp2
                  (go_roundw; (case rel => exact ⟨k + 1, hlt, by go_num, hide (fstAll_succ hok.out HN.out), (by first | exact hbw.alloc hbw.size _ | exact below_drewN (hbw.alloc hbw.size _) _)⟩); (case measure => (simp [intOf] <;> omega)))
                · have HF : Hid (false = R) := (refB_false1 hlt (hf'.trans (by rw [hm, decide_eq_false hB, decide_eq_false hr]; rfl))).symm.trans HR.out
                  clear hf' hee hok h3 HR hm hI hr
                  by_cases hB1 : e.inv ≤ e.resp
                  · by_cases hB2 : e.resp ≤ ticks
                    · have hB3 : e.resp - e.inv < e.steps - 1 := by omega
                      clear hB
                      go_wp2
                      go_quiet (fail)
                      go_wp2
                      go_ret
                      exact ⟨ret_bool HF.out, (by first | exact hbw.alloc hbw.size _ | exact below_drewN (hbw.alloc hbw.size _) _)⟩
                    · clear hB
                      go_wp2
                      go_quiet (fail)
                      go_wp2
                      go_ret
                      exact ⟨ret_bool HF.out, (by first | exact hbw.alloc hbw.size _ | exact below_drewN (hbw.alloc hbw.size _) _)⟩
                  · clear hB
                    go_wp2
                    go_quiet (fail)
                    go_wp2
                    go_ret
                    exact ⟨ret_bool HF.out, (by first | exact hbw.alloc hbw.size _ | exact below_drewN (hbw.alloc hbw.size _) _)⟩
            · have hkn : 0 < k := by omega
              obtain ⟨pe, hpe⟩ : ∃ pe, es[k - 1]? = some pe := ⟨_, List.getElem?_eq_getElem (by omega)⟩
              obtain ⟨b', o', hA', _, hcp⟩ := h3 (k - 1) pe hpe
              simp only [Option.some.injEq, Addr.mk.injEq, and_true] at hA'
              obtain ⟨rfl, rfl⟩ := hA'
              have p1 := (ev_cells (hcp.of_block (w' := wr) (hbw.block b hb))).2.1
              have hinv : Hid (invAt es k = pe.inv) := invAt_pos hkn hpe
              have hk1 : (1 : Int) ≤ (k : Int) := by omega
              have hkp : decide (0 < k) = true := by simp; omega
              clear hcp hpe hk0
              by_cases hI' : pe.inv < e.inv
              · have hI : Hid (invAt es k < e.inv) := by show _ < _; rw [hinv.out]; exact hI'
                have q4 : decide (e.inv ≤ pe.inv) = false := by simp; omega
                by_cases hr : e.resp = 0
                · have r1 : (e.resp == 0) = true := by simp [hr]
                  have r2 : (e.resp != 0) = false := by simp [hr]
                  have HN : Hid (fstB n cs es ticks _ = true) := hf'.trans (by rw [hm, decide_eq_true hr, decide_eq_true hI.out]; rfl)
                  clear hf' hm hr
                  go_wp2
                  go_quiet (fail)
                  go_wp2
                  (go_roundw; (case rel => exact ⟨k + 1, hlt, by go_num, hide (fstAll_succ hok.out HN.out), (by first | exact hbw.alloc hbw.size _ | exact below_drewN (hbw.alloc hbw.size _) _)⟩); (case measure => (simp [intOf] <;> omega)))
                · have r1 : (e.resp == 0) = false := by simp [hr]
                  have r2 : (e.resp != 0) = true := by simp [hr]
                  obtain ⟨_, _⟩ := bounds_i64 wf1
                  obtain ⟨_, _⟩ := bounds_i64 wf2
                  obtain ⟨_, _⟩ := bounds_i64 wf3
                  by_cases hB : e.inv ≤ e.resp ∧ e.resp ≤ ticks ∧ e.steps - 1 ≤ e.resp - e.inv
                  · have HN : Hid (fstB n cs es ticks _ = true) := hf'.trans (by rw [hm, decide_eq_true hB, decide_eq_true hI.out]; simp)
                    obtain ⟨hB1, hB2, hB3⟩ := hB
                    clear hf' hm hr
                    go_wp2
                    go_quiet (fail)
                    go_wp2
                    (go_roundw; (case rel => exact ⟨k + 1, hlt, by go_num, hide (fstAll_succ hok.out HN.out), (by first | exact hbw.alloc hbw.size _ | exact below_drewN (hbw.alloc hbw.size _) _)⟩); (case measure => (simp [intOf] <;> omega)))
                  · have HF : Hid (false = R) := (refB_false1 hlt (hf'.trans (by rw [hm, decide_eq_false hB, decide_eq_false hr]; rfl))).symm.trans HR.out
                    clear hf' hee hok h3 HR hm hI hr
                    by_cases hB1 : e.inv ≤ e.resp
                    · by_cases hB2 : e.resp ≤ ticks
                      · have hB3 : e.resp - e.inv < e.steps - 1 := by omega
                        clear hB
                        go_wp2
                        go_quiet (fail)
                        go_wp2
                        go_ret
                        exact ⟨ret_bool HF.out, (by first | exact hbw.alloc hbw.size _ | exact below_drewN (hbw.alloc hbw.size _) _)⟩
                      · clear hB
                        go_wp2
                        go_quiet (fail)
                        go_wp2
                        go_ret
                        exact ⟨ret_bool HF.out, (by first | exact hbw.alloc hbw.size _ | exact below_drewN (hbw.alloc hbw.size _) _)⟩
                    · clear hB
                      go_wp2
                      go_quiet (fail)
                      go_wp2
                      go_ret
                      exact ⟨ret_bool HF.out, (by first | exact hbw.alloc hbw.size _ | exact below_drewN (hbw.alloc hbw.size _) _)⟩
              · have q4 : decide (e.inv ≤ pe.inv) = true := by simp; omega
                have HF : Hid (false = R) := (refB_false1 hlt (by rw [hf', hinv.out, decide_eq_false hI', Bool.and_false])).symm.trans HR.out
                clear hf' hee hok h3 HR hm hinv hI'
                go_wp2
                go_quiet (fail)
                go_wp2
                go_ret
                exact ⟨ret_bool HF.out, (by first | exact hbw.alloc hbw.size _ | exact below_drewN (hbw.alloc hbw.size _) _)⟩
          · have HF : Hid (false = R) := (refB_false1 hlt (by rw [hf']; unfold mayB; rw [decide_eq_false hA]; rfl)).symm.trans HR.out
            clear hf' hee hok HR
            by_cases hA1 : e.inv < 1
            · go_wp2
              go_quiet (fail)
              go_wp2
              go_ret
              exact ⟨ret_bool HF.out, (by first | exact hbw.alloc hbw.size _ | exact below_drewN (hbw.alloc hbw.size _) _)⟩
            · have q1 : decide (e.inv < 1) = false := by simp; omega
              by_cases hA2 : ticks < e.inv
              · go_wp2
                go_quiet (fail)
                go_wp2
                go_ret
                exact ⟨ret_bool HF.out, (by first | exact hbw.alloc hbw.size _ | exact below_drewN (hbw.alloc hbw.size _) _)⟩
              · have q2 : decide (ticks < e.inv) = false := by simp; omega
                have q3 : decide (e.steps < 1) = true := by simp; omega
                by_cases hk0 : k = 0
                · have hkp : decide (0 < k) = false := by simp [hk0]
                  clear hk0
                  go_wp2
                  go_quiet (fail)
                  go_wp2
                  go_ret
                  exact ⟨ret_bool HF.out, (by first | exact hbw.alloc hbw.size _ | exact below_drewN (hbw.alloc hbw.size _) _)⟩
                · have hkn : 0 < k := by omega
                  obtain ⟨pe, hpe⟩ : ∃ pe, es[k - 1]? = some pe := ⟨_, List.getElem?_eq_getElem (by omega)⟩
                  obtain ⟨b', o', hA', _, hcp⟩ := h3 (k - 1) pe hpe
                  simp only [Option.some.injEq, Addr.mk.injEq, and_true] at hA'
                  obtain ⟨rfl, rfl⟩ := hA'
                  have p1 := (ev_cells (hcp.of_block (w' := wr) (hbw.block b hb))).2.1
                  have hinv : Hid (invAt es k = pe.inv) := invAt_pos hkn hpe
                  have hk1 : (1 : Int) ≤ (k : Int) := by omega
                  have hkp : decide (0 < k) = true := by simp; omega
                  clear hcp hpe hk0
                  clear hinv
                  by_cases hI' : pe.inv < e.inv
                  · have q4 : decide (e.inv ≤ pe.inv) = false := by simp; omega
                    go_wp2
                    go_quiet (fail)
                    go_wp2
                    go_ret
                    exact ⟨ret_bool HF.out, (by first | exact hbw.alloc hbw.size _ | exact below_drewN (hbw.alloc hbw.size _) _)⟩
                  · have q4 : decide (e.inv ≤ pe.inv) = true := by simp; omega
                    go_wp2
                    go_quiet (fail)
                    go_wp2
                    go_ret
                    exact ⟨ret_bool HF.out, (by first | exact hbw.alloc hbw.size _ | exact below_drewN (hbw.alloc hbw.size _) _)⟩
        · have HF : Hid (false = R) := (refB_false1 hlt (by rw [hf, decide_eq_false hT]; rfl)).symm.trans HR.out
          clear hf hee hok h3 HR wf0 wf1 wf2 wf3
          go_wp2
          all_goals first | (exfalso; omega) | (go_ret; exact ⟨ret_bool HF.out, (by first | exact hbw.alloc hbw.size _ | exact below_drewN (hbw.alloc hbw.size _) _)⟩)
    · obtain rfl : k = es.length := by omega
      have hok1 := hok
      clear hok hk
      go_wp2
      go_loopw [110] (fun vk wr => ∃ i : Nat, i ≤ es.length ∧ vk = .int .i64 i ∧ Hid (∀ a, a < i → ∀ j, j < a → sndB cs es j a = true) ∧ Below w.heap.size w wr) (fun vk _ => es.length - (intOf vk).toNat)
      case atStart => exact ⟨0, by omega, rfl, hide (fun a ha => by omega), hbw⟩
      case round =>
        obtain ⟨wo, rfl⟩ : ∃ wo : World, wo = wr := ⟨_, rfl⟩
        clear hbw
        obtain ⟨i, hi, rfl, hok, hbw⟩ := hrel
        by_cases hlt : i < es.length
        · go_wp2
          go_loopw [114] (fun vj wi => ∃ j : Nat, j ≤ i ∧ vj = .int .i64 j ∧ Hid (∀ a, a < j → sndB cs es a i = true) ∧ Below w.heap.size w wi) (fun vj _ => i - (intOf vj).toNat)
          case atStart => exact ⟨0, by omega, rfl, hide (fun a ha => by omega), hbw⟩
          case round =>
            obtain ⟨wi, rfl⟩ : ∃ wi : World, wi = wr := ⟨_, rfl⟩
            clear hbw
            obtain ⟨j, hj, rfl, hokj, hbw⟩ := hrel
            by_cases hji : j < i
            · obtain ⟨e, ce, hee, hce, _⟩ := fstB_true (hok1.out i hlt)
              obtain ⟨d, cd, hdd, hcd, _⟩ := fstB_true (hok1.out j (by omega))
              obtain ⟨he0, he1, hec⟩ := evCall_bounds hce
              obtain ⟨hd0, hd1, hdc⟩ := evCall_bounds hcd
              have hs := sndB_eq (cs := cs) hdd hee
              rw [hce, hcd] at hs
              obtain ⟨b, o, rfl, hb, hxe⟩ := h3 i e hee
              obtain ⟨b', o', hA', _, hxd⟩ := h3 j d hdd
              simp only [Option.some.injEq, Addr.mk.injEq, and_true] at hA'
              obtain ⟨rfl, rfl⟩ := hA'
              obtain ⟨bc, oc, rfl, hbc, hxce⟩ := g3 _ _ hec
              obtain ⟨b', o', hA', _, hxcd⟩ := g3 _ _ hdc
              simp only [Option.some.injEq, Addr.mk.injEq, and_true] at hA'
              obtain ⟨rfl, rfl⟩ := hA'
              have te := (cl_cells (hxce.of_block (w' := wi) (hbw.block bc hbc))).1
              have td := (cl_cells (hxcd.of_block (w' := wi) (hbw.block bc hbc))).1
              obtain ⟨e0, e1, e2, e3, e4, e5, e6, e7⟩ := ev_cells (hxe.of_block (w' := wi) (hbw.block b hb))
              obtain ⟨d0, d1, d2, d3, d4, d5, d6, d7⟩ := ev_cells (hxd.of_block (w' := wi) (hbw.block b hb))
              have hbc' : bc < wi.heap.size := Nat.lt_of_lt_of_le hbc hbw.size
              have hbr : b < wi.heap.size := Nat.lt_of_lt_of_le hb hbw.size
              have qi : (i : Int) < (es.length : Int) := by omega
              have qj : (j : Int) < (es.length : Int) := by omega
              have qi0 : (0 : Int) ≤ (i : Int) := by omega
              have qj0 : (0 : Int) ≤ (j : Int) := by omega
              clear hxe hxd hxce hxcd hec hdc hce hcd hdd hee h3 g3
              by_cases hT : cd.thread = ce.thread
              · have q1 : (cd.thread == ce.thread) = true := by simp [hT]
                have hs' : sndB cs es j i = (aheadE d e && decide (d.call < e.call)) := by rw [hs]; simp [hT]
                clear hs hT
                rcases hAh : aheadE d e with _ | _
                · have HF : Hid (false = R) := (refB_false2 hlt hji (by rw [hs', hAh]; rfl)).symm.trans HR.out
                  have HA := hide hAh
                  clear hs' hAh HR
                  go_wp2
                  refine wp_region_seq (fun w' => Below wi.heap.size wi w') (.take 0 <| .take 1 <| .take 2 <| .take 3 <| .take 4 <| .take 5 <| .take 6 <| .take 7 <| .take 8 <| .take 9 <| .take 10 <| .take 11 <| .take 12 <| .take 13 <| .take 14 <| .take 15 <| .take 16 <| .take 17 <| .take 18 <| .take 19 <| .take 20 <| .take 21 <| .take 22 <| .take 23 <| .take 24 <| .take 25 <| .take 26 <| .take 27 <| .run 28 <| .take 29 <| .take 30 <| .take 31 <| .take 32 <| .take 33 <| .take 34 <| .take 35 <| .take 36 <| .take 37 <| .take 38 <| .take 39 <| .take 40 <| .take 41 <| .take 42 <| .take 43 <| .done) (by kernel_rfl) (by kernel_rfl) (by kernel_rfl) (Below.refl _ _).drew ?_
                  repeat (first | (refine seq_take (v := ?_) rfl (by rfl) ?_ ?_; rotate_left; (focus (intro wS hS; replace hS := bcellc hS; go_simp; exact rfl)); simp only [Act.put, sqA, sqB, sqC]) | (refine seq_skip rfl (by rfl) ?_; simp only [Act.put, sqA, sqB, sqC]) | (refine seq_pass rfl (by rfl) (by assumption) ?_; simp only [Act.put, sqA, sqB, sqC]))
                  (refine seq_run rfl (by rfl) (fun K hK => ?_); go_simp)
                  refine (refAhead_any d e _).mono ?_
                  rw [HA.out]
                  rintro en w2 ⟨rfl, hb2⟩
                  have hb3 : Below wi.heap.size wi w2 := (Below.refl _ _).drew.trans hb2
                  refine hK _ _ hb3 ?_
                  clear hK K
                  try simp only [Act.put, sqA, sqB, sqC]
                  repeat (first | (refine seq_take (v := ?_) rfl (by rfl) ?_ ?_; rotate_left; (focus (intro wS hS; replace hS := bcellc hS; go_simp; exact rfl)); simp only [Act.put, sqA, sqB, sqC]) | (refine seq_skip rfl (by rfl) ?_; simp only [Act.put, sqA, sqB, sqC]) | (refine seq_pass rfl (by rfl) (by assumption) ?_; simp only [Act.put, sqA, sqB, sqC]))
                  refine seq_nil ?_
                  go_wp2
                  go_ret
                  exact ⟨ret_bool HF.out, hbw.trans (hb3.mono hbw.size)⟩
                · have HA := hide hAh
                  by_cases hD : d.call < e.call
                  · have HN : Hid (sndB cs es j i = true) := by show _ = _; rw [hs', hAh]; simp [hD]
                    clear hs' hAh
                    go_wp2
                    refine wp_region_seq (fun w' => Below wi.heap.size wi w') (.take 0 <| .take 1 <| .take 2 <| .take 3 <| .take 4 <| .take 5 <| .take 6 <| .take 7 <| .take 8 <| .take 9 <| .take 10 <| .take 11 <| .take 12 <| .take 13 <| .take 14 <| .take 15 <| .take 16 <| .take 17 <| .take 18 <| .take 19 <| .take 20 <| .take 21 <| .take 22 <| .take 23 <| .take 24 <| .take 25 <| .take 26 <| .take 27 <| .run 28 <| .take 29 <| .take 30 <| .take 31 <| .take 32 <| .take 33 <| .take 34 <| .take 35 <| .take 36 <| .take 37 <| .take 38 <| .take 39 <| .take 40 <| .take 41 <| .take 42 <| .take 43 <| .done) (by kernel_rfl) (by kernel_rfl) (by kernel_rfl) (Below.refl _ _).drew ?_
                    repeat (first | (refine seq_take (v := ?_) rfl (by rfl) ?_ ?_; rotate_left; (focus (intro wS hS; replace hS := bcellc hS; go_simp; exact rfl)); simp only [Act.put, sqA, sqB, sqC]) | (refine seq_skip rfl (by rfl) ?_; simp only [Act.put, sqA, sqB, sqC]) | (refine seq_pass rfl (by rfl) (by assumption) ?_; simp only [Act.put, sqA, sqB, sqC]))
                    (refine seq_run rfl (by rfl) (fun K hK => ?_); go_simp)
                    refine (refAhead_any d e _).mono ?_
                    rw [HA.out]
                    rintro en w2 ⟨rfl, hb2⟩
                    have hb3 : Below wi.heap.size wi w2 := (Below.refl _ _).drew.trans hb2
                    refine hK _ _ hb3 ?_
                    clear hK K
                    try simp only [Act.put, sqA, sqB, sqC]
                    repeat (first | (refine seq_take (v := ?_) rfl (by rfl) ?_ ?_; rotate_left; (focus (intro wS hS; replace hS := bcellc hS; go_simp; exact rfl)); simp only [Act.put, sqA, sqB, sqC]) | (refine seq_skip rfl (by rfl) ?_; simp only [Act.put, sqA, sqB, sqC]) | (refine seq_pass rfl (by rfl) (by assumption) ?_; simp only [Act.put, sqA, sqB, sqC]))
                    refine seq_nil ?_
                    go_wp2
                    go_roundw
                    case rel => exact ⟨j + 1, hji, by go_num, hide (sndTo_succ hokj.out HN.out), hbw.trans (hb3.mono hbw.size)⟩
                    case measure => (simp [intOf] <;> omega)
                  · have HF : Hid (false = R) := (refB_false2 hlt hji (by rw [hs']; simp [hD])).symm.trans HR.out
                    clear hs' hAh HR
                    go_wp2
                    refine wp_region_seq (fun w' => Below wi.heap.size wi w') (.take 0 <| .take 1 <| .take 2 <| .take 3 <| .take 4 <| .take 5 <| .take 6 <| .take 7 <| .take 8 <| .take 9 <| .take 10 <| .take 11 <| .take 12 <| .take 13 <| .take 14 <| .take 15 <| .take 16 <| .take 17 <| .take 18 <| .take 19 <| .take 20 <| .take 21 <| .take 22 <| .take 23 <| .take 24 <| .take 25 <| .take 26 <| .take 27 <| .run 28 <| .take 29 <| .take 30 <| .take 31 <| .take 32 <| .take 33 <| .take 34 <| .take 35 <| .take 36 <| .take 37 <| .take 38 <| .take 39 <| .take 40 <| .take 41 <| .take 42 <| .take 43 <| .done) (by kernel_rfl) (by kernel_rfl) (by kernel_rfl) (Below.refl _ _).drew ?_
                    repeat (first | (refine seq_take (v := ?_) rfl (by rfl) ?_ ?_; rotate_left; (focus (intro wS hS; replace hS := bcellc hS; go_simp; exact rfl)); simp only [Act.put, sqA, sqB, sqC]) | (refine seq_skip rfl (by rfl) ?_; simp only [Act.put, sqA, sqB, sqC]) | (refine seq_pass rfl (by rfl) (by assumption) ?_; simp only [Act.put, sqA, sqB, sqC]))
                    (refine seq_run rfl (by rfl) (fun K hK => ?_); go_simp)
                    refine (refAhead_any d e _).mono ?_
                    rw [HA.out]
                    rintro en w2 ⟨rfl, hb2⟩
                    have hb3 : Below wi.heap.size wi w2 := (Below.refl _ _).drew.trans hb2
                    refine hK _ _ hb3 ?_
                    clear hK K
                    try simp only [Act.put, sqA, sqB, sqC]
                    repeat (first | (refine seq_take (v := ?_) rfl (by rfl) ?_ ?_; rotate_left; (focus (intro wS hS; replace hS := bcellc hS; go_simp; exact rfl)); simp only [Act.put, sqA, sqB, sqC]) | (refine seq_skip rfl (by rfl) ?_; simp only [Act.put, sqA, sqB, sqC]) | (refine seq_pass rfl (by rfl) (by assumption) ?_; simp only [Act.put, sqA, sqB, sqC]))
                    refine seq_nil ?_
                    go_wp2
                    go_ret
                    exact ⟨ret_bool HF.out, hbw.trans (hb3.mono hbw.size)⟩
                  trace_state
              · have HN : Hid (sndB cs es j i = true) := by show _ = _; rw [hs]; simp [hT]
                have q1 : (cd.thread == ce.thread) = false := by simp [hT]
                clear hs hT
                go_wp2
                go_quiet (fail)
                go_wp2
                go_roundw
                case rel => exact ⟨j + 1, hji, by go_num, hide (sndTo_succ hokj.out HN.out), below_drewN hbw _⟩
                case measure => (simp [intOf] <;> omega)
            · obtain rfl : j = i := by omega
              go_wp2
              go_roundw
              case rel => exact ⟨j + 1, hlt, by go_num, hide (sndAll_succ hok.out hokj.out), hbw⟩
              case measure => (simp [intOf] <;> omega)
        · go_wp2
          go_ret
          refine ⟨ret_bool ?_, hbw⟩
          rw [← HR.out]
          exact (refB_true (fun k hk => hok1.out k hk) (fun i hi k hk => hok.out i (by omega) k hk)).symm
end Go.Proofs.YtmiimpmfkjcjlaaGreat
