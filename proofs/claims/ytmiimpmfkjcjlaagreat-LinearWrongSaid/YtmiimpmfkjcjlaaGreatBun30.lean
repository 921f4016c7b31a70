import Derived.Test.YtmiimpmfkjcjlaaGreatBun10
import Derived.Test.YtmiimpmfkjcjlaaGreatBun29
import Derived.Test.YtmiimpmfkjcjlaaGreatBun1
import Derived.Test.YtmiimpmfkjcjlaaGreatBun17
namespace Go.Proofs.YtmiimpmfkjcjlaaGreat
open Go.RowKit
theorem zero_int (w : World) : (zeroValue 3).run Tryz.prog w = .ok (.int .i64 0) w := by kernel_rfl
def mapOf (cs : List Cl) (es : List Ev) (k : Nat) (x : Int) : Option Value := (lastIx cs es k x).map fun j => Value.int .i64 (j : Int)
theorem mapOf_succ {cs : List Cl} {es : List Ev} {k : Nat} {e : Ev} {c : Cl} (he : es[k]? = some e) (hc : evCall cs e = some c) :
    mapOf cs es (k + 1) = fun x => if x = c.thread then some (.int .i64 (k : Int)) else mapOf cs es k x := by
  funext x
  unfold mapOf
  rw [lastIx_succ he hc]
  split <;> simp
set_option maxHeartbeats 2000000 in
set_option maxRecDepth 100000 in
theorem hright_any (n ticks : Int) (vc ve : Value) (cs : List Cl) (es : List Ev) (w : World) (hcs : SlCl w vc cs) (hes : SlEv w ve es) (hwf : ∀ e ∈ es, EvWf e) :
    Calls Tryz.prog 67 #[.int .i64 n, vc, ve, .int .i64 ticks] w fun e w' => e = .returned (.bool (rightB n cs es ticks)) ∧ Below w.heap.size w w' := by
  have hes' := hes
  obtain ⟨A, cap, rfl, h1, h2, h3⟩ := hes
  have hmm := @run_makeMap Tryz.prog
  obtain ⟨R, hR⟩ : ∃ R, rightB n cs es ticks = R := ⟨_, rfl⟩
  have HR := hide hR
  rw [hR]
  clear hR
  have hlen : (es.length : Int) ≤ 9223372036854775807 := by unfold maxLen at h2; omega
  go_enter Tryz.func67, Tryz.ntmps67
  go_wp2
  go_loopw [10, 20] (fun vi vk wr => ∃ k : Nat, k ≤ es.length ∧ vk = .int .i64 k ∧ vi = .int .i64 (invAt es k) ∧ Hid (∀ j, j < k → okB n cs es ticks j = true) ∧ IMap wr w.heap.size .i64 (mapOf cs es k) ∧ Below w.heap.size w wr) (fun _ vk _ => es.length - (intOf vk).toNat)
  case atStart =>
    refine ⟨0, by omega, rfl, rfl, hide (fun j hj => by omega), ?_, ?_⟩
    · exact IMap.new _ _
    · (repeat' (first | exact Below.refl _ _ | assumption | refine Below.drew ?_ | refine below_drewN ?_ _ | refine Below.alloc ?_ (by simp <;> omega) _ | refine Below.setCell ?_ (by simp <;> omega) _))
  case round =>
    obtain ⟨k, hk, rfl, rfl, hok, hmap, hbw⟩ := hrel
    by_cases hlt : k < es.length
    · obtain ⟨e, hee⟩ : ∃ e, es[k]? = some e := ⟨_, List.getElem?_eq_getElem hlt⟩
      obtain ⟨b, o, rfl, hb, hce⟩ := h3 k e hee
      have hce' := hce.of_block (w' := wr) (hbw.block b hb)
      obtain ⟨c0, c1, c2, c3, c4, c5, c6, c7⟩ := ev_cells hce'
      clear hce hce'
      have hmem : e ∈ es := List.mem_of_getElem? hee
      obtain ⟨_, wf1, wf2, wf3⟩ := hwf e hmem
      have HSl : SlEv wr (.slice (some ⟨b, o, none⟩) es.length cap) es := hes'.below hbw (Nat.le_refl _)
      rcases hA : evCall cs e with _ | c
      · have HF : Hid (false = R) := (rightB_false hlt (okB_none hee hA)).symm.trans HR.out
        have Hc := hide hA
        clear hA hee hok h3 HR
        go_wp2_with ((go_at_call 107; refine (call_none _ cs e _ (hcs.below (hbw.alloc hbw.size _) (Nat.le_refl _)) Hc).mono ?_; rintro en w1 ⟨rfl, hb1⟩; have hb1' : Below w.heap.size w w1 := (hbw.alloc hbw.size _).trans (hb1.mono (by have := hbw.size; simp; omega))))
        go_ret
        exact ⟨ret_bool HF.out, hb1'.alloc hb1'.size _⟩
      · have Hc := hide hA
        have hokk := okB_eq (n := n) (ticks := ticks) hee hA
        clear hA
        by_cases hT : 0 ≤ c.thread ∧ c.thread < n
        · obtain ⟨hT0, hT1⟩ := hT
          rcases hM : mayB e ticks with _ | _
          · have HF : Hid (false = R) := (rightB_false hlt (by rw [hokk, hM]; simp)).symm.trans HR.out
            have HM := hide hM
            clear hM hokk hee hok h3 HR
            go_wp2_with (first | (go_at_call 107; refine (call_some _ cs e c _ (hcs.below (hbw.alloc hbw.size _) (Nat.le_refl _)) Hc).mono ?_; rintro en w1 ⟨rfl, hb1⟩; have hb1' : Below w.heap.size w w1 := (hbw.alloc hbw.size _).trans (hb1.mono (by have := hbw.size; simp; omega)); have hz1 : wr.heap.size < w1.heap.size := (by have := hb1.size; simp at this; omega); have hm1 : IMap w1 w.heap.size .i64 (mapOf cs es k) := (hmap.alloc _).below hb1 (hmap.alloc _).lt; have hl1 := (HSl.alloc _).below hb1 (Nat.le_refl _); have hbc1 := bcell hb1; have hbw1 : b < w1.heap.size + 1 := (by have := hbw.size; omega); clear hb1) | (go_at_call 108; refine (may_any e ticks _ wf3 wf2 wf1).mono ?_; rw [HM.out]; rintro en w2 ⟨rfl, hb2⟩; have hb2' : Below w.heap.size w w2 := (hb1'.alloc hb1'.size _).trans (hb2.mono (by have := hb1'.size; simp; omega)); have hz2 : w1.heap.size < w2.heap.size := (by have := hb2.size; simp at this; omega); have hm2 : IMap w2 w.heap.size .i64 (mapOf cs es k) := (hm1.alloc _).below hb2 (hm1.alloc _).lt; have hl2 := (hl1.alloc _).below hb2 (Nat.le_refl _); have hbc2 := bcell hb2; clear hb2))
            go_ret
            exact ⟨ret_bool HF.out, hb2'⟩
          · have HM := hide hM
            by_cases hI : invAt es k < e.inv
            · rcases hL : lastIx cs es k c.thread with _ | j
              · have HN : Hid (okB n cs es ticks k = true) := by show _ = _; rw [hokk, hM]; unfold lastB; rw [hL]; simp [hT0, hT1, hI]
                have HLm : Hid (mapOf cs es k c.thread = none) := by show _ = _; unfold mapOf; rw [hL]; rfl
                clear hM hokk hL
                have Hee := hide hee
                clear hee h3
                go_wp2_with (first | (go_at_call 107; refine (call_some _ cs e c _ (hcs.below (hbw.alloc hbw.size _) (Nat.le_refl _)) Hc).mono ?_; rintro en w1 ⟨rfl, hb1⟩; have hb1' : Below w.heap.size w w1 := (hbw.alloc hbw.size _).trans (hb1.mono (by have := hbw.size; simp; omega)); have hz1 : wr.heap.size < w1.heap.size := (by have := hb1.size; simp at this; omega); have hm1 : IMap w1 w.heap.size .i64 (mapOf cs es k) := (hmap.alloc _).below hb1 (hmap.alloc _).lt; have hl1 := (HSl.alloc _).below hb1 (Nat.le_refl _); have hbc1 := bcell hb1; have hbw1 : b < w1.heap.size + 1 := (by have := hbw.size; omega); clear hb1) | (go_at_call 108; refine (may_any e ticks _ wf3 wf2 wf1).mono ?_; rw [HM.out]; rintro en w2 ⟨rfl, hb2⟩; have hb2' : Below w.heap.size w w2 := (hb1'.alloc hb1'.size _).trans (hb2.mono (by have := hb1'.size; simp; omega)); have hz2 : w1.heap.size < w2.heap.size := (by have := hb2.size; simp at this; omega); have hm2 : IMap w2 w.heap.size .i64 (mapOf cs es k) := (hm1.alloc _).below hb2 (hm1.alloc _).lt; have hl2 := (hl1.alloc _).below hb2 (Nat.le_refl _); have hbc2 := bcell hb2; clear hb2) | (at_lookup; refine wpList_lookup_ok_imap _ rfl _ _ _ rfl 3 3 .i64 Tryz.underlying171 Tryz.underlying3 (.int .i64 0) (zero_int _) w.heap.size (mapOf cs es k) rfl hm2 c.thread rfl ?_; intro v ok hok1 hv; rw [HLm.out] at hok1; subst hok1; subst hv))
                go_quiet (fail)
                have hm3 := hm2.drewN nq
                go_wp2_with (first | (at_mapUpdate; refine wpList_update_imap _ rfl _ _ _ _ rfl 3 3 .i64 Tryz.underlying171 Tryz.underlying3 w.heap.size (mapOf cs es k) rfl hm3 c.thread (.int .i64 k) rfl rfl ?_; intro w4 hm4 hg4 hz4))
                (have hb4 : Below w.heap.size w w4 := (below_drewN hb2' nq).grown hg4 hb2'.size (fun k h => (by cases h; exact Nat.le_refl _)); go_roundw; (case rel => exact ⟨k + 1, hlt, by go_num, by rw [invAt_succ Hee.out], hide (okAll_succ hok.out HN.out), (by rw [mapOf_succ Hee.out Hc.out]; exact hm4), hb4⟩); (case measure => (simp [intOf] <;> omega)))
              · have hjk : j < k := lastIx_lt hL
                have hjl : j < es.length := by omega
                obtain ⟨d, hd⟩ : ∃ d, es[j]? = some d := ⟨_, List.getElem?_eq_getElem hjl⟩
                obtain ⟨b', o', hA', hb', hcd⟩ := h3 j d hd
                simp only [Option.some.injEq, Addr.mk.injEq, and_true] at hA'
                obtain ⟨rfl, rfl⟩ := hA'
                have HLm : Hid (mapOf cs es k c.thread = some (.int .i64 (j : Int))) := by show _ = _; unfold mapOf; rw [hL]; rfl
                have hji : (j : Int) < (es.length : Int) := by omega
                have hj0 : (0 : Int) ≤ (j : Int) := by omega
                have hbr : b < wr.heap.size + 1 := by have := hbw.size; omega
                have hbh : behindB es j k = (aheadB es j k && decide (d.call < e.call)) := by unfold behindB; rw [hd, hee]
                rcases hAh : aheadB es j k with _ | _
                · have HF : Hid (false = R) := (rightB_false hlt (by rw [hokk]; unfold lastB; rw [hL]; simp [hbh, hAh])).symm.trans HR.out
                  have HAh := hide hAh
                  clear hM hokk hL hee hok h3 HR hcd hd hAh hbh
                  go_wp2_with (first | (go_at_call 107; refine (call_some _ cs e c _ (hcs.below (hbw.alloc hbw.size _) (Nat.le_refl _)) Hc).mono ?_; rintro en w1 ⟨rfl, hb1⟩; have hb1' : Below w.heap.size w w1 := (hbw.alloc hbw.size _).trans (hb1.mono (by have := hbw.size; simp; omega)); have hz1 : wr.heap.size < w1.heap.size := (by have := hb1.size; simp at this; omega); have hm1 : IMap w1 w.heap.size .i64 (mapOf cs es k) := (hmap.alloc _).below hb1 (hmap.alloc _).lt; have hl1 := (HSl.alloc _).below hb1 (Nat.le_refl _); have hbc1 := bcell hb1; have hbw1 : b < w1.heap.size + 1 := (by have := hbw.size; omega); clear hb1) | (go_at_call 108; refine (may_any e ticks _ wf3 wf2 wf1).mono ?_; rw [HM.out]; rintro en w2 ⟨rfl, hb2⟩; have hb2' : Below w.heap.size w w2 := (hb1'.alloc hb1'.size _).trans (hb2.mono (by have := hb1'.size; simp; omega)); have hz2 : w1.heap.size < w2.heap.size := (by have := hb2.size; simp at this; omega); have hm2 : IMap w2 w.heap.size .i64 (mapOf cs es k) := (hm1.alloc _).below hb2 (hm1.alloc _).lt; have hl2 := (hl1.alloc _).below hb2 (Nat.le_refl _); have hbc2 := bcell hb2; clear hb2) | (at_lookup; refine wpList_lookup_ok_imap _ rfl _ _ _ rfl 3 3 .i64 Tryz.underlying171 Tryz.underlying3 (.int .i64 0) (zero_int _) w.heap.size (mapOf cs es k) rfl hm2 c.thread rfl ?_; intro v ok hok1 hv; rw [HLm.out] at hok1; subst hok1; subst hv))
                  go_quiet ((go_at_call 102; exact ahead_q _ es _ _ false _ hl2 HAh _))
                  go_wp2
                  go_ret
                  exact ⟨ret_bool HF.out, below_drewN hb2' _⟩
                · have HAh := hide hAh
                  by_cases hD : d.call < e.call
                  · have HN : Hid (okB n cs es ticks k = true) := by show _ = _; rw [hokk, hM]; unfold lastB; rw [hL]; simp [hbh, hAh, hD, hT0, hT1, hI]
                    have Hee := hide hee
                    clear hM hokk hL hee h3 hd hAh hbh
                    go_wp2_with (first | (go_at_call 107; refine (call_some _ cs e c _ (hcs.below (hbw.alloc hbw.size _) (Nat.le_refl _)) Hc).mono ?_; rintro en w1 ⟨rfl, hb1⟩; have hb1' : Below w.heap.size w w1 := (hbw.alloc hbw.size _).trans (hb1.mono (by have := hbw.size; simp; omega)); have hz1 : wr.heap.size < w1.heap.size := (by have := hb1.size; simp at this; omega); have hm1 : IMap w1 w.heap.size .i64 (mapOf cs es k) := (hmap.alloc _).below hb1 (hmap.alloc _).lt; have hl1 := (HSl.alloc _).below hb1 (Nat.le_refl _); have hbc1 := bcell hb1; have hbw1 : b < w1.heap.size + 1 := (by have := hbw.size; omega); clear hb1) | (go_at_call 108; refine (may_any e ticks _ wf3 wf2 wf1).mono ?_; rw [HM.out]; rintro en w2 ⟨rfl, hb2⟩; have hb2' : Below w.heap.size w w2 := (hb1'.alloc hb1'.size _).trans (hb2.mono (by have := hb1'.size; simp; omega)); have hz2 : w1.heap.size < w2.heap.size := (by have := hb2.size; simp at this; omega); have hm2 : IMap w2 w.heap.size .i64 (mapOf cs es k) := (hm1.alloc _).below hb2 (hm1.alloc _).lt; have hl2 := (hl1.alloc _).below hb2 (Nat.le_refl _); have hbc2 := bcell hb2; clear hb2) | (at_lookup; refine wpList_lookup_ok_imap _ rfl _ _ _ rfl 3 3 .i64 Tryz.underlying171 Tryz.underlying3 (.int .i64 0) (zero_int _) w.heap.size (mapOf cs es k) rfl hm2 c.thread rfl ?_; intro v ok hok1 hv; rw [HLm.out] at hok1; subst hok1; subst hv))
                    have d2 := (ev_cells (hcd.of_block (w' := w2) (hb2'.block b hb))).1
                    have e2 : w2.cell? ⟨wr.heap.size, 0, none⟩ = some (.int .i64 e.call) := by clear d2; go_simp
                    have e4 : w2.cell? ⟨wr.heap.size, 1, none⟩ = some (.int .i64 e.inv) := by clear d2 e2; go_simp
                    have e3 : w2.cell? ⟨w1.heap.size, 0, none⟩ = some (.int .i64 c.thread) := by clear d2 e2 e4; go_simp
                    clear hbc1 hbc2
                    go_quiet ((go_at_call 102; exact ahead_q _ es _ _ true _ hl2 HAh _))
                    have hm3 := hm2.drewN nq
                    go_wp2_with (first | (at_mapUpdate; refine wpList_update_imap _ rfl _ _ _ _ rfl 3 3 .i64 Tryz.underlying171 Tryz.underlying3 w.heap.size (mapOf cs es k) rfl hm3 c.thread (.int .i64 k) rfl rfl ?_; intro w4 hm4 hg4 hz4))
                    (have hb4 : Below w.heap.size w w4 := (below_drewN hb2' nq).grown hg4 hb2'.size (fun k h => (by cases h; exact Nat.le_refl _)); go_roundw; (case rel => exact ⟨k + 1, hlt, by go_num, by rw [invAt_succ Hee.out], hide (okAll_succ hok.out HN.out), (by rw [mapOf_succ Hee.out Hc.out]; exact hm4), hb4⟩); (case measure => (simp [intOf] <;> omega)))
                  · have HF : Hid (false = R) := (rightB_false hlt (by rw [hokk]; unfold lastB; rw [hL]; simp [hbh, hD])).symm.trans HR.out
                    clear hM hokk hL hee hok h3 HR hd hAh hbh
                    go_wp2_with (first | (go_at_call 107; refine (call_some _ cs e c _ (hcs.below (hbw.alloc hbw.size _) (Nat.le_refl _)) Hc).mono ?_; rintro en w1 ⟨rfl, hb1⟩; have hb1' : Below w.heap.size w w1 := (hbw.alloc hbw.size _).trans (hb1.mono (by have := hbw.size; simp; omega)); have hz1 : wr.heap.size < w1.heap.size := (by have := hb1.size; simp at this; omega); have hm1 : IMap w1 w.heap.size .i64 (mapOf cs es k) := (hmap.alloc _).below hb1 (hmap.alloc _).lt; have hl1 := (HSl.alloc _).below hb1 (Nat.le_refl _); have hbc1 := bcell hb1; have hbw1 : b < w1.heap.size + 1 := (by have := hbw.size; omega); clear hb1) | (go_at_call 108; refine (may_any e ticks _ wf3 wf2 wf1).mono ?_; rw [HM.out]; rintro en w2 ⟨rfl, hb2⟩; have hb2' : Below w.heap.size w w2 := (hb1'.alloc hb1'.size _).trans (hb2.mono (by have := hb1'.size; simp; omega)); have hz2 : w1.heap.size < w2.heap.size := (by have := hb2.size; simp at this; omega); have hm2 : IMap w2 w.heap.size .i64 (mapOf cs es k) := (hm1.alloc _).below hb2 (hm1.alloc _).lt; have hl2 := (hl1.alloc _).below hb2 (Nat.le_refl _); have hbc2 := bcell hb2; clear hb2) | (at_lookup; refine wpList_lookup_ok_imap _ rfl _ _ _ rfl 3 3 .i64 Tryz.underlying171 Tryz.underlying3 (.int .i64 0) (zero_int _) w.heap.size (mapOf cs es k) rfl hm2 c.thread rfl ?_; intro v ok hok1 hv; rw [HLm.out] at hok1; subst hok1; subst hv))
                    have d2 := (ev_cells (hcd.of_block (w' := w2) (hb2'.block b hb))).1
                    have e2 : w2.cell? ⟨wr.heap.size, 0, none⟩ = some (.int .i64 e.call) := by clear d2; go_simp
                    have e4 : w2.cell? ⟨wr.heap.size, 1, none⟩ = some (.int .i64 e.inv) := by clear d2 e2; go_simp
                    have e3 : w2.cell? ⟨w1.heap.size, 0, none⟩ = some (.int .i64 c.thread) := by clear d2 e2 e4; go_simp
                    clear hbc1 hbc2
                    go_quiet ((go_at_call 102; exact ahead_q _ es _ _ true _ hl2 HAh _))
                    go_wp2
                    go_ret
                    exact ⟨ret_bool HF.out, below_drewN hb2' _⟩
            · have HF : Hid (false = R) := (rightB_false hlt (by rw [hokk, decide_eq_false hI]; simp)).symm.trans HR.out
              clear hM hokk hee hok h3 HR
              go_wp2_with (first | (go_at_call 107; refine (call_some _ cs e c _ (hcs.below (hbw.alloc hbw.size _) (Nat.le_refl _)) Hc).mono ?_; rintro en w1 ⟨rfl, hb1⟩; have hb1' : Below w.heap.size w w1 := (hbw.alloc hbw.size _).trans (hb1.mono (by have := hbw.size; simp; omega)); have hz1 : wr.heap.size < w1.heap.size := (by have := hb1.size; simp at this; omega); have hm1 : IMap w1 w.heap.size .i64 (mapOf cs es k) := (hmap.alloc _).below hb1 (hmap.alloc _).lt; have hl1 := (HSl.alloc _).below hb1 (Nat.le_refl _); have hbc1 := bcell hb1; have hbw1 : b < w1.heap.size + 1 := (by have := hbw.size; omega); clear hb1) | (go_at_call 108; refine (may_any e ticks _ wf3 wf2 wf1).mono ?_; rw [HM.out]; rintro en w2 ⟨rfl, hb2⟩; have hb2' : Below w.heap.size w w2 := (hb1'.alloc hb1'.size _).trans (hb2.mono (by have := hb1'.size; simp; omega)); have hz2 : w1.heap.size < w2.heap.size := (by have := hb2.size; simp at this; omega); have hm2 : IMap w2 w.heap.size .i64 (mapOf cs es k) := (hm1.alloc _).below hb2 (hm1.alloc _).lt; have hl2 := (hl1.alloc _).below hb2 (Nat.le_refl _); have hbc2 := bcell hb2; clear hb2))
              all_goals first | (exfalso; omega) | (go_ret; exact ⟨ret_bool HF.out, hb2'⟩)
        · have HF : Hid (false = R) := (rightB_false hlt (by rw [hokk, decide_eq_false hT]; rfl)).symm.trans HR.out
          clear hokk hee hok h3 HR
          go_wp2_with (go_at_call 107; refine (call_some _ cs e c _ (hcs.below (hbw.alloc hbw.size _) (Nat.le_refl _)) Hc).mono ?_; rintro en w1 ⟨rfl, hb1⟩; have hb1' : Below w.heap.size w w1 := (hbw.alloc hbw.size _).trans (hb1.mono (by have := hbw.size; simp; omega)); have hz1 : wr.heap.size < w1.heap.size := (by have := hb1.size; simp at this; omega); have hm1 : IMap w1 w.heap.size .i64 (mapOf cs es k) := (hmap.alloc _).below hb1 (hmap.alloc _).lt; have hl1 := (HSl.alloc _).below hb1 (Nat.le_refl _); have hbc1 := bcell hb1; have hbw1 : b < w1.heap.size + 1 := (by have := hbw.size; omega); clear hb1)
          all_goals first | (exfalso; omega) | (go_ret; exact ⟨ret_bool HF.out, hb1'.alloc hb1'.size _⟩)
    · go_wp2
      go_ret
      refine ⟨ret_bool ?_, hbw⟩
      rw [← HR.out]
      exact (rightB_true (fun j hj => hok.out j (by omega))).symm
end Go.Proofs.YtmiimpmfkjcjlaaGreat

namespace Go.Proofs.YtmiimpmfkjcjlaaGreat
open Go.RowKit
end Go.Proofs.YtmiimpmfkjcjlaaGreat

namespace Go.Proofs.YtmiimpmfkjcjlaaGreat
open Go.RowKit
def okAh (es : List Ev) (ky : Nat → List Int) (i k : Nat) : Bool := !(aheadB es i k) || (decide (ky i = []) || (decide (ky k = []) || decide (kcmp (ky i) (ky k) < 0)))
theorem aheadK_no {es : List Ev} {ky : Nat → List Int} {i k : Nat} (hi : i < es.length) (hk : k < es.length) (h : okAh es ky i k = false) : aheadK es ky = false := by
  unfold aheadK
  rw [List.all_eq_false]
  refine ⟨i, by simpa using hi, ?_⟩
  simp only [Bool.not_eq_true]
  rw [List.all_eq_false]
  exact ⟨k, by simpa using hk, by simpa [okAh] using h⟩
theorem aheadK_yes {es : List Ev} {ky : Nat → List Int} (h : ∀ i, i < es.length → ∀ k, k < es.length → okAh es ky i k = true) : aheadK es ky = true := by
  unfold aheadK
  rw [List.all_eq_true]
  intro i hi
  rw [List.all_eq_true]
  intro k hk
  exact h i (by simpa using hi) k (by simpa using hk)
end Go.Proofs.YtmiimpmfkjcjlaaGreat
