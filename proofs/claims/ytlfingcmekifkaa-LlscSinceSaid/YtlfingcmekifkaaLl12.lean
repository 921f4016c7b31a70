/- Linked words (law 38): LlscSince walked. -/
import Derived.Test.YtlfingcmekifkaaLl11
namespace Go.Proofs.Ytlfingcmekifkaa
open Go.RowKit

theorem since_ends {cs : List Cl} {P : Ps (Lo × An) Ll} (h : (∀ e ∈ P.evs, e.call < cs.length) ∧ ∀ i e, P.evs[i]? = some e → sinceAt cs P.evs i e) : (∀ (k : Nat) (e : Ep), (P.ends llG)[k]? = some e → e.call < cs.length) ∧ ∀ i e, (P.ends llG)[i]? = some e → sinceAt cs (P.ends llG) i e := by
  have hl : ∀ (t a : Int) (e e0 : Ep), e.call = e0.call → e.ans = e0.ans → (isLoad cs t a e ↔ isLoad cs t a e0) := fun t a e e0 h1 h2 => by unfold isLoad; rw [h1, h2]
  have hp : ∀ (a : Int) (e e0 : Ep), e.call = e0.call → e.ans = e0.ans → (isPut cs a e ↔ isPut cs a e0) := fun a e e0 h1 h2 => by unfold isPut; rw [h1, h2]
  refine ⟨fun k e he => ?_, fun i e he => ?_⟩
  · obtain ⟨e0, h0, h1, _⟩ := ends_get he
    rw [h1]
    exact h.1 e0 (List.mem_of_getElem? h0)
  · obtain ⟨e0, h0, h1, h2, h3, h4, h5⟩ := ends_get he
    intro g1 g2 g3
    rw [h1] at g1 g2
    rw [h5] at g3
    obtain ⟨f, q1, ⟨d, d1, d2⟩, q3, q4⟩ := h.2 i e0 h0 g1 g2 g3
    rw [h1, h5]
    obtain ⟨d', b1, b2, b3, b4, b5, b6⟩ := ends_has (G := llG) d1
    refine ⟨f, q1, ⟨d', b1, (hl _ _ d' d b2 b6).2 d2⟩, fun k x hk1 hk2 hx => ?_, ?_⟩
    · obtain ⟨x0, y0, y1, y2, y3, y4, y5⟩ := ends_get hx
      intro hh
      exact q3 k x0 hk1 hk2 y0 ((hl _ _ x x0 y1 y5).1 hh)
    · rcases q4 with ⟨r1, r2⟩ | ⟨r1, k, x, r2, r3, r4, r5⟩
      · refine .inl ⟨r1, fun k x hk1 hk2 hx hh => ?_⟩
        obtain ⟨x0, y0, y1, y2, y3, y4, y5⟩ := ends_get hx
        exact r2 k x0 hk1 hk2 y0 ((hp _ x x0 y1 y5).1 hh)
      · obtain ⟨x', y0, y1, y2, y3, y4, y5⟩ := ends_has (G := llG) r4
        exact .inr ⟨r1, k, x', r2, r3, y0, (hp _ x' x y1 y5).2 r5⟩
theorem chkL_zero {n z : Int} {cs : List Cl} {np : Nat} (h : chkL n z cs np = 0) : chkE n cs np = 0 ∧ 1 ≤ z ∧ z ≤ 64 := by
  unfold chkL at h
  split at h
  · rename_i h1
    exact absurd h h1
  · rename_i h1
    split at h
    · cases h
    · exact ⟨by omega, by omega, by omega⟩
set_option maxRecDepth 100000 in
set_option maxHeartbeats 4000000 in
theorem llscSinceW (n z0 : Int) (A : Option Addr) (m c : Nat) (cs : List Cl) (Ap : Option Addr) (np cp : Nat) (picks : List Int) (w : World) (h : SlCl w (.slice A m c) cs) (hm : cs.length = m) (hp : SlI w (.slice Ap np cp) picks) (hpl : picks.length = np) (hcu : ∀ c ∈ cs, ClU c) :
    Calls Try.prog 3 #[.agg #[.int .i64 n, .int .i64 z0], .slice A m c, .slice Ap np cp] w fun e w' => e = .returned (.bool true) ∧ Below w.heap.size w w' := by
  have hml : m ≤ maxLen := by obtain ⟨_, _, e, h1, h2, _⟩ := h; cases e; omega
  have hpx : np ≤ maxLen := by obtain ⟨_, _, e, h1, h2, _⟩ := hp; cases e; omega
  have hQ : Below w.heap.size w (w.alloc (.cells #[.int .i64 n, .int .i64 z0] 22)) := (Below.refl _ w).alloc (Nat.le_refl _) _
  have y0 : (w.alloc (.cells #[.int .i64 n, .int .i64 z0] 22)).cell? ⟨w.heap.size, 0, none⟩ = some (.int .i64 n) := by go_simp
  have y1 : (w.alloc (.cells #[.int .i64 n, .int .i64 z0] 22)).cell? ⟨w.heap.size, 1, none⟩ = some (.int .i64 z0) := by go_simp
  have yz : w.heap.size < (w.alloc (.cells #[.int .i64 n, .int .i64 z0] 22)).heap.size := by simp
  have h' := h.below hQ (Nat.le_refl _)
  have hp' := hp.below hQ (Nat.le_refl _)
  have N0 := many_any A Ap m c np cp (w.alloc (.cells #[.int .i64 n, .int .i64 z0] 22)) hml hpx
  have N := llscPlay n z0 A m c cs Ap np cp picks (w.alloc (.cells #[.int .i64 n, .int .i64 z0] 22)) h' hm hp' hpl hcu
  obtain ⟨b, hb⟩ : ∃ b, manyB m np = b := ⟨_, rfl⟩
  rw [hb] at N0
  have HQ := hide hQ
  have HY := hide (And.intro y0 (And.intro y1 yz))
  clear hQ h hp y0 y1 yz
  rcases b with _ | _
  · obtain ⟨E, hE⟩ : ∃ E, chkL n z0 cs picks.length = E := ⟨_, rfl⟩
    rw [hE] at N
    by_cases h0 : E = 0
    · subst h0
      obtain ⟨hE1, hz1, hz2⟩ := chkL_zero hE
      obtain ⟨hn, hl, hpk, hth⟩ := chk_calls hE1
      have hH := since_ends (P := llPlay z0 cs picks) (ll_since (size := z0) (cs := cs) (picks := picks) (by omega) (by omega) (fun c hc => ⟨(hth c hc).1, (hcu c hc).1.1, (hcu c hc).2.1.1⟩))
      generalize (llPlay z0 cs picks).ends llG = es at N hH
      generalize (llPlay z0 cs picks).lw.mem = mm at N
      generalize (llPlay z0 cs picks).lw.now = now at N
      generalize (llPlay z0 cs picks).idle = idle at N
      have HCA := hide hH.1
      have HSI := hide hH.2
      have HC := hide h'
      have HM := hide hm
      clear hE hE1 hb hH h' hp' hcu hth hm hz1 hz2
      have HN := hide N
      clear N
      go_enter Try.func3, Try.ntmps3
      go_wp2_with fail
      refine N0.mono ?_
      rintro e w0 ⟨rfl, hw0⟩
      have HQ0 : Hid (Below w.heap.size w w0) := hide (by rw [hw0]; exact HQ.out)
      have N := HN.out
      rw [← hw0] at N HC HY
      obtain ⟨y0, y1, yz⟩ := HY.out
      clear hw0 N0 HN HQ HY
      go_wp2_with fail
      refine N.mono ?_
      rintro e w1 (⟨h, _⟩ | ⟨_, ev, B, Mu, g, cg, rfl, hEv, hBz, hwr, hb⟩)
      · exact absurd rfl h
      obtain ⟨Ae, ce, rfl, hel⟩ := evs_len hEv
      have HB1 := hide hb
      have HEV := hide hEv
      have HEL := hide hel
      have hel' : (es.length : Int) ≤ 9223372036854775807 := by unfold maxLen at hel; omega
      clear hb hwr hEv hel N
      unfold repV
      go_wp2
      go_loopw [38] (fun i wr => ∃ k : Nat, k ≤ es.length ∧ i = .int .i64 k ∧ wr = w1.alloc (.cells #[.slice Ae es.length ce, .slice (some ⟨g, 0, none⟩) mm.words.length cg, .int .i64 (wrap64 mm.rd), .int .i64 (wrap64 mm.wr), .int .i64 (wrap64 mm.sw), .int .i64 (wrap64 mm.ad), .int .i64 (wrap64 mm.ft), .int .i64 now, .int .i64 idle] 32)) (fun i _ => es.length - (intOf i).toNat)
      case atStart => exact ⟨0, Nat.zero_le _, rfl, rfl⟩
      case round =>
        obtain ⟨q, hqq, rfl, rfl⟩ := hrel
        by_cases hlt2 : q < es.length
        · obtain ⟨e, he⟩ : ∃ e, es[q]? = some e := ⟨_, List.getElem?_eq_getElem hlt2⟩
          obtain ⟨ge, rfl, hgz, x, hx, a0, a1, a2, a3, a4, a5, _⟩ := ev_at HEV.out he
          have hq2 : (q : Int) < (es.length : Int) := by omega
          have hL := HCA.out q e he
          have hL' : ¬ (m : Int) ≤ (e.call : Int) := by have := HM.out; omega
          have hL0 : ¬ (e.call : Int) < 0 := by omega
          clear hL hx he
          go_wp2
          go_roundw
          case rel => exact ⟨q + 1, by omega, by go_num, by first | trivial | rfl⟩
          case measure => first | (simp [intOf]; done) | (simp [intOf]; omega)
        · obtain rfl : q = es.length := by omega
          go_wp2
          go_loopw [63] (fun i wr => ∃ k : Nat, k ≤ es.length ∧ i = .int .i64 k ∧ Hid (Below (w1.alloc (.cells #[.slice Ae es.length ce, .slice (some ⟨g, 0, none⟩) mm.words.length cg, .int .i64 (wrap64 mm.rd), .int .i64 (wrap64 mm.wr), .int .i64 (wrap64 mm.sw), .int .i64 (wrap64 mm.ad), .int .i64 (wrap64 mm.ft), .int .i64 now, .int .i64 idle] 32)).heap.size (w1.alloc (.cells #[.slice Ae es.length ce, .slice (some ⟨g, 0, none⟩) mm.words.length cg, .int .i64 (wrap64 mm.rd), .int .i64 (wrap64 mm.wr), .int .i64 (wrap64 mm.sw), .int .i64 (wrap64 mm.ad), .int .i64 (wrap64 mm.ft), .int .i64 now, .int .i64 idle] 32)) wr)) (fun i _ => es.length - (intOf i).toNat)
          case atStart => exact ⟨0, Nat.zero_le _, rfl, hide (Below.refl _ _)⟩
          case round =>
            obtain ⟨k, hk, rfl, hB⟩ := hrel
            obtain ⟨wo, rfl⟩ : ∃ wo : World, wo = wr := ⟨_, rfl⟩
            have hbw : Below w1.heap.size w1 wo := ((Below.refl _ w1).alloc (Nat.le_refl _) _).trans (hB.out.mono (by simp))
            have hzr : w1.heap.size < wo.heap.size := by have := hB.out.size; simp at this; omega
            have t0 : wo.cell? ⟨w1.heap.size, 0, none⟩ = some (.slice Ae es.length ce) := (hB.out.cell (p := ⟨w1.heap.size, 0, none⟩) (by simp)).trans (by go_simp)
            have hb0 : Below w0.heap.size w0 wo := HB1.out.trans (hbw.mono HB1.out.size)
            have HBW := hide hbw
            have HB0 := hide hb0
            by_cases hlt3 : k < es.length
            · obtain ⟨e, he⟩ : ∃ e, es[k]? = some e := ⟨_, List.getElem?_eq_getElem hlt3⟩
              obtain ⟨ge, rfl, hgz, x, hx, a0, a1, a2, a3, a4, a5, a6, a7⟩ := ev_at (HEV.out.below HBW.out) he
              have hk2 : (k : Int) < (es.length : Int) := by omega
              have hL := HCA.out k e he
              have hLm : (e.call : Int) < (m : Int) := by have := HM.out; omega
              obtain ⟨A', c', e1, g1, g2, g3⟩ := HC.out.below HB0.out (Nat.le_refl _)
              obtain ⟨bb, oo, e2, hbb, hcc⟩ := g3 _ _ (call_get hL)
              rw [HM.out] at e1
              cases e1
              cases e2
              obtain ⟨c0, c1, c2, c3, c4, c5⟩ := cl_cells hcc
              have hSI := HSI.out k e he
              have HE := hide he
              clear hL hx he hcc g1 g2 g3 hbw hb0
              by_cases q0 : (callOf cs e.call).obj = 0
              · have p0 : ((callOf cs e.call).obj != 0) = false := by simpa using q0
                by_cases q4 : e.ans.err = 0
                · have p4 : (e.ans.err != 0) = false := by simpa using q4
                  by_cases q1 : (callOf cs e.call).kind = 1
                  · have p1 : ((callOf cs e.call).kind != 1) = false := by simpa using q1
                    obtain ⟨f, hf, ⟨d, hd1, hd2⟩, hno, hcase⟩ := hSI q0 (Or.inl q1) q4
                    clear hSI q0 q1 q4
                    rcases hcase with ⟨hv, hnp⟩ | ⟨hv, hyp⟩
                    · have dv1 : decide (1 < e.ans.val) = false := by rw [hv]; rfl
                      have dv2 : (e.ans.val == 1) = true := by rw [hv]; rfl
                      have HNP := hide hnp
                      clear hv hnp
                      have hB1 : Below (w1.alloc (.cells #[.slice (some ⟨ge, 0, none⟩) es.length ce, .slice (some ⟨g, 0, none⟩) mm.words.length cg, .int .i64 (wrap64 mm.rd), .int .i64 (wrap64 mm.wr), .int .i64 (wrap64 mm.sw), .int .i64 (wrap64 mm.ad), .int .i64 (wrap64 mm.ft), .int .i64 now, .int .i64 idle] 32)).heap.size (w1.alloc (.cells #[.slice (some ⟨ge, 0, none⟩) es.length ce, .slice (some ⟨g, 0, none⟩) mm.words.length cg, .int .i64 (wrap64 mm.rd), .int .i64 (wrap64 mm.wr), .int .i64 (wrap64 mm.sw), .int .i64 (wrap64 mm.ad), .int .i64 (wrap64 mm.ft), .int .i64 now, .int .i64 idle] 32)) ((wo.alloc (.cells #[.int .i64 e.call, .int .i64 e.inv, .int .i64 e.resp, .int .i64 e.steps, .int .i64 e.ans.err, .int .u64 e.ans.val, .slice x.lA x.lN x.lC, .slice x.kA x.kN x.kC] 41)).alloc (.cells #[.int .i64 (callOf cs e.call).thread, .int .i64 (callOf cs e.call).obj, .int .i64 (callOf cs e.call).kind, .int .u64 (callOf cs e.call).a, .int .u64 (callOf cs e.call).b, .int .u64 (callOf cs e.call).c] 43)) := (hB.out.alloc hB.out.size _).alloc (by have := hB.out.size; simp at this ⊢; omega) _
                      have hbw1 : Below w1.heap.size w1 ((wo.alloc (.cells #[.int .i64 e.call, .int .i64 e.inv, .int .i64 e.resp, .int .i64 e.steps, .int .i64 e.ans.err, .int .u64 e.ans.val, .slice x.lA x.lN x.lC, .slice x.kA x.kN x.kC] 41)).alloc (.cells #[.int .i64 (callOf cs e.call).thread, .int .i64 (callOf cs e.call).obj, .int .i64 (callOf cs e.call).kind, .int .u64 (callOf cs e.call).a, .int .u64 (callOf cs e.call).b, .int .u64 (callOf cs e.call).c] 43)) := (HBW.out.alloc (Nat.le_of_lt hzr) _).alloc (by simp; omega) _
                      have hb01 : Below w0.heap.size w0 ((wo.alloc (.cells #[.int .i64 e.call, .int .i64 e.inv, .int .i64 e.resp, .int .i64 e.steps, .int .i64 e.ans.err, .int .u64 e.ans.val, .slice x.lA x.lN x.lC, .slice x.kA x.kN x.kC] 41)).alloc (.cells #[.int .i64 (callOf cs e.call).thread, .int .i64 (callOf cs e.call).obj, .int .i64 (callOf cs e.call).kind, .int .u64 (callOf cs e.call).a, .int .u64 (callOf cs e.call).b, .int .u64 (callOf cs e.call).c] 43)) := HB1.out.trans (hbw1.mono HB1.out.size)
                      have N1 := linkedW (some ⟨bb, oo, none⟩) (some ⟨ge, 0, none⟩) m c ce k B Mu cs es e ((wo.alloc (.cells #[.int .i64 e.call, .int .i64 e.inv, .int .i64 e.resp, .int .i64 e.steps, .int .i64 e.ans.err, .int .u64 e.ans.val, .slice x.lA x.lN x.lC, .slice x.kA x.kN x.kC] 41)).alloc (.cells #[.int .i64 (callOf cs e.call).thread, .int .i64 (callOf cs e.call).obj, .int .i64 (callOf cs e.call).kind, .int .u64 (callOf cs e.call).a, .int .u64 (callOf cs e.call).b, .int .u64 (callOf cs e.call).c] 43)) (HC.out.below hb01 (Nat.le_refl _)) HM.out (HEV.out.below hbw1) HCA.out HE.out HEL.out
                      have hlink : linkN cs es (callOf cs e.call).thread (callOf cs e.call).a k = f := linkN_is hd1 hd2 hf hno
                      rw [hlink] at N1
                      clear hlink
                      have HB1' := hide hB1
                      have HBW1 := hide hbw1
                      have HB01 := hide hb01
                      clear hB1 hbw1 hb01
                      go_wp2_with fail
                      refine N1.mono ?_
                      rintro e' w4 ⟨rfl, hb4⟩
                      have hB4 := HB1'.out.trans (hb4.mono HB1'.out.size)
                      have hbw4 := HBW1.out.trans (hb4.mono HBW1.out.size)
                      have hb04 := HB01.out.trans (hb4.mono HB01.out.size)
                      have r0 : w4.cell? ⟨w1.heap.size, 0, none⟩ = some (.slice (some ⟨ge, 0, none⟩) es.length ce) := (hb4.cell (p := ⟨w1.heap.size, 0, none⟩) (by simp; omega)).trans (by go_simp)
                      have r5 : w4.cell? ⟨wo.heap.size, 5, none⟩ = some (.int .u64 e.ans.val) := (hb4.cell (p := ⟨wo.heap.size, 5, none⟩) (by simp; omega)).trans (by go_simp)
                      have hs4 : wo.heap.size + 2 ≤ w4.heap.size := by have := hb4.size; simpa using this
                      have N2 := writtenW (some ⟨bb, oo, none⟩) (some ⟨ge, 0, none⟩) m c ce f k B Mu cs es e w4.drew (HC.out.below hb04.drew (Nat.le_refl _)) HM.out (HEV.out.below hbw4.drew) HCA.out HE.out HEL.out hf
                      have HB4 := hide hB4
                      have HBW4 := hide hbw4
                      have HB04 := hide hb04
                      have HW4 := hide hb4
                      have hz0 : w1.heap.size < w4.heap.size := by omega
                      have hz5 : wo.heap.size < w4.heap.size := by omega
                      clear N1 hb4 hB4 hbw4 hb04 t0 a0 a1 a2 a3 a4 a5 a6 a7
                      go_wp2
                      refine wp_region_seq (fun Y => Below w4.heap.size w4 Y) (.take 0 <| .take 1 <| .take 2 <| .take 3 <| .take 4 <| .take 5 <| .take 6 <| .take 7 <| .take 8 <| .take 9 <| .take 10 <| .take 11 <| .take 12 <| .take 13 <| .take 14 <| .take 15 <| .take 16 <| .take 17 <| .run 18 <| .take 19 <| .take 20 <| .done) (by kernel_rfl) (by kernel_rfl) (by kernel_rfl) (by (repeat' (first | exact Below.refl _ _ | assumption | refine Below.drew ?_ | refine below_drewN ?_ _ | refine Below.alloc ?_ (by simp <;> omega) _ | refine Below.setCell ?_ (by simp <;> omega) _))) ?_
                      repeat (first | (refine seq_take (v := ?_) rfl (by rfl) ?_ ?_; rotate_left; (focus (intro wS hS; replace hS := bcellc hS; go_simp; exact rfl)); simp only [Act.put, List.setIfInBounds_toArray, List.set_cons_zero, List.set_cons_succ]) | (refine seq_skip rfl (by rfl) ?_; simp only [Act.put, List.setIfInBounds_toArray, List.set_cons_zero, List.set_cons_succ]) | (refine seq_pass rfl (by rfl) (by assumption) ?_; simp only [Act.put, List.setIfInBounds_toArray, List.set_cons_zero, List.set_cons_succ]))
                      (refine seq_run rfl (by rfl) (fun K hK => ?_); go_simp)
                      refine N2.mono ?_
                      rintro e' w5 ⟨wb, rfl, hwb, hb5⟩
                      have hb45 : Below w4.heap.size w4 w5 := (Below.refl _ w4).drew.trans hb5
                      obtain rfl : wb = false := by
                        rw [Bool.eq_false_iff]
                        intro hh
                        obtain ⟨j, d, r1, r2, r3, r4⟩ := hwb.1 hh
                        exact HNP.out j d r1 r2 r3 r4
                      refine hK _ _ hb45 ?_
                      have HB5 := hide (HB4.out.trans (hb45.mono HB4.out.size))
                      clear hK K N2 hb5 hwb hb45
                      repeat (first | (refine seq_take (v := ?_) rfl (by rfl) ?_ ?_; rotate_left; (focus (intro wS hS; replace hS := bcellc hS; go_simp; exact rfl)); simp only [Act.put, List.setIfInBounds_toArray, List.set_cons_zero, List.set_cons_succ]) | (refine seq_skip rfl (by rfl) ?_; simp only [Act.put, List.setIfInBounds_toArray, List.set_cons_zero, List.set_cons_succ]) | (refine seq_pass rfl (by rfl) (by assumption) ?_; simp only [Act.put, List.setIfInBounds_toArray, List.set_cons_zero, List.set_cons_succ]))
                      refine seq_nil ?_
                      go_wp2
                      go_roundw
                      case rel => exact ⟨k + 1, by omega, by go_num, HB5⟩
                      case measure => first | (simp [intOf]; done) | (simp [intOf]; omega)
                    · have dv1 : decide (1 < e.ans.val) = false := by rw [hv]; rfl
                      have dv2 : (e.ans.val == 1) = false := by rw [hv]; rfl
                      have HYP := hide hyp
                      clear hv hyp
                      have hB1 : Below (w1.alloc (.cells #[.slice (some ⟨ge, 0, none⟩) es.length ce, .slice (some ⟨g, 0, none⟩) mm.words.length cg, .int .i64 (wrap64 mm.rd), .int .i64 (wrap64 mm.wr), .int .i64 (wrap64 mm.sw), .int .i64 (wrap64 mm.ad), .int .i64 (wrap64 mm.ft), .int .i64 now, .int .i64 idle] 32)).heap.size (w1.alloc (.cells #[.slice (some ⟨ge, 0, none⟩) es.length ce, .slice (some ⟨g, 0, none⟩) mm.words.length cg, .int .i64 (wrap64 mm.rd), .int .i64 (wrap64 mm.wr), .int .i64 (wrap64 mm.sw), .int .i64 (wrap64 mm.ad), .int .i64 (wrap64 mm.ft), .int .i64 now, .int .i64 idle] 32)) ((wo.alloc (.cells #[.int .i64 e.call, .int .i64 e.inv, .int .i64 e.resp, .int .i64 e.steps, .int .i64 e.ans.err, .int .u64 e.ans.val, .slice x.lA x.lN x.lC, .slice x.kA x.kN x.kC] 41)).alloc (.cells #[.int .i64 (callOf cs e.call).thread, .int .i64 (callOf cs e.call).obj, .int .i64 (callOf cs e.call).kind, .int .u64 (callOf cs e.call).a, .int .u64 (callOf cs e.call).b, .int .u64 (callOf cs e.call).c] 43)) := (hB.out.alloc hB.out.size _).alloc (by have := hB.out.size; simp at this ⊢; omega) _
                      have hbw1 : Below w1.heap.size w1 ((wo.alloc (.cells #[.int .i64 e.call, .int .i64 e.inv, .int .i64 e.resp, .int .i64 e.steps, .int .i64 e.ans.err, .int .u64 e.ans.val, .slice x.lA x.lN x.lC, .slice x.kA x.kN x.kC] 41)).alloc (.cells #[.int .i64 (callOf cs e.call).thread, .int .i64 (callOf cs e.call).obj, .int .i64 (callOf cs e.call).kind, .int .u64 (callOf cs e.call).a, .int .u64 (callOf cs e.call).b, .int .u64 (callOf cs e.call).c] 43)) := (HBW.out.alloc (Nat.le_of_lt hzr) _).alloc (by simp; omega) _
                      have hb01 : Below w0.heap.size w0 ((wo.alloc (.cells #[.int .i64 e.call, .int .i64 e.inv, .int .i64 e.resp, .int .i64 e.steps, .int .i64 e.ans.err, .int .u64 e.ans.val, .slice x.lA x.lN x.lC, .slice x.kA x.kN x.kC] 41)).alloc (.cells #[.int .i64 (callOf cs e.call).thread, .int .i64 (callOf cs e.call).obj, .int .i64 (callOf cs e.call).kind, .int .u64 (callOf cs e.call).a, .int .u64 (callOf cs e.call).b, .int .u64 (callOf cs e.call).c] 43)) := HB1.out.trans (hbw1.mono HB1.out.size)
                      have N1 := linkedW (some ⟨bb, oo, none⟩) (some ⟨ge, 0, none⟩) m c ce k B Mu cs es e ((wo.alloc (.cells #[.int .i64 e.call, .int .i64 e.inv, .int .i64 e.resp, .int .i64 e.steps, .int .i64 e.ans.err, .int .u64 e.ans.val, .slice x.lA x.lN x.lC, .slice x.kA x.kN x.kC] 41)).alloc (.cells #[.int .i64 (callOf cs e.call).thread, .int .i64 (callOf cs e.call).obj, .int .i64 (callOf cs e.call).kind, .int .u64 (callOf cs e.call).a, .int .u64 (callOf cs e.call).b, .int .u64 (callOf cs e.call).c] 43)) (HC.out.below hb01 (Nat.le_refl _)) HM.out (HEV.out.below hbw1) HCA.out HE.out HEL.out
                      have hlink : linkN cs es (callOf cs e.call).thread (callOf cs e.call).a k = f := linkN_is hd1 hd2 hf hno
                      rw [hlink] at N1
                      clear hlink
                      have HB1' := hide hB1
                      have HBW1 := hide hbw1
                      have HB01 := hide hb01
                      clear hB1 hbw1 hb01
                      go_wp2_with fail
                      refine N1.mono ?_
                      rintro e' w4 ⟨rfl, hb4⟩
                      have hB4 := HB1'.out.trans (hb4.mono HB1'.out.size)
                      have hbw4 := HBW1.out.trans (hb4.mono HBW1.out.size)
                      have hb04 := HB01.out.trans (hb4.mono HB01.out.size)
                      have r0 : w4.cell? ⟨w1.heap.size, 0, none⟩ = some (.slice (some ⟨ge, 0, none⟩) es.length ce) := (hb4.cell (p := ⟨w1.heap.size, 0, none⟩) (by simp; omega)).trans (by go_simp)
                      have r5 : w4.cell? ⟨wo.heap.size, 5, none⟩ = some (.int .u64 e.ans.val) := (hb4.cell (p := ⟨wo.heap.size, 5, none⟩) (by simp; omega)).trans (by go_simp)
                      have hs4 : wo.heap.size + 2 ≤ w4.heap.size := by have := hb4.size; simpa using this
                      have N2 := writtenW (some ⟨bb, oo, none⟩) (some ⟨ge, 0, none⟩) m c ce f k B Mu cs es e w4.drew (HC.out.below hb04.drew (Nat.le_refl _)) HM.out (HEV.out.below hbw4.drew) HCA.out HE.out HEL.out hf
                      have HB4 := hide hB4
                      have HBW4 := hide hbw4
                      have HB04 := hide hb04
                      have HW4 := hide hb4
                      have hz0 : w1.heap.size < w4.heap.size := by omega
                      have hz5 : wo.heap.size < w4.heap.size := by omega
                      clear N1 hb4 hB4 hbw4 hb04 t0 a0 a1 a2 a3 a4 a5 a6 a7
                      go_wp2
                      refine wp_region_seq (fun Y => Below w4.heap.size w4 Y) (.take 0 <| .take 1 <| .take 2 <| .take 3 <| .take 4 <| .take 5 <| .take 6 <| .take 7 <| .take 8 <| .take 9 <| .take 10 <| .take 11 <| .take 12 <| .take 13 <| .take 14 <| .take 15 <| .take 16 <| .take 17 <| .run 18 <| .take 19 <| .take 20 <| .done) (by kernel_rfl) (by kernel_rfl) (by kernel_rfl) (by (repeat' (first | exact Below.refl _ _ | assumption | refine Below.drew ?_ | refine below_drewN ?_ _ | refine Below.alloc ?_ (by simp <;> omega) _ | refine Below.setCell ?_ (by simp <;> omega) _))) ?_
                      repeat (first | (refine seq_take (v := ?_) rfl (by rfl) ?_ ?_; rotate_left; (focus (intro wS hS; replace hS := bcellc hS; go_simp; exact rfl)); simp only [Act.put, List.setIfInBounds_toArray, List.set_cons_zero, List.set_cons_succ]) | (refine seq_skip rfl (by rfl) ?_; simp only [Act.put, List.setIfInBounds_toArray, List.set_cons_zero, List.set_cons_succ]) | (refine seq_pass rfl (by rfl) (by assumption) ?_; simp only [Act.put, List.setIfInBounds_toArray, List.set_cons_zero, List.set_cons_succ]))
                      (refine seq_run rfl (by rfl) (fun K hK => ?_); go_simp)
                      refine N2.mono ?_
                      rintro e' w5 ⟨wb, rfl, hwb, hb5⟩
                      have hb45 : Below w4.heap.size w4 w5 := (Below.refl _ w4).drew.trans hb5
                      obtain rfl : wb = true := hwb.2 (by
                        obtain ⟨j, d, r1, r2, r3, r4⟩ := HYP.out
                        exact ⟨j, d, r1, r2, r3, r4⟩)
                      refine hK _ _ hb45 ?_
                      have HB5 := hide (HB4.out.trans (hb45.mono HB4.out.size))
                      clear hK K N2 hb5 hwb hb45
                      repeat (first | (refine seq_take (v := ?_) rfl (by rfl) ?_ ?_; rotate_left; (focus (intro wS hS; replace hS := bcellc hS; go_simp; exact rfl)); simp only [Act.put, List.setIfInBounds_toArray, List.set_cons_zero, List.set_cons_succ]) | (refine seq_skip rfl (by rfl) ?_; simp only [Act.put, List.setIfInBounds_toArray, List.set_cons_zero, List.set_cons_succ]) | (refine seq_pass rfl (by rfl) (by assumption) ?_; simp only [Act.put, List.setIfInBounds_toArray, List.set_cons_zero, List.set_cons_succ]))
                      refine seq_nil ?_
                      go_wp2
                      go_roundw
                      case rel => exact ⟨k + 1, by omega, by go_num, HB5⟩
                      case measure => first | (simp [intOf]; done) | (simp [intOf]; omega)
                  · have p1 : ((callOf cs e.call).kind != 1) = true := by simpa using q1
                    by_cases q2 : (callOf cs e.call).kind = 2
                    · have p2 : ((callOf cs e.call).kind != 2) = false := by simpa using q2
                      obtain ⟨f, hf, ⟨d, hd1, hd2⟩, hno, hcase⟩ := hSI q0 (Or.inr q2) q4
                      clear hSI q0 q1 q2 q4
                      rcases hcase with ⟨hv, hnp⟩ | ⟨hv, hyp⟩
                      · have dv1 : decide (1 < e.ans.val) = false := by rw [hv]; rfl
                        have dv2 : (e.ans.val == 1) = true := by rw [hv]; rfl
                        have HNP := hide hnp
                        clear hv hnp
                        have hB1 : Below (w1.alloc (.cells #[.slice (some ⟨ge, 0, none⟩) es.length ce, .slice (some ⟨g, 0, none⟩) mm.words.length cg, .int .i64 (wrap64 mm.rd), .int .i64 (wrap64 mm.wr), .int .i64 (wrap64 mm.sw), .int .i64 (wrap64 mm.ad), .int .i64 (wrap64 mm.ft), .int .i64 now, .int .i64 idle] 32)).heap.size (w1.alloc (.cells #[.slice (some ⟨ge, 0, none⟩) es.length ce, .slice (some ⟨g, 0, none⟩) mm.words.length cg, .int .i64 (wrap64 mm.rd), .int .i64 (wrap64 mm.wr), .int .i64 (wrap64 mm.sw), .int .i64 (wrap64 mm.ad), .int .i64 (wrap64 mm.ft), .int .i64 now, .int .i64 idle] 32)) ((wo.alloc (.cells #[.int .i64 e.call, .int .i64 e.inv, .int .i64 e.resp, .int .i64 e.steps, .int .i64 e.ans.err, .int .u64 e.ans.val, .slice x.lA x.lN x.lC, .slice x.kA x.kN x.kC] 41)).alloc (.cells #[.int .i64 (callOf cs e.call).thread, .int .i64 (callOf cs e.call).obj, .int .i64 (callOf cs e.call).kind, .int .u64 (callOf cs e.call).a, .int .u64 (callOf cs e.call).b, .int .u64 (callOf cs e.call).c] 43)) := (hB.out.alloc hB.out.size _).alloc (by have := hB.out.size; simp at this ⊢; omega) _
                        have hbw1 : Below w1.heap.size w1 ((wo.alloc (.cells #[.int .i64 e.call, .int .i64 e.inv, .int .i64 e.resp, .int .i64 e.steps, .int .i64 e.ans.err, .int .u64 e.ans.val, .slice x.lA x.lN x.lC, .slice x.kA x.kN x.kC] 41)).alloc (.cells #[.int .i64 (callOf cs e.call).thread, .int .i64 (callOf cs e.call).obj, .int .i64 (callOf cs e.call).kind, .int .u64 (callOf cs e.call).a, .int .u64 (callOf cs e.call).b, .int .u64 (callOf cs e.call).c] 43)) := (HBW.out.alloc (Nat.le_of_lt hzr) _).alloc (by simp; omega) _
                        have hb01 : Below w0.heap.size w0 ((wo.alloc (.cells #[.int .i64 e.call, .int .i64 e.inv, .int .i64 e.resp, .int .i64 e.steps, .int .i64 e.ans.err, .int .u64 e.ans.val, .slice x.lA x.lN x.lC, .slice x.kA x.kN x.kC] 41)).alloc (.cells #[.int .i64 (callOf cs e.call).thread, .int .i64 (callOf cs e.call).obj, .int .i64 (callOf cs e.call).kind, .int .u64 (callOf cs e.call).a, .int .u64 (callOf cs e.call).b, .int .u64 (callOf cs e.call).c] 43)) := HB1.out.trans (hbw1.mono HB1.out.size)
                        have N1 := linkedW (some ⟨bb, oo, none⟩) (some ⟨ge, 0, none⟩) m c ce k B Mu cs es e ((wo.alloc (.cells #[.int .i64 e.call, .int .i64 e.inv, .int .i64 e.resp, .int .i64 e.steps, .int .i64 e.ans.err, .int .u64 e.ans.val, .slice x.lA x.lN x.lC, .slice x.kA x.kN x.kC] 41)).alloc (.cells #[.int .i64 (callOf cs e.call).thread, .int .i64 (callOf cs e.call).obj, .int .i64 (callOf cs e.call).kind, .int .u64 (callOf cs e.call).a, .int .u64 (callOf cs e.call).b, .int .u64 (callOf cs e.call).c] 43)) (HC.out.below hb01 (Nat.le_refl _)) HM.out (HEV.out.below hbw1) HCA.out HE.out HEL.out
                        have hlink : linkN cs es (callOf cs e.call).thread (callOf cs e.call).a k = f := linkN_is hd1 hd2 hf hno
                        rw [hlink] at N1
                        clear hlink
                        have HB1' := hide hB1
                        have HBW1 := hide hbw1
                        have HB01 := hide hb01
                        clear hB1 hbw1 hb01
                        go_wp2_with fail
                        refine N1.mono ?_
                        rintro e' w4 ⟨rfl, hb4⟩
                        have hB4 := HB1'.out.trans (hb4.mono HB1'.out.size)
                        have hbw4 := HBW1.out.trans (hb4.mono HBW1.out.size)
                        have hb04 := HB01.out.trans (hb4.mono HB01.out.size)
                        have r0 : w4.cell? ⟨w1.heap.size, 0, none⟩ = some (.slice (some ⟨ge, 0, none⟩) es.length ce) := (hb4.cell (p := ⟨w1.heap.size, 0, none⟩) (by simp; omega)).trans (by go_simp)
                        have r5 : w4.cell? ⟨wo.heap.size, 5, none⟩ = some (.int .u64 e.ans.val) := (hb4.cell (p := ⟨wo.heap.size, 5, none⟩) (by simp; omega)).trans (by go_simp)
                        have hs4 : wo.heap.size + 2 ≤ w4.heap.size := by have := hb4.size; simpa using this
                        have N2 := writtenW (some ⟨bb, oo, none⟩) (some ⟨ge, 0, none⟩) m c ce f k B Mu cs es e w4.drew (HC.out.below hb04.drew (Nat.le_refl _)) HM.out (HEV.out.below hbw4.drew) HCA.out HE.out HEL.out hf
                        have HB4 := hide hB4
                        have HBW4 := hide hbw4
                        have HB04 := hide hb04
                        have HW4 := hide hb4
                        have hz0 : w1.heap.size < w4.heap.size := by omega
                        have hz5 : wo.heap.size < w4.heap.size := by omega
                        clear N1 hb4 hB4 hbw4 hb04 t0 a0 a1 a2 a3 a4 a5 a6 a7
                        go_wp2
                        refine wp_region_seq (fun Y => Below w4.heap.size w4 Y) (.take 0 <| .take 1 <| .take 2 <| .take 3 <| .take 4 <| .take 5 <| .take 6 <| .take 7 <| .take 8 <| .take 9 <| .take 10 <| .take 11 <| .take 12 <| .take 13 <| .take 14 <| .take 15 <| .take 16 <| .take 17 <| .run 18 <| .take 19 <| .take 20 <| .done) (by kernel_rfl) (by kernel_rfl) (by kernel_rfl) (by (repeat' (first | exact Below.refl _ _ | assumption | refine Below.drew ?_ | refine below_drewN ?_ _ | refine Below.alloc ?_ (by simp <;> omega) _ | refine Below.setCell ?_ (by simp <;> omega) _))) ?_
                        repeat (first | (refine seq_take (v := ?_) rfl (by rfl) ?_ ?_; rotate_left; (focus (intro wS hS; replace hS := bcellc hS; go_simp; exact rfl)); simp only [Act.put, List.setIfInBounds_toArray, List.set_cons_zero, List.set_cons_succ]) | (refine seq_skip rfl (by rfl) ?_; simp only [Act.put, List.setIfInBounds_toArray, List.set_cons_zero, List.set_cons_succ]) | (refine seq_pass rfl (by rfl) (by assumption) ?_; simp only [Act.put, List.setIfInBounds_toArray, List.set_cons_zero, List.set_cons_succ]))
                        (refine seq_run rfl (by rfl) (fun K hK => ?_); go_simp)
                        refine N2.mono ?_
                        rintro e' w5 ⟨wb, rfl, hwb, hb5⟩
                        have hb45 : Below w4.heap.size w4 w5 := (Below.refl _ w4).drew.trans hb5
                        obtain rfl : wb = false := by
                          rw [Bool.eq_false_iff]
                          intro hh
                          obtain ⟨j, d, r1, r2, r3, r4⟩ := hwb.1 hh
                          exact HNP.out j d r1 r2 r3 r4
                        refine hK _ _ hb45 ?_
                        have HB5 := hide (HB4.out.trans (hb45.mono HB4.out.size))
                        clear hK K N2 hb5 hwb hb45
                        repeat (first | (refine seq_take (v := ?_) rfl (by rfl) ?_ ?_; rotate_left; (focus (intro wS hS; replace hS := bcellc hS; go_simp; exact rfl)); simp only [Act.put, List.setIfInBounds_toArray, List.set_cons_zero, List.set_cons_succ]) | (refine seq_skip rfl (by rfl) ?_; simp only [Act.put, List.setIfInBounds_toArray, List.set_cons_zero, List.set_cons_succ]) | (refine seq_pass rfl (by rfl) (by assumption) ?_; simp only [Act.put, List.setIfInBounds_toArray, List.set_cons_zero, List.set_cons_succ]))
                        refine seq_nil ?_
                        go_wp2
                        go_roundw
                        case rel => exact ⟨k + 1, by omega, by go_num, HB5⟩
                        case measure => first | (simp [intOf]; done) | (simp [intOf]; omega)
                      · have dv1 : decide (1 < e.ans.val) = false := by rw [hv]; rfl
                        have dv2 : (e.ans.val == 1) = false := by rw [hv]; rfl
                        have HYP := hide hyp
                        clear hv hyp
                        have hB1 : Below (w1.alloc (.cells #[.slice (some ⟨ge, 0, none⟩) es.length ce, .slice (some ⟨g, 0, none⟩) mm.words.length cg, .int .i64 (wrap64 mm.rd), .int .i64 (wrap64 mm.wr), .int .i64 (wrap64 mm.sw), .int .i64 (wrap64 mm.ad), .int .i64 (wrap64 mm.ft), .int .i64 now, .int .i64 idle] 32)).heap.size (w1.alloc (.cells #[.slice (some ⟨ge, 0, none⟩) es.length ce, .slice (some ⟨g, 0, none⟩) mm.words.length cg, .int .i64 (wrap64 mm.rd), .int .i64 (wrap64 mm.wr), .int .i64 (wrap64 mm.sw), .int .i64 (wrap64 mm.ad), .int .i64 (wrap64 mm.ft), .int .i64 now, .int .i64 idle] 32)) ((wo.alloc (.cells #[.int .i64 e.call, .int .i64 e.inv, .int .i64 e.resp, .int .i64 e.steps, .int .i64 e.ans.err, .int .u64 e.ans.val, .slice x.lA x.lN x.lC, .slice x.kA x.kN x.kC] 41)).alloc (.cells #[.int .i64 (callOf cs e.call).thread, .int .i64 (callOf cs e.call).obj, .int .i64 (callOf cs e.call).kind, .int .u64 (callOf cs e.call).a, .int .u64 (callOf cs e.call).b, .int .u64 (callOf cs e.call).c] 43)) := (hB.out.alloc hB.out.size _).alloc (by have := hB.out.size; simp at this ⊢; omega) _
                        have hbw1 : Below w1.heap.size w1 ((wo.alloc (.cells #[.int .i64 e.call, .int .i64 e.inv, .int .i64 e.resp, .int .i64 e.steps, .int .i64 e.ans.err, .int .u64 e.ans.val, .slice x.lA x.lN x.lC, .slice x.kA x.kN x.kC] 41)).alloc (.cells #[.int .i64 (callOf cs e.call).thread, .int .i64 (callOf cs e.call).obj, .int .i64 (callOf cs e.call).kind, .int .u64 (callOf cs e.call).a, .int .u64 (callOf cs e.call).b, .int .u64 (callOf cs e.call).c] 43)) := (HBW.out.alloc (Nat.le_of_lt hzr) _).alloc (by simp; omega) _
                        have hb01 : Below w0.heap.size w0 ((wo.alloc (.cells #[.int .i64 e.call, .int .i64 e.inv, .int .i64 e.resp, .int .i64 e.steps, .int .i64 e.ans.err, .int .u64 e.ans.val, .slice x.lA x.lN x.lC, .slice x.kA x.kN x.kC] 41)).alloc (.cells #[.int .i64 (callOf cs e.call).thread, .int .i64 (callOf cs e.call).obj, .int .i64 (callOf cs e.call).kind, .int .u64 (callOf cs e.call).a, .int .u64 (callOf cs e.call).b, .int .u64 (callOf cs e.call).c] 43)) := HB1.out.trans (hbw1.mono HB1.out.size)
                        have N1 := linkedW (some ⟨bb, oo, none⟩) (some ⟨ge, 0, none⟩) m c ce k B Mu cs es e ((wo.alloc (.cells #[.int .i64 e.call, .int .i64 e.inv, .int .i64 e.resp, .int .i64 e.steps, .int .i64 e.ans.err, .int .u64 e.ans.val, .slice x.lA x.lN x.lC, .slice x.kA x.kN x.kC] 41)).alloc (.cells #[.int .i64 (callOf cs e.call).thread, .int .i64 (callOf cs e.call).obj, .int .i64 (callOf cs e.call).kind, .int .u64 (callOf cs e.call).a, .int .u64 (callOf cs e.call).b, .int .u64 (callOf cs e.call).c] 43)) (HC.out.below hb01 (Nat.le_refl _)) HM.out (HEV.out.below hbw1) HCA.out HE.out HEL.out
                        have hlink : linkN cs es (callOf cs e.call).thread (callOf cs e.call).a k = f := linkN_is hd1 hd2 hf hno
                        rw [hlink] at N1
                        clear hlink
                        have HB1' := hide hB1
                        have HBW1 := hide hbw1
                        have HB01 := hide hb01
                        clear hB1 hbw1 hb01
                        go_wp2_with fail
                        refine N1.mono ?_
                        rintro e' w4 ⟨rfl, hb4⟩
                        have hB4 := HB1'.out.trans (hb4.mono HB1'.out.size)
                        have hbw4 := HBW1.out.trans (hb4.mono HBW1.out.size)
                        have hb04 := HB01.out.trans (hb4.mono HB01.out.size)
                        have r0 : w4.cell? ⟨w1.heap.size, 0, none⟩ = some (.slice (some ⟨ge, 0, none⟩) es.length ce) := (hb4.cell (p := ⟨w1.heap.size, 0, none⟩) (by simp; omega)).trans (by go_simp)
                        have r5 : w4.cell? ⟨wo.heap.size, 5, none⟩ = some (.int .u64 e.ans.val) := (hb4.cell (p := ⟨wo.heap.size, 5, none⟩) (by simp; omega)).trans (by go_simp)
                        have hs4 : wo.heap.size + 2 ≤ w4.heap.size := by have := hb4.size; simpa using this
                        have N2 := writtenW (some ⟨bb, oo, none⟩) (some ⟨ge, 0, none⟩) m c ce f k B Mu cs es e w4.drew (HC.out.below hb04.drew (Nat.le_refl _)) HM.out (HEV.out.below hbw4.drew) HCA.out HE.out HEL.out hf
                        have HB4 := hide hB4
                        have HBW4 := hide hbw4
                        have HB04 := hide hb04
                        have HW4 := hide hb4
                        have hz0 : w1.heap.size < w4.heap.size := by omega
                        have hz5 : wo.heap.size < w4.heap.size := by omega
                        clear N1 hb4 hB4 hbw4 hb04 t0 a0 a1 a2 a3 a4 a5 a6 a7
                        go_wp2
                        refine wp_region_seq (fun Y => Below w4.heap.size w4 Y) (.take 0 <| .take 1 <| .take 2 <| .take 3 <| .take 4 <| .take 5 <| .take 6 <| .take 7 <| .take 8 <| .take 9 <| .take 10 <| .take 11 <| .take 12 <| .take 13 <| .take 14 <| .take 15 <| .take 16 <| .take 17 <| .run 18 <| .take 19 <| .take 20 <| .done) (by kernel_rfl) (by kernel_rfl) (by kernel_rfl) (by (repeat' (first | exact Below.refl _ _ | assumption | refine Below.drew ?_ | refine below_drewN ?_ _ | refine Below.alloc ?_ (by simp <;> omega) _ | refine Below.setCell ?_ (by simp <;> omega) _))) ?_
                        repeat (first | (refine seq_take (v := ?_) rfl (by rfl) ?_ ?_; rotate_left; (focus (intro wS hS; replace hS := bcellc hS; go_simp; exact rfl)); simp only [Act.put, List.setIfInBounds_toArray, List.set_cons_zero, List.set_cons_succ]) | (refine seq_skip rfl (by rfl) ?_; simp only [Act.put, List.setIfInBounds_toArray, List.set_cons_zero, List.set_cons_succ]) | (refine seq_pass rfl (by rfl) (by assumption) ?_; simp only [Act.put, List.setIfInBounds_toArray, List.set_cons_zero, List.set_cons_succ]))
                        (refine seq_run rfl (by rfl) (fun K hK => ?_); go_simp)
                        refine N2.mono ?_
                        rintro e' w5 ⟨wb, rfl, hwb, hb5⟩
                        have hb45 : Below w4.heap.size w4 w5 := (Below.refl _ w4).drew.trans hb5
                        obtain rfl : wb = true := hwb.2 (by
                          obtain ⟨j, d, r1, r2, r3, r4⟩ := HYP.out
                          exact ⟨j, d, r1, r2, r3, r4⟩)
                        refine hK _ _ hb45 ?_
                        have HB5 := hide (HB4.out.trans (hb45.mono HB4.out.size))
                        clear hK K N2 hb5 hwb hb45
                        repeat (first | (refine seq_take (v := ?_) rfl (by rfl) ?_ ?_; rotate_left; (focus (intro wS hS; replace hS := bcellc hS; go_simp; exact rfl)); simp only [Act.put, List.setIfInBounds_toArray, List.set_cons_zero, List.set_cons_succ]) | (refine seq_skip rfl (by rfl) ?_; simp only [Act.put, List.setIfInBounds_toArray, List.set_cons_zero, List.set_cons_succ]) | (refine seq_pass rfl (by rfl) (by assumption) ?_; simp only [Act.put, List.setIfInBounds_toArray, List.set_cons_zero, List.set_cons_succ]))
                        refine seq_nil ?_
                        go_wp2
                        go_roundw
                        case rel => exact ⟨k + 1, by omega, by go_num, HB5⟩
                        case measure => first | (simp [intOf]; done) | (simp [intOf]; omega)
                    · have p2 : ((callOf cs e.call).kind != 2) = true := by simpa using q2
                      clear hSI q0 q1 q2 q4
                      go_wp2
                      go_roundw
                      case rel => exact ⟨k + 1, by omega, by go_num, hide ((hB.out.alloc hB.out.size _).alloc (by have := hB.out.size; simp at this ⊢; omega) _)⟩
                      case measure => first | (simp [intOf]; done) | (simp [intOf]; omega)
                · have p4 : (e.ans.err != 0) = true := by simpa using q4
                  clear hSI
                  by_cases q1 : (callOf cs e.call).kind = 1
                  · have p1 : ((callOf cs e.call).kind != 1) = false := by simpa using q1
                    clear q0 q1 q4
                    go_wp2
                    go_roundw
                    case rel => exact ⟨k + 1, by omega, by go_num, hide ((hB.out.alloc hB.out.size _).alloc (by have := hB.out.size; simp at this ⊢; omega) _)⟩
                    case measure => first | (simp [intOf]; done) | (simp [intOf]; omega)
                  · have p1 : ((callOf cs e.call).kind != 1) = true := by simpa using q1
                    by_cases q2 : (callOf cs e.call).kind = 2
                    · have p2 : ((callOf cs e.call).kind != 2) = false := by simpa using q2
                      clear q0 q1 q2 q4
                      go_wp2
                      go_roundw
                      case rel => exact ⟨k + 1, by omega, by go_num, hide ((hB.out.alloc hB.out.size _).alloc (by have := hB.out.size; simp at this ⊢; omega) _)⟩
                      case measure => first | (simp [intOf]; done) | (simp [intOf]; omega)
                    · have p2 : ((callOf cs e.call).kind != 2) = true := by simpa using q2
                      clear q0 q1 q2 q4
                      go_wp2
                      go_roundw
                      case rel => exact ⟨k + 1, by omega, by go_num, hide ((hB.out.alloc hB.out.size _).alloc (by have := hB.out.size; simp at this ⊢; omega) _)⟩
                      case measure => first | (simp [intOf]; done) | (simp [intOf]; omega)
              · have p0 : ((callOf cs e.call).obj != 0) = true := by simpa using q0
                clear hSI q0
                go_wp2
                go_roundw
                case rel => exact ⟨k + 1, by omega, by go_num, hide ((hB.out.alloc hB.out.size _).alloc (by have := hB.out.size; simp at this ⊢; omega) _)⟩
                case measure => first | (simp [intOf]; done) | (simp [intOf]; omega)
            · obtain rfl : k = es.length := by omega
              go_wp2_with fail
              refine (againW _).mono ?_
              rintro e w3 ⟨rfl, hb3⟩
              have HB3 := hide hb3
              clear hb3
              go_wp2
              go_ret
              exact ⟨rfl, (HQ0.out.trans ((HB0.out.trans (HB3.out.mono HB0.out.size)).mono HQ0.out.size))⟩
    · have d0 : (E != 0) = true := by simpa using h0
      have HE := hide h0
      have HN := hide N
      have HC := hide h'
      clear hE hb h' hp' hcu h0 N
      go_enter Try.func3, Try.ntmps3
      go_wp2_with fail
      refine N0.mono ?_
      rintro e w0 ⟨rfl, hw0⟩
      have HQ0 : Hid (Below w.heap.size w w0) := hide (by rw [hw0]; exact HQ.out)
      have N := HN.out
      rw [← hw0] at N HC HY
      obtain ⟨y0, y1, yz⟩ := HY.out
      clear hw0 N0 HN HQ HY
      go_wp2_with fail
      refine N.mono ?_
      rintro e w1 (⟨_, rfl, hb⟩ | ⟨h, _⟩)
      rotate_left
      · exact absurd h HE.out
      have HB1 := hide hb
      clear hb N
      unfold zeroV
      have N1 := noneZero (w1.alloc zeroRep)
      unfold zeroV zeroRep at N1
      go_wp2_with fail
      refine N1.mono ?_
      rintro e w2 ⟨rfl, hb2⟩
      have HB2 := hide hb2
      clear hb2 N1
      go_wp2_with fail
      refine (againW _).mono ?_
      rintro e w3 ⟨rfl, hb3⟩
      have HB3 := hide hb3
      clear hb3
      go_wp2
      go_ret
      have hb4 := HB1.out.alloc HB1.out.size zeroRep
      have hb5 := hb4.trans (HB2.out.mono hb4.size)
      have hb6 := hb5.trans (HB3.out.mono hb5.size)
      exact ⟨rfl, HQ0.out.trans (hb6.mono HQ0.out.size)⟩
  · clear hb h' hp' hcu N
    go_enter Try.func3, Try.ntmps3
    go_wp2_with fail
    refine N0.mono ?_
    rintro e w0 ⟨rfl, hw0⟩
    have HQ0 : Hid (Below w.heap.size w w0) := hide (by rw [hw0]; exact HQ.out)
    clear hw0
    go_wp2_with fail
    refine (againW _).mono ?_
    rintro e w3 ⟨rfl, hb3⟩
    have HB3 := hide hb3
    clear hb3
    go_wp2
    go_ret
    exact ⟨rfl, HQ0.out.trans (HB3.out.mono HQ0.out.size)⟩
end Go.Proofs.Ytlfingcmekifkaa
