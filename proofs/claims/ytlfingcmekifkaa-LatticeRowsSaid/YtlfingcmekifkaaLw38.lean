/- A lattice (law 41): LatticeRows walked. -/
import Derived.Test.YtlfingcmekifkaaBun24
import Derived.Test.YtlfingcmekifkaaBun25
namespace Go.Proofs.Ytlfingcmekifkaa
open Go.RowKit

set_option maxRecDepth 100000 in
set_option maxHeartbeats 4000000 in
theorem latticeRowsW (n z0 : Int) (A : Option Addr) (m c : Nat) (cs : List Cl) (Ap : Option Addr) (np cp : Nat) (picks : List Int) (w : World) (h : SlCl w (.slice A m c) cs) (hm : cs.length = m) (hp : SlI w (.slice Ap np cp) picks) (hpl : picks.length = np) (hcu : ∀ c ∈ cs, ClU c) :
    Calls Try.prog 7 #[.agg #[.int .i64 n, .int .i64 z0], .slice A m c, .slice Ap np cp] w fun e w' => e = .returned (.bool true) ∧ Below w.heap.size w w' := by
  have hml : m ≤ maxLen := by obtain ⟨_, _, e, h1, h2, _⟩ := h; cases e; omega
  have hpx : np ≤ maxLen := by obtain ⟨_, _, e, h1, h2, _⟩ := hp; cases e; omega
  have hQ : Below w.heap.size w (w.alloc (.cells #[.int .i64 n, .int .i64 z0] 22)) := (Below.refl _ w).alloc (Nat.le_refl _) _
  have y0 : (w.alloc (.cells #[.int .i64 n, .int .i64 z0] 22)).cell? ⟨w.heap.size, 0, none⟩ = some (.int .i64 n) := by go_simp
  have y1 : (w.alloc (.cells #[.int .i64 n, .int .i64 z0] 22)).cell? ⟨w.heap.size, 1, none⟩ = some (.int .i64 z0) := by go_simp
  have yz : w.heap.size < (w.alloc (.cells #[.int .i64 n, .int .i64 z0] 22)).heap.size := by simp
  have h' := h.below hQ (Nat.le_refl _)
  have hp' := hp.below hQ (Nat.le_refl _)
  have N0 := many_any A Ap m c np cp (w.alloc (.cells #[.int .i64 n, .int .i64 z0] 22)) hml hpx
  have N := latticePlay n z0 A m c cs Ap np cp picks (w.alloc (.cells #[.int .i64 n, .int .i64 z0] 22)) h' hm hp' hpl hcu
  obtain ⟨b, hb⟩ : ∃ b, manyB m np = b := ⟨_, rfl⟩
  rw [hb] at N0
  have HQ := hide hQ
  have HY := hide (And.intro y0 (And.intro y1 yz))
  clear hQ h hp y0 y1 yz
  rcases b with _ | _
  · obtain ⟨E, hE⟩ : ∃ E, chkP n z0 cs picks.length = E := ⟨_, rfl⟩
    rw [hE] at N
    by_cases h0 : E = 0
    · subst h0
      obtain ⟨hE1, hz1, hz2⟩ := chkP_zero hE
      obtain ⟨hn, hl, hpk, hth⟩ := chk_calls hE1
      have hH := rows_ends (n := n.toNat) (p := z0.toNat) (by omega) (by omega) (cs := cs) (fun c hc => ⟨(hth c hc).1, by have := (hth c hc).2; omega, hcu c hc⟩) picks
      generalize (latPlay n.toNat z0.toNat cs picks).ends latG = es at N hH
      generalize (latPlay n.toNat z0.toNat cs picks).lw.mem = mm at N
      generalize (latPlay n.toNat z0.toNat cs picks).lw.now = now at N
      generalize (latPlay n.toNat z0.toNat cs picks).idle = idle at N
      have HCA := hide hH.1
      have HVA := hide hH.2.1
      have HRO := hide hH.2.2
      have HC := hide h'
      have HM := hide hm
      clear hE hE1 hb hH h' hp' hcu hth hm hz1 hz2
      have HN := hide N
      clear N
      go_enter Try.func7, Try.ntmps7
      go_wp2_with fail
      refine N0.mono ?_
      rintro e w0 ⟨rfl, hw0⟩
      have HQ0 : Hid (Below w.heap.size w w0) := hide (by rw [hw0]; exact HQ.out)
      have N := HN.out
      rw [← hw0] at N HC HY
      obtain ⟨y0, y1, yz⟩ := HY.out
      clear hw0 N0 HN HQ HY
      go_wp2_with fail
      refine N.mono ?_
      rintro e w1 (⟨h, _⟩ | ⟨_, ev, B, Mu, g, cg, rfl, hEv, hBz, hwr, hb⟩)
      · exact absurd rfl h
      obtain ⟨Ae, ce, rfl, hel⟩ := evs_len hEv
      have HB1 := hide hb
      have HEV := hide hEv
      have HEL := hide hel
      have hel' : (es.length : Int) ≤ 9223372036854775807 := by unfold maxLen at hel; omega
      clear hb hwr hEv hel N
      unfold repV
      go_wp2
      go_loopw [39] (fun i wr => ∃ k : Nat, k ≤ es.length ∧ i = .int .i64 k ∧ Hid (Below (w1.alloc (.cells #[.slice Ae es.length ce, .slice (some ⟨g, 0, none⟩) mm.words.length cg, .int .i64 (wrap64 mm.rd), .int .i64 (wrap64 mm.wr), .int .i64 (wrap64 mm.sw), .int .i64 (wrap64 mm.ad), .int .i64 (wrap64 mm.ft), .int .i64 now, .int .i64 idle] 32)).heap.size (w1.alloc (.cells #[.slice Ae es.length ce, .slice (some ⟨g, 0, none⟩) mm.words.length cg, .int .i64 (wrap64 mm.rd), .int .i64 (wrap64 mm.wr), .int .i64 (wrap64 mm.sw), .int .i64 (wrap64 mm.ad), .int .i64 (wrap64 mm.ft), .int .i64 now, .int .i64 idle] 32)) wr)) (fun i _ => es.length - (intOf i).toNat)
      case atStart => exact ⟨0, Nat.zero_le _, rfl, hide (Below.refl _ _)⟩
      case round =>
        obtain ⟨q, hq, rfl, hB⟩ := hrel
        obtain ⟨wo, rfl⟩ : ∃ wo : World, wo = wr := ⟨_, rfl⟩
        have hbw : Below w1.heap.size w1 wo := ((Below.refl _ w1).alloc (Nat.le_refl _) _).trans (hB.out.mono (by simp))
        have hzr : w1.heap.size < wo.heap.size := by have := hB.out.size; simp at this; omega
        have t0 : wo.cell? ⟨w1.heap.size, 0, none⟩ = some (.slice Ae es.length ce) := (hB.out.cell (p := ⟨w1.heap.size, 0, none⟩) (by simp)).trans (by go_simp)
        have hb0 : Below w0.heap.size w0 wo := HB1.out.trans (hbw.mono HB1.out.size)
        have HBW := hide hbw
        have HB0 := hide hb0
        clear hbw hb0
        by_cases hlt : q < es.length
        · obtain ⟨e, he⟩ : ∃ e, es[q]? = some e := ⟨_, List.getElem?_eq_getElem hlt⟩
          obtain ⟨ge, rfl, hgz, x, hx, a0, a1, a2, a3, a4, a5, a6, a7⟩ := ev_at (HEV.out.below HBW.out) he
          have hq2 : (q : Int) < (es.length : Int) := by omega
          have hL := HCA.out q e he
          have hbo : Below wo.heap.size wo (wo.alloc (.cells #[.int .i64 e.call, .int .i64 e.inv, .int .i64 e.resp, .int .i64 e.steps, .int .i64 e.ans.err, .int .u64 e.ans.val, .slice x.lA x.lN x.lC, .slice x.kA x.kN x.kC] 41)) := (Below.refl _ wo).alloc (Nat.le_refl _) _
          have N1 := toldW (x := .slice x.lA x.lN x.lC) (y := .slice x.kA x.kN x.kC) (HC.out.below (HB0.out.trans (hbo.mono HB0.out.size)) (Nat.le_refl _)) HM.out hL
          obtain ⟨T, hT⟩ : ∃ T, toldB cs e = T := ⟨_, rfl⟩
          rw [hT] at N1
          have HE := hide he
          have HTT := hide hT
          have HBO := hide hbo
          clear hx he hL hT hbo
          go_wp2_with fail
          refine N1.mono ?_
          rintro e' w2 ⟨rfl, hb2⟩
          clear N1
          have hz2 : wo.heap.size < w2.heap.size := by have := hb2.size; simp at this; omega
          have hbo2 : Below wo.heap.size wo w2 := HBO.out.trans (hb2.mono HBO.out.size)
          have hBr2 := hB.out.trans (hbo2.mono hB.out.size)
          rcases T with _ | _
          · have HR2 := hide hBr2
            clear hb2 hbo2 hBr2
            go_wp2
            go_roundw
            case rel => exact ⟨q + 1, by omega, by go_num, HR2⟩
            case measure => first | (simp [intOf]; done) | (simp [intOf]; omega)
          · have r0 : w2.cell? ⟨w1.heap.size, 0, none⟩ = some (.slice (some ⟨ge, 0, none⟩) es.length ce) := (hbo2.cell (p := ⟨w1.heap.size, 0, none⟩) hzr).trans t0
            have e2 : w2.cell? ⟨wo.heap.size, 2, none⟩ = some (.int .i64 e.resp) := (hb2.cell (p := ⟨wo.heap.size, 2, none⟩) (by simp)).trans (by go_simp)
            have e5 : w2.cell? ⟨wo.heap.size, 5, none⟩ = some (.int .u64 e.ans.val) := (hb2.cell (p := ⟨wo.heap.size, 5, none⟩) (by simp)).trans (by go_simp)
            have hz1 : w1.heap.size < w2.heap.size := by omega
            have HR2 := hide hBr2
            have HO2 := hide hbo2
            clear hb2 hbo2 hBr2 t0 a0 a1 a2 a3 a4 a5 a6 a7 hgz
            go_wp2
            go_loopw [54] (fun i wr => ∃ k : Nat, k ≤ es.length ∧ i = .int .i64 k ∧ Hid (Below w2.heap.size w2 wr)) (fun i _ => es.length - (intOf i).toNat)
            case atStart => exact ⟨0, Nat.zero_le _, rfl, hide (Below.refl _ _)⟩
            case round =>
              obtain ⟨k, hk, rfl, hD⟩ := hrel
              obtain ⟨wi, rfl⟩ : ∃ wi : World, wi = wr := ⟨_, rfl⟩
              have hzi : w2.heap.size ≤ wi.heap.size := hD.out.size
              by_cases hlt2 : k < es.length
              · obtain ⟨y, hy⟩ : ∃ y, es[k]? = some y := ⟨_, List.getElem?_eq_getElem hlt2⟩
                have hbi : Below wo.heap.size wo wi := HO2.out.trans (hD.out.mono HO2.out.size)
                obtain ⟨gy, hgy, hgz2, z, hz, b0, b1, b2, b3, b4, b5, b6, b7⟩ := ev_at ((HEV.out.below HBW.out).below hbi) hy
                cases hgy
                have hk2 : (k : Int) < (es.length : Int) := by omega
                have hLy := HCA.out k y hy
                have i0 : wi.cell? ⟨w1.heap.size, 0, none⟩ = some (.slice (some ⟨ge, 0, none⟩) es.length ce) := (hD.out.cell (p := ⟨w1.heap.size, 0, none⟩) hz1).trans r0
                have hby : Below wi.heap.size wi (wi.alloc (.cells #[.int .i64 y.call, .int .i64 y.inv, .int .i64 y.resp, .int .i64 y.steps, .int .i64 y.ans.err, .int .u64 y.ans.val, .slice z.lA z.lN z.lC, .slice z.kA z.kN z.kC] 41)) := (Below.refl _ wi).alloc (Nat.le_refl _) _
                have hbj := HB0.out.trans (hbi.mono HB0.out.size)
                have N2 := toldW (x := .slice z.lA z.lN z.lC) (y := .slice z.kA z.kN z.kC) (HC.out.below (hbj.trans (hby.mono hbj.size)) (Nat.le_refl _)) HM.out hLy
                obtain ⟨T, hT⟩ : ∃ T, toldB cs y = T := ⟨_, rfl⟩
                rw [hT] at N2
                have HY2 := hide hy
                have HTY := hide hT
                have HBY := hide hby
                clear hz hy hLy hT hby hbi hbj
                go_wp2_with fail
                refine N2.mono ?_
                rintro e' w3 ⟨rfl, hb3⟩
                clear N2
                have hb4 : Below wi.heap.size wi w3 := HBY.out.trans (hb3.mono HBY.out.size)
                have HD3 := hide (hD.out.trans (hb4.mono hD.out.size))
                rcases T with _ | _
                · clear hb3 hb4
                  go_wp2
                  go_roundw
                  case rel => exact ⟨k + 1, by omega, by go_num, HD3⟩
                  case measure => first | (simp [intOf]; done) | (simp [intOf]; omega)
                · have hz3 : wi.heap.size < w3.heap.size := by have := hb3.size; simp at this; omega
                  have f1 : w3.cell? ⟨wi.heap.size, 1, none⟩ = some (.int .i64 y.inv) := (hb3.cell (p := ⟨wi.heap.size, 1, none⟩) (by simp)).trans (by go_simp)
                  have f5 : w3.cell? ⟨wi.heap.size, 5, none⟩ = some (.int .u64 y.ans.val) := (hb3.cell (p := ⟨wi.heap.size, 5, none⟩) (by simp)).trans (by go_simp)
                  have g2 : w3.cell? ⟨wo.heap.size, 2, none⟩ = some (.int .i64 e.resp) := (HD3.out.cell (p := ⟨wo.heap.size, 2, none⟩) hz2).trans e2
                  have g5 : w3.cell? ⟨wo.heap.size, 5, none⟩ = some (.int .u64 e.ans.val) := (HD3.out.cell (p := ⟨wo.heap.size, 5, none⟩) hz2).trans e5
                  have hzo : wo.heap.size < w3.heap.size := by omega
                  obtain ⟨hsub, hlt3⟩ := HRO.out q k e y HE.out HY2.out (toldB_is.1 HTT.out) (toldB_is.1 HTY.out)
                  have va := HVA.out q e HE.out
                  have vb := HVA.out k y HY2.out
                  clear hb3 hb4 e2 e5 i0 b0 b1 b2 b3 b4 b5 b6 b7 hgz2
                  by_cases hs : bits .and .u64 e.ans.val y.ans.val = e.ans.val
                  · clear hsub hlt3 va vb
                    by_cases hd : e.resp < y.inv
                    · have dd : decide (e.resp < y.inv) = true := by simpa using hd
                      go_wp2
                      refine wp_region_seq (fun Y => Below w3.heap.size w3 Y) (.take 0 <| .take 1 <| .take 2 <| .take 3 <| .take 4 <| .take 5 <| .take 6 <| .take 7 <| .done) (by kernel_rfl) (by kernel_rfl) (by kernel_rfl) (by (repeat' (first | exact Below.refl _ _ | assumption | refine Below.drew ?_ | refine below_drewN ?_ _ | refine Below.alloc ?_ (by simp <;> omega) _ | refine Below.setCell ?_ (by simp <;> omega) _))) ?_
                      repeat (first | (refine seq_take (v := ?_) rfl (by rfl) ?_ ?_; rotate_left; (focus (intro wS hS; replace hS := bcellc hS; go_simp; exact rfl)); simp only [Act.put, List.setIfInBounds_toArray, List.set_cons_zero, List.set_cons_succ]) | (refine seq_skip rfl (by rfl) ?_; simp only [Act.put, List.setIfInBounds_toArray, List.set_cons_zero, List.set_cons_succ]) | (refine seq_pass rfl (by rfl) (by assumption) ?_; simp only [Act.put, List.setIfInBounds_toArray, List.set_cons_zero, List.set_cons_succ]))
                      refine seq_nil ?_
                      replace HD3 := hide HD3.out.drew
                      go_wp2
                      go_roundw
                      case rel => exact ⟨k + 1, by omega, by go_num, HD3⟩
                      case measure => first | (simp [intOf]; done) | (simp [intOf]; omega)
                    · have dd : decide (e.resp < y.inv) = false := by simpa using hd
                      go_wp2
                      refine wp_region_seq (fun Y => Below w3.heap.size w3 Y) (.take 0 <| .take 1 <| .take 2 <| .take 3 <| .take 4 <| .take 5 <| .take 6 <| .take 7 <| .done) (by kernel_rfl) (by kernel_rfl) (by kernel_rfl) (by (repeat' (first | exact Below.refl _ _ | assumption | refine Below.drew ?_ | refine below_drewN ?_ _ | refine Below.alloc ?_ (by simp <;> omega) _ | refine Below.setCell ?_ (by simp <;> omega) _))) ?_
                      repeat (first | (refine seq_take (v := ?_) rfl (by rfl) ?_ ?_; rotate_left; (focus (intro wS hS; replace hS := bcellc hS; go_simp; exact rfl)); simp only [Act.put, List.setIfInBounds_toArray, List.set_cons_zero, List.set_cons_succ]) | (refine seq_skip rfl (by rfl) ?_; simp only [Act.put, List.setIfInBounds_toArray, List.set_cons_zero, List.set_cons_succ]) | (refine seq_pass rfl (by rfl) (by assumption) ?_; simp only [Act.put, List.setIfInBounds_toArray, List.set_cons_zero, List.set_cons_succ]))
                      refine seq_nil ?_
                      replace HD3 := hide HD3.out.drew
                      go_wp2
                      go_roundw
                      case rel => exact ⟨k + 1, by omega, by go_num, HD3⟩
                      case measure => first | (simp [intOf]; done) | (simp [intOf]; omega)
                  · have hd : ¬ e.resp < y.inv := fun h => hs (and_sub va vb (hlt3 h)).1
                    have dd : decide (e.resp < y.inv) = false := by simpa using hd
                    have hs2 : bits .and .u64 e.ans.val y.ans.val = y.ans.val := by
                      rcases hsub with h | h
                      · exact absurd (and_sub va vb h).1 hs
                      · exact (and_sub vb va h).2
                    rw [hs2] at hs
                    have hne : (y.ans.val != e.ans.val) = true := by simpa using hs
                    clear hsub hlt3 va vb
                    go_wp2
                    refine wp_region_seq (fun Y => Below w3.heap.size w3 Y) (.take 0 <| .take 1 <| .take 2 <| .take 3 <| .take 4 <| .take 5 <| .take 6 <| .take 7 <| .done) (by kernel_rfl) (by kernel_rfl) (by kernel_rfl) (by (repeat' (first | exact Below.refl _ _ | assumption | refine Below.drew ?_ | refine below_drewN ?_ _ | refine Below.alloc ?_ (by simp <;> omega) _ | refine Below.setCell ?_ (by simp <;> omega) _))) ?_
                    repeat (first | (refine seq_take (v := ?_) rfl (by rfl) ?_ ?_; rotate_left; (focus (intro wS hS; replace hS := bcellc hS; go_simp; exact rfl)); simp only [Act.put, List.setIfInBounds_toArray, List.set_cons_zero, List.set_cons_succ]) | (refine seq_skip rfl (by rfl) ?_; simp only [Act.put, List.setIfInBounds_toArray, List.set_cons_zero, List.set_cons_succ]) | (refine seq_pass rfl (by rfl) (by assumption) ?_; simp only [Act.put, List.setIfInBounds_toArray, List.set_cons_zero, List.set_cons_succ]))
                    refine seq_nil ?_
                    replace HD3 := hide HD3.out.drew
                    go_wp2
                    go_roundw
                    case rel => exact ⟨k + 1, by omega, by go_num, HD3⟩
                    case measure => first | (simp [intOf]; done) | (simp [intOf]; omega)
              · obtain rfl : k = es.length := by omega
                have HD2 := hide (HR2.out.trans (hD.out.mono HR2.out.size))
                go_wp2
                go_roundw
                case rel => exact ⟨q + 1, by omega, by go_num, HD2⟩
                case measure => first | (simp [intOf]; done) | (simp [intOf]; omega)
        · obtain rfl : q = es.length := by omega
          go_wp2_with fail
          refine (laBothW _).mono ?_
          rintro e w3 ⟨rfl, hb3⟩
          have HB3 := hide hb3
          clear hb3
          go_wp2
          go_ret
          exact ⟨rfl, (HQ0.out.trans ((HB0.out.trans (HB3.out.mono HB0.out.size)).mono HQ0.out.size))⟩
    · have d0 : (E != 0) = true := by simpa using h0
      have HE := hide h0
      have HN := hide N
      have HC := hide h'
      clear hE hb h' hp' hcu h0 N
      go_enter Try.func7, Try.ntmps7
      go_wp2_with fail
      refine N0.mono ?_
      rintro e w0 ⟨rfl, hw0⟩
      have HQ0 : Hid (Below w.heap.size w w0) := hide (by rw [hw0]; exact HQ.out)
      have N := HN.out
      rw [← hw0] at N HC HY
      obtain ⟨y0, y1, yz⟩ := HY.out
      clear hw0 N0 HN HQ HY
      go_wp2_with fail
      refine N.mono ?_
      rintro e w1 (⟨_, rfl, hb⟩ | ⟨h, _⟩)
      rotate_left
      · exact absurd h HE.out
      have HB1 := hide hb
      clear hb N
      unfold zeroV
      have N1 := noneZero (w1.alloc zeroRep)
      unfold zeroV zeroRep at N1
      go_wp2_with fail
      refine N1.mono ?_
      rintro e w2 ⟨rfl, hb2⟩
      have HB2 := hide hb2
      clear hb2 N1
      go_wp2_with fail
      refine (laBothW _).mono ?_
      rintro e w3 ⟨rfl, hb3⟩
      have HB3 := hide hb3
      clear hb3
      go_wp2
      go_ret
      have hb4 := HB1.out.alloc HB1.out.size zeroRep
      have hb5 := hb4.trans (HB2.out.mono hb4.size)
      have hb6 := hb5.trans (HB3.out.mono hb5.size)
      exact ⟨rfl, HQ0.out.trans (hb6.mono HQ0.out.size)⟩
  · clear hb h' hp' hcu N
    go_enter Try.func7, Try.ntmps7
    go_wp2_with fail
    refine N0.mono ?_
    rintro e w0 ⟨rfl, hw0⟩
    have HQ0 : Hid (Below w.heap.size w w0) := hide (by rw [hw0]; exact HQ.out)
    clear hw0
    go_wp2_with fail
    refine (laBothW _).mono ?_
    rintro e w3 ⟨rfl, hb3⟩
    have HB3 := hide hb3
    clear hb3
    go_wp2
    go_ret
    exact ⟨rfl, HQ0.out.trans (HB3.out.mono HQ0.out.size)⟩
end Go.Proofs.Ytlfingcmekifkaa
