import Derived.Test.YtmiimpmfkjcjlaaGreatBun36
namespace Go.Proofs.YtmiimpmfkjcjlaaGreat
open Go.RowKit
theorem okR_okEk {n : Int} {calls : List Cl} {ky : Nat → List Int} {k : Nat} {e : Ev} (h : e.kN = (ky k).length) : okR n calls e = okEk n calls ky k e := by
  unfold okR okEk
  congr 3
  rw [h]
  cases ky k <;> simp
theorem badEv_iff {w : World} {v : Value} {n : Int} {calls : List Cl} {es : List Ev} {ky : Nat → List Int} (h : EvKey w v es ky) : BadEv n calls es ky ↔ es.all (okR n calls) = false := by
  have hk : ∀ (k : Nat) (e : Ev), es[k]? = some e → okR n calls e = okEk n calls ky k e := fun k e he => okR_okEk (by obtain ⟨_, _, e1, _⟩ := h.key k e he; injection e1)
  rw [List.all_eq_false]
  constructor
  · rintro ⟨k, e, he, hb⟩
    exact ⟨e, List.mem_of_getElem? he, by rw [hk k e he, hb]; simp⟩
  · rintro ⟨e, he, hb⟩
    obtain ⟨k, hk1, hk2⟩ := List.getElem_of_mem he
    have hek : es[k]? = some e := by rw [List.getElem?_eq_getElem hk1, hk2]
    exact ⟨k, e, hek, by rw [← hk k e hek]; simpa using hb⟩
def LHPost (n ticks : Int) (specs : List Sp) (calls : List Cl) (es : List Ev) (ls ky : Nat → List Int) (w : World) (e : Ending) (w' : World) : Prop :=
  ∃ R : Bool, e = .returned (.bool R) ∧ (R = true ↔ layE n specs = 0 ∧ Right28 n specs calls es ls ky ticks) ∧ Below w.heap.size w w'
set_option maxRecDepth 100000 in
set_option maxHeartbeats 4000000 in
theorem linWhole_any (n ticks : Int) (S C L : Value) (specs : List Sp) (calls : List Cl) (es : List Ev) (ls ky : Nat → List Int) (wA : Option Addr) (wN wC : Nat) (c0 c1 c2 c3 c4 idle : Int) (w : World) (h : PwCtx w S C L specs calls es ls ky) (hm : es.length ≤ 1000) (hw : ∀ c ∈ calls, U64 c.a ∧ U64 c.b ∧ U64 c.c) (hwf : ∀ e ∈ es, EvWf e) (hkw : ∀ (k : Nat) (e : Ev), es[k]? = some e → ∀ x ∈ ky k, (Lit.int .i64 x).wf = true) :
    Calls Tryz.prog 33 #[.int .i64 n, S, C, repV L wA wN wC c0 c1 c2 c3 c4 ticks idle] w (LHPost n ticks specs calls es ls ky w) := by
  obtain ⟨Ae, ce, rfl, ge1, ge2, ge3⟩ := id h.key.evs
  obtain ⟨As, cs, rfl, gs1, gs2, gs3⟩ := id h.specs
  obtain ⟨Ac, cc, rfl, gc1, gc2, gc3⟩ := id h.calls
  have hes63 : (es.length : Int) ≤ 1000 := by omega
  have HH := hide h
  have HW := hide hw
  have HWF := hide hwf
  have HKW := hide hkw
  have HM := hide hm
  obtain ⟨W1, hW1⟩ : ∃ W, W = w.alloc (.cells #[.slice Ae es.length ce, .slice wA wN wC, .int .i64 c0, .int .i64 c1, .int .i64 c2, .int .i64 c3, .int .i64 c4, .int .i64 ticks, .int .i64 idle] 70) := ⟨_, rfl⟩
  have HW1 : Hid (Below w.heap.size w W1) := hide (by rw [hW1]; exact (Below.refl _ _).alloc (Nat.le_refl _) _)
  have r0 : W1.cell? ⟨w.heap.size, 0, none⟩ = some (.slice Ae es.length ce) := by rw [hW1]; exact cell_of_row _ _ 0 _ _ _ (heap_alloc_new _ _)
  have r7 : W1.cell? ⟨w.heap.size, 7, none⟩ = some (.int .i64 ticks) := by rw [hW1]; exact cell_of_row _ _ 7 _ _ _ (heap_alloc_new _ _)
  have rz : w.heap.size < W1.heap.size := by rw [hW1]; simp
  have N1 := hide (fun W (hW : Below w.heap.size w W) => hright_any n ticks (.slice Ac calls.length cc) (.slice Ae es.length ce) calls es W (HH.out.calls.below hW (Nat.le_refl _)) (HH.out.key.evs.below hW (Nat.le_refl _)) HWF.out)
  have N2 := hide (fun W (hW : Below w.heap.size w W) => linAhead_any (.slice Ae es.length ce) es ky W (HH.out.key.below hW) (by have := HM.out; omega))
  have N3 := hide (fun W (hW : Below w.heap.size w W) => linWrong_any n (.slice As specs.length cs) (.slice Ac calls.length cc) (.slice Ae es.length ce) specs calls es ls ky W (HH.out.below hW) HM.out HW.out)
  obtain ⟨b1, hb1⟩ : ∃ b, rightB n calls es ticks = b := ⟨_, rfl⟩
  rw [hb1] at N1
  obtain ⟨b2, hb2⟩ : ∃ b, aheadK es ky = b := ⟨_, rfl⟩
  rw [hb2] at N2
  have HB1 : Hid (refB n calls es ticks = b1) := hide (by rw [← right_ref]; exact hb1)
  have HB2 := hide hb2
  clear h hw hwf hkw gs3 gc3 hb1 hb2
  unfold repV
  go_enter Tryz.func33, Tryz.ntmps33
  go_wp2_with fail
  rw [← hW1]
  clear hW1
  refine (N1.out _ HW1.out).mono ?_
  rintro e1 W2 ⟨rfl, hw2⟩
  have HW2 := hide (HW1.out.trans (hw2.mono HW1.out.size))
  cases b1
  · have HF : Hid (LHPost n ticks specs calls es ls ky w (.returned (.bool false)) W2) := hide ⟨false, rfl, ⟨fun hh => (by cases hh), fun hh => (by have := hh.2.hist; rw [HB1.out] at this; cases this)⟩, HW2.out⟩
    go_wp2
    go_ret
    exact HF.out
  · have r02 := (hw2.cell (p := ⟨w.heap.size, 0, none⟩) rz).trans r0
    have r72 := (hw2.cell (p := ⟨w.heap.size, 7, none⟩) rz).trans r7
    have rz2 : w.heap.size < W2.heap.size := Nat.lt_of_lt_of_le rz hw2.size
    have HW12 := hide hw2
    clear hw2 r0 r7
    go_wp2_with fail
    refine (N2.out _ HW2.out).mono ?_
    rintro e1 W3 ⟨rfl, hw3⟩
    have HW3 := hide (HW2.out.trans (hw3.mono HW2.out.size))
    cases b2
    · have HF : Hid (LHPost n ticks specs calls es ls ky w (.returned (.bool false)) W3) := hide ⟨false, rfl, ⟨fun hh => (by cases hh), fun hh => (by have := hh.2.ahead; rw [HB2.out] at this; cases this)⟩, HW3.out⟩
      go_wp2
      go_ret
      exact HF.out
    · have r0 := (hw3.cell (p := ⟨w.heap.size, 0, none⟩) rz2).trans r02
      have r7 := (hw3.cell (p := ⟨w.heap.size, 7, none⟩) rz2).trans r72
      have rz3 : w.heap.size < W3.heap.size := Nat.lt_of_lt_of_le rz2 hw3.size
      clear hw3 r02 r72 rz rz2 HW12
      clear HW1
      have HW1 := HW3
      go_wp2
      go_loopw [31] (fun i wr => ∃ k : Nat, k ≤ es.length ∧ i = .int .i64 k ∧ Hid (∀ (j : Nat), j < k → ∀ e, es[j]? = some e → okIn es ky ticks j e = true) ∧ Hid (Below W3.heap.size W3 wr)) (fun i _ => es.length - (intOf i).toNat)
      case atStart => exact ⟨0, Nat.zero_le _, rfl, hide (fun j hj => by omega), hide (Below.refl _ _)⟩
      case round =>
        obtain ⟨k, hk, rfl, hin, hB⟩ := hrel
        have t7 := (hB.out.cell (p := ⟨w.heap.size, 7, none⟩) rz3).trans r7
        have t0 := (hB.out.cell (p := ⟨w.heap.size, 0, none⟩) rz3).trans r0
        have tz : w.heap.size < wr.heap.size := Nat.lt_of_lt_of_le rz3 hB.out.size
        by_cases hlt : k < es.length
        · obtain ⟨e, he⟩ : ∃ e, es[k]? = some e := ⟨_, List.getElem?_eq_getElem hlt⟩
          obtain ⟨g, o, rfl, hg, hce⟩ := ge3 k e he
          have hbw : Below w.heap.size w wr := HW3.out.trans (hB.out.mono HW3.out.size)
          obtain ⟨k0, k1, k2, k3, k4, k5, k6, k7⟩ := ev_cells (hce.of_block (w' := wr) (hbw.block g hg))
          have q0 : (0 : Int) ≤ (k : Int) := by omega
          have q1 : (k : Int) < (es.length : Int) := by omega
          have hky := (HH.out.key.key k e he).below hbw (Nat.le_refl _)
          have hkN : e.kN = (ky k).length := by obtain ⟨_, _, e1, _⟩ := hky; injection e1
          have HKY := hide hky
          have HE := hide he
          have HBn : Hid (Below W3.heap.size W3 (wr.alloc (.cells #[.int .i64 e.call, .int .i64 e.inv, .int .i64 e.resp, .int .i64 e.steps, .int .i64 e.err, .int .u64 e.val, .slice e.lA e.lN e.lC, .slice e.kA e.kN e.kC] 62))) := hide (hB.out.alloc hB.out.size _)
          obtain ⟨E, hE⟩ : ∃ E, (if e.resp = 0 then ticks else e.resp) = E := ⟨_, rfl⟩
          have HE1 := hide hE
          by_cases n1 : ky k = []
          · have d1 : decide ((0 : Int) < (e.kN : Int)) = false := by rw [hkN, n1]; rfl
            have d2 : decide (0 < e.kN) = false := by rw [hkN, n1]; rfl
            have HOKP : Hid (okIn es ky ticks k e = true) := hide (by unfold okIn; rw [decide_eq_true n1]; rfl)
            clear he hce hky hkN hE n1
            by_cases r1 : e.resp = 0
            · have f1 : (e.resp == 0) = true := by simp [r1]
              clear r1
              go_wp2
              go_roundw
              case rel => exact ⟨k + 1, by omega, by go_num, hide (fun j hj e' he' => by
                by_cases e1 : j = k
                · subst e1; rw [HE.out] at he'; cases he'; exact HOKP.out
                · exact hin.out j (by omega) e' he'), HBn⟩
              case measure => first | (simp [intOf]; done) | (simp [intOf]; omega)
            · have f1 : (e.resp == 0) = false := by simpa using r1
              clear r1
              go_wp2
              go_roundw
              case rel => exact ⟨k + 1, by omega, by go_num, hide (fun j hj e' he' => by
                by_cases e1 : j = k
                · subst e1; rw [HE.out] at he'; cases he'; exact HOKP.out
                · exact hin.out j (by omega) e' he'), HBn⟩
              case measure => first | (simp [intOf]; done) | (simp [intOf]; omega)
          · have hpos : 0 < e.kN := by rw [hkN]; exact List.length_pos_iff.2 n1
            have d1 : decide ((0 : Int) < (e.kN : Int)) = true := by simp; omega
            have d2 : decide (0 < e.kN) = true := by simp; omega
            have NW := hide (fun W h => kwithin_any (.slice e.kA e.kN e.kC) (ky k) e.inv E W h (HKW.out k e he))
            obtain ⟨B, hBw⟩ : ∃ B, withinR (ky k) e.inv E = B := ⟨_, rfl⟩
            rw [hBw] at NW
            have HB0 := hide hBw
            have HK0 := hide n1
            by_cases r1 : e.resp = 0
            · have f1 : (e.resp == 0) = true := by simp [r1]
              have hE2 : ticks = E := by rw [← hE, if_pos r1]
              subst hE2
              clear he hce hky hkN hE n1 hpos hBw r1
              go_wp2_with fail
              refine (NW.out _ (HKY.out.alloc _)).mono ?_
              rintro e9 w9 ⟨rfl, m9, rfl⟩
              clear NW
              have HBm : Hid (Below W3.heap.size W3 ((wr.alloc (.cells #[.int .i64 e.call, .int .i64 e.inv, .int .i64 e.resp, .int .i64 e.steps, .int .i64 e.err, .int .u64 e.val, .slice e.lA e.lN e.lC, .slice e.kA e.kN e.kC] 62)).drewN m9)) := hide (below_drewN HBn.out _)
              clear HBn
              have HBn := HBm
              cases B
              · have HF : Hid (LHPost n ticks specs calls es ls ky w (.returned (.bool false)) ((wr.alloc (.cells #[.int .i64 e.call, .int .i64 e.inv, .int .i64 e.resp, .int .i64 e.steps, .int .i64 e.err, .int .u64 e.val, .slice e.lA e.lN e.lC, .slice e.kA e.kN e.kC] 62)).drewN m9)) := hide ⟨false, rfl, ⟨fun hh => (by cases hh), fun hh => (by
                  have := hh.2.within k e HE.out
                  unfold okIn at this
                  rw [HE1.out, HB0.out, decide_eq_false HK0.out] at this
                  cases this)⟩, HW1.out.trans (HBn.out.mono HW1.out.size)⟩
                clear hin hB
                go_wp2
                go_ret
                exact HF.out
              · have HOKP : Hid (okIn es ky ticks k e = true) := hide (by unfold okIn; rw [HE1.out, HB0.out]; simp)
                go_wp2
                go_roundw
                case rel => exact ⟨k + 1, by omega, by go_num, hide (fun j hj e' he' => by
                  by_cases e1 : j = k
                  · subst e1; rw [HE.out] at he'; cases he'; exact HOKP.out
                  · exact hin.out j (by omega) e' he'), HBn⟩
                case measure => first | (simp [intOf]; done) | (simp [intOf]; omega)
            · have f1 : (e.resp == 0) = false := by simpa using r1
              have hE2 : e.resp = E := by rw [← hE, if_neg r1]
              rw [← hE2] at NW HB0 HE1
              clear he hce hky hkN hE n1 hpos hBw r1 hE2
              go_wp2_with fail
              refine (NW.out _ (HKY.out.alloc _)).mono ?_
              rintro e9 w9 ⟨rfl, m9, rfl⟩
              clear NW
              have HBm : Hid (Below W3.heap.size W3 ((wr.alloc (.cells #[.int .i64 e.call, .int .i64 e.inv, .int .i64 e.resp, .int .i64 e.steps, .int .i64 e.err, .int .u64 e.val, .slice e.lA e.lN e.lC, .slice e.kA e.kN e.kC] 62)).drewN m9)) := hide (below_drewN HBn.out _)
              clear HBn
              have HBn := HBm
              cases B
              · have HF : Hid (LHPost n ticks specs calls es ls ky w (.returned (.bool false)) ((wr.alloc (.cells #[.int .i64 e.call, .int .i64 e.inv, .int .i64 e.resp, .int .i64 e.steps, .int .i64 e.err, .int .u64 e.val, .slice e.lA e.lN e.lC, .slice e.kA e.kN e.kC] 62)).drewN m9)) := hide ⟨false, rfl, ⟨fun hh => (by cases hh), fun hh => (by
                  have := hh.2.within k e HE.out
                  unfold okIn at this
                  rw [HE1.out, HB0.out, decide_eq_false HK0.out] at this
                  cases this)⟩, HW1.out.trans (HBn.out.mono HW1.out.size)⟩
                clear hin hB
                go_wp2
                go_ret
                exact HF.out
              · have HOKP : Hid (okIn es ky ticks k e = true) := hide (by unfold okIn; rw [HE1.out, HB0.out]; simp)
                go_wp2
                go_roundw
                case rel => exact ⟨k + 1, by omega, by go_num, hide (fun j hj e' he' => by
                  by_cases e1 : j = k
                  · subst e1; rw [HE.out] at he'; cases he'; exact HOKP.out
                  · exact hin.out j (by omega) e' he'), HBn⟩
                case measure => first | (simp [intOf]; done) | (simp [intOf]; omega)
        · have d1 : decide ((k : Int) < (es.length : Int)) = false := by simp; omega
          have d2 : decide (k < es.length) = false := by simp; omega
          have HIN : Hid (∀ (j : Nat) e, es[j]? = some e → okIn es ky ticks j e = true) := hide (fun j e he => hin.out j (by have := (List.getElem?_eq_some_iff.1 he).1; omega) e he)
          have HBW := hide (HW3.out.trans (hB.out.mono HW3.out.size))
          clear hin hB
          go_wp2_with fail
          refine (N3.out _ HBW.out).mono ?_
          rintro e5 W5 ⟨hb5, hR⟩
          have HW5 := hide (HBW.out.trans (hb5.mono HBW.out.size))
          clear hb5 t7 t0 r0 r7
          rcases hR with ⟨h1, rfl⟩ | ⟨h1, h2, rfl⟩ | ⟨h1, h2, LL, h3, rfl⟩
          · have HF : Hid (LHPost n ticks specs calls es ls ky w (.returned (.bool false)) W5) := hide ⟨false, rfl, ⟨fun hh => (by cases hh), fun hh => absurd hh.1 h1⟩, HW5.out⟩
            have g0 : (layE n specs == 0) = false := by simpa using h1
            clear h1
            go_wp2
            go_ret
            exact HF.out
          · have HF : Hid (LHPost n ticks specs calls es ls ky w (.returned (.bool false)) W5) := hide ⟨false, rfl, ⟨fun hh => (by cases hh), fun hh => (by
              have hb := (badEv_iff (n := n) (calls := calls) HH.out.key).2 h2
              rcases hh.2.wrong with ⟨_, h⟩ | ⟨h, _⟩
              · omega
              · exact absurd hb h)⟩, HW5.out⟩
            clear h1 h2
            go_wp2
            go_ret
            exact HF.out
          · obtain ⟨RR, hRR⟩ : ∃ RR, runL n specs calls es ls LL (specs.map (newM n)) = RR := ⟨_, rfl⟩
            have hnb : ¬ BadEv n calls es ky := fun hb => by have := (badEv_iff (n := n) (calls := calls) HH.out.key).1 hb; rw [h2] at this; cases this
            rw [hRR]
            rcases RR with _ | i
            · have HF : Hid (LHPost n ticks specs calls es ls ky w (.returned (.bool true)) W5) := hide ⟨true, rfl, ⟨fun _ => ⟨h1, ⟨HB1.out, HB2.out, Or.inr ⟨hnb, LL, h3, by rw [hRR]; rfl⟩, HIN.out⟩⟩, fun _ => rfl⟩, HW5.out⟩
              clear h1 h2 h3 hRR hnb
              unfold wrongI
              go_wp2
              go_ret
              exact HF.out
            · have HF : Hid (LHPost n ticks specs calls es ls ky w (.returned (.bool false)) W5) := hide ⟨false, rfl, ⟨fun hh => (by cases hh), fun hh => (by
                rcases hh.2.wrong with ⟨h, _⟩ | ⟨_, L', h4, h5⟩
                · exact absurd h hnb
                · rw [IsOrd.one h4 h3, hRR] at h5
                  simp [wrongI] at h5)⟩, HW5.out⟩
              have g0 : ((i : Int) == -1) = false := by rw [beq_eq_false_iff_ne]; omega
              clear h1 h2 h3 hRR hnb
              unfold wrongI
              simp only []
              go_wp2
              go_ret
              exact HF.out
end Go.Proofs.YtmiimpmfkjcjlaaGreat

namespace Go.Proofs.YtmiimpmfkjcjlaaGreat
open Go.RowKit
def tS : List Sp := [⟨8, 2, 0⟩]
def tC : List Cl := [⟨0, 0, 0, 5, 0, 0⟩, ⟨0, 0, 1, 0, 0, 0⟩, ⟨1, 0, 1, 0, 0, 0⟩]
def tE (g : Nat) : List Ev := [⟨0, 1, 1, 1, 0, 0, none, 0, 0, some ⟨g, 0, none⟩, 1, 1⟩, ⟨2, 2, 4, 1, 0, 5, none, 0, 0, some ⟨g + 1, 0, none⟩, 1, 1⟩, ⟨1, 3, 3, 1, 0, 5, none, 0, 0, some ⟨g + 2, 0, none⟩, 1, 1⟩]
def tK (k : Nat) : List Int := if k = 0 then [2] else if k = 1 then [8] else if k = 2 then [6] else []
theorem t_lay : layE 2 tS = 0 := by decide
theorem t_word : ∀ c ∈ tC, U64 c.a ∧ U64 c.b ∧ U64 c.c := by
  intro c hc
  simp only [tC, List.mem_cons, List.not_mem_nil, or_false] at hc
  rcases hc with rfl | rfl | rfl <;> exact ⟨by unfold U64; decide, by unfold U64; decide, by unfold U64; decide⟩
theorem t_ord : IsOrd tK 3 [0, 2, 1] := by
  refine ⟨by simp [LtK, Lt, cfK, tK, kcmp], fun x => ?_⟩
  rcases x with _ | _ | _ | x <;> simp [tK]
theorem t_ord2 : IsOrd tK 2 [0, 1] := by
  refine ⟨by simp [LtK, Lt, cfK, tK, kcmp], fun x => ?_⟩
  rcases x with _ | _ | x
  · simp [tK]
  · simp [tK]
  · simp; omega
theorem t_ok (g : Nat) : (tE g).all (okR 2 tC) = true := by rfl
theorem t_ok2 (g : Nat) : ((tE g).take 2).all (okR 2 tC) = true := by rfl
theorem t_run (g : Nat) : runL 2 tS tC (tE g) (fun _ => []) [0, 2, 1] (tS.map (newM 2)) = some 1 := by kernel_rfl
theorem t_run2 (g : Nat) : runL 2 tS tC ((tE g).take 2) (fun _ => []) [0, 1] (tS.map (newM 2)) = none := by kernel_rfl
theorem t_ahead (g : Nat) : aheadK (tE g) tK = true := by rfl
theorem t_ahead2 (g : Nat) : aheadK ((tE g).take 2) tK = true := by rfl
theorem t_hist2 (g : Nat) : refB 2 tC ((tE g).take 2) 4 = true := by rfl
theorem t_in2 (g : Nat) : ∀ (k : Nat) (e : Ev), ((tE g).take 2)[k]? = some e → okIn ((tE g).take 2) tK 4 k e = true := by
  intro k e he
  rcases k with _ | _ | k
  · cases he; rfl
  · cases he; rfl
  · cases he
end Go.Proofs.YtmiimpmfkjcjlaaGreat

namespace Go.Proofs.YtmiimpmfkjcjlaaGreat
open Go.RowKit
abbrev tOS : Obj := .cells #[.int .i64 8, .int .i64 2, .int .i64 0] 23
abbrev tOC : Obj := .cells #[.int .i64 0, .int .i64 0, .int .i64 0, .int .u64 5, .int .u64 0, .int .u64 0, .int .i64 0, .int .i64 0, .int .i64 1, .int .u64 0, .int .u64 0, .int .u64 0, .int .i64 1, .int .i64 0, .int .i64 1, .int .u64 0, .int .u64 0, .int .u64 0] 27
abbrev tOA : Obj := .cells #[.int .i64 0, .int .u64 5, .slice none 0 0] 57
abbrev tOK (x : Int) : Obj := .cells #[.int .i64 x] 3
abbrev tOE (g : Nat) : Obj := .cells #[.int .i64 0, .int .i64 1, .int .i64 1, .int .i64 1, .int .i64 0, .int .u64 0, .slice none 0 0, .slice (some ⟨g, 0, none⟩) 1 1, .int .i64 2, .int .i64 2, .int .i64 4, .int .i64 1, .int .i64 0, .int .u64 5, .slice none 0 0, .slice (some ⟨g + 1, 0, none⟩) 1 1, .int .i64 1, .int .i64 3, .int .i64 3, .int .i64 1, .int .i64 0, .int .u64 5, .slice none 0 0, .slice (some ⟨g + 2, 0, none⟩) 1 1] 62
structure TwAt (X : World) (b : Nat) : Prop where
  s : X.heap[b]? = some tOS
  c : X.heap[b + 1]? = some tOC
  k0 : X.heap[b + 3]? = some (tOK 2)
  k1 : X.heap[b + 3 + 1]? = some (tOK 8)
  k2 : X.heap[b + 3 + 2]? = some (tOK 6)
  e : X.heap[b + 6]? = some (tOE (b + 3))
theorem TwAt.lt {X : World} {b : Nat} (h : TwAt X b) : b + 6 < X.heap.size := (Array.getElem?_eq_some_iff.1 h.e).1
theorem TwAt.below {X X' : World} {b : Nat} (h : TwAt X b) (hb : Below X.heap.size X X') : TwAt X' b := by
  have hz := h.lt
  exact ⟨(hb.block _ (by omega)).trans h.s, (hb.block _ (by omega)).trans h.c, (hb.block _ (by omega)).trans h.k0, (hb.block _ (by omega)).trans h.k1, (hb.block _ (by omega)).trans h.k2, (hb.block _ (by omega)).trans h.e⟩
theorem t_specs {w : World} {g : Nat} (h : w.heap[g]? = some tOS) : SlSp w (.slice (some ⟨g, 0, none⟩) 1 1) tS := by
  refine Sl.of_block (xs := tS) h (Nat.le_refl 1) (by unfold maxLen; omega) ?_
  intro k x hx j u hu
  rcases k with _ | k <;> first | (cases hx; rcases j with _ | _ | _ | j <;> first | exact hu | cases hu) | cases hx
theorem t_calls {w : World} {g : Nat} (h : w.heap[g]? = some tOC) : SlCl w (.slice (some ⟨g, 0, none⟩) 3 3) tC := by
  refine Sl.of_block (xs := tC) h (Nat.le_refl 3) (by unfold maxLen; omega) ?_
  intro k x hx j u hu
  rcases k with _ | _ | _ | k <;> first | (cases hx; rcases j with _ | _ | _ | _ | _ | _ | j <;> first | exact hu | cases hu) | cases hx
theorem t_evs {w : World} {g b : Nat} (h : w.heap[g]? = some (tOE b)) : SlEv w (.slice (some ⟨g, 0, none⟩) 3 3) (tE b) := by
  refine Sl.of_block (xs := tE b) h (Nat.le_refl 3) (by unfold maxLen; omega) ?_
  intro k x hx j u hu
  rcases k with _ | _ | _ | k <;> first | (cases hx; rcases j with _ | _ | _ | _ | _ | _ | _ | _ | j <;> first | exact hu | cases hu) | cases hx
theorem t_key {w : World} {g : Nat} {x : Int} (h : w.heap[g]? = some (tOK x)) : SlI w (.slice (some ⟨g, 0, none⟩) 1 1) [x] := by
  refine Sl.of_block (xs := [x]) h (Nat.le_refl 1) (by unfold maxLen; omega) ?_
  intro k y hx j u hu
  rcases k with _ | k <;> first | (cases hx; rcases j with _ | j <;> first | exact hu | cases hu) | cases hx
theorem slwn (w : World) : SlW w (.slice none 0 0) [] := ⟨none, 0, rfl, Nat.le_refl _, Nat.zero_le _, by intro k x h; simp at h⟩
theorem TwAt.ctx {X : World} {b : Nat} (h : TwAt X b) : PwCtx X (.slice (some ⟨b, 0, none⟩) 1 1) (.slice (some ⟨b + 1, 0, none⟩) 3 3) (.slice (some ⟨b + 6, 0, none⟩) 3 3) tS tC (tE (b + 3)) (fun _ => []) tK := by
  refine ⟨t_specs h.s, t_calls h.c, ⟨t_evs h.e, fun k e he => ?_⟩, fun k e he => ?_⟩
  · rcases k with _ | _ | _ | k
    · cases he; exact t_key h.k0
    · cases he; exact t_key h.k1
    · cases he; exact t_key h.k2
    · cases he
  · rcases k with _ | _ | _ | k
    · cases he; exact slwn X
    · cases he; exact slwn X
    · cases he; exact slwn X
    · cases he
theorem TwAt.ctx2 {X : World} {b : Nat} (h : TwAt X b) : PwCtx X (.slice (some ⟨b, 0, none⟩) 1 1) (.slice (some ⟨b + 1, 0, none⟩) 3 3) (.slice (some ⟨b + 6, 0, none⟩) 2 3) tS tC ((tE (b + 3)).take 2) (fun _ => []) tK := by
  have h1 := h.ctx
  have hx : ∀ (k : Nat) (e : Ev), ((tE (b + 3)).take 2)[k]? = some e → (tE (b + 3))[k]? = some e := fun k e he => by
    rw [List.getElem?_take] at he
    split at he
    · exact he
    · cases he
  exact ⟨h1.specs, h1.calls, ⟨sl_take h1.key.evs (by simp [tE]), fun k e he => h1.key.key k e (hx k e he)⟩, fun k e he => h1.lst k e (hx k e he)⟩
theorem t_wf (g : Nat) : ∀ e ∈ tE g, EvWf e := by
  intro e he
  simp only [tE, List.mem_cons, List.not_mem_nil, or_false] at he
  rcases he with rfl | rfl | rfl <;> exact ⟨rfl, rfl, rfl, rfl⟩
theorem t_kw {es : List Ev} : ∀ (k : Nat) (e : Ev), es[k]? = some e → ∀ x ∈ tK k, (Lit.int .i64 x).wf = true := by
  intro k e _ x hx
  unfold tK at hx
  repeat' split at hx
  all_goals first | (simp only [List.mem_cons, List.not_mem_nil, or_false] at hx; subst hx; decide) | cases hx
theorem tw_wrong {X : World} {b : Nat} (h : TwAt X b) : Calls Tryz.prog 30 #[.int .i64 2, .slice (some ⟨b, 0, none⟩) 1 1, .slice (some ⟨b + 1, 0, none⟩) 3 3, .slice (some ⟨b + 6, 0, none⟩) 3 3] X fun e w' => e = .returned (.tuple #[.int .i64 1, .int .i64 0]) ∧ Below X.heap.size X w' := by
  refine (linWrong_any 2 _ _ _ tS tC (tE (b + 3)) (fun _ => []) tK X h.ctx (by simp [tE]) t_word).mono ?_
  rintro e w' ⟨hb, ⟨h1, _⟩ | ⟨_, h2, _⟩ | ⟨_, _, L, hL, rfl⟩⟩
  · exact absurd t_lay h1
  · rw [t_ok] at h2; cases h2
  · have hL' : IsOrd tK 3 L := hL
    rw [IsOrd.one hL' t_ord, t_run]
    exact ⟨rfl, hb⟩
theorem tw_wrong2 {X : World} {b : Nat} (h : TwAt X b) : Calls Tryz.prog 30 #[.int .i64 2, .slice (some ⟨b, 0, none⟩) 1 1, .slice (some ⟨b + 1, 0, none⟩) 3 3, .slice (some ⟨b + 6, 0, none⟩) 2 3] X fun e w' => e = .returned (.tuple #[.int .i64 (-1), .int .i64 0]) ∧ Below X.heap.size X w' := by
  refine (linWrong_any 2 _ _ _ tS tC ((tE (b + 3)).take 2) (fun _ => []) tK X h.ctx2 (by simp [tE]) t_word).mono ?_
  rintro e w' ⟨hb, ⟨h1, _⟩ | ⟨_, h2, _⟩ | ⟨_, _, L, hL, rfl⟩⟩
  · exact absurd t_lay h1
  · rw [t_ok2] at h2; cases h2
  · have hL' : IsOrd tK 2 L := hL
    rw [IsOrd.one hL' t_ord2, t_run2]
    exact ⟨rfl, hb⟩
theorem tw_order {X : World} {b : Nat} (h : TwAt X b) : Calls Tryz.prog 55 #[.slice (some ⟨b + 6, 0, none⟩) 3 3] X fun e w' => ∃ g o c, e = .returned (.slice (some ⟨g, o, none⟩) 3 c) ∧ w'.cell? ⟨g, o + 1, none⟩ = some (.int .i64 2) ∧ g < w'.heap.size ∧ 3 ≤ c ∧ c ≤ maxLen ∧ Below X.heap.size X w' := by
  refine (linOrder_any _ (tE (b + 3)) tK X h.ctx.key (by simp [tE])).mono ?_
  rintro e w' ⟨A, c, L, rfl, hs, hL, hb, _⟩
  have hL' : IsOrd tK 3 L := hL
  have hl := IsOrd.one hL' t_ord
  subst hl
  obtain ⟨g, o, rfl, hg, hc⟩ := sln_at hs (show ([0, 2, 1] : List Nat)[1]? = some 2 from rfl)
  obtain ⟨A9, c9, e9, f1, f2, _⟩ := hs
  injection e9 with _ e2 e3
  exact ⟨g, o, c, rfl, hc, hg, by rw [e3]; simpa using f1, by rw [e3]; exact f2, hb⟩
theorem tw_ahead {X : World} {b : Nat} (h : TwAt X b) : Calls Tryz.prog 56 #[.slice (some ⟨b + 6, 0, none⟩) 3 3] X fun e w' => e = .returned (.bool true) ∧ Below X.heap.size X w' := by
  have := linAhead_any _ (tE (b + 3)) tK X h.ctx.key (by simp [tE])
  rwa [t_ahead] at this
theorem tw_bad (b : Nat) : ¬ BadEv 2 tC ((tE b).take 2) tK := by
  rintro ⟨k, e, he, hb⟩
  rcases k with _ | _ | k
  · cases he; cases hb
  · cases he; cases hb
  · cases he
theorem tw_whole {X : World} {b : Nat} (h : TwAt X b) : Calls Tryz.prog 33 #[.int .i64 2, .slice (some ⟨b, 0, none⟩) 1 1, .slice (some ⟨b + 1, 0, none⟩) 3 3, repV (.slice (some ⟨b + 6, 0, none⟩) 3 3) none 0 0 0 0 0 0 0 4 0] X fun e w' => e = .returned (.bool false) ∧ Below X.heap.size X w' := by
  refine (linWhole_any 2 4 _ _ _ tS tC (tE (b + 3)) (fun _ => []) tK none 0 0 0 0 0 0 0 0 X h.ctx (by simp [tE]) t_word (t_wf _) t_kw).mono ?_
  rintro e w' ⟨R, rfl, hR, hb⟩
  rcases R with _ | _
  · exact ⟨rfl, hb⟩
  · rcases (hR.1 rfl).2.wrong with ⟨_, h⟩ | ⟨_, L, hL, h⟩
    · cases h
    · have hL' : IsOrd tK 3 L := hL
      rw [IsOrd.one hL' t_ord, t_run] at h
      cases h
theorem tw_whole2 {X : World} {b : Nat} (h : TwAt X b) : Calls Tryz.prog 33 #[.int .i64 2, .slice (some ⟨b, 0, none⟩) 1 1, .slice (some ⟨b + 1, 0, none⟩) 3 3, repV (.slice (some ⟨b + 6, 0, none⟩) 2 3) none 0 0 0 0 0 0 0 4 0] X fun e w' => e = .returned (.bool true) ∧ Below X.heap.size X w' := by
  refine (linWhole_any 2 4 _ _ _ tS tC ((tE (b + 3)).take 2) (fun _ => []) tK none 0 0 0 0 0 0 0 0 X h.ctx2 (by simp [tE]) t_word (fun e he => t_wf _ e (List.mem_of_mem_take he)) t_kw).mono ?_
  rintro e w' ⟨R, rfl, hR, hb⟩
  have := hR.2 ⟨t_lay, ⟨t_hist2 _, t_ahead2 _, Or.inr ⟨tw_bad _, [0, 1], t_ord2, by rw [t_run2]; rfl⟩, t_in2 _⟩⟩
  subst this
  exact ⟨rfl, hb⟩
set_option maxRecDepth 100000 in
set_option maxHeartbeats 4000000 in
theorem twice_any (w : World) : Calls Tryz.prog 29 #[] w fun e w' => e = .returned (.bool true) ∧ Below w.heap.size w w' := by
  obtain ⟨X, hX⟩ : ∃ X, X = ((((((w.alloc tOS).alloc tOC).alloc tOA).alloc (tOK 2)).alloc (tOK 8)).alloc (tOK 6)).alloc (tOE (w.heap.size + 3)) := ⟨_, rfl⟩
  have hBX : Below w.heap.size w X := by
    rw [hX]
    exact (((((((Below.refl _ _).alloc (Nat.le_refl _) _).alloc (by simp) _).alloc (by simp; omega) _).alloc (by simp; omega) _).alloc (by simp; omega) _).alloc (by simp; omega) _).alloc (by simp; omega) _
  have HT : Hid (TwAt X w.heap.size) := hide (by
    have n1 := heap_alloc_new (w.alloc tOS) tOC
    have n3 := heap_alloc_new (((w.alloc tOS).alloc tOC).alloc tOA) (tOK 2)
    have n4 := heap_alloc_new ((((w.alloc tOS).alloc tOC).alloc tOA).alloc (tOK 2)) (tOK 8)
    have n5 := heap_alloc_new (((((w.alloc tOS).alloc tOC).alloc tOA).alloc (tOK 2)).alloc (tOK 8)) (tOK 6)
    have n6 := heap_alloc_new ((((((w.alloc tOS).alloc tOC).alloc tOA).alloc (tOK 2)).alloc (tOK 8)).alloc (tOK 6)) (tOE (w.heap.size + 3))
    rw [hX]
    refine ⟨?_, ?_, ?_, ?_, ?_, by simpa using n6⟩
    · iterate 6 (refine (Below.heap_alloc _ _ _ (by simp <;> omega)).trans ?_)
      exact heap_alloc_new _ _
    · iterate 5 (refine (Below.heap_alloc _ _ _ (by simp <;> omega)).trans ?_)
      simpa using n1
    · iterate 3 (refine (Below.heap_alloc _ _ _ (by simp <;> omega)).trans ?_)
      simpa using n3
    · iterate 2 (refine (Below.heap_alloc _ _ _ (by simp <;> omega)).trans ?_)
      simpa using n4
    · refine (Below.heap_alloc _ _ _ (by simp <;> omega)).trans ?_
      simpa using n5)
  have HBX := hide hBX
  clear hBX
  have N5 := fun (Y : World) (h : TwAt Y w.heap.size) => tw_whole h
  have N6 := fun (Y : World) (h : TwAt Y w.heap.size) => tw_whole2 h
  unfold repV at N5 N6
  have H5 := hide N5
  have H6 := hide N6
  clear N5 N6
  go_enter Tryz.func29, Tryz.ntmps29
  go_wp2_with fail
  rw [← hX]
  clear hX
  refine (tw_wrong HT.out).mono ?_
  rintro e1 w1 ⟨rfl, hb1⟩
  have HT1 := hide (HT.out.below hb1)
  have HB1 := hide (HBX.out.trans (hb1.mono HBX.out.size))
  clear hb1
  go_wp2_with fail
  refine (tw_order HT1.out).mono ?_
  rintro e2 w2 ⟨g, o, c, rfl, hc, hg, f1, f2, hb2⟩
  have HT2 := hide (HT1.out.below hb2)
  have HB2 := hide (HB1.out.trans (hb2.mono HB1.out.size))
  unfold maxLen at f2
  clear hb2
  go_wp2_with fail
  refine (tw_wrong2 HT2.out).mono ?_
  rintro e3 w3 ⟨rfl, hb3⟩
  have HT3 := hide (HT2.out.below hb3)
  have HB3 := hide (HB2.out.trans (hb3.mono HB2.out.size))
  replace hc := (hb3.cell (p := ⟨g, o + 1, none⟩) hg).trans hc
  clear hb3
  go_wp2_with fail
  refine (tw_ahead HT3.out).mono ?_
  rintro e4 w4 ⟨rfl, hb4⟩
  have HT4 := hide (HT3.out.below hb4)
  have HB4 := hide (HB3.out.trans (hb4.mono HB3.out.size))
  clear hb4 hc
  go_wp2_with fail
  refine (H5.out _ HT4.out).mono ?_
  rintro e5 w5 ⟨rfl, hb5⟩
  have HT5 := hide (HT4.out.below hb5)
  have HB5 := hide (HB4.out.trans (hb5.mono HB4.out.size))
  clear hb5
  go_wp2_with fail
  refine (H6.out _ HT5.out).mono ?_
  rintro e6 w6 ⟨rfl, hb6⟩
  have HB6 := hide (HB5.out.trans (hb6.mono HB5.out.size))
  clear hb6
  go_wp2
  go_ret
  exact ⟨rfl, HB6.out⟩
end Go.Proofs.YtmiimpmfkjcjlaaGreat
