import Derived.Test.YtmiimpmfkjcjlaaGreatLr4
import Derived.Test.YtmiimpmfkjcjlaaGreatLr6
import Derived.Test.YtmiimpmfkjcjlaaGreatBun36
namespace Go.Proofs.YtmiimpmfkjcjlaaGreat
open Go.RowKit
theorem pwrong_one {n : Int} {specs : List Sp} {calls : List Cl} {es : List Ev} {ls ky : Nat → List Int} {r r' : Int} (h : PWrong n specs calls es ls ky r) (h' : PWrong n specs calls es ls ky r') : r = r' := by
  rcases h with ⟨hb, rfl⟩ | ⟨hb, L, hL, rfl⟩ <;> rcases h' with ⟨hb', rfl⟩ | ⟨hb', L', hL', rfl⟩
  · rfl
  · exact absurd hb hb'
  · exact absurd hb' hb
  · rw [IsOrd.one hL hL']
structure Right28 (n : Int) (specs : List Sp) (calls : List Cl) (es : List Ev) (ls ky : Nat → List Int) (ticks : Int) : Prop where
  hist : refB n calls es ticks = true
  ahead : aheadK es ky = true
  wrong : PWrong n specs calls es ls ky (-1)
  within : ∀ (k : Nat) (e : Ev), es[k]? = some e → okIn es ky ticks k e = true
def repV (L : Value) (wA : Option Addr) (wN wC : Nat) (c0 c1 c2 c3 c4 t i : Int) : Value := .agg #[L, .slice wA wN wC, .int .i64 c0, .int .i64 c1, .int .i64 c2, .int .i64 c3, .int .i64 c4, .int .i64 t, .int .i64 i]
set_option maxRecDepth 100000 in
set_option maxHeartbeats 4000000 in
theorem right28_any (n ticks : Int) (S C L : Value) (specs : List Sp) (calls : List Cl) (es : List Ev) (ls ky : Nat → List Int) (wA : Option Addr) (wN wC : Nat) (k0 k1 k2 k3 k4 idle : Int) (w : World) (h : PwCtx w S C L specs calls es ls ky) (hlay : layE n specs = 0) (hm : es.length ≤ 1000) (hw : ∀ c ∈ calls, U64 c.a ∧ U64 c.b ∧ U64 c.c) (hwf : ∀ e ∈ es, EvWf e) (hkw : ∀ (k : Nat) (e : Ev), es[k]? = some e → ∀ x ∈ ky k, (Lit.int .i64 x).wf = true) :
    Calls Tryz.prog 27 #[.int .i64 n, S, C, repV L wA wN wC k0 k1 k2 k3 k4 ticks idle] w fun e w' => ∃ R : Bool, e = .returned (.bool R) ∧ (R = true ↔ Right28 n specs calls es ls ky ticks) ∧ Below w.heap.size w w' := by
  obtain ⟨Ae, ce, rfl, ge1, ge2, ge3⟩ := id h.key.evs
  obtain ⟨As, cs, rfl, gs1, gs2, gs3⟩ := id h.specs
  obtain ⟨Ac, cc, rfl, gc1, gc2, gc3⟩ := id h.calls
  have hlen : (es.length : Int) ≤ 1000 := by omega
  have N1 := fun W (hW : Below w.heap.size w W) => refRight_any n ticks _ _ calls es W (h.calls.below hW (Nat.le_refl _)) (h.key.evs.below hW (Nat.le_refl _)) hwf
  have N2 := fun W (hW : Below w.heap.size w W) => pAhead_any _ es ky W (h.key.below hW)
  have N3 := fun W (hW : Below w.heap.size w W) => pwrong_any n _ _ _ specs calls es ls ky W (h.below hW) hlay hm hw
  have H1 := hide N1
  have H2 := hide N2
  have H3 := hide N3
  have HX := hide h
  have HKW := hide hkw
  clear gs3 gc3 N1 N2 N3 h hlay hm hw hwf hkw
  unfold repV
  obtain ⟨X, hX⟩ : ∃ X, X = w.alloc (.cells #[.slice Ae es.length ce, .slice wA wN wC, .int .i64 k0, .int .i64 k1, .int .i64 k2, .int .i64 k3, .int .i64 k4, .int .i64 ticks, .int .i64 idle] 70) := ⟨_, rfl⟩
  have hBX : Below w.heap.size w X := by rw [hX]; exact (Below.refl _ _).alloc (Nat.le_refl _) _
  have hzX : w.heap.size < X.heap.size := by rw [hX]; simp
  have hXb : X.heap[w.heap.size]? = some (.cells #[.slice Ae es.length ce, .slice wA wN wC, .int .i64 k0, .int .i64 k1, .int .i64 k2, .int .i64 k3, .int .i64 k4, .int .i64 ticks, .int .i64 idle] 70 (0, 0)) := by rw [hX]; exact heap_alloc_new _ _
  have p0 : X.cell? ⟨w.heap.size, 0, none⟩ = some (.slice Ae es.length ce) := cell_of_row _ _ 0 _ _ _ hXb
  have p7 : X.cell? ⟨w.heap.size, 7, none⟩ = some (.int .i64 ticks) := cell_of_row _ _ 7 _ _ _ hXb
  have HBX := hide hBX
  have HXE := hide hX
  clear hXb hBX
  have hend : ∀ (W : World) (R : Bool), (R = true ↔ Right28 n specs calls es ls ky ticks) → Below X.heap.size X W → ∃ R' : Bool, Ending.returned (.bool R) = .returned (.bool R') ∧ (R' = true ↔ Right28 n specs calls es ls ky ticks) ∧ Below w.heap.size w W := fun W R hR hW => ⟨R, rfl, hR, HBX.out.trans (hW.mono (Nat.le_of_lt hzX))⟩
  have HEND := hide hend
  clear hend
  rcases hb1 : refB n calls es ticks with _ | _
  · have hno : ¬ Right28 n specs calls es ls ky ticks := fun h => by have := h.hist; rw [hb1] at this; cases this
    have HNO : Hid ((false : Bool) = true ↔ Right28 n specs calls es ls ky ticks) := hide ⟨fun h => (by cases h), fun h => absurd h hno⟩
    have N := H1.out X HBX.out
    rw [hb1] at N
    have HN := hide N
    clear hb1 hno N ge3
    go_enter Tryz.func27, Tryz.ntmps27
    go_wp2_with fail
    rw [← hX]
    refine HN.out.mono ?_
    rintro e1 w1 ⟨rfl, hw1⟩
    go_wp2
    go_ret
    exact HEND.out _ false HNO.out hw1
  · have N := H1.out X HBX.out
    rw [hb1] at N
    have HN := hide N
    have HB1 := hide hb1
    clear hb1 N
    rcases hb2 : aheadK es ky with _ | _
    · have HNO : Hid ((false : Bool) = true ↔ Right28 n specs calls es ls ky ticks) := hide ⟨fun h => (by cases h), fun h => by have := h.ahead; rw [hb2] at this; cases this⟩
      have HA := hide (fun W hW => by have := H2.out W hW; rw [hb2] at this; exact this)
      clear hb2 ge3
      go_enter Tryz.func27, Tryz.ntmps27
      go_wp2_with fail
      rw [← hX]
      refine HN.out.mono ?_
      rintro e1 w1 ⟨rfl, hw1⟩
      have q0 := (hw1.cell (p := ⟨w.heap.size, 0, none⟩) hzX).trans p0
      have HW1 := hide hw1
      clear hw1
      go_wp2_with fail
      refine (HA.out _ (HBX.out.trans (HW1.out.mono (Nat.le_of_lt hzX)))).mono ?_
      rintro e2 w2 ⟨rfl, hw2⟩
      go_wp2
      go_ret
      exact HEND.out _ false HNO.out (HW1.out.trans (hw2.mono HW1.out.size))
    · have HB2 := hide hb2
      have HA := hide (fun W hW => by have := H2.out W hW; rw [hb2] at this; exact this)
      clear hb2
      go_enter Tryz.func27, Tryz.ntmps27
      go_wp2_with fail
      rw [← hX]
      refine HN.out.mono ?_
      rintro e1 w1 ⟨rfl, hw1⟩
      have q0 := (hw1.cell (p := ⟨w.heap.size, 0, none⟩) hzX).trans p0
      have HW1 := hide hw1
      clear hw1
      go_wp2_with fail
      refine (HA.out _ (HBX.out.trans (HW1.out.mono (Nat.le_of_lt hzX)))).mono ?_
      rintro e2 w2 ⟨rfl, hw2⟩
      replace q0 := (hw2.cell (p := ⟨w.heap.size, 0, none⟩) (Nat.lt_of_lt_of_le hzX HW1.out.size)).trans q0
      have HW2 := hide (HW1.out.trans (hw2.mono HW1.out.size))
      clear hw2
      go_wp2_with fail
      refine (H3.out _ (HBX.out.trans (HW2.out.mono (Nat.le_of_lt hzX)))).mono ?_
      rintro e3 w3 ⟨r, rfl, hpw, hw3⟩
      replace q0 := (hw3.cell (p := ⟨w.heap.size, 0, none⟩) (Nat.lt_of_lt_of_le hzX HW2.out.size)).trans q0
      have q7 := (hw3.cell (p := ⟨w.heap.size, 7, none⟩) (Nat.lt_of_lt_of_le hzX HW2.out.size)).trans ((HW2.out.cell (p := ⟨w.heap.size, 7, none⟩) hzX).trans p7)
      have HW3 := hide (HW2.out.trans (hw3.mono HW2.out.size))
      have HPW := hide hpw
      clear hw3 hpw p0 p7
      have hz3 : w.heap.size < w3.heap.size := Nat.lt_of_lt_of_le hzX HW3.out.size
      by_cases hr : r = -1
      · have f1 : (r != -1) = false := by simp [hr]
        have f2 : (r == -1) = true := by simp [hr]
        have HP1 : Hid (PWrong n specs calls es ls ky (-1)) := hide (by rw [← hr]; exact HPW.out)
        subst hr
        go_wp2
        go_loopw [38] (fun i wr => ∃ k : Nat, k ≤ es.length ∧ i = .int .i64 k ∧ Hid (∀ (j : Nat) (e : Ev), j < k → es[j]? = some e → okIn es ky ticks j e = true) ∧ Hid (Below w3.heap.size w3 wr)) (fun i _ => es.length - (intOf i).toNat)
        case atStart => exact ⟨0, Nat.zero_le _, rfl, hide (fun j e hj => by omega), hide (Below.refl _ _)⟩
        case round =>
          obtain ⟨k, hk, rfl, hok, hB⟩ := hrel
          have hzr := hB.out.size
          replace q0 := (hB.out.cell (p := ⟨w.heap.size, 0, none⟩) hz3).trans q0
          replace q7 := (hB.out.cell (p := ⟨w.heap.size, 7, none⟩) hz3).trans q7
          by_cases hlt : k < es.length
          · obtain ⟨e, he⟩ : ∃ e, es[k]? = some e := ⟨_, List.getElem?_eq_getElem hlt⟩
            obtain ⟨g, o, rfl, hg, hce⟩ := ge3 k e he
            have hBr : Below w.heap.size w wr := HBX.out.trans ((HW3.out.trans (hB.out.mono HW3.out.size)).mono (Nat.le_of_lt hzX))
            obtain ⟨u0, u1, u2, u3, u4, u5, u6, u7⟩ := ev_cells (hce.of_block (w' := wr) (hBr.block g hg))
            have hkd := (HX.out.key.key k e he).below hBr (Nat.le_refl _)
            have hkN : e.kN = (ky k).length := by obtain ⟨_, _, e1, _⟩ := hkd; injection e1
            have p1 : (0 : Int) ≤ (k : Int) := by omega
            have p2 : (k : Int) < (es.length : Int) := by omega
            have hzw : w.heap.size < wr.heap.size := Nat.lt_of_lt_of_le hz3 hzr
            have gz : g < wr.heap.size := Nat.lt_of_lt_of_le hg hBr.size
            have HKD := hide hkd
            have HKN := hide hkN
            have HE := hide he
            clear hkd hkN he hce ge3 hBr
            by_cases r0 : e.resp = 0
            · have f1' : (e.resp == 0) = true := by simp [r0]
              have HEN : Hid ((if e.resp = 0 then ticks else e.resp) = ticks) := hide (if_pos r0)
              clear r0
              by_cases n1 : ky k = []
              · have d1 : decide ((0 : Int) < (e.kN : Int)) = false := by have := HKN.out; rw [n1] at this; simp at this; simp; omega
                have d1' : decide (0 < e.kN) = false := by have := HKN.out; rw [n1] at this; simp at this; simp; omega
                have HOK2 : Hid (okIn es ky ticks k e = true) := hide (by unfold okIn; rw [n1]; rfl)
                clear n1
                go_wp2
                go_roundw
                case rel => exact ⟨k + 1, by omega, by go_num, hide (fun j e' hj he' => by
                  by_cases hjk : j = k
                  · subst hjk
                    have := HE.out
                    rw [this] at he'
                    cases he'
                    exact HOK2.out
                  · exact hok.out j e' (by omega) he'), hide (by have hq := hB.out; (repeat' (first | with_reducible (first | assumption | exact Below.refl _ _ | refine Below.drew ?_ | refine below_drewN ?_ _ | refine Below.alloc ?_ ?_ _ | refine Below.setCell ?_ ?_ _) | omega | (simp; done) | (simp; omega))))⟩
                case measure => simp [intOf] <;> omega
              · have hp1 : 0 < e.kN := by have := HKN.out; rw [this]; exact List.length_pos_iff.2 n1
                have d1 : decide ((0 : Int) < (e.kN : Int)) = true := by simp; omega
                have d1' : decide (0 < e.kN) = true := by simp; omega
                have NW := fun W (hW : Below wr.heap.size wr W) => rwithin_any (.slice e.kA e.kN e.kC) (ky k) e.inv (ticks) W (HKD.out.below hW (Nat.le_refl _)) (HKW.out k e HE.out)
                have HN1 := hide n1
                rcases hwi : withinR (ky k) e.inv (ticks) with _ | _
                · have HNO : Hid ((false : Bool) = true ↔ Right28 n specs calls es ls ky ticks) := hide ⟨fun h => (by cases h), fun h => by
                    have := h.within k e HE.out
                    unfold okIn at this
                    rw [HEN.out, hwi, decide_eq_false HN1.out] at this
                    cases this⟩
                  rw [hwi] at NW
                  have HNW := hide NW
                  clear hwi NW n1
                  go_wp2_with fail
                  refine (HNW.out _ ?_).mono ?_
                  · (repeat' (first | with_reducible (first | assumption | exact Below.refl _ _ | refine Below.drew ?_ | refine below_drewN ?_ _ | refine Below.alloc ?_ ?_ _ | refine Below.setCell ?_ ?_ _) | omega | (simp; done) | (simp; omega)))
                  rintro e4 w4 ⟨rfl, m4, rfl⟩
                  go_wp2
                  go_ret
                  exact HEND.out _ false HNO.out (below_drewN (Below.trans HW3.out (Below.mono (B := w3.heap.size) (by have hq := hB.out; (repeat' (first | with_reducible (first | assumption | exact Below.refl _ _ | refine Below.drew ?_ | refine below_drewN ?_ _ | refine Below.alloc ?_ ?_ _ | refine Below.setCell ?_ ?_ _) | omega | (simp; done) | (simp; omega)))) HW3.out.size)) _)
                · have HOK2 : Hid (okIn es ky ticks k e = true) := hide (by unfold okIn; rw [HEN.out, hwi, Bool.or_true])
                  rw [hwi] at NW
                  have HNW := hide NW
                  clear hwi NW n1
                  go_wp2_with fail
                  refine (HNW.out _ ?_).mono ?_
                  · (repeat' (first | with_reducible (first | assumption | exact Below.refl _ _ | refine Below.drew ?_ | refine below_drewN ?_ _ | refine Below.alloc ?_ ?_ _ | refine Below.setCell ?_ ?_ _) | omega | (simp; done) | (simp; omega)))
                  rintro e4 w4 ⟨rfl, m4, rfl⟩
                  go_wp2
                  go_roundw
                  case rel => exact ⟨k + 1, by omega, by go_num, hide (fun j e' hj he' => by
                    by_cases hjk : j = k
                    · subst hjk
                      have := HE.out
                      rw [this] at he'
                      cases he'
                      exact HOK2.out
                    · exact hok.out j e' (by omega) he'), hide (by have hq := hB.out; (repeat' (first | with_reducible (first | assumption | exact Below.refl _ _ | refine Below.drew ?_ | refine below_drewN ?_ _ | refine Below.alloc ?_ ?_ _ | refine Below.setCell ?_ ?_ _) | omega | (simp; done) | (simp; omega))))⟩
                  case measure => simp [intOf] <;> omega
            · have f1' : (e.resp == 0) = false := by simp [r0]
              have HEN : Hid ((if e.resp = 0 then ticks else e.resp) = e.resp) := hide (if_neg r0)
              clear r0
              by_cases n1 : ky k = []
              · have d1 : decide ((0 : Int) < (e.kN : Int)) = false := by have := HKN.out; rw [n1] at this; simp at this; simp; omega
                have d1' : decide (0 < e.kN) = false := by have := HKN.out; rw [n1] at this; simp at this; simp; omega
                have HOK2 : Hid (okIn es ky ticks k e = true) := hide (by unfold okIn; rw [n1]; rfl)
                clear n1
                go_wp2
                go_roundw
                case rel => exact ⟨k + 1, by omega, by go_num, hide (fun j e' hj he' => by
                  by_cases hjk : j = k
                  · subst hjk
                    have := HE.out
                    rw [this] at he'
                    cases he'
                    exact HOK2.out
                  · exact hok.out j e' (by omega) he'), hide (by have hq := hB.out; (repeat' (first | with_reducible (first | assumption | exact Below.refl _ _ | refine Below.drew ?_ | refine below_drewN ?_ _ | refine Below.alloc ?_ ?_ _ | refine Below.setCell ?_ ?_ _) | omega | (simp; done) | (simp; omega))))⟩
                case measure => simp [intOf] <;> omega
              · have hp1 : 0 < e.kN := by have := HKN.out; rw [this]; exact List.length_pos_iff.2 n1
                have d1 : decide ((0 : Int) < (e.kN : Int)) = true := by simp; omega
                have d1' : decide (0 < e.kN) = true := by simp; omega
                have NW := fun W (hW : Below wr.heap.size wr W) => rwithin_any (.slice e.kA e.kN e.kC) (ky k) e.inv (e.resp) W (HKD.out.below hW (Nat.le_refl _)) (HKW.out k e HE.out)
                have HN1 := hide n1
                rcases hwi : withinR (ky k) e.inv (e.resp) with _ | _
                · have HNO : Hid ((false : Bool) = true ↔ Right28 n specs calls es ls ky ticks) := hide ⟨fun h => (by cases h), fun h => by
                    have := h.within k e HE.out
                    unfold okIn at this
                    rw [HEN.out, hwi, decide_eq_false HN1.out] at this
                    cases this⟩
                  rw [hwi] at NW
                  have HNW := hide NW
                  clear hwi NW n1
                  go_wp2_with fail
                  refine (HNW.out _ ?_).mono ?_
                  · (repeat' (first | with_reducible (first | assumption | exact Below.refl _ _ | refine Below.drew ?_ | refine below_drewN ?_ _ | refine Below.alloc ?_ ?_ _ | refine Below.setCell ?_ ?_ _) | omega | (simp; done) | (simp; omega)))
                  rintro e4 w4 ⟨rfl, m4, rfl⟩
                  go_wp2
                  go_ret
                  exact HEND.out _ false HNO.out (below_drewN (Below.trans HW3.out (Below.mono (B := w3.heap.size) (by have hq := hB.out; (repeat' (first | with_reducible (first | assumption | exact Below.refl _ _ | refine Below.drew ?_ | refine below_drewN ?_ _ | refine Below.alloc ?_ ?_ _ | refine Below.setCell ?_ ?_ _) | omega | (simp; done) | (simp; omega)))) HW3.out.size)) _)
                · have HOK2 : Hid (okIn es ky ticks k e = true) := hide (by unfold okIn; rw [HEN.out, hwi, Bool.or_true])
                  rw [hwi] at NW
                  have HNW := hide NW
                  clear hwi NW n1
                  go_wp2_with fail
                  refine (HNW.out _ ?_).mono ?_
                  · (repeat' (first | with_reducible (first | assumption | exact Below.refl _ _ | refine Below.drew ?_ | refine below_drewN ?_ _ | refine Below.alloc ?_ ?_ _ | refine Below.setCell ?_ ?_ _) | omega | (simp; done) | (simp; omega)))
                  rintro e4 w4 ⟨rfl, m4, rfl⟩
                  go_wp2
                  go_roundw
                  case rel => exact ⟨k + 1, by omega, by go_num, hide (fun j e' hj he' => by
                    by_cases hjk : j = k
                    · subst hjk
                      have := HE.out
                      rw [this] at he'
                      cases he'
                      exact HOK2.out
                    · exact hok.out j e' (by omega) he'), hide (by have hq := hB.out; (repeat' (first | with_reducible (first | assumption | exact Below.refl _ _ | refine Below.drew ?_ | refine below_drewN ?_ _ | refine Below.alloc ?_ ?_ _ | refine Below.setCell ?_ ?_ _) | omega | (simp; done) | (simp; omega))))⟩
                  case measure => simp [intOf] <;> omega
          · have HYES : Hid (Right28 n specs calls es ls ky ticks) := hide ⟨HB1.out, HB2.out, HP1.out, fun j e he => hok.out j e (by have := (List.getElem?_eq_some_iff.1 he).1; omega) he⟩
            have d9 : decide ((k : Int) < (es.length : Int)) = false := by simp; omega
            have d8 : decide (k < es.length) = false := by simp; omega
            clear ge3
            go_wp2
            go_ret
            exact HEND.out _ true ⟨fun _ => HYES.out, fun _ => rfl⟩ (HW3.out.trans (hB.out.mono HW3.out.size))
      · have f1 : (r != -1) = true := by simp [hr]
        have f2 : (r == -1) = false := by simp [hr]
        have hr2 := hr
        have HNO : Hid ((false : Bool) = true ↔ Right28 n specs calls es ls ky ticks) := hide ⟨fun h => (by cases h), fun h => absurd (pwrong_one HPW.out h.wrong) hr⟩
        clear hr ge3
        go_wp2
        go_ret
        exact HEND.out _ false HNO.out HW3.out
end Go.Proofs.YtmiimpmfkjcjlaaGreat

namespace Go.Proofs.YtmiimpmfkjcjlaaGreat
open Go.RowKit
theorem okR_okEk {n : Int} {calls : List Cl} {ky : Nat → List Int} {k : Nat} {e : Ev} (h : e.kN = (ky k).length) : okR n calls e = okEk n calls ky k e := by
  unfold okR okEk
  congr 3
  rw [h]
  cases ky k <;> simp
theorem badEv_iff {w : World} {v : Value} {n : Int} {calls : List Cl} {es : List Ev} {ky : Nat → List Int} (h : EvKey w v es ky) : BadEv n calls es ky ↔ es.all (okR n calls) = false := by
  have hk : ∀ (k : Nat) (e : Ev), es[k]? = some e → okR n calls e = okEk n calls ky k e := fun k e he => okR_okEk (by obtain ⟨_, _, e1, _⟩ := h.key k e he; injection e1)
  rw [List.all_eq_false]
  constructor
  · rintro ⟨k, e, he, hb⟩
    exact ⟨e, List.mem_of_getElem? he, by rw [hk k e he, hb]; simp⟩
  · rintro ⟨e, he, hb⟩
    obtain ⟨k, hk1, hk2⟩ := List.getElem_of_mem he
    have hek : es[k]? = some e := by rw [List.getElem?_eq_getElem hk1, hk2]
    exact ⟨k, e, hek, by rw [← hk k e hek]; simpa using hb⟩
def LHPost (n ticks : Int) (specs : List Sp) (calls : List Cl) (es : List Ev) (ls ky : Nat → List Int) (w : World) (e : Ending) (w' : World) : Prop :=
  ∃ R : Bool, e = .returned (.bool R) ∧ (R = true ↔ layE n specs = 0 ∧ Right28 n specs calls es ls ky ticks) ∧ Below w.heap.size w w'
set_option maxRecDepth 100000 in
set_option maxHeartbeats 4000000 in
theorem linWhole_any (n ticks : Int) (S C L : Value) (specs : List Sp) (calls : List Cl) (es : List Ev) (ls ky : Nat → List Int) (wA : Option Addr) (wN wC : Nat) (c0 c1 c2 c3 c4 idle : Int) (w : World) (h : PwCtx w S C L specs calls es ls ky) (hm : es.length ≤ 1000) (hw : ∀ c ∈ calls, U64 c.a ∧ U64 c.b ∧ U64 c.c) (hwf : ∀ e ∈ es, EvWf e) (hkw : ∀ (k : Nat) (e : Ev), es[k]? = some e → ∀ x ∈ ky k, (Lit.int .i64 x).wf = true) :
    Calls Tryz.prog 33 #[.int .i64 n, S, C, repV L wA wN wC c0 c1 c2 c3 c4 ticks idle] w (LHPost n ticks specs calls es ls ky w) := by
  obtain ⟨Ae, ce, rfl, ge1, ge2, ge3⟩ := id h.key.evs
  obtain ⟨As, cs, rfl, gs1, gs2, gs3⟩ := id h.specs
  obtain ⟨Ac, cc, rfl, gc1, gc2, gc3⟩ := id h.calls
  have hes63 : (es.length : Int) ≤ 1000 := by omega
  have HH := hide h
  have HW := hide hw
  have HWF := hide hwf
  have HKW := hide hkw
  have HM := hide hm
  obtain ⟨W1, hW1⟩ : ∃ W, W = w.alloc (.cells #[.slice Ae es.length ce, .slice wA wN wC, .int .i64 c0, .int .i64 c1, .int .i64 c2, .int .i64 c3, .int .i64 c4, .int .i64 ticks, .int .i64 idle] 70) := ⟨_, rfl⟩
  have HW1 : Hid (Below w.heap.size w W1) := hide (by rw [hW1]; exact (Below.refl _ _).alloc (Nat.le_refl _) _)
  have r0 : W1.cell? ⟨w.heap.size, 0, none⟩ = some (.slice Ae es.length ce) := by rw [hW1]; exact cell_of_row _ _ 0 _ _ _ (heap_alloc_new _ _)
  have r7 : W1.cell? ⟨w.heap.size, 7, none⟩ = some (.int .i64 ticks) := by rw [hW1]; exact cell_of_row _ _ 7 _ _ _ (heap_alloc_new _ _)
  have rz : w.heap.size < W1.heap.size := by rw [hW1]; simp
  have N1 := hide (fun W (hW : Below w.heap.size w W) => hright_any n ticks (.slice Ac calls.length cc) (.slice Ae es.length ce) calls es W (HH.out.calls.below hW (Nat.le_refl _)) (HH.out.key.evs.below hW (Nat.le_refl _)) HWF.out)
  have N2 := hide (fun W (hW : Below w.heap.size w W) => linAhead_any (.slice Ae es.length ce) es ky W (HH.out.key.below hW) (by have := HM.out; omega))
  have N3 := hide (fun W (hW : Below w.heap.size w W) => linWrong_any n (.slice As specs.length cs) (.slice Ac calls.length cc) (.slice Ae es.length ce) specs calls es ls ky W (HH.out.below hW) HM.out HW.out)
  obtain ⟨b1, hb1⟩ : ∃ b, rightB n calls es ticks = b := ⟨_, rfl⟩
  rw [hb1] at N1
  obtain ⟨b2, hb2⟩ : ∃ b, aheadK es ky = b := ⟨_, rfl⟩
  rw [hb2] at N2
  have HB1 : Hid (refB n calls es ticks = b1) := hide (by rw [← right_ref]; exact hb1)
  have HB2 := hide hb2
  clear h hw hwf hkw gs3 gc3 hb1 hb2
  unfold repV
  go_enter Tryz.func33, Tryz.ntmps33
  go_wp2_with fail
  rw [← hW1]
  clear hW1
  refine (N1.out _ HW1.out).mono ?_
  rintro e1 W2 ⟨rfl, hw2⟩
  have HW2 := hide (HW1.out.trans (hw2.mono HW1.out.size))
  cases b1
  · have HF : Hid (LHPost n ticks specs calls es ls ky w (.returned (.bool false)) W2) := hide ⟨false, rfl, ⟨fun hh => (by cases hh), fun hh => (by have := hh.2.hist; rw [HB1.out] at this; cases this)⟩, HW2.out⟩
    go_wp2
    go_ret
    exact HF.out
  · have r02 := (hw2.cell (p := ⟨w.heap.size, 0, none⟩) rz).trans r0
    have r72 := (hw2.cell (p := ⟨w.heap.size, 7, none⟩) rz).trans r7
    have rz2 : w.heap.size < W2.heap.size := Nat.lt_of_lt_of_le rz hw2.size
    have HW12 := hide hw2
    clear hw2 r0 r7
    go_wp2_with fail
    refine (N2.out _ HW2.out).mono ?_
    rintro e1 W3 ⟨rfl, hw3⟩
    have HW3 := hide (HW2.out.trans (hw3.mono HW2.out.size))
    cases b2
    · have HF : Hid (LHPost n ticks specs calls es ls ky w (.returned (.bool false)) W3) := hide ⟨false, rfl, ⟨fun hh => (by cases hh), fun hh => (by have := hh.2.ahead; rw [HB2.out] at this; cases this)⟩, HW3.out⟩
      go_wp2
      go_ret
      exact HF.out
    · have r0 := (hw3.cell (p := ⟨w.heap.size, 0, none⟩) rz2).trans r02
      have r7 := (hw3.cell (p := ⟨w.heap.size, 7, none⟩) rz2).trans r72
      have rz3 : w.heap.size < W3.heap.size := Nat.lt_of_lt_of_le rz2 hw3.size
      clear hw3 r02 r72 rz rz2 HW12
      clear HW1
      have HW1 := HW3
      go_wp2
      go_loopw [31] (fun i wr => ∃ k : Nat, k ≤ es.length ∧ i = .int .i64 k ∧ Hid (∀ (j : Nat), j < k → ∀ e, es[j]? = some e → okIn es ky ticks j e = true) ∧ Hid (Below W3.heap.size W3 wr)) (fun i _ => es.length - (intOf i).toNat)
      case atStart => exact ⟨0, Nat.zero_le _, rfl, hide (fun j hj => by omega), hide (Below.refl _ _)⟩
      case round =>
        obtain ⟨k, hk, rfl, hin, hB⟩ := hrel
        have t7 := (hB.out.cell (p := ⟨w.heap.size, 7, none⟩) rz3).trans r7
        have t0 := (hB.out.cell (p := ⟨w.heap.size, 0, none⟩) rz3).trans r0
        have tz : w.heap.size < wr.heap.size := Nat.lt_of_lt_of_le rz3 hB.out.size
        by_cases hlt : k < es.length
        · obtain ⟨e, he⟩ : ∃ e, es[k]? = some e := ⟨_, List.getElem?_eq_getElem hlt⟩
          obtain ⟨g, o, rfl, hg, hce⟩ := ge3 k e he
          have hbw : Below w.heap.size w wr := HW3.out.trans (hB.out.mono HW3.out.size)
          obtain ⟨k0, k1, k2, k3, k4, k5, k6, k7⟩ := ev_cells (hce.of_block (w' := wr) (hbw.block g hg))
          have q0 : (0 : Int) ≤ (k : Int) := by omega
          have q1 : (k : Int) < (es.length : Int) := by omega
          have hky := (HH.out.key.key k e he).below hbw (Nat.le_refl _)
          have hkN : e.kN = (ky k).length := by obtain ⟨_, _, e1, _⟩ := hky; injection e1
          have HKY := hide hky
          have HE := hide he
          have HBn : Hid (Below W3.heap.size W3 (wr.alloc (.cells #[.int .i64 e.call, .int .i64 e.inv, .int .i64 e.resp, .int .i64 e.steps, .int .i64 e.err, .int .u64 e.val, .slice e.lA e.lN e.lC, .slice e.kA e.kN e.kC] 62))) := hide (hB.out.alloc hB.out.size _)
          obtain ⟨E, hE⟩ : ∃ E, (if e.resp = 0 then ticks else e.resp) = E := ⟨_, rfl⟩
          have HE1 := hide hE
          by_cases n1 : ky k = []
          · have d1 : decide ((0 : Int) < (e.kN : Int)) = false := by rw [hkN, n1]; rfl
            have d2 : decide (0 < e.kN) = false := by rw [hkN, n1]; rfl
            have HOKP : Hid (okIn es ky ticks k e = true) := hide (by unfold okIn; rw [decide_eq_true n1]; rfl)
            clear he hce hky hkN hE n1
            by_cases r1 : e.resp = 0
            · have f1 : (e.resp == 0) = true := by simp [r1]
              clear r1
              go_wp2
              go_roundw
              case rel => exact ⟨k + 1, by omega, by go_num, hide (fun j hj e' he' => by
                by_cases e1 : j = k
                · subst e1; rw [HE.out] at he'; cases he'; exact HOKP.out
                · exact hin.out j (by omega) e' he'), HBn⟩
              case measure => simp [intOf] <;> omega
            · have f1 : (e.resp == 0) = false := by simpa using r1
              clear r1
              go_wp2
              go_roundw
              case rel => exact ⟨k + 1, by omega, by go_num, hide (fun j hj e' he' => by
                by_cases e1 : j = k
                · subst e1; rw [HE.out] at he'; cases he'; exact HOKP.out
                · exact hin.out j (by omega) e' he'), HBn⟩
              case measure => simp [intOf] <;> omega
          · have hpos : 0 < e.kN := by rw [hkN]; exact List.length_pos_iff.2 n1
            have d1 : decide ((0 : Int) < (e.kN : Int)) = true := by simp; omega
            have d2 : decide (0 < e.kN) = true := by simp; omega
            have NW := hide (fun W h => kwithin_any (.slice e.kA e.kN e.kC) (ky k) e.inv E W h (HKW.out k e he))
            obtain ⟨B, hBw⟩ : ∃ B, withinR (ky k) e.inv E = B := ⟨_, rfl⟩
            rw [hBw] at NW
            have HB0 := hide hBw
            have HK0 := hide n1
            by_cases r1 : e.resp = 0
            · have f1 : (e.resp == 0) = true := by simp [r1]
              have hE2 : ticks = E := by rw [← hE, if_pos r1]
              subst hE2
              clear he hce hky hkN hE n1 hpos hBw r1
              go_wp2_with fail
              refine (NW.out _ (HKY.out.alloc _)).mono ?_
              rintro e9 w9 ⟨rfl, m9, rfl⟩
              clear NW
              have HBm : Hid (Below W3.heap.size W3 ((wr.alloc (.cells #[.int .i64 e.call, .int .i64 e.inv, .int .i64 e.resp, .int .i64 e.steps, .int .i64 e.err, .int .u64 e.val, .slice e.lA e.lN e.lC, .slice e.kA e.kN e.kC] 62)).drewN m9)) := hide (below_drewN HBn.out _)
              clear HBn
              have HBn := HBm
              cases B
              · have HF : Hid (LHPost n ticks specs calls es ls ky w (.returned (.bool false)) ((wr.alloc (.cells #[.int .i64 e.call, .int .i64 e.inv, .int .i64 e.resp, .int .i64 e.steps, .int .i64 e.err, .int .u64 e.val, .slice e.lA e.lN e.lC, .slice e.kA e.kN e.kC] 62)).drewN m9)) := hide ⟨false, rfl, ⟨fun hh => (by cases hh), fun hh => (by
                  have := hh.2.within k e HE.out
                  unfold okIn at this
                  rw [HE1.out, HB0.out, decide_eq_false HK0.out] at this
                  cases this)⟩, HW1.out.trans (HBn.out.mono HW1.out.size)⟩
                clear hin hB
                go_wp2
                go_ret
                exact HF.out
              · have HOKP : Hid (okIn es ky ticks k e = true) := hide (by unfold okIn; rw [HE1.out, HB0.out]; simp)
                go_wp2
                go_roundw
                case rel => exact ⟨k + 1, by omega, by go_num, hide (fun j hj e' he' => by
                  by_cases e1 : j = k
                  · subst e1; rw [HE.out] at he'; cases he'; exact HOKP.out
                  · exact hin.out j (by omega) e' he'), HBn⟩
                case measure => simp [intOf] <;> omega
            · have f1 : (e.resp == 0) = false := by simpa using r1
              have hE2 : e.resp = E := by rw [← hE, if_neg r1]
              rw [← hE2] at NW HB0 HE1
              clear he hce hky hkN hE n1 hpos hBw r1 hE2
              go_wp2_with fail
              refine (NW.out _ (HKY.out.alloc _)).mono ?_
              rintro e9 w9 ⟨rfl, m9, rfl⟩
              clear NW
              have HBm : Hid (Below W3.heap.size W3 ((wr.alloc (.cells #[.int .i64 e.call, .int .i64 e.inv, .int .i64 e.resp, .int .i64 e.steps, .int .i64 e.err, .int .u64 e.val, .slice e.lA e.lN e.lC, .slice e.kA e.kN e.kC] 62)).drewN m9)) := hide (below_drewN HBn.out _)
              clear HBn
              have HBn := HBm
              cases B
              · have HF : Hid (LHPost n ticks specs calls es ls ky w (.returned (.bool false)) ((wr.alloc (.cells #[.int .i64 e.call, .int .i64 e.inv, .int .i64 e.resp, .int .i64 e.steps, .int .i64 e.err, .int .u64 e.val, .slice e.lA e.lN e.lC, .slice e.kA e.kN e.kC] 62)).drewN m9)) := hide ⟨false, rfl, ⟨fun hh => (by cases hh), fun hh => (by
                  have := hh.2.within k e HE.out
                  unfold okIn at this
                  rw [HE1.out, HB0.out, decide_eq_false HK0.out] at this
                  cases this)⟩, HW1.out.trans (HBn.out.mono HW1.out.size)⟩
                clear hin hB
                go_wp2
                go_ret
                exact HF.out
              · have HOKP : Hid (okIn es ky ticks k e = true) := hide (by unfold okIn; rw [HE1.out, HB0.out]; simp)
                go_wp2
                go_roundw
                case rel => exact ⟨k + 1, by omega, by go_num, hide (fun j hj e' he' => by
                  by_cases e1 : j = k
                  · subst e1; rw [HE.out] at he'; cases he'; exact HOKP.out
                  · exact hin.out j (by omega) e' he'), HBn⟩
                case measure => simp [intOf] <;> omega
        · have d1 : decide ((k : Int) < (es.length : Int)) = false := by simp; omega
          have d2 : decide (k < es.length) = false := by simp; omega
          have HIN : Hid (∀ (j : Nat) e, es[j]? = some e → okIn es ky ticks j e = true) := hide (fun j e he => hin.out j (by have := (List.getElem?_eq_some_iff.1 he).1; omega) e he)
          have HBW := hide (HW3.out.trans (hB.out.mono HW3.out.size))
          clear hin hB
          go_wp2_with fail
          refine (N3.out _ HBW.out).mono ?_
          rintro e5 W5 ⟨hb5, hR⟩
          have HW5 := hide (HBW.out.trans (hb5.mono HBW.out.size))
          clear hb5 t7 t0 r0 r7
          rcases hR with ⟨h1, rfl⟩ | ⟨h1, h2, rfl⟩ | ⟨h1, h2, LL, h3, rfl⟩
          · have HF : Hid (LHPost n ticks specs calls es ls ky w (.returned (.bool false)) W5) := hide ⟨false, rfl, ⟨fun hh => (by cases hh), fun hh => absurd hh.1 h1⟩, HW5.out⟩
            have g0 : (layE n specs == 0) = false := by simpa using h1
            clear h1
            go_wp2
            go_ret
            exact HF.out
          · have HF : Hid (LHPost n ticks specs calls es ls ky w (.returned (.bool false)) W5) := hide ⟨false, rfl, ⟨fun hh => (by cases hh), fun hh => (by
              have hb := (badEv_iff (n := n) (calls := calls) HH.out.key).2 h2
              rcases hh.2.wrong with ⟨_, h⟩ | ⟨h, _⟩
              · omega
              · exact absurd hb h)⟩, HW5.out⟩
            clear h1 h2
            go_wp2
            go_ret
            exact HF.out
          · obtain ⟨RR, hRR⟩ : ∃ RR, runL n specs calls es ls LL (specs.map (newM n)) = RR := ⟨_, rfl⟩
            have hnb : ¬ BadEv n calls es ky := fun hb => by have := (badEv_iff (n := n) (calls := calls) HH.out.key).1 hb; rw [h2] at this; cases this
            rw [hRR]
            rcases RR with _ | i
            · have HF : Hid (LHPost n ticks specs calls es ls ky w (.returned (.bool true)) W5) := hide ⟨true, rfl, ⟨fun _ => ⟨h1, ⟨HB1.out, HB2.out, Or.inr ⟨hnb, LL, h3, by rw [hRR]; rfl⟩, HIN.out⟩⟩, fun _ => rfl⟩, HW5.out⟩
              clear h1 h2 h3 hRR hnb
              unfold wrongI
              go_wp2
              go_ret
              exact HF.out
            · have HF : Hid (LHPost n ticks specs calls es ls ky w (.returned (.bool false)) W5) := hide ⟨false, rfl, ⟨fun hh => (by cases hh), fun hh => (by
                rcases hh.2.wrong with ⟨h, _⟩ | ⟨_, L', h4, h5⟩
                · exact absurd h hnb
                · rw [IsOrd.one h4 h3, hRR] at h5
                  simp [wrongI] at h5)⟩, HW5.out⟩
              have g0 : ((i : Int) == -1) = false := by rw [beq_eq_false_iff_ne]; omega
              clear h1 h2 h3 hRR hnb
              unfold wrongI
              simp only []
              go_wp2
              go_ret
              exact HF.out
end Go.Proofs.YtmiimpmfkjcjlaaGreat

namespace Go.Proofs.YtmiimpmfkjcjlaaGreat
open Go.RowKit
def tS : List Sp := [⟨8, 2, 0⟩]
def tC : List Cl := [⟨0, 0, 0, 5, 0, 0⟩, ⟨0, 0, 1, 0, 0, 0⟩, ⟨1, 0, 1, 0, 0, 0⟩]
def tE (g : Nat) : List Ev := [⟨0, 1, 1, 1, 0, 0, none, 0, 0, some ⟨g, 0, none⟩, 1, 1⟩, ⟨2, 2, 4, 1, 0, 5, none, 0, 0, some ⟨g + 1, 0, none⟩, 1, 1⟩, ⟨1, 3, 3, 1, 0, 5, none, 0, 0, some ⟨g + 2, 0, none⟩, 1, 1⟩]
def tK (k : Nat) : List Int := if k = 0 then [2] else if k = 1 then [8] else if k = 2 then [6] else []
theorem t_lay : layE 2 tS = 0 := by decide
theorem t_word : ∀ c ∈ tC, U64 c.a ∧ U64 c.b ∧ U64 c.c := by
  intro c hc
  simp only [tC, List.mem_cons, List.not_mem_nil, or_false] at hc
  rcases hc with rfl | rfl | rfl <;> exact ⟨by unfold U64; decide, by unfold U64; decide, by unfold U64; decide⟩
theorem t_ord : IsOrd tK 3 [0, 2, 1] := by
  refine ⟨by simp [LtK, Lt, cfK, tK, kcmp], fun x => ?_⟩
  rcases x with _ | _ | _ | x <;> simp [tK]
theorem t_ord2 : IsOrd tK 2 [0, 1] := by
  refine ⟨by simp [LtK, Lt, cfK, tK, kcmp], fun x => ?_⟩
  rcases x with _ | _ | x
  · simp [tK]
  · simp [tK]
  · simp; omega
theorem t_ok (g : Nat) : (tE g).all (okR 2 tC) = true := by rfl
theorem t_ok2 (g : Nat) : ((tE g).take 2).all (okR 2 tC) = true := by rfl
theorem t_run (g : Nat) : runL 2 tS tC (tE g) (fun _ => []) [0, 2, 1] (tS.map (newM 2)) = some 1 := by kernel_rfl
theorem t_run2 (g : Nat) : runL 2 tS tC ((tE g).take 2) (fun _ => []) [0, 1] (tS.map (newM 2)) = none := by kernel_rfl
theorem t_ahead (g : Nat) : aheadK (tE g) tK = true := by rfl
theorem t_ahead2 (g : Nat) : aheadK ((tE g).take 2) tK = true := by rfl
theorem t_hist2 (g : Nat) : refB 2 tC ((tE g).take 2) 4 = true := by rfl
theorem t_in2 (g : Nat) : ∀ (k : Nat) (e : Ev), ((tE g).take 2)[k]? = some e → okIn ((tE g).take 2) tK 4 k e = true := by
  intro k e he
  rcases k with _ | _ | k
  · cases he; rfl
  · cases he; rfl
  · cases he
end Go.Proofs.YtmiimpmfkjcjlaaGreat
