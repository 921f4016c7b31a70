import Derived.Test.YtmiimpmfkjcjlaaGreatBun27
import Derived.Test.YtmiimpmfkjcjlaaGreatLr4
import Derived.Test.YtmiimpmfkjcjlaaGreatLr6
namespace Go.Proofs.YtmiimpmfkjcjlaaGreat
open Go.RowKit
def withinR (k : List Int) (inv resp : Int) : Bool :=
  match k with
  | [] => false
  | x :: _ => decide (0 ≤ x) && (decide (inv ≤ Int.tdiv x 2) && (decide (resp = 0) || decide (Int.tdiv x 2 + Int.tmod x 2 ≤ resp)))
def okIn (_es : List Ev) (ky : Nat → List Int) (ticks : Int) (k : Nat) (e : Ev) : Bool := decide (ky k = []) || withinR (ky k) e.inv (if e.resp = 0 then ticks else e.resp)
set_option maxRecDepth 100000 in
set_option maxHeartbeats 1000000 in
theorem rwithin_any (v : Value) (k : List Int) (inv resp : Int) (w : World) (h : SlI w v k) (hk : ∀ x ∈ k, (Lit.int .i64 x).wf = true) :
    Calls Tryz.prog 54 #[v, .int .i64 inv, .int .i64 resp] w fun e w' => e = .returned (.bool (withinR k inv resp)) ∧ ∃ m, w' = w.drewN m := by
  obtain ⟨A, cap, rfl, h1, h2, h3⟩ := h
  obtain ⟨R, hR⟩ : ∃ R, withinR k inv resp = R := ⟨_, rfl⟩
  rw [hR]
  have HR := hide hR
  clear hR
  rcases k with _ | ⟨x, t⟩
  · have HF : Hid (false = R) := hide (by rw [← HR.out]; rfl)
    clear h3
    go_enter Tryz.func54, Tryz.ntmps54
    go_wp2
    go_ret
    exact ⟨ret_bool HF.out, 0, rfl⟩
  · obtain ⟨b, o, rfl, hb, hc⟩ := h3 0 x rfl
    have c1 := nt_cell hc
    simp only [Nat.zero_mul, Nat.add_zero] at c1
    obtain ⟨b1, b2⟩ := bounds_i64 (hk x (by simp))
    have hl0 : ((((x :: t).length : Nat) : Int) == 0) = false := by rw [beq_eq_false_iff_ne]; simp; omega
    have hl1 : (0 : Int) < (((x :: t).length : Nat) : Int) := by simp <;> omega
    have hl2 : 0 < (x :: t).length := by simp
    have hl3 : (((x :: t).length : Nat) == 0) = false := by simp
    obtain ⟨n, hn⟩ : ∃ n, (x :: t).length = n := ⟨_, rfl⟩
    rw [hn] at hl0 hl1 hl2 hl3 ⊢
    clear h3 hc hn h1
    by_cases x0 : x < 0
    · have d0 : decide (x < 0) = true := by simpa using x0
      have HF : Hid (false = R) := hide (by rw [← HR.out]; show false = (decide (0 ≤ x) && _); rw [decide_eq_false (show ¬ 0 ≤ x by omega)]; rfl)
      clear x0
      go_enter Tryz.func54, Tryz.ntmps54
      go_wp2
      go_ret
      exact ⟨ret_bool HF.out, 0, rfl⟩
    · have d0 : decide (x < 0) = false := by simpa using x0
      obtain ⟨D, hD⟩ : ∃ D, Int.tdiv x 2 = D := ⟨_, rfl⟩
      obtain ⟨M, hM⟩ : ∃ M, Int.tmod x 2 = M := ⟨_, rfl⟩
      have e1 : x = 2 * D + M := by rw [← hD, ← hM]; have := Int.mul_tdiv_add_tmod x 2; omega
      have e2 : 0 ≤ M ∧ M < 2 := by rw [← hM]; exact ⟨Int.tmod_nonneg _ (by omega), by have := Int.tmod_lt_of_pos x (show (0 : Int) < 2 by decide); omega⟩
      have e3 : 0 ≤ D ∧ D ≤ 4611686018427387904 := by omega
      have wD : IntKind.i64.wrap D = D := by rw [IntKind.wrap_i64]; omega
      have wM : IntKind.i64.wrap M = M := by rw [IntKind.wrap_i64]; omega
      have HR2 : Hid ((decide (inv ≤ D) && (decide (resp = 0) || decide (D + M ≤ resp))) = R) := hide (by
        rw [← HR.out]
        show _ = (decide (0 ≤ x) && (decide (inv ≤ Int.tdiv x 2) && (decide (resp = 0) || decide (Int.tdiv x 2 + Int.tmod x 2 ≤ resp))))
        rw [hD, hM, decide_eq_true (show 0 ≤ x by omega)]
        rfl)
      have HD := hide hD
      have HM := hide hM
      have hx2 : (x.tdiv 2) = D := hD
      have hx3 : (x.tmod 2) = M := hM
      clear hD hM e1 x0
      by_cases i1 : inv ≤ D
      · have f1 : decide (inv ≤ D) = true := by simpa using i1
        by_cases r1 : resp = 0
        · have f2 : (resp == 0) = true := by simpa using r1
          have HF : Hid (true = R) := hide (by rw [← HR2.out, f1, decide_eq_true r1]; rfl)
          clear i1 r1
          by_cases m1 : M = 1
          · subst m1
            have g0 : ((1 : Int) == 1) = true := rfl
            have wD1 : IntKind.i64.wrap (D + 1) = D + 1 := by rw [IntKind.wrap_i64]; omega
            go_enter Tryz.func54, Tryz.ntmps54
            go_wp2
            go_quiet (fail)
            go_wp2
            go_ret
            exact ⟨ret_bool (by first | exact HF.out | (rw [← HF.out]; simp; done)), _, rfl⟩
          · have g0 : (M == 1) = false := by simpa using m1
            have m0 : M = 0 := by omega
            have HF2 := HF.out
            try rw [m0, Int.add_zero] at HF2
            have HF3 := hide HF2
            clear HF2 m0 e2 m1
            go_enter Tryz.func54, Tryz.ntmps54
            go_wp2
            go_quiet (fail)
            go_wp2
            go_ret
            exact ⟨ret_bool (by first | exact HF3.out | (rw [← HF3.out]; simp; done)), _, rfl⟩
        · have f2 : (resp == 0) = false := by simpa using r1
          have HF : Hid (decide (D + M ≤ resp) = R) := hide (by rw [← HR2.out, f1, decide_eq_false r1]; rfl)
          clear i1 r1
          by_cases m1 : M = 1
          · subst m1
            have g0 : ((1 : Int) == 1) = true := rfl
            have wD1 : IntKind.i64.wrap (D + 1) = D + 1 := by rw [IntKind.wrap_i64]; omega
            go_enter Tryz.func54, Tryz.ntmps54
            go_wp2
            go_quiet (fail)
            go_wp2
            go_ret
            exact ⟨ret_bool (by first | exact HF.out | (rw [← HF.out]; simp; done)), _, rfl⟩
          · have g0 : (M == 1) = false := by simpa using m1
            have m0 : M = 0 := by omega
            have HF2 := HF.out
            try rw [m0, Int.add_zero] at HF2
            have HF3 := hide HF2
            clear HF2 m0 e2 m1
            go_enter Tryz.func54, Tryz.ntmps54
            go_wp2
            go_quiet (fail)
            go_wp2
            go_ret
            exact ⟨ret_bool (by first | exact HF3.out | (rw [← HF3.out]; simp; done)), _, rfl⟩
      · have f1 : decide (inv ≤ D) = false := by simpa using i1
        have HF : Hid (false = R) := hide (by rw [← HR2.out, f1]; rfl)
        clear i1
        by_cases m1 : M = 1
        · subst m1
          have g0 : ((1 : Int) == 1) = true := rfl
          have wD1 : IntKind.i64.wrap (D + 1) = D + 1 := by rw [IntKind.wrap_i64]; omega
          go_enter Tryz.func54, Tryz.ntmps54
          go_wp2
          go_quiet (fail)
          go_wp2
          go_ret
          exact ⟨ret_bool (by first | exact HF.out | (rw [← HF.out]; simp; done)), _, rfl⟩
        · have g0 : (M == 1) = false := by simpa using m1
          have m0 : M = 0 := by omega
          have HF2 := HF.out
          try rw [m0, Int.add_zero] at HF2
          have HF3 := hide HF2
          clear HF2 m0 e2 m1
          go_enter Tryz.func54, Tryz.ntmps54
          go_wp2
          go_quiet (fail)
          go_wp2
          go_ret
          exact ⟨ret_bool (by first | exact HF3.out | (rw [← HF3.out]; simp; done)), _, rfl⟩
end Go.Proofs.YtmiimpmfkjcjlaaGreat

namespace Go.Proofs.YtmiimpmfkjcjlaaGreat
open Go.RowKit
theorem pwrong_one {n : Int} {specs : List Sp} {calls : List Cl} {es : List Ev} {ls ky : Nat → List Int} {r r' : Int} (h : PWrong n specs calls es ls ky r) (h' : PWrong n specs calls es ls ky r') : r = r' := by
  rcases h with ⟨hb, rfl⟩ | ⟨hb, L, hL, rfl⟩ <;> rcases h' with ⟨hb', rfl⟩ | ⟨hb', L', hL', rfl⟩
  · rfl
  · exact absurd hb hb'
  · exact absurd hb' hb
  · rw [IsOrd.one hL hL']
structure Right28 (n : Int) (specs : List Sp) (calls : List Cl) (es : List Ev) (ls ky : Nat → List Int) (ticks : Int) : Prop where
  hist : refB n calls es ticks = true
  ahead : aheadK es ky = true
  wrong : PWrong n specs calls es ls ky (-1)
  within : ∀ (k : Nat) (e : Ev), es[k]? = some e → okIn es ky ticks k e = true
def repV (L : Value) (wA : Option Addr) (wN wC : Nat) (c0 c1 c2 c3 c4 t i : Int) : Value := .agg #[L, .slice wA wN wC, .int .i64 c0, .int .i64 c1, .int .i64 c2, .int .i64 c3, .int .i64 c4, .int .i64 t, .int .i64 i]
set_option maxRecDepth 100000 in
set_option maxHeartbeats 4000000 in
theorem right28_any (n ticks : Int) (S C L : Value) (specs : List Sp) (calls : List Cl) (es : List Ev) (ls ky : Nat → List Int) (wA : Option Addr) (wN wC : Nat) (k0 k1 k2 k3 k4 idle : Int) (w : World) (h : PwCtx w S C L specs calls es ls ky) (hlay : layE n specs = 0) (hm : es.length ≤ 1000) (hw : ∀ c ∈ calls, U64 c.a ∧ U64 c.b ∧ U64 c.c) (hwf : ∀ e ∈ es, EvWf e) (hkw : ∀ (k : Nat) (e : Ev), es[k]? = some e → ∀ x ∈ ky k, (Lit.int .i64 x).wf = true) :
    Calls Tryz.prog 27 #[.int .i64 n, S, C, repV L wA wN wC k0 k1 k2 k3 k4 ticks idle] w fun e w' => ∃ R : Bool, e = .returned (.bool R) ∧ (R = true ↔ Right28 n specs calls es ls ky ticks) ∧ Below w.heap.size w w' := by
  obtain ⟨Ae, ce, rfl, ge1, ge2, ge3⟩ := id h.key.evs
  obtain ⟨As, cs, rfl, gs1, gs2, gs3⟩ := id h.specs
  obtain ⟨Ac, cc, rfl, gc1, gc2, gc3⟩ := id h.calls
  have hlen : (es.length : Int) ≤ 1000 := by omega
  have N1 := fun W (hW : Below w.heap.size w W) => refRight_any n ticks _ _ calls es W (h.calls.below hW (Nat.le_refl _)) (h.key.evs.below hW (Nat.le_refl _)) hwf
  have N2 := fun W (hW : Below w.heap.size w W) => pAhead_any _ es ky W (h.key.below hW)
  have N3 := fun W (hW : Below w.heap.size w W) => pwrong_any n _ _ _ specs calls es ls ky W (h.below hW) hlay hm hw
  have H1 := hide N1
  have H2 := hide N2
  have H3 := hide N3
  have HX := hide h
  have HKW := hide hkw
  clear gs3 gc3 N1 N2 N3 h hlay hm hw hwf hkw
  unfold repV
  obtain ⟨X, hX⟩ : ∃ X, X = w.alloc (.cells #[.slice Ae es.length ce, .slice wA wN wC, .int .i64 k0, .int .i64 k1, .int .i64 k2, .int .i64 k3, .int .i64 k4, .int .i64 ticks, .int .i64 idle] 70) := ⟨_, rfl⟩
  have hBX : Below w.heap.size w X := by rw [hX]; exact (Below.refl _ _).alloc (Nat.le_refl _) _
  have hzX : w.heap.size < X.heap.size := by rw [hX]; simp
  have hXb : X.heap[w.heap.size]? = some (.cells #[.slice Ae es.length ce, .slice wA wN wC, .int .i64 k0, .int .i64 k1, .int .i64 k2, .int .i64 k3, .int .i64 k4, .int .i64 ticks, .int .i64 idle] 70 (0, 0)) := by rw [hX]; exact heap_alloc_new _ _
  have p0 : X.cell? ⟨w.heap.size, 0, none⟩ = some (.slice Ae es.length ce) := cell_of_row _ _ 0 _ _ _ hXb
  have p7 : X.cell? ⟨w.heap.size, 7, none⟩ = some (.int .i64 ticks) := cell_of_row _ _ 7 _ _ _ hXb
  have HBX := hide hBX
  have HXE := hide hX
  clear hXb hBX
  have hend : ∀ (W : World) (R : Bool), (R = true ↔ Right28 n specs calls es ls ky ticks) → Below X.heap.size X W → ∃ R' : Bool, Ending.returned (.bool R) = .returned (.bool R') ∧ (R' = true ↔ Right28 n specs calls es ls ky ticks) ∧ Below w.heap.size w W := fun W R hR hW => ⟨R, rfl, hR, HBX.out.trans (hW.mono (Nat.le_of_lt hzX))⟩
  have HEND := hide hend
  clear hend
  rcases hb1 : refB n calls es ticks with _ | _
  · have hno : ¬ Right28 n specs calls es ls ky ticks := fun h => by have := h.hist; rw [hb1] at this; cases this
    have HNO : Hid ((false : Bool) = true ↔ Right28 n specs calls es ls ky ticks) := hide ⟨fun h => (by cases h), fun h => absurd h hno⟩
    have N := H1.out X HBX.out
    rw [hb1] at N
    have HN := hide N
    clear hb1 hno N ge3
    go_enter Tryz.func27, Tryz.ntmps27
    go_wp2_with fail
    rw [← hX]
    refine HN.out.mono ?_
    rintro e1 w1 ⟨rfl, hw1⟩
    go_wp2
    go_ret
    exact HEND.out _ false HNO.out hw1
  · have N := H1.out X HBX.out
    rw [hb1] at N
    have HN := hide N
    have HB1 := hide hb1
    clear hb1 N
    rcases hb2 : aheadK es ky with _ | _
    · have HNO : Hid ((false : Bool) = true ↔ Right28 n specs calls es ls ky ticks) := hide ⟨fun h => (by cases h), fun h => by have := h.ahead; rw [hb2] at this; cases this⟩
      have HA := hide (fun W hW => by have := H2.out W hW; rw [hb2] at this; exact this)
      clear hb2 ge3
      go_enter Tryz.func27, Tryz.ntmps27
      go_wp2_with fail
      rw [← hX]
      refine HN.out.mono ?_
      rintro e1 w1 ⟨rfl, hw1⟩
      have q0 := (hw1.cell (p := ⟨w.heap.size, 0, none⟩) hzX).trans p0
      have HW1 := hide hw1
      clear hw1
      go_wp2_with fail
      refine (HA.out _ (HBX.out.trans (HW1.out.mono (Nat.le_of_lt hzX)))).mono ?_
      rintro e2 w2 ⟨rfl, hw2⟩
      go_wp2
      go_ret
      exact HEND.out _ false HNO.out (HW1.out.trans (hw2.mono HW1.out.size))
    · have HB2 := hide hb2
      have HA := hide (fun W hW => by have := H2.out W hW; rw [hb2] at this; exact this)
      clear hb2
      go_enter Tryz.func27, Tryz.ntmps27
      go_wp2_with fail
      rw [← hX]
      refine HN.out.mono ?_
      rintro e1 w1 ⟨rfl, hw1⟩
      have q0 := (hw1.cell (p := ⟨w.heap.size, 0, none⟩) hzX).trans p0
      have HW1 := hide hw1
      clear hw1
      go_wp2_with fail
      refine (HA.out _ (HBX.out.trans (HW1.out.mono (Nat.le_of_lt hzX)))).mono ?_
      rintro e2 w2 ⟨rfl, hw2⟩
      replace q0 := (hw2.cell (p := ⟨w.heap.size, 0, none⟩) (Nat.lt_of_lt_of_le hzX HW1.out.size)).trans q0
      have HW2 := hide (HW1.out.trans (hw2.mono HW1.out.size))
      clear hw2
      go_wp2_with fail
      refine (H3.out _ (HBX.out.trans (HW2.out.mono (Nat.le_of_lt hzX)))).mono ?_
      rintro e3 w3 ⟨r, rfl, hpw, hw3⟩
      replace q0 := (hw3.cell (p := ⟨w.heap.size, 0, none⟩) (Nat.lt_of_lt_of_le hzX HW2.out.size)).trans q0
      have q7 := (hw3.cell (p := ⟨w.heap.size, 7, none⟩) (Nat.lt_of_lt_of_le hzX HW2.out.size)).trans ((HW2.out.cell (p := ⟨w.heap.size, 7, none⟩) hzX).trans p7)
      have HW3 := hide (HW2.out.trans (hw3.mono HW2.out.size))
      have HPW := hide hpw
      clear hw3 hpw p0 p7
      have hz3 : w.heap.size < w3.heap.size := Nat.lt_of_lt_of_le hzX HW3.out.size
      by_cases hr : r = -1
      · have f1 : (r != -1) = false := by simp [hr]
        have f2 : (r == -1) = true := by simp [hr]
        have HP1 : Hid (PWrong n specs calls es ls ky (-1)) := hide (by rw [← hr]; exact HPW.out)
        subst hr
        go_wp2
        go_loopw [38] (fun i wr => ∃ k : Nat, k ≤ es.length ∧ i = .int .i64 k ∧ Hid (∀ (j : Nat) (e : Ev), j < k → es[j]? = some e → okIn es ky ticks j e = true) ∧ Hid (Below w3.heap.size w3 wr)) (fun i _ => es.length - (intOf i).toNat)
        case atStart => exact ⟨0, Nat.zero_le _, rfl, hide (fun j e hj => by omega), hide (Below.refl _ _)⟩
        case round =>
          obtain ⟨k, hk, rfl, hok, hB⟩ := hrel
          have hzr := hB.out.size
          replace q0 := (hB.out.cell (p := ⟨w.heap.size, 0, none⟩) hz3).trans q0
          replace q7 := (hB.out.cell (p := ⟨w.heap.size, 7, none⟩) hz3).trans q7
          by_cases hlt : k < es.length
          · obtain ⟨e, he⟩ : ∃ e, es[k]? = some e := ⟨_, List.getElem?_eq_getElem hlt⟩
            obtain ⟨g, o, rfl, hg, hce⟩ := ge3 k e he
            have hBr : Below w.heap.size w wr := HBX.out.trans ((HW3.out.trans (hB.out.mono HW3.out.size)).mono (Nat.le_of_lt hzX))
            obtain ⟨u0, u1, u2, u3, u4, u5, u6, u7⟩ := ev_cells (hce.of_block (w' := wr) (hBr.block g hg))
            have hkd := (HX.out.key.key k e he).below hBr (Nat.le_refl _)
            have hkN : e.kN = (ky k).length := by obtain ⟨_, _, e1, _⟩ := hkd; injection e1
            have p1 : (0 : Int) ≤ (k : Int) := by omega
            have p2 : (k : Int) < (es.length : Int) := by omega
            have hzw : w.heap.size < wr.heap.size := Nat.lt_of_lt_of_le hz3 hzr
            have gz : g < wr.heap.size := Nat.lt_of_lt_of_le hg hBr.size
            have HKD := hide hkd
            have HKN := hide hkN
            have HE := hide he
            clear hkd hkN he hce ge3 hBr
            by_cases r0 : e.resp = 0
            · have f1' : (e.resp == 0) = true := by simp [r0]
              have HEN : Hid ((if e.resp = 0 then ticks else e.resp) = ticks) := hide (if_pos r0)
              clear r0
              by_cases n1 : ky k = []
              · have d1 : decide ((0 : Int) < (e.kN : Int)) = false := by have := HKN.out; rw [n1] at this; simp at this; simp; omega
                have d1' : decide (0 < e.kN) = false := by have := HKN.out; rw [n1] at this; simp at this; simp; omega
                have HOK2 : Hid (okIn es ky ticks k e = true) := hide (by unfold okIn; rw [n1]; rfl)
                clear n1
                go_wp2
                go_roundw
                case rel => exact ⟨k + 1, by omega, by go_num, hide (fun j e' hj he' => by
                  by_cases hjk : j = k
                  · subst hjk
                    have := HE.out
                    rw [this] at he'
                    cases he'
                    exact HOK2.out
                  · exact hok.out j e' (by omega) he'), hide (by have hq := hB.out; (repeat' (first | with_reducible assumption | with_reducible exact Below.refl _ _ | with_reducible refine Below.drew ?_ | with_reducible refine below_drewN ?_ _ | with_reducible refine Below.alloc ?_ ?_ _ | with_reducible refine Below.setCell ?_ ?_ _ | omega | (simp; done) | (simp; omega))))⟩
                case measure => first | (simp [intOf]; done) | (simp [intOf]; omega)
              · have hp1 : 0 < e.kN := by have := HKN.out; rw [this]; exact List.length_pos_iff.2 n1
                have d1 : decide ((0 : Int) < (e.kN : Int)) = true := by simp; omega
                have d1' : decide (0 < e.kN) = true := by simp; omega
                have NW := fun W (hW : Below wr.heap.size wr W) => rwithin_any (.slice e.kA e.kN e.kC) (ky k) e.inv (ticks) W (HKD.out.below hW (Nat.le_refl _)) (HKW.out k e HE.out)
                have HN1 := hide n1
                rcases hwi : withinR (ky k) e.inv (ticks) with _ | _
                · have HNO : Hid ((false : Bool) = true ↔ Right28 n specs calls es ls ky ticks) := hide ⟨fun h => (by cases h), fun h => by
                    have := h.within k e HE.out
                    unfold okIn at this
                    rw [HEN.out, hwi, decide_eq_false HN1.out] at this
                    cases this⟩
                  rw [hwi] at NW
                  have HNW := hide NW
                  clear hwi NW n1
                  go_wp2_with fail
                  refine (HNW.out _ ?_).mono ?_
                  · (repeat' (first | with_reducible assumption | with_reducible exact Below.refl _ _ | with_reducible refine Below.drew ?_ | with_reducible refine below_drewN ?_ _ | with_reducible refine Below.alloc ?_ ?_ _ | with_reducible refine Below.setCell ?_ ?_ _ | omega | (simp; done) | (simp; omega)))
                  rintro e4 w4 ⟨rfl, m4, rfl⟩
                  go_wp2
                  go_ret
                  exact HEND.out _ false HNO.out (below_drewN (Below.trans HW3.out (Below.mono (B := w3.heap.size) (by have hq := hB.out; (repeat' (first | with_reducible assumption | with_reducible exact Below.refl _ _ | with_reducible refine Below.drew ?_ | with_reducible refine below_drewN ?_ _ | with_reducible refine Below.alloc ?_ ?_ _ | with_reducible refine Below.setCell ?_ ?_ _ | omega | (simp; done) | (simp; omega)))) HW3.out.size)) _)
                · have HOK2 : Hid (okIn es ky ticks k e = true) := hide (by unfold okIn; rw [HEN.out, hwi, Bool.or_true])
                  rw [hwi] at NW
                  have HNW := hide NW
                  clear hwi NW n1
                  go_wp2_with fail
                  refine (HNW.out _ ?_).mono ?_
                  · (repeat' (first | with_reducible assumption | with_reducible exact Below.refl _ _ | with_reducible refine Below.drew ?_ | with_reducible refine below_drewN ?_ _ | with_reducible refine Below.alloc ?_ ?_ _ | with_reducible refine Below.setCell ?_ ?_ _ | omega | (simp; done) | (simp; omega)))
                  rintro e4 w4 ⟨rfl, m4, rfl⟩
                  go_wp2
                  go_roundw
                  case rel => exact ⟨k + 1, by omega, by go_num, hide (fun j e' hj he' => by
                    by_cases hjk : j = k
                    · subst hjk
                      have := HE.out
                      rw [this] at he'
                      cases he'
                      exact HOK2.out
                    · exact hok.out j e' (by omega) he'), hide (by have hq := hB.out; (repeat' (first | with_reducible assumption | with_reducible exact Below.refl _ _ | with_reducible refine Below.drew ?_ | with_reducible refine below_drewN ?_ _ | with_reducible refine Below.alloc ?_ ?_ _ | with_reducible refine Below.setCell ?_ ?_ _ | omega | (simp; done) | (simp; omega))))⟩
                  case measure => first | (simp [intOf]; done) | (simp [intOf]; omega)
            · have f1' : (e.resp == 0) = false := by simp [r0]
              have HEN : Hid ((if e.resp = 0 then ticks else e.resp) = e.resp) := hide (if_neg r0)
              clear r0
              by_cases n1 : ky k = []
              · have d1 : decide ((0 : Int) < (e.kN : Int)) = false := by have := HKN.out; rw [n1] at this; simp at this; simp; omega
                have d1' : decide (0 < e.kN) = false := by have := HKN.out; rw [n1] at this; simp at this; simp; omega
                have HOK2 : Hid (okIn es ky ticks k e = true) := hide (by unfold okIn; rw [n1]; rfl)
                clear n1
                go_wp2
                go_roundw
                case rel => exact ⟨k + 1, by omega, by go_num, hide (fun j e' hj he' => by
                  by_cases hjk : j = k
                  · subst hjk
                    have := HE.out
                    rw [this] at he'
                    cases he'
                    exact HOK2.out
                  · exact hok.out j e' (by omega) he'), hide (by have hq := hB.out; (repeat' (first | with_reducible assumption | with_reducible exact Below.refl _ _ | with_reducible refine Below.drew ?_ | with_reducible refine below_drewN ?_ _ | with_reducible refine Below.alloc ?_ ?_ _ | with_reducible refine Below.setCell ?_ ?_ _ | omega | (simp; done) | (simp; omega))))⟩
                case measure => first | (simp [intOf]; done) | (simp [intOf]; omega)
              · have hp1 : 0 < e.kN := by have := HKN.out; rw [this]; exact List.length_pos_iff.2 n1
                have d1 : decide ((0 : Int) < (e.kN : Int)) = true := by simp; omega
                have d1' : decide (0 < e.kN) = true := by simp; omega
                have NW := fun W (hW : Below wr.heap.size wr W) => rwithin_any (.slice e.kA e.kN e.kC) (ky k) e.inv (e.resp) W (HKD.out.below hW (Nat.le_refl _)) (HKW.out k e HE.out)
                have HN1 := hide n1
                rcases hwi : withinR (ky k) e.inv (e.resp) with _ | _
                · have HNO : Hid ((false : Bool) = true ↔ Right28 n specs calls es ls ky ticks) := hide ⟨fun h => (by cases h), fun h => by
                    have := h.within k e HE.out
                    unfold okIn at this
                    rw [HEN.out, hwi, decide_eq_false HN1.out] at this
                    cases this⟩
                  rw [hwi] at NW
                  have HNW := hide NW
                  clear hwi NW n1
                  go_wp2_with fail
                  refine (HNW.out _ ?_).mono ?_
                  · (repeat' (first | with_reducible assumption | with_reducible exact Below.refl _ _ | with_reducible refine Below.drew ?_ | with_reducible refine below_drewN ?_ _ | with_reducible refine Below.alloc ?_ ?_ _ | with_reducible refine Below.setCell ?_ ?_ _ | omega | (simp; done) | (simp; omega)))
                  rintro e4 w4 ⟨rfl, m4, rfl⟩
                  go_wp2
                  go_ret
                  exact HEND.out _ false HNO.out (below_drewN (Below.trans HW3.out (Below.mono (B := w3.heap.size) (by have hq := hB.out; (repeat' (first | with_reducible assumption | with_reducible exact Below.refl _ _ | with_reducible refine Below.drew ?_ | with_reducible refine below_drewN ?_ _ | with_reducible refine Below.alloc ?_ ?_ _ | with_reducible refine Below.setCell ?_ ?_ _ | omega | (simp; done) | (simp; omega)))) HW3.out.size)) _)
                · have HOK2 : Hid (okIn es ky ticks k e = true) := hide (by unfold okIn; rw [HEN.out, hwi, Bool.or_true])
                  rw [hwi] at NW
                  have HNW := hide NW
                  clear hwi NW n1
                  go_wp2_with fail
                  refine (HNW.out _ ?_).mono ?_
                  · (repeat' (first | with_reducible assumption | with_reducible exact Below.refl _ _ | with_reducible refine Below.drew ?_ | with_reducible refine below_drewN ?_ _ | with_reducible refine Below.alloc ?_ ?_ _ | with_reducible refine Below.setCell ?_ ?_ _ | omega | (simp; done) | (simp; omega)))
                  rintro e4 w4 ⟨rfl, m4, rfl⟩
                  go_wp2
                  go_roundw
                  case rel => exact ⟨k + 1, by omega, by go_num, hide (fun j e' hj he' => by
                    by_cases hjk : j = k
                    · subst hjk
                      have := HE.out
                      rw [this] at he'
                      cases he'
                      exact HOK2.out
                    · exact hok.out j e' (by omega) he'), hide (by have hq := hB.out; (repeat' (first | with_reducible assumption | with_reducible exact Below.refl _ _ | with_reducible refine Below.drew ?_ | with_reducible refine below_drewN ?_ _ | with_reducible refine Below.alloc ?_ ?_ _ | with_reducible refine Below.setCell ?_ ?_ _ | omega | (simp; done) | (simp; omega))))⟩
                  case measure => first | (simp [intOf]; done) | (simp [intOf]; omega)
          · have HYES : Hid (Right28 n specs calls es ls ky ticks) := hide ⟨HB1.out, HB2.out, HP1.out, fun j e he => hok.out j e (by have := (List.getElem?_eq_some_iff.1 he).1; omega) he⟩
            have d9 : decide ((k : Int) < (es.length : Int)) = false := by simp; omega
            have d8 : decide (k < es.length) = false := by simp; omega
            clear ge3
            go_wp2
            go_ret
            exact HEND.out _ true ⟨fun _ => HYES.out, fun _ => rfl⟩ (HW3.out.trans (hB.out.mono HW3.out.size))
      · have f1 : (r != -1) = true := by simp [hr]
        have f2 : (r == -1) = false := by simp [hr]
        have hr2 := hr
        have HNO : Hid ((false : Bool) = true ↔ Right28 n specs calls es ls ky ticks) := hide ⟨fun h => (by cases h), fun h => absurd (pwrong_one HPW.out h.wrong) hr⟩
        clear hr ge3
        go_wp2
        go_ret
        exact HEND.out _ false HNO.out HW3.out
end Go.Proofs.YtmiimpmfkjcjlaaGreat
