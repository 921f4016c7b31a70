import Derived.Test.YtmiimpmfkjcjlaaGreatBun18
import Derived.Test.YtmiimpmfkjcjlaaGreatHist3
namespace Go.Proofs.YtmiimpmfkjcjlaaGreat
open Go.RowKit
def okAh (es : List Ev) (ky : Nat → List Int) (i k : Nat) : Bool := !(aheadB es i k) || (decide (ky i = []) || (decide (ky k = []) || decide (kcmp (ky i) (ky k) < 0)))
theorem aheadK_no {es : List Ev} {ky : Nat → List Int} {i k : Nat} (hi : i < es.length) (hk : k < es.length) (h : okAh es ky i k = false) : aheadK es ky = false := by
  unfold aheadK
  rw [List.all_eq_false]
  refine ⟨i, by simpa using hi, ?_⟩
  simp only [Bool.not_eq_true]
  rw [List.all_eq_false]
  exact ⟨k, by simpa using hk, by simpa [okAh] using h⟩
theorem aheadK_yes {es : List Ev} {ky : Nat → List Int} (h : ∀ i, i < es.length → ∀ k, k < es.length → okAh es ky i k = true) : aheadK es ky = true := by
  unfold aheadK
  rw [List.all_eq_true]
  intro i hi
  rw [List.all_eq_true]
  intro k hk
  exact h i (by simpa using hi) k (by simpa using hk)
set_option maxRecDepth 100000 in
set_option maxHeartbeats 4000000 in
theorem pAhead_any (v : Value) (es : List Ev) (ky : Nat → List Int) (w : World) (h : EvKey w v es ky) :
    Calls Tryz.prog 53 #[v] w fun e w' => e = .returned (.bool (aheadK es ky)) ∧ Below w.heap.size w w' := by
  obtain ⟨A, cap, rfl, h1, h2, h3⟩ := id h.evs
  have hlen : (es.length : Int) ≤ 9223372036854775807 := by unfold maxLen at h2; omega
  have HK := hide h
  obtain ⟨R, hR⟩ : ∃ R, aheadK es ky = R := ⟨_, rfl⟩
  rw [hR]
  have HR := hide hR
  clear h hR
  go_enter Tryz.func53, Tryz.ntmps53
  go_wp2
  go_loopw [7] (fun i wr => ∃ k : Nat, k ≤ es.length ∧ i = .int .i64 k ∧ Hid (∀ a, a < k → ∀ b, b < es.length → okAh es ky a b = true) ∧ Hid (Below w.heap.size w wr)) (fun i _ => es.length - (intOf i).toNat)
  case atStart => exact ⟨0, Nat.zero_le _, rfl, hide (fun a ha => by omega), hide (Below.refl _ _)⟩
  case round =>
    obtain ⟨i, hi, rfl, hout, hBo⟩ := hrel
    obtain ⟨wo, rfl⟩ : ∃ wo : World, wo = wr := ⟨_, rfl⟩
    by_cases hlt : i < es.length
    · have hlt63 : (i : Int) < (es.length : Int) := by omega
      go_wp2
      go_loopw [12] (fun c wr => ∃ k : Nat, k ≤ es.length ∧ c = .int .i64 k ∧ Hid (∀ b, b < k → okAh es ky i b = true) ∧ Hid (Below w.heap.size w wr)) (fun c _ => es.length - (intOf c).toNat)
      case atStart => exact ⟨0, Nat.zero_le _, rfl, hide (fun b hb => by omega), hBo⟩
      case round =>
        obtain ⟨k, hk, rfl, hin, hB⟩ := hrel
        have hzr := hB.out.size
        by_cases hlk : k < es.length
        · obtain ⟨d, hd⟩ : ∃ d, es[i]? = some d := ⟨_, List.getElem?_eq_getElem hlt⟩
          obtain ⟨e, he⟩ : ∃ e, es[k]? = some e := ⟨_, List.getElem?_eq_getElem hlk⟩
          obtain ⟨g, o, rfl, hg, hcd⟩ := h3 i d hd
          obtain ⟨g', o', e', hg', hce⟩ := h3 k e he
          cases e'
          obtain ⟨c0, c1, c2, c3, c4, c5, c6, c7⟩ := ev_cells (hcd.of_block (w' := wr) (hB.out.block g hg))
          obtain ⟨x0, x1, x2, x3, x4, x5, x6, x7⟩ := ev_cells (hce.of_block (w' := wr) (hB.out.block g hg))
          have gz : g < wr.heap.size := Nat.lt_of_lt_of_le hg hzr
          have q0 : (0 : Int) ≤ (i : Int) := by omega
          have q1 : (i : Int) < (es.length : Int) := by omega
          have q2 : (0 : Int) ≤ (k : Int) := by omega
          have q3 : (k : Int) < (es.length : Int) := by omega
          have hkd := (HK.out.key i d hd).below hB.out (Nat.le_refl _)
          have hke := (HK.out.key k e he).below hB.out (Nat.le_refl _)
          have hdN : d.kN = (ky i).length := by obtain ⟨_, _, e1, _⟩ := hkd; injection e1
          have heN : e.kN = (ky k).length := by obtain ⟨_, _, e1, _⟩ := hke; injection e1
          have NA := refAhead_any d e wr.drew
          have hab := aheadB_nat hd he
          rw [← hab] at NA
          have HKD := hide hkd
          have HKE := hide hke
          clear hcd hce hd he hkd hke hab h3
          rcases ha : aheadB es i k with _ | _
          · have HOKP : Hid (okAh es ky i k = true) := hide (by unfold okAh; rw [ha]; rfl)
            rw [ha] at NA
            clear ha hdN heN
            go_wp2_with fail
            refine wp_region_seq (Below wr.heap.size wr) (.take 0 <| .take 1 <| .take 2 <| .take 3 <| .take 4 <| .take 5 <| .take 6 <| .take 7 <| .run 8 <| .take 9 <| .take 10 <| .take 11 <| .take 12 <| .take 13 <| .take 14 <| .take 15 <| .take 16 <| .take 17 <| .take 18 <| .take 19 <| .take 20 <| .take 21 <| .take 22 <| .take 23 <| .take 24 <| .take 25 <| .take 26 <| .take 27 <| .take 28 <| .take 29 <| .take 30 <| .take 31 <| .take 32 <| .take 33 <| .take 34 <| .take 35 <| .take 36 <| .take 37 <| .run 38 <| .take 39 <| .take 40 <| .done) (by kernel_rfl) (by kernel_rfl) (by kernel_rfl) (by (repeat' (first | with_reducible (first | assumption | exact Below.refl _ _ | refine Below.drew ?_ | refine below_drewN ?_ _ | refine Below.alloc ?_ ?_ _ | refine Below.setCell ?_ ?_ _) | omega | (simp; done) | (simp; omega)))) ?_
            iterate 8 (refine seq_take (v := ?_) rfl (by rfl) ?_ ?_; rotate_left; (focus (intro wS hS; have y0 := (hS.cell (p := ⟨g, o + i * 8, none⟩) gz).trans c0; have z0 := (hS.cell (p := ⟨g, o + k * 8, none⟩) gz).trans x0; have y1 := (hS.cell (p := ⟨g, o + i * 8 + 1, none⟩) gz).trans c1; have z1 := (hS.cell (p := ⟨g, o + k * 8 + 1, none⟩) gz).trans x1; have y2 := (hS.cell (p := ⟨g, o + i * 8 + 2, none⟩) gz).trans c2; have z2 := (hS.cell (p := ⟨g, o + k * 8 + 2, none⟩) gz).trans x2; have y3 := (hS.cell (p := ⟨g, o + i * 8 + 3, none⟩) gz).trans c3; have z3 := (hS.cell (p := ⟨g, o + k * 8 + 3, none⟩) gz).trans x3; have y4 := (hS.cell (p := ⟨g, o + i * 8 + 4, none⟩) gz).trans c4; have z4 := (hS.cell (p := ⟨g, o + k * 8 + 4, none⟩) gz).trans x4; have y5 := (hS.cell (p := ⟨g, o + i * 8 + 5, none⟩) gz).trans c5; have z5 := (hS.cell (p := ⟨g, o + k * 8 + 5, none⟩) gz).trans x5; have y6 := (hS.cell (p := ⟨g, o + i * 8 + 6, none⟩) gz).trans c6; have z6 := (hS.cell (p := ⟨g, o + k * 8 + 6, none⟩) gz).trans x6; have y7 := (hS.cell (p := ⟨g, o + i * 8 + 7, none⟩) gz).trans c7; have z7 := (hS.cell (p := ⟨g, o + k * 8 + 7, none⟩) gz).trans x7; go_simp; exact rfl)); simp only [Act.put, sqA, sqB, sqC])
            refine seq_run rfl (by rfl) (fun K hK => ?_)
            go_simp
            refine NA.mono ?_
            rintro e9 w9 ⟨rfl, hb9⟩
            have hB9 : Below wr.heap.size wr w9 := (Below.refl _ _).drew.trans hb9
            refine hK _ _ hB9 ?_
            clear hK K NA hb9 c0 c1 c2 c3 c4 c5 c6 x0 x1 x2 x3 x4 x5 x6
            iterate 29 (first | (refine seq_take (v := ?_) rfl (by rfl) ?_ ?_; rotate_left; (focus (intro wS hS; have y7 := (hS.cell (p := ⟨g, o + i * 8 + 7, none⟩) gz).trans c7; have z7 := (hS.cell (p := ⟨g, o + k * 8 + 7, none⟩) gz).trans x7; go_simp; exact rfl)); simp only [Act.put, sqA, sqB, sqC]) | (refine seq_skip rfl (by rfl) ?_; simp only [Act.put, sqA, sqB, sqC]))
            refine seq_pass rfl (by rfl) hB9 ?_
            simp only [Act.put, sqA, sqB, sqC]
            iterate 2 (first | (refine seq_take (v := ?_) rfl (by rfl) ?_ ?_; rotate_left; (focus (intro wS hS; have y7 := (hS.cell (p := ⟨g, o + i * 8 + 7, none⟩) gz).trans c7; have z7 := (hS.cell (p := ⟨g, o + k * 8 + 7, none⟩) gz).trans x7; go_simp; exact rfl)); simp only [Act.put, sqA, sqB, sqC]) | (refine seq_skip rfl (by rfl) ?_; simp only [Act.put, sqA, sqB, sqC]))
            refine seq_nil ?_
            go_wp2
            go_roundw
            case rel => exact ⟨k + 1, by omega, by go_num, hide (fun b hb => by
              by_cases e : b = k
              · subst e; exact HOKP.out
              · exact hin.out b (by omega)), hide (hB.out.trans (hB9.mono hzr))⟩
            case measure => simp [intOf] <;> omega
          · rw [ha] at NA
            by_cases n1 : ky i = []
            · have HOKP : Hid (okAh es ky i k = true) := hide (by unfold okAh; rw [n1]; simp)
              have hz1 : d.kN = 0 := by rw [hdN, n1]; rfl
              have d1 : decide ((0 : Int) < (d.kN : Int)) = false := by simp; omega
              have d1' : decide (0 < d.kN) = false := by simp; omega
              clear ha hdN heN n1 hz1
              go_wp2_with fail
              refine wp_region_seq (Below wr.heap.size wr) (.take 0 <| .take 1 <| .take 2 <| .take 3 <| .take 4 <| .take 5 <| .take 6 <| .take 7 <| .run 8 <| .take 9 <| .take 10 <| .take 11 <| .take 12 <| .take 13 <| .take 14 <| .take 15 <| .take 16 <| .take 17 <| .take 18 <| .take 19 <| .take 20 <| .take 21 <| .take 22 <| .take 23 <| .take 24 <| .take 25 <| .take 26 <| .take 27 <| .take 28 <| .take 29 <| .take 30 <| .take 31 <| .take 32 <| .take 33 <| .take 34 <| .take 35 <| .take 36 <| .take 37 <| .run 38 <| .take 39 <| .take 40 <| .done) (by kernel_rfl) (by kernel_rfl) (by kernel_rfl) (by (repeat' (first | with_reducible (first | assumption | exact Below.refl _ _ | refine Below.drew ?_ | refine below_drewN ?_ _ | refine Below.alloc ?_ ?_ _ | refine Below.setCell ?_ ?_ _) | omega | (simp; done) | (simp; omega)))) ?_
              iterate 8 (refine seq_take (v := ?_) rfl (by rfl) ?_ ?_; rotate_left; (focus (intro wS hS; have y0 := (hS.cell (p := ⟨g, o + i * 8, none⟩) gz).trans c0; have z0 := (hS.cell (p := ⟨g, o + k * 8, none⟩) gz).trans x0; have y1 := (hS.cell (p := ⟨g, o + i * 8 + 1, none⟩) gz).trans c1; have z1 := (hS.cell (p := ⟨g, o + k * 8 + 1, none⟩) gz).trans x1; have y2 := (hS.cell (p := ⟨g, o + i * 8 + 2, none⟩) gz).trans c2; have z2 := (hS.cell (p := ⟨g, o + k * 8 + 2, none⟩) gz).trans x2; have y3 := (hS.cell (p := ⟨g, o + i * 8 + 3, none⟩) gz).trans c3; have z3 := (hS.cell (p := ⟨g, o + k * 8 + 3, none⟩) gz).trans x3; have y4 := (hS.cell (p := ⟨g, o + i * 8 + 4, none⟩) gz).trans c4; have z4 := (hS.cell (p := ⟨g, o + k * 8 + 4, none⟩) gz).trans x4; have y5 := (hS.cell (p := ⟨g, o + i * 8 + 5, none⟩) gz).trans c5; have z5 := (hS.cell (p := ⟨g, o + k * 8 + 5, none⟩) gz).trans x5; have y6 := (hS.cell (p := ⟨g, o + i * 8 + 6, none⟩) gz).trans c6; have z6 := (hS.cell (p := ⟨g, o + k * 8 + 6, none⟩) gz).trans x6; have y7 := (hS.cell (p := ⟨g, o + i * 8 + 7, none⟩) gz).trans c7; have z7 := (hS.cell (p := ⟨g, o + k * 8 + 7, none⟩) gz).trans x7; go_simp; exact rfl)); simp only [Act.put, sqA, sqB, sqC])
              refine seq_run rfl (by rfl) (fun K hK => ?_)
              go_simp
              refine NA.mono ?_
              rintro e9 w9 ⟨rfl, hb9⟩
              have hB9 : Below wr.heap.size wr w9 := (Below.refl _ _).drew.trans hb9
              refine hK _ _ hB9 ?_
              clear hK K NA hb9 c0 c1 c2 c3 c4 c5 c6 x0 x1 x2 x3 x4 x5 x6
              iterate 29 (first | (refine seq_take (v := ?_) rfl (by rfl) ?_ ?_; rotate_left; (focus (intro wS hS; have y7 := (hS.cell (p := ⟨g, o + i * 8 + 7, none⟩) gz).trans c7; have z7 := (hS.cell (p := ⟨g, o + k * 8 + 7, none⟩) gz).trans x7; go_simp; exact rfl)); simp only [Act.put, sqA, sqB, sqC]) | (refine seq_skip rfl (by rfl) ?_; simp only [Act.put, sqA, sqB, sqC]))
              refine seq_pass rfl (by rfl) hB9 ?_
              simp only [Act.put, sqA, sqB, sqC]
              iterate 2 (first | (refine seq_take (v := ?_) rfl (by rfl) ?_ ?_; rotate_left; (focus (intro wS hS; have y7 := (hS.cell (p := ⟨g, o + i * 8 + 7, none⟩) gz).trans c7; have z7 := (hS.cell (p := ⟨g, o + k * 8 + 7, none⟩) gz).trans x7; go_simp; exact rfl)); simp only [Act.put, sqA, sqB, sqC]) | (refine seq_skip rfl (by rfl) ?_; simp only [Act.put, sqA, sqB, sqC]))
              refine seq_nil ?_
              go_wp2
              go_roundw
              case rel => exact ⟨k + 1, by omega, by go_num, hide (fun b hb => by
                by_cases e : b = k
                · subst e; exact HOKP.out
                · exact hin.out b (by omega)), hide (hB.out.trans (hB9.mono hzr))⟩
              case measure => simp [intOf] <;> omega
            · have hp1 : 0 < d.kN := by rw [hdN]; exact List.length_pos_iff.2 n1
              have d1 : decide ((0 : Int) < (d.kN : Int)) = true := by simp; omega
              have d1' : decide (0 < d.kN) = true := by simp; omega
              by_cases n2 : ky k = []
              · have HOKP : Hid (okAh es ky i k = true) := hide (by unfold okAh; rw [n2]; simp)
                have hz2 : e.kN = 0 := by rw [heN, n2]; rfl
                have d2 : decide ((0 : Int) < (e.kN : Int)) = false := by simp; omega
                have d2' : decide (0 < e.kN) = false := by simp; omega
                clear ha hdN heN n1 n2 hz2
                go_wp2_with fail
                refine wp_region_seq (Below wr.heap.size wr) (.take 0 <| .take 1 <| .take 2 <| .take 3 <| .take 4 <| .take 5 <| .take 6 <| .take 7 <| .run 8 <| .take 9 <| .take 10 <| .take 11 <| .take 12 <| .take 13 <| .take 14 <| .take 15 <| .take 16 <| .take 17 <| .take 18 <| .take 19 <| .take 20 <| .take 21 <| .take 22 <| .take 23 <| .take 24 <| .take 25 <| .take 26 <| .take 27 <| .take 28 <| .take 29 <| .take 30 <| .take 31 <| .take 32 <| .take 33 <| .take 34 <| .take 35 <| .take 36 <| .take 37 <| .run 38 <| .take 39 <| .take 40 <| .done) (by kernel_rfl) (by kernel_rfl) (by kernel_rfl) (by (repeat' (first | with_reducible (first | assumption | exact Below.refl _ _ | refine Below.drew ?_ | refine below_drewN ?_ _ | refine Below.alloc ?_ ?_ _ | refine Below.setCell ?_ ?_ _) | omega | (simp; done) | (simp; omega)))) ?_
                iterate 8 (refine seq_take (v := ?_) rfl (by rfl) ?_ ?_; rotate_left; (focus (intro wS hS; have y0 := (hS.cell (p := ⟨g, o + i * 8, none⟩) gz).trans c0; have z0 := (hS.cell (p := ⟨g, o + k * 8, none⟩) gz).trans x0; have y1 := (hS.cell (p := ⟨g, o + i * 8 + 1, none⟩) gz).trans c1; have z1 := (hS.cell (p := ⟨g, o + k * 8 + 1, none⟩) gz).trans x1; have y2 := (hS.cell (p := ⟨g, o + i * 8 + 2, none⟩) gz).trans c2; have z2 := (hS.cell (p := ⟨g, o + k * 8 + 2, none⟩) gz).trans x2; have y3 := (hS.cell (p := ⟨g, o + i * 8 + 3, none⟩) gz).trans c3; have z3 := (hS.cell (p := ⟨g, o + k * 8 + 3, none⟩) gz).trans x3; have y4 := (hS.cell (p := ⟨g, o + i * 8 + 4, none⟩) gz).trans c4; have z4 := (hS.cell (p := ⟨g, o + k * 8 + 4, none⟩) gz).trans x4; have y5 := (hS.cell (p := ⟨g, o + i * 8 + 5, none⟩) gz).trans c5; have z5 := (hS.cell (p := ⟨g, o + k * 8 + 5, none⟩) gz).trans x5; have y6 := (hS.cell (p := ⟨g, o + i * 8 + 6, none⟩) gz).trans c6; have z6 := (hS.cell (p := ⟨g, o + k * 8 + 6, none⟩) gz).trans x6; have y7 := (hS.cell (p := ⟨g, o + i * 8 + 7, none⟩) gz).trans c7; have z7 := (hS.cell (p := ⟨g, o + k * 8 + 7, none⟩) gz).trans x7; go_simp; exact rfl)); simp only [Act.put, sqA, sqB, sqC])
                refine seq_run rfl (by rfl) (fun K hK => ?_)
                go_simp
                refine NA.mono ?_
                rintro e9 w9 ⟨rfl, hb9⟩
                have hB9 : Below wr.heap.size wr w9 := (Below.refl _ _).drew.trans hb9
                refine hK _ _ hB9 ?_
                clear hK K NA hb9 c0 c1 c2 c3 c4 c5 c6 x0 x1 x2 x3 x4 x5 x6
                iterate 29 (first | (refine seq_take (v := ?_) rfl (by rfl) ?_ ?_; rotate_left; (focus (intro wS hS; have y7 := (hS.cell (p := ⟨g, o + i * 8 + 7, none⟩) gz).trans c7; have z7 := (hS.cell (p := ⟨g, o + k * 8 + 7, none⟩) gz).trans x7; go_simp; exact rfl)); simp only [Act.put, sqA, sqB, sqC]) | (refine seq_skip rfl (by rfl) ?_; simp only [Act.put, sqA, sqB, sqC]))
                refine seq_pass rfl (by rfl) hB9 ?_
                simp only [Act.put, sqA, sqB, sqC]
                iterate 2 (first | (refine seq_take (v := ?_) rfl (by rfl) ?_ ?_; rotate_left; (focus (intro wS hS; have y7 := (hS.cell (p := ⟨g, o + i * 8 + 7, none⟩) gz).trans c7; have z7 := (hS.cell (p := ⟨g, o + k * 8 + 7, none⟩) gz).trans x7; go_simp; exact rfl)); simp only [Act.put, sqA, sqB, sqC]) | (refine seq_skip rfl (by rfl) ?_; simp only [Act.put, sqA, sqB, sqC]))
                refine seq_nil ?_
                go_wp2
                go_roundw
                case rel => exact ⟨k + 1, by omega, by go_num, hide (fun b hb => by
                  by_cases e : b = k
                  · subst e; exact HOKP.out
                  · exact hin.out b (by omega)), hide (hB.out.trans (hB9.mono hzr))⟩
                case measure => simp [intOf] <;> omega
              · have hp2 : 0 < e.kN := by rw [heN]; exact List.length_pos_iff.2 n2
                have d2 : decide ((0 : Int) < (e.kN : Int)) = true := by simp; omega
                have d2' : decide (0 < e.kN) = true := by simp; omega
                by_cases n3 : kcmp (ky i) (ky k) < 0
                · have HOKP : Hid (okAh es ky i k = true) := hide (by unfold okAh; rw [decide_eq_true n3]; simp)
                  have HN3 := hide n3
                  clear ha hdN heN n1 n2 n3
                  go_wp2_with fail
                  refine wp_region_seq (Below wr.heap.size wr) (.take 0 <| .take 1 <| .take 2 <| .take 3 <| .take 4 <| .take 5 <| .take 6 <| .take 7 <| .run 8 <| .take 9 <| .take 10 <| .take 11 <| .take 12 <| .take 13 <| .take 14 <| .take 15 <| .take 16 <| .take 17 <| .take 18 <| .take 19 <| .take 20 <| .take 21 <| .take 22 <| .take 23 <| .take 24 <| .take 25 <| .take 26 <| .take 27 <| .take 28 <| .take 29 <| .take 30 <| .take 31 <| .take 32 <| .take 33 <| .take 34 <| .take 35 <| .take 36 <| .take 37 <| .run 38 <| .take 39 <| .take 40 <| .done) (by kernel_rfl) (by kernel_rfl) (by kernel_rfl) (by (repeat' (first | with_reducible (first | assumption | exact Below.refl _ _ | refine Below.drew ?_ | refine below_drewN ?_ _ | refine Below.alloc ?_ ?_ _ | refine Below.setCell ?_ ?_ _) | omega | (simp; done) | (simp; omega)))) ?_
                  iterate 8 (refine seq_take (v := ?_) rfl (by rfl) ?_ ?_; rotate_left; (focus (intro wS hS; have y0 := (hS.cell (p := ⟨g, o + i * 8, none⟩) gz).trans c0; have z0 := (hS.cell (p := ⟨g, o + k * 8, none⟩) gz).trans x0; have y1 := (hS.cell (p := ⟨g, o + i * 8 + 1, none⟩) gz).trans c1; have z1 := (hS.cell (p := ⟨g, o + k * 8 + 1, none⟩) gz).trans x1; have y2 := (hS.cell (p := ⟨g, o + i * 8 + 2, none⟩) gz).trans c2; have z2 := (hS.cell (p := ⟨g, o + k * 8 + 2, none⟩) gz).trans x2; have y3 := (hS.cell (p := ⟨g, o + i * 8 + 3, none⟩) gz).trans c3; have z3 := (hS.cell (p := ⟨g, o + k * 8 + 3, none⟩) gz).trans x3; have y4 := (hS.cell (p := ⟨g, o + i * 8 + 4, none⟩) gz).trans c4; have z4 := (hS.cell (p := ⟨g, o + k * 8 + 4, none⟩) gz).trans x4; have y5 := (hS.cell (p := ⟨g, o + i * 8 + 5, none⟩) gz).trans c5; have z5 := (hS.cell (p := ⟨g, o + k * 8 + 5, none⟩) gz).trans x5; have y6 := (hS.cell (p := ⟨g, o + i * 8 + 6, none⟩) gz).trans c6; have z6 := (hS.cell (p := ⟨g, o + k * 8 + 6, none⟩) gz).trans x6; have y7 := (hS.cell (p := ⟨g, o + i * 8 + 7, none⟩) gz).trans c7; have z7 := (hS.cell (p := ⟨g, o + k * 8 + 7, none⟩) gz).trans x7; go_simp; exact rfl)); simp only [Act.put, sqA, sqB, sqC])
                  refine seq_run rfl (by rfl) (fun K hK => ?_)
                  go_simp
                  refine NA.mono ?_
                  rintro e9 w9 ⟨rfl, hb9⟩
                  have hB9 : Below wr.heap.size wr w9 := (Below.refl _ _).drew.trans hb9
                  refine hK _ _ hB9 ?_
                  clear hK K NA hb9 c0 c1 c2 c3 c4 c5 c6 x0 x1 x2 x3 x4 x5 x6
                  iterate 29 (refine seq_take (v := ?_) rfl (by rfl) ?_ ?_; rotate_left; (focus (intro wS hS; have y7 := (hS.cell (p := ⟨g, o + i * 8 + 7, none⟩) gz).trans c7; have z7 := (hS.cell (p := ⟨g, o + k * 8 + 7, none⟩) gz).trans x7; go_simp; exact rfl)); simp only [Act.put, sqA, sqB, sqC])
                  refine seq_run rfl (by rfl) (fun K hK => ?_)
                  go_simp
                  refine (r4ahead_any _ _ (ky i) (ky k) w9 (HKD.out.below hB9 (Nat.le_refl _)) (HKE.out.below hB9 (Nat.le_refl _))).mono ?_
                  rw [decide_eq_true HN3.out]
                  rintro e8 w8 ⟨rfl, m8, rfl⟩
                  refine hK _ _ (below_drewN hB9 _) ?_
                  clear hK K
                  iterate 2 (refine seq_take (v := ?_) rfl (by rfl) ?_ ?_; rotate_left; (focus (intro wS hS; have y7 := (hS.cell (p := ⟨g, o + i * 8 + 7, none⟩) gz).trans c7; have z7 := (hS.cell (p := ⟨g, o + k * 8 + 7, none⟩) gz).trans x7; go_simp; exact rfl)); simp only [Act.put, sqA, sqB, sqC])
                  refine seq_nil ?_
                  go_wp2
                  go_roundw
                  case rel => exact ⟨k + 1, by omega, by go_num, hide (fun b hb => by
                    by_cases e : b = k
                    · subst e; exact HOKP.out
                    · exact hin.out b (by omega)), hide (below_drewN (hB.out.trans (hB9.mono hzr)) _)⟩
                  case measure => simp [intOf] <;> omega
                · have HF : Hid (false = R) := hide (by
                    rw [← HR.out, aheadK_no hlt hlk]
                    unfold okAh
                    rw [ha, decide_eq_false n1, decide_eq_false n2, decide_eq_false n3]
                    rfl)
                  have HN3 : Hid (decide (kcmp (ky i) (ky k) < 0) = false) := hide (decide_eq_false n3)
                  clear ha hdN heN n1 n2 n3
                  go_wp2_with fail
                  refine wp_region_seq (Below wr.heap.size wr) (.take 0 <| .take 1 <| .take 2 <| .take 3 <| .take 4 <| .take 5 <| .take 6 <| .take 7 <| .run 8 <| .take 9 <| .take 10 <| .take 11 <| .take 12 <| .take 13 <| .take 14 <| .take 15 <| .take 16 <| .take 17 <| .take 18 <| .take 19 <| .take 20 <| .take 21 <| .take 22 <| .take 23 <| .take 24 <| .take 25 <| .take 26 <| .take 27 <| .take 28 <| .take 29 <| .take 30 <| .take 31 <| .take 32 <| .take 33 <| .take 34 <| .take 35 <| .take 36 <| .take 37 <| .run 38 <| .take 39 <| .take 40 <| .done) (by kernel_rfl) (by kernel_rfl) (by kernel_rfl) (by (repeat' (first | with_reducible (first | assumption | exact Below.refl _ _ | refine Below.drew ?_ | refine below_drewN ?_ _ | refine Below.alloc ?_ ?_ _ | refine Below.setCell ?_ ?_ _) | omega | (simp; done) | (simp; omega)))) ?_
                  iterate 8 (refine seq_take (v := ?_) rfl (by rfl) ?_ ?_; rotate_left; (focus (intro wS hS; have y0 := (hS.cell (p := ⟨g, o + i * 8, none⟩) gz).trans c0; have z0 := (hS.cell (p := ⟨g, o + k * 8, none⟩) gz).trans x0; have y1 := (hS.cell (p := ⟨g, o + i * 8 + 1, none⟩) gz).trans c1; have z1 := (hS.cell (p := ⟨g, o + k * 8 + 1, none⟩) gz).trans x1; have y2 := (hS.cell (p := ⟨g, o + i * 8 + 2, none⟩) gz).trans c2; have z2 := (hS.cell (p := ⟨g, o + k * 8 + 2, none⟩) gz).trans x2; have y3 := (hS.cell (p := ⟨g, o + i * 8 + 3, none⟩) gz).trans c3; have z3 := (hS.cell (p := ⟨g, o + k * 8 + 3, none⟩) gz).trans x3; have y4 := (hS.cell (p := ⟨g, o + i * 8 + 4, none⟩) gz).trans c4; have z4 := (hS.cell (p := ⟨g, o + k * 8 + 4, none⟩) gz).trans x4; have y5 := (hS.cell (p := ⟨g, o + i * 8 + 5, none⟩) gz).trans c5; have z5 := (hS.cell (p := ⟨g, o + k * 8 + 5, none⟩) gz).trans x5; have y6 := (hS.cell (p := ⟨g, o + i * 8 + 6, none⟩) gz).trans c6; have z6 := (hS.cell (p := ⟨g, o + k * 8 + 6, none⟩) gz).trans x6; have y7 := (hS.cell (p := ⟨g, o + i * 8 + 7, none⟩) gz).trans c7; have z7 := (hS.cell (p := ⟨g, o + k * 8 + 7, none⟩) gz).trans x7; go_simp; exact rfl)); simp only [Act.put, sqA, sqB, sqC])
                  refine seq_run rfl (by rfl) (fun K hK => ?_)
                  go_simp
                  refine NA.mono ?_
                  rintro e9 w9 ⟨rfl, hb9⟩
                  have hB9 : Below wr.heap.size wr w9 := (Below.refl _ _).drew.trans hb9
                  refine hK _ _ hB9 ?_
                  clear hK K NA hb9 c0 c1 c2 c3 c4 c5 c6 x0 x1 x2 x3 x4 x5 x6
                  iterate 29 (refine seq_take (v := ?_) rfl (by rfl) ?_ ?_; rotate_left; (focus (intro wS hS; have y7 := (hS.cell (p := ⟨g, o + i * 8 + 7, none⟩) gz).trans c7; have z7 := (hS.cell (p := ⟨g, o + k * 8 + 7, none⟩) gz).trans x7; go_simp; exact rfl)); simp only [Act.put, sqA, sqB, sqC])
                  refine seq_run rfl (by rfl) (fun K hK => ?_)
                  go_simp
                  refine (r4ahead_any _ _ (ky i) (ky k) w9 (HKD.out.below hB9 (Nat.le_refl _)) (HKE.out.below hB9 (Nat.le_refl _))).mono ?_
                  rw [HN3.out]
                  rintro e8 w8 ⟨rfl, m8, rfl⟩
                  refine hK _ _ (below_drewN hB9 _) ?_
                  clear hK K
                  iterate 2 (refine seq_take (v := ?_) rfl (by rfl) ?_ ?_; rotate_left; (focus (intro wS hS; have y7 := (hS.cell (p := ⟨g, o + i * 8 + 7, none⟩) gz).trans c7; have z7 := (hS.cell (p := ⟨g, o + k * 8 + 7, none⟩) gz).trans x7; go_simp; exact rfl)); simp only [Act.put, sqA, sqB, sqC])
                  refine seq_nil ?_
                  go_wp2
                  go_ret
                  exact ⟨ret_bool HF.out, below_drewN (hB.out.trans (hB9.mono hzr)) _⟩
        · have hkl : k = es.length := by omega
          have HOO : Hid (∀ a, a < i + 1 → ∀ b, b < es.length → okAh es ky a b = true) := hide (fun a ha b hb => by
            by_cases e : a = i
            · subst e; exact hin.out b (by omega)
            · exact hout.out a (by omega) b hb)
          have d9 : decide ((k : Int) < (es.length : Int)) = false := by simp; omega
          have d8 : decide (k < es.length) = false := by simp; omega
          clear h3
          go_wp2
          go_roundw
          case rel => exact ⟨i + 1, by omega, by go_num, HOO, hB⟩
          case measure => simp [intOf] <;> omega
    · have HT : Hid (true = R) := hide (by rw [← HR.out, aheadK_yes (fun a ha b hb => hout.out a (by omega) b hb)])
      have d9 : decide ((i : Int) < (es.length : Int)) = false := by simp; omega
      have d8 : decide (i < es.length) = false := by simp; omega
      clear h3
      go_wp2
      go_ret
      exact ⟨ret_bool HT.out, hBo.out⟩
end Go.Proofs.YtmiimpmfkjcjlaaGreat
