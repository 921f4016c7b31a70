/- Law 44: what any words are behind any accesses (AccessApplies), walked. -/
import Derived.Test.YtfghmlpjbedomaaGreatBun11
namespace Go.Proofs.YtfghmlpjbedomaaGreat
open Go.RowKit

theorem sl_drewN {α : Type} {en : α → List Value} {sz : Nat} {w : World} {v : Value} {l : List α} (h : Sl en sz w v l) (n : Nat) : Sl en sz (w.drewN n) v l := h
set_option maxRecDepth 100000 in
set_option maxHeartbeats 8000000 in
theorem applies44 {v L : Value} {xs : List Int} {l : List Ac} {w : World} (hv : SlW w v xs) (hl : SlAc w L l) :
    Calls Tryz.prog 5 #[v, L] w fun e w' => e = .returned (.bool true) ∧ Below w.heap.size w w' := by
  have NA := fun h => applyW hv hl h
  have HV := hide hv
  have HL := hide hl
  obtain ⟨Av, cv, rfl, v1, v2, v3⟩ := hv
  obtain ⟨A, cA, rfl, a1, a2, a3⟩ := hl
  have N1 := one44 w
  by_cases h1 : 1000 < xs.length
  · have h1' : (1000 : Int) < (xs.length : Int) := by omega
    clear NA v3 a3
    go_enter Tryz.func5, Tryz.ntmps5
    go_wp2_with fail
    refine N1.mono ?_
    rintro e w1 ⟨rfl, hb⟩
    have HB := hide hb
    clear hb N1
    go_wp2
    go_ret
    exact ⟨rfl, HB.out⟩
  · have h1' : ¬ (1000 : Int) < (xs.length : Int) := by omega
    by_cases h2 : 1000 < l.length
    · have h2' : (1000 : Int) < (l.length : Int) := by omega
      clear NA v3 a3
      go_enter Tryz.func5, Tryz.ntmps5
      go_wp2_with fail
      refine N1.mono ?_
      rintro e w1 ⟨rfl, hb⟩
      have HB := hide hb
      clear hb N1
      go_wp2
      go_ret
      exact ⟨rfl, HB.out⟩
    · have h2' : ¬ (1000 : Int) < (l.length : Int) := by omega
      have N := NA (by omega)
      obtain ⟨R, hR⟩ : ∃ R, applyF xs l 0 = R := ⟨_, rfl⟩
      rw [hR] at N
      have HR0 := hide hR
      have HA := hide a3
      have HN := hide N
      obtain ⟨i0, hi, hx0, hx1, hx2⟩ := info_parts info_word
      clear NA N1 N hR a3
      rcases Av with _ | ad
      · have hx : xs = [] := by
          rcases xs with _ | ⟨x, xs⟩
          · rfl
          · obtain ⟨b, o, hA, _⟩ := v3 0 x rfl
            cases hA
        subst hx
        clear v3
        go_enter Tryz.func5, Tryz.ntmps5
        go_wp2_with fail
        refine HN.out.mono ?_
        rintro e w2 ⟨u, rfl, hu, hb2⟩
        have HU2 := hide hu
        have HB2 := hide hb2
        clear HN hu hb2
        go_wp2
        go_loopw [31, 8] (fun i v wr => i = .int .i64 0 ∧ v = .int .i64 (-1) ∧ wr = w2.alloc (.cells #[] 37)) (fun _ _ _ => 0)
        case atStart => exact ⟨rfl, rfl, rfl⟩
        case round =>
          obtain ⟨rfl, rfl, rfl⟩ := hrel
          have hsz1 := HB2.out.size
          have hsx : SlW (w2.alloc (.cells #[] 37)) (.slice (some ⟨w2.heap.size, 0, none⟩) 0 0) [] := ⟨_, 0, rfl, Nat.le_refl _, Nat.zero_le _, fun k x hx => by simp at hx⟩
          by_cases hlt : 0 < l.length
          · obtain ⟨a, ha⟩ : ∃ a, l[0]? = some a := ⟨_, List.getElem?_eq_getElem hlt⟩
            obtain ⟨b, o, rfl, hb, hc⟩ := HA.out 0 a ha
            simp only [Nat.zero_mul, Nat.add_zero] at hc
            obtain ⟨c0, c1, c2, c3, c4, c5⟩ := ac_cells hc
            have hBw := HB2.out.alloc HB2.out.size (.cells #[] 37)
            have d0 := (hBw.cell (p := ⟨b, o, none⟩) hb).trans c0
            have d1 := (hBw.cell (p := ⟨b, o + 1, none⟩) hb).trans c1
            have d2 := (hBw.cell (p := ⟨b, o + 2, none⟩) hb).trans c2
            have d3 := (hBw.cell (p := ⟨b, o + 3, none⟩) hb).trans c3
            have d4 := (hBw.cell (p := ⟨b, o + 4, none⟩) hb).trans c4
            have d5 := (hBw.cell (p := ⟨b, o + 5, none⟩) hb).trans c5
            have hbz : b < (w2.alloc (.cells #[] 37)).heap.size := by simp; omega
            have hki : (0 : Int) < (l.length : Int) := by omega
            have hF' := HR0.out
            have hdr : l = l.drop 0 := rfl
            rw [hdr, applyF_at ha] at hF'
            have hbad : acBad [] a := by
              by_cases b1 : a.at_ < 0
              · exact Or.inl b1
              · exact Or.inr (Or.inl (by show ((0 : Nat) : Int) ≤ a.at_; omega))
            rw [if_pos hbad] at hF'
            have hr : R = ([], 0) := hF'.symm
            obtain ⟨wz, hwz⟩ : ∃ wz, wz = w2.alloc (.cells #[] 37) := ⟨_, rfl⟩
            have hBZ : Below w2.heap.size w2 wz := by rw [hwz]; exact (Below.refl _ w2).alloc (Nat.le_refl _) _
            rw [← hwz] at d0 d1 d2 d3 d4 d5 hbz hsx ⊢
            have hBA := hBZ.alloc hBZ.size (.cells #[.int .i64 a.tick, .int .i64 a.thread, .int .i64 a.kind, .int .i64 a.at_, .int .u64 a.old, .int .u64 a.now] 39)
            have hsxA := hsx.below ((Below.refl _ wz).alloc (Nat.le_refl _) (.cells #[.int .i64 a.tick, .int .i64 a.thread, .int .i64 a.kind, .int .i64 a.at_, .int .u64 a.old, .int .u64 a.now] 39)) (Nat.le_refl _)
            have hsu := HU2.out.below hBA (Nat.le_refl _)
            have hr2 : R.2 = 0 := by rw [hr]
            rw [hr] at hsu
            rw [hr2]
            have HSA0 := hide (fun n => same_any _ _ [] [] ((wz.alloc (.cells #[.int .i64 a.tick, .int .i64 a.thread, .int .i64 a.kind, .int .i64 a.at_, .int .u64 a.old, .int .u64 a.now] 39)).drewN n) (sl_drewN hsu n) (sl_drewN hsxA n))
            have HBB := hide (HB2.out.trans (hBA.mono HB2.out.size))
            clear hc c0 c1 c2 c3 c4 c5 ha hBw hF' hdr hbad hr hr2 hwz hBZ hBA hsxA hsu hsx
            by_cases b1 : a.at_ < 0
            · have e1 : decide (a.at_ < 0) = true := by simpa using b1
              clear b1
              go_wp2
              go_quiet (fail)
              go_wp2_with fail
              have HSA := hide (HSA0.out nq)
              clear HSA0
              refine HSA.out.mono ?_
              rintro e w6 ⟨he, q, rfl⟩
              have he' : e = .returned (.bool true) := he.trans (by simp)
              subst he'
              clear he HSA
              go_wp2_with fail
              refine (one44 _).mono ?_
              rintro e w7 ⟨rfl, hb7⟩
              have HB7 := hide hb7
              clear hb7
              go_wp2
              go_ret
              exact ⟨rfl, (below_drewN HBB.out _).trans (HB7.out.mono (below_drewN HBB.out 0).size)⟩
            · have e1 : decide (a.at_ < 0) = false := by simpa using b1
              have e2 : decide ((0 : Int) ≤ a.at_) = true := by simp; omega
              clear b1
              go_wp2
              go_quiet (fail)
              go_wp2_with fail
              have HSA := hide (HSA0.out nq)
              clear HSA0
              refine HSA.out.mono ?_
              rintro e w6 ⟨he, q, rfl⟩
              have he' : e = .returned (.bool true) := he.trans (by simp)
              subst he'
              clear he HSA
              go_wp2_with fail
              refine (one44 _).mono ?_
              rintro e w7 ⟨rfl, hb7⟩
              have HB7 := hide hb7
              clear hb7
              go_wp2
              go_ret
              exact ⟨rfl, (below_drewN HBB.out _).trans (HB7.out.mono (below_drewN HBB.out 0).size)⟩
          · have hl0 : l = [] := List.eq_nil_of_length_eq_zero (by omega)
            subst hl0
            have hr : R = ([], -1) := HR0.out.symm
            have hBA := (Below.refl _ w2).alloc (Nat.le_refl _) (.cells #[] 37)
            have hsu := HU2.out.below hBA (Nat.le_refl _)
            have hr2 : R.2 = -1 := by rw [hr]
            rw [hr] at hsu
            rw [hr2]
            have HSA := hide (same_any _ _ [] [] _ hsu hsx)
            have HBB := hide (HB2.out.trans (hBA.mono HB2.out.size))
            clear hr hr2 hBA hsu hsx
            go_wp2_with fail
            refine HSA.out.mono ?_
            rintro e w6 ⟨he, q, rfl⟩
            have he' : e = .returned (.bool true) := he.trans (by simp)
            subst he'
            clear he HSA
            go_wp2_with fail
            refine (one44 _).mono ?_
            rintro e w7 ⟨rfl, hb7⟩
            have HB7 := hide hb7
            clear hb7
            go_wp2
            go_ret
            exact ⟨rfl, (below_drewN HBB.out _).trans (HB7.out.mono (below_drewN HBB.out 0).size)⟩
      · have hnw : ∀ W : World, Below w.heap.size w W → ∀ j u, (xs.map (Value.int .u64))[j]? = some u → (W.alloc (.cells #[] 37)).cell? (ad.add j) = some u := by
          intro W hW j u hu
          rw [List.getElem?_map] at hu
          rcases hx : xs[j]? with _ | x
          · rw [hx] at hu; cases hu
          · rw [hx] at hu
            obtain ⟨b, o, hA, hbw, hc⟩ := v3 j x hx
            cases hA
            cases hu
            have := nt_cell hc
            rw [Addr.add_lit]
            simp only [Nat.mul_one] at this
            exact Lib.cell?_alloc_some _ ((hW.cell (p := ⟨b, o + j, none⟩) hbw).trans this)
        have HNW := hide hnw
        clear v3 hnw
        go_enter Tryz.func5, Tryz.ntmps5
        go_wp2_with fail
        refine HN.out.mono ?_
        rintro e w2 ⟨u, rfl, hu, hb2⟩
        have HU2 := hide hu
        have HB2 := hide hb2
        clear HN hu hb2
        go_wp2_with (first | (at_builtin; refine wpList_append_own_at _ rfl _ _ 33 rfl w2.heap.size 37 i0 (.int .u64 0) 1 8 Tryz.underlying33 hi hx0 hx1 hx2 rfl (by decide) _ _ _ rfl (World.ownsRow_made w2 #[] 0 (Nat.le_refl _) (Nat.zero_le _) rfl) ad xs.length cv (xs.map (Value.int .u64)) rfl (by simp) (HNW.out w2 HB2.out) (ints_oneCell .u64 xs) (by unfold maxLen; omega) (by omega) (by simp) ?_; intro v' w5 hown' hgrow hnil hloc; have HX := hide (show WRow w5 w2.heap.size v' xs from by simpa using hown'); have HBX := hide (((Below.refl _ w2).alloc (Nat.le_refl _) (.cells #[] 37)).grown hgrow (by simp) (by intro k hk; cases hk; exact Nat.le_refl _)); clear hown' hgrow hnil hloc; obtain ⟨Ax, cx, rfl⟩ := own_slice HX.out) | fail)
        go_loopw [31, 8] (fun i v wr => ∃ (k : Nat) (xk : List Int), k ≤ l.length ∧ i = .int .i64 (k : Int) ∧ v = .int .i64 (-1) ∧ xk.length = xs.length ∧ Hid (WRow wr w2.heap.size (.slice Ax xs.length cx) xk) ∧ Hid (applyF xk (l.drop k) k = R) ∧ Hid (Below w2.heap.size w2 wr)) (fun i _ _ => l.length - (intOf i).toNat)
        case atStart => exact ⟨0, xs, Nat.zero_le _, rfl, rfl, rfl, HX, hide HR0.out, HBX⟩
        case round =>
          obtain ⟨k, xk, hk, rfl, rfl, hxk, hO, hF, hB⟩ := hrel
          have hsz2 := hB.out.size
          have hsz1 := HB2.out.size
          by_cases hlt : k < l.length
          · obtain ⟨a, ha⟩ : ∃ a, l[k]? = some a := ⟨_, List.getElem?_eq_getElem hlt⟩
            obtain ⟨b, o, rfl, hb, hc⟩ := HA.out k a ha
            obtain ⟨c0, c1, c2, c3, c4, c5⟩ := ac_cells hc
            have hBw := HB2.out.trans (hB.out.mono HB2.out.size)
            have d0 := (hBw.cell (p := ⟨b, o + k * 6, none⟩) hb).trans c0
            have d1 := (hBw.cell (p := ⟨b, o + k * 6 + 1, none⟩) hb).trans c1
            have d2 := (hBw.cell (p := ⟨b, o + k * 6 + 2, none⟩) hb).trans c2
            have d3 := (hBw.cell (p := ⟨b, o + k * 6 + 3, none⟩) hb).trans c3
            have d4 := (hBw.cell (p := ⟨b, o + k * 6 + 4, none⟩) hb).trans c4
            have d5 := (hBw.cell (p := ⟨b, o + k * 6 + 5, none⟩) hb).trans c5
            have hbz : b < wr.heap.size := by omega
            have hki : (k : Int) < (l.length : Int) := by omega
            have hk0 : (0 : Int) ≤ (k : Int) := by omega
            have hF' := hF.out
            rw [applyF_at ha] at hF'
            clear hc c0 c1 c2 c3 c4 c5 ha hBw
            by_cases b1 : a.at_ < 0
            · have e1 : decide (a.at_ < 0) = true := by simpa using b1
              rw [if_pos (show acBad xk a from Or.inl b1)] at hF'
              have HF := hide hF'
              clear hF' b1
              have hr : R = (xk, (k : Int)) := HF.out.symm
              have hr2 : R.2 = (k : Int) := by rw [hr]
              have hBA := hB.out.alloc hsz2 (.cells #[.int .i64 a.tick, .int .i64 a.thread, .int .i64 a.kind, .int .i64 a.at_, .int .u64 a.old, .int .u64 a.now] 39)
              have hsx : SlW (wr.alloc (.cells #[.int .i64 a.tick, .int .i64 a.thread, .int .i64 a.kind, .int .i64 a.at_, .int .u64 a.old, .int .u64 a.now] 39)) _ _ := wrow_sl (l := xk) (World.ownsRow.alloc hO.out _) (by unfold maxLen; omega)
              have hsu := HU2.out.below hBA (Nat.le_refl _)
              rw [hr] at hsu
              have HSA0 := hide (fun n => same_any _ _ xk xk ((wr.alloc (.cells #[.int .i64 a.tick, .int .i64 a.thread, .int .i64 a.kind, .int .i64 a.at_, .int .u64 a.old, .int .u64 a.now] 39)).drewN n) (sl_drewN hsu n) (sl_drewN hsx n))
              have HBB := hide (HB2.out.trans (hBA.mono HB2.out.size))
              rw [hr2]
              clear hr hr2 hBA hsx hsu
              go_wp2
              go_quiet (fail)
              go_wp2_with fail
              have HSA := hide (HSA0.out nq)
              clear HSA0
              refine HSA.out.mono ?_
              rintro e w6 ⟨he, q, rfl⟩
              have he' : e = .returned (.bool true) := he.trans (by simp)
              subst he'
              clear he HSA
              go_wp2_with fail
              refine (one44 _).mono ?_
              rintro e w7 ⟨rfl, hb7⟩
              have HB7 := hide hb7
              clear hb7
              go_wp2
              go_ret
              exact ⟨rfl, (below_drewN HBB.out _).trans (HB7.out.mono (below_drewN HBB.out 0).size)⟩
            · by_cases b2 : (xs.length : Int) ≤ a.at_
              · have e1 : decide (a.at_ < 0) = false := by simpa using b1
                have e2 : decide ((xs.length : Int) ≤ a.at_) = true := by simpa using b2
                rw [if_pos (show acBad xk a from Or.inr (Or.inl (by rw [hxk]; exact b2)))] at hF'
                have HF := hide hF'
                clear hF' b1 b2
                have hr : R = (xk, (k : Int)) := HF.out.symm
                have hr2 : R.2 = (k : Int) := by rw [hr]
                have hBA := hB.out.alloc hsz2 (.cells #[.int .i64 a.tick, .int .i64 a.thread, .int .i64 a.kind, .int .i64 a.at_, .int .u64 a.old, .int .u64 a.now] 39)
                have hsx : SlW (wr.alloc (.cells #[.int .i64 a.tick, .int .i64 a.thread, .int .i64 a.kind, .int .i64 a.at_, .int .u64 a.old, .int .u64 a.now] 39)) _ _ := wrow_sl (l := xk) (World.ownsRow.alloc hO.out _) (by unfold maxLen; omega)
                have hsu := HU2.out.below hBA (Nat.le_refl _)
                rw [hr] at hsu
                have HSA0 := hide (fun n => same_any _ _ xk xk ((wr.alloc (.cells #[.int .i64 a.tick, .int .i64 a.thread, .int .i64 a.kind, .int .i64 a.at_, .int .u64 a.old, .int .u64 a.now] 39)).drewN n) (sl_drewN hsu n) (sl_drewN hsx n))
                have HBB := hide (HB2.out.trans (hBA.mono HB2.out.size))
                rw [hr2]
                clear hr hr2 hBA hsx hsu
                go_wp2
                go_quiet (fail)
                go_wp2_with fail
                have HSA := hide (HSA0.out nq)
                clear HSA0
                refine HSA.out.mono ?_
                rintro e w6 ⟨he, q, rfl⟩
                have he' : e = .returned (.bool true) := he.trans (by simp)
                subst he'
                clear he HSA
                go_wp2_with fail
                refine (one44 _).mono ?_
                rintro e w7 ⟨rfl, hb7⟩
                have HB7 := hide hb7
                clear hb7
                go_wp2
                go_ret
                exact ⟨rfl, (below_drewN HBB.out _).trans (HB7.out.mono (below_drewN HBB.out 0).size)⟩
              · obtain ⟨j, hj⟩ : ∃ j : Nat, a.at_ = j := ⟨a.at_.toNat, by omega⟩
                have hjl : j < xs.length := by omega
                rw [hj] at d3
                obtain ⟨y, hy⟩ : ∃ y, xk[j]? = some y := ⟨_, List.getElem?_eq_getElem (by omega)⟩
                obtain ⟨g, rfl, hgB, hgz⟩ := wrow_some hO.out (by omega)
                have cj := wrow_cell hO.out hy
                have fj := wrow_frozen hO.out j
                have e2 : decide (xs.length ≤ j) = false := by simpa using hjl
                have hji : (j : Int) < (xs.length : Int) := by omega
                have hj0 : (0 : Int) ≤ (j : Int) := by omega
                have htn : a.at_.toNat = j := by omega
                have hb3 : acBad xk a ↔ (y ≠ a.old ∨ (a.kind = 0 ∧ a.now ≠ a.old)) := by
                  unfold acBad
                  rw [htn, hy, hxk]
                  constructor
                  · rintro (h | h | h | h)
                    · exact absurd h b1
                    · exact absurd h b2
                    · exact Or.inl (fun e => h (by rw [e]))
                    · exact Or.inr h
                  · rintro (h | h)
                    · exact Or.inr (Or.inr (Or.inl (fun e => h (Option.some.inj e))))
                    · exact Or.inr (Or.inr (Or.inr h))
                rw [htn] at hF'
                clear hj b1 b2 hy htn
                by_cases b3 : y = a.old
                · have e3 : (y != a.old) = false := by simp [b3]
                  by_cases b4 : a.kind = 0
                  · have e4 : (a.kind == 0) = true := by simp [b4]
                    by_cases b5 : a.now = a.old
                    · have e5 : (a.now != a.old) = false := by simp [b5]
                      rw [if_neg (fun h => by rcases hb3.1 h with h | h; exact h b3; exact h.2 b5)] at hF'
                      have HF := hide hF'
                      clear hF' hb3 b3 b4 b5
                      go_wp2
                      obtain ⟨wi, hwi⟩ : ∃ wi, wi = wr.alloc (.cells #[.int .i64 a.tick, .int .i64 a.thread, .int .i64 a.kind, .int .i64 (j : Int), .int .u64 a.old, .int .u64 a.now] 39) := ⟨_, rfl⟩
                      rw [← hwi]
                      have hmi : wi.heap[wr.heap.size]? = some (.cells #[.int .i64 a.tick, .int .i64 a.thread, .int .i64 a.kind, .int .i64 (j : Int), .int .u64 a.old, .int .u64 a.now] 39 (0, 0)) := by rw [hwi]; exact heap_alloc_new _ _
                      have m2 : wi.cell? ⟨wr.heap.size, 2, none⟩ = some (.int .i64 a.kind) := cell_of_row _ _ 2 _ _ _ hmi
                      have m3 : wi.cell? ⟨wr.heap.size, 3, none⟩ = some (.int .i64 (j : Int)) := cell_of_row _ _ 3 _ _ _ hmi
                      have m4 : wi.cell? ⟨wr.heap.size, 4, none⟩ = some (.int .u64 a.old) := cell_of_row _ _ 4 _ _ _ hmi
                      have m5 : wi.cell? ⟨wr.heap.size, 5, none⟩ = some (.int .u64 a.now) := cell_of_row _ _ 5 _ _ _ hmi
                      have zi : wr.heap.size < wi.heap.size := (Array.getElem?_eq_some_iff.1 hmi).1
                      have zg : g < wi.heap.size := by omega
                      have mj : wi.cell? ⟨g, j, none⟩ = some (.int .u64 y) := by rw [hwi]; exact (World.cell?_of_block (a := ⟨g, j, none⟩) (Below.heap_alloc _ _ _ hgz)).trans cj
                      have mf : wi.frozen? ⟨g, j, none⟩ = false := by rw [hwi]; exact (World.frozen?_of_block (a := ⟨g, j, none⟩) (Below.heap_alloc _ _ _ hgz)).trans fj
                      have hBA : Below w2.heap.size w2 wi := by rw [hwi]; exact hB.out.alloc hsz2 _
                      have hOA : WRow wi w2.heap.size (.slice (some ⟨g, 0, none⟩) xs.length cx) xk := by rw [hwi]; exact World.ownsRow.alloc hO.out _
                      have HBA := hide hBA
                      have HOA := hide hOA
                      clear hwi hmi hBA hOA d0 d1 d2 d3 d4 d5 cj fj
                      refine wp_region_seq (fun w' => Below wi.heap.size wi w') (.take 0 <| .take 1 <| .take 2 <| .take 3 <| .take 4 <| .take 5 <| .take 6 <| .take 7 <| .take 8 <| .take 9 <| .take 10 <| .take 11 <| .take 12 <| .take 13 <| .take 14 <| .take 15 <| .take 16 <| .take 17 <| .take 18 <| .take 19 <| .take 20 <| .take 21 <| .take 22 <| .take 23 <| .take 24 <| .take 25 <| .take 26 <| .take 27 <| .take 28 <| .take 29 <| .take 30 <| .take 31 <| .done) (by kernel_rfl) (by kernel_rfl) (by kernel_rfl) (Below.refl _ _).drew ?_
                      repeat (first | (refine seq_take (v := ?_) rfl (by rfl) ?_ ?_; rotate_left; (focus (intro wS hS; replace hS := bcellc hS; go_simp; exact rfl)); simp only [Act.put, List.setIfInBounds_toArray, List.set_cons_zero, List.set_cons_succ]) | (refine seq_skip rfl (by rfl) ?_; simp only [Act.put, List.setIfInBounds_toArray, List.set_cons_zero, List.set_cons_succ]) | (refine seq_pass rfl (by rfl) (by assumption) ?_; simp only [Act.put, List.setIfInBounds_toArray, List.set_cons_zero, List.set_cons_succ]))
                      refine seq_nil ?_
                      go_wp2
                      go_roundw
                      case rel =>
                        exact ⟨k + 1, xk.set j a.now, by omega, by go_num, by first | rfl | trivial, by rw [List.length_set]; exact hxk, hide (wrow_set (w := wi.drew) HOA.out hxk j a.now), hide HF.out, hide (HBA.out.drew.setCell (p := ⟨g, j, none⟩) hgB (.int .u64 a.now))⟩
                      case measure => first | (simp [intOf]; done) | (simp [intOf]; omega)
                    · have e5 : (a.now != a.old) = true := by simp [b5]
                      rw [if_pos (hb3.2 (Or.inr ⟨b4, b5⟩))] at hF'
                      have HF := hide hF'
                      clear hF' hb3 b3 b4 b5
                      have hr : R = (xk, (k : Int)) := HF.out.symm
                      have hr2 : R.2 = (k : Int) := by rw [hr]
                      rw [hr2]
                      go_wp2
                      obtain ⟨wi, hwi⟩ : ∃ wi, wi = wr.alloc (.cells #[.int .i64 a.tick, .int .i64 a.thread, .int .i64 a.kind, .int .i64 (j : Int), .int .u64 a.old, .int .u64 a.now] 39) := ⟨_, rfl⟩
                      rw [← hwi]
                      have hmi : wi.heap[wr.heap.size]? = some (.cells #[.int .i64 a.tick, .int .i64 a.thread, .int .i64 a.kind, .int .i64 (j : Int), .int .u64 a.old, .int .u64 a.now] 39 (0, 0)) := by rw [hwi]; exact heap_alloc_new _ _
                      have m2 : wi.cell? ⟨wr.heap.size, 2, none⟩ = some (.int .i64 a.kind) := cell_of_row _ _ 2 _ _ _ hmi
                      have m3 : wi.cell? ⟨wr.heap.size, 3, none⟩ = some (.int .i64 (j : Int)) := cell_of_row _ _ 3 _ _ _ hmi
                      have m4 : wi.cell? ⟨wr.heap.size, 4, none⟩ = some (.int .u64 a.old) := cell_of_row _ _ 4 _ _ _ hmi
                      have m5 : wi.cell? ⟨wr.heap.size, 5, none⟩ = some (.int .u64 a.now) := cell_of_row _ _ 5 _ _ _ hmi
                      have zi : wr.heap.size < wi.heap.size := (Array.getElem?_eq_some_iff.1 hmi).1
                      have zg : g < wi.heap.size := by omega
                      have mj : wi.cell? ⟨g, j, none⟩ = some (.int .u64 y) := by rw [hwi]; exact (World.cell?_of_block (a := ⟨g, j, none⟩) (Below.heap_alloc _ _ _ hgz)).trans cj
                      have mf : wi.frozen? ⟨g, j, none⟩ = false := by rw [hwi]; exact (World.frozen?_of_block (a := ⟨g, j, none⟩) (Below.heap_alloc _ _ _ hgz)).trans fj
                      have hBA : Below w2.heap.size w2 wi := by rw [hwi]; exact hB.out.alloc hsz2 _
                      have hOA : WRow wi w2.heap.size (.slice (some ⟨g, 0, none⟩) xs.length cx) xk := by rw [hwi]; exact World.ownsRow.alloc hO.out _
                      have HBA := hide hBA
                      have HOA := hide hOA
                      clear hwi hmi hBA hOA d0 d1 d2 d3 d4 d5 cj fj
                      refine wp_region_seq (fun w' => Below wi.heap.size wi w') (.take 0 <| .take 1 <| .take 2 <| .take 3 <| .take 4 <| .take 5 <| .take 6 <| .take 7 <| .take 8 <| .take 9 <| .take 10 <| .take 11 <| .take 12 <| .take 13 <| .take 14 <| .take 15 <| .take 16 <| .take 17 <| .take 18 <| .take 19 <| .take 20 <| .take 21 <| .take 22 <| .take 23 <| .take 24 <| .take 25 <| .take 26 <| .take 27 <| .take 28 <| .take 29 <| .take 30 <| .take 31 <| .done) (by kernel_rfl) (by kernel_rfl) (by kernel_rfl) (Below.refl _ _).drew ?_
                      repeat (first | (refine seq_take (v := ?_) rfl (by rfl) ?_ ?_; rotate_left; (focus (intro wS hS; replace hS := bcellc hS; go_simp; exact rfl)); simp only [Act.put, List.setIfInBounds_toArray, List.set_cons_zero, List.set_cons_succ]) | (refine seq_skip rfl (by rfl) ?_; simp only [Act.put, List.setIfInBounds_toArray, List.set_cons_zero, List.set_cons_succ]) | (refine seq_pass rfl (by rfl) (by assumption) ?_; simp only [Act.put, List.setIfInBounds_toArray, List.set_cons_zero, List.set_cons_succ]))
                      refine seq_nil ?_
                      have hsx : SlW wi.drew _ _ := wrow_sl (l := xk) (w := wi.drew) HOA.out (by unfold maxLen; omega)
                      have hsu := HU2.out.below (w' := wi.drew) HBA.out.drew (Nat.le_refl _)
                      rw [hr] at hsu
                      have HSA := hide (same_any _ _ xk xk wi.drew hsu hsx)
                      have HBB := hide (HB2.out.trans (HBA.out.mono HB2.out.size))
                      clear hr hr2 hsx hsu
                      go_wp2_with fail
                      refine HSA.out.mono ?_
                      rintro e w6 ⟨he, q, rfl⟩
                      have he' : e = .returned (.bool true) := he.trans (by simp)
                      subst he'
                      clear he HSA
                      go_wp2_with fail
                      refine (one44 _).mono ?_
                      rintro e w7 ⟨rfl, hb7⟩
                      have HB7 := hide hb7
                      clear hb7
                      go_wp2
                      go_ret
                      exact ⟨rfl, (below_drewN HBB.out _).trans (HB7.out.mono (below_drewN HBB.out 0).size)⟩
                  · have e4 : (a.kind == 0) = false := by simp [b4]
                    rw [if_neg (fun h => by rcases hb3.1 h with h | h; exact h b3; exact b4 h.1)] at hF'
                    have HF := hide hF'
                    clear hF' hb3 b3 b4
                    go_wp2
                    obtain ⟨wi, hwi⟩ : ∃ wi, wi = wr.alloc (.cells #[.int .i64 a.tick, .int .i64 a.thread, .int .i64 a.kind, .int .i64 (j : Int), .int .u64 a.old, .int .u64 a.now] 39) := ⟨_, rfl⟩
                    rw [← hwi]
                    have hmi : wi.heap[wr.heap.size]? = some (.cells #[.int .i64 a.tick, .int .i64 a.thread, .int .i64 a.kind, .int .i64 (j : Int), .int .u64 a.old, .int .u64 a.now] 39 (0, 0)) := by rw [hwi]; exact heap_alloc_new _ _
                    have m2 : wi.cell? ⟨wr.heap.size, 2, none⟩ = some (.int .i64 a.kind) := cell_of_row _ _ 2 _ _ _ hmi
                    have m3 : wi.cell? ⟨wr.heap.size, 3, none⟩ = some (.int .i64 (j : Int)) := cell_of_row _ _ 3 _ _ _ hmi
                    have m4 : wi.cell? ⟨wr.heap.size, 4, none⟩ = some (.int .u64 a.old) := cell_of_row _ _ 4 _ _ _ hmi
                    have m5 : wi.cell? ⟨wr.heap.size, 5, none⟩ = some (.int .u64 a.now) := cell_of_row _ _ 5 _ _ _ hmi
                    have zi : wr.heap.size < wi.heap.size := (Array.getElem?_eq_some_iff.1 hmi).1
                    have zg : g < wi.heap.size := by omega
                    have mj : wi.cell? ⟨g, j, none⟩ = some (.int .u64 y) := by rw [hwi]; exact (World.cell?_of_block (a := ⟨g, j, none⟩) (Below.heap_alloc _ _ _ hgz)).trans cj
                    have mf : wi.frozen? ⟨g, j, none⟩ = false := by rw [hwi]; exact (World.frozen?_of_block (a := ⟨g, j, none⟩) (Below.heap_alloc _ _ _ hgz)).trans fj
                    have hBA : Below w2.heap.size w2 wi := by rw [hwi]; exact hB.out.alloc hsz2 _
                    have hOA : WRow wi w2.heap.size (.slice (some ⟨g, 0, none⟩) xs.length cx) xk := by rw [hwi]; exact World.ownsRow.alloc hO.out _
                    have HBA := hide hBA
                    have HOA := hide hOA
                    clear hwi hmi hBA hOA d0 d1 d2 d3 d4 d5 cj fj
                    refine wp_region_seq (fun w' => Below wi.heap.size wi w') (.take 0 <| .take 1 <| .take 2 <| .take 3 <| .take 4 <| .take 5 <| .take 6 <| .take 7 <| .take 8 <| .take 9 <| .take 10 <| .take 11 <| .take 12 <| .take 13 <| .take 14 <| .take 15 <| .take 16 <| .take 17 <| .take 18 <| .take 19 <| .take 20 <| .take 21 <| .take 22 <| .take 23 <| .take 24 <| .take 25 <| .take 26 <| .take 27 <| .take 28 <| .take 29 <| .take 30 <| .take 31 <| .done) (by kernel_rfl) (by kernel_rfl) (by kernel_rfl) (Below.refl _ _).drew ?_
                    repeat (first | (refine seq_take (v := ?_) rfl (by rfl) ?_ ?_; rotate_left; (focus (intro wS hS; replace hS := bcellc hS; go_simp; exact rfl)); simp only [Act.put, List.setIfInBounds_toArray, List.set_cons_zero, List.set_cons_succ]) | (refine seq_skip rfl (by rfl) ?_; simp only [Act.put, List.setIfInBounds_toArray, List.set_cons_zero, List.set_cons_succ]) | (refine seq_pass rfl (by rfl) (by assumption) ?_; simp only [Act.put, List.setIfInBounds_toArray, List.set_cons_zero, List.set_cons_succ]))
                    refine seq_nil ?_
                    go_wp2
                    go_roundw
                    case rel =>
                      exact ⟨k + 1, xk.set j a.now, by omega, by go_num, by first | rfl | trivial, by rw [List.length_set]; exact hxk, hide (wrow_set (w := wi.drew) HOA.out hxk j a.now), hide HF.out, hide (HBA.out.drew.setCell (p := ⟨g, j, none⟩) hgB (.int .u64 a.now))⟩
                    case measure => first | (simp [intOf]; done) | (simp [intOf]; omega)
                · have e3 : (y != a.old) = true := by simp [b3]
                  rw [if_pos (hb3.2 (Or.inl b3))] at hF'
                  have HF := hide hF'
                  clear hF' hb3 b3
                  have hr : R = (xk, (k : Int)) := HF.out.symm
                  have hr2 : R.2 = (k : Int) := by rw [hr]
                  rw [hr2]
                  go_wp2
                  obtain ⟨wi, hwi⟩ : ∃ wi, wi = wr.alloc (.cells #[.int .i64 a.tick, .int .i64 a.thread, .int .i64 a.kind, .int .i64 (j : Int), .int .u64 a.old, .int .u64 a.now] 39) := ⟨_, rfl⟩
                  rw [← hwi]
                  have hmi : wi.heap[wr.heap.size]? = some (.cells #[.int .i64 a.tick, .int .i64 a.thread, .int .i64 a.kind, .int .i64 (j : Int), .int .u64 a.old, .int .u64 a.now] 39 (0, 0)) := by rw [hwi]; exact heap_alloc_new _ _
                  have m2 : wi.cell? ⟨wr.heap.size, 2, none⟩ = some (.int .i64 a.kind) := cell_of_row _ _ 2 _ _ _ hmi
                  have m3 : wi.cell? ⟨wr.heap.size, 3, none⟩ = some (.int .i64 (j : Int)) := cell_of_row _ _ 3 _ _ _ hmi
                  have m4 : wi.cell? ⟨wr.heap.size, 4, none⟩ = some (.int .u64 a.old) := cell_of_row _ _ 4 _ _ _ hmi
                  have m5 : wi.cell? ⟨wr.heap.size, 5, none⟩ = some (.int .u64 a.now) := cell_of_row _ _ 5 _ _ _ hmi
                  have zi : wr.heap.size < wi.heap.size := (Array.getElem?_eq_some_iff.1 hmi).1
                  have zg : g < wi.heap.size := by omega
                  have mj : wi.cell? ⟨g, j, none⟩ = some (.int .u64 y) := by rw [hwi]; exact (World.cell?_of_block (a := ⟨g, j, none⟩) (Below.heap_alloc _ _ _ hgz)).trans cj
                  have mf : wi.frozen? ⟨g, j, none⟩ = false := by rw [hwi]; exact (World.frozen?_of_block (a := ⟨g, j, none⟩) (Below.heap_alloc _ _ _ hgz)).trans fj
                  have hBA : Below w2.heap.size w2 wi := by rw [hwi]; exact hB.out.alloc hsz2 _
                  have hOA : WRow wi w2.heap.size (.slice (some ⟨g, 0, none⟩) xs.length cx) xk := by rw [hwi]; exact World.ownsRow.alloc hO.out _
                  have HBA := hide hBA
                  have HOA := hide hOA
                  clear hwi hmi hBA hOA d0 d1 d2 d3 d4 d5 cj fj
                  refine wp_region_seq (fun w' => Below wi.heap.size wi w') (.take 0 <| .take 1 <| .take 2 <| .take 3 <| .take 4 <| .take 5 <| .take 6 <| .take 7 <| .take 8 <| .take 9 <| .take 10 <| .take 11 <| .take 12 <| .take 13 <| .take 14 <| .take 15 <| .take 16 <| .take 17 <| .take 18 <| .take 19 <| .take 20 <| .take 21 <| .take 22 <| .take 23 <| .take 24 <| .take 25 <| .take 26 <| .take 27 <| .take 28 <| .take 29 <| .take 30 <| .take 31 <| .done) (by kernel_rfl) (by kernel_rfl) (by kernel_rfl) (Below.refl _ _).drew ?_
                  repeat (first | (refine seq_take (v := ?_) rfl (by rfl) ?_ ?_; rotate_left; (focus (intro wS hS; replace hS := bcellc hS; go_simp; exact rfl)); simp only [Act.put, List.setIfInBounds_toArray, List.set_cons_zero, List.set_cons_succ]) | (refine seq_skip rfl (by rfl) ?_; simp only [Act.put, List.setIfInBounds_toArray, List.set_cons_zero, List.set_cons_succ]) | (refine seq_pass rfl (by rfl) (by assumption) ?_; simp only [Act.put, List.setIfInBounds_toArray, List.set_cons_zero, List.set_cons_succ]))
                  refine seq_nil ?_
                  have hsx : SlW wi.drew _ _ := wrow_sl (l := xk) (w := wi.drew) HOA.out (by unfold maxLen; omega)
                  have hsu := HU2.out.below (w' := wi.drew) HBA.out.drew (Nat.le_refl _)
                  rw [hr] at hsu
                  have HSA := hide (same_any _ _ xk xk wi.drew hsu hsx)
                  have HBB := hide (HB2.out.trans (HBA.out.mono HB2.out.size))
                  clear hr hr2 hsx hsu
                  go_wp2_with fail
                  refine HSA.out.mono ?_
                  rintro e w6 ⟨he, q, rfl⟩
                  have he' : e = .returned (.bool true) := he.trans (by simp)
                  subst he'
                  clear he HSA
                  go_wp2_with fail
                  refine (one44 _).mono ?_
                  rintro e w7 ⟨rfl, hb7⟩
                  have HB7 := hide hb7
                  clear hb7
                  go_wp2
                  go_ret
                  exact ⟨rfl, (below_drewN HBB.out _).trans (HB7.out.mono (below_drewN HBB.out 0).size)⟩
          · obtain rfl : k = l.length := by omega
            have hF' := hF.out
            rw [List.drop_length] at hF'
            have hr : R = (xk, -1) := hF'.symm
            have hr2 : R.2 = -1 := by rw [hr]
            rw [hr2]
            have hsx : SlW wr _ _ := wrow_sl (l := xk) hO.out (by unfold maxLen; omega)
            have hsu := HU2.out.below hB.out (Nat.le_refl _)
            rw [hr] at hsu
            have HSA := hide (same_any _ _ xk xk wr hsu hsx)
            have HBB := hide (HB2.out.trans (hB.out.mono HB2.out.size))
            clear hr hr2 hsx hsu hF'
            go_wp2_with fail
            refine HSA.out.mono ?_
            rintro e w6 ⟨he, q, rfl⟩
            have he' : e = .returned (.bool true) := he.trans (by simp)
            subst he'
            clear he HSA
            go_wp2_with fail
            refine (one44 _).mono ?_
            rintro e w7 ⟨rfl, hb7⟩
            have HB7 := hide hb7
            clear hb7
            go_wp2
            go_ret
            exact ⟨rfl, (below_drewN HBB.out _).trans (HB7.out.mono (below_drewN HBB.out 0).size)⟩
end Go.Proofs.YtfghmlpjbedomaaGreat
