/- Accesses applied to words (access.Apply), walked: what words are behind them, and which one may not be. -/
import Derived.Test.YtfghmlpjbedomaaGreatAc1
import Derived.Test.YtfghmlpjbedomaaGreatBun2
import Derived.Test.YtfghmlpjbedomaaGreatBun1
namespace Go.Proofs.YtfghmlpjbedomaaGreat
open Go.RowKit

abbrev SlAc (w : World) (v : Value) (l : List Ac) : Prop := Sl acEnc 6 w v l
/-- An access that may not be. -/
def acBad (x : List Int) (a : Ac) : Prop := a.at_ < 0 ∨ (x.length : Int) ≤ a.at_ ∨ x[a.at_.toNat]? ≠ some a.old ∨ (a.kind = 0 ∧ a.now ≠ a.old)
instance (x : List Int) (a : Ac) : Decidable (acBad x a) := by unfold acBad; infer_instance
/-- What words are behind accesses, and which of these may not be. -/
def applyF : List Int → List Ac → Nat → List Int × Int
  | x, [], _ => (x, -1)
  | x, a :: l, i => if acBad x a then (x, (i : Int)) else applyF (x.set a.at_.toNat a.now) l (i + 1)
theorem applyF_at {x : List Int} {l : List Ac} {k : Nat} {a : Ac} (h : l[k]? = some a) : applyF x (l.drop k) k = if acBad x a then (x, (k : Int)) else applyF (x.set a.at_.toNat a.now) (l.drop (k + 1)) (k + 1) := by
  obtain ⟨h1, h2⟩ := List.getElem?_eq_some_iff.1 h
  rw [List.drop_eq_getElem_cons h1, h2]
  rfl
theorem ac_cells {w : World} {b p : Nat} {a : Ac} (h : CellsAt w b p (acEnc a)) : w.cell? ⟨b, p, none⟩ = some (.int .i64 a.tick) ∧ w.cell? ⟨b, p + 1, none⟩ = some (.int .i64 a.thread) ∧ w.cell? ⟨b, p + 2, none⟩ = some (.int .i64 a.kind) ∧ w.cell? ⟨b, p + 3, none⟩ = some (.int .i64 a.at_) ∧ w.cell? ⟨b, p + 4, none⟩ = some (.int .u64 a.old) ∧ w.cell? ⟨b, p + 5, none⟩ = some (.int .u64 a.now) :=
  ⟨h 0 _ rfl, h 1 _ rfl, h 2 _ rfl, h 3 _ rfl, h 4 _ rfl, h 5 _ rfl⟩
theorem wrow_cell {w : World} {B g n c : Nat} {xs : List Int} (h : WRow w B (.slice (some ⟨g, 0, none⟩) n c) xs) {j : Nat} {y : Int} (hy : xs[j]? = some y) : w.cell? ⟨g, j, none⟩ = some (.int .u64 y) := by
  have := (World.ownsRow.cells h (g := g) rfl) j (.int .u64 y) (by rw [List.getElem?_map, hy]; rfl)
  rwa [Addr.add_lit, Nat.zero_add] at this
theorem wrow_set {w : World} {B g n c : Nat} {xs : List Int} (h : WRow w B (.slice (some ⟨g, 0, none⟩) n c) xs) (hn : xs.length = n) (j : Nat) (y : Int) : WRow (w.setCell ⟨g, j, none⟩ (.int .u64 y)) B (.slice (some ⟨g, 0, none⟩) n c) (xs.set j y) := by
  subst hn
  have := (World.ownsRow.stored h j (.int .u64 y)).1
  unfold WRow
  rw [List.length_set, List.map_set]
  exact this
theorem wrow_frozen {w : World} {B g n c : Nat} {xs : List Int} (h : WRow w B (.slice (some ⟨g, 0, none⟩) n c) xs) (j : Nat) : w.frozen? ⟨g, j, none⟩ = false := by
  rcases h.2 with ⟨e1, _⟩ | ⟨g', cap, cur, e1, hg, hh, _⟩
  · cases e1
  · cases e1
    exact frozen_of_row w g j _ _ hh
theorem wrow_drewN {w : World} {B : Nat} {v : Value} {xs : List Int} (h : WRow w B v xs) (n : Nat) : WRow (w.drewN n) B v xs := h
theorem wrow_some {w : World} {B n c : Nat} {A : Option Addr} {xs : List Int} (h : WRow w B (.slice A n c) xs) (hl : 0 < xs.length) : ∃ g, A = some ⟨g, 0, none⟩ ∧ B ≤ g ∧ g < w.heap.size := by
  rcases h.2 with ⟨e1, h0⟩ | ⟨g, cap, cur, e1, hg, hh, _⟩
  · omega
  · injection e1 with e2
    exact ⟨g, e2, hg, (Array.getElem?_eq_some_iff.1 hh).1⟩
set_option maxRecDepth 100000 in
set_option maxHeartbeats 4000000 in
theorem applyW {v L : Value} {xs : List Int} {l : List Ac} {w : World} (hv : SlW w v xs) (hl : SlAc w L l) (hx : xs.length ≤ 1000000) :
    Calls Tryz.prog 15 #[v, L] w fun e w' => ∃ u, e = .returned (.tuple #[u, .int .i64 (applyF xs l 0).2]) ∧ SlW w' u (applyF xs l 0).1 ∧ Below w.heap.size w w' := by
  obtain ⟨A, cA, rfl, a1, a2, a3⟩ := hl
  have hlen : (l.length : Int) ≤ 9223372036854775807 := by unfold maxLen at a2; omega
  have N0 := clone_any v xs w hv hx
  have HV := hide hv
  have HA := hide a3
  obtain ⟨R, hR⟩ : ∃ R, applyF xs l 0 = R := ⟨_, rfl⟩
  rw [hR]
  have HR0 := hide hR
  clear hv a3 hR
  go_enter Tryz.func15, Tryz.ntmps15
  go_wp2_with fail
  refine N0.mono ?_
  rintro e w1 ⟨u, rfl, hu, hb1⟩
  obtain ⟨Au, cu, rfl⟩ := own_slice hu
  have HU := hide hu
  have HB1 := hide hb1
  clear N0 hu hb1
  go_wp2
  go_loopw [13] (fun i wr => ∃ (k : Nat) (xk : List Int), k ≤ l.length ∧ i = .int .i64 (k : Int) ∧ xk.length = xs.length ∧ Hid (WRow wr w.heap.size (.slice Au xs.length cu) xk) ∧ Hid (applyF xk (l.drop k) k = R) ∧ Hid (Below w.heap.size w wr)) (fun i _ => l.length - (intOf i).toNat)
  case atStart => exact ⟨0, xs, Nat.zero_le _, rfl, rfl, HU, hide HR0.out, HB1⟩
  case round =>
    obtain ⟨k, xk, hk, rfl, hxk, hO, hF, hB⟩ := hrel
    have hsz := hB.out.size
    by_cases hlt : k < l.length
    · obtain ⟨a, ha⟩ : ∃ a, l[k]? = some a := ⟨_, List.getElem?_eq_getElem hlt⟩
      obtain ⟨b, o, rfl, hb, hc⟩ := HA.out k a ha
      obtain ⟨c0, c1, c2, c3, c4, c5⟩ := ac_cells hc
      have d0 := (hB.out.cell (p := ⟨b, o + k * 6, none⟩) hb).trans c0
      have d1 := (hB.out.cell (p := ⟨b, o + k * 6 + 1, none⟩) hb).trans c1
      have d2 := (hB.out.cell (p := ⟨b, o + k * 6 + 2, none⟩) hb).trans c2
      have d3 := (hB.out.cell (p := ⟨b, o + k * 6 + 3, none⟩) hb).trans c3
      have d4 := (hB.out.cell (p := ⟨b, o + k * 6 + 4, none⟩) hb).trans c4
      have d5 := (hB.out.cell (p := ⟨b, o + k * 6 + 5, none⟩) hb).trans c5
      have hbz : b < wr.heap.size := by omega
      have hki : (k : Int) < (l.length : Int) := by omega
      have hk0 : (0 : Int) ≤ (k : Int) := by omega
      have hF' := hF.out
      rw [applyF_at ha] at hF'
      have hx' : (xs.length : Int) ≤ 1000000 := by omega
      clear hc c0 c1 c2 c3 c4 c5 ha
      by_cases b1 : a.at_ < 0
      · have e1 : decide (a.at_ < 0) = true := by simpa using b1
        rw [if_pos (show acBad xk a from Or.inl b1)] at hF'
        have HF := hide hF'
        clear hF' b1
        go_wp2
        go_quiet (fail)
        go_wp2
        go_ret2
        have hr : R = (xk, (k : Int)) := HF.out.symm
        rw [hr]
        have hBA := hB.out.alloc hsz (.cells #[.int .i64 a.tick, .int .i64 a.thread, .int .i64 a.kind, .int .i64 a.at_, .int .u64 a.old, .int .u64 a.now] 39)
        have hOA : WRow (wr.alloc (.cells #[.int .i64 a.tick, .int .i64 a.thread, .int .i64 a.kind, .int .i64 a.at_, .int .u64 a.old, .int .u64 a.now] 39)) _ _ _ := World.ownsRow.alloc hO.out _
        first
          | with_reducible exact ⟨_, rfl, wrow_sl (l := xk) hOA (by unfold maxLen; omega), hBA⟩
          | with_reducible exact ⟨_, rfl, wrow_sl (l := xk) (wrow_drewN hOA _) (by unfold maxLen; omega), below_drewN hBA _⟩
      · by_cases b2 : (xs.length : Int) ≤ a.at_
        · have e1 : decide (a.at_ < 0) = false := by simpa using b1
          have e2 : decide ((xs.length : Int) ≤ a.at_) = true := by simpa using b2
          rw [if_pos (show acBad xk a from Or.inr (Or.inl (by rw [hxk]; exact b2)))] at hF'
          have HF := hide hF'
          clear hF' b1 b2
          go_wp2
          go_quiet (fail)
          go_wp2
          go_ret2
          have hr : R = (xk, (k : Int)) := HF.out.symm
          rw [hr]
          have hBA := hB.out.alloc hsz (.cells #[.int .i64 a.tick, .int .i64 a.thread, .int .i64 a.kind, .int .i64 a.at_, .int .u64 a.old, .int .u64 a.now] 39)
          have hOA : WRow (wr.alloc (.cells #[.int .i64 a.tick, .int .i64 a.thread, .int .i64 a.kind, .int .i64 a.at_, .int .u64 a.old, .int .u64 a.now] 39)) _ _ _ := World.ownsRow.alloc hO.out _
          first
            | with_reducible exact ⟨_, rfl, wrow_sl (l := xk) hOA (by unfold maxLen; omega), hBA⟩
            | with_reducible exact ⟨_, rfl, wrow_sl (l := xk) (wrow_drewN hOA _) (by unfold maxLen; omega), below_drewN hBA _⟩
        · obtain ⟨j, hj⟩ : ∃ j : Nat, a.at_ = j := ⟨a.at_.toNat, by omega⟩
          have hjl : j < xs.length := by omega
          have HJ := hide hj
          rw [hj] at d3
          obtain ⟨y, hy⟩ : ∃ y, xk[j]? = some y := ⟨_, List.getElem?_eq_getElem (by omega)⟩
          obtain ⟨g, rfl, hgB, hgz⟩ := wrow_some hO.out (by omega)
          have cj := wrow_cell hO.out hy
          have fj := wrow_frozen hO.out j
          have e2 : decide (xs.length ≤ j) = false := by simpa using hjl
          have hji : (j : Int) < (xs.length : Int) := by omega
          have hj0 : (0 : Int) ≤ (j : Int) := by omega
          have hne1 : ¬ g = wr.heap.size := by omega
          have hne2 : ¬ wr.heap.size = g := by omega
          have htn : a.at_.toNat = j := by omega
          have hb3 : acBad xk a ↔ (y ≠ a.old ∨ (a.kind = 0 ∧ a.now ≠ a.old)) := by
            unfold acBad
            rw [htn, hy, hxk]
            constructor
            · rintro (h | h | h | h)
              · exact absurd h b1
              · exact absurd h b2
              · exact Or.inl (fun e => h (by rw [e]))
              · exact Or.inr h
            · rintro (h | h)
              · exact Or.inr (Or.inr (Or.inl (fun e => h (Option.some.inj e))))
              · exact Or.inr (Or.inr (Or.inr h))
          rw [htn] at hF'
          clear hj b1 b2 hy htn
          by_cases b3 : y = a.old
          · have e3 : (y != a.old) = false := by simp [b3]
            by_cases b4 : a.kind = 0
            · have e4 : (a.kind == 0) = true := by simp [b4]
              by_cases b5 : a.now = a.old
              · have e5 : (a.now != a.old) = false := by simp [b5]
                rw [if_neg (fun h => by rcases hb3.1 h with h | h; exact h b3; exact h.2 b5)] at hF'
                have HF := hide hF'
                clear hF' hb3 b3 b4 b5
                go_wp2
                obtain ⟨wi, hwi⟩ : ∃ wi, wi = wr.alloc (.cells #[.int .i64 a.tick, .int .i64 a.thread, .int .i64 a.kind, .int .i64 (j : Int), .int .u64 a.old, .int .u64 a.now] 39) := ⟨_, rfl⟩
                rw [← hwi]
                have hmi : wi.heap[wr.heap.size]? = some (.cells #[.int .i64 a.tick, .int .i64 a.thread, .int .i64 a.kind, .int .i64 (j : Int), .int .u64 a.old, .int .u64 a.now] 39 (0, 0)) := by rw [hwi]; exact heap_alloc_new _ _
                have m2 : wi.cell? ⟨wr.heap.size, 2, none⟩ = some (.int .i64 a.kind) := cell_of_row _ _ 2 _ _ _ hmi
                have m3 : wi.cell? ⟨wr.heap.size, 3, none⟩ = some (.int .i64 (j : Int)) := cell_of_row _ _ 3 _ _ _ hmi
                have m4 : wi.cell? ⟨wr.heap.size, 4, none⟩ = some (.int .u64 a.old) := cell_of_row _ _ 4 _ _ _ hmi
                have m5 : wi.cell? ⟨wr.heap.size, 5, none⟩ = some (.int .u64 a.now) := cell_of_row _ _ 5 _ _ _ hmi
                have zi : wr.heap.size < wi.heap.size := (Array.getElem?_eq_some_iff.1 hmi).1
                have zg : g < wi.heap.size := by omega
                have mj : wi.cell? ⟨g, j, none⟩ = some (.int .u64 y) := by rw [hwi]; exact (World.cell?_of_block (a := ⟨g, j, none⟩) (Below.heap_alloc _ _ _ hgz)).trans cj
                have mf : wi.frozen? ⟨g, j, none⟩ = false := by rw [hwi]; exact (World.frozen?_of_block (a := ⟨g, j, none⟩) (Below.heap_alloc _ _ _ hgz)).trans fj
                have hBA : Below w.heap.size w wi := by rw [hwi]; exact hB.out.alloc hsz _
                have hOA : WRow wi w.heap.size (.slice (some ⟨g, 0, none⟩) xs.length cu) xk := by rw [hwi]; exact World.ownsRow.alloc hO.out _
                have HBA := hide hBA
                have HOA := hide hOA
                clear hwi hmi hBA hOA d0 d1 d2 d3 d4 d5 cj fj
                refine wp_region_seq (fun w' => Below wi.heap.size wi w') (.take 0 <| .take 1 <| .take 2 <| .take 3 <| .take 4 <| .take 5 <| .take 6 <| .take 7 <| .take 8 <| .take 9 <| .take 10 <| .take 11 <| .take 12 <| .take 13 <| .take 14 <| .take 15 <| .take 16 <| .take 17 <| .take 18 <| .take 19 <| .take 20 <| .take 21 <| .take 22 <| .take 23 <| .take 24 <| .take 25 <| .take 26 <| .take 27 <| .take 28 <| .take 29 <| .take 30 <| .take 31 <| .done) (by kernel_rfl) (by kernel_rfl) (by kernel_rfl) (Below.refl _ _).drew ?_
                repeat (first | (refine seq_take (v := ?_) rfl (by rfl) ?_ ?_; rotate_left; (focus (intro wS hS; replace hS := bcellc hS; go_simp; exact rfl)); simp only [Act.put, List.setIfInBounds_toArray, List.set_cons_zero, List.set_cons_succ]) | (refine seq_skip rfl (by rfl) ?_; simp only [Act.put, List.setIfInBounds_toArray, List.set_cons_zero, List.set_cons_succ]) | (refine seq_pass rfl (by rfl) (by assumption) ?_; simp only [Act.put, List.setIfInBounds_toArray, List.set_cons_zero, List.set_cons_succ]))
                refine seq_nil ?_
                go_wp2
                go_roundw
                case rel =>
                  exact ⟨k + 1, xk.set j a.now, by omega, by go_num, by rw [List.length_set]; exact hxk, hide (wrow_set (w := wi.drew) HOA.out hxk j a.now), hide HF.out, hide (HBA.out.drew.setCell (p := ⟨g, j, none⟩) hgB (.int .u64 a.now))⟩
                case measure => first | (simp [intOf]; done) | (simp [intOf]; omega)
              · have e5 : (a.now != a.old) = true := by simp [b5]
                rw [if_pos (hb3.2 (Or.inr ⟨b4, b5⟩))] at hF'
                have HF := hide hF'
                clear hF' hb3 b3 b4 b5
                go_wp2
                obtain ⟨wi, hwi⟩ : ∃ wi, wi = wr.alloc (.cells #[.int .i64 a.tick, .int .i64 a.thread, .int .i64 a.kind, .int .i64 (j : Int), .int .u64 a.old, .int .u64 a.now] 39) := ⟨_, rfl⟩
                rw [← hwi]
                have hmi : wi.heap[wr.heap.size]? = some (.cells #[.int .i64 a.tick, .int .i64 a.thread, .int .i64 a.kind, .int .i64 (j : Int), .int .u64 a.old, .int .u64 a.now] 39 (0, 0)) := by rw [hwi]; exact heap_alloc_new _ _
                have m2 : wi.cell? ⟨wr.heap.size, 2, none⟩ = some (.int .i64 a.kind) := cell_of_row _ _ 2 _ _ _ hmi
                have m3 : wi.cell? ⟨wr.heap.size, 3, none⟩ = some (.int .i64 (j : Int)) := cell_of_row _ _ 3 _ _ _ hmi
                have m4 : wi.cell? ⟨wr.heap.size, 4, none⟩ = some (.int .u64 a.old) := cell_of_row _ _ 4 _ _ _ hmi
                have m5 : wi.cell? ⟨wr.heap.size, 5, none⟩ = some (.int .u64 a.now) := cell_of_row _ _ 5 _ _ _ hmi
                have zi : wr.heap.size < wi.heap.size := (Array.getElem?_eq_some_iff.1 hmi).1
                have zg : g < wi.heap.size := by omega
                have mj : wi.cell? ⟨g, j, none⟩ = some (.int .u64 y) := by rw [hwi]; exact (World.cell?_of_block (a := ⟨g, j, none⟩) (Below.heap_alloc _ _ _ hgz)).trans cj
                have mf : wi.frozen? ⟨g, j, none⟩ = false := by rw [hwi]; exact (World.frozen?_of_block (a := ⟨g, j, none⟩) (Below.heap_alloc _ _ _ hgz)).trans fj
                have hBA : Below w.heap.size w wi := by rw [hwi]; exact hB.out.alloc hsz _
                have hOA : WRow wi w.heap.size (.slice (some ⟨g, 0, none⟩) xs.length cu) xk := by rw [hwi]; exact World.ownsRow.alloc hO.out _
                have HBA := hide hBA
                have HOA := hide hOA
                clear hwi hmi hBA hOA d0 d1 d2 d3 d4 d5 cj fj
                refine wp_region_seq (fun w' => Below wi.heap.size wi w') (.take 0 <| .take 1 <| .take 2 <| .take 3 <| .take 4 <| .take 5 <| .take 6 <| .take 7 <| .take 8 <| .take 9 <| .take 10 <| .take 11 <| .take 12 <| .take 13 <| .take 14 <| .take 15 <| .take 16 <| .take 17 <| .take 18 <| .take 19 <| .take 20 <| .take 21 <| .take 22 <| .take 23 <| .take 24 <| .take 25 <| .take 26 <| .take 27 <| .take 28 <| .take 29 <| .take 30 <| .take 31 <| .done) (by kernel_rfl) (by kernel_rfl) (by kernel_rfl) (Below.refl _ _).drew ?_
                repeat (first | (refine seq_take (v := ?_) rfl (by rfl) ?_ ?_; rotate_left; (focus (intro wS hS; replace hS := bcellc hS; go_simp; exact rfl)); simp only [Act.put, List.setIfInBounds_toArray, List.set_cons_zero, List.set_cons_succ]) | (refine seq_skip rfl (by rfl) ?_; simp only [Act.put, List.setIfInBounds_toArray, List.set_cons_zero, List.set_cons_succ]) | (refine seq_pass rfl (by rfl) (by assumption) ?_; simp only [Act.put, List.setIfInBounds_toArray, List.set_cons_zero, List.set_cons_succ]))
                refine seq_nil ?_
                go_wp2
                go_ret2
                have hr : R = (xk, (k : Int)) := HF.out.symm
                rw [hr]
                exact ⟨_, rfl, wrow_sl (l := xk) (w := wi.drew) HOA.out (by unfold maxLen; omega), HBA.out.drew⟩
            · have e4 : (a.kind == 0) = false := by simp [b4]
              rw [if_neg (fun h => by rcases hb3.1 h with h | h; exact h b3; exact b4 h.1)] at hF'
              have HF := hide hF'
              clear hF' hb3 b3 b4
              go_wp2
              obtain ⟨wi, hwi⟩ : ∃ wi, wi = wr.alloc (.cells #[.int .i64 a.tick, .int .i64 a.thread, .int .i64 a.kind, .int .i64 (j : Int), .int .u64 a.old, .int .u64 a.now] 39) := ⟨_, rfl⟩
              rw [← hwi]
              have hmi : wi.heap[wr.heap.size]? = some (.cells #[.int .i64 a.tick, .int .i64 a.thread, .int .i64 a.kind, .int .i64 (j : Int), .int .u64 a.old, .int .u64 a.now] 39 (0, 0)) := by rw [hwi]; exact heap_alloc_new _ _
              have m2 : wi.cell? ⟨wr.heap.size, 2, none⟩ = some (.int .i64 a.kind) := cell_of_row _ _ 2 _ _ _ hmi
              have m3 : wi.cell? ⟨wr.heap.size, 3, none⟩ = some (.int .i64 (j : Int)) := cell_of_row _ _ 3 _ _ _ hmi
              have m4 : wi.cell? ⟨wr.heap.size, 4, none⟩ = some (.int .u64 a.old) := cell_of_row _ _ 4 _ _ _ hmi
              have m5 : wi.cell? ⟨wr.heap.size, 5, none⟩ = some (.int .u64 a.now) := cell_of_row _ _ 5 _ _ _ hmi
              have zi : wr.heap.size < wi.heap.size := (Array.getElem?_eq_some_iff.1 hmi).1
              have zg : g < wi.heap.size := by omega
              have mj : wi.cell? ⟨g, j, none⟩ = some (.int .u64 y) := by rw [hwi]; exact (World.cell?_of_block (a := ⟨g, j, none⟩) (Below.heap_alloc _ _ _ hgz)).trans cj
              have mf : wi.frozen? ⟨g, j, none⟩ = false := by rw [hwi]; exact (World.frozen?_of_block (a := ⟨g, j, none⟩) (Below.heap_alloc _ _ _ hgz)).trans fj
              have hBA : Below w.heap.size w wi := by rw [hwi]; exact hB.out.alloc hsz _
              have hOA : WRow wi w.heap.size (.slice (some ⟨g, 0, none⟩) xs.length cu) xk := by rw [hwi]; exact World.ownsRow.alloc hO.out _
              have HBA := hide hBA
              have HOA := hide hOA
              clear hwi hmi hBA hOA d0 d1 d2 d3 d4 d5 cj fj
              refine wp_region_seq (fun w' => Below wi.heap.size wi w') (.take 0 <| .take 1 <| .take 2 <| .take 3 <| .take 4 <| .take 5 <| .take 6 <| .take 7 <| .take 8 <| .take 9 <| .take 10 <| .take 11 <| .take 12 <| .take 13 <| .take 14 <| .take 15 <| .take 16 <| .take 17 <| .take 18 <| .take 19 <| .take 20 <| .take 21 <| .take 22 <| .take 23 <| .take 24 <| .take 25 <| .take 26 <| .take 27 <| .take 28 <| .take 29 <| .take 30 <| .take 31 <| .done) (by kernel_rfl) (by kernel_rfl) (by kernel_rfl) (Below.refl _ _).drew ?_
              repeat (first | (refine seq_take (v := ?_) rfl (by rfl) ?_ ?_; rotate_left; (focus (intro wS hS; replace hS := bcellc hS; go_simp; exact rfl)); simp only [Act.put, List.setIfInBounds_toArray, List.set_cons_zero, List.set_cons_succ]) | (refine seq_skip rfl (by rfl) ?_; simp only [Act.put, List.setIfInBounds_toArray, List.set_cons_zero, List.set_cons_succ]) | (refine seq_pass rfl (by rfl) (by assumption) ?_; simp only [Act.put, List.setIfInBounds_toArray, List.set_cons_zero, List.set_cons_succ]))
              refine seq_nil ?_
              go_wp2
              go_roundw
              case rel =>
                exact ⟨k + 1, xk.set j a.now, by omega, by go_num, by rw [List.length_set]; exact hxk, hide (wrow_set (w := wi.drew) HOA.out hxk j a.now), hide HF.out, hide (HBA.out.drew.setCell (p := ⟨g, j, none⟩) hgB (.int .u64 a.now))⟩
              case measure => first | (simp [intOf]; done) | (simp [intOf]; omega)
          · have e3 : (y != a.old) = true := by simp [b3]
            rw [if_pos (hb3.2 (Or.inl b3))] at hF'
            have HF := hide hF'
            clear hF' hb3 b3
            go_wp2
            obtain ⟨wi, hwi⟩ : ∃ wi, wi = wr.alloc (.cells #[.int .i64 a.tick, .int .i64 a.thread, .int .i64 a.kind, .int .i64 (j : Int), .int .u64 a.old, .int .u64 a.now] 39) := ⟨_, rfl⟩
            rw [← hwi]
            have hmi : wi.heap[wr.heap.size]? = some (.cells #[.int .i64 a.tick, .int .i64 a.thread, .int .i64 a.kind, .int .i64 (j : Int), .int .u64 a.old, .int .u64 a.now] 39 (0, 0)) := by rw [hwi]; exact heap_alloc_new _ _
            have m2 : wi.cell? ⟨wr.heap.size, 2, none⟩ = some (.int .i64 a.kind) := cell_of_row _ _ 2 _ _ _ hmi
            have m3 : wi.cell? ⟨wr.heap.size, 3, none⟩ = some (.int .i64 (j : Int)) := cell_of_row _ _ 3 _ _ _ hmi
            have m4 : wi.cell? ⟨wr.heap.size, 4, none⟩ = some (.int .u64 a.old) := cell_of_row _ _ 4 _ _ _ hmi
            have m5 : wi.cell? ⟨wr.heap.size, 5, none⟩ = some (.int .u64 a.now) := cell_of_row _ _ 5 _ _ _ hmi
            have zi : wr.heap.size < wi.heap.size := (Array.getElem?_eq_some_iff.1 hmi).1
            have zg : g < wi.heap.size := by omega
            have mj : wi.cell? ⟨g, j, none⟩ = some (.int .u64 y) := by rw [hwi]; exact (World.cell?_of_block (a := ⟨g, j, none⟩) (Below.heap_alloc _ _ _ hgz)).trans cj
            have mf : wi.frozen? ⟨g, j, none⟩ = false := by rw [hwi]; exact (World.frozen?_of_block (a := ⟨g, j, none⟩) (Below.heap_alloc _ _ _ hgz)).trans fj
            have hBA : Below w.heap.size w wi := by rw [hwi]; exact hB.out.alloc hsz _
            have hOA : WRow wi w.heap.size (.slice (some ⟨g, 0, none⟩) xs.length cu) xk := by rw [hwi]; exact World.ownsRow.alloc hO.out _
            have HBA := hide hBA
            have HOA := hide hOA
            clear hwi hmi hBA hOA d0 d1 d2 d3 d4 d5 cj fj
            refine wp_region_seq (fun w' => Below wi.heap.size wi w') (.take 0 <| .take 1 <| .take 2 <| .take 3 <| .take 4 <| .take 5 <| .take 6 <| .take 7 <| .take 8 <| .take 9 <| .take 10 <| .take 11 <| .take 12 <| .take 13 <| .take 14 <| .take 15 <| .take 16 <| .take 17 <| .take 18 <| .take 19 <| .take 20 <| .take 21 <| .take 22 <| .take 23 <| .take 24 <| .take 25 <| .take 26 <| .take 27 <| .take 28 <| .take 29 <| .take 30 <| .take 31 <| .done) (by kernel_rfl) (by kernel_rfl) (by kernel_rfl) (Below.refl _ _).drew ?_
            repeat (first | (refine seq_take (v := ?_) rfl (by rfl) ?_ ?_; rotate_left; (focus (intro wS hS; replace hS := bcellc hS; go_simp; exact rfl)); simp only [Act.put, List.setIfInBounds_toArray, List.set_cons_zero, List.set_cons_succ]) | (refine seq_skip rfl (by rfl) ?_; simp only [Act.put, List.setIfInBounds_toArray, List.set_cons_zero, List.set_cons_succ]) | (refine seq_pass rfl (by rfl) (by assumption) ?_; simp only [Act.put, List.setIfInBounds_toArray, List.set_cons_zero, List.set_cons_succ]))
            refine seq_nil ?_
            go_wp2
            go_ret2
            have hr : R = (xk, (k : Int)) := HF.out.symm
            rw [hr]
            exact ⟨_, rfl, wrow_sl (l := xk) (w := wi.drew) HOA.out (by unfold maxLen; omega), HBA.out.drew⟩
    · obtain rfl : k = l.length := by omega
      have hF' := hF.out
      rw [List.drop_length] at hF'
      have HF := hide hF'
      clear hF'
      go_wp2
      go_ret2
      have hr : R = (xk, -1) := HF.out.symm
      rw [hr]
      exact ⟨_, rfl, wrow_sl (l := xk) hO.out (by unfold maxLen; omega), hB.out⟩
end Go.Proofs.YtfghmlpjbedomaaGreat
