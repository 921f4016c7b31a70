/- Audit of nothing: Check; the law's tick. -/
import Derived.Test.YtmiimpmfkjcjlaaGreatAu5
import Derived.Test.YtmiimpmfkjcjlaaGreatAu1
namespace Go.Proofs.YtmiimpmfkjcjlaaGreat
open Go.RowKit
attribute [local go_sem] run_store_fn run_store_nilfn

theorem own_two {w : World} {B : Nat} {e : TypeId} {v x y : Value} (h : w.ownsRow B e 2 v 1 [x, y]) : ∃ g c, v = .slice (some ⟨g, 0, none⟩) 1 c ∧ 1 ≤ c ∧ c ≤ maxLen ∧ w.cell? ⟨g, 0, none⟩ = some x ∧ w.cell? ⟨g, 1, none⟩ = some y ∧ g < w.heap.size := by
  rcases h.2 with ⟨_, h0⟩ | ⟨g, cap, cur, rfl, _, hg, hnc, hcm, _, htake⟩
  · cases h0
  · have hc : ∀ j, j < 2 → cur[j]? = [x, y][j]? := by
      intro j hj
      rw [← htake]
      rw [List.getElem?_take, if_pos (by omega)]
      simp
    refine ⟨g, cap, rfl, hnc, hcm, ?_, ?_, (Array.getElem?_eq_some_iff.1 hg).1⟩
    · exact cell_of_row w g 0 _ _ _ hg |>.trans (hc 0 (by omega))
    · exact cell_of_row w g 1 _ _ _ hg |>.trans (hc 1 (by omega))
abbrev repV (T : Int) : Value := .agg #[.slice none 0 0, .slice none 0 0, .int .i64 0, .int .i64 0, .int .i64 0, .int .i64 0, .int .i64 0, .int .i64 T, .int .i64 0]
set_option maxRecDepth 100000 in
set_option maxHeartbeats 1000000 in
theorem check1 (w : World) : Calls Tryz.prog 69 #[.int .i64 1, .slice none 0 0, .slice none 0 0, repV 1] w fun e w' => ∃ g, e = .returned (.slice (some ⟨g, 0, none⟩) 1 1) ∧ w'.cell? ⟨g, 0, none⟩ = some (.int .i64 7) ∧ w'.cell? ⟨g, 1, none⟩ = some (.int .i64 (-1)) ∧ g < w'.heap.size ∧ Below w.heap.size w w' := by
  have N0 := fun W => lay0 W
  have N1 := fun t W => histRight0 t W
  go_enter Tryz.func69, Tryz.ntmps69
  go_wp2_with fail
  refine (N0 _).mono ?_
  rintro e w1 ⟨u, rfl, hb1⟩
  have hbx : Below (w.heap.size + 2) _ w1 := hb1.mono (by simp)
  have hR1 : RepAt w1 (w.heap.size + 1) 1 (.slice none 0 0) := by
    refine (hbx.block (w.heap.size + 1) (by omega)).trans ?_
    have hs : ∀ o, (w.alloc o).heap.size = w.heap.size + 1 := fun o => by simp
    have h := heap_alloc_new (w.alloc (.cells #[.slice none 0 0, .slice none 0 0, .int .i64 0, .int .i64 0, .int .i64 0, .int .i64 0, .int .i64 0, .int .i64 1, .int .i64 0] 70)) (.cells #[.int .i64 1, .slice none 0 0, .slice none 0 0, .slice none 0 0, .slice none 0 0, .int .i64 0, .int .i64 0, .int .i64 0, .int .i64 0, .int .i64 0, .int .i64 1, .int .i64 0, .slice none 0 0] 178)
    rw [hs] at h
    exact h
  have HB1 : Hid (Below w.heap.size w w1) := hide ((((Below.refl _ w).alloc (Nat.le_refl _) _).alloc (by simp) _).trans (hbx.mono (by omega)))
  have p0 : w1.cell? ⟨w.heap.size, 0, none⟩ = some (.slice none 0 0) := (hbx.cell (p := ⟨w.heap.size, 0, none⟩) (by show w.heap.size < _; omega)).trans (by go_simp)
  have p7 : w1.cell? ⟨w.heap.size, 7, none⟩ = some (.int .i64 1) := (hbx.cell (p := ⟨w.heap.size, 7, none⟩) (by show w.heap.size < _; omega)).trans (by go_simp)
  have hz1 : w.heap.size + 1 < w1.heap.size := by have := hbx.size; simp at this; omega
  have HR1 := hide hR1
  clear hb1 hbx N0 hR1
  go_wp2_with fail
  refine (N1 _ _).mono ?_
  rintro e w2 ⟨rfl, hb2⟩
  replace HR1 := hide (HR1.out.of_block (hb2.block _ hz1))
  replace HB1 := hide (HB1.out.trans (hb2.mono (by omega)))
  replace p0 := (hb2.cell (p := ⟨w.heap.size, 0, none⟩) (by show w.heap.size < _; omega)).trans p0
  have hz2 : w.heap.size + 1 < w2.heap.size := by have := hb2.size; omega
  clear hb2 p7
  go_wp2
  go_loopw [53] (fun i wr => i = .int .i64 0 ∧ wr = w2) (fun _ _ => 0)
  case atStart => exact ⟨rfl, rfl⟩
  case round =>
    obtain ⟨rfl, rfl⟩ := hrel
    go_wp2_with fail
    refine (answers0 1 _ _ _ HR1.out).mono ?_
    rintro e w3 ⟨rfl, hb3⟩
    replace HR1 := hide (HR1.out.of_block (hb3.block _ hz2))
    replace HB1 := hide (HB1.out.trans (hb3.mono (by omega)))
    have hz3 : w.heap.size + 1 < w3.heap.size := by have := hb3.size; omega
    clear hb3 p0
    go_wp2_with fail
    refine (counts1 _ _ HR1.out).mono ?_
    rintro e w4 ⟨rfl, v, hR4, hO4, hk4⟩
    obtain ⟨g, c, rfl, hc1, hc2, e0, e1, hg⟩ := own_two hO4
    obtain ⟨_, _, _, _, _, _, _, _, _, _, _, _, d12, _, dz⟩ := hR4.cells
    have HK := hide hk4
    have hz4 : w.heap.size + 1 < w4.heap.size := dz
    clear hR4 hk4 HR1 hO4
    go_wp2_with fail
    refine (clip0 _ _ _ _ hc1 hc2).mono ?_
    rintro e w5 ⟨rfl, rfl⟩
    go_wp2
    go_ret
    exact ⟨g, rfl, e0, e1, hg, HB1.out.trans (HK.out.below (fun k hk => ⟨by omega, by omega⟩))⟩
set_option maxRecDepth 100000 in
set_option maxHeartbeats 1000000 in
theorem check0 (w : World) : Calls Tryz.prog 69 #[.int .i64 1, .slice none 0 0, .slice none 0 0, repV 0] w fun e w' => e = .returned (.slice none 0 0) ∧ Below w.heap.size w w' := by
  have N0 := fun W => lay0 W
  have N1 := fun t W => histRight0 t W
  go_enter Tryz.func69, Tryz.ntmps69
  go_wp2_with fail
  refine (N0 _).mono ?_
  rintro e w1 ⟨u, rfl, hb1⟩
  have hbx : Below (w.heap.size + 2) _ w1 := hb1.mono (by simp)
  have hR1 : RepAt w1 (w.heap.size + 1) 0 (.slice none 0 0) := by
    refine (hbx.block (w.heap.size + 1) (by omega)).trans ?_
    have hs : ∀ o, (w.alloc o).heap.size = w.heap.size + 1 := fun o => by simp
    have h := heap_alloc_new (w.alloc (.cells #[.slice none 0 0, .slice none 0 0, .int .i64 0, .int .i64 0, .int .i64 0, .int .i64 0, .int .i64 0, .int .i64 0, .int .i64 0] 70)) (.cells #[.int .i64 1, .slice none 0 0, .slice none 0 0, .slice none 0 0, .slice none 0 0, .int .i64 0, .int .i64 0, .int .i64 0, .int .i64 0, .int .i64 0, .int .i64 0, .int .i64 0, .slice none 0 0] 178)
    rw [hs] at h
    exact h
  have HB1 : Hid (Below w.heap.size w w1) := hide ((((Below.refl _ w).alloc (Nat.le_refl _) _).alloc (by simp) _).trans (hbx.mono (by omega)))
  have p0 : w1.cell? ⟨w.heap.size, 0, none⟩ = some (.slice none 0 0) := (hbx.cell (p := ⟨w.heap.size, 0, none⟩) (by show w.heap.size < _; omega)).trans (by go_simp)
  have p7 : w1.cell? ⟨w.heap.size, 7, none⟩ = some (.int .i64 0) := (hbx.cell (p := ⟨w.heap.size, 7, none⟩) (by show w.heap.size < _; omega)).trans (by go_simp)
  have hz1 : w.heap.size + 1 < w1.heap.size := by have := hbx.size; simp at this; omega
  have HR1 := hide hR1
  clear hb1 hbx N0 hR1
  go_wp2_with fail
  refine (N1 _ _).mono ?_
  rintro e w2 ⟨rfl, hb2⟩
  replace HR1 := hide (HR1.out.of_block (hb2.block _ hz1))
  replace HB1 := hide (HB1.out.trans (hb2.mono (by omega)))
  replace p0 := (hb2.cell (p := ⟨w.heap.size, 0, none⟩) (by show w.heap.size < _; omega)).trans p0
  have hz2 : w.heap.size + 1 < w2.heap.size := by have := hb2.size; omega
  clear hb2 p7
  go_wp2
  go_loopw [53] (fun i wr => i = .int .i64 0 ∧ wr = w2) (fun _ _ => 0)
  case atStart => exact ⟨rfl, rfl⟩
  case round =>
    obtain ⟨rfl, rfl⟩ := hrel
    go_wp2_with fail
    refine (answers0 0 _ _ _ HR1.out).mono ?_
    rintro e w3 ⟨rfl, hb3⟩
    replace HR1 := hide (HR1.out.of_block (hb3.block _ hz2))
    replace HB1 := hide (HB1.out.trans (hb3.mono (by omega)))
    have hz3 : w.heap.size + 1 < w3.heap.size := by have := hb3.size; omega
    clear hb3 p0
    go_wp2_with fail
    refine (counts0 _ _ _ HR1.out).mono ?_
    rintro e w4 ⟨rfl, hb4⟩
    obtain ⟨_, _, _, _, _, _, _, _, _, _, _, _, d12, _, dz⟩ := (HR1.out.of_block (hb4.block _ hz3)).cells
    replace HB1 := hide (HB1.out.trans (hb4.mono (by omega)))
    clear hb4 HR1
    go_wp2_with fail
    refine (clip0 _ _ _ _ (Nat.le_refl _) (by decide)).mono ?_
    rintro e w5 ⟨rfl, rfl⟩
    go_wp2
    go_ret
    exact ⟨rfl, HB1.out⟩
set_option maxRecDepth 100000 in
set_option maxHeartbeats 1000000 in
theorem tick_any (w : World) : Calls Tryz.prog 35 #[] w fun e w' => e = .returned (.bool true) ∧ Below w.heap.size w w' := by
  have N1 : ∀ W, Calls Tryz.prog 69 #[.int .i64 1, .slice none 0 0, .slice none 0 0, .agg #[.slice none 0 0, .slice none 0 0, .int .i64 0, .int .i64 0, .int .i64 0, .int .i64 0, .int .i64 0, .int .i64 1, .int .i64 0]] W _ := fun W => check1 W
  have N0 : ∀ W, Calls Tryz.prog 69 #[.int .i64 1, .slice none 0 0, .slice none 0 0, .agg #[.slice none 0 0, .slice none 0 0, .int .i64 0, .int .i64 0, .int .i64 0, .int .i64 0, .int .i64 0, .int .i64 0, .int .i64 0]] W _ := fun W => check0 W
  have NN := fun W => name_any 7 W
  rw [show nameM 7 = #[115, 116, 101, 112, 115] from by decide] at NN
  go_enter Tryz.func35, Tryz.ntmps35
  go_wp2_with fail
  refine (N1 _).mono ?_
  rintro e w1 ⟨g, rfl, e0, e1, hg, hb1⟩
  have HB1 := hide hb1
  clear hb1
  go_wp2_with fail
  refine (N0 _).mono ?_
  rintro e w2 ⟨rfl, hb2⟩
  replace e0 := (hb2.cell (p := ⟨g, 0, none⟩) hg).trans e0
  replace e1 := (hb2.cell (p := ⟨g, 1, none⟩) hg).trans e1
  replace HB1 := hide (HB1.out.trans (hb2.mono HB1.out.size))
  clear hb2
  go_wp2_with fail
  refine (NN _).mono ?_
  rintro e w3 ⟨rfl, hb3⟩
  replace HB1 := hide (HB1.out.trans (hb3.mono HB1.out.size))
  clear hb3
  go_wp2
  go_ret
  exact ⟨ret_bool (by rfl), HB1.out⟩
end Go.Proofs.YtmiimpmfkjcjlaaGreat
