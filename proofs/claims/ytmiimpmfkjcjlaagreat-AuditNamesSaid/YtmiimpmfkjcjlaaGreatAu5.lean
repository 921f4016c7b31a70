/- Audit of nothing: its answers, its counts, slices.Clip of its flaws. -/
import Derived.Test.YtmiimpmfkjcjlaaGreatAu4
namespace Go.Proofs.YtmiimpmfkjcjlaaGreat
open Go.RowKit
attribute [local go_sem] run_store_fn run_store_nilfn

set_option maxRecDepth 100000 in
set_option maxHeartbeats 1000000 in
theorem answers0 (T : Int) (b : Nat) (F : Value) (w : World) (h : RepAt w b T F) : Calls Tryz.prog 111 #[.pointer (some ⟨b, 0, none⟩)] w fun e w' => e = .returned (.tuple #[]) ∧ Below w.heap.size w w' := by
  have N0 := fun W => linAhead0 W
  have N1 := fun k i b W => flaw_no k i b W
  have N2 := fun W => linWrong0 W
  obtain ⟨a0, a1, a2, a3, _, _, _, _, _, _, _, _, _, _, hb⟩ := h.cells
  have HR := hide h
  clear h
  go_enter Tryz.func111, Tryz.ntmps111
  go_wp2_with fail
  refine (N0 _).mono ?_
  rintro e w1 ⟨rfl, hb1⟩
  have HB1 := hide hb1
  clear hb1
  go_wp2_with fail
  refine (N1 _ _ _ _).mono ?_
  rintro e w2 ⟨rfl, hb2⟩
  replace HB1 := hide (HB1.out.trans (hb2.mono HB1.out.size))
  have hb1 : b < w2.heap.size := by have := HB1.out.size; omega
  replace a0 := (HB1.out.cell (p := ⟨b, 0, none⟩) hb).trans a0
  replace a1 := (HB1.out.cell (p := ⟨b, 1, none⟩) hb).trans a1
  replace a2 := (HB1.out.cell (p := ⟨b, 2, none⟩) hb).trans a2
  replace a3 := (HB1.out.cell (p := ⟨b, 3, none⟩) hb).trans a3
  clear hb2
  go_wp2_with fail
  refine wp_region_seq (Below w2.heap.size w2) (.take 0 <| .take 1 <| .take 2 <| .take 3 <| .take 4 <| .take 5 <| .take 6 <| .take 7 <| .take 8 <| .take 9 <| .take 10 <| .take 11 <| .take 12 <| .take 13 <| .take 14 <| .take 15 <| .take 16 <| .run 17 <| .take 18 <| .take 19 <| .take 20 <| .take 21 <| .take 22 <| .done) (by kernel_rfl) (by kernel_rfl) (by kernel_rfl) (by (repeat' (first | exact Below.refl _ _ | assumption | refine Below.drew ?_ | refine below_drewN ?_ _ | refine Below.alloc ?_ (by simp <;> omega) _ | refine Below.setCell ?_ (by simp <;> omega) _))) ?_
  repeat (refine seq_take (v := ?_) rfl (by rfl) ?_ ?_; rotate_left; (focus (intro wS hS; have z0 := (hS.cell (p := ⟨b, 0, none⟩) hb1).trans a0; have z1 := (hS.cell (p := ⟨b, 1, none⟩) hb1).trans a1; have z2 := (hS.cell (p := ⟨b, 2, none⟩) hb1).trans a2; have z3 := (hS.cell (p := ⟨b, 3, none⟩) hb1).trans a3; go_simp; exact rfl)); simp only [Act.put, List.setIfInBounds_toArray, List.set_cons_zero, List.set_cons_succ])
  refine seq_run rfl (by rfl) (fun K hK => ?_)
  go_simp
  refine (N2 _).mono ?_
  rintro e w3 ⟨rfl, hb3⟩
  have hB3 : Below w2.heap.size w2 w3 := by first | exact hb3 | exact (Below.refl _ _).drew.trans (hb3.mono (by simp))
  refine hK _ _ hB3 ?_
  clear hK K hb3
  repeat (refine seq_take (v := ?_) rfl (by rfl) ?_ ?_; rotate_left; (focus (intro wS hS; have z0 := (hS.cell (p := ⟨b, 0, none⟩) hb1).trans a0; have z1 := (hS.cell (p := ⟨b, 1, none⟩) hb1).trans a1; have z2 := (hS.cell (p := ⟨b, 2, none⟩) hb1).trans a2; have z3 := (hS.cell (p := ⟨b, 3, none⟩) hb1).trans a3; go_simp; exact rfl)); simp only [Act.put, List.setIfInBounds_toArray, List.set_cons_zero, List.set_cons_succ])
  refine seq_nil ?_
  go_wp2
  go_end0
  exact ⟨rfl, HB1.out.trans (hB3.mono HB1.out.size)⟩
set_option maxRecDepth 100000 in
theorem clip0 (A : Option Addr) (c n : Nat) (w : World) (h : n ≤ c) (_hc : c ≤ maxLen) : Calls Tryz.prog 113 #[.slice A n c] w fun e w' => e = .returned (.slice A n n) ∧ w' = w := by
  go_enter Tryz.func113, Tryz.ntmps113
  go_wp2
  go_ret
  exact ⟨rfl, rfl⟩
set_option maxRecDepth 100000 in
set_option maxHeartbeats 1000000 in
theorem counts1 (b : Nat) (w : World) (h : RepAt w b 1 (.slice none 0 0)) : Calls Tryz.prog 112 #[.pointer (some ⟨b, 0, none⟩)] w fun e w' => e = .returned (.tuple #[]) ∧ ∃ v, RepAt w' b 1 v ∧ w'.ownsRow w.heap.size 126 2 v 1 [.int .i64 7, .int .i64 (-1)] ∧ Keep (fun j => j < w.heap.size ∧ j ≠ b) w w' := by
  obtain ⟨a0, a1, a2, a3, a4, a5, a6, a7, a8, a9, a10, a11, a12, f12, hb⟩ := h.cells
  have HR := hide h
  have N1 := fun k i b W => flaw_no k i b W
  clear h
  go_enter Tryz.func112, Tryz.ntmps112
  go_wp2
  go_loopw [2, 3, 22] (fun x y i wr => x = .int .i64 1 ∧ y = .bool false ∧ i = .int .i64 0 ∧ wr = w) (fun _ _ _ _ => 0)
  case atStart => exact ⟨rfl, rfl, rfl, rfl⟩
  case round =>
    obtain ⟨rfl, rfl, rfl, rfl⟩ := hrel
    go_wp2_with fail
    refine (flaw_yes 1 b _ HR.out).mono ?_
    rintro e w1 ⟨rfl, v1, hR1, hO1, hk1⟩
    have HR1 := hide hR1
    have HO1 := hide hO1
    have HK1 := hide hk1
    clear hR1 hO1 hk1 HR a0 a1 a2 a3 a4 a5 a6 a7 a8 a9 a10 a11 a12 f12
    obtain ⟨c0, c1, c2, c3, c4, c5, c6, c7, c8, c9, c10, c11, c12, g12, hbz⟩ := HR1.out.cells
    clear c0 c1 c2 c3 c4 c11 c12 g12
    go_wp2
    go_loopw [7, 8, 70] (fun x y i wr => x = .int .i64 1 ∧ y = .bool false ∧ (i = .int .i64 0 ∨ i = .int .i64 1 ∨ i = .int .i64 2 ∨ i = .int .i64 3 ∨ i = .int .i64 4) ∧ Hid (Below w1.heap.size w1 wr) ∧ wr.cell? ⟨w1.heap.size + 1, 0, none⟩ = some (.int .i64 0) ∧ wr.cell? ⟨w1.heap.size + 1, 1, none⟩ = some (.int .i64 0) ∧ wr.cell? ⟨w1.heap.size + 1, 2, none⟩ = some (.int .i64 0) ∧ wr.cell? ⟨w1.heap.size + 1, 3, none⟩ = some (.int .i64 0)) (fun _ _ i _ => 4 - (intOf i).toNat)
    case atStart => exact ⟨rfl, rfl, Or.inl rfl, hide (((Below.refl _ w1).alloc (Nat.le_refl _) _).alloc (by simp) _), by go_simp, by go_simp, by go_simp, by go_simp⟩
    case round =>
      obtain ⟨rfl, rfl, hi, hb2, q0, q1, q2, q3⟩ := hrel
      rcases hi with rfl | rfl | rfl | rfl | rfl
      iterate 4
        · go_wp2
          go_roundw
          case rel => exact ⟨rfl, rfl, by simp, hb2, q0, q1, q2, q3⟩
          case measure => decide
      · go_wp2_with fail
        refine (N1 _ _ _ _).mono ?_
        rintro e w2 ⟨rfl, hb3⟩
        have hB2 : Below w1.heap.size w1 w2 := hb2.out.trans (hb3.mono hb2.out.size)
        have HB2 := hide hB2
        clear hB2 hb3 hb2 q0 q1 q2 q3
        go_wp2
        go_end0
        refine ⟨rfl, v1, HR1.out.of_block (HB2.out.block b hbz), owns_keepB HO1.out (Keep.of_below (K := fun j => j < w1.heap.size) HB2.out (fun k hk => hk)) (fun j _ hl => hl), HK1.out.trans (Keep.of_below HB2.out (fun k hk => ?_))⟩
        exact Nat.lt_of_lt_of_le hk.1 HK1.out.size
set_option maxRecDepth 100000 in
set_option maxHeartbeats 1000000 in
theorem counts0 (b : Nat) (F : Value) (w : World) (h : RepAt w b 0 F) : Calls Tryz.prog 112 #[.pointer (some ⟨b, 0, none⟩)] w fun e w' => e = .returned (.tuple #[]) ∧ Below w.heap.size w w' := by
  obtain ⟨a0, a1, a2, a3, a4, a5, a6, a7, a8, a9, a10, a11, a12, f12, hb⟩ := h.cells
  have HR := hide h
  have N1 := fun k i b W => flaw_no k i b W
  clear h
  go_enter Tryz.func112, Tryz.ntmps112
  go_wp2
  go_loopw [2, 3, 22] (fun x y i wr => x = .int .i64 0 ∧ y = .bool false ∧ i = .int .i64 0 ∧ wr = w) (fun _ _ _ _ => 0)
  case atStart => exact ⟨rfl, rfl, rfl, rfl⟩
  case round =>
    obtain ⟨rfl, rfl, rfl, rfl⟩ := hrel
    go_wp2_with fail
    refine (N1 _ _ _ _).mono ?_
    rintro e w1 ⟨rfl, hb1⟩
    have HR1 := hide (HR.out.of_block (hb1.block b hb))
    have HB1 := hide hb1
    clear HR hb1 a0 a1 a2 a3 a4 a5 a6 a7 a8 a9 a10 a11 a12 f12
    obtain ⟨c0, c1, c2, c3, c4, c5, c6, c7, c8, c9, c10, c11, c12, g12, hbz⟩ := HR1.out.cells
    clear c0 c1 c2 c3 c4 c11 c12 g12
    go_wp2
    go_loopw [7, 8, 70] (fun x y i wr => x = .int .i64 0 ∧ y = .bool false ∧ (i = .int .i64 0 ∨ i = .int .i64 1 ∨ i = .int .i64 2 ∨ i = .int .i64 3 ∨ i = .int .i64 4) ∧ Hid (Below w1.heap.size w1 wr) ∧ wr.cell? ⟨w1.heap.size + 1, 0, none⟩ = some (.int .i64 0) ∧ wr.cell? ⟨w1.heap.size + 1, 1, none⟩ = some (.int .i64 0) ∧ wr.cell? ⟨w1.heap.size + 1, 2, none⟩ = some (.int .i64 0) ∧ wr.cell? ⟨w1.heap.size + 1, 3, none⟩ = some (.int .i64 0)) (fun _ _ i _ => 4 - (intOf i).toNat)
    case atStart => exact ⟨rfl, rfl, Or.inl rfl, hide (((Below.refl _ w1).alloc (Nat.le_refl _) _).alloc (by simp) _), by go_simp, by go_simp, by go_simp, by go_simp⟩
    case round =>
      obtain ⟨rfl, rfl, hi, hb2, q0, q1, q2, q3⟩ := hrel
      rcases hi with rfl | rfl | rfl | rfl | rfl
      iterate 4
        · go_wp2
          go_roundw
          case rel => exact ⟨rfl, rfl, by simp, hb2, q0, q1, q2, q3⟩
          case measure => decide
      · go_wp2_with fail
        refine (N1 _ _ _ _).mono ?_
        rintro e w2 ⟨rfl, hb3⟩
        have hB2 : Below w1.heap.size w1 w2 := hb2.out.trans (hb3.mono hb2.out.size)
        have HB2 := hide hB2
        clear hB2 hb3 hb2 q0 q1 q2 q3
        go_wp2
        go_end0
        exact ⟨rfl, HB1.out.trans (HB2.out.mono HB1.out.size)⟩
end Go.Proofs.YtmiimpmfkjcjlaaGreat
