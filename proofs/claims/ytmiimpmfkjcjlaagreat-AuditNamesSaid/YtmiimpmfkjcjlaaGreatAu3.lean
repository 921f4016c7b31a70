/- Audit: a report's flaws (audit: flaw). -/
import Derived.Test.YtmiimpmfkjcjlaaGreatAu2
import Derived.Test.YtmiimpmfkjcjlaaGreatSeqL
import Derived.Test.YtmiimpmfkjcjlaaGreatOwn
namespace Go.Proofs.YtmiimpmfkjcjlaaGreat
open Go.RowKit
attribute [local go_sem] run_store_fn run_store_nilfn

theorem info_flaw : (Tryz.prog.info? 126).map (fun i => (i.zero, i.size, i.bytes)) = some (some (.agg #[.int .i64 0, .int .i64 0]), 2, 16) := by kernel_rfl
/-- A report of nothing at all that took T ticks, with the flaws F so far. -/
def RepAt (W : World) (b : Nat) (T : Int) (F : Value) : Prop := W.heap[b]? = some (.cells #[.int .i64 1, .slice none 0 0, .slice none 0 0, .slice none 0 0, .slice none 0 0, .int .i64 0, .int .i64 0, .int .i64 0, .int .i64 0, .int .i64 0, .int .i64 T, .int .i64 0, F] 178 (0, 0))
theorem RepAt.of_block {w w' : World} {b : Nat} {T : Int} {F : Value} (h : RepAt w b T F) (e : w'.heap[b]? = w.heap[b]?) : RepAt w' b T F := e.trans h
theorem RepAt.set {w : World} {b : Nat} {T : Int} {F : Value} (h : RepAt w b T F) (v : Value) : RepAt (w.setCell ⟨b, 12, none⟩ v) b T v := by
  have := cells_set (i := 12) (u := v) h
  unfold RepAt
  simpa using this
theorem RepAt.cells {w : World} {b : Nat} {T : Int} {F : Value} (h : RepAt w b T F) :
    w.cell? ⟨b, 0, none⟩ = some (.int .i64 1) ∧ w.cell? ⟨b, 1, none⟩ = some (.slice none 0 0) ∧ w.cell? ⟨b, 2, none⟩ = some (.slice none 0 0) ∧ w.cell? ⟨b, 3, none⟩ = some (.slice none 0 0) ∧ w.cell? ⟨b, 4, none⟩ = some (.slice none 0 0) ∧
    w.cell? ⟨b, 5, none⟩ = some (.int .i64 0) ∧ w.cell? ⟨b, 6, none⟩ = some (.int .i64 0) ∧ w.cell? ⟨b, 7, none⟩ = some (.int .i64 0) ∧ w.cell? ⟨b, 8, none⟩ = some (.int .i64 0) ∧ w.cell? ⟨b, 9, none⟩ = some (.int .i64 0) ∧
    w.cell? ⟨b, 10, none⟩ = some (.int .i64 T) ∧ w.cell? ⟨b, 11, none⟩ = some (.int .i64 0) ∧ w.cell? ⟨b, 12, none⟩ = some F ∧ w.frozen? ⟨b, 12, none⟩ = false ∧ b < w.heap.size :=
  ⟨cell_of_row w b 0 _ _ _ h, cell_of_row w b 1 _ _ _ h, cell_of_row w b 2 _ _ _ h, cell_of_row w b 3 _ _ _ h, cell_of_row w b 4 _ _ _ h, cell_of_row w b 5 _ _ _ h, cell_of_row w b 6 _ _ _ h, cell_of_row w b 7 _ _ _ h, cell_of_row w b 8 _ _ _ h, cell_of_row w b 9 _ _ _ h,
    cell_of_row w b 10 _ _ _ h, cell_of_row w b 11 _ _ _ h, cell_of_row w b 12 _ _ _ h, by unfold RepAt at h; simp [World.frozen?, h], (Array.getElem?_eq_some_iff.1 h).1⟩

set_option maxRecDepth 100000 in
theorem flaw_no (k i : Int) (b : Value) (w : World) : Calls Tryz.prog 109 #[b, .bool false, .int .i64 k, .int .i64 i] w fun e w' => e = .returned (.tuple #[]) ∧ Below w.heap.size w w' := by
  go_enter Tryz.func109, Tryz.ntmps109
  go_wp2
  go_end0
  exact ⟨rfl, (Below.refl _ w).alloc (Nat.le_refl _) _⟩
set_option maxRecDepth 100000 in
set_option maxHeartbeats 1000000 in
theorem flaw_yes (T : Int) (b : Nat) (w : World) (h : RepAt w b T (.slice none 0 0)) :
    Calls Tryz.prog 109 #[.pointer (some ⟨b, 0, none⟩), .bool true, .int .i64 7, .int .i64 (-1)] w fun e w' => e = .returned (.tuple #[]) ∧ ∃ v, RepAt w' b T v ∧ w'.ownsRow w.heap.size 126 2 v 1 [.int .i64 7, .int .i64 (-1)] ∧ Keep (fun j => j < w.heap.size ∧ j ≠ b) w w' := by
  obtain ⟨j0, hj, hj0, hj1, hj2⟩ := info_parts info_flaw
  obtain ⟨_, _, _, _, _, _, _, _, _, _, _, _, a12, f12, hb⟩ := h.cells
  have HR := hide h
  clear h
  go_enter Tryz.func109, Tryz.ntmps109
  go_wp2_with fail
  obtain ⟨W1, hW1⟩ : ∃ W1, W1 = w.alloc (.cells #[.int .i64 7, .int .i64 (-1)] 126) := ⟨_, rfl⟩
  have hB1 : Below w.heap.size w W1 := by rw [hW1]; exact (Below.refl _ w).alloc (Nat.le_refl _) _
  have hwz : w.heap.size < W1.heap.size := by rw [hW1]; simp
  have e0 : W1.cell? ⟨w.heap.size, 0, none⟩ = some (.int .i64 7) := by rw [hW1]; go_simp
  have e1 : W1.cell? ⟨w.heap.size, 1, none⟩ = some (.int .i64 (-1)) := by rw [hW1]; go_simp
  rw [← hW1]
  replace a12 := (hB1.cell (p := ⟨b, 12, none⟩) hb).trans a12
  have hb1 : b < W1.heap.size := by omega
  have HB1 := hide hB1
  clear hW1 hB1 f12
  refine wp_region_seql (Below W1.heap.size W1) [10] (.take 0 <| .take 1 <| .take 2 <| .take 3 <| .take 4 <| .take 5 <| .run 6 <| .run 7 <| .take 8 <| .take 9 <| .run 10 <| .done) (by kernel_rfl) (by kernel_rfl) (by kernel_rfl) (by (repeat' (first | exact Below.refl _ _ | assumption | refine Below.drew ?_ | refine below_drewN ?_ _ | refine Below.alloc ?_ (by simp <;> omega) _ | refine Below.setCell ?_ (by simp <;> omega) _))) ?_
  repeat (refine seql_take (v := ?_) rfl (by rfl) ?_ ?_; rotate_left; (focus (intro wS hS; have z0 := (hS.cell (p := ⟨b, 12, none⟩) hb1).trans a12; have z1 := (hS.cell (p := ⟨w.heap.size, 0, none⟩) hwz).trans e0; have z2 := (hS.cell (p := ⟨w.heap.size, 1, none⟩) hwz).trans e1; go_simp; exact rfl)); simp only [Act.put, List.setIfInBounds_toArray, List.set_cons_zero, List.set_cons_succ])
  refine seql_run rfl (by rfl) (fun K hK => ?_)
  go_simp
  refine hK _ _ ((Below.refl _ W1).alloc (Nat.le_refl _) _).drew ?_
  clear hK K
  have hown0 : (W1.alloc (.cells #[.int .i64 7, .int .i64 (-1)] 126)).drew.ownsRow W1.heap.size 126 2 (.slice none 0 0) 0 [] := World.ownsRow_nil _ _ _ _
  have q0 : (W1.alloc (.cells #[.int .i64 7, .int .i64 (-1)] 126)).drew.cell? ⟨W1.heap.size, 0, none⟩ = some (.int .i64 7) := by go_simp
  have q1 : (W1.alloc (.cells #[.int .i64 7, .int .i64 (-1)] 126)).drew.cell? ⟨W1.heap.size, 1, none⟩ = some (.int .i64 (-1)) := by go_simp
  have HB5 : Hid (Below W1.heap.size W1 (W1.alloc (.cells #[.int .i64 7, .int .i64 (-1)] 126)).drew) := hide ((Below.refl _ W1).alloc (Nat.le_refl _) _).drew
  have hz5 : W1.heap.size < (W1.alloc (.cells #[.int .i64 7, .int .i64 (-1)] 126)).drew.heap.size := by simp
  generalize (W1.alloc (.cells #[.int .i64 7, .int .i64 (-1)] 126)).drew = w6 at *
  refine seql_run rfl (by rfl) (fun K hK => ?_)
  refine wp_append_own_at _ _ 123 rfl W1.heap.size 126 j0 (.agg #[.int .i64 0, .int .i64 0]) 2 16 Tryz.underlying123 hj hj0 hj1 hj2 rfl (by decide) (.slice none 0 0) 0 [] (by rfl) hown0 ⟨W1.heap.size, 0, none⟩ 1 1 [.int .i64 7, .int .i64 (-1)] (by rfl) rfl (by intro j u hu; rcases j with _ | _ | j; (cases hu; exact q0); (cases hu; exact q1); cases hu) (by simp [Value.oneCell']) (by decide) (by decide) (by omega) ?_
  intro v7 w7 hown7 hg7 _ _
  have hB7 : Below W1.heap.size W1 w7 := HB5.out.grown hg7 (by have := HB5.out.size; omega) (fun k hk => (hown0.lt k hk).1)
  refine hK _ _ hB7 ?_
  clear hK K hg7 hown0 q0 q1
  have hW7 : Below w.heap.size w w7 := HB1.out.trans (hB7.mono (by omega))
  have hR7 := HR.out.of_block (hW7.block b hb)
  obtain ⟨A7, c7, rfl⟩ := own_slice hown7
  obtain ⟨_, _, _, _, _, _, _, _, _, _, _, _, t12, f12, tb⟩ := hR7.cells
  have HR7 := hide hR7
  have HO7 := hide hown7
  have HW7 := hide hW7
  have HZ : Hid (w.heap.size ≤ W1.heap.size) := hide (by omega)
  clear hR7 hown7 hW7 hB7
  simp only [Act.put, List.setIfInBounds_toArray, List.set_cons_zero, List.set_cons_succ]
  repeat (refine seql_take (v := ?_) rfl (by rfl) ?_ ?_; rotate_left; (focus (intro wS hS; have z0 := (hS.cell (p := ⟨b, 12, none⟩) hb1).trans a12; have z1 := (hS.cell (p := ⟨w.heap.size, 0, none⟩) hwz).trans e0; have z2 := (hS.cell (p := ⟨w.heap.size, 1, none⟩) hwz).trans e1; go_simp; exact rfl)); simp only [Act.put, List.setIfInBounds_toArray, List.set_cons_zero, List.set_cons_succ])
  refine seql_late rfl rfl (by rfl) (fun K hK => ?_)
  go_simp
  refine hK _ _ ?_
  clear hK K
  refine seql_nil ?_
  go_wp2
  go_end0
  refine ⟨rfl, .slice A7 1 c7, HR7.out.set _, owns_keepB (S := fun j => j ≠ b) (owns_base HO7.out HZ.out) ((Keep.refl _ _).setCell (by simp) _) (fun j hj _ => by omega), (Keep.of_below (K := fun j => j < w.heap.size ∧ j ≠ b) HW7.out (fun k hk => hk.1)).setCell (by simp) _⟩
end Go.Proofs.YtmiimpmfkjcjlaaGreat
