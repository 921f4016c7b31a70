/- Audit of nothing: orders of no events, no keys (slices.SortStableFunc of nothing, keys.Order, linear.Order, linear.Ahead, slices.IndexFunc of nothing). -/
import Derived.Test.YtmiimpmfkjcjlaaGreatCmp
import Derived.Test.YtmiimpmfkjcjlaaGreatMo1
namespace Go.Proofs.YtmiimpmfkjcjlaaGreat
open Go.RowKit
attribute [local go_sem] run_store_fn run_store_nilfn

set_option maxRecDepth 100000 in
theorem ins0 (A : Option Addr) (c : Nat) (g : Value) (w : World) : Calls Tryz.prog 208 #[.slice A 0 c, .int .i64 0, .int .i64 0, g] w fun e w' => e = .returned (.tuple #[]) ∧ w' = w := by
  go_enter Tryz.func208, Tryz.ntmps208
  go_wp2
  go_loopw [8] (fun i wr => i = .int .i64 1 ∧ wr = w) (fun _ _ => 0)
  case atStart => exact ⟨rfl, rfl⟩
  case round =>
    obtain ⟨rfl, rfl⟩ := hrel
    go_wp2
    go_end0
    exact ⟨rfl, rfl⟩
set_option maxRecDepth 100000 in
theorem stable0 (A : Option Addr) (c : Nat) (g : Value) (w : World) : Calls Tryz.prog 203 #[.slice A 0 c, .int .i64 0, g] w fun e w' => e = .returned (.tuple #[]) ∧ w' = w := by
  have N0 := fun W => ins0 A c g W
  go_enter Tryz.func203, Tryz.ntmps203
  go_wp2
  go_loopw [7, 8] (fun a i wr => a = .int .i64 0 ∧ i = .int .i64 20 ∧ wr = w) (fun _ _ _ => 0)
  case atStart => exact ⟨rfl, rfl, rfl⟩
  case round =>
    obtain ⟨rfl, rfl, rfl⟩ := hrel
    go_wp2_with fail
    refine (N0 _).mono ?_
    rintro e w1 ⟨rfl, rfl⟩
    go_wp2
    go_loopw [6] (fun i wr => i = .int .i64 20 ∧ wr = w1) (fun _ _ => 0)
    case atStart => exact ⟨rfl, rfl⟩
    case round =>
      obtain ⟨rfl, rfl⟩ := hrel
      go_wp2
      go_end0
      exact ⟨rfl, rfl⟩
set_option maxRecDepth 100000 in
theorem sort0 (A : Option Addr) (c : Nat) (g : Value) (w : World) : Calls Tryz.prog 158 #[.slice A 0 c, g] w fun e w' => e = .returned (.tuple #[]) ∧ w' = w := by
  have N0 := fun W => stable0 A c g W
  go_enter Tryz.func158, Tryz.ntmps158
  go_wp2_with fail
  refine (N0 _).mono ?_
  rintro e w1 ⟨rfl, rfl⟩
  go_wp2
  go_end0
  exact ⟨rfl, rfl⟩
set_option maxRecDepth 100000 in
theorem indexEv0 (g : Value) (w : World) : Calls Tryz.prog 105 #[.slice none 0 0, g] w fun e w' => e = .returned (.int .i64 (-1)) ∧ w' = w := by
  go_enter Tryz.func105, Tryz.ntmps105
  go_wp2
  go_loopw [8] (fun i wr => i = .int .i64 0 ∧ wr = w) (fun _ _ => 0)
  case atStart => exact ⟨rfl, rfl⟩
  case round =>
    obtain ⟨rfl, rfl⟩ := hrel
    go_wp2
    go_ret
    exact ⟨rfl, rfl⟩
set_option maxRecDepth 100000 in
theorem indexI0 (A : Option Addr) (c : Nat) (g : Value) (w : World) : Calls Tryz.prog 61 #[.slice A 0 c, g] w fun e w' => e = .returned (.int .i64 (-1)) ∧ w' = w := by
  go_enter Tryz.func61, Tryz.ntmps61
  go_wp2
  go_loopw [8] (fun i wr => i = .int .i64 0 ∧ wr = w) (fun _ _ => 0)
  case atStart => exact ⟨rfl, rfl⟩
  case round =>
    obtain ⟨rfl, rfl⟩ := hrel
    go_wp2
    go_ret
    exact ⟨rfl, rfl⟩
set_option maxRecDepth 100000 in
theorem contains0 (g : Value) (w : World) : Calls Tryz.prog 58 #[.slice none 0 0, g] w fun e w' => e = .returned (.bool false) ∧ w' = w := by
  have N0 := fun W => indexEv0 g W
  go_enter Tryz.func58, Tryz.ntmps58
  go_wp2_with fail
  refine (N0 _).mono ?_
  rintro e w1 ⟨rfl, rfl⟩
  go_wp2
  go_ret
  exact ⟨rfl, rfl⟩
set_option maxRecDepth 100000 in
theorem keysOrder0 (w : World) : Calls Tryz.prog 101 #[.slice none 0 0] w fun e w' => ∃ A c, e = .returned (.slice A 0 c) ∧ Below w.heap.size w w' := by
  have N0 := fun A c g W => sort0 A c g W
  have hmk : ∀ W, (Instr.makeSlice 42 (.int .i64 0) (.int .i64 0)).run Tryz.prog W = .ok (.slice (some ⟨W.heap.size, 0, none⟩) 0 0) (W.alloc (.cells (madeCells #[.int .i64 0] 0) 3)) :=
    fun W => run_make_row' (P := Tryz.prog) 42 3 (.int .i64 0) 8 Tryz.underlying42 info_int rfl .i64 .i64 0 (by decide) (by decide) W
  go_enter Tryz.func101, Tryz.ntmps101
  go_wp2
  go_loopw [10] (fun i wr => i = .int .i64 0 ∧ Hid (Below w.heap.size w wr) ∧ w.heap.size < wr.heap.size) (fun _ _ => 0)
  case atStart => exact ⟨rfl, hide (((Below.refl _ w).alloc (Nat.le_refl _) _).alloc (by simp) _), by simp; omega⟩
  case round =>
    obtain ⟨rfl, hb, hz⟩ := hrel
    go_wp2_with fail
    refine (N0 _ _ _ _).mono ?_
    rintro e w1 ⟨rfl, rfl⟩
    go_wp2
    go_ret
    exact ⟨_, _, rfl, hb.out⟩
set_option maxRecDepth 100000 in
set_option maxHeartbeats 2000000 in
theorem linOrder0 (w : World) : Calls Tryz.prog 55 #[.slice none 0 0] w fun e w' => ∃ A c, e = .returned (.slice A 0 c) ∧ Below w.heap.size w w' := by
  have N0 := fun W => keysOrder0 W
  go_enter Tryz.func55, Tryz.ntmps55
  go_wp2
  go_loopw [3, 4, 12] (fun a b i wr => a = .slice none 0 0 ∧ b = .slice none 0 0 ∧ i = .int .i64 0 ∧ wr = w) (fun _ _ _ _ => 0)
  case atStart => exact ⟨rfl, rfl, rfl, rfl⟩
  case round =>
    obtain ⟨rfl, rfl, rfl, rfl⟩ := hrel
    go_wp2_with fail
    refine (N0 _).mono ?_
    rintro e w1 ⟨A, c, rfl, hb⟩
    have HB := hide hb
    clear hb
    go_wp2
    go_loopw [35] (fun i w2 => i = .int .i64 0 ∧ w2 = w1) (fun _ _ => 0)
    case atStart => exact ⟨rfl, rfl⟩
    case round =>
      obtain ⟨rfl, rfl⟩ := hrel
      go_wp2
      go_ret
      exact ⟨_, _, rfl, HB.out⟩
set_option maxRecDepth 100000 in
theorem linAhead0 (w : World) : Calls Tryz.prog 56 #[.slice none 0 0] w fun e w' => e = .returned (.bool true) ∧ Below w.heap.size w w' := by
  have N0 := fun W => linOrder0 W
  go_enter Tryz.func56, Tryz.ntmps56
  go_wp2_with fail
  refine (N0 _).mono ?_
  rintro e w1 ⟨A, c, rfl, hb⟩
  have HB := hide hb
  clear hb
  go_wp2
  go_loopw [12] (fun i w2 => i = .int .i64 0 ∧ w2 = w1) (fun _ _ => 0)
  case atStart => exact ⟨rfl, rfl⟩
  case round =>
    obtain ⟨rfl, rfl⟩ := hrel
    go_wp2
    go_ret
    exact ⟨rfl, HB.out⟩
end Go.Proofs.YtmiimpmfkjcjlaaGreat
