/- Audit of nothing: history.Right, linear.Wrong. -/
import Derived.Test.YtmiimpmfkjcjlaaGreatAu3
import Derived.Test.YtmiimpmfkjcjlaaGreatMapI
import Derived.Test.YtmiimpmfkjcjlaaGreatTb6
namespace Go.Proofs.YtmiimpmfkjcjlaaGreat
open Go.RowKit
attribute [local go_sem] run_store_fn run_store_nilfn

set_option maxRecDepth 100000 in
set_option maxHeartbeats 1000000 in
theorem histRight0 (ticks : Int) (w : World) : Calls Tryz.prog 67 #[.int .i64 1, .slice none 0 0, .slice none 0 0, .int .i64 ticks] w fun e w' => e = .returned (.bool true) ∧ Below w.heap.size w w' := by
  have hmm := @run_makeMap Tryz.prog
  go_enter Tryz.func67, Tryz.ntmps67
  go_wp2
  go_loopw [20] (fun i wr => i = .int .i64 0 ∧ Hid (Below w.heap.size w wr)) (fun _ _ => 0)
  case atStart => exact ⟨rfl, hide (by (repeat' (first | exact Below.refl _ _ | assumption | refine Below.drew ?_ | refine below_drewN ?_ _ | refine Below.alloc ?_ (by simp <;> omega) _ | refine Below.setCell ?_ (by simp <;> omega) _)))⟩
  case round =>
    obtain ⟨rfl, hb⟩ := hrel
    go_wp2
    go_ret
    exact ⟨rfl, hb.out⟩
theorem slsp_none (w : World) : SlSp w (.slice none 0 0) [] := ⟨none, 0, rfl, Nat.le_refl _, Nat.zero_le _, by intro k x h; simp at h⟩
theorem lay0 (w : World) : Calls Tryz.prog 57 #[.int .i64 1, .slice none 0 0] w fun e w' => ∃ u, e = .returned (.tuple #[u, .int .i64 0, .int .i64 0]) ∧ Below w.heap.size w w' := by
  refine (tlay_any 1 none 0 0 [] w (slsp_none w) rfl).mono ?_
  rintro e w' ⟨u, he, _, hb⟩
  exact ⟨u, he, hb⟩
set_option maxRecDepth 100000 in
set_option maxHeartbeats 1000000 in
theorem linWrong0 (w : World) : Calls Tryz.prog 30 #[.int .i64 1, .slice none 0 0, .slice none 0 0, .slice none 0 0] w fun e w' => e = .returned (.tuple #[.int .i64 (-1), .int .i64 0]) ∧ Below w.heap.size w w' := by
  have N0 := fun W => lay0 W
  have N1 := fun g W => contains0 g W
  have N2 := fun W => linOrder0 W
  have N3 := fun A c g W => indexI0 A c g W
  go_enter Tryz.func30, Tryz.ntmps30
  go_wp2_with fail
  refine (N0 _).mono ?_
  rintro e w1 ⟨u, rfl, hb1⟩
  have hbx : Below (w.heap.size + 3) _ w1 := hb1.mono (by simp)
  have q0 : w1.cell? ⟨w.heap.size, 0, none⟩ = some (.int .i64 1) := (hbx.cell (p := ⟨w.heap.size, 0, none⟩) (by show w.heap.size < _; omega)).trans (by go_simp)
  have q1 : w1.cell? ⟨w.heap.size + 1, 0, none⟩ = some (.slice none 0 0) := (hbx.cell (p := ⟨w.heap.size + 1, 0, none⟩) (by show w.heap.size + 1 < _; omega)).trans (by go_simp)
  have q2 : w1.cell? ⟨w.heap.size + 2, 0, none⟩ = some (.slice none 0 0) := (hbx.cell (p := ⟨w.heap.size + 2, 0, none⟩) (by show w.heap.size + 2 < _; omega)).trans (by go_simp)
  have HB1 : Hid (Below w.heap.size w w1) := hide ((((Below.refl _ w).alloc (Nat.le_refl _) _).alloc (by simp) _).alloc (by simp; omega) _ |>.trans (hbx.mono (by omega)))
  have hz1 : w.heap.size + 2 < w1.heap.size := by have := hbx.size; simp at this; omega
  have hz2 : w.heap.size < w1.heap.size := by omega
  clear hb1 hbx N0
  go_wp2_with fail
  refine (N1 _ _).mono ?_
  rintro e w2 ⟨rfl, rfl⟩
  go_wp2
  go_loopw [39] (fun i wr => i = .int .i64 0 ∧ Hid (Below w.heap.size w wr) ∧ wr.cell? ⟨w.heap.size + 2, 0, none⟩ = some (.slice none 0 0)) (fun _ _ => 0)
  case atStart => exact ⟨rfl, hide ((HB1.out.alloc (by omega) _).alloc (by simp; omega) _), by go_simp⟩
  case round =>
    obtain ⟨rfl, hb, q2'⟩ := hrel
    go_wp2_with fail
    refine (N2 _).mono ?_
    rintro e w3 ⟨A, c, rfl, hb3⟩
    have HB3 : Hid (Below w.heap.size w w3) := hide (hb.out.trans (hb3.mono hb.out.size))
    clear hb3 hb
    go_wp2_with fail
    refine (N3 _ _ _ _).mono ?_
    rintro e w4 ⟨rfl, rfl⟩
    go_wp2
    go_ret2
    exact ⟨rfl, HB3.out⟩
end Go.Proofs.YtmiimpmfkjcjlaaGreat
