/- The shared memory (package mem): Read, Write. -/
import Derived.Test.YtlfingcmekifkaaMe1
namespace Go.Proofs.Ytlfingcmekifkaa
open Go.RowKit
attribute [local go_sem] run_store_fn run_store_nilfn

theorem cntRead (p : Nat) (w : World) : Calls Try.prog 87 #[.pointer (some ⟨p, 1, none⟩)] w fun e w' => e = .returned (.pointer (some ⟨p, 1, none⟩)) ∧ w = w' := by
  go_enter Try.func87, Try.ntmps87
  go_wp2
  go_ret
  exact ⟨rfl, rfl⟩
theorem cntWrite (p : Nat) (w : World) : Calls Try.prog 110 #[.pointer (some ⟨p, 1, none⟩)] w fun e w' => e = .returned (.pointer (some ⟨p, 2, none⟩)) ∧ w = w' := by
  go_enter Try.func110, Try.ntmps110
  go_wp2
  go_ret
  exact ⟨rfl, rfl⟩
theorem doRead (px k b : Nat) (x : Int) (w : World) (h1 : w.cell? ⟨px, k, none⟩ = some (.int .u64 x)) (h2 : w.cell? ⟨b, 0, none⟩ = some (.int .u64 0)) (h3 : w.frozen? ⟨b, 0, none⟩ = false) :
    Calls Try.prog 88 #[.pointer (some ⟨px, k, none⟩), .pointer (some ⟨b, 0, none⟩)] w fun e w' => e = .returned (.tuple #[]) ∧ w' = w.setCell ⟨b, 0, none⟩ (.int .u64 x) := by
  go_enter Try.func88, Try.ntmps88
  go_wp2
  go_end0
  exact ⟨rfl, rfl⟩
theorem doWrite (px k b : Nat) (x y : Int) (w : World) (h1 : w.cell? ⟨px, k, none⟩ = some (.int .u64 x)) (h2 : w.cell? ⟨b, 0, none⟩ = some (.int .u64 y)) (h3 : w.frozen? ⟨px, k, none⟩ = false) :
    Calls Try.prog 111 #[.pointer (some ⟨px, k, none⟩), .pointer (some ⟨b, 0, none⟩)] w fun e w' => e = .returned (.tuple #[]) ∧ w' = w.setCell ⟨px, k, none⟩ (.int .u64 y) := by
  go_enter Try.func111, Try.ntmps111
  go_wp2
  go_end0
  exact ⟨rfl, rfl⟩
set_option maxRecDepth 100000 in
set_option maxHeartbeats 1000000 in
theorem accRead (pm px k b : Nat) (m : Mm) (w : World) (h : MemAt w pm px .nilFunc m) (hk : k < m.words.length) (hb : w.heap[b]? = some (.cells #[.int .u64 0] 37 (0, 0))) (hne : b ≠ px) (hnm : b ≠ pm) :
    Calls Try.prog 86 #[.pointer (some ⟨pm, 0, none⟩), .int .i64 0, .int .i64 k, .func (.func 87) #[] #[], .func (.func 88) #[] #[.pointer (some ⟨b, 0, none⟩)]] w fun e w' =>
      e = .returned (.tuple #[]) ∧ w' = (w.setCell ⟨pm, 1, none⟩ (.int .i64 (wrap64 (wrap64 m.rd + 1)))).setCell ⟨b, 0, none⟩ (.int .u64 (m.at k)) := by
  obtain ⟨c, a0, a1, a2, a3, a4, a5, a6, hc, hcm⟩ := h.cells
  obtain ⟨x0, x1⟩ := h.word hk
  have f1 := h.frozen 1
  obtain ⟨z0, z1⟩ := h.lt
  have hpp := h.ne
  have g0 : w.cell? ⟨b, 0, none⟩ = some (.int .u64 0) := cell_of_row w b 0 _ _ _ hb
  have g1 : w.frozen? ⟨b, 0, none⟩ = false := frozen_of_row w b 0 _ _ hb
  have gz : b < w.heap.size := (Array.getElem?_eq_some_iff.1 hb).1
  have hl := h.len
  have d0 : decide (m.words.length ≤ k) = false := by simpa using hk
  have qF : ∀ W, (binOp .neq 125 .nilFunc .nilFunc).run Try.prog W = .ok (.bool false) W := fun _ => by kernel_rfl
  clear h hb
  go_enter Try.func86, Try.ntmps86
  go_wp2_with fail
  refine (cntRead _ _).mono ?_
  rintro e w1 ⟨rfl, rfl⟩
  go_wp2_with fail
  refine (doRead px k b (m.at k) _ (by go_simp) (by go_simp) (by go_simp)).mono ?_
  rintro e w2 ⟨rfl, rfl⟩
  go_wp2
  go_end0
  exact ⟨rfl, rfl⟩

set_option maxRecDepth 100000 in
set_option maxHeartbeats 1000000 in
theorem accWrite (pm px k b : Nat) (v : Int) (m : Mm) (w : World) (h : MemAt w pm px .nilFunc m) (hk : k < m.words.length) (g0 : w.cell? ⟨b, 0, none⟩ = some (.int .u64 v)) (gz : b < w.heap.size) (hne : b ≠ px) (hnm : b ≠ pm) :
    Calls Try.prog 86 #[.pointer (some ⟨pm, 0, none⟩), .int .i64 1, .int .i64 k, .func (.func 110) #[] #[], .func (.func 111) #[] #[.pointer (some ⟨b, 0, none⟩)]] w fun e w' =>
      e = .returned (.tuple #[]) ∧ w' = (w.setCell ⟨pm, 2, none⟩ (.int .i64 (wrap64 (wrap64 m.wr + 1)))).setCell ⟨px, k, none⟩ (.int .u64 v) := by
  obtain ⟨c, a0, a1, a2, a3, a4, a5, a6, hc, hcm⟩ := h.cells
  have f1 := h.frozen 1
  have f2 := h.frozen 2
  have f3 := h.frozen 3
  have f4 := h.frozen 4
  have f5 := h.frozen 5
  obtain ⟨z0, z1⟩ := h.lt
  have hpp := h.ne
  have hl := h.len
  have qF : ∀ W, (binOp .neq 125 .nilFunc .nilFunc).run Try.prog W = .ok (.bool false) W := fun _ => by kernel_rfl
  obtain ⟨x0, x1⟩ := h.word hk
  have d0 : decide (m.words.length ≤ k) = false := by simpa using hk
  clear h
  go_enter Try.func86, Try.ntmps86
  go_wp2_with fail
  refine (cntWrite _ _).mono ?_
  rintro e w1 ⟨rfl, rfl⟩
  go_wp2_with fail
  refine (doWrite px k b (m.at k) v _ (by go_simp) (by go_simp) (by go_simp)).mono ?_
  rintro e w2 ⟨rfl, rfl⟩
  go_wp2
  go_end0
  exact ⟨rfl, rfl⟩
set_option maxRecDepth 100000 in
set_option maxHeartbeats 1000000 in
theorem accOut (pm px : Nat) (kind a : Int) (cv dv : Value) (m : Mm) (w : World) (h : MemAt w pm px .nilFunc m) (hk : ¬ m.in a) :
    Calls Try.prog 86 #[.pointer (some ⟨pm, 0, none⟩), .int .i64 kind, .int .i64 a, cv, dv] w fun e w' =>
      e = .returned (.tuple #[]) ∧ w' = w.setCell ⟨pm, 5, none⟩ (.int .i64 (wrap64 (wrap64 m.ft + 1))) := by
  obtain ⟨c, a0, a1, a2, a3, a4, a5, a6, hc, hcm⟩ := h.cells
  have f1 := h.frozen 1
  have f2 := h.frozen 2
  have f3 := h.frozen 3
  have f4 := h.frozen 4
  have f5 := h.frozen 5
  obtain ⟨z0, z1⟩ := h.lt
  have hpp := h.ne
  have hl := h.len
  have qF : ∀ W, (binOp .neq 125 .nilFunc .nilFunc).run Try.prog W = .ok (.bool false) W := fun _ => by kernel_rfl
  have hcase : a < 0 ∨ 0 ≤ a ∧ (m.words.length : Int) ≤ a := by unfold Mm.in at hk; omega
  clear h hk
  rcases hcase with ha | ⟨ha, hb⟩
  · have d0 : decide (a < 0) = true := by simpa using ha
    go_enter Try.func86, Try.ntmps86
    go_wp2
    ((try simp only [Exit.inBlock, Exit.then]); refine bodyPost_ret (results_none rfl _ _ _) rfl ?_)
    exact ⟨rfl, rfl⟩
  · have d0 : decide (a < 0) = false := by simpa using ha
    have d1 : decide ((m.words.length : Int) ≤ a) = true := by simpa using hb
    go_enter Try.func86, Try.ntmps86
    go_wp2
    ((try simp only [Exit.inBlock, Exit.then]); refine bodyPost_ret (results_none rfl _ _ _) rfl ?_)
    exact ⟨rfl, rfl⟩
end Go.Proofs.Ytlfingcmekifkaa
