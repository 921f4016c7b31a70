/- The shared memory (package mem): Read, Write. -/
/- The shared memory (package mem): Read, Write, Swap, as contracts; a memory's words and counts. -/
import Derived.Test.YtfghmlpjbedomaaGreatMe1
namespace Go.Proofs.YtfghmlpjbedomaaGreat
open Go.RowKit
attribute [local go_sem] run_store_fn run_store_nilfn

theorem cntRead (p : Nat) (w : World) : Calls Tryz.prog 182 #[.pointer (some ⟨p, 1, none⟩)] w fun e w' => e = .returned (.pointer (some ⟨p, 1, none⟩)) ∧ w = w' := by
  go_enter Tryz.func182, Tryz.ntmps182
  go_wp2
  go_ret
  exact ⟨rfl, rfl⟩
theorem cntWrite (p : Nat) (w : World) : Calls Tryz.prog 203 #[.pointer (some ⟨p, 1, none⟩)] w fun e w' => e = .returned (.pointer (some ⟨p, 2, none⟩)) ∧ w = w' := by
  go_enter Tryz.func203, Tryz.ntmps203
  go_wp2
  go_ret
  exact ⟨rfl, rfl⟩
theorem doRead (px k b : Nat) (x : Int) (w : World) (h1 : w.cell? ⟨px, k, none⟩ = some (.int .u64 x)) (h2 : w.cell? ⟨b, 0, none⟩ = some (.int .u64 0)) (h3 : w.frozen? ⟨b, 0, none⟩ = false) :
    Calls Tryz.prog 183 #[.pointer (some ⟨px, k, none⟩), .pointer (some ⟨b, 0, none⟩)] w fun e w' => e = .returned (.tuple #[]) ∧ w' = w.setCell ⟨b, 0, none⟩ (.int .u64 x) := by
  go_enter Tryz.func183, Tryz.ntmps183
  go_wp2
  go_end0
  exact ⟨rfl, rfl⟩
theorem doWrite (px k b : Nat) (x y : Int) (w : World) (h1 : w.cell? ⟨px, k, none⟩ = some (.int .u64 x)) (h2 : w.cell? ⟨b, 0, none⟩ = some (.int .u64 y)) (h3 : w.frozen? ⟨px, k, none⟩ = false) :
    Calls Tryz.prog 204 #[.pointer (some ⟨px, k, none⟩), .pointer (some ⟨b, 0, none⟩)] w fun e w' => e = .returned (.tuple #[]) ∧ w' = w.setCell ⟨px, k, none⟩ (.int .u64 y) := by
  go_enter Tryz.func204, Tryz.ntmps204
  go_wp2
  go_end0
  exact ⟨rfl, rfl⟩
set_option maxRecDepth 100000 in
set_option maxHeartbeats 1000000 in
theorem accRead (pm px k b : Nat) (m : Mm) (w : World) (h : MemAt w pm px .nilFunc m) (hk : k < m.words.length) (hb : w.heap[b]? = some (.cells #[.int .u64 0] 37 (0, 0))) (_hne : b ≠ px) (_hnm : b ≠ pm) :
    Calls Tryz.prog 181 #[.pointer (some ⟨pm, 0, none⟩), .int .i64 0, .int .i64 k, .func (.func 182) #[] #[], .func (.func 183) #[] #[.pointer (some ⟨b, 0, none⟩)]] w fun e w' =>
      e = .returned (.tuple #[]) ∧ w' = (w.setCell ⟨pm, 1, none⟩ (.int .i64 (wrap64 (wrap64 m.rd + 1)))).setCell ⟨b, 0, none⟩ (.int .u64 (m.at k)) := by
  obtain ⟨c, a0, a1, a2, a3, a4, a5, a6, hc, hcm⟩ := h.cells
  obtain ⟨x0, x1⟩ := h.word hk
  have f1 := h.frozen 1
  obtain ⟨z0, z1⟩ := h.lt
  have hpp := h.ne
  have g0 : w.cell? ⟨b, 0, none⟩ = some (.int .u64 0) := cell_of_row w b 0 _ _ _ hb
  have g1 : w.frozen? ⟨b, 0, none⟩ = false := frozen_of_row w b 0 _ _ hb
  have gz : b < w.heap.size := (Array.getElem?_eq_some_iff.1 hb).1
  have hl := h.len
  have d0 : decide (m.words.length ≤ k) = false := by simpa using hk
  have qF : ∀ W, (binOp .neq 184 .nilFunc .nilFunc).run Tryz.prog W = .ok (.bool false) W := fun _ => by kernel_rfl
  clear h hb
  go_enter Tryz.func181, Tryz.ntmps181
  go_wp2_with fail
  refine (cntRead _ _).mono ?_
  rintro e w1 ⟨rfl, rfl⟩
  go_wp2_with fail
  refine (doRead px k b (m.at k) _ (by go_simp) (by go_simp) (by go_simp)).mono ?_
  rintro e w2 ⟨rfl, rfl⟩
  go_wp2
  go_end0
  exact ⟨rfl, rfl⟩

set_option maxRecDepth 100000 in
set_option maxHeartbeats 1000000 in
theorem accWrite (pm px k b : Nat) (v : Int) (m : Mm) (w : World) (h : MemAt w pm px .nilFunc m) (hk : k < m.words.length) (g0 : w.cell? ⟨b, 0, none⟩ = some (.int .u64 v)) (_gz : b < w.heap.size) (_hne : b ≠ px) (_hnm : b ≠ pm) :
    Calls Tryz.prog 181 #[.pointer (some ⟨pm, 0, none⟩), .int .i64 1, .int .i64 k, .func (.func 203) #[] #[], .func (.func 204) #[] #[.pointer (some ⟨b, 0, none⟩)]] w fun e w' =>
      e = .returned (.tuple #[]) ∧ w' = (w.setCell ⟨pm, 2, none⟩ (.int .i64 (wrap64 (wrap64 m.wr + 1)))).setCell ⟨px, k, none⟩ (.int .u64 v) := by
  obtain ⟨c, a0, a1, a2, a3, a4, a5, a6, hc, hcm⟩ := h.cells
  have f1 := h.frozen 1
  have f2 := h.frozen 2
  have f3 := h.frozen 3
  have f4 := h.frozen 4
  have f5 := h.frozen 5
  obtain ⟨z0, z1⟩ := h.lt
  have hpp := h.ne
  have hl := h.len
  have qF : ∀ W, (binOp .neq 184 .nilFunc .nilFunc).run Tryz.prog W = .ok (.bool false) W := fun _ => by kernel_rfl
  obtain ⟨x0, x1⟩ := h.word hk
  have d0 : decide (m.words.length ≤ k) = false := by simpa using hk
  clear h
  go_enter Tryz.func181, Tryz.ntmps181
  go_wp2_with fail
  refine (cntWrite _ _).mono ?_
  rintro e w1 ⟨rfl, rfl⟩
  go_wp2_with fail
  refine (doWrite px k b (m.at k) v _ (by go_simp) (by go_simp) (by go_simp)).mono ?_
  rintro e w2 ⟨rfl, rfl⟩
  go_wp2
  go_end0
  exact ⟨rfl, rfl⟩
set_option maxRecDepth 100000 in
set_option maxHeartbeats 1000000 in
theorem accOut (pm px : Nat) (kind a : Int) (cv dv : Value) (m : Mm) (w : World) (h : MemAt w pm px .nilFunc m) (hk : ¬ m.in a) :
    Calls Tryz.prog 181 #[.pointer (some ⟨pm, 0, none⟩), .int .i64 kind, .int .i64 a, cv, dv] w fun e w' =>
      e = .returned (.tuple #[]) ∧ w' = w.setCell ⟨pm, 5, none⟩ (.int .i64 (wrap64 (wrap64 m.ft + 1))) := by
  obtain ⟨c, a0, a1, a2, a3, a4, a5, a6, hc, hcm⟩ := h.cells
  have f1 := h.frozen 1
  have f2 := h.frozen 2
  have f3 := h.frozen 3
  have f4 := h.frozen 4
  have f5 := h.frozen 5
  obtain ⟨z0, z1⟩ := h.lt
  have hpp := h.ne
  have hl := h.len
  have qF : ∀ W, (binOp .neq 184 .nilFunc .nilFunc).run Tryz.prog W = .ok (.bool false) W := fun _ => by kernel_rfl
  have hcase : a < 0 ∨ 0 ≤ a ∧ (m.words.length : Int) ≤ a := by unfold Mm.in at hk; omega
  clear h hk
  rcases hcase with ha | ⟨ha, hb⟩
  · have d0 : decide (a < 0) = true := by simpa using ha
    go_enter Tryz.func181, Tryz.ntmps181
    go_wp2
    ((try simp only [Exit.inBlock, Exit.then]); refine bodyPost_ret (results_none rfl _ _ _) rfl ?_)
    exact ⟨rfl, rfl⟩
  · have d0 : decide (a < 0) = false := by simpa using ha
    have d1 : decide ((m.words.length : Int) ≤ a) = true := by simpa using hb
    go_enter Tryz.func181, Tryz.ntmps181
    go_wp2
    ((try simp only [Exit.inBlock, Exit.then]); refine bodyPost_ret (results_none rfl _ _ _) rfl ?_)
    exact ⟨rfl, rfl⟩
end Go.Proofs.YtfghmlpjbedomaaGreat

namespace Go.Proofs.YtfghmlpjbedomaaGreat
open Go.RowKit
attribute [local go_sem] run_store_fn run_store_nilfn

/-- What an access leaves. -/
abbrev MKeep (w : World) (pm px : Nat) (w' : World) : Prop := Keep (fun j => j ≠ pm ∧ j ≠ px ∧ j < w.heap.size) w w'

set_option maxRecDepth 100000 in
set_option maxHeartbeats 1000000 in
theorem memRead (pm px : Nat) (a : Int) (m : Mm) (w : World) (h : MemAt w pm px .nilFunc m) :
    Calls Tryz.prog 180 #[.pointer (some ⟨pm, 0, none⟩), .int .i64 a] w fun e w' => e = .returned (.int .u64 (m.tell 0 a 0)) ∧ MemAt w' pm px .nilFunc (m.acc 0 a 0 0) ∧ MKeep w pm px w' := by
  have hz := h.lt
  have HH := hide h
  have hA : MemAt (w.alloc (.cells #[.int .u64 0] 37)) pm px .nilFunc m := h.of_blocks (heap_alloc_old _ _ hz.1) (heap_alloc_old _ _ hz.2)
  have hb := heap_alloc_new w (.cells #[.int .u64 0] 37)
  by_cases hin : m.in a
  · obtain ⟨k, rfl⟩ : ∃ k : Nat, a = k := ⟨a.toNat, by unfold Mm.in at hin; omega⟩
    have hk : k < m.words.length := by unfold Mm.in at hin; omega
    have C := accRead pm px k w.heap.size m _ hA hk hb (by omega) (by omega)
    have hT : m.tell 0 k 0 = m.at k := by unfold Mm.tell; rw [if_pos hin]; rfl
    rw [hT]
    clear hA hb hT h hin
    go_enter Tryz.func180, Tryz.ntmps180
    go_wp2_with fail
    refine C.mono ?_
    rintro e w1 ⟨rfl, rfl⟩
    go_wp2
    go_ret
    refine ⟨rfl, HH.out.did0 hk 0 0 ?_ ?_, ?_⟩
    · exact heap_alloc_old _ _ (by simp; exact hz.1)
    · exact (heap_alloc_old _ _ (by simp; exact hz.2)).trans (Below.heap_setCell _ _ _ _ (by simp; exact HH.out.ne.symm))
    · (repeat' (first | exact Keep.refl _ _ | refine Keep.drew ?_ | refine Keep.setCell ?_ ?_ _ | refine Keep.alloc ?_ ?_ _ | (intro k hk; simp at hk ⊢; omega) | (intro hh; simp at hh; done) | (intro hh; simp at hh; omega)))
  · have C := accOut pm px 0 a (.func (.func 182) #[] #[]) (.func (.func 183) #[] #[.pointer (some ⟨w.heap.size, 0, none⟩)]) m _ hA hin
    have hT : m.tell 0 a 0 = 0 := by unfold Mm.tell; rw [if_neg hin]
    rw [hT]
    clear hA hb hT h
    have HN := hide hin
    clear hin
    go_enter Tryz.func180, Tryz.ntmps180
    go_wp2_with fail
    refine C.mono ?_
    rintro e w1 ⟨rfl, rfl⟩
    go_wp2
    go_ret
    refine ⟨rfl, HH.out.acc_out HN.out ?_ ?_, ?_⟩
    · exact heap_alloc_old _ _ (by simp; exact hz.1)
    · exact (heap_alloc_old _ _ (by simp; exact hz.2)).trans (Below.heap_setCell _ _ _ _ (by simp; exact HH.out.ne.symm))
    · (repeat' (first | exact Keep.refl _ _ | refine Keep.drew ?_ | refine Keep.setCell ?_ ?_ _ | refine Keep.alloc ?_ ?_ _ | (intro k hk; simp at hk ⊢; omega) | (intro hh; simp at hh; done) | (intro hh; simp at hh; omega)))

set_option maxRecDepth 100000 in
set_option maxHeartbeats 1000000 in
theorem memWrite (pm px : Nat) (a v : Int) (m : Mm) (w : World) (h : MemAt w pm px .nilFunc m) :
    Calls Tryz.prog 201 #[.pointer (some ⟨pm, 0, none⟩), .int .i64 a, .int .u64 v] w fun e w' => e = .returned (.tuple #[]) ∧ MemAt w' pm px .nilFunc (m.acc 1 a v 0) ∧ MKeep w pm px w' := by
  have hz := h.lt
  have hpp := h.ne
  have HH := hide h
  have hA : MemAt (w.alloc (.cells #[.int .u64 v] 37)) pm px .nilFunc m := h.of_blocks (heap_alloc_old _ _ hz.1) (heap_alloc_old _ _ hz.2)
  have hb : (w.alloc (.cells #[.int .u64 v] 37)).cell? ⟨w.heap.size, 0, none⟩ = some (.int .u64 v) := by go_simp
  by_cases hin : m.in a
  · obtain ⟨k, rfl⟩ : ∃ k : Nat, a = k := ⟨a.toNat, by unfold Mm.in at hin; omega⟩
    have hk : k < m.words.length := by unfold Mm.in at hin; omega
    have C := accWrite pm px k w.heap.size v m _ hA hk hb (by simp) (by omega) (by omega)
    clear hA hb h hin
    go_enter Tryz.func201, Tryz.ntmps201
    go_wp2_with fail
    refine C.mono ?_
    rintro e w1 ⟨rfl, rfl⟩
    go_wp2
    go_end0
    refine ⟨rfl, HH.out.did1 hk v 0 ?_ ?_, ?_⟩
    · (repeat' (first | with_reducible rfl | with_reducible assumption | with_reducible refine heap_set_congr ?_ | with_reducible refine (heap_drew _ _).trans ?_ | with_reducible refine (heap_drewN _ _ _).trans ?_ | (with_reducible refine (heap_alloc_old _ _ ?_).trans ?_) | (with_reducible refine (Below.heap_setCell _ _ _ _ ?_).trans ?_) | omega | (simp; done) | (simp; omega)))
    · (repeat' (first | with_reducible rfl | with_reducible assumption | with_reducible refine heap_set_congr ?_ | with_reducible refine (heap_drew _ _).trans ?_ | with_reducible refine (heap_drewN _ _ _).trans ?_ | (with_reducible refine (heap_alloc_old _ _ ?_).trans ?_) | (with_reducible refine (Below.heap_setCell _ _ _ _ ?_).trans ?_) | omega | (simp; done) | (simp; omega)))
    · (repeat' (first | exact Keep.refl _ _ | refine Keep.drew ?_ | refine Keep.setCell ?_ ?_ _ | refine Keep.alloc ?_ ?_ _ | (intro k hk; simp at hk ⊢; omega) | (intro hh; simp at hh; done) | (intro hh; simp at hh; omega)))
  · have C := accOut pm px 1 a (.func (.func 203) #[] #[]) (.func (.func 204) #[] #[.pointer (some ⟨w.heap.size, 0, none⟩)]) m _ hA hin
    clear hA hb h
    have HN := hide hin
    clear hin
    go_enter Tryz.func201, Tryz.ntmps201
    go_wp2_with fail
    refine C.mono ?_
    rintro e w1 ⟨rfl, rfl⟩
    go_wp2
    go_end0
    refine ⟨rfl, HH.out.acc_out HN.out ?_ ?_, ?_⟩
    · (repeat' (first | with_reducible rfl | with_reducible assumption | with_reducible refine heap_set_congr ?_ | with_reducible refine (heap_drew _ _).trans ?_ | with_reducible refine (heap_drewN _ _ _).trans ?_ | (with_reducible refine (heap_alloc_old _ _ ?_).trans ?_) | (with_reducible refine (Below.heap_setCell _ _ _ _ ?_).trans ?_) | omega | (simp; done) | (simp; omega)))
    · (repeat' (first | with_reducible rfl | with_reducible assumption | with_reducible refine heap_set_congr ?_ | with_reducible refine (heap_drew _ _).trans ?_ | with_reducible refine (heap_drewN _ _ _).trans ?_ | (with_reducible refine (heap_alloc_old _ _ ?_).trans ?_) | (with_reducible refine (Below.heap_setCell _ _ _ _ ?_).trans ?_) | omega | (simp; done) | (simp; omega)))
    · (repeat' (first | exact Keep.refl _ _ | refine Keep.drew ?_ | refine Keep.setCell ?_ ?_ _ | refine Keep.alloc ?_ ?_ _ | (intro k hk; simp at hk ⊢; omega) | (intro hh; simp at hh; done) | (intro hh; simp at hh; omega)))
theorem cntSwap (p : Nat) (w : World) : Calls Tryz.prog 205 #[.pointer (some ⟨p, 1, none⟩)] w fun e w' => e = .returned (.pointer (some ⟨p, 3, none⟩)) ∧ w = w' := by
  go_enter Tryz.func205, Tryz.ntmps205
  go_wp2
  go_ret
  exact ⟨rfl, rfl⟩
theorem doSwapYes (px k b b1 b2 : Nat) (x y : Int) (w : World) (h1 : w.cell? ⟨px, k, none⟩ = some (.int .u64 x)) (h2 : w.cell? ⟨b, 0, none⟩ = some (.int .u64 x)) (h3 : w.cell? ⟨b1, 0, none⟩ = some (.int .u64 y)) (hf : w.frozen? ⟨px, k, none⟩ = false) (hf2 : w.frozen? ⟨b2, 0, none⟩ = false) (hc2 : w.cell? ⟨b2, 0, none⟩ = some (.bool false)) (_hne : b1 ≠ px) (hne2 : b2 ≠ px) :
    Calls Tryz.prog 206 #[.pointer (some ⟨px, k, none⟩), .pointer (some ⟨b, 0, none⟩), .pointer (some ⟨b1, 0, none⟩), .pointer (some ⟨b2, 0, none⟩)] w fun e w' => e = .returned (.tuple #[]) ∧ ∃ n, w' = ((w.drewN n).setCell ⟨px, k, none⟩ (.int .u64 y)).setCell ⟨b2, 0, none⟩ (.bool true) := by
  go_enter Tryz.func206, Tryz.ntmps206
  go_wp2
  go_quiet (fail)
  go_wp2
  go_end0
  exact ⟨rfl, _, rfl⟩
theorem doSwapNo (px k b b1 b2 : Nat) (x z : Int) (w : World) (h1 : w.cell? ⟨px, k, none⟩ = some (.int .u64 x)) (h2 : w.cell? ⟨b, 0, none⟩ = some (.int .u64 z)) (hne : x ≠ z) :
    Calls Tryz.prog 206 #[.pointer (some ⟨px, k, none⟩), .pointer (some ⟨b, 0, none⟩), .pointer (some ⟨b1, 0, none⟩), .pointer (some ⟨b2, 0, none⟩)] w fun e w' => e = .returned (.tuple #[]) ∧ ∃ n, w' = w.drewN n := by
  have d0 : (x == z) = false := by simpa using hne
  go_enter Tryz.func206, Tryz.ntmps206
  go_wp2
  go_quiet (fail)
  go_wp2
  go_end0
  exact ⟨rfl, _, rfl⟩
end Go.Proofs.YtfghmlpjbedomaaGreat
