/- The shared memory (package mem): Swap. -/
import Derived.Test.YtfghmlpjbedomaaGreatBun4
namespace Go.Proofs.YtfghmlpjbedomaaGreat
open Go.RowKit
attribute [local go_sem] run_store_fn run_store_nilfn

set_option maxRecDepth 100000 in
set_option maxHeartbeats 1000000 in
theorem accSwapYes (pm px k b b1 b2 : Nat) (x y : Int) (m : Mm) (w : World) (h : MemAt w pm px .nilFunc m) (hk : k < m.words.length) (he : m.at k = x) (g0 : w.cell? ⟨b, 0, none⟩ = some (.int .u64 x)) (g1 : w.cell? ⟨b1, 0, none⟩ = some (.int .u64 y)) (g2 : w.cell? ⟨b2, 0, none⟩ = some (.bool false)) (g3 : w.frozen? ⟨b2, 0, none⟩ = false)
    (_e0 : b < w.heap.size) (_e1 : b1 < w.heap.size) (_e2 : b2 < w.heap.size) (_n0 : b ≠ px) (n1 : b1 ≠ px) (n2 : b2 ≠ px) (_m0 : b ≠ pm) (_m1 : b1 ≠ pm) (_m2 : b2 ≠ pm) :
    Calls Tryz.prog 181 #[.pointer (some ⟨pm, 0, none⟩), .int .i64 2, .int .i64 k, .func (.func 205) #[] #[], .func (.func 206) #[] #[.pointer (some ⟨b, 0, none⟩), .pointer (some ⟨b1, 0, none⟩), .pointer (some ⟨b2, 0, none⟩)]] w fun e w' =>
      e = .returned (.tuple #[]) ∧ ∃ n, w' = (((w.drewN n).setCell ⟨pm, 3, none⟩ (.int .i64 (wrap64 (wrap64 m.sw + 1)))).setCell ⟨px, k, none⟩ (.int .u64 y)).setCell ⟨b2, 0, none⟩ (.bool true) := by
  obtain ⟨c, a0, a1, a2, a3, a4, a5, a6, hc, hcm⟩ := h.cells
  have f1 := h.frozen 1
  have f2 := h.frozen 2
  have f3 := h.frozen 3
  have f4 := h.frozen 4
  have f5 := h.frozen 5
  obtain ⟨z0, z1⟩ := h.lt
  have hpp := h.ne
  have hl := h.len
  have qF : ∀ W, (binOp .neq 184 .nilFunc .nilFunc).run Tryz.prog W = .ok (.bool false) W := fun _ => by kernel_rfl
  obtain ⟨x0, x1⟩ := h.word hk
  rw [he] at x0
  have d0 : decide (m.words.length ≤ k) = false := by simpa using hk
  clear h he
  go_enter Tryz.func181, Tryz.ntmps181
  go_wp2_with fail
  refine (cntSwap _ _).mono ?_
  rintro e w1 ⟨rfl, rfl⟩
  go_wp2_with fail
  refine (doSwapYes px k b b1 b2 x y _ (by go_simp) (by go_simp) (by go_simp) (by go_simp) (by go_simp) (by go_simp) n1 n2).mono ?_
  rintro e w2 ⟨rfl, n, rfl⟩
  go_wp2
  go_end0
  exact ⟨rfl, n, rfl⟩
set_option maxRecDepth 100000 in
set_option maxHeartbeats 1000000 in
theorem accSwapNo (pm px k b b1 b2 : Nat) (x _y : Int) (m : Mm) (w : World) (h : MemAt w pm px .nilFunc m) (hk : k < m.words.length) (he : m.at k ≠ x) (g0 : w.cell? ⟨b, 0, none⟩ = some (.int .u64 x)) (_e0 : b < w.heap.size) (_m0 : b ≠ pm) :
    Calls Tryz.prog 181 #[.pointer (some ⟨pm, 0, none⟩), .int .i64 2, .int .i64 k, .func (.func 205) #[] #[], .func (.func 206) #[] #[.pointer (some ⟨b, 0, none⟩), .pointer (some ⟨b1, 0, none⟩), .pointer (some ⟨b2, 0, none⟩)]] w fun e w' =>
      e = .returned (.tuple #[]) ∧ ∃ n, w' = (w.drewN n).setCell ⟨pm, 3, none⟩ (.int .i64 (wrap64 (wrap64 m.sw + 1))) := by
  obtain ⟨c, a0, a1, a2, a3, a4, a5, a6, hc, hcm⟩ := h.cells
  have f1 := h.frozen 1
  have f2 := h.frozen 2
  have f3 := h.frozen 3
  have f4 := h.frozen 4
  have f5 := h.frozen 5
  obtain ⟨z0, z1⟩ := h.lt
  have hpp := h.ne
  have hl := h.len
  have qF : ∀ W, (binOp .neq 184 .nilFunc .nilFunc).run Tryz.prog W = .ok (.bool false) W := fun _ => by kernel_rfl
  obtain ⟨x0, x1⟩ := h.word hk
  have d0 : decide (m.words.length ≤ k) = false := by simpa using hk
  clear h
  go_enter Tryz.func181, Tryz.ntmps181
  go_wp2_with fail
  refine (cntSwap _ _).mono ?_
  rintro e w1 ⟨rfl, rfl⟩
  go_wp2_with fail
  refine (doSwapNo px k b b1 b2 (m.at k) x _ (by go_simp) (by go_simp) he).mono ?_
  rintro e w2 ⟨rfl, n, rfl⟩
  go_wp2
  go_end0
  exact ⟨rfl, n, rfl⟩
set_option maxRecDepth 100000 in
set_option maxHeartbeats 1000000 in
theorem memSwap (pm px : Nat) (a x y : Int) (m : Mm) (w : World) (h : MemAt w pm px .nilFunc m) :
    Calls Tryz.prog 202 #[.pointer (some ⟨pm, 0, none⟩), .int .i64 a, .int .u64 x, .int .u64 y] w fun e w' => ∃ d, d = decide (m.tell 2 a x = 1) ∧ e = .returned (.bool d) ∧ MemAt w' pm px .nilFunc (m.acc 2 a x y) ∧ MKeep w pm px w' := by
  have hz := h.lt
  have hpp := h.ne
  have HH := hide h
  have hA : MemAt (((w.alloc (.cells #[.int .u64 x] 37)).alloc (.cells #[.int .u64 y] 37)).alloc (.cells #[.bool false] 4)) pm px .nilFunc m := h.of_blocks (by (repeat' (first | with_reducible rfl | with_reducible assumption | with_reducible refine heap_set_congr ?_ | with_reducible refine (heap_drew _ _).trans ?_ | with_reducible refine (heap_drewN _ _ _).trans ?_ | (with_reducible refine (heap_alloc_old _ _ ?_).trans ?_) | (with_reducible refine (Below.heap_setCell _ _ _ _ ?_).trans ?_) | omega | (simp; done) | (simp; omega)))) (by (repeat' (first | with_reducible rfl | with_reducible assumption | with_reducible refine heap_set_congr ?_ | with_reducible refine (heap_drew _ _).trans ?_ | with_reducible refine (heap_drewN _ _ _).trans ?_ | (with_reducible refine (heap_alloc_old _ _ ?_).trans ?_) | (with_reducible refine (Below.heap_setCell _ _ _ _ ?_).trans ?_) | omega | (simp; done) | (simp; omega))))
  have g0 : (((w.alloc (.cells #[.int .u64 x] 37)).alloc (.cells #[.int .u64 y] 37)).alloc (.cells #[.bool false] 4)).cell? ⟨w.heap.size, 0, none⟩ = some (.int .u64 x) := by go_simp
  have g1 : (((w.alloc (.cells #[.int .u64 x] 37)).alloc (.cells #[.int .u64 y] 37)).alloc (.cells #[.bool false] 4)).cell? ⟨w.heap.size + 1, 0, none⟩ = some (.int .u64 y) := by go_simp
  have g2 : (((w.alloc (.cells #[.int .u64 x] 37)).alloc (.cells #[.int .u64 y] 37)).alloc (.cells #[.bool false] 4)).cell? ⟨w.heap.size + 2, 0, none⟩ = some (.bool false) := by go_simp
  have g3 : (((w.alloc (.cells #[.int .u64 x] 37)).alloc (.cells #[.int .u64 y] 37)).alloc (.cells #[.bool false] 4)).frozen? ⟨w.heap.size + 2, 0, none⟩ = false := by go_simp
  by_cases hin : m.in a
  · obtain ⟨k, rfl⟩ : ∃ k : Nat, a = k := ⟨a.toNat, by unfold Mm.in at hin; omega⟩
    have hk : k < m.words.length := by unfold Mm.in at hin; omega
    by_cases he : m.at k = x
    · have C := accSwapYes pm px k w.heap.size (w.heap.size + 1) (w.heap.size + 2) x y m _ hA hk he g0 g1 g2 g3 (by simp; omega) (by simp) (by simp) (by omega) (by omega) (by omega) (by omega) (by omega) (by omega)
      have hT : decide (m.tell 2 k x = 1) = true := by
        unfold Mm.tell acV
        rw [if_pos hin, if_neg (by decide), if_neg (by decide), if_pos rfl, if_pos he]
        rfl
      have HT := hide hT
      have HE := hide he
      clear hA g0 g1 g2 g3 h hin hT he
      go_enter Tryz.func202, Tryz.ntmps202
      go_wp2_with fail
      refine C.mono ?_
      rintro e w1 ⟨rfl, n, rfl⟩
      go_wp2
      go_ret
      refine ⟨_, HT.out.symm, rfl, HH.out.did2 hk x y HE.out ?_ ?_, ?_⟩
      · (repeat' (first | with_reducible rfl | with_reducible assumption | with_reducible refine heap_set_congr ?_ | with_reducible refine (heap_drew _ _).trans ?_ | with_reducible refine (heap_drewN _ _ _).trans ?_ | (with_reducible refine (heap_alloc_old _ _ ?_).trans ?_) | (with_reducible refine (Below.heap_setCell _ _ _ _ ?_).trans ?_) | omega | (simp; done) | (simp; omega)))
      · (repeat' (first | with_reducible rfl | with_reducible assumption | with_reducible refine heap_set_congr ?_ | with_reducible refine (heap_drew _ _).trans ?_ | with_reducible refine (heap_drewN _ _ _).trans ?_ | (with_reducible refine (heap_alloc_old _ _ ?_).trans ?_) | (with_reducible refine (Below.heap_setCell _ _ _ _ ?_).trans ?_) | omega | (simp; done) | (simp; omega)))
      · (repeat' (first | exact Keep.refl _ _ | refine Keep.drew ?_ | refine Keep.drewN ?_ _ | refine Keep.setCell ?_ ?_ _ | refine Keep.alloc ?_ ?_ _ | (intro k hk; simp at hk ⊢; omega) | (intro hh; simp at hh; done) | (intro hh; simp at hh; omega)))
    · have C := accSwapNo pm px k w.heap.size (w.heap.size + 1) (w.heap.size + 2) x y m _ hA hk he g0 (by simp; omega) (by omega)
      have hT : decide (m.tell 2 k x = 1) = false := by
        unfold Mm.tell acV
        rw [if_pos hin, if_neg (by decide), if_neg (by decide), if_pos rfl, if_neg he]
        rfl
      have HT := hide hT
      have HE := hide he
      clear hA g0 g1 g2 g3 h hin hT he
      go_enter Tryz.func202, Tryz.ntmps202
      go_wp2_with fail
      refine C.mono ?_
      rintro e w1 ⟨rfl, n, rfl⟩
      go_wp2
      go_ret
      refine ⟨_, HT.out.symm, rfl, HH.out.did2no hk x y HE.out ?_ ?_, ?_⟩
      · (repeat' (first | with_reducible rfl | with_reducible assumption | with_reducible refine heap_set_congr ?_ | with_reducible refine (heap_drew _ _).trans ?_ | with_reducible refine (heap_drewN _ _ _).trans ?_ | (with_reducible refine (heap_alloc_old _ _ ?_).trans ?_) | (with_reducible refine (Below.heap_setCell _ _ _ _ ?_).trans ?_) | omega | (simp; done) | (simp; omega)))
      · (repeat' (first | with_reducible rfl | with_reducible assumption | with_reducible refine heap_set_congr ?_ | with_reducible refine (heap_drew _ _).trans ?_ | with_reducible refine (heap_drewN _ _ _).trans ?_ | (with_reducible refine (heap_alloc_old _ _ ?_).trans ?_) | (with_reducible refine (Below.heap_setCell _ _ _ _ ?_).trans ?_) | omega | (simp; done) | (simp; omega)))
      · (repeat' (first | exact Keep.refl _ _ | refine Keep.drew ?_ | refine Keep.drewN ?_ _ | refine Keep.setCell ?_ ?_ _ | refine Keep.alloc ?_ ?_ _ | (intro k hk; simp at hk ⊢; omega) | (intro hh; simp at hh; done) | (intro hh; simp at hh; omega)))
  · have C := accOut pm px 2 a (.func (.func 205) #[] #[]) (.func (.func 206) #[] #[.pointer (some ⟨w.heap.size, 0, none⟩), .pointer (some ⟨w.heap.size + 1, 0, none⟩), .pointer (some ⟨w.heap.size + 2, 0, none⟩)]) m _ hA hin
    have hT : decide (m.tell 2 a x = 1) = false := by
      unfold Mm.tell
      rw [if_neg hin]
      rfl
    have HT := hide hT
    have HN := hide hin
    clear hA g0 g1 g2 g3 h hT hin
    go_enter Tryz.func202, Tryz.ntmps202
    go_wp2_with fail
    refine C.mono ?_
    rintro e w1 ⟨rfl, rfl⟩
    go_wp2
    go_ret
    refine ⟨_, HT.out.symm, rfl, HH.out.acc_out HN.out ?_ ?_, ?_⟩
    · (repeat' (first | with_reducible rfl | with_reducible assumption | with_reducible refine heap_set_congr ?_ | with_reducible refine (heap_drew _ _).trans ?_ | with_reducible refine (heap_drewN _ _ _).trans ?_ | (with_reducible refine (heap_alloc_old _ _ ?_).trans ?_) | (with_reducible refine (Below.heap_setCell _ _ _ _ ?_).trans ?_) | omega | (simp; done) | (simp; omega)))
    · (repeat' (first | with_reducible rfl | with_reducible assumption | with_reducible refine heap_set_congr ?_ | with_reducible refine (heap_drew _ _).trans ?_ | with_reducible refine (heap_drewN _ _ _).trans ?_ | (with_reducible refine (heap_alloc_old _ _ ?_).trans ?_) | (with_reducible refine (Below.heap_setCell _ _ _ _ ?_).trans ?_) | omega | (simp; done) | (simp; omega)))
    · (repeat' (first | exact Keep.refl _ _ | refine Keep.drew ?_ | refine Keep.drewN ?_ _ | refine Keep.setCell ?_ ?_ _ | refine Keep.alloc ?_ ?_ _ | (intro k hk; simp at hk ⊢; omega) | (intro hh; simp at hh; done) | (intro hh; simp at hh; omega)))
end Go.Proofs.YtfghmlpjbedomaaGreat
