import Derived.Test.YtlfingcmekifkaaGreatBun8
namespace Go.Proofs.YtlfingcmekifkaaGreat
open Go.RowKit
attribute [local go_sem] run_store_fn run_store_nilfn
abbrev MKeep (w : World) (pm px : Nat) (w' : World) : Prop := Keep (fun j => j ≠ pm ∧ j ≠ px ∧ j < w.heap.size) w w'
set_option maxRecDepth 100000 in
set_option maxHeartbeats 1000000 in
theorem memRead (pm px : Nat) (a : Int) (m : Mm) (w : World) (h : MemAt w pm px .nilFunc m) :
    Calls Tryz.prog 164 #[.pointer (some ⟨pm, 0, none⟩), .int .i64 a] w fun e w' => e = .returned (.int .u64 (m.tell 0 a 0)) ∧ MemAt w' pm px .nilFunc (m.acc 0 a 0 0) ∧ MKeep w pm px w' := by
  have hz := h.lt
  have HH := hide h
  have hA : MemAt (w.alloc (.cells #[.int .u64 0] 46)) pm px .nilFunc m := h.of_blocks (heap_alloc_old _ _ hz.1) (heap_alloc_old _ _ hz.2)
  have hb := heap_alloc_new w (.cells #[.int .u64 0] 46)
  by_cases hin : m.in a
  · obtain ⟨k, rfl⟩ : ∃ k : Nat, a = k := ⟨a.toNat, by unfold Mm.in at hin; omega⟩
    have hk : k < m.words.length := by unfold Mm.in at hin; omega
    have C := accRead pm px k w.heap.size m _ hA hk hb (by omega) (by omega)
    have hT : m.tell 0 k 0 = m.at k := by unfold Mm.tell; rw [if_pos hin]; rfl
    rw [hT]
    clear hA hb hT h hin
    go_enter Tryz.func164, Tryz.ntmps164
    go_wp2_with fail
    refine C.mono ?_
    rintro e w1 ⟨rfl, rfl⟩
    go_wp2
    go_ret
    refine ⟨rfl, HH.out.did0 hk 0 0 ?_ ?_, ?_⟩
    · exact heap_alloc_old _ _ (by simp; exact hz.1)
    · exact (heap_alloc_old _ _ (by simp; exact hz.2)).trans (Below.heap_setCell _ _ _ _ (by simp; exact HH.out.ne.symm))
    · (repeat' (first | exact Keep.refl _ _ | refine Keep.drew ?_ | refine Keep.setCell ?_ ?_ _ | refine Keep.alloc ?_ ?_ _ | (intro k hk; simp at hk ⊢; omega) | (intro hh; simp at hh; done) | (intro hh; simp at hh; omega)))
  · have C := accOut pm px 0 a (.func (.func 168) #[] #[]) (.func (.func 169) #[] #[.pointer (some ⟨w.heap.size, 0, none⟩)]) m _ hA hin
    have hT : m.tell 0 a 0 = 0 := by unfold Mm.tell; rw [if_neg hin]
    rw [hT]
    clear hA hb hT h
    have HN := hide hin
    clear hin
    go_enter Tryz.func164, Tryz.ntmps164
    go_wp2_with fail
    refine C.mono ?_
    rintro e w1 ⟨rfl, rfl⟩
    go_wp2
    go_ret
    refine ⟨rfl, HH.out.acc_out HN.out ?_ ?_, ?_⟩
    · exact heap_alloc_old _ _ (by simp; exact hz.1)
    · exact (heap_alloc_old _ _ (by simp; exact hz.2)).trans (Below.heap_setCell _ _ _ _ (by simp; exact HH.out.ne.symm))
    · (repeat' (first | exact Keep.refl _ _ | refine Keep.drew ?_ | refine Keep.setCell ?_ ?_ _ | refine Keep.alloc ?_ ?_ _ | (intro k hk; simp at hk ⊢; omega) | (intro hh; simp at hh; done) | (intro hh; simp at hh; omega)))
theorem cntSwap (p : Nat) (w : World) : Calls Tryz.prog 170 #[.pointer (some ⟨p, 1, none⟩)] w fun e w' => e = .returned (.pointer (some ⟨p, 3, none⟩)) ∧ w = w' := by
  go_enter Tryz.func170, Tryz.ntmps170
  go_wp2
  go_ret
  exact ⟨rfl, rfl⟩
theorem doSwapYes (px k b b1 b2 : Nat) (x y : Int) (w : World) (h1 : w.cell? ⟨px, k, none⟩ = some (.int .u64 x)) (h2 : w.cell? ⟨b, 0, none⟩ = some (.int .u64 x)) (h3 : w.cell? ⟨b1, 0, none⟩ = some (.int .u64 y)) (hf : w.frozen? ⟨px, k, none⟩ = false) (hf2 : w.frozen? ⟨b2, 0, none⟩ = false) (hc2 : w.cell? ⟨b2, 0, none⟩ = some (.bool false)) (_hne : b1 ≠ px) (hne2 : b2 ≠ px) :
    Calls Tryz.prog 171 #[.pointer (some ⟨px, k, none⟩), .pointer (some ⟨b, 0, none⟩), .pointer (some ⟨b1, 0, none⟩), .pointer (some ⟨b2, 0, none⟩)] w fun e w' => e = .returned (.tuple #[]) ∧ ∃ n, w' = ((w.drewN n).setCell ⟨px, k, none⟩ (.int .u64 y)).setCell ⟨b2, 0, none⟩ (.bool true) := by
  go_enter Tryz.func171, Tryz.ntmps171
  go_wp2
  go_quiet (fail)
  go_wp2
  go_end0
  exact ⟨rfl, _, rfl⟩
theorem doSwapNo (px k b b1 b2 : Nat) (x z : Int) (w : World) (h1 : w.cell? ⟨px, k, none⟩ = some (.int .u64 x)) (h2 : w.cell? ⟨b, 0, none⟩ = some (.int .u64 z)) (hne : x ≠ z) :
    Calls Tryz.prog 171 #[.pointer (some ⟨px, k, none⟩), .pointer (some ⟨b, 0, none⟩), .pointer (some ⟨b1, 0, none⟩), .pointer (some ⟨b2, 0, none⟩)] w fun e w' => e = .returned (.tuple #[]) ∧ ∃ n, w' = w.drewN n := by
  have d0 : (x == z) = false := by simpa using hne
  go_enter Tryz.func171, Tryz.ntmps171
  go_wp2
  go_quiet (fail)
  go_wp2
  go_end0
  exact ⟨rfl, _, rfl⟩
end Go.Proofs.YtlfingcmekifkaaGreat

namespace Go.Proofs.YtlfingcmekifkaaGreat
open Go.RowKit
attribute [local go_sem] run_store_fn run_store_nilfn
set_option maxRecDepth 100000 in
set_option maxHeartbeats 1000000 in
theorem accSwapYes (pm px k b b1 b2 : Nat) (x y : Int) (m : Mm) (w : World) (h : MemAt w pm px .nilFunc m) (hk : k < m.words.length) (he : m.at k = x) (g0 : w.cell? ⟨b, 0, none⟩ = some (.int .u64 x)) (g1 : w.cell? ⟨b1, 0, none⟩ = some (.int .u64 y)) (g2 : w.cell? ⟨b2, 0, none⟩ = some (.bool false)) (g3 : w.frozen? ⟨b2, 0, none⟩ = false)
    (_e0 : b < w.heap.size) (_e1 : b1 < w.heap.size) (_e2 : b2 < w.heap.size) (_n0 : b ≠ px) (n1 : b1 ≠ px) (n2 : b2 ≠ px) (_m0 : b ≠ pm) (_m1 : b1 ≠ pm) (_m2 : b2 ≠ pm) :
    Calls Tryz.prog 167 #[.pointer (some ⟨pm, 0, none⟩), .int .i64 2, .int .i64 k, .func (.func 170) #[] #[], .func (.func 171) #[] #[.pointer (some ⟨b, 0, none⟩), .pointer (some ⟨b1, 0, none⟩), .pointer (some ⟨b2, 0, none⟩)]] w fun e w' =>
      e = .returned (.tuple #[]) ∧ ∃ n, w' = (((w.drewN n).setCell ⟨pm, 3, none⟩ (.int .i64 (wrap64 (wrap64 m.sw + 1)))).setCell ⟨px, k, none⟩ (.int .u64 y)).setCell ⟨b2, 0, none⟩ (.bool true) := by
  obtain ⟨c, a0, a1, a2, a3, a4, a5, a6, hc, hcm⟩ := h.cells
  have f1 := h.frozen 1
  have f2 := h.frozen 2
  have f3 := h.frozen 3
  have f4 := h.frozen 4
  have f5 := h.frozen 5
  obtain ⟨z0, z1⟩ := h.lt
  have hpp := h.ne
  have hl := h.len
  have qF : ∀ W, (binOp .neq 156 .nilFunc .nilFunc).run Tryz.prog W = .ok (.bool false) W := fun _ => by kernel_rfl
  obtain ⟨x0, x1⟩ := h.word hk
  rw [he] at x0
  have d0 : decide (m.words.length ≤ k) = false := by simpa using hk
  clear h he
  go_enter Tryz.func167, Tryz.ntmps167
  go_wp2_with fail
  refine (cntSwap _ _).mono ?_
  rintro e w1 ⟨rfl, rfl⟩
  go_wp2_with fail
  refine (doSwapYes px k b b1 b2 x y _ (by go_simp) (by go_simp) (by go_simp) (by go_simp) (by go_simp) (by go_simp) n1 n2).mono ?_
  rintro e w2 ⟨rfl, n, rfl⟩
  go_wp2
  go_end0
  exact ⟨rfl, n, rfl⟩
set_option maxRecDepth 100000 in
set_option maxHeartbeats 1000000 in
theorem accSwapNo (pm px k b b1 b2 : Nat) (x _y : Int) (m : Mm) (w : World) (h : MemAt w pm px .nilFunc m) (hk : k < m.words.length) (he : m.at k ≠ x) (g0 : w.cell? ⟨b, 0, none⟩ = some (.int .u64 x)) (_e0 : b < w.heap.size) (_m0 : b ≠ pm) :
    Calls Tryz.prog 167 #[.pointer (some ⟨pm, 0, none⟩), .int .i64 2, .int .i64 k, .func (.func 170) #[] #[], .func (.func 171) #[] #[.pointer (some ⟨b, 0, none⟩), .pointer (some ⟨b1, 0, none⟩), .pointer (some ⟨b2, 0, none⟩)]] w fun e w' =>
      e = .returned (.tuple #[]) ∧ ∃ n, w' = (w.drewN n).setCell ⟨pm, 3, none⟩ (.int .i64 (wrap64 (wrap64 m.sw + 1))) := by
  obtain ⟨c, a0, a1, a2, a3, a4, a5, a6, hc, hcm⟩ := h.cells
  have f1 := h.frozen 1
  have f2 := h.frozen 2
  have f3 := h.frozen 3
  have f4 := h.frozen 4
  have f5 := h.frozen 5
  obtain ⟨z0, z1⟩ := h.lt
  have hpp := h.ne
  have hl := h.len
  have qF : ∀ W, (binOp .neq 156 .nilFunc .nilFunc).run Tryz.prog W = .ok (.bool false) W := fun _ => by kernel_rfl
  obtain ⟨x0, x1⟩ := h.word hk
  have d0 : decide (m.words.length ≤ k) = false := by simpa using hk
  clear h
  go_enter Tryz.func167, Tryz.ntmps167
  go_wp2_with fail
  refine (cntSwap _ _).mono ?_
  rintro e w1 ⟨rfl, rfl⟩
  go_wp2_with fail
  refine (doSwapNo px k b b1 b2 (m.at k) x _ (by go_simp) (by go_simp) he).mono ?_
  rintro e w2 ⟨rfl, n, rfl⟩
  go_wp2
  go_end0
  exact ⟨rfl, n, rfl⟩
set_option maxRecDepth 100000 in
set_option maxHeartbeats 1000000 in
theorem memSwap (pm px : Nat) (a x y : Int) (m : Mm) (w : World) (h : MemAt w pm px .nilFunc m) :
    Calls Tryz.prog 165 #[.pointer (some ⟨pm, 0, none⟩), .int .i64 a, .int .u64 x, .int .u64 y] w fun e w' => ∃ d, d = decide (m.tell 2 a x = 1) ∧ e = .returned (.bool d) ∧ MemAt w' pm px .nilFunc (m.acc 2 a x y) ∧ MKeep w pm px w' := by
  have hz := h.lt
  have hpp := h.ne
  have HH := hide h
  have hA : MemAt (((w.alloc (.cells #[.int .u64 x] 46)).alloc (.cells #[.int .u64 y] 46)).alloc (.cells #[.bool false] 4)) pm px .nilFunc m := h.of_blocks (by (repeat' (first | with_reducible rfl | with_reducible assumption | with_reducible refine heap_set_congr ?_ | with_reducible refine (heap_drew _ _).trans ?_ | with_reducible refine (heap_drewN _ _ _).trans ?_ | (with_reducible refine (heap_alloc_old _ _ ?_).trans ?_) | (with_reducible refine (Below.heap_setCell _ _ _ _ ?_).trans ?_) | omega | (simp; done) | (simp; omega)))) (by (repeat' (first | with_reducible rfl | with_reducible assumption | with_reducible refine heap_set_congr ?_ | with_reducible refine (heap_drew _ _).trans ?_ | with_reducible refine (heap_drewN _ _ _).trans ?_ | (with_reducible refine (heap_alloc_old _ _ ?_).trans ?_) | (with_reducible refine (Below.heap_setCell _ _ _ _ ?_).trans ?_) | omega | (simp; done) | (simp; omega))))
  have g0 : (((w.alloc (.cells #[.int .u64 x] 46)).alloc (.cells #[.int .u64 y] 46)).alloc (.cells #[.bool false] 4)).cell? ⟨w.heap.size, 0, none⟩ = some (.int .u64 x) := by go_simp
  have g1 : (((w.alloc (.cells #[.int .u64 x] 46)).alloc (.cells #[.int .u64 y] 46)).alloc (.cells #[.bool false] 4)).cell? ⟨w.heap.size + 1, 0, none⟩ = some (.int .u64 y) := by go_simp
  have g2 : (((w.alloc (.cells #[.int .u64 x] 46)).alloc (.cells #[.int .u64 y] 46)).alloc (.cells #[.bool false] 4)).cell? ⟨w.heap.size + 2, 0, none⟩ = some (.bool false) := by go_simp
  have g3 : (((w.alloc (.cells #[.int .u64 x] 46)).alloc (.cells #[.int .u64 y] 46)).alloc (.cells #[.bool false] 4)).frozen? ⟨w.heap.size + 2, 0, none⟩ = false := by go_simp
  by_cases hin : m.in a
  · obtain ⟨k, rfl⟩ : ∃ k : Nat, a = k := ⟨a.toNat, by unfold Mm.in at hin; omega⟩
    have hk : k < m.words.length := by unfold Mm.in at hin; omega
    by_cases he : m.at k = x
    · have C := accSwapYes pm px k w.heap.size (w.heap.size + 1) (w.heap.size + 2) x y m _ hA hk he g0 g1 g2 g3 (by simp; omega) (by simp) (by simp) (by omega) (by omega) (by omega) (by omega) (by omega) (by omega)
      have hT : decide (m.tell 2 k x = 1) = true := by
        unfold Mm.tell acV
        rw [if_pos hin, if_neg (by decide), if_neg (by decide), if_pos rfl, if_pos he]
        rfl
      have HT := hide hT
      have HE := hide he
      clear hA g0 g1 g2 g3 h hin hT he
      go_enter Tryz.func165, Tryz.ntmps165
      go_wp2_with fail
      refine C.mono ?_
      rintro e w1 ⟨rfl, n, rfl⟩
      go_wp2
      go_ret
      refine ⟨_, HT.out.symm, rfl, HH.out.did2 hk x y HE.out ?_ ?_, ?_⟩
      · (repeat' (first | with_reducible rfl | with_reducible assumption | with_reducible refine heap_set_congr ?_ | with_reducible refine (heap_drew _ _).trans ?_ | with_reducible refine (heap_drewN _ _ _).trans ?_ | (with_reducible refine (heap_alloc_old _ _ ?_).trans ?_) | (with_reducible refine (Below.heap_setCell _ _ _ _ ?_).trans ?_) | omega | (simp; done) | (simp; omega)))
      · (repeat' (first | with_reducible rfl | with_reducible assumption | with_reducible refine heap_set_congr ?_ | with_reducible refine (heap_drew _ _).trans ?_ | with_reducible refine (heap_drewN _ _ _).trans ?_ | (with_reducible refine (heap_alloc_old _ _ ?_).trans ?_) | (with_reducible refine (Below.heap_setCell _ _ _ _ ?_).trans ?_) | omega | (simp; done) | (simp; omega)))
      · (repeat' (first | exact Keep.refl _ _ | refine Keep.drew ?_ | refine Keep.drewN ?_ _ | refine Keep.setCell ?_ ?_ _ | refine Keep.alloc ?_ ?_ _ | (intro k hk; simp at hk ⊢; omega) | (intro hh; simp at hh; done) | (intro hh; simp at hh; omega)))
    · have C := accSwapNo pm px k w.heap.size (w.heap.size + 1) (w.heap.size + 2) x y m _ hA hk he g0 (by simp; omega) (by omega)
      have hT : decide (m.tell 2 k x = 1) = false := by
        unfold Mm.tell acV
        rw [if_pos hin, if_neg (by decide), if_neg (by decide), if_pos rfl, if_neg he]
        rfl
      have HT := hide hT
      have HE := hide he
      clear hA g0 g1 g2 g3 h hin hT he
      go_enter Tryz.func165, Tryz.ntmps165
      go_wp2_with fail
      refine C.mono ?_
      rintro e w1 ⟨rfl, n, rfl⟩
      go_wp2
      go_ret
      refine ⟨_, HT.out.symm, rfl, HH.out.did2no hk x y HE.out ?_ ?_, ?_⟩
      · (repeat' (first | with_reducible rfl | with_reducible assumption | with_reducible refine heap_set_congr ?_ | with_reducible refine (heap_drew _ _).trans ?_ | with_reducible refine (heap_drewN _ _ _).trans ?_ | (with_reducible refine (heap_alloc_old _ _ ?_).trans ?_) | (with_reducible refine (Below.heap_setCell _ _ _ _ ?_).trans ?_) | omega | (simp; done) | (simp; omega)))
      · (repeat' (first | with_reducible rfl | with_reducible assumption | with_reducible refine heap_set_congr ?_ | with_reducible refine (heap_drew _ _).trans ?_ | with_reducible refine (heap_drewN _ _ _).trans ?_ | (with_reducible refine (heap_alloc_old _ _ ?_).trans ?_) | (with_reducible refine (Below.heap_setCell _ _ _ _ ?_).trans ?_) | omega | (simp; done) | (simp; omega)))
      · (repeat' (first | exact Keep.refl _ _ | refine Keep.drew ?_ | refine Keep.drewN ?_ _ | refine Keep.setCell ?_ ?_ _ | refine Keep.alloc ?_ ?_ _ | (intro k hk; simp at hk ⊢; omega) | (intro hh; simp at hh; done) | (intro hh; simp at hh; omega)))
  · have C := accOut pm px 2 a (.func (.func 170) #[] #[]) (.func (.func 171) #[] #[.pointer (some ⟨w.heap.size, 0, none⟩), .pointer (some ⟨w.heap.size + 1, 0, none⟩), .pointer (some ⟨w.heap.size + 2, 0, none⟩)]) m _ hA hin
    have hT : decide (m.tell 2 a x = 1) = false := by
      unfold Mm.tell
      rw [if_neg hin]
      rfl
    have HT := hide hT
    have HN := hide hin
    clear hA g0 g1 g2 g3 h hT hin
    go_enter Tryz.func165, Tryz.ntmps165
    go_wp2_with fail
    refine C.mono ?_
    rintro e w1 ⟨rfl, rfl⟩
    go_wp2
    go_ret
    refine ⟨_, HT.out.symm, rfl, HH.out.acc_out HN.out ?_ ?_, ?_⟩
    · (repeat' (first | with_reducible rfl | with_reducible assumption | with_reducible refine heap_set_congr ?_ | with_reducible refine (heap_drew _ _).trans ?_ | with_reducible refine (heap_drewN _ _ _).trans ?_ | (with_reducible refine (heap_alloc_old _ _ ?_).trans ?_) | (with_reducible refine (Below.heap_setCell _ _ _ _ ?_).trans ?_) | omega | (simp; done) | (simp; omega)))
    · (repeat' (first | with_reducible rfl | with_reducible assumption | with_reducible refine heap_set_congr ?_ | with_reducible refine (heap_drew _ _).trans ?_ | with_reducible refine (heap_drewN _ _ _).trans ?_ | (with_reducible refine (heap_alloc_old _ _ ?_).trans ?_) | (with_reducible refine (Below.heap_setCell _ _ _ _ ?_).trans ?_) | omega | (simp; done) | (simp; omega)))
    · (repeat' (first | exact Keep.refl _ _ | refine Keep.drew ?_ | refine Keep.drewN ?_ _ | refine Keep.setCell ?_ ?_ _ | refine Keep.alloc ?_ ?_ _ | (intro k hk; simp at hk ⊢; omega) | (intro hh; simp at hh; done) | (intro hh; simp at hh; omega)))
end Go.Proofs.YtlfingcmekifkaaGreat

namespace Go.Proofs.YtlfingcmekifkaaGreat
open Go.RowKit
section
variable {w w' : World} {ad : Adr} {Mu Mu' : Nat → Prop} {lw : Lw}
theorem WL.ne (h : WL w ad Mu lw) : ad.pw ≠ ad.pm ∧ ad.pw ≠ ad.px ∧ ad.pw ≠ ad.pt ∧ ad.pt ≠ ad.pm ∧ ad.pt ≠ ad.px ∧ ad.pm ≠ ad.px := by
  obtain ⟨f', ⟨c2, h2, _⟩, _⟩ := h.cells
  obtain ⟨_, h3, _⟩ := h.mem.blk
  obtain ⟨_, h4, _⟩ := h.mem.row
  obtain ⟨_, ⟨_, _, h5, _⟩, _⟩ := h.notes
  refine ⟨?_, ?_, ?_, ?_, ?_, h.mem.ne⟩ <;> intro e
  · rw [e, h3] at h2; injection h2 with h1; injection h1 with _ h1 _; exact absurd h1 (by decide)
  · rw [e, h4] at h2; injection h2 with h1; injection h1 with _ h1 _; exact absurd h1 (by decide)
  · rw [e, h5] at h2; cases h2
  · rw [e, h3] at h5; cases h5
  · rw [e, h4] at h5; cases h5
theorem WL.lt (h : WL w ad Mu lw) : ad.pw < w.heap.size ∧ ad.pm < w.heap.size ∧ ad.px < w.heap.size ∧ ad.pt < w.heap.size := by
  obtain ⟨f', h2, _⟩ := h.cells
  obtain ⟨_, ⟨_, _, h5, _⟩, _⟩ := h.notes
  exact ⟨h2.lt, h.mem.lt.1, h.mem.lt.2, (Array.getElem?_eq_some_iff.1 h5).1⟩
theorem WL.ptr (h : WL w ad Mu lw) : w.cell? ⟨ad.pw, 0, none⟩ = some (.pointer (some ⟨ad.pm, 0, none⟩)) := by
  obtain ⟨f, f1, f2, _⟩ := h.cells
  rw [← f2]
  exact f1.cell (i := 0) (by omega)
end
def NoAt (w : World) (F : Nat → Prop) (v : Value) (e : Int) : Prop := ∃ b b1, v = onceV b ∧ OnceNo w b b1 e ∧ ∀ k, F k ↔ k = b ∨ k = b1
def NoAl (w : World) (F : Nat → Prop) (v : Value) (e : Int) : Prop := ∃ b b1, v = onceV b ∧ w.heap[b]? = some (.cells #[.func (.func 120) #[] #[.pointer (some ⟨b1, 0, none⟩)], .int .i64 e, .int .u64 0, .slice none 0 0] 220 (0, 0)) ∧ ∀ k, F k ↔ k = b ∨ k = b1
section
variable {w w' : World} {F S : Nat → Prop} {v : Value} {e : Int}
theorem NoAt.keep (h : NoAt w F v e) (hk : Keep S w w') (hS : ∀ k, F k → S k) : NoAt w' F v e := by
  obtain ⟨b, b1, h1, h2, h3⟩ := h
  have hb := hk.block b (hS b ((h3 b).2 (Or.inl rfl)))
  refine ⟨b, b1, h1, ⟨?_, (hk.block b1 (hS b1 ((h3 b1).2 (Or.inr rfl)))).trans h2.box⟩, h3⟩
  rw [hb]
  exact h2.once
theorem NoAl.keep (h : NoAl w F v e) (hk : Keep S w w') (hS : ∀ k, F k → S k) : NoAl w' F v e := by
  obtain ⟨b, b1, h1, h2, h3⟩ := h
  exact ⟨b, b1, h1, (hk.block b (hS b ((h3 b).2 (Or.inl rfl)))).trans h2, h3⟩
theorem NoAt.lt (h : NoAt w F v e) : ∀ k, F k → k < w.heap.size := by
  obtain ⟨b, b1, h1, h2, h3⟩ := h
  intro k hk
  rcases (h3 k).1 hk with rfl | rfl
  · rcases h2.once with h | h <;> exact (Array.getElem?_eq_some_iff.1 h).1
  · exact (Array.getElem?_eq_some_iff.1 h2.box).1
theorem NoAt.iface (h : NoAt w F v e) : ∃ t u, v = .iface t u := by
  obtain ⟨b, b1, h1, _⟩ := h
  exact ⟨_, _, h1⟩
theorem NoAt.late (h : NoAt w F v e) : LateNo v := by
  obtain ⟨b, b1, rfl, _⟩ := h
  exact onceLateNo b
theorem NoAt.step (h : NoAt w F v e) (pw : Nat) : ∃ f r, Disp Tryz.prog v "Step" f r ∧ Calls Tryz.prog f #[r, .pointer (some ⟨pw, 0, none⟩)] w fun x w' => x = .returned (.bool true) ∧ NoAt w' F v e ∧ NoAl w' F v e ∧ Keep (fun k => k < w.heap.size ∧ ¬ F k) w w' := by
  obtain ⟨b, b1, rfl, h2, h3⟩ := h
  refine ⟨_, _, onceDispStep b, (refuseStep b b1 pw e w h2).mono ?_⟩
  rintro x w' ⟨rfl, a1, a2, a3⟩
  exact ⟨rfl, ⟨b, b1, rfl, a1, h3⟩, ⟨b, b1, rfl, a2, h3⟩, a3.mono (fun k hk => ⟨fun e => hk.2 ((h3 k).2 (Or.inl e)), hk.1⟩)⟩
theorem NoAl.ans (h : NoAl w F v e) (Mu : Nat → Prop) : ∃ f r, Disp Tryz.prog v "Answer" f r ∧ Calls Tryz.prog f #[r] w fun x w' => ∃ lv kv, x = .returned (.tuple #[.agg #[.int .i64 e, .int .u64 0, lv], kv]) ∧ LstIs w' Mu lv [] ∧ KeyIs w' Mu kv [] ∧ Below w.heap.size w w' := by
  obtain ⟨b, b1, rfl, h2, h3⟩ := h
  refine ⟨_, _, onceDispAnswer b, (onceAnswer b e 0 (.slice none 0 0) _ w h2 ⟨_, _, _, rfl⟩).mono ?_⟩
  rintro x w' ⟨rfl, hb⟩
  exact ⟨_, _, rfl, LstIs.nil _ _, KeyIs.nil _ _, hb⟩
theorem noAt_made {b b1 : Nat} (h : OnceNo w b b1 e) : NoAt w (fun k => k = b ∨ k = b1) (onceV b) e := ⟨b, b1, rfl, h, fun _ => Iff.rfl⟩
end
theorem WL.memTo2 {w w' : World} {ad : Adr} {Mu Mu' S : Nat → Prop} {lw : Lw} (h : WL w ad Mu lw) {m' : Mm} (hm : MemAt w' ad.pm ad.px .nilFunc m') (hk : Keep S w w') (hS : ∀ k, k < w.heap.size → ¬ Mu k → S k) (hp : S ad.pw ∧ S ad.pt) (hM : ∀ k, k < w.heap.size → Mu' k → Mu k) : WL w' ad Mu' { lw with mem := m' } := by
  obtain ⟨f, f1, f2, f3, f4, f5⟩ := h.cells
  obtain ⟨m, m1, m2⟩ := h.notes
  refine ⟨hm, ⟨f, rowIs_keep f1 hk hp.1, f2, f3, f4, fun t ht => ⟨(f5 t ht).1, (f5 t ht).2.keep hk hS hM⟩⟩, ⟨m, m1.of_block (hk.block _ hp.2), fun a => ?_⟩⟩
  rcases m2 a with h | ⟨v, hv, hk'⟩
  · exact .inl h
  · exact .inr ⟨v, hv, hk'.keep hk hS hM⟩
end Go.Proofs.YtlfingcmekifkaaGreat

namespace Go.Proofs.YtlfingcmekifkaaGreat
open Go.RowKit
def zeroRep : Obj := .cells #[.slice none 0 0, .slice none 0 0, .int .i64 0, .int .i64 0, .int .i64 0, .int .i64 0, .int .i64 0, .int .i64 0, .int .i64 0] 32
def zeroV : Value := .agg #[.slice none 0 0, .slice none 0 0, .int .i64 0, .int .i64 0, .int .i64 0, .int .i64 0, .int .i64 0, .int .i64 0, .int .i64 0]
def OutPost (E : Int) (evs : List Ep) (m : Mm) (now idle : Int) (w : World) (e : Ending) (w' : World) : Prop :=
  (E ≠ 0 ∧ e = .returned (.tuple #[zeroV, .int .i64 E]) ∧ Below w.heap.size w w') ∨
  (E = 0 ∧ ∃ ev B Mu g c, e = .returned (.tuple #[repV ev (.slice (some ⟨g, 0, none⟩) m.words.length c) m now idle, .int .i64 0]) ∧ EvsAt w' B Mu ev evs ∧ w.heap.size ≤ B ∧ WRow w' w.heap.size (.slice (some ⟨g, 0, none⟩) m.words.length c) m.words ∧ Below w.heap.size w w')
def MidPost (b0 : Nat) (Fo : Nat → Prop) (evs : List Ep) (m : Mm) (now idle : Int) (w : World) (e : Ending) (w' : World) : Prop :=
  ∃ Ae ce B Mu g c, e = .returned (.tuple #[repV (.slice Ae evs.length ce) (.slice (some ⟨g, 0, none⟩) m.words.length c) m now idle, .int .i64 0]) ∧ EvsAt w' B Mu (.slice Ae evs.length ce) evs ∧ w.heap.size ≤ B ∧ WRow w' w.heap.size (.slice (some ⟨g, 0, none⟩) m.words.length c) m.words ∧
    Keep (fun k => k < w.heap.size ∧ ¬ Fo k ∧ k ≠ b0) w w' ∧ w'.heap[b0]? = some zeroRep ∧ Mu b0
theorem loomPlayMid {M O : Type} {T : Th M O} {n : Int} {AO : Option Addr} {co : Nat} {a : Addr} {nw cw : Nat} {words : List Int} {A : Option Addr} {m c : Nat} {cs : List Cl} {Ap : Option Addr} {np cp : Nat} {picks : List Int} {o : O} {Fo : Nat → Prop} {w : World} (hT : T.Ok) (hw : SlW w (.slice (some a) nw cw) words) (hwl : words.length = nw) (hw6 : nw ≤ 65536) (h : SlCl w (.slice A m c) cs) (hm : cs.length = m) (hp : SlI w (.slice Ap np cp) picks) (hpl : picks.length = np)
    (hO : T.OB w Fo o) (hV : Sl (fun v : Value => [v]) 1 w (.slice AO T.objs.length co) T.objs) (hVF : ∀ a : Addr, AO = some a → 0 < T.objs.length → ¬ Fo a.block) (hCF : ∀ a : Addr, A = some a → 0 < cs.length → ¬ Fo a.block) (hPF : ∀ a : Addr, Ap = some a → 0 < picks.length → ¬ Fo a.block)
    (hcu : ∀ c ∈ cs, ClU c) (hgd : T.good o (Ps.new words o cs.length : Ps M O).lw (fun _ => none)) (hE : chkE n cs picks.length = 0) {b0 : Nat} (hb0 : w.heap[b0]? = some zeroRep) (hbF : ¬ Fo b0) (hbV : ∀ a : Addr, AO = some a → a.block ≠ b0) (hbC : ∀ a : Addr, A = some a → 0 < cs.length → a.block ≠ b0) (hbP : ∀ a : Addr, Ap = some a → 0 < picks.length → a.block ≠ b0) :
    Calls Tryz.prog 23 #[.int .i64 n, .slice AO T.objs.length co, .slice (some a) nw cw, .slice A m c, .slice Ap np cp] w (MidPost b0 Fo (((Ps.new words o cs.length).play T.G cs picks).ends T.G) ((Ps.new words o cs.length).play T.G cs picks).lw.mem ((Ps.new words o cs.length).play T.G cs picks).lw.now ((Ps.new words o cs.length).play T.G cs picks).idle w) := by
  have N := loomPlay (T := T.hold b0 zeroRep) (n := n) (Fo := fun k => Fo k ∨ k = b0) (Th.hold_ok hT b0 zeroRep) hw hwl hw6 h hm hp hpl ⟨Fo, hO, fun k => Iff.rfl, hbF, hb0⟩ hV (fun a e hl hk => by rcases hk with hk | hk; exact hVF a e hl hk; exact hbV a e hk) (fun a e hl hk => by rcases hk with hk | hk; exact hCF a e hl hk; exact hbC a e hl hk) (fun a e hl hk => by rcases hk with hk | hk; exact hPF a e hl hk; exact hbP a e hl hk) hcu hgd
  refine N.mono ?_
  rintro e w' (⟨hE', _⟩ | ⟨_, ev, B, Mu, g, c', rfl, h1, h2, h3, h4, Fo', ⟨F1, o1, o2, o3, o4⟩, h6⟩)
  · exact absurd hE hE'
  · obtain ⟨raw, hrow, hrl, hre⟩ := h1.row
    obtain ⟨Ae, ce, rfl⟩ := own_slice hrow
    exact ⟨Ae, ce, B, Mu, g, c', rfl, h1, h2, h3, h4.mono (fun k hk => ⟨hk.1, fun e => by rcases e with e | e; exact hk.2.1 e; exact hk.2.2 e⟩), o4, h6 b0 ((o2 b0).2 (Or.inr rfl))⟩
theorem out_done {b0 : Nat} {Fo : Nat → Prop} {evs : List Ep} {m : Mm} {now idle : Int} {w0 w w5 : World} {Ae : Option Addr} {ce B g c : Nat} {Mu : Nat → Prop} (CR : List Value) (h1 : EvsAt w5 B Mu (.slice Ae evs.length ce) evs) (h2 : w.heap.size ≤ B) (h3 : WRow w5 w.heap.size (.slice (some ⟨g, 0, none⟩) m.words.length c) m.words) (h4 : Keep (fun k => k < w.heap.size ∧ ¬ Fo k ∧ k ≠ b0) w w5) (h6 : Mu b0)
    (hw : Below w0.heap.size w0 w) (hF : ∀ k, Fo k → w0.heap.size ≤ k) (hb : w0.heap.size ≤ b0) (hbw : b0 < w.heap.size) :
    OutPost 0 evs m now idle w0 (.returned (.tuple #[repV (.slice Ae evs.length ce) (.slice (some ⟨g, 0, none⟩) m.words.length c) m now idle, .int .i64 0])) (w5.setCells b0 0 CR) := by
  have hz := hw.size
  have hk := Keep.setCells (K := fun k => k ≠ b0) (b := b0) (Keep.refl _ w5) (by simp) 0 CR
  refine Or.inr ⟨rfl, _, B, Mu, g, c, rfl, h1.keep hk (fun k _ h e => h (e ▸ h6)) (fun k _ hm => hm) (fun k hk e => ?_), Nat.le_trans hz h2, ?_, ?_⟩
  · obtain ⟨raw, hrow, _⟩ := h1.row
    have := (World.ownsRow.lt hrow k hk).1
    omega
  · refine owns_base (owns_keepV h3 hk (fun k hk => ?_)) hz
    have := (World.ownsRow.lt h3 k hk).1
    omega
  · have k1 : Keep (fun k => k < w0.heap.size) w0 w5 := (Keep.of_below hw (fun k hk => hk)).trans (h4.mono (fun k hk => ⟨Nat.lt_of_lt_of_le hk hz, fun h => by have := hF k h; omega, by omega⟩))
    exact (k1.trans (hk.mono (fun k hk e => by omega))).below (fun k hk => hk)
theorem zero_there {w : World} {b : Nat} (h : w.heap[b]? = some zeroRep) (CR : List Value) (hl : CR.length = 9) : w.there b 0 CR.length := by
  intro j hj
  refine ⟨?_, frozen_of_row w _ _ _ _ h⟩
  rw [cell_of_row w _ _ _ _ _ h]
  simp only [Nat.zero_add]
  exact isSome_lt (by rw [hl] at hj; exact hj)
theorem made_words (W : World) (N g : Nat) (hg : g = W.heap.size) (hN : N ≤ maxLen) : SlW (W.alloc (.cells (madeCells #[.int .u64 0] N) 46)) (.slice (some ⟨g, 0, none⟩) N N) (List.replicate N 0) := by
  subst hg
  have := Sl.of_block (enc := ntEnc .u64) (sz := 1) (xs := List.replicate N (0 : Int)) (c := N) (heap_alloc_new W (.cells (madeCells #[.int .u64 0] N) 46)) (by simp) hN (fun k x hx j u hu => by
    have hk : k < N := by have := (List.getElem?_eq_some_iff.1 hx).1; simpa using this
    have hx0 : x = 0 := by
      have h1 := List.getElem?_eq_some_iff.1 hx
      obtain ⟨_, h2⟩ := h1
      simpa using h2.symm
    subst hx0
    rcases j with _ | j
    · simp [ntEnc] at hu
      subst hu
      rw [← Array.getElem?_toList, toList_madeCells_one]
      simp [hk]
    · simp [ntEnc] at hu)
  rw [List.length_replicate] at this
  exact this
theorem made_sl {W : World} {N g : Nat} (h : W.heap[g]? = some (.cells (madeCells #[.int .u64 0] N) 46 (0, 0))) (hN : N ≤ maxLen) : SlW W (.slice (some ⟨g, 0, none⟩) N N) (List.replicate N 0) := by
  have := Sl.of_block (enc := ntEnc .u64) (sz := 1) (xs := List.replicate N (0 : Int)) (c := N) h (by simp) hN (fun k x hx j u hu => by
    have hk : k < N := by have := (List.getElem?_eq_some_iff.1 hx).1; simpa using this
    have hx0 : x = 0 := by
      have h1 := List.getElem?_eq_some_iff.1 hx
      obtain ⟨_, h2⟩ := h1
      simpa using h2.symm
    subst hx0
    rcases j with _ | j
    · simp [ntEnc] at hu
      subst hu
      rw [← Array.getElem?_toList, toList_madeCells_one]
      simp [hk]
    · simp [ntEnc] at hu)
  rw [List.length_replicate] at this
  exact this
def W64 (l : List Int) : Prop := ∀ x ∈ l, 0 ≤ x ∧ x < 18446744073709551616
theorem tell0_bd {m : Mm} (h : W64 m.words) (a : Int) : 0 ≤ m.tell 0 a 0 ∧ m.tell 0 a 0 < 18446744073709551616 := by
  unfold Mm.tell acV
  split
  · rename_i hin
    rw [if_pos rfl]
    unfold Mm.at
    unfold Mm.in at hin
    rw [List.getElem?_eq_getElem (by omega)]
    exact h _ (List.getElem_mem _)
  · omega
theorem acc_w64 {m : Mm} (h : W64 m.words) (k a x y : Int) (hy : 0 ≤ acY k (m.at a) x y ∧ acY k (m.at a) x y < 18446744073709551616) : W64 (m.acc k a x y).words := by
  unfold Mm.acc
  split
  · intro z hz
    have hz : z ∈ m.words.set a.toNat (acY k (m.at a) x y) := hz
    rcases List.mem_or_eq_of_mem_set hz with h1 | h1
    · exact h z h1
    · rw [h1]; exact hy
  · exact h
theorem at_bd {m : Mm} (h : W64 m.words) (a : Int) : 0 ≤ m.at a ∧ m.at a < 18446744073709551616 := by
  unfold Mm.at
  rcases hw : m.words[a.toNat]? with _ | z
  · simp
  · exact h _ (List.mem_of_getElem? hw)
theorem cells6 {w : World} {b : Nat} {a0 a1 a2 a3 a4 a5 : Value} {t : TypeId} (h : w.heap[b]? = some (.cells #[a0, a1, a2, a3, a4, a5] t (0, 0))) : w.cell? ⟨b, 0, none⟩ = some a0 ∧ w.cell? ⟨b, 1, none⟩ = some a1 ∧ w.cell? ⟨b, 2, none⟩ = some a2 ∧ w.cell? ⟨b, 3, none⟩ = some a3 ∧ w.cell? ⟨b, 4, none⟩ = some a4 ∧ w.cell? ⟨b, 5, none⟩ = some a5 ∧ b < w.heap.size :=
  ⟨cell_of_row w b 0 _ _ _ h, cell_of_row w b 1 _ _ _ h, cell_of_row w b 2 _ _ _ h, cell_of_row w b 3 _ _ _ h, cell_of_row w b 4 _ _ _ h, cell_of_row w b 5 _ _ _ h, (Array.getElem?_eq_some_iff.1 h).1⟩
theorem objs_one {w : World} {ps : Nat} {v : Value} {t : TypeId} (h : w.heap[ps]? = some (.cells #[v] t (0, 0))) : Sl (fun v : Value => [v]) 1 w (.slice (some ⟨ps, 0, none⟩) 1 1) [v] := by
  refine Sl.of_block (enc := fun v : Value => [v]) (sz := 1) (xs := [v]) (c := 1) h (Nat.le_refl _) (by unfold maxLen; decide) ?_
  intro k x hx j u hu
  rcases k with _ | k
  · simp at hx
    subst hx
    rcases j with _ | j
    · simpa using hu
    · simp at hu
  · simp at hx
end Go.Proofs.YtlfingcmekifkaaGreat
