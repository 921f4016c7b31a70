/- The shared memory (package mem): Swap. -/
/- Objects on a loom: what they have in common: the memory turns; operations that may not be. -/
import Derived.Test.YtlfingcmekifkaaBun10
import Derived.Test.YtlfingcmekifkaaLo13
namespace Go.Proofs.Ytlfingcmekifkaa
open Go.RowKit
attribute [local go_sem] run_store_fn run_store_nilfn

set_option maxRecDepth 100000 in
set_option maxHeartbeats 1000000 in
theorem accSwapYes (pm px k b b1 b2 : Nat) (x y : Int) (m : Mm) (w : World) (h : MemAt w pm px .nilFunc m) (hk : k < m.words.length) (he : m.at k = x) (g0 : w.cell? ⟨b, 0, none⟩ = some (.int .u64 x)) (g1 : w.cell? ⟨b1, 0, none⟩ = some (.int .u64 y)) (g2 : w.cell? ⟨b2, 0, none⟩ = some (.bool false)) (g3 : w.frozen? ⟨b2, 0, none⟩ = false)
    (_e0 : b < w.heap.size) (_e1 : b1 < w.heap.size) (_e2 : b2 < w.heap.size) (_n0 : b ≠ px) (n1 : b1 ≠ px) (n2 : b2 ≠ px) (_m0 : b ≠ pm) (_m1 : b1 ≠ pm) (_m2 : b2 ≠ pm) :
    Calls Try.prog 86 #[.pointer (some ⟨pm, 0, none⟩), .int .i64 2, .int .i64 k, .func (.func 89) #[] #[], .func (.func 90) #[] #[.pointer (some ⟨b, 0, none⟩), .pointer (some ⟨b1, 0, none⟩), .pointer (some ⟨b2, 0, none⟩)]] w fun e w' =>
      e = .returned (.tuple #[]) ∧ ∃ n, w' = (((w.drewN n).setCell ⟨pm, 3, none⟩ (.int .i64 (wrap64 (wrap64 m.sw + 1)))).setCell ⟨px, k, none⟩ (.int .u64 y)).setCell ⟨b2, 0, none⟩ (.bool true) := by
  obtain ⟨c, a0, a1, a2, a3, a4, a5, a6, hc, hcm⟩ := h.cells
  have f1 := h.frozen 1
  have f2 := h.frozen 2
  have f3 := h.frozen 3
  have f4 := h.frozen 4
  have f5 := h.frozen 5
  obtain ⟨z0, z1⟩ := h.lt
  have hpp := h.ne
  have hl := h.len
  have qF : ∀ W, (binOp .neq 125 .nilFunc .nilFunc).run Try.prog W = .ok (.bool false) W := fun _ => by kernel_rfl
  obtain ⟨x0, x1⟩ := h.word hk
  rw [he] at x0
  have d0 : decide (m.words.length ≤ k) = false := by simpa using hk
  clear h he
  go_enter Try.func86, Try.ntmps86
  go_wp2_with fail
  refine (cntSwap _ _).mono ?_
  rintro e w1 ⟨rfl, rfl⟩
  go_wp2_with fail
  refine (doSwapYes px k b b1 b2 x y _ (by go_simp) (by go_simp) (by go_simp) (by go_simp) (by go_simp) (by go_simp) n1 n2).mono ?_
  rintro e w2 ⟨rfl, n, rfl⟩
  go_wp2
  go_end0
  exact ⟨rfl, n, rfl⟩
set_option maxRecDepth 100000 in
set_option maxHeartbeats 1000000 in
theorem accSwapNo (pm px k b b1 b2 : Nat) (x _y : Int) (m : Mm) (w : World) (h : MemAt w pm px .nilFunc m) (hk : k < m.words.length) (he : m.at k ≠ x) (g0 : w.cell? ⟨b, 0, none⟩ = some (.int .u64 x)) (_e0 : b < w.heap.size) (_m0 : b ≠ pm) :
    Calls Try.prog 86 #[.pointer (some ⟨pm, 0, none⟩), .int .i64 2, .int .i64 k, .func (.func 89) #[] #[], .func (.func 90) #[] #[.pointer (some ⟨b, 0, none⟩), .pointer (some ⟨b1, 0, none⟩), .pointer (some ⟨b2, 0, none⟩)]] w fun e w' =>
      e = .returned (.tuple #[]) ∧ ∃ n, w' = (w.drewN n).setCell ⟨pm, 3, none⟩ (.int .i64 (wrap64 (wrap64 m.sw + 1))) := by
  obtain ⟨c, a0, a1, a2, a3, a4, a5, a6, hc, hcm⟩ := h.cells
  have f1 := h.frozen 1
  have f2 := h.frozen 2
  have f3 := h.frozen 3
  have f4 := h.frozen 4
  have f5 := h.frozen 5
  obtain ⟨z0, z1⟩ := h.lt
  have hpp := h.ne
  have hl := h.len
  have qF : ∀ W, (binOp .neq 125 .nilFunc .nilFunc).run Try.prog W = .ok (.bool false) W := fun _ => by kernel_rfl
  obtain ⟨x0, x1⟩ := h.word hk
  have d0 : decide (m.words.length ≤ k) = false := by simpa using hk
  clear h
  go_enter Try.func86, Try.ntmps86
  go_wp2_with fail
  refine (cntSwap _ _).mono ?_
  rintro e w1 ⟨rfl, rfl⟩
  go_wp2_with fail
  refine (doSwapNo px k b b1 b2 (m.at k) x _ (by go_simp) (by go_simp) he).mono ?_
  rintro e w2 ⟨rfl, n, rfl⟩
  go_wp2
  go_end0
  exact ⟨rfl, n, rfl⟩
set_option maxRecDepth 100000 in
set_option maxHeartbeats 1000000 in
theorem memSwap (pm px : Nat) (a x y : Int) (m : Mm) (w : World) (h : MemAt w pm px .nilFunc m) :
    Calls Try.prog 84 #[.pointer (some ⟨pm, 0, none⟩), .int .i64 a, .int .u64 x, .int .u64 y] w fun e w' => ∃ d, d = decide (m.tell 2 a x = 1) ∧ e = .returned (.bool d) ∧ MemAt w' pm px .nilFunc (m.acc 2 a x y) ∧ MKeep w pm px w' := by
  have hz := h.lt
  have hpp := h.ne
  have HH := hide h
  have hA : MemAt (((w.alloc (.cells #[.int .u64 x] 37)).alloc (.cells #[.int .u64 y] 37)).alloc (.cells #[.bool false] 4)) pm px .nilFunc m := h.of_blocks (by (repeat' (first | with_reducible rfl | with_reducible assumption | with_reducible refine heap_set_congr ?_ | with_reducible refine (heap_drew _ _).trans ?_ | with_reducible refine (heap_drewN _ _ _).trans ?_ | (with_reducible refine (heap_alloc_old _ _ ?_).trans ?_) | (with_reducible refine (Below.heap_setCell _ _ _ _ ?_).trans ?_) | omega | (simp; done) | (simp; omega)))) (by (repeat' (first | with_reducible rfl | with_reducible assumption | with_reducible refine heap_set_congr ?_ | with_reducible refine (heap_drew _ _).trans ?_ | with_reducible refine (heap_drewN _ _ _).trans ?_ | (with_reducible refine (heap_alloc_old _ _ ?_).trans ?_) | (with_reducible refine (Below.heap_setCell _ _ _ _ ?_).trans ?_) | omega | (simp; done) | (simp; omega))))
  have g0 : (((w.alloc (.cells #[.int .u64 x] 37)).alloc (.cells #[.int .u64 y] 37)).alloc (.cells #[.bool false] 4)).cell? ⟨w.heap.size, 0, none⟩ = some (.int .u64 x) := by go_simp
  have g1 : (((w.alloc (.cells #[.int .u64 x] 37)).alloc (.cells #[.int .u64 y] 37)).alloc (.cells #[.bool false] 4)).cell? ⟨w.heap.size + 1, 0, none⟩ = some (.int .u64 y) := by go_simp
  have g2 : (((w.alloc (.cells #[.int .u64 x] 37)).alloc (.cells #[.int .u64 y] 37)).alloc (.cells #[.bool false] 4)).cell? ⟨w.heap.size + 2, 0, none⟩ = some (.bool false) := by go_simp
  have g3 : (((w.alloc (.cells #[.int .u64 x] 37)).alloc (.cells #[.int .u64 y] 37)).alloc (.cells #[.bool false] 4)).frozen? ⟨w.heap.size + 2, 0, none⟩ = false := by go_simp
  by_cases hin : m.in a
  · obtain ⟨k, rfl⟩ : ∃ k : Nat, a = k := ⟨a.toNat, by unfold Mm.in at hin; omega⟩
    have hk : k < m.words.length := by unfold Mm.in at hin; omega
    by_cases he : m.at k = x
    · have C := accSwapYes pm px k w.heap.size (w.heap.size + 1) (w.heap.size + 2) x y m _ hA hk he g0 g1 g2 g3 (by simp; omega) (by simp) (by simp) (by omega) (by omega) (by omega) (by omega) (by omega) (by omega)
      have hT : decide (m.tell 2 k x = 1) = true := by
        unfold Mm.tell acV
        rw [if_pos hin, if_neg (by decide), if_neg (by decide), if_pos rfl, if_pos he]
        rfl
      have HT := hide hT
      have HE := hide he
      clear hA g0 g1 g2 g3 h hin hT he
      go_enter Try.func84, Try.ntmps84
      go_wp2_with fail
      refine C.mono ?_
      rintro e w1 ⟨rfl, n, rfl⟩
      go_wp2
      go_ret
      refine ⟨_, HT.out.symm, rfl, HH.out.did2 hk x y HE.out ?_ ?_, ?_⟩
      · (repeat' (first | with_reducible rfl | with_reducible assumption | with_reducible refine heap_set_congr ?_ | with_reducible refine (heap_drew _ _).trans ?_ | with_reducible refine (heap_drewN _ _ _).trans ?_ | (with_reducible refine (heap_alloc_old _ _ ?_).trans ?_) | (with_reducible refine (Below.heap_setCell _ _ _ _ ?_).trans ?_) | omega | (simp; done) | (simp; omega)))
      · (repeat' (first | with_reducible rfl | with_reducible assumption | with_reducible refine heap_set_congr ?_ | with_reducible refine (heap_drew _ _).trans ?_ | with_reducible refine (heap_drewN _ _ _).trans ?_ | (with_reducible refine (heap_alloc_old _ _ ?_).trans ?_) | (with_reducible refine (Below.heap_setCell _ _ _ _ ?_).trans ?_) | omega | (simp; done) | (simp; omega)))
      · (repeat' (first | exact Keep.refl _ _ | refine Keep.drew ?_ | refine Keep.drewN ?_ _ | refine Keep.setCell ?_ ?_ _ | refine Keep.alloc ?_ ?_ _ | (intro k hk; simp at hk ⊢; omega) | (intro hh; simp at hh; done) | (intro hh; simp at hh; omega)))
    · have C := accSwapNo pm px k w.heap.size (w.heap.size + 1) (w.heap.size + 2) x y m _ hA hk he g0 (by simp; omega) (by omega)
      have hT : decide (m.tell 2 k x = 1) = false := by
        unfold Mm.tell acV
        rw [if_pos hin, if_neg (by decide), if_neg (by decide), if_pos rfl, if_neg he]
        rfl
      have HT := hide hT
      have HE := hide he
      clear hA g0 g1 g2 g3 h hin hT he
      go_enter Try.func84, Try.ntmps84
      go_wp2_with fail
      refine C.mono ?_
      rintro e w1 ⟨rfl, n, rfl⟩
      go_wp2
      go_ret
      refine ⟨_, HT.out.symm, rfl, HH.out.did2no hk x y HE.out ?_ ?_, ?_⟩
      · (repeat' (first | with_reducible rfl | with_reducible assumption | with_reducible refine heap_set_congr ?_ | with_reducible refine (heap_drew _ _).trans ?_ | with_reducible refine (heap_drewN _ _ _).trans ?_ | (with_reducible refine (heap_alloc_old _ _ ?_).trans ?_) | (with_reducible refine (Below.heap_setCell _ _ _ _ ?_).trans ?_) | omega | (simp; done) | (simp; omega)))
      · (repeat' (first | with_reducible rfl | with_reducible assumption | with_reducible refine heap_set_congr ?_ | with_reducible refine (heap_drew _ _).trans ?_ | with_reducible refine (heap_drewN _ _ _).trans ?_ | (with_reducible refine (heap_alloc_old _ _ ?_).trans ?_) | (with_reducible refine (Below.heap_setCell _ _ _ _ ?_).trans ?_) | omega | (simp; done) | (simp; omega)))
      · (repeat' (first | exact Keep.refl _ _ | refine Keep.drew ?_ | refine Keep.drewN ?_ _ | refine Keep.setCell ?_ ?_ _ | refine Keep.alloc ?_ ?_ _ | (intro k hk; simp at hk ⊢; omega) | (intro hh; simp at hh; done) | (intro hh; simp at hh; omega)))
  · have C := accOut pm px 2 a (.func (.func 89) #[] #[]) (.func (.func 90) #[] #[.pointer (some ⟨w.heap.size, 0, none⟩), .pointer (some ⟨w.heap.size + 1, 0, none⟩), .pointer (some ⟨w.heap.size + 2, 0, none⟩)]) m _ hA hin
    have hT : decide (m.tell 2 a x = 1) = false := by
      unfold Mm.tell
      rw [if_neg hin]
      rfl
    have HT := hide hT
    have HN := hide hin
    clear hA g0 g1 g2 g3 h hT hin
    go_enter Try.func84, Try.ntmps84
    go_wp2_with fail
    refine C.mono ?_
    rintro e w1 ⟨rfl, rfl⟩
    go_wp2
    go_ret
    refine ⟨_, HT.out.symm, rfl, HH.out.acc_out HN.out ?_ ?_, ?_⟩
    · (repeat' (first | with_reducible rfl | with_reducible assumption | with_reducible refine heap_set_congr ?_ | with_reducible refine (heap_drew _ _).trans ?_ | with_reducible refine (heap_drewN _ _ _).trans ?_ | (with_reducible refine (heap_alloc_old _ _ ?_).trans ?_) | (with_reducible refine (Below.heap_setCell _ _ _ _ ?_).trans ?_) | omega | (simp; done) | (simp; omega)))
    · (repeat' (first | with_reducible rfl | with_reducible assumption | with_reducible refine heap_set_congr ?_ | with_reducible refine (heap_drew _ _).trans ?_ | with_reducible refine (heap_drewN _ _ _).trans ?_ | (with_reducible refine (heap_alloc_old _ _ ?_).trans ?_) | (with_reducible refine (Below.heap_setCell _ _ _ _ ?_).trans ?_) | omega | (simp; done) | (simp; omega)))
    · (repeat' (first | exact Keep.refl _ _ | refine Keep.drew ?_ | refine Keep.drewN ?_ _ | refine Keep.setCell ?_ ?_ _ | refine Keep.alloc ?_ ?_ _ | (intro k hk; simp at hk ⊢; omega) | (intro hh; simp at hh; done) | (intro hh; simp at hh; omega)))
end Go.Proofs.Ytlfingcmekifkaa

namespace Go.Proofs.Ytlfingcmekifkaa
open Go.RowKit

section
variable {w w' : World} {ad : Adr} {Mu Mu' : Nat → Prop} {lw : Lw}
theorem WL.ne (h : WL w ad Mu lw) : ad.pw ≠ ad.pm ∧ ad.pw ≠ ad.px ∧ ad.pw ≠ ad.pt ∧ ad.pt ≠ ad.pm ∧ ad.pt ≠ ad.px ∧ ad.pm ≠ ad.px := by
  obtain ⟨f', ⟨c2, h2, _⟩, _⟩ := h.cells
  obtain ⟨_, h3, _⟩ := h.mem.blk
  obtain ⟨_, h4, _⟩ := h.mem.row
  obtain ⟨_, ⟨_, _, h5, _⟩, _⟩ := h.notes
  refine ⟨?_, ?_, ?_, ?_, ?_, h.mem.ne⟩ <;> intro e
  · rw [e, h3] at h2; injection h2 with h1; injection h1 with _ h1 _; exact absurd h1 (by decide)
  · rw [e, h4] at h2; injection h2 with h1; injection h1 with _ h1 _; exact absurd h1 (by decide)
  · rw [e, h5] at h2; cases h2
  · rw [e, h3] at h5; cases h5
  · rw [e, h4] at h5; cases h5
theorem WL.lt (h : WL w ad Mu lw) : ad.pw < w.heap.size ∧ ad.pm < w.heap.size ∧ ad.px < w.heap.size ∧ ad.pt < w.heap.size := by
  obtain ⟨f', h2, _⟩ := h.cells
  obtain ⟨_, ⟨_, _, h5, _⟩, _⟩ := h.notes
  exact ⟨h2.lt, h.mem.lt.1, h.mem.lt.2, (Array.getElem?_eq_some_iff.1 h5).1⟩
/-- An access: the memory turns, and nothing else. -/
theorem WL.memTo (h : WL w ad Mu lw) {m' : Mm} (hm : MemAt w' ad.pm ad.px .nilFunc m') (hk : MKeep w ad.pm ad.px w') (h4 : ∀ k, ad.four k → Mu k) (hM : ∀ k, k < w.heap.size → Mu' k → Mu k) : WL w' ad Mu' { lw with mem := m' } := by
  obtain ⟨n1, n2, n3, n4, n5, n6⟩ := h.ne
  obtain ⟨z1, z2, z3, z4⟩ := h.lt
  obtain ⟨f, f1, f2, f3, f4, f5⟩ := h.cells
  obtain ⟨m, m1, m2⟩ := h.notes
  have hS : ∀ k, k < w.heap.size → ¬ Mu k → k ≠ ad.pm ∧ k ≠ ad.px ∧ k < w.heap.size := fun k h1 h2 => ⟨fun e => h2 (h4 k (Or.inr (Or.inl e))), fun e => h2 (h4 k (Or.inr (Or.inr (Or.inl e)))), h1⟩
  refine ⟨hm, ⟨f, rowIs_keep f1 hk ⟨n1, n2, z1⟩, f2, f3, f4, fun t ht => ⟨(f5 t ht).1, (f5 t ht).2.keep hk hS hM⟩⟩, ⟨m, m1.of_block (hk.block _ ⟨n4, n5, z4⟩), fun a => ?_⟩⟩
  rcases m2 a with h | ⟨v, hv, hk'⟩
  · exact .inl h
  · exact .inr ⟨v, hv, hk'.keep hk hS hM⟩
/-- The memory's pointer. -/
theorem WL.ptr (h : WL w ad Mu lw) : w.cell? ⟨ad.pw, 0, none⟩ = some (.pointer (some ⟨ad.pm, 0, none⟩)) := by
  obtain ⟨f, f1, f2, _⟩ := h.cells
  rw [← f2]
  exact f1.cell (i := 0) (by omega)
end

/-- An operation that may not be, as it lies; and when it has told so. -/
def NoAt (w : World) (F : Nat → Prop) (v : Value) (e : Int) : Prop := ∃ b b1, v = onceV b ∧ OnceNo w b b1 e ∧ ∀ k, F k ↔ k = b ∨ k = b1
def NoAl (w : World) (F : Nat → Prop) (v : Value) (e : Int) : Prop := ∃ b b1, v = onceV b ∧ w.heap[b]? = some (.cells #[.func (.func 60) #[] #[.pointer (some ⟨b1, 0, none⟩)], .int .i64 e, .int .u64 0, .slice none 0 0] 147 (0, 0)) ∧ ∀ k, F k ↔ k = b ∨ k = b1
section
variable {w w' : World} {F S : Nat → Prop} {v : Value} {e : Int}
theorem NoAt.keep (h : NoAt w F v e) (hk : Keep S w w') (hS : ∀ k, F k → S k) : NoAt w' F v e := by
  obtain ⟨b, b1, h1, h2, h3⟩ := h
  have hb := hk.block b (hS b ((h3 b).2 (Or.inl rfl)))
  refine ⟨b, b1, h1, ⟨?_, (hk.block b1 (hS b1 ((h3 b1).2 (Or.inr rfl)))).trans h2.box⟩, h3⟩
  rw [hb]
  exact h2.once
theorem NoAl.keep (h : NoAl w F v e) (hk : Keep S w w') (hS : ∀ k, F k → S k) : NoAl w' F v e := by
  obtain ⟨b, b1, h1, h2, h3⟩ := h
  exact ⟨b, b1, h1, (hk.block b (hS b ((h3 b).2 (Or.inl rfl)))).trans h2, h3⟩
theorem NoAt.lt (h : NoAt w F v e) : ∀ k, F k → k < w.heap.size := by
  obtain ⟨b, b1, h1, h2, h3⟩ := h
  intro k hk
  rcases (h3 k).1 hk with rfl | rfl
  · rcases h2.once with h | h <;> exact (Array.getElem?_eq_some_iff.1 h).1
  · exact (Array.getElem?_eq_some_iff.1 h2.box).1
theorem NoAt.iface (h : NoAt w F v e) : ∃ t u, v = .iface t u := by
  obtain ⟨b, b1, h1, _⟩ := h
  exact ⟨_, _, h1⟩
theorem NoAt.late (h : NoAt w F v e) : LateNo v := by
  obtain ⟨b, b1, rfl, _⟩ := h
  exact onceLateNo b
theorem NoAt.step (h : NoAt w F v e) (pw : Nat) : ∃ f r, Disp Try.prog v "Step" f r ∧ Calls Try.prog f #[r, .pointer (some ⟨pw, 0, none⟩)] w fun x w' => x = .returned (.bool true) ∧ NoAt w' F v e ∧ NoAl w' F v e ∧ Keep (fun k => k < w.heap.size ∧ ¬ F k) w w' := by
  obtain ⟨b, b1, rfl, h2, h3⟩ := h
  refine ⟨_, _, onceDispStep b, (refuseStep b b1 pw e w h2).mono ?_⟩
  rintro x w' ⟨rfl, a1, a2, a3⟩
  exact ⟨rfl, ⟨b, b1, rfl, a1, h3⟩, ⟨b, b1, rfl, a2, h3⟩, a3.mono (fun k hk => ⟨fun e => hk.2 ((h3 k).2 (Or.inl e)), hk.1⟩)⟩
theorem NoAl.ans (h : NoAl w F v e) (Mu : Nat → Prop) : ∃ f r, Disp Try.prog v "Answer" f r ∧ Calls Try.prog f #[r] w fun x w' => ∃ lv kv, x = .returned (.tuple #[.agg #[.int .i64 e, .int .u64 0, lv], kv]) ∧ LstIs w' Mu lv [] ∧ KeyIs w' Mu kv [] ∧ Below w.heap.size w w' := by
  obtain ⟨b, b1, rfl, h2, h3⟩ := h
  refine ⟨_, _, onceDispAnswer b, (onceAnswer b e 0 (.slice none 0 0) _ w h2 ⟨_, _, _, rfl⟩).mono ?_⟩
  rintro x w' ⟨rfl, hb⟩
  exact ⟨_, _, rfl, LstIs.nil _ _, KeyIs.nil _ _, hb⟩
theorem noAt_made {b b1 : Nat} (h : OnceNo w b b1 e) : NoAt w (fun k => k = b ∨ k = b1) (onceV b) e := ⟨b, b1, rfl, h, fun _ => Iff.rfl⟩
end
theorem WL.memTo2 {w w' : World} {ad : Adr} {Mu Mu' S : Nat → Prop} {lw : Lw} (h : WL w ad Mu lw) {m' : Mm} (hm : MemAt w' ad.pm ad.px .nilFunc m') (hk : Keep S w w') (hS : ∀ k, k < w.heap.size → ¬ Mu k → S k) (hp : S ad.pw ∧ S ad.pt) (hM : ∀ k, k < w.heap.size → Mu' k → Mu k) : WL w' ad Mu' { lw with mem := m' } := by
  obtain ⟨f, f1, f2, f3, f4, f5⟩ := h.cells
  obtain ⟨m, m1, m2⟩ := h.notes
  refine ⟨hm, ⟨f, rowIs_keep f1 hk hp.1, f2, f3, f4, fun t ht => ⟨(f5 t ht).1, (f5 t ht).2.keep hk hS hM⟩⟩, ⟨m, m1.of_block (hk.block _ hp.2), fun a => ?_⟩⟩
  rcases m2 a with h | ⟨v, hv, hk'⟩
  · exact .inl h
  · exact .inr ⟨v, hv, hk'.keep hk hS hM⟩
end Go.Proofs.Ytlfingcmekifkaa
