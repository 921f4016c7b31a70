/- Machines of one step that tell an error (loom.Refuse): made, stepped, asked. -/
import Derived.Test.YtfghmlpjbedomaaGreatBun6
import Derived.Stop.Asserts
namespace Go.Proofs.YtfghmlpjbedomaaGreat
open Go.RowKit
attribute [local go_sem] run_store_fn run_store_nilfn

set_option maxRecDepth 100000 in
theorem refuseMake (e : Int) (w : World) : Calls Tryz.prog 137 #[.int .i64 e] w fun x w' => ∃ b b1, x = .returned (onceV b) ∧ OnceNo w' b b1 e ∧ w.heap.size ≤ b ∧ w.heap.size ≤ b1 ∧ Below w.heap.size w w' := by
  unfold onceV
  go_enter Tryz.func137, Tryz.ntmps137
  go_wp2_with go_in
  go_ret
  refine ⟨w.heap.size + 1, w.heap.size, rfl, ⟨Or.inl ?_, ?_⟩, by omega, Nat.le_refl _, by (repeat' (first | exact Below.refl _ _ | assumption | refine Below.drew ?_ | refine below_drewN ?_ _ | refine Below.alloc ?_ (by simp <;> omega) _ | refine Below.setCell ?_ (by simp <;> omega) _))⟩
  · have := heap_alloc_new (w.alloc (.cells #[.int .i64 e] 47)) (.cells #[.func (.func 143) #[] #[.pointer (some ⟨w.heap.size, 0, none⟩)], .int .i64 0, .int .u64 0, .slice none 0 0] 256)
    simpa using this
  · exact (heap_alloc_old _ _ (by simp)).trans (heap_alloc_new _ _)
set_option maxRecDepth 100000 in
theorem refuseSay (e : Int) (b1 pw : Nat) (w : World) (h : w.heap[b1]? = some (.cells #[.int .i64 e] 47 (0, 0))) :
    Calls Tryz.prog 143 #[.pointer (some ⟨pw, 0, none⟩), .pointer (some ⟨b1, 0, none⟩)] w fun x w' => x = .returned (.agg #[.int .i64 e, .int .u64 0, .slice none 0 0]) ∧ w' = w.alloc (.cells #[.int .i64 e, .int .u64 0, .slice none 0 0] 64) := by
  have c0 : w.cell? ⟨b1, 0, none⟩ = some (.int .i64 e) := cell_of_row w b1 0 _ _ _ h
  have hz := (Array.getElem?_eq_some_iff.1 h).1
  clear h
  go_enter Tryz.func143, Tryz.ntmps143
  go_wp2
  refine bodyPost_ret (v := .agg #[.int .i64 e, .int .u64 0, .slice none 0 0]) (by simp [results, Tryz.results143, go_sem, *]) rfl ⟨rfl, ?_⟩
  first | rfl | simp [go_sem]
set_option maxRecDepth 100000 in
theorem refuseStep (b b1 pw : Nat) (e : Int) (w : World) (h : OnceNo w b b1 e) :
    Calls Tryz.prog 227 #[.pointer (some ⟨b, 0, none⟩), .pointer (some ⟨pw, 0, none⟩)] w fun x w' => x = .returned (.bool true) ∧ OnceNo w' b b1 e ∧ w'.heap[b]? = some (.cells #[.func (.func 143) #[] #[.pointer (some ⟨b1, 0, none⟩)], .int .i64 e, .int .u64 0, .slice none 0 0] 256 (0, 0)) ∧ Keep (fun k => k ≠ b ∧ k < w.heap.size) w w' := by
  obtain ⟨e1, hb⟩ : ∃ e1, w.heap[b]? = some (.cells #[.func (.func 143) #[] #[.pointer (some ⟨b1, 0, none⟩)], .int .i64 e1, .int .u64 0, .slice none 0 0] 256 (0, 0)) := by
    rcases h.once with h | h <;> exact ⟨_, h⟩
  have hx := h.box
  obtain ⟨c0, c1, c2, c3, hz⟩ := cells4 hb
  have f0 := frozen_of_row w b 1 _ _ hb
  have f1 := frozen_of_row w b 2 _ _ hb
  have f2 := frozen_of_row w b 3 _ _ hb
  have hne : b ≠ b1 := by intro h'; rw [h', hx] at hb; cases hb
  have hz1 := (Array.getElem?_eq_some_iff.1 hx).1
  have HX := hide hx
  have HB := hide hb
  clear hx hb h
  go_enter Tryz.func227, Tryz.ntmps227
  go_wp2_with fail
  refine (refuseSay e b1 pw w HX.out).mono ?_
  rintro x w1 ⟨rfl, rfl⟩
  go_wp2
  go_ret
  have hB : ((((w.setCell ⟨b, 1, none⟩ (.int .i64 e)).setCell ⟨b, 2, none⟩ (.int .u64 0)).setCell ⟨b, 3, none⟩ (.slice none 0 0)).alloc (.cells #[.int .i64 e, .int .u64 0, .slice none 0 0] 64)).heap[b]? = some (.cells #[.func (.func 143) #[] #[.pointer (some ⟨b1, 0, none⟩)], .int .i64 e, .int .u64 0, .slice none 0 0] 256 (0, 0)) := by
    refine (heap_alloc_old _ _ (by simpa using hz)).trans ?_
    rw [cells_set (cells_set (cells_set HB.out))]
    rfl
  refine ⟨rfl, ⟨Or.inr hB, ?_⟩, hB, ?_⟩
  · refine Eq.trans ?_ HX.out
    (repeat' (first | with_reducible rfl | with_reducible assumption | with_reducible refine heap_set_congr ?_ | with_reducible refine (heap_drew _ _).trans ?_ | with_reducible refine (heap_drewN _ _ _).trans ?_ | (with_reducible refine (heap_alloc_old _ _ ?_).trans ?_) | (with_reducible refine (Below.heap_setCell _ _ _ _ ?_).trans ?_) | omega | (simp; done) | (simp; omega)))
  · repeat' (first | exact Keep.refl _ _ | refine Keep.setCell ?_ ?_ _ | refine Keep.alloc ?_ ?_ _ | (intro k hk; simp at hk ⊢; omega) | (intro hh; simp at hh; done))
set_option maxRecDepth 100000 in
theorem onceAnswer (b : Nat) (e v : Int) (l d : Value) (w : World) (h : w.heap[b]? = some (.cells #[d, .int .i64 e, .int .u64 v, l] 256 (0, 0))) (hl : ∃ A n c, l = .slice A n c) :
    Calls Tryz.prog 226 #[.pointer (some ⟨b, 0, none⟩)] w fun x w' => x = .returned (.tuple #[.agg #[.int .i64 e, .int .u64 v, l], .slice none 0 0]) ∧ Below w.heap.size w w' := by
  obtain ⟨A, n, c, rfl⟩ := hl
  obtain ⟨c0, c1, c2, c3, hz⟩ := cells4 h
  clear h
  go_enter Tryz.func226, Tryz.ntmps226
  go_wp2
  refine bodyPost_ret (v := .tuple #[.agg #[.int .i64 e, .int .u64 v, .slice A n c], .slice none 0 0]) (by simp [results, Tryz.results226, go_sem, *]) rfl ⟨rfl, ?_⟩
  (repeat' (first | exact Below.refl _ _ | assumption | refine Below.drew ?_ | refine below_drewN ?_ _ | refine Below.alloc ?_ (by simp <;> omega) _ | refine Below.setCell ?_ (by simp <;> omega) _))
theorem onceDispStep (b : Nat) : Disp Tryz.prog (onceV b) "Step" 227 (.pointer (some ⟨b, 0, none⟩)) := fun _ _ => by kernel_rfl
theorem onceDispAnswer (b : Nat) : Disp Tryz.prog (onceV b) "Answer" 226 (.pointer (some ⟨b, 0, none⟩)) := fun _ _ => by kernel_rfl
theorem onceLateNo (b : Nat) : LateNo (onceV b) := fun w => run_typeAssert_lacksB Tryz.underlying201 (by kernel_rfl) (by kernel_rfl) _ _ w
end Go.Proofs.YtfghmlpjbedomaaGreat
