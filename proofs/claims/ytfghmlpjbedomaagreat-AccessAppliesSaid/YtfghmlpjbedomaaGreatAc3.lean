/- Accesses that are told: mem.Read and mem.Write, as contracts. -/
import Derived.Test.YtfghmlpjbedomaaGreatAc2
namespace Go.Proofs.YtfghmlpjbedomaaGreat
open Go.RowKit
attribute [local go_sem] run_store_fn run_store_nilfn

def MemTold (w : World) (pm px ob B : Nat) (hk : Value) (m' : Mm) (v : Value) (l : List Ac) (x : Ac) (w' : World) : Prop :=
  MemAt w' pm px hk m' ∧ ∃ v', AcRow w' ob B v' (l ++ [x]) ∧ (v'.ownBlock = v.ownBlock ∨ ∃ b, v'.ownBlock = some b ∧ w.heap.size ≤ b) ∧ Keep (fun k => k < w.heap.size ∧ k ≠ pm ∧ k ≠ px ∧ k ≠ ob ∧ v.ownBlock ≠ some k) w w'
set_option maxRecDepth 100000 in
set_option maxHeartbeats 2000000 in
theorem memReadH {pm px k ob tb qb pp pw B : Nat} {m : Mm} {w : World} {v : Value} {l : List Ac} {now turn : Int} (h : MemAt w pm px (hookV tb qb) m) (hk : k < m.words.length) (hr : AcRow w ob B v l) (hh : HookAt w ob tb qb pp pw now turn) (hB : B ≤ w.heap.size) (hl : l.length ≤ 2000000) (hlow : tb < B ∧ qb < B ∧ pp < B ∧ pw < B) (hap : HkAp w pm px ob tb qb pp pw v) :
    Calls Tryz.prog 180 #[.pointer (some ⟨pm, 0, none⟩), .int .i64 k] w fun e w' => e = .returned (.int .u64 (m.at k)) ∧ MemTold w pm px ob B (hookV tb qb) (m.acc 0 k 0 0) v l ⟨now, turn, 0, k, m.at k, m.at k⟩ w' := by
  have hz := h.lt
  have hb := heap_alloc_new w (.cells #[.int .u64 0] 37)
  have kA : Keep (fun j => j < w.heap.size) w (w.alloc (.cells #[.int .u64 0] 37)) := (Keep.refl _ w).alloc (fun j hj => hj) _
  have hvz : ∀ j, v.ownBlock = some j → B ≤ j ∧ j < w.heap.size := fun j hj => World.ownsRow.lt hr.row j hj
  have hobz := (Array.getElem?_eq_some_iff.1 hr.box).1
  have hA : MemAt (w.alloc (.cells #[.int .u64 0] 37)) pm px (hookV tb qb) m := h.of_blocks (kA.block _ hz.1) (kA.block _ hz.2)
  have C := accReadH hA hk hb ⟨by omega, by omega, by omega⟩ (hr.keep kA hobz (fun j hj => (hvz j hj).2)) (hh.keep kA (by omega) (by omega) (by omega) (by omega)) (by simp; omega) hl hlow ⟨hap.m, hap.x⟩
  obtain ⟨y, hy⟩ : ∃ y, m.at k = y := ⟨_, rfl⟩
  rw [hy] at C ⊢
  have HH := hide h
  have HAP := hide hap
  have HC := hide C
  have HVZ := hide hvz
  have HY := hide hy
  clear h hr hh hap hA hb kA C hvz hy
  go_enter Tryz.func180, Tryz.ntmps180
  go_wp2_with fail
  refine HC.out.mono ?_
  rintro e w2 ⟨rfl, v', q1, q2, q3⟩
  have hsz : (((w.alloc (.cells #[.int .u64 0] 37)).setCell ⟨pm, 1, none⟩ (.int .i64 (wrap64 (wrap64 m.rd + 1)))).setCell ⟨w.heap.size, 0, none⟩ (.int .u64 y)).heap.size = w.heap.size + 1 := by simp
  have hbx : (((w.alloc (.cells #[.int .u64 0] 37)).setCell ⟨pm, 1, none⟩ (.int .i64 (wrap64 (wrap64 m.rd + 1)))).setCell ⟨w.heap.size, 0, none⟩ (.int .u64 y)).heap[w.heap.size]? = some (.cells #[.int .u64 y] 37 (0, 0)) := by
    rw [cells_set ((Below.heap_setCell _ _ _ _ (by simp; omega)).trans (heap_alloc_new w _))]
    rfl
  have hb2 := (q3.block w.heap.size ⟨by rw [hsz]; omega, by omega, fun e => by have := HVZ.out _ e; omega⟩).trans hbx
  have g2 : w2.cell? ⟨w.heap.size, 0, none⟩ = some (.int .u64 y) := cell_of_row _ _ 0 _ _ _ hb2
  have Q1 := hide q1
  have Q2 := hide q2
  have Q3 := hide q3
  clear q1 q2 q3 hbx hb2 HC
  go_wp2
  go_ret
  rw [hsz] at Q3
  have hkk : Keep (fun j => j < w.heap.size ∧ j ≠ pm) w (((w.alloc (.cells #[.int .u64 0] 37)).setCell ⟨pm, 1, none⟩ (.int .i64 (wrap64 (wrap64 m.rd + 1)))).setCell ⟨w.heap.size, 0, none⟩ (.int .u64 y)) := (((Keep.refl _ w).alloc (fun j hj => hj.1) _).setCell (fun hj => hj.2 rfl) _).setCell (fun hj => by have := hj.1; simp at this) _
  have n1 := HAP.out.m
  have n2 := HAP.out.x
  refine ⟨rfl, HH.out.did0 hk 0 0 ?_ ?_, v', Q1.out, ?_, (hkk.mono (fun j hj => ⟨hj.1, hj.2.1⟩)).trans (Q3.out.mono (fun j hj => ⟨by omega, hj.2.2.2⟩))⟩
  · refine (Q3.out.block pm ⟨by omega, n1.1, n1.2.2.2.2.2⟩).trans ((Below.heap_setCell _ _ _ _ (by simp; omega)).trans (heap_set_congr (Below.heap_alloc _ _ _ hz.1)))
  · exact (Q3.out.block px ⟨by omega, n2.1, n2.2.2.2.2.2⟩).trans (hkk.block _ ⟨hz.2, HH.out.ne.symm⟩)
  · rcases Q2.out with h1 | ⟨b, h1, h2⟩
    · exact Or.inl h1
    · exact Or.inr ⟨b, h1, by rw [hsz] at h2; omega⟩
set_option maxRecDepth 100000 in
set_option maxHeartbeats 2000000 in
theorem memWriteH {pm px k ob tb qb pp pw B : Nat} {m : Mm} {w : World} {v : Value} {l : List Ac} {now turn : Int} (y : Int) (h : MemAt w pm px (hookV tb qb) m) (hk : k < m.words.length) (hr : AcRow w ob B v l) (hh : HookAt w ob tb qb pp pw now turn) (hB : B ≤ w.heap.size) (hl : l.length ≤ 2000000) (hlow : tb < B ∧ qb < B ∧ pp < B ∧ pw < B) (hap : HkAp w pm px ob tb qb pp pw v) :
    Calls Tryz.prog 201 #[.pointer (some ⟨pm, 0, none⟩), .int .i64 k, .int .u64 y] w fun e w' => e = .returned (.tuple #[]) ∧ MemTold w pm px ob B (hookV tb qb) (m.acc 1 k y 0) v l ⟨now, turn, 1, k, m.at k, y⟩ w' := by
  have hz := h.lt
  have hb := heap_alloc_new w (.cells #[.int .u64 y] 37)
  have kA : Keep (fun j => j < w.heap.size) w (w.alloc (.cells #[.int .u64 y] 37)) := (Keep.refl _ w).alloc (fun j hj => hj) _
  have hvz : ∀ j, v.ownBlock = some j → B ≤ j ∧ j < w.heap.size := fun j hj => World.ownsRow.lt hr.row j hj
  have hobz := (Array.getElem?_eq_some_iff.1 hr.box).1
  have hA : MemAt (w.alloc (.cells #[.int .u64 y] 37)) pm px (hookV tb qb) m := h.of_blocks (kA.block _ hz.1) (kA.block _ hz.2)
  have C := accWriteH hA hk y (cell_of_row _ _ 0 _ _ _ hb) (by simp) ⟨by omega, by omega⟩ (hr.keep kA hobz (fun j hj => (hvz j hj).2)) (hh.keep kA (by omega) (by omega) (by omega) (by omega)) (by simp; omega) hl hlow ⟨hap.m, hap.x⟩
  obtain ⟨z, hy⟩ : ∃ z, m.at k = z := ⟨_, rfl⟩
  rw [hy] at C ⊢
  have HH := hide h
  have HAP := hide hap
  have HC := hide C
  clear h hr hh hap hA hb kA C hvz hy
  go_enter Tryz.func201, Tryz.ntmps201
  go_wp2_with fail
  refine HC.out.mono ?_
  rintro e w2 ⟨rfl, v', q1, q2, q3⟩
  have hsz : (((w.alloc (.cells #[.int .u64 y] 37)).setCell ⟨pm, 2, none⟩ (.int .i64 (wrap64 (wrap64 m.wr + 1)))).setCell ⟨px, k, none⟩ (.int .u64 y)).heap.size = w.heap.size + 1 := by simp
  have Q1 := hide q1
  have Q2 := hide q2
  have Q3 := hide q3
  clear q1 q2 q3 HC
  go_wp2
  go_end0
  rw [hsz] at Q3
  have hkk : Keep (fun j => j < w.heap.size ∧ j ≠ pm ∧ j ≠ px) w (((w.alloc (.cells #[.int .u64 y] 37)).setCell ⟨pm, 2, none⟩ (.int .i64 (wrap64 (wrap64 m.wr + 1)))).setCell ⟨px, k, none⟩ (.int .u64 y)) := (((Keep.refl _ w).alloc (fun j hj => hj.1) _).setCell (fun hj => hj.2.1 rfl) _).setCell (fun hj => hj.2.2 rfl) _
  have n1 := HAP.out.m
  have n2 := HAP.out.x
  have hne := HH.out.ne
  refine ⟨rfl, HH.out.did1 hk y 0 ?_ ?_, v', Q1.out, ?_, (hkk.mono (fun j hj => ⟨hj.1, hj.2.1, hj.2.2.1⟩)).trans (Q3.out.mono (fun j hj => ⟨by omega, hj.2.2.2⟩))⟩
  · refine (Q3.out.block pm ⟨by omega, n1.1, n1.2.2.2.2.2⟩).trans ((Below.heap_setCell _ _ _ _ (by simp; omega)).trans (heap_set_congr (Below.heap_alloc _ _ _ hz.1)))
  · exact (Q3.out.block px ⟨by omega, n2.1, n2.2.2.2.2.2⟩).trans (heap_set_congr ((Below.heap_setCell _ _ _ _ (by simp; omega)).trans (Below.heap_alloc _ _ _ hz.2)))
  · rcases Q2.out with h1 | ⟨b, h1, h2⟩
    · exact Or.inl h1
    · exact Or.inr ⟨b, h1, by rw [hsz] at h2; omega⟩
end Go.Proofs.YtfghmlpjbedomaaGreat
