/- The shared memory (package mem): how it lies, and what an access makes of it. -/
import Derived.Test.YtfghmlpjbedomaaGreatBun2
import Derived.Test.YtfghmlpjbedomaaGreatBun3
namespace Go.Proofs.YtfghmlpjbedomaaGreat
open Go.RowKit
attribute [local go_sem] run_store_fn run_store_nilfn

/-- A memory: its struct lies in block pm, its words in block px. -/
structure MemAt (w : World) (pm px : Nat) (hk : Value) (m : Mm) : Prop where
  blk : ∃ c, w.heap[pm]? = some (.cells #[.slice (some ⟨px, 0, none⟩) m.words.length c, .int .i64 (wrap64 m.rd), .int .i64 (wrap64 m.wr), .int .i64 (wrap64 m.sw), .int .i64 (wrap64 m.ad), .int .i64 (wrap64 m.ft), hk] 186 (0, 0)) ∧ m.words.length ≤ c ∧ c ≤ maxLen
  row : ∃ cur, w.heap[px]? = some (.cells cur 37 (0, 0)) ∧ ∀ (i : Nat) (x : Int), m.words[i]? = some x → cur[i]? = some (.int .u64 x)
  len : m.words.length ≤ 65536

theorem heap_set_congr {w1 w2 : World} {a : Addr} {u : Value} {k : Nat} (h : w1.heap[k]? = w2.heap[k]?) : (w1.setCell a u).heap[k]? = (w2.setCell a u).heap[k]? := by
  simp only [World.setCell, Array.getElem?_modify, h]
theorem heap_drew (w : World) (k : Nat) : w.drew.heap[k]? = w.heap[k]? := rfl
theorem heap_drewN (w : World) (n k : Nat) : (w.drewN n).heap[k]? = w.heap[k]? := rfl
theorem wrap64_one (x : Int) : wrap64 (wrap64 x + 1) = wrap64 (x + 1) := by unfold wrap64; omega

section
variable {w w' : World} {pm px : Nat} {hk : Value} {m : Mm}
theorem MemAt.ne (h : MemAt w pm px hk m) : pm ≠ px := by
  intro e
  obtain ⟨_, h1, _⟩ := h.blk
  obtain ⟨_, h2, _⟩ := h.row
  rw [e, h2] at h1
  injection h1 with h1
  injection h1 with _ h1 _
  exact absurd h1 (by decide)
theorem MemAt.lt (h : MemAt w pm px hk m) : pm < w.heap.size ∧ px < w.heap.size := by
  obtain ⟨_, h1, _⟩ := h.blk
  obtain ⟨_, h2, _⟩ := h.row
  exact ⟨(Array.getElem?_eq_some_iff.1 h1).1, (Array.getElem?_eq_some_iff.1 h2).1⟩
theorem MemAt.of_blocks (h : MemAt w pm px hk m) (h1 : w'.heap[pm]? = w.heap[pm]?) (h2 : w'.heap[px]? = w.heap[px]?) : MemAt w' pm px hk m := by
  obtain ⟨c, b1, b2, b3⟩ := h.blk
  obtain ⟨cur, r1, r2⟩ := h.row
  exact ⟨⟨c, h1.trans b1, b2, b3⟩, ⟨cur, h2.trans r1, r2⟩, h.len⟩
theorem MemAt.cells (h : MemAt w pm px hk m) : ∃ c, w.cell? ⟨pm, 0, none⟩ = some (.slice (some ⟨px, 0, none⟩) m.words.length c) ∧ w.cell? ⟨pm, 1, none⟩ = some (.int .i64 (wrap64 m.rd)) ∧ w.cell? ⟨pm, 2, none⟩ = some (.int .i64 (wrap64 m.wr)) ∧ w.cell? ⟨pm, 3, none⟩ = some (.int .i64 (wrap64 m.sw)) ∧
    w.cell? ⟨pm, 4, none⟩ = some (.int .i64 (wrap64 m.ad)) ∧ w.cell? ⟨pm, 5, none⟩ = some (.int .i64 (wrap64 m.ft)) ∧ w.cell? ⟨pm, 6, none⟩ = some hk ∧ m.words.length ≤ c ∧ c ≤ maxLen := by
  obtain ⟨c, b1, b2, b3⟩ := h.blk
  exact ⟨c, cell_of_row w pm 0 _ _ _ b1, cell_of_row w pm 1 _ _ _ b1, cell_of_row w pm 2 _ _ _ b1, cell_of_row w pm 3 _ _ _ b1, cell_of_row w pm 4 _ _ _ b1, cell_of_row w pm 5 _ _ _ b1, cell_of_row w pm 6 _ _ _ b1, b2, b3⟩
theorem MemAt.frozen (h : MemAt w pm px hk m) (i : Nat) : w.frozen? ⟨pm, i, none⟩ = false := by
  obtain ⟨c, b1, _⟩ := h.blk
  exact frozen_of_row w pm i _ _ b1
theorem MemAt.word (h : MemAt w pm px hk m) {k : Nat} (hk : k < m.words.length) : w.cell? ⟨px, k, none⟩ = some (.int .u64 (m.at k)) ∧ w.frozen? ⟨px, k, none⟩ = false := by
  obtain ⟨cur, r1, r2⟩ := h.row
  have hx : m.words[k]? = some (m.at k) := by
    unfold Mm.at
    rw [Int.toNat_natCast, List.getElem?_eq_getElem hk]
    rfl
  exact ⟨(cell_of_row w px k _ _ _ r1).trans (r2 k _ hx), frozen_of_row w px k _ _ r1⟩
end

/-- The count of a kind. -/
def Mm.cnt (m : Mm) (k : Nat) : Int := if k = 0 then m.rd else if k = 1 then m.wr else if k = 2 then m.sw else if k = 3 then m.ad else m.ft
section
variable {w w' : World} {pm px : Nat} {hk : Value} {m : Mm}
theorem MemAt.row_same (h : MemAt w pm px hk m) {k : Nat} {y : Int} (hy : y = m.at k) (hx : w'.heap[px]? = w.heap[px]?) : ∃ cur, w'.heap[px]? = some (.cells cur 37 (0, 0)) ∧ ∀ (i : Nat) (x : Int), (m.words.set k y)[i]? = some x → cur[i]? = some (.int .u64 x) := by
  obtain ⟨cur, r1, r2⟩ := h.row
  refine ⟨cur, hx.trans r1, fun i x hi => r2 i x ?_⟩
  rw [List.getElem?_set] at hi
  by_cases e : k = i
  · subst e
    rw [if_pos rfl] at hi
    split at hi
    · rename_i hlt
      rw [← hi, hy]
      unfold Mm.at
      rw [Int.toNat_natCast, List.getElem?_eq_getElem hlt]
      rfl
    · cases hi
  · rw [if_neg e] at hi
    exact hi
theorem MemAt.row_set (h : MemAt w pm px hk m) {k : Nat} (hk' : k < m.words.length) (y : Int) (hx : w'.heap[px]? = (w.setCell ⟨px, k, none⟩ (.int .u64 y)).heap[px]?) : ∃ cur, w'.heap[px]? = some (.cells cur 37 (0, 0)) ∧ ∀ (i : Nat) (x : Int), (m.words.set k y)[i]? = some x → cur[i]? = some (.int .u64 x) := by
  obtain ⟨cur, r1, r2⟩ := h.row
  refine ⟨cur.setIfInBounds k (.int .u64 y), hx.trans (cells_set r1), fun i x hi => ?_⟩
  have hc : k < cur.size := by
    have := r2 k _ (List.getElem?_eq_getElem hk')
    exact (Array.getElem?_eq_some_iff.1 this).1
  rw [List.getElem?_set] at hi
  rw [Array.getElem?_setIfInBounds]
  by_cases e : k = i
  · subst e
    rw [if_pos rfl, if_pos hk'] at hi
    cases hi
    rw [if_pos rfl, if_pos hc]
  · rw [if_neg e] at hi
    rw [if_neg e]
    exact r2 i x hi
theorem MemAt.acc_in (h : MemAt w pm px hk m) {kind k : Nat} {x y : Int} (hkd : kind ≤ 3) (hk' : k < m.words.length) (hm : w'.heap[pm]? = (w.setCell ⟨pm, 1 + kind, none⟩ (.int .i64 (wrap64 (wrap64 (m.cnt kind) + 1)))).heap[pm]?)
    (hx : ∃ cur, w'.heap[px]? = some (.cells cur 37 (0, 0)) ∧ ∀ (i : Nat) (z : Int), (m.words.set k (acY kind (m.at k) x y))[i]? = some z → cur[i]? = some (.int .u64 z)) : MemAt w' pm px hk (m.acc kind k x y) := by
  obtain ⟨c, b1, b2, b3⟩ := h.blk
  rw [cells_set b1, wrap64_one] at hm
  have hin : m.in k := ⟨by omega, by omega⟩
  have hl : (m.acc kind k x y).words.length = m.words.length := by unfold Mm.acc; split <;> simp
  have hw : (m.acc kind k x y).words = m.words.set k (acY kind (m.at k) x y) := by unfold Mm.acc; rw [if_pos hin, Int.toNat_natCast]
  refine ⟨⟨c, ?_, by rw [hl]; exact b2, b3⟩, by rw [hw]; exact hx, by rw [hl]; exact h.len⟩
  rw [hm, hl]
  unfold Mm.acc
  rw [if_pos hin]
  have h4 : kind = 0 ∨ kind = 1 ∨ kind = 2 ∨ kind = 3 := by omega
  rcases h4 with rfl | rfl | rfl | rfl <;> rfl
theorem MemAt.acc_out (h : MemAt w pm px hk m) {kind a x y : Int} (hn : ¬ m.in a) (hm : w'.heap[pm]? = (w.setCell ⟨pm, 5, none⟩ (.int .i64 (wrap64 (wrap64 m.ft + 1)))).heap[pm]?) (hx : w'.heap[px]? = w.heap[px]?) : MemAt w' pm px hk (m.acc kind a x y) := by
  obtain ⟨c, b1, b2, b3⟩ := h.blk
  rw [cells_set b1, wrap64_one] at hm
  obtain ⟨cur, r1, r2⟩ := h.row
  unfold Mm.acc
  rw [if_neg hn]
  exact ⟨⟨c, hm, b2, b3⟩, ⟨cur, hx.trans r1, r2⟩, h.len⟩
end

theorem MemAt.did0 {w w' : World} {pm px : Nat} {hk : Value} {m : Mm} (h : MemAt w pm px hk m) {k : Nat} (hk' : k < m.words.length) (x y : Int) (hm : w'.heap[pm]? = (w.setCell ⟨pm, 1, none⟩ (.int .i64 (wrap64 (wrap64 m.rd + 1)))).heap[pm]?) (hx : w'.heap[px]? = w.heap[px]?) : MemAt w' pm px hk (m.acc 0 k x y) :=
  h.acc_in (kind := 0) (by omega) hk' hm (h.row_same rfl hx)
theorem MemAt.did1 {w w' : World} {pm px : Nat} {hk : Value} {m : Mm} (h : MemAt w pm px hk m) {k : Nat} (hk' : k < m.words.length) (v y : Int) (hm : w'.heap[pm]? = (w.setCell ⟨pm, 2, none⟩ (.int .i64 (wrap64 (wrap64 m.wr + 1)))).heap[pm]?) (hx : w'.heap[px]? = (w.setCell ⟨px, k, none⟩ (.int .u64 v)).heap[px]?) : MemAt w' pm px hk (m.acc 1 k v y) :=
  h.acc_in (kind := 1) (by omega) hk' hm (h.row_set hk' v hx)
theorem MemAt.did2 {w w' : World} {pm px : Nat} {hk : Value} {m : Mm} (h : MemAt w pm px hk m) {k : Nat} (hk' : k < m.words.length) (x y : Int) (he : m.at k = x) (hm : w'.heap[pm]? = (w.setCell ⟨pm, 3, none⟩ (.int .i64 (wrap64 (wrap64 m.sw + 1)))).heap[pm]?) (hx : w'.heap[px]? = (w.setCell ⟨px, k, none⟩ (.int .u64 y)).heap[px]?) : MemAt w' pm px hk (m.acc 2 k x y) := by
  refine h.acc_in (kind := 2) (by omega) hk' hm ?_
  have e : acY (2 : Nat) (m.at k) x y = y := by unfold acY; rw [if_neg (by decide), if_neg (by decide), if_pos (show ((2 : Nat) : Int) = 2 from rfl), if_pos he]
  rw [e]
  exact h.row_set hk' y hx
theorem MemAt.did2no {w w' : World} {pm px : Nat} {hk : Value} {m : Mm} (h : MemAt w pm px hk m) {k : Nat} (hk' : k < m.words.length) (x y : Int) (he : m.at k ≠ x) (hm : w'.heap[pm]? = (w.setCell ⟨pm, 3, none⟩ (.int .i64 (wrap64 (wrap64 m.sw + 1)))).heap[pm]?) (hx : w'.heap[px]? = w.heap[px]?) : MemAt w' pm px hk (m.acc 2 k x y) := by
  refine h.acc_in (kind := 2) (by omega) hk' hm (h.row_same ?_ hx)
  unfold acY
  rw [if_neg (by decide), if_neg (by decide), if_pos (show ((2 : Nat) : Int) = 2 from rfl), if_neg he]
theorem MemAt.did3 {w w' : World} {pm px : Nat} {hk : Value} {m : Mm} (h : MemAt w pm px hk m) {k : Nat} (hk' : k < m.words.length) (x y : Int) (hm : w'.heap[pm]? = (w.setCell ⟨pm, 4, none⟩ (.int .i64 (wrap64 (wrap64 m.ad + 1)))).heap[pm]?) (hx : w'.heap[px]? = (w.setCell ⟨px, k, none⟩ (.int .u64 ((m.at k + x) % 18446744073709551616))).heap[px]?) : MemAt w' pm px hk (m.acc 3 k x y) :=
  h.acc_in (kind := 3) (by omega) hk' hm (h.row_set hk' _ hx)
end Go.Proofs.YtfghmlpjbedomaaGreat
