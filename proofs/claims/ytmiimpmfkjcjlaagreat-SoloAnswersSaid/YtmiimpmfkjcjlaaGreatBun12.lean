/- Plain words for rows that a call owns, and for cells. -/
/- A model that an operation is done to (package model): change, set, and what they are handed. -/
import Derived.Test.YtmiimpmfkjcjlaaGreatBun1
import Derived.Test.YtmiimpmfkjcjlaaGreatApp
import Derived.Deep.OwnRows
import Derived.Test.YtmiimpmfkjcjlaaGreatMo1
import Derived.Test.YtmiimpmfkjcjlaaGreatBun8
import Derived.Laws.CopyOwn
import Derived.IntWalk
namespace Go.Proofs.YtmiimpmfkjcjlaaGreat
open Go.RowKit

theorem owns_base {w : World} {base base' : Nat} {e : TypeId} {sz : Nat} {v : Value} {n : Nat} {xs : List Value} (h : w.ownsRow base e sz v n xs) (hb : base' ≤ base) : w.ownsRow base' e sz v n xs := by
  obtain ⟨h1, h2 | ⟨g, cap, cur, e1, e2, e3⟩⟩ := h
  · exact ⟨h1, Or.inl h2⟩
  · exact ⟨h1, Or.inr ⟨g, cap, cur, e1, Nat.le_trans hb e2, e3⟩⟩
theorem own_slice {w : World} {base : Nat} {e : TypeId} {sz : Nat} {v : Value} {n : Nat} {xs : List Value} (h : w.ownsRow base e sz v n xs) : ∃ A cap, v = .slice A n cap := by
  obtain ⟨_, ⟨e, h0⟩ | ⟨g, cap, cur, e, _⟩⟩ := h
  · exact ⟨none, 0, by rw [e, h0]⟩
  · exact ⟨_, cap, e⟩
theorem owns_keepB {S : Nat → Prop} {w w' : World} {base : Nat} {e : TypeId} {sz : Nat} {v : Value} {n : Nat} {xs : List Value} (h : w.ownsRow base e sz v n xs) (hk : Keep S w w') (hS : ∀ j, base ≤ j → j < w.heap.size → S j) : w'.ownsRow base e sz v n xs := by
  obtain ⟨h1, h2 | ⟨g, cap, cur, e1, e2, e3, e4⟩⟩ := h
  · exact ⟨h1, Or.inl h2⟩
  · exact ⟨h1, Or.inr ⟨g, cap, cur, e1, e2, (hk.block g (hS g e2 (Array.getElem?_eq_some_iff.1 e3).1)).trans e3, e4⟩⟩
theorem cells_set {w : World} {b i : Nat} {cs : Array Value} {t : TypeId} {u : Value} (h : w.heap[b]? = some (.cells cs t (0, 0))) : (w.setCell ⟨b, i, none⟩ u).heap[b]? = some (.cells (cs.setIfInBounds i u) t (0, 0)) := by
  simp [World.setCell, Array.getElem?_modify, h]
theorem cells8 {w : World} {g : Nat} {x0 x1 x2 x3 x4 x5 x6 x7 : Value} {t : TypeId} (h : w.heap[g]? = some (.cells #[x0, x1, x2, x3, x4, x5, x6, x7] t (0, 0))) :
    w.cell? ⟨g, 0, none⟩ = some x0 ∧ w.cell? ⟨g, 1, none⟩ = some x1 ∧ w.cell? ⟨g, 2, none⟩ = some x2 ∧ w.cell? ⟨g, 3, none⟩ = some x3 ∧ w.cell? ⟨g, 4, none⟩ = some x4 ∧ w.cell? ⟨g, 5, none⟩ = some x5 ∧ w.cell? ⟨g, 6, none⟩ = some x6 ∧ w.cell? ⟨g, 7, none⟩ = some x7 :=
  ⟨cell_of_row w g 0 _ t _ h, cell_of_row w g 1 _ t _ h, cell_of_row w g 2 _ t _ h, cell_of_row w g 3 _ t _ h, cell_of_row w g 4 _ t _ h, cell_of_row w g 5 _ t _ h, cell_of_row w g 6 _ t _ h, cell_of_row w g 7 _ t _ h⟩
theorem wrap_i64 {x : Int} (h1 : -9223372036854775808 ≤ x) (h2 : x ≤ 9223372036854775807) : IntKind.i64.wrap x = x := by
  rw [IntKind.wrap_i64]; omega
theorem flat_en {α : Type} {en : α → List Value} {sz : Nat} (hl : ∀ x, (en x).length = sz) {l : List α} {k : Nat} {x : α} (h : l[k]? = some x) (j : Nat) (u : Value) (hu : (en x)[j]? = some u) : (l.flatMap en)[k * sz + j]? = some u := by
  induction l generalizing k with
  | nil => simp at h
  | cons y l ih =>
    have hj : j < sz := by have := (List.getElem?_eq_some_iff.1 hu).1; rwa [hl] at this
    rw [List.flatMap_cons]
    rcases k with _ | k
    · simp at h
      subst h
      rw [List.getElem?_append_left (by rw [hl]; omega)]
      simpa using hu
    · rw [List.getElem?_append_right (by rw [hl, Nat.succ_mul]; omega)]
      have e : (k + 1) * sz + j - (en y).length = k * sz + j := by rw [hl, Nat.succ_mul]; omega
      rw [e]
      exact ih (by simpa using h)
theorem sl_of_owns_en {α : Type} {en : α → List Value} {sz : Nat} (hl : ∀ x, (en x).length = sz) {w : World} {base : Nat} {e : TypeId} {v : Value} {l : List α} (h : w.ownsRow base e sz v l.length (l.flatMap en)) (_hm : l.length ≤ maxLen) : Sl en sz w v l := by
  rcases h.2 with ⟨rfl, h0⟩ | ⟨g, cap, cur, rfl, _, hg, hnc, hcm, _, htake⟩
  · have : l = [] := List.eq_nil_of_length_eq_zero h0
    subst this
    exact ⟨none, 0, rfl, Nat.le_refl _, Nat.zero_le _, fun k x hx => by simp at hx⟩
  · refine ⟨_, cap, rfl, hnc, hcm, fun k x hx => ⟨g, 0, rfl, (Array.getElem?_eq_some_iff.1 hg).1, fun j u hu => ?_⟩⟩
    have hk := (List.getElem?_eq_some_iff.1 hx).1
    have h1 := flat_en hl hx j u hu
    rw [← htake, List.getElem?_take] at h1
    split at h1
    · rw [cell_of_row w g _ cur e (0, 0) hg]
      rw [show 0 + k * sz + j = k * sz + j by omega]
      simpa using h1
    · cases h1
theorem sl_take {α : Type} {en : α → List Value} {sz : Nat} {w : World} {A : Option Addr} {n c k : Nat} {xs : List α} (h : Sl en sz w (.slice A n c) xs) (hk : k ≤ xs.length) : Sl en sz w (.slice A k c) (xs.take k) := by
  obtain ⟨A', c', e, h1, h2, h3⟩ := h
  cases e
  refine ⟨_, _, by rw [List.length_take, Nat.min_eq_left hk], by rw [List.length_take]; omega, h2, fun j x hx => h3 j x ?_⟩
  rw [List.getElem?_take] at hx
  split at hx
  · exact hx
  · cases hx
/-- What lies behind the first k of a slice. -/
theorem sl_drop {α : Type} {en : α → List Value} {sz : Nat} {w : World} {A : Option Addr} {n c k : Nat} {xs : List α} (h : Sl en sz w (.slice A n c) xs) (hk : k ≤ n) : ∃ X, sliced A k n c sz = X ∧ Sl en sz w X (xs.drop k) := by
  obtain ⟨A', c', e, h1, h2, h3⟩ := h
  cases e
  refine ⟨_, rfl, ?_⟩
  unfold sliced
  refine ⟨_, _, by rw [List.length_drop], by rw [List.length_drop]; omega, by omega, fun j x hx => ?_⟩
  rw [List.getElem?_drop] at hx
  obtain ⟨b, o, rfl, hb, hc⟩ := h3 _ _ hx
  have hlt := (List.getElem?_eq_some_iff.1 hx).1
  rw [if_neg (by omega)]
  refine ⟨b, o + k * sz, ?_, hb, ?_⟩
  · simp [Addr.add]
  · rw [show o + k * sz + j * sz = o + (k + j) * sz by rw [Nat.add_mul]; omega]
    exact hc
end Go.Proofs.YtmiimpmfkjcjlaaGreat

namespace Go.Proofs.YtmiimpmfkjcjlaaGreat
open Go.RowKit
attribute [local go_sem] run_store_fn run_store_nilfn

/-- A model that an operation is done to, as it lies in block b. -/
def thC (n : Int) (s : Sp) (v : Value) (c : Cl) : Array Value := #[.int .i64 n, .int .i64 s.kind, .int .i64 s.p, .int .i64 s.q, v, .int .i64 c.thread, .int .i64 c.obj, .int .i64 c.kind, .int .u64 c.a, .int .u64 c.b, .int .u64 c.c]
def ThAt (w : World) (b : Nat) (n : Int) (s : Sp) (v : Value) (c : Cl) : Prop := w.heap[b]? = some (.cells (thC n s v c) 146 (0, 0))
theorem ThAt.cells {w : World} {b : Nat} {n : Int} {s : Sp} {v : Value} {c : Cl} (h : ThAt w b n s v c) :
    w.cell? ⟨b, 0, none⟩ = some (.int .i64 n) ∧ w.cell? ⟨b, 1, none⟩ = some (.int .i64 s.kind) ∧ w.cell? ⟨b, 2, none⟩ = some (.int .i64 s.p) ∧ w.cell? ⟨b, 3, none⟩ = some (.int .i64 s.q) ∧ w.cell? ⟨b, 4, none⟩ = some v ∧
    w.cell? ⟨b, 5, none⟩ = some (.int .i64 c.thread) ∧ w.cell? ⟨b, 6, none⟩ = some (.int .i64 c.obj) ∧ w.cell? ⟨b, 7, none⟩ = some (.int .i64 c.kind) ∧ w.cell? ⟨b, 8, none⟩ = some (.int .u64 c.a) ∧ w.cell? ⟨b, 9, none⟩ = some (.int .u64 c.b) ∧
    w.cell? ⟨b, 10, none⟩ = some (.int .u64 c.c) ∧ w.frozen? ⟨b, 4, none⟩ = false ∧ b < w.heap.size :=
  ⟨cell_of_row w b 0 _ _ _ h, cell_of_row w b 1 _ _ _ h, cell_of_row w b 2 _ _ _ h, cell_of_row w b 3 _ _ _ h, cell_of_row w b 4 _ _ _ h, cell_of_row w b 5 _ _ _ h, cell_of_row w b 6 _ _ _ h, cell_of_row w b 7 _ _ _ h, cell_of_row w b 8 _ _ _ h,
    cell_of_row w b 9 _ _ _ h, cell_of_row w b 10 _ _ _ h, frozen_of_row w b 4 _ _ h, (Array.getElem?_eq_some_iff.1 h).1⟩
theorem ThAt.of_block {w w' : World} {b : Nat} {n : Int} {s : Sp} {v : Value} {c : Cl} (h : ThAt w b n s v c) (hb : w'.heap[b]? = w.heap[b]?) : ThAt w' b n s v c := hb.trans h
theorem ThAt.set {w : World} {b : Nat} {n : Int} {s : Sp} {v : Value} {c : Cl} (h : ThAt w b n s v c) (u : Value) : ThAt (w.setCell ⟨b, 4, none⟩ u) b n s u c := by
  unfold ThAt at h ⊢
  simp [World.setCell, Array.getElem?_modify, h, thC]

def wordC (st : List Int) : Array Value := (st.map (Value.int .u64)).toArray
theorem word_own {w : World} {g B : Nat} {st : List Int} (h : w.heap[g]? = some (.cells (wordC st) 25 (0, 0))) (hB : B ≤ g) (hl : st.length ≤ 1000000) : WOwn w B (.slice (some ⟨g, 0, none⟩) st.length st.length) st.length st :=
  ⟨by simp, Or.inr ⟨g, st.length, wordC st, rfl, hB, h, Nat.le_refl _, by unfold maxLen; omega, by simp [wordC], by rw [Nat.mul_one]; exact List.take_of_length_le (by simp [wordC])⟩⟩

set_option maxRecDepth 100000 in
set_option maxHeartbeats 2000000 in
theorem change_any (g b B : Nat) (caps : Array Value) (n : Int) (s : Sp) (c : Cl) (v : Value) (st st' : List Int) (w : World) (hent : ∀ args w, (callFunc g args).run Tryz.prog w = .ok (.enter g args) w) (hT : ThAt w b n s v c) (hO : WOwn w B v st.length st) (hl : st.length ≤ 1000000)
    (hdo : ∀ W : World, Below w.heap.size w W → W.heap[w.heap.size]? = some (.cells (wordC st) 25 (0, 0)) → w.heap.size < W.heap.size →
      Calls Tryz.prog g (#[.slice (some ⟨w.heap.size, 0, none⟩) st.length st.length] ++ caps) W fun e W' => e = .returned (.tuple #[]) ∧ W'.heap[w.heap.size]? = some (.cells (wordC st') 25 (0, 0)) ∧ Below w.heap.size W W') :
    Calls Tryz.prog 196 #[.pointer (some ⟨b, 0, none⟩), .func (.func g) #[] caps] w fun e w' =>
      e = .returned (.tuple #[]) ∧ ThAt w' b n s (.slice (some ⟨w.heap.size, 0, none⟩) st.length st.length) c ∧ w'.heap[w.heap.size]? = some (.cells (wordC st') 25 (0, 0)) ∧ Keep (fun j => j < w.heap.size ∧ j ≠ b) w w' := by
  have hsl : SlW w v st := wrow_sl hO (by unfold maxLen; omega)
  obtain ⟨vA, vc, rfl⟩ := own_slice hO
  obtain ⟨_, _, _, _, a4, _, _, _, _, _, _, f4, hb⟩ := hT.cells
  have hmk : ∀ W, (Instr.makeSlice 24 (.int .i64 (st.length : Int)) (.int .i64 (st.length : Int))).run Tryz.prog W = .ok (.slice (some ⟨W.heap.size, 0, none⟩) st.length st.length) (W.alloc (.cells (madeCells #[.int .u64 0] st.length) 25)) :=
    fun W => run_make_row' (P := Tryz.prog) 24 25 (.int .u64 0) 8 Tryz.underlying24 info_word rfl .i64 .i64 st.length (by omega) (by omega) W
  have hl63 : (st.length : Int) ≤ 1000000 := by omega
  have HT := hide hT
  have HS := hide hsl
  have HD := hide hdo
  have hmz : madeCells #[Value.int .u64 0] st.length = (List.replicate st.length (Value.int .u64 0)).toArray := by
    apply Array.ext'
    unfold madeCells
    apply List.ext_getElem?
    intro i
    simp [List.getElem?_replicate]
    by_cases h : i < st.length
    · simp [h, Nat.mod_one]
    · simp [h]
  obtain ⟨cs, hcs⟩ : ∃ cs, cs = st.map (Value.int .u64) := ⟨_, rfl⟩
  have hcl : cs.length = st.length := by rw [hcs, List.length_map]
  have hsrc : ∀ ad, vA = some ad → ∀ j u, cs[j]? = some u → (w.alloc (.cells (madeCells #[.int .u64 0] st.length) 25)).cell? (ad.add j) = some u := fun ad hA j u hu => by
    rw [hcs] at hu
    exact sl_news (hsl.alloc _) hA j u hu
  have hpos : 0 < st.length → ∃ ad, vA = some ad := fun h => by
    rcases vA with _ | ad
    · have := sl_null hsl
      rw [this] at h
      simp at h
    · exact ⟨ad, rfl⟩
  have HSRC := hide hsrc
  have HPOS := hide hpos
  have HCS := hide hcs
  have HCL := hide hcl
  have HMZ := hide hmz
  clear hT hO hsl hdo hsrc hpos hcs hcl hmz
  go_enter Tryz.func196, Tryz.ntmps196
  go_wp2_with (with_reducible refine wpList_copy_splice rfl (.tmp 11) (.tmp 15) 24 24 rfl 25 Tryz.underlying24 (by kernel_rfl) (some ⟨w.heap.size, 0, none⟩) vA st.length st.length st.length vc rfl rfl w.heap.size 0 (List.replicate st.length (.int .u64 0)) 25 (by rw [heap_alloc_new, HMZ.out]) cs (by rw [HCL.out]; simp) (fun h => ⟨rfl, (HPOS.out (by have := HCL.out; omega)).elim fun ad hA => ⟨ad, hA, HSRC.out ad hA⟩⟩) (by rw [HCL.out, List.length_replicate]; omega) (by rw [HCS.out]; exact ints_oneCell .u64 st) w.heap.size w ((Below.refl _ w).alloc (Nat.le_refl _) _) (Nat.le_refl _) ?_; intro w2 HG2 hB2)
  have hg2 : w2.heap[w.heap.size]? = some (.cells (wordC st) 25 (0, 0)) := by
    have h := HG2.out
    have e : splice (List.replicate st.length (Value.int .u64 0)) 0 cs = st.map (Value.int .u64) := by
      unfold splice
      rw [Nat.zero_add, List.drop_of_length_le (by rw [List.length_replicate, HCL.out]; exact Nat.le_refl _), HCS.out]
      simp
    rw [e] at h
    exact h
  have hz2 : w.heap.size < w2.heap.size := (Array.getElem?_eq_some_iff.1 hg2).1
  have N0 := HD.out w2 hB2 hg2 hz2
  clear HG2 HSRC HPOS HCS HCL HMZ
  refine N0.mono ?_
  rintro e w3 ⟨rfl, hg3, hb3⟩
  have hB3 : Below w.heap.size w w3 := hB2.trans hb3
  have hT3 := HT.out.of_block (hB3.block b hb)
  obtain ⟨b0, b1, b2, b3, b4, b5, b6, b7, b8, b9, b10, bf, bz⟩ := hT3.cells
  have HT3 := hide hT3
  have HG3 := hide hg3
  clear hg2 hg3 N0
  go_wp2
  go_end0
  refine ⟨rfl, HT3.out.set _, ?_, ?_⟩
  · rw [← HG3.out]
    exact Below.heap_setCell _ _ _ _ (by show w.heap.size ≠ b; omega)
  · exact (Keep.of_below (K := fun j => j < w.heap.size ∧ j ≠ b) hB3 (fun k hk => hk.1)).setCell (by simp) _

theorem wordC_get {st : List Int} {i : Nat} {x : Int} (h : st[i]? = some x) : (wordC st)[i]? = some (.int .u64 x) := by simp [wordC, h]
theorem word_cell {w : World} {g i : Nat} {st : List Int} {x : Int} (h : w.heap[g]? = some (.cells (wordC st) 25 (0, 0))) (hx : st[i]? = some x) : w.cell? ⟨g, i, none⟩ = some (.int .u64 x) := by
  rw [cell_of_row w g i _ _ _ h]
  exact wordC_get hx
theorem word_set {w : World} {g i : Nat} {st : List Int} {x : Int} (h : w.heap[g]? = some (.cells (wordC st) 25 (0, 0))) : (w.setCell ⟨g, i, none⟩ (.int .u64 x)).heap[g]? = some (.cells (wordC (st.set i x)) 25 (0, 0)) := by
  simp [World.setCell, Array.getElem?_modify, h, wordC, List.map_set]

set_option maxRecDepth 100000 in
theorem set1_any (g i L bi bv : Nat) (x : Int) (st : List Int) (W : World) (h : W.heap[g]? = some (.cells (wordC st) 25 (0, 0))) (hL : st.length = L) (hi : i < L) (hl : L ≤ 1000000)
    (hbi : W.cell? ⟨bi, 0, none⟩ = some (.int .i64 i)) (hbv : W.cell? ⟨bv, 0, none⟩ = some (.int .u64 x)) (_hg1 : g ≠ bi) (_hg2 : g ≠ bv) (B : Nat) (hB : B ≤ g) :
    Calls Tryz.prog 207 #[.slice (some ⟨g, 0, none⟩) L L, .pointer (some ⟨bv, 0, none⟩), .pointer (some ⟨bi, 0, none⟩)] W fun e W' =>
      e = .returned (.tuple #[]) ∧ W'.heap[g]? = some (.cells (wordC (st.set i x)) 25 (0, 0)) ∧ Below B W W' := by
  have c0 := word_cell (i := i) h (List.getElem?_eq_getElem (by omega))
  have f0 := frozen_of_row W g i _ _ h
  have hgl := (Array.getElem?_eq_some_iff.1 h).1
  have q0 : (0 : Int) ≤ (i : Int) := by omega
  have q1 : (i : Int) < (L : Int) := by omega
  have H := hide h
  subst hL
  clear h
  go_enter Tryz.func207, Tryz.ntmps207
  go_wp2
  go_end0
  exact ⟨rfl, word_set H.out, (Below.refl _ W).setCell (by simpa using hB) _⟩

set_option maxRecDepth 100000 in
set_option maxHeartbeats 1000000 in
theorem set_any (b B i : Nat) (x : Int) (n : Int) (s : Sp) (c : Cl) (v : Value) (st : List Int) (w : World) (hT : ThAt w b n s v c) (hO : WOwn w B v st.length st) (hl : st.length ≤ 1000000) (hi : i < st.length) :
    Calls Tryz.prog 195 #[.pointer (some ⟨b, 0, none⟩), .int .i64 i, .int .u64 x] w fun e w' =>
      ∃ u, e = .returned (.tuple #[]) ∧ ThAt w' b n s u c ∧ WOwn w' w.heap.size u st.length (st.set i x) ∧ Keep (fun j => j < w.heap.size ∧ j ≠ b) w w' := by
  have hb := hT.cells.2.2.2.2.2.2.2.2.2.2.2.2
  have N0 := change_any 207 b B #[.pointer (some ⟨w.heap.size + 1, 0, none⟩), .pointer (some ⟨w.heap.size, 0, none⟩)] n s c v st (st.set i x) ((w.alloc (.cells #[.int .i64 i] 3)).alloc (.cells #[.int .u64 x] 25))
    (enter_of Tryz.func207 (by kernel_rfl) (by kernel_rfl)) (hT.of_block ((heap_alloc_old _ _ (by simp; omega)).trans (heap_alloc_old w _ hb))) ((World.ownsRow.alloc hO _).alloc _) hl
    (fun W hB hg hz => by
      have hW : Below (w.heap.size + 2) ((w.alloc (.cells #[.int .i64 i] 3)).alloc (.cells #[.int .u64 x] 25)) W := hB.mono (by simp)
      have e0 : ((w.alloc (.cells #[.int .i64 i] 3)).alloc (.cells #[.int .u64 x] 25)).cell? ⟨w.heap.size, 0, none⟩ = some (.int .i64 i) := by go_simp
      have e1 : ((w.alloc (.cells #[.int .i64 i] 3)).alloc (.cells #[.int .u64 x] 25)).cell? ⟨w.heap.size + 1, 0, none⟩ = some (.int .u64 x) := by go_simp
      exact set1_any _ i st.length w.heap.size (w.heap.size + 1) x st W hg rfl hi hl ((hW.cell (p := ⟨w.heap.size, 0, none⟩) (by show w.heap.size < _; omega)).trans e0) ((hW.cell (p := ⟨w.heap.size + 1, 0, none⟩) (by show w.heap.size + 1 < _; omega)).trans e1) (by simp; omega) (by simp) _ (Nat.le_refl _))
  have HT := hide hT
  have HO := hide hO
  clear hT hO
  go_enter Tryz.func195, Tryz.ntmps195
  go_wp2_with fail
  refine N0.mono ?_
  rintro e w3 ⟨rfl, hT3, hg3, hk3⟩
  have HT3 := hide hT3
  have HG3 := hide hg3
  clear hT3 hg3 N0
  go_wp2
  go_end0
  refine ⟨_, rfl, HT3.out, ?_, ?_⟩
  · have := word_own (B := w.heap.size) HG3.out (by simp; omega) (by rw [List.length_set]; exact hl)
    rw [List.length_set] at this
    exact this
  · exact (((Keep.refl (fun j => j < w.heap.size ∧ j ≠ b) w).alloc (fun k hk => hk.1) _).alloc (fun k hk => by have := hk.1; simp; omega) _).trans (hk3.mono (fun k hk => ⟨by have := hk.1; simp; omega, hk.2⟩))
end Go.Proofs.YtmiimpmfkjcjlaaGreat
