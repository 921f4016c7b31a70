import Derived.Test.YtmiimpmfkjcjlaaGreatBun18
import Derived.Test.YtmiimpmfkjcjlaaGreatBun13
import Derived.Test.YtmiimpmfkjcjlaaGreatBun6
import Derived.Laws.CopyOwn
import Derived.IntWalk
import Derived.Test.YtmiimpmfkjcjlaaGreatBun1
namespace Go.Proofs.YtmiimpmfkjcjlaaGreat
open Go.RowKit
attribute [local go_sem] run_store_fn run_store_nilfn
def thC (n : Int) (s : Sp) (v : Value) (c : Cl) : Array Value := #[.int .i64 n, .int .i64 s.kind, .int .i64 s.p, .int .i64 s.q, v, .int .i64 c.thread, .int .i64 c.obj, .int .i64 c.kind, .int .u64 c.a, .int .u64 c.b, .int .u64 c.c]
def ThAt (w : World) (b : Nat) (n : Int) (s : Sp) (v : Value) (c : Cl) : Prop := w.heap[b]? = some (.cells (thC n s v c) 146 (0, 0))
theorem ThAt.cells {w : World} {b : Nat} {n : Int} {s : Sp} {v : Value} {c : Cl} (h : ThAt w b n s v c) :
    w.cell? ⟨b, 0, none⟩ = some (.int .i64 n) ∧ w.cell? ⟨b, 1, none⟩ = some (.int .i64 s.kind) ∧ w.cell? ⟨b, 2, none⟩ = some (.int .i64 s.p) ∧ w.cell? ⟨b, 3, none⟩ = some (.int .i64 s.q) ∧ w.cell? ⟨b, 4, none⟩ = some v ∧
    w.cell? ⟨b, 5, none⟩ = some (.int .i64 c.thread) ∧ w.cell? ⟨b, 6, none⟩ = some (.int .i64 c.obj) ∧ w.cell? ⟨b, 7, none⟩ = some (.int .i64 c.kind) ∧ w.cell? ⟨b, 8, none⟩ = some (.int .u64 c.a) ∧ w.cell? ⟨b, 9, none⟩ = some (.int .u64 c.b) ∧
    w.cell? ⟨b, 10, none⟩ = some (.int .u64 c.c) ∧ w.frozen? ⟨b, 4, none⟩ = false ∧ b < w.heap.size :=
  ⟨cell_of_row w b 0 _ _ _ h, cell_of_row w b 1 _ _ _ h, cell_of_row w b 2 _ _ _ h, cell_of_row w b 3 _ _ _ h, cell_of_row w b 4 _ _ _ h, cell_of_row w b 5 _ _ _ h, cell_of_row w b 6 _ _ _ h, cell_of_row w b 7 _ _ _ h, cell_of_row w b 8 _ _ _ h,
    cell_of_row w b 9 _ _ _ h, cell_of_row w b 10 _ _ _ h, frozen_of_row w b 4 _ _ h, (Array.getElem?_eq_some_iff.1 h).1⟩
theorem ThAt.of_block {w w' : World} {b : Nat} {n : Int} {s : Sp} {v : Value} {c : Cl} (h : ThAt w b n s v c) (hb : w'.heap[b]? = w.heap[b]?) : ThAt w' b n s v c := hb.trans h
theorem ThAt.set {w : World} {b : Nat} {n : Int} {s : Sp} {v : Value} {c : Cl} (h : ThAt w b n s v c) (u : Value) : ThAt (w.setCell ⟨b, 4, none⟩ u) b n s u c := by
  unfold ThAt at h ⊢
  simp [World.setCell, Array.getElem?_modify, h, thC]
def wordC (st : List Int) : Array Value := (st.map (Value.int .u64)).toArray
theorem word_own {w : World} {g B : Nat} {st : List Int} (h : w.heap[g]? = some (.cells (wordC st) 25 (0, 0))) (hB : B ≤ g) (hl : st.length ≤ 1000000) : WOwn w B (.slice (some ⟨g, 0, none⟩) st.length st.length) st.length st :=
  ⟨by simp, Or.inr ⟨g, st.length, wordC st, rfl, hB, h, Nat.le_refl _, by unfold maxLen; omega, by simp [wordC], by rw [Nat.mul_one]; exact List.take_of_length_le (by simp [wordC])⟩⟩
set_option maxRecDepth 100000 in
set_option maxHeartbeats 2000000 in
theorem change_any (g b B : Nat) (caps : Array Value) (n : Int) (s : Sp) (c : Cl) (v : Value) (st st' : List Int) (w : World) (hent : ∀ args w, (callFunc g args).run Tryz.prog w = .ok (.enter g args) w) (hT : ThAt w b n s v c) (hO : WOwn w B v st.length st) (hl : st.length ≤ 1000000)
    (hdo : ∀ W : World, Below w.heap.size w W → W.heap[w.heap.size]? = some (.cells (wordC st) 25 (0, 0)) → w.heap.size < W.heap.size →
      Calls Tryz.prog g (#[.slice (some ⟨w.heap.size, 0, none⟩) st.length st.length] ++ caps) W fun e W' => e = .returned (.tuple #[]) ∧ W'.heap[w.heap.size]? = some (.cells (wordC st') 25 (0, 0)) ∧ Below w.heap.size W W') :
    Calls Tryz.prog 196 #[.pointer (some ⟨b, 0, none⟩), .func (.func g) #[] caps] w fun e w' =>
      e = .returned (.tuple #[]) ∧ ThAt w' b n s (.slice (some ⟨w.heap.size, 0, none⟩) st.length st.length) c ∧ w'.heap[w.heap.size]? = some (.cells (wordC st') 25 (0, 0)) ∧ Keep (fun j => j < w.heap.size ∧ j ≠ b) w w' := by
  have hsl : SlW w v st := wrow_sl hO (by unfold maxLen; omega)
  obtain ⟨vA, vc, rfl⟩ := own_slice hO
  obtain ⟨_, _, _, _, a4, _, _, _, _, _, _, f4, hb⟩ := hT.cells
  have hmk : ∀ W, (Instr.makeSlice 24 (.int .i64 (st.length : Int)) (.int .i64 (st.length : Int))).run Tryz.prog W = .ok (.slice (some ⟨W.heap.size, 0, none⟩) st.length st.length) (W.alloc (.cells (madeCells #[.int .u64 0] st.length) 25)) :=
    fun W => run_make_row' (P := Tryz.prog) 24 25 (.int .u64 0) 8 Tryz.underlying24 info_word rfl .i64 .i64 st.length (by omega) (by omega) W
  have hl63 : (st.length : Int) ≤ 1000000 := by omega
  have HT := hide hT
  have HS := hide hsl
  have HD := hide hdo
  have hmz : madeCells #[Value.int .u64 0] st.length = (List.replicate st.length (Value.int .u64 0)).toArray := by
    apply Array.ext'
    unfold madeCells
    apply List.ext_getElem?
    intro i
    simp [List.getElem?_replicate]
    by_cases h : i < st.length
    · simp [h, Nat.mod_one]
    · simp [h]
  obtain ⟨cs, hcs⟩ : ∃ cs, cs = st.map (Value.int .u64) := ⟨_, rfl⟩
  have hcl : cs.length = st.length := by rw [hcs, List.length_map]
  have hsrc : ∀ ad, vA = some ad → ∀ j u, cs[j]? = some u → (w.alloc (.cells (madeCells #[.int .u64 0] st.length) 25)).cell? (ad.add j) = some u := fun ad hA j u hu => by
    rw [hcs] at hu
    exact sl_news (hsl.alloc _) hA j u hu
  have hpos : 0 < st.length → ∃ ad, vA = some ad := fun h => by
    rcases vA with _ | ad
    · have := sl_null hsl
      rw [this] at h
      simp at h
    · exact ⟨ad, rfl⟩
  have HSRC := hide hsrc
  have HPOS := hide hpos
  have HCS := hide hcs
  have HCL := hide hcl
  have HMZ := hide hmz
  clear hT hO hsl hdo hsrc hpos hcs hcl hmz
  go_enter Tryz.func196, Tryz.ntmps196
  go_wp2_with (with_reducible refine wpList_copy_splice rfl (.tmp 11) (.tmp 15) 24 24 rfl 25 Tryz.underlying24 (by kernel_rfl) (some ⟨w.heap.size, 0, none⟩) vA st.length st.length st.length vc rfl rfl w.heap.size 0 (List.replicate st.length (.int .u64 0)) 25 (by rw [heap_alloc_new, HMZ.out]) cs (by rw [HCL.out]; simp) (fun h => ⟨rfl, (HPOS.out (by have := HCL.out; omega)).elim fun ad hA => ⟨ad, hA, HSRC.out ad hA⟩⟩) (by rw [HCL.out, List.length_replicate]; omega) (by rw [HCS.out]; exact ints_oneCell .u64 st) w.heap.size w ((Below.refl _ w).alloc (Nat.le_refl _) _) (Nat.le_refl _) ?_; intro w2 HG2 hB2)
  have hg2 : w2.heap[w.heap.size]? = some (.cells (wordC st) 25 (0, 0)) := by
    have h := HG2.out
    have e : splice (List.replicate st.length (Value.int .u64 0)) 0 cs = st.map (Value.int .u64) := by
      unfold splice
      rw [Nat.zero_add, List.drop_of_length_le (by rw [List.length_replicate, HCL.out]; exact Nat.le_refl _), HCS.out]
      simp
    rw [e] at h
    exact h
  have hz2 : w.heap.size < w2.heap.size := (Array.getElem?_eq_some_iff.1 hg2).1
  have N0 := HD.out w2 hB2 hg2 hz2
  clear HG2 HSRC HPOS HCS HCL HMZ
  refine N0.mono ?_
  rintro e w3 ⟨rfl, hg3, hb3⟩
  have hB3 : Below w.heap.size w w3 := hB2.trans hb3
  have hT3 := HT.out.of_block (hB3.block b hb)
  obtain ⟨b0, b1, b2, b3, b4, b5, b6, b7, b8, b9, b10, bf, bz⟩ := hT3.cells
  have HT3 := hide hT3
  have HG3 := hide hg3
  clear hg2 hg3 N0
  go_wp2
  go_end0
  refine ⟨rfl, HT3.out.set _, ?_, ?_⟩
  · rw [← HG3.out]
    exact Below.heap_setCell _ _ _ _ (by show w.heap.size ≠ b; omega)
  · exact (Keep.of_below (K := fun j => j < w.heap.size ∧ j ≠ b) hB3 (fun k hk => hk.1)).setCell (by simp) _
theorem wordC_get {st : List Int} {i : Nat} {x : Int} (h : st[i]? = some x) : (wordC st)[i]? = some (.int .u64 x) := by simp [wordC, h]
theorem word_cell {w : World} {g i : Nat} {st : List Int} {x : Int} (h : w.heap[g]? = some (.cells (wordC st) 25 (0, 0))) (hx : st[i]? = some x) : w.cell? ⟨g, i, none⟩ = some (.int .u64 x) := by
  rw [cell_of_row w g i _ _ _ h]
  exact wordC_get hx
theorem word_set {w : World} {g i : Nat} {st : List Int} {x : Int} (h : w.heap[g]? = some (.cells (wordC st) 25 (0, 0))) : (w.setCell ⟨g, i, none⟩ (.int .u64 x)).heap[g]? = some (.cells (wordC (st.set i x)) 25 (0, 0)) := by
  simp [World.setCell, Array.getElem?_modify, h, wordC, List.map_set]
set_option maxRecDepth 100000 in
theorem set1_any (g i L bi bv : Nat) (x : Int) (st : List Int) (W : World) (h : W.heap[g]? = some (.cells (wordC st) 25 (0, 0))) (hL : st.length = L) (hi : i < L) (hl : L ≤ 1000000)
    (hbi : W.cell? ⟨bi, 0, none⟩ = some (.int .i64 i)) (hbv : W.cell? ⟨bv, 0, none⟩ = some (.int .u64 x)) (_hg1 : g ≠ bi) (_hg2 : g ≠ bv) (B : Nat) (hB : B ≤ g) :
    Calls Tryz.prog 207 #[.slice (some ⟨g, 0, none⟩) L L, .pointer (some ⟨bv, 0, none⟩), .pointer (some ⟨bi, 0, none⟩)] W fun e W' =>
      e = .returned (.tuple #[]) ∧ W'.heap[g]? = some (.cells (wordC (st.set i x)) 25 (0, 0)) ∧ Below B W W' := by
  have c0 := word_cell (i := i) h (List.getElem?_eq_getElem (by omega))
  have f0 := frozen_of_row W g i _ _ h
  have hgl := (Array.getElem?_eq_some_iff.1 h).1
  have q0 : (0 : Int) ≤ (i : Int) := by omega
  have q1 : (i : Int) < (L : Int) := by omega
  have H := hide h
  subst hL
  clear h
  go_enter Tryz.func207, Tryz.ntmps207
  go_wp2
  go_end0
  exact ⟨rfl, word_set H.out, (Below.refl _ W).setCell (by simpa using hB) _⟩
set_option maxRecDepth 100000 in
set_option maxHeartbeats 1000000 in
theorem set_any (b B i : Nat) (x : Int) (n : Int) (s : Sp) (c : Cl) (v : Value) (st : List Int) (w : World) (hT : ThAt w b n s v c) (hO : WOwn w B v st.length st) (hl : st.length ≤ 1000000) (hi : i < st.length) :
    Calls Tryz.prog 195 #[.pointer (some ⟨b, 0, none⟩), .int .i64 i, .int .u64 x] w fun e w' =>
      ∃ u, e = .returned (.tuple #[]) ∧ ThAt w' b n s u c ∧ WOwn w' w.heap.size u st.length (st.set i x) ∧ Keep (fun j => j < w.heap.size ∧ j ≠ b) w w' := by
  have hb := hT.cells.2.2.2.2.2.2.2.2.2.2.2.2
  have N0 := change_any 207 b B #[.pointer (some ⟨w.heap.size + 1, 0, none⟩), .pointer (some ⟨w.heap.size, 0, none⟩)] n s c v st (st.set i x) ((w.alloc (.cells #[.int .i64 i] 3)).alloc (.cells #[.int .u64 x] 25))
    (enter_of Tryz.func207 (by kernel_rfl) (by kernel_rfl)) (hT.of_block ((heap_alloc_old _ _ (by simp; omega)).trans (heap_alloc_old w _ hb))) ((World.ownsRow.alloc hO _).alloc _) hl
    (fun W hB hg hz => by
      have hW : Below (w.heap.size + 2) ((w.alloc (.cells #[.int .i64 i] 3)).alloc (.cells #[.int .u64 x] 25)) W := hB.mono (by simp)
      have e0 : ((w.alloc (.cells #[.int .i64 i] 3)).alloc (.cells #[.int .u64 x] 25)).cell? ⟨w.heap.size, 0, none⟩ = some (.int .i64 i) := by go_simp
      have e1 : ((w.alloc (.cells #[.int .i64 i] 3)).alloc (.cells #[.int .u64 x] 25)).cell? ⟨w.heap.size + 1, 0, none⟩ = some (.int .u64 x) := by go_simp
      exact set1_any _ i st.length w.heap.size (w.heap.size + 1) x st W hg rfl hi hl ((hW.cell (p := ⟨w.heap.size, 0, none⟩) (by show w.heap.size < _; omega)).trans e0) ((hW.cell (p := ⟨w.heap.size + 1, 0, none⟩) (by show w.heap.size + 1 < _; omega)).trans e1) (by simp; omega) (by simp) _ (Nat.le_refl _))
  have HT := hide hT
  have HO := hide hO
  clear hT hO
  go_enter Tryz.func195, Tryz.ntmps195
  go_wp2_with fail
  refine N0.mono ?_
  rintro e w3 ⟨rfl, hT3, hg3, hk3⟩
  have HT3 := hide hT3
  have HG3 := hide hg3
  clear hT3 hg3 N0
  go_wp2
  go_end0
  refine ⟨_, rfl, HT3.out, ?_, ?_⟩
  · have := word_own (B := w.heap.size) HG3.out (by simp; omega) (by rw [List.length_set]; exact hl)
    rw [List.length_set] at this
    exact this
  · exact (((Keep.refl (fun j => j < w.heap.size ∧ j ≠ b) w).alloc (fun k hk => hk.1) _).alloc (fun k hk => by have := hk.1; simp; omega) _).trans (hk3.mono (fun k hk => ⟨by have := hk.1; simp; omega, hk.2⟩))
end Go.Proofs.YtmiimpmfkjcjlaaGreat

namespace Go.Proofs.YtmiimpmfkjcjlaaGreat
open Go.RowKit
attribute [local go_sem] run_store_fn run_store_nilfn
theorem mno_any (v : Int) (w : World) : Calls Tryz.prog 77 #[.int .i64 v] w fun e w' => e = .returned (.agg #[.int .i64 v, .int .u64 0, .slice none 0 0]) ∧ w' = w.alloc (.cells #[.int .i64 v, .int .u64 0, .slice none 0 0] 57) := by
  go_enter Tryz.func77, Tryz.ntmps77
  go_wp2
  refine bodyPost_ret (v := .agg #[.int .i64 v, .int .u64 0, .slice none 0 0]) (by simp [results, Tryz.results77, go_sem]) rfl ⟨rfl, ?_⟩
  first | rfl | simp [go_sem]
def ThPost (n : Int) (s : Sp) (c : Cl) (b B : Nat) (R : List Int × An) (w : World) (e : Ending) (w' : World) : Prop :=
  ∃ v' L, e = .returned (.agg #[.int .i64 R.2.err, .int .u64 R.2.val, L]) ∧ ThAt w' b n s v' c ∧ WOwn w' B v' R.1.length R.1 ∧ WOwn w' B L R.2.list.length R.2.list ∧ Keep (fun j => j < w.heap.size ∧ j ≠ b) w w'
abbrev resW (w : World) : World := w.alloc (.cells #[.int .i64 0, .int .u64 0, .slice none 0 0] 57)
theorem res_cells {w w3 : World} {b : Nat} (hk : Keep (fun j => j < (resW w).heap.size ∧ j ≠ b) (resW w) w3) (hb : b < w.heap.size) :
    w3.cell? ⟨w.heap.size, 0, none⟩ = some (.int .i64 0) ∧ w3.cell? ⟨w.heap.size, 1, none⟩ = some (.int .u64 0) ∧ w3.cell? ⟨w.heap.size, 2, none⟩ = some (.slice none 0 0) ∧ w3.frozen? ⟨w.heap.size, 0, none⟩ = false ∧ w3.frozen? ⟨w.heap.size, 1, none⟩ = false ∧ w3.frozen? ⟨w.heap.size, 2, none⟩ = false ∧ w.heap.size < w3.heap.size :=
  cells3 ((hk.block w.heap.size ⟨by simp, by omega⟩).trans (heap_alloc_new w _))
theorem mpost_keep {n : Int} {s : Sp} {c : Cl} {b B : Nat} {v : Value} {st l : List Int} {w w' : World} {err val : Int} (hb : b < w.heap.size) (hT : ThAt w b n s v c) (hO : WOwn w B v st.length st) (hl : l = []) (hB : Below w.heap.size w w') :
    ThPost n s c b B (st, ⟨err, val, l⟩) w (.returned (.agg #[.int .i64 err, .int .u64 val, .slice none 0 0])) w' := by
  subst hl
  exact ⟨v, _, rfl, hT.of_block (hB.block b hb), WOwn.below hO hB (Nat.le_refl _), World.ownsRow_nil _ _ _ _, Keep.of_below hB (fun k hk => hk.1)⟩
theorem mpost_set {n : Int} {s : Sp} {c : Cl} {b B L : Nat} {u : Value} {st' l : List Int} {w w3 w' : World} {err val : Int} (hT : ThAt w3 b n s u c) (hO : WOwn w3 (resW w).heap.size u L st') (hBw : B ≤ w.heap.size) (hb : b < w.heap.size) (hl : l = []) (hL : L = st'.length)
    (hk : Keep (fun j => j < (resW w).heap.size ∧ j ≠ b) (resW w) w3) (h' : Keep (fun j => j ≠ w.heap.size) w3 w') :
    ThPost n s c b B (st', ⟨err, val, l⟩) w (.returned (.agg #[.int .i64 err, .int .u64 val, .slice none 0 0])) w' := by
  subst hl hL
  refine ⟨u, _, rfl, hT.of_block (h'.block b (by omega)), owns_base (owns_keepB hO h' (fun j hj _ => by simp at hj; omega)) (by simp; omega), World.ownsRow_nil _ _ _ _, ?_⟩
  exact ((Keep.refl (fun j => j < w.heap.size ∧ j ≠ b) w).alloc (fun k hk => hk.1) _).trans ((hk.mono (fun k hk => ⟨by have := hk.1; simp; omega, hk.2⟩)).trans (h'.mono (fun k hk => by have := hk.1; omega)))
set_option maxRecDepth 100000 in
set_option maxHeartbeats 4000000 in
theorem mcell_any (n : Int) (s : Sp) (c : Cl) (b B : Nat) (v : Value) (st : List Int) (w : World) (hT : ThAt w b n s v c) (hO : WOwn w B v st.length st) (hBw : B ≤ w.heap.size) (hp1 : 1 ≤ s.p) (hp2 : s.p ≤ 64) (hst : (st.length : Int) = s.p)
    (ha : U64 c.a) (hk0 : 0 ≤ c.kind) (hk1 : c.kind < 4) : Calls Tryz.prog 145 #[.pointer (some ⟨b, 0, none⟩)] w (ThPost n s c b B (cellM s st c) w) := by
  have hl6 : st.length ≤ 1000000 := by omega
  obtain ⟨a0, a1, a2, a3, a4, a5, a6, a7, a8, a9, a10, f4, hb⟩ := hT.cells
  have hwu : IntKind.u64.wrap s.p = s.p := by rw [IntKind.wrap_u64]; omega
  by_cases h0 : s.p ≤ c.a
  · have hM : cellM s st c = (st, ⟨10, 0, []⟩) := by unfold cellM; rw [if_pos h0]; rfl
    rw [hM]
    have HT := hide hT
    have HO := hide hO
    have d0 : decide (IntKind.u64.wrap s.p ≤ c.a) = true := by rw [hwu]; simpa using h0
    clear hT hO hM h0 hwu
    go_enter Tryz.func145, Tryz.ntmps145
    go_wp2_with fail
    refine wp_region_seq (Below w.heap.size w) (.take 0 <| .take 1 <| .take 2 <| .take 3 <| .take 4 <| .take 5 <| .take 6 <| .take 7 <| .take 8 <| .take 9 <| .take 10 <| .take 11 <| .done) (by kernel_rfl) (by kernel_rfl) (by kernel_rfl) (by (repeat' (first | exact Below.refl _ _ | assumption | refine Below.drew ?_ | refine below_drewN ?_ _ | refine Below.alloc ?_ (by simp <;> omega) _ | refine Below.setCell ?_ (by simp <;> omega) _))) ?_
    repeat (refine seq_take (v := ?_) rfl (by rfl) ?_ ?_; rotate_left; (focus (intro wS hS; have z0 := (hS.cell (p := ⟨b, 0, none⟩) hb).trans a0; have z1 := (hS.cell (p := ⟨b, 1, none⟩) hb).trans a1; have z2 := (hS.cell (p := ⟨b, 2, none⟩) hb).trans a2; have z3 := (hS.cell (p := ⟨b, 3, none⟩) hb).trans a3; have z4 := (hS.cell (p := ⟨b, 4, none⟩) hb).trans a4; have z5 := (hS.cell (p := ⟨b, 5, none⟩) hb).trans a5; have z7 := (hS.cell (p := ⟨b, 7, none⟩) hb).trans a7; have z8 := (hS.cell (p := ⟨b, 8, none⟩) hb).trans a8; have z9 := (hS.cell (p := ⟨b, 9, none⟩) hb).trans a9; go_simp; exact rfl)); simp only [Act.put, sqA, sqB, sqC])
    refine seq_nil ?_
    go_wp2_with fail
    refine (mno_any _ _).mono ?_
    rintro e w1 ⟨rfl, rfl⟩
    go_wp2
    refine bodyPost_ret (v := .agg #[.int .i64 10, .int .u64 0, .slice none 0 0]) (by simp [results, Tryz.results145, go_sem, *]) rfl ?_
    exact mpost_keep hb HT.out HO.out rfl (by (repeat' (first | exact Below.refl _ _ | assumption | refine Below.drew ?_ | refine below_drewN ?_ _ | refine Below.alloc ?_ (by simp <;> omega) _ | refine Below.setCell ?_ (by simp <;> omega) _)))
  · have d0 : decide (IntKind.u64.wrap s.p ≤ c.a) = false := by rw [hwu]; simpa using h0
    obtain ⟨sp, q0⟩ : ∃ sp : List Int, sp = st := ⟨_, rfl⟩
    obtain ⟨i, hi⟩ : ∃ i : Nat, c.a = (i : Int) := ⟨c.a.toNat, by have := ha.1; omega⟩
    have hil : i < st.length := by omega
    obtain ⟨x, hx⟩ : ∃ x, st[i]? = some x := ⟨_, List.getElem?_eq_getElem hil⟩
    have hat : at0 st c.a.toNat = x := by unfold at0; rw [hi, Int.toNat_natCast, hx]; rfl
    have hsl : SlW w v st := wrow_sl hO (by unfold maxLen; omega)
    obtain ⟨vA, vc, rfl⟩ := own_slice hO
    obtain ⟨sb, so, rfl, cx, hsb⟩ := sl_at hsl i x hx
    have i0 : (0 : Int) ≤ (i : Int) := by omega
    have i1 : (i : Int) < (st.length : Int) := by omega
    have i2 : (i : Int) ≤ 64 := by omega
    have HT := hide hT
    have HO := hide hO
    have HSN := fun W y h1 h2 => set_any b B i y n s c (.slice (some ⟨sb, so, none⟩) st.length vc) st W h1 h2 hl6 hil
    have hTr : ThAt ((resW w).drew) b n s (.slice (some ⟨sb, so, none⟩) st.length vc) c := hT.of_block (heap_alloc_old w _ hb)
    have hOr : WOwn ((resW w).drew) B (.slice (some ⟨sb, so, none⟩) st.length vc) st.length st := World.ownsRow.alloc hO _
    have HTR := hide hTr
    have HOR := hide hOr
    rw [hi] at d0 a8
    rcases (by omega : c.kind = 0 ∨ c.kind = 1 ∨ c.kind = 2 ∨ c.kind = 3) with hk | hk | hk | hk
    · have hM : cellM s st c = (st, ⟨0, x, []⟩) := by unfold cellM; rw [if_neg h0, if_neg (by omega), if_neg (by omega), if_neg (by omega), hat]; rfl
      rw [hM]
      rw [hk] at a7
      clear hT hO hM h0 hwu hsl hTr hOr hat hx hi
      go_enter Tryz.func145, Tryz.ntmps145
      go_wp2_with fail
      refine wp_region_seq (Below w.heap.size w) (.take 0 <| .take 1 <| .take 2 <| .take 3 <| .take 4 <| .take 5 <| .take 6 <| .take 7 <| .take 8 <| .take 9 <| .take 10 <| .take 11 <| .done) (by kernel_rfl) (by kernel_rfl) (by kernel_rfl) (by (repeat' (first | exact Below.refl _ _ | assumption | refine Below.drew ?_ | refine below_drewN ?_ _ | refine Below.alloc ?_ (by simp <;> omega) _ | refine Below.setCell ?_ (by simp <;> omega) _))) ?_
      repeat (refine seq_take (v := ?_) rfl (by rfl) ?_ ?_; rotate_left; (focus (intro wS hS; have z0 := (hS.cell (p := ⟨b, 0, none⟩) hb).trans a0; have z1 := (hS.cell (p := ⟨b, 1, none⟩) hb).trans a1; have z2 := (hS.cell (p := ⟨b, 2, none⟩) hb).trans a2; have z3 := (hS.cell (p := ⟨b, 3, none⟩) hb).trans a3; have z4 := (hS.cell (p := ⟨b, 4, none⟩) hb).trans a4; have z5 := (hS.cell (p := ⟨b, 5, none⟩) hb).trans a5; have z7 := (hS.cell (p := ⟨b, 7, none⟩) hb).trans a7; have z8 := (hS.cell (p := ⟨b, 8, none⟩) hb).trans a8; have z9 := (hS.cell (p := ⟨b, 9, none⟩) hb).trans a9; go_simp; exact rfl)); simp only [Act.put, sqA, sqB, sqC])
      refine seq_nil ?_
      go_wp2
      refine bodyPost_ret (v := .agg #[.int .i64 0, .int .u64 x, .slice none 0 0]) (by simp [results, Tryz.results145, go_sem, *]) rfl ?_
      exact mpost_keep hb HT.out HO.out rfl (by (repeat' (first | exact Below.refl _ _ | assumption | refine Below.drew ?_ | refine below_drewN ?_ _ | refine Below.alloc ?_ (by simp <;> omega) _ | refine Below.setCell ?_ (by simp <;> omega) _)))
    · have hM : cellM s st c = (st.set i c.b, ⟨0, 0, []⟩) := by unfold cellM; rw [if_neg h0, if_pos hk, hi, Int.toNat_natCast]; rfl
      rw [hM]
      rw [hk] at a7
      clear hT hO hM h0 hwu hsl hTr hOr hat hx hi
      go_enter Tryz.func145, Tryz.ntmps145
      go_wp2_with fail
      refine wp_region_seq (Below w.heap.size w) (.take 0 <| .take 1 <| .take 2 <| .take 3 <| .take 4 <| .take 5 <| .take 6 <| .take 7 <| .take 8 <| .take 9 <| .take 10 <| .take 11 <| .done) (by kernel_rfl) (by kernel_rfl) (by kernel_rfl) (by (repeat' (first | exact Below.refl _ _ | assumption | refine Below.drew ?_ | refine below_drewN ?_ _ | refine Below.alloc ?_ (by simp <;> omega) _ | refine Below.setCell ?_ (by simp <;> omega) _))) ?_
      repeat (refine seq_take (v := ?_) rfl (by rfl) ?_ ?_; rotate_left; (focus (intro wS hS; have z0 := (hS.cell (p := ⟨b, 0, none⟩) hb).trans a0; have z1 := (hS.cell (p := ⟨b, 1, none⟩) hb).trans a1; have z2 := (hS.cell (p := ⟨b, 2, none⟩) hb).trans a2; have z3 := (hS.cell (p := ⟨b, 3, none⟩) hb).trans a3; have z4 := (hS.cell (p := ⟨b, 4, none⟩) hb).trans a4; have z5 := (hS.cell (p := ⟨b, 5, none⟩) hb).trans a5; have z7 := (hS.cell (p := ⟨b, 7, none⟩) hb).trans a7; have z8 := (hS.cell (p := ⟨b, 8, none⟩) hb).trans a8; have z9 := (hS.cell (p := ⟨b, 9, none⟩) hb).trans a9; go_simp; exact rfl)); simp only [Act.put, sqA, sqB, sqC])
      refine seq_nil ?_
      go_wp2_with fail
      refine (HSN _ c.b HTR.out HOR.out).mono ?_
      rintro e w3 ⟨u, rfl, hT3, hO3, hk3⟩
      have hk3' : Keep (fun j => j < (resW w).heap.size ∧ j ≠ b) (resW w) w3 := (Keep.refl _ _).drew.trans hk3
      obtain ⟨r0, r1, r2, g0, g1, g2, rz⟩ := res_cells hk3' hb
      have HK3 := hide hk3'
      have HT3 := hide hT3
      have HO3 := hide hO3
      clear hk3 hk3' hT3 hO3
      go_wp2
      refine bodyPost_ret (v := .agg #[.int .i64 0, .int .u64 0, .slice none 0 0]) (by simp [results, Tryz.results145, go_sem, *]) rfl ?_
      exact mpost_set HT3.out HO3.out hBw hb rfl (by simp) HK3.out (by (repeat' (first | exact Keep.refl _ _ | refine Keep.setCell ?_ (by simp) _ | refine Keep.drew ?_)))
    · by_cases hxb : x = c.b
      · have hM : cellM s st c = (st.set i c.c, ⟨0, 1, []⟩) := by unfold cellM; rw [if_neg h0, if_neg (by omega), if_pos hk, hat, if_pos hxb, hi, Int.toNat_natCast]; rfl
        rw [hM]
        rw [hk] at a7
        have d1 : (x != c.b) = false := by simpa using hxb
        clear hT hO hM h0 hwu hsl hTr hOr hat hx hi hxb
        go_enter Tryz.func145, Tryz.ntmps145
        go_wp2_with fail
        refine wp_region_seq (Below w.heap.size w) (.take 0 <| .take 1 <| .take 2 <| .take 3 <| .take 4 <| .take 5 <| .take 6 <| .take 7 <| .take 8 <| .take 9 <| .take 10 <| .take 11 <| .done) (by kernel_rfl) (by kernel_rfl) (by kernel_rfl) (by (repeat' (first | exact Below.refl _ _ | assumption | refine Below.drew ?_ | refine below_drewN ?_ _ | refine Below.alloc ?_ (by simp <;> omega) _ | refine Below.setCell ?_ (by simp <;> omega) _))) ?_
        repeat (refine seq_take (v := ?_) rfl (by rfl) ?_ ?_; rotate_left; (focus (intro wS hS; have z0 := (hS.cell (p := ⟨b, 0, none⟩) hb).trans a0; have z1 := (hS.cell (p := ⟨b, 1, none⟩) hb).trans a1; have z2 := (hS.cell (p := ⟨b, 2, none⟩) hb).trans a2; have z3 := (hS.cell (p := ⟨b, 3, none⟩) hb).trans a3; have z4 := (hS.cell (p := ⟨b, 4, none⟩) hb).trans a4; have z5 := (hS.cell (p := ⟨b, 5, none⟩) hb).trans a5; have z7 := (hS.cell (p := ⟨b, 7, none⟩) hb).trans a7; have z8 := (hS.cell (p := ⟨b, 8, none⟩) hb).trans a8; have z9 := (hS.cell (p := ⟨b, 9, none⟩) hb).trans a9; go_simp; exact rfl)); simp only [Act.put, sqA, sqB, sqC])
        refine seq_nil ?_
        go_wp2_with fail
        refine (HSN _ c.c HTR.out HOR.out).mono ?_
        rintro e w3 ⟨u, rfl, hT3, hO3, hk3⟩
        have hk3' : Keep (fun j => j < (resW w).heap.size ∧ j ≠ b) (resW w) w3 := (Keep.refl _ _).drew.trans hk3
        obtain ⟨r0, r1, r2, g0, g1, g2, rz⟩ := res_cells hk3' hb
        have HK3 := hide hk3'
        have HT3 := hide hT3
        have HO3 := hide hO3
        clear hk3 hk3' hT3 hO3
        go_wp2
        refine bodyPost_ret (v := .agg #[.int .i64 0, .int .u64 1, .slice none 0 0]) (by simp [results, Tryz.results145, go_sem, *]) rfl ?_
        exact mpost_set HT3.out HO3.out hBw hb rfl (by simp) HK3.out (by (repeat' (first | exact Keep.refl _ _ | refine Keep.setCell ?_ (by simp) _ | refine Keep.drew ?_)))
      · have hM : cellM s st c = (st, ⟨0, 0, []⟩) := by unfold cellM; rw [if_neg h0, if_neg (by omega), if_pos hk, hat, if_neg hxb]; rfl
        rw [hM]
        rw [hk] at a7
        have d1 : (x != c.b) = true := by simpa using hxb
        clear hT hO hM h0 hwu hsl hTr hOr hat hx hi hxb
        go_enter Tryz.func145, Tryz.ntmps145
        go_wp2_with fail
        refine wp_region_seq (Below w.heap.size w) (.take 0 <| .take 1 <| .take 2 <| .take 3 <| .take 4 <| .take 5 <| .take 6 <| .take 7 <| .take 8 <| .take 9 <| .take 10 <| .take 11 <| .done) (by kernel_rfl) (by kernel_rfl) (by kernel_rfl) (by (repeat' (first | exact Below.refl _ _ | assumption | refine Below.drew ?_ | refine below_drewN ?_ _ | refine Below.alloc ?_ (by simp <;> omega) _ | refine Below.setCell ?_ (by simp <;> omega) _))) ?_
        repeat (refine seq_take (v := ?_) rfl (by rfl) ?_ ?_; rotate_left; (focus (intro wS hS; have z0 := (hS.cell (p := ⟨b, 0, none⟩) hb).trans a0; have z1 := (hS.cell (p := ⟨b, 1, none⟩) hb).trans a1; have z2 := (hS.cell (p := ⟨b, 2, none⟩) hb).trans a2; have z3 := (hS.cell (p := ⟨b, 3, none⟩) hb).trans a3; have z4 := (hS.cell (p := ⟨b, 4, none⟩) hb).trans a4; have z5 := (hS.cell (p := ⟨b, 5, none⟩) hb).trans a5; have z7 := (hS.cell (p := ⟨b, 7, none⟩) hb).trans a7; have z8 := (hS.cell (p := ⟨b, 8, none⟩) hb).trans a8; have z9 := (hS.cell (p := ⟨b, 9, none⟩) hb).trans a9; go_simp; exact rfl)); simp only [Act.put, sqA, sqB, sqC])
        refine seq_nil ?_
        go_wp2
        refine bodyPost_ret (v := .agg #[.int .i64 0, .int .u64 0, .slice none 0 0]) (by simp [results, Tryz.results145, go_sem, *]) rfl ?_
        exact mpost_keep hb HT.out HO.out rfl (by (repeat' (first | exact Below.refl _ _ | assumption | refine Below.drew ?_ | refine below_drewN ?_ _ | refine Below.alloc ?_ (by simp <;> omega) _ | refine Below.setCell ?_ (by simp <;> omega) _)))
    · have hM : cellM s st c = (st.set i ((x + c.b) % 18446744073709551616), ⟨0, x, []⟩) := by unfold cellM; rw [if_neg h0, if_neg (by omega), if_neg (by omega), if_pos hk, hat, hi, Int.toNat_natCast]; rfl
      rw [hM]
      rw [hk] at a7
      clear hT hO hM h0 hwu hsl hTr hOr hat hx hi
      go_enter Tryz.func145, Tryz.ntmps145
      go_wp2_with fail
      refine wp_region_seq (Below w.heap.size w) (.take 0 <| .take 1 <| .take 2 <| .take 3 <| .take 4 <| .take 5 <| .take 6 <| .take 7 <| .take 8 <| .take 9 <| .take 10 <| .take 11 <| .done) (by kernel_rfl) (by kernel_rfl) (by kernel_rfl) (by (repeat' (first | exact Below.refl _ _ | assumption | refine Below.drew ?_ | refine below_drewN ?_ _ | refine Below.alloc ?_ (by simp <;> omega) _ | refine Below.setCell ?_ (by simp <;> omega) _))) ?_
      repeat (refine seq_take (v := ?_) rfl (by rfl) ?_ ?_; rotate_left; (focus (intro wS hS; have z0 := (hS.cell (p := ⟨b, 0, none⟩) hb).trans a0; have z1 := (hS.cell (p := ⟨b, 1, none⟩) hb).trans a1; have z2 := (hS.cell (p := ⟨b, 2, none⟩) hb).trans a2; have z3 := (hS.cell (p := ⟨b, 3, none⟩) hb).trans a3; have z4 := (hS.cell (p := ⟨b, 4, none⟩) hb).trans a4; have z5 := (hS.cell (p := ⟨b, 5, none⟩) hb).trans a5; have z7 := (hS.cell (p := ⟨b, 7, none⟩) hb).trans a7; have z8 := (hS.cell (p := ⟨b, 8, none⟩) hb).trans a8; have z9 := (hS.cell (p := ⟨b, 9, none⟩) hb).trans a9; go_simp; exact rfl)); simp only [Act.put, sqA, sqB, sqC])
      refine seq_nil ?_
      go_wp2_with fail
      refine (HSN _ ((x + c.b) % 18446744073709551616) HTR.out HOR.out).mono ?_
      rintro e w3 ⟨u, rfl, hT3, hO3, hk3⟩
      have hk3' : Keep (fun j => j < (resW w).heap.size ∧ j ≠ b) (resW w) w3 := (Keep.refl _ _).drew.trans hk3
      obtain ⟨r0, r1, r2, g0, g1, g2, rz⟩ := res_cells hk3' hb
      have HK3 := hide hk3'
      have HT3 := hide hT3
      have HO3 := hide hO3
      clear hk3 hk3' hT3 hO3
      go_wp2
      refine bodyPost_ret (v := .agg #[.int .i64 0, .int .u64 x, .slice none 0 0]) (by simp [results, Tryz.results145, go_sem, *]) rfl ?_
      exact mpost_set HT3.out HO3.out hBw hb rfl (by simp) HK3.out (by (repeat' (first | exact Keep.refl _ _ | refine Keep.setCell ?_ (by simp) _ | refine Keep.drew ?_)))
end Go.Proofs.YtmiimpmfkjcjlaaGreat
