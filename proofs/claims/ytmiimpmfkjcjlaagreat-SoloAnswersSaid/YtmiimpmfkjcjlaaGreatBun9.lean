/- The reference of package seq: Apply, of sets, rows and tables; every type. -/
/- The reference of package seq: Apply, of tables; every type. -/
/- Types of things (package seq): Apply at whatever arguments; the known case. -/
import Derived.Test.YtmiimpmfkjcjlaaGreatSqp
namespace Go.Proofs.YtmiimpmfkjcjlaaGreat
open Go.RowKit
attribute [local go_sem] run_store_fn run_store_nilfn

theorem sl_out {w : World} {A : Option Addr} {n c b : Nat} {xs : List Int} (h : SlW w (.slice A n c) xs) (ho : OutOf b (.slice A n c)) (o : Nat) (s : Option Nat) (u : Value) : SlW (w.setCell ⟨b, o, s⟩ u) (.slice A n c) xs := by
  obtain ⟨A', c', hA, h1, h2, h3⟩ := h
  refine ⟨A', c', hA, h1, h2, fun i x hx => ?_⟩
  obtain ⟨b', o', rfl, hb, hc⟩ := h3 i x hx
  cases hA
  have hne : b' ≠ b := ho _ _ _ rfl _ rfl
  exact ⟨b', o', rfl, by simpa [World.setCell] using hb, hc.of_block (by simp [World.setCell, Array.getElem?_modify, Ne.symm hne])⟩

set_option maxRecDepth 100000 in
set_option maxHeartbeats 4000000 in
theorem refApply_4 (kind a : Int) (A : Option Addr) (c : Nat) (x : Int) (w : World) (h : SlW w (.slice A 1 c) [x]) (hk : kind = 0 ∨ kind = 1 ∨ kind = 2) (hx : U64 x) (ha : U64 a) :
    Calls Tryz.prog 155 #[.int .i64 4, .slice A 1 c, .int .i64 kind, .int .u64 a] w (RefPost 4 [x] kind a w) := by
  obtain ⟨i0, hi, hz0, hz1, hz2⟩ := info_parts info_word
  go_enter Tryz.func155, Tryz.ntmps155
  go_wp2_with (at_builtin; refine wpList_append_sl (kk := .u64) rfl _ _ 24 rfl (w.heap.size + 1) 25 i0 (.int .u64 0) 8 Tryz.underlying24 hi hz0 hz1 hz2 rfl _ 0 [] rfl (own_empty w) A _ c [x] rfl ((h.alloc _).alloc _) (by simp; unfold maxLen; omega) (by simp) (by simp) ?_; intro v5 w5 hown5 hgrow _; have hown6 : w5.ownsRow (w.heap.size + 1) 25 1 v5 1 [.int .u64 x] := (by simpa using hown5); have hB5 : Below (w.heap.size + 1) (doneWorld w) w5 := (((Below.refl _ _).alloc (by simp) _).grown hgrow (by simp) (fun k hk => (by cases hk; exact Nat.le_refl _))); obtain ⟨g, cap, rfl⟩ := own_lit1 hown6; have hg := hown6.lt g rfl; have hne : w.heap.size ≠ g := (by omega); have hs5 := sl_own1 hown6; clear hown5 hgrow)
  refine (refSet_any _ x kind a _ hs5 hx.1 hx.2 ha.1 ha.2 hk).mono ?_
  rintro e w6 ⟨u, rfl, hs6, hb6, ho⟩
  have hou := ho w.heap.size (by omega) (outOf_new hne)
  have hoa : ∀ b, b < w.heap.size → OutOf b u := fun b hb => ho b (by omega) (outOf_new (by omega))
  have hB6 : Below (w.heap.size + 1) (doneWorld w) w6 := hB5.trans (hb6.mono (by omega))
  obtain ⟨z0, z1, z2, f0, f1, f2, hz5⟩ := cells3 (kept3 hB6)
  have hBB : Below w.heap.size w w6 := ((Below.refl _ w).alloc (Nat.le_refl _) _).trans (hB6.mono (by omega))
  obtain ⟨E, hE⟩ : ∃ E, setE a = E := ⟨_, rfl⟩
  obtain ⟨V, hV⟩ : ∃ V, setV x kind a = V := ⟨_, rfl⟩
  obtain ⟨L, hL⟩ : ∃ L, setL x kind a = L := ⟨_, rfl⟩
  rw [hE, hV]
  rw [hL] at hs6
  have HE := hide hE
  have HV := hide hV
  have HL := hide hL
  have hs6' := hs6
  obtain ⟨A6, c6, rfl, _, _, _⟩ := hs6'
  clear ho hB6 hB5 hb6 hE hV hL
  go_wp2
  refine bodyPost_ret (v := .agg #[.slice A6 L.length c6, .int .i64 E, .int .u64 V]) (by simp [results, Tryz.results155, go_sem, z0, z1, z2]) rfl (refPost_mk (L := L) HE.out HV.out HL.out ?_ ?_ (fun b hb => by first | exact hoa b hb | exact outOf_new (by have := hBB.size; omega)))
  · repeat' (first | with_reducible exact hs6 | with_reducible refine sl_out ?_ hou _ _ _ | with_reducible refine Sl.alloc ?_ _)
  · repeat' (first | with_reducible exact hBB | with_reducible refine Below.drew ?_ | with_reducible refine Below.alloc ?_ ?_ _ | with_reducible refine Below.setCell ?_ ?_ _ | omega | (simp; done) | (simp; omega))

set_option maxRecDepth 100000 in
set_option maxHeartbeats 4000000 in
theorem refApply_row (n kind a : Int) (p : Nat) (A : Option Addr) (c : Nat) (xs : List Int) (w : World) (h : SlW w (.slice A xs.length c) xs) (hk : kind = 0 ∨ kind = 1 ∨ kind = 2) (hl : xs.length ≤ 8) (hn : n = 2 ∧ p = xs.length - 1 ∨ n = 3 ∧ p = 0) :
    Calls Tryz.prog 155 #[.int .i64 n, .slice A xs.length c, .int .i64 kind, .int .u64 a] w (RefPost n xs kind a w) := by
  obtain ⟨i0, hi, hz0, hz1, hz2⟩ := info_parts info_word
  obtain ⟨E, hE⟩ : ∃ E, rowE xs kind = E := ⟨_, rfl⟩
  obtain ⟨V, hV⟩ : ∃ V, rowV p xs kind = V := ⟨_, rfl⟩
  obtain ⟨L, hL⟩ : ∃ L, rowL p xs kind a = L := ⟨_, rfl⟩
  have HE : Hid (seqE n xs kind a = E) := by show _ = _; rw [← hE]; rcases hn with ⟨rfl, rfl⟩ | ⟨rfl, rfl⟩ <;> rfl
  have HV : Hid (seqV n xs kind a = V) := by show _ = _; rw [← hV]; rcases hn with ⟨rfl, rfl⟩ | ⟨rfl, rfl⟩ <;> rfl
  have HL : Hid (seqL n xs kind a = L) := by show _ = _; rw [← hL]; rcases hn with ⟨rfl, rfl⟩ | ⟨rfl, rfl⟩ <;> rfl
  have R := fun n' v W h h1 => refRow_any (w.heap.size + 1) n' v xs n kind a p W h h1
  rw [hE, hV, hL] at R
  have HR := hide R
  clear R hE hV hL
  have hn' : n = 2 ∨ n = 3 := by omega
  have HN := hide hn
  clear hn
  rcases hn' with rfl | rfl
  all_goals
    go_enter Tryz.func155, Tryz.ntmps155
    go_wp2_with (at_builtin; refine wpList_append_sl (kk := .u64) rfl _ _ 24 rfl (w.heap.size + 1) 25 i0 (.int .u64 0) 8 Tryz.underlying24 hi hz0 hz1 hz2 rfl _ 0 [] rfl (own_empty w) A _ c xs rfl ((h.alloc _).alloc _) (by unfold maxLen; omega) (by omega) (by simp) ?_; intro v5 w5 hown5 hgrow _; have hown6 : w5.ownsRow (w.heap.size + 1) 25 1 v5 xs.length (xs.map (Value.int .u64)) := (by simpa using hown5); have hB5 : Below (w.heap.size + 1) (doneWorld w) w5 := (((Below.refl _ _).alloc (by simp) _).grown hgrow (by simp) (fun k hk => (by cases hk; exact Nat.le_refl _))); have hz6 : w.heap.size + 1 ≤ w5.heap.size := (by have := hB5.size; simpa using this); clear hown5 hgrow)
    refine (HR.out xs.length _ _ hown6 rfl hl hk HN.out hz6).mono ?_
    rintro e w6 ⟨u, rfl, hs6, hb6, ho⟩
    have hou := ho w.heap.size (by omega)
    have hoa : ∀ b, b < w.heap.size → OutOf b u := fun b hb => ho b (by omega)
    have hB6 : Below (w.heap.size + 1) (doneWorld w) w6 := hB5.trans hb6
    obtain ⟨z0, z1, z2, f0, f1, f2, hz5⟩ := cells3 (kept3 hB6)
    have hBB : Below w.heap.size w w6 := ((Below.refl _ w).alloc (Nat.le_refl _) _).trans (hB6.mono (by omega))
    have hs6' := hs6
    obtain ⟨A6, c6, rfl, _, _, _⟩ := hs6'
    clear ho hB6 hB5 hb6 hown6
    go_wp2
    refine bodyPost_ret (v := .agg #[.slice A6 L.length c6, .int .i64 E, .int .u64 V]) (by simp [results, Tryz.results155, go_sem, z0, z1, z2]) rfl (refPost_mk (L := L) HE.out HV.out HL.out ?_ ?_ (fun b hb => by first | exact hoa b hb | exact outOf_new (by have := hBB.size; omega)))
    · repeat' (first | with_reducible exact hs6 | with_reducible refine sl_out ?_ hou _ _ _ | with_reducible refine Sl.alloc ?_ _)
    · repeat' (first | with_reducible exact hBB | with_reducible refine Below.drew ?_ | with_reducible refine Below.alloc ?_ ?_ _ | with_reducible refine Below.setCell ?_ ?_ _ | omega | (simp; done) | (simp; omega))
end Go.Proofs.YtmiimpmfkjcjlaaGreat

namespace Go.Proofs.YtmiimpmfkjcjlaaGreat
open Go.RowKit
attribute [local go_sem] run_store_fn run_store_nilfn

set_option maxRecDepth 100000 in
set_option maxHeartbeats 4000000 in
theorem refApply_7 (kind a : Int) (A : Option Addr) (c : Nat) (xs : List Int) (w : World) (h : SlW w (.slice A 8 c) xs) (hl : xs.length = 8) (hk : kind = 0 ∨ kind = 1) (ha0 : 0 ≤ a) (ha1 : a < 18446744073709551616) :
    Calls Tryz.prog 155 #[.int .i64 7, .slice A 8 c, .int .i64 kind, .int .u64 a] w (RefPost 7 xs kind a w) := by
  obtain ⟨i0, hi, hz0, hz1, hz2⟩ := info_parts info_word
  have HN := hide hl
  rcases hk with rfl | rfl
  · have hi1 : tabI 0 a = a := by unfold tabI; rw [if_neg (by decide)]
    by_cases hi8 : 8 ≤ a
    · have HE : Hid (seqE 7 xs 0 a = 10) := by show tabE 0 a = 10; unfold tabE; rw [hi1, if_pos hi8]
      have HV : Hid (seqV 7 xs 0 a = 0) := by show tabV xs 0 a = 0; unfold tabV; rw [hi1, if_pos hi8]
      have HL : Hid (seqL 7 xs 0 a = xs) := by show tabL xs 0 a = xs; unfold tabL; rw [hi1, if_pos hi8]
      clear hi1 hl
      go_enter Tryz.func155, Tryz.ntmps155
      go_wp2_with (at_builtin; refine wpList_append_sl (kk := .u64) rfl _ _ 24 rfl (w.heap.size + 1) 25 i0 (.int .u64 0) 8 Tryz.underlying24 hi hz0 hz1 hz2 rfl _ 0 [] rfl (own_empty w) A _ c xs rfl ((h.alloc _).alloc _) (by unfold maxLen; have := HN.out; omega) (by have := HN.out; omega) (by simp) ?_; intro v5 w5 hown5 hgrow _; have hown6 : w5.ownsRow (w.heap.size + 1) 25 1 v5 (7 + 1) (xs.map (Value.int .u64)) := (by have := hown5; rw [HN.out] at this; simpa using this); have hB5 : Below (w.heap.size + 1) (doneWorld w) w5 := (((Below.refl _ _).alloc (by simp) _).grown hgrow (by simp) (fun k hk => (by cases hk; exact Nat.le_refl _))); obtain ⟨z0, z1, z2, f0, f1, f2, hz5⟩ := cells3 (kept3 hB5); obtain ⟨g, cap, rfl⟩ := ownsRow_succ hown6; have hg := hown6.lt g rfl; have hne : w.heap.size ≠ g := (by omega); have hne' : g ≠ w.heap.size := (by omega); have hBB : Below w.heap.size w w5 := (((Below.refl _ w).alloc (Nat.le_refl _) _).trans (hB5.mono (by omega))); clear hown5 hgrow hB5)
      refine bodyPost_ret (v := .agg #[.slice (some ⟨g, 0, none⟩) 8 cap, .int .i64 10, .int .u64 0]) (by simp [results, Tryz.results155, go_sem, z0, z1, z2]) rfl (refPost_mk (L := xs) HE.out HV.out HL.out ?_ ?_ (fun b hb => by first | exact hoa b hb | exact outOf_new (by have := hBB.size; omega)))
      · have hs5 : SlW w5 (.slice (some ⟨g, 0, none⟩) 8 cap) xs := by
          have hr : WRow w5 (w.heap.size + 1) (.slice (some ⟨g, 0, none⟩) 8 cap) xs := by unfold WRow; rw [HN.out]; exact hown6
          exact wrow_sl hr (by rw [HN.out]; decide)
        repeat' (first | with_reducible exact hs5 | with_reducible refine sl_setCell ?_ _ _ ?_ | with_reducible refine Sl.alloc ?_ _ | exact hne)
      · repeat' (first | with_reducible exact hBB | with_reducible refine Below.drew ?_ | with_reducible refine Below.alloc ?_ ?_ _ | with_reducible refine Below.setCell ?_ ?_ _ | omega | (simp; done) | (simp; omega))
    · obtain ⟨i, rfl⟩ := Int.eq_ofNat_of_zero_le ha0
      obtain ⟨x, hx⟩ : ∃ x, xs[i]? = some x := ⟨_, List.getElem?_eq_getElem (by omega)⟩
      have HE : Hid (seqE 7 xs 0 i = 0) := by show tabE 0 i = 0; unfold tabE; rw [hi1, if_neg hi8]
      have HV : Hid (seqV 7 xs 0 i = x) := by show tabV xs 0 i = x; unfold tabV; rw [hi1, if_neg hi8, Int.toNat_natCast, hx]; rfl
      have HL : Hid (seqL 7 xs 0 i = xs) := by show tabL xs 0 i = xs; unfold tabL; rw [hi1, if_neg hi8, if_neg (by decide)]
      have q8 : (i : Int) < 8 := by omega
      have hw1 : IntKind.i64.wrap (i : Int) = (i : Int) := IntWalk.i64_in _ (by omega)
      have HX := hide hx
      clear hi1 hl hx
      go_enter Tryz.func155, Tryz.ntmps155
      go_wp2_with (at_builtin; refine wpList_append_sl (kk := .u64) rfl _ _ 24 rfl (w.heap.size + 1) 25 i0 (.int .u64 0) 8 Tryz.underlying24 hi hz0 hz1 hz2 rfl _ 0 [] rfl (own_empty w) A _ c xs rfl ((h.alloc _).alloc _) (by unfold maxLen; have := HN.out; omega) (by have := HN.out; omega) (by simp) ?_; intro v5 w5 hown5 hgrow _; have hown6 : w5.ownsRow (w.heap.size + 1) 25 1 v5 (7 + 1) (xs.map (Value.int .u64)) := (by have := hown5; rw [HN.out] at this; simpa using this); have hB5 : Below (w.heap.size + 1) (doneWorld w) w5 := (((Below.refl _ _).alloc (by simp) _).grown hgrow (by simp) (fun k hk => (by cases hk; exact Nat.le_refl _))); obtain ⟨z0, z1, z2, f0, f1, f2, hz5⟩ := cells3 (kept3 hB5); obtain ⟨g, cap, rfl⟩ := ownsRow_succ hown6; have hg := hown6.lt g rfl; have hne : w.heap.size ≠ g := (by omega); have hne' : g ≠ w.heap.size := (by omega); have hBB : Below w.heap.size w w5 := (((Below.refl _ w).alloc (Nat.le_refl _) _).trans (hB5.mono (by omega))); clear hown5 hgrow hB5; have k0 : w5.cell? ⟨g, i, none⟩ = some (.int .u64 x) := (by rw [hown6.cellAt _ (by omega), List.getElem?_map, HX.out]; rfl); have k1 := hown6.frozenAt i)
      refine bodyPost_ret (v := .agg #[.slice (some ⟨g, 0, none⟩) 8 cap, .int .i64 0, .int .u64 x]) (by simp [results, Tryz.results155, go_sem, z0, z1, z2]) rfl (refPost_mk (L := xs) HE.out HV.out HL.out ?_ ?_ (fun b hb => by first | exact hoa b hb | exact outOf_new (by have := hBB.size; omega)))
      · have hs5 : SlW w5 (.slice (some ⟨g, 0, none⟩) 8 cap) xs := by
          have hr : WRow w5 (w.heap.size + 1) (.slice (some ⟨g, 0, none⟩) 8 cap) xs := by unfold WRow; rw [HN.out]; exact hown6
          exact wrow_sl hr (by rw [HN.out]; decide)
        repeat' (first | with_reducible exact hs5 | with_reducible refine sl_setCell ?_ _ _ ?_ | with_reducible refine Sl.alloc ?_ _ | exact hne)
      · repeat' (first | with_reducible exact hBB | with_reducible refine Below.drew ?_ | with_reducible refine Below.alloc ?_ ?_ _ | with_reducible refine Below.setCell ?_ ?_ _ | omega | (simp; done) | (simp; omega))
  · have hi1 : tabI 1 a = a / 16777216 := by unfold tabI; rw [if_pos rfl]
    by_cases hi8 : 8 ≤ a / 16777216
    · have HE : Hid (seqE 7 xs 1 a = 10) := by show tabE 1 a = 10; unfold tabE; rw [hi1, if_pos hi8]
      have HV : Hid (seqV 7 xs 1 a = 0) := by show tabV xs 1 a = 0; unfold tabV; rw [hi1, if_pos hi8]
      have HL : Hid (seqL 7 xs 1 a = xs) := by show tabL xs 1 a = xs; unfold tabL; rw [hi1, if_pos hi8]
      clear hi1 hl
      go_enter Tryz.func155, Tryz.ntmps155
      go_wp2_with (at_builtin; refine wpList_append_sl (kk := .u64) rfl _ _ 24 rfl (w.heap.size + 1) 25 i0 (.int .u64 0) 8 Tryz.underlying24 hi hz0 hz1 hz2 rfl _ 0 [] rfl (own_empty w) A _ c xs rfl ((h.alloc _).alloc _) (by unfold maxLen; have := HN.out; omega) (by have := HN.out; omega) (by simp) ?_; intro v5 w5 hown5 hgrow _; have hown6 : w5.ownsRow (w.heap.size + 1) 25 1 v5 (7 + 1) (xs.map (Value.int .u64)) := (by have := hown5; rw [HN.out] at this; simpa using this); have hB5 : Below (w.heap.size + 1) (doneWorld w) w5 := (((Below.refl _ _).alloc (by simp) _).grown hgrow (by simp) (fun k hk => (by cases hk; exact Nat.le_refl _))); obtain ⟨z0, z1, z2, f0, f1, f2, hz5⟩ := cells3 (kept3 hB5); obtain ⟨g, cap, rfl⟩ := ownsRow_succ hown6; have hg := hown6.lt g rfl; have hne : w.heap.size ≠ g := (by omega); have hne' : g ≠ w.heap.size := (by omega); have hBB : Below w.heap.size w w5 := (((Below.refl _ w).alloc (Nat.le_refl _) _).trans (hB5.mono (by omega))); clear hown5 hgrow hB5)
      refine bodyPost_ret (v := .agg #[.slice (some ⟨g, 0, none⟩) 8 cap, .int .i64 10, .int .u64 0]) (by simp [results, Tryz.results155, go_sem, z0, z1, z2]) rfl (refPost_mk (L := xs) HE.out HV.out HL.out ?_ ?_ (fun b hb => by first | exact hoa b hb | exact outOf_new (by have := hBB.size; omega)))
      · have hs5 : SlW w5 (.slice (some ⟨g, 0, none⟩) 8 cap) xs := by
          have hr : WRow w5 (w.heap.size + 1) (.slice (some ⟨g, 0, none⟩) 8 cap) xs := by unfold WRow; rw [HN.out]; exact hown6
          exact wrow_sl hr (by rw [HN.out]; decide)
        repeat' (first | with_reducible exact hs5 | with_reducible refine sl_setCell ?_ _ _ ?_ | with_reducible refine Sl.alloc ?_ _ | exact hne)
      · repeat' (first | with_reducible exact hBB | with_reducible refine Below.drew ?_ | with_reducible refine Below.alloc ?_ ?_ _ | with_reducible refine Below.setCell ?_ ?_ _ | omega | (simp; done) | (simp; omega))
    · have hj0 : 0 ≤ a / 16777216 := by omega
      obtain ⟨i, hai⟩ := Int.eq_ofNat_of_zero_le hj0
      obtain ⟨x, hx⟩ : ∃ x, xs[i]? = some x := ⟨_, List.getElem?_eq_getElem (by omega)⟩
      have HE : Hid (seqE 7 xs 1 a = 0) := by show tabE 1 a = 0; unfold tabE; rw [hi1, if_neg hi8]
      have HV : Hid (seqV 7 xs 1 a = x) := by show tabV xs 1 a = x; unfold tabV; rw [hi1, if_neg hi8, hai, Int.toNat_natCast, hx]; rfl
      have HL : Hid (seqL 7 xs 1 a = xs.set i (a % 16777216)) := by show tabL xs 1 a = _; unfold tabL; rw [hi1, if_neg hi8, if_pos rfl, hai, Int.toNat_natCast]
      have q8 : (i : Int) < 8 := by omega
      have q9 : (0 : Int) ≤ (i : Int) := by omega
      have hw1 : IntKind.i64.wrap (i : Int) = (i : Int) := IntWalk.i64_in _ (by omega)
      have HX := hide hx
      clear hi1 hl hx hi8 hj0
      go_enter Tryz.func155, Tryz.ntmps155
      go_wp2_with (at_builtin; refine wpList_append_sl (kk := .u64) rfl _ _ 24 rfl (w.heap.size + 1) 25 i0 (.int .u64 0) 8 Tryz.underlying24 hi hz0 hz1 hz2 rfl _ 0 [] rfl (own_empty w) A _ c xs rfl ((h.alloc _).alloc _) (by unfold maxLen; have := HN.out; omega) (by have := HN.out; omega) (by simp) ?_; intro v5 w5 hown5 hgrow _; have hown6 : w5.ownsRow (w.heap.size + 1) 25 1 v5 (7 + 1) (xs.map (Value.int .u64)) := (by have := hown5; rw [HN.out] at this; simpa using this); have hB5 : Below (w.heap.size + 1) (doneWorld w) w5 := (((Below.refl _ _).alloc (by simp) _).grown hgrow (by simp) (fun k hk => (by cases hk; exact Nat.le_refl _))); obtain ⟨z0, z1, z2, f0, f1, f2, hz5⟩ := cells3 (kept3 hB5); obtain ⟨g, cap, rfl⟩ := ownsRow_succ hown6; have hg := hown6.lt g rfl; have hne : w.heap.size ≠ g := (by omega); have hne' : g ≠ w.heap.size := (by omega); have hBB : Below w.heap.size w w5 := (((Below.refl _ w).alloc (Nat.le_refl _) _).trans (hB5.mono (by omega))); clear hown5 hgrow hB5; have k0 : w5.cell? ⟨g, i, none⟩ = some (.int .u64 x) := (by rw [hown6.cellAt _ (by omega), List.getElem?_map, HX.out]; rfl); have k1 := hown6.frozenAt i)
      have hst := (hown6.stored i (.int .u64 (a % 16777216))).1
      refine bodyPost_ret (v := .agg #[.slice (some ⟨g, 0, none⟩) 8 cap, .int .i64 0, .int .u64 x]) (by simp [results, Tryz.results155, go_sem, z0, z1, z2]) rfl (refPost_mk (L := xs.set i (a % 16777216)) HE.out HV.out HL.out ?_ ?_ (fun b hb => by first | exact hoa b hb | exact outOf_new (by have := hBB.size; omega)))
      · have key : ∀ W : World, W.ownsRow (w.heap.size + 1) 25 1 (.slice (some ⟨g, 0, none⟩) (7 + 1) cap) (7 + 1) ((xs.map (Value.int .u64)).set i (.int .u64 (a % 16777216))) → SlW W (.slice (some ⟨g, 0, none⟩) 8 cap) (xs.set i (a % 16777216)) := by
          intro W h
          refine sl_of_owns (base := w.heap.size + 1) (e := 25) ?_ (by rw [List.length_set, HN.out]; decide)
          rw [List.length_set, HN.out, List.map_set]
          exact h
        refine key _ ?_
        repeat' (first | with_reducible exact hst | with_reducible refine ownsRow_setCell_below ?_ ?_ _ | with_reducible refine World.ownsRow.alloc ?_ _ | (simp; done) | omega)
      · repeat' (first | with_reducible exact hBB | with_reducible refine Below.drew ?_ | with_reducible refine Below.alloc ?_ ?_ _ | with_reducible refine Below.setCell ?_ ?_ _ | omega | (simp; done) | (simp; omega))

theorem refApply17 (n kind a : Int) (v : Value) (xs : List Int) (w : World) (h : SlW w v xs) (hr : rightB17 n xs.length = true) (hx : ∀ x ∈ xs, U64 x) (ha : U64 a) (hk0 : 0 ≤ kind) (hk1 : kind < kindsI n) :
    Calls Tryz.prog 155 #[.int .i64 n, v, .int .i64 kind, .int .u64 a] w (RefPost n xs kind a w) := by
  have hv := h
  obtain ⟨A, c, rfl, _, _, _⟩ := hv
  rcases cases8 n with (rfl | rfl | rfl | rfl | rfl | rfl | rfl | rfl) | hn
  · obtain ⟨x, rfl⟩ := bell (by simpa [rightB17] using hr)
    exact refApply_0 kind a A c x w h (by have : kindsI 0 = 2 := by decide
                                          omega)
  · obtain ⟨x, rfl⟩ := bell (by simpa [rightB17] using hr)
    exact refApply_1 kind a A c x w h (by have : kindsI 1 = 2 := by decide
                                          omega)
  · exact refApply_row 2 kind a (xs.length - 1) A c xs w h (by have : kindsI 2 = 3 := by decide
                                                               omega) (by simpa [rightB17] using hr) (by omega)
  · exact refApply_row 3 kind a 0 A c xs w h (by have : kindsI 3 = 3 := by decide
                                                 omega) (by simpa [rightB17] using hr) (by omega)
  · obtain ⟨x, rfl⟩ := bell (by simpa [rightB17] using hr)
    exact refApply_4 kind a A c x w h (by have : kindsI 4 = 3 := by decide
                                          omega) (hx x (by simp)) ha
  · obtain ⟨x, rfl⟩ := bell (by simpa [rightB17] using hr)
    exact refApply_5 kind a A c x w h (by have : kindsI 5 = 2 := by decide
                                          omega)
  · obtain ⟨x, rfl⟩ := bell (by simpa [rightB17] using hr)
    exact refApply_6 kind a A c x w h (by have : kindsI 6 = 2 := by decide
                                          omega) ha.1 ha.2
  · have hlen : xs.length = 8 := by simpa [rightB17] using hr
    rw [hlen] at h ⊢
    exact refApply_7 kind a A c xs w h hlen (by have : kindsI 7 = 2 := by decide
                                                omega) ha.1 ha.2
  · exfalso
    unfold rightB17 at hr
    rw [if_neg (by omega), if_neg (by omega), decide_eq_false (by omega : ¬ n = 7)] at hr
    simp at hr
end Go.Proofs.YtmiimpmfkjcjlaaGreat

namespace Go.Proofs.YtmiimpmfkjcjlaaGreat
open Go.RowKit

def apE (n : Int) (xs : List Int) (kind a : Int) : Int := if rightB17 n xs.length = false then 1 else if 0 ≤ kind ∧ kind < kindsI n then seqE n xs kind a else 9
def apV (n : Int) (xs : List Int) (kind a : Int) : Int := if rightB17 n xs.length = false then 0 else if 0 ≤ kind ∧ kind < kindsI n then seqV n xs kind a else 0
def apL (n : Int) (xs : List Int) (kind a : Int) : List Int := if rightB17 n xs.length = false then xs else if 0 ≤ kind ∧ kind < kindsI n then seqL n xs kind a else xs

theorem apply_own (n kind a : Int) (v : Value) (xs : List Int) (w : World) (h : SlW w v xs) (hb : xs.length ≤ 1000000) (hx : ∀ x ∈ xs, U64 x) (ha : U64 a) (E V : Int) (L : List Int) (k : Nat)
    (hE : apE n xs kind a = E) (hV : apV n xs kind a = V) (hL : apL n xs kind a = L) (hk : L.length = k) :
    Calls Tryz.prog 198 #[.int .i64 n, v, .int .i64 kind, .int .u64 a] w fun e w' =>
      ∃ A c, e = .returned (.tuple #[.slice A k c, .agg #[.int .i64 E, .int .u64 V, .slice none 0 0]]) ∧ WRow w' w.heap.size (.slice A k c) L ∧ Below w.heap.size w w' := by
  subst hE hV hL hk
  have lit : ∀ {w' : World} {B : Nat} {u : Value} {l : List Int}, WRow w' B u l → ∃ A c, u = .slice A l.length c := by
    intro w' B u l hr
    rcases hr.2 with ⟨e, h0⟩ | ⟨g, cap, cur, e, _⟩
    · exact ⟨none, 0, by rw [e, h0]⟩
    · exact ⟨_, cap, e⟩
  unfold apE apV apL
  by_cases hr : rightB17 n xs.length = false
  · simp only [if_pos hr]
    refine (apply_wrong n kind a v xs w h hb hr).mono ?_
    rintro e w' ⟨u, rfl, hs, hb'⟩
    obtain ⟨A, c, rfl⟩ := lit hs
    exact ⟨A, c, rfl, hs, hb'⟩
  · simp only [if_neg hr]
    have hr' : rightB17 n xs.length = true := by simpa using hr
    by_cases hk : 0 ≤ kind ∧ kind < kindsI n
    · simp only [if_pos hk]
      refine (apply_go n kind a v xs w h hb hr' hx ha hk.1 hk.2).mono ?_
      rintro e w' ⟨u, rfl, hs, hb'⟩
      obtain ⟨A, c, rfl⟩ := lit hs
      exact ⟨A, c, rfl, hs, hb'⟩
    · simp only [if_neg hk]
      refine (apply_kind n kind a v xs w h hb hr' hk).mono ?_
      rintro e w' ⟨u, rfl, hs, hb'⟩
      obtain ⟨A, c, rfl⟩ := lit hs
      exact ⟨A, c, rfl, hs, hb'⟩
theorem apL_len (n kind a : Int) (xs : List Int) (hb : xs.length ≤ 1000000) : (apL n xs kind a).length ≤ 1000000 := by
  unfold apL
  split
  · exact hb
  · rename_i hr
    split
    · rename_i hk
      exact seqL_len (by simpa using hr) hk.1 hk.2
    · exact hb
theorem apply_any (n kind a : Int) (v : Value) (xs : List Int) (w : World) (h : SlW w v xs) (hb : xs.length ≤ 1000000) (hx : ∀ x ∈ xs, U64 x) (ha : U64 a) (E V : Int) (L : List Int) (k : Nat)
    (hE : apE n xs kind a = E) (hV : apV n xs kind a = V) (hL : apL n xs kind a = L) (hk : L.length = k) :
    Calls Tryz.prog 198 #[.int .i64 n, v, .int .i64 kind, .int .u64 a] w fun e w' =>
      ∃ A c, e = .returned (.tuple #[.slice A k c, .agg #[.int .i64 E, .int .u64 V, .slice none 0 0]]) ∧ SlW w' (.slice A k c) L ∧ Below w.heap.size w w' := by
  refine (apply_own n kind a v xs w h hb hx ha E V L k hE hV hL hk).mono ?_
  rintro e w' ⟨A, c, rfl, hr, hb'⟩
  exact ⟨A, c, rfl, wrow_sl hr (by rw [← hL]; have := apL_len n kind a xs hb; unfold maxLen; omega), hb'⟩

theorem u64_of {x : Int} (h : (Lit.int .u64 x).wf = true) : U64 x := bounds_u64 h

theorem sl_at {w : World} {A : Option Addr} {n c : Nat} {xs : List Int} (h : SlW w (.slice A n c) xs) (k : Nat) (x : Int) (hx : xs[k]? = some x) : ∃ b o, A = some ⟨b, o, none⟩ ∧ w.cell? ⟨b, o + k, none⟩ = some (.int .u64 x) ∧ b < w.heap.size := by
  obtain ⟨A', c', e, _, _, h3⟩ := h
  obtain ⟨b, o, e', hb, hc⟩ := h3 k x hx
  cases e
  have := nt_cell hc
  simp only [Nat.mul_one] at this
  exact ⟨b, o, e', this, hb⟩

end Go.Proofs.YtmiimpmfkjcjlaaGreat
