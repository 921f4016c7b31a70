/- The reference of package seq: Apply, of tables; every type. -/
import Derived.Test.YtmiimpmfkjcjlaaGreatSqq
namespace Go.Proofs.YtmiimpmfkjcjlaaGreat
open Go.RowKit
attribute [local go_sem] run_store_fn run_store_nilfn

set_option maxRecDepth 100000 in
set_option maxHeartbeats 4000000 in
theorem refApply_7 (kind a : Int) (A : Option Addr) (c : Nat) (xs : List Int) (w : World) (h : SlW w (.slice A 8 c) xs) (hl : xs.length = 8) (hk : kind = 0 ∨ kind = 1) (ha0 : 0 ≤ a) (ha1 : a < 18446744073709551616) :
    Calls Tryz.prog 155 #[.int .i64 7, .slice A 8 c, .int .i64 kind, .int .u64 a] w (RefPost 7 xs kind a w) := by
  obtain ⟨i0, hi, hz0, hz1, hz2⟩ := info_parts info_word
  have HN := hide hl
  rcases hk with rfl | rfl
  · have hi1 : tabI 0 a = a := by unfold tabI; rw [if_neg (by decide)]
    by_cases hi8 : 8 ≤ a
    · have HE : Hid (seqE 7 xs 0 a = 10) := by show tabE 0 a = 10; unfold tabE; rw [hi1, if_pos hi8]
      have HV : Hid (seqV 7 xs 0 a = 0) := by show tabV xs 0 a = 0; unfold tabV; rw [hi1, if_pos hi8]
      have HL : Hid (seqL 7 xs 0 a = xs) := by show tabL xs 0 a = xs; unfold tabL; rw [hi1, if_pos hi8]
      clear hi1 hl
      go_enter Tryz.func155, Tryz.ntmps155
      go_wp2_with (at_builtin; refine wpList_append_sl (kk := .u64) rfl _ _ 24 rfl (w.heap.size + 1) 25 i0 (.int .u64 0) 8 Tryz.underlying24 hi hz0 hz1 hz2 rfl _ 0 [] rfl (own_empty w) A _ c xs rfl ((h.alloc _).alloc _) (by unfold maxLen; have := HN.out; omega) (by have := HN.out; omega) (by simp) ?_; intro v5 w5 hown5 hgrow _; have hown6 : w5.ownsRow (w.heap.size + 1) 25 1 v5 (7 + 1) (xs.map (Value.int .u64)) := (by have := hown5; rw [HN.out] at this; simpa using this); have hB5 : Below (w.heap.size + 1) (doneWorld w) w5 := (((Below.refl _ _).alloc (by simp) _).grown hgrow (by simp) (fun k hk => (by cases hk; exact Nat.le_refl _))); obtain ⟨z0, z1, z2, f0, f1, f2, hz5⟩ := cells3 (kept3 hB5); obtain ⟨g, cap, rfl⟩ := ownsRow_succ hown6; have hg := hown6.lt g rfl; have hne : w.heap.size ≠ g := (by omega); have hne' : g ≠ w.heap.size := (by omega); have hBB : Below w.heap.size w w5 := (((Below.refl _ w).alloc (Nat.le_refl _) _).trans (hB5.mono (by omega))); clear hown5 hgrow hB5)
      refine bodyPost_ret (v := .agg #[.slice (some ⟨g, 0, none⟩) 8 cap, .int .i64 10, .int .u64 0]) (by simp [results, Tryz.results155, go_sem, z0, z1, z2]) rfl (refPost_mk (L := xs) HE.out HV.out HL.out ?_ ?_)
      · have hs5 : SlW w5 (.slice (some ⟨g, 0, none⟩) 8 cap) xs := by
          have hr : WRow w5 (w.heap.size + 1) (.slice (some ⟨g, 0, none⟩) 8 cap) xs := by unfold WRow; rw [HN.out]; exact hown6
          exact wrow_sl hr (by rw [HN.out]; decide)
        repeat' (first | with_reducible exact hs5 | with_reducible refine sl_setCell ?_ _ _ ?_ | with_reducible refine Sl.alloc ?_ _ | exact hne)
      · repeat' (first | with_reducible exact hBB | with_reducible refine Below.drew ?_ | with_reducible refine Below.alloc ?_ ?_ _ | with_reducible refine Below.setCell ?_ ?_ _ | omega | (simp; done) | (simp; omega))
    · obtain ⟨i, rfl⟩ := Int.eq_ofNat_of_zero_le ha0
      obtain ⟨x, hx⟩ : ∃ x, xs[i]? = some x := ⟨_, List.getElem?_eq_getElem (by omega)⟩
      have HE : Hid (seqE 7 xs 0 i = 0) := by show tabE 0 i = 0; unfold tabE; rw [hi1, if_neg hi8]
      have HV : Hid (seqV 7 xs 0 i = x) := by show tabV xs 0 i = x; unfold tabV; rw [hi1, if_neg hi8, Int.toNat_natCast, hx]; rfl
      have HL : Hid (seqL 7 xs 0 i = xs) := by show tabL xs 0 i = xs; unfold tabL; rw [hi1, if_neg hi8, if_neg (by decide)]
      have q8 : (i : Int) < 8 := by omega
      have hw1 : IntKind.i64.wrap (i : Int) = (i : Int) := IntWalk.i64_in _ (by omega)
      have HX := hide hx
      clear hi1 hl hx
      go_enter Tryz.func155, Tryz.ntmps155
      go_wp2_with (at_builtin; refine wpList_append_sl (kk := .u64) rfl _ _ 24 rfl (w.heap.size + 1) 25 i0 (.int .u64 0) 8 Tryz.underlying24 hi hz0 hz1 hz2 rfl _ 0 [] rfl (own_empty w) A _ c xs rfl ((h.alloc _).alloc _) (by unfold maxLen; have := HN.out; omega) (by have := HN.out; omega) (by simp) ?_; intro v5 w5 hown5 hgrow _; have hown6 : w5.ownsRow (w.heap.size + 1) 25 1 v5 (7 + 1) (xs.map (Value.int .u64)) := (by have := hown5; rw [HN.out] at this; simpa using this); have hB5 : Below (w.heap.size + 1) (doneWorld w) w5 := (((Below.refl _ _).alloc (by simp) _).grown hgrow (by simp) (fun k hk => (by cases hk; exact Nat.le_refl _))); obtain ⟨z0, z1, z2, f0, f1, f2, hz5⟩ := cells3 (kept3 hB5); obtain ⟨g, cap, rfl⟩ := ownsRow_succ hown6; have hg := hown6.lt g rfl; have hne : w.heap.size ≠ g := (by omega); have hne' : g ≠ w.heap.size := (by omega); have hBB : Below w.heap.size w w5 := (((Below.refl _ w).alloc (Nat.le_refl _) _).trans (hB5.mono (by omega))); clear hown5 hgrow hB5; have k0 : w5.cell? ⟨g, i, none⟩ = some (.int .u64 x) := (by rw [hown6.cellAt _ (by omega), List.getElem?_map, HX.out]; rfl); have k1 := hown6.frozenAt i)
      refine bodyPost_ret (v := .agg #[.slice (some ⟨g, 0, none⟩) 8 cap, .int .i64 0, .int .u64 x]) (by simp [results, Tryz.results155, go_sem, z0, z1, z2]) rfl (refPost_mk (L := xs) HE.out HV.out HL.out ?_ ?_)
      · have hs5 : SlW w5 (.slice (some ⟨g, 0, none⟩) 8 cap) xs := by
          have hr : WRow w5 (w.heap.size + 1) (.slice (some ⟨g, 0, none⟩) 8 cap) xs := by unfold WRow; rw [HN.out]; exact hown6
          exact wrow_sl hr (by rw [HN.out]; decide)
        repeat' (first | with_reducible exact hs5 | with_reducible refine sl_setCell ?_ _ _ ?_ | with_reducible refine Sl.alloc ?_ _ | exact hne)
      · repeat' (first | with_reducible exact hBB | with_reducible refine Below.drew ?_ | with_reducible refine Below.alloc ?_ ?_ _ | with_reducible refine Below.setCell ?_ ?_ _ | omega | (simp; done) | (simp; omega))
  · have hi1 : tabI 1 a = a / 16777216 := by unfold tabI; rw [if_pos rfl]
    by_cases hi8 : 8 ≤ a / 16777216
    · have HE : Hid (seqE 7 xs 1 a = 10) := by show tabE 1 a = 10; unfold tabE; rw [hi1, if_pos hi8]
      have HV : Hid (seqV 7 xs 1 a = 0) := by show tabV xs 1 a = 0; unfold tabV; rw [hi1, if_pos hi8]
      have HL : Hid (seqL 7 xs 1 a = xs) := by show tabL xs 1 a = xs; unfold tabL; rw [hi1, if_pos hi8]
      clear hi1 hl
      go_enter Tryz.func155, Tryz.ntmps155
      go_wp2_with (at_builtin; refine wpList_append_sl (kk := .u64) rfl _ _ 24 rfl (w.heap.size + 1) 25 i0 (.int .u64 0) 8 Tryz.underlying24 hi hz0 hz1 hz2 rfl _ 0 [] rfl (own_empty w) A _ c xs rfl ((h.alloc _).alloc _) (by unfold maxLen; have := HN.out; omega) (by have := HN.out; omega) (by simp) ?_; intro v5 w5 hown5 hgrow _; have hown6 : w5.ownsRow (w.heap.size + 1) 25 1 v5 (7 + 1) (xs.map (Value.int .u64)) := (by have := hown5; rw [HN.out] at this; simpa using this); have hB5 : Below (w.heap.size + 1) (doneWorld w) w5 := (((Below.refl _ _).alloc (by simp) _).grown hgrow (by simp) (fun k hk => (by cases hk; exact Nat.le_refl _))); obtain ⟨z0, z1, z2, f0, f1, f2, hz5⟩ := cells3 (kept3 hB5); obtain ⟨g, cap, rfl⟩ := ownsRow_succ hown6; have hg := hown6.lt g rfl; have hne : w.heap.size ≠ g := (by omega); have hne' : g ≠ w.heap.size := (by omega); have hBB : Below w.heap.size w w5 := (((Below.refl _ w).alloc (Nat.le_refl _) _).trans (hB5.mono (by omega))); clear hown5 hgrow hB5)
      refine bodyPost_ret (v := .agg #[.slice (some ⟨g, 0, none⟩) 8 cap, .int .i64 10, .int .u64 0]) (by simp [results, Tryz.results155, go_sem, z0, z1, z2]) rfl (refPost_mk (L := xs) HE.out HV.out HL.out ?_ ?_)
      · have hs5 : SlW w5 (.slice (some ⟨g, 0, none⟩) 8 cap) xs := by
          have hr : WRow w5 (w.heap.size + 1) (.slice (some ⟨g, 0, none⟩) 8 cap) xs := by unfold WRow; rw [HN.out]; exact hown6
          exact wrow_sl hr (by rw [HN.out]; decide)
        repeat' (first | with_reducible exact hs5 | with_reducible refine sl_setCell ?_ _ _ ?_ | with_reducible refine Sl.alloc ?_ _ | exact hne)
      · repeat' (first | with_reducible exact hBB | with_reducible refine Below.drew ?_ | with_reducible refine Below.alloc ?_ ?_ _ | with_reducible refine Below.setCell ?_ ?_ _ | omega | (simp; done) | (simp; omega))
    · have hj0 : 0 ≤ a / 16777216 := by omega
      obtain ⟨i, hai⟩ := Int.eq_ofNat_of_zero_le hj0
      obtain ⟨x, hx⟩ : ∃ x, xs[i]? = some x := ⟨_, List.getElem?_eq_getElem (by omega)⟩
      have HE : Hid (seqE 7 xs 1 a = 0) := by show tabE 1 a = 0; unfold tabE; rw [hi1, if_neg hi8]
      have HV : Hid (seqV 7 xs 1 a = x) := by show tabV xs 1 a = x; unfold tabV; rw [hi1, if_neg hi8, hai, Int.toNat_natCast, hx]; rfl
      have HL : Hid (seqL 7 xs 1 a = xs.set i (a % 16777216)) := by show tabL xs 1 a = _; unfold tabL; rw [hi1, if_neg hi8, if_pos rfl, hai, Int.toNat_natCast]
      have q8 : (i : Int) < 8 := by omega
      have q9 : (0 : Int) ≤ (i : Int) := by omega
      have hw1 : IntKind.i64.wrap (i : Int) = (i : Int) := IntWalk.i64_in _ (by omega)
      have HX := hide hx
      clear hi1 hl hx hi8 hj0
      go_enter Tryz.func155, Tryz.ntmps155
      go_wp2_with (at_builtin; refine wpList_append_sl (kk := .u64) rfl _ _ 24 rfl (w.heap.size + 1) 25 i0 (.int .u64 0) 8 Tryz.underlying24 hi hz0 hz1 hz2 rfl _ 0 [] rfl (own_empty w) A _ c xs rfl ((h.alloc _).alloc _) (by unfold maxLen; have := HN.out; omega) (by have := HN.out; omega) (by simp) ?_; intro v5 w5 hown5 hgrow _; have hown6 : w5.ownsRow (w.heap.size + 1) 25 1 v5 (7 + 1) (xs.map (Value.int .u64)) := (by have := hown5; rw [HN.out] at this; simpa using this); have hB5 : Below (w.heap.size + 1) (doneWorld w) w5 := (((Below.refl _ _).alloc (by simp) _).grown hgrow (by simp) (fun k hk => (by cases hk; exact Nat.le_refl _))); obtain ⟨z0, z1, z2, f0, f1, f2, hz5⟩ := cells3 (kept3 hB5); obtain ⟨g, cap, rfl⟩ := ownsRow_succ hown6; have hg := hown6.lt g rfl; have hne : w.heap.size ≠ g := (by omega); have hne' : g ≠ w.heap.size := (by omega); have hBB : Below w.heap.size w w5 := (((Below.refl _ w).alloc (Nat.le_refl _) _).trans (hB5.mono (by omega))); clear hown5 hgrow hB5; have k0 : w5.cell? ⟨g, i, none⟩ = some (.int .u64 x) := (by rw [hown6.cellAt _ (by omega), List.getElem?_map, HX.out]; rfl); have k1 := hown6.frozenAt i)
      have hst := (hown6.stored i (.int .u64 (a % 16777216))).1
      refine bodyPost_ret (v := .agg #[.slice (some ⟨g, 0, none⟩) 8 cap, .int .i64 0, .int .u64 x]) (by simp [results, Tryz.results155, go_sem, z0, z1, z2]) rfl (refPost_mk (L := xs.set i (a % 16777216)) HE.out HV.out HL.out ?_ ?_)
      · have key : ∀ W : World, W.ownsRow (w.heap.size + 1) 25 1 (.slice (some ⟨g, 0, none⟩) (7 + 1) cap) (7 + 1) ((xs.map (Value.int .u64)).set i (.int .u64 (a % 16777216))) → SlW W (.slice (some ⟨g, 0, none⟩) 8 cap) (xs.set i (a % 16777216)) := by
          intro W h
          refine sl_of_owns (base := w.heap.size + 1) (e := 25) ?_ (by rw [List.length_set, HN.out]; decide)
          rw [List.length_set, HN.out, List.map_set]
          exact h
        refine key _ ?_
        repeat' (first | with_reducible exact hst | with_reducible refine ownsRow_setCell_below ?_ ?_ _ | with_reducible refine World.ownsRow.alloc ?_ _ | (simp; done) | omega)
      · repeat' (first | with_reducible exact hBB | with_reducible refine Below.drew ?_ | with_reducible refine Below.alloc ?_ ?_ _ | with_reducible refine Below.setCell ?_ ?_ _ | omega | (simp; done) | (simp; omega))

theorem refApply17 (n kind a : Int) (v : Value) (xs : List Int) (w : World) (h : SlW w v xs) (hr : rightB17 n xs.length = true) (hx : ∀ x ∈ xs, U64 x) (ha : U64 a) (hk0 : 0 ≤ kind) (hk1 : kind < kindsI n) :
    Calls Tryz.prog 155 #[.int .i64 n, v, .int .i64 kind, .int .u64 a] w (RefPost n xs kind a w) := by
  have hv := h
  obtain ⟨A, c, rfl, _, _, _⟩ := hv
  rcases cases8 n with (rfl | rfl | rfl | rfl | rfl | rfl | rfl | rfl) | hn
  · obtain ⟨x, rfl⟩ := bell (by simpa [rightB17] using hr)
    exact refApply_0 kind a A c x w h (by have : kindsI 0 = 2 := by decide
                                          omega)
  · obtain ⟨x, rfl⟩ := bell (by simpa [rightB17] using hr)
    exact refApply_1 kind a A c x w h (by have : kindsI 1 = 2 := by decide
                                          omega)
  · exact refApply_row 2 kind a (xs.length - 1) A c xs w h (by have : kindsI 2 = 3 := by decide
                                                               omega) (by simpa [rightB17] using hr) (by omega)
  · exact refApply_row 3 kind a 0 A c xs w h (by have : kindsI 3 = 3 := by decide
                                                 omega) (by simpa [rightB17] using hr) (by omega)
  · obtain ⟨x, rfl⟩ := bell (by simpa [rightB17] using hr)
    exact refApply_4 kind a A c x w h (by have : kindsI 4 = 3 := by decide
                                          omega) (hx x (by simp)) ha
  · obtain ⟨x, rfl⟩ := bell (by simpa [rightB17] using hr)
    exact refApply_5 kind a A c x w h (by have : kindsI 5 = 2 := by decide
                                          omega)
  · obtain ⟨x, rfl⟩ := bell (by simpa [rightB17] using hr)
    exact refApply_6 kind a A c x w h (by have : kindsI 6 = 2 := by decide
                                          omega) ha.1 ha.2
  · have hlen : xs.length = 8 := by simpa [rightB17] using hr
    rw [hlen] at h ⊢
    exact refApply_7 kind a A c xs w h hlen (by have : kindsI 7 = 2 := by decide
                                                omega) ha.1 ha.2
  · exfalso
    unfold rightB17 at hr
    rw [if_neg (by omega), if_neg (by omega), decide_eq_false (by omega : ¬ n = 7)] at hr
    simp at hr
end Go.Proofs.YtmiimpmfkjcjlaaGreat
