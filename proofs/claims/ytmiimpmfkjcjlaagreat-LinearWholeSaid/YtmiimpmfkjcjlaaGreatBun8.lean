import Derived.Test.YtmiimpmfkjcjlaaGreatBun7
import Derived.Test.YtmiimpmfkjcjlaaGreatBun1
import Derived.Test.YtmiimpmfkjcjlaaGreatBun2
namespace Go.Proofs.YtmiimpmfkjcjlaaGreat
open Go.RowKit
attribute [local go_sem] run_store_fn run_store_nilfn
set_option maxRecDepth 100000 in
set_option maxHeartbeats 4000000 in
theorem refApply_7 (kind a : Int) (A : Option Addr) (c : Nat) (xs : List Int) (w : World) (h : SlW w (.slice A 8 c) xs) (hl : xs.length = 8) (hk : kind = 0 ∨ kind = 1) (ha0 : 0 ≤ a) (ha1 : a < 18446744073709551616) :
    Calls Tryz.prog 155 #[.int .i64 7, .slice A 8 c, .int .i64 kind, .int .u64 a] w (RefPost 7 xs kind a w) := by
  obtain ⟨i0, hi, hz0, hz1, hz2⟩ := info_parts info_word
  have HN := hide hl
  rcases hk with rfl | rfl
  · have hi1 : tabI 0 a = a := by unfold tabI; rw [if_neg (by decide)]
    by_cases hi8 : 8 ≤ a
    · have HE : Hid (seqE 7 xs 0 a = 10) := by show tabE 0 a = 10; unfold tabE; rw [hi1, if_pos hi8]
      have HV : Hid (seqV 7 xs 0 a = 0) := by show tabV xs 0 a = 0; unfold tabV; rw [hi1, if_pos hi8]
      have HL : Hid (seqL 7 xs 0 a = xs) := by show tabL xs 0 a = xs; unfold tabL; rw [hi1, if_pos hi8]
      clear hi1 hl
      go_enter Tryz.func155, Tryz.ntmps155
      go_wp2_with (at_builtin; refine wpList_append_sl (kk := .u64) rfl _ _ 24 rfl (w.heap.size + 1) 25 i0 (.int .u64 0) 8 Tryz.underlying24 hi hz0 hz1 hz2 rfl _ 0 [] rfl (own_empty w) A _ c xs rfl ((h.alloc _).alloc _) (by unfold maxLen; have := HN.out; omega) (by have := HN.out; omega) (by simp) ?_; intro v5 w5 hown5 hgrow _; have hown6 : w5.ownsRow (w.heap.size + 1) 25 1 v5 (7 + 1) (xs.map (Value.int .u64)) := (by have := hown5; rw [HN.out] at this; simpa using this); have hB5 : Below (w.heap.size + 1) (doneWorld w) w5 := (((Below.refl _ _).alloc (by simp) _).grown hgrow (by simp) (fun k hk => (by cases hk; exact Nat.le_refl _))); obtain ⟨z0, z1, z2, f0, f1, f2, hz5⟩ := cells3 (kept3 hB5); obtain ⟨g, cap, rfl⟩ := ownsRow_succ hown6; have hg := hown6.lt g rfl; have hne : w.heap.size ≠ g := (by omega); have hne' : g ≠ w.heap.size := (by omega); have hBB : Below w.heap.size w w5 := (((Below.refl _ w).alloc (Nat.le_refl _) _).trans (hB5.mono (by omega))); clear hown5 hgrow hB5)
      refine bodyPost_ret (v := .agg #[.slice (some ⟨g, 0, none⟩) 8 cap, .int .i64 10, .int .u64 0]) (by simp [results, Tryz.results155, go_sem, z0, z1, z2]) rfl (refPost_mk (L := xs) HE.out HV.out HL.out ?_ ?_ (fun b hb => by first | exact hoa b hb | exact outOf_new (by have := hBB.size; omega)))
      · have hs5 : SlW w5 (.slice (some ⟨g, 0, none⟩) 8 cap) xs := by
          have hr : WRow w5 (w.heap.size + 1) (.slice (some ⟨g, 0, none⟩) 8 cap) xs := by unfold WRow; rw [HN.out]; exact hown6
          exact wrow_sl hr (by rw [HN.out]; decide)
        repeat' (first | with_reducible exact hs5 | with_reducible refine sl_setCell ?_ _ _ ?_ | with_reducible refine Sl.alloc ?_ _ | exact hne)
      · repeat' (first | with_reducible exact hBB | with_reducible refine Below.drew ?_ | with_reducible refine Below.alloc ?_ ?_ _ | with_reducible refine Below.setCell ?_ ?_ _ | omega | (simp; done) | (simp; omega))
    · obtain ⟨i, rfl⟩ := Int.eq_ofNat_of_zero_le ha0
      obtain ⟨x, hx⟩ : ∃ x, xs[i]? = some x := ⟨_, List.getElem?_eq_getElem (by omega)⟩
      have HE : Hid (seqE 7 xs 0 i = 0) := by show tabE 0 i = 0; unfold tabE; rw [hi1, if_neg hi8]
      have HV : Hid (seqV 7 xs 0 i = x) := by show tabV xs 0 i = x; unfold tabV; rw [hi1, if_neg hi8, Int.toNat_natCast, hx]; rfl
      have HL : Hid (seqL 7 xs 0 i = xs) := by show tabL xs 0 i = xs; unfold tabL; rw [hi1, if_neg hi8, if_neg (by decide)]
      have q8 : (i : Int) < 8 := by omega
      have hw1 : IntKind.i64.wrap (i : Int) = (i : Int) := IntWalk.i64_in _ (by omega)
      have HX := hide hx
      clear hi1 hl hx
      go_enter Tryz.func155, Tryz.ntmps155
      go_wp2_with (at_builtin; refine wpList_append_sl (kk := .u64) rfl _ _ 24 rfl (w.heap.size + 1) 25 i0 (.int .u64 0) 8 Tryz.underlying24 hi hz0 hz1 hz2 rfl _ 0 [] rfl (own_empty w) A _ c xs rfl ((h.alloc _).alloc _) (by unfold maxLen; have := HN.out; omega) (by have := HN.out; omega) (by simp) ?_; intro v5 w5 hown5 hgrow _; have hown6 : w5.ownsRow (w.heap.size + 1) 25 1 v5 (7 + 1) (xs.map (Value.int .u64)) := (by have := hown5; rw [HN.out] at this; simpa using this); have hB5 : Below (w.heap.size + 1) (doneWorld w) w5 := (((Below.refl _ _).alloc (by simp) _).grown hgrow (by simp) (fun k hk => (by cases hk; exact Nat.le_refl _))); obtain ⟨z0, z1, z2, f0, f1, f2, hz5⟩ := cells3 (kept3 hB5); obtain ⟨g, cap, rfl⟩ := ownsRow_succ hown6; have hg := hown6.lt g rfl; have hne : w.heap.size ≠ g := (by omega); have hne' : g ≠ w.heap.size := (by omega); have hBB : Below w.heap.size w w5 := (((Below.refl _ w).alloc (Nat.le_refl _) _).trans (hB5.mono (by omega))); clear hown5 hgrow hB5; have k0 : w5.cell? ⟨g, i, none⟩ = some (.int .u64 x) := (by rw [hown6.cellAt _ (by omega), List.getElem?_map, HX.out]; rfl); have k1 := hown6.frozenAt i)
      refine bodyPost_ret (v := .agg #[.slice (some ⟨g, 0, none⟩) 8 cap, .int .i64 0, .int .u64 x]) (by simp [results, Tryz.results155, go_sem, z0, z1, z2]) rfl (refPost_mk (L := xs) HE.out HV.out HL.out ?_ ?_ (fun b hb => by first | exact hoa b hb | exact outOf_new (by have := hBB.size; omega)))
      · have hs5 : SlW w5 (.slice (some ⟨g, 0, none⟩) 8 cap) xs := by
          have hr : WRow w5 (w.heap.size + 1) (.slice (some ⟨g, 0, none⟩) 8 cap) xs := by unfold WRow; rw [HN.out]; exact hown6
          exact wrow_sl hr (by rw [HN.out]; decide)
        repeat' (first | with_reducible exact hs5 | with_reducible refine sl_setCell ?_ _ _ ?_ | with_reducible refine Sl.alloc ?_ _ | exact hne)
      · repeat' (first | with_reducible exact hBB | with_reducible refine Below.drew ?_ | with_reducible refine Below.alloc ?_ ?_ _ | with_reducible refine Below.setCell ?_ ?_ _ | omega | (simp; done) | (simp; omega))
  · have hi1 : tabI 1 a = a / 16777216 := by unfold tabI; rw [if_pos rfl]
    by_cases hi8 : 8 ≤ a / 16777216
    · have HE : Hid (seqE 7 xs 1 a = 10) := by show tabE 1 a = 10; unfold tabE; rw [hi1, if_pos hi8]
      have HV : Hid (seqV 7 xs 1 a = 0) := by show tabV xs 1 a = 0; unfold tabV; rw [hi1, if_pos hi8]
      have HL : Hid (seqL 7 xs 1 a = xs) := by show tabL xs 1 a = xs; unfold tabL; rw [hi1, if_pos hi8]
      clear hi1 hl
      go_enter Tryz.func155, Tryz.ntmps155
      go_wp2_with (at_builtin; refine wpList_append_sl (kk := .u64) rfl _ _ 24 rfl (w.heap.size + 1) 25 i0 (.int .u64 0) 8 Tryz.underlying24 hi hz0 hz1 hz2 rfl _ 0 [] rfl (own_empty w) A _ c xs rfl ((h.alloc _).alloc _) (by unfold maxLen; have := HN.out; omega) (by have := HN.out; omega) (by simp) ?_; intro v5 w5 hown5 hgrow _; have hown6 : w5.ownsRow (w.heap.size + 1) 25 1 v5 (7 + 1) (xs.map (Value.int .u64)) := (by have := hown5; rw [HN.out] at this; simpa using this); have hB5 : Below (w.heap.size + 1) (doneWorld w) w5 := (((Below.refl _ _).alloc (by simp) _).grown hgrow (by simp) (fun k hk => (by cases hk; exact Nat.le_refl _))); obtain ⟨z0, z1, z2, f0, f1, f2, hz5⟩ := cells3 (kept3 hB5); obtain ⟨g, cap, rfl⟩ := ownsRow_succ hown6; have hg := hown6.lt g rfl; have hne : w.heap.size ≠ g := (by omega); have hne' : g ≠ w.heap.size := (by omega); have hBB : Below w.heap.size w w5 := (((Below.refl _ w).alloc (Nat.le_refl _) _).trans (hB5.mono (by omega))); clear hown5 hgrow hB5)
      refine bodyPost_ret (v := .agg #[.slice (some ⟨g, 0, none⟩) 8 cap, .int .i64 10, .int .u64 0]) (by simp [results, Tryz.results155, go_sem, z0, z1, z2]) rfl (refPost_mk (L := xs) HE.out HV.out HL.out ?_ ?_ (fun b hb => by first | exact hoa b hb | exact outOf_new (by have := hBB.size; omega)))
      · have hs5 : SlW w5 (.slice (some ⟨g, 0, none⟩) 8 cap) xs := by
          have hr : WRow w5 (w.heap.size + 1) (.slice (some ⟨g, 0, none⟩) 8 cap) xs := by unfold WRow; rw [HN.out]; exact hown6
          exact wrow_sl hr (by rw [HN.out]; decide)
        repeat' (first | with_reducible exact hs5 | with_reducible refine sl_setCell ?_ _ _ ?_ | with_reducible refine Sl.alloc ?_ _ | exact hne)
      · repeat' (first | with_reducible exact hBB | with_reducible refine Below.drew ?_ | with_reducible refine Below.alloc ?_ ?_ _ | with_reducible refine Below.setCell ?_ ?_ _ | omega | (simp; done) | (simp; omega))
    · have hj0 : 0 ≤ a / 16777216 := by omega
      obtain ⟨i, hai⟩ := Int.eq_ofNat_of_zero_le hj0
      obtain ⟨x, hx⟩ : ∃ x, xs[i]? = some x := ⟨_, List.getElem?_eq_getElem (by omega)⟩
      have HE : Hid (seqE 7 xs 1 a = 0) := by show tabE 1 a = 0; unfold tabE; rw [hi1, if_neg hi8]
      have HV : Hid (seqV 7 xs 1 a = x) := by show tabV xs 1 a = x; unfold tabV; rw [hi1, if_neg hi8, hai, Int.toNat_natCast, hx]; rfl
      have HL : Hid (seqL 7 xs 1 a = xs.set i (a % 16777216)) := by show tabL xs 1 a = _; unfold tabL; rw [hi1, if_neg hi8, if_pos rfl, hai, Int.toNat_natCast]
      have q8 : (i : Int) < 8 := by omega
      have q9 : (0 : Int) ≤ (i : Int) := by omega
      have hw1 : IntKind.i64.wrap (i : Int) = (i : Int) := IntWalk.i64_in _ (by omega)
      have HX := hide hx
      clear hi1 hl hx hi8 hj0
      go_enter Tryz.func155, Tryz.ntmps155
      go_wp2_with (at_builtin; refine wpList_append_sl (kk := .u64) rfl _ _ 24 rfl (w.heap.size + 1) 25 i0 (.int .u64 0) 8 Tryz.underlying24 hi hz0 hz1 hz2 rfl _ 0 [] rfl (own_empty w) A _ c xs rfl ((h.alloc _).alloc _) (by unfold maxLen; have := HN.out; omega) (by have := HN.out; omega) (by simp) ?_; intro v5 w5 hown5 hgrow _; have hown6 : w5.ownsRow (w.heap.size + 1) 25 1 v5 (7 + 1) (xs.map (Value.int .u64)) := (by have := hown5; rw [HN.out] at this; simpa using this); have hB5 : Below (w.heap.size + 1) (doneWorld w) w5 := (((Below.refl _ _).alloc (by simp) _).grown hgrow (by simp) (fun k hk => (by cases hk; exact Nat.le_refl _))); obtain ⟨z0, z1, z2, f0, f1, f2, hz5⟩ := cells3 (kept3 hB5); obtain ⟨g, cap, rfl⟩ := ownsRow_succ hown6; have hg := hown6.lt g rfl; have hne : w.heap.size ≠ g := (by omega); have hne' : g ≠ w.heap.size := (by omega); have hBB : Below w.heap.size w w5 := (((Below.refl _ w).alloc (Nat.le_refl _) _).trans (hB5.mono (by omega))); clear hown5 hgrow hB5; have k0 : w5.cell? ⟨g, i, none⟩ = some (.int .u64 x) := (by rw [hown6.cellAt _ (by omega), List.getElem?_map, HX.out]; rfl); have k1 := hown6.frozenAt i)
      have hst := (hown6.stored i (.int .u64 (a % 16777216))).1
      refine bodyPost_ret (v := .agg #[.slice (some ⟨g, 0, none⟩) 8 cap, .int .i64 0, .int .u64 x]) (by simp [results, Tryz.results155, go_sem, z0, z1, z2]) rfl (refPost_mk (L := xs.set i (a % 16777216)) HE.out HV.out HL.out ?_ ?_ (fun b hb => by first | exact hoa b hb | exact outOf_new (by have := hBB.size; omega)))
      · have key : ∀ W : World, W.ownsRow (w.heap.size + 1) 25 1 (.slice (some ⟨g, 0, none⟩) (7 + 1) cap) (7 + 1) ((xs.map (Value.int .u64)).set i (.int .u64 (a % 16777216))) → SlW W (.slice (some ⟨g, 0, none⟩) 8 cap) (xs.set i (a % 16777216)) := by
          intro W h
          refine sl_of_owns (base := w.heap.size + 1) (e := 25) ?_ (by rw [List.length_set, HN.out]; decide)
          rw [List.length_set, HN.out, List.map_set]
          exact h
        refine key _ ?_
        repeat' (first | with_reducible exact hst | with_reducible refine ownsRow_setCell_below ?_ ?_ _ | with_reducible refine World.ownsRow.alloc ?_ _ | (simp; done) | omega)
      · repeat' (first | with_reducible exact hBB | with_reducible refine Below.drew ?_ | with_reducible refine Below.alloc ?_ ?_ _ | with_reducible refine Below.setCell ?_ ?_ _ | omega | (simp; done) | (simp; omega))
theorem refApply17 (n kind a : Int) (v : Value) (xs : List Int) (w : World) (h : SlW w v xs) (hr : rightB17 n xs.length = true) (hx : ∀ x ∈ xs, U64 x) (ha : U64 a) (hk0 : 0 ≤ kind) (hk1 : kind < kindsI n) :
    Calls Tryz.prog 155 #[.int .i64 n, v, .int .i64 kind, .int .u64 a] w (RefPost n xs kind a w) := by
  have hv := h
  obtain ⟨A, c, rfl, _, _, _⟩ := hv
  rcases cases8 n with (rfl | rfl | rfl | rfl | rfl | rfl | rfl | rfl) | hn
  · obtain ⟨x, rfl⟩ := bell (by simpa [rightB17] using hr)
    exact refApply_0 kind a A c x w h (by have : kindsI 0 = 2 := by decide
                                          omega)
  · obtain ⟨x, rfl⟩ := bell (by simpa [rightB17] using hr)
    exact refApply_1 kind a A c x w h (by have : kindsI 1 = 2 := by decide
                                          omega)
  · exact refApply_row 2 kind a (xs.length - 1) A c xs w h (by have : kindsI 2 = 3 := by decide
                                                               omega) (by simpa [rightB17] using hr) (by omega)
  · exact refApply_row 3 kind a 0 A c xs w h (by have : kindsI 3 = 3 := by decide
                                                 omega) (by simpa [rightB17] using hr) (by omega)
  · obtain ⟨x, rfl⟩ := bell (by simpa [rightB17] using hr)
    exact refApply_4 kind a A c x w h (by have : kindsI 4 = 3 := by decide
                                          omega) (hx x (by simp)) ha
  · obtain ⟨x, rfl⟩ := bell (by simpa [rightB17] using hr)
    exact refApply_5 kind a A c x w h (by have : kindsI 5 = 2 := by decide
                                          omega)
  · obtain ⟨x, rfl⟩ := bell (by simpa [rightB17] using hr)
    exact refApply_6 kind a A c x w h (by have : kindsI 6 = 2 := by decide
                                          omega) ha.1 ha.2
  · have hlen : xs.length = 8 := by simpa [rightB17] using hr
    rw [hlen] at h ⊢
    exact refApply_7 kind a A c xs w h hlen (by have : kindsI 7 = 2 := by decide
                                                omega) ha.1 ha.2
  · exfalso
    unfold rightB17 at hr
    rw [if_neg (by omega), if_neg (by omega), decide_eq_false (by omega : ¬ n = 7)] at hr
    simp at hr
end Go.Proofs.YtmiimpmfkjcjlaaGreat

namespace Go.Proofs.YtmiimpmfkjcjlaaGreat
open Go.RowKit
def apE (n : Int) (xs : List Int) (kind a : Int) : Int := if rightB17 n xs.length = false then 1 else if 0 ≤ kind ∧ kind < kindsI n then seqE n xs kind a else 9
def apV (n : Int) (xs : List Int) (kind a : Int) : Int := if rightB17 n xs.length = false then 0 else if 0 ≤ kind ∧ kind < kindsI n then seqV n xs kind a else 0
def apL (n : Int) (xs : List Int) (kind a : Int) : List Int := if rightB17 n xs.length = false then xs else if 0 ≤ kind ∧ kind < kindsI n then seqL n xs kind a else xs
theorem apply_own (n kind a : Int) (v : Value) (xs : List Int) (w : World) (h : SlW w v xs) (hb : xs.length ≤ 1000000) (hx : ∀ x ∈ xs, U64 x) (ha : U64 a) (E V : Int) (L : List Int) (k : Nat)
    (hE : apE n xs kind a = E) (hV : apV n xs kind a = V) (hL : apL n xs kind a = L) (hk : L.length = k) :
    Calls Tryz.prog 198 #[.int .i64 n, v, .int .i64 kind, .int .u64 a] w fun e w' =>
      ∃ A c, e = .returned (.tuple #[.slice A k c, .agg #[.int .i64 E, .int .u64 V, .slice none 0 0]]) ∧ WRow w' w.heap.size (.slice A k c) L ∧ Below w.heap.size w w' := by
  subst hE hV hL hk
  have lit : ∀ {w' : World} {B : Nat} {u : Value} {l : List Int}, WRow w' B u l → ∃ A c, u = .slice A l.length c := by
    intro w' B u l hr
    rcases hr.2 with ⟨e, h0⟩ | ⟨g, cap, cur, e, _⟩
    · exact ⟨none, 0, by rw [e, h0]⟩
    · exact ⟨_, cap, e⟩
  unfold apE apV apL
  by_cases hr : rightB17 n xs.length = false
  · simp only [if_pos hr]
    refine (apply_wrong n kind a v xs w h hb hr).mono ?_
    rintro e w' ⟨u, rfl, hs, hb'⟩
    obtain ⟨A, c, rfl⟩ := lit hs
    exact ⟨A, c, rfl, hs, hb'⟩
  · simp only [if_neg hr]
    have hr' : rightB17 n xs.length = true := by simpa using hr
    by_cases hk : 0 ≤ kind ∧ kind < kindsI n
    · simp only [if_pos hk]
      refine (apply_go n kind a v xs w h hb hr' hx ha hk.1 hk.2).mono ?_
      rintro e w' ⟨u, rfl, hs, hb'⟩
      obtain ⟨A, c, rfl⟩ := lit hs
      exact ⟨A, c, rfl, hs, hb'⟩
    · simp only [if_neg hk]
      refine (apply_kind n kind a v xs w h hb hr' hk).mono ?_
      rintro e w' ⟨u, rfl, hs, hb'⟩
      obtain ⟨A, c, rfl⟩ := lit hs
      exact ⟨A, c, rfl, hs, hb'⟩
theorem apL_len (n kind a : Int) (xs : List Int) (hb : xs.length ≤ 1000000) : (apL n xs kind a).length ≤ 1000000 := by
  unfold apL
  split
  · exact hb
  · rename_i hr
    split
    · rename_i hk
      exact seqL_len (by simpa using hr) hk.1 hk.2
    · exact hb
theorem sl_at {w : World} {A : Option Addr} {n c : Nat} {xs : List Int} (h : SlW w (.slice A n c) xs) (k : Nat) (x : Int) (hx : xs[k]? = some x) : ∃ b o, A = some ⟨b, o, none⟩ ∧ w.cell? ⟨b, o + k, none⟩ = some (.int .u64 x) ∧ b < w.heap.size := by
  obtain ⟨A', c', e, _, _, h3⟩ := h
  obtain ⟨b, o, e', hb, hc⟩ := h3 k x hx
  cases e
  have := nt_cell hc
  simp only [Nat.mul_one] at this
  exact ⟨b, o, e', this, hb⟩
end Go.Proofs.YtmiimpmfkjcjlaaGreat

namespace Go.Proofs.YtmiimpmfkjcjlaaGreat
open Go.RowKit
structure An where
  err : Int
  val : Int
  list : List Int
def anE (e : Int) : An := ⟨e, 0, []⟩
def anV (v : Int) : An := ⟨0, v, []⟩
end Go.Proofs.YtmiimpmfkjcjlaaGreat

namespace Go.Proofs.YtmiimpmfkjcjlaaGreat
open Go.RowKit
def newM (n : Int) (s : Sp) : List Int :=
  if s.kind = 0 ∨ s.kind = 9 then List.replicate s.p.toNat 0 else if s.kind = 5 then List.replicate (2 * n).toNat 0 else if s.kind = 6 then List.replicate (s.p + n).toNat 0 else
  if s.kind = 7 then 0 :: newL s.p else if s.kind = 8 then [] else [0]
def shapeM (n : Int) (s : Sp) (st : List Int) : Bool :=
  if s.kind = 7 then decide (0 < st.length) && rightB17 s.p (st.length - 1) else if s.kind = 8 then decide (st.length % 2 = 0) else decide (st.length = (newM n s).length)
def rightM (n : Int) (s : Sp) (st : List Int) : Bool := decide (sizeE n s = 0) && shapeM n s st
def at0 (st : List Int) (i : Nat) : Int := (st[i]?).getD 0
def cellM (s : Sp) (st : List Int) (c : Cl) : List Int × An :=
  if s.p ≤ c.a then (st, anE 10) else if c.kind = 1 then (st.set c.a.toNat c.b, anE 0) else
  if c.kind = 2 then (if at0 st c.a.toNat = c.b then (st.set c.a.toNat c.c, anV 1) else (st, anE 0)) else
  if c.kind = 3 then (st.set c.a.toNat ((at0 st c.a.toNat + c.b) % 18446744073709551616), anV (at0 st c.a.toNat)) else (st, anV (at0 st c.a.toNat))
def consM (st : List Int) (c : Cl) : List Int × An :=
  if c.kind = 0 ∧ 4294967296 ≤ c.a then (st, anE 10) else if c.kind = 1 ∧ at0 st 0 = 0 then (st, anE 7) else
  if at0 st 0 = 0 then (st.set 0 (c.a + 1), anV c.a) else (st, anV (at0 st 0 - 1))
def numM (s : Sp) (st : List Int) (c : Cl) : List Int × An :=
  if c.kind = 1 then (st, anV (at0 st 0)) else if s.kind = 2 then (st.set 0 ((at0 st 0 + 1) % 18446744073709551616), anE 0) else
  if c.kind = 2 then (st.set 0 ((at0 st 0 + 1) % 18446744073709551616), anV (at0 st 0)) else (st.set 0 ((at0 st 0 + c.a) % 18446744073709551616), anV (at0 st 0))
def maxM (s : Sp) (st : List Int) (c : Cl) : List Int × An :=
  if c.kind = 1 then (st, anV (at0 st 0)) else if c.a / 2 ^ s.p.toNat ≠ 0 then (st, anE 10) else (st.set 0 (max (at0 st 0) c.a), anE 0)
def partsM (m most part v : Int) (st : List Int) (c : Cl) : List Int × An :=
  if c.kind = 1 then (st, ⟨0, 0, st.take m.toNat⟩) else if m ≤ part then (st, anE 10) else if most ≤ at0 st (m + c.thread).toNat then (st, anE 6) else
  ((st.set part.toNat v).set (m + c.thread).toNat (at0 st (m + c.thread).toNat + 1), anE 0)
def sharedM (s : Sp) (st : List Int) (c : Cl) : List Int × An :=
  if 4294967296 ≤ c.a then (st, anE 10) else if s.q ≤ at0 st 0 then (st, anE 6) else
  ((at0 st 0 + 1) :: apL s.p (st.drop 1) c.kind c.a, ⟨apE s.p (st.drop 1) c.kind c.a, apV s.p (st.drop 1) c.kind c.a, []⟩)
def queueM (st : List Int) (c : Cl) : List Int × An :=
  if c.kind = 0 ∧ 16777216 ≤ c.a then (st, anE 10) else if c.kind = 0 then (st ++ [c.thread, c.a], anE 0) else if st.length = 0 then (st, anE 7) else (st.drop 2, anV (at0 st 1))
def pinL (a : Int) (k : Nat) : List Int := (List.range k).map fun i : Nat => (a + i) % 18446744073709551616
def pinM (st : List Int) (c : Cl) : List Int × An :=
  if c.kind = 1 then (st, ⟨0, 0, st⟩) else if c.thread ≠ 0 then (st, anE 11) else (pinL c.a st.length, anE 0)
def actM (n : Int) (s : Sp) (st : List Int) (c : Cl) : List Int × An :=
  if s.kind = 0 then cellM s st c else if s.kind = 1 then consM st c else if s.kind = 2 ∨ s.kind = 3 then numM s st c else if s.kind = 4 then maxM s st c else
  if s.kind = 5 then partsM n s.p c.thread c.a st c else if s.kind = 6 then partsM s.p s.q c.a c.b st c else if s.kind = 7 then sharedM s st c else if s.kind = 8 then queueM st c else pinM st c
def applyM (n : Int) (s : Sp) (st : List Int) (c : Cl) : List Int × An :=
  if rightM n s st = false ∨ ¬ (0 ≤ c.thread ∧ c.thread < n) then (st, anE 1) else if ¬ (0 ≤ c.kind ∧ c.kind < actsT s.kind s.p) then (st, anE 9) else actM n s st c
def ownM (st : List Int) (t : Int) : Nat → Nat
  | 0 => 0
  | k + 1 => ownM st t k + if at0 st (2 * k) = t then 1 else 0
def ownN (st : List Int) (t : Int) : Nat := ownM st t (st.length / 2)
def fullM (n : Int) (s : Sp) (st : List Int) (c : Cl) (a : An) : Bool :=
  decide (s.kind = 8) && (decide (c.kind = 0) && (decide ((applyM n s st c).2.err = 0) && (decide (a.err = 6) && (decide (a.val = 0) && (decide (a.list.length = 0) && decide (s.p - n - 1 ≤ ownN st c.thread))))))
def okM (n : Int) (s : Sp) (st : List Int) (c : Cl) (a : An) : Bool := decide (a.err = (applyM n s st c).2.err) && (decide (a.val = (applyM n s st c).2.val) && decide (a.list = (applyM n s st c).2.list))
def legalM (n : Int) (s : Sp) (st : List Int) (c : Cl) (a : An) : List Int × Bool := if okM n s st c a = true then ((applyM n s st c).1, true) else (st, fullM n s st c a)
theorem newM_len (n : Int) (s : Sp) (h : sizeE n s = 0) : (newM n s).length ≤ 80 := by
  unfold sizeE at h
  split at h
  · cases h
  · split at h
    · cases h
    · split at h
      · cases h
      · rename_i h1 h2 h3
        simp at h3
        unfold rightT at h3
        unfold newM newL
        repeat' split at h3
        all_goals simp at h3
        all_goals (repeat' split)
        all_goals (simp; try omega)
theorem shapeM_newM (n : Int) (s : Sp) (h : sizeE n s = 0) : shapeM n s (newM n s) = true := by
  unfold shapeM
  split
  · rename_i h7
    have hk : kindsI s.p > 0 := by
      unfold sizeE at h
      split at h
      · cases h
      · split at h
        · cases h
        · split at h
          · cases h
          · rename_i h1 h2 h3
            simp at h3
            unfold rightT at h3
            simp [h7] at h3
            omega
    unfold newM
    simp [h7]
    unfold kindsI at hk
    unfold rightB17 newL
    repeat' split at hk
    · rename_i q
      rcases q with q | q | q | q | q <;> simp [q]
    · rename_i q
      rcases q with q | q | q <;> simp [q]
    · omega
  · split
    · rename_i h7 h8
      unfold newM
      simp [h8]
    · simp
theorem rightM_newM (n : Int) (s : Sp) (h : sizeE n s = 0) : rightM n s (newM n s) = true := by
  unfold rightM
  rw [shapeM_newM n s h, decide_eq_true h]
  rfl
theorem u64_new {n : Int} {s : Sp} : ∀ x ∈ newM n s, U64 x := by
  intro x hx
  have : x = 0 := by
    unfold newM newL at hx
    repeat' split at hx
    all_goals simp at hx
    all_goals first | exact hx.2 | exact hx | (rcases hx with hx | hx; exact hx; exact hx) | skip
  subst this
  exact ⟨by omega, by omega⟩
end Go.Proofs.YtmiimpmfkjcjlaaGreat

namespace Go.Proofs.YtmiimpmfkjcjlaaGreat
structure CmpOk (cf : Int → Int → Int) : Prop where
  anti : ∀ x y, cf x y < 0 ↔ 0 < cf y x
  trans : ∀ x y z, cf x y ≤ 0 → cf y z ≤ 0 → cf x z ≤ 0
def Lt (cf : Int → Int → Int) (x y : Int) : Prop := cf x y < 0 ∨ (cf x y = 0 ∧ x < y)
section
variable {cf : Int → Int → Int}
theorem CmpOk.zero (h : CmpOk cf) {x y : Int} : cf x y = 0 ↔ cf y x = 0 := by
  have h1 := h.anti x y
  have h2 := h.anti y x
  omega
theorem CmpOk.self (h : CmpOk cf) (x : Int) : cf x x = 0 := by
  have h1 := h.anti x x
  omega
theorem CmpOk.lt_le (h : CmpOk cf) {x y z : Int} (h1 : cf x y < 0) (h2 : cf y z ≤ 0) : cf x z < 0 := by
  have h3 := h.trans x y z (by omega) h2
  have h4 := h.zero (x := x) (y := z)
  have h5 := (h.anti x y).1 h1
  by_cases h6 : cf x z = 0
  · have := h.trans y z x h2 (by omega)
    omega
  · omega
theorem CmpOk.le_lt (h : CmpOk cf) {x y z : Int} (h1 : cf x y ≤ 0) (h2 : cf y z < 0) : cf x z < 0 := by
  have h3 := h.trans x y z h1 (by omega)
  have h4 := h.zero (x := x) (y := z)
  have h5 := (h.anti y z).1 h2
  by_cases h6 : cf x z = 0
  · have := h.trans z x y (by omega) h1
    omega
  · omega
theorem Lt.trans (h : CmpOk cf) {x y z : Int} (h1 : Lt cf x y) (h2 : Lt cf y z) : Lt cf x z := by
  rcases h1 with h1 | ⟨h1, g1⟩
  · refine Or.inl (h.lt_le h1 ?_)
    rcases h2 with h2 | ⟨h2, _⟩ <;> omega
  · rcases h2 with h2 | ⟨h2, g2⟩
    · exact Or.inl (h.le_lt (by omega) h2)
    · refine Or.inr ⟨?_, by omega⟩
      have a1 := h.trans x y z (by omega) (by omega)
      have a2 := h.zero (x := x) (y := y)
      have a3 := h.zero (x := y) (y := z)
      have a4 := h.trans z y x (by omega) (by omega)
      have a5 := h.anti x z
      have a6 := h.anti z x
      omega
theorem Lt.irr (h : CmpOk cf) {x : Int} (h1 : Lt cf x x) : False := by
  have := h.self x
  rcases h1 with h1 | ⟨h1, g1⟩ <;> omega
theorem Lt.cross (h : CmpOk cf) {x y : Int} (hc : cf x y = 0 → x < y) : (cf y x < 0 → Lt cf y x) ∧ (¬ cf y x < 0 → Lt cf x y) := by
  have h1 := h.anti x y
  have h2 := h.anti y x
  have h3 := h.zero (x := x) (y := y)
  unfold Lt
  refine ⟨fun h => Or.inl h, fun h => ?_⟩
  by_cases h5 : cf x y = 0
  · exact Or.inr ⟨h5, hc h5⟩
  · left; omega
end
def OrdOn (cf : Int → Int → Int) (d : Nat → Int) (a b : Nat) : Prop := ∀ i j, a ≤ i → i < j → j < b → Lt cf (d i) (d j)
def Has (d : Nat → Int) (a b : Nat) (x : Int) : Prop := ∃ k, a ≤ k ∧ k < b ∧ d k = x
def SameOn (d d' : Nat → Int) (a b : Nat) : Prop := (∀ k, (k < a ∨ b ≤ k) → d' k = d k) ∧ ∀ x, Has d' a b x ↔ Has d a b x
def Cross (cf : Int → Int → Int) (d : Nat → Int) (a m b : Nat) : Prop := ∀ i j, a ≤ i → i < m → m ≤ j → j < b → cf (d i) (d j) = 0 → d i < d j
def rot (d : Nat → Int) (a m b : Nat) (k : Nat) : Int := if k < a then d k else if k < a + (b - m) then d (k + (m - a)) else if k < b then d (k - (b - m)) else d k
def swr (d : Nat → Int) (a b n : Nat) (k : Nat) : Int := if a ≤ k ∧ k < a + n then d (k + b - a) else if b ≤ k ∧ k < b + n then d (k + a - b) else d k
theorem SameOn.refl (d : Nat → Int) (a b : Nat) : SameOn d d a b := ⟨fun _ _ => rfl, fun _ => Iff.rfl⟩
theorem SameOn.trans {d e f : Nat → Int} {a b : Nat} (h1 : SameOn d e a b) (h2 : SameOn e f a b) : SameOn d f a b :=
  ⟨fun k hk => (h2.1 k hk).trans (h1.1 k hk), fun x => (h2.2 x).trans (h1.2 x)⟩
theorem SameOn.wide {d e : Nat → Int} {a b a' b' : Nat} (h : SameOn d e a b) (h1 : a' ≤ a) (h2 : b ≤ b') (_ : a ≤ b) : SameOn d e a' b' := by
  refine ⟨fun k hk => h.1 k (by omega), fun x => ⟨?_, ?_⟩⟩
  · rintro ⟨k, h3, h4, h5⟩
    by_cases hk : k < a ∨ b ≤ k
    · exact ⟨k, h3, h4, by rw [← h.1 k hk]; exact h5⟩
    · obtain ⟨k', g1, g2, g3⟩ := (h.2 x).1 ⟨k, by omega, by omega, h5⟩
      exact ⟨k', by omega, by omega, g3⟩
  · rintro ⟨k, h3, h4, h5⟩
    by_cases hk : k < a ∨ b ≤ k
    · exact ⟨k, h3, h4, by rw [h.1 k hk]; exact h5⟩
    · obtain ⟨k', g1, g2, g3⟩ := (h.2 x).2 ⟨k, by omega, by omega, h5⟩
      exact ⟨k', by omega, by omega, g3⟩
theorem SameOn.has {d e : Nat → Int} {a b k : Nat} (h : SameOn d e a b) (h1 : a ≤ k) (h2 : k < b) : ∃ k', a ≤ k' ∧ k' < b ∧ e k = d k' := by
  obtain ⟨k', g1, g2, g3⟩ := (h.2 (e k)).1 ⟨k, h1, h2, rfl⟩
  exact ⟨k', g1, g2, g3.symm⟩
theorem rot_same {d : Nat → Int} {a m b : Nat} (h1 : a ≤ m) (h2 : m ≤ b) : SameOn d (rot d a m b) a b := by
  refine ⟨fun k hk => ?_, fun x => ⟨?_, ?_⟩⟩
  · unfold rot
    rcases hk with hk | hk
    · rw [if_pos hk]
    · rw [if_neg (by omega), if_neg (by omega), if_neg (by omega)]
  · rintro ⟨k, g1, g2, g3⟩
    unfold rot at g3
    rw [if_neg (by omega), if_pos g2] at g3
    split at g3
    · exact ⟨_, by omega, by omega, g3⟩
    · exact ⟨_, by omega, by omega, g3⟩
  · rintro ⟨k, g1, g2, g3⟩
    by_cases hk : k < m
    · refine ⟨k + (b - m), by omega, by omega, ?_⟩
      unfold rot
      rw [if_neg (by omega), if_neg (by omega), if_pos (by omega), ← g3]
      congr 1
      omega
    · refine ⟨k - (m - a), by omega, by omega, ?_⟩
      unfold rot
      rw [if_neg (by omega), if_pos (by omega), ← g3]
      congr 1
      omega
theorem rot_lo {d : Nat → Int} {a m b k : Nat} (h1 : k < a) : rot d a m b k = d k := by unfold rot; rw [if_pos h1]
theorem rot_hi {d : Nat → Int} {a m b k : Nat} (h : a ≤ m ∧ m ≤ b) (h1 : b ≤ k) : rot d a m b k = d k := by unfold rot; rw [if_neg (by omega), if_neg (by omega), if_neg (by omega)]
theorem rot_fst {d : Nat → Int} {a m b k : Nat} (h1 : a ≤ k) (h2 : k < a + (b - m)) : rot d a m b k = d (k + (m - a)) := by unfold rot; rw [if_neg (by omega), if_pos h2]
theorem rot_snd {d : Nat → Int} {a m b k : Nat} (_ : a ≤ m) (h1 : a + (b - m) ≤ k) (h2 : k < b) : rot d a m b k = d (k - (b - m)) := by
  unfold rot
  by_cases h : k < a
  · omega
  · rw [if_neg h, if_neg (by omega), if_pos h2]
theorem rot_left {e : Nat → Int} {m i j : Nat} (hi : i ≤ m) (hj : j < i) : rot (swr e (m - i) m j) (m - (i - j)) m (m + j) = rot e (m - i) m (m + j) := by
  funext k
  by_cases k1 : k < m - i
  · rw [rot_lo (by omega), rot_lo k1]
    unfold swr
    rw [if_neg (by omega), if_neg (by omega)]
  · by_cases k2 : k < m - i + j
    · rw [rot_lo (by omega), rot_fst (by omega) (by omega)]
      unfold swr
      rw [if_pos (by omega)]
      congr 1
      omega
    · by_cases k3 : k < m + j
      · rw [rot_snd (a := m - i) (by omega) (by omega) k3]
        by_cases k4 : k < m - (i - j) + j
        · rw [rot_fst (by omega) (by omega)]
          unfold swr
          by_cases k5 : k + (m - (m - (i - j))) < m
          · omega
          · rw [if_neg (by omega), if_pos (by omega)]
            congr 1
            omega
        · rw [rot_snd (by omega) (by omega) k3]
          unfold swr
          rw [if_neg (by omega), if_neg (by omega)]
      · rw [rot_hi (by omega) (by omega), rot_hi (by omega) (by omega)]
        unfold swr
        rw [if_neg (by omega), if_neg (by omega)]
theorem rot_right {e : Nat → Int} {m i j : Nat} (hi : i ≤ m) (hj : i < j) : rot (swr e (m - i) (m + j - i) i) (m - i) m (m + (j - i)) = rot e (m - i) m (m + j) := by
  funext k
  by_cases k1 : k < m - i
  · rw [rot_lo (by omega), rot_lo k1]
    unfold swr
    rw [if_neg (by omega), if_neg (by omega)]
  · by_cases k2 : k < m - i + (j - i)
    · rw [rot_fst (by omega) (by omega), rot_fst (by omega) (by omega)]
      unfold swr
      rw [if_neg (by omega)]
      by_cases k5 : k + (m - (m - i)) < m + j - i
      · rw [if_neg (by omega)]
      · omega
    · by_cases k3 : k < m + (j - i)
      · rw [rot_snd (by omega) (by omega) k3]
        unfold swr
        rw [if_pos (by omega)]
        by_cases k4 : k < m - i + j
        · rw [rot_fst (by omega) (by omega)]
          congr 1
          omega
        · rw [rot_snd (by omega) (by omega) (by omega)]
          congr 1
          omega
      · rw [rot_hi (by omega) (by omega)]
        unfold swr
        rw [if_neg (by omega)]
        by_cases k4 : k < m + j
        · rw [if_pos (by omega), rot_snd (by omega) (by omega) k4]
          congr 1
          omega
        · rw [if_neg (by omega), rot_hi (by omega) (by omega)]
theorem rot_eq {e : Nat → Int} {m i : Nat} (hi : i ≤ m) : swr e (m - i) m i = rot e (m - i) m (m + i) := by
  funext k
  unfold swr
  by_cases k1 : k < m - i
  · rw [rot_lo k1, if_neg (by omega), if_neg (by omega)]
  · by_cases k2 : k < m
    · rw [if_pos (by omega), rot_fst (by omega) (by omega)]
      congr 1
      omega
    · by_cases k3 : k < m + i
      · rw [if_neg (by omega), if_pos (by omega), rot_snd (by omega) (by omega) k3]
        congr 1
        omega
      · rw [if_neg (by omega), if_neg (by omega), rot_hi (by omega) (by omega)]
theorem rot_none {d : Nat → Int} {a m b : Nat} (h : a ≤ m ∧ m ≤ b) (h1 : a = m ∨ m = b) : rot d a m b = d := by
  funext k
  unfold rot
  repeat' split
  all_goals first | rfl | (congr 1; omega)
theorem swr_zero (d : Nat → Int) (a b : Nat) : swr d a b 0 = d := by
  funext k
  unfold swr
  rw [if_neg (by omega), if_neg (by omega)]
def sw2 (d : Nat → Int) (i j : Nat) (k : Nat) : Int := if k = i then d j else if k = j then d i else d k
theorem swr_succ {d : Nat → Int} {a b n : Nat} (h : a + n < b) : sw2 (swr d a b n) (a + n) (b + n) = swr d a b (n + 1) := by
  funext k
  unfold sw2
  by_cases k1 : k = a + n
  · subst k1
    rw [if_pos rfl]
    unfold swr
    rw [if_neg (by omega), if_neg (by omega), if_pos (by omega)]
    congr 1
    omega
  · rw [if_neg k1]
    by_cases k2 : k = b + n
    · subst k2
      rw [if_pos rfl]
      unfold swr
      rw [if_neg (by omega), if_neg (by omega)]
      by_cases k3 : a ≤ b + n ∧ b + n < a + (n + 1)
      · omega
      · rw [if_neg k3, if_pos (by omega)]
        congr 1
        omega
    · rw [if_neg k2]
      unfold swr
      by_cases k3 : a ≤ k ∧ k < a + n
      · rw [if_pos k3, if_pos (by omega)]
      · have q : ¬ (a ≤ k ∧ k < a + (n + 1)) := by omega
        rw [if_neg k3, if_neg q]
        by_cases k4 : b ≤ k ∧ k < b + n
        · rw [if_pos k4, if_pos (by omega)]
        · have q2 : ¬ (b ≤ k ∧ k < b + (n + 1)) := by omega
          rw [if_neg k4, if_neg q2]
theorem rot_down {d : Nat → Int} {j i : Nat} (h : j + 1 ≤ i) : sw2 (rot d (j + 1) i (i + 1)) (j + 1) j = rot d j i (i + 1) := by
  funext k
  unfold sw2
  by_cases k1 : k = j + 1
  · subst k1
    rw [if_pos rfl, rot_lo (by omega), rot_snd (by omega) (by omega) (by omega)]
    congr 1
    omega
  · rw [if_neg k1]
    by_cases k2 : k = j
    · subst k2
      rw [if_pos rfl, rot_fst (by omega) (by omega), rot_fst (by omega) (by omega)]
      congr 1
      omega
    · rw [if_neg k2]
      by_cases k3 : k < j
      · rw [rot_lo (by omega), rot_lo k3]
      · by_cases k4 : k < i + 1
        · rw [rot_snd (by omega) (by omega) k4, rot_snd (by omega) (by omega) k4]
        · rw [rot_hi (by omega) (by omega), rot_hi (by omega) (by omega)]
theorem rot_up {d : Nat → Int} {a k0 : Nat} (h : a ≤ k0) : sw2 (rot d a (a + 1) (k0 + 1)) k0 (k0 + 1) = rot d a (a + 1) (k0 + 2) := by
  funext k
  unfold sw2
  by_cases k1 : k = k0
  · subst k1
    rw [if_pos rfl, rot_hi (by omega) (by omega), rot_fst (by omega) (by omega)]
    congr 1
    omega
  · rw [if_neg k1]
    by_cases k2 : k = k0 + 1
    · subst k2
      rw [if_pos rfl, rot_snd (by omega) (by omega) (by omega), rot_snd (by omega) (by omega) (by omega)]
      congr 1
      omega
    · rw [if_neg k2]
      by_cases k3 : k < a
      · rw [rot_lo k3, rot_lo k3]
      · by_cases k4 : k < k0
        · rw [rot_fst (by omega) (by omega), rot_fst (by omega) (by omega)]
        · rw [rot_hi (by omega) (by omega), rot_hi (by omega) (by omega)]
end Go.Proofs.YtmiimpmfkjcjlaaGreat
