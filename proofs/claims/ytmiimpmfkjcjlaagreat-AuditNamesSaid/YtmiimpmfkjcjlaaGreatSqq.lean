/- The reference of package seq: Apply, of sets, rows and tables; every type. -/
import Derived.Test.YtmiimpmfkjcjlaaGreatSqp
namespace Go.Proofs.YtmiimpmfkjcjlaaGreat
open Go.RowKit
attribute [local go_sem] run_store_fn run_store_nilfn

theorem sl_out {w : World} {A : Option Addr} {n c b : Nat} {xs : List Int} (h : SlW w (.slice A n c) xs) (ho : OutOf b (.slice A n c)) (o : Nat) (s : Option Nat) (u : Value) : SlW (w.setCell ⟨b, o, s⟩ u) (.slice A n c) xs := by
  obtain ⟨A', c', hA, h1, h2, h3⟩ := h
  refine ⟨A', c', hA, h1, h2, fun i x hx => ?_⟩
  obtain ⟨b', o', rfl, hb, hc⟩ := h3 i x hx
  cases hA
  have hne : b' ≠ b := ho _ _ _ rfl _ rfl
  exact ⟨b', o', rfl, by simpa [World.setCell] using hb, hc.of_block (by simp [World.setCell, Array.getElem?_modify, Ne.symm hne])⟩

set_option maxRecDepth 100000 in
set_option maxHeartbeats 4000000 in
theorem refApply_4 (kind a : Int) (A : Option Addr) (c : Nat) (x : Int) (w : World) (h : SlW w (.slice A 1 c) [x]) (hk : kind = 0 ∨ kind = 1 ∨ kind = 2) (hx : U64 x) (ha : U64 a) :
    Calls Tryz.prog 155 #[.int .i64 4, .slice A 1 c, .int .i64 kind, .int .u64 a] w (RefPost 4 [x] kind a w) := by
  obtain ⟨i0, hi, hz0, hz1, hz2⟩ := info_parts info_word
  go_enter Tryz.func155, Tryz.ntmps155
  go_wp2_with (at_builtin; refine wpList_append_sl (kk := .u64) rfl _ _ 24 rfl (w.heap.size + 1) 25 i0 (.int .u64 0) 8 Tryz.underlying24 hi hz0 hz1 hz2 rfl _ 0 [] rfl (own_empty w) A _ c [x] rfl ((h.alloc _).alloc _) (by simp; unfold maxLen; omega) (by simp) (by simp) ?_; intro v5 w5 hown5 hgrow _; have hown6 : w5.ownsRow (w.heap.size + 1) 25 1 v5 1 [.int .u64 x] := (by simpa using hown5); have hB5 : Below (w.heap.size + 1) (doneWorld w) w5 := (((Below.refl _ _).alloc (by simp) _).grown hgrow (by simp) (fun k hk => (by cases hk; exact Nat.le_refl _))); obtain ⟨g, cap, rfl⟩ := own_lit1 hown6; have hg := hown6.lt g rfl; have hne : w.heap.size ≠ g := (by omega); have hs5 := sl_own1 hown6; clear hown5 hgrow)
  refine (refSet_any _ x kind a _ hs5 hx.1 hx.2 ha.1 ha.2 hk).mono ?_
  rintro e w6 ⟨u, rfl, hs6, hb6, ho⟩
  have hou := ho w.heap.size (by omega) (outOf_new hne)
  have hB6 : Below (w.heap.size + 1) (doneWorld w) w6 := hB5.trans (hb6.mono (by omega))
  obtain ⟨z0, z1, z2, f0, f1, f2, hz5⟩ := cells3 (kept3 hB6)
  have hBB : Below w.heap.size w w6 := ((Below.refl _ w).alloc (Nat.le_refl _) _).trans (hB6.mono (by omega))
  obtain ⟨E, hE⟩ : ∃ E, setE a = E := ⟨_, rfl⟩
  obtain ⟨V, hV⟩ : ∃ V, setV x kind a = V := ⟨_, rfl⟩
  obtain ⟨L, hL⟩ : ∃ L, setL x kind a = L := ⟨_, rfl⟩
  rw [hE, hV]
  rw [hL] at hs6
  have HE := hide hE
  have HV := hide hV
  have HL := hide hL
  have hs6' := hs6
  obtain ⟨A6, c6, rfl, _, _, _⟩ := hs6'
  clear ho hB6 hB5 hb6 hE hV hL
  go_wp2
  refine bodyPost_ret (v := .agg #[.slice A6 L.length c6, .int .i64 E, .int .u64 V]) (by simp [results, Tryz.results155, go_sem, z0, z1, z2]) rfl (refPost_mk (L := L) HE.out HV.out HL.out ?_ ?_)
  · repeat' (first | with_reducible exact hs6 | with_reducible refine sl_out ?_ hou _ _ _ | with_reducible refine Sl.alloc ?_ _)
  · repeat' (first | with_reducible exact hBB | with_reducible refine Below.drew ?_ | with_reducible refine Below.alloc ?_ ?_ _ | with_reducible refine Below.setCell ?_ ?_ _ | omega | (simp; done) | (simp; omega))

set_option maxRecDepth 100000 in
set_option maxHeartbeats 4000000 in
theorem refApply_row (n kind a : Int) (p : Nat) (A : Option Addr) (c : Nat) (xs : List Int) (w : World) (h : SlW w (.slice A xs.length c) xs) (hk : kind = 0 ∨ kind = 1 ∨ kind = 2) (hl : xs.length ≤ 8) (hn : n = 2 ∧ p = xs.length - 1 ∨ n = 3 ∧ p = 0) :
    Calls Tryz.prog 155 #[.int .i64 n, .slice A xs.length c, .int .i64 kind, .int .u64 a] w (RefPost n xs kind a w) := by
  obtain ⟨i0, hi, hz0, hz1, hz2⟩ := info_parts info_word
  obtain ⟨E, hE⟩ : ∃ E, rowE xs kind = E := ⟨_, rfl⟩
  obtain ⟨V, hV⟩ : ∃ V, rowV p xs kind = V := ⟨_, rfl⟩
  obtain ⟨L, hL⟩ : ∃ L, rowL p xs kind a = L := ⟨_, rfl⟩
  have HE : Hid (seqE n xs kind a = E) := by show _ = _; rw [← hE]; rcases hn with ⟨rfl, rfl⟩ | ⟨rfl, rfl⟩ <;> rfl
  have HV : Hid (seqV n xs kind a = V) := by show _ = _; rw [← hV]; rcases hn with ⟨rfl, rfl⟩ | ⟨rfl, rfl⟩ <;> rfl
  have HL : Hid (seqL n xs kind a = L) := by show _ = _; rw [← hL]; rcases hn with ⟨rfl, rfl⟩ | ⟨rfl, rfl⟩ <;> rfl
  have R := fun n' v W h h1 => refRow_any (w.heap.size + 1) n' v xs n kind a p W h h1
  rw [hE, hV, hL] at R
  have HR := hide R
  clear R hE hV hL
  have hn' : n = 2 ∨ n = 3 := by omega
  have HN := hide hn
  clear hn
  rcases hn' with rfl | rfl
  all_goals
    go_enter Tryz.func155, Tryz.ntmps155
    go_wp2_with (at_builtin; refine wpList_append_sl (kk := .u64) rfl _ _ 24 rfl (w.heap.size + 1) 25 i0 (.int .u64 0) 8 Tryz.underlying24 hi hz0 hz1 hz2 rfl _ 0 [] rfl (own_empty w) A _ c xs rfl ((h.alloc _).alloc _) (by unfold maxLen; omega) (by omega) (by simp) ?_; intro v5 w5 hown5 hgrow _; have hown6 : w5.ownsRow (w.heap.size + 1) 25 1 v5 xs.length (xs.map (Value.int .u64)) := (by simpa using hown5); have hB5 : Below (w.heap.size + 1) (doneWorld w) w5 := (((Below.refl _ _).alloc (by simp) _).grown hgrow (by simp) (fun k hk => (by cases hk; exact Nat.le_refl _))); have hz6 : w.heap.size + 1 ≤ w5.heap.size := (by have := hB5.size; simpa using this); clear hown5 hgrow)
    refine (HR.out xs.length _ _ hown6 rfl hl hk HN.out hz6).mono ?_
    rintro e w6 ⟨u, rfl, hs6, hb6, ho⟩
    have hou := ho w.heap.size (by omega)
    have hB6 : Below (w.heap.size + 1) (doneWorld w) w6 := hB5.trans hb6
    obtain ⟨z0, z1, z2, f0, f1, f2, hz5⟩ := cells3 (kept3 hB6)
    have hBB : Below w.heap.size w w6 := ((Below.refl _ w).alloc (Nat.le_refl _) _).trans (hB6.mono (by omega))
    have hs6' := hs6
    obtain ⟨A6, c6, rfl, _, _, _⟩ := hs6'
    clear ho hB6 hB5 hb6 hown6
    go_wp2
    refine bodyPost_ret (v := .agg #[.slice A6 L.length c6, .int .i64 E, .int .u64 V]) (by simp [results, Tryz.results155, go_sem, z0, z1, z2]) rfl (refPost_mk (L := L) HE.out HV.out HL.out ?_ ?_)
    · repeat' (first | with_reducible exact hs6 | with_reducible refine sl_out ?_ hou _ _ _ | with_reducible refine Sl.alloc ?_ _)
    · repeat' (first | with_reducible exact hBB | with_reducible refine Below.drew ?_ | with_reducible refine Below.alloc ?_ ?_ _ | with_reducible refine Below.setCell ?_ ?_ _ | omega | (simp; done) | (simp; omega))
end Go.Proofs.YtmiimpmfkjcjlaaGreat
