import Derived.Test.YtmiimpmfkjcjlaaGreatBun6
import Derived.Test.YtmiimpmfkjcjlaaGreatBun5
namespace Go.Proofs.YtmiimpmfkjcjlaaGreat
open Go.RowKit
attribute [local go_sem] run_store_fn run_store_nilfn
def RefPost (n : Int) (xs : List Int) (kind a : Int) (w : World) (e : Ending) (w' : World) : Prop :=
  ∃ u, e = .returned (.agg #[u, .int .i64 (seqE n xs kind a), .int .u64 (seqV n xs kind a)]) ∧ SlW w' u (seqL n xs kind a) ∧ Below w.heap.size w w' ∧ ∀ b, b < w.heap.size → OutOf b u
theorem refPost_mk {n : Int} {xs : List Int} {kind a : Int} {w w' : World} {u : Value} {E V : Int} {L : List Int} (hE : seqE n xs kind a = E) (hV : seqV n xs kind a = V) (hL : seqL n xs kind a = L) (hs : SlW w' u L) (hb : Below w.heap.size w w') (ho : ∀ b, b < w.heap.size → OutOf b u) :
    RefPost n xs kind a w (.returned (.agg #[u, .int .i64 E, .int .u64 V])) w' := by
  subst hE hV hL
  exact ⟨u, rfl, hs, hb, ho⟩
abbrev doneWorld (w : World) : World := w.alloc (.cells #[.slice none 0 0, .int .i64 0, .int .u64 0] 208)
theorem own_empty (w : World) : ((doneWorld w).alloc (.cells #[] 25)).ownsRow (w.heap.size + 1) 25 1 (.slice (some ⟨w.heap.size + 1, 0, none⟩) 0 0) 0 (([] : List Int).map (Value.int .u64)) := by
  have := World.ownsRow_made (doneWorld w) (base := w.heap.size + 1) (e := 25) (size := 1) #[] 0 (by simp) (Nat.zero_le _) rfl
  simpa using this
theorem own_lit1 {w : World} {B : Nat} {v : Value} {l : List Value} (h : w.ownsRow B 25 1 v 1 l) : ∃ g cap, v = .slice (some ⟨g, 0, none⟩) 1 cap :=
  ownsRow_succ (show w.ownsRow B 25 1 v (0 + 1) l from h)
theorem sl_own1 {w : World} {B g cap : Nat} {x : Int} (h : w.ownsRow B 25 1 (.slice (some ⟨g, 0, none⟩) 1 cap) 1 [.int .u64 x]) : SlW w (.slice (some ⟨g, 0, none⟩) 1 cap) [x] :=
  wrow_sl (B := B) (l := [x]) h (by simp [maxLen])
set_option maxRecDepth 100000 in
set_option maxHeartbeats 4000000 in
theorem refApply_0 (kind a : Int) (A : Option Addr) (c : Nat) (x : Int) (w : World) (h : SlW w (.slice A 1 c) [x]) (hk : kind = 0 ∨ kind = 1) :
    Calls Tryz.prog 155 #[.int .i64 0, .slice A 1 c, .int .i64 kind, .int .u64 a] w (RefPost 0 [x] kind a w) := by
  obtain ⟨i0, hi, hz0, hz1, hz2⟩ := info_parts info_word
  rcases hk with rfl | rfl
  · go_enter Tryz.func155, Tryz.ntmps155
    go_wp2_with (at_builtin; go_loud (refine wpList_append_sl (kk := .u64) rfl _ _ 24 rfl (w.heap.size + 1) 25 i0 (.int .u64 0) 8 Tryz.underlying24 hi hz0 hz1 hz2 rfl _ 0 [] rfl (own_empty w) A _ c [x] rfl ((h.alloc _).alloc _) (by simp; unfold maxLen; omega) (by simp) (by simp) ?_; intro v5 w5 hown5 hgrow _; have hown6 : w5.ownsRow (w.heap.size + 1) 25 1 v5 1 [.int .u64 x] := (by simpa using hown5); have hB5 : Below (w.heap.size + 1) (doneWorld w) w5 := (((Below.refl _ _).alloc (by simp) _).grown hgrow (by simp) (fun k hk => (by cases hk; exact Nat.le_refl _))); obtain ⟨z0, z1, z2, f0, f1, f2, hz5⟩ := cells3 (kept3 hB5); obtain ⟨g, cap, rfl⟩ := own_lit1 hown6; have g0 : w5.cell? ⟨g, 0, none⟩ = some (.int .u64 x) := hown6.cellAt 0 (by decide); have hg := hown6.lt g rfl; have hne : w.heap.size ≠ g := (by omega); have hs5 := sl_own1 hown6; have hBB : Below w.heap.size w w5 := (((Below.refl _ w).alloc (Nat.le_refl _) _).trans (hB5.mono (by omega))); clear hown5 hgrow hB5))
    refine bodyPost_ret (v := .agg #[.slice (some ⟨g, 0, none⟩) 1 cap, .int .i64 0, .int .u64 x]) (by simp [results, Tryz.results155, go_sem, z0, z1, z2]) rfl (refPost_mk (L := [x]) rfl rfl rfl ?_ ?_ (fun b hb => by first | exact hoa b hb | exact outOf_new (by have := hBB.size; omega)))
    · repeat' (first | with_reducible exact hs5 | with_reducible refine sl_setCell ?_ _ _ ?_ | with_reducible refine Sl.alloc ?_ _ | exact hne)
    · repeat' (first | with_reducible exact hBB | with_reducible refine Below.drew ?_ | with_reducible refine Below.alloc ?_ ?_ _ | with_reducible refine Below.setCell ?_ ?_ _ | omega | (simp; done) | (simp; omega))
  · go_enter Tryz.func155, Tryz.ntmps155
    go_wp2_with (at_builtin; go_loud (refine wpList_append_sl (kk := .u64) rfl _ _ 24 rfl (w.heap.size + 1) 25 i0 (.int .u64 0) 8 Tryz.underlying24 hi hz0 hz1 hz2 rfl _ 0 [] rfl (own_empty w) A _ c [x] rfl ((h.alloc _).alloc _) (by simp; unfold maxLen; omega) (by simp) (by simp) ?_; intro v5 w5 hown5 hgrow _; have hown6 : w5.ownsRow (w.heap.size + 1) 25 1 v5 1 [.int .u64 x] := (by simpa using hown5); have hB5 : Below (w.heap.size + 1) (doneWorld w) w5 := (((Below.refl _ _).alloc (by simp) _).grown hgrow (by simp) (fun k hk => (by cases hk; exact Nat.le_refl _))); obtain ⟨z0, z1, z2, f0, f1, f2, hz5⟩ := cells3 (kept3 hB5); obtain ⟨g, cap, rfl⟩ := own_lit1 hown6; have g0 : w5.cell? ⟨g, 0, none⟩ = some (.int .u64 x) := hown6.cellAt 0 (by decide); have hg := hown6.lt g rfl; have hne : w.heap.size ≠ g := (by omega); have hs5 := sl_own1 hown6; have hBB : Below w.heap.size w w5 := (((Below.refl _ w).alloc (Nat.le_refl _) _).trans (hB5.mono (by omega))); clear hown5 hgrow hB5))
    refine bodyPost_ret (v := .agg #[.slice (some ⟨w5.heap.size, 0, none⟩) 1 1, .int .i64 0, .int .u64 x]) (by simp [results, Tryz.results155, go_sem, z0, z1, z2, hz5]) rfl (refPost_mk (L := [a]) rfl rfl rfl (sl_one (by go_simp; done) (by simp <;> omega)) ?_ (fun b hb => by first | exact hoa b hb | exact outOf_new (by have := hBB.size; omega)))
    repeat' (first | with_reducible exact hBB | with_reducible refine Below.drew ?_ | with_reducible refine Below.alloc ?_ ?_ _ | with_reducible refine Below.setCell ?_ ?_ _ | omega | (simp; done) | (simp; omega))
set_option maxRecDepth 100000 in
set_option maxHeartbeats 4000000 in
theorem refApply_1 (kind a : Int) (A : Option Addr) (c : Nat) (x : Int) (w : World) (h : SlW w (.slice A 1 c) [x]) (hk : kind = 0 ∨ kind = 1) :
    Calls Tryz.prog 155 #[.int .i64 1, .slice A 1 c, .int .i64 kind, .int .u64 a] w (RefPost 1 [x] kind a w) := by
  obtain ⟨i0, hi, hz0, hz1, hz2⟩ := info_parts info_word
  rcases hk with rfl | rfl
  · go_enter Tryz.func155, Tryz.ntmps155
    go_wp2_with (at_builtin; go_loud (refine wpList_append_sl (kk := .u64) rfl _ _ 24 rfl (w.heap.size + 1) 25 i0 (.int .u64 0) 8 Tryz.underlying24 hi hz0 hz1 hz2 rfl _ 0 [] rfl (own_empty w) A _ c [x] rfl ((h.alloc _).alloc _) (by simp; unfold maxLen; omega) (by simp) (by simp) ?_; intro v5 w5 hown5 hgrow _; have hown6 : w5.ownsRow (w.heap.size + 1) 25 1 v5 1 [.int .u64 x] := (by simpa using hown5); have hB5 : Below (w.heap.size + 1) (doneWorld w) w5 := (((Below.refl _ _).alloc (by simp) _).grown hgrow (by simp) (fun k hk => (by cases hk; exact Nat.le_refl _))); obtain ⟨z0, z1, z2, f0, f1, f2, hz5⟩ := cells3 (kept3 hB5); obtain ⟨g, cap, rfl⟩ := own_lit1 hown6; have g0 : w5.cell? ⟨g, 0, none⟩ = some (.int .u64 x) := hown6.cellAt 0 (by decide); have hg := hown6.lt g rfl; have hne : w.heap.size ≠ g := (by omega); have hs5 := sl_own1 hown6; have hBB : Below w.heap.size w w5 := (((Below.refl _ w).alloc (Nat.le_refl _) _).trans (hB5.mono (by omega))); clear hown5 hgrow hB5))
    refine bodyPost_ret (v := .agg #[.slice (some ⟨g, 0, none⟩) 1 cap, .int .i64 0, .int .u64 x]) (by simp [results, Tryz.results155, go_sem, z0, z1, z2]) rfl (refPost_mk (L := [x]) rfl rfl rfl ?_ ?_ (fun b hb => by first | exact hoa b hb | exact outOf_new (by have := hBB.size; omega)))
    · repeat' (first | with_reducible exact hs5 | with_reducible refine sl_setCell ?_ _ _ ?_ | with_reducible refine Sl.alloc ?_ _ | exact hne)
    · repeat' (first | with_reducible exact hBB | with_reducible refine Below.drew ?_ | with_reducible refine Below.alloc ?_ ?_ _ | with_reducible refine Below.setCell ?_ ?_ _ | omega | (simp; done) | (simp; omega))
  · go_enter Tryz.func155, Tryz.ntmps155
    go_wp2_with (at_builtin; go_loud (refine wpList_append_sl (kk := .u64) rfl _ _ 24 rfl (w.heap.size + 1) 25 i0 (.int .u64 0) 8 Tryz.underlying24 hi hz0 hz1 hz2 rfl _ 0 [] rfl (own_empty w) A _ c [x] rfl ((h.alloc _).alloc _) (by simp; unfold maxLen; omega) (by simp) (by simp) ?_; intro v5 w5 hown5 hgrow _; have hown6 : w5.ownsRow (w.heap.size + 1) 25 1 v5 1 [.int .u64 x] := (by simpa using hown5); have hB5 : Below (w.heap.size + 1) (doneWorld w) w5 := (((Below.refl _ _).alloc (by simp) _).grown hgrow (by simp) (fun k hk => (by cases hk; exact Nat.le_refl _))); obtain ⟨z0, z1, z2, f0, f1, f2, hz5⟩ := cells3 (kept3 hB5); obtain ⟨g, cap, rfl⟩ := own_lit1 hown6; have g0 : w5.cell? ⟨g, 0, none⟩ = some (.int .u64 x) := hown6.cellAt 0 (by decide); have hg := hown6.lt g rfl; have hne : w.heap.size ≠ g := (by omega); have hs5 := sl_own1 hown6; have hBB : Below w.heap.size w w5 := (((Below.refl _ w).alloc (Nat.le_refl _) _).trans (hB5.mono (by omega))); clear hown5 hgrow hB5))
    have hne' : g ≠ w.heap.size := by omega
    refine wp_region_seq (fun w' => w'.cell? ⟨g, 0, none⟩ = some (.int .u64 x)) (.take 0 <| .take 1 <| .take 2 <| .take 3 <| .take 4 <| .take 6 <| .take 7 <| .take 8 <| .run 5 <| .take 9 <| .run 10 <| .done) (by kernel_rfl) (by kernel_rfl) (by kernel_rfl) (by go_simp) ?_
    repeat (refine seq_take (v := ?_) rfl (by rfl) ?_ ?_; rotate_left; (focus (intro wS hS; go_simp; exact rfl)); simp only [Act.put, sqA, sqB, sqC])
    (refine seq_run rfl (by rfl) (fun K hK => ?_); go_simp)
    refine hK _ _ (by go_simp) ?_
    clear hK K
    repeat (refine seq_take (v := ?_) rfl (by rfl) ?_ ?_; rotate_left; (focus (intro wS hS; go_simp; exact rfl)); simp only [Act.put, sqA, sqB, sqC])
    (refine seq_run rfl (by rfl) (fun K hK => ?_); go_simp)
    refine hK _ _ (by go_simp) ?_
    clear hK K
    refine seq_nil ?_
    go_wp2
    refine bodyPost_ret (v := .agg #[.slice (some ⟨w5.heap.size, 0, none⟩) 1 1, .int .i64 0, .int .u64 x]) (by simp [results, Tryz.results155, go_sem, z0, z1, z2, hz5]) rfl (refPost_mk (L := [IntKind.u64.wrap (x + a)]) rfl rfl rfl (sl_one (by go_simp; done) (by simp <;> omega)) ?_ (fun b hb => by first | exact hoa b hb | exact outOf_new (by have := hBB.size; omega)))
    repeat' (first | with_reducible exact hBB | with_reducible refine Below.drew ?_ | with_reducible refine Below.alloc ?_ ?_ _ | with_reducible refine Below.setCell ?_ ?_ _ | omega | (simp; done) | (simp; omega))
set_option maxRecDepth 100000 in
set_option maxHeartbeats 4000000 in
theorem refApply_5 (kind a : Int) (A : Option Addr) (c : Nat) (x : Int) (w : World) (h : SlW w (.slice A 1 c) [x]) (hk : kind = 0 ∨ kind = 1) :
    Calls Tryz.prog 155 #[.int .i64 5, .slice A 1 c, .int .i64 kind, .int .u64 a] w (RefPost 5 [x] kind a w) := by
  obtain ⟨i0, hi, hz0, hz1, hz2⟩ := info_parts info_word
  rcases hk with rfl | rfl
  · go_enter Tryz.func155, Tryz.ntmps155
    go_wp2_with (at_builtin; go_loud (refine wpList_append_sl (kk := .u64) rfl _ _ 24 rfl (w.heap.size + 1) 25 i0 (.int .u64 0) 8 Tryz.underlying24 hi hz0 hz1 hz2 rfl _ 0 [] rfl (own_empty w) A _ c [x] rfl ((h.alloc _).alloc _) (by simp; unfold maxLen; omega) (by simp) (by simp) ?_; intro v5 w5 hown5 hgrow _; have hown6 : w5.ownsRow (w.heap.size + 1) 25 1 v5 1 [.int .u64 x] := (by simpa using hown5); have hB5 : Below (w.heap.size + 1) (doneWorld w) w5 := (((Below.refl _ _).alloc (by simp) _).grown hgrow (by simp) (fun k hk => (by cases hk; exact Nat.le_refl _))); obtain ⟨z0, z1, z2, f0, f1, f2, hz5⟩ := cells3 (kept3 hB5); obtain ⟨g, cap, rfl⟩ := own_lit1 hown6; have g0 : w5.cell? ⟨g, 0, none⟩ = some (.int .u64 x) := hown6.cellAt 0 (by decide); have hg := hown6.lt g rfl; have hne : w.heap.size ≠ g := (by omega); have hs5 := sl_own1 hown6; have hBB : Below w.heap.size w w5 := (((Below.refl _ w).alloc (Nat.le_refl _) _).trans (hB5.mono (by omega))); clear hown5 hgrow hB5))
    refine bodyPost_ret (v := .agg #[.slice (some ⟨g, 0, none⟩) 1 cap, .int .i64 0, .int .u64 x]) (by simp [results, Tryz.results155, go_sem, z0, z1, z2]) rfl (refPost_mk (L := [x]) rfl rfl rfl ?_ ?_ (fun b hb => by first | exact hoa b hb | exact outOf_new (by have := hBB.size; omega)))
    · repeat' (first | with_reducible exact hs5 | with_reducible refine sl_setCell ?_ _ _ ?_ | with_reducible refine Sl.alloc ?_ _ | exact hne)
    · repeat' (first | with_reducible exact hBB | with_reducible refine Below.drew ?_ | with_reducible refine Below.alloc ?_ ?_ _ | with_reducible refine Below.setCell ?_ ?_ _ | omega | (simp; done) | (simp; omega))
  · by_cases hax : x < a
    · have hL : seqL 5 [x] 1 a = [a] := by show [max x a] = [a]; rw [show max x a = a by omega]
      have HL := hide hL
      clear hL
      go_enter Tryz.func155, Tryz.ntmps155
      go_wp2_with (at_builtin; go_loud (refine wpList_append_sl (kk := .u64) rfl _ _ 24 rfl (w.heap.size + 1) 25 i0 (.int .u64 0) 8 Tryz.underlying24 hi hz0 hz1 hz2 rfl _ 0 [] rfl (own_empty w) A _ c [x] rfl ((h.alloc _).alloc _) (by simp; unfold maxLen; omega) (by simp) (by simp) ?_; intro v5 w5 hown5 hgrow _; have hown6 : w5.ownsRow (w.heap.size + 1) 25 1 v5 1 [.int .u64 x] := (by simpa using hown5); have hB5 : Below (w.heap.size + 1) (doneWorld w) w5 := (((Below.refl _ _).alloc (by simp) _).grown hgrow (by simp) (fun k hk => (by cases hk; exact Nat.le_refl _))); obtain ⟨z0, z1, z2, f0, f1, f2, hz5⟩ := cells3 (kept3 hB5); obtain ⟨g, cap, rfl⟩ := own_lit1 hown6; have g0 : w5.cell? ⟨g, 0, none⟩ = some (.int .u64 x) := hown6.cellAt 0 (by decide); have hg := hown6.lt g rfl; have hne : w.heap.size ≠ g := (by omega); have hs5 := sl_own1 hown6; have hBB : Below w.heap.size w w5 := (((Below.refl _ w).alloc (Nat.le_refl _) _).trans (hB5.mono (by omega))); clear hown5 hgrow hB5))
      refine bodyPost_ret (v := .agg #[.slice (some ⟨w5.heap.size, 0, none⟩) 1 1, .int .i64 0, .int .u64 x]) (by simp [results, Tryz.results155, go_sem, z0, z1, z2, hz5]) rfl (refPost_mk (L := [a]) rfl rfl HL.out (sl_one (by go_simp; done) (by simp <;> omega)) ?_ (fun b hb => by first | exact hoa b hb | exact outOf_new (by have := hBB.size; omega)))
      repeat' (first | with_reducible exact hBB | with_reducible refine Below.drew ?_ | with_reducible refine Below.alloc ?_ ?_ _ | with_reducible refine Below.setCell ?_ ?_ _ | omega | (simp; done) | (simp; omega))
    · have hL : seqL 5 [x] 1 a = [x] := by show [max x a] = [x]; rw [show max x a = x by omega]
      have HL := hide hL
      clear hL
      go_enter Tryz.func155, Tryz.ntmps155
      go_wp2_with (at_builtin; go_loud (refine wpList_append_sl (kk := .u64) rfl _ _ 24 rfl (w.heap.size + 1) 25 i0 (.int .u64 0) 8 Tryz.underlying24 hi hz0 hz1 hz2 rfl _ 0 [] rfl (own_empty w) A _ c [x] rfl ((h.alloc _).alloc _) (by simp; unfold maxLen; omega) (by simp) (by simp) ?_; intro v5 w5 hown5 hgrow _; have hown6 : w5.ownsRow (w.heap.size + 1) 25 1 v5 1 [.int .u64 x] := (by simpa using hown5); have hB5 : Below (w.heap.size + 1) (doneWorld w) w5 := (((Below.refl _ _).alloc (by simp) _).grown hgrow (by simp) (fun k hk => (by cases hk; exact Nat.le_refl _))); obtain ⟨z0, z1, z2, f0, f1, f2, hz5⟩ := cells3 (kept3 hB5); obtain ⟨g, cap, rfl⟩ := own_lit1 hown6; have g0 : w5.cell? ⟨g, 0, none⟩ = some (.int .u64 x) := hown6.cellAt 0 (by decide); have hg := hown6.lt g rfl; have hne : w.heap.size ≠ g := (by omega); have hs5 := sl_own1 hown6; have hBB : Below w.heap.size w w5 := (((Below.refl _ w).alloc (Nat.le_refl _) _).trans (hB5.mono (by omega))); clear hown5 hgrow hB5))
      refine bodyPost_ret (v := .agg #[.slice (some ⟨g, 0, none⟩) 1 cap, .int .i64 0, .int .u64 x]) (by simp [results, Tryz.results155, go_sem, z0, z1, z2]) rfl (refPost_mk (L := [x]) rfl rfl HL.out ?_ ?_ (fun b hb => by first | exact hoa b hb | exact outOf_new (by have := hBB.size; omega)))
      · repeat' (first | with_reducible exact hs5 | with_reducible refine sl_setCell ?_ _ _ ?_ | with_reducible refine Sl.alloc ?_ _ | exact hne)
      · repeat' (first | with_reducible exact hBB | with_reducible refine Below.drew ?_ | with_reducible refine Below.alloc ?_ ?_ _ | with_reducible refine Below.setCell ?_ ?_ _ | omega | (simp; done) | (simp; omega))
set_option maxRecDepth 100000 in
set_option maxHeartbeats 4000000 in
theorem refApply_6 (kind a : Int) (A : Option Addr) (c : Nat) (x : Int) (w : World) (h : SlW w (.slice A 1 c) [x]) (hk : kind = 0 ∨ kind = 1) (ha0 : 0 ≤ a) (ha1 : a < 18446744073709551616) :
    Calls Tryz.prog 155 #[.int .i64 6, .slice A 1 c, .int .i64 kind, .int .u64 a] w (RefPost 6 [x] kind a w) := by
  obtain ⟨i0, hi, hz0, hz1, hz2⟩ := info_parts info_word
  have m0 : 0 ≤ a / 65536 := by omega
  have m1 : a / 65536 < 18446744073709551616 := by omega
  have m2 : 0 ≤ a / 65536 % 65536 := by omega
  rcases hk with rfl | rfl
  · go_enter Tryz.func155, Tryz.ntmps155
    go_wp2_with (at_builtin; go_loud (refine wpList_append_sl (kk := .u64) rfl _ _ 24 rfl (w.heap.size + 1) 25 i0 (.int .u64 0) 8 Tryz.underlying24 hi hz0 hz1 hz2 rfl _ 0 [] rfl (own_empty w) A _ c [x] rfl ((h.alloc _).alloc _) (by simp; unfold maxLen; omega) (by simp) (by simp) ?_; intro v5 w5 hown5 hgrow _; have hown6 : w5.ownsRow (w.heap.size + 1) 25 1 v5 1 [.int .u64 x] := (by simpa using hown5); have hB5 : Below (w.heap.size + 1) (doneWorld w) w5 := (((Below.refl _ _).alloc (by simp) _).grown hgrow (by simp) (fun k hk => (by cases hk; exact Nat.le_refl _))); obtain ⟨z0, z1, z2, f0, f1, f2, hz5⟩ := cells3 (kept3 hB5); obtain ⟨g, cap, rfl⟩ := own_lit1 hown6; have g0 : w5.cell? ⟨g, 0, none⟩ = some (.int .u64 x) := hown6.cellAt 0 (by decide); have hg := hown6.lt g rfl; have hne : w.heap.size ≠ g := (by omega); have hs5 := sl_own1 hown6; have hBB : Below w.heap.size w w5 := (((Below.refl _ w).alloc (Nat.le_refl _) _).trans (hB5.mono (by omega))); clear hown5 hgrow hB5))
    refine bodyPost_ret (v := .agg #[.slice (some ⟨g, 0, none⟩) 1 cap, .int .i64 0, .int .u64 x]) (by simp [results, Tryz.results155, go_sem, z0, z1, z2]) rfl (refPost_mk (L := [x]) rfl rfl rfl ?_ ?_ (fun b hb => by first | exact hoa b hb | exact outOf_new (by have := hBB.size; omega)))
    · repeat' (first | with_reducible exact hs5 | with_reducible refine sl_setCell ?_ _ _ ?_ | with_reducible refine Sl.alloc ?_ _ | exact hne)
    · repeat' (first | with_reducible exact hBB | with_reducible refine Below.drew ?_ | with_reducible refine Below.alloc ?_ ?_ _ | with_reducible refine Below.setCell ?_ ?_ _ | omega | (simp; done) | (simp; omega))
  · by_cases hax : x = a / 65536 % 65536
    · have hL : seqL 6 [x] 1 a = [a % 65536] := by show swapL x 1 a = _; unfold swapL; rw [if_neg (by decide), if_pos hax]
      have hV : seqV 6 [x] 1 a = 1 := by show swapV x 1 a = _; unfold swapV; rw [if_neg (by decide), if_pos hax]
      have e1 : (x == a / 65536 % 65536) = true := by simp [hax]
      have HL := hide hL
      have HV := hide hV
      clear hL hV hax
      go_enter Tryz.func155, Tryz.ntmps155
      go_wp2_with (at_builtin; go_loud (refine wpList_append_sl (kk := .u64) rfl _ _ 24 rfl (w.heap.size + 1) 25 i0 (.int .u64 0) 8 Tryz.underlying24 hi hz0 hz1 hz2 rfl _ 0 [] rfl (own_empty w) A _ c [x] rfl ((h.alloc _).alloc _) (by simp; unfold maxLen; omega) (by simp) (by simp) ?_; intro v5 w5 hown5 hgrow _; have hown6 : w5.ownsRow (w.heap.size + 1) 25 1 v5 1 [.int .u64 x] := (by simpa using hown5); have hB5 : Below (w.heap.size + 1) (doneWorld w) w5 := (((Below.refl _ _).alloc (by simp) _).grown hgrow (by simp) (fun k hk => (by cases hk; exact Nat.le_refl _))); obtain ⟨z0, z1, z2, f0, f1, f2, hz5⟩ := cells3 (kept3 hB5); obtain ⟨g, cap, rfl⟩ := own_lit1 hown6; have g0 : w5.cell? ⟨g, 0, none⟩ = some (.int .u64 x) := hown6.cellAt 0 (by decide); have hg := hown6.lt g rfl; have hne : w.heap.size ≠ g := (by omega); have hs5 := sl_own1 hown6; have hBB : Below w.heap.size w w5 := (((Below.refl _ w).alloc (Nat.le_refl _) _).trans (hB5.mono (by omega))); clear hown5 hgrow hB5))
      refine bodyPost_ret (v := .agg #[.slice (some ⟨w5.heap.size, 0, none⟩) 1 1, .int .i64 0, .int .u64 1]) (by simp [results, Tryz.results155, go_sem, z0, z1, z2, hz5]) rfl (refPost_mk (L := [a % 65536]) rfl HV.out HL.out (sl_one (by go_simp; done) (by simp <;> omega)) ?_ (fun b hb => by first | exact hoa b hb | exact outOf_new (by have := hBB.size; omega)))
      repeat' (first | with_reducible exact hBB | with_reducible refine Below.drew ?_ | with_reducible refine Below.alloc ?_ ?_ _ | with_reducible refine Below.setCell ?_ ?_ _ | omega | (simp; done) | (simp; omega))
    · have hL : seqL 6 [x] 1 a = [x] := by show swapL x 1 a = _; unfold swapL; rw [if_neg (by decide), if_neg hax]
      have hV : seqV 6 [x] 1 a = 0 := by show swapV x 1 a = _; unfold swapV; rw [if_neg (by decide), if_neg hax]
      have e1 : (x == a / 65536 % 65536) = false := by simp [hax]
      have HL := hide hL
      have HV := hide hV
      clear hL hV hax
      go_enter Tryz.func155, Tryz.ntmps155
      go_wp2_with (at_builtin; go_loud (refine wpList_append_sl (kk := .u64) rfl _ _ 24 rfl (w.heap.size + 1) 25 i0 (.int .u64 0) 8 Tryz.underlying24 hi hz0 hz1 hz2 rfl _ 0 [] rfl (own_empty w) A _ c [x] rfl ((h.alloc _).alloc _) (by simp; unfold maxLen; omega) (by simp) (by simp) ?_; intro v5 w5 hown5 hgrow _; have hown6 : w5.ownsRow (w.heap.size + 1) 25 1 v5 1 [.int .u64 x] := (by simpa using hown5); have hB5 : Below (w.heap.size + 1) (doneWorld w) w5 := (((Below.refl _ _).alloc (by simp) _).grown hgrow (by simp) (fun k hk => (by cases hk; exact Nat.le_refl _))); obtain ⟨z0, z1, z2, f0, f1, f2, hz5⟩ := cells3 (kept3 hB5); obtain ⟨g, cap, rfl⟩ := own_lit1 hown6; have g0 : w5.cell? ⟨g, 0, none⟩ = some (.int .u64 x) := hown6.cellAt 0 (by decide); have hg := hown6.lt g rfl; have hne : w.heap.size ≠ g := (by omega); have hs5 := sl_own1 hown6; have hBB : Below w.heap.size w w5 := (((Below.refl _ w).alloc (Nat.le_refl _) _).trans (hB5.mono (by omega))); clear hown5 hgrow hB5))
      refine bodyPost_ret (v := .agg #[.slice (some ⟨g, 0, none⟩) 1 cap, .int .i64 0, .int .u64 0]) (by simp [results, Tryz.results155, go_sem, z0, z1, z2]) rfl (refPost_mk (L := [x]) rfl HV.out HL.out ?_ ?_ (fun b hb => by first | exact hoa b hb | exact outOf_new (by have := hBB.size; omega)))
      · repeat' (first | with_reducible exact hs5 | with_reducible refine sl_setCell ?_ _ _ ?_ | with_reducible refine Sl.alloc ?_ _ | exact hne)
      · repeat' (first | with_reducible exact hBB | with_reducible refine Below.drew ?_ | with_reducible refine Below.alloc ?_ ?_ _ | with_reducible refine Below.setCell ?_ ?_ _ | omega | (simp; done) | (simp; omega))
end Go.Proofs.YtmiimpmfkjcjlaaGreat

namespace Go.Proofs.YtmiimpmfkjcjlaaGreat
open Go.RowKit
attribute [local go_sem] run_store_fn run_store_nilfn
theorem sl_out {w : World} {A : Option Addr} {n c b : Nat} {xs : List Int} (h : SlW w (.slice A n c) xs) (ho : OutOf b (.slice A n c)) (o : Nat) (s : Option Nat) (u : Value) : SlW (w.setCell ⟨b, o, s⟩ u) (.slice A n c) xs := by
  obtain ⟨A', c', hA, h1, h2, h3⟩ := h
  refine ⟨A', c', hA, h1, h2, fun i x hx => ?_⟩
  obtain ⟨b', o', rfl, hb, hc⟩ := h3 i x hx
  cases hA
  have hne : b' ≠ b := ho _ _ _ rfl _ rfl
  exact ⟨b', o', rfl, by simpa [World.setCell] using hb, hc.of_block (by simp [World.setCell, Array.getElem?_modify, Ne.symm hne])⟩
set_option maxRecDepth 100000 in
set_option maxHeartbeats 4000000 in
theorem refApply_4 (kind a : Int) (A : Option Addr) (c : Nat) (x : Int) (w : World) (h : SlW w (.slice A 1 c) [x]) (hk : kind = 0 ∨ kind = 1 ∨ kind = 2) (hx : U64 x) (ha : U64 a) :
    Calls Tryz.prog 155 #[.int .i64 4, .slice A 1 c, .int .i64 kind, .int .u64 a] w (RefPost 4 [x] kind a w) := by
  obtain ⟨i0, hi, hz0, hz1, hz2⟩ := info_parts info_word
  go_enter Tryz.func155, Tryz.ntmps155
  go_wp2_with (at_builtin; refine wpList_append_sl (kk := .u64) rfl _ _ 24 rfl (w.heap.size + 1) 25 i0 (.int .u64 0) 8 Tryz.underlying24 hi hz0 hz1 hz2 rfl _ 0 [] rfl (own_empty w) A _ c [x] rfl ((h.alloc _).alloc _) (by simp; unfold maxLen; omega) (by simp) (by simp) ?_; intro v5 w5 hown5 hgrow _; have hown6 : w5.ownsRow (w.heap.size + 1) 25 1 v5 1 [.int .u64 x] := (by simpa using hown5); have hB5 : Below (w.heap.size + 1) (doneWorld w) w5 := (((Below.refl _ _).alloc (by simp) _).grown hgrow (by simp) (fun k hk => (by cases hk; exact Nat.le_refl _))); obtain ⟨g, cap, rfl⟩ := own_lit1 hown6; have hg := hown6.lt g rfl; have hne : w.heap.size ≠ g := (by omega); have hs5 := sl_own1 hown6; clear hown5 hgrow)
  refine (refSet_any _ x kind a _ hs5 hx.1 hx.2 ha.1 ha.2 hk).mono ?_
  rintro e w6 ⟨u, rfl, hs6, hb6, ho⟩
  have hou := ho w.heap.size (by omega) (outOf_new hne)
  have hoa : ∀ b, b < w.heap.size → OutOf b u := fun b hb => ho b (by omega) (outOf_new (by omega))
  have hB6 : Below (w.heap.size + 1) (doneWorld w) w6 := hB5.trans (hb6.mono (by omega))
  obtain ⟨z0, z1, z2, f0, f1, f2, hz5⟩ := cells3 (kept3 hB6)
  have hBB : Below w.heap.size w w6 := ((Below.refl _ w).alloc (Nat.le_refl _) _).trans (hB6.mono (by omega))
  obtain ⟨E, hE⟩ : ∃ E, setE a = E := ⟨_, rfl⟩
  obtain ⟨V, hV⟩ : ∃ V, setV x kind a = V := ⟨_, rfl⟩
  obtain ⟨L, hL⟩ : ∃ L, setL x kind a = L := ⟨_, rfl⟩
  rw [hE, hV]
  rw [hL] at hs6
  have HE := hide hE
  have HV := hide hV
  have HL := hide hL
  have hs6' := hs6
  obtain ⟨A6, c6, rfl, _, _, _⟩ := hs6'
  clear ho hB6 hB5 hb6 hE hV hL
  go_wp2
  refine bodyPost_ret (v := .agg #[.slice A6 L.length c6, .int .i64 E, .int .u64 V]) (by simp [results, Tryz.results155, go_sem, z0, z1, z2]) rfl (refPost_mk (L := L) HE.out HV.out HL.out ?_ ?_ (fun b hb => by first | exact hoa b hb | exact outOf_new (by have := hBB.size; omega)))
  · repeat' (first | with_reducible exact hs6 | with_reducible refine sl_out ?_ hou _ _ _ | with_reducible refine Sl.alloc ?_ _)
  · repeat' (first | with_reducible exact hBB | with_reducible refine Below.drew ?_ | with_reducible refine Below.alloc ?_ ?_ _ | with_reducible refine Below.setCell ?_ ?_ _ | omega | (simp; done) | (simp; omega))
set_option maxRecDepth 100000 in
set_option maxHeartbeats 4000000 in
theorem refApply_row (n kind a : Int) (p : Nat) (A : Option Addr) (c : Nat) (xs : List Int) (w : World) (h : SlW w (.slice A xs.length c) xs) (hk : kind = 0 ∨ kind = 1 ∨ kind = 2) (hl : xs.length ≤ 8) (hn : n = 2 ∧ p = xs.length - 1 ∨ n = 3 ∧ p = 0) :
    Calls Tryz.prog 155 #[.int .i64 n, .slice A xs.length c, .int .i64 kind, .int .u64 a] w (RefPost n xs kind a w) := by
  obtain ⟨i0, hi, hz0, hz1, hz2⟩ := info_parts info_word
  obtain ⟨E, hE⟩ : ∃ E, rowE xs kind = E := ⟨_, rfl⟩
  obtain ⟨V, hV⟩ : ∃ V, rowV p xs kind = V := ⟨_, rfl⟩
  obtain ⟨L, hL⟩ : ∃ L, rowL p xs kind a = L := ⟨_, rfl⟩
  have HE : Hid (seqE n xs kind a = E) := by show _ = _; rw [← hE]; rcases hn with ⟨rfl, rfl⟩ | ⟨rfl, rfl⟩ <;> rfl
  have HV : Hid (seqV n xs kind a = V) := by show _ = _; rw [← hV]; rcases hn with ⟨rfl, rfl⟩ | ⟨rfl, rfl⟩ <;> rfl
  have HL : Hid (seqL n xs kind a = L) := by show _ = _; rw [← hL]; rcases hn with ⟨rfl, rfl⟩ | ⟨rfl, rfl⟩ <;> rfl
  have R := fun n' v W h h1 => refRow_any (w.heap.size + 1) n' v xs n kind a p W h h1
  rw [hE, hV, hL] at R
  have HR := hide R
  clear R hE hV hL
  have hn' : n = 2 ∨ n = 3 := by omega
  have HN := hide hn
  clear hn
  rcases hn' with rfl | rfl
  all_goals
    go_enter Tryz.func155, Tryz.ntmps155
    go_wp2_with (at_builtin; refine wpList_append_sl (kk := .u64) rfl _ _ 24 rfl (w.heap.size + 1) 25 i0 (.int .u64 0) 8 Tryz.underlying24 hi hz0 hz1 hz2 rfl _ 0 [] rfl (own_empty w) A _ c xs rfl ((h.alloc _).alloc _) (by unfold maxLen; omega) (by omega) (by simp) ?_; intro v5 w5 hown5 hgrow _; have hown6 : w5.ownsRow (w.heap.size + 1) 25 1 v5 xs.length (xs.map (Value.int .u64)) := (by simpa using hown5); have hB5 : Below (w.heap.size + 1) (doneWorld w) w5 := (((Below.refl _ _).alloc (by simp) _).grown hgrow (by simp) (fun k hk => (by cases hk; exact Nat.le_refl _))); have hz6 : w.heap.size + 1 ≤ w5.heap.size := (by have := hB5.size; simpa using this); clear hown5 hgrow)
    refine (HR.out xs.length _ _ hown6 rfl hl hk HN.out hz6).mono ?_
    rintro e w6 ⟨u, rfl, hs6, hb6, ho⟩
    have hou := ho w.heap.size (by omega)
    have hoa : ∀ b, b < w.heap.size → OutOf b u := fun b hb => ho b (by omega)
    have hB6 : Below (w.heap.size + 1) (doneWorld w) w6 := hB5.trans hb6
    obtain ⟨z0, z1, z2, f0, f1, f2, hz5⟩ := cells3 (kept3 hB6)
    have hBB : Below w.heap.size w w6 := ((Below.refl _ w).alloc (Nat.le_refl _) _).trans (hB6.mono (by omega))
    have hs6' := hs6
    obtain ⟨A6, c6, rfl, _, _, _⟩ := hs6'
    clear ho hB6 hB5 hb6 hown6
    go_wp2
    refine bodyPost_ret (v := .agg #[.slice A6 L.length c6, .int .i64 E, .int .u64 V]) (by simp [results, Tryz.results155, go_sem, z0, z1, z2]) rfl (refPost_mk (L := L) HE.out HV.out HL.out ?_ ?_ (fun b hb => by first | exact hoa b hb | exact outOf_new (by have := hBB.size; omega)))
    · repeat' (first | with_reducible exact hs6 | with_reducible refine sl_out ?_ hou _ _ _ | with_reducible refine Sl.alloc ?_ _)
    · repeat' (first | with_reducible exact hBB | with_reducible refine Below.drew ?_ | with_reducible refine Below.alloc ?_ ?_ _ | with_reducible refine Below.setCell ?_ ?_ _ | omega | (simp; done) | (simp; omega))
end Go.Proofs.YtmiimpmfkjcjlaaGreat
