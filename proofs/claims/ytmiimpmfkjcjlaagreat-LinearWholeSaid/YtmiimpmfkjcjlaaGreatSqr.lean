import Derived.Test.YtmiimpmfkjcjlaaGreatBun5
import Derived.Deep.AppendLies
import Derived.IntWalk
namespace Go.Proofs.YtmiimpmfkjcjlaaGreat
open Go.RowKit
attribute [local go_sem] run_store_fn run_store_nilfn
def OutOf (b : Nat) (u : Value) : Prop := ∀ A n c, u = .slice A n c → ∀ a, A = some a → a.block ≠ b
theorem outOf_own {w : World} {B b : Nat} {e : TypeId} {sz : Nat} {v : Value} {n : Nat} {l : List Value} (h : w.ownsRow B e sz v n l) (hb : b < B) : OutOf b v := by
  intro A n' c e a ha
  rcases h.2 with ⟨rfl, _⟩ | ⟨g, cap, cur, rfl, hg, _⟩
  · cases e; cases ha
  · cases e; cases ha
    show g ≠ b
    omega
theorem outOf_new {b g n c : Nat} (h : b ≠ g) : OutOf b (.slice (some ⟨g, 0, none⟩) n c) := by
  intro A n' c e a ha
  cases e; cases ha
  exact fun e => h e.symm
abbrev WOwn (w : World) (B : Nat) (v : Value) (n : Nat) (xs : List Int) : Prop := w.ownsRow B 25 1 v n (xs.map (Value.int .u64))
set_option maxRecDepth 100000 in
set_option maxHeartbeats 1000000 in
theorem refRow_put (B n : Nat) (v : Value) (xs : List Int) (typ kind a : Int) (p : Nat) (w : World) (hown : WOwn w B v n xs) (hn : xs.length = n) (hl : n ≤ 8) (hk : kind = 0) (hBw : B ≤ w.heap.size) :
    Calls Tryz.prog 200 #[.int .i64 typ, v, .int .i64 kind, .int .u64 a] w fun e w' => ∃ u, e = .returned (.agg #[u, .int .i64 (rowE xs kind), .int .u64 (rowV p xs kind)]) ∧ SlW w' u (rowL p xs kind a) ∧ Below B w w' ∧ ∀ b, b < B → OutOf b u := by
  subst hk
  subst hn
  have HO : ∀ b, b < B → OutOf b v := fun b hb => outOf_own hown hb
  obtain ⟨i0, hi, hz0, hz1, hz2⟩ := info_parts info_word
  have hsl : SlW w v xs := wrow_sl hown (by unfold maxLen; omega)
  by_cases h8 : 8 ≤ xs.length
  · have hE : rowE xs 0 = 6 := by unfold rowE; rw [if_pos rfl, if_pos h8]
    have hV : rowV p xs 0 = 0 := by unfold rowV; rw [if_pos rfl]
    have hL : rowL p xs 0 a = xs := by unfold rowL; rw [if_pos rfl, if_pos h8]
    rw [hE, hV, hL]
    have hsl' := hsl
    obtain ⟨A, c, rfl, h1, h2, h3⟩ := hsl
    have e8 : decide (8 ≤ xs.length) = true := by simp; omega
    clear hE hV hL h3 hown
    go_enter Tryz.func200, Tryz.ntmps200
    go_wp2
    refine bodyPost_ret (v := .agg #[.slice A xs.length c, .int .i64 6, .int .u64 0]) (by simp [results, Tryz.results200, go_sem]) rfl ⟨_, rfl, hsl'.below (B := w.heap.size) ?_ (Nat.le_refl _), Below.mono (B := w.heap.size) ?_ hBw, HO⟩
    · (repeat' (first | exact Below.refl _ _ | assumption | refine Below.drew ?_ | refine below_drewN ?_ _ | refine Below.alloc ?_ (by simp <;> omega) _ | refine Below.setCell ?_ (by simp <;> omega) _))
    · (repeat' (first | exact Below.refl _ _ | assumption | refine Below.drew ?_ | refine below_drewN ?_ _ | refine Below.alloc ?_ (by simp <;> omega) _ | refine Below.setCell ?_ (by simp <;> omega) _))
  · have hE : rowE xs 0 = 0 := by unfold rowE; rw [if_pos rfl, if_neg h8]
    have hV : rowV p xs 0 = 0 := by unfold rowV; rw [if_pos rfl]
    have hL : rowL p xs 0 a = xs ++ [a] := by unfold rowL; rw [if_pos rfl, if_neg h8]
    rw [hE, hV, hL]
    have e8 : xs.length < 8 := by omega
    obtain ⟨A, c, rfl, _, _, _⟩ := hsl
    have hown1 := (show w.ownsRow B 25 1 (.slice A xs.length c) xs.length (xs.map (Value.int .u64)) from hown)
    clear hE hV hL h8 hown
    go_enter Tryz.func200, Tryz.ntmps200
    go_wp2_with (at_builtin; refine wpList_append_own_at _ rfl _ _ 24 rfl B 25 i0 (.int .u64 0) 1 8 Tryz.underlying24 hi hz0 hz1 hz2 rfl (by decide) _ _ _ rfl ((hown1.alloc _).alloc _) ⟨w.heap.size + 1, 0, none⟩ 1 1 [.int .u64 a] rfl rfl (by intro j u hu; rcases j with _ | j; (cases hu; go_simp); cases hu) (by simp [Value.oneCell']) (by unfold maxLen; omega) (by omega) (by simp; omega) ?_; intro v5 w5 hown5 hgrow _ hloc; have hD : w5.heap[w.heap.size]? = some (.cells #[.slice none 0 0, .int .i64 0, .int .u64 0] 208 (0, 0)) := (hgrow.block _ (by simp; omega) (fun e => absurd (hown1.lt _ e.symm).2 (Nat.lt_irrefl _))).trans ((heap_alloc_old _ _ (by simp)).trans (heap_alloc_new _ _)); obtain ⟨z0, z1, z2, f0, f1, f2, hz5⟩ := cells3 hD; obtain ⟨g, cap, rfl⟩ := ownsRow_succ hown5; have hne : w.heap.size ≠ g := (by rcases hloc with h | h; (have := (hown1.lt g h.symm).2; omega); (have := Option.some.inj (show some g = some _ from h); simp at this; omega)); have hB5 : Below B w w5 := (((Below.refl B w).alloc hBw _).alloc (by simp; omega) _).grown hgrow (by simp; omega) (fun k hk => (hown1.lt k hk).1); clear hD hgrow hown1 hloc)
    refine bodyPost_ret (v := .agg #[.slice (some ⟨g, 0, none⟩) (xs.length + 1) cap, .int .i64 0, .int .u64 0]) (by simp [results, Tryz.results200, go_sem, z0, z1, z2]) rfl ⟨_, rfl, ?_, ?_, fun b hb => outOf_own hown5 hb⟩
    · have h5 : w5.ownsRow B 25 1 (.slice (some ⟨g, 0, none⟩) (xs.length + 1) cap) (xs ++ [a]).length ((xs ++ [a]).map (Value.int .u64)) := by rw [List.length_append, List.map_append]; exact hown5
      have hs5 := wrow_sl h5 (by simp; unfold maxLen; omega)
      repeat' (first | with_reducible exact hs5 | with_reducible refine sl_setCell ?_ _ _ ?_ | with_reducible refine Sl.alloc ?_ _ | exact hne)
    · repeat' (first | with_reducible exact hB5 | with_reducible refine Below.alloc ?_ ?_ _ | with_reducible refine Below.setCell ?_ ?_ _ | omega | (simp; done) | (simp; omega))
theorem sl_src {w w1 : World} {g n cap : Nat} {o : Obj} {xs : List Int} (h : SlW w (.slice (some ⟨g, 0, none⟩) n cap) xs) (hb : Below (w.heap.size + 1) (w.alloc o) w1) (k : Nat) (l : List Int) (hl : ∀ (j : Nat) (y : Int), l[j]? = some y → xs[k + j]? = some y) :
    ∀ (j : Nat) (u : Value), (l.map (Value.int .u64))[j]? = some u → w1.cell? ((⟨g, k, none⟩ : Addr).add j) = some u := by
  intro j u hu
  rw [List.getElem?_map] at hu
  rcases hy : l[j]? with _ | y
  · rw [hy] at hu; cases hu
  · rw [hy] at hu
    cases hu
    obtain ⟨A, c, hA, _, _, h3⟩ := h
    obtain ⟨b, o', e, hbw, hc⟩ := h3 _ y (hl j y hy)
    cases hA
    cases e
    have := nt_cell hc
    rw [Addr.add_lit]
    simp only [Nat.mul_one, Nat.zero_add] at this
    exact (hb.cell (p := ⟨g, k + j, none⟩) (by simp; omega)).trans (Lib.cell?_alloc_some _ this)
theorem nil_src {w1 : World} {a : Addr} {l : List Int} (h : l = []) : ∀ (j : Nat) (u : Value), (l.map (Value.int .u64))[j]? = some u → w1.cell? (a.add j) = some u := by
  intro j u hu
  subst h
  simp at hu
theorem kept3 {w w5 : World} {x y z : Value} {t : TypeId} (h : Below (w.heap.size + 1) (w.alloc (.cells #[x, y, z] t (0, 0))) w5) : w5.heap[w.heap.size]? = some (.cells #[x, y, z] t (0, 0)) :=
  (h.block _ (by omega)).trans (heap_alloc_new _ _)
set_option maxRecDepth 100000 in
set_option maxHeartbeats 4000000 in
theorem refRow_get (B m : Nat) (v : Value) (xs : List Int) (typ kind a : Int) (p : Nat) (w : World) (hown : WOwn w B v (m + 1) xs) (hl : xs.length = m + 1) (hm : m < 8) (hk : kind = 1 ∨ kind = 2) (ht : typ = 2 ∧ m = p ∨ typ = 3 ∧ p = 0) (hBw : B ≤ w.heap.size) :
    Calls Tryz.prog 200 #[.int .i64 typ, v, .int .i64 kind, .int .u64 a] w fun e w' => ∃ u, e = .returned (.agg #[u, .int .i64 (rowE xs kind), .int .u64 (rowV p xs kind)]) ∧ SlW w' u (rowL p xs kind a) ∧ Below B w w' ∧ ∀ b, b < B → OutOf b u := by
  obtain ⟨i0, hi, hz0, hz1, hz2⟩ := info_parts info_word
  have HO : ∀ b, b < B → OutOf b v := fun b hb => outOf_own hown hb
  obtain ⟨g, cap, rfl⟩ := ownsRow_succ hown
  have hg := hown.lt g rfl
  have hsl : SlW w (.slice (some ⟨g, 0, none⟩) (m + 1) cap) xs := by
    have : WRow w B (.slice (some ⟨g, 0, none⟩) (m + 1) cap) xs := by unfold WRow; rw [hl]; exact hown
    exact wrow_sl this (by rw [hl]; unfold maxLen; omega)
  obtain ⟨x, hx⟩ : ∃ x, xs[p]? = some x := ⟨_, List.getElem?_eq_getElem (by omega)⟩
  have hsl' := hsl
  obtain ⟨A, c', hA, hnc, hcm, h3⟩ := hsl'
  rw [hl] at hA hnc
  cases hA
  obtain ⟨b, o, hA, hb, hc⟩ := h3 p x hx
  cases hA
  have c0 := nt_cell hc
  simp only [Nat.mul_one, Nat.zero_add] at c0
  have hE : rowE xs kind = 0 := by unfold rowE; rw [if_neg (by omega), if_neg (by omega)]
  have hV : rowV p xs kind = x := by unfold rowV; rw [if_neg (by omega), hx]; rfl
  have e0 : (kind == 0) = false := by simp; omega
  have q0 : (0 : Int) ≤ (m : Int) := by omega
  have q1 : (m : Int) ≤ (m : Int) + 1 := by omega
  have e9 : ((m : Int) + 1 == 0) = false := by simp; omega
  rw [hE, hV]
  clear hE hV hx h3 hc
  by_cases hk1 : kind = 1
  · have e1 : (kind == 1) = true := by simp [hk1]
    have hL : rowL p xs kind a = xs.eraseIdx p := by unfold rowL; rw [if_neg (by omega), if_neg (by omega), if_pos hk1]
    obtain ⟨L, hLe⟩ : ∃ L, xs.eraseIdx p = L := ⟨_, rfl⟩
    rw [hL, hLe]
    have HE := hide hLe
    clear hL hk hk1 hLe
    have HL := hide hl
    clear hl
    rcases ht with ⟨rfl, rfl⟩ | ⟨rfl, rfl⟩
    · by_cases hcap : cap = m + 1
      · subst hcap
        have HD := hide (show xs.drop (m + 1) = [] from List.drop_eq_nil_of_le (by have := HL.out; omega))
        go_enter Tryz.func200, Tryz.ntmps200
        go_wp2
        have hw1 : IntKind.i64.wrap ((m : Int) + 1) = (m : Int) + 1 := IntWalk.i64_in _ (by omega)
        have hw2 : ((m : Int) + 1).toNat = m + 1 := by omega
        have hw3 : 0 ≤ (m : Int) + 1 := by omega
        refine wp_region_seq (fun w' => Below (w.heap.size + 1) (w.alloc (.cells #[.slice none 0 0, .int .i64 0, .int .u64 0] 208)) w') (.take 1 <| .take 2 <| .take 3 <| .take 5 <| .take 6 <| .take 7 <| .take 8 <| .run 0 <| .run 4 <| .run 9 <| .take 10 <| .done) (by kernel_rfl) (by kernel_rfl) (by kernel_rfl) (Below.drew (Below.refl _ _)) ?_
        repeat (first | (refine seq_take (v := ?_) rfl (by rfl) ?_ ?_; rotate_left; (focus (intro wS hS; replace hS := bcellc hS; go_simp; exact rfl)); simp only [Act.put, sqA, sqB, sqC]) | (refine seq_skip rfl (by rfl) ?_; simp only [Act.put, sqA, sqB, sqC]) | (refine seq_pass rfl (by rfl) (by assumption) ?_; simp only [Act.put, sqA, sqB, sqC]))
        clear hw1 hw2 hw3
        (refine seq_run rfl (by rfl) (fun K hK => ?_); go_simp)
        have hS0 : Below (w.heap.size + 1) (w.alloc (.cells #[.slice none 0 0, .int .i64 0, .int .u64 0] 208)) ((w.alloc (.cells #[.slice none 0 0, .int .i64 0, .int .u64 0] 208)).drew.alloc (.cells #[] 25)) := ((Below.refl _ _).drew).alloc (by simp) _
        have hown0 : ((w.alloc (.cells #[.slice none 0 0, .int .i64 0, .int .u64 0] 208)).drew.alloc (.cells #[] 25)).ownsRow (w.heap.size + 1) 25 1 (.slice (some ⟨w.heap.size + 1, 0, none⟩) 0 0) 0 [] := by
          have := World.ownsRow_made (w.alloc (.cells #[.slice none 0 0, .int .i64 0, .int .u64 0] 208)).drew (base := w.heap.size + 1) (e := 25) (size := 1) #[] 0 (by simp) (Nat.zero_le _) rfl
          simpa using this
        refine hK _ _ hS0 ?_
        clear hK K
        repeat (first | (refine seq_take (v := ?_) rfl (by rfl) ?_ ?_; rotate_left; (focus (intro wS hS; replace hS := bcellc hS; go_simp; exact rfl)); simp only [Act.put, sqA, sqB, sqC]) | (refine seq_skip rfl (by rfl) ?_; simp only [Act.put, sqA, sqB, sqC]) | (refine seq_pass rfl (by rfl) (by assumption) ?_; simp only [Act.put, sqA, sqB, sqC]))
        refine seq_run rfl (by rfl) (fun K hK => ?_)
        refine wp_append_own_at _ _ 24 rfl (w.heap.size + 1) 25 i0 (.int .u64 0) 1 8 Tryz.underlying24 hi hz0 hz1 hz2 rfl (by decide) _ 0 [] (by rfl) hown0 ⟨g, 0, none⟩ m _ ((xs.take m).map (Value.int .u64)) (by rfl) (by simp [HL.out]) (sl_src hsl hS0 0 _ (fun j y h => by rw [List.getElem?_take] at h; split at h; (rw [Nat.zero_add]; exact h); cases h)) (ints_oneCell .u64 _) (by unfold maxLen; omega) (by omega) (by simp) ?_
        intro v1 w1 hown1 hgrow1 _ _
        have hS1 := hS0.grown hgrow1 (by simp) (fun k hk => (by cases hk; simp))
        clear hS0 hgrow1
        refine hK _ _ hS1 ?_
        clear hK K
        repeat (first | (refine seq_take (v := ?_) rfl (by rfl) ?_ ?_; rotate_left; (focus (intro wS hS; replace hS := bcellc hS; go_simp; exact rfl)); simp only [Act.put, sqA, sqB, sqC]) | (refine seq_skip rfl (by rfl) ?_; simp only [Act.put, sqA, sqB, sqC]) | (refine seq_pass rfl (by rfl) (by assumption) ?_; simp only [Act.put, sqA, sqB, sqC]))
        refine seq_run rfl (by rfl) (fun K hK => ?_)
        refine wp_append_own_at _ _ 24 rfl (w.heap.size + 1) 25 i0 (.int .u64 0) 1 8 Tryz.underlying24 hi hz0 hz1 hz2 rfl (by decide) _ _ _ (by rfl) hown1 ⟨g, 0, none⟩ 0 _ ((xs.drop (m + 1)).map (Value.int .u64)) (by rfl) (by simp [HL.out]) (nil_src HD.out) (ints_oneCell .u64 _) (by unfold maxLen; omega) (by omega) (by have := hS1.size; simp at this; omega) ?_
        intro v2 w2 hown2 hgrow2 _ _
        have hS2 := hS1.grown hgrow2 (by have := hS1.size; simp at this; omega) (fun k hk => (hown1.lt k hk).1)
        have hown3 : w2.ownsRow (w.heap.size + 1) 25 1 v2 L.length (L.map (Value.int .u64)) := by
          rw [← HE.out, List.length_eraseIdx, if_pos (by have := HL.out; omega), List.eraseIdx_eq_take_drop_succ, List.map_append, HL.out]
          have := hown2
          simp only [Nat.zero_add, List.nil_append] at this
          exact this
        clear hS1 hgrow2 hown1 hown2
        have hlm : L.length ≤ maxLen := by rw [← HE.out, List.length_eraseIdx, if_pos (by have := HL.out; omega), HL.out]; unfold maxLen; omega
        clear hsl hown
        obtain ⟨A2, c2, rfl, _, _, _⟩ := wrow_sl hown3 hlm
        refine hK _ _ hS2 ?_
        clear hK K
        repeat (first | (refine seq_take (v := ?_) rfl (by rfl) ?_ ?_; rotate_left; (focus (intro wS hS; replace hS := bcellc hS; go_simp; exact rfl)); simp only [Act.put, sqA, sqB, sqC]) | (refine seq_skip rfl (by rfl) ?_; simp only [Act.put, sqA, sqB, sqC]) | (refine seq_pass rfl (by rfl) (by assumption) ?_; simp only [Act.put, sqA, sqB, sqC]))
        refine seq_nil ?_
        obtain ⟨z0, z1, z2, f0, f1, f2, hz5⟩ := cells3 (kept3 hS2)
        have hB : Below B w w2 := ((Below.refl B w).alloc hBw _).trans (hS2.mono (by omega))
        clear hS2 c0
        go_wp2
        refine bodyPost_ret (v := .agg #[.slice A2 L.length c2, .int .i64 0, .int .u64 x]) (by simp [results, Tryz.results200, go_sem, z0, z1, z2]) rfl ⟨_, rfl, wrow_sl (B := w.heap.size + 1) ?_ hlm, ?_, fun b hb => outOf_own hown3 (by omega)⟩
        · unfold WRow
          repeat' (first | with_reducible exact hown3 | with_reducible refine ownsRow_setCell_below ?_ ?_ _ | with_reducible refine World.ownsRow.alloc ?_ _ | (simp; done) | omega)
        · repeat' (first | with_reducible exact hB | with_reducible refine Below.alloc ?_ ?_ _ | with_reducible refine Below.setCell ?_ ?_ _ | omega | (simp; done) | (simp; omega))
      · have HD := hide (show xs.drop (m + 1) = [] from List.drop_eq_nil_of_le (by have := HL.out; omega))
        have hcap' : ¬ m + 1 = cap := fun e => hcap e.symm
        have q2 : (m : Int) ≤ (cap : Int) := by omega
        go_enter Tryz.func200, Tryz.ntmps200
        go_wp2
        have hw1 : IntKind.i64.wrap ((m : Int) + 1) = (m : Int) + 1 := IntWalk.i64_in _ (by omega)
        have hw2 : ((m : Int) + 1).toNat = m + 1 := by omega
        have hw3 : 0 ≤ (m : Int) + 1 := by omega
        refine wp_region_seq (fun w' => Below (w.heap.size + 1) (w.alloc (.cells #[.slice none 0 0, .int .i64 0, .int .u64 0] 208)) w') (.take 1 <| .take 2 <| .take 3 <| .take 5 <| .take 6 <| .take 7 <| .take 8 <| .run 0 <| .run 4 <| .run 9 <| .take 10 <| .done) (by kernel_rfl) (by kernel_rfl) (by kernel_rfl) (Below.drew (Below.refl _ _)) ?_
        repeat (first | (refine seq_take (v := ?_) rfl (by rfl) ?_ ?_; rotate_left; (focus (intro wS hS; replace hS := bcellc hS; go_simp; exact rfl)); simp only [Act.put, sqA, sqB, sqC]) | (refine seq_skip rfl (by rfl) ?_; simp only [Act.put, sqA, sqB, sqC]) | (refine seq_pass rfl (by rfl) (by assumption) ?_; simp only [Act.put, sqA, sqB, sqC]))
        clear hw1 hw2 hw3
        (refine seq_run rfl (by rfl) (fun K hK => ?_); go_simp)
        have hS0 : Below (w.heap.size + 1) (w.alloc (.cells #[.slice none 0 0, .int .i64 0, .int .u64 0] 208)) ((w.alloc (.cells #[.slice none 0 0, .int .i64 0, .int .u64 0] 208)).drew.alloc (.cells #[] 25)) := ((Below.refl _ _).drew).alloc (by simp) _
        have hown0 : ((w.alloc (.cells #[.slice none 0 0, .int .i64 0, .int .u64 0] 208)).drew.alloc (.cells #[] 25)).ownsRow (w.heap.size + 1) 25 1 (.slice (some ⟨w.heap.size + 1, 0, none⟩) 0 0) 0 [] := by
          have := World.ownsRow_made (w.alloc (.cells #[.slice none 0 0, .int .i64 0, .int .u64 0] 208)).drew (base := w.heap.size + 1) (e := 25) (size := 1) #[] 0 (by simp) (Nat.zero_le _) rfl
          simpa using this
        refine hK _ _ hS0 ?_
        clear hK K
        repeat (first | (refine seq_take (v := ?_) rfl (by rfl) ?_ ?_; rotate_left; (focus (intro wS hS; replace hS := bcellc hS; go_simp; exact rfl)); simp only [Act.put, sqA, sqB, sqC]) | (refine seq_skip rfl (by rfl) ?_; simp only [Act.put, sqA, sqB, sqC]) | (refine seq_pass rfl (by rfl) (by assumption) ?_; simp only [Act.put, sqA, sqB, sqC]))
        refine seq_run rfl (by rfl) (fun K hK => ?_)
        refine wp_append_own_at _ _ 24 rfl (w.heap.size + 1) 25 i0 (.int .u64 0) 1 8 Tryz.underlying24 hi hz0 hz1 hz2 rfl (by decide) _ 0 [] (by rfl) hown0 ⟨g, 0, none⟩ m _ ((xs.take m).map (Value.int .u64)) (by rfl) (by simp [HL.out]) (sl_src hsl hS0 0 _ (fun j y h => by rw [List.getElem?_take] at h; split at h; (rw [Nat.zero_add]; exact h); cases h)) (ints_oneCell .u64 _) (by unfold maxLen; omega) (by omega) (by simp) ?_
        intro v1 w1 hown1 hgrow1 _ _
        have hS1 := hS0.grown hgrow1 (by simp) (fun k hk => (by cases hk; simp))
        clear hS0 hgrow1
        refine hK _ _ hS1 ?_
        clear hK K
        repeat (first | (refine seq_take (v := ?_) rfl (by rfl) ?_ ?_; rotate_left; (focus (intro wS hS; replace hS := bcellc hS; go_simp; exact rfl)); simp only [Act.put, sqA, sqB, sqC]) | (refine seq_skip rfl (by rfl) ?_; simp only [Act.put, sqA, sqB, sqC]) | (refine seq_pass rfl (by rfl) (by assumption) ?_; simp only [Act.put, sqA, sqB, sqC]))
        refine seq_run rfl (by rfl) (fun K hK => ?_)
        refine wp_append_own_at _ _ 24 rfl (w.heap.size + 1) 25 i0 (.int .u64 0) 1 8 Tryz.underlying24 hi hz0 hz1 hz2 rfl (by decide) _ _ _ (by rfl) hown1 ⟨g, m + 1, none⟩ 0 _ ((xs.drop (m + 1)).map (Value.int .u64)) (by rfl) (by simp [HL.out]) (nil_src HD.out) (ints_oneCell .u64 _) (by unfold maxLen; omega) (by omega) (by have := hS1.size; simp at this; omega) ?_
        intro v2 w2 hown2 hgrow2 _ _
        have hS2 := hS1.grown hgrow2 (by have := hS1.size; simp at this; omega) (fun k hk => (hown1.lt k hk).1)
        have hown3 : w2.ownsRow (w.heap.size + 1) 25 1 v2 L.length (L.map (Value.int .u64)) := by
          rw [← HE.out, List.length_eraseIdx, if_pos (by have := HL.out; omega), List.eraseIdx_eq_take_drop_succ, List.map_append, HL.out]
          have := hown2
          simp only [Nat.zero_add, List.nil_append] at this
          exact this
        clear hS1 hgrow2 hown1 hown2
        have hlm : L.length ≤ maxLen := by rw [← HE.out, List.length_eraseIdx, if_pos (by have := HL.out; omega), HL.out]; unfold maxLen; omega
        clear hsl hown
        obtain ⟨A2, c2, rfl, _, _, _⟩ := wrow_sl hown3 hlm
        refine hK _ _ hS2 ?_
        clear hK K
        repeat (first | (refine seq_take (v := ?_) rfl (by rfl) ?_ ?_; rotate_left; (focus (intro wS hS; replace hS := bcellc hS; go_simp; exact rfl)); simp only [Act.put, sqA, sqB, sqC]) | (refine seq_skip rfl (by rfl) ?_; simp only [Act.put, sqA, sqB, sqC]) | (refine seq_pass rfl (by rfl) (by assumption) ?_; simp only [Act.put, sqA, sqB, sqC]))
        refine seq_nil ?_
        obtain ⟨z0, z1, z2, f0, f1, f2, hz5⟩ := cells3 (kept3 hS2)
        have hB : Below B w w2 := ((Below.refl B w).alloc hBw _).trans (hS2.mono (by omega))
        clear hS2 c0
        go_wp2
        refine bodyPost_ret (v := .agg #[.slice A2 L.length c2, .int .i64 0, .int .u64 x]) (by simp [results, Tryz.results200, go_sem, z0, z1, z2]) rfl ⟨_, rfl, wrow_sl (B := w.heap.size + 1) ?_ hlm, ?_, fun b hb => outOf_own hown3 (by omega)⟩
        · unfold WRow
          repeat' (first | with_reducible exact hown3 | with_reducible refine ownsRow_setCell_below ?_ ?_ _ | with_reducible refine World.ownsRow.alloc ?_ _ | (simp; done) | omega)
        · repeat' (first | with_reducible exact hB | with_reducible refine Below.alloc ?_ ?_ _ | with_reducible refine Below.setCell ?_ ?_ _ | omega | (simp; done) | (simp; omega))
    · by_cases hcap : cap = 1
      · subst hcap
        obtain rfl : m = 0 := by omega
        have HD := hide (show xs.drop 1 = [] from List.drop_eq_nil_of_le (by have := HL.out; omega))
        simp only [Nat.zero_add] at hown hsl ⊢
        go_enter Tryz.func200, Tryz.ntmps200
        go_wp2
        have hw1 : IntKind.i64.wrap (0 + 1) = 1 := by decide
        have hw2 : IntKind.i64.wrap 1 = 1 := by decide
        have hw3 : (1 : Int).toNat = 1 := by decide
        refine wp_region_seq (fun w' => Below (w.heap.size + 1) (w.alloc (.cells #[.slice none 0 0, .int .i64 0, .int .u64 0] 208)) w') (.take 1 <| .take 2 <| .take 3 <| .take 5 <| .take 6 <| .take 7 <| .take 8 <| .run 0 <| .run 4 <| .run 9 <| .take 10 <| .done) (by kernel_rfl) (by kernel_rfl) (by kernel_rfl) (Below.drew (Below.refl _ _)) ?_
        repeat (first | (refine seq_take (v := ?_) rfl (by rfl) ?_ ?_; rotate_left; (focus (intro wS hS; replace hS := bcellc hS; go_simp; exact rfl)); simp only [Act.put, sqA, sqB, sqC]) | (refine seq_skip rfl (by rfl) ?_; simp only [Act.put, sqA, sqB, sqC]) | (refine seq_pass rfl (by rfl) (by assumption) ?_; simp only [Act.put, sqA, sqB, sqC]))
        clear hw1 hw2 hw3
        (refine seq_run rfl (by rfl) (fun K hK => ?_); go_simp)
        have hS0 : Below (w.heap.size + 1) (w.alloc (.cells #[.slice none 0 0, .int .i64 0, .int .u64 0] 208)) ((w.alloc (.cells #[.slice none 0 0, .int .i64 0, .int .u64 0] 208)).drew.alloc (.cells #[] 25)) := ((Below.refl _ _).drew).alloc (by simp) _
        have hown0 : ((w.alloc (.cells #[.slice none 0 0, .int .i64 0, .int .u64 0] 208)).drew.alloc (.cells #[] 25)).ownsRow (w.heap.size + 1) 25 1 (.slice (some ⟨w.heap.size + 1, 0, none⟩) 0 0) 0 [] := by
          have := World.ownsRow_made (w.alloc (.cells #[.slice none 0 0, .int .i64 0, .int .u64 0] 208)).drew (base := w.heap.size + 1) (e := 25) (size := 1) #[] 0 (by simp) (Nat.zero_le _) rfl
          simpa using this
        refine hK _ _ hS0 ?_
        clear hK K
        repeat (first | (refine seq_take (v := ?_) rfl (by rfl) ?_ ?_; rotate_left; (focus (intro wS hS; replace hS := bcellc hS; go_simp; exact rfl)); simp only [Act.put, sqA, sqB, sqC]) | (refine seq_skip rfl (by rfl) ?_; simp only [Act.put, sqA, sqB, sqC]) | (refine seq_pass rfl (by rfl) (by assumption) ?_; simp only [Act.put, sqA, sqB, sqC]))
        refine seq_run rfl (by rfl) (fun K hK => ?_)
        refine wp_append_own_at _ _ 24 rfl (w.heap.size + 1) 25 i0 (.int .u64 0) 1 8 Tryz.underlying24 hi hz0 hz1 hz2 rfl (by decide) _ 0 [] (by rfl) hown0 ⟨g, 0, none⟩ 0 _ ((xs.take 0).map (Value.int .u64)) (by rfl) (by simp) (sl_src hsl hS0 0 _ (fun j y h => by rw [List.getElem?_take] at h; split at h; (rw [Nat.zero_add]; exact h); cases h)) (ints_oneCell .u64 _) (by unfold maxLen; omega) (by omega) (by simp) ?_
        intro v1 w1 hown1 hgrow1 _ _
        have hS1 := hS0.grown hgrow1 (by simp) (fun k hk => (by cases hk; simp))
        clear hS0 hgrow1
        refine hK _ _ hS1 ?_
        clear hK K
        repeat (first | (refine seq_take (v := ?_) rfl (by rfl) ?_ ?_; rotate_left; (focus (intro wS hS; replace hS := bcellc hS; go_simp; exact rfl)); simp only [Act.put, sqA, sqB, sqC]) | (refine seq_skip rfl (by rfl) ?_; simp only [Act.put, sqA, sqB, sqC]) | (refine seq_pass rfl (by rfl) (by assumption) ?_; simp only [Act.put, sqA, sqB, sqC]))
        refine seq_run rfl (by rfl) (fun K hK => ?_)
        refine wp_append_own_at _ _ 24 rfl (w.heap.size + 1) 25 i0 (.int .u64 0) 1 8 Tryz.underlying24 hi hz0 hz1 hz2 rfl (by decide) _ _ _ (by rfl) hown1 ⟨g, 0, none⟩ 0 _ ((xs.drop 1).map (Value.int .u64)) (by rfl) (by simp [HL.out]) (nil_src HD.out) (ints_oneCell .u64 _) (by unfold maxLen; omega) (by omega) (by have := hS1.size; simp at this; omega) ?_
        intro v2 w2 hown2 hgrow2 _ _
        have hS2 := hS1.grown hgrow2 (by have := hS1.size; simp at this; omega) (fun k hk => (hown1.lt k hk).1)
        have hown3 : w2.ownsRow (w.heap.size + 1) 25 1 v2 L.length (L.map (Value.int .u64)) := by
          rw [← HE.out, List.length_eraseIdx, if_pos (by have := HL.out; omega), List.eraseIdx_eq_take_drop_succ, List.map_append, HL.out]
          have := hown2
          simp only [Nat.zero_add, List.nil_append] at this
          exact this
        clear hS1 hgrow2 hown1 hown2
        have hlm : L.length ≤ maxLen := by rw [← HE.out, List.length_eraseIdx, if_pos (by have := HL.out; omega), HL.out]; unfold maxLen; omega
        clear hsl hown
        obtain ⟨A2, c2, rfl, _, _, _⟩ := wrow_sl hown3 hlm
        refine hK _ _ hS2 ?_
        clear hK K
        repeat (first | (refine seq_take (v := ?_) rfl (by rfl) ?_ ?_; rotate_left; (focus (intro wS hS; replace hS := bcellc hS; go_simp; exact rfl)); simp only [Act.put, sqA, sqB, sqC]) | (refine seq_skip rfl (by rfl) ?_; simp only [Act.put, sqA, sqB, sqC]) | (refine seq_pass rfl (by rfl) (by assumption) ?_; simp only [Act.put, sqA, sqB, sqC]))
        refine seq_nil ?_
        obtain ⟨z0, z1, z2, f0, f1, f2, hz5⟩ := cells3 (kept3 hS2)
        have hB : Below B w w2 := ((Below.refl B w).alloc hBw _).trans (hS2.mono (by omega))
        clear hS2 c0
        go_wp2
        refine bodyPost_ret (v := .agg #[.slice A2 L.length c2, .int .i64 0, .int .u64 x]) (by simp [results, Tryz.results200, go_sem, z0, z1, z2]) rfl ⟨_, rfl, wrow_sl (B := w.heap.size + 1) ?_ hlm, ?_, fun b hb => outOf_own hown3 (by omega)⟩
        · unfold WRow
          repeat' (first | with_reducible exact hown3 | with_reducible refine ownsRow_setCell_below ?_ ?_ _ | with_reducible refine World.ownsRow.alloc ?_ _ | (simp; done) | omega)
        · repeat' (first | with_reducible exact hB | with_reducible refine Below.alloc ?_ ?_ _ | with_reducible refine Below.setCell ?_ ?_ _ | omega | (simp; done) | (simp; omega))
      · have hcap' : ¬ 1 = cap := fun e => hcap e.symm
        go_enter Tryz.func200, Tryz.ntmps200
        go_wp2
        have hw1 : IntKind.i64.wrap (0 + 1) = 1 := by decide
        have hw2 : IntKind.i64.wrap 1 = 1 := by decide
        have hw3 : (1 : Int) ≤ (m : Int) + 1 := by omega
        refine wp_region_seq (fun w' => Below (w.heap.size + 1) (w.alloc (.cells #[.slice none 0 0, .int .i64 0, .int .u64 0] 208)) w') (.take 1 <| .take 2 <| .take 3 <| .take 5 <| .take 6 <| .take 7 <| .take 8 <| .run 0 <| .run 4 <| .run 9 <| .take 10 <| .done) (by kernel_rfl) (by kernel_rfl) (by kernel_rfl) (Below.drew (Below.refl _ _)) ?_
        repeat (first | (refine seq_take (v := ?_) rfl (by rfl) ?_ ?_; rotate_left; (focus (intro wS hS; replace hS := bcellc hS; go_simp; exact rfl)); simp only [Act.put, sqA, sqB, sqC]) | (refine seq_skip rfl (by rfl) ?_; simp only [Act.put, sqA, sqB, sqC]) | (refine seq_pass rfl (by rfl) (by assumption) ?_; simp only [Act.put, sqA, sqB, sqC]))
        clear hw1 hw2 hw3
        (refine seq_run rfl (by rfl) (fun K hK => ?_); go_simp)
        have hS0 : Below (w.heap.size + 1) (w.alloc (.cells #[.slice none 0 0, .int .i64 0, .int .u64 0] 208)) ((w.alloc (.cells #[.slice none 0 0, .int .i64 0, .int .u64 0] 208)).drew.alloc (.cells #[] 25)) := ((Below.refl _ _).drew).alloc (by simp) _
        have hown0 : ((w.alloc (.cells #[.slice none 0 0, .int .i64 0, .int .u64 0] 208)).drew.alloc (.cells #[] 25)).ownsRow (w.heap.size + 1) 25 1 (.slice (some ⟨w.heap.size + 1, 0, none⟩) 0 0) 0 [] := by
          have := World.ownsRow_made (w.alloc (.cells #[.slice none 0 0, .int .i64 0, .int .u64 0] 208)).drew (base := w.heap.size + 1) (e := 25) (size := 1) #[] 0 (by simp) (Nat.zero_le _) rfl
          simpa using this
        refine hK _ _ hS0 ?_
        clear hK K
        repeat (first | (refine seq_take (v := ?_) rfl (by rfl) ?_ ?_; rotate_left; (focus (intro wS hS; replace hS := bcellc hS; go_simp; exact rfl)); simp only [Act.put, sqA, sqB, sqC]) | (refine seq_skip rfl (by rfl) ?_; simp only [Act.put, sqA, sqB, sqC]) | (refine seq_pass rfl (by rfl) (by assumption) ?_; simp only [Act.put, sqA, sqB, sqC]))
        refine seq_run rfl (by rfl) (fun K hK => ?_)
        refine wp_append_own_at _ _ 24 rfl (w.heap.size + 1) 25 i0 (.int .u64 0) 1 8 Tryz.underlying24 hi hz0 hz1 hz2 rfl (by decide) _ 0 [] (by rfl) hown0 ⟨g, 0, none⟩ 0 _ ((xs.take 0).map (Value.int .u64)) (by rfl) (by simp) (sl_src hsl hS0 0 _ (fun j y h => by rw [List.getElem?_take] at h; split at h; (rw [Nat.zero_add]; exact h); cases h)) (ints_oneCell .u64 _) (by unfold maxLen; omega) (by omega) (by simp) ?_
        intro v1 w1 hown1 hgrow1 _ _
        have hS1 := hS0.grown hgrow1 (by simp) (fun k hk => (by cases hk; simp))
        clear hS0 hgrow1
        refine hK _ _ hS1 ?_
        clear hK K
        repeat (first | (refine seq_take (v := ?_) rfl (by rfl) ?_ ?_; rotate_left; (focus (intro wS hS; replace hS := bcellc hS; go_simp; exact rfl)); simp only [Act.put, sqA, sqB, sqC]) | (refine seq_skip rfl (by rfl) ?_; simp only [Act.put, sqA, sqB, sqC]) | (refine seq_pass rfl (by rfl) (by assumption) ?_; simp only [Act.put, sqA, sqB, sqC]))
        refine seq_run rfl (by rfl) (fun K hK => ?_)
        refine wp_append_own_at _ _ 24 rfl (w.heap.size + 1) 25 i0 (.int .u64 0) 1 8 Tryz.underlying24 hi hz0 hz1 hz2 rfl (by decide) _ _ _ (by rfl) hown1 ⟨g, 1, none⟩ m _ ((xs.drop 1).map (Value.int .u64)) (by rfl) (by simp [HL.out]) (sl_src hsl hS1 1 _ (fun j y h => by rw [List.getElem?_drop] at h; exact h)) (ints_oneCell .u64 _) (by unfold maxLen; omega) (by omega) (by have := hS1.size; simp at this; omega) ?_
        intro v2 w2 hown2 hgrow2 _ _
        have hS2 := hS1.grown hgrow2 (by have := hS1.size; simp at this; omega) (fun k hk => (hown1.lt k hk).1)
        have hown3 : w2.ownsRow (w.heap.size + 1) 25 1 v2 L.length (L.map (Value.int .u64)) := by
          rw [← HE.out, List.length_eraseIdx, if_pos (by have := HL.out; omega), List.eraseIdx_eq_take_drop_succ, List.map_append, HL.out]
          have := hown2
          simp only [Nat.zero_add, List.nil_append] at this
          exact this
        clear hS1 hgrow2 hown1 hown2
        have hlm : L.length ≤ maxLen := by rw [← HE.out, List.length_eraseIdx, if_pos (by have := HL.out; omega), HL.out]; unfold maxLen; omega
        clear hsl hown
        obtain ⟨A2, c2, rfl, _, _, _⟩ := wrow_sl hown3 hlm
        refine hK _ _ hS2 ?_
        clear hK K
        repeat (first | (refine seq_take (v := ?_) rfl (by rfl) ?_ ?_; rotate_left; (focus (intro wS hS; replace hS := bcellc hS; go_simp; exact rfl)); simp only [Act.put, sqA, sqB, sqC]) | (refine seq_skip rfl (by rfl) ?_; simp only [Act.put, sqA, sqB, sqC]) | (refine seq_pass rfl (by rfl) (by assumption) ?_; simp only [Act.put, sqA, sqB, sqC]))
        refine seq_nil ?_
        obtain ⟨z0, z1, z2, f0, f1, f2, hz5⟩ := cells3 (kept3 hS2)
        have hB : Below B w w2 := ((Below.refl B w).alloc hBw _).trans (hS2.mono (by omega))
        clear hS2 c0
        go_wp2
        refine bodyPost_ret (v := .agg #[.slice A2 L.length c2, .int .i64 0, .int .u64 x]) (by simp [results, Tryz.results200, go_sem, z0, z1, z2]) rfl ⟨_, rfl, wrow_sl (B := w.heap.size + 1) ?_ hlm, ?_, fun b hb => outOf_own hown3 (by omega)⟩
        · unfold WRow
          repeat' (first | with_reducible exact hown3 | with_reducible refine ownsRow_setCell_below ?_ ?_ _ | with_reducible refine World.ownsRow.alloc ?_ _ | (simp; done) | omega)
        · repeat' (first | with_reducible exact hB | with_reducible refine Below.alloc ?_ ?_ _ | with_reducible refine Below.setCell ?_ ?_ _ | omega | (simp; done) | (simp; omega))
  · have e1 : (kind == 1) = false := by simp [hk1]
    have hL : rowL p xs kind a = xs := by unfold rowL; rw [if_neg (by omega), if_neg (by omega), if_neg hk1]
    rw [hL]
    clear hL hk hk1 hl
    rcases ht with ⟨rfl, rfl⟩ | ⟨rfl, rfl⟩
    · go_enter Tryz.func200, Tryz.ntmps200
      go_wp2
      refine bodyPost_ret (v := .agg #[.slice (some ⟨g, 0, none⟩) (m + 1) cap, .int .i64 0, .int .u64 x]) (by simp [results, Tryz.results200, go_sem]) rfl ⟨_, rfl, hsl.below (B := w.heap.size) ?_ (Nat.le_refl _), Below.mono (B := w.heap.size) ?_ hBw, HO⟩
      · (repeat' (first | exact Below.refl _ _ | assumption | refine Below.drew ?_ | refine below_drewN ?_ _ | refine Below.alloc ?_ (by simp <;> omega) _ | refine Below.setCell ?_ (by simp <;> omega) _))
      · (repeat' (first | exact Below.refl _ _ | assumption | refine Below.drew ?_ | refine below_drewN ?_ _ | refine Below.alloc ?_ (by simp <;> omega) _ | refine Below.setCell ?_ (by simp <;> omega) _))
    · go_enter Tryz.func200, Tryz.ntmps200
      go_wp2
      refine bodyPost_ret (v := .agg #[.slice (some ⟨g, 0, none⟩) (m + 1) cap, .int .i64 0, .int .u64 x]) (by simp [results, Tryz.results200, go_sem]) rfl ⟨_, rfl, hsl.below (B := w.heap.size) ?_ (Nat.le_refl _), Below.mono (B := w.heap.size) ?_ hBw, HO⟩
      · (repeat' (first | exact Below.refl _ _ | assumption | refine Below.drew ?_ | refine below_drewN ?_ _ | refine Below.alloc ?_ (by simp <;> omega) _ | refine Below.setCell ?_ (by simp <;> omega) _))
      · (repeat' (first | exact Below.refl _ _ | assumption | refine Below.drew ?_ | refine below_drewN ?_ _ | refine Below.alloc ?_ (by simp <;> omega) _ | refine Below.setCell ?_ (by simp <;> omega) _))
end Go.Proofs.YtmiimpmfkjcjlaaGreat
