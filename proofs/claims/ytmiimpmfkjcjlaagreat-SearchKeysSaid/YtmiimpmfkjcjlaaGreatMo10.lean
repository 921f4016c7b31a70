import Derived.Test.YtmiimpmfkjcjlaaGreatMo9
namespace Go.Proofs.YtmiimpmfkjcjlaaGreat
open Go.RowKit
attribute [local go_sem] run_store_fn run_store_nilfn
theorem owns_apart {w w' : World} {B : Nat} {e : TypeId} {sz : Nat} {v : Value} {n : Nat} {xs : List Value} (h : w.ownsRow B e sz v n xs) {r : Nat} {cs : Array Value} {t : TypeId} {fr : Nat × Nat} (hr : w.heap[r]? = some (.cells cs t fr)) (ht : t ≠ e) (hk : Keep (fun j => j ≠ r) w w') : w'.ownsRow B e sz v n xs := by
  obtain ⟨h1, h2 | ⟨g, cap, cur, e1, e2, e3, e4⟩⟩ := h
  · exact ⟨h1, Or.inl h2⟩
  · refine ⟨h1, Or.inr ⟨g, cap, cur, e1, e2, (hk.block g ?_).trans e3, e4⟩⟩
    intro hgr
    rw [hgr, hr] at e3
    cases e3
    exact ht rfl
theorem act_fin {n : Int} {s : Sp} {c : Cl} {b B : Nat} {R : List Int × An} {v' L : Value} {w w3 w' : World} (hb : b < w.heap.size) (hT : ThAt w3 b n s v' c) (hO : WOwn w3 B v' R.1.length R.1) (hL : WOwn w3 B L R.2.list.length R.2.list)
    (hk : Keep (fun j => j < (resW w).heap.size ∧ j ≠ b) (resW w) w3) (h' : Keep (fun j => j ≠ w.heap.size) w3 w') : ThPost n s c b B R w (.returned (.agg #[.int .i64 R.2.err, .int .u64 R.2.val, L])) w' := by
  have hr : w3.heap[w.heap.size]? = some (.cells #[.int .i64 0, .int .u64 0, .slice none 0 0] 57 (0, 0)) := (hk.block w.heap.size ⟨by simp, by omega⟩).trans (heap_alloc_new w _)
  refine ⟨v', L, rfl, hT.of_block (h'.block b (by omega)), owns_apart hO hr (by decide) h', owns_apart hL hr (by decide) h', ?_⟩
  exact ((Keep.refl (fun j => j < w.heap.size ∧ j ≠ b) w).alloc (fun k hk => hk.1) _).trans ((hk.mono (fun k hk => ⟨by have := hk.1; simp; omega, hk.2⟩)).trans (h'.mono (fun k hk => by have := hk.1; omega)))
theorem rightB17_len {p : Int} {k : Nat} (h : rightB17 p (k - 1) = true) : k ≤ 9 := by
  unfold rightB17 at h
  split at h
  · simp at h; omega
  · split at h
    · simp at h; omega
    · simp at h; omega
theorem bell1 {xs : List Int} (h : xs.length = 1) : ∃ x, xs = [x] := by
  match xs, h with
  | [x], _ => exact ⟨x, rfl⟩
set_option maxRecDepth 100000 in
set_option maxHeartbeats 4000000 in
theorem mact_any (n : Int) (s : Sp) (c : Cl) (b B : Nat) (v : Value) (st : List Int) (w : World) (hT : ThAt w b n s v c) (hO : WOwn w B v st.length st) (hBw : B ≤ w.heap.size) (hr : rightM n s st = true) (hl : st.length ≤ 10000)
    (ht0 : 0 ≤ c.thread) (ht1 : c.thread < n) (hk0 : 0 ≤ c.kind) (hk1 : c.kind < actsT s.kind s.p) (ha : U64 c.a) (_hb9 : U64 c.b) (hu : ∀ z ∈ st, U64 z) :
    Calls Tryz.prog 79 #[.pointer (some ⟨b, 0, none⟩)] w (ThPost n s c b B (actM n s st c) w) := by
  have hr' := hr
  unfold rightM at hr'
  simp only [Bool.and_eq_true, decide_eq_true_eq] at hr'
  obtain ⟨hE, hsh⟩ := hr'
  obtain ⟨⟨hn1, hn2⟩, ⟨hg1, hg2⟩, hrt⟩ := sizeE_zero hE
  obtain ⟨a0, a1, a2, a3, a4, a5, a6, a7, a8, a9, a10, f4, hb⟩ := hT.cells
  have hTr : ThAt (resW w) b n s v c := hT.of_block (heap_alloc_old w _ hb)
  have hOr : WOwn (resW w) B v st.length st := World.ownsRow.alloc hO _
  have hBr : B ≤ (resW w).heap.size := by simp; omega
  unfold shapeM at hsh
  clear hr hE
  rcases (by omega : s.kind = 0 ∨ s.kind = 1 ∨ s.kind = 2 ∨ s.kind = 3 ∨ s.kind = 4 ∨ s.kind = 5 ∨ s.kind = 6 ∨ s.kind = 7 ∨ s.kind = 8 ∨ s.kind = 9) with hk | hk | hk | hk | hk | hk | hk | hk | hk | hk
  all_goals
    rw [hk] at hrt hk1 a1 hsh
    simp [rightT, actsT, newM, hk] at hrt hk1 hsh
  · have hA : actM n s st c = cellM s st c := by unfold actM; rw [if_pos hk]
    have N0 := mcell_any n s c b B v st (resW w) hTr hOr hBr hrt.1 hrt.2 (by omega) ha hk0 hk1
    clear hTr hOr hBr hrt hk1 hsh hu
    obtain ⟨R, hR⟩ : ∃ R, R = actM n s st c := ⟨_, rfl⟩
    rw [← hA, ← hR] at N0
    rw [← hR]
    clear hA hR hT hO
    go_enter Tryz.func79, Tryz.ntmps79
    go_wp2_with fail
    refine N0.mono ?_
    rintro e w3 ⟨v', L, rfl, hT3, hO3, hL3, hk3⟩
    have hk3' : Keep (fun j => j < (resW w).heap.size ∧ j ≠ b) (resW w) w3 := by first | exact hk3 | exact (Keep.refl _ _).drew.trans hk3
    obtain ⟨st', ⟨E, V, l⟩⟩ := R
    simp only [] at hO3 hL3 ⊢
    obtain ⟨LA, Lc, rfl⟩ := own_slice hL3
    obtain ⟨r0, r1, r2, g0, g1, g2, rz⟩ := res_cells hk3' hb
    have HT3 := hide hT3
    have HO3 := hide hO3
    have HL3 := hide hL3
    have HK3 := hide hk3'
    clear hT3 hO3 hL3 hk3 hk3'
    go_wp2
    refine bodyPost_ret (v := .agg #[.int .i64 E, .int .u64 V, .slice LA l.length Lc]) (by simp [results, Tryz.results79, go_sem, *]) rfl ?_
    exact act_fin (R := (st', ⟨E, V, l⟩)) hb HT3.out HO3.out HL3.out HK3.out (by (repeat' (first | exact Keep.refl _ _ | refine Keep.setCell ?_ (by simp) _ | refine Keep.drew ?_)))
  · obtain ⟨x, rfl⟩ := bell1 hsh
    have hA : actM n s [x] c = consM [x] c := by unfold actM; rw [if_neg (by omega), if_pos hk]
    have N0 := mcons_any n s c b B v x (resW w) hTr hOr hBr ha (hu x (by simp)) hk0 hk1
    clear hTr hOr hBr hk1 hsh hu
    obtain ⟨R, hR⟩ : ∃ R, R = actM n s [x] c := ⟨_, rfl⟩
    rw [← hA, ← hR] at N0
    rw [← hR]
    clear hA hR hT hO
    go_enter Tryz.func79, Tryz.ntmps79
    go_wp2_with fail
    refine N0.mono ?_
    rintro e w3 ⟨v', L, rfl, hT3, hO3, hL3, hk3⟩
    have hk3' : Keep (fun j => j < (resW w).heap.size ∧ j ≠ b) (resW w) w3 := by first | exact hk3 | exact (Keep.refl _ _).drew.trans hk3
    obtain ⟨st', ⟨E, V, l⟩⟩ := R
    simp only [] at hO3 hL3 ⊢
    obtain ⟨LA, Lc, rfl⟩ := own_slice hL3
    obtain ⟨r0, r1, r2, g0, g1, g2, rz⟩ := res_cells hk3' hb
    have HT3 := hide hT3
    have HO3 := hide hO3
    have HL3 := hide hL3
    have HK3 := hide hk3'
    clear hT3 hO3 hL3 hk3 hk3'
    go_wp2
    refine bodyPost_ret (v := .agg #[.int .i64 E, .int .u64 V, .slice LA l.length Lc]) (by simp [results, Tryz.results79, go_sem, *]) rfl ?_
    exact act_fin (R := (st', ⟨E, V, l⟩)) hb HT3.out HO3.out HL3.out HK3.out (by (repeat' (first | exact Keep.refl _ _ | refine Keep.setCell ?_ (by simp) _ | refine Keep.drew ?_)))
  · obtain ⟨x, rfl⟩ := bell1 hsh
    have hA : actM n s [x] c = numM s [x] c := by unfold actM; rw [if_neg (by omega), if_neg (by omega), if_pos (Or.inl hk)]
    have N0 := mnum_any n s c b B v x (resW w) hTr hOr hBr ha (hu x (by simp)) hk0 (Or.inl ⟨hk, hk1⟩)
    clear hTr hOr hBr hk1 hsh hu
    obtain ⟨R, hR⟩ : ∃ R, R = actM n s [x] c := ⟨_, rfl⟩
    rw [← hA, ← hR] at N0
    rw [← hR]
    clear hA hR hT hO
    go_enter Tryz.func79, Tryz.ntmps79
    go_wp2_with fail
    refine N0.mono ?_
    rintro e w3 ⟨v', L, rfl, hT3, hO3, hL3, hk3⟩
    have hk3' : Keep (fun j => j < (resW w).heap.size ∧ j ≠ b) (resW w) w3 := by first | exact hk3 | exact (Keep.refl _ _).drew.trans hk3
    obtain ⟨st', ⟨E, V, l⟩⟩ := R
    simp only [] at hO3 hL3 ⊢
    obtain ⟨LA, Lc, rfl⟩ := own_slice hL3
    obtain ⟨r0, r1, r2, g0, g1, g2, rz⟩ := res_cells hk3' hb
    have HT3 := hide hT3
    have HO3 := hide hO3
    have HL3 := hide hL3
    have HK3 := hide hk3'
    clear hT3 hO3 hL3 hk3 hk3'
    go_wp2
    refine bodyPost_ret (v := .agg #[.int .i64 E, .int .u64 V, .slice LA l.length Lc]) (by simp [results, Tryz.results79, go_sem, *]) rfl ?_
    exact act_fin (R := (st', ⟨E, V, l⟩)) hb HT3.out HO3.out HL3.out HK3.out (by (repeat' (first | exact Keep.refl _ _ | refine Keep.setCell ?_ (by simp) _ | refine Keep.drew ?_)))
  · obtain ⟨x, rfl⟩ := bell1 hsh
    have hA : actM n s [x] c = numM s [x] c := by unfold actM; rw [if_neg (by omega), if_neg (by omega), if_pos (Or.inr hk)]
    have N0 := mnum_any n s c b B v x (resW w) hTr hOr hBr ha (hu x (by simp)) hk0 (Or.inr ⟨hk, hk1⟩)
    clear hTr hOr hBr hk1 hsh hu
    obtain ⟨R, hR⟩ : ∃ R, R = actM n s [x] c := ⟨_, rfl⟩
    rw [← hA, ← hR] at N0
    rw [← hR]
    clear hA hR hT hO
    go_enter Tryz.func79, Tryz.ntmps79
    go_wp2_with fail
    refine N0.mono ?_
    rintro e w3 ⟨v', L, rfl, hT3, hO3, hL3, hk3⟩
    have hk3' : Keep (fun j => j < (resW w).heap.size ∧ j ≠ b) (resW w) w3 := by first | exact hk3 | exact (Keep.refl _ _).drew.trans hk3
    obtain ⟨st', ⟨E, V, l⟩⟩ := R
    simp only [] at hO3 hL3 ⊢
    obtain ⟨LA, Lc, rfl⟩ := own_slice hL3
    obtain ⟨r0, r1, r2, g0, g1, g2, rz⟩ := res_cells hk3' hb
    have HT3 := hide hT3
    have HO3 := hide hO3
    have HL3 := hide hL3
    have HK3 := hide hk3'
    clear hT3 hO3 hL3 hk3 hk3'
    go_wp2
    refine bodyPost_ret (v := .agg #[.int .i64 E, .int .u64 V, .slice LA l.length Lc]) (by simp [results, Tryz.results79, go_sem, *]) rfl ?_
    exact act_fin (R := (st', ⟨E, V, l⟩)) hb HT3.out HO3.out HL3.out HK3.out (by (repeat' (first | exact Keep.refl _ _ | refine Keep.setCell ?_ (by simp) _ | refine Keep.drew ?_)))
  · obtain ⟨x, rfl⟩ := bell1 hsh
    have hA : actM n s [x] c = maxM s [x] c := by unfold actM; rw [if_neg (by omega), if_neg (by omega), if_neg (by omega), if_pos hk]
    have N0 := mmax_any n s c b B v x (resW w) hTr hOr hBr ha (hu x (by simp)) hk0 hk1 hrt.1 hrt.2
    clear hTr hOr hBr hk1 hsh hu hrt
    obtain ⟨R, hR⟩ : ∃ R, R = actM n s [x] c := ⟨_, rfl⟩
    rw [← hA, ← hR] at N0
    rw [← hR]
    clear hA hR hT hO
    go_enter Tryz.func79, Tryz.ntmps79
    go_wp2_with fail
    refine N0.mono ?_
    rintro e w3 ⟨v', L, rfl, hT3, hO3, hL3, hk3⟩
    have hk3' : Keep (fun j => j < (resW w).heap.size ∧ j ≠ b) (resW w) w3 := by first | exact hk3 | exact (Keep.refl _ _).drew.trans hk3
    obtain ⟨st', ⟨E, V, l⟩⟩ := R
    simp only [] at hO3 hL3 ⊢
    obtain ⟨LA, Lc, rfl⟩ := own_slice hL3
    obtain ⟨r0, r1, r2, g0, g1, g2, rz⟩ := res_cells hk3' hb
    have HT3 := hide hT3
    have HO3 := hide hO3
    have HL3 := hide hL3
    have HK3 := hide hk3'
    clear hT3 hO3 hL3 hk3 hk3'
    go_wp2
    refine bodyPost_ret (v := .agg #[.int .i64 E, .int .u64 V, .slice LA l.length Lc]) (by simp [results, Tryz.results79, go_sem, *]) rfl ?_
    exact act_fin (R := (st', ⟨E, V, l⟩)) hb HT3.out HO3.out HL3.out HK3.out (by (repeat' (first | exact Keep.refl _ _ | refine Keep.setCell ?_ (by simp) _ | refine Keep.drew ?_)))
  · obtain ⟨nn, hnn⟩ : ∃ nn : Nat, n = (nn : Int) := ⟨n.toNat, by omega⟩
    obtain ⟨tt, htt⟩ : ∃ tt : Nat, c.thread = (tt : Int) := ⟨c.thread.toNat, by omega⟩
    have hA : actM n s st c = partsM n s.p c.thread c.a st c := by unfold actM; rw [if_neg (by omega), if_neg (by omega), if_neg (by omega), if_neg (by omega), if_pos hk]
    have hw : IntKind.u64.wrap c.thread = c.thread := by rw [IntKind.wrap_u64]; omega
    have N0 : Calls Tryz.prog 149 #[.pointer (some ⟨b, 0, none⟩), .int .i64 n, .int .i64 s.p, .int .u64 (IntKind.u64.wrap c.thread), .int .u64 c.a] ((resW w).drew) (ThPost n s c b B (partsM n s.p c.thread c.a st c) ((resW w).drew)) := by
      rw [hw]
      have h := mparts_any nn tt s.p c.thread c.a n s c b B v st ((resW w).drew) hTr hOr hBr (by omega) (by omega) htt (by omega) ⟨by omega, by omega⟩ (by omega) (by omega) hk0 hk1 hu
      rw [← hnn] at h
      exact h
    clear hTr hOr hBr hk1 hsh hu hrt hnn htt hw
    obtain ⟨R, hR⟩ : ∃ R, R = actM n s st c := ⟨_, rfl⟩
    rw [← hA, ← hR] at N0
    rw [← hR]
    clear hA hR hT hO
    go_enter Tryz.func79, Tryz.ntmps79
    go_wp2_with fail
    refine wp_region_seql (Below w.heap.size w) [21, 22] (.take 0 <| .take 1 <| .take 2 <| .take 3 <| .take 4 <| .take 5 <| .take 6 <| .take 7 <| .take 8 <| .take 9 <| .take 10 <| .take 11 <| .take 12 <| .take 13 <| .take 14 <| .take 15 <| .take 16 <| .take 17 <| .take 18 <| .take 19 <| .take 20 <| .run 21 <| .run 22 <| .done) (by kernel_rfl) (by kernel_rfl) (by kernel_rfl) (by (repeat' (first | exact Below.refl _ _ | assumption | refine Below.drew ?_ | refine below_drewN ?_ _ | refine Below.alloc ?_ (by simp <;> omega) _ | refine Below.setCell ?_ (by simp <;> omega) _))) ?_
    repeat (refine seql_take (v := ?_) rfl (by rfl) ?_ ?_; rotate_left; (focus (intro wS hS; have z0 := (hS.cell (p := ⟨b, 0, none⟩) hb).trans a0; have z1 := (hS.cell (p := ⟨b, 1, none⟩) hb).trans a1; have z2 := (hS.cell (p := ⟨b, 2, none⟩) hb).trans a2; have z3 := (hS.cell (p := ⟨b, 3, none⟩) hb).trans a3; have z5 := (hS.cell (p := ⟨b, 5, none⟩) hb).trans a5; have z8 := (hS.cell (p := ⟨b, 8, none⟩) hb).trans a8; have z9 := (hS.cell (p := ⟨b, 9, none⟩) hb).trans a9; go_simp; exact rfl)); simp only [Act.put, List.setIfInBounds_toArray, List.set_cons_zero, List.set_cons_succ])
    refine seql_late rfl rfl (by rfl) (fun K hK => ?_)
    go_simp
    refine N0.mono ?_
    rintro e w3 ⟨v', L, rfl, hT3, hO3, hL3, hk3⟩
    have hk3' : Keep (fun j => j < (resW w).heap.size ∧ j ≠ b) (resW w) w3 := by first | exact hk3 | exact (Keep.refl _ _).drew.trans hk3
    obtain ⟨st', ⟨E, V, l⟩⟩ := R
    simp only [] at hO3 hL3 ⊢
    obtain ⟨LA, Lc, rfl⟩ := own_slice hL3
    obtain ⟨r0, r1, r2, g0, g1, g2, rz⟩ := res_cells hk3' hb
    have HT3 := hide hT3
    have HO3 := hide hO3
    have HL3 := hide hL3
    have HK3 := hide hk3'
    clear hT3 hO3 hL3 hk3 hk3'
    refine hK _ _ ?_
    clear hK K
    refine seql_late rfl rfl (by rfl) (fun K hK => ?_)
    go_simp
    refine hK _ _ ?_
    clear hK K
    refine seql_nil ?_
    go_wp2
    refine bodyPost_ret (v := .agg #[.int .i64 E, .int .u64 V, .slice LA l.length Lc]) (by simp [results, Tryz.results79, go_sem, *]) rfl ?_
    exact act_fin (R := (st', ⟨E, V, l⟩)) hb HT3.out HO3.out HL3.out HK3.out (by (repeat' (first | exact Keep.refl _ _ | refine Keep.setCell ?_ (by simp) _ | refine Keep.drew ?_)))
  · obtain ⟨pp, hpp⟩ : ∃ pp : Nat, s.p = (pp : Int) := ⟨s.p.toNat, by omega⟩
    obtain ⟨tt, htt⟩ : ∃ tt : Nat, c.thread = (tt : Int) := ⟨c.thread.toNat, by omega⟩
    have hA : actM n s st c = partsM s.p s.q c.a c.b st c := by unfold actM; rw [if_neg (by omega), if_neg (by omega), if_neg (by omega), if_neg (by omega), if_neg (by omega), if_pos hk]
    have N0 : Calls Tryz.prog 149 #[.pointer (some ⟨b, 0, none⟩), .int .i64 s.p, .int .i64 s.q, .int .u64 c.a, .int .u64 c.b] ((resW w).drew) (ThPost n s c b B (partsM s.p s.q c.a c.b st c) ((resW w).drew)) := by
      have h := mparts_any pp tt s.q c.a c.b n s c b B v st ((resW w).drew) hTr hOr hBr (by omega) (by omega) htt (by omega) ha (by omega) (by omega) hk0 hk1 hu
      rw [← hpp] at h
      exact h
    clear hTr hOr hBr hk1 hsh hu hrt hpp htt
    obtain ⟨R, hR⟩ : ∃ R, R = actM n s st c := ⟨_, rfl⟩
    rw [← hA, ← hR] at N0
    rw [← hR]
    clear hA hR hT hO
    go_enter Tryz.func79, Tryz.ntmps79
    go_wp2_with fail
    refine wp_region_seql (Below w.heap.size w) [21, 22] (.take 0 <| .take 1 <| .take 2 <| .take 3 <| .take 4 <| .take 5 <| .take 6 <| .take 7 <| .take 8 <| .take 9 <| .take 10 <| .take 11 <| .take 12 <| .take 13 <| .take 14 <| .take 15 <| .take 16 <| .take 17 <| .take 18 <| .take 19 <| .take 20 <| .run 21 <| .run 22 <| .done) (by kernel_rfl) (by kernel_rfl) (by kernel_rfl) (by (repeat' (first | exact Below.refl _ _ | assumption | refine Below.drew ?_ | refine below_drewN ?_ _ | refine Below.alloc ?_ (by simp <;> omega) _ | refine Below.setCell ?_ (by simp <;> omega) _))) ?_
    repeat (refine seql_take (v := ?_) rfl (by rfl) ?_ ?_; rotate_left; (focus (intro wS hS; have z0 := (hS.cell (p := ⟨b, 0, none⟩) hb).trans a0; have z1 := (hS.cell (p := ⟨b, 1, none⟩) hb).trans a1; have z2 := (hS.cell (p := ⟨b, 2, none⟩) hb).trans a2; have z3 := (hS.cell (p := ⟨b, 3, none⟩) hb).trans a3; have z5 := (hS.cell (p := ⟨b, 5, none⟩) hb).trans a5; have z8 := (hS.cell (p := ⟨b, 8, none⟩) hb).trans a8; have z9 := (hS.cell (p := ⟨b, 9, none⟩) hb).trans a9; go_simp; exact rfl)); simp only [Act.put, List.setIfInBounds_toArray, List.set_cons_zero, List.set_cons_succ])
    refine seql_late rfl rfl (by rfl) (fun K hK => ?_)
    go_simp
    refine N0.mono ?_
    rintro e w3 ⟨v', L, rfl, hT3, hO3, hL3, hk3⟩
    have hk3' : Keep (fun j => j < (resW w).heap.size ∧ j ≠ b) (resW w) w3 := by first | exact hk3 | exact (Keep.refl _ _).drew.trans hk3
    obtain ⟨st', ⟨E, V, l⟩⟩ := R
    simp only [] at hO3 hL3 ⊢
    obtain ⟨LA, Lc, rfl⟩ := own_slice hL3
    obtain ⟨r0, r1, r2, g0, g1, g2, rz⟩ := res_cells hk3' hb
    have HT3 := hide hT3
    have HO3 := hide hO3
    have HL3 := hide hL3
    have HK3 := hide hk3'
    clear hT3 hO3 hL3 hk3 hk3'
    refine hK _ _ ?_
    clear hK K
    refine seql_late rfl rfl (by rfl) (fun K hK => ?_)
    go_simp
    refine hK _ _ ?_
    clear hK K
    refine seql_nil ?_
    go_wp2
    refine bodyPost_ret (v := .agg #[.int .i64 E, .int .u64 V, .slice LA l.length Lc]) (by simp [results, Tryz.results79, go_sem, *]) rfl ?_
    exact act_fin (R := (st', ⟨E, V, l⟩)) hb HT3.out HO3.out HL3.out HK3.out (by (repeat' (first | exact Keep.refl _ _ | refine Keep.setCell ?_ (by simp) _ | refine Keep.drew ?_)))
  · have hA : actM n s st c = sharedM s st c := by unfold actM; rw [if_neg (by omega), if_neg (by omega), if_neg (by omega), if_neg (by omega), if_neg (by omega), if_neg (by omega), if_pos hk]
    have hlen : st.length ≤ 9 := rightB17_len hsh.2
    have N0 := mshared_any n s c b B v st (resW w) hTr hOr hBr hsh.1 hlen hsh.2 ha hk0 hk1 hrt.2.1 hrt.2.2 hu
    clear hTr hOr hBr hk1 hsh hu hrt
    obtain ⟨R, hR⟩ : ∃ R, R = actM n s st c := ⟨_, rfl⟩
    rw [← hA, ← hR] at N0
    rw [← hR]
    clear hA hR hT hO
    go_enter Tryz.func79, Tryz.ntmps79
    go_wp2_with fail
    refine N0.mono ?_
    rintro e w3 ⟨v', L, rfl, hT3, hO3, hL3, hk3⟩
    have hk3' : Keep (fun j => j < (resW w).heap.size ∧ j ≠ b) (resW w) w3 := by first | exact hk3 | exact (Keep.refl _ _).drew.trans hk3
    obtain ⟨st', ⟨E, V, l⟩⟩ := R
    simp only [] at hO3 hL3 ⊢
    obtain ⟨LA, Lc, rfl⟩ := own_slice hL3
    obtain ⟨r0, r1, r2, g0, g1, g2, rz⟩ := res_cells hk3' hb
    have HT3 := hide hT3
    have HO3 := hide hO3
    have HL3 := hide hL3
    have HK3 := hide hk3'
    clear hT3 hO3 hL3 hk3 hk3'
    go_wp2
    refine bodyPost_ret (v := .agg #[.int .i64 E, .int .u64 V, .slice LA l.length Lc]) (by simp [results, Tryz.results79, go_sem, *]) rfl ?_
    exact act_fin (R := (st', ⟨E, V, l⟩)) hb HT3.out HO3.out HL3.out HK3.out (by (repeat' (first | exact Keep.refl _ _ | refine Keep.setCell ?_ (by simp) _ | refine Keep.drew ?_)))
  · have hA : actM n s st c = queueM st c := by unfold actM; rw [if_neg (by omega), if_neg (by omega), if_neg (by omega), if_neg (by omega), if_neg (by omega), if_neg (by omega), if_neg (by omega), if_pos hk]
    have N0 := mqueue_any n s c b B v st (resW w) hTr hOr hBr hl hsh ha hk0 hk1 ht0 (by omega)
    clear hTr hOr hBr hk1 hsh hu hrt
    obtain ⟨R, hR⟩ : ∃ R, R = actM n s st c := ⟨_, rfl⟩
    rw [← hA, ← hR] at N0
    rw [← hR]
    clear hA hR hT hO
    go_enter Tryz.func79, Tryz.ntmps79
    go_wp2_with fail
    refine N0.mono ?_
    rintro e w3 ⟨v', L, rfl, hT3, hO3, hL3, hk3⟩
    have hk3' : Keep (fun j => j < (resW w).heap.size ∧ j ≠ b) (resW w) w3 := by first | exact hk3 | exact (Keep.refl _ _).drew.trans hk3
    obtain ⟨st', ⟨E, V, l⟩⟩ := R
    simp only [] at hO3 hL3 ⊢
    obtain ⟨LA, Lc, rfl⟩ := own_slice hL3
    obtain ⟨r0, r1, r2, g0, g1, g2, rz⟩ := res_cells hk3' hb
    have HT3 := hide hT3
    have HO3 := hide hO3
    have HL3 := hide hL3
    have HK3 := hide hk3'
    clear hT3 hO3 hL3 hk3 hk3'
    go_wp2
    refine bodyPost_ret (v := .agg #[.int .i64 E, .int .u64 V, .slice LA l.length Lc]) (by simp [results, Tryz.results79, go_sem, *]) rfl ?_
    exact act_fin (R := (st', ⟨E, V, l⟩)) hb HT3.out HO3.out HL3.out HK3.out (by (repeat' (first | exact Keep.refl _ _ | refine Keep.setCell ?_ (by simp) _ | refine Keep.drew ?_)))
  · have hA : actM n s st c = pinM st c := by unfold actM; rw [if_neg (by omega), if_neg (by omega), if_neg (by omega), if_neg (by omega), if_neg (by omega), if_neg (by omega), if_neg (by omega), if_neg (by omega)]
    have N0 := mpin_any n s c b B v st (resW w) hTr hOr hBr (by omega) ha hk0 hk1
    clear hTr hOr hBr hk1 hsh hu hrt
    obtain ⟨R, hR⟩ : ∃ R, R = actM n s st c := ⟨_, rfl⟩
    rw [← hA, ← hR] at N0
    rw [← hR]
    clear hA hR hT hO
    go_enter Tryz.func79, Tryz.ntmps79
    go_wp2_with fail
    refine N0.mono ?_
    rintro e w3 ⟨v', L, rfl, hT3, hO3, hL3, hk3⟩
    have hk3' : Keep (fun j => j < (resW w).heap.size ∧ j ≠ b) (resW w) w3 := by first | exact hk3 | exact (Keep.refl _ _).drew.trans hk3
    obtain ⟨st', ⟨E, V, l⟩⟩ := R
    simp only [] at hO3 hL3 ⊢
    obtain ⟨LA, Lc, rfl⟩ := own_slice hL3
    obtain ⟨r0, r1, r2, g0, g1, g2, rz⟩ := res_cells hk3' hb
    have HT3 := hide hT3
    have HO3 := hide hO3
    have HL3 := hide hL3
    have HK3 := hide hk3'
    clear hT3 hO3 hL3 hk3 hk3'
    go_wp2
    refine bodyPost_ret (v := .agg #[.int .i64 E, .int .u64 V, .slice LA l.length Lc]) (by simp [results, Tryz.results79, go_sem, *]) rfl ?_
    exact act_fin (R := (st', ⟨E, V, l⟩)) hb HT3.out HO3.out HL3.out HK3.out (by (repeat' (first | exact Keep.refl _ _ | refine Keep.setCell ?_ (by simp) _ | refine Keep.drew ?_)))
end Go.Proofs.YtmiimpmfkjcjlaaGreat
