import Derived.Test.YtmiimpmfkjcjlaaGreatMo9
namespace Go.Proofs.YtmiimpmfkjcjlaaGreat
open Go.RowKit
attribute [local go_sem] run_store_fn run_store_nilfn
theorem owns_apart {w w' : World} {B : Nat} {e : TypeId} {sz : Nat} {v : Value} {n : Nat} {xs : List Value} (h : w.ownsRow B e sz v n xs) {r : Nat} {cs : Array Value} {t : TypeId} {fr : Nat × Nat} (hr : w.heap[r]? = some (.cells cs t fr)) (ht : t ≠ e) (hk : Keep (fun j => j ≠ r) w w') : w'.ownsRow B e sz v n xs := by
  obtain ⟨h1, h2 | ⟨g, cap, cur, e1, e2, e3, e4⟩⟩ := h
  · exact ⟨h1, Or.inl h2⟩
  · refine ⟨h1, Or.inr ⟨g, cap, cur, e1, e2, (hk.block g ?_).trans e3, e4⟩⟩
    intro hgr
    rw [hgr, hr] at e3
    cases e3
    exact ht rfl
theorem act_fin {n : Int} {s : Sp} {c : Cl} {b B : Nat} {R : List Int × An} {v' L : Value} {w w3 w' : World} (hb : b < w.heap.size) (hT : ThAt w3 b n s v' c) (hO : WOwn w3 B v' R.1.length R.1) (hL : WOwn w3 B L R.2.list.length R.2.list)
    (hk : Keep (fun j => j < (resW w).heap.size ∧ j ≠ b) (resW w) w3) (h' : Keep (fun j => j ≠ w.heap.size) w3 w') : ThPost n s c b B R w (.returned (.agg #[.int .i64 R.2.err, .int .u64 R.2.val, L])) w' := by
  have hr : w3.heap[w.heap.size]? = some (.cells #[.int .i64 0, .int .u64 0, .slice none 0 0] 57 (0, 0)) := (hk.block w.heap.size ⟨by simp, by omega⟩).trans (heap_alloc_new w _)
  refine ⟨v', L, rfl, hT.of_block (h'.block b (by omega)), owns_apart hO hr (by decide) h', owns_apart hL hr (by decide) h', ?_⟩
  exact ((Keep.refl (fun j => j < w.heap.size ∧ j ≠ b) w).alloc (fun k hk => hk.1) _).trans ((hk.mono (fun k hk => ⟨by have := hk.1; simp; omega, hk.2⟩)).trans (h'.mono (fun k hk => by have := hk.1; omega)))
theorem rightB17_len {p : Int} {k : Nat} (h : rightB17 p (k - 1) = true) : k ≤ 9 := by
  unfold rightB17 at h
  split at h
  · simp at h; omega
  · split at h
    · simp at h; omega
    · simp at h; omega
theorem bell1 {xs : List Int} (h : xs.length = 1) : ∃ x, xs = [x] := by
  match xs, h with
  | [x], _ => exact ⟨x, rfl⟩
set_option maxRecDepth 100000 in
set_option maxHeartbeats 4000000 in
theorem mact_any (n : Int) (s : Sp) (c : Cl) (b B : Nat) (v : Value) (st : List Int) (w : World) (hT : ThAt w b n s v c) (hO : WOwn w B v st.length st) (hBw : B ≤ w.heap.size) (hr : rightM n s st = true) (hl : st.length ≤ 10000)
    (ht0 : 0 ≤ c.thread) (ht1 : c.thread < n) (hk0 : 0 ≤ c.kind) (hk1 : c.kind < actsT s.kind s.p) (ha : U64 c.a) (_hb9 : U64 c.b) (hu : ∀ z ∈ st, U64 z) :
    Calls Tryz.prog 79 #[.pointer (some ⟨b, 0, none⟩)] w (ThPost n s c b B (actM n s st c) w) := by
  have hr' := hr
  unfold rightM at hr'
  simp only [Bool.and_eq_true, decide_eq_true_eq] at hr'
  obtain ⟨hE, hsh⟩ := hr'
  obtain ⟨⟨hn1, hn2⟩, ⟨hg1, hg2⟩, hrt⟩ := sizeE_zero hE
  obtain ⟨a0, a1, a2, a3, a4, a5, a6, a7, a8, a9, a10, f4, hb⟩ := hT.cells
  have hTr : ThAt (resW w) b n s v c := hT.of_block (heap_alloc_old w _ hb)
  have hOr : WOwn (resW w) B v st.length st := World.ownsRow.alloc hO _
  have hBr : B ≤ (resW w).heap.size := by simp; omega
  unfold shapeM at hsh
  clear hr hE
  rcases (by omega : s.kind = 0 ∨ s.kind = 1 ∨ s.kind = 2 ∨ s.kind = 3 ∨ s.kind = 4 ∨ s.kind = 5 ∨ s.kind = 6 ∨ s.kind = 7 ∨ s.kind = 8 ∨ s.kind = 9) with hk | hk | hk | hk | hk | hk | hk | hk | hk | hk
  all_goals
    rw [hk] at hrt hk1 a1 hsh
    simp [rightT, actsT, newM, hk] at hrt hk1 hsh
  · have hA : actM n s st c = cellM s st c := by unfold actM; rw [if_pos hk]
    have N0 := mcell_any n s c b B v st (resW w) hTr hOr hBr hrt.1 hrt.2 (by omega) ha hk0 hk1
    clear hTr hOr hBr hrt hk1 hsh hu
    obtain ⟨R, hR⟩ : ∃ R, R = actM n s st c := ⟨_, rfl⟩
    rw [← hA, ← hR] at N0
    rw [← hR]
    clear hA hR hT hO
    go_enter Tryz.func79, Tryz.ntmps79
    go_wp2_with fail
    refine N0.mono ?_
    rintro e w3 ⟨v', L, rfl, hT3, hO3, hL3, hk3⟩
    have hk3' : Keep (fun j => j < (resW w).heap.size ∧ j ≠ b) (resW w) w3 := by first | exact hk3 | exact (Keep.refl _ _).drew.trans hk3
    obtain ⟨st', ⟨E, V, l⟩⟩ := R
    simp only [] at hO3 hL3 ⊢
    obtain ⟨LA, Lc, rfl⟩ := own_slice hL3
    obtain ⟨r0, r1, r2, g0, g1, g2, rz⟩ := res_cells hk3' hb
    have HT3 := hide hT3
    have HO3 := hide hO3
    have HL3 := hide hL3
    have HK3 := hide hk3'
    clear hT3 hO3 hL3 hk3 hk3'
    go_wp2
    refine bodyPost_ret (v := .agg #[.int .i64 E, .int .u64 V, .slice LA l.length Lc]) (by simp [results, Tryz.results79, go_sem, *]) rfl ?_
    exact act_fin (R := (st', ⟨E, V, l⟩)) hb HT3.out HO3.out HL3.out HK3.out (by (repeat' (first | exact Keep.refl _ _ | refine Keep.setCell ?_ (by simp) _ | refine Keep.drew ?_)))
  · obtain ⟨x, rfl⟩ := bell1 hsh
    have hA : actM n s [x] c = consM [x] c := by unfold actM; rw [if_neg (by omega), if_pos hk]
    have N0 := mcons_any n s c b B v x (resW w) hTr hOr hBr ha (hu x (by simp)) hk0 hk1
    clear hTr hOr hBr hk1 hsh hu
    obtain ⟨R, hR⟩ : ∃ R, R = actM n s [x] c := ⟨_, rfl⟩
    rw [← hA, ← hR] at N0
    rw [← hR]
    clear hA hR hT hO
    go_enter Tryz.func79, Tryz.ntmps79
    go_wp2_with fail
    refine N0.mono ?_
    rintro e w3 ⟨v', L, rfl, hT3, hO3, hL3, hk3⟩
    have hk3' : Keep (fun j => j < (resW w).heap.size ∧ j ≠ b) (resW w) w3 := by first | exact hk3 | exact (Keep.refl _ _).drew.trans hk3
    obtain ⟨st', ⟨E, V, l⟩⟩ := R
    simp only [] at hO3 hL3 ⊢
    obtain ⟨LA, Lc, rfl⟩ := own_slice hL3
    obtain ⟨r0, r1, r2, g0, g1, g2, rz⟩ := res_cells hk3' hb
    have HT3 := hide hT3
    have HO3 := hide hO3
    have HL3 := hide hL3
    have HK3 := hide hk3'
    clear hT3 hO3 hL3 hk3 hk3'
    go_wp2
    refine bodyPost_ret (v := .agg #[.int .i64 E, .int .u64 V, .slice LA l.length Lc]) (by simp [results, Tryz.results79, go_sem, *]) rfl ?_
    exact act_fin (R := (st', ⟨E, V, l⟩)) hb HT3.out HO3.out HL3.out HK3.out (by (repeat' (first | exact Keep.refl _ _ | refine Keep.setCell ?_ (by simp) _ | refine Keep.drew ?_)))
  · obtain ⟨x, rfl⟩ := bell1 hsh
    have hA : actM n s [x] c = numM s [x] c := by unfold actM; rw [if_neg (by omega), if_neg (by omega), if_pos (Or.inl hk)]
    have N0 := mnum_any n s c b B v x (resW w) hTr hOr hBr ha (hu x (by simp)) hk0 (Or.inl ⟨hk, hk1⟩)
    clear hTr hOr hBr hk1 hsh hu
    obtain ⟨R, hR⟩ : ∃ R, R = actM n s [x] c := ⟨_, rfl⟩
    rw [← hA, ← hR] at N0
    rw [← hR]
    clear hA hR hT hO
    go_enter Tryz.func79, Tryz.ntmps79
    go_wp2_with fail
    refine N0.mono ?_
    rintro e w3 ⟨v', L, rfl, hT3, hO3, hL3, hk3⟩
    have hk3' : Keep (fun j => j < (resW w).heap.size ∧ j ≠ b) (resW w) w3 := by first | exact hk3 | exact (Keep.refl _ _).drew.trans hk3
    obtain ⟨st', ⟨E, V, l⟩⟩ := R
    simp only [] at hO3 hL3 ⊢
    obtain ⟨LA, Lc, rfl⟩ := own_slice hL3
    obtain ⟨r0, r1, r2, g0, g1, g2, rz⟩ := res_cells hk3' hb
    have HT3 := hide hT3
    have HO3 := hide hO3
    have HL3 := hide hL3
    have HK3 := hide hk3'
    clear hT3 hO3 hL3 hk3 hk3'
    go_wp2
    refine bodyPost_ret (v := .agg #[.int .i64 E, .int .u64 V, .slice LA l.length Lc]) (by simp [results, Tryz.results79, go_sem, *]) rfl ?_
    exact act_fin (R := (st', ⟨E, V, l⟩)) hb HT3.out HO3.out HL3.out HK3.out (by (repeat' (first | exact Keep.refl _ _ | refine Keep.setCell ?_ (by simp) _ | refine Keep.drew ?_)))
  · obtain ⟨x, rfl⟩ := bell1 hsh
    have hA : actM n s [x] c = numM s [x] c := by unfold actM; rw [if_neg (by omega), if_neg (by omega), if_pos (Or.inr hk)]
    have N0 := mnum_any n s c b B v x (resW w) hTr hOr hBr ha (hu x (by simp)) hk0 (Or.inr ⟨hk, hk1⟩)
    clear hTr hOr hBr hk1 hsh hu
    obtain ⟨R, hR⟩ : ∃ R, R = actM n s [x] c := ⟨_, rfl⟩
    rw [← hA, ← hR] at N0
    rw [← hR]
    clear hA hR hT hO
    go_enter Tryz.func79, Tryz.ntmps79
    go_wp2_with fail
    refine N0.mono ?_
    rintro e w3 ⟨v', L, rfl, hT3, hO3, hL3, hk3⟩
    have hk3' : Keep (fun j => j < (resW w).heap.size ∧ j ≠ b) (resW w) w3 := by first | exact hk3 | exact (Keep.refl _ _).drew.trans hk3
    obtain ⟨st', ⟨E, V, l⟩⟩ := R
    simp only [] at hO3 hL3 ⊢
    obtain ⟨LA, Lc, rfl⟩ := own_slice hL3
    obtain ⟨r0, r1, r2, g0, g1, g2, rz⟩ := res_cells hk3' hb
    have HT3 := hide hT3
    have HO3 := hide hO3
    have HL3 := hide hL3
    have HK3 := hide hk3'
    clear hT3 hO3 hL3 hk3 hk3'
    go_wp2
    refine bodyPost_ret (v := .agg #[.int .i64 E, .int .u64 V, .slice LA l.length Lc]) (by simp [results, Tryz.results79, go_sem, *]) rfl ?_
    exact act_fin (R := (st', ⟨E, V, l⟩)) hb HT3.out HO3.out HL3.out HK3.out (by (repeat' (first | exact Keep.refl _ _ | refine Keep.setCell ?_ (by simp) _ | refine Keep.drew ?_)))
  · obtain ⟨x, rfl⟩ := bell1 hsh
    have hA : actM n s [x] c = maxM s [x] c := by unfold actM; rw [if_neg (by omega), if_neg (by omega), if_neg (by omega), if_pos hk]
    have N0 := mmax_any n s c b B v x (resW w) hTr hOr hBr ha (hu x (by simp)) hk0 hk1 hrt.1 hrt.2
    clear hTr hOr hBr hk1 hsh hu hrt
    obtain ⟨R, hR⟩ : ∃ R, R = actM n s [x] c := ⟨_, rfl⟩
    rw [← hA, ← hR] at N0
    rw [← hR]
    clear hA hR hT hO
    go_enter Tryz.func79, Tryz.ntmps79
    go_wp2_with fail
    refine N0.mono ?_
    rintro e w3 ⟨v', L, rfl, hT3, hO3, hL3, hk3⟩
    have hk3' : Keep (fun j => j < (resW w).heap.size ∧ j ≠ b) (resW w) w3 := by first | exact hk3 | exact (Keep.refl _ _).drew.trans hk3
    obtain ⟨st', ⟨E, V, l⟩⟩ := R
    simp only [] at hO3 hL3 ⊢
    obtain ⟨LA, Lc, rfl⟩ := own_slice hL3
    obtain ⟨r0, r1, r2, g0, g1, g2, rz⟩ := res_cells hk3' hb
    have HT3 := hide hT3
    have HO3 := hide hO3
    have HL3 := hide hL3
    have HK3 := hide hk3'
    clear hT3 hO3 hL3 hk3 hk3'
    go_wp2
    refine bodyPost_ret (v := .agg #[.int .i64 E, .int .u64 V, .slice LA l.length Lc]) (by simp [results, Tryz.results79, go_sem, *]) rfl ?_
    exact act_fin (R := (st', ⟨E, V, l⟩)) hb HT3.out HO3.out HL3.out HK3.out (by (repeat' (first | exact Keep.refl _ _ | refine Keep.setCell ?_ (by simp) _ | refine Keep.drew ?_)))
  · obtain ⟨nn, hnn⟩ : ∃ nn : Nat, n = (nn : Int) := ⟨n.toNat, by omega⟩
    obtain ⟨tt, htt⟩ : ∃ tt : Nat, c.thread = (tt : Int) := ⟨c.thread.toNat, by omega⟩
    have hA : actM n s st c = partsM n s.p c.thread c.a st c := by unfold actM; rw [if_neg (by omega), if_neg (by omega), if_neg (by omega), if_neg (by omega), if_pos hk]
    have hw : IntKind.u64.wrap c.thread = c.thread := by rw [IntKind.wrap_u64]; omega
    have N0 : Calls Tryz.prog 149 #[.pointer (some ⟨b, 0, none⟩), .int .i64 n, .int .i64 s.p, .int .u64 (IntKind.u64.wrap c.thread), .int .u64 c.a] ((resW w).drew) (ThPost n s c b B (partsM n s.p c.thread c.a st c) ((resW w).drew)) := by
      rw [hw]
      have h := mparts_any nn tt s.p c.thread c.a n s c b B v st ((resW w).drew) hTr hOr hBr (by omega) (by omega) htt (by omega) ⟨by omega, by omega⟩ (by omega) (by omega) hk0 hk1 hu
      rw [← hnn] at h
      exact h
    clear hTr hOr hBr hk1 hsh hu hrt hnn htt hw
    obtain ⟨R, hR⟩ : ∃ R, R = actM n s st c := ⟨_, rfl⟩
    rw [← hA, ← hR] at N0
    rw [← hR]
    clear hA hR hT hO
    go_enter Tryz.func79, Tryz.ntmps79
    go_wp2_with fail
    refine wp_region_seql (Below w.heap.size w) [21, 22] (.take 0 <| .take 1 <| .take 2 <| .take 3 <| .take 4 <| .take 5 <| .take 6 <| .take 7 <| .take 8 <| .take 9 <| .take 10 <| .take 11 <| .take 12 <| .take 13 <| .take 14 <| .take 15 <| .take 16 <| .take 17 <| .take 18 <| .take 19 <| .take 20 <| .run 21 <| .run 22 <| .done) (by kernel_rfl) (by kernel_rfl) (by kernel_rfl) (by (repeat' (first | exact Below.refl _ _ | assumption | refine Below.drew ?_ | refine below_drewN ?_ _ | refine Below.alloc ?_ (by simp <;> omega) _ | refine Below.setCell ?_ (by simp <;> omega) _))) ?_
    repeat (refine seql_take (v := ?_) rfl (by rfl) ?_ ?_; rotate_left; (focus (intro wS hS; have z0 := (hS.cell (p := ⟨b, 0, none⟩) hb).trans a0; have z1 := (hS.cell (p := ⟨b, 1, none⟩) hb).trans a1; have z2 := (hS.cell (p := ⟨b, 2, none⟩) hb).trans a2; have z3 := (hS.cell (p := ⟨b, 3, none⟩) hb).trans a3; have z5 := (hS.cell (p := ⟨b, 5, none⟩) hb).trans a5; have z8 := (hS.cell (p := ⟨b, 8, none⟩) hb).trans a8; have z9 := (hS.cell (p := ⟨b, 9, none⟩) hb).trans a9; go_simp; exact rfl)); simp only [Act.put, sqA, sqB, sqC])
    refine seql_late rfl rfl (by rfl) (fun K hK => ?_)
    go_simp
    refine N0.mono ?_
    rintro e w3 ⟨v', L, rfl, hT3, hO3, hL3, hk3⟩
    have hk3' : Keep (fun j => j < (resW w).heap.size ∧ j ≠ b) (resW w) w3 := by first | exact hk3 | exact (Keep.refl _ _).drew.trans hk3
    obtain ⟨st', ⟨E, V, l⟩⟩ := R
    simp only [] at hO3 hL3 ⊢
    obtain ⟨LA, Lc, rfl⟩ := own_slice hL3
    obtain ⟨r0, r1, r2, g0, g1, g2, rz⟩ := res_cells hk3' hb
    have HT3 := hide hT3
    have HO3 := hide hO3
    have HL3 := hide hL3
    have HK3 := hide hk3'
    clear hT3 hO3 hL3 hk3 hk3'
    refine hK _ _ ?_
    clear hK K
    refine seql_late rfl rfl (by rfl) (fun K hK => ?_)
    go_simp
    refine hK _ _ ?_
    clear hK K
    refine seql_nil ?_
    go_wp2
    refine bodyPost_ret (v := .agg #[.int .i64 E, .int .u64 V, .slice LA l.length Lc]) (by simp [results, Tryz.results79, go_sem, *]) rfl ?_
    exact act_fin (R := (st', ⟨E, V, l⟩)) hb HT3.out HO3.out HL3.out HK3.out (by (repeat' (first | exact Keep.refl _ _ | refine Keep.setCell ?_ (by simp) _ | refine Keep.drew ?_)))
  · obtain ⟨pp, hpp⟩ : ∃ pp : Nat, s.p = (pp : Int) := ⟨s.p.toNat, by omega⟩
    obtain ⟨tt, htt⟩ : ∃ tt : Nat, c.thread = (tt : Int) := ⟨c.thread.toNat, by omega⟩
    have hA : actM n s st c = partsM s.p s.q c.a c.b st c := by unfold actM; rw [if_neg (by omega), if_neg (by omega), if_neg (by omega), if_neg (by omega), if_neg (by omega), if_pos hk]
    have N0 : Calls Tryz.prog 149 #[.pointer (some ⟨b, 0, none⟩), .int .i64 s.p, .int .i64 s.q, .int .u64 c.a, .int .u64 c.b] ((resW w).drew) (ThPost n s c b B (partsM s.p s.q c.a c.b st c) ((resW w).drew)) := by
      have h := mparts_any pp tt s.q c.a c.b n s c b B v st ((resW w).drew) hTr hOr hBr (by omega) (by omega) htt (by omega) ha (by omega) (by omega) hk0 hk1 hu
      rw [← hpp] at h
      exact h
    clear hTr hOr hBr hk1 hsh hu hrt hpp htt
    obtain ⟨R, hR⟩ : ∃ R, R = actM n s st c := ⟨_, rfl⟩
    rw [← hA, ← hR] at N0
    rw [← hR]
    clear hA hR hT hO
    go_enter Tryz.func79, Tryz.ntmps79
    go_wp2_with fail
    refine wp_region_seql (Below w.heap.size w) [21, 22] (.take 0 <| .take 1 <| .take 2 <| .take 3 <| .take 4 <| .take 5 <| .take 6 <| .take 7 <| .take 8 <| .take 9 <| .take 10 <| .take 11 <| .take 12 <| .take 13 <| .take 14 <| .take 15 <| .take 16 <| .take 17 <| .take 18 <| .take 19 <| .take 20 <| .run 21 <| .run 22 <| .done) (by kernel_rfl) (by kernel_rfl) (by kernel_rfl) (by (repeat' (first | exact Below.refl _ _ | assumption | refine Below.drew ?_ | refine below_drewN ?_ _ | refine Below.alloc ?_ (by simp <;> omega) _ | refine Below.setCell ?_ (by simp <;> omega) _))) ?_
    repeat (refine seql_take (v := ?_) rfl (by rfl) ?_ ?_; rotate_left; (focus (intro wS hS; have z0 := (hS.cell (p := ⟨b, 0, none⟩) hb).trans a0; have z1 := (hS.cell (p := ⟨b, 1, none⟩) hb).trans a1; have z2 := (hS.cell (p := ⟨b, 2, none⟩) hb).trans a2; have z3 := (hS.cell (p := ⟨b, 3, none⟩) hb).trans a3; have z5 := (hS.cell (p := ⟨b, 5, none⟩) hb).trans a5; have z8 := (hS.cell (p := ⟨b, 8, none⟩) hb).trans a8; have z9 := (hS.cell (p := ⟨b, 9, none⟩) hb).trans a9; go_simp; exact rfl)); simp only [Act.put, sqA, sqB, sqC])
    refine seql_late rfl rfl (by rfl) (fun K hK => ?_)
    go_simp
    refine N0.mono ?_
    rintro e w3 ⟨v', L, rfl, hT3, hO3, hL3, hk3⟩
    have hk3' : Keep (fun j => j < (resW w).heap.size ∧ j ≠ b) (resW w) w3 := by first | exact hk3 | exact (Keep.refl _ _).drew.trans hk3
    obtain ⟨st', ⟨E, V, l⟩⟩ := R
    simp only [] at hO3 hL3 ⊢
    obtain ⟨LA, Lc, rfl⟩ := own_slice hL3
    obtain ⟨r0, r1, r2, g0, g1, g2, rz⟩ := res_cells hk3' hb
    have HT3 := hide hT3
    have HO3 := hide hO3
    have HL3 := hide hL3
    have HK3 := hide hk3'
    clear hT3 hO3 hL3 hk3 hk3'
    refine hK _ _ ?_
    clear hK K
    refine seql_late rfl rfl (by rfl) (fun K hK => ?_)
    go_simp
    refine hK _ _ ?_
    clear hK K
    refine seql_nil ?_
    go_wp2
    refine bodyPost_ret (v := .agg #[.int .i64 E, .int .u64 V, .slice LA l.length Lc]) (by simp [results, Tryz.results79, go_sem, *]) rfl ?_
    exact act_fin (R := (st', ⟨E, V, l⟩)) hb HT3.out HO3.out HL3.out HK3.out (by (repeat' (first | exact Keep.refl _ _ | refine Keep.setCell ?_ (by simp) _ | refine Keep.drew ?_)))
  · have hA : actM n s st c = sharedM s st c := by unfold actM; rw [if_neg (by omega), if_neg (by omega), if_neg (by omega), if_neg (by omega), if_neg (by omega), if_neg (by omega), if_pos hk]
    have hlen : st.length ≤ 9 := rightB17_len hsh.2
    have N0 := mshared_any n s c b B v st (resW w) hTr hOr hBr hsh.1 hlen hsh.2 ha hk0 hk1 hrt.2.1 hrt.2.2 hu
    clear hTr hOr hBr hk1 hsh hu hrt
    obtain ⟨R, hR⟩ : ∃ R, R = actM n s st c := ⟨_, rfl⟩
    rw [← hA, ← hR] at N0
    rw [← hR]
    clear hA hR hT hO
    go_enter Tryz.func79, Tryz.ntmps79
    go_wp2_with fail
    refine N0.mono ?_
    rintro e w3 ⟨v', L, rfl, hT3, hO3, hL3, hk3⟩
    have hk3' : Keep (fun j => j < (resW w).heap.size ∧ j ≠ b) (resW w) w3 := by first | exact hk3 | exact (Keep.refl _ _).drew.trans hk3
    obtain ⟨st', ⟨E, V, l⟩⟩ := R
    simp only [] at hO3 hL3 ⊢
    obtain ⟨LA, Lc, rfl⟩ := own_slice hL3
    obtain ⟨r0, r1, r2, g0, g1, g2, rz⟩ := res_cells hk3' hb
    have HT3 := hide hT3
    have HO3 := hide hO3
    have HL3 := hide hL3
    have HK3 := hide hk3'
    clear hT3 hO3 hL3 hk3 hk3'
    go_wp2
    refine bodyPost_ret (v := .agg #[.int .i64 E, .int .u64 V, .slice LA l.length Lc]) (by simp [results, Tryz.results79, go_sem, *]) rfl ?_
    exact act_fin (R := (st', ⟨E, V, l⟩)) hb HT3.out HO3.out HL3.out HK3.out (by (repeat' (first | exact Keep.refl _ _ | refine Keep.setCell ?_ (by simp) _ | refine Keep.drew ?_)))
  · have hA : actM n s st c = queueM st c := by unfold actM; rw [if_neg (by omega), if_neg (by omega), if_neg (by omega), if_neg (by omega), if_neg (by omega), if_neg (by omega), if_neg (by omega), if_pos hk]
    have N0 := mqueue_any n s c b B v st (resW w) hTr hOr hBr hl hsh ha hk0 hk1 ht0 (by omega)
    clear hTr hOr hBr hk1 hsh hu hrt
    obtain ⟨R, hR⟩ : ∃ R, R = actM n s st c := ⟨_, rfl⟩
    rw [← hA, ← hR] at N0
    rw [← hR]
    clear hA hR hT hO
    go_enter Tryz.func79, Tryz.ntmps79
    go_wp2_with fail
    refine N0.mono ?_
    rintro e w3 ⟨v', L, rfl, hT3, hO3, hL3, hk3⟩
    have hk3' : Keep (fun j => j < (resW w).heap.size ∧ j ≠ b) (resW w) w3 := by first | exact hk3 | exact (Keep.refl _ _).drew.trans hk3
    obtain ⟨st', ⟨E, V, l⟩⟩ := R
    simp only [] at hO3 hL3 ⊢
    obtain ⟨LA, Lc, rfl⟩ := own_slice hL3
    obtain ⟨r0, r1, r2, g0, g1, g2, rz⟩ := res_cells hk3' hb
    have HT3 := hide hT3
    have HO3 := hide hO3
    have HL3 := hide hL3
    have HK3 := hide hk3'
    clear hT3 hO3 hL3 hk3 hk3'
    go_wp2
    refine bodyPost_ret (v := .agg #[.int .i64 E, .int .u64 V, .slice LA l.length Lc]) (by simp [results, Tryz.results79, go_sem, *]) rfl ?_
    exact act_fin (R := (st', ⟨E, V, l⟩)) hb HT3.out HO3.out HL3.out HK3.out (by (repeat' (first | exact Keep.refl _ _ | refine Keep.setCell ?_ (by simp) _ | refine Keep.drew ?_)))
  · have hA : actM n s st c = pinM st c := by unfold actM; rw [if_neg (by omega), if_neg (by omega), if_neg (by omega), if_neg (by omega), if_neg (by omega), if_neg (by omega), if_neg (by omega), if_neg (by omega)]
    have N0 := mpin_any n s c b B v st (resW w) hTr hOr hBr (by omega) ha hk0 hk1
    clear hTr hOr hBr hk1 hsh hu hrt
    obtain ⟨R, hR⟩ : ∃ R, R = actM n s st c := ⟨_, rfl⟩
    rw [← hA, ← hR] at N0
    rw [← hR]
    clear hA hR hT hO
    go_enter Tryz.func79, Tryz.ntmps79
    go_wp2_with fail
    refine N0.mono ?_
    rintro e w3 ⟨v', L, rfl, hT3, hO3, hL3, hk3⟩
    have hk3' : Keep (fun j => j < (resW w).heap.size ∧ j ≠ b) (resW w) w3 := by first | exact hk3 | exact (Keep.refl _ _).drew.trans hk3
    obtain ⟨st', ⟨E, V, l⟩⟩ := R
    simp only [] at hO3 hL3 ⊢
    obtain ⟨LA, Lc, rfl⟩ := own_slice hL3
    obtain ⟨r0, r1, r2, g0, g1, g2, rz⟩ := res_cells hk3' hb
    have HT3 := hide hT3
    have HO3 := hide hO3
    have HL3 := hide hL3
    have HK3 := hide hk3'
    clear hT3 hO3 hL3 hk3 hk3'
    go_wp2
    refine bodyPost_ret (v := .agg #[.int .i64 E, .int .u64 V, .slice LA l.length Lc]) (by simp [results, Tryz.results79, go_sem, *]) rfl ?_
    exact act_fin (R := (st', ⟨E, V, l⟩)) hb HT3.out HO3.out HL3.out HK3.out (by (repeat' (first | exact Keep.refl _ _ | refine Keep.setCell ?_ (by simp) _ | refine Keep.drew ?_)))
end Go.Proofs.YtmiimpmfkjcjlaaGreat

namespace Go.Proofs.YtmiimpmfkjcjlaaGreat
open Go.RowKit
attribute [local go_sem] run_store_fn run_store_nilfn
set_option maxRecDepth 100000 in
set_option maxHeartbeats 1000000 in
theorem mright_7 (n p q : Int) (A : Option Addr) (m vc : Nat) (st : List Int) (w : World) (h : SlW w (.slice A m vc) st) (hm : st.length = m) (hl : (m : Int) ≤ 9223372036854775807) (hE : sizeE n ⟨7, p, q⟩ = 0) :
    Calls Tryz.prog 11 #[.int .i64 n, .agg #[.int .i64 7, .int .i64 p, .int .i64 q], .slice A m vc] w fun e w' => e = .returned (.bool (decide (0 < m) && rightB17 p (m - 1))) ∧ Below w.heap.size w w' := by
  have N0 : ∀ W, Calls Tryz.prog 9 #[.int .i64 n, .agg #[.int .i64 7, .int .i64 p, .int .i64 q]] W (NewMPost n ⟨7, p, q⟩ W) := fun W => modelNew n ⟨7, p, q⟩ W
  unfold NewMPost at N0
  have hm63 : (m : Int) ≤ 9223372036854775807 := hl
  have HNL := newM_len n _ hE
  rw [hE] at N0
  simp only [ne_eq, not_true_eq_false, false_and, false_or, true_and] at N0
  generalize newM n ⟨7, p, q⟩ = NL at *
  by_cases h0 : m = 0
  · subst h0
    clear hE HNL
    go_enter Tryz.func11, Tryz.ntmps11
    go_wp2_with fail
    refine (N0 _).mono ?_
    rintro e w1 ⟨v, rfl, _, hb⟩
    have hbx : Below (w.heap.size + 1) (w.alloc (.cells #[.int .i64 7, .int .i64 p, .int .i64 q] 23)) w1 := hb.mono (by simp)
    obtain ⟨s0, s1, s2, _⟩ := cells3 ((hbx.block w.heap.size (by simp)).trans (heap_alloc_new _ _))
    have HB1 : Hid (Below w.heap.size w w1) := hide (((Below.refl _ w).alloc (Nat.le_refl _) _).trans (hbx.mono (by simp)))
    have hz1 : w.heap.size < w1.heap.size := by have := hbx.size; simp at this; omega
    clear hb hbx
    go_wp2_with fail
    refine wp_region_seq (Below w1.heap.size w1) (.take 0 <| .take 1 <| .take 2 <| .take 3 <| .take 4 <| .take 5 <| .take 6 <| .take 7 <| .run 8 <| .take 9 <| .take 10 <| .done) (by kernel_rfl) (by kernel_rfl) (by kernel_rfl) (by (repeat' (first | exact Below.refl _ _ | assumption | refine Below.drew ?_ | refine below_drewN ?_ _ | refine Below.alloc ?_ (by simp <;> omega) _ | refine Below.setCell ?_ (by simp <;> omega) _))) ?_
    repeat (first | (refine seq_take (v := ?_) rfl (by rfl) ?_ ?_; rotate_left; (focus (intro wS hS; have z0 := (hS.cell (p := ⟨w.heap.size, 0, none⟩) hz1).trans s0; have z1 := (hS.cell (p := ⟨w.heap.size, 1, none⟩) hz1).trans s1; go_simp; exact rfl)); simp only [Act.put, sqA, sqB, sqC]) | (refine seq_skip rfl (by rfl) ?_; simp only [Act.put, sqA, sqB, sqC]))
    refine seq_pass rfl (by rfl) (by (repeat' (first | exact Below.refl _ _ | assumption | refine Below.drew ?_ | refine below_drewN ?_ _ | refine Below.alloc ?_ (by simp <;> omega) _ | refine Below.setCell ?_ (by simp <;> omega) _))) ?_
    simp only [Act.put, sqA, sqB, sqC]
    repeat (first | (refine seq_take (v := ?_) rfl (by rfl) ?_ ?_; rotate_left; (focus (intro wS hS; have z0 := (hS.cell (p := ⟨w.heap.size, 0, none⟩) hz1).trans s0; have z1 := (hS.cell (p := ⟨w.heap.size, 1, none⟩) hz1).trans s1; go_simp; exact rfl)); simp only [Act.put, sqA, sqB, sqC]) | (refine seq_skip rfl (by rfl) ?_; simp only [Act.put, sqA, sqB, sqC]))
    refine seq_nil ?_
    go_wp2
    go_ret
    exact ⟨ret_bool (by simp), by have := HB1.out; (repeat' (first | exact Below.refl _ _ | assumption | refine Below.drew ?_ | refine below_drewN ?_ _ | refine Below.alloc ?_ (by simp <;> omega) _ | refine Below.setCell ?_ (by simp <;> omega) _))⟩
  · have hm0 : 0 < m := by omega
    have q0 : (0 : Int) < (m : Int) := by omega
    have q1 : (1 : Int) ≤ (m : Int) := by omega
    have d0 : decide ((0 : Int) < (m : Int)) = true := by simpa using hm0
    have e0 : decide (0 < m) = true := by simpa using hm0
    rw [e0, Bool.true_and]
    obtain ⟨x, hx⟩ : ∃ x, st[0]? = some x := ⟨_, List.getElem?_eq_getElem (by omega)⟩
    obtain ⟨sb, so, rfl, _, hsb⟩ := sl_at h 0 x hx
    have hsl0 := h
    obtain ⟨X, hX, hXs⟩ := sl_drop (k := 1) h (by omega)
    unfold sliced at hX
    have hdl : (st.drop 1).length = m - 1 := by rw [List.length_drop, hm]
    have hvm : m ≤ vc := by obtain ⟨_, _, e, h1, _⟩ := h; cases e; omega
    by_cases hvc : vc = 1
    · rw [if_pos hvc] at hX
      subst hvc
      obtain rfl : m = 1 := by omega
      subst hX
      clear h0 e0 hx
      have N1 := fun v W (h : SlW W v (st.drop 1)) => right_any v (st.drop 1) p W h
      rw [hdl] at N1
      have HX := hide hXs
      have HM := hide hm
      clear hXs hE HNL hdl hsl0 h
      go_enter Tryz.func11, Tryz.ntmps11
      go_wp2_with fail
      refine (N0 _).mono ?_
      rintro e w1 ⟨v, rfl, _, hb⟩
      have hbx : Below (w.heap.size + 1) (w.alloc (.cells #[.int .i64 7, .int .i64 p, .int .i64 q] 23)) w1 := hb.mono (by simp)
      obtain ⟨s0, s1, s2, _⟩ := cells3 ((hbx.block w.heap.size (by simp)).trans (heap_alloc_new _ _))
      have HB1 : Hid (Below w.heap.size w w1) := hide (((Below.refl _ w).alloc (Nat.le_refl _) _).trans (hbx.mono (by simp)))
      have hz1 : w.heap.size < w1.heap.size := by have := hbx.size; simp at this; omega
      clear hb hbx
      go_wp2_with fail
      refine wp_region_seq (Below w1.heap.size w1) (.take 0 <| .take 1 <| .take 2 <| .take 3 <| .take 4 <| .take 5 <| .take 6 <| .take 7 <| .run 8 <| .take 9 <| .take 10 <| .done) (by kernel_rfl) (by kernel_rfl) (by kernel_rfl) (by (repeat' (first | exact Below.refl _ _ | assumption | refine Below.drew ?_ | refine below_drewN ?_ _ | refine Below.alloc ?_ (by simp <;> omega) _ | refine Below.setCell ?_ (by simp <;> omega) _))) ?_
      repeat (first | (refine seq_take (v := ?_) rfl (by rfl) ?_ ?_; rotate_left; (focus (intro wS hS; have z0 := (hS.cell (p := ⟨w.heap.size, 0, none⟩) hz1).trans s0; have z1 := (hS.cell (p := ⟨w.heap.size, 1, none⟩) hz1).trans s1; go_simp; exact rfl)); simp only [Act.put, sqA, sqB, sqC]) | (refine seq_skip rfl (by rfl) ?_; simp only [Act.put, sqA, sqB, sqC]))
      refine seq_run rfl (by rfl) (fun K hK => ?_)
      go_simp
      refine (N1 _ _ ?_).mono ?_
      · exact HX.out.below HB1.out.drew (Nat.le_refl _)
      rintro e w2 ⟨rfl, hb2⟩
      have hB2 : Below w1.heap.size w1 w2 := (Below.refl _ _).drew.trans (hb2.mono (by simp))
      refine hK _ _ hB2 ?_
      clear hK K
      repeat (first | (refine seq_take (v := ?_) rfl (by rfl) ?_ ?_; rotate_left; (focus (intro wS hS; have z0 := (hS.cell (p := ⟨w.heap.size, 0, none⟩) hz1).trans s0; have z1 := (hS.cell (p := ⟨w.heap.size, 1, none⟩) hz1).trans s1; go_simp; exact rfl)); simp only [Act.put, sqA, sqB, sqC]) | (refine seq_skip rfl (by rfl) ?_; simp only [Act.put, sqA, sqB, sqC]))
      refine seq_nil ?_
      have HB2 : Hid (Below w.heap.size w w2) := hide (HB1.out.trans (hB2.mono (by omega)))
      clear hb2 hB2
      go_wp2
      go_ret
      exact ⟨ret_bool (by first | rfl | simp), HB2.out⟩
    · rw [if_neg hvc] at hX
      simp only [Option.map_some, Addr.add, Nat.mul_one] at hX
      rw [if_neg (by omega)] at hX
      subst hX
      clear h0 e0 hx
      have N1 := fun v W (h : SlW W v (st.drop 1)) => right_any v (st.drop 1) p W h
      rw [hdl] at N1
      have HX := hide hXs
      have HM := hide hm
      clear hXs hE HNL hdl hsl0 h
      go_enter Tryz.func11, Tryz.ntmps11
      go_wp2_with fail
      refine (N0 _).mono ?_
      rintro e w1 ⟨v, rfl, _, hb⟩
      have hbx : Below (w.heap.size + 1) (w.alloc (.cells #[.int .i64 7, .int .i64 p, .int .i64 q] 23)) w1 := hb.mono (by simp)
      obtain ⟨s0, s1, s2, _⟩ := cells3 ((hbx.block w.heap.size (by simp)).trans (heap_alloc_new _ _))
      have HB1 : Hid (Below w.heap.size w w1) := hide (((Below.refl _ w).alloc (Nat.le_refl _) _).trans (hbx.mono (by simp)))
      have hz1 : w.heap.size < w1.heap.size := by have := hbx.size; simp at this; omega
      clear hb hbx
      go_wp2_with fail
      refine wp_region_seq (Below w1.heap.size w1) (.take 0 <| .take 1 <| .take 2 <| .take 3 <| .take 4 <| .take 5 <| .take 6 <| .take 7 <| .run 8 <| .take 9 <| .take 10 <| .done) (by kernel_rfl) (by kernel_rfl) (by kernel_rfl) (by (repeat' (first | exact Below.refl _ _ | assumption | refine Below.drew ?_ | refine below_drewN ?_ _ | refine Below.alloc ?_ (by simp <;> omega) _ | refine Below.setCell ?_ (by simp <;> omega) _))) ?_
      repeat (first | (refine seq_take (v := ?_) rfl (by rfl) ?_ ?_; rotate_left; (focus (intro wS hS; have z0 := (hS.cell (p := ⟨w.heap.size, 0, none⟩) hz1).trans s0; have z1 := (hS.cell (p := ⟨w.heap.size, 1, none⟩) hz1).trans s1; go_simp; exact rfl)); simp only [Act.put, sqA, sqB, sqC]) | (refine seq_skip rfl (by rfl) ?_; simp only [Act.put, sqA, sqB, sqC]))
      refine seq_run rfl (by rfl) (fun K hK => ?_)
      go_simp
      refine (N1 _ _ ?_).mono ?_
      · exact HX.out.below HB1.out.drew (Nat.le_refl _)
      rintro e w2 ⟨rfl, hb2⟩
      have hB2 : Below w1.heap.size w1 w2 := (Below.refl _ _).drew.trans (hb2.mono (by simp))
      refine hK _ _ hB2 ?_
      clear hK K
      repeat (first | (refine seq_take (v := ?_) rfl (by rfl) ?_ ?_; rotate_left; (focus (intro wS hS; have z0 := (hS.cell (p := ⟨w.heap.size, 0, none⟩) hz1).trans s0; have z1 := (hS.cell (p := ⟨w.heap.size, 1, none⟩) hz1).trans s1; go_simp; exact rfl)); simp only [Act.put, sqA, sqB, sqC]) | (refine seq_skip rfl (by rfl) ?_; simp only [Act.put, sqA, sqB, sqC]))
      refine seq_nil ?_
      have HB2 : Hid (Below w.heap.size w w2) := hide (HB1.out.trans (hB2.mono (by omega)))
      clear hb2 hB2
      go_wp2
      go_ret
      exact ⟨ret_bool (by first | rfl | simp), HB2.out⟩
set_option maxRecDepth 100000 in
set_option maxHeartbeats 1000000 in
theorem mright_o (n k p q : Int) (A : Option Addr) (m vc : Nat) (st : List Int) (w : World) (hm : st.length = m) (hl : (m : Int) ≤ 9223372036854775807) (hE : sizeE n ⟨k, p, q⟩ = 0) (h7 : k ≠ 7) :
    Calls Tryz.prog 11 #[.int .i64 n, .agg #[.int .i64 k, .int .i64 p, .int .i64 q], .slice A m vc] w fun e w' => e = .returned (.bool (shapeM n ⟨k, p, q⟩ st)) ∧ Below w.heap.size w w' := by
  have N0 : ∀ W, Calls Tryz.prog 9 #[.int .i64 n, .agg #[.int .i64 k, .int .i64 p, .int .i64 q]] W (NewMPost n ⟨k, p, q⟩ W) := fun W => modelNew n ⟨k, p, q⟩ W
  unfold NewMPost at N0
  have hm63 : (m : Int) ≤ 9223372036854775807 := hl
  have HNL := newM_len n _ hE
  rw [hE] at N0
  simp only [ne_eq, not_true_eq_false, false_and, false_or, true_and] at N0
  have hS : shapeM n ⟨k, p, q⟩ st = if k = 8 then decide (m % 2 = 0) else decide (m = (newM n ⟨k, p, q⟩).length) := by unfold shapeM; rw [if_neg h7, hm]
  rw [hS]
  have d7 : (k == 7) = false := by simpa using h7
  generalize newM n ⟨k, p, q⟩ = NL at *
  have hNL : (NL.length : Int) ≤ 80 := by omega
  clear hS hE h7
  by_cases h8 : k = 8
  · subst h8
    rw [if_pos rfl]
    have d2 : ((m : Int).tmod 2 == 0) = decide (m % 2 = 0) := by
      rw [Bool.eq_iff_iff]
      simp
      rw [Int.tmod_eq_emod_of_nonneg (by omega)]
      omega
    go_enter Tryz.func11, Tryz.ntmps11
    go_wp2_with fail
    refine (N0 _).mono ?_
    rintro e w1 ⟨v, rfl, _, hb⟩
    have hbx : Below (w.heap.size + 1) (w.alloc (.cells #[.int .i64 8, .int .i64 p, .int .i64 q] 23)) w1 := hb.mono (by simp)
    obtain ⟨s0, s1, s2, _⟩ := cells3 ((hbx.block w.heap.size (by simp)).trans (heap_alloc_new _ _))
    have HB1 : Hid (Below w.heap.size w w1) := hide (((Below.refl _ w).alloc (Nat.le_refl _) _).trans (hbx.mono (by simp)))
    have hz1 : w.heap.size < w1.heap.size := by have := hbx.size; simp at this; omega
    clear hb hbx
    go_wp2
    go_ret
    exact ⟨ret_bool (by first | exact d2 | (rw [← d2]) | (simp; omega)), HB1.out⟩
  · rw [if_neg h8]
    have d8 : (k == 8) = false := by simpa using h8
    have d2 : ((m : Int) == (NL.length : Int)) = decide (m = NL.length) := by
      rw [Bool.eq_iff_iff]
      simp
      omega
    go_enter Tryz.func11, Tryz.ntmps11
    go_wp2_with fail
    refine (N0 _).mono ?_
    rintro e w1 ⟨v, rfl, hown, hb⟩
    obtain ⟨nA, nc, rfl⟩ := own_slice hown
    clear hown h8
    have hbx : Below (w.heap.size + 1) (w.alloc (.cells #[.int .i64 k, .int .i64 p, .int .i64 q] 23)) w1 := hb.mono (by simp)
    obtain ⟨s0, s1, s2, _⟩ := cells3 ((hbx.block w.heap.size (by simp)).trans (heap_alloc_new _ _))
    have HB1 : Hid (Below w.heap.size w w1) := hide (((Below.refl _ w).alloc (Nat.le_refl _) _).trans (hbx.mono (by simp)))
    have hz1 : w.heap.size < w1.heap.size := by have := hbx.size; simp at this; omega
    clear hb hbx
    go_wp2
    go_ret
    exact ⟨ret_bool (by first | exact d2 | (rw [← d2]) | (simp; omega)), HB1.out⟩
set_option maxRecDepth 100000 in
set_option maxHeartbeats 1000000 in
theorem mright_e (n k p q : Int) (A : Option Addr) (m vc : Nat) (w : World) (hE : sizeE n ⟨k, p, q⟩ ≠ 0) :
    Calls Tryz.prog 11 #[.int .i64 n, .agg #[.int .i64 k, .int .i64 p, .int .i64 q], .slice A m vc] w fun e w' => e = .returned (.bool false) ∧ Below w.heap.size w w' := by
  have N0 : ∀ W, Calls Tryz.prog 9 #[.int .i64 n, .agg #[.int .i64 k, .int .i64 p, .int .i64 q]] W (NewMPost n ⟨k, p, q⟩ W) := fun W => modelNew n ⟨k, p, q⟩ W
  unfold NewMPost at N0
  generalize sizeE n ⟨k, p, q⟩ = E at *
  have he : (E != 0) = true := by simpa using hE
  go_enter Tryz.func11, Tryz.ntmps11
  go_wp2_with fail
  refine (N0 _).mono ?_
  rintro e w1 (⟨_, rfl, hb⟩ | ⟨h, _⟩)
  · have hbx : Below (w.heap.size + 1) (w.alloc (.cells #[.int .i64 k, .int .i64 p, .int .i64 q] 23)) w1 := hb.mono (by simp)
    obtain ⟨s0, s1, s2, _⟩ := cells3 ((hbx.block w.heap.size (by simp)).trans (heap_alloc_new _ _))
    have HB1 : Hid (Below w.heap.size w w1) := hide (((Below.refl _ w).alloc (Nat.le_refl _) _).trans (hbx.mono (by simp)))
    have hz1 : w.heap.size < w1.heap.size := by have := hbx.size; simp at this; omega
    clear hb hbx
    go_wp2
    go_ret
    exact ⟨rfl, HB1.out⟩
  · exact absurd h hE
theorem mright_any (n : Int) (s : Sp) (A : Option Addr) (m vc : Nat) (st : List Int) (w : World) (h : SlW w (.slice A m vc) st) (hm : st.length = m) (hl : (m : Int) ≤ 9223372036854775807) :
    Calls Tryz.prog 11 #[.int .i64 n, spV s, .slice A m vc] w fun e w' => e = .returned (.bool (rightM n s st)) ∧ Below w.heap.size w w' := by
  obtain ⟨k, p, q⟩ := s
  by_cases hE : sizeE n ⟨k, p, q⟩ = 0
  · have hR : rightM n ⟨k, p, q⟩ st = shapeM n ⟨k, p, q⟩ st := by unfold rightM; rw [decide_eq_true hE]; rfl
    rw [hR]
    by_cases h7 : k = 7
    · subst h7
      have hS : shapeM n ⟨7, p, q⟩ st = (decide (0 < m) && rightB17 p (m - 1)) := by unfold shapeM; rw [if_pos rfl, hm]
      rw [hS]
      exact mright_7 n p q A m vc st w h hm hl hE
    · exact mright_o n k p q A m vc st w hm hl hE h7
  · have hR : rightM n ⟨k, p, q⟩ st = false := by unfold rightM; rw [decide_eq_false hE]; rfl
    rw [hR]
    exact mright_e n k p q A m vc w hE
end Go.Proofs.YtmiimpmfkjcjlaaGreat
