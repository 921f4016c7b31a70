import Derived.Test.YtmiimpmfkjcjlaaGreatBun20
namespace Go.Proofs.YtmiimpmfkjcjlaaGreat
open Go.RowKit
attribute [local go_sem] run_store_fn run_store_nilfn
theorem mpost_new {n : Int} {s : Sp} {c : Cl} {b B L B' : Nat} {u : Value} {st' l : List Int} {w w3 w' : World} {err val : Int} (hT : ThAt w3 b n s u c) (hO : WOwn w3 B' u L st') (hB' : w.heap.size < B') (hBw : B ≤ w.heap.size) (hb : b < w.heap.size) (hl : l = []) (hL : L = st'.length)
    (hk : Keep (fun j => j < w.heap.size ∧ j ≠ b) w w3) (h' : Keep (fun j => j ≠ w.heap.size) w3 w') :
    ThPost n s c b B (st', ⟨err, val, l⟩) w (.returned (.agg #[.int .i64 err, .int .u64 val, .slice none 0 0])) w' := by
  subst hl hL
  exact ⟨u, _, rfl, hT.of_block (h'.block b (by omega)), owns_base (owns_keepB hO h' (fun j hj _ => by omega)) (by omega), World.ownsRow_nil _ _ _ _, hk.trans (h'.mono (fun k hk => by have := hk.1; omega))⟩
set_option maxRecDepth 100000 in
set_option maxHeartbeats 4000000 in
theorem mqueue_any (n : Int) (s : Sp) (c : Cl) (b B : Nat) (v : Value) (st : List Int) (w : World) (hT : ThAt w b n s v c) (hO : WOwn w B v st.length st) (hBw : B ≤ w.heap.size) (hl : st.length ≤ 10000) (hst : st.length % 2 = 0)
    (_ha : U64 c.a) (hk0 : 0 ≤ c.kind) (hk1 : c.kind < 2) (ht0 : 0 ≤ c.thread) (ht1 : c.thread < 100) : Calls Tryz.prog 151 #[.pointer (some ⟨b, 0, none⟩)] w (ThPost n s c b B (queueM st c) w) := by
  have hl63 : (st.length : Int) ≤ 10000 := by omega
  obtain ⟨a0, a1, a2, a3, a4, a5, a6, a7, a8, a9, a10, f4, hb⟩ := hT.cells
  have hsl : SlW w v st := wrow_sl hO (by unfold maxLen; omega)
  have hwt : IntKind.u64.wrap c.thread = c.thread := by rw [IntKind.wrap_u64]; omega
  obtain ⟨vA, vc, rfl⟩ := own_slice hO
  have HT := hide hT
  have HO := hide hO
  have HS := hide hsl
  obtain ⟨i0, hi, hz0, hz1, hz2⟩ := info_parts info_word
  have HC := fun l W (h : SlW W (.slice vA l.length vc) l) (h' : l.length ≤ 1000000) => clone_any (.slice vA l.length vc) l W h h'
  rcases (by omega : c.kind = 0 ∨ c.kind = 1) with hk | hk
  · rw [hk] at a7
    by_cases h0 : 16777216 ≤ c.a
    · have hM : queueM st c = (st, ⟨10, 0, []⟩) := by unfold queueM; rw [if_pos ⟨hk, h0⟩]; rfl
      rw [hM]
      have d0 : decide (16777216 ≤ c.a) = true := by simpa using h0
      clear hT hO hsl hM
      go_enter Tryz.func151, Tryz.ntmps151
      go_wp2_with fail
      refine (mno_any _ _).mono ?_
      rintro e w1 ⟨rfl, rfl⟩
      go_wp2
      refine bodyPost_ret (v := .agg #[.int .i64 10, .int .u64 0, .slice none 0 0]) (by simp [results, Tryz.results151, go_sem, *]) rfl ?_
      exact mpost_keep hb HT.out HO.out rfl (by (repeat' (first | exact Below.refl _ _ | assumption | refine Below.drew ?_ | refine below_drewN ?_ _ | refine Below.alloc ?_ (by simp <;> omega) _ | refine Below.setCell ?_ (by simp <;> omega) _)))
    · have hM : queueM st c = (st ++ [c.thread, c.a], ⟨0, 0, []⟩) := by unfold queueM; rw [if_neg (by omega), if_pos hk]; rfl
      rw [hM]
      have d0 : decide (16777216 ≤ c.a) = false := by simpa using h0
      have HWT := hide hwt
      clear hT hO hsl hM h0 hk hwt
      go_enter Tryz.func151, Tryz.ntmps151
      go_wp2_with fail
      refine wp_region_seql (Below w.heap.size w) [21] (.take 0 <| .take 1 <| .take 2 <| .take 3 <| .take 4 <| .take 6 <| .take 7 <| .take 8 <| .take 9 <| .take 10 <| .take 11 <| .take 12 <| .take 13 <| .take 14 <| .take 15 <| .take 16 <| .fork 5 (.run 17 <| .run 18 <| .take 19 <| .take 20 <| .run 21 <| .done) 17 (.run 5 <| .run 18 <| .take 19 <| .take 20 <| .run 21 <| .done)) (by kernel_rfl) (by kernel_rfl) (by kernel_rfl) (by (repeat' (first | exact Below.refl _ _ | assumption | refine Below.drew ?_ | refine below_drewN ?_ _ | refine Below.alloc ?_ (by simp <;> omega) _ | refine Below.setCell ?_ (by simp <;> omega) _))) ?_
      repeat (refine seql_take (v := ?_) rfl (by rfl) ?_ ?_; rotate_left; (focus (intro wS hS; have z0 := (hS.cell (p := ⟨b, 0, none⟩) hb).trans a0; have z1 := (hS.cell (p := ⟨b, 1, none⟩) hb).trans a1; have z2 := (hS.cell (p := ⟨b, 2, none⟩) hb).trans a2; have z3 := (hS.cell (p := ⟨b, 3, none⟩) hb).trans a3; have z4 := (hS.cell (p := ⟨b, 4, none⟩) hb).trans a4; have z5 := (hS.cell (p := ⟨b, 5, none⟩) hb).trans a5; have z7 := (hS.cell (p := ⟨b, 7, none⟩) hb).trans a7; have z8 := (hS.cell (p := ⟨b, 8, none⟩) hb).trans a8; have z9 := (hS.cell (p := ⟨b, 9, none⟩) hb).trans a9; go_simp; exact rfl)); simp only [Act.put, sqA, sqB, sqC])
      refine seql_fork ?_ ?_
      · refine seql_run rfl (by rfl) (fun K hK => ?_)
        go_simp
        refine (HC st _ ?_ (by omega)).mono ?_
        exact HS.out.alloc _
        rintro e w4 ⟨v4, rfl, hown, hb4⟩
        have hB4 : Below (w.heap.size + 1) (resW w) w4 := ((Below.refl _ _).drew).trans (hb4.mono (by simp))
        have hBw4 : Below w.heap.size w w4 := ((Below.refl _ w).alloc (Nat.le_refl _) _).trans (hB4.mono (by omega))
        refine hK _ _ hBw4 ?_
        clear hK K
        have hz4 : w.heap.size + 1 ≤ w4.heap.size := by have := hB4.size; simpa using this
        refine seql_run rfl (by rfl) (fun K hK => ?_)
        go_simp
        refine hK _ _ (hBw4.alloc (by omega) _) ?_
        clear hK K
        have hown4 : WOwn (w4.alloc (.cells #[.int .u64 (IntKind.u64.wrap c.thread), .int .u64 c.a] 25)) (w.heap.size + 1) v4 st.length st := World.ownsRow.alloc (World.ownsRow.mono hown (by simp)) _
        have HB5 : Hid (Below (w.heap.size + 1) (resW w) (w4.alloc (.cells #[.int .u64 (IntKind.u64.wrap c.thread), .int .u64 c.a] 25))) := hide (hB4.alloc hz4 _)
        have hz5 : w4.heap.size < (w4.alloc (.cells #[.int .u64 (IntKind.u64.wrap c.thread), .int .u64 c.a] 25)).heap.size := by simp
        obtain ⟨gA, hgA⟩ : ∃ gA, gA = w4.heap.size := ⟨_, rfl⟩
        have e0 : (w4.alloc (.cells #[.int .u64 (IntKind.u64.wrap c.thread), .int .u64 c.a] 25)).cell? ⟨w4.heap.size, 0, none⟩ = some (.int .u64 (IntKind.u64.wrap c.thread)) := by go_simp
        have e1 : (w4.alloc (.cells #[.int .u64 (IntKind.u64.wrap c.thread), .int .u64 c.a] 25)).cell? ⟨w4.heap.size, 1, none⟩ = some (.int .u64 c.a) := by go_simp
        rw [← hgA] at e0 e1 hz5 ⊢
        clear hown hb4 hBw4 hgA hB4 hz4
        generalize (w4.alloc (.cells #[.int .u64 (IntKind.u64.wrap c.thread), .int .u64 c.a] 25)) = w6 at *
        have hzw := HB5.out.size
        simp at hzw
        refine seql_run rfl (by rfl) (fun K hK => ?_)
        refine wp_append_own_at _ _ 24 rfl (w.heap.size + 1) 25 i0 (.int .u64 0) 1 8 Tryz.underlying24 hi hz0 hz1 hz2 rfl (by decide) v4 st.length (st.map (Value.int .u64)) (by rfl) hown4 ⟨gA, 0, none⟩ 2 2 [.int .u64 (IntKind.u64.wrap c.thread), .int .u64 c.a] (by rfl) rfl (by intro j u hu; rcases j with _ | _ | j; (cases hu; exact e0); (cases hu; exact e1); cases hu) (by simp [Value.oneCell']) (by unfold maxLen; omega) (by omega) (by omega) ?_
        intro v7 w7 hown7 hg7 _ _
        have hB7 : Below (w.heap.size + 1) (resW w) w7 := HB5.out.grown hg7 (by omega) (fun k hk => (hown4.lt k hk).1)
        have hBw7 : Below w.heap.size w w7 := ((Below.refl _ w).alloc (Nat.le_refl _) _).trans (hB7.mono (by omega))
        refine hK _ _ hBw7 ?_
        clear hK K hg7 hown4 e0 e1
        have hT7 := HT.out.of_block (hBw7.block b hb)
        obtain ⟨A7, c7, rfl⟩ := own_slice hown7
        obtain ⟨r0, r1, r2, g0, g1, g2, rz⟩ := cells3 ((hB7.block w.heap.size (by omega)).trans (heap_alloc_new w _))
        obtain ⟨_, _, _, _, t4, _, _, _, _, _, _, t4f, tb⟩ := hT7.cells
        have HT7 := hide hT7
        have HO7 := hide hown7
        have HW7 := hide hBw7
        clear hT7 hown7 hBw7 hB7 hzw hz5
        simp only [Act.put, sqA, sqB, sqC]
        repeat (refine seql_take (v := ?_) rfl (by rfl) ?_ ?_; rotate_left; (focus (intro wS hS; have z0 := (hS.cell (p := ⟨b, 0, none⟩) hb).trans a0; have z1 := (hS.cell (p := ⟨b, 1, none⟩) hb).trans a1; have z2 := (hS.cell (p := ⟨b, 2, none⟩) hb).trans a2; have z3 := (hS.cell (p := ⟨b, 3, none⟩) hb).trans a3; have z4 := (hS.cell (p := ⟨b, 4, none⟩) hb).trans a4; have z5 := (hS.cell (p := ⟨b, 5, none⟩) hb).trans a5; have z7 := (hS.cell (p := ⟨b, 7, none⟩) hb).trans a7; have z8 := (hS.cell (p := ⟨b, 8, none⟩) hb).trans a8; have z9 := (hS.cell (p := ⟨b, 9, none⟩) hb).trans a9; go_simp; exact rfl)); simp only [Act.put, sqA, sqB, sqC])
        refine seql_late rfl rfl (by rfl) (fun K hK => ?_)
        go_simp
        refine hK _ _ ?_
        clear hK K
        refine seql_nil ?_
        go_wp2
        refine bodyPost_ret (v := .agg #[.int .i64 0, .int .u64 0, .slice none 0 0]) (by simp [results, Tryz.results151, go_sem, *]) rfl ?_
        refine mpost_new (B' := w.heap.size + 1) (L := st.length + 2) (w3 := w7.setCell ⟨b, 4, none⟩ (.slice A7 (st.length + 2) c7)) (HT7.out.set _) (owns_keepB (S := fun j => j ≠ b) ?_ ((Keep.refl _ _).setCell (by simp) _) (fun j hj _ => by omega)) (by omega) hBw hb rfl (by simp) ((Keep.of_below (K := fun j => j < w.heap.size ∧ j ≠ b) HW7.out (fun k hk => hk.1)).setCell (by simp) _) (by (repeat' (first | exact Keep.refl _ _ | refine Keep.setCell ?_ (by simp) _ | refine Keep.drew ?_)))
        have h7 := HO7.out
        rw [HWT.out] at h7
        simpa [WOwn] using h7
      · refine seql_run rfl (by rfl) (fun K hK => ?_)
        go_simp
        refine hK _ _ (by (repeat' (first | exact Below.refl _ _ | assumption | refine Below.drew ?_ | refine below_drewN ?_ _ | refine Below.alloc ?_ (by simp <;> omega) _ | refine Below.setCell ?_ (by simp <;> omega) _))) ?_
        clear hK K
        refine seql_run rfl (by rfl) (fun K hK => ?_)
        go_simp
        refine (HC st _ ?_ (by omega)).mono ?_
        exact (HS.out.alloc _).alloc _
        rintro e w4 ⟨v4, rfl, hown, hb4⟩
        have hBx : Below (w.heap.size + 2) ((resW w).alloc (.cells #[.int .u64 (IntKind.u64.wrap c.thread), .int .u64 c.a] 25)) w4 := ((Below.refl _ _).drew).trans (hb4.mono (by simp))
        have HB5 : Hid (Below (w.heap.size + 1) (resW w) w4) := hide (((Below.refl _ _).alloc (by simp) _).trans (hBx.mono (by omega)))
        have hBw4 : Below w.heap.size w w4 := ((Below.refl _ w).alloc (Nat.le_refl _) _).trans (HB5.out.mono (by omega))
        refine hK _ _ hBw4 ?_
        clear hK K
        have hown4 : WOwn w4 (w.heap.size + 1) v4 st.length st := World.ownsRow.mono hown (by first | omega | (simp; omega) | simp)
        obtain ⟨gA, hgA⟩ : ∃ gA, gA = w.heap.size + 1 := ⟨_, rfl⟩
        have e0 : w4.cell? ⟨w.heap.size + 1, 0, none⟩ = some (.int .u64 (IntKind.u64.wrap c.thread)) := (hBx.cell (p := ⟨w.heap.size + 1, 0, none⟩) (by show w.heap.size + 1 < _; omega)).trans (by go_simp)
        have e1 : w4.cell? ⟨w.heap.size + 1, 1, none⟩ = some (.int .u64 c.a) := (hBx.cell (p := ⟨w.heap.size + 1, 1, none⟩) (by show w.heap.size + 1 < _; omega)).trans (by go_simp)
        have hz5 : w.heap.size + 1 < w4.heap.size := by have := hBx.size; simp at this; omega
        rw [← hgA] at e0 e1 hz5 ⊢
        clear hown hb4 hBw4 hgA hBx
        generalize (w4.alloc (.cells #[.int .u64 (IntKind.u64.wrap c.thread), .int .u64 c.a] 25)) = w6 at *
        have hzw := HB5.out.size
        simp at hzw
        refine seql_run rfl (by rfl) (fun K hK => ?_)
        refine wp_append_own_at _ _ 24 rfl (w.heap.size + 1) 25 i0 (.int .u64 0) 1 8 Tryz.underlying24 hi hz0 hz1 hz2 rfl (by decide) v4 st.length (st.map (Value.int .u64)) (by rfl) hown4 ⟨gA, 0, none⟩ 2 2 [.int .u64 (IntKind.u64.wrap c.thread), .int .u64 c.a] (by rfl) rfl (by intro j u hu; rcases j with _ | _ | j; (cases hu; exact e0); (cases hu; exact e1); cases hu) (by simp [Value.oneCell']) (by unfold maxLen; omega) (by omega) (by omega) ?_
        intro v7 w7 hown7 hg7 _ _
        have hB7 : Below (w.heap.size + 1) (resW w) w7 := HB5.out.grown hg7 (by omega) (fun k hk => (hown4.lt k hk).1)
        have hBw7 : Below w.heap.size w w7 := ((Below.refl _ w).alloc (Nat.le_refl _) _).trans (hB7.mono (by omega))
        refine hK _ _ hBw7 ?_
        clear hK K hg7 hown4 e0 e1
        have hT7 := HT.out.of_block (hBw7.block b hb)
        obtain ⟨A7, c7, rfl⟩ := own_slice hown7
        obtain ⟨r0, r1, r2, g0, g1, g2, rz⟩ := cells3 ((hB7.block w.heap.size (by omega)).trans (heap_alloc_new w _))
        obtain ⟨_, _, _, _, t4, _, _, _, _, _, _, t4f, tb⟩ := hT7.cells
        have HT7 := hide hT7
        have HO7 := hide hown7
        have HW7 := hide hBw7
        clear hT7 hown7 hBw7 hB7 hzw hz5
        simp only [Act.put, sqA, sqB, sqC]
        repeat (refine seql_take (v := ?_) rfl (by rfl) ?_ ?_; rotate_left; (focus (intro wS hS; have z0 := (hS.cell (p := ⟨b, 0, none⟩) hb).trans a0; have z1 := (hS.cell (p := ⟨b, 1, none⟩) hb).trans a1; have z2 := (hS.cell (p := ⟨b, 2, none⟩) hb).trans a2; have z3 := (hS.cell (p := ⟨b, 3, none⟩) hb).trans a3; have z4 := (hS.cell (p := ⟨b, 4, none⟩) hb).trans a4; have z5 := (hS.cell (p := ⟨b, 5, none⟩) hb).trans a5; have z7 := (hS.cell (p := ⟨b, 7, none⟩) hb).trans a7; have z8 := (hS.cell (p := ⟨b, 8, none⟩) hb).trans a8; have z9 := (hS.cell (p := ⟨b, 9, none⟩) hb).trans a9; go_simp; exact rfl)); simp only [Act.put, sqA, sqB, sqC])
        refine seql_late rfl rfl (by rfl) (fun K hK => ?_)
        go_simp
        refine hK _ _ ?_
        clear hK K
        refine seql_nil ?_
        go_wp2
        refine bodyPost_ret (v := .agg #[.int .i64 0, .int .u64 0, .slice none 0 0]) (by simp [results, Tryz.results151, go_sem, *]) rfl ?_
        refine mpost_new (B' := w.heap.size + 1) (L := st.length + 2) (w3 := w7.setCell ⟨b, 4, none⟩ (.slice A7 (st.length + 2) c7)) (HT7.out.set _) (owns_keepB (S := fun j => j ≠ b) ?_ ((Keep.refl _ _).setCell (by simp) _) (fun j hj _ => by omega)) (by omega) hBw hb rfl (by simp) ((Keep.of_below (K := fun j => j < w.heap.size ∧ j ≠ b) HW7.out (fun k hk => hk.1)).setCell (by simp) _) (by (repeat' (first | exact Keep.refl _ _ | refine Keep.setCell ?_ (by simp) _ | refine Keep.drew ?_)))
        have h7 := HO7.out
        rw [HWT.out] at h7
        simpa [WOwn] using h7
  · rw [hk] at a7
    by_cases h0 : st.length = 0
    · have hM : queueM st c = (st, ⟨7, 0, []⟩) := by unfold queueM; rw [if_neg (by omega), if_neg (by omega), if_pos h0]; rfl
      rw [hM]
      have d0 : ((st.length : Int) == 0) = true := by simpa using h0
      clear hT hO hsl hM h0 hk hwt
      go_enter Tryz.func151, Tryz.ntmps151
      go_wp2_with fail
      refine (mno_any _ _).mono ?_
      rintro e w1 ⟨rfl, rfl⟩
      go_wp2
      refine bodyPost_ret (v := .agg #[.int .i64 7, .int .u64 0, .slice none 0 0]) (by simp [results, Tryz.results151, go_sem, *]) rfl ?_
      exact mpost_keep hb HT.out HO.out rfl (by (repeat' (first | exact Below.refl _ _ | assumption | refine Below.drew ?_ | refine below_drewN ?_ _ | refine Below.alloc ?_ (by simp <;> omega) _ | refine Below.setCell ?_ (by simp <;> omega) _)))
    · have h2 : 2 ≤ st.length := by omega
      obtain ⟨x, hx⟩ : ∃ x, st[1]? = some x := ⟨_, List.getElem?_eq_getElem (by omega)⟩
      have hM : queueM st c = (st.drop 2, ⟨0, x, []⟩) := by unfold queueM; rw [if_neg (by omega), if_neg (by omega), if_neg h0]; unfold at0; rw [hx]; rfl
      rw [hM]
      obtain ⟨sb, so, rfl, cx, hsb⟩ := sl_at hsl 1 x hx
      have d0 : ((st.length : Int) == 0) = false := by rw [beq_eq_false_iff_ne]; omega
      have q0 : (2 : Int) ≤ (st.length : Int) := by omega
      have q1 : (1 : Int) < (st.length : Int) := by omega
      obtain ⟨X, hX, hXs⟩ := sl_drop (k := 2) hsl (by omega)
      unfold sliced at hX
      have hdl : (st.drop 2).length ≤ 1000000 := by rw [List.length_drop]; omega
      have hdl2 : (st.drop 2).length = st.length - 2 := List.length_drop
      by_cases hvc : vc = 2
      · rw [if_pos hvc] at hX
        subst hvc
        subst hX
        have HC2 := fun v W (h : SlW W v (st.drop 2)) => clone_any v (st.drop 2) W h hdl
        have HX := hide hXs
        have HDL := hide hdl2
        clear hT hO hsl hM h0 hk hwt hx hXs hdl hdl2 HC
        go_enter Tryz.func151, Tryz.ntmps151
        go_wp2_with fail
        refine (HC2 _ _ (HX.out.alloc _)).mono ?_
        rintro e w4 ⟨v4, rfl, hown, hb4⟩
        have hB4 : Below (w.heap.size + 1) (resW w) w4 := hb4.mono (by simp)
        have hBw4 : Below w.heap.size w w4 := ((Below.refl _ w).alloc (Nat.le_refl _) _).trans (hB4.mono (by omega))
        have hT4 := HT.out.of_block (hBw4.block b hb)
        have hown4 : WOwn w4 (w.heap.size + 1) v4 (st.length - 2) (st.drop 2) := by have h := World.ownsRow.mono (base' := w.heap.size + 1) hown (by simp); rw [HDL.out] at h; exact h
        obtain ⟨A4, c4, rfl⟩ := own_slice hown4
        obtain ⟨r0, r1, r2, g0, g1, g2, rz⟩ := cells3 ((hB4.block w.heap.size (by omega)).trans (heap_alloc_new w _))
        obtain ⟨_, _, _, _, t4, _, _, _, _, _, _, t4f, tb⟩ := hT4.cells
        have HT4 := hide hT4
        have HO4 := hide hown4
        have HW4 := hide hBw4
        clear hT4 hown hown4 hBw4 hB4 hb4
        go_wp2
        refine bodyPost_ret (v := .agg #[.int .i64 0, .int .u64 x, .slice none 0 0]) (by simp [results, Tryz.results151, go_sem, *]) rfl ?_
        exact mpost_new (B' := w.heap.size + 1) (L := st.length - 2) (w3 := w4.setCell ⟨b, 4, none⟩ (.slice A4 (st.length - 2) c4)) (HT4.out.set _) (owns_keepB (S := fun j => j ≠ b) HO4.out ((Keep.refl _ _).setCell (by simp) _) (fun j hj _ => by omega)) (by omega) hBw hb rfl (HDL.out.symm) ((Keep.of_below (K := fun j => j < w.heap.size ∧ j ≠ b) HW4.out (fun k hk => hk.1)).setCell (by simp) _) (by (repeat' (first | exact Keep.refl _ _ | refine Keep.setCell ?_ (by simp) _ | refine Keep.drew ?_)))
      · rw [if_neg hvc] at hX
        simp only [Option.map_some, Addr.add, Nat.mul_one] at hX
        rw [if_neg (by omega)] at hX
        subst hX
        have HC2 := fun v W (h : SlW W v (st.drop 2)) => clone_any v (st.drop 2) W h hdl
        have HX := hide hXs
        have HDL := hide hdl2
        clear hT hO hsl hM h0 hk hwt hx hXs hdl hdl2 HC
        go_enter Tryz.func151, Tryz.ntmps151
        go_wp2_with fail
        refine (HC2 _ _ (HX.out.alloc _)).mono ?_
        rintro e w4 ⟨v4, rfl, hown, hb4⟩
        have hB4 : Below (w.heap.size + 1) (resW w) w4 := hb4.mono (by simp)
        have hBw4 : Below w.heap.size w w4 := ((Below.refl _ w).alloc (Nat.le_refl _) _).trans (hB4.mono (by omega))
        have hT4 := HT.out.of_block (hBw4.block b hb)
        have hown4 : WOwn w4 (w.heap.size + 1) v4 (st.length - 2) (st.drop 2) := by have h := World.ownsRow.mono (base' := w.heap.size + 1) hown (by simp); rw [HDL.out] at h; exact h
        obtain ⟨A4, c4, rfl⟩ := own_slice hown4
        obtain ⟨r0, r1, r2, g0, g1, g2, rz⟩ := cells3 ((hB4.block w.heap.size (by omega)).trans (heap_alloc_new w _))
        obtain ⟨_, _, _, _, t4, _, _, _, _, _, _, t4f, tb⟩ := hT4.cells
        have HT4 := hide hT4
        have HO4 := hide hown4
        have HW4 := hide hBw4
        clear hT4 hown hown4 hBw4 hB4 hb4
        go_wp2
        refine bodyPost_ret (v := .agg #[.int .i64 0, .int .u64 x, .slice none 0 0]) (by simp [results, Tryz.results151, go_sem, *]) rfl ?_
        exact mpost_new (B' := w.heap.size + 1) (L := st.length - 2) (w3 := w4.setCell ⟨b, 4, none⟩ (.slice A4 (st.length - 2) c4)) (HT4.out.set _) (owns_keepB (S := fun j => j ≠ b) HO4.out ((Keep.refl _ _).setCell (by simp) _) (fun j hj _ => by omega)) (by omega) hBw hb rfl (HDL.out.symm) ((Keep.of_below (K := fun j => j < w.heap.size ∧ j ≠ b) HW4.out (fun k hk => hk.1)).setCell (by simp) _) (by (repeat' (first | exact Keep.refl _ _ | refine Keep.setCell ?_ (by simp) _ | refine Keep.drew ?_)))
end Go.Proofs.YtmiimpmfkjcjlaaGreat

namespace Go.Proofs.YtmiimpmfkjcjlaaGreat
open Go.RowKit
attribute [local go_sem] run_store_fn run_store_nilfn
set_option maxRecDepth 100000 in
set_option maxHeartbeats 1000000 in
theorem parts1_any (g L p mi bp bv bm : Nat) (x y : Int) (st : List Int) (W : World) (h : W.heap[g]? = some (.cells (wordC st) 25 (0, 0))) (hL : st.length = L) (hp : p < L) (hm : mi < L) (hpm : p ≠ mi) (hl : L ≤ 1000000) (hy : st[mi]? = some y) (hyb : 0 ≤ y ∧ y < 1000)
    (hbp : W.cell? ⟨bp, 0, none⟩ = some (.int .u64 p)) (hbv : W.cell? ⟨bv, 0, none⟩ = some (.int .u64 x)) (hbm : W.cell? ⟨bm, 0, none⟩ = some (.int .i64 mi)) (_hg1 : g ≠ bp) (_hg2 : g ≠ bv) (hg3 : g ≠ bm) (_hx : bm < W.heap.size) (B : Nat) (hB : B ≤ g) :
    Calls Tryz.prog 197 #[.slice (some ⟨g, 0, none⟩) L L, .pointer (some ⟨bv, 0, none⟩), .pointer (some ⟨bp, 0, none⟩), .pointer (some ⟨bm, 0, none⟩)] W fun e W' =>
      e = .returned (.tuple #[]) ∧ W'.heap[g]? = some (.cells (wordC ((st.set p x).set mi (y + 1))) 25 (0, 0)) ∧ Below B W W' := by
  subst hL
  have c0 := word_cell (i := p) h (List.getElem?_eq_getElem hp)
  have c1 := word_cell (i := mi) h hy
  have f0 := frozen_of_row W g p _ _ h
  have f1 := frozen_of_row W g mi _ _ h
  have hgl := (Array.getElem?_eq_some_iff.1 h).1
  have q0 : (0 : Int) ≤ (p : Int) := by omega
  have q1 : (p : Int) < (st.length : Int) := by omega
  have q2 : (0 : Int) ≤ (mi : Int) := by omega
  have q3 : (mi : Int) < (st.length : Int) := by omega
  have q4 : (st.length : Int) ≤ 1000000 := by omega
  have hne : mi ≠ p := Ne.symm hpm
  obtain ⟨y0, y1⟩ := hyb
  have H := hide h
  clear h hy
  go_enter Tryz.func197, Tryz.ntmps197
  go_wp2
  go_end0
  refine ⟨rfl, ?_, ((Below.refl _ W).setCell (by simpa using hB) _).setCell (by simpa using hB) _⟩
  exact word_set (word_set H.out)
theorem mpost_list {n : Int} {s : Sp} {c : Cl} {b B r B' m : Nat} {v L : Value} {st l : List Int} {w w4 w' : World} {err val : Int} (hb : b < w.heap.size) (hT : ThAt w b n s v c) (hO : WOwn w B v st.length st) (h4 : Below w.heap.size w w4) (hL : WOwn w4 B' L m l)
    (hr : w.heap.size ≤ r) (hr' : r < B') (hBw : B ≤ w.heap.size) (hm : m = l.length) (h' : Keep (fun j => j ≠ r) w4 w') : ThPost n s c b B (st, ⟨err, val, l⟩) w (.returned (.agg #[.int .i64 err, .int .u64 val, L])) w' := by
  subst hm
  have hB : Below w.heap.size w w' := h4.trans (h'.below (fun k hk => by omega))
  exact ⟨v, _, rfl, hT.of_block (hB.block b hb), WOwn.below hO hB (Nat.le_refl _), owns_base (owns_keepB hL h' (fun j hj _ => by omega)) (by omega), Keep.of_below hB (fun k hk => hk.1)⟩
theorem mpost_new' {n : Int} {s : Sp} {c : Cl} {b B L r B' : Nat} {u : Value} {st' l : List Int} {w w3 w' : World} {err val : Int} (hT : ThAt w3 b n s u c) (hO : WOwn w3 B' u L st') (hr : w.heap.size ≤ r) (hr' : r < B') (hBw : B ≤ w.heap.size) (hb : b < w.heap.size) (hl : l = []) (hL : L = st'.length)
    (hk : Keep (fun j => j < w.heap.size ∧ j ≠ b) w w3) (h' : Keep (fun j => j ≠ r) w3 w') :
    ThPost n s c b B (st', ⟨err, val, l⟩) w (.returned (.agg #[.int .i64 err, .int .u64 val, .slice none 0 0])) w' := by
  subst hl hL
  exact ⟨u, _, rfl, hT.of_block (h'.block b (by omega)), owns_base (owns_keepB hO h' (fun j hj _ => by omega)) (by omega), World.ownsRow_nil _ _ _ _, hk.trans (h'.mono (fun k hk => by have := hk.1; omega))⟩
abbrev parW (w : World) (part x : Int) : World := ((w.alloc (.cells #[.int .u64 part] 25)).alloc (.cells #[.int .u64 x] 25)).alloc (.cells #[.int .i64 0, .int .u64 0, .slice none 0 0] 57)
abbrev parW2 (w : World) (part x mi : Int) : World := (parW w part x).alloc (.cells #[.int .i64 mi] 3)
theorem parW2_cells (w : World) (part x mi : Int) : (parW2 w part x mi).cell? ⟨w.heap.size, 0, none⟩ = some (.int .u64 part) ∧ (parW2 w part x mi).cell? ⟨w.heap.size + 1, 0, none⟩ = some (.int .u64 x) ∧ (parW2 w part x mi).cell? ⟨w.heap.size + 3, 0, none⟩ = some (.int .i64 mi) := by
  refine ⟨?_, ?_, ?_⟩ <;> (unfold parW2 parW; go_simp)
theorem parW_below (w : World) (part x : Int) : Below w.heap.size w (parW w part x) := (((Below.refl _ w).alloc (Nat.le_refl _) _).alloc (by simp) _).alloc (by simp; omega) _
theorem parW2_below (w : World) (part x mi : Int) : Below w.heap.size w (parW2 w part x mi) := (parW_below w part x).alloc (by simp; omega) _
theorem parW2_size (w : World) (part x mi : Int) : (parW2 w part x mi).heap.size = w.heap.size + 4 := by simp
set_option maxRecDepth 100000 in
set_option maxHeartbeats 4000000 in
theorem mparts_any (mm tt : Nat) (most part x : Int) (n : Int) (s : Sp) (c : Cl) (b B : Nat) (v : Value) (st : List Int) (w : World) (hT : ThAt w b n s v c) (hO : WOwn w B v st.length st) (hBw : B ≤ w.heap.size) (hl : st.length ≤ 1000) (hm0 : mm ≤ 100) (htc : c.thread = (tt : Int)) (htl : mm + tt < st.length)
    (hp0 : U64 part) (hmost0 : 0 ≤ most) (hmost1 : most < 1000) (hk0 : 0 ≤ c.kind) (hk1 : c.kind < 2) (hu : ∀ z ∈ st, U64 z) :
    Calls Tryz.prog 149 #[.pointer (some ⟨b, 0, none⟩), .int .i64 mm, .int .i64 most, .int .u64 part, .int .u64 x] w (ThPost n s c b B (partsM mm most part x st c) w) := by
  have hl63 : (st.length : Int) ≤ 1000 := by omega
  obtain ⟨a0, a1, a2, a3, a4, a5, a6, a7, a8, a9, a10, f4, hb⟩ := hT.cells
  have hsl : SlW w v st := wrow_sl hO (by unfold maxLen; omega)
  obtain ⟨y, hy⟩ : ∃ y, st[mm + tt]? = some y := ⟨_, List.getElem?_eq_getElem htl⟩
  have hyu := hu y (List.mem_of_getElem? hy)
  obtain ⟨vA, vc, rfl⟩ := own_slice hO
  obtain ⟨sb, so, rfl, cy, hsb⟩ := sl_at hsl (mm + tt) y hy
  have hat : at0 st ((mm : Int) + c.thread).toNat = y := by unfold at0; rw [htc, show ((mm : Int) + (tt : Int)).toNat = mm + tt by omega, hy]; rfl
  have HT := hide hT
  have HO := hide hO
  have HS := hide hsl
  have q0 : (0 : Int) ≤ (mm : Int) := by omega
  have q1 : (mm : Int) ≤ (vc : Int) := by obtain ⟨_, _, e, h1, _⟩ := hsl; cases e; omega
  have q2 : (mm : Int) + (tt : Int) ≤ 1000 := by omega
  have q3 : (0 : Int) ≤ (mm : Int) + (tt : Int) := by omega
  have q4 : (mm : Int) + (tt : Int) < (st.length : Int) := by omega
  have q5 : ((mm : Int) + (tt : Int)).toNat = mm + tt := by omega
  have hwm : IntKind.u64.wrap (mm : Int) = (mm : Int) := by rw [IntKind.wrap_u64]; omega
  have hwo : IntKind.u64.wrap most = most := by rw [IntKind.wrap_u64]; omega
  obtain ⟨hp1, hp2⟩ := hp0
  have hb1 : b < w.heap.size + 1 := by omega
  have hb2 : b < w.heap.size + 1 + 1 := by omega
  have hb3 : b < w.heap.size + 1 + 1 + 1 := by omega
  rw [htc] at a5
  by_cases hk : c.kind = 1
  · have hM : partsM mm most part x st c = (st, ⟨0, 0, st.take mm⟩) := by unfold partsM; rw [if_pos hk, Int.toNat_natCast]
    rw [hM]
    rw [hk] at a7
    have hmm : mm ≤ st.length := by omega
    have hst : SlW w (.slice (some ⟨sb, so, none⟩) mm vc) (st.take mm) := sl_take hsl hmm
    have N0 := fun W h => clone_any (.slice (some ⟨sb, so, none⟩) mm vc) (st.take mm) W h (by rw [List.length_take]; omega)
    have htl2 : (st.take mm).length = mm := by rw [List.length_take]; omega
    have HST := hide hst
    have HTL := hide htl2
    clear hT hO hsl hM hy hat hk hu hst htl2 hwm hwo
    go_enter Tryz.func149, Tryz.ntmps149
    go_wp2_with fail
    refine (N0 _ ?_).mono ?_
    · exact HST.out.below (parW2_below w part x _) (Nat.le_refl _)
    rintro e w4 ⟨v4, rfl, hown, hb4⟩
    have hB4 : Below (w.heap.size + 4) (parW2 w part x ((mm : Int) + (tt : Int))) w4 := hb4.mono (by simp)
    have hBw4 : Below w.heap.size w w4 := (parW2_below w part x _).trans (hB4.mono (by omega))
    have hown4 : WOwn w4 (w.heap.size + 4) v4 (st.take mm).length (st.take mm) := World.ownsRow.mono hown (by simp)
    obtain ⟨A4, c4, rfl⟩ := own_slice hown4
    obtain ⟨r0, r1, r2, g0, g1, g2, rz⟩ := cells3 ((hB4.block (w.heap.size + 2) (by omega)).trans ((heap_alloc_old _ _ (by simp)).trans (by have := heap_alloc_new ((w.alloc (.cells #[.int .u64 part] 25)).alloc (.cells #[.int .u64 x] 25)) (.cells #[.int .i64 0, .int .u64 0, .slice none 0 0] 57); simpa using this)))
    have HW4 := hide hBw4
    have HO4 := hide hown4
    clear hown hb4 hB4 hBw4 hown4
    go_wp2
    refine bodyPost_ret (v := .agg #[.int .i64 0, .int .u64 0, .slice A4 (st.take mm).length c4]) (by simp [results, Tryz.results149, go_sem, *]) rfl ?_
    exact mpost_list (r := w.heap.size + 2) (B' := w.heap.size + 4) hb HT.out HO.out HW4.out HO4.out (by omega) (by omega) hBw rfl (by (repeat' (first | exact Keep.refl _ _ | refine Keep.setCell ?_ (by simp) _ | refine Keep.drew ?_)))
  · have hk9 : c.kind = 0 := by omega
    rw [hk9] at a7
    by_cases h0 : (mm : Int) ≤ part
    · have hM : partsM mm most part x st c = (st, ⟨10, 0, []⟩) := by unfold partsM; rw [if_neg hk, if_pos h0]; rfl
      rw [hM]
      have d0 : decide ((mm : Int) ≤ part) = true := by simpa using h0
      have d1 : decide (IntKind.u64.wrap (mm : Int) ≤ part) = true := by rw [hwm]; simpa using h0
      clear hT hO hsl hM hy hat hk hu hwm hwo h0
      go_enter Tryz.func149, Tryz.ntmps149
      go_wp2_with fail
      refine (mno_any _ _).mono ?_
      rintro e w1 ⟨rfl, rfl⟩
      go_wp2
      refine bodyPost_ret (v := .agg #[.int .i64 10, .int .u64 0, .slice none 0 0]) (by simp [results, Tryz.results149, go_sem, *]) rfl ?_
      exact mpost_keep hb HT.out HO.out rfl (by (repeat' (first | exact Below.refl _ _ | assumption | refine Below.drew ?_ | refine Below.alloc ?_ (by first | omega | (simp; done) | (simp; omega)) _ | refine Below.setCell ?_ (by first | omega | (simp; done) | (simp; omega)) _)))
    · have d0 : decide ((mm : Int) ≤ part) = false := by simpa using h0
      have d1 : decide (IntKind.u64.wrap (mm : Int) ≤ part) = false := by rw [hwm]; simpa using h0
      obtain ⟨pp, hpp⟩ : ∃ pp : Nat, part = (pp : Int) := ⟨part.toNat, by omega⟩
      obtain ⟨pm0, t5, pm⟩ := parW2_cells w part x ((mm : Int) + (tt : Int))
      have hB0 := parW2_below w part x ((mm : Int) + (tt : Int))
      have t4 := (hB0.cell (p := ⟨b, 4, none⟩) hb).trans a4
      have ty := (hB0.cell (p := ⟨sb, so + (mm + tt), none⟩) hsb).trans cy
      have hz0 := parW2_size w part x ((mm : Int) + (tt : Int))
      by_cases h1 : most ≤ y
      · have hM : partsM mm most part x st c = (st, ⟨6, 0, []⟩) := by unfold partsM; rw [if_neg hk, if_neg h0, hat, if_pos h1]; rfl
        rw [hM]
        have d2 : decide (IntKind.u64.wrap most ≤ y) = true := by rw [hwo]; simpa using h1
        have HT4 := hide t4
        have HTY := hide ty
        have HPM := hide pm
        have HB0 := hide hB0
        clear t4 ty pm pm0 t5 hB0 hz0
        clear hT hO hsl hM hy hat hk hu hwm hwo h0 h1 hpp
        go_enter Tryz.func149, Tryz.ntmps149
        go_wp2_with fail
        refine wp_region_seq (Below (w.heap.size + 4) (parW2 w part x ((mm : Int) + (tt : Int)))) (.take 0 <| .take 1 <| .take 2 <| .take 3 <| .take 4 <| .take 5 <| .take 6 <| .take 7 <| .take 8 <| .take 9 <| .take 10 <| .done) (by kernel_rfl) (by kernel_rfl) (by kernel_rfl) ((Below.refl _ _).drew) ?_
        repeat (refine seq_take (v := ?_) rfl (by rfl) ?_ ?_; rotate_left; (focus (intro wS hS; have z4 := (hS.cell (p := ⟨b, 4, none⟩) (by show b < _; omega)).trans HT4.out; have zy := (hS.cell (p := ⟨sb, so + (mm + tt), none⟩) (by show sb < _; omega)).trans HTY.out; have zm := (hS.cell (p := ⟨w.heap.size + 3, 0, none⟩) (by show w.heap.size + 3 < _; omega)).trans HPM.out; go_simp; exact rfl)); simp only [Act.put, sqA, sqB, sqC])
        refine seq_nil ?_
        go_wp2_with fail
        refine (mno_any _ _).mono ?_
        rintro e w1 ⟨rfl, rfl⟩
        go_wp2
        refine bodyPost_ret (v := .agg #[.int .i64 6, .int .u64 0, .slice none 0 0]) (by simp [results, Tryz.results149, go_sem, *]) rfl ?_
        exact mpost_keep hb HT.out HO.out rfl (by (repeat' (first | exact Below.refl _ _ | assumption | refine Below.drew ?_ | refine Below.alloc ?_ (by first | omega | (simp; done) | (simp; omega)) _ | refine Below.setCell ?_ (by first | omega | (simp; done) | (simp; omega)) _)))
      · have hM : partsM mm most part x st c = ((st.set pp x).set (mm + tt) (y + 1), ⟨0, 0, []⟩) := by
          unfold partsM
          rw [if_neg hk, if_neg h0, hat, if_neg h1, htc, show part.toNat = pp by omega, show ((mm : Int) + (tt : Int)).toNat = mm + tt by omega]
          rfl
        rw [hM]
        have d2 : decide (IntKind.u64.wrap most ≤ y) = false := by rw [hwo]; simpa using h1
        have hppm : pp < mm := by omega
        have N1 := change_any 197 b B #[.pointer (some ⟨w.heap.size + 1, 0, none⟩), .pointer (some ⟨w.heap.size, 0, none⟩), .pointer (some ⟨w.heap.size + 3, 0, none⟩)] n s c (.slice (some ⟨sb, so, none⟩) st.length vc) st ((st.set pp x).set (mm + tt) (y + 1)) ((parW2 w part x ((mm : Int) + (tt : Int))).drew)
          (enter_of Tryz.func197 (by kernel_rfl) (by kernel_rfl)) (hT.of_block (hB0.block b hb)) (WOwn.below hO hB0.drew (Nat.le_refl _)) (by omega)
          (fun W hB hg hz => by
            have hB' : Below (w.heap.size + 4) (parW2 w part x ((mm : Int) + (tt : Int))) W := ((Below.refl _ _).drew).trans (hB.mono (by simp))
            have hz' : w.heap.size + 4 ≤ W.heap.size := by have := hB'.size; omega
            exact parts1_any _ st.length pp (mm + tt) w.heap.size (w.heap.size + 1) (w.heap.size + 3) x y st W hg rfl (by omega) htl (by omega) (by omega) hy ⟨hyu.1, by omega⟩ ((hB'.cell (p := ⟨w.heap.size, 0, none⟩) (by show w.heap.size < _; omega)).trans (hpp ▸ pm0)) ((hB'.cell (p := ⟨w.heap.size + 1, 0, none⟩) (by show w.heap.size + 1 < _; omega)).trans t5) (by have := (hB'.cell (p := ⟨w.heap.size + 3, 0, none⟩) (by show w.heap.size + 3 < _; omega)).trans pm; simpa using this) (by first | (simp; done) | (simp; omega)) (by first | (simp; done) | (simp; omega)) (by first | (simp; done) | (simp; omega)) (by omega) _ (Nat.le_refl _))
        have HN1 := hide N1
        have HT4 := hide t4
        have HTY := hide ty
        have HPM := hide pm
        have HB0 := hide hB0
        clear t4 ty pm pm0 t5 hB0 hz0
        clear hT hO hsl hM hy hat hk hu hwm hwo h0 h1 hpp N1
        go_enter Tryz.func149, Tryz.ntmps149
        go_wp2_with fail
        refine wp_region_seq (Below (w.heap.size + 4) (parW2 w part x ((mm : Int) + (tt : Int)))) (.take 0 <| .take 1 <| .take 2 <| .take 3 <| .take 4 <| .take 5 <| .take 6 <| .take 7 <| .take 8 <| .take 9 <| .take 10 <| .done) (by kernel_rfl) (by kernel_rfl) (by kernel_rfl) ((Below.refl _ _).drew) ?_
        repeat (refine seq_take (v := ?_) rfl (by rfl) ?_ ?_; rotate_left; (focus (intro wS hS; have z4 := (hS.cell (p := ⟨b, 4, none⟩) (by show b < _; omega)).trans HT4.out; have zy := (hS.cell (p := ⟨sb, so + (mm + tt), none⟩) (by show sb < _; omega)).trans HTY.out; have zm := (hS.cell (p := ⟨w.heap.size + 3, 0, none⟩) (by show w.heap.size + 3 < _; omega)).trans HPM.out; go_simp; exact rfl)); simp only [Act.put, sqA, sqB, sqC])
        refine seq_nil ?_
        go_wp2_with fail
        refine HN1.out.mono ?_
        rintro e w3 ⟨rfl, hT3, hg3, hk3⟩
        have hrb := heap_alloc_new ((w.alloc (.cells #[.int .u64 part] 25)).alloc (.cells #[.int .u64 x] 25)) (.cells #[.int .i64 0, .int .u64 0, .slice none 0 0] 57)
        obtain ⟨r0, r1, r2, g0, g1, g2, rz⟩ := cells3 ((hk3.block (w.heap.size + 2) ⟨by simp, by omega⟩).trans ((heap_alloc_old _ _ (by simp)).trans (by simpa using hrb)))
        have HT3 := hide hT3
        have HG3 := hide hg3
        have HK3 := hide hk3
        clear hT3 hg3 hk3 hrb
        go_wp2
        refine bodyPost_ret (v := .agg #[.int .i64 0, .int .u64 0, .slice none 0 0]) (by simp [results, Tryz.results149, go_sem, *]) rfl ?_
        refine mpost_new' (r := w.heap.size + 2) (B' := w.heap.size + 4) (L := st.length) HT3.out ?_ (by omega) (by omega) hBw hb rfl (by simp) ?_ (by (repeat' (first | exact Keep.refl _ _ | refine Keep.setCell ?_ (by simp) _ | refine Keep.drew ?_)))
        · have h := word_own (B := w.heap.size + 4) HG3.out (by simp) (by simp; omega)
          rw [List.length_set, List.length_set] at h
          exact h
        · exact (Keep.of_below (K := fun j => j < w.heap.size ∧ j ≠ b) HB0.out (fun k hk => hk.1)).trans ((Keep.refl _ _).drew.trans (HK3.out.mono (fun k hk => ⟨by have := hk.1; simp; omega, hk.2⟩)))
end Go.Proofs.YtmiimpmfkjcjlaaGreat
