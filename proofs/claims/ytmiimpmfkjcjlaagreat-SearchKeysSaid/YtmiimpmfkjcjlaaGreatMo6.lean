import Derived.Test.YtmiimpmfkjcjlaaGreatBun14
namespace Go.Proofs.YtmiimpmfkjcjlaaGreat
open Go.RowKit
attribute [local go_sem] run_store_fn run_store_nilfn
theorem mpost_new {n : Int} {s : Sp} {c : Cl} {b B L B' : Nat} {u : Value} {st' l : List Int} {w w3 w' : World} {err val : Int} (hT : ThAt w3 b n s u c) (hO : WOwn w3 B' u L st') (hB' : w.heap.size < B') (hBw : B ≤ w.heap.size) (hb : b < w.heap.size) (hl : l = []) (hL : L = st'.length)
    (hk : Keep (fun j => j < w.heap.size ∧ j ≠ b) w w3) (h' : Keep (fun j => j ≠ w.heap.size) w3 w') :
    ThPost n s c b B (st', ⟨err, val, l⟩) w (.returned (.agg #[.int .i64 err, .int .u64 val, .slice none 0 0])) w' := by
  subst hl hL
  exact ⟨u, _, rfl, hT.of_block (h'.block b (by omega)), owns_base (owns_keepB hO h' (fun j hj _ => by omega)) (by omega), World.ownsRow_nil _ _ _ _, hk.trans (h'.mono (fun k hk => by have := hk.1; omega))⟩
set_option maxRecDepth 100000 in
set_option maxHeartbeats 4000000 in
theorem mqueue_any (n : Int) (s : Sp) (c : Cl) (b B : Nat) (v : Value) (st : List Int) (w : World) (hT : ThAt w b n s v c) (hO : WOwn w B v st.length st) (hBw : B ≤ w.heap.size) (hl : st.length ≤ 10000) (hst : st.length % 2 = 0)
    (_ha : U64 c.a) (hk0 : 0 ≤ c.kind) (hk1 : c.kind < 2) (ht0 : 0 ≤ c.thread) (ht1 : c.thread < 100) : Calls Tryz.prog 151 #[.pointer (some ⟨b, 0, none⟩)] w (ThPost n s c b B (queueM st c) w) := by
  have hl63 : (st.length : Int) ≤ 10000 := by omega
  obtain ⟨a0, a1, a2, a3, a4, a5, a6, a7, a8, a9, a10, f4, hb⟩ := hT.cells
  have hsl : SlW w v st := wrow_sl hO (by unfold maxLen; omega)
  have hwt : IntKind.u64.wrap c.thread = c.thread := by rw [IntKind.wrap_u64]; omega
  obtain ⟨vA, vc, rfl⟩ := own_slice hO
  have HT := hide hT
  have HO := hide hO
  have HS := hide hsl
  obtain ⟨i0, hi, hz0, hz1, hz2⟩ := info_parts info_word
  have HC := fun l W (h : SlW W (.slice vA l.length vc) l) (h' : l.length ≤ 1000000) => clone_any (.slice vA l.length vc) l W h h'
  rcases (by omega : c.kind = 0 ∨ c.kind = 1) with hk | hk
  · rw [hk] at a7
    by_cases h0 : 16777216 ≤ c.a
    · have hM : queueM st c = (st, ⟨10, 0, []⟩) := by unfold queueM; rw [if_pos ⟨hk, h0⟩]; rfl
      rw [hM]
      have d0 : decide (16777216 ≤ c.a) = true := by simpa using h0
      clear hT hO hsl hM
      go_enter Tryz.func151, Tryz.ntmps151
      go_wp2_with fail
      refine (mno_any _ _).mono ?_
      rintro e w1 ⟨rfl, rfl⟩
      go_wp2
      refine bodyPost_ret (v := .agg #[.int .i64 10, .int .u64 0, .slice none 0 0]) (by simp [results, Tryz.results151, go_sem, *]) rfl ?_
      exact mpost_keep hb HT.out HO.out rfl (by (repeat' (first | exact Below.refl _ _ | assumption | refine Below.drew ?_ | refine below_drewN ?_ _ | refine Below.alloc ?_ (by simp <;> omega) _ | refine Below.setCell ?_ (by simp <;> omega) _)))
    · have hM : queueM st c = (st ++ [c.thread, c.a], ⟨0, 0, []⟩) := by unfold queueM; rw [if_neg (by omega), if_pos hk]; rfl
      rw [hM]
      have d0 : decide (16777216 ≤ c.a) = false := by simpa using h0
      have HWT := hide hwt
      clear hT hO hsl hM h0 hk hwt
      go_enter Tryz.func151, Tryz.ntmps151
      go_wp2_with fail
      refine wp_region_seql (Below w.heap.size w) [21] (.take 0 <| .take 1 <| .take 2 <| .take 3 <| .take 4 <| .take 6 <| .take 7 <| .take 8 <| .take 9 <| .take 10 <| .take 11 <| .take 12 <| .take 13 <| .take 14 <| .take 15 <| .take 16 <| .fork 5 (.run 17 <| .run 18 <| .take 19 <| .take 20 <| .run 21 <| .done) 17 (.run 5 <| .run 18 <| .take 19 <| .take 20 <| .run 21 <| .done)) (by kernel_rfl) (by kernel_rfl) (by kernel_rfl) (by (repeat' (first | exact Below.refl _ _ | assumption | refine Below.drew ?_ | refine below_drewN ?_ _ | refine Below.alloc ?_ (by simp <;> omega) _ | refine Below.setCell ?_ (by simp <;> omega) _))) ?_
      repeat (refine seql_take (v := ?_) rfl (by rfl) ?_ ?_; rotate_left; (focus (intro wS hS; have z0 := (hS.cell (p := ⟨b, 0, none⟩) hb).trans a0; have z1 := (hS.cell (p := ⟨b, 1, none⟩) hb).trans a1; have z2 := (hS.cell (p := ⟨b, 2, none⟩) hb).trans a2; have z3 := (hS.cell (p := ⟨b, 3, none⟩) hb).trans a3; have z4 := (hS.cell (p := ⟨b, 4, none⟩) hb).trans a4; have z5 := (hS.cell (p := ⟨b, 5, none⟩) hb).trans a5; have z7 := (hS.cell (p := ⟨b, 7, none⟩) hb).trans a7; have z8 := (hS.cell (p := ⟨b, 8, none⟩) hb).trans a8; have z9 := (hS.cell (p := ⟨b, 9, none⟩) hb).trans a9; go_simp; exact rfl)); simp only [Act.put, List.setIfInBounds_toArray, List.set_cons_zero, List.set_cons_succ])
      refine seql_fork ?_ ?_
      · refine seql_run rfl (by rfl) (fun K hK => ?_)
        go_simp
        refine (HC st _ ?_ (by omega)).mono ?_
        exact HS.out.alloc _
        rintro e w4 ⟨v4, rfl, hown, hb4⟩
        have hB4 : Below (w.heap.size + 1) (resW w) w4 := ((Below.refl _ _).drew).trans (hb4.mono (by simp))
        have hBw4 : Below w.heap.size w w4 := ((Below.refl _ w).alloc (Nat.le_refl _) _).trans (hB4.mono (by omega))
        refine hK _ _ hBw4 ?_
        clear hK K
        have hz4 : w.heap.size + 1 ≤ w4.heap.size := by have := hB4.size; simpa using this
        refine seql_run rfl (by rfl) (fun K hK => ?_)
        go_simp
        refine hK _ _ (hBw4.alloc (by omega) _) ?_
        clear hK K
        have hown4 : WOwn (w4.alloc (.cells #[.int .u64 (IntKind.u64.wrap c.thread), .int .u64 c.a] 25)) (w.heap.size + 1) v4 st.length st := World.ownsRow.alloc (World.ownsRow.mono hown (by simp)) _
        have HB5 : Hid (Below (w.heap.size + 1) (resW w) (w4.alloc (.cells #[.int .u64 (IntKind.u64.wrap c.thread), .int .u64 c.a] 25))) := hide (hB4.alloc hz4 _)
        have hz5 : w4.heap.size < (w4.alloc (.cells #[.int .u64 (IntKind.u64.wrap c.thread), .int .u64 c.a] 25)).heap.size := by simp
        obtain ⟨gA, hgA⟩ : ∃ gA, gA = w4.heap.size := ⟨_, rfl⟩
        have e0 : (w4.alloc (.cells #[.int .u64 (IntKind.u64.wrap c.thread), .int .u64 c.a] 25)).cell? ⟨w4.heap.size, 0, none⟩ = some (.int .u64 (IntKind.u64.wrap c.thread)) := by go_simp
        have e1 : (w4.alloc (.cells #[.int .u64 (IntKind.u64.wrap c.thread), .int .u64 c.a] 25)).cell? ⟨w4.heap.size, 1, none⟩ = some (.int .u64 c.a) := by go_simp
        rw [← hgA] at e0 e1 hz5 ⊢
        clear hown hb4 hBw4 hgA hB4 hz4
        generalize (w4.alloc (.cells #[.int .u64 (IntKind.u64.wrap c.thread), .int .u64 c.a] 25)) = w6 at *
        have hzw := HB5.out.size
        simp at hzw
        refine seql_run rfl (by rfl) (fun K hK => ?_)
        refine wp_append_own_at _ _ 24 rfl (w.heap.size + 1) 25 i0 (.int .u64 0) 1 8 Tryz.underlying24 hi hz0 hz1 hz2 rfl (by decide) v4 st.length (st.map (Value.int .u64)) (by rfl) hown4 ⟨gA, 0, none⟩ 2 2 [.int .u64 (IntKind.u64.wrap c.thread), .int .u64 c.a] (by rfl) rfl (by intro j u hu; rcases j with _ | _ | j; (cases hu; exact e0); (cases hu; exact e1); cases hu) (by simp [Value.oneCell']) (by unfold maxLen; omega) (by omega) (by omega) ?_
        intro v7 w7 hown7 hg7 _ _
        have hB7 : Below (w.heap.size + 1) (resW w) w7 := HB5.out.grown hg7 (by omega) (fun k hk => (hown4.lt k hk).1)
        have hBw7 : Below w.heap.size w w7 := ((Below.refl _ w).alloc (Nat.le_refl _) _).trans (hB7.mono (by omega))
        refine hK _ _ hBw7 ?_
        clear hK K hg7 hown4 e0 e1
        have hT7 := HT.out.of_block (hBw7.block b hb)
        obtain ⟨A7, c7, rfl⟩ := own_slice hown7
        obtain ⟨r0, r1, r2, g0, g1, g2, rz⟩ := cells3 ((hB7.block w.heap.size (by omega)).trans (heap_alloc_new w _))
        obtain ⟨_, _, _, _, t4, _, _, _, _, _, _, t4f, tb⟩ := hT7.cells
        have HT7 := hide hT7
        have HO7 := hide hown7
        have HW7 := hide hBw7
        clear hT7 hown7 hBw7 hB7 hzw hz5
        simp only [Act.put, List.setIfInBounds_toArray, List.set_cons_zero, List.set_cons_succ]
        repeat (refine seql_take (v := ?_) rfl (by rfl) ?_ ?_; rotate_left; (focus (intro wS hS; have z0 := (hS.cell (p := ⟨b, 0, none⟩) hb).trans a0; have z1 := (hS.cell (p := ⟨b, 1, none⟩) hb).trans a1; have z2 := (hS.cell (p := ⟨b, 2, none⟩) hb).trans a2; have z3 := (hS.cell (p := ⟨b, 3, none⟩) hb).trans a3; have z4 := (hS.cell (p := ⟨b, 4, none⟩) hb).trans a4; have z5 := (hS.cell (p := ⟨b, 5, none⟩) hb).trans a5; have z7 := (hS.cell (p := ⟨b, 7, none⟩) hb).trans a7; have z8 := (hS.cell (p := ⟨b, 8, none⟩) hb).trans a8; have z9 := (hS.cell (p := ⟨b, 9, none⟩) hb).trans a9; go_simp; exact rfl)); simp only [Act.put, List.setIfInBounds_toArray, List.set_cons_zero, List.set_cons_succ])
        refine seql_late rfl rfl (by rfl) (fun K hK => ?_)
        go_simp
        refine hK _ _ ?_
        clear hK K
        refine seql_nil ?_
        go_wp2
        refine bodyPost_ret (v := .agg #[.int .i64 0, .int .u64 0, .slice none 0 0]) (by simp [results, Tryz.results151, go_sem, *]) rfl ?_
        refine mpost_new (B' := w.heap.size + 1) (L := st.length + 2) (w3 := w7.setCell ⟨b, 4, none⟩ (.slice A7 (st.length + 2) c7)) (HT7.out.set _) (owns_keepB (S := fun j => j ≠ b) ?_ ((Keep.refl _ _).setCell (by simp) _) (fun j hj _ => by omega)) (by omega) hBw hb rfl (by simp) ((Keep.of_below (K := fun j => j < w.heap.size ∧ j ≠ b) HW7.out (fun k hk => hk.1)).setCell (by simp) _) (by (repeat' (first | exact Keep.refl _ _ | refine Keep.setCell ?_ (by simp) _ | refine Keep.drew ?_)))
        have h7 := HO7.out
        rw [HWT.out] at h7
        simpa [WOwn] using h7
      · refine seql_run rfl (by rfl) (fun K hK => ?_)
        go_simp
        refine hK _ _ (by (repeat' (first | exact Below.refl _ _ | assumption | refine Below.drew ?_ | refine below_drewN ?_ _ | refine Below.alloc ?_ (by simp <;> omega) _ | refine Below.setCell ?_ (by simp <;> omega) _))) ?_
        clear hK K
        refine seql_run rfl (by rfl) (fun K hK => ?_)
        go_simp
        refine (HC st _ ?_ (by omega)).mono ?_
        exact (HS.out.alloc _).alloc _
        rintro e w4 ⟨v4, rfl, hown, hb4⟩
        have hBx : Below (w.heap.size + 2) ((resW w).alloc (.cells #[.int .u64 (IntKind.u64.wrap c.thread), .int .u64 c.a] 25)) w4 := ((Below.refl _ _).drew).trans (hb4.mono (by simp))
        have HB5 : Hid (Below (w.heap.size + 1) (resW w) w4) := hide (((Below.refl _ _).alloc (by simp) _).trans (hBx.mono (by omega)))
        have hBw4 : Below w.heap.size w w4 := ((Below.refl _ w).alloc (Nat.le_refl _) _).trans (HB5.out.mono (by omega))
        refine hK _ _ hBw4 ?_
        clear hK K
        have hown4 : WOwn w4 (w.heap.size + 1) v4 st.length st := World.ownsRow.mono hown (by first | omega | (simp; omega) | simp)
        obtain ⟨gA, hgA⟩ : ∃ gA, gA = w.heap.size + 1 := ⟨_, rfl⟩
        have e0 : w4.cell? ⟨w.heap.size + 1, 0, none⟩ = some (.int .u64 (IntKind.u64.wrap c.thread)) := (hBx.cell (p := ⟨w.heap.size + 1, 0, none⟩) (by show w.heap.size + 1 < _; omega)).trans (by go_simp)
        have e1 : w4.cell? ⟨w.heap.size + 1, 1, none⟩ = some (.int .u64 c.a) := (hBx.cell (p := ⟨w.heap.size + 1, 1, none⟩) (by show w.heap.size + 1 < _; omega)).trans (by go_simp)
        have hz5 : w.heap.size + 1 < w4.heap.size := by have := hBx.size; simp at this; omega
        rw [← hgA] at e0 e1 hz5 ⊢
        clear hown hb4 hBw4 hgA hBx
        generalize (w4.alloc (.cells #[.int .u64 (IntKind.u64.wrap c.thread), .int .u64 c.a] 25)) = w6 at *
        have hzw := HB5.out.size
        simp at hzw
        refine seql_run rfl (by rfl) (fun K hK => ?_)
        refine wp_append_own_at _ _ 24 rfl (w.heap.size + 1) 25 i0 (.int .u64 0) 1 8 Tryz.underlying24 hi hz0 hz1 hz2 rfl (by decide) v4 st.length (st.map (Value.int .u64)) (by rfl) hown4 ⟨gA, 0, none⟩ 2 2 [.int .u64 (IntKind.u64.wrap c.thread), .int .u64 c.a] (by rfl) rfl (by intro j u hu; rcases j with _ | _ | j; (cases hu; exact e0); (cases hu; exact e1); cases hu) (by simp [Value.oneCell']) (by unfold maxLen; omega) (by omega) (by omega) ?_
        intro v7 w7 hown7 hg7 _ _
        have hB7 : Below (w.heap.size + 1) (resW w) w7 := HB5.out.grown hg7 (by omega) (fun k hk => (hown4.lt k hk).1)
        have hBw7 : Below w.heap.size w w7 := ((Below.refl _ w).alloc (Nat.le_refl _) _).trans (hB7.mono (by omega))
        refine hK _ _ hBw7 ?_
        clear hK K hg7 hown4 e0 e1
        have hT7 := HT.out.of_block (hBw7.block b hb)
        obtain ⟨A7, c7, rfl⟩ := own_slice hown7
        obtain ⟨r0, r1, r2, g0, g1, g2, rz⟩ := cells3 ((hB7.block w.heap.size (by omega)).trans (heap_alloc_new w _))
        obtain ⟨_, _, _, _, t4, _, _, _, _, _, _, t4f, tb⟩ := hT7.cells
        have HT7 := hide hT7
        have HO7 := hide hown7
        have HW7 := hide hBw7
        clear hT7 hown7 hBw7 hB7 hzw hz5
        simp only [Act.put, List.setIfInBounds_toArray, List.set_cons_zero, List.set_cons_succ]
        repeat (refine seql_take (v := ?_) rfl (by rfl) ?_ ?_; rotate_left; (focus (intro wS hS; have z0 := (hS.cell (p := ⟨b, 0, none⟩) hb).trans a0; have z1 := (hS.cell (p := ⟨b, 1, none⟩) hb).trans a1; have z2 := (hS.cell (p := ⟨b, 2, none⟩) hb).trans a2; have z3 := (hS.cell (p := ⟨b, 3, none⟩) hb).trans a3; have z4 := (hS.cell (p := ⟨b, 4, none⟩) hb).trans a4; have z5 := (hS.cell (p := ⟨b, 5, none⟩) hb).trans a5; have z7 := (hS.cell (p := ⟨b, 7, none⟩) hb).trans a7; have z8 := (hS.cell (p := ⟨b, 8, none⟩) hb).trans a8; have z9 := (hS.cell (p := ⟨b, 9, none⟩) hb).trans a9; go_simp; exact rfl)); simp only [Act.put, List.setIfInBounds_toArray, List.set_cons_zero, List.set_cons_succ])
        refine seql_late rfl rfl (by rfl) (fun K hK => ?_)
        go_simp
        refine hK _ _ ?_
        clear hK K
        refine seql_nil ?_
        go_wp2
        refine bodyPost_ret (v := .agg #[.int .i64 0, .int .u64 0, .slice none 0 0]) (by simp [results, Tryz.results151, go_sem, *]) rfl ?_
        refine mpost_new (B' := w.heap.size + 1) (L := st.length + 2) (w3 := w7.setCell ⟨b, 4, none⟩ (.slice A7 (st.length + 2) c7)) (HT7.out.set _) (owns_keepB (S := fun j => j ≠ b) ?_ ((Keep.refl _ _).setCell (by simp) _) (fun j hj _ => by omega)) (by omega) hBw hb rfl (by simp) ((Keep.of_below (K := fun j => j < w.heap.size ∧ j ≠ b) HW7.out (fun k hk => hk.1)).setCell (by simp) _) (by (repeat' (first | exact Keep.refl _ _ | refine Keep.setCell ?_ (by simp) _ | refine Keep.drew ?_)))
        have h7 := HO7.out
        rw [HWT.out] at h7
        simpa [WOwn] using h7
  · rw [hk] at a7
    by_cases h0 : st.length = 0
    · have hM : queueM st c = (st, ⟨7, 0, []⟩) := by unfold queueM; rw [if_neg (by omega), if_neg (by omega), if_pos h0]; rfl
      rw [hM]
      have d0 : ((st.length : Int) == 0) = true := by simpa using h0
      clear hT hO hsl hM h0 hk hwt
      go_enter Tryz.func151, Tryz.ntmps151
      go_wp2_with fail
      refine (mno_any _ _).mono ?_
      rintro e w1 ⟨rfl, rfl⟩
      go_wp2
      refine bodyPost_ret (v := .agg #[.int .i64 7, .int .u64 0, .slice none 0 0]) (by simp [results, Tryz.results151, go_sem, *]) rfl ?_
      exact mpost_keep hb HT.out HO.out rfl (by (repeat' (first | exact Below.refl _ _ | assumption | refine Below.drew ?_ | refine below_drewN ?_ _ | refine Below.alloc ?_ (by simp <;> omega) _ | refine Below.setCell ?_ (by simp <;> omega) _)))
    · have h2 : 2 ≤ st.length := by omega
      obtain ⟨x, hx⟩ : ∃ x, st[1]? = some x := ⟨_, List.getElem?_eq_getElem (by omega)⟩
      have hM : queueM st c = (st.drop 2, ⟨0, x, []⟩) := by unfold queueM; rw [if_neg (by omega), if_neg (by omega), if_neg h0]; unfold at0; rw [hx]; rfl
      rw [hM]
      obtain ⟨sb, so, rfl, cx, hsb⟩ := sl_at hsl 1 x hx
      have d0 : ((st.length : Int) == 0) = false := by rw [beq_eq_false_iff_ne]; omega
      have q0 : (2 : Int) ≤ (st.length : Int) := by omega
      have q1 : (1 : Int) < (st.length : Int) := by omega
      obtain ⟨X, hX, hXs⟩ := sl_drop (k := 2) hsl (by omega)
      unfold sliced at hX
      have hdl : (st.drop 2).length ≤ 1000000 := by rw [List.length_drop]; omega
      have hdl2 : (st.drop 2).length = st.length - 2 := List.length_drop
      by_cases hvc : vc = 2
      · rw [if_pos hvc] at hX
        subst hvc
        subst hX
        have HC2 := fun v W (h : SlW W v (st.drop 2)) => clone_any v (st.drop 2) W h hdl
        have HX := hide hXs
        have HDL := hide hdl2
        clear hT hO hsl hM h0 hk hwt hx hXs hdl hdl2 HC
        go_enter Tryz.func151, Tryz.ntmps151
        go_wp2_with fail
        refine (HC2 _ _ (HX.out.alloc _)).mono ?_
        rintro e w4 ⟨v4, rfl, hown, hb4⟩
        have hB4 : Below (w.heap.size + 1) (resW w) w4 := hb4.mono (by simp)
        have hBw4 : Below w.heap.size w w4 := ((Below.refl _ w).alloc (Nat.le_refl _) _).trans (hB4.mono (by omega))
        have hT4 := HT.out.of_block (hBw4.block b hb)
        have hown4 : WOwn w4 (w.heap.size + 1) v4 (st.length - 2) (st.drop 2) := by have h := World.ownsRow.mono (base' := w.heap.size + 1) hown (by simp); rw [HDL.out] at h; exact h
        obtain ⟨A4, c4, rfl⟩ := own_slice hown4
        obtain ⟨r0, r1, r2, g0, g1, g2, rz⟩ := cells3 ((hB4.block w.heap.size (by omega)).trans (heap_alloc_new w _))
        obtain ⟨_, _, _, _, t4, _, _, _, _, _, _, t4f, tb⟩ := hT4.cells
        have HT4 := hide hT4
        have HO4 := hide hown4
        have HW4 := hide hBw4
        clear hT4 hown hown4 hBw4 hB4 hb4
        go_wp2
        refine bodyPost_ret (v := .agg #[.int .i64 0, .int .u64 x, .slice none 0 0]) (by simp [results, Tryz.results151, go_sem, *]) rfl ?_
        exact mpost_new (B' := w.heap.size + 1) (L := st.length - 2) (w3 := w4.setCell ⟨b, 4, none⟩ (.slice A4 (st.length - 2) c4)) (HT4.out.set _) (owns_keepB (S := fun j => j ≠ b) HO4.out ((Keep.refl _ _).setCell (by simp) _) (fun j hj _ => by omega)) (by omega) hBw hb rfl (HDL.out.symm) ((Keep.of_below (K := fun j => j < w.heap.size ∧ j ≠ b) HW4.out (fun k hk => hk.1)).setCell (by simp) _) (by (repeat' (first | exact Keep.refl _ _ | refine Keep.setCell ?_ (by simp) _ | refine Keep.drew ?_)))
      · rw [if_neg hvc] at hX
        simp only [Option.map_some, Addr.add, Nat.mul_one] at hX
        rw [if_neg (by omega)] at hX
        subst hX
        have HC2 := fun v W (h : SlW W v (st.drop 2)) => clone_any v (st.drop 2) W h hdl
        have HX := hide hXs
        have HDL := hide hdl2
        clear hT hO hsl hM h0 hk hwt hx hXs hdl hdl2 HC
        go_enter Tryz.func151, Tryz.ntmps151
        go_wp2_with fail
        refine (HC2 _ _ (HX.out.alloc _)).mono ?_
        rintro e w4 ⟨v4, rfl, hown, hb4⟩
        have hB4 : Below (w.heap.size + 1) (resW w) w4 := hb4.mono (by simp)
        have hBw4 : Below w.heap.size w w4 := ((Below.refl _ w).alloc (Nat.le_refl _) _).trans (hB4.mono (by omega))
        have hT4 := HT.out.of_block (hBw4.block b hb)
        have hown4 : WOwn w4 (w.heap.size + 1) v4 (st.length - 2) (st.drop 2) := by have h := World.ownsRow.mono (base' := w.heap.size + 1) hown (by simp); rw [HDL.out] at h; exact h
        obtain ⟨A4, c4, rfl⟩ := own_slice hown4
        obtain ⟨r0, r1, r2, g0, g1, g2, rz⟩ := cells3 ((hB4.block w.heap.size (by omega)).trans (heap_alloc_new w _))
        obtain ⟨_, _, _, _, t4, _, _, _, _, _, _, t4f, tb⟩ := hT4.cells
        have HT4 := hide hT4
        have HO4 := hide hown4
        have HW4 := hide hBw4
        clear hT4 hown hown4 hBw4 hB4 hb4
        go_wp2
        refine bodyPost_ret (v := .agg #[.int .i64 0, .int .u64 x, .slice none 0 0]) (by simp [results, Tryz.results151, go_sem, *]) rfl ?_
        exact mpost_new (B' := w.heap.size + 1) (L := st.length - 2) (w3 := w4.setCell ⟨b, 4, none⟩ (.slice A4 (st.length - 2) c4)) (HT4.out.set _) (owns_keepB (S := fun j => j ≠ b) HO4.out ((Keep.refl _ _).setCell (by simp) _) (fun j hj _ => by omega)) (by omega) hBw hb rfl (HDL.out.symm) ((Keep.of_below (K := fun j => j < w.heap.size ∧ j ≠ b) HW4.out (fun k hk => hk.1)).setCell (by simp) _) (by (repeat' (first | exact Keep.refl _ _ | refine Keep.setCell ?_ (by simp) _ | refine Keep.drew ?_)))
end Go.Proofs.YtmiimpmfkjcjlaaGreat
