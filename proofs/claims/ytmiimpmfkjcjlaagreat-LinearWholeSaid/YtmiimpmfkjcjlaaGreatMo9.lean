import Derived.Test.YtmiimpmfkjcjlaaGreatMo8
namespace Go.Proofs.YtmiimpmfkjcjlaaGreat
open Go.RowKit
attribute [local go_sem] run_store_fn run_store_nilfn
set_option maxRecDepth 100000 in
set_option maxHeartbeats 4000000 in
theorem mshared_any (n : Int) (s : Sp) (c : Cl) (b B : Nat) (v : Value) (st : List Int) (w : World) (hT : ThAt w b n s v c) (hO : WOwn w B v st.length st) (hBw : B ≤ w.heap.size) (hl0 : 0 < st.length) (hl : st.length ≤ 9) (hr : rightB17 s.p (st.length - 1) = true)
    (ha : U64 c.a) (hk0 : 0 ≤ c.kind) (hk1 : c.kind < kindsI s.p) (hq1 : 1 ≤ s.q) (hq2 : s.q ≤ 256) (hu : ∀ z ∈ st, U64 z) :
    Calls Tryz.prog 150 #[.pointer (some ⟨b, 0, none⟩)] w (ThPost n s c b B (sharedM s st c) w) := by
  obtain ⟨a0, a1, a2, a3, a4, a5, a6, a7, a8, a9, a10, f4, hb⟩ := hT.cells
  have hsl : SlW w v st := wrow_sl hO (by unfold maxLen; omega)
  obtain ⟨x, hx⟩ : ∃ x, st[0]? = some x := ⟨_, List.getElem?_eq_getElem hl0⟩
  have hxu := hu x (List.mem_of_getElem? hx)
  have hat : at0 st 0 = x := by unfold at0; rw [hx]; rfl
  obtain ⟨vA, vc, rfl⟩ := own_slice hO
  obtain ⟨sb, so, rfl, cx, hsb⟩ := sl_at hsl 0 x hx
  simp only [Nat.add_zero] at cx
  have HT := hide hT
  have HO := hide hO
  obtain ⟨i0, hi, hz0, hz1, hz2⟩ := info_parts info_word
  have hwq : IntKind.u64.wrap s.q = s.q := by rw [IntKind.wrap_u64]; omega
  have q0 : (0 : Int) < (st.length : Int) := by omega
  have q1 : (1 : Int) ≤ (st.length : Int) := by omega
  obtain ⟨hx0, hx1⟩ := hxu
  by_cases h0 : 4294967296 ≤ c.a
  · have hM : sharedM s st c = (st, ⟨10, 0, []⟩) := by unfold sharedM; rw [if_pos h0]; rfl
    rw [hM]
    have d0 : decide (4294967296 ≤ c.a) = true := by simpa using h0
    clear hT hO hsl hM h0 hx hat hu hr
    go_enter Tryz.func150, Tryz.ntmps150
    go_wp2_with fail
    refine (mno_any _ _).mono ?_
    rintro e w1 ⟨rfl, rfl⟩
    go_wp2
    refine bodyPost_ret (v := .agg #[.int .i64 10, .int .u64 0, .slice none 0 0]) (by simp [results, Tryz.results150, go_sem, *]) rfl ?_
    exact mpost_keep hb HT.out HO.out rfl (by (repeat' (first | exact Below.refl _ _ | assumption | refine Below.drew ?_ | refine below_drewN ?_ _ | refine Below.alloc ?_ (by simp <;> omega) _ | refine Below.setCell ?_ (by simp <;> omega) _)))
  · have d0 : decide (4294967296 ≤ c.a) = false := by simpa using h0
    by_cases h1 : s.q ≤ x
    · have hM : sharedM s st c = (st, ⟨6, 0, []⟩) := by unfold sharedM; rw [if_neg h0, hat, if_pos h1]; rfl
      rw [hM]
      have d1 : decide (IntKind.u64.wrap s.q ≤ x) = true := by rw [hwq]; simpa using h1
      clear hT hO hsl hM h0 hx hat hu hr hwq h1
      go_enter Tryz.func150, Tryz.ntmps150
      go_wp2_with fail
      refine wp_region_seq (Below w.heap.size w) (.take 0 <| .take 1 <| .take 2 <| .take 3 <| .take 4 <| .take 5 <| .take 6 <| .take 7 <| .take 8 <| .take 9 <| .take 10 <| .take 11 <| .take 12 <| .take 13 <| .done) (by kernel_rfl) (by kernel_rfl) (by kernel_rfl) (by (repeat' (first | exact Below.refl _ _ | assumption | refine Below.drew ?_ | refine below_drewN ?_ _ | refine Below.alloc ?_ (by simp <;> omega) _ | refine Below.setCell ?_ (by simp <;> omega) _))) ?_
      repeat (refine seq_take (v := ?_) rfl (by rfl) ?_ ?_; rotate_left; (focus (intro wS hS; have z1 := (hS.cell (p := ⟨b, 1, none⟩) hb).trans a1; have z2 := (hS.cell (p := ⟨b, 2, none⟩) hb).trans a2; have z3 := (hS.cell (p := ⟨b, 3, none⟩) hb).trans a3; have z4 := (hS.cell (p := ⟨b, 4, none⟩) hb).trans a4; have z7 := (hS.cell (p := ⟨b, 7, none⟩) hb).trans a7; have z8 := (hS.cell (p := ⟨b, 8, none⟩) hb).trans a8; have zx := (hS.cell (p := ⟨sb, so, none⟩) hsb).trans cx; go_simp; exact rfl)); simp only [Act.put, sqA, sqB, sqC])
      refine seq_nil ?_
      go_wp2_with fail
      refine (mno_any _ _).mono ?_
      rintro e w1 ⟨rfl, rfl⟩
      go_wp2
      refine bodyPost_ret (v := .agg #[.int .i64 6, .int .u64 0, .slice none 0 0]) (by simp [results, Tryz.results150, go_sem, *]) rfl ?_
      exact mpost_keep hb HT.out HO.out rfl (by (repeat' (first | exact Below.refl _ _ | assumption | refine Below.drew ?_ | refine below_drewN ?_ _ | refine Below.alloc ?_ (by simp <;> omega) _ | refine Below.setCell ?_ (by simp <;> omega) _)))
    · have d1 : decide (IntKind.u64.wrap s.q ≤ x) = false := by rw [hwq]; simpa using h1
      have hx9 : x ≤ 256 := by omega
      obtain ⟨E, hE⟩ : ∃ E, apE s.p (st.drop 1) c.kind c.a = E := ⟨_, rfl⟩
      obtain ⟨V, hV⟩ : ∃ V, apV s.p (st.drop 1) c.kind c.a = V := ⟨_, rfl⟩
      obtain ⟨L, hL⟩ : ∃ L, apL s.p (st.drop 1) c.kind c.a = L := ⟨_, rfl⟩
      obtain ⟨k4, hk4⟩ : ∃ k4, L.length = k4 := ⟨_, rfl⟩
      have hM : sharedM s st c = ((x + 1) :: L, ⟨E, V, []⟩) := by unfold sharedM; rw [if_neg h0, hat, if_neg h1, hE, hV, hL]
      rw [hM]
      have hdl : (st.drop 1).length = st.length - 1 := List.length_drop
      have hL9 : L.length ≤ 1000000 := by
        rw [← hL]
        unfold apL
        rw [hdl, hr]
        simp only [Bool.true_eq_false, if_false]
        rw [if_pos ⟨hk0, hk1⟩]
        exact seqL_len (by rw [hdl]; exact hr) hk0 hk1
      obtain ⟨X, hX, hXs⟩ := sl_drop (k := 1) hsl (by omega)
      unfold sliced at hX
      have hap := fun v W (h : SlW W v (st.drop 1)) => apply_own s.p c.kind c.a v (st.drop 1) W h (by rw [hdl]; omega) (fun z hz => hu z (List.mem_of_mem_drop hz)) ha E V L k4 hE hV hL hk4
      by_cases hvc : vc = 1
      · rw [if_pos hvc] at hX
        subst hvc
        subst hX
        have HX := hide hXs
        have HAP := hap
        have HK4 := hide hk4
        have HL9 := hide hL9
        clear hT hO hsl hM h0 hx hat hu hr hwq h1 hE hV hL hdl hap hXs hk4
        go_enter Tryz.func150, Tryz.ntmps150
        go_wp2_with fail
        refine wp_region_seq (Below w.heap.size w) (.take 0 <| .take 1 <| .take 2 <| .take 3 <| .take 4 <| .take 5 <| .take 6 <| .take 7 <| .take 8 <| .take 9 <| .take 10 <| .take 11 <| .take 12 <| .take 13 <| .done) (by kernel_rfl) (by kernel_rfl) (by kernel_rfl) (by (repeat' (first | exact Below.refl _ _ | assumption | refine Below.drew ?_ | refine below_drewN ?_ _ | refine Below.alloc ?_ (by simp <;> omega) _ | refine Below.setCell ?_ (by simp <;> omega) _))) ?_
        repeat (refine seq_take (v := ?_) rfl (by rfl) ?_ ?_; rotate_left; (focus (intro wS hS; have z1 := (hS.cell (p := ⟨b, 1, none⟩) hb).trans a1; have z2 := (hS.cell (p := ⟨b, 2, none⟩) hb).trans a2; have z3 := (hS.cell (p := ⟨b, 3, none⟩) hb).trans a3; have z4 := (hS.cell (p := ⟨b, 4, none⟩) hb).trans a4; have z7 := (hS.cell (p := ⟨b, 7, none⟩) hb).trans a7; have z8 := (hS.cell (p := ⟨b, 8, none⟩) hb).trans a8; have zx := (hS.cell (p := ⟨sb, so, none⟩) hsb).trans cx; go_simp; exact rfl)); simp only [Act.put, sqA, sqB, sqC])
        refine seq_nil ?_
        go_wp2_with fail
        refine wp_region_seq (Below w.heap.size w) (.take 0 <| .take 1 <| .take 2 <| .take 3 <| .take 4 <| .take 5 <| .take 6 <| .take 7 <| .take 8 <| .take 9 <| .take 10 <| .take 11 <| .take 12 <| .take 13 <| .take 14 <| .take 15 <| .take 16 <| .take 17 <| .take 18 <| .take 19 <| .fork 20 (.take 21 <| .take 22 <| .take 23 <| .run 24 <| .take 25 <| .run 26 <| .done) 24 (.run 20 <| .take 21 <| .take 22 <| .take 23 <| .take 25 <| .run 26 <| .done)) (by kernel_rfl) (by kernel_rfl) (by kernel_rfl) (by (repeat' (first | exact Below.refl _ _ | assumption | refine Below.drew ?_ | refine below_drewN ?_ _ | refine Below.alloc ?_ (by simp <;> omega) _ | refine Below.setCell ?_ (by simp <;> omega) _))) ?_
        repeat (refine seq_take (v := ?_) rfl (by rfl) ?_ ?_; rotate_left; (focus (intro wS hS; have z1 := (hS.cell (p := ⟨b, 1, none⟩) hb).trans a1; have z2 := (hS.cell (p := ⟨b, 2, none⟩) hb).trans a2; have z3 := (hS.cell (p := ⟨b, 3, none⟩) hb).trans a3; have z4 := (hS.cell (p := ⟨b, 4, none⟩) hb).trans a4; have z7 := (hS.cell (p := ⟨b, 7, none⟩) hb).trans a7; have z8 := (hS.cell (p := ⟨b, 8, none⟩) hb).trans a8; have zx := (hS.cell (p := ⟨sb, so, none⟩) hsb).trans cx; go_simp; exact rfl)); simp only [Act.put, sqA, sqB, sqC])
        refine seq_fork ?_ ?_
        · refine seq_run rfl (by rfl) (fun K hK => ?_)
          go_simp
          refine (HAP _ _ ?_).mono ?_
          · exact HX.out.alloc _
          rintro e w4 ⟨A4, c4, rfl, ho4, hb4⟩
          have hs4 := wrow_sl ho4 (by have := HL9.out; unfold maxLen; omega)
          have hB4 : Below (w.heap.size + 1) (resW w) w4 := ((Below.refl _ _).drew.drew).trans (hb4.mono (by simp))
          have hBw4 : Below w.heap.size w w4 := ((Below.refl _ w).alloc (Nat.le_refl _) _).trans (hB4.mono (by omega))
          refine hK _ _ hBw4 ?_
          clear hK K
          have hz4 : w.heap.size + 1 ≤ w4.heap.size := by have := hB4.size; simpa using this
          repeat (refine seq_take (v := ?_) rfl (by rfl) ?_ ?_; rotate_left; (focus (intro wS hS; have z1 := (hS.cell (p := ⟨b, 1, none⟩) hb).trans a1; have z2 := (hS.cell (p := ⟨b, 2, none⟩) hb).trans a2; have z3 := (hS.cell (p := ⟨b, 3, none⟩) hb).trans a3; have z4 := (hS.cell (p := ⟨b, 4, none⟩) hb).trans a4; have z7 := (hS.cell (p := ⟨b, 7, none⟩) hb).trans a7; have z8 := (hS.cell (p := ⟨b, 8, none⟩) hb).trans a8; have zx := (hS.cell (p := ⟨sb, so, none⟩) hsb).trans cx; go_simp; exact rfl)); simp only [Act.put, sqA, sqB, sqC])
          refine seq_run rfl (by rfl) (fun K hK => ?_)
          go_simp
          refine hK _ _ (hBw4.alloc (by omega) _) ?_
          clear hK K
          repeat (refine seq_take (v := ?_) rfl (by rfl) ?_ ?_; rotate_left; (focus (intro wS hS; have z1 := (hS.cell (p := ⟨b, 1, none⟩) hb).trans a1; have z2 := (hS.cell (p := ⟨b, 2, none⟩) hb).trans a2; have z3 := (hS.cell (p := ⟨b, 3, none⟩) hb).trans a3; have z4 := (hS.cell (p := ⟨b, 4, none⟩) hb).trans a4; have z7 := (hS.cell (p := ⟨b, 7, none⟩) hb).trans a7; have z8 := (hS.cell (p := ⟨b, 8, none⟩) hb).trans a8; have zx := (hS.cell (p := ⟨sb, so, none⟩) hsb).trans cx; go_simp; exact rfl)); simp only [Act.put, sqA, sqB, sqC])
          refine seq_run rfl (by rfl) (fun K hK => ?_)
          go_simp
          refine hK _ _ (hBw4.alloc (by omega) _) ?_
          clear hK K
          refine seq_nil ?_
          obtain ⟨r4, hr4⟩ : ∃ r4, r4 = w4.heap.size := ⟨_, rfl⟩
          obtain ⟨W5, hW5⟩ : ∃ W5, W5 = w4.alloc (.cells #[.int .i64 E, .int .u64 V, .slice none 0 0] 57) := ⟨_, rfl⟩
          have hc4 : W5.heap[r4]? = some (.cells #[.int .i64 E, .int .u64 V, .slice none 0 0] 57 (0, 0)) := by rw [hW5, hr4]; exact heap_alloc_new _ _
          have hB5 : Below (w.heap.size + 1) (resW w) W5 := by rw [hW5]; exact hB4.alloc hz4 _
          have hs5 : SlW W5 (.slice A4 k4 c4) L := by rw [hW5]; exact hs4.alloc _
          have hr5 : w.heap.size < r4 := by omega
          rw [← hr4, ← hW5]
          clear hr4 hW5 hs4 ho4 hb4 hB4 hBw4 hz4
          have hBw5 : Below w.heap.size w W5 := ((Below.refl _ w).alloc (Nat.le_refl _) _).trans (hB5.mono (by omega))
          have hT5 := HT.out.of_block (hBw5.block b hb)
          have tx := (hBw5.cell (p := ⟨sb, so, none⟩) hsb).trans cx
          have hsb5 : sb < W5.heap.size := by have := hBw5.size; omega
          obtain ⟨_, _, _, _, t4, _, _, _, _, _, _, t4f, tb⟩ := hT5.cells
          have HT5 := hide hT5
          have HB5 := hide hB5
          have HW5 := hide hBw5
          have HS5 := hide hs5
          have HC4 := hide hc4
          have hown := hide (made_lit1 W5 W5.heap.size (x + 1) (Nat.le_refl _))
          have hr4l : r4 < W5.heap.size := (Array.getElem?_eq_some_iff.1 hc4).1
          have hx19 : 0 ≤ x + 1 := by omega
          clear hT5 hB5 hBw5 hs5 hc4
          go_wp2_with (at_builtin; refine wpList_append_sl (kk := .u64) rfl _ _ 24 rfl W5.heap.size 25 i0 (.int .u64 0) 8 Tryz.underlying24 hi hz0 hz1 hz2 rfl _ 1 [x + 1] rfl hown.out A4 k4 c4 L rfl (HS5.out.alloc _) (by unfold maxLen; omega) (by omega) (by simp) ?_; intro v7 w7 hown7 hg7 _; have hB7 : Below W5.heap.size W5 w7 := ((Below.refl _ W5).alloc (Nat.le_refl _) _).grown hg7 (by simp) (fun k hk => by cases hk; exact Nat.le_refl _); have hT7 := HT5.out.of_block (hB7.block b tb); obtain ⟨A7, c7, rfl⟩ := own_slice hown7; obtain ⟨_, _, _, _, u4, _, _, _, _, _, _, u4f, ub⟩ := hT7.cells; obtain ⟨e0, e1, e2, _, _, _, er⟩ := cells3 ((hB7.block r4 hr4l).trans HC4.out); have hB57 : Below (w.heap.size + 1) (resW w) w7 := HB5.out.trans (hB7.mono (by omega)); obtain ⟨r0, r1, r2, g0, g1, g2, rz⟩ := cells3 ((hB57.block w.heap.size (by omega)).trans (heap_alloc_new w _)); have HT7 := hide hT7; have HO7 := hide hown7; have HW7 := hide (HW5.out.trans (hB7.mono (by omega))); clear hT7 hown7 hB7 hg7 hB57 t4 t4f tx)
          have hne1 : r4 ≠ b := by omega
          have hne2 : w.heap.size ≠ b := by omega
          have hne3 : r4 ≠ w.heap.size := by omega
          refine bodyPost_ret (v := .agg #[.int .i64 E, .int .u64 V, .slice none 0 0]) (by simp [results, Tryz.results150, go_sem, *]) rfl ?_
          refine mpost_new (B' := w.heap.size + 1) (L := 1 + L.length) (w3 := w7.setCell ⟨b, 4, none⟩ (.slice A7 (1 + L.length) c7)) (HT7.out.set _) (owns_keepB (S := fun j => j ≠ b) (owns_base HO7.out (by omega)) ((Keep.refl _ _).setCell (by simp) _) (fun j hj _ => by omega)) (by omega) hBw hb rfl (by simp; omega) ((Keep.of_below (K := fun j => j < w.heap.size ∧ j ≠ b) HW7.out (fun k hk => hk.1)).setCell (by simp) _) (by (repeat' (first | exact Keep.refl _ _ | refine Keep.setCell ?_ (by simp) _ | refine Keep.drew ?_)))
        · refine seq_run rfl (by rfl) (fun K hK => ?_)
          go_simp
          refine hK _ _ (by (repeat' (first | exact Below.refl _ _ | assumption | refine Below.drew ?_ | refine below_drewN ?_ _ | refine Below.alloc ?_ (by simp <;> omega) _ | refine Below.setCell ?_ (by simp <;> omega) _))) ?_
          clear hK K
          refine seq_run rfl (by rfl) (fun K hK => ?_)
          go_simp
          refine (HAP _ _ ?_).mono ?_
          · exact (HX.out.alloc _).alloc _
          rintro e w4 ⟨A4, c4, rfl, ho4, hb4⟩
          have hB4x : Below (w.heap.size + 2) ((resW w).alloc (.cells #[.int .i64 0, .int .u64 0, .slice none 0 0] 57)) w4 := ((Below.refl _ _).drew.drew).trans (hb4.mono (by simp))
          have hB4 : Below (w.heap.size + 1) (resW w) w4 := ((Below.refl _ _).alloc (by simp) _).trans (hB4x.mono (by omega))
          have hBw4 : Below w.heap.size w w4 := ((Below.refl _ w).alloc (Nat.le_refl _) _).trans (hB4.mono (by omega))
          refine hK _ _ hBw4 ?_
          clear hK K
          have hz4 : w.heap.size + 2 ≤ w4.heap.size := by have := hB4x.size; simpa using this
          have ho4' : WRow w4 (w.heap.size + 2) (.slice A4 k4 c4) L := wrow_base ho4 (by simp)
          obtain ⟨r4, hr4⟩ : ∃ r4, r4 = w.heap.size + 1 := ⟨_, rfl⟩
          have hc3 : w4.heap[r4]? = some (.cells #[.int .i64 0, .int .u64 0, .slice none 0 0] 57 (0, 0)) := by
            rw [hr4]
            have h := heap_alloc_new (resW w) (.cells #[.int .i64 0, .int .u64 0, .slice none 0 0] 57)
            exact (hB4x.block (w.heap.size + 1) (by omega)).trans (by simpa using h)
          have hr5 : w.heap.size < r4 := by omega
          have hr6 : r4 < w.heap.size + 2 := by omega
          rw [← hr4]
          obtain ⟨e0, e1, e2, f0, f1, f2, er⟩ := cells3 hc3
          have HR4 := hide hr4
          clear hr4 ho4 hb4
          repeat (refine seq_take (v := ?_) rfl (by rfl) ?_ ?_; rotate_left; (focus (intro wS hS; have z1 := (hS.cell (p := ⟨b, 1, none⟩) hb).trans a1; have z2 := (hS.cell (p := ⟨b, 2, none⟩) hb).trans a2; have z3 := (hS.cell (p := ⟨b, 3, none⟩) hb).trans a3; have z4 := (hS.cell (p := ⟨b, 4, none⟩) hb).trans a4; have z7 := (hS.cell (p := ⟨b, 7, none⟩) hb).trans a7; have z8 := (hS.cell (p := ⟨b, 8, none⟩) hb).trans a8; have zx := (hS.cell (p := ⟨sb, so, none⟩) hsb).trans cx; go_simp; exact rfl)); simp only [Act.put, sqA, sqB, sqC])
          refine seq_run rfl (by rfl) (fun K hK => ?_)
          go_simp
          have hK4 : Keep (fun j => j ≠ r4) w4 (((w4.setCell ⟨r4, 0, none⟩ (.int .i64 E)).setCell ⟨r4, 1, none⟩ (.int .u64 V)).setCell ⟨r4, 2, none⟩ (.slice none 0 0)) := (((Keep.refl _ _).setCell (by simp) _).setCell (by simp) _).setCell (by simp) _
          refine hK _ _ (hBw4.trans (hK4.below (fun k hk => by omega))) ?_
          clear hK K
          refine seq_nil ?_
          obtain ⟨W5, hW5⟩ : ∃ W5, W5 = (((w4.setCell ⟨r4, 0, none⟩ (.int .i64 E)).setCell ⟨r4, 1, none⟩ (.int .u64 V)).setCell ⟨r4, 2, none⟩ (.slice none 0 0)) := ⟨_, rfl⟩
          have hc4 : W5.heap[r4]? = some (.cells #[.int .i64 E, .int .u64 V, .slice none 0 0] 57 (0, 0)) := by rw [hW5]; exact cells_set (i := 2) (cells_set (i := 1) (cells_set (i := 0) hc3))
          rw [← hW5] at hK4 ⊢
          have hB5 : Below (w.heap.size + 1) (resW w) W5 := hB4.trans (hK4.below (fun k hk => by omega))
          have hs5 : SlW W5 (.slice A4 k4 c4) L := wrow_sl (B := w.heap.size + 2) (owns_keepB ho4' hK4 (fun j hj _ => by omega)) (by have := HL9.out; unfold maxLen; omega)
          clear hW5 hK4 hc3 e0 e1 e2 f0 f1 f2 hB4x hB4 hBw4 hz4 ho4'
          have hBw5 : Below w.heap.size w W5 := ((Below.refl _ w).alloc (Nat.le_refl _) _).trans (hB5.mono (by omega))
          have hT5 := HT.out.of_block (hBw5.block b hb)
          have tx := (hBw5.cell (p := ⟨sb, so, none⟩) hsb).trans cx
          have hsb5 : sb < W5.heap.size := by have := hBw5.size; omega
          obtain ⟨_, _, _, _, t4, _, _, _, _, _, _, t4f, tb⟩ := hT5.cells
          have HT5 := hide hT5
          have HB5 := hide hB5
          have HW5 := hide hBw5
          have HS5 := hide hs5
          have HC4 := hide hc4
          have hown := hide (made_lit1 W5 W5.heap.size (x + 1) (Nat.le_refl _))
          have hr4l : r4 < W5.heap.size := (Array.getElem?_eq_some_iff.1 hc4).1
          have hx19 : 0 ≤ x + 1 := by omega
          clear hT5 hB5 hBw5 hs5 hc4
          go_wp2_with (at_builtin; refine wpList_append_sl (kk := .u64) rfl _ _ 24 rfl W5.heap.size 25 i0 (.int .u64 0) 8 Tryz.underlying24 hi hz0 hz1 hz2 rfl _ 1 [x + 1] rfl hown.out A4 k4 c4 L rfl (HS5.out.alloc _) (by unfold maxLen; omega) (by omega) (by simp) ?_; intro v7 w7 hown7 hg7 _; have hB7 : Below W5.heap.size W5 w7 := ((Below.refl _ W5).alloc (Nat.le_refl _) _).grown hg7 (by simp) (fun k hk => by cases hk; exact Nat.le_refl _); have hT7 := HT5.out.of_block (hB7.block b tb); obtain ⟨A7, c7, rfl⟩ := own_slice hown7; obtain ⟨_, _, _, _, u4, _, _, _, _, _, _, u4f, ub⟩ := hT7.cells; obtain ⟨e0, e1, e2, _, _, _, er⟩ := cells3 ((hB7.block r4 hr4l).trans HC4.out); have hB57 : Below (w.heap.size + 1) (resW w) w7 := HB5.out.trans (hB7.mono (by omega)); obtain ⟨r0, r1, r2, g0, g1, g2, rz⟩ := cells3 ((hB57.block w.heap.size (by omega)).trans (heap_alloc_new w _)); have HT7 := hide hT7; have HO7 := hide hown7; have HW7 := hide (HW5.out.trans (hB7.mono (by omega))); clear hT7 hown7 hB7 hg7 hB57 t4 t4f tx)
          have hne1 : r4 ≠ b := by omega
          have hne2 : w.heap.size ≠ b := by omega
          have hne3 : r4 ≠ w.heap.size := by omega
          refine bodyPost_ret (v := .agg #[.int .i64 E, .int .u64 V, .slice none 0 0]) (by simp [results, Tryz.results150, go_sem, *]) rfl ?_
          refine mpost_new (B' := w.heap.size + 1) (L := 1 + L.length) (w3 := w7.setCell ⟨b, 4, none⟩ (.slice A7 (1 + L.length) c7)) (HT7.out.set _) (owns_keepB (S := fun j => j ≠ b) (owns_base HO7.out (by omega)) ((Keep.refl _ _).setCell (by simp) _) (fun j hj _ => by omega)) (by omega) hBw hb rfl (by simp; omega) ((Keep.of_below (K := fun j => j < w.heap.size ∧ j ≠ b) HW7.out (fun k hk => hk.1)).setCell (by simp) _) (by (repeat' (first | exact Keep.refl _ _ | refine Keep.setCell ?_ (by simp) _ | refine Keep.drew ?_)))
      · rw [if_neg hvc] at hX
        simp only [Option.map_some, Addr.add, Nat.mul_one] at hX
        rw [if_neg (by omega)] at hX
        subst hX
        have HX := hide hXs
        have HAP := hap
        have HK4 := hide hk4
        have HL9 := hide hL9
        clear hT hO hsl hM h0 hx hat hu hr hwq h1 hE hV hL hdl hap hXs hk4
        go_enter Tryz.func150, Tryz.ntmps150
        go_wp2_with fail
        refine wp_region_seq (Below w.heap.size w) (.take 0 <| .take 1 <| .take 2 <| .take 3 <| .take 4 <| .take 5 <| .take 6 <| .take 7 <| .take 8 <| .take 9 <| .take 10 <| .take 11 <| .take 12 <| .take 13 <| .done) (by kernel_rfl) (by kernel_rfl) (by kernel_rfl) (by (repeat' (first | exact Below.refl _ _ | assumption | refine Below.drew ?_ | refine below_drewN ?_ _ | refine Below.alloc ?_ (by simp <;> omega) _ | refine Below.setCell ?_ (by simp <;> omega) _))) ?_
        repeat (refine seq_take (v := ?_) rfl (by rfl) ?_ ?_; rotate_left; (focus (intro wS hS; have z1 := (hS.cell (p := ⟨b, 1, none⟩) hb).trans a1; have z2 := (hS.cell (p := ⟨b, 2, none⟩) hb).trans a2; have z3 := (hS.cell (p := ⟨b, 3, none⟩) hb).trans a3; have z4 := (hS.cell (p := ⟨b, 4, none⟩) hb).trans a4; have z7 := (hS.cell (p := ⟨b, 7, none⟩) hb).trans a7; have z8 := (hS.cell (p := ⟨b, 8, none⟩) hb).trans a8; have zx := (hS.cell (p := ⟨sb, so, none⟩) hsb).trans cx; go_simp; exact rfl)); simp only [Act.put, sqA, sqB, sqC])
        refine seq_nil ?_
        go_wp2_with fail
        refine wp_region_seq (Below w.heap.size w) (.take 0 <| .take 1 <| .take 2 <| .take 3 <| .take 4 <| .take 5 <| .take 6 <| .take 7 <| .take 8 <| .take 9 <| .take 10 <| .take 11 <| .take 12 <| .take 13 <| .take 14 <| .take 15 <| .take 16 <| .take 17 <| .take 18 <| .take 19 <| .fork 20 (.take 21 <| .take 22 <| .take 23 <| .run 24 <| .take 25 <| .run 26 <| .done) 24 (.run 20 <| .take 21 <| .take 22 <| .take 23 <| .take 25 <| .run 26 <| .done)) (by kernel_rfl) (by kernel_rfl) (by kernel_rfl) (by (repeat' (first | exact Below.refl _ _ | assumption | refine Below.drew ?_ | refine below_drewN ?_ _ | refine Below.alloc ?_ (by simp <;> omega) _ | refine Below.setCell ?_ (by simp <;> omega) _))) ?_
        repeat (refine seq_take (v := ?_) rfl (by rfl) ?_ ?_; rotate_left; (focus (intro wS hS; have z1 := (hS.cell (p := ⟨b, 1, none⟩) hb).trans a1; have z2 := (hS.cell (p := ⟨b, 2, none⟩) hb).trans a2; have z3 := (hS.cell (p := ⟨b, 3, none⟩) hb).trans a3; have z4 := (hS.cell (p := ⟨b, 4, none⟩) hb).trans a4; have z7 := (hS.cell (p := ⟨b, 7, none⟩) hb).trans a7; have z8 := (hS.cell (p := ⟨b, 8, none⟩) hb).trans a8; have zx := (hS.cell (p := ⟨sb, so, none⟩) hsb).trans cx; go_simp; exact rfl)); simp only [Act.put, sqA, sqB, sqC])
        refine seq_fork ?_ ?_
        · refine seq_run rfl (by rfl) (fun K hK => ?_)
          go_simp
          refine (HAP _ _ ?_).mono ?_
          · exact HX.out.alloc _
          rintro e w4 ⟨A4, c4, rfl, ho4, hb4⟩
          have hs4 := wrow_sl ho4 (by have := HL9.out; unfold maxLen; omega)
          have hB4 : Below (w.heap.size + 1) (resW w) w4 := ((Below.refl _ _).drew.drew).trans (hb4.mono (by simp))
          have hBw4 : Below w.heap.size w w4 := ((Below.refl _ w).alloc (Nat.le_refl _) _).trans (hB4.mono (by omega))
          refine hK _ _ hBw4 ?_
          clear hK K
          have hz4 : w.heap.size + 1 ≤ w4.heap.size := by have := hB4.size; simpa using this
          repeat (refine seq_take (v := ?_) rfl (by rfl) ?_ ?_; rotate_left; (focus (intro wS hS; have z1 := (hS.cell (p := ⟨b, 1, none⟩) hb).trans a1; have z2 := (hS.cell (p := ⟨b, 2, none⟩) hb).trans a2; have z3 := (hS.cell (p := ⟨b, 3, none⟩) hb).trans a3; have z4 := (hS.cell (p := ⟨b, 4, none⟩) hb).trans a4; have z7 := (hS.cell (p := ⟨b, 7, none⟩) hb).trans a7; have z8 := (hS.cell (p := ⟨b, 8, none⟩) hb).trans a8; have zx := (hS.cell (p := ⟨sb, so, none⟩) hsb).trans cx; go_simp; exact rfl)); simp only [Act.put, sqA, sqB, sqC])
          refine seq_run rfl (by rfl) (fun K hK => ?_)
          go_simp
          refine hK _ _ (hBw4.alloc (by omega) _) ?_
          clear hK K
          repeat (refine seq_take (v := ?_) rfl (by rfl) ?_ ?_; rotate_left; (focus (intro wS hS; have z1 := (hS.cell (p := ⟨b, 1, none⟩) hb).trans a1; have z2 := (hS.cell (p := ⟨b, 2, none⟩) hb).trans a2; have z3 := (hS.cell (p := ⟨b, 3, none⟩) hb).trans a3; have z4 := (hS.cell (p := ⟨b, 4, none⟩) hb).trans a4; have z7 := (hS.cell (p := ⟨b, 7, none⟩) hb).trans a7; have z8 := (hS.cell (p := ⟨b, 8, none⟩) hb).trans a8; have zx := (hS.cell (p := ⟨sb, so, none⟩) hsb).trans cx; go_simp; exact rfl)); simp only [Act.put, sqA, sqB, sqC])
          refine seq_run rfl (by rfl) (fun K hK => ?_)
          go_simp
          refine hK _ _ (hBw4.alloc (by omega) _) ?_
          clear hK K
          refine seq_nil ?_
          obtain ⟨r4, hr4⟩ : ∃ r4, r4 = w4.heap.size := ⟨_, rfl⟩
          obtain ⟨W5, hW5⟩ : ∃ W5, W5 = w4.alloc (.cells #[.int .i64 E, .int .u64 V, .slice none 0 0] 57) := ⟨_, rfl⟩
          have hc4 : W5.heap[r4]? = some (.cells #[.int .i64 E, .int .u64 V, .slice none 0 0] 57 (0, 0)) := by rw [hW5, hr4]; exact heap_alloc_new _ _
          have hB5 : Below (w.heap.size + 1) (resW w) W5 := by rw [hW5]; exact hB4.alloc hz4 _
          have hs5 : SlW W5 (.slice A4 k4 c4) L := by rw [hW5]; exact hs4.alloc _
          have hr5 : w.heap.size < r4 := by omega
          rw [← hr4, ← hW5]
          clear hr4 hW5 hs4 ho4 hb4 hB4 hBw4 hz4
          have hBw5 : Below w.heap.size w W5 := ((Below.refl _ w).alloc (Nat.le_refl _) _).trans (hB5.mono (by omega))
          have hT5 := HT.out.of_block (hBw5.block b hb)
          have tx := (hBw5.cell (p := ⟨sb, so, none⟩) hsb).trans cx
          have hsb5 : sb < W5.heap.size := by have := hBw5.size; omega
          obtain ⟨_, _, _, _, t4, _, _, _, _, _, _, t4f, tb⟩ := hT5.cells
          have HT5 := hide hT5
          have HB5 := hide hB5
          have HW5 := hide hBw5
          have HS5 := hide hs5
          have HC4 := hide hc4
          have hown := hide (made_lit1 W5 W5.heap.size (x + 1) (Nat.le_refl _))
          have hr4l : r4 < W5.heap.size := (Array.getElem?_eq_some_iff.1 hc4).1
          have hx19 : 0 ≤ x + 1 := by omega
          clear hT5 hB5 hBw5 hs5 hc4
          go_wp2_with (at_builtin; refine wpList_append_sl (kk := .u64) rfl _ _ 24 rfl W5.heap.size 25 i0 (.int .u64 0) 8 Tryz.underlying24 hi hz0 hz1 hz2 rfl _ 1 [x + 1] rfl hown.out A4 k4 c4 L rfl (HS5.out.alloc _) (by unfold maxLen; omega) (by omega) (by simp) ?_; intro v7 w7 hown7 hg7 _; have hB7 : Below W5.heap.size W5 w7 := ((Below.refl _ W5).alloc (Nat.le_refl _) _).grown hg7 (by simp) (fun k hk => by cases hk; exact Nat.le_refl _); have hT7 := HT5.out.of_block (hB7.block b tb); obtain ⟨A7, c7, rfl⟩ := own_slice hown7; obtain ⟨_, _, _, _, u4, _, _, _, _, _, _, u4f, ub⟩ := hT7.cells; obtain ⟨e0, e1, e2, _, _, _, er⟩ := cells3 ((hB7.block r4 hr4l).trans HC4.out); have hB57 : Below (w.heap.size + 1) (resW w) w7 := HB5.out.trans (hB7.mono (by omega)); obtain ⟨r0, r1, r2, g0, g1, g2, rz⟩ := cells3 ((hB57.block w.heap.size (by omega)).trans (heap_alloc_new w _)); have HT7 := hide hT7; have HO7 := hide hown7; have HW7 := hide (HW5.out.trans (hB7.mono (by omega))); clear hT7 hown7 hB7 hg7 hB57 t4 t4f tx)
          have hne1 : r4 ≠ b := by omega
          have hne2 : w.heap.size ≠ b := by omega
          have hne3 : r4 ≠ w.heap.size := by omega
          refine bodyPost_ret (v := .agg #[.int .i64 E, .int .u64 V, .slice none 0 0]) (by simp [results, Tryz.results150, go_sem, *]) rfl ?_
          refine mpost_new (B' := w.heap.size + 1) (L := 1 + L.length) (w3 := w7.setCell ⟨b, 4, none⟩ (.slice A7 (1 + L.length) c7)) (HT7.out.set _) (owns_keepB (S := fun j => j ≠ b) (owns_base HO7.out (by omega)) ((Keep.refl _ _).setCell (by simp) _) (fun j hj _ => by omega)) (by omega) hBw hb rfl (by simp; omega) ((Keep.of_below (K := fun j => j < w.heap.size ∧ j ≠ b) HW7.out (fun k hk => hk.1)).setCell (by simp) _) (by (repeat' (first | exact Keep.refl _ _ | refine Keep.setCell ?_ (by simp) _ | refine Keep.drew ?_)))
        · refine seq_run rfl (by rfl) (fun K hK => ?_)
          go_simp
          refine hK _ _ (by (repeat' (first | exact Below.refl _ _ | assumption | refine Below.drew ?_ | refine below_drewN ?_ _ | refine Below.alloc ?_ (by simp <;> omega) _ | refine Below.setCell ?_ (by simp <;> omega) _))) ?_
          clear hK K
          refine seq_run rfl (by rfl) (fun K hK => ?_)
          go_simp
          refine (HAP _ _ ?_).mono ?_
          · exact (HX.out.alloc _).alloc _
          rintro e w4 ⟨A4, c4, rfl, ho4, hb4⟩
          have hB4x : Below (w.heap.size + 2) ((resW w).alloc (.cells #[.int .i64 0, .int .u64 0, .slice none 0 0] 57)) w4 := ((Below.refl _ _).drew.drew).trans (hb4.mono (by simp))
          have hB4 : Below (w.heap.size + 1) (resW w) w4 := ((Below.refl _ _).alloc (by simp) _).trans (hB4x.mono (by omega))
          have hBw4 : Below w.heap.size w w4 := ((Below.refl _ w).alloc (Nat.le_refl _) _).trans (hB4.mono (by omega))
          refine hK _ _ hBw4 ?_
          clear hK K
          have hz4 : w.heap.size + 2 ≤ w4.heap.size := by have := hB4x.size; simpa using this
          have ho4' : WRow w4 (w.heap.size + 2) (.slice A4 k4 c4) L := wrow_base ho4 (by simp)
          obtain ⟨r4, hr4⟩ : ∃ r4, r4 = w.heap.size + 1 := ⟨_, rfl⟩
          have hc3 : w4.heap[r4]? = some (.cells #[.int .i64 0, .int .u64 0, .slice none 0 0] 57 (0, 0)) := by
            rw [hr4]
            have h := heap_alloc_new (resW w) (.cells #[.int .i64 0, .int .u64 0, .slice none 0 0] 57)
            exact (hB4x.block (w.heap.size + 1) (by omega)).trans (by simpa using h)
          have hr5 : w.heap.size < r4 := by omega
          have hr6 : r4 < w.heap.size + 2 := by omega
          rw [← hr4]
          obtain ⟨e0, e1, e2, f0, f1, f2, er⟩ := cells3 hc3
          have HR4 := hide hr4
          clear hr4 ho4 hb4
          repeat (refine seq_take (v := ?_) rfl (by rfl) ?_ ?_; rotate_left; (focus (intro wS hS; have z1 := (hS.cell (p := ⟨b, 1, none⟩) hb).trans a1; have z2 := (hS.cell (p := ⟨b, 2, none⟩) hb).trans a2; have z3 := (hS.cell (p := ⟨b, 3, none⟩) hb).trans a3; have z4 := (hS.cell (p := ⟨b, 4, none⟩) hb).trans a4; have z7 := (hS.cell (p := ⟨b, 7, none⟩) hb).trans a7; have z8 := (hS.cell (p := ⟨b, 8, none⟩) hb).trans a8; have zx := (hS.cell (p := ⟨sb, so, none⟩) hsb).trans cx; go_simp; exact rfl)); simp only [Act.put, sqA, sqB, sqC])
          refine seq_run rfl (by rfl) (fun K hK => ?_)
          go_simp
          have hK4 : Keep (fun j => j ≠ r4) w4 (((w4.setCell ⟨r4, 0, none⟩ (.int .i64 E)).setCell ⟨r4, 1, none⟩ (.int .u64 V)).setCell ⟨r4, 2, none⟩ (.slice none 0 0)) := (((Keep.refl _ _).setCell (by simp) _).setCell (by simp) _).setCell (by simp) _
          refine hK _ _ (hBw4.trans (hK4.below (fun k hk => by omega))) ?_
          clear hK K
          refine seq_nil ?_
          obtain ⟨W5, hW5⟩ : ∃ W5, W5 = (((w4.setCell ⟨r4, 0, none⟩ (.int .i64 E)).setCell ⟨r4, 1, none⟩ (.int .u64 V)).setCell ⟨r4, 2, none⟩ (.slice none 0 0)) := ⟨_, rfl⟩
          have hc4 : W5.heap[r4]? = some (.cells #[.int .i64 E, .int .u64 V, .slice none 0 0] 57 (0, 0)) := by rw [hW5]; exact cells_set (i := 2) (cells_set (i := 1) (cells_set (i := 0) hc3))
          rw [← hW5] at hK4 ⊢
          have hB5 : Below (w.heap.size + 1) (resW w) W5 := hB4.trans (hK4.below (fun k hk => by omega))
          have hs5 : SlW W5 (.slice A4 k4 c4) L := wrow_sl (B := w.heap.size + 2) (owns_keepB ho4' hK4 (fun j hj _ => by omega)) (by have := HL9.out; unfold maxLen; omega)
          clear hW5 hK4 hc3 e0 e1 e2 f0 f1 f2 hB4x hB4 hBw4 hz4 ho4'
          have hBw5 : Below w.heap.size w W5 := ((Below.refl _ w).alloc (Nat.le_refl _) _).trans (hB5.mono (by omega))
          have hT5 := HT.out.of_block (hBw5.block b hb)
          have tx := (hBw5.cell (p := ⟨sb, so, none⟩) hsb).trans cx
          have hsb5 : sb < W5.heap.size := by have := hBw5.size; omega
          obtain ⟨_, _, _, _, t4, _, _, _, _, _, _, t4f, tb⟩ := hT5.cells
          have HT5 := hide hT5
          have HB5 := hide hB5
          have HW5 := hide hBw5
          have HS5 := hide hs5
          have HC4 := hide hc4
          have hown := hide (made_lit1 W5 W5.heap.size (x + 1) (Nat.le_refl _))
          have hr4l : r4 < W5.heap.size := (Array.getElem?_eq_some_iff.1 hc4).1
          have hx19 : 0 ≤ x + 1 := by omega
          clear hT5 hB5 hBw5 hs5 hc4
          go_wp2_with (at_builtin; refine wpList_append_sl (kk := .u64) rfl _ _ 24 rfl W5.heap.size 25 i0 (.int .u64 0) 8 Tryz.underlying24 hi hz0 hz1 hz2 rfl _ 1 [x + 1] rfl hown.out A4 k4 c4 L rfl (HS5.out.alloc _) (by unfold maxLen; omega) (by omega) (by simp) ?_; intro v7 w7 hown7 hg7 _; have hB7 : Below W5.heap.size W5 w7 := ((Below.refl _ W5).alloc (Nat.le_refl _) _).grown hg7 (by simp) (fun k hk => by cases hk; exact Nat.le_refl _); have hT7 := HT5.out.of_block (hB7.block b tb); obtain ⟨A7, c7, rfl⟩ := own_slice hown7; obtain ⟨_, _, _, _, u4, _, _, _, _, _, _, u4f, ub⟩ := hT7.cells; obtain ⟨e0, e1, e2, _, _, _, er⟩ := cells3 ((hB7.block r4 hr4l).trans HC4.out); have hB57 : Below (w.heap.size + 1) (resW w) w7 := HB5.out.trans (hB7.mono (by omega)); obtain ⟨r0, r1, r2, g0, g1, g2, rz⟩ := cells3 ((hB57.block w.heap.size (by omega)).trans (heap_alloc_new w _)); have HT7 := hide hT7; have HO7 := hide hown7; have HW7 := hide (HW5.out.trans (hB7.mono (by omega))); clear hT7 hown7 hB7 hg7 hB57 t4 t4f tx)
          have hne1 : r4 ≠ b := by omega
          have hne2 : w.heap.size ≠ b := by omega
          have hne3 : r4 ≠ w.heap.size := by omega
          refine bodyPost_ret (v := .agg #[.int .i64 E, .int .u64 V, .slice none 0 0]) (by simp [results, Tryz.results150, go_sem, *]) rfl ?_
          refine mpost_new (B' := w.heap.size + 1) (L := 1 + L.length) (w3 := w7.setCell ⟨b, 4, none⟩ (.slice A7 (1 + L.length) c7)) (HT7.out.set _) (owns_keepB (S := fun j => j ≠ b) (owns_base HO7.out (by omega)) ((Keep.refl _ _).setCell (by simp) _) (fun j hj _ => by omega)) (by omega) hBw hb rfl (by simp; omega) ((Keep.of_below (K := fun j => j < w.heap.size ∧ j ≠ b) HW7.out (fun k hk => hk.1)).setCell (by simp) _) (by (repeat' (first | exact Keep.refl _ _ | refine Keep.setCell ?_ (by simp) _ | refine Keep.drew ?_)))
end Go.Proofs.YtmiimpmfkjcjlaaGreat
