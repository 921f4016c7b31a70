import Derived.Test.YtmiimpmfkjcjlaaGreatRa8
namespace Go.Proofs.YtmiimpmfkjcjlaaGreat
open Go.RowKit
attribute [local go_sem] run_store_fn run_store_nilfn
theorem own_built (W : World) (x : Value) (e : TypeId) : (W.alloc (.cells #[x] e)).ownsRow W.heap.size e 1 (.slice (some ⟨W.heap.size, 0, none⟩) 1 1) 1 [x] :=
  ⟨rfl, .inr ⟨W.heap.size, 1, #[x], rfl, Nat.le_refl _, heap_alloc_new W _, Nat.le_refl _, by decide, rfl, rfl⟩⟩
set_option maxRecDepth 100000 in
set_option maxHeartbeats 4000000 in
theorem runiv_ok (s : Sp) (c : Cl) (B m : Nat) (v : Value) (st : List Int) (w : World) (hO : WOwn w B v m st) (hm : 0 < m) (hB : B ≤ w.heap.size) (hk0 : 0 ≤ c.kind) (hk1 : c.kind < kindsI s.p) (hq0 : 0 ≤ s.q) (hq1 : s.q ≤ 1000) (hm1 : m ≤ 1000)
    (hf1 : ¬ 4294967296 ≤ c.a) (hf2 : ¬ s.q ≤ at0 st 0) (hr : rightB17 s.p (m - 1) = true) (hu : ∀ z ∈ st, U64 z) (hca : U64 c.a) :
    Calls Tryz.prog 89 #[spV s, v, clV c] w (RPost B (sharedM s st c) w) := by
  obtain ⟨g, cap, rfl, hBg, hg, hl, hmx, hf⟩ := wo_parts hO hm
  obtain ⟨x, hx⟩ : ∃ x, st[0]? = some x := ⟨_, List.getElem?_eq_getElem (by omega)⟩
  obtain ⟨hx0, hx1⟩ := hu x (List.mem_of_getElem? hx)
  have hat : at0 st 0 = x := by unfold at0; rw [hx]; rfl
  have c0 := wo_cell hO hx
  have hsl : SlW w (.slice (some ⟨g, 0, none⟩) m cap) st := wrow_sl (show WRow w B _ st from by unfold WRow; rw [hl]; exact hO) (by rw [hl]; exact hmx)
  obtain ⟨i0, hi, hz0, hz1, hz2⟩ := info_parts info_word
  have HO := hide hO
  have HL := hide hl
  have d0 : decide (c.kind < 0) = false := by simpa using hk0
  have d1 : decide (kindsI s.p ≤ c.kind) = false := by simp; omega
  have d2 : decide (4294967296 ≤ c.a) = false := by simpa using hf1
  have d3 : decide (s.q ≤ x) = false := by rw [← hat]; simpa using hf2
  have wq : IntKind.u64.wrap s.q = s.q := by rw [IntKind.wrap_u64]; omega
  have wx : IntKind.u64.wrap (x + 1) = x + 1 := by rw [IntKind.wrap_u64]; omega
  have hm2 : (m : Int) ≤ 1000 := by omega
  have hm3 : (0 : Int) < (m : Int) := by omega
  have hm4 : (1 : Int) ≤ (m : Int) := by omega
  have hdl : (st.drop 1).length = m - 1 := by rw [List.length_drop, hl]
  have hr' : rightB17 s.p (st.drop 1).length = true := by rw [hdl]; exact hr
  have hR : sharedM s st c = ((x + 1) :: seqL s.p (st.drop 1) c.kind c.a, ⟨seqE s.p (st.drop 1) c.kind c.a, seqV s.p (st.drop 1) c.kind c.a, []⟩) := by
    unfold sharedM apL apE apV
    rw [if_neg hf1, if_neg hf2, hat, hr']
    simp [hk0, hk1]
  have NA := fun V W (h : SlW W V (st.drop 1)) => refApply17 s.p c.kind c.a V (st.drop 1) W h hr' (fun z hz => hu z (List.mem_of_mem_drop hz)) hca hk0 hk1
  unfold RefPost at NA
  have HLL : Hid ((seqL s.p (st.drop 1) c.kind c.a).length ≤ 1000000) := hide (by have := apL_len s.p c.kind c.a (st.drop 1) (by omega); have h2 : apL s.p (st.drop 1) c.kind c.a = seqL s.p (st.drop 1) c.kind c.a := (by unfold apL; rw [if_neg (by rw [hr']; simp), if_pos ⟨hk0, hk1⟩]); rw [h2] at this; exact this)
  obtain ⟨X, hX, hXs⟩ := sl_drop (k := 1) hsl (by omega)
  unfold sliced at hX
  have hvm : m ≤ cap := by obtain ⟨_, _, e, h1, _⟩ := hsl; cases e; omega
  rw [hR]
  generalize seqL s.p (st.drop 1) c.kind c.a = SL at *
  generalize seqE s.p (st.drop 1) c.kind c.a = SE at *
  generalize seqV s.p (st.drop 1) c.kind c.a = SV at *
  clear hO hl hf hx hk0 hk1 hat hf1 hf2 hR hr hr' hu hca hdl
  by_cases hvc : cap = 1
  · rw [if_pos hvc] at hX
    subst hvc
    obtain rfl : m = 1 := by omega
    subst hX
    have HXS := hide hXs
    clear hXs hsl
    go_enter Tryz.func89, Tryz.ntmps89
    go_wp2_with fail
    obtain ⟨W, hW⟩ : ∃ W, W = ((w.alloc (.cells #[.int .i64 s.kind, .int .i64 s.p, .int .i64 s.q] 23)).alloc (.cells #[.int .i64 c.thread, .int .i64 c.obj, .int .i64 c.kind, .int .u64 c.a, .int .u64 c.b, .int .u64 c.c] 27)).alloc (.cells #[.int .i64 0, .int .u64 0, .slice none 0 0] 57) := ⟨_, rfl⟩
    have hgW : g < W.heap.size := by rw [hW]; simp; omega
    have hbl := appW_blocks w s c
    unfold appW at hbl
    have HBW : Hid (Below w.heap.size w W) := hide (by rw [hW]; exact appW_below w s c)
    have q0 := (HBW.out.cell (p := ⟨g, 0, none⟩) hg).trans c0
    rw [← hW] at hbl ⊢
    have HBL := hide hbl
    obtain ⟨s0, s1, s2, _, _, _, sz⟩ := cells3 hbl.1
    obtain ⟨_, _, c2, c3, _, _, cz⟩ := cells6 hbl.2.1
    obtain ⟨r0, r1, r2, f0, f1, f2, rz⟩ := cells3 hbl.2.2
    clear hW hbl c0
    refine wp_region_seq (Below W.heap.size W) (.take 0 <| .take 1 <| .take 2 <| .take 3 <| .take 4 <| .take 5 <| .take 6 <| .take 7 <| .run 8 <| .take 9 <| .take 10 <| .done) (by kernel_rfl) (by kernel_rfl) (by kernel_rfl) (by (repeat' (first | exact Below.refl _ _ | assumption | refine Below.drew ?_ | refine below_drewN ?_ _ | refine Below.alloc ?_ (by simp <;> omega) _ | refine Below.setCell ?_ (by simp <;> omega) _))) ?_
    repeat (first | (refine seq_take (v := ?_) rfl (by rfl) ?_ ?_; rotate_left; (focus (intro wS hS; have z0 := (hS.cell (p := ⟨w.heap.size, 0, none⟩) sz).trans s0; have z1 := (hS.cell (p := ⟨w.heap.size, 1, none⟩) sz).trans s1; have z2 := (hS.cell (p := ⟨w.heap.size, 2, none⟩) sz).trans s2; have y2 := (hS.cell (p := ⟨w.heap.size + 1, 2, none⟩) cz).trans c2; have y3 := (hS.cell (p := ⟨w.heap.size + 1, 3, none⟩) cz).trans c3; have yx := (hS.cell (p := ⟨g, 0, none⟩) hgW).trans q0; go_simp; exact rfl)); simp only [Act.put, sqA, sqB, sqC]) | (refine seq_skip rfl (by rfl) ?_; simp only [Act.put, sqA, sqB, sqC]))
    refine seq_run rfl (by rfl) (fun K hK => ?_)
    go_simp
    refine (refKinds_any _ _).mono ?_
    rintro e w2 ⟨rfl, hb2⟩
    have hB2 : Below W.heap.size W w2 := (Below.refl _ _).drew.trans (hb2.mono (by simp))
    refine hK _ _ hB2 ?_
    clear hK K
    repeat (first | (refine seq_take (v := ?_) rfl (by rfl) ?_ ?_; rotate_left; (focus (intro wS hS; have z0 := (hS.cell (p := ⟨w.heap.size, 0, none⟩) sz).trans s0; have z1 := (hS.cell (p := ⟨w.heap.size, 1, none⟩) sz).trans s1; have z2 := (hS.cell (p := ⟨w.heap.size, 2, none⟩) sz).trans s2; have y2 := (hS.cell (p := ⟨w.heap.size + 1, 2, none⟩) cz).trans c2; have y3 := (hS.cell (p := ⟨w.heap.size + 1, 3, none⟩) cz).trans c3; have yx := (hS.cell (p := ⟨g, 0, none⟩) hgW).trans q0; go_simp; exact rfl)); simp only [Act.put, sqA, sqB, sqC]) | (refine seq_skip rfl (by rfl) ?_; simp only [Act.put, sqA, sqB, sqC]))
    refine seq_nil ?_
    replace s0 := (hB2.cell (p := ⟨w.heap.size, 0, none⟩) sz).trans s0
    replace s1 := (hB2.cell (p := ⟨w.heap.size, 1, none⟩) sz).trans s1
    replace s2 := (hB2.cell (p := ⟨w.heap.size, 2, none⟩) sz).trans s2
    replace c2 := (hB2.cell (p := ⟨w.heap.size + 1, 2, none⟩) cz).trans c2
    replace c3 := (hB2.cell (p := ⟨w.heap.size + 1, 3, none⟩) cz).trans c3
    replace q0 := (hB2.cell (p := ⟨g, 0, none⟩) hgW).trans q0
    have hz2 := hB2.size
    replace sz : w.heap.size < w2.heap.size := by omega
    replace cz : w.heap.size + 1 < w2.heap.size := by omega
    replace hgW : g < w2.heap.size := by omega
    have HBB : Hid (Below w.heap.size w w2) := hide (HBW.out.trans (hB2.mono (by have := HBW.out.size; omega)))
    have hrz2 := (Array.getElem?_eq_some_iff.1 HBL.out.2.2).1
    have HR2 : Hid (w2.heap[w.heap.size + 2]? = some (.cells #[.int .i64 0, .int .u64 0, .slice none 0 0] 57 (0, 0))) := hide ((hB2.block _ hrz2).trans HBL.out.2.2)
    replace rz : w.heap.size + 2 < w2.heap.size := by omega
    clear hB2 hb2 hz2 hrz2 r0 r1 r2 f0 f1 f2 HBL HBW
    go_wp2_with fail
    refine wp_region_seq (Below w2.heap.size w2) (.take 0 <| .take 1 <| .take 2 <| .take 3 <| .take 4 <| .take 5 <| .take 6 <| .done) (by kernel_rfl) (by kernel_rfl) (by kernel_rfl) (by (repeat' (first | exact Below.refl _ _ | assumption | refine Below.drew ?_ | refine below_drewN ?_ _ | refine Below.alloc ?_ (by simp <;> omega) _ | refine Below.setCell ?_ (by simp <;> omega) _))) ?_
    repeat (first | (refine seq_take (v := ?_) rfl (by rfl) ?_ ?_; rotate_left; (focus (intro wS hS; have z0 := (hS.cell (p := ⟨w.heap.size, 0, none⟩) sz).trans s0; have z1 := (hS.cell (p := ⟨w.heap.size, 1, none⟩) sz).trans s1; have z2 := (hS.cell (p := ⟨w.heap.size, 2, none⟩) sz).trans s2; have y2 := (hS.cell (p := ⟨w.heap.size + 1, 2, none⟩) cz).trans c2; have y3 := (hS.cell (p := ⟨w.heap.size + 1, 3, none⟩) cz).trans c3; have yx := (hS.cell (p := ⟨g, 0, none⟩) hgW).trans q0; go_simp; exact rfl)); simp only [Act.put, sqA, sqB, sqC]) | (refine seq_skip rfl (by rfl) ?_; simp only [Act.put, sqA, sqB, sqC]))
    refine seq_nil ?_
    go_wp2_with fail
    go_upto_region 8 with fail
    go_cut [8] (fun v wx => ∃ d A3 c3', v = .pointer (some ⟨d, 0, none⟩) ∧ Hid (SlW wx (.slice A3 SL.length c3') SL) ∧ Hid (Below w2.heap.size w2 wx) ∧ w2.heap.size ≤ d ∧ Hid (wx.heap[d]? = some (.cells #[.slice A3 SL.length c3', .int .i64 SE, .int .u64 SV] 208 (0, 0))))
    case first =>
      refine wp_region_seq (Below w2.heap.size w2) (.take 0 <| .take 1 <| .take 2 <| .take 3 <| .take 4 <| .take 5 <| .take 6 <| .take 7 <| .fork 8 (.run 9 <| .run 10 <| .done) 9 (.run 8 <| .run 10 <| .done)) (by kernel_rfl) (by kernel_rfl) (by kernel_rfl) (by (repeat' (first | exact Below.refl _ _ | assumption | refine Below.drew ?_ | refine below_drewN ?_ _ | refine Below.alloc ?_ (by simp <;> omega) _ | refine Below.setCell ?_ (by simp <;> omega) _))) ?_
      repeat (first | (refine seq_take (v := ?_) rfl (by rfl) ?_ ?_; rotate_left; (focus (intro wS hS; have z0 := (hS.cell (p := ⟨w.heap.size, 0, none⟩) sz).trans s0; have z1 := (hS.cell (p := ⟨w.heap.size, 1, none⟩) sz).trans s1; have z2 := (hS.cell (p := ⟨w.heap.size, 2, none⟩) sz).trans s2; have y2 := (hS.cell (p := ⟨w.heap.size + 1, 2, none⟩) cz).trans c2; have y3 := (hS.cell (p := ⟨w.heap.size + 1, 3, none⟩) cz).trans c3; have yx := (hS.cell (p := ⟨g, 0, none⟩) hgW).trans q0; go_simp; exact rfl)); simp only [Act.put, sqA, sqB, sqC]) | (refine seq_skip rfl (by rfl) ?_; simp only [Act.put, sqA, sqB, sqC]))
      refine seq_fork ?_ ?_
      · refine seq_run rfl (by rfl) (fun K hK => ?_)
        go_simp
        refine (NA _ _ ?_).mono ?_
        · exact HXS.out.below (by have hq := HBB.out; (repeat' (first | with_reducible (first | assumption | exact Below.refl _ _ | refine Below.drew ?_ | refine below_drewN ?_ _ | refine Below.alloc ?_ ?_ _ | refine Below.setCell ?_ ?_ _) | omega | (simp; done) | (simp; omega)))) (Nat.le_refl _)
        rintro e w3 ⟨u, rfl, hS3, hb3, ho3⟩
        obtain ⟨A3, c3', rfl, _⟩ := id hS3
        have hB3 : Below w2.heap.size w2 w3 := Below.trans (by (repeat' (first | with_reducible (first | assumption | exact Below.refl _ _ | refine Below.drew ?_ | refine below_drewN ?_ _ | refine Below.alloc ?_ ?_ _ | refine Below.setCell ?_ ?_ _) | omega | (simp; done) | (simp; omega)))) (hb3.mono (by simp))
        refine hK _ _ hB3 ?_
        clear hK K
        have hz3 := hB3.size
        refine seq_run rfl (by rfl) (fun K hK => ?_)
        go_simp
        refine hK _ _ (by (repeat' (first | with_reducible (first | assumption | exact Below.refl _ _ | refine Below.drew ?_ | refine below_drewN ?_ _ | refine Below.alloc ?_ ?_ _ | refine Below.setCell ?_ ?_ _) | omega | (simp; done) | (simp; omega)))) ?_
        clear hK K
        refine seq_run rfl (by rfl) (fun K hK => ?_)
        go_simp
        refine hK _ _ (by (repeat' (first | with_reducible (first | assumption | exact Below.refl _ _ | refine Below.drew ?_ | refine below_drewN ?_ _ | refine Below.alloc ?_ ?_ _ | refine Below.setCell ?_ ?_ _) | omega | (simp; done) | (simp; omega)))) ?_
        clear hK K
        refine seq_nil ?_
        go_wp2
        go_meet
        exact ⟨w3.heap.size, A3, c3', rfl, hide (hS3.alloc _), hide (hB3.alloc hz3 _), hz3, hide (heap_alloc_new _ _)⟩
      · refine seq_run rfl (by rfl) (fun K hK => ?_)
        go_simp
        refine hK _ _ (by (repeat' (first | with_reducible (first | assumption | exact Below.refl _ _ | refine Below.drew ?_ | refine below_drewN ?_ _ | refine Below.alloc ?_ ?_ _ | refine Below.setCell ?_ ?_ _) | omega | (simp; done) | (simp; omega)))) ?_
        clear hK K
        refine seq_run rfl (by rfl) (fun K hK => ?_)
        go_simp
        refine (NA _ _ ?_).mono ?_
        · exact HXS.out.below (by have hq := HBB.out; (repeat' (first | with_reducible (first | assumption | exact Below.refl _ _ | refine Below.drew ?_ | refine below_drewN ?_ _ | refine Below.alloc ?_ ?_ _ | refine Below.setCell ?_ ?_ _) | omega | (simp; done) | (simp; omega)))) (Nat.le_refl _)
        rintro e w3 ⟨u, rfl, hS3, hb3, ho3⟩
        obtain ⟨A3, c3', rfl, _⟩ := id hS3
        have hB3 : Below w2.heap.size w2 w3 := Below.trans (by (repeat' (first | with_reducible (first | assumption | exact Below.refl _ _ | refine Below.drew ?_ | refine below_drewN ?_ _ | refine Below.alloc ?_ ?_ _ | refine Below.setCell ?_ ?_ _) | omega | (simp; done) | (simp; omega)))) (hb3.mono (by simp))
        have hz3 := hb3.size
        simp at hz3
        have hD3 := (hb3.block w2.heap.size (by simp)).trans (heap_alloc_new _ _)
        obtain ⟨_, _, _, e0, e1, e2, _⟩ := cells3 hD3
        have HD3 := hide hD3
        refine hK _ _ hB3 ?_
        clear hK K hD3
        refine seq_run rfl (by rfl) (fun K hK => ?_)
        go_simp
        refine hK _ _ (by (repeat' (first | exact Below.refl _ _ | assumption | refine Below.drew ?_ | refine below_drewN ?_ _ | refine Below.alloc ?_ (by simp <;> omega) _ | refine Below.setCell ?_ (by simp <;> omega) _))) ?_
        clear hK K
        refine seq_nil ?_
        go_wp2
        go_meet
        have hoo := ho3 w2.heap.size (by simp)
        refine ⟨w2.heap.size, A3, c3', rfl, hide (sl_out (sl_out (sl_out hS3 hoo _ _ _) hoo _ _ _) hoo _ _ _), hide (by (repeat' (first | with_reducible (first | assumption | exact Below.refl _ _ | refine Below.drew ?_ | refine below_drewN ?_ _ | refine Below.alloc ?_ ?_ _ | refine Below.setCell ?_ ?_ _) | omega | (simp; done) | (simp; omega)))), Nat.le_refl _, hide ?_⟩
        rw [cells_set (cells_set (cells_set HD3.out))]
        rfl
    case rest =>
      obtain ⟨d, A3, c3', rfl, HS6, HB6, hd, HD6⟩ := hcut
      obtain ⟨W6, hW6⟩ : ∃ W6, W6 = wc := ⟨_, rfl⟩
      have hz6 := HB6.out.size
      have q6 := (HB6.out.cell (p := ⟨g, 0, none⟩) hgW).trans q0
      have hg6 : g < wc.heap.size := by omega
      obtain ⟨d60, d61, d62, _, _, _, hd6⟩ := cells3 HD6.out
      have HAN : Hid (wc.heap[w.heap.size + 2]? = some (.cells #[.int .i64 0, .int .u64 0, .slice none 0 0] 57 (0, 0))) := hide ((HB6.out.block _ rz).trans HR2.out)
      have HB7 : Hid (Below w.heap.size w wc) := hide (HBB.out.trans (HB6.out.mono (by omega)))
      clear s0 s1 s2 c2 c3 q0 sz cz hgW hW6
      go_wp2_with fail
      refine wp_region_seql (Below wc.heap.size wc) [14] (.take 0 <| .take 1 <| .take 2 <| .take 3 <| .take 5 <| .take 6 <| .take 8 <| .take 9 <| .take 10 <| .take 11 <| .take 12 <| .run 4 <| .run 7 <| .take 13 <| .run 14 <| .done) (by kernel_rfl) (by kernel_rfl) (by kernel_rfl) (by (repeat' (first | with_reducible (first | assumption | exact Below.refl _ _ | refine Below.drew ?_ | refine below_drewN ?_ _ | refine Below.alloc ?_ ?_ _ | refine Below.setCell ?_ ?_ _) | omega | (simp; done) | (simp; omega)))) ?_
      repeat (refine seql_take (v := ?_) rfl (by rfl) ?_ ?_; rotate_left; (focus (intro wS hS; have yx := (hS.cell (p := ⟨g, 0, none⟩) hg6).trans q6; have z0 := (hS.cell (p := ⟨d, 0, none⟩) hd6).trans d60; have z1 := (hS.cell (p := ⟨d, 1, none⟩) hd6).trans d61; have z2 := (hS.cell (p := ⟨d, 2, none⟩) hd6).trans d62; go_simp; exact rfl)); simp only [Act.put, sqA, sqB, sqC])
      refine seql_run rfl (by rfl) (fun K hK => ?_)
      go_simp
      refine hK _ _ (by (repeat' (first | with_reducible (first | assumption | exact Below.refl _ _ | refine Below.drew ?_ | refine below_drewN ?_ _ | refine Below.alloc ?_ ?_ _ | refine Below.setCell ?_ ?_ _) | omega | (simp; done) | (simp; omega)))) ?_
      clear hK K
      refine seql_run rfl (by rfl) (fun K hK => ?_)
      refine wp_append_sl (kk := .u64) _ _ 24 rfl wc.heap.size 25 i0 (.int .u64 0) 8 Tryz.underlying24 hi hz0 hz1 hz2 rfl _ 1 [x + 1] rfl ?_ A3 _ c3' SL rfl ?_ (by have := HLL.out; unfold maxLen; omega) (by have := HLL.out; omega) (by simp) ?_
      · exact own_built wc (.int .u64 (x + 1)) 25
      · exact HS6.out.below (by (repeat' (first | with_reducible (first | assumption | exact Below.refl _ _ | refine Below.drew ?_ | refine below_drewN ?_ _ | refine Below.alloc ?_ ?_ _ | refine Below.setCell ?_ ?_ _) | omega | (simp; done) | (simp; omega)))) (Nat.le_refl _)
      intro v7 w7 hown7 hgrow7 _
      have hB7 : Below wc.heap.size wc w7 := Below.grown (row := some wc.heap.size) (by (repeat' (first | with_reducible (first | assumption | exact Below.refl _ _ | refine Below.drew ?_ | refine below_drewN ?_ _ | refine Below.alloc ?_ ?_ _ | refine Below.setCell ?_ ?_ _) | omega | (simp; done) | (simp; omega)))) hgrow7 (by simp) (fun k hk => by have := Option.some.inj (show some wc.heap.size = some k from hk); omega)
      obtain ⟨A7, c7, rfl⟩ := own_slice hown7
      simp only [List.singleton_append] at hown7
      rw [Nat.add_comm 1 SL.length] at hown7 ⊢
      refine hK _ _ hB7 ?_
      clear hK K hgrow7
      have hrw := (Array.getElem?_eq_some_iff.1 HAN.out).1
      obtain ⟨r0, r1, r2, f0, f1, f2, rz7⟩ := cells3 ((hB7.block _ hrw).trans HAN.out)
      have HO7 := hide hown7
      have HB8 : Hid (Below w.heap.size w w7) := hide (HB7.out.trans (hB7.mono (by have := HB7.out.size; omega)))
      have hzc : w.heap.size + 3 ≤ wc.heap.size := by omega
      clear hown7 hB7 hrw d60 d61 d62 q6 hg6 hd6
      repeat (refine seql_take (v := ?_) rfl (by rfl) ?_ ?_; rotate_left; (focus (intro wS hS; go_simp; exact rfl)); simp only [Act.put, sqA, sqB, sqC])
      refine seql_late rfl rfl (by rfl) (fun K hK => ?_)
      go_simp
      refine hK _ _ ?_
      clear hK K
      refine seql_nil ?_
      go_wp2
      refine bodyPost_ret (v := .tuple #[.slice A7 (SL.length + 1) c7, .agg #[.int .i64 SE, .int .u64 SV, .slice none 0 0]]) (by simp [results, Tryz.results89, go_sem, *]) rfl ?_
      refine ra_new (r := wc.heap.size) (l := (x + 1) :: SL) hB HB8.out (show WOwn w7 wc.heap.size (.slice A7 (SL.length + 1) c7) ((x + 1) :: SL).length _ from HO7.out) (by have := HLL.out; simp [maxLen]; omega) (by omega) ?_
      (repeat' (first | exact Keep.refl _ _ | refine Keep.setCell ?_ (by simp; omega) _ | refine Keep.drew ?_))
  · rw [if_neg hvc] at hX
    simp only [Option.map_some, Addr.add, Nat.mul_one] at hX
    rw [if_neg (by omega)] at hX
    subst hX
    have HXS := hide hXs
    clear hXs hsl
    go_enter Tryz.func89, Tryz.ntmps89
    go_wp2_with fail
    obtain ⟨W, hW⟩ : ∃ W, W = ((w.alloc (.cells #[.int .i64 s.kind, .int .i64 s.p, .int .i64 s.q] 23)).alloc (.cells #[.int .i64 c.thread, .int .i64 c.obj, .int .i64 c.kind, .int .u64 c.a, .int .u64 c.b, .int .u64 c.c] 27)).alloc (.cells #[.int .i64 0, .int .u64 0, .slice none 0 0] 57) := ⟨_, rfl⟩
    have hgW : g < W.heap.size := by rw [hW]; simp; omega
    have hbl := appW_blocks w s c
    unfold appW at hbl
    have HBW : Hid (Below w.heap.size w W) := hide (by rw [hW]; exact appW_below w s c)
    have q0 := (HBW.out.cell (p := ⟨g, 0, none⟩) hg).trans c0
    rw [← hW] at hbl ⊢
    have HBL := hide hbl
    obtain ⟨s0, s1, s2, _, _, _, sz⟩ := cells3 hbl.1
    obtain ⟨_, _, c2, c3, _, _, cz⟩ := cells6 hbl.2.1
    obtain ⟨r0, r1, r2, f0, f1, f2, rz⟩ := cells3 hbl.2.2
    clear hW hbl c0
    refine wp_region_seq (Below W.heap.size W) (.take 0 <| .take 1 <| .take 2 <| .take 3 <| .take 4 <| .take 5 <| .take 6 <| .take 7 <| .run 8 <| .take 9 <| .take 10 <| .done) (by kernel_rfl) (by kernel_rfl) (by kernel_rfl) (by (repeat' (first | exact Below.refl _ _ | assumption | refine Below.drew ?_ | refine below_drewN ?_ _ | refine Below.alloc ?_ (by simp <;> omega) _ | refine Below.setCell ?_ (by simp <;> omega) _))) ?_
    repeat (first | (refine seq_take (v := ?_) rfl (by rfl) ?_ ?_; rotate_left; (focus (intro wS hS; have z0 := (hS.cell (p := ⟨w.heap.size, 0, none⟩) sz).trans s0; have z1 := (hS.cell (p := ⟨w.heap.size, 1, none⟩) sz).trans s1; have z2 := (hS.cell (p := ⟨w.heap.size, 2, none⟩) sz).trans s2; have y2 := (hS.cell (p := ⟨w.heap.size + 1, 2, none⟩) cz).trans c2; have y3 := (hS.cell (p := ⟨w.heap.size + 1, 3, none⟩) cz).trans c3; have yx := (hS.cell (p := ⟨g, 0, none⟩) hgW).trans q0; go_simp; exact rfl)); simp only [Act.put, sqA, sqB, sqC]) | (refine seq_skip rfl (by rfl) ?_; simp only [Act.put, sqA, sqB, sqC]))
    refine seq_run rfl (by rfl) (fun K hK => ?_)
    go_simp
    refine (refKinds_any _ _).mono ?_
    rintro e w2 ⟨rfl, hb2⟩
    have hB2 : Below W.heap.size W w2 := (Below.refl _ _).drew.trans (hb2.mono (by simp))
    refine hK _ _ hB2 ?_
    clear hK K
    repeat (first | (refine seq_take (v := ?_) rfl (by rfl) ?_ ?_; rotate_left; (focus (intro wS hS; have z0 := (hS.cell (p := ⟨w.heap.size, 0, none⟩) sz).trans s0; have z1 := (hS.cell (p := ⟨w.heap.size, 1, none⟩) sz).trans s1; have z2 := (hS.cell (p := ⟨w.heap.size, 2, none⟩) sz).trans s2; have y2 := (hS.cell (p := ⟨w.heap.size + 1, 2, none⟩) cz).trans c2; have y3 := (hS.cell (p := ⟨w.heap.size + 1, 3, none⟩) cz).trans c3; have yx := (hS.cell (p := ⟨g, 0, none⟩) hgW).trans q0; go_simp; exact rfl)); simp only [Act.put, sqA, sqB, sqC]) | (refine seq_skip rfl (by rfl) ?_; simp only [Act.put, sqA, sqB, sqC]))
    refine seq_nil ?_
    replace s0 := (hB2.cell (p := ⟨w.heap.size, 0, none⟩) sz).trans s0
    replace s1 := (hB2.cell (p := ⟨w.heap.size, 1, none⟩) sz).trans s1
    replace s2 := (hB2.cell (p := ⟨w.heap.size, 2, none⟩) sz).trans s2
    replace c2 := (hB2.cell (p := ⟨w.heap.size + 1, 2, none⟩) cz).trans c2
    replace c3 := (hB2.cell (p := ⟨w.heap.size + 1, 3, none⟩) cz).trans c3
    replace q0 := (hB2.cell (p := ⟨g, 0, none⟩) hgW).trans q0
    have hz2 := hB2.size
    replace sz : w.heap.size < w2.heap.size := by omega
    replace cz : w.heap.size + 1 < w2.heap.size := by omega
    replace hgW : g < w2.heap.size := by omega
    have HBB : Hid (Below w.heap.size w w2) := hide (HBW.out.trans (hB2.mono (by have := HBW.out.size; omega)))
    have hrz2 := (Array.getElem?_eq_some_iff.1 HBL.out.2.2).1
    have HR2 : Hid (w2.heap[w.heap.size + 2]? = some (.cells #[.int .i64 0, .int .u64 0, .slice none 0 0] 57 (0, 0))) := hide ((hB2.block _ hrz2).trans HBL.out.2.2)
    replace rz : w.heap.size + 2 < w2.heap.size := by omega
    clear hB2 hb2 hz2 hrz2 r0 r1 r2 f0 f1 f2 HBL HBW
    go_wp2_with fail
    refine wp_region_seq (Below w2.heap.size w2) (.take 0 <| .take 1 <| .take 2 <| .take 3 <| .take 4 <| .take 5 <| .take 6 <| .done) (by kernel_rfl) (by kernel_rfl) (by kernel_rfl) (by (repeat' (first | exact Below.refl _ _ | assumption | refine Below.drew ?_ | refine below_drewN ?_ _ | refine Below.alloc ?_ (by simp <;> omega) _ | refine Below.setCell ?_ (by simp <;> omega) _))) ?_
    repeat (first | (refine seq_take (v := ?_) rfl (by rfl) ?_ ?_; rotate_left; (focus (intro wS hS; have z0 := (hS.cell (p := ⟨w.heap.size, 0, none⟩) sz).trans s0; have z1 := (hS.cell (p := ⟨w.heap.size, 1, none⟩) sz).trans s1; have z2 := (hS.cell (p := ⟨w.heap.size, 2, none⟩) sz).trans s2; have y2 := (hS.cell (p := ⟨w.heap.size + 1, 2, none⟩) cz).trans c2; have y3 := (hS.cell (p := ⟨w.heap.size + 1, 3, none⟩) cz).trans c3; have yx := (hS.cell (p := ⟨g, 0, none⟩) hgW).trans q0; go_simp; exact rfl)); simp only [Act.put, sqA, sqB, sqC]) | (refine seq_skip rfl (by rfl) ?_; simp only [Act.put, sqA, sqB, sqC]))
    refine seq_nil ?_
    go_wp2_with fail
    go_upto_region 8 with fail
    go_cut [8] (fun v wx => ∃ d A3 c3', v = .pointer (some ⟨d, 0, none⟩) ∧ Hid (SlW wx (.slice A3 SL.length c3') SL) ∧ Hid (Below w2.heap.size w2 wx) ∧ w2.heap.size ≤ d ∧ Hid (wx.heap[d]? = some (.cells #[.slice A3 SL.length c3', .int .i64 SE, .int .u64 SV] 208 (0, 0))))
    case first =>
      refine wp_region_seq (Below w2.heap.size w2) (.take 0 <| .take 1 <| .take 2 <| .take 3 <| .take 4 <| .take 5 <| .take 6 <| .take 7 <| .fork 8 (.run 9 <| .run 10 <| .done) 9 (.run 8 <| .run 10 <| .done)) (by kernel_rfl) (by kernel_rfl) (by kernel_rfl) (by (repeat' (first | exact Below.refl _ _ | assumption | refine Below.drew ?_ | refine below_drewN ?_ _ | refine Below.alloc ?_ (by simp <;> omega) _ | refine Below.setCell ?_ (by simp <;> omega) _))) ?_
      repeat (first | (refine seq_take (v := ?_) rfl (by rfl) ?_ ?_; rotate_left; (focus (intro wS hS; have z0 := (hS.cell (p := ⟨w.heap.size, 0, none⟩) sz).trans s0; have z1 := (hS.cell (p := ⟨w.heap.size, 1, none⟩) sz).trans s1; have z2 := (hS.cell (p := ⟨w.heap.size, 2, none⟩) sz).trans s2; have y2 := (hS.cell (p := ⟨w.heap.size + 1, 2, none⟩) cz).trans c2; have y3 := (hS.cell (p := ⟨w.heap.size + 1, 3, none⟩) cz).trans c3; have yx := (hS.cell (p := ⟨g, 0, none⟩) hgW).trans q0; go_simp; exact rfl)); simp only [Act.put, sqA, sqB, sqC]) | (refine seq_skip rfl (by rfl) ?_; simp only [Act.put, sqA, sqB, sqC]))
      refine seq_fork ?_ ?_
      · refine seq_run rfl (by rfl) (fun K hK => ?_)
        go_simp
        refine (NA _ _ ?_).mono ?_
        · exact HXS.out.below (by have hq := HBB.out; (repeat' (first | with_reducible (first | assumption | exact Below.refl _ _ | refine Below.drew ?_ | refine below_drewN ?_ _ | refine Below.alloc ?_ ?_ _ | refine Below.setCell ?_ ?_ _) | omega | (simp; done) | (simp; omega)))) (Nat.le_refl _)
        rintro e w3 ⟨u, rfl, hS3, hb3, ho3⟩
        obtain ⟨A3, c3', rfl, _⟩ := id hS3
        have hB3 : Below w2.heap.size w2 w3 := Below.trans (by (repeat' (first | with_reducible (first | assumption | exact Below.refl _ _ | refine Below.drew ?_ | refine below_drewN ?_ _ | refine Below.alloc ?_ ?_ _ | refine Below.setCell ?_ ?_ _) | omega | (simp; done) | (simp; omega)))) (hb3.mono (by simp))
        refine hK _ _ hB3 ?_
        clear hK K
        have hz3 := hB3.size
        refine seq_run rfl (by rfl) (fun K hK => ?_)
        go_simp
        refine hK _ _ (by (repeat' (first | with_reducible (first | assumption | exact Below.refl _ _ | refine Below.drew ?_ | refine below_drewN ?_ _ | refine Below.alloc ?_ ?_ _ | refine Below.setCell ?_ ?_ _) | omega | (simp; done) | (simp; omega)))) ?_
        clear hK K
        refine seq_run rfl (by rfl) (fun K hK => ?_)
        go_simp
        refine hK _ _ (by (repeat' (first | with_reducible (first | assumption | exact Below.refl _ _ | refine Below.drew ?_ | refine below_drewN ?_ _ | refine Below.alloc ?_ ?_ _ | refine Below.setCell ?_ ?_ _) | omega | (simp; done) | (simp; omega)))) ?_
        clear hK K
        refine seq_nil ?_
        go_wp2
        go_meet
        exact ⟨w3.heap.size, A3, c3', rfl, hide (hS3.alloc _), hide (hB3.alloc hz3 _), hz3, hide (heap_alloc_new _ _)⟩
      · refine seq_run rfl (by rfl) (fun K hK => ?_)
        go_simp
        refine hK _ _ (by (repeat' (first | with_reducible (first | assumption | exact Below.refl _ _ | refine Below.drew ?_ | refine below_drewN ?_ _ | refine Below.alloc ?_ ?_ _ | refine Below.setCell ?_ ?_ _) | omega | (simp; done) | (simp; omega)))) ?_
        clear hK K
        refine seq_run rfl (by rfl) (fun K hK => ?_)
        go_simp
        refine (NA _ _ ?_).mono ?_
        · exact HXS.out.below (by have hq := HBB.out; (repeat' (first | with_reducible (first | assumption | exact Below.refl _ _ | refine Below.drew ?_ | refine below_drewN ?_ _ | refine Below.alloc ?_ ?_ _ | refine Below.setCell ?_ ?_ _) | omega | (simp; done) | (simp; omega)))) (Nat.le_refl _)
        rintro e w3 ⟨u, rfl, hS3, hb3, ho3⟩
        obtain ⟨A3, c3', rfl, _⟩ := id hS3
        have hB3 : Below w2.heap.size w2 w3 := Below.trans (by (repeat' (first | with_reducible (first | assumption | exact Below.refl _ _ | refine Below.drew ?_ | refine below_drewN ?_ _ | refine Below.alloc ?_ ?_ _ | refine Below.setCell ?_ ?_ _) | omega | (simp; done) | (simp; omega)))) (hb3.mono (by simp))
        have hz3 := hb3.size
        simp at hz3
        have hD3 := (hb3.block w2.heap.size (by simp)).trans (heap_alloc_new _ _)
        obtain ⟨_, _, _, e0, e1, e2, _⟩ := cells3 hD3
        have HD3 := hide hD3
        refine hK _ _ hB3 ?_
        clear hK K hD3
        refine seq_run rfl (by rfl) (fun K hK => ?_)
        go_simp
        refine hK _ _ (by (repeat' (first | exact Below.refl _ _ | assumption | refine Below.drew ?_ | refine below_drewN ?_ _ | refine Below.alloc ?_ (by simp <;> omega) _ | refine Below.setCell ?_ (by simp <;> omega) _))) ?_
        clear hK K
        refine seq_nil ?_
        go_wp2
        go_meet
        have hoo := ho3 w2.heap.size (by simp)
        refine ⟨w2.heap.size, A3, c3', rfl, hide (sl_out (sl_out (sl_out hS3 hoo _ _ _) hoo _ _ _) hoo _ _ _), hide (by (repeat' (first | with_reducible (first | assumption | exact Below.refl _ _ | refine Below.drew ?_ | refine below_drewN ?_ _ | refine Below.alloc ?_ ?_ _ | refine Below.setCell ?_ ?_ _) | omega | (simp; done) | (simp; omega)))), Nat.le_refl _, hide ?_⟩
        rw [cells_set (cells_set (cells_set HD3.out))]
        rfl
    case rest =>
      obtain ⟨d, A3, c3', rfl, HS6, HB6, hd, HD6⟩ := hcut
      obtain ⟨W6, hW6⟩ : ∃ W6, W6 = wc := ⟨_, rfl⟩
      have hz6 := HB6.out.size
      have q6 := (HB6.out.cell (p := ⟨g, 0, none⟩) hgW).trans q0
      have hg6 : g < wc.heap.size := by omega
      obtain ⟨d60, d61, d62, _, _, _, hd6⟩ := cells3 HD6.out
      have HAN : Hid (wc.heap[w.heap.size + 2]? = some (.cells #[.int .i64 0, .int .u64 0, .slice none 0 0] 57 (0, 0))) := hide ((HB6.out.block _ rz).trans HR2.out)
      have HB7 : Hid (Below w.heap.size w wc) := hide (HBB.out.trans (HB6.out.mono (by omega)))
      clear s0 s1 s2 c2 c3 q0 sz cz hgW hW6
      go_wp2_with fail
      refine wp_region_seql (Below wc.heap.size wc) [14] (.take 0 <| .take 1 <| .take 2 <| .take 3 <| .take 5 <| .take 6 <| .take 8 <| .take 9 <| .take 10 <| .take 11 <| .take 12 <| .run 4 <| .run 7 <| .take 13 <| .run 14 <| .done) (by kernel_rfl) (by kernel_rfl) (by kernel_rfl) (by (repeat' (first | with_reducible (first | assumption | exact Below.refl _ _ | refine Below.drew ?_ | refine below_drewN ?_ _ | refine Below.alloc ?_ ?_ _ | refine Below.setCell ?_ ?_ _) | omega | (simp; done) | (simp; omega)))) ?_
      repeat (refine seql_take (v := ?_) rfl (by rfl) ?_ ?_; rotate_left; (focus (intro wS hS; have yx := (hS.cell (p := ⟨g, 0, none⟩) hg6).trans q6; have z0 := (hS.cell (p := ⟨d, 0, none⟩) hd6).trans d60; have z1 := (hS.cell (p := ⟨d, 1, none⟩) hd6).trans d61; have z2 := (hS.cell (p := ⟨d, 2, none⟩) hd6).trans d62; go_simp; exact rfl)); simp only [Act.put, sqA, sqB, sqC])
      refine seql_run rfl (by rfl) (fun K hK => ?_)
      go_simp
      refine hK _ _ (by (repeat' (first | with_reducible (first | assumption | exact Below.refl _ _ | refine Below.drew ?_ | refine below_drewN ?_ _ | refine Below.alloc ?_ ?_ _ | refine Below.setCell ?_ ?_ _) | omega | (simp; done) | (simp; omega)))) ?_
      clear hK K
      refine seql_run rfl (by rfl) (fun K hK => ?_)
      refine wp_append_sl (kk := .u64) _ _ 24 rfl wc.heap.size 25 i0 (.int .u64 0) 8 Tryz.underlying24 hi hz0 hz1 hz2 rfl _ 1 [x + 1] rfl ?_ A3 _ c3' SL rfl ?_ (by have := HLL.out; unfold maxLen; omega) (by have := HLL.out; omega) (by simp) ?_
      · exact own_built wc (.int .u64 (x + 1)) 25
      · exact HS6.out.below (by (repeat' (first | with_reducible (first | assumption | exact Below.refl _ _ | refine Below.drew ?_ | refine below_drewN ?_ _ | refine Below.alloc ?_ ?_ _ | refine Below.setCell ?_ ?_ _) | omega | (simp; done) | (simp; omega)))) (Nat.le_refl _)
      intro v7 w7 hown7 hgrow7 _
      have hB7 : Below wc.heap.size wc w7 := Below.grown (row := some wc.heap.size) (by (repeat' (first | with_reducible (first | assumption | exact Below.refl _ _ | refine Below.drew ?_ | refine below_drewN ?_ _ | refine Below.alloc ?_ ?_ _ | refine Below.setCell ?_ ?_ _) | omega | (simp; done) | (simp; omega)))) hgrow7 (by simp) (fun k hk => by have := Option.some.inj (show some wc.heap.size = some k from hk); omega)
      obtain ⟨A7, c7, rfl⟩ := own_slice hown7
      simp only [List.singleton_append] at hown7
      rw [Nat.add_comm 1 SL.length] at hown7 ⊢
      refine hK _ _ hB7 ?_
      clear hK K hgrow7
      have hrw := (Array.getElem?_eq_some_iff.1 HAN.out).1
      obtain ⟨r0, r1, r2, f0, f1, f2, rz7⟩ := cells3 ((hB7.block _ hrw).trans HAN.out)
      have HO7 := hide hown7
      have HB8 : Hid (Below w.heap.size w w7) := hide (HB7.out.trans (hB7.mono (by have := HB7.out.size; omega)))
      have hzc : w.heap.size + 3 ≤ wc.heap.size := by omega
      clear hown7 hB7 hrw d60 d61 d62 q6 hg6 hd6
      repeat (refine seql_take (v := ?_) rfl (by rfl) ?_ ?_; rotate_left; (focus (intro wS hS; go_simp; exact rfl)); simp only [Act.put, sqA, sqB, sqC])
      refine seql_late rfl rfl (by rfl) (fun K hK => ?_)
      go_simp
      refine hK _ _ ?_
      clear hK K
      refine seql_nil ?_
      go_wp2
      refine bodyPost_ret (v := .tuple #[.slice A7 (SL.length + 1) c7, .agg #[.int .i64 SE, .int .u64 SV, .slice none 0 0]]) (by simp [results, Tryz.results89, go_sem, *]) rfl ?_
      refine ra_new (r := wc.heap.size) (l := (x + 1) :: SL) hB HB8.out (show WOwn w7 wc.heap.size (.slice A7 (SL.length + 1) c7) ((x + 1) :: SL).length _ from HO7.out) (by have := HLL.out; simp [maxLen]; omega) (by omega) ?_
      (repeat' (first | exact Keep.refl _ _ | refine Keep.setCell ?_ (by simp; omega) _ | refine Keep.drew ?_))
end Go.Proofs.YtmiimpmfkjcjlaaGreat
