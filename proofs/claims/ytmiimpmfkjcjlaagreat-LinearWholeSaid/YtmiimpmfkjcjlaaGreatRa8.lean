import Derived.Test.YtmiimpmfkjcjlaaGreatBun26
import Derived.Deep.DeepCutAuto
namespace Go.Proofs.YtmiimpmfkjcjlaaGreat
open Go.RowKit
attribute [local go_sem] run_store_fn run_store_nilfn
theorem ra_new {w w5 w' : World} {B r : Nat} {L : Value} {l : List Int} {E V : Int} (hB : B ≤ w.heap.size) (hb : Below w.heap.size w w5) (hL : WOwn w5 r L l.length l) (hlx : l.length ≤ maxLen) (_hr : w.heap.size ≤ r)
    (h' : Keep (fun j => j < w.heap.size ∨ r ≤ j) w5 w') : RPost B (l, ⟨E, V, []⟩) w (.returned (.tuple #[L, .agg #[.int .i64 E, .int .u64 V, .slice none 0 0]])) w' := by
  have hb' : Below w.heap.size w w' := hb.trans (h'.below (fun k hk => Or.inl hk))
  have h2 : WOwn w' r L l.length l := owns_keepB hL h' (fun j hj _ => Or.inr hj)
  exact ⟨_, _, rfl, wrow_sl (show WRow _ r _ l from h2) hlx, slw_none _, hb'.mono hB, tw_own h2, tw_none _ _ _⟩
set_option maxRecDepth 100000 in
set_option maxHeartbeats 4000000 in
theorem runiv_no (s : Sp) (c : Cl) (B m : Nat) (v : Value) (st : List Int) (w : World) (hO : WOwn w B v m st) (hm : 0 < m) (hB : B ≤ w.heap.size) (hk : ¬ (0 ≤ c.kind ∧ c.kind < kindsI s.p)) :
    Calls Tryz.prog 89 #[spV s, v, clV c] w (RPost B (st, anE 9) w) := by
  obtain ⟨g, cap, rfl, hBg, hg, hl, hmx, hf⟩ := wo_parts hO hm
  obtain ⟨x, hx⟩ : ∃ x, st[0]? = some x := ⟨_, List.getElem?_eq_getElem (by omega)⟩
  have c0 := wo_cell hO hx
  have HO := hide hO
  have HL := hide hl
  by_cases h0 : c.kind < 0
  · have d0 : decide (c.kind < 0) = true := by simpa using h0
    clear hO hl hf hx hk h0
    go_enter Tryz.func89, Tryz.ntmps89
    go_wp2_with fail
    obtain ⟨W, hW⟩ : ∃ W, W = ((w.alloc (.cells #[.int .i64 s.kind, .int .i64 s.p, .int .i64 s.q] 23)).alloc (.cells #[.int .i64 c.thread, .int .i64 c.obj, .int .i64 c.kind, .int .u64 c.a, .int .u64 c.b, .int .u64 c.c] 27)).alloc (.cells #[.int .i64 0, .int .u64 0, .slice none 0 0] 57) := ⟨_, rfl⟩
    have hgW : g < W.heap.size := by rw [hW]; simp; omega
    have hbl := appW_blocks w s c
    unfold appW at hbl
    have HBW : Hid (Below w.heap.size w W) := hide (by rw [hW]; exact appW_below w s c)
    have q0 := (HBW.out.cell (p := ⟨g, 0, none⟩) hg).trans c0
    rw [← hW] at hbl ⊢
    have HBL := hide hbl
    obtain ⟨s0, s1, s2, _, _, _, sz⟩ := cells3 hbl.1
    obtain ⟨_, _, c2, c3, _, _, cz⟩ := cells6 hbl.2.1
    obtain ⟨r0, r1, r2, f0, f1, f2, rz⟩ := cells3 hbl.2.2
    clear hW hbl c0
    refine wp_region_seq (Below W.heap.size W) (.take 0 <| .take 1 <| .take 2 <| .take 3 <| .take 4 <| .take 5 <| .take 6 <| .take 7 <| .run 8 <| .take 9 <| .take 10 <| .done) (by kernel_rfl) (by kernel_rfl) (by kernel_rfl) (by (repeat' (first | exact Below.refl _ _ | assumption | refine Below.drew ?_ | refine below_drewN ?_ _ | refine Below.alloc ?_ (by simp <;> omega) _ | refine Below.setCell ?_ (by simp <;> omega) _))) ?_
    repeat (first | (refine seq_take (v := ?_) rfl (by rfl) ?_ ?_; rotate_left; (focus (intro wS hS; have z0 := (hS.cell (p := ⟨w.heap.size, 0, none⟩) sz).trans s0; have z1 := (hS.cell (p := ⟨w.heap.size, 1, none⟩) sz).trans s1; have z2 := (hS.cell (p := ⟨w.heap.size, 2, none⟩) sz).trans s2; have y2 := (hS.cell (p := ⟨w.heap.size + 1, 2, none⟩) cz).trans c2; have y3 := (hS.cell (p := ⟨w.heap.size + 1, 3, none⟩) cz).trans c3; have yx := (hS.cell (p := ⟨g, 0, none⟩) hgW).trans q0; go_simp; exact rfl)); simp only [Act.put, sqA, sqB, sqC]) | (refine seq_skip rfl (by rfl) ?_; simp only [Act.put, sqA, sqB, sqC]))
    refine seq_pass rfl (by rfl) (by (repeat' (first | exact Below.refl _ _ | assumption | refine Below.drew ?_ | refine below_drewN ?_ _ | refine Below.alloc ?_ (by simp <;> omega) _ | refine Below.setCell ?_ (by simp <;> omega) _))) ?_
    simp only [Act.put, sqA, sqB, sqC]
    repeat (first | (refine seq_take (v := ?_) rfl (by rfl) ?_ ?_; rotate_left; (focus (intro wS hS; have z0 := (hS.cell (p := ⟨w.heap.size, 0, none⟩) sz).trans s0; have z1 := (hS.cell (p := ⟨w.heap.size, 1, none⟩) sz).trans s1; have z2 := (hS.cell (p := ⟨w.heap.size, 2, none⟩) sz).trans s2; have y2 := (hS.cell (p := ⟨w.heap.size + 1, 2, none⟩) cz).trans c2; have y3 := (hS.cell (p := ⟨w.heap.size + 1, 3, none⟩) cz).trans c3; have yx := (hS.cell (p := ⟨g, 0, none⟩) hgW).trans q0; go_simp; exact rfl)); simp only [Act.put, sqA, sqB, sqC]) | (refine seq_skip rfl (by rfl) ?_; simp only [Act.put, sqA, sqB, sqC]))
    refine seq_nil ?_
    have HBB := HBW
    go_wp2
    refine bodyPost_ret (v := .tuple #[.slice (some ⟨g, 0, none⟩) m cap, .agg #[.int .i64 9, .int .u64 0, .slice none 0 0]]) (by simp [results, Tryz.results89, go_sem, *]) rfl ?_
    refine ra_same HO.out HL.out hmx hB (((Keep.of_below HBB.out (fun k hk => hk))).trans ?_)
    (repeat' (first | exact Keep.refl _ _ | refine Keep.setCell ?_ (by simp; omega) _ | refine Keep.drew ?_))
  · have d0 : decide (c.kind < 0) = false := by simpa using h0
    have d1 : decide (kindsI s.p ≤ c.kind) = true := by simp; omega
    clear hO hl hf hx hk h0
    go_enter Tryz.func89, Tryz.ntmps89
    go_wp2_with fail
    obtain ⟨W, hW⟩ : ∃ W, W = ((w.alloc (.cells #[.int .i64 s.kind, .int .i64 s.p, .int .i64 s.q] 23)).alloc (.cells #[.int .i64 c.thread, .int .i64 c.obj, .int .i64 c.kind, .int .u64 c.a, .int .u64 c.b, .int .u64 c.c] 27)).alloc (.cells #[.int .i64 0, .int .u64 0, .slice none 0 0] 57) := ⟨_, rfl⟩
    have hgW : g < W.heap.size := by rw [hW]; simp; omega
    have hbl := appW_blocks w s c
    unfold appW at hbl
    have HBW : Hid (Below w.heap.size w W) := hide (by rw [hW]; exact appW_below w s c)
    have q0 := (HBW.out.cell (p := ⟨g, 0, none⟩) hg).trans c0
    rw [← hW] at hbl ⊢
    have HBL := hide hbl
    obtain ⟨s0, s1, s2, _, _, _, sz⟩ := cells3 hbl.1
    obtain ⟨_, _, c2, c3, _, _, cz⟩ := cells6 hbl.2.1
    obtain ⟨r0, r1, r2, f0, f1, f2, rz⟩ := cells3 hbl.2.2
    clear hW hbl c0
    refine wp_region_seq (Below W.heap.size W) (.take 0 <| .take 1 <| .take 2 <| .take 3 <| .take 4 <| .take 5 <| .take 6 <| .take 7 <| .run 8 <| .take 9 <| .take 10 <| .done) (by kernel_rfl) (by kernel_rfl) (by kernel_rfl) (by (repeat' (first | exact Below.refl _ _ | assumption | refine Below.drew ?_ | refine below_drewN ?_ _ | refine Below.alloc ?_ (by simp <;> omega) _ | refine Below.setCell ?_ (by simp <;> omega) _))) ?_
    repeat (first | (refine seq_take (v := ?_) rfl (by rfl) ?_ ?_; rotate_left; (focus (intro wS hS; have z0 := (hS.cell (p := ⟨w.heap.size, 0, none⟩) sz).trans s0; have z1 := (hS.cell (p := ⟨w.heap.size, 1, none⟩) sz).trans s1; have z2 := (hS.cell (p := ⟨w.heap.size, 2, none⟩) sz).trans s2; have y2 := (hS.cell (p := ⟨w.heap.size + 1, 2, none⟩) cz).trans c2; have y3 := (hS.cell (p := ⟨w.heap.size + 1, 3, none⟩) cz).trans c3; have yx := (hS.cell (p := ⟨g, 0, none⟩) hgW).trans q0; go_simp; exact rfl)); simp only [Act.put, sqA, sqB, sqC]) | (refine seq_skip rfl (by rfl) ?_; simp only [Act.put, sqA, sqB, sqC]))
    refine seq_run rfl (by rfl) (fun K hK => ?_)
    go_simp
    refine (refKinds_any _ _).mono ?_
    rintro e w2 ⟨rfl, hb2⟩
    have hB2 : Below W.heap.size W w2 := (Below.refl _ _).drew.trans (hb2.mono (by simp))
    refine hK _ _ hB2 ?_
    clear hK K
    repeat (first | (refine seq_take (v := ?_) rfl (by rfl) ?_ ?_; rotate_left; (focus (intro wS hS; have z0 := (hS.cell (p := ⟨w.heap.size, 0, none⟩) sz).trans s0; have z1 := (hS.cell (p := ⟨w.heap.size, 1, none⟩) sz).trans s1; have z2 := (hS.cell (p := ⟨w.heap.size, 2, none⟩) sz).trans s2; have y2 := (hS.cell (p := ⟨w.heap.size + 1, 2, none⟩) cz).trans c2; have y3 := (hS.cell (p := ⟨w.heap.size + 1, 3, none⟩) cz).trans c3; have yx := (hS.cell (p := ⟨g, 0, none⟩) hgW).trans q0; go_simp; exact rfl)); simp only [Act.put, sqA, sqB, sqC]) | (refine seq_skip rfl (by rfl) ?_; simp only [Act.put, sqA, sqB, sqC]))
    refine seq_nil ?_
    have HB2 := hide hB2
    replace r0 := (hB2.cell (p := ⟨w.heap.size + 2, 0, none⟩) rz).trans r0
    replace r1 := (hB2.cell (p := ⟨w.heap.size + 2, 1, none⟩) rz).trans r1
    replace r2 := (hB2.cell (p := ⟨w.heap.size + 2, 2, none⟩) rz).trans r2
    replace f0 := (hB2.frozen (p := ⟨w.heap.size + 2, 0, none⟩) rz).trans f0
    replace f1 := (hB2.frozen (p := ⟨w.heap.size + 2, 1, none⟩) rz).trans f1
    replace f2 := (hB2.frozen (p := ⟨w.heap.size + 2, 2, none⟩) rz).trans f2
    replace s0 := (hB2.cell (p := ⟨w.heap.size, 0, none⟩) sz).trans s0
    replace s1 := (hB2.cell (p := ⟨w.heap.size, 1, none⟩) sz).trans s1
    replace s2 := (hB2.cell (p := ⟨w.heap.size, 2, none⟩) sz).trans s2
    replace c2 := (hB2.cell (p := ⟨w.heap.size + 1, 2, none⟩) cz).trans c2
    replace c3 := (hB2.cell (p := ⟨w.heap.size + 1, 3, none⟩) cz).trans c3
    replace q0 := (hB2.cell (p := ⟨g, 0, none⟩) hgW).trans q0
    have hz2 := hB2.size
    replace sz : w.heap.size < w2.heap.size := by omega
    replace cz : w.heap.size + 1 < w2.heap.size := by omega
    replace rz : w.heap.size + 2 < w2.heap.size := by omega
    replace hgW : g < w2.heap.size := by omega
    have HBB : Hid (Below w.heap.size w w2) := hide (HBW.out.trans (hB2.mono (by have := HBW.out.size; omega)))
    have HR2 : Hid (w2.heap[w.heap.size + 2]? = some (.cells #[.int .i64 0, .int .u64 0, .slice none 0 0] 57 (0, 0))) := hide ((hB2.block _ (by have := (Array.getElem?_eq_some_iff.1 HBL.out.2.2).1; omega)).trans HBL.out.2.2)
    clear hB2 hb2
    go_wp2
    refine bodyPost_ret (v := .tuple #[.slice (some ⟨g, 0, none⟩) m cap, .agg #[.int .i64 9, .int .u64 0, .slice none 0 0]]) (by simp [results, Tryz.results89, go_sem, *]) rfl ?_
    refine ra_same HO.out HL.out hmx hB (((Keep.of_below HBB.out (fun k hk => hk))).trans ?_)
    (repeat' (first | exact Keep.refl _ _ | refine Keep.setCell ?_ (by simp; omega) _ | refine Keep.drew ?_))
set_option maxRecDepth 100000 in
set_option maxHeartbeats 4000000 in
theorem runiv_full (s : Sp) (c : Cl) (B m : Nat) (v : Value) (st : List Int) (w : World) (hO : WOwn w B v m st) (hm : 0 < m) (hB : B ≤ w.heap.size) (hk0 : 0 ≤ c.kind) (hk1 : c.kind < kindsI s.p) (hq0 : 0 ≤ s.q) (hq1 : s.q ≤ 1000) (hm1 : m ≤ 1000)
    (hf1 : 4294967296 ≤ c.a ∨ s.q ≤ at0 st 0) :
    Calls Tryz.prog 89 #[spV s, v, clV c] w (RPost B (sharedM s st c) w) := by
  obtain ⟨g, cap, rfl, hBg, hg, hl, hmx, hf⟩ := wo_parts hO hm
  obtain ⟨x, hx⟩ : ∃ x, st[0]? = some x := ⟨_, List.getElem?_eq_getElem (by omega)⟩
  have hat : at0 st 0 = x := by unfold at0; rw [hx]; rfl
  have c0 := wo_cell hO hx
  have HO := hide hO
  have HL := hide hl
  have d0 : decide (c.kind < 0) = false := by simpa using hk0
  have d1 : decide (kindsI s.p ≤ c.kind) = false := by simp; omega
  have wq : IntKind.u64.wrap s.q = s.q := by rw [IntKind.wrap_u64]; omega
  have hm2 : (m : Int) ≤ 1000 := by omega
  have hm3 : (0 : Int) < (m : Int) := by omega
  by_cases ha : 4294967296 ≤ c.a
  · have hR : sharedM s st c = (st, ⟨10, 0, []⟩) := by unfold sharedM; rw [if_pos ha]; rfl
    have d2 : decide (4294967296 ≤ c.a) = true := by simpa using ha
    rw [hR]
    clear hO hl hf hx hk0 hk1 hf1 hat ha hR
    go_enter Tryz.func89, Tryz.ntmps89
    go_wp2_with fail
    obtain ⟨W, hW⟩ : ∃ W, W = ((w.alloc (.cells #[.int .i64 s.kind, .int .i64 s.p, .int .i64 s.q] 23)).alloc (.cells #[.int .i64 c.thread, .int .i64 c.obj, .int .i64 c.kind, .int .u64 c.a, .int .u64 c.b, .int .u64 c.c] 27)).alloc (.cells #[.int .i64 0, .int .u64 0, .slice none 0 0] 57) := ⟨_, rfl⟩
    have hgW : g < W.heap.size := by rw [hW]; simp; omega
    have hbl := appW_blocks w s c
    unfold appW at hbl
    have HBW : Hid (Below w.heap.size w W) := hide (by rw [hW]; exact appW_below w s c)
    have q0 := (HBW.out.cell (p := ⟨g, 0, none⟩) hg).trans c0
    rw [← hW] at hbl ⊢
    have HBL := hide hbl
    obtain ⟨s0, s1, s2, _, _, _, sz⟩ := cells3 hbl.1
    obtain ⟨_, _, c2, c3, _, _, cz⟩ := cells6 hbl.2.1
    obtain ⟨r0, r1, r2, f0, f1, f2, rz⟩ := cells3 hbl.2.2
    clear hW hbl c0
    refine wp_region_seq (Below W.heap.size W) (.take 0 <| .take 1 <| .take 2 <| .take 3 <| .take 4 <| .take 5 <| .take 6 <| .take 7 <| .run 8 <| .take 9 <| .take 10 <| .done) (by kernel_rfl) (by kernel_rfl) (by kernel_rfl) (by (repeat' (first | exact Below.refl _ _ | assumption | refine Below.drew ?_ | refine below_drewN ?_ _ | refine Below.alloc ?_ (by simp <;> omega) _ | refine Below.setCell ?_ (by simp <;> omega) _))) ?_
    repeat (first | (refine seq_take (v := ?_) rfl (by rfl) ?_ ?_; rotate_left; (focus (intro wS hS; have z0 := (hS.cell (p := ⟨w.heap.size, 0, none⟩) sz).trans s0; have z1 := (hS.cell (p := ⟨w.heap.size, 1, none⟩) sz).trans s1; have z2 := (hS.cell (p := ⟨w.heap.size, 2, none⟩) sz).trans s2; have y2 := (hS.cell (p := ⟨w.heap.size + 1, 2, none⟩) cz).trans c2; have y3 := (hS.cell (p := ⟨w.heap.size + 1, 3, none⟩) cz).trans c3; have yx := (hS.cell (p := ⟨g, 0, none⟩) hgW).trans q0; go_simp; exact rfl)); simp only [Act.put, sqA, sqB, sqC]) | (refine seq_skip rfl (by rfl) ?_; simp only [Act.put, sqA, sqB, sqC]))
    refine seq_run rfl (by rfl) (fun K hK => ?_)
    go_simp
    refine (refKinds_any _ _).mono ?_
    rintro e w2 ⟨rfl, hb2⟩
    have hB2 : Below W.heap.size W w2 := (Below.refl _ _).drew.trans (hb2.mono (by simp))
    refine hK _ _ hB2 ?_
    clear hK K
    repeat (first | (refine seq_take (v := ?_) rfl (by rfl) ?_ ?_; rotate_left; (focus (intro wS hS; have z0 := (hS.cell (p := ⟨w.heap.size, 0, none⟩) sz).trans s0; have z1 := (hS.cell (p := ⟨w.heap.size, 1, none⟩) sz).trans s1; have z2 := (hS.cell (p := ⟨w.heap.size, 2, none⟩) sz).trans s2; have y2 := (hS.cell (p := ⟨w.heap.size + 1, 2, none⟩) cz).trans c2; have y3 := (hS.cell (p := ⟨w.heap.size + 1, 3, none⟩) cz).trans c3; have yx := (hS.cell (p := ⟨g, 0, none⟩) hgW).trans q0; go_simp; exact rfl)); simp only [Act.put, sqA, sqB, sqC]) | (refine seq_skip rfl (by rfl) ?_; simp only [Act.put, sqA, sqB, sqC]))
    refine seq_nil ?_
    have HB2 := hide hB2
    replace r0 := (hB2.cell (p := ⟨w.heap.size + 2, 0, none⟩) rz).trans r0
    replace r1 := (hB2.cell (p := ⟨w.heap.size + 2, 1, none⟩) rz).trans r1
    replace r2 := (hB2.cell (p := ⟨w.heap.size + 2, 2, none⟩) rz).trans r2
    replace f0 := (hB2.frozen (p := ⟨w.heap.size + 2, 0, none⟩) rz).trans f0
    replace f1 := (hB2.frozen (p := ⟨w.heap.size + 2, 1, none⟩) rz).trans f1
    replace f2 := (hB2.frozen (p := ⟨w.heap.size + 2, 2, none⟩) rz).trans f2
    replace s0 := (hB2.cell (p := ⟨w.heap.size, 0, none⟩) sz).trans s0
    replace s1 := (hB2.cell (p := ⟨w.heap.size, 1, none⟩) sz).trans s1
    replace s2 := (hB2.cell (p := ⟨w.heap.size, 2, none⟩) sz).trans s2
    replace c2 := (hB2.cell (p := ⟨w.heap.size + 1, 2, none⟩) cz).trans c2
    replace c3 := (hB2.cell (p := ⟨w.heap.size + 1, 3, none⟩) cz).trans c3
    replace q0 := (hB2.cell (p := ⟨g, 0, none⟩) hgW).trans q0
    have hz2 := hB2.size
    replace sz : w.heap.size < w2.heap.size := by omega
    replace cz : w.heap.size + 1 < w2.heap.size := by omega
    replace rz : w.heap.size + 2 < w2.heap.size := by omega
    replace hgW : g < w2.heap.size := by omega
    have HBB : Hid (Below w.heap.size w w2) := hide (HBW.out.trans (hB2.mono (by have := HBW.out.size; omega)))
    have HR2 : Hid (w2.heap[w.heap.size + 2]? = some (.cells #[.int .i64 0, .int .u64 0, .slice none 0 0] 57 (0, 0))) := hide ((hB2.block _ (by have := (Array.getElem?_eq_some_iff.1 HBL.out.2.2).1; omega)).trans HBL.out.2.2)
    clear hB2 hb2
    go_wp2
    refine bodyPost_ret (v := .tuple #[.slice (some ⟨g, 0, none⟩) m cap, .agg #[.int .i64 10, .int .u64 0, .slice none 0 0]]) (by simp [results, Tryz.results89, go_sem, *]) rfl ?_
    refine ra_same HO.out HL.out hmx hB (((Keep.of_below HBB.out (fun k hk => hk))).trans ?_)
    (repeat' (first | exact Keep.refl _ _ | refine Keep.setCell ?_ (by simp; omega) _ | refine Keep.drew ?_))
  · have hf2 : s.q ≤ x := by rw [← hat]; exact hf1.resolve_left ha
    have hR : sharedM s st c = (st, ⟨6, 0, []⟩) := by unfold sharedM; rw [if_neg ha, hat, if_pos hf2]; rfl
    have d2 : decide (4294967296 ≤ c.a) = false := by simpa using ha
    have d3 : decide (s.q ≤ x) = true := by simpa using hf2
    rw [hR]
    clear hO hl hf hx hk0 hk1 hf1 hat ha hR hf2
    go_enter Tryz.func89, Tryz.ntmps89
    go_wp2_with fail
    obtain ⟨W, hW⟩ : ∃ W, W = ((w.alloc (.cells #[.int .i64 s.kind, .int .i64 s.p, .int .i64 s.q] 23)).alloc (.cells #[.int .i64 c.thread, .int .i64 c.obj, .int .i64 c.kind, .int .u64 c.a, .int .u64 c.b, .int .u64 c.c] 27)).alloc (.cells #[.int .i64 0, .int .u64 0, .slice none 0 0] 57) := ⟨_, rfl⟩
    have hgW : g < W.heap.size := by rw [hW]; simp; omega
    have hbl := appW_blocks w s c
    unfold appW at hbl
    have HBW : Hid (Below w.heap.size w W) := hide (by rw [hW]; exact appW_below w s c)
    have q0 := (HBW.out.cell (p := ⟨g, 0, none⟩) hg).trans c0
    rw [← hW] at hbl ⊢
    have HBL := hide hbl
    obtain ⟨s0, s1, s2, _, _, _, sz⟩ := cells3 hbl.1
    obtain ⟨_, _, c2, c3, _, _, cz⟩ := cells6 hbl.2.1
    obtain ⟨r0, r1, r2, f0, f1, f2, rz⟩ := cells3 hbl.2.2
    clear hW hbl c0
    refine wp_region_seq (Below W.heap.size W) (.take 0 <| .take 1 <| .take 2 <| .take 3 <| .take 4 <| .take 5 <| .take 6 <| .take 7 <| .run 8 <| .take 9 <| .take 10 <| .done) (by kernel_rfl) (by kernel_rfl) (by kernel_rfl) (by (repeat' (first | exact Below.refl _ _ | assumption | refine Below.drew ?_ | refine below_drewN ?_ _ | refine Below.alloc ?_ (by simp <;> omega) _ | refine Below.setCell ?_ (by simp <;> omega) _))) ?_
    repeat (first | (refine seq_take (v := ?_) rfl (by rfl) ?_ ?_; rotate_left; (focus (intro wS hS; have z0 := (hS.cell (p := ⟨w.heap.size, 0, none⟩) sz).trans s0; have z1 := (hS.cell (p := ⟨w.heap.size, 1, none⟩) sz).trans s1; have z2 := (hS.cell (p := ⟨w.heap.size, 2, none⟩) sz).trans s2; have y2 := (hS.cell (p := ⟨w.heap.size + 1, 2, none⟩) cz).trans c2; have y3 := (hS.cell (p := ⟨w.heap.size + 1, 3, none⟩) cz).trans c3; have yx := (hS.cell (p := ⟨g, 0, none⟩) hgW).trans q0; go_simp; exact rfl)); simp only [Act.put, sqA, sqB, sqC]) | (refine seq_skip rfl (by rfl) ?_; simp only [Act.put, sqA, sqB, sqC]))
    refine seq_run rfl (by rfl) (fun K hK => ?_)
    go_simp
    refine (refKinds_any _ _).mono ?_
    rintro e w2 ⟨rfl, hb2⟩
    have hB2 : Below W.heap.size W w2 := (Below.refl _ _).drew.trans (hb2.mono (by simp))
    refine hK _ _ hB2 ?_
    clear hK K
    repeat (first | (refine seq_take (v := ?_) rfl (by rfl) ?_ ?_; rotate_left; (focus (intro wS hS; have z0 := (hS.cell (p := ⟨w.heap.size, 0, none⟩) sz).trans s0; have z1 := (hS.cell (p := ⟨w.heap.size, 1, none⟩) sz).trans s1; have z2 := (hS.cell (p := ⟨w.heap.size, 2, none⟩) sz).trans s2; have y2 := (hS.cell (p := ⟨w.heap.size + 1, 2, none⟩) cz).trans c2; have y3 := (hS.cell (p := ⟨w.heap.size + 1, 3, none⟩) cz).trans c3; have yx := (hS.cell (p := ⟨g, 0, none⟩) hgW).trans q0; go_simp; exact rfl)); simp only [Act.put, sqA, sqB, sqC]) | (refine seq_skip rfl (by rfl) ?_; simp only [Act.put, sqA, sqB, sqC]))
    refine seq_nil ?_
    have HB2 := hide hB2
    replace r0 := (hB2.cell (p := ⟨w.heap.size + 2, 0, none⟩) rz).trans r0
    replace r1 := (hB2.cell (p := ⟨w.heap.size + 2, 1, none⟩) rz).trans r1
    replace r2 := (hB2.cell (p := ⟨w.heap.size + 2, 2, none⟩) rz).trans r2
    replace f0 := (hB2.frozen (p := ⟨w.heap.size + 2, 0, none⟩) rz).trans f0
    replace f1 := (hB2.frozen (p := ⟨w.heap.size + 2, 1, none⟩) rz).trans f1
    replace f2 := (hB2.frozen (p := ⟨w.heap.size + 2, 2, none⟩) rz).trans f2
    replace s0 := (hB2.cell (p := ⟨w.heap.size, 0, none⟩) sz).trans s0
    replace s1 := (hB2.cell (p := ⟨w.heap.size, 1, none⟩) sz).trans s1
    replace s2 := (hB2.cell (p := ⟨w.heap.size, 2, none⟩) sz).trans s2
    replace c2 := (hB2.cell (p := ⟨w.heap.size + 1, 2, none⟩) cz).trans c2
    replace c3 := (hB2.cell (p := ⟨w.heap.size + 1, 3, none⟩) cz).trans c3
    replace q0 := (hB2.cell (p := ⟨g, 0, none⟩) hgW).trans q0
    have hz2 := hB2.size
    replace sz : w.heap.size < w2.heap.size := by omega
    replace cz : w.heap.size + 1 < w2.heap.size := by omega
    replace rz : w.heap.size + 2 < w2.heap.size := by omega
    replace hgW : g < w2.heap.size := by omega
    have HBB : Hid (Below w.heap.size w w2) := hide (HBW.out.trans (hB2.mono (by have := HBW.out.size; omega)))
    have HR2 : Hid (w2.heap[w.heap.size + 2]? = some (.cells #[.int .i64 0, .int .u64 0, .slice none 0 0] 57 (0, 0))) := hide ((hB2.block _ (by have := (Array.getElem?_eq_some_iff.1 HBL.out.2.2).1; omega)).trans HBL.out.2.2)
    clear hB2 hb2
    go_wp2_with fail
    refine wp_region_seq (Below w2.heap.size w2) (.take 0 <| .take 1 <| .take 2 <| .take 3 <| .take 4 <| .take 5 <| .take 6 <| .done) (by kernel_rfl) (by kernel_rfl) (by kernel_rfl) (by (repeat' (first | exact Below.refl _ _ | assumption | refine Below.drew ?_ | refine below_drewN ?_ _ | refine Below.alloc ?_ (by simp <;> omega) _ | refine Below.setCell ?_ (by simp <;> omega) _))) ?_
    repeat (first | (refine seq_take (v := ?_) rfl (by rfl) ?_ ?_; rotate_left; (focus (intro wS hS; have z0 := (hS.cell (p := ⟨w.heap.size, 0, none⟩) sz).trans s0; have z1 := (hS.cell (p := ⟨w.heap.size, 1, none⟩) sz).trans s1; have z2 := (hS.cell (p := ⟨w.heap.size, 2, none⟩) sz).trans s2; have y2 := (hS.cell (p := ⟨w.heap.size + 1, 2, none⟩) cz).trans c2; have y3 := (hS.cell (p := ⟨w.heap.size + 1, 3, none⟩) cz).trans c3; have yx := (hS.cell (p := ⟨g, 0, none⟩) hgW).trans q0; go_simp; exact rfl)); simp only [Act.put, sqA, sqB, sqC]) | (refine seq_skip rfl (by rfl) ?_; simp only [Act.put, sqA, sqB, sqC]))
    refine seq_nil ?_
    go_wp2
    refine bodyPost_ret (v := .tuple #[.slice (some ⟨g, 0, none⟩) m cap, .agg #[.int .i64 6, .int .u64 0, .slice none 0 0]]) (by simp [results, Tryz.results89, go_sem, *]) rfl ?_
    refine ra_same HO.out HL.out hmx hB (((Keep.of_below HBB.out (fun k hk => hk))).trans ?_)
    (repeat' (first | exact Keep.refl _ _ | refine Keep.setCell ?_ (by simp; omega) _ | refine Keep.drew ?_))
end Go.Proofs.YtmiimpmfkjcjlaaGreat
