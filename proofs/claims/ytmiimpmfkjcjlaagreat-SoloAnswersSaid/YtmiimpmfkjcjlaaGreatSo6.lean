/- Operations that are done whole (package solo): one operation, of an object that there is: the walk. -/
import Derived.Test.YtmiimpmfkjcjlaaGreatBun22
namespace Go.Proofs.YtmiimpmfkjcjlaaGreat
open Go.RowKit
attribute [local go_sem] run_store_fn run_store_nilfn

set_option maxRecDepth 100000 in
set_option maxHeartbeats 1000000 in
theorem sdo_in (n : Int) (As : Option Addr) (ms cs b mb B o : Nat) (v : Value) (specs : List Sp) (ps : List StP) (last : List Int) (c : Cl) (s : Sp) (p : StP) (t : Int) (w : World) (hSo : SoAt w b n (.slice As ms cs) v mb) (hSt : StRow w B v ps) (hs : SlSp w (.slice As ms cs) specs) (hms : specs.length = ms)
    (hM : IMap w mb .i64 (lastMap last)) (hco : c.obj = (o : Int)) (hsp : specs[o]? = some s) (hp : ps[o]? = some p) (ht : last[o]? = some t) (hR : rightM n s p.1 = true) (hu : ∀ z ∈ p.1, U64 z) (hl : p.1.length ≤ 10000) (ha : U64 c.a) (hb : U64 c.b) (ht0 : 0 ≤ c.thread) (ht1 : c.thread < n) (hm8 : ms ≤ 8) (hpm : ps.length = ms) (hlm : last.length = ms) :
    Calls Tryz.prog 46 #[.pointer (some ⟨b, 0, none⟩), clV c] w (DoPost n (.slice As ms cs) v b mb B (soDo n specs (ps.map Prod.fst) last c) w) := by
  obtain ⟨gr, rcap, rfl, hBr, hgr, hcur, hcr, hsl, htw⟩ := ob_get stEn_len hSt hp
  have hrow := hcr 0 _ rfl
  simp only [Nat.mul_one, Nat.add_zero] at hrow
  have hlo := (List.getElem?_eq_some_iff.1 hp).1
  rw [soDo_in hco hsp (by rw [List.getElem?_map, hp]; rfl) ht]
  obtain ⟨A', c', e', _, _, h3⟩ := id hs
  obtain ⟨gs, os, hA, hgs, hcc⟩ := h3 o s hsp
  cases e'
  subst hA
  obtain ⟨x0, x1, x2⟩ := spec_cells hcc
  obtain ⟨st, pA, pc⟩ := p
  simp only at hR hu hl
  obtain ⟨a0, a1, a2, a3, bz⟩ := cells4 hSo
  have hn16 : n ≤ 16 ∧ (s.kind = 8 → st.length % 2 = 0) := by
    unfold rightM at hR
    simp only [Bool.and_eq_true, decide_eq_true_eq] at hR
    refine ⟨(sizeE_zero hR.1).1.2, fun h8 => ?_⟩
    have := hR.2
    unfold shapeM at this
    rw [if_neg (by omega), if_pos h8] at this
    simpa using this
  have N1 := fun W (h : SlW W (.slice pA st.length pc) st) => mapply_any n s c pA st.length pc st W h rfl hl ha hb hu
  unfold ApPost clV at N1
  rw [hco] at N1
  have HFULL := hide (fun W (h1 : SoAt W b n (.slice (some ⟨gs, os, none⟩) specs.length cs) (.slice (some ⟨gr, 0, none⟩) ps.length rcap) mb) (h2 : StRow W B (.slice (some ⟨gr, 0, none⟩) ps.length rcap) ps) (h3 : SlSp W (.slice (some ⟨gs, os, none⟩) specs.length cs) specs) (h4 : IMap W mb .i64 (lastMap last)) (he : st.length % 2 = 0) =>
    sfull_any n (some ⟨gs, os, none⟩) specs.length cs b mb B o _ specs ps last c s (st, pA, pc) t W h1 h2 h3 rfl h4 hco hsp hp ht he hl ht0 (by omega) (by omega) (by omega))
  unfold clV at HFULL
  rw [hco] at HFULL
  have HRNE := hide (fun (h8 : s.kind = 8) (hE : (applyM n s st c).2.err = 0) (hk : c.kind = 1) => show ∃ y, st[0]? = some y from by
    rcases st with _ | ⟨y, l⟩
    · exfalso
      unfold applyM at hE
      rw [if_neg (by rw [hR]; simp; omega), if_neg (by rw [h8, hk]; show ¬ ¬ ((0 : Int) ≤ 1 ∧ (1 : Int) < 2); decide)] at hE
      unfold actM at hE
      rw [if_neg (by omega), if_neg (by omega), if_neg (by omega), if_neg (by omega), if_neg (by omega), if_neg (by omega), if_neg (by omega), if_pos h8] at hE
      unfold queueM at hE
      rw [if_neg (by omega), if_neg (by omega), if_pos (show ([] : List Int).length = 0 from rfl)] at hE
      cases hE
    · exact ⟨y, rfl⟩)
  have HU := hide hu
  show Calls _ _ _ _ (DoPost n _ _ b mb B (if s.kind = 8 ∧ (applyM n s st c).2.err = 0 ∧ c.kind = 0 ∧ s.p ≤ (ownN st c.thread : Nat) + (if t = c.thread then 1 else 0) then ((ps.map Prod.fst, last), anE 6) else
      if s.kind = 8 ∧ (applyM n s st c).2.err = 0 ∧ c.kind = 1 then (((ps.map Prod.fst).set o (applyM n s st c).1, last.set o (at0 st 0)), (applyM n s st c).2) else (((ps.map Prod.fst).set o (applyM n s st c).1, last), (applyM n s st c).2)) w)
  obtain ⟨R, hRR⟩ : ∃ R, applyM n s st c = R := ⟨_, rfl⟩
  rw [hRR] at N1 HRNE ⊢
  obtain ⟨R1, E, V, R3⟩ := R
  simp only [] at N1 HRNE ⊢
  obtain ⟨RES, hRES⟩ : ∃ RES, (if s.kind = 8 ∧ E = 0 ∧ c.kind = 0 ∧ s.p ≤ (ownN st c.thread : Nat) + (if t = c.thread then 1 else 0) then (((ps.map Prod.fst, last), anE 6) : (List (List Int) × List Int) × An) else
      if s.kind = 8 ∧ E = 0 ∧ c.kind = 1 then (((ps.map Prod.fst).set o R1, last.set o (at0 st 0)), ⟨E, V, R3⟩) else (((ps.map Prod.fst).set o R1, last), ⟨E, V, R3⟩)) = RES := ⟨_, rfl⟩
  rw [hRES]
  have HRES := hide hRES
  clear hRES
  obtain ⟨W, hW⟩ : ∃ W, W = (w.alloc (.cells #[.int .i64 c.thread, .int .i64 c.obj, .int .i64 c.kind, .int .u64 c.a, .int .u64 c.b, .int .u64 c.c] 27)).alloc (.cells #[.int .i64 0, .int .u64 0, .slice none 0 0] 57) := ⟨_, rfl⟩
  have hBW : Below w.heap.size w W := by rw [hW]; exact ((Below.refl _ _).alloc (Nat.le_refl _) _).alloc (by simp) _
  have hzW : W.heap.size = w.heap.size + 2 := by rw [hW]; simp
  have HCW : Hid (W.heap[w.heap.size]? = some (.cells #[.int .i64 c.thread, .int .i64 c.obj, .int .i64 c.kind, .int .u64 c.a, .int .u64 c.b, .int .u64 c.c] 27 (0, 0))) := hide (by rw [hW]; exact (heap_alloc_old _ _ (by simp)).trans (heap_alloc_new _ _))
  have HRW : Hid (W.heap[w.heap.size + 1]? = some (.cells #[.int .i64 0, .int .u64 0, .slice none 0 0] 57 (0, 0))) := hide (by
    rw [hW]
    have h := heap_alloc_new (w.alloc (.cells #[.int .i64 c.thread, .int .i64 c.obj, .int .i64 c.kind, .int .u64 c.a, .int .u64 c.b, .int .u64 c.c] 27)) (.cells #[.int .i64 0, .int .u64 0, .slice none 0 0] 57)
    simpa using h)
  obtain ⟨c0, c1, c2, c3, c4, c5, cz⟩ := cells6 HCW.out
  rw [hco] at c1
  replace a0 := (hBW.cell (p := ⟨b, 0, none⟩) bz).trans a0
  replace a1 := (hBW.cell (p := ⟨b, 1, none⟩) bz).trans a1
  replace a2 := (hBW.cell (p := ⟨b, 2, none⟩) bz).trans a2
  have r0 := (hBW.cell (p := ⟨gr, o, none⟩) hgr).trans hrow
  replace x0 := (hBW.cell (p := ⟨gs, os + o * 3, none⟩) hgs).trans x0
  replace x1 := (hBW.cell (p := ⟨gs, os + o * 3 + 1, none⟩) hgs).trans x1
  replace x2 := (hBW.cell (p := ⟨gs, os + o * 3 + 2, none⟩) hgs).trans x2
  replace bz : b < W.heap.size := by omega
  have gz : gr < W.heap.size := by omega
  have sz : gs < W.heap.size := by omega
  have hzl : w.heap.size + 2 ≤ W.heap.size := by omega
  have HEV := hide hn16.2
  have HCO := hide hco
  have HSO := hide hSo
  have HST := hide hSt
  have HSP := hide hs
  have HM := hide hM
  have HSL := hide hsl
  have HBW := hide hBW
  have HN1 := hide N1
  have HLO := hide (show o < last.length by omega)
  have q0 : (0 : Int) ≤ (o : Int) := by omega
  have q1 : (o : Int) < (ps.length : Int) := by omega
  have q2 : (o : Int) < (specs.length : Int) := by omega
  have q3 : o < ps.length := by omega
  have q4 : o < specs.length := by omega
  have d0 : decide (specs.length ≤ o) = false := by simp; omega
  have d1 : decide ((specs.length : Int) ≤ (o : Int)) = false := by simp; omega
  have HBB := hide (show b < w.heap.size ∧ gr < w.heap.size ∧ mb < w.heap.size from ⟨(Array.getElem?_eq_some_iff.1 hSo).1, hgr, hM.lt⟩)
  clear hSo hSt hs hM hsp hp ht hR hu hl ha hb ht0 ht1 hBW hrow hcr hsl htw hcc h3 hcur hgr hgs hlo hRR N1 hpm hlm hm8 hco hzW hn16
  go_enter Tryz.func46, Tryz.ntmps46
  go_wp2_with fail
  rw [← hW]
  clear hW
  refine wp_region_seq (Below W.heap.size W) (.take 0 <| .take 1 <| .take 2 <| .take 3 <| .take 4 <| .take 5 <| .take 6 <| .take 7 <| .take 8 <| .take 9 <| .take 10 <| .take 11 <| .take 12 <| .done) (by kernel_rfl) (by kernel_rfl) (by kernel_rfl) (by (repeat' (first | with_reducible assumption | with_reducible exact Below.refl _ _ | with_reducible refine Below.drew ?_ | with_reducible refine below_drewN ?_ _ | with_reducible refine Below.alloc ?_ ?_ _ | with_reducible refine Below.setCell ?_ ?_ _ | omega | (simp; done) | (simp; omega)))) ?_
  repeat (first | (refine seq_take (v := ?_) rfl (by rfl) ?_ ?_; rotate_left; (focus (intro wS hS; have z1 := (hS.cell (p := ⟨b, 1, none⟩) bz).trans a1; have z2 := (hS.cell (p := ⟨b, 2, none⟩) bz).trans a2; have y1 := (hS.cell (p := ⟨w.heap.size, 1, none⟩) cz).trans c1; have k0 := (hS.cell (p := ⟨gr, o, none⟩) gz).trans r0; have k1 := (hS.cell (p := ⟨gs, os + o * 3, none⟩) sz).trans x0; have k2 := (hS.cell (p := ⟨gs, os + o * 3 + 1, none⟩) sz).trans x1; have k3 := (hS.cell (p := ⟨gs, os + o * 3 + 2, none⟩) sz).trans x2; go_simp; exact rfl)); simp only [Act.put, List.setIfInBounds_toArray, List.set_cons_zero, List.set_cons_succ]) | (refine seq_skip rfl (by rfl) ?_; simp only [Act.put, List.setIfInBounds_toArray, List.set_cons_zero, List.set_cons_succ]))
  refine seq_nil ?_
  go_wp2_with fail
  go_upto_region 4 with fail
  go_cut [5, 6] (fun v5 v6 wx => v5 = .pointer (some ⟨W.heap.size, 0, none⟩) ∧ v6 = .slice pA st.length pc ∧ Hid (Below W.heap.size W wx) ∧ Hid (wx.heap[W.heap.size]? = some (.cells #[.int .i64 s.kind, .int .i64 s.p, .int .i64 s.q] 23 (0, 0))))
  case first =>
    refine wp_region_seq (Below W.heap.size W) (.take 0 <| .take 1 <| .take 2 <| .take 3 <| .take 4 <| .take 5 <| .take 6 <| .take 7 <| .take 8 <| .take 9 <| .take 10 <| .take 11 <| .take 12 <| .take 13 <| .take 14 <| .take 15 <| .run 16 <| .run 17 <| .take 18 <| .done) (by kernel_rfl) (by kernel_rfl) (by kernel_rfl) (by (repeat' (first | with_reducible assumption | with_reducible exact Below.refl _ _ | with_reducible refine Below.drew ?_ | with_reducible refine below_drewN ?_ _ | with_reducible refine Below.alloc ?_ ?_ _ | with_reducible refine Below.setCell ?_ ?_ _ | omega | (simp; done) | (simp; omega)))) ?_
    repeat (first | (refine seq_take (v := ?_) rfl (by rfl) ?_ ?_; rotate_left; (focus (intro wS hS; have z1 := (hS.cell (p := ⟨b, 1, none⟩) bz).trans a1; have z2 := (hS.cell (p := ⟨b, 2, none⟩) bz).trans a2; have y1 := (hS.cell (p := ⟨w.heap.size, 1, none⟩) cz).trans c1; have k0 := (hS.cell (p := ⟨gr, o, none⟩) gz).trans r0; have k1 := (hS.cell (p := ⟨gs, os + o * 3, none⟩) sz).trans x0; have k2 := (hS.cell (p := ⟨gs, os + o * 3 + 1, none⟩) sz).trans x1; have k3 := (hS.cell (p := ⟨gs, os + o * 3 + 2, none⟩) sz).trans x2; go_simp; exact rfl)); simp only [Act.put, List.setIfInBounds_toArray, List.set_cons_zero, List.set_cons_succ]))
    refine seq_run rfl (by rfl) (fun K hK => ?_)
    go_simp
    refine hK _ _ (by (repeat' (first | with_reducible assumption | with_reducible exact Below.refl _ _ | with_reducible refine Below.drew ?_ | with_reducible refine below_drewN ?_ _ | with_reducible refine Below.alloc ?_ ?_ _ | with_reducible refine Below.setCell ?_ ?_ _ | omega | (simp; done) | (simp; omega)))) ?_
    clear hK K
    refine seq_run rfl (by rfl) (fun K hK => ?_)
    go_simp
    refine hK _ _ (by (repeat' (first | with_reducible assumption | with_reducible exact Below.refl _ _ | with_reducible refine Below.drew ?_ | with_reducible refine below_drewN ?_ _ | with_reducible refine Below.alloc ?_ ?_ _ | with_reducible refine Below.setCell ?_ ?_ _ | omega | (simp; done) | (simp; omega)))) ?_
    clear hK K
    repeat (first | (refine seq_take (v := ?_) rfl (by rfl) ?_ ?_; rotate_left; (focus (intro wS hS; have z1 := (hS.cell (p := ⟨b, 1, none⟩) bz).trans a1; have z2 := (hS.cell (p := ⟨b, 2, none⟩) bz).trans a2; have y1 := (hS.cell (p := ⟨w.heap.size, 1, none⟩) cz).trans c1; have k0 := (hS.cell (p := ⟨gr, o, none⟩) gz).trans r0; have k1 := (hS.cell (p := ⟨gs, os + o * 3, none⟩) sz).trans x0; have k2 := (hS.cell (p := ⟨gs, os + o * 3 + 1, none⟩) sz).trans x1; have k3 := (hS.cell (p := ⟨gs, os + o * 3 + 2, none⟩) sz).trans x2; go_simp; exact rfl)); simp only [Act.put, List.setIfInBounds_toArray, List.set_cons_zero, List.set_cons_succ]))
    refine seq_nil ?_
    go_wp2
    go_meet
    exact ⟨rfl, rfl, hide (by (repeat' (first | with_reducible assumption | with_reducible exact Below.refl _ _ | with_reducible refine Below.drew ?_ | with_reducible refine below_drewN ?_ _ | with_reducible refine Below.alloc ?_ ?_ _ | with_reducible refine Below.setCell ?_ ?_ _ | omega | (simp; done) | (simp; omega)))), hide (heap_alloc_new _ _)⟩
  case rest =>
    obtain ⟨rfl, rfl, HBX, HSX⟩ := hcut
    obtain ⟨X, rfl⟩ : ∃ X, X = wc := ⟨_, rfl⟩
    have hzx := HBX.out.size
    replace a0 := (HBX.out.cell (p := ⟨b, 0, none⟩) bz).trans a0
    replace a2 := (HBX.out.cell (p := ⟨b, 2, none⟩) bz).trans a2
    replace a3 := (HBX.out.cell (p := ⟨b, 3, none⟩) bz).trans ((HBW.out.cell (p := ⟨b, 3, none⟩) HBB.out.1).trans a3)
    replace r0 := (HBX.out.cell (p := ⟨gr, o, none⟩) gz).trans r0
    have HCX := hide ((HBX.out.block _ cz).trans HCW.out)
    have HRX := hide ((HBX.out.block _ (by omega)).trans HRW.out)
    clear c0 c1 c2 c3 c4 c5 x0 x1 x2 a1
    obtain ⟨c0, c1, c2, c3, c4, c5, cz'⟩ := cells6 HCX.out
    obtain ⟨s0, s1, s2, _, _, _, xz⟩ := cells3 HSX.out
    rw [HCO.out] at c1
    replace bz : b < X.heap.size := by omega
    replace gz : gr < X.heap.size := by omega
    replace cz := cz'
    clear cz'
    have HBWX : Hid (Below w.heap.size w X) := hide (HBW.out.trans (HBX.out.mono (by omega)))
    go_wp2_with fail
    go_upto_region 5 with fail
    go_cut [7, 8] (fun v7 v8 wx => ∃ A5 A5c A6 c6 d, v7 = .slice A5 R1.length A5c ∧ v8 = .pointer (some ⟨d, 0, none⟩) ∧ Hid (WOwn wx X.heap.size (.slice A5 R1.length A5c) R1.length R1) ∧ Hid (WOwn wx X.heap.size (.slice A6 R3.length c6) R3.length R3) ∧ X.heap.size ≤ d ∧ Hid (wx.heap[d]? = some (.cells #[.int .i64 E, .int .u64 V, .slice A6 R3.length c6] 57 (0, 0))) ∧ Hid (Below X.heap.size X wx))
    case first =>
      refine wp_region_seq (Below X.heap.size X) (.take 0 <| .take 1 <| .take 2 <| .take 3 <| .take 4 <| .take 5 <| .take 6 <| .fork 7 (.take 8 <| .take 9 <| .take 10 <| .run 11 <| .take 12 <| .run 13 <| .done) 11 (.run 7 <| .take 8 <| .take 9 <| .take 10 <| .take 12 <| .run 13 <| .done)) (by kernel_rfl) (by kernel_rfl) (by kernel_rfl) (by (repeat' (first | with_reducible assumption | with_reducible exact Below.refl _ _ | with_reducible refine Below.drew ?_ | with_reducible refine below_drewN ?_ _ | with_reducible refine Below.alloc ?_ ?_ _ | with_reducible refine Below.setCell ?_ ?_ _ | omega | (simp; done) | (simp; omega)))) ?_
      repeat (refine seq_take (v := ?_) rfl (by rfl) ?_ ?_; rotate_left; (focus (intro wS hS; have z0 := (hS.cell (p := ⟨b, 0, none⟩) bz).trans a0; have y0 := (hS.cell (p := ⟨w.heap.size, 0, none⟩) cz).trans c0; have y1 := (hS.cell (p := ⟨w.heap.size, 1, none⟩) cz).trans c1; have y2 := (hS.cell (p := ⟨w.heap.size, 2, none⟩) cz).trans c2; have y3 := (hS.cell (p := ⟨w.heap.size, 3, none⟩) cz).trans c3; have y4 := (hS.cell (p := ⟨w.heap.size, 4, none⟩) cz).trans c4; have y5 := (hS.cell (p := ⟨w.heap.size, 5, none⟩) cz).trans c5; have k1 := (hS.cell (p := ⟨W.heap.size, 0, none⟩) xz).trans s0; have k2 := (hS.cell (p := ⟨W.heap.size, 1, none⟩) xz).trans s1; have k3 := (hS.cell (p := ⟨W.heap.size, 2, none⟩) xz).trans s2; go_simp; exact rfl)); simp only [Act.put, List.setIfInBounds_toArray, List.set_cons_zero, List.set_cons_succ])
      refine seq_fork ?_ ?_
      · refine seq_run rfl (by rfl) (fun K hK => ?_)
        go_simp
        (with_reducible refine (HN1.out _ ?_).mono ?_)
        · exact HSL.out.below (by have hq := HBWX.out; (repeat' (first | with_reducible assumption | with_reducible exact Below.refl _ _ | with_reducible refine Below.drew ?_ | with_reducible refine below_drewN ?_ _ | with_reducible refine Below.alloc ?_ ?_ _ | with_reducible refine Below.setCell ?_ ?_ _ | omega | (simp; done) | (simp; omega)))) (Nat.le_refl _)
        rintro e w3 ⟨v5, L5, rfl, hO5, hL5, hb3⟩
        obtain ⟨A5, c5', rfl⟩ := own_slice hO5
        obtain ⟨A6, c6, rfl⟩ := own_slice hL5
        have hB3 : Below X.heap.size X w3 := Below.trans (by (repeat' (first | with_reducible assumption | with_reducible exact Below.refl _ _ | with_reducible refine Below.drew ?_ | with_reducible refine below_drewN ?_ _ | with_reducible refine Below.alloc ?_ ?_ _ | with_reducible refine Below.setCell ?_ ?_ _ | omega | (simp; done) | (simp; omega)))) (hb3.mono (by simp))
        have hz3 := hB3.size
        refine hK _ _ hB3 ?_
        clear hK K
        repeat (refine seq_take (v := ?_) rfl (by rfl) ?_ ?_; rotate_left; (focus (intro wS hS; have z0 := (hS.cell (p := ⟨b, 0, none⟩) bz).trans a0; have y0 := (hS.cell (p := ⟨w.heap.size, 0, none⟩) cz).trans c0; have y1 := (hS.cell (p := ⟨w.heap.size, 1, none⟩) cz).trans c1; have y2 := (hS.cell (p := ⟨w.heap.size, 2, none⟩) cz).trans c2; have y3 := (hS.cell (p := ⟨w.heap.size, 3, none⟩) cz).trans c3; have y4 := (hS.cell (p := ⟨w.heap.size, 4, none⟩) cz).trans c4; have y5 := (hS.cell (p := ⟨w.heap.size, 5, none⟩) cz).trans c5; have k1 := (hS.cell (p := ⟨W.heap.size, 0, none⟩) xz).trans s0; have k2 := (hS.cell (p := ⟨W.heap.size, 1, none⟩) xz).trans s1; have k3 := (hS.cell (p := ⟨W.heap.size, 2, none⟩) xz).trans s2; go_simp; exact rfl)); simp only [Act.put, List.setIfInBounds_toArray, List.set_cons_zero, List.set_cons_succ])
        refine seq_run rfl (by rfl) (fun K hK => ?_)
        go_simp
        refine hK _ _ (by (repeat' (first | with_reducible assumption | with_reducible exact Below.refl _ _ | with_reducible refine Below.drew ?_ | with_reducible refine below_drewN ?_ _ | with_reducible refine Below.alloc ?_ ?_ _ | with_reducible refine Below.setCell ?_ ?_ _ | omega | (simp; done) | (simp; omega)))) ?_
        clear hK K
        repeat (refine seq_take (v := ?_) rfl (by rfl) ?_ ?_; rotate_left; (focus (intro wS hS; have z0 := (hS.cell (p := ⟨b, 0, none⟩) bz).trans a0; have y0 := (hS.cell (p := ⟨w.heap.size, 0, none⟩) cz).trans c0; have y1 := (hS.cell (p := ⟨w.heap.size, 1, none⟩) cz).trans c1; have y2 := (hS.cell (p := ⟨w.heap.size, 2, none⟩) cz).trans c2; have y3 := (hS.cell (p := ⟨w.heap.size, 3, none⟩) cz).trans c3; have y4 := (hS.cell (p := ⟨w.heap.size, 4, none⟩) cz).trans c4; have y5 := (hS.cell (p := ⟨w.heap.size, 5, none⟩) cz).trans c5; have k1 := (hS.cell (p := ⟨W.heap.size, 0, none⟩) xz).trans s0; have k2 := (hS.cell (p := ⟨W.heap.size, 1, none⟩) xz).trans s1; have k3 := (hS.cell (p := ⟨W.heap.size, 2, none⟩) xz).trans s2; go_simp; exact rfl)); simp only [Act.put, List.setIfInBounds_toArray, List.set_cons_zero, List.set_cons_succ])
        refine seq_run rfl (by rfl) (fun K hK => ?_)
        go_simp
        refine hK _ _ (by (repeat' (first | with_reducible assumption | with_reducible exact Below.refl _ _ | with_reducible refine Below.drew ?_ | with_reducible refine below_drewN ?_ _ | with_reducible refine Below.alloc ?_ ?_ _ | with_reducible refine Below.setCell ?_ ?_ _ | omega | (simp; done) | (simp; omega)))) ?_
        clear hK K
        refine seq_nil ?_
        go_wp2
        go_meet
        exact ⟨A5, c5', A6, c6, w3.heap.size, rfl, rfl, hide (World.ownsRow.alloc (owns_base hO5 (by simp)) _), hide (World.ownsRow.alloc (owns_base hL5 (by simp)) _), hz3, hide (heap_alloc_new _ _), hide (by (repeat' (first | with_reducible assumption | with_reducible exact Below.refl _ _ | with_reducible refine Below.drew ?_ | with_reducible refine below_drewN ?_ _ | with_reducible refine Below.alloc ?_ ?_ _ | with_reducible refine Below.setCell ?_ ?_ _ | omega | (simp; done) | (simp; omega))))⟩
      · refine seq_run rfl (by rfl) (fun K hK => ?_)
        go_simp
        refine hK _ _ (by (repeat' (first | with_reducible assumption | with_reducible exact Below.refl _ _ | with_reducible refine Below.drew ?_ | with_reducible refine below_drewN ?_ _ | with_reducible refine Below.alloc ?_ ?_ _ | with_reducible refine Below.setCell ?_ ?_ _ | omega | (simp; done) | (simp; omega)))) ?_
        clear hK K
        refine seq_run rfl (by rfl) (fun K hK => ?_)
        go_simp
        (with_reducible refine (HN1.out _ ?_).mono ?_)
        · exact HSL.out.below (by have hq := HBWX.out; (repeat' (first | with_reducible assumption | with_reducible exact Below.refl _ _ | with_reducible refine Below.drew ?_ | with_reducible refine below_drewN ?_ _ | with_reducible refine Below.alloc ?_ ?_ _ | with_reducible refine Below.setCell ?_ ?_ _ | omega | (simp; done) | (simp; omega)))) (Nat.le_refl _)
        rintro e w3 ⟨v5, L5, rfl, hO5, hL5, hb3⟩
        obtain ⟨A5, c5', rfl⟩ := own_slice hO5
        obtain ⟨A6, c6, rfl⟩ := own_slice hL5
        have hB3 : Below X.heap.size X w3 := Below.trans (by (repeat' (first | with_reducible assumption | with_reducible exact Below.refl _ _ | with_reducible refine Below.drew ?_ | with_reducible refine below_drewN ?_ _ | with_reducible refine Below.alloc ?_ ?_ _ | with_reducible refine Below.setCell ?_ ?_ _ | omega | (simp; done) | (simp; omega)))) (hb3.mono (by simp))
        have hz3 := hb3.size
        simp at hz3
        have hD3 := (hb3.block X.heap.size (by simp)).trans (heap_alloc_new _ _)
        obtain ⟨_, _, _, e0, e1, e2, _⟩ := cells3 hD3
        have HD3 := hide hD3
        refine hK _ _ hB3 ?_
        clear hK K hD3
        repeat (refine seq_take (v := ?_) rfl (by rfl) ?_ ?_; rotate_left; (focus (intro wS hS; have z0 := (hS.cell (p := ⟨b, 0, none⟩) bz).trans a0; have y0 := (hS.cell (p := ⟨w.heap.size, 0, none⟩) cz).trans c0; have y1 := (hS.cell (p := ⟨w.heap.size, 1, none⟩) cz).trans c1; have y2 := (hS.cell (p := ⟨w.heap.size, 2, none⟩) cz).trans c2; have y3 := (hS.cell (p := ⟨w.heap.size, 3, none⟩) cz).trans c3; have y4 := (hS.cell (p := ⟨w.heap.size, 4, none⟩) cz).trans c4; have y5 := (hS.cell (p := ⟨w.heap.size, 5, none⟩) cz).trans c5; have k1 := (hS.cell (p := ⟨W.heap.size, 0, none⟩) xz).trans s0; have k2 := (hS.cell (p := ⟨W.heap.size, 1, none⟩) xz).trans s1; have k3 := (hS.cell (p := ⟨W.heap.size, 2, none⟩) xz).trans s2; go_simp; exact rfl)); simp only [Act.put, List.setIfInBounds_toArray, List.set_cons_zero, List.set_cons_succ])
        refine seq_run rfl (by rfl) (fun K hK => ?_)
        go_simp
        refine hK _ _ (by (repeat' (first | with_reducible assumption | with_reducible exact Below.refl _ _ | with_reducible refine Below.drew ?_ | with_reducible refine below_drewN ?_ _ | with_reducible refine Below.alloc ?_ ?_ _ | with_reducible refine Below.setCell ?_ ?_ _ | omega | (simp; done) | (simp; omega)))) ?_
        clear hK K
        refine seq_nil ?_
        go_wp2
        go_meet
        have t1 := HD3.out
        obtain ⟨_, t2⟩ := setT (j := 0) (u := .int .i64 E) t1
        obtain ⟨_, t3⟩ := setT (j := 1) (u := .int .u64 V) t2
        refine ⟨A5, c5', A6, c6, X.heap.size, rfl, rfl, hide (own_setT (own_setT (own_setT (owns_base hO5 (by simp)) t1 (by decide)) t2 (by decide)) t3 (by decide)), hide (own_setT (own_setT (own_setT (owns_base hL5 (by simp)) t1 (by decide)) t2 (by decide)) t3 (by decide)), Nat.le_refl _, hide ?_, hide (by (repeat' (first | with_reducible assumption | with_reducible exact Below.refl _ _ | with_reducible refine Below.drew ?_ | with_reducible refine below_drewN ?_ _ | with_reducible refine Below.alloc ?_ ?_ _ | with_reducible refine Below.setCell ?_ ?_ _ | omega | (simp; done) | (simp; omega))))⟩
        rw [cells_set (cells_set (cells_set HD3.out))]
        rfl
    case rest =>
      obtain ⟨wz, rfl⟩ : ∃ wz, wz = wc := ⟨_, rfl⟩
      obtain ⟨A5, A5c, A6, c6, d, rfl, rfl, HO1, HO3, hd, HD, HBY⟩ := hcut
      have hzy := HBY.out.size
      have hxw := HBWX.out.size
      have HK0 : Hid (Keep (fun j => j < w.heap.size) w wz) := hide (Keep.of_below (HBWX.out.trans (HBY.out.mono (by omega))) (fun _ h => h))
      have HKZ : Hid (Keep (fun j => j < w.heap.size ∧ j ≠ mb) w wz) := hide (HK0.out.mono (fun k h => h.1))
      have HCZ := hide ((HBY.out.block _ cz).trans HCX.out)
      have HRB := hide ((HBY.out.block _ (by omega)).trans HRX.out)
      have HSZ : Hid (SoAt wz b n (.slice (some ⟨gs, os, none⟩) specs.length cs) (.slice (some ⟨gr, 0, none⟩) ps.length rcap) mb) := hide ((HK0.out.block _ HBB.out.1).trans HSO.out)
      have HTZ := hide (ob_below HST.out (HK0.out.below (fun _ h => h)))
      have HMZ := hide (HM.out.of_block (HK0.out.block _ HBB.out.2.2))
      have HSLZ := hide (HSL.out.below (HK0.out.below (fun _ h => h)) (Nat.le_refl _))
      have HSPZ := hide (HSP.out.below (HK0.out.below (fun _ h => h)) (Nat.le_refl _))
      replace s0 := (HBY.out.cell (p := ⟨W.heap.size, 0, none⟩) xz).trans s0
      replace s1 := (HBY.out.cell (p := ⟨W.heap.size, 1, none⟩) xz).trans s1
      replace s2 := (HBY.out.cell (p := ⟨W.heap.size, 2, none⟩) xz).trans s2
      replace r0 := (HBY.out.cell (p := ⟨gr, o, none⟩) gz).trans r0
      replace a2 := (HBY.out.cell (p := ⟨b, 2, none⟩) bz).trans a2
      replace a3 := (HBY.out.cell (p := ⟨b, 3, none⟩) bz).trans a3
      clear c0 c1 c2 c3 c4 c5 a0
      obtain ⟨c0, c1, c2, c3, c4, c5, cz'⟩ := cells6 HCZ.out
      rw [HCO.out] at c1
      obtain ⟨d0', d1', d2', _, _, _, dz⟩ := cells3 HD.out
      obtain ⟨p0, p1, p2, pf0, pf1, pf2, pz⟩ := cells3 HRB.out
      have fr := World.ownsRow.frozenAt HTZ.out.1 o
      have hd1 : d ≠ w.heap.size + 1 := by omega
      have hd2 : d ≠ gr := by omega
      have hg1 : gr ≠ w.heap.size + 1 := by have := HBB.out; omega
      have hd3 : ¬ gr = d := by omega
      replace bz : b < wz.heap.size := by omega
      replace gz : gr < wz.heap.size := by omega
      replace xz : W.heap.size < wz.heap.size := by omega
      replace cz := cz'
      clear cz'
      replace HO1 := hide (owns_base (base' := w.heap.size) HO1.out (by omega))
      replace HO3 := hide (owns_base (base' := w.heap.size) HO3.out (by omega))
      have HBM : Hid (b ≠ mb ∧ gr ≠ mb) := hide (by
        obtain ⟨es, cl, h, _⟩ := HMZ.out
        refine ⟨fun e => ?_, fun e => ?_⟩
        · have h1 := HSZ.out
          unfold SoAt at h1
          rw [e, h] at h1
          cases h1
        · exact own_ne_map HTZ.out.1 h (by rw [← e]; rfl))
      have hres := HRES.out
      by_cases h8 : s.kind = 8 ∧ E = 0
      · obtain ⟨h8, hE0⟩ := h8
        have e8 : (s.kind == 8) = true := by simpa using h8
        have eE : (E == 0) = true := by simpa using hE0
        by_cases hk0 : c.kind = 0
        · have ek0 : (c.kind == 0) = true := by simpa using hk0
          have ek1 : (c.kind == 1) = false := by simp; omega
          have NF := HFULL.out wz HSZ.out HTZ.out HSPZ.out HMZ.out (HEV.out h8)
          by_cases hF : s.p ≤ (ownN st c.thread : Nat) + (if t = c.thread then 1 else 0)
          · rw [if_pos ⟨h8, hE0, hk0, hF⟩] at hres
            rw [decide_eq_true hF] at NF
            subst hres
            have HNF := hide NF
            clear NF hF HRES h8 hE0 hk0
            go_wp2_with fail
            (with_reducible refine HNF.out.mono ?_)
            rintro e w7 ⟨rfl, hb7⟩
            have HB7 := hide hb7
            obtain ⟨p0, p1, p2, pf0, pf1, pf2, pz⟩ := cells3 ((hb7.block _ pz).trans HRB.out)
            clear hb7
            go_wp2
            refine bodyPost_ret (v := .agg #[.int .i64 6, .int .u64 0, .slice none 0 0]) (by simp [results, Tryz.results46, go_sem, *]) rfl ?_
            have hk7 : Keep (fun j => j < w.heap.size) w w7 := HK0.out.trans (Keep.of_below HB7.out (fun k h => by omega))
            refine doPost_keep HSO.out HST.out HM.out (hk7.trans ?_) (slw_none _) (tw_none _ _ _)
            (repeat' (first | with_reducible assumption | with_reducible exact Keep.refl _ _ | with_reducible refine Keep.drew ?_ | with_reducible refine Keep.drewN ?_ _ | with_reducible refine Keep.setCell ?_ ?_ _ | with_reducible refine Keep.alloc ?_ ?_ _ | (intro k hk; omega) | (intro k hk; simp at hk ⊢; omega) | omega | (simp; done) | (simp; omega)))
          · rw [if_neg (fun h => hF h.2.2.2), if_neg (fun h => by omega)] at hres
            rw [decide_eq_false hF] at NF
            subst hres
            have HNF := hide NF
            clear NF hF HRES h8 hE0 hk0
            go_wp2_with fail
            (with_reducible refine HNF.out.mono ?_)
            rintro e wn ⟨rfl, hb7⟩
            have hkm : Keep (fun j => j < wz.heap.size ∧ j ≠ mb) wz wn := Keep.of_below hb7 (fun k h => h.1)
            have hMn := HMZ.out.below hb7 HMZ.out.lt
            clear hb7
            have hmm0 := HMZ.out.lt
            replace HKZ := hide (HKZ.out.trans (hkm.mono (fun k h => ⟨by have := h.1; omega, h.2⟩)))
            replace HRB := hide ((hkm.block _ ⟨pz, by have := HBB.out; omega⟩).trans HRB.out)
            replace HSZ : Hid (SoAt wn b n (.slice (some ⟨gs, os, none⟩) specs.length cs) (.slice (some ⟨gr, 0, none⟩) ps.length rcap) mb) := hide ((hkm.block _ ⟨bz, HBM.out.1⟩).trans HSZ.out)
            replace HTZ := hide (ob_keep HTZ.out hkm (fun j cs t fr hj ht => ⟨(Array.getElem?_eq_some_iff.1 hj).1, fun e => by obtain ⟨es, cl, h, _⟩ := HMZ.out; rw [e, h] at hj; cases hj⟩))
            replace HO1 := hide (owns_keepB HO1.out hkm (fun j hj hlt => ⟨hlt, by have := HBB.out; omega⟩))
            replace HO3 := hide (owns_keepB HO3.out hkm (fun j hj hlt => ⟨hlt, by have := HBB.out; omega⟩))
            replace a2 := (hkm.cell (p := ⟨b, 2, none⟩) ⟨bz, HBM.out.1⟩).trans a2
            replace c1 := (hkm.cell (p := ⟨w.heap.size, 1, none⟩) ⟨cz, by have := HBB.out; show w.heap.size ≠ mb; omega⟩).trans c1
            replace c2 := (hkm.cell (p := ⟨w.heap.size, 2, none⟩) ⟨cz, by have := HBB.out; show w.heap.size ≠ mb; omega⟩).trans c2
            replace r0 := (hkm.cell (p := ⟨gr, o, none⟩) ⟨gz, HBM.out.2⟩).trans r0
            replace d0' := (hkm.cell (p := ⟨d, 0, none⟩) ⟨dz, by have := HBB.out; show d ≠ mb; omega⟩).trans d0'
            replace d1' := (hkm.cell (p := ⟨d, 1, none⟩) ⟨dz, by have := HBB.out; show d ≠ mb; omega⟩).trans d1'
            replace d2' := (hkm.cell (p := ⟨d, 2, none⟩) ⟨dz, by have := HBB.out; show d ≠ mb; omega⟩).trans d2'
            clear p0 p1 p2 pf0 pf1 pf2 pz fr c0 c3 c4 c5 s0 s1 s2 a3 xz
            obtain ⟨p0, p1, p2, pf0, pf1, pf2, pz⟩ := cells3 HRB.out
            have fr := World.ownsRow.frozenAt HTZ.out.1 o
            have hzn := hkm.size
            replace bz : b < wn.heap.size := by omega
            replace gz : gr < wn.heap.size := by omega
            replace cz : w.heap.size < wn.heap.size := by omega
            replace dz : d < wn.heap.size := by omega
            replace HMZ := hide hMn
            clear hkm hMn
            clear HNF
            go_wp2_with fail
            refine wp_region_seql (Below wn.heap.size wn) [8] (.take 0 <| .take 1 <| .take 2 <| .take 3 <| .take 4 <| .take 5 <| .take 6 <| .take 7 <| .run 8 <| .done) (by kernel_rfl) (by kernel_rfl) (by kernel_rfl) (by (repeat' (first | with_reducible assumption | with_reducible exact Below.refl _ _ | with_reducible refine Below.drew ?_ | with_reducible refine below_drewN ?_ _ | with_reducible refine Below.alloc ?_ ?_ _ | with_reducible refine Below.setCell ?_ ?_ _ | omega | (simp; done) | (simp; omega)))) ?_
            repeat (refine seql_take (v := ?_) rfl (by rfl) ?_ ?_; rotate_left; (focus (intro wS hS; have z2 := (hS.cell (p := ⟨b, 2, none⟩) bz).trans a2; have y1 := (hS.cell (p := ⟨w.heap.size, 1, none⟩) cz).trans c1; go_simp; exact rfl)); simp only [Act.put, List.setIfInBounds_toArray, List.set_cons_zero, List.set_cons_succ])
            refine seql_late rfl rfl (by rfl) (fun K hK => ?_)
            go_simp
            refine hK _ _ ?_
            clear hK K
            refine seql_nil ?_
            go_wp2
            refine bodyPost_ret (v := .agg #[.int .i64 E, .int .u64 V, .slice A6 R3.length c6]) (by simp [results, Tryz.results46, go_sem, *]) rfl ?_
            refine doPost_set (o := o) HSZ.out HTZ.out HMZ.out HKZ.out HO1.out HO3.out HRB.out (by omega) ?_
            (repeat' (first | with_reducible assumption | with_reducible exact Keep.refl _ _ | with_reducible refine Keep.drew ?_ | with_reducible refine Keep.drewN ?_ _ | with_reducible refine Keep.setCell ?_ ?_ _ | with_reducible refine Keep.alloc ?_ ?_ _ | (intro k hk; omega) | (intro k hk; simp at hk ⊢; omega) | omega | (simp; done) | (simp; omega)))
        · have ek0 : (c.kind == 0) = false := by simpa using hk0
          by_cases hk1 : c.kind = 1
          · have ek1 : (c.kind == 1) = true := by simpa using hk1
            rw [if_neg (fun h => hk0 h.2.2.1), if_pos ⟨h8, hE0, hk1⟩] at hres
            obtain ⟨y, hy⟩ := HRNE.out h8 hE0 hk1
            have hyu := HU.out y (List.mem_of_getElem? hy)
            have hat : at0 st 0 = y := by unfold at0; rw [hy]; rfl
            rw [hat] at hres
            subst hres
            obtain ⟨xb, xo, rfl, xc, xbz⟩ := sl_at HSLZ.out 0 y hy
            simp only [Nat.add_zero] at xc
            have hstn : 0 < st.length := (List.getElem?_eq_some_iff.1 hy).1
            have hstl : (0 : Int) < (st.length : Int) := by have := (List.getElem?_eq_some_iff.1 hy).1; omega
            have HYU := hide hyu
            clear HRES h8 hE0 hk0 hk1 hy hat hyu
            go_wp2_with fail
            refine wp_region_seql (Below wz.heap.size wz) [10] (.take 0 <| .take 1 <| .take 2 <| .take 3 <| .take 4 <| .take 5 <| .take 6 <| .take 7 <| .take 8 <| .take 9 <| .run 10 <| .done) (by kernel_rfl) (by kernel_rfl) (by kernel_rfl) (by (repeat' (first | with_reducible assumption | with_reducible exact Below.refl _ _ | with_reducible refine Below.drew ?_ | with_reducible refine below_drewN ?_ _ | with_reducible refine Below.alloc ?_ ?_ _ | with_reducible refine Below.setCell ?_ ?_ _ | omega | (simp; done) | (simp; omega)))) ?_
            repeat (refine seql_take (v := ?_) rfl (by rfl) ?_ ?_; rotate_left; (focus (intro wS hS; have z3 := (hS.cell (p := ⟨b, 3, none⟩) bz).trans a3; have y1 := (hS.cell (p := ⟨w.heap.size, 1, none⟩) cz).trans c1; have k2 := (hS.cell (p := ⟨xb, xo, none⟩) xbz).trans xc; go_simp; exact rfl)); simp only [Act.put, List.setIfInBounds_toArray, List.set_cons_zero, List.set_cons_succ])
            refine seql_late rfl rfl (by rfl) (fun K hK => ?_)
            refine wp_upd_imap _ _ _ 94 rfl 3 151 .i64 Tryz.underlying94 Tryz.underlying3 mb (lastMap last) rfl HMZ.out (o : Int) (.agg #[.bool true, .int .u64 y]) rfl rfl ?_
            intro wn hMn hgn hsn
            have hkm : Keep (fun j => j < wz.heap.size ∧ j ≠ mb) wz wn := ⟨hgn.os, hgn.tape, hgn.output, hgn.size, fun k hk => hgn.block k hk.1 (fun e => hk.2 (by have := Option.some.inj e; exact this))⟩
            rw [lastMap_set HLO.out (by have := HYU.out.1; omega)] at hMn
            refine hK _ _ ?_
            clear hK K hgn hsn
            refine seql_nil ?_
            have hmm0 := HMZ.out.lt
            replace HKZ := hide (HKZ.out.trans (hkm.mono (fun k h => ⟨by have := h.1; omega, h.2⟩)))
            replace HRB := hide ((hkm.block _ ⟨pz, by have := HBB.out; omega⟩).trans HRB.out)
            replace HSZ : Hid (SoAt wn b n (.slice (some ⟨gs, os, none⟩) specs.length cs) (.slice (some ⟨gr, 0, none⟩) ps.length rcap) mb) := hide ((hkm.block _ ⟨bz, HBM.out.1⟩).trans HSZ.out)
            replace HTZ := hide (ob_keep HTZ.out hkm (fun j cs t fr hj ht => ⟨(Array.getElem?_eq_some_iff.1 hj).1, fun e => by obtain ⟨es, cl, h, _⟩ := HMZ.out; rw [e, h] at hj; cases hj⟩))
            replace HO1 := hide (owns_keepB HO1.out hkm (fun j hj hlt => ⟨hlt, by have := HBB.out; omega⟩))
            replace HO3 := hide (owns_keepB HO3.out hkm (fun j hj hlt => ⟨hlt, by have := HBB.out; omega⟩))
            replace a2 := (hkm.cell (p := ⟨b, 2, none⟩) ⟨bz, HBM.out.1⟩).trans a2
            replace c1 := (hkm.cell (p := ⟨w.heap.size, 1, none⟩) ⟨cz, by have := HBB.out; show w.heap.size ≠ mb; omega⟩).trans c1
            replace c2 := (hkm.cell (p := ⟨w.heap.size, 2, none⟩) ⟨cz, by have := HBB.out; show w.heap.size ≠ mb; omega⟩).trans c2
            replace r0 := (hkm.cell (p := ⟨gr, o, none⟩) ⟨gz, HBM.out.2⟩).trans r0
            replace d0' := (hkm.cell (p := ⟨d, 0, none⟩) ⟨dz, by have := HBB.out; show d ≠ mb; omega⟩).trans d0'
            replace d1' := (hkm.cell (p := ⟨d, 1, none⟩) ⟨dz, by have := HBB.out; show d ≠ mb; omega⟩).trans d1'
            replace d2' := (hkm.cell (p := ⟨d, 2, none⟩) ⟨dz, by have := HBB.out; show d ≠ mb; omega⟩).trans d2'
            clear p0 p1 p2 pf0 pf1 pf2 pz fr c0 c3 c4 c5 s0 s1 s2 a3 xz
            obtain ⟨p0, p1, p2, pf0, pf1, pf2, pz⟩ := cells3 HRB.out
            have fr := World.ownsRow.frozenAt HTZ.out.1 o
            have hzn := hkm.size
            replace bz : b < wn.heap.size := by omega
            replace gz : gr < wn.heap.size := by omega
            replace cz : w.heap.size < wn.heap.size := by omega
            replace dz : d < wn.heap.size := by omega
            replace HMZ := hide hMn
            clear hkm hMn
            go_wp2_with fail
            refine wp_region_seql (Below wn.heap.size wn) [8] (.take 0 <| .take 1 <| .take 2 <| .take 3 <| .take 4 <| .take 5 <| .take 6 <| .take 7 <| .run 8 <| .done) (by kernel_rfl) (by kernel_rfl) (by kernel_rfl) (by (repeat' (first | with_reducible assumption | with_reducible exact Below.refl _ _ | with_reducible refine Below.drew ?_ | with_reducible refine below_drewN ?_ _ | with_reducible refine Below.alloc ?_ ?_ _ | with_reducible refine Below.setCell ?_ ?_ _ | omega | (simp; done) | (simp; omega)))) ?_
            repeat (refine seql_take (v := ?_) rfl (by rfl) ?_ ?_; rotate_left; (focus (intro wS hS; have z2 := (hS.cell (p := ⟨b, 2, none⟩) bz).trans a2; have y1 := (hS.cell (p := ⟨w.heap.size, 1, none⟩) cz).trans c1; go_simp; exact rfl)); simp only [Act.put, List.setIfInBounds_toArray, List.set_cons_zero, List.set_cons_succ])
            refine seql_late rfl rfl (by rfl) (fun K hK => ?_)
            go_simp
            refine hK _ _ ?_
            clear hK K
            refine seql_nil ?_
            go_wp2
            refine bodyPost_ret (v := .agg #[.int .i64 E, .int .u64 V, .slice A6 R3.length c6]) (by simp [results, Tryz.results46, go_sem, *]) rfl ?_
            refine doPost_set (o := o) HSZ.out HTZ.out HMZ.out HKZ.out HO1.out HO3.out HRB.out (by omega) ?_
            (repeat' (first | with_reducible assumption | with_reducible exact Keep.refl _ _ | with_reducible refine Keep.drew ?_ | with_reducible refine Keep.drewN ?_ _ | with_reducible refine Keep.setCell ?_ ?_ _ | with_reducible refine Keep.alloc ?_ ?_ _ | (intro k hk; omega) | (intro k hk; simp at hk ⊢; omega) | omega | (simp; done) | (simp; omega)))
          · have ek1 : (c.kind == 1) = false := by simpa using hk1
            rw [if_neg (fun h => hk0 h.2.2.1), if_neg (fun h => hk1 h.2.2)] at hres
            subst hres
            clear HRES h8 hE0 hk0 hk1
            go_wp2_with fail
            refine wp_region_seql (Below wz.heap.size wz) [8] (.take 0 <| .take 1 <| .take 2 <| .take 3 <| .take 4 <| .take 5 <| .take 6 <| .take 7 <| .run 8 <| .done) (by kernel_rfl) (by kernel_rfl) (by kernel_rfl) (by (repeat' (first | with_reducible assumption | with_reducible exact Below.refl _ _ | with_reducible refine Below.drew ?_ | with_reducible refine below_drewN ?_ _ | with_reducible refine Below.alloc ?_ ?_ _ | with_reducible refine Below.setCell ?_ ?_ _ | omega | (simp; done) | (simp; omega)))) ?_
            repeat (refine seql_take (v := ?_) rfl (by rfl) ?_ ?_; rotate_left; (focus (intro wS hS; have z2 := (hS.cell (p := ⟨b, 2, none⟩) bz).trans a2; have y1 := (hS.cell (p := ⟨w.heap.size, 1, none⟩) cz).trans c1; go_simp; exact rfl)); simp only [Act.put, List.setIfInBounds_toArray, List.set_cons_zero, List.set_cons_succ])
            refine seql_late rfl rfl (by rfl) (fun K hK => ?_)
            go_simp
            refine hK _ _ ?_
            clear hK K
            refine seql_nil ?_
            go_wp2
            refine bodyPost_ret (v := .agg #[.int .i64 E, .int .u64 V, .slice A6 R3.length c6]) (by simp [results, Tryz.results46, go_sem, *]) rfl ?_
            refine doPost_set (o := o) HSZ.out HTZ.out HMZ.out HKZ.out HO1.out HO3.out HRB.out (by omega) ?_
            (repeat' (first | with_reducible assumption | with_reducible exact Keep.refl _ _ | with_reducible refine Keep.drew ?_ | with_reducible refine Keep.drewN ?_ _ | with_reducible refine Keep.setCell ?_ ?_ _ | with_reducible refine Keep.alloc ?_ ?_ _ | (intro k hk; omega) | (intro k hk; simp at hk ⊢; omega) | omega | (simp; done) | (simp; omega)))
      · rw [if_neg (fun h => h8 ⟨h.1, h.2.1⟩), if_neg (fun h => h8 ⟨h.1, h.2.1⟩)] at hres
        subst hres
        by_cases h8' : s.kind = 8
        · have e8 : (s.kind == 8) = true := by simpa using h8'
          have eE : (E == 0) = false := by simp; exact fun h => h8 ⟨h8', h⟩
          clear HRES h8 h8'
          go_wp2_with fail
          refine wp_region_seql (Below wz.heap.size wz) [8] (.take 0 <| .take 1 <| .take 2 <| .take 3 <| .take 4 <| .take 5 <| .take 6 <| .take 7 <| .run 8 <| .done) (by kernel_rfl) (by kernel_rfl) (by kernel_rfl) (by (repeat' (first | with_reducible assumption | with_reducible exact Below.refl _ _ | with_reducible refine Below.drew ?_ | with_reducible refine below_drewN ?_ _ | with_reducible refine Below.alloc ?_ ?_ _ | with_reducible refine Below.setCell ?_ ?_ _ | omega | (simp; done) | (simp; omega)))) ?_
          repeat (refine seql_take (v := ?_) rfl (by rfl) ?_ ?_; rotate_left; (focus (intro wS hS; have z2 := (hS.cell (p := ⟨b, 2, none⟩) bz).trans a2; have y1 := (hS.cell (p := ⟨w.heap.size, 1, none⟩) cz).trans c1; go_simp; exact rfl)); simp only [Act.put, List.setIfInBounds_toArray, List.set_cons_zero, List.set_cons_succ])
          refine seql_late rfl rfl (by rfl) (fun K hK => ?_)
          go_simp
          refine hK _ _ ?_
          clear hK K
          refine seql_nil ?_
          go_wp2
          refine bodyPost_ret (v := .agg #[.int .i64 E, .int .u64 V, .slice A6 R3.length c6]) (by simp [results, Tryz.results46, go_sem, *]) rfl ?_
          refine doPost_set (o := o) HSZ.out HTZ.out HMZ.out HKZ.out HO1.out HO3.out HRB.out (by omega) ?_
          (repeat' (first | with_reducible assumption | with_reducible exact Keep.refl _ _ | with_reducible refine Keep.drew ?_ | with_reducible refine Keep.drewN ?_ _ | with_reducible refine Keep.setCell ?_ ?_ _ | with_reducible refine Keep.alloc ?_ ?_ _ | (intro k hk; omega) | (intro k hk; simp at hk ⊢; omega) | omega | (simp; done) | (simp; omega)))
        · have e8 : (s.kind == 8) = false := by simpa using h8'
          clear HRES h8 h8'
          go_wp2_with fail
          refine wp_region_seql (Below wz.heap.size wz) [8] (.take 0 <| .take 1 <| .take 2 <| .take 3 <| .take 4 <| .take 5 <| .take 6 <| .take 7 <| .run 8 <| .done) (by kernel_rfl) (by kernel_rfl) (by kernel_rfl) (by (repeat' (first | with_reducible assumption | with_reducible exact Below.refl _ _ | with_reducible refine Below.drew ?_ | with_reducible refine below_drewN ?_ _ | with_reducible refine Below.alloc ?_ ?_ _ | with_reducible refine Below.setCell ?_ ?_ _ | omega | (simp; done) | (simp; omega)))) ?_
          repeat (refine seql_take (v := ?_) rfl (by rfl) ?_ ?_; rotate_left; (focus (intro wS hS; have z2 := (hS.cell (p := ⟨b, 2, none⟩) bz).trans a2; have y1 := (hS.cell (p := ⟨w.heap.size, 1, none⟩) cz).trans c1; go_simp; exact rfl)); simp only [Act.put, List.setIfInBounds_toArray, List.set_cons_zero, List.set_cons_succ])
          refine seql_late rfl rfl (by rfl) (fun K hK => ?_)
          go_simp
          refine hK _ _ ?_
          clear hK K
          refine seql_nil ?_
          go_wp2
          refine bodyPost_ret (v := .agg #[.int .i64 E, .int .u64 V, .slice A6 R3.length c6]) (by simp [results, Tryz.results46, go_sem, *]) rfl ?_
          refine doPost_set (o := o) HSZ.out HTZ.out HMZ.out HKZ.out HO1.out HO3.out HRB.out (by omega) ?_
          (repeat' (first | with_reducible assumption | with_reducible exact Keep.refl _ _ | with_reducible refine Keep.drew ?_ | with_reducible refine Keep.drewN ?_ _ | with_reducible refine Keep.setCell ?_ ?_ _ | with_reducible refine Keep.alloc ?_ ?_ _ | (intro k hk; omega) | (intro k hk; simp at hk ⊢; omega) | omega | (simp; done) | (simp; omega)))
end Go.Proofs.YtmiimpmfkjcjlaaGreat
