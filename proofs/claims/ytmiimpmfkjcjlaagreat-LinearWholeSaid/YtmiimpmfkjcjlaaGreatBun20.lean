import Derived.Test.YtmiimpmfkjcjlaaGreatBun19
import Derived.Test.YtmiimpmfkjcjlaaGreatBun11
import Derived.IntWalk
namespace Go.Proofs.YtmiimpmfkjcjlaaGreat
open Go.RowKit
attribute [local go_sem] run_store_fn run_store_nilfn
set_option maxRecDepth 100000 in
set_option maxHeartbeats 4000000 in
theorem mcons_any (n : Int) (s : Sp) (c : Cl) (b B : Nat) (v : Value) (x : Int) (w : World) (hT : ThAt w b n s v c) (hO : WOwn w B v 1 [x]) (hBw : B ≤ w.heap.size)
    (ha : U64 c.a) (hxu : U64 x) (hk0 : 0 ≤ c.kind) (hk1 : c.kind < 2) : Calls Tryz.prog 146 #[.pointer (some ⟨b, 0, none⟩)] w (ThPost n s c b B (consM [x] c) w) := by
  obtain ⟨a0, a1, a2, a3, a4, a5, a6, a7, a8, a9, a10, f4, hb⟩ := hT.cells
  have hsl : SlW w v [x] := wrow_sl hO (by simp [maxLen])
  obtain ⟨vA, vc, rfl⟩ := own_slice hO
  obtain ⟨sb, so, rfl, cx, hsb⟩ := sl_at hsl 0 x rfl
  simp only [Nat.add_zero] at cx
  have HT := hide hT
  have HO := hide hO
  have HSN : ∀ (W : World) (y : Int), ThAt W b n s (.slice (some ⟨sb, so, none⟩) 1 vc) c → WOwn W B (.slice (some ⟨sb, so, none⟩) 1 vc) 1 [x] → Calls Tryz.prog 195 #[.pointer (some ⟨b, 0, none⟩), .int .i64 0, .int .u64 y] W fun e w' =>
    ∃ u, e = .returned (.tuple #[]) ∧ ThAt w' b n s u c ∧ WOwn w' W.heap.size u 1 [y] ∧ Keep (fun j => j < W.heap.size ∧ j ≠ b) W w' := fun W y h1 h2 => set_any b B 0 y n s c (.slice (some ⟨sb, so, none⟩) 1 vc) [x] W h1 h2 (by simp) (by simp)
  have hTr : ThAt (resW w) b n s (.slice (some ⟨sb, so, none⟩) 1 vc) c := hT.of_block (heap_alloc_old w _ hb)
  have hOr : WOwn (resW w) B (.slice (some ⟨sb, so, none⟩) 1 vc) 1 [x] := World.ownsRow.alloc hO _
  have HTR := hide hTr
  have HOR := hide hOr
  have hat : at0 [x] 0 = x := rfl
  clear hT hO hsl hTr hOr
  obtain ⟨ha0, ha1⟩ := ha
  obtain ⟨hx0, hx1⟩ := hxu
  rcases (by omega : c.kind = 0 ∨ c.kind = 1) with hk | hk
  · rw [hk] at a7
    by_cases h0 : 4294967296 ≤ c.a
    · have hM : consM [x] c = ([x], ⟨10, 0, []⟩) := by unfold consM; rw [if_pos ⟨hk, h0⟩]; rfl
      rw [hM]
      have d0 : decide (4294967296 ≤ c.a) = true := by simpa using h0
      clear hM
      go_enter Tryz.func146, Tryz.ntmps146
      go_wp2_with fail
      refine (mno_any _ _).mono ?_
      rintro e w1 ⟨rfl, rfl⟩
      go_wp2
      refine bodyPost_ret (v := .agg #[.int .i64 10, .int .u64 0, .slice none 0 0]) (by simp [results, Tryz.results146, go_sem, *]) rfl ?_
      exact mpost_keep (st := [x]) hb HT.out HO.out rfl (by (repeat' (first | exact Below.refl _ _ | assumption | refine Below.drew ?_ | refine below_drewN ?_ _ | refine Below.alloc ?_ (by simp <;> omega) _ | refine Below.setCell ?_ (by simp <;> omega) _)))
    · have d0 : decide (4294967296 ≤ c.a) = false := by simpa using h0
      have ha2 : c.a < 4294967296 := by omega
      by_cases hx9 : x = 0
      · subst hx9
        have hM : consM [0] c = ([c.a + 1], ⟨0, c.a, []⟩) := by unfold consM; rw [if_neg (by omega), if_neg (by omega), hat, if_pos rfl]; rfl
        rw [hM]
        clear hM hat
        go_enter Tryz.func146, Tryz.ntmps146
        go_wp2_with fail
        refine (HSN _ (c.a + 1) HTR.out HOR.out).mono ?_
        rintro e w3 ⟨u, rfl, hT3, hO3, hk3⟩
        have hk3' : Keep (fun j => j < (resW w).heap.size ∧ j ≠ b) (resW w) w3 := by first | exact hk3 | exact (Keep.refl _ _).drew.trans hk3 | exact (Keep.refl _ _).drew.drew.trans hk3
        obtain ⟨r0, r1, r2, g0, g1, g2, rz⟩ := res_cells hk3' hb
        have HK3 := hide hk3'
        have HT3 := hide hT3
        have HO3 := hide hO3
        clear hk3 hk3'
        obtain ⟨uA, uc, rfl⟩ := own_slice hO3
        obtain ⟨ub, uo, rfl, cu, hub⟩ := sl_at (wrow_sl (l := [(c.a + 1)]) hO3 (by simp [maxLen])) 0 (c.a + 1) rfl
        simp only [Nat.add_zero] at cu
        obtain ⟨t0, t1, t2, t3, t4, t5, t6, t7, t8, t9, t10, _, tb⟩ := hT3.cells
        clear hT3 hO3
        go_wp2
        refine bodyPost_ret (v := .agg #[.int .i64 0, .int .u64 c.a, .slice none 0 0]) (by simp [results, Tryz.results146, go_sem, *]) rfl ?_
        exact mpost_set HT3.out HO3.out hBw hb rfl rfl HK3.out (by (repeat' (first | exact Keep.refl _ _ | refine Keep.setCell ?_ (by simp) _ | refine Keep.drew ?_)))
      · have d1 : (x == 0) = false := by simpa using hx9
        have hM : consM [x] c = ([x], ⟨0, x - 1, []⟩) := by unfold consM; rw [if_neg (by omega), if_neg (by omega), hat, if_neg hx9]; rfl
        rw [hM]
        have hx2 : 1 ≤ x := by omega
        clear hM hat hx9
        go_enter Tryz.func146, Tryz.ntmps146
        go_wp2
        refine bodyPost_ret (v := .agg #[.int .i64 0, .int .u64 (x - 1), .slice none 0 0]) (by simp [results, Tryz.results146, go_sem, *]) rfl ?_
        exact mpost_keep (st := [x]) hb HT.out HO.out rfl (by (repeat' (first | exact Below.refl _ _ | assumption | refine Below.drew ?_ | refine below_drewN ?_ _ | refine Below.alloc ?_ (by simp <;> omega) _ | refine Below.setCell ?_ (by simp <;> omega) _)))
  · rw [hk] at a7
    by_cases hx9 : x = 0
    · subst hx9
      have hM : consM [0] c = ([0], ⟨7, 0, []⟩) := by unfold consM; rw [if_neg (by omega), if_pos ⟨hk, hat⟩]; rfl
      rw [hM]
      clear hM hat
      go_enter Tryz.func146, Tryz.ntmps146
      go_wp2_with fail
      refine (mno_any _ _).mono ?_
      rintro e w1 ⟨rfl, rfl⟩
      go_wp2
      refine bodyPost_ret (v := .agg #[.int .i64 7, .int .u64 0, .slice none 0 0]) (by simp [results, Tryz.results146, go_sem, *]) rfl ?_
      exact mpost_keep (st := [0]) hb HT.out HO.out rfl (by (repeat' (first | exact Below.refl _ _ | assumption | refine Below.drew ?_ | refine below_drewN ?_ _ | refine Below.alloc ?_ (by simp <;> omega) _ | refine Below.setCell ?_ (by simp <;> omega) _)))
    · have d1 : (x == 0) = false := by simpa using hx9
      have hM : consM [x] c = ([x], ⟨0, x - 1, []⟩) := by unfold consM; rw [if_neg (by omega), if_neg (by rw [hat]; omega), hat, if_neg hx9]; rfl
      rw [hM]
      have hx2 : 1 ≤ x := by omega
      clear hM hat hx9
      go_enter Tryz.func146, Tryz.ntmps146
      go_wp2
      refine bodyPost_ret (v := .agg #[.int .i64 0, .int .u64 (x - 1), .slice none 0 0]) (by simp [results, Tryz.results146, go_sem, *]) rfl ?_
      exact mpost_keep (st := [x]) hb HT.out HO.out rfl (by (repeat' (first | exact Below.refl _ _ | assumption | refine Below.drew ?_ | refine below_drewN ?_ _ | refine Below.alloc ?_ (by simp <;> omega) _ | refine Below.setCell ?_ (by simp <;> omega) _)))
set_option maxRecDepth 100000 in
set_option maxHeartbeats 4000000 in
theorem mnum_any (n : Int) (s : Sp) (c : Cl) (b B : Nat) (v : Value) (x : Int) (w : World) (hT : ThAt w b n s v c) (hO : WOwn w B v 1 [x]) (hBw : B ≤ w.heap.size)
    (ha : U64 c.a) (hxu : U64 x) (hk0 : 0 ≤ c.kind) (hs : s.kind = 2 ∧ c.kind < 2 ∨ s.kind = 3 ∧ c.kind < 3) : Calls Tryz.prog 147 #[.pointer (some ⟨b, 0, none⟩)] w (ThPost n s c b B (numM s [x] c) w) := by
  obtain ⟨a0, a1, a2, a3, a4, a5, a6, a7, a8, a9, a10, f4, hb⟩ := hT.cells
  have hsl : SlW w v [x] := wrow_sl hO (by simp [maxLen])
  obtain ⟨vA, vc, rfl⟩ := own_slice hO
  obtain ⟨sb, so, rfl, cx, hsb⟩ := sl_at hsl 0 x rfl
  simp only [Nat.add_zero] at cx
  have HT := hide hT
  have HO := hide hO
  have HSN : ∀ (W : World) (y : Int), ThAt W b n s (.slice (some ⟨sb, so, none⟩) 1 vc) c → WOwn W B (.slice (some ⟨sb, so, none⟩) 1 vc) 1 [x] → Calls Tryz.prog 195 #[.pointer (some ⟨b, 0, none⟩), .int .i64 0, .int .u64 y] W fun e w' =>
    ∃ u, e = .returned (.tuple #[]) ∧ ThAt w' b n s u c ∧ WOwn w' W.heap.size u 1 [y] ∧ Keep (fun j => j < W.heap.size ∧ j ≠ b) W w' := fun W y h1 h2 => set_any b B 0 y n s c (.slice (some ⟨sb, so, none⟩) 1 vc) [x] W h1 h2 (by simp) (by simp)
  have hTr : ThAt (resW w) b n s (.slice (some ⟨sb, so, none⟩) 1 vc) c := hT.of_block (heap_alloc_old w _ hb)
  have hOr : WOwn (resW w) B (.slice (some ⟨sb, so, none⟩) 1 vc) 1 [x] := World.ownsRow.alloc hO _
  have HTR := hide hTr
  have HOR := hide hOr
  have hat : at0 [x] 0 = x := rfl
  clear hT hO hsl hTr hOr
  obtain ⟨ha0, ha1⟩ := ha
  obtain ⟨hx0, hx1⟩ := hxu
  by_cases hk : c.kind = 1
  · have hM : numM s [x] c = ([x], ⟨0, x, []⟩) := by unfold numM; rw [if_pos hk, hat]; rfl
    rw [hM]
    rw [hk] at a7
    clear hM hat
    rcases hs with ⟨hs, _⟩ | ⟨hs, _⟩
    all_goals
      rw [hs] at a1
      go_enter Tryz.func147, Tryz.ntmps147
      go_wp2
      refine bodyPost_ret (v := .agg #[.int .i64 0, .int .u64 x, .slice none 0 0]) (by simp [results, Tryz.results147, go_sem, *]) rfl ?_
      exact mpost_keep (st := [x]) hb HT.out HO.out rfl (by (repeat' (first | exact Below.refl _ _ | assumption | refine Below.drew ?_ | refine below_drewN ?_ _ | refine Below.alloc ?_ (by simp <;> omega) _ | refine Below.setCell ?_ (by simp <;> omega) _)))
  · rcases hs with ⟨hs, hc⟩ | ⟨hs, hc⟩
    · have hk9 : c.kind = 0 := by omega
      have hM : numM s [x] c = ([(x + 1) % 18446744073709551616], ⟨0, 0, []⟩) := by unfold numM; rw [if_neg hk, if_pos hs, hat]; rfl
      rw [hM]
      rw [hk9] at a7
      rw [hs] at a1
      clear hM hat hk
      go_enter Tryz.func147, Tryz.ntmps147
      go_wp2_with fail
      refine (HSN _ ((x + 1) % 18446744073709551616) HTR.out HOR.out).mono ?_
      rintro e w3 ⟨u, rfl, hT3, hO3, hk3⟩
      have hk3' : Keep (fun j => j < (resW w).heap.size ∧ j ≠ b) (resW w) w3 := by first | exact hk3 | exact (Keep.refl _ _).drew.trans hk3 | exact (Keep.refl _ _).drew.drew.trans hk3
      obtain ⟨r0, r1, r2, g0, g1, g2, rz⟩ := res_cells hk3' hb
      have HK3 := hide hk3'
      have HT3 := hide hT3
      have HO3 := hide hO3
      clear hk3 hk3'
      clear hT3 hO3
      go_wp2
      refine bodyPost_ret (v := .agg #[.int .i64 0, .int .u64 0, .slice none 0 0]) (by simp [results, Tryz.results147, go_sem, *]) rfl ?_
      exact mpost_set HT3.out HO3.out hBw hb rfl rfl HK3.out (by (repeat' (first | exact Keep.refl _ _ | refine Keep.setCell ?_ (by simp) _ | refine Keep.drew ?_)))
    · rcases (by omega : c.kind = 0 ∨ c.kind = 2) with hk9 | hk9
      · have hM : numM s [x] c = ([(x + c.a) % 18446744073709551616], ⟨0, x, []⟩) := by unfold numM; rw [if_neg hk, if_neg (by omega), if_neg (by omega), hat]; rfl
        rw [hM]
        rw [hk9] at a7
        rw [hs] at a1
        clear hM hat hk
        go_enter Tryz.func147, Tryz.ntmps147
        go_wp2_with fail
        refine (HSN _ ((x + c.a) % 18446744073709551616) HTR.out HOR.out).mono ?_
        rintro e w3 ⟨u, rfl, hT3, hO3, hk3⟩
        have hk3' : Keep (fun j => j < (resW w).heap.size ∧ j ≠ b) (resW w) w3 := by first | exact hk3 | exact (Keep.refl _ _).drew.trans hk3 | exact (Keep.refl _ _).drew.drew.trans hk3
        obtain ⟨r0, r1, r2, g0, g1, g2, rz⟩ := res_cells hk3' hb
        have HK3 := hide hk3'
        have HT3 := hide hT3
        have HO3 := hide hO3
        clear hk3 hk3'
        clear hT3 hO3
        go_wp2
        refine bodyPost_ret (v := .agg #[.int .i64 0, .int .u64 x, .slice none 0 0]) (by simp [results, Tryz.results147, go_sem, *]) rfl ?_
        exact mpost_set HT3.out HO3.out hBw hb rfl rfl HK3.out (by (repeat' (first | exact Keep.refl _ _ | refine Keep.setCell ?_ (by simp) _ | refine Keep.drew ?_)))
      · have hM : numM s [x] c = ([(x + 1) % 18446744073709551616], ⟨0, x, []⟩) := by unfold numM; rw [if_neg hk, if_neg (by omega), if_pos hk9, hat]; rfl
        rw [hM]
        rw [hk9] at a7
        rw [hs] at a1
        clear hM hat hk
        go_enter Tryz.func147, Tryz.ntmps147
        go_wp2_with fail
        refine (HSN _ ((x + 1) % 18446744073709551616) HTR.out HOR.out).mono ?_
        rintro e w3 ⟨u, rfl, hT3, hO3, hk3⟩
        have hk3' : Keep (fun j => j < (resW w).heap.size ∧ j ≠ b) (resW w) w3 := by first | exact hk3 | exact (Keep.refl _ _).drew.trans hk3 | exact (Keep.refl _ _).drew.drew.trans hk3
        obtain ⟨r0, r1, r2, g0, g1, g2, rz⟩ := res_cells hk3' hb
        have HK3 := hide hk3'
        have HT3 := hide hT3
        have HO3 := hide hO3
        clear hk3 hk3'
        clear hT3 hO3
        go_wp2
        refine bodyPost_ret (v := .agg #[.int .i64 0, .int .u64 x, .slice none 0 0]) (by simp [results, Tryz.results147, go_sem, *]) rfl ?_
        exact mpost_set HT3.out HO3.out hBw hb rfl rfl HK3.out (by (repeat' (first | exact Keep.refl _ _ | refine Keep.setCell ?_ (by simp) _ | refine Keep.drew ?_)))
end Go.Proofs.YtmiimpmfkjcjlaaGreat

namespace Go.Proofs.YtmiimpmfkjcjlaaGreat
open Go.RowKit
attribute [local go_sem] run_store_fn run_store_nilfn
set_option maxRecDepth 100000 in
set_option maxHeartbeats 4000000 in
theorem mmax_any (n : Int) (s : Sp) (c : Cl) (b B : Nat) (v : Value) (x : Int) (w : World) (hT : ThAt w b n s v c) (hO : WOwn w B v 1 [x]) (hBw : B ≤ w.heap.size)
    (ha : U64 c.a) (hxu : U64 x) (hk0 : 0 ≤ c.kind) (hk1 : c.kind < 2) (hp1 : 1 ≤ s.p) (hp2 : s.p ≤ 12) : Calls Tryz.prog 148 #[.pointer (some ⟨b, 0, none⟩)] w (ThPost n s c b B (maxM s [x] c) w) := by
  obtain ⟨a0, a1, a2, a3, a4, a5, a6, a7, a8, a9, a10, f4, hb⟩ := hT.cells
  have hsl : SlW w v [x] := wrow_sl hO (by simp [maxLen])
  obtain ⟨vA, vc, rfl⟩ := own_slice hO
  obtain ⟨sb, so, rfl, cx, hsb⟩ := sl_at hsl 0 x rfl
  simp only [Nat.add_zero] at cx
  have HT := hide hT
  have HO := hide hO
  have HSN : ∀ (W : World) (y : Int), ThAt W b n s (.slice (some ⟨sb, so, none⟩) 1 vc) c → WOwn W B (.slice (some ⟨sb, so, none⟩) 1 vc) 1 [x] → Calls Tryz.prog 195 #[.pointer (some ⟨b, 0, none⟩), .int .i64 0, .int .u64 y] W fun e w' =>
    ∃ u, e = .returned (.tuple #[]) ∧ ThAt w' b n s u c ∧ WOwn w' W.heap.size u 1 [y] ∧ Keep (fun j => j < W.heap.size ∧ j ≠ b) W w' := fun W y h1 h2 => set_any b B 0 y n s c (.slice (some ⟨sb, so, none⟩) 1 vc) [x] W h1 h2 (by simp) (by simp)
  have hTr : ThAt (resW w) b n s (.slice (some ⟨sb, so, none⟩) 1 vc) c := hT.of_block (heap_alloc_old w _ hb)
  have hOr : WOwn (resW w) B (.slice (some ⟨sb, so, none⟩) 1 vc) 1 [x] := World.ownsRow.alloc hO _
  have HTR := hide hTr
  have HOR := hide hOr
  have hat : at0 [x] 0 = x := rfl
  clear hT hO hsl hTr hOr
  obtain ⟨ha0, ha1⟩ := ha
  obtain ⟨hx0, hx1⟩ := hxu
  by_cases hk : c.kind = 1
  · have hM : maxM s [x] c = ([x], ⟨0, x, []⟩) := by unfold maxM; rw [if_pos hk, hat]; rfl
    rw [hM]
    rw [hk] at a7
    clear hM hat
    go_enter Tryz.func148, Tryz.ntmps148
    go_wp2
    refine bodyPost_ret (v := .agg #[.int .i64 0, .int .u64 x, .slice none 0 0]) (by simp [results, Tryz.results148, go_sem, *]) rfl ?_
    exact mpost_keep (st := [x]) hb HT.out HO.out rfl (by (repeat' (first | exact Below.refl _ _ | assumption | refine Below.drew ?_ | refine below_drewN ?_ _ | refine Below.alloc ?_ (by simp <;> omega) _ | refine Below.setCell ?_ (by simp <;> omega) _)))
  · have hk9 : c.kind = 0 := by omega
    rw [hk9] at a7
    have hsh : (IntKind.u64.wrap s.p).toNat = s.p.toNat := by rw [IntKind.wrap_u64]; omega
    have hsm : min s.p.toNat 64 = s.p.toNat := by omega
    by_cases h0 : c.a / 2 ^ s.p.toNat ≠ 0
    · have hM : maxM s [x] c = ([x], ⟨10, 0, []⟩) := by unfold maxM; rw [if_neg hk, if_pos h0]; rfl
      rw [hM]
      clear hM hat hk
      go_enter Tryz.func148, Tryz.ntmps148
      go_wp2_with fail
      refine wp_region_seq (Below w.heap.size w) (.take 0 <| .take 1 <| .take 2 <| .take 3 <| .take 4 <| .take 5 <| .take 6 <| .take 7 <| .take 8 <| .take 9 <| .take 10 <| .take 11 <| .take 12 <| .take 13 <| .done) (by kernel_rfl) (by kernel_rfl) (by kernel_rfl) (by (repeat' (first | exact Below.refl _ _ | assumption | refine Below.drew ?_ | refine below_drewN ?_ _ | refine Below.alloc ?_ (by simp <;> omega) _ | refine Below.setCell ?_ (by simp <;> omega) _))) ?_
      repeat (refine seq_take (v := ?_) rfl (by rfl) ?_ ?_; rotate_left; (focus (intro wS hS; have z0 := (hS.cell (p := ⟨b, 0, none⟩) hb).trans a0; have z1 := (hS.cell (p := ⟨b, 1, none⟩) hb).trans a1; have z2 := (hS.cell (p := ⟨b, 2, none⟩) hb).trans a2; have z3 := (hS.cell (p := ⟨b, 3, none⟩) hb).trans a3; have z4 := (hS.cell (p := ⟨b, 4, none⟩) hb).trans a4; have z5 := (hS.cell (p := ⟨b, 5, none⟩) hb).trans a5; have z7 := (hS.cell (p := ⟨b, 7, none⟩) hb).trans a7; have z8 := (hS.cell (p := ⟨b, 8, none⟩) hb).trans a8; have z9 := (hS.cell (p := ⟨b, 9, none⟩) hb).trans a9; have zx := (hS.cell (p := ⟨sb, so, none⟩) hsb).trans cx; go_simp; exact rfl)); simp only [Act.put, sqA, sqB, sqC])
      refine seq_nil ?_
      have d0 : (c.a / 2 ^ min (IntKind.u64.wrap s.p).toNat 64 != 0) = true := by rw [hsh, hsm]; simpa using h0
      have d0' : (c.a / 2 ^ (IntKind.u64.wrap s.p).toNat != 0) = true := by rw [hsh]; simpa using h0
      clear hsh hsm
      go_wp2_with fail
      refine (mno_any _ _).mono ?_
      rintro e w1 ⟨rfl, rfl⟩
      go_wp2
      refine bodyPost_ret (v := .agg #[.int .i64 10, .int .u64 0, .slice none 0 0]) (by simp [results, Tryz.results148, go_sem, *]) rfl ?_
      exact mpost_keep (st := [x]) hb HT.out HO.out rfl (by (repeat' (first | exact Below.refl _ _ | assumption | refine Below.drew ?_ | refine below_drewN ?_ _ | refine Below.alloc ?_ (by simp <;> omega) _ | refine Below.setCell ?_ (by simp <;> omega) _)))
    · have d0 : (c.a / 2 ^ min (IntKind.u64.wrap s.p).toNat 64 != 0) = false := by rw [hsh, hsm]; simpa using h0
      have d0' : (c.a / 2 ^ (IntKind.u64.wrap s.p).toNat != 0) = false := by rw [hsh]; simpa using h0
      clear hsh hsm
      have hM : maxM s [x] c = ([max x c.a], ⟨0, 0, []⟩) := by unfold maxM; rw [if_neg hk, if_neg h0, hat]; rfl
      rw [hM]
      clear hM hat hk h0
      go_enter Tryz.func148, Tryz.ntmps148
      go_wp2_with fail
      refine wp_region_seq (Below w.heap.size w) (.take 0 <| .take 1 <| .take 2 <| .take 3 <| .take 4 <| .take 5 <| .take 6 <| .take 7 <| .take 8 <| .take 9 <| .take 10 <| .take 11 <| .take 12 <| .take 13 <| .done) (by kernel_rfl) (by kernel_rfl) (by kernel_rfl) (by (repeat' (first | exact Below.refl _ _ | assumption | refine Below.drew ?_ | refine below_drewN ?_ _ | refine Below.alloc ?_ (by simp <;> omega) _ | refine Below.setCell ?_ (by simp <;> omega) _))) ?_
      repeat (refine seq_take (v := ?_) rfl (by rfl) ?_ ?_; rotate_left; (focus (intro wS hS; have z0 := (hS.cell (p := ⟨b, 0, none⟩) hb).trans a0; have z1 := (hS.cell (p := ⟨b, 1, none⟩) hb).trans a1; have z2 := (hS.cell (p := ⟨b, 2, none⟩) hb).trans a2; have z3 := (hS.cell (p := ⟨b, 3, none⟩) hb).trans a3; have z4 := (hS.cell (p := ⟨b, 4, none⟩) hb).trans a4; have z5 := (hS.cell (p := ⟨b, 5, none⟩) hb).trans a5; have z7 := (hS.cell (p := ⟨b, 7, none⟩) hb).trans a7; have z8 := (hS.cell (p := ⟨b, 8, none⟩) hb).trans a8; have z9 := (hS.cell (p := ⟨b, 9, none⟩) hb).trans a9; have zx := (hS.cell (p := ⟨sb, so, none⟩) hsb).trans cx; go_simp; exact rfl)); simp only [Act.put, sqA, sqB, sqC])
      refine seq_nil ?_
      go_wp2_with fail
      refine wp_region_seql (Below w.heap.size w) [13] (.take 0 <| .take 1 <| .take 2 <| .take 3 <| .take 4 <| .take 5 <| .take 6 <| .take 7 <| .take 8 <| .take 9 <| .take 10 <| .take 11 <| .take 12 <| .run 13 <| .done) (by kernel_rfl) (by kernel_rfl) (by kernel_rfl) (by (repeat' (first | exact Below.refl _ _ | assumption | refine Below.drew ?_ | refine below_drewN ?_ _ | refine Below.alloc ?_ (by simp <;> omega) _ | refine Below.setCell ?_ (by simp <;> omega) _))) ?_
      repeat (refine seql_take (v := ?_) rfl (by rfl) ?_ ?_; rotate_left; (focus (intro wS hS; have z0 := (hS.cell (p := ⟨b, 0, none⟩) hb).trans a0; have z1 := (hS.cell (p := ⟨b, 1, none⟩) hb).trans a1; have z2 := (hS.cell (p := ⟨b, 2, none⟩) hb).trans a2; have z3 := (hS.cell (p := ⟨b, 3, none⟩) hb).trans a3; have z4 := (hS.cell (p := ⟨b, 4, none⟩) hb).trans a4; have z5 := (hS.cell (p := ⟨b, 5, none⟩) hb).trans a5; have z7 := (hS.cell (p := ⟨b, 7, none⟩) hb).trans a7; have z8 := (hS.cell (p := ⟨b, 8, none⟩) hb).trans a8; have z9 := (hS.cell (p := ⟨b, 9, none⟩) hb).trans a9; have zx := (hS.cell (p := ⟨sb, so, none⟩) hsb).trans cx; go_simp; exact rfl)); simp only [Act.put, sqA, sqB, sqC])
      refine seql_late rfl rfl (by rfl) (fun K hK => ?_)
      go_simp
      refine (HSN _ _ ?_ ?_).mono ?_
      exact HTR.out
      exact HOR.out
      rintro e w3 ⟨u, rfl, hT3, hO3, hk3⟩
      have hk3' : Keep (fun j => j < (resW w).heap.size ∧ j ≠ b) (resW w) w3 := by first | exact hk3 | exact (Keep.refl _ _).drew.trans hk3 | exact (Keep.refl _ _).drew.drew.trans hk3
      obtain ⟨r0, r1, r2, g0, g1, g2, rz⟩ := res_cells hk3' hb
      have HK3 := hide hk3'
      have HT3 := hide hT3
      have HO3 := hide hO3
      clear hk3 hk3'
      clear hT3 hO3
      refine hK _ _ ?_
      clear hK K
      refine seql_nil ?_
      go_wp2
      refine bodyPost_ret (v := .agg #[.int .i64 0, .int .u64 0, .slice none 0 0]) (by simp [results, Tryz.results148, go_sem, *]) rfl ?_
      exact mpost_set HT3.out HO3.out hBw hb rfl rfl HK3.out (by (repeat' (first | exact Keep.refl _ _ | refine Keep.setCell ?_ (by simp) _ | refine Keep.drew ?_)))
end Go.Proofs.YtmiimpmfkjcjlaaGreat
