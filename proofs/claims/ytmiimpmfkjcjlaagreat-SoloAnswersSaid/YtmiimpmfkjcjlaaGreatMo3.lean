/- A model that an operation is done to (package model): operations on cells. -/
import Derived.Test.YtmiimpmfkjcjlaaGreatBun12
import Derived.Test.YtmiimpmfkjcjlaaGreatBun2
namespace Go.Proofs.YtmiimpmfkjcjlaaGreat
open Go.RowKit
attribute [local go_sem] run_store_fn run_store_nilfn

theorem mno_any (v : Int) (w : World) : Calls Tryz.prog 77 #[.int .i64 v] w fun e w' => e = .returned (.agg #[.int .i64 v, .int .u64 0, .slice none 0 0]) ∧ w' = w.alloc (.cells #[.int .i64 v, .int .u64 0, .slice none 0 0] 57) := by
  go_enter Tryz.func77, Tryz.ntmps77
  go_wp2
  refine bodyPost_ret (v := .agg #[.int .i64 v, .int .u64 0, .slice none 0 0]) (by simp [results, Tryz.results77, go_sem]) rfl ⟨rfl, ?_⟩
  first | rfl | simp [go_sem]

def ThPost (n : Int) (s : Sp) (c : Cl) (b B : Nat) (R : List Int × An) (w : World) (e : Ending) (w' : World) : Prop :=
  ∃ v' L, e = .returned (.agg #[.int .i64 R.2.err, .int .u64 R.2.val, L]) ∧ ThAt w' b n s v' c ∧ WOwn w' B v' R.1.length R.1 ∧ WOwn w' B L R.2.list.length R.2.list ∧ Keep (fun j => j < w.heap.size ∧ j ≠ b) w w'

abbrev resW (w : World) : World := w.alloc (.cells #[.int .i64 0, .int .u64 0, .slice none 0 0] 57)
theorem res_cells {w w3 : World} {b : Nat} (hk : Keep (fun j => j < (resW w).heap.size ∧ j ≠ b) (resW w) w3) (hb : b < w.heap.size) :
    w3.cell? ⟨w.heap.size, 0, none⟩ = some (.int .i64 0) ∧ w3.cell? ⟨w.heap.size, 1, none⟩ = some (.int .u64 0) ∧ w3.cell? ⟨w.heap.size, 2, none⟩ = some (.slice none 0 0) ∧ w3.frozen? ⟨w.heap.size, 0, none⟩ = false ∧ w3.frozen? ⟨w.heap.size, 1, none⟩ = false ∧ w3.frozen? ⟨w.heap.size, 2, none⟩ = false ∧ w.heap.size < w3.heap.size :=
  cells3 ((hk.block w.heap.size ⟨by simp, by omega⟩).trans (heap_alloc_new w _))
theorem mpost_keep {n : Int} {s : Sp} {c : Cl} {b B : Nat} {v : Value} {st l : List Int} {w w' : World} {err val : Int} (hb : b < w.heap.size) (hT : ThAt w b n s v c) (hO : WOwn w B v st.length st) (hl : l = []) (hB : Below w.heap.size w w') :
    ThPost n s c b B (st, ⟨err, val, l⟩) w (.returned (.agg #[.int .i64 err, .int .u64 val, .slice none 0 0])) w' := by
  subst hl
  exact ⟨v, _, rfl, hT.of_block (hB.block b hb), WOwn.below hO hB (Nat.le_refl _), World.ownsRow_nil _ _ _ _, Keep.of_below hB (fun k hk => hk.1)⟩
theorem mpost_set {n : Int} {s : Sp} {c : Cl} {b B L : Nat} {u : Value} {st' l : List Int} {w w3 w' : World} {err val : Int} (hT : ThAt w3 b n s u c) (hO : WOwn w3 (resW w).heap.size u L st') (hBw : B ≤ w.heap.size) (hb : b < w.heap.size) (hl : l = []) (hL : L = st'.length)
    (hk : Keep (fun j => j < (resW w).heap.size ∧ j ≠ b) (resW w) w3) (h' : Keep (fun j => j ≠ w.heap.size) w3 w') :
    ThPost n s c b B (st', ⟨err, val, l⟩) w (.returned (.agg #[.int .i64 err, .int .u64 val, .slice none 0 0])) w' := by
  subst hl hL
  refine ⟨u, _, rfl, hT.of_block (h'.block b (by omega)), owns_base (owns_keepB hO h' (fun j hj _ => by simp at hj; omega)) (by simp; omega), World.ownsRow_nil _ _ _ _, ?_⟩
  exact ((Keep.refl (fun j => j < w.heap.size ∧ j ≠ b) w).alloc (fun k hk => hk.1) _).trans ((hk.mono (fun k hk => ⟨by have := hk.1; simp; omega, hk.2⟩)).trans (h'.mono (fun k hk => by have := hk.1; omega)))

set_option maxRecDepth 100000 in
set_option maxHeartbeats 4000000 in
theorem mcell_any (n : Int) (s : Sp) (c : Cl) (b B : Nat) (v : Value) (st : List Int) (w : World) (hT : ThAt w b n s v c) (hO : WOwn w B v st.length st) (hBw : B ≤ w.heap.size) (hp1 : 1 ≤ s.p) (hp2 : s.p ≤ 64) (hst : (st.length : Int) = s.p)
    (ha : U64 c.a) (hk0 : 0 ≤ c.kind) (hk1 : c.kind < 4) : Calls Tryz.prog 145 #[.pointer (some ⟨b, 0, none⟩)] w (ThPost n s c b B (cellM s st c) w) := by
  have hl6 : st.length ≤ 1000000 := by omega
  obtain ⟨a0, a1, a2, a3, a4, a5, a6, a7, a8, a9, a10, f4, hb⟩ := hT.cells
  have hwu : IntKind.u64.wrap s.p = s.p := by rw [IntKind.wrap_u64]; omega
  by_cases h0 : s.p ≤ c.a
  · have hM : cellM s st c = (st, ⟨10, 0, []⟩) := by unfold cellM; rw [if_pos h0]; rfl
    rw [hM]
    have HT := hide hT
    have HO := hide hO
    have d0 : decide (IntKind.u64.wrap s.p ≤ c.a) = true := by rw [hwu]; simpa using h0
    clear hT hO hM h0 hwu
    go_enter Tryz.func145, Tryz.ntmps145
    go_wp2_with fail
    refine wp_region_seq (Below w.heap.size w) (.take 0 <| .take 1 <| .take 2 <| .take 3 <| .take 4 <| .take 5 <| .take 6 <| .take 7 <| .take 8 <| .take 9 <| .take 10 <| .take 11 <| .done) (by kernel_rfl) (by kernel_rfl) (by kernel_rfl) (by (repeat' (first | exact Below.refl _ _ | assumption | refine Below.drew ?_ | refine below_drewN ?_ _ | refine Below.alloc ?_ (by simp <;> omega) _ | refine Below.setCell ?_ (by simp <;> omega) _))) ?_
    repeat (refine seq_take (v := ?_) rfl (by rfl) ?_ ?_; rotate_left; (focus (intro wS hS; have z0 := (hS.cell (p := ⟨b, 0, none⟩) hb).trans a0; have z1 := (hS.cell (p := ⟨b, 1, none⟩) hb).trans a1; have z2 := (hS.cell (p := ⟨b, 2, none⟩) hb).trans a2; have z3 := (hS.cell (p := ⟨b, 3, none⟩) hb).trans a3; have z4 := (hS.cell (p := ⟨b, 4, none⟩) hb).trans a4; have z5 := (hS.cell (p := ⟨b, 5, none⟩) hb).trans a5; have z7 := (hS.cell (p := ⟨b, 7, none⟩) hb).trans a7; have z8 := (hS.cell (p := ⟨b, 8, none⟩) hb).trans a8; have z9 := (hS.cell (p := ⟨b, 9, none⟩) hb).trans a9; go_simp; exact rfl)); simp only [Act.put, List.setIfInBounds_toArray, List.set_cons_zero, List.set_cons_succ])
    refine seq_nil ?_
    go_wp2_with fail
    refine (mno_any _ _).mono ?_
    rintro e w1 ⟨rfl, rfl⟩
    go_wp2
    refine bodyPost_ret (v := .agg #[.int .i64 10, .int .u64 0, .slice none 0 0]) (by simp [results, Tryz.results145, go_sem, *]) rfl ?_
    exact mpost_keep hb HT.out HO.out rfl (by (repeat' (first | exact Below.refl _ _ | assumption | refine Below.drew ?_ | refine below_drewN ?_ _ | refine Below.alloc ?_ (by simp <;> omega) _ | refine Below.setCell ?_ (by simp <;> omega) _)))
  · have d0 : decide (IntKind.u64.wrap s.p ≤ c.a) = false := by rw [hwu]; simpa using h0
    obtain ⟨sp, q0⟩ : ∃ sp : List Int, sp = st := ⟨_, rfl⟩
    obtain ⟨i, hi⟩ : ∃ i : Nat, c.a = (i : Int) := ⟨c.a.toNat, by have := ha.1; omega⟩
    have hil : i < st.length := by omega
    obtain ⟨x, hx⟩ : ∃ x, st[i]? = some x := ⟨_, List.getElem?_eq_getElem hil⟩
    have hat : at0 st c.a.toNat = x := by unfold at0; rw [hi, Int.toNat_natCast, hx]; rfl
    have hsl : SlW w v st := wrow_sl hO (by unfold maxLen; omega)
    obtain ⟨vA, vc, rfl⟩ := own_slice hO
    obtain ⟨sb, so, rfl, cx, hsb⟩ := sl_at hsl i x hx
    have i0 : (0 : Int) ≤ (i : Int) := by omega
    have i1 : (i : Int) < (st.length : Int) := by omega
    have i2 : (i : Int) ≤ 64 := by omega
    have HT := hide hT
    have HO := hide hO
    have HSN := fun W y h1 h2 => set_any b B i y n s c (.slice (some ⟨sb, so, none⟩) st.length vc) st W h1 h2 hl6 hil
    have hTr : ThAt ((resW w).drew) b n s (.slice (some ⟨sb, so, none⟩) st.length vc) c := hT.of_block (heap_alloc_old w _ hb)
    have hOr : WOwn ((resW w).drew) B (.slice (some ⟨sb, so, none⟩) st.length vc) st.length st := World.ownsRow.alloc hO _
    have HTR := hide hTr
    have HOR := hide hOr
    rw [hi] at d0 a8
    rcases (by omega : c.kind = 0 ∨ c.kind = 1 ∨ c.kind = 2 ∨ c.kind = 3) with hk | hk | hk | hk
    · have hM : cellM s st c = (st, ⟨0, x, []⟩) := by unfold cellM; rw [if_neg h0, if_neg (by omega), if_neg (by omega), if_neg (by omega), hat]; rfl
      rw [hM]
      rw [hk] at a7
      clear hT hO hM h0 hwu hsl hTr hOr hat hx hi
      go_enter Tryz.func145, Tryz.ntmps145
      go_wp2_with fail
      refine wp_region_seq (Below w.heap.size w) (.take 0 <| .take 1 <| .take 2 <| .take 3 <| .take 4 <| .take 5 <| .take 6 <| .take 7 <| .take 8 <| .take 9 <| .take 10 <| .take 11 <| .done) (by kernel_rfl) (by kernel_rfl) (by kernel_rfl) (by (repeat' (first | exact Below.refl _ _ | assumption | refine Below.drew ?_ | refine below_drewN ?_ _ | refine Below.alloc ?_ (by simp <;> omega) _ | refine Below.setCell ?_ (by simp <;> omega) _))) ?_
      repeat (refine seq_take (v := ?_) rfl (by rfl) ?_ ?_; rotate_left; (focus (intro wS hS; have z0 := (hS.cell (p := ⟨b, 0, none⟩) hb).trans a0; have z1 := (hS.cell (p := ⟨b, 1, none⟩) hb).trans a1; have z2 := (hS.cell (p := ⟨b, 2, none⟩) hb).trans a2; have z3 := (hS.cell (p := ⟨b, 3, none⟩) hb).trans a3; have z4 := (hS.cell (p := ⟨b, 4, none⟩) hb).trans a4; have z5 := (hS.cell (p := ⟨b, 5, none⟩) hb).trans a5; have z7 := (hS.cell (p := ⟨b, 7, none⟩) hb).trans a7; have z8 := (hS.cell (p := ⟨b, 8, none⟩) hb).trans a8; have z9 := (hS.cell (p := ⟨b, 9, none⟩) hb).trans a9; go_simp; exact rfl)); simp only [Act.put, List.setIfInBounds_toArray, List.set_cons_zero, List.set_cons_succ])
      refine seq_nil ?_
      go_wp2
      refine bodyPost_ret (v := .agg #[.int .i64 0, .int .u64 x, .slice none 0 0]) (by simp [results, Tryz.results145, go_sem, *]) rfl ?_
      exact mpost_keep hb HT.out HO.out rfl (by (repeat' (first | exact Below.refl _ _ | assumption | refine Below.drew ?_ | refine below_drewN ?_ _ | refine Below.alloc ?_ (by simp <;> omega) _ | refine Below.setCell ?_ (by simp <;> omega) _)))
    · have hM : cellM s st c = (st.set i c.b, ⟨0, 0, []⟩) := by unfold cellM; rw [if_neg h0, if_pos hk, hi, Int.toNat_natCast]; rfl
      rw [hM]
      rw [hk] at a7
      clear hT hO hM h0 hwu hsl hTr hOr hat hx hi
      go_enter Tryz.func145, Tryz.ntmps145
      go_wp2_with fail
      refine wp_region_seq (Below w.heap.size w) (.take 0 <| .take 1 <| .take 2 <| .take 3 <| .take 4 <| .take 5 <| .take 6 <| .take 7 <| .take 8 <| .take 9 <| .take 10 <| .take 11 <| .done) (by kernel_rfl) (by kernel_rfl) (by kernel_rfl) (by (repeat' (first | exact Below.refl _ _ | assumption | refine Below.drew ?_ | refine below_drewN ?_ _ | refine Below.alloc ?_ (by simp <;> omega) _ | refine Below.setCell ?_ (by simp <;> omega) _))) ?_
      repeat (refine seq_take (v := ?_) rfl (by rfl) ?_ ?_; rotate_left; (focus (intro wS hS; have z0 := (hS.cell (p := ⟨b, 0, none⟩) hb).trans a0; have z1 := (hS.cell (p := ⟨b, 1, none⟩) hb).trans a1; have z2 := (hS.cell (p := ⟨b, 2, none⟩) hb).trans a2; have z3 := (hS.cell (p := ⟨b, 3, none⟩) hb).trans a3; have z4 := (hS.cell (p := ⟨b, 4, none⟩) hb).trans a4; have z5 := (hS.cell (p := ⟨b, 5, none⟩) hb).trans a5; have z7 := (hS.cell (p := ⟨b, 7, none⟩) hb).trans a7; have z8 := (hS.cell (p := ⟨b, 8, none⟩) hb).trans a8; have z9 := (hS.cell (p := ⟨b, 9, none⟩) hb).trans a9; go_simp; exact rfl)); simp only [Act.put, List.setIfInBounds_toArray, List.set_cons_zero, List.set_cons_succ])
      refine seq_nil ?_
      go_wp2_with fail
      refine (HSN _ c.b HTR.out HOR.out).mono ?_
      rintro e w3 ⟨u, rfl, hT3, hO3, hk3⟩
      have hk3' : Keep (fun j => j < (resW w).heap.size ∧ j ≠ b) (resW w) w3 := (Keep.refl _ _).drew.trans hk3
      obtain ⟨r0, r1, r2, g0, g1, g2, rz⟩ := res_cells hk3' hb
      have HK3 := hide hk3'
      have HT3 := hide hT3
      have HO3 := hide hO3
      clear hk3 hk3' hT3 hO3
      go_wp2
      refine bodyPost_ret (v := .agg #[.int .i64 0, .int .u64 0, .slice none 0 0]) (by simp [results, Tryz.results145, go_sem, *]) rfl ?_
      exact mpost_set HT3.out HO3.out hBw hb rfl (by simp) HK3.out (by (repeat' (first | exact Keep.refl _ _ | refine Keep.setCell ?_ (by simp) _ | refine Keep.drew ?_)))
    · by_cases hxb : x = c.b
      · have hM : cellM s st c = (st.set i c.c, ⟨0, 1, []⟩) := by unfold cellM; rw [if_neg h0, if_neg (by omega), if_pos hk, hat, if_pos hxb, hi, Int.toNat_natCast]; rfl
        rw [hM]
        rw [hk] at a7
        have d1 : (x != c.b) = false := by simpa using hxb
        clear hT hO hM h0 hwu hsl hTr hOr hat hx hi hxb
        go_enter Tryz.func145, Tryz.ntmps145
        go_wp2_with fail
        refine wp_region_seq (Below w.heap.size w) (.take 0 <| .take 1 <| .take 2 <| .take 3 <| .take 4 <| .take 5 <| .take 6 <| .take 7 <| .take 8 <| .take 9 <| .take 10 <| .take 11 <| .done) (by kernel_rfl) (by kernel_rfl) (by kernel_rfl) (by (repeat' (first | exact Below.refl _ _ | assumption | refine Below.drew ?_ | refine below_drewN ?_ _ | refine Below.alloc ?_ (by simp <;> omega) _ | refine Below.setCell ?_ (by simp <;> omega) _))) ?_
        repeat (refine seq_take (v := ?_) rfl (by rfl) ?_ ?_; rotate_left; (focus (intro wS hS; have z0 := (hS.cell (p := ⟨b, 0, none⟩) hb).trans a0; have z1 := (hS.cell (p := ⟨b, 1, none⟩) hb).trans a1; have z2 := (hS.cell (p := ⟨b, 2, none⟩) hb).trans a2; have z3 := (hS.cell (p := ⟨b, 3, none⟩) hb).trans a3; have z4 := (hS.cell (p := ⟨b, 4, none⟩) hb).trans a4; have z5 := (hS.cell (p := ⟨b, 5, none⟩) hb).trans a5; have z7 := (hS.cell (p := ⟨b, 7, none⟩) hb).trans a7; have z8 := (hS.cell (p := ⟨b, 8, none⟩) hb).trans a8; have z9 := (hS.cell (p := ⟨b, 9, none⟩) hb).trans a9; go_simp; exact rfl)); simp only [Act.put, List.setIfInBounds_toArray, List.set_cons_zero, List.set_cons_succ])
        refine seq_nil ?_
        go_wp2_with fail
        refine (HSN _ c.c HTR.out HOR.out).mono ?_
        rintro e w3 ⟨u, rfl, hT3, hO3, hk3⟩
        have hk3' : Keep (fun j => j < (resW w).heap.size ∧ j ≠ b) (resW w) w3 := (Keep.refl _ _).drew.trans hk3
        obtain ⟨r0, r1, r2, g0, g1, g2, rz⟩ := res_cells hk3' hb
        have HK3 := hide hk3'
        have HT3 := hide hT3
        have HO3 := hide hO3
        clear hk3 hk3' hT3 hO3
        go_wp2
        refine bodyPost_ret (v := .agg #[.int .i64 0, .int .u64 1, .slice none 0 0]) (by simp [results, Tryz.results145, go_sem, *]) rfl ?_
        exact mpost_set HT3.out HO3.out hBw hb rfl (by simp) HK3.out (by (repeat' (first | exact Keep.refl _ _ | refine Keep.setCell ?_ (by simp) _ | refine Keep.drew ?_)))
      · have hM : cellM s st c = (st, ⟨0, 0, []⟩) := by unfold cellM; rw [if_neg h0, if_neg (by omega), if_pos hk, hat, if_neg hxb]; rfl
        rw [hM]
        rw [hk] at a7
        have d1 : (x != c.b) = true := by simpa using hxb
        clear hT hO hM h0 hwu hsl hTr hOr hat hx hi hxb
        go_enter Tryz.func145, Tryz.ntmps145
        go_wp2_with fail
        refine wp_region_seq (Below w.heap.size w) (.take 0 <| .take 1 <| .take 2 <| .take 3 <| .take 4 <| .take 5 <| .take 6 <| .take 7 <| .take 8 <| .take 9 <| .take 10 <| .take 11 <| .done) (by kernel_rfl) (by kernel_rfl) (by kernel_rfl) (by (repeat' (first | exact Below.refl _ _ | assumption | refine Below.drew ?_ | refine below_drewN ?_ _ | refine Below.alloc ?_ (by simp <;> omega) _ | refine Below.setCell ?_ (by simp <;> omega) _))) ?_
        repeat (refine seq_take (v := ?_) rfl (by rfl) ?_ ?_; rotate_left; (focus (intro wS hS; have z0 := (hS.cell (p := ⟨b, 0, none⟩) hb).trans a0; have z1 := (hS.cell (p := ⟨b, 1, none⟩) hb).trans a1; have z2 := (hS.cell (p := ⟨b, 2, none⟩) hb).trans a2; have z3 := (hS.cell (p := ⟨b, 3, none⟩) hb).trans a3; have z4 := (hS.cell (p := ⟨b, 4, none⟩) hb).trans a4; have z5 := (hS.cell (p := ⟨b, 5, none⟩) hb).trans a5; have z7 := (hS.cell (p := ⟨b, 7, none⟩) hb).trans a7; have z8 := (hS.cell (p := ⟨b, 8, none⟩) hb).trans a8; have z9 := (hS.cell (p := ⟨b, 9, none⟩) hb).trans a9; go_simp; exact rfl)); simp only [Act.put, List.setIfInBounds_toArray, List.set_cons_zero, List.set_cons_succ])
        refine seq_nil ?_
        go_wp2
        refine bodyPost_ret (v := .agg #[.int .i64 0, .int .u64 0, .slice none 0 0]) (by simp [results, Tryz.results145, go_sem, *]) rfl ?_
        exact mpost_keep hb HT.out HO.out rfl (by (repeat' (first | exact Below.refl _ _ | assumption | refine Below.drew ?_ | refine below_drewN ?_ _ | refine Below.alloc ?_ (by simp <;> omega) _ | refine Below.setCell ?_ (by simp <;> omega) _)))
    · have hM : cellM s st c = (st.set i ((x + c.b) % 18446744073709551616), ⟨0, x, []⟩) := by unfold cellM; rw [if_neg h0, if_neg (by omega), if_neg (by omega), if_pos hk, hat, hi, Int.toNat_natCast]; rfl
      rw [hM]
      rw [hk] at a7
      clear hT hO hM h0 hwu hsl hTr hOr hat hx hi
      go_enter Tryz.func145, Tryz.ntmps145
      go_wp2_with fail
      refine wp_region_seq (Below w.heap.size w) (.take 0 <| .take 1 <| .take 2 <| .take 3 <| .take 4 <| .take 5 <| .take 6 <| .take 7 <| .take 8 <| .take 9 <| .take 10 <| .take 11 <| .done) (by kernel_rfl) (by kernel_rfl) (by kernel_rfl) (by (repeat' (first | exact Below.refl _ _ | assumption | refine Below.drew ?_ | refine below_drewN ?_ _ | refine Below.alloc ?_ (by simp <;> omega) _ | refine Below.setCell ?_ (by simp <;> omega) _))) ?_
      repeat (refine seq_take (v := ?_) rfl (by rfl) ?_ ?_; rotate_left; (focus (intro wS hS; have z0 := (hS.cell (p := ⟨b, 0, none⟩) hb).trans a0; have z1 := (hS.cell (p := ⟨b, 1, none⟩) hb).trans a1; have z2 := (hS.cell (p := ⟨b, 2, none⟩) hb).trans a2; have z3 := (hS.cell (p := ⟨b, 3, none⟩) hb).trans a3; have z4 := (hS.cell (p := ⟨b, 4, none⟩) hb).trans a4; have z5 := (hS.cell (p := ⟨b, 5, none⟩) hb).trans a5; have z7 := (hS.cell (p := ⟨b, 7, none⟩) hb).trans a7; have z8 := (hS.cell (p := ⟨b, 8, none⟩) hb).trans a8; have z9 := (hS.cell (p := ⟨b, 9, none⟩) hb).trans a9; go_simp; exact rfl)); simp only [Act.put, List.setIfInBounds_toArray, List.set_cons_zero, List.set_cons_succ])
      refine seq_nil ?_
      go_wp2_with fail
      refine (HSN _ ((x + c.b) % 18446744073709551616) HTR.out HOR.out).mono ?_
      rintro e w3 ⟨u, rfl, hT3, hO3, hk3⟩
      have hk3' : Keep (fun j => j < (resW w).heap.size ∧ j ≠ b) (resW w) w3 := (Keep.refl _ _).drew.trans hk3
      obtain ⟨r0, r1, r2, g0, g1, g2, rz⟩ := res_cells hk3' hb
      have HK3 := hide hk3'
      have HT3 := hide hT3
      have HO3 := hide hO3
      clear hk3 hk3' hT3 hO3
      go_wp2
      refine bodyPost_ret (v := .agg #[.int .i64 0, .int .u64 x, .slice none 0 0]) (by simp [results, Tryz.results145, go_sem, *]) rfl ?_
      exact mpost_set HT3.out HO3.out hBw hb rfl (by simp) HK3.out (by (repeat' (first | exact Keep.refl _ _ | refine Keep.setCell ?_ (by simp) _ | refine Keep.drew ?_)))
end Go.Proofs.YtmiimpmfkjcjlaaGreat
