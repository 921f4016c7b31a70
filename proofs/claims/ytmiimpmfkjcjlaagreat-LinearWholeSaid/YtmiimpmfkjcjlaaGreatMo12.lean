import Derived.Test.YtmiimpmfkjcjlaaGreatBun22
namespace Go.Proofs.YtmiimpmfkjcjlaaGreat
open Go.RowKit
attribute [local go_sem] run_store_fn run_store_nilfn
def ApPost (n : Int) (s : Sp) (st : List Int) (c : Cl) (w : World) (e : Ending) (w' : World) : Prop :=
  ∃ v L, e = .returned (.tuple #[v, .agg #[.int .i64 (applyM n s st c).2.err, .int .u64 (applyM n s st c).2.val, L]]) ∧ WOwn w' w.heap.size v (applyM n s st c).1.length (applyM n s st c).1 ∧
    WOwn w' w.heap.size L (applyM n s st c).2.list.length (applyM n s st c).2.list ∧ Below w.heap.size w w'
abbrev clV (c : Cl) : Value := .agg #[.int .i64 c.thread, .int .i64 c.obj, .int .i64 c.kind, .int .u64 c.a, .int .u64 c.b, .int .u64 c.c]
abbrev appW (w : World) (s : Sp) (c : Cl) : World := ((w.alloc (.cells #[.int .i64 s.kind, .int .i64 s.p, .int .i64 s.q] 23)).alloc (.cells #[.int .i64 c.thread, .int .i64 c.obj, .int .i64 c.kind, .int .u64 c.a, .int .u64 c.b, .int .u64 c.c] 27)).alloc (.cells #[.int .i64 0, .int .u64 0, .slice none 0 0] 57)
theorem appW_below (w : World) (s : Sp) (c : Cl) : Below w.heap.size w (appW w s c) := (((Below.refl _ w).alloc (Nat.le_refl _) _).alloc (by simp) _).alloc (by simp; omega) _
theorem appW_blocks (w : World) (s : Sp) (c : Cl) : (appW w s c).heap[w.heap.size]? = some (.cells #[.int .i64 s.kind, .int .i64 s.p, .int .i64 s.q] 23 (0, 0)) ∧ (appW w s c).heap[w.heap.size + 1]? = some (.cells #[.int .i64 c.thread, .int .i64 c.obj, .int .i64 c.kind, .int .u64 c.a, .int .u64 c.b, .int .u64 c.c] 27 (0, 0)) ∧
    (appW w s c).heap[w.heap.size + 2]? = some (.cells #[.int .i64 0, .int .u64 0, .slice none 0 0] 57 (0, 0)) := by
  refine ⟨?_, ?_, ?_⟩
  · exact (heap_alloc_old _ _ (by simp; omega)).trans ((heap_alloc_old _ _ (by simp)).trans (heap_alloc_new w _))
  · have h := heap_alloc_new (w.alloc (.cells #[.int .i64 s.kind, .int .i64 s.p, .int .i64 s.q] 23)) (.cells #[.int .i64 c.thread, .int .i64 c.obj, .int .i64 c.kind, .int .u64 c.a, .int .u64 c.b, .int .u64 c.c] 27)
    exact (heap_alloc_old _ _ (by simp)).trans (by simpa using h)
  · have h := heap_alloc_new ((w.alloc (.cells #[.int .i64 s.kind, .int .i64 s.p, .int .i64 s.q] 23)).alloc (.cells #[.int .i64 c.thread, .int .i64 c.obj, .int .i64 c.kind, .int .u64 c.a, .int .u64 c.b, .int .u64 c.c] 27)) (.cells #[.int .i64 0, .int .u64 0, .slice none 0 0] 57)
    simpa using h
theorem cells6 {w : World} {g : Nat} {x0 x1 x2 x3 x4 x5 : Value} {t : TypeId} (h : w.heap[g]? = some (.cells #[x0, x1, x2, x3, x4, x5] t (0, 0))) :
    w.cell? ⟨g, 0, none⟩ = some x0 ∧ w.cell? ⟨g, 1, none⟩ = some x1 ∧ w.cell? ⟨g, 2, none⟩ = some x2 ∧ w.cell? ⟨g, 3, none⟩ = some x3 ∧ w.cell? ⟨g, 4, none⟩ = some x4 ∧ w.cell? ⟨g, 5, none⟩ = some x5 ∧ g < w.heap.size :=
  ⟨cell_of_row w g 0 _ t _ h, cell_of_row w g 1 _ t _ h, cell_of_row w g 2 _ t _ h, cell_of_row w g 3 _ t _ h, cell_of_row w g 4 _ t _ h, cell_of_row w g 5 _ t _ h, (Array.getElem?_eq_some_iff.1 h).1⟩
theorem refuse_post {n : Int} {s : Sp} {st : List Int} {c : Cl} {w w4 w' : World} {v4 : Value} {m r : Nat} {E : Int} {cs : Array Value} (hA : applyM n s st c = (st, ⟨E, 0, []⟩)) (hm : st.length = m) (ho : WOwn w4 w.heap.size v4 m st) (hW : Below w.heap.size w w4) (hr : w4.heap[r]? = some (.cells cs 57 (0, 0))) (hrw : w.heap.size ≤ r) (h' : Keep (fun j => j ≠ r ∧ j < w4.heap.size) w4 w') :
    ApPost n s st c w (.returned (.tuple #[v4, .agg #[.int .i64 E, .int .u64 0, .slice none 0 0]])) w' := by
  subst hm
  unfold ApPost
  rw [hA]
  refine ⟨v4, _, rfl, ?_, World.ownsRow_nil _ _ _ _, hW.trans (h'.below (fun k hk => ⟨by omega, by have := hW.size; omega⟩))⟩
  obtain ⟨h1, h2 | ⟨g, cap, cur, e1, e2, e3, e4⟩⟩ := ho
  · exact ⟨h1, Or.inl h2⟩
  · refine ⟨h1, Or.inr ⟨g, cap, cur, e1, e2, (h'.block g ⟨?_, (Array.getElem?_eq_some_iff.1 e3).1⟩).trans e3, e4⟩⟩
    intro hgr
    rw [hgr, hr] at e3
    cases e3
set_option maxRecDepth 100000 in
set_option maxHeartbeats 2000000 in
theorem mapply_1 (n : Int) (s : Sp) (c : Cl) (A : Option Addr) (m vc : Nat) (st : List Int) (w : World) (h : SlW w (.slice A m vc) st) (hm : st.length = m) (hl : m ≤ 10000) (hq : rightM n s st = false ∨ ¬ (0 ≤ c.thread ∧ c.thread < n)) :
    Calls Tryz.prog 40 #[.int .i64 n, spV s, .slice A m vc, clV c] w (ApPost n s st c w) := by
  have N0 := fun W (h : SlW W (.slice A m vc) st) => mright_any n s A m vc st W h hm (by omega)
  have NC := fun W (h : SlW W (.slice A m vc) st) => clone_any (.slice A m vc) st W h (by omega)
  have hA : applyM n s st c = (st, ⟨1, 0, []⟩) := by unfold applyM; rw [if_pos hq]; rfl
  have HS := hide h
  have HM := hide hm
  have HA := hide hA
  obtain ⟨R, hR⟩ : ∃ R, rightM n s st = R := ⟨_, rfl⟩
  rw [hR] at N0 hq
  clear h hm hA hR
  rcases hq with rfl | hq
  · go_enter Tryz.func40, Tryz.ntmps40
    go_wp2_with fail
    refine (N0 _ ?_).mono ?_
    · exact HS.out.below (appW_below w s c) (Nat.le_refl _)
    rintro e w1 ⟨rfl, hb1⟩
    have hB1 : Below (w.heap.size + 3) (appW w s c) w1 := hb1.mono (by simp)
    clear hb1
    have hba := appW_blocks w s c
    obtain ⟨s0, s1, s2, _, _, _, sz⟩ := cells3 ((hB1.block w.heap.size (by omega)).trans hba.1)
    obtain ⟨c0, c1, c2, c3, c4, c5, cz⟩ := cells6 ((hB1.block (w.heap.size + 1) (by omega)).trans hba.2.1)
    obtain ⟨r0, r1, r2, g0, g1, g2, rz⟩ := cells3 ((hB1.block (w.heap.size + 2) (by omega)).trans hba.2.2)
    have HB1 := hide hB1
    have HW1 : Hid (Below w.heap.size w w1) := hide ((appW_below w s c).trans (hB1.mono (by omega)))
    clear hba hB1
    have HBX := HB1
    have HWX := HW1
    have HZX : Hid (w.heap.size ≤ w1.heap.size) := hide (by omega)
    have HZX3 : Hid (w.heap.size + 3 ≤ w1.heap.size) := hide (by omega)
    go_wp2_with fail
    refine (NC _ ?_).mono ?_
    · exact HS.out.below HWX.out (Nat.le_refl _)
    rintro e w4 ⟨v4, rfl, hown, hb4⟩
    have hown4 : WOwn w4 w.heap.size v4 m st := by have h := World.ownsRow.mono (base' := w.heap.size) hown HZX.out; rw [HM.out] at h; exact h
    have hB4 : Below (w.heap.size + 3) (appW w s c) w4 := HBX.out.trans (hb4.mono HZX3.out)
    obtain ⟨A4, c4', rfl⟩ := own_slice hown4
    have HO4 := hide hown4
    obtain ⟨r0, r1, r2, g0, g1, g2, rz⟩ := cells3 ((hB4.block (w.heap.size + 2) (by omega)).trans (appW_blocks w s c).2.2)
    have HW4 : Hid (Below w.heap.size w w4) := hide ((appW_below w s c).trans (hB4.mono (by omega)))
    have HR4 := hide ((hB4.block (w.heap.size + 2) (by omega)).trans (appW_blocks w s c).2.2)
    clear hown hown4 hb4 hB4
    go_wp2_with fail
    refine (mno_any _ _).mono ?_
    rintro e w5 ⟨rfl, rfl⟩
    go_wp2
    refine bodyPost_ret (v := .tuple #[.slice A4 m c4', .agg #[.int .i64 1, .int .u64 0, .slice none 0 0]]) (by simp [results, Tryz.results40, go_sem, *]) rfl ?_
    exact refuse_post HA.out HM.out HO4.out HW4.out HR4.out (by omega) (by (repeat' (first | exact Keep.refl _ _ | refine Keep.setCell ?_ (by simp) _ | refine Keep.drew ?_ | refine Keep.alloc ?_ (by intro k hk; have := hk.2; simp; omega) _)))
  · cases R
    · go_enter Tryz.func40, Tryz.ntmps40
      go_wp2_with fail
      refine (N0 _ ?_).mono ?_
      · exact HS.out.below (appW_below w s c) (Nat.le_refl _)
      rintro e w1 ⟨rfl, hb1⟩
      have hB1 : Below (w.heap.size + 3) (appW w s c) w1 := hb1.mono (by simp)
      clear hb1
      have hba := appW_blocks w s c
      obtain ⟨s0, s1, s2, _, _, _, sz⟩ := cells3 ((hB1.block w.heap.size (by omega)).trans hba.1)
      obtain ⟨c0, c1, c2, c3, c4, c5, cz⟩ := cells6 ((hB1.block (w.heap.size + 1) (by omega)).trans hba.2.1)
      obtain ⟨r0, r1, r2, g0, g1, g2, rz⟩ := cells3 ((hB1.block (w.heap.size + 2) (by omega)).trans hba.2.2)
      have HB1 := hide hB1
      have HW1 : Hid (Below w.heap.size w w1) := hide ((appW_below w s c).trans (hB1.mono (by omega)))
      clear hba hB1
      have HBX := HB1
      have HWX := HW1
      have HZX : Hid (w.heap.size ≤ w1.heap.size) := hide (by omega)
      have HZX3 : Hid (w.heap.size + 3 ≤ w1.heap.size) := hide (by omega)
      go_wp2_with fail
      refine (NC _ ?_).mono ?_
      · exact HS.out.below HWX.out (Nat.le_refl _)
      rintro e w4 ⟨v4, rfl, hown, hb4⟩
      have hown4 : WOwn w4 w.heap.size v4 m st := by have h := World.ownsRow.mono (base' := w.heap.size) hown HZX.out; rw [HM.out] at h; exact h
      have hB4 : Below (w.heap.size + 3) (appW w s c) w4 := HBX.out.trans (hb4.mono HZX3.out)
      obtain ⟨A4, c4', rfl⟩ := own_slice hown4
      have HO4 := hide hown4
      obtain ⟨r0, r1, r2, g0, g1, g2, rz⟩ := cells3 ((hB4.block (w.heap.size + 2) (by omega)).trans (appW_blocks w s c).2.2)
      have HW4 : Hid (Below w.heap.size w w4) := hide ((appW_below w s c).trans (hB4.mono (by omega)))
      have HR4 := hide ((hB4.block (w.heap.size + 2) (by omega)).trans (appW_blocks w s c).2.2)
      clear hown hown4 hb4 hB4
      go_wp2_with fail
      refine (mno_any _ _).mono ?_
      rintro e w5 ⟨rfl, rfl⟩
      go_wp2
      refine bodyPost_ret (v := .tuple #[.slice A4 m c4', .agg #[.int .i64 1, .int .u64 0, .slice none 0 0]]) (by simp [results, Tryz.results40, go_sem, *]) rfl ?_
      exact refuse_post HA.out HM.out HO4.out HW4.out HR4.out (by omega) (by (repeat' (first | exact Keep.refl _ _ | refine Keep.setCell ?_ (by simp) _ | refine Keep.drew ?_ | refine Keep.alloc ?_ (by intro k hk; have := hk.2; simp; omega) _)))
    · rcases (by omega : c.thread < 0 ∨ (0 ≤ c.thread ∧ n ≤ c.thread)) with ht | ⟨ht, ht'⟩
      · have d0 : decide (c.thread < 0) = true := by simpa using ht
        clear hq
        go_enter Tryz.func40, Tryz.ntmps40
        go_wp2_with fail
        refine (N0 _ ?_).mono ?_
        · exact HS.out.below (appW_below w s c) (Nat.le_refl _)
        rintro e w1 ⟨rfl, hb1⟩
        have hB1 : Below (w.heap.size + 3) (appW w s c) w1 := hb1.mono (by simp)
        clear hb1
        have hba := appW_blocks w s c
        obtain ⟨s0, s1, s2, _, _, _, sz⟩ := cells3 ((hB1.block w.heap.size (by omega)).trans hba.1)
        obtain ⟨c0, c1, c2, c3, c4, c5, cz⟩ := cells6 ((hB1.block (w.heap.size + 1) (by omega)).trans hba.2.1)
        obtain ⟨r0, r1, r2, g0, g1, g2, rz⟩ := cells3 ((hB1.block (w.heap.size + 2) (by omega)).trans hba.2.2)
        have HB1 := hide hB1
        have HW1 : Hid (Below w.heap.size w w1) := hide ((appW_below w s c).trans (hB1.mono (by omega)))
        clear hba hB1
        have HBX := HB1
        have HWX := HW1
        have HZX : Hid (w.heap.size ≤ w1.heap.size) := hide (by omega)
        have HZX3 : Hid (w.heap.size + 3 ≤ w1.heap.size) := hide (by omega)
        go_wp2_with fail
        refine (NC _ ?_).mono ?_
        · exact HS.out.below HWX.out (Nat.le_refl _)
        rintro e w4 ⟨v4, rfl, hown, hb4⟩
        have hown4 : WOwn w4 w.heap.size v4 m st := by have h := World.ownsRow.mono (base' := w.heap.size) hown HZX.out; rw [HM.out] at h; exact h
        have hB4 : Below (w.heap.size + 3) (appW w s c) w4 := HBX.out.trans (hb4.mono HZX3.out)
        obtain ⟨A4, c4', rfl⟩ := own_slice hown4
        have HO4 := hide hown4
        obtain ⟨r0, r1, r2, g0, g1, g2, rz⟩ := cells3 ((hB4.block (w.heap.size + 2) (by omega)).trans (appW_blocks w s c).2.2)
        have HW4 : Hid (Below w.heap.size w w4) := hide ((appW_below w s c).trans (hB4.mono (by omega)))
        have HR4 := hide ((hB4.block (w.heap.size + 2) (by omega)).trans (appW_blocks w s c).2.2)
        clear hown hown4 hb4 hB4
        go_wp2_with fail
        refine (mno_any _ _).mono ?_
        rintro e w5 ⟨rfl, rfl⟩
        go_wp2
        refine bodyPost_ret (v := .tuple #[.slice A4 m c4', .agg #[.int .i64 1, .int .u64 0, .slice none 0 0]]) (by simp [results, Tryz.results40, go_sem, *]) rfl ?_
        exact refuse_post HA.out HM.out HO4.out HW4.out HR4.out (by omega) (by (repeat' (first | exact Keep.refl _ _ | refine Keep.setCell ?_ (by simp) _ | refine Keep.drew ?_ | refine Keep.alloc ?_ (by intro k hk; have := hk.2; simp; omega) _)))
      · have d0 : decide (c.thread < 0) = false := by simpa using ht
        have d1 : decide (n ≤ c.thread) = true := by simpa using ht'
        clear hq
        go_enter Tryz.func40, Tryz.ntmps40
        go_wp2_with fail
        refine (N0 _ ?_).mono ?_
        · exact HS.out.below (appW_below w s c) (Nat.le_refl _)
        rintro e w1 ⟨rfl, hb1⟩
        have hB1 : Below (w.heap.size + 3) (appW w s c) w1 := hb1.mono (by simp)
        clear hb1
        have hba := appW_blocks w s c
        obtain ⟨s0, s1, s2, _, _, _, sz⟩ := cells3 ((hB1.block w.heap.size (by omega)).trans hba.1)
        obtain ⟨c0, c1, c2, c3, c4, c5, cz⟩ := cells6 ((hB1.block (w.heap.size + 1) (by omega)).trans hba.2.1)
        obtain ⟨r0, r1, r2, g0, g1, g2, rz⟩ := cells3 ((hB1.block (w.heap.size + 2) (by omega)).trans hba.2.2)
        have HB1 := hide hB1
        have HW1 : Hid (Below w.heap.size w w1) := hide ((appW_below w s c).trans (hB1.mono (by omega)))
        clear hba hB1
        have HBX := HB1
        have HWX := HW1
        have HZX : Hid (w.heap.size ≤ w1.heap.size) := hide (by omega)
        have HZX3 : Hid (w.heap.size + 3 ≤ w1.heap.size) := hide (by omega)
        go_wp2_with fail
        refine (NC _ ?_).mono ?_
        · exact HS.out.below HWX.out (Nat.le_refl _)
        rintro e w4 ⟨v4, rfl, hown, hb4⟩
        have hown4 : WOwn w4 w.heap.size v4 m st := by have h := World.ownsRow.mono (base' := w.heap.size) hown HZX.out; rw [HM.out] at h; exact h
        have hB4 : Below (w.heap.size + 3) (appW w s c) w4 := HBX.out.trans (hb4.mono HZX3.out)
        obtain ⟨A4, c4', rfl⟩ := own_slice hown4
        have HO4 := hide hown4
        obtain ⟨r0, r1, r2, g0, g1, g2, rz⟩ := cells3 ((hB4.block (w.heap.size + 2) (by omega)).trans (appW_blocks w s c).2.2)
        have HW4 : Hid (Below w.heap.size w w4) := hide ((appW_below w s c).trans (hB4.mono (by omega)))
        have HR4 := hide ((hB4.block (w.heap.size + 2) (by omega)).trans (appW_blocks w s c).2.2)
        clear hown hown4 hb4 hB4
        go_wp2_with fail
        refine (mno_any _ _).mono ?_
        rintro e w5 ⟨rfl, rfl⟩
        go_wp2
        refine bodyPost_ret (v := .tuple #[.slice A4 m c4', .agg #[.int .i64 1, .int .u64 0, .slice none 0 0]]) (by simp [results, Tryz.results40, go_sem, *]) rfl ?_
        exact refuse_post HA.out HM.out HO4.out HW4.out HR4.out (by omega) (by (repeat' (first | exact Keep.refl _ _ | refine Keep.setCell ?_ (by simp) _ | refine Keep.drew ?_ | refine Keep.alloc ?_ (by intro k hk; have := hk.2; simp; omega) _)))
set_option maxRecDepth 100000 in
set_option maxHeartbeats 2000000 in
theorem mapply_9 (n : Int) (s : Sp) (c : Cl) (A : Option Addr) (m vc : Nat) (st : List Int) (w : World) (h : SlW w (.slice A m vc) st) (hm : st.length = m) (hl : m ≤ 10000) (hR : rightM n s st = true) (ht0 : 0 ≤ c.thread) (ht1 : c.thread < n) (hk : ¬ (0 ≤ c.kind ∧ c.kind < actsT s.kind s.p)) :
    Calls Tryz.prog 40 #[.int .i64 n, spV s, .slice A m vc, clV c] w (ApPost n s st c w) := by
  have N0 := fun W (h : SlW W (.slice A m vc) st) => mright_any n s A m vc st W h hm (by omega)
  have NC := fun W (h : SlW W (.slice A m vc) st) => clone_any (.slice A m vc) st W h (by omega)
  have NK := fun W => tkinds_any s W
  have hA : applyM n s st c = (st, ⟨9, 0, []⟩) := by unfold applyM; rw [if_neg (by rw [hR]; simp; omega), if_pos hk]; rfl
  have HS := hide h
  have HM := hide hm
  have HA := hide hA
  rw [hR] at N0
  have d0 : decide (c.thread < 0) = false := by simpa using ht0
  have d1 : decide (n ≤ c.thread) = false := by simpa using ht1
  generalize actsT s.kind s.p = KK at *
  clear h hm hA hR ht0 ht1
  rcases (by omega : c.kind < 0 ∨ (0 ≤ c.kind ∧ KK ≤ c.kind)) with hk0 | ⟨hk0, hk1⟩
  · have d2 : decide (c.kind < 0) = true := by simpa using hk0
    clear hk
    go_enter Tryz.func40, Tryz.ntmps40
    go_wp2_with fail
    refine (N0 _ ?_).mono ?_
    · exact HS.out.below (appW_below w s c) (Nat.le_refl _)
    rintro e w1 ⟨rfl, hb1⟩
    have hB1 : Below (w.heap.size + 3) (appW w s c) w1 := hb1.mono (by simp)
    clear hb1
    have hba := appW_blocks w s c
    obtain ⟨s0, s1, s2, _, _, _, sz⟩ := cells3 ((hB1.block w.heap.size (by omega)).trans hba.1)
    obtain ⟨c0, c1, c2, c3, c4, c5, cz⟩ := cells6 ((hB1.block (w.heap.size + 1) (by omega)).trans hba.2.1)
    obtain ⟨r0, r1, r2, g0, g1, g2, rz⟩ := cells3 ((hB1.block (w.heap.size + 2) (by omega)).trans hba.2.2)
    have HB1 := hide hB1
    have HW1 : Hid (Below w.heap.size w w1) := hide ((appW_below w s c).trans (hB1.mono (by omega)))
    clear hba hB1
    go_wp2_with fail
    refine wp_region_seq (Below w1.heap.size w1) (.take 0 <| .take 1 <| .take 2 <| .take 3 <| .take 4 <| .take 5 <| .take 6 <| .run 7 <| .take 8 <| .take 9 <| .take 10 <| .done) (by kernel_rfl) (by kernel_rfl) (by kernel_rfl) (by (repeat' (first | exact Below.refl _ _ | assumption | refine Below.drew ?_ | refine below_drewN ?_ _ | refine Below.alloc ?_ (by simp <;> omega) _ | refine Below.setCell ?_ (by simp <;> omega) _))) ?_
    repeat (first | (refine seq_take (v := ?_) rfl (by rfl) ?_ ?_; rotate_left; (focus (intro wS hS; have z0 := (hS.cell (p := ⟨w.heap.size, 0, none⟩) sz).trans s0; have z1 := (hS.cell (p := ⟨w.heap.size, 1, none⟩) sz).trans s1; have z2 := (hS.cell (p := ⟨w.heap.size, 2, none⟩) sz).trans s2; have y0 := (hS.cell (p := ⟨w.heap.size + 1, 0, none⟩) cz).trans c0; have y1 := (hS.cell (p := ⟨w.heap.size + 1, 1, none⟩) cz).trans c1; have y2 := (hS.cell (p := ⟨w.heap.size + 1, 2, none⟩) cz).trans c2; have y3 := (hS.cell (p := ⟨w.heap.size + 1, 3, none⟩) cz).trans c3; have y4 := (hS.cell (p := ⟨w.heap.size + 1, 4, none⟩) cz).trans c4; have y5 := (hS.cell (p := ⟨w.heap.size + 1, 5, none⟩) cz).trans c5; go_simp; exact rfl)); simp only [Act.put, sqA, sqB, sqC]) | (refine seq_skip rfl (by rfl) ?_; simp only [Act.put, sqA, sqB, sqC]))
    refine seq_pass rfl (by rfl) (by (repeat' (first | exact Below.refl _ _ | assumption | refine Below.drew ?_ | refine below_drewN ?_ _ | refine Below.alloc ?_ (by simp <;> omega) _ | refine Below.setCell ?_ (by simp <;> omega) _))) ?_
    simp only [Act.put, sqA, sqB, sqC]
    repeat (first | (refine seq_take (v := ?_) rfl (by rfl) ?_ ?_; rotate_left; (focus (intro wS hS; have z0 := (hS.cell (p := ⟨w.heap.size, 0, none⟩) sz).trans s0; have z1 := (hS.cell (p := ⟨w.heap.size, 1, none⟩) sz).trans s1; have z2 := (hS.cell (p := ⟨w.heap.size, 2, none⟩) sz).trans s2; have y0 := (hS.cell (p := ⟨w.heap.size + 1, 0, none⟩) cz).trans c0; have y1 := (hS.cell (p := ⟨w.heap.size + 1, 1, none⟩) cz).trans c1; have y2 := (hS.cell (p := ⟨w.heap.size + 1, 2, none⟩) cz).trans c2; have y3 := (hS.cell (p := ⟨w.heap.size + 1, 3, none⟩) cz).trans c3; have y4 := (hS.cell (p := ⟨w.heap.size + 1, 4, none⟩) cz).trans c4; have y5 := (hS.cell (p := ⟨w.heap.size + 1, 5, none⟩) cz).trans c5; go_simp; exact rfl)); simp only [Act.put, sqA, sqB, sqC]) | (refine seq_skip rfl (by rfl) ?_; simp only [Act.put, sqA, sqB, sqC]))
    refine seq_nil ?_
    have HB1 := hide HB1.out.drew
    have HW1 := hide HW1.out.drew
    have HBX := HB1
    have HWX := HW1
    have HZX := hide HW1.out.size
    have HZX3 := hide (show w.heap.size + 3 ≤ _ from (by have := HB1.out.size; simpa using this))
    clear s0 s1 s2 c0 c1 c2 c3 c4 c5 r0 r1 r2 g0 g1 g2
    go_wp2_with fail
    refine (NC _ ?_).mono ?_
    · exact HS.out.below HWX.out (Nat.le_refl _)
    rintro e w4 ⟨v4, rfl, hown, hb4⟩
    have hown4 : WOwn w4 w.heap.size v4 m st := by have h := World.ownsRow.mono (base' := w.heap.size) hown HZX.out; rw [HM.out] at h; exact h
    have hB4 : Below (w.heap.size + 3) (appW w s c) w4 := HBX.out.trans (hb4.mono HZX3.out)
    obtain ⟨A4, c4', rfl⟩ := own_slice hown4
    have HO4 := hide hown4
    obtain ⟨r0, r1, r2, g0, g1, g2, rz⟩ := cells3 ((hB4.block (w.heap.size + 2) (by omega)).trans (appW_blocks w s c).2.2)
    have HW4 : Hid (Below w.heap.size w w4) := hide ((appW_below w s c).trans (hB4.mono (by omega)))
    have HR4 := hide ((hB4.block (w.heap.size + 2) (by omega)).trans (appW_blocks w s c).2.2)
    clear hown hown4 hb4 hB4
    go_wp2_with fail
    refine (mno_any _ _).mono ?_
    rintro e w5 ⟨rfl, rfl⟩
    go_wp2
    refine bodyPost_ret (v := .tuple #[.slice A4 m c4', .agg #[.int .i64 9, .int .u64 0, .slice none 0 0]]) (by simp [results, Tryz.results40, go_sem, *]) rfl ?_
    exact refuse_post HA.out HM.out HO4.out HW4.out HR4.out (by omega) (by (repeat' (first | exact Keep.refl _ _ | refine Keep.setCell ?_ (by simp) _ | refine Keep.drew ?_ | refine Keep.alloc ?_ (by intro k hk; have := hk.2; simp; omega) _)))
  · have d2 : decide (c.kind < 0) = false := by simpa using hk0
    have d3 : decide (KK ≤ c.kind) = true := by simpa using hk1
    clear hk
    go_enter Tryz.func40, Tryz.ntmps40
    go_wp2_with fail
    refine (N0 _ ?_).mono ?_
    · exact HS.out.below (appW_below w s c) (Nat.le_refl _)
    rintro e w1 ⟨rfl, hb1⟩
    have hB1 : Below (w.heap.size + 3) (appW w s c) w1 := hb1.mono (by simp)
    clear hb1
    have hba := appW_blocks w s c
    obtain ⟨s0, s1, s2, _, _, _, sz⟩ := cells3 ((hB1.block w.heap.size (by omega)).trans hba.1)
    obtain ⟨c0, c1, c2, c3, c4, c5, cz⟩ := cells6 ((hB1.block (w.heap.size + 1) (by omega)).trans hba.2.1)
    obtain ⟨r0, r1, r2, g0, g1, g2, rz⟩ := cells3 ((hB1.block (w.heap.size + 2) (by omega)).trans hba.2.2)
    have HB1 := hide hB1
    have HW1 : Hid (Below w.heap.size w w1) := hide ((appW_below w s c).trans (hB1.mono (by omega)))
    clear hba hB1
    go_wp2_with fail
    refine wp_region_seq (Below w1.heap.size w1) (.take 0 <| .take 1 <| .take 2 <| .take 3 <| .take 4 <| .take 5 <| .take 6 <| .run 7 <| .take 8 <| .take 9 <| .take 10 <| .done) (by kernel_rfl) (by kernel_rfl) (by kernel_rfl) (by (repeat' (first | exact Below.refl _ _ | assumption | refine Below.drew ?_ | refine below_drewN ?_ _ | refine Below.alloc ?_ (by simp <;> omega) _ | refine Below.setCell ?_ (by simp <;> omega) _))) ?_
    repeat (first | (refine seq_take (v := ?_) rfl (by rfl) ?_ ?_; rotate_left; (focus (intro wS hS; have z0 := (hS.cell (p := ⟨w.heap.size, 0, none⟩) sz).trans s0; have z1 := (hS.cell (p := ⟨w.heap.size, 1, none⟩) sz).trans s1; have z2 := (hS.cell (p := ⟨w.heap.size, 2, none⟩) sz).trans s2; have y0 := (hS.cell (p := ⟨w.heap.size + 1, 0, none⟩) cz).trans c0; have y1 := (hS.cell (p := ⟨w.heap.size + 1, 1, none⟩) cz).trans c1; have y2 := (hS.cell (p := ⟨w.heap.size + 1, 2, none⟩) cz).trans c2; have y3 := (hS.cell (p := ⟨w.heap.size + 1, 3, none⟩) cz).trans c3; have y4 := (hS.cell (p := ⟨w.heap.size + 1, 4, none⟩) cz).trans c4; have y5 := (hS.cell (p := ⟨w.heap.size + 1, 5, none⟩) cz).trans c5; go_simp; exact rfl)); simp only [Act.put, sqA, sqB, sqC]) | (refine seq_skip rfl (by rfl) ?_; simp only [Act.put, sqA, sqB, sqC]))
    refine seq_run rfl (by rfl) (fun K hK => ?_)
    go_simp
    refine (NK _).mono ?_
    rintro e w2 ⟨rfl, hb2⟩
    have hB2 : Below w1.heap.size w1 w2 := (Below.refl _ _).drew.trans (hb2.mono (by simp))
    refine hK _ _ hB2 ?_
    clear hK K
    repeat (first | (refine seq_take (v := ?_) rfl (by rfl) ?_ ?_; rotate_left; (focus (intro wS hS; have z0 := (hS.cell (p := ⟨w.heap.size, 0, none⟩) sz).trans s0; have z1 := (hS.cell (p := ⟨w.heap.size, 1, none⟩) sz).trans s1; have z2 := (hS.cell (p := ⟨w.heap.size, 2, none⟩) sz).trans s2; have y0 := (hS.cell (p := ⟨w.heap.size + 1, 0, none⟩) cz).trans c0; have y1 := (hS.cell (p := ⟨w.heap.size + 1, 1, none⟩) cz).trans c1; have y2 := (hS.cell (p := ⟨w.heap.size + 1, 2, none⟩) cz).trans c2; have y3 := (hS.cell (p := ⟨w.heap.size + 1, 3, none⟩) cz).trans c3; have y4 := (hS.cell (p := ⟨w.heap.size + 1, 4, none⟩) cz).trans c4; have y5 := (hS.cell (p := ⟨w.heap.size + 1, 5, none⟩) cz).trans c5; go_simp; exact rfl)); simp only [Act.put, sqA, sqB, sqC]) | (refine seq_skip rfl (by rfl) ?_; simp only [Act.put, sqA, sqB, sqC]))
    refine seq_nil ?_
    have HB1 := hide (HB1.out.trans (hB2.mono (by omega)))
    have HW1 := hide (HW1.out.trans (hB2.mono (by omega)))
    have hz2 : w1.heap.size ≤ w2.heap.size := hB2.size
    clear hb2 hB2
    obtain ⟨w1', hw1'⟩ : ∃ w1' : World, w1' = w1 := ⟨_, rfl⟩
    rw [← hw1'] at hz2
    clear hw1'
    have HBX := HB1
    have HWX := HW1
    have HZX := hide HW1.out.size
    have HZX3 := hide (show w.heap.size + 3 ≤ _ from (by have := HB1.out.size; simpa using this))
    clear s0 s1 s2 c0 c1 c2 c3 c4 c5 r0 r1 r2 g0 g1 g2
    go_wp2_with fail
    refine (NC _ ?_).mono ?_
    · exact HS.out.below HWX.out (Nat.le_refl _)
    rintro e w4 ⟨v4, rfl, hown, hb4⟩
    have hown4 : WOwn w4 w.heap.size v4 m st := by have h := World.ownsRow.mono (base' := w.heap.size) hown HZX.out; rw [HM.out] at h; exact h
    have hB4 : Below (w.heap.size + 3) (appW w s c) w4 := HBX.out.trans (hb4.mono HZX3.out)
    obtain ⟨A4, c4', rfl⟩ := own_slice hown4
    have HO4 := hide hown4
    obtain ⟨r0, r1, r2, g0, g1, g2, rz⟩ := cells3 ((hB4.block (w.heap.size + 2) (by omega)).trans (appW_blocks w s c).2.2)
    have HW4 : Hid (Below w.heap.size w w4) := hide ((appW_below w s c).trans (hB4.mono (by omega)))
    have HR4 := hide ((hB4.block (w.heap.size + 2) (by omega)).trans (appW_blocks w s c).2.2)
    clear hown hown4 hb4 hB4
    go_wp2_with fail
    refine (mno_any _ _).mono ?_
    rintro e w5 ⟨rfl, rfl⟩
    go_wp2
    refine bodyPost_ret (v := .tuple #[.slice A4 m c4', .agg #[.int .i64 9, .int .u64 0, .slice none 0 0]]) (by simp [results, Tryz.results40, go_sem, *]) rfl ?_
    exact refuse_post HA.out HM.out HO4.out HW4.out HR4.out (by omega) (by (repeat' (first | exact Keep.refl _ _ | refine Keep.setCell ?_ (by simp) _ | refine Keep.drew ?_ | refine Keep.alloc ?_ (by intro k hk; have := hk.2; simp; omega) _)))
end Go.Proofs.YtmiimpmfkjcjlaaGreat
