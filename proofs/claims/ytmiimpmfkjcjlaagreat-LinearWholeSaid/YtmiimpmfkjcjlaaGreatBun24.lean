import Derived.Test.YtmiimpmfkjcjlaaGreatBun23
import Derived.Test.YtmiimpmfkjcjlaaGreatBun11
import Derived.IntWalk
namespace Go.Proofs.YtmiimpmfkjcjlaaGreat
open Go.RowKit
attribute [local go_sem] run_store_fn run_store_nilfn
set_option maxRecDepth 100000 in
set_option maxHeartbeats 2000000 in
theorem rcons_any (c : Cl) (B m : Nat) (v : Value) (st : List Int) (w : World) (hO : WOwn w B v m st) (hm : 0 < m) (hB : B ≤ w.heap.size) (ha : U64 c.a) (hu : ∀ z ∈ st, U64 z) :
    Calls Tryz.prog 85 #[v, clV c] w (RPost B (if ¬ (0 ≤ c.kind ∧ c.kind < 2) then (st, anE 9) else consM st c) w) := by
  obtain ⟨g, cap, rfl, hBg, hg, hl, hmx, hf⟩ := wo_parts hO hm
  have hm1 : (0 : Int) < (m : Int) := by omega
  have hm2 : (m : Int) ≤ 9223372036854775807 := by unfold maxLen at hmx; omega
  obtain ⟨x, hx⟩ : ∃ x, st[0]? = some x := ⟨_, List.getElem?_eq_getElem (by omega)⟩
  have hat : at0 st 0 = x := by unfold at0; rw [hx]; rfl
  obtain ⟨hx0, hx1⟩ := hu x (List.mem_of_getElem? hx)
  obtain ⟨ha0, ha1⟩ := ha
  have c0 := wo_cell hO hx
  have f0 := hf 0
  have HO := hide hO
  have HL := hide hl
  clear hO hl hf hu hx
  rcases (by omega : c.kind = 1 ∨ (c.kind = 0 ∧ c.a < 4294967296) ∨ (c.kind = 0 ∧ 4294967296 ≤ c.a) ∨ ¬ (0 ≤ c.kind ∧ c.kind < 2)) with hk | ⟨hk, hk'⟩ | ⟨hk, hk'⟩ | hk
  · by_cases hx2 : x = 0
    · subst hx2
      have hR : (if ¬ (0 ≤ c.kind ∧ c.kind < 2) then (st, anE 9) else consM st c) = (st, ⟨7, 0, []⟩) := by
        unfold consM
        rw [if_neg (by omega), if_neg (by omega), if_pos ⟨hk, hat⟩]
        rfl
      rw [hR]
      clear hR hat
      have d0 : (c.kind == 0) = false := by simp; omega
      have d1 : (c.kind == 1) = true := by simpa using hk
      have n0 : (c.kind != 0) = true := by simp; omega
      have n1 : (c.kind != 1) = false := by simp; omega
      clear hk
      go_enter Tryz.func85, Tryz.ntmps85
      go_wp2
      refine bodyPost_ret (v := .tuple #[.slice (some ⟨g, 0, none⟩) m cap, .agg #[.int .i64 7, .int .u64 0, .slice none 0 0]]) (by simp [results, Tryz.results85, go_sem, *]) rfl ?_
      refine ra_same HO.out HL.out hmx hB ?_
      (repeat' (first | exact Keep.refl _ _ | refine Keep.alloc ?_ (fun k (hk : k < w.heap.size) => by first | exact hk | (simp; omega)) _ | refine Keep.setCell ?_ (by simp) _ | refine Keep.drew ?_))
    · have e0 : (x == 0) = false := by simpa using hx2
      have hw : IntKind.u64.wrap (x - 1) = x - 1 := by rw [IntKind.wrap_u64]; omega
      have hR : (if ¬ (0 ≤ c.kind ∧ c.kind < 2) then (st, anE 9) else consM st c) = (st, ⟨0, x - 1, []⟩) := by
        unfold consM
        rw [if_neg (by omega), if_neg (by omega), hat, if_neg (by omega), if_neg hx2]
        rfl
      rw [hR]
      clear hR hat
      have d0 : (c.kind == 0) = false := by simp; omega
      have d1 : (c.kind == 1) = true := by simpa using hk
      have n0 : (c.kind != 0) = true := by simp; omega
      have n1 : (c.kind != 1) = false := by simp; omega
      clear hk
      go_enter Tryz.func85, Tryz.ntmps85
      go_wp2_with fail
      obtain ⟨W, hW⟩ : ∃ W, W = (w.alloc (.cells #[.int .i64 c.thread, .int .i64 c.obj, .int .i64 c.kind, .int .u64 c.a, .int .u64 c.b, .int .u64 c.c] 27)).alloc (.cells #[.int .i64 0, .int .u64 0, .slice none 0 0] 57) := ⟨_, rfl⟩
      have q0 : W.cell? ⟨g, 0, none⟩ = some (.int .u64 x) := by rw [hW]; go_simp
      have hgW : g < W.heap.size := by rw [hW]; simp; omega
      have HKW : Hid (Keep (fun k => k < w.heap.size) w W) := hide (by rw [hW]; (repeat' (first | exact Keep.refl _ _ | refine Keep.alloc ?_ (fun k (hk : k < w.heap.size) => by first | exact hk | (simp; omega)) _ | refine Keep.setCell ?_ (by simp) _ | refine Keep.drew ?_)))
      have r0 : W.heap[w.heap.size + 1]? = some (.cells #[.int .i64 0, .int .u64 0, .slice none 0 0] 57 (0, 0)) := by
        have hs : ∀ o, (w.alloc o).heap.size = w.heap.size + 1 := fun o => by simp
        have h := heap_alloc_new (w.alloc (.cells #[.int .i64 c.thread, .int .i64 c.obj, .int .i64 c.kind, .int .u64 c.a, .int .u64 c.b, .int .u64 c.c] 27)) (.cells #[.int .i64 0, .int .u64 0, .slice none 0 0] 57)
        rw [hs] at h
        rw [hW]
        exact h
      rw [← hW]
      obtain ⟨z0, z1, z2, g0, g1, g2, rz⟩ := cells3 r0
      clear hW r0 c0 f0
      refine wp_region_seql (Below W.heap.size W) [7] (.take 0 <| .take 1 <| .take 2 <| .take 3 <| .take 4 <| .take 5 <| .take 6 <| .run 7 <| .done) (by kernel_rfl) (by kernel_rfl) (by kernel_rfl) (by (repeat' (first | exact Below.refl _ _ | assumption | refine Below.drew ?_ | refine below_drewN ?_ _ | refine Below.alloc ?_ (by simp <;> omega) _ | refine Below.setCell ?_ (by simp <;> omega) _))) ?_
      repeat (refine seql_take (v := ?_) rfl (by rfl) ?_ ?_; rotate_left; (focus (intro wS hS; have z0 := (hS.cell (p := ⟨g, 0, none⟩) hgW).trans q0; go_simp; exact rfl)); simp only [Act.put, sqA, sqB, sqC])
      refine seql_late rfl rfl (by rfl) (fun K hK => ?_)
      go_simp
      refine hK _ _ ?_
      clear hK K
      refine seql_nil ?_
      go_wp2
      refine bodyPost_ret (v := .tuple #[.slice (some ⟨g, 0, none⟩) m cap, .agg #[.int .i64 0, .int .u64 (x - 1), .slice none 0 0]]) (by simp [results, Tryz.results85, go_sem, *]) rfl ?_
      refine ra_same HO.out HL.out hmx hB (HKW.out.trans ?_)
      (repeat' (first | exact Keep.refl _ _ | refine Keep.alloc ?_ (fun k (hk : k < w.heap.size) => by first | exact hk | (simp; omega)) _ | refine Keep.setCell ?_ (by simp) _ | refine Keep.drew ?_))
  · by_cases hx2 : x = 0
    · subst hx2
      have hw : IntKind.u64.wrap (c.a + 1) = c.a + 1 := by rw [IntKind.wrap_u64]; omega
      have hw2 : IntKind.u64.wrap (c.a + 1 - 1) = c.a := by rw [IntKind.wrap_u64]; omega
      have hw3 : IntKind.u64.wrap c.a = c.a := by rw [IntKind.wrap_u64]; omega
      have hR : (if ¬ (0 ≤ c.kind ∧ c.kind < 2) then (st, anE 9) else consM st c) = (st.set 0 (c.a + 1), ⟨0, c.a, []⟩) := by
        unfold consM
        rw [if_neg (by omega), if_neg (by omega), hat, if_neg (by omega), if_pos rfl]
        rfl
      rw [hR]
      clear hR hat
      have d0 : (c.kind == 0) = true := by simpa using hk
      have d1 : (c.kind == 1) = false := by simp; omega
      have n0 : (c.kind != 0) = false := by simp; omega
      have e1 : decide (4294967296 ≤ c.a) = false := by simp; omega
      clear hk hk'
      go_enter Tryz.func85, Tryz.ntmps85
      go_wp2_with fail
      obtain ⟨W, hW⟩ : ∃ W, W = ((w.setCell ⟨g, 0, none⟩ (.int .u64 (c.a + 1))).alloc (.cells #[.int .i64 c.thread, .int .i64 c.obj, .int .i64 c.kind, .int .u64 c.a, .int .u64 c.b, .int .u64 c.c] 27)).alloc (.cells #[.int .i64 0, .int .u64 0, .slice none 0 0] 57) := ⟨_, rfl⟩
      have q0 : W.cell? ⟨g, 0, none⟩ = some (.int .u64 (c.a + 1)) := by rw [hW]; go_simp
      have hgW : g < W.heap.size := by rw [hW]; simp; omega
      have HKW : Hid (Keep (fun k => k < w.heap.size) (w.setCell ⟨g, 0, none⟩ (.int .u64 (c.a + 1))) W) := hide (by rw [hW]; (repeat' (first | exact Keep.refl _ _ | refine Keep.alloc ?_ (fun k (hk : k < w.heap.size) => by first | exact hk | (simp; omega)) _ | refine Keep.setCell ?_ (by simp) _ | refine Keep.drew ?_)))
      have r0 : W.heap[w.heap.size + 1]? = some (.cells #[.int .i64 0, .int .u64 0, .slice none 0 0] 57 (0, 0)) := by
        have hs : ∀ o, ((w.setCell ⟨g, 0, none⟩ (.int .u64 (c.a + 1))).alloc o).heap.size = w.heap.size + 1 := fun o => by simp
        have h := heap_alloc_new ((w.setCell ⟨g, 0, none⟩ (.int .u64 (c.a + 1))).alloc (.cells #[.int .i64 c.thread, .int .i64 c.obj, .int .i64 c.kind, .int .u64 c.a, .int .u64 c.b, .int .u64 c.c] 27)) (.cells #[.int .i64 0, .int .u64 0, .slice none 0 0] 57)
        rw [hs] at h
        rw [hW]
        exact h
      rw [← hW]
      obtain ⟨z0, z1, z2, g0, g1, g2, rz⟩ := cells3 r0
      clear hW r0 c0 f0
      refine wp_region_seql (Below W.heap.size W) [7] (.take 0 <| .take 1 <| .take 2 <| .take 3 <| .take 4 <| .take 5 <| .take 6 <| .run 7 <| .done) (by kernel_rfl) (by kernel_rfl) (by kernel_rfl) (by (repeat' (first | exact Below.refl _ _ | assumption | refine Below.drew ?_ | refine below_drewN ?_ _ | refine Below.alloc ?_ (by simp <;> omega) _ | refine Below.setCell ?_ (by simp <;> omega) _))) ?_
      repeat (refine seql_take (v := ?_) rfl (by rfl) ?_ ?_; rotate_left; (focus (intro wS hS; have z0 := (hS.cell (p := ⟨g, 0, none⟩) hgW).trans q0; go_simp; exact rfl)); simp only [Act.put, sqA, sqB, sqC])
      refine seql_late rfl rfl (by rfl) (fun K hK => ?_)
      go_simp
      refine hK _ _ ?_
      clear hK K
      refine seql_nil ?_
      go_wp2
      refine bodyPost_ret (v := .tuple #[.slice (some ⟨g, 0, none⟩) m cap, .agg #[.int .i64 0, .int .u64 c.a, .slice none 0 0]]) (by simp [results, Tryz.results85, go_sem, *]) rfl ?_
      refine ra_put HO.out HL.out hmx hB hBg hg (HKW.out.trans ?_)
      (repeat' (first | exact Keep.refl _ _ | refine Keep.alloc ?_ (fun k (hk : k < w.heap.size) => by first | exact hk | (simp; omega)) _ | refine Keep.setCell ?_ (by simp) _ | refine Keep.drew ?_))
    · have e0 : (x == 0) = false := by simpa using hx2
      have hw : IntKind.u64.wrap (x - 1) = x - 1 := by rw [IntKind.wrap_u64]; omega
      have hR : (if ¬ (0 ≤ c.kind ∧ c.kind < 2) then (st, anE 9) else consM st c) = (st, ⟨0, x - 1, []⟩) := by
        unfold consM
        rw [if_neg (by omega), if_neg (by omega), hat, if_neg (by omega), if_neg hx2]
        rfl
      rw [hR]
      clear hR hat
      have d0 : (c.kind == 0) = true := by simpa using hk
      have d1 : (c.kind == 1) = false := by simp; omega
      have n0 : (c.kind != 0) = false := by simp; omega
      have e1 : decide (4294967296 ≤ c.a) = false := by simp; omega
      clear hk hk'
      go_enter Tryz.func85, Tryz.ntmps85
      go_wp2_with fail
      obtain ⟨W, hW⟩ : ∃ W, W = (w.alloc (.cells #[.int .i64 c.thread, .int .i64 c.obj, .int .i64 c.kind, .int .u64 c.a, .int .u64 c.b, .int .u64 c.c] 27)).alloc (.cells #[.int .i64 0, .int .u64 0, .slice none 0 0] 57) := ⟨_, rfl⟩
      have q0 : W.cell? ⟨g, 0, none⟩ = some (.int .u64 x) := by rw [hW]; go_simp
      have hgW : g < W.heap.size := by rw [hW]; simp; omega
      have HKW : Hid (Keep (fun k => k < w.heap.size) w W) := hide (by rw [hW]; (repeat' (first | exact Keep.refl _ _ | refine Keep.alloc ?_ (fun k (hk : k < w.heap.size) => by first | exact hk | (simp; omega)) _ | refine Keep.setCell ?_ (by simp) _ | refine Keep.drew ?_)))
      have r0 : W.heap[w.heap.size + 1]? = some (.cells #[.int .i64 0, .int .u64 0, .slice none 0 0] 57 (0, 0)) := by
        have hs : ∀ o, (w.alloc o).heap.size = w.heap.size + 1 := fun o => by simp
        have h := heap_alloc_new (w.alloc (.cells #[.int .i64 c.thread, .int .i64 c.obj, .int .i64 c.kind, .int .u64 c.a, .int .u64 c.b, .int .u64 c.c] 27)) (.cells #[.int .i64 0, .int .u64 0, .slice none 0 0] 57)
        rw [hs] at h
        rw [hW]
        exact h
      rw [← hW]
      obtain ⟨z0, z1, z2, g0, g1, g2, rz⟩ := cells3 r0
      clear hW r0 c0 f0
      refine wp_region_seql (Below W.heap.size W) [7] (.take 0 <| .take 1 <| .take 2 <| .take 3 <| .take 4 <| .take 5 <| .take 6 <| .run 7 <| .done) (by kernel_rfl) (by kernel_rfl) (by kernel_rfl) (by (repeat' (first | exact Below.refl _ _ | assumption | refine Below.drew ?_ | refine below_drewN ?_ _ | refine Below.alloc ?_ (by simp <;> omega) _ | refine Below.setCell ?_ (by simp <;> omega) _))) ?_
      repeat (refine seql_take (v := ?_) rfl (by rfl) ?_ ?_; rotate_left; (focus (intro wS hS; have z0 := (hS.cell (p := ⟨g, 0, none⟩) hgW).trans q0; go_simp; exact rfl)); simp only [Act.put, sqA, sqB, sqC])
      refine seql_late rfl rfl (by rfl) (fun K hK => ?_)
      go_simp
      refine hK _ _ ?_
      clear hK K
      refine seql_nil ?_
      go_wp2
      refine bodyPost_ret (v := .tuple #[.slice (some ⟨g, 0, none⟩) m cap, .agg #[.int .i64 0, .int .u64 (x - 1), .slice none 0 0]]) (by simp [results, Tryz.results85, go_sem, *]) rfl ?_
      refine ra_same HO.out HL.out hmx hB (HKW.out.trans ?_)
      (repeat' (first | exact Keep.refl _ _ | refine Keep.alloc ?_ (fun k (hk : k < w.heap.size) => by first | exact hk | (simp; omega)) _ | refine Keep.setCell ?_ (by simp) _ | refine Keep.drew ?_))
  · have hR : (if ¬ (0 ≤ c.kind ∧ c.kind < 2) then (st, anE 9) else consM st c) = (st, ⟨10, 0, []⟩) := by
      unfold consM
      rw [if_neg (by omega), if_pos ⟨hk, hk'⟩]
      rfl
    rw [hR]
    clear hR hat
    have d0 : (c.kind == 0) = true := by simpa using hk
    have d1 : (c.kind == 1) = false := by simp; omega
    have n0 : (c.kind != 0) = false := by simp; omega
    have e1 : decide (4294967296 ≤ c.a) = true := by simp; omega
    clear hk hk'
    go_enter Tryz.func85, Tryz.ntmps85
    go_wp2
    refine bodyPost_ret (v := .tuple #[.slice (some ⟨g, 0, none⟩) m cap, .agg #[.int .i64 10, .int .u64 0, .slice none 0 0]]) (by simp [results, Tryz.results85, go_sem, *]) rfl ?_
    refine ra_same HO.out HL.out hmx hB ?_
    (repeat' (first | exact Keep.refl _ _ | refine Keep.alloc ?_ (fun k (hk : k < w.heap.size) => by first | exact hk | (simp; omega)) _ | refine Keep.setCell ?_ (by simp) _ | refine Keep.drew ?_))
  · have hR : (if ¬ (0 ≤ c.kind ∧ c.kind < 2) then (st, anE 9) else consM st c) = (st, ⟨9, 0, []⟩) := by
      rw [if_pos hk]
      rfl
    rw [hR]
    clear hR hat
    have d0 : (c.kind == 0) = false := by simp; omega
    have d1 : (c.kind == 1) = false := by simp; omega
    have n0 : (c.kind != 0) = true := by simp; omega
    have n1 : (c.kind != 1) = true := by simp; omega
    clear hk
    go_enter Tryz.func85, Tryz.ntmps85
    go_wp2
    refine bodyPost_ret (v := .tuple #[.slice (some ⟨g, 0, none⟩) m cap, .agg #[.int .i64 9, .int .u64 0, .slice none 0 0]]) (by simp [results, Tryz.results85, go_sem, *]) rfl ?_
    refine ra_same HO.out HL.out hmx hB ?_
    (repeat' (first | exact Keep.refl _ _ | refine Keep.alloc ?_ (fun k (hk : k < w.heap.size) => by first | exact hk | (simp; omega)) _ | refine Keep.setCell ?_ (by simp) _ | refine Keep.drew ?_))
end Go.Proofs.YtmiimpmfkjcjlaaGreat

namespace Go.Proofs.YtmiimpmfkjcjlaaGreat
open Go.RowKit
attribute [local go_sem] run_store_fn run_store_nilfn
set_option maxRecDepth 100000 in
set_option maxHeartbeats 2000000 in
theorem rmax_any (s : Sp) (c : Cl) (B m : Nat) (v : Value) (st : List Int) (w : World) (hO : WOwn w B v m st) (hm : 0 < m) (hB : B ≤ w.heap.size) (ha : U64 c.a) (hu : ∀ z ∈ st, U64 z) (hp1 : 1 ≤ s.p) (hp2 : s.p ≤ 12) :
    Calls Tryz.prog 87 #[spV s, v, clV c] w (RPost B (if ¬ (0 ≤ c.kind ∧ c.kind < 2) then (st, anE 9) else maxM s st c) w) := by
  obtain ⟨g, cap, rfl, hBg, hg, hl, hmx, hf⟩ := wo_parts hO hm
  have hm1 : (0 : Int) < (m : Int) := by omega
  have hm2 : (m : Int) ≤ 9223372036854775807 := by unfold maxLen at hmx; omega
  obtain ⟨x, hx⟩ : ∃ x, st[0]? = some x := ⟨_, List.getElem?_eq_getElem (by omega)⟩
  have hat : at0 st 0 = x := by unfold at0; rw [hx]; rfl
  have hself : st.set 0 x = st := by
    apply List.ext_getElem?
    intro i
    rw [List.getElem?_set]
    split
    · rename_i h; subst h; split
      · exact hx.symm
      · rename_i h; exact absurd (List.getElem?_eq_some_iff.1 hx).1 h
    · rfl
  obtain ⟨hx0, hx1⟩ := hu x (List.mem_of_getElem? hx)
  obtain ⟨ha0, ha1⟩ := ha
  have c0 := wo_cell hO hx
  have f0 := hf 0
  have HO := hide hO
  have HL := hide hl
  have hsh : (IntKind.u64.wrap s.p).toNat = s.p.toNat := by rw [IntKind.wrap_u64]; omega
  have hsm : min s.p.toNat 64 = s.p.toNat := by omega
  clear hO hl hf hu hx
  rcases (by omega : c.kind = 1 ∨ c.kind = 0 ∨ ¬ (0 ≤ c.kind ∧ c.kind < 2)) with hk | hk | hk
  · have hR : (if ¬ (0 ≤ c.kind ∧ c.kind < 2) then (st, anE 9) else maxM s st c) = (st, ⟨0, x, []⟩) := by
      unfold maxM
      rw [if_neg (by omega), if_pos hk, hat]
      rfl
    rw [hR]
    have d1 : (c.kind == 1) = true := by simpa using hk
    clear hR hat hk hself hsh hsm
    go_enter Tryz.func87, Tryz.ntmps87
    go_wp2_with fail
    have hg1 : g < w.heap.size + 1 := by omega
    have hg2 : g < w.heap.size + 1 + 1 := by omega
    have hg3 : g < w.heap.size + 2 := by omega
    obtain ⟨W, hW⟩ : ∃ W, W = ((w.alloc (.cells #[.int .i64 s.kind, .int .i64 s.p, .int .i64 s.q] 23)).alloc (.cells #[.int .i64 c.thread, .int .i64 c.obj, .int .i64 c.kind, .int .u64 c.a, .int .u64 c.b, .int .u64 c.c] 27)).alloc (.cells #[.int .i64 0, .int .u64 0, .slice none 0 0] 57) := ⟨_, rfl⟩
    have q0 : W.cell? ⟨g, 0, none⟩ = some (.int .u64 x) := by rw [hW]; go_simp
    have q3 : W.cell? ⟨w.heap.size + 1, 3, none⟩ = some (.int .u64 c.a) := by rw [hW]; go_simp
    have hgW : g < W.heap.size := by rw [hW]; first | (simp; done) | (simp; omega)
    have hcW : w.heap.size + 1 < W.heap.size := by rw [hW]; first | (simp; done) | (simp; omega)
    have HKW : Hid (Keep (fun k => k < w.heap.size) w W) := hide (by rw [hW]; (repeat' (first | exact Keep.refl _ _ | refine Keep.alloc ?_ (fun k (hk : k < w.heap.size) => by first | exact hk | (simp; omega)) _ | refine Keep.setCell ?_ (by first | (simp; done) | (simp; omega)) _ | refine Keep.drew ?_)))
    have r0 : W.heap[w.heap.size + 2]? = some (.cells #[.int .i64 0, .int .u64 0, .slice none 0 0] 57 (0, 0)) := by
      have hs : (((w.alloc (.cells #[.int .i64 s.kind, .int .i64 s.p, .int .i64 s.q] 23)).alloc (.cells #[.int .i64 c.thread, .int .i64 c.obj, .int .i64 c.kind, .int .u64 c.a, .int .u64 c.b, .int .u64 c.c] 27)).heap.size) = w.heap.size + 2 := by simp
      have h := heap_alloc_new ((w.alloc (.cells #[.int .i64 s.kind, .int .i64 s.p, .int .i64 s.q] 23)).alloc (.cells #[.int .i64 c.thread, .int .i64 c.obj, .int .i64 c.kind, .int .u64 c.a, .int .u64 c.b, .int .u64 c.c] 27)) (.cells #[.int .i64 0, .int .u64 0, .slice none 0 0] 57)
      rw [hs] at h
      rw [hW]
      exact h
    rw [← hW]
    obtain ⟨z0, z1, z2, g0, g1, g2, rz⟩ := cells3 r0
    clear hW r0 c0 f0
    refine wp_region_seql (Below W.heap.size W) [6] (.take 0 <| .take 1 <| .take 2 <| .take 3 <| .take 4 <| .take 5 <| .run 6 <| .done) (by kernel_rfl) (by kernel_rfl) (by kernel_rfl) (by (repeat' (first | exact Below.refl _ _ | assumption | refine Below.drew ?_ | refine below_drewN ?_ _ | refine Below.alloc ?_ (by simp <;> omega) _ | refine Below.setCell ?_ (by simp <;> omega) _))) ?_
    repeat (refine seql_take (v := ?_) rfl (by rfl) ?_ ?_; rotate_left; (focus (intro wS hS; have z0 := (hS.cell (p := ⟨g, 0, none⟩) hgW).trans q0; go_simp; exact rfl)); simp only [Act.put, sqA, sqB, sqC])
    refine seql_late rfl rfl (by rfl) (fun K hK => ?_)
    go_simp
    refine hK _ _ ?_
    clear hK K
    refine seql_nil ?_
    go_wp2
    refine bodyPost_ret (v := .tuple #[.slice (some ⟨g, 0, none⟩) m cap, .agg #[.int .i64 0, .int .u64 x, .slice none 0 0]]) (by simp [results, Tryz.results87, go_sem, *]) rfl ?_
    refine ra_same HO.out HL.out hmx hB (HKW.out.trans ?_)
    (repeat' (first | exact Keep.refl _ _ | refine Keep.alloc ?_ (fun k (hk : k < w.heap.size) => by first | exact hk | (simp; omega)) _ | refine Keep.setCell ?_ (by first | (simp; done) | (simp; omega)) _ | refine Keep.drew ?_))
  · have d1 : (c.kind == 1) = false := by simp; omega
    have n0 : (c.kind != 0) = false := by simp; omega
    by_cases h0 : c.a / 2 ^ s.p.toNat ≠ 0
    · have hR : (if ¬ (0 ≤ c.kind ∧ c.kind < 2) then (st, anE 9) else maxM s st c) = (st, ⟨10, 0, []⟩) := by
        unfold maxM
        rw [if_neg (by omega), if_neg (by omega), if_pos h0]
        rfl
      rw [hR]
      have d2 : (c.a / 2 ^ min (IntKind.u64.wrap s.p).toNat 64 != 0) = true := by rw [hsh, hsm]; simpa using h0
      have d2' : (c.a / 2 ^ (IntKind.u64.wrap s.p).toNat != 0) = true := by rw [hsh]; simpa using h0
      have d2'' : (c.a / 2 ^ s.p.toNat != 0) = true := by simpa using h0
      clear hR hat hk hself hsh hsm h0
      go_enter Tryz.func87, Tryz.ntmps87
      go_wp2
      refine bodyPost_ret (v := .tuple #[.slice (some ⟨g, 0, none⟩) m cap, .agg #[.int .i64 10, .int .u64 0, .slice none 0 0]]) (by simp [results, Tryz.results87, go_sem, *]) rfl ?_
      refine ra_same HO.out HL.out hmx hB ?_
      (repeat' (first | exact Keep.refl _ _ | refine Keep.alloc ?_ (fun k (hk : k < w.heap.size) => by first | exact hk | (simp; omega)) _ | refine Keep.setCell ?_ (by first | (simp; done) | (simp; omega)) _ | refine Keep.drew ?_))
    · have d2 : (c.a / 2 ^ min (IntKind.u64.wrap s.p).toNat 64 != 0) = false := by rw [hsh, hsm]; simpa using h0
      have d2' : (c.a / 2 ^ (IntKind.u64.wrap s.p).toNat != 0) = false := by rw [hsh]; simpa using h0
      have d2'' : (c.a / 2 ^ s.p.toNat != 0) = false := by simpa using h0
      by_cases hxa : x < c.a
      · have hR : (if ¬ (0 ≤ c.kind ∧ c.kind < 2) then (st, anE 9) else maxM s st c) = (st.set 0 c.a, ⟨0, 0, []⟩) := by
          unfold maxM
          rw [if_neg (by omega), if_neg (by omega), if_neg h0, hat, Int.max_eq_right (by omega)]
          rfl
        rw [hR]
        have d3 : decide (x < c.a) = true := by simpa using hxa
        clear hR hat hk hself hsh hsm h0 hxa
        have hg1 : g < w.heap.size + 1 := by omega
        have hg2 : g < w.heap.size + 1 + 1 := by omega
        have hg3 : g < w.heap.size + 2 := by omega
        go_enter Tryz.func87, Tryz.ntmps87
        go_wp2_with fail
        have hg1 : g < w.heap.size + 1 := by omega
        have hg2 : g < w.heap.size + 1 + 1 := by omega
        have hg3 : g < w.heap.size + 2 := by omega
        obtain ⟨W, hW⟩ : ∃ W, W = ((w.alloc (.cells #[.int .i64 s.kind, .int .i64 s.p, .int .i64 s.q] 23)).alloc (.cells #[.int .i64 c.thread, .int .i64 c.obj, .int .i64 c.kind, .int .u64 c.a, .int .u64 c.b, .int .u64 c.c] 27)).alloc (.cells #[.int .i64 0, .int .u64 0, .slice none 0 0] 57) := ⟨_, rfl⟩
        have q0 : W.cell? ⟨g, 0, none⟩ = some (.int .u64 x) := by rw [hW]; go_simp
        have q3 : W.cell? ⟨w.heap.size + 1, 3, none⟩ = some (.int .u64 c.a) := by rw [hW]; go_simp
        have hgW : g < W.heap.size := by rw [hW]; first | (simp; done) | (simp; omega)
        have hcW : w.heap.size + 1 < W.heap.size := by rw [hW]; first | (simp; done) | (simp; omega)
        have HKW : Hid (Keep (fun k => k < w.heap.size) w W) := hide (by rw [hW]; (repeat' (first | exact Keep.refl _ _ | refine Keep.alloc ?_ (fun k (hk : k < w.heap.size) => by first | exact hk | (simp; omega)) _ | refine Keep.setCell ?_ (by first | (simp; done) | (simp; omega)) _ | refine Keep.drew ?_)))
        have r0 : W.heap[w.heap.size + 2]? = some (.cells #[.int .i64 0, .int .u64 0, .slice none 0 0] 57 (0, 0)) := by
          have hs : (((w.alloc (.cells #[.int .i64 s.kind, .int .i64 s.p, .int .i64 s.q] 23)).alloc (.cells #[.int .i64 c.thread, .int .i64 c.obj, .int .i64 c.kind, .int .u64 c.a, .int .u64 c.b, .int .u64 c.c] 27)).heap.size) = w.heap.size + 2 := by simp
          have h := heap_alloc_new ((w.alloc (.cells #[.int .i64 s.kind, .int .i64 s.p, .int .i64 s.q] 23)).alloc (.cells #[.int .i64 c.thread, .int .i64 c.obj, .int .i64 c.kind, .int .u64 c.a, .int .u64 c.b, .int .u64 c.c] 27)) (.cells #[.int .i64 0, .int .u64 0, .slice none 0 0] 57)
          rw [hs] at h
          rw [hW]
          exact h
        rw [← hW]
        refine wp_region_seq (Below W.heap.size W) (.take 0 <| .take 1 <| .take 2 <| .take 3 <| .take 4 <| .take 5 <| .done) (by kernel_rfl) (by kernel_rfl) (by kernel_rfl) (by (repeat' (first | exact Below.refl _ _ | assumption | refine Below.drew ?_ | refine below_drewN ?_ _ | refine Below.alloc ?_ (by simp <;> omega) _ | refine Below.setCell ?_ (by simp <;> omega) _))) ?_
        repeat (refine seq_take (v := ?_) rfl (by rfl) ?_ ?_; rotate_left; (focus (intro wS hS; have z0 := (hS.cell (p := ⟨g, 0, none⟩) hgW).trans q0; have z1 := (hS.cell (p := ⟨w.heap.size + 1, 3, none⟩) hcW).trans q3; go_simp; exact rfl)); simp only [Act.put, sqA, sqB, sqC])
        refine seq_nil ?_
        subst hW
        clear q0 q3 hgW hcW HKW r0
        go_wp2
        refine bodyPost_ret (v := .tuple #[.slice (some ⟨g, 0, none⟩) m cap, .agg #[.int .i64 0, .int .u64 0, .slice none 0 0]]) (by simp [results, Tryz.results87, go_sem, *]) rfl ?_
        refine ra_put HO.out HL.out hmx hB hBg hg ?_
        (repeat' (first | exact Keep.refl _ _ | refine Keep.alloc ?_ (fun k (hk : k < w.heap.size) => by first | exact hk | (simp; omega)) _ | refine Keep.setCell ?_ (by first | (simp; done) | (simp; omega)) _ | refine Keep.drew ?_))
      · have hR : (if ¬ (0 ≤ c.kind ∧ c.kind < 2) then (st, anE 9) else maxM s st c) = (st, ⟨0, 0, []⟩) := by
          unfold maxM
          rw [if_neg (by omega), if_neg (by omega), if_neg h0, hat, Int.max_eq_left (by omega), hself]
          rfl
        rw [hR]
        have d3 : decide (x < c.a) = false := by simpa using hxa
        clear hR hat hk hself hsh hsm h0 hxa
        have hg1 : g < w.heap.size + 1 := by omega
        have hg2 : g < w.heap.size + 1 + 1 := by omega
        have hg3 : g < w.heap.size + 2 := by omega
        go_enter Tryz.func87, Tryz.ntmps87
        go_wp2_with fail
        have hg1 : g < w.heap.size + 1 := by omega
        have hg2 : g < w.heap.size + 1 + 1 := by omega
        have hg3 : g < w.heap.size + 2 := by omega
        obtain ⟨W, hW⟩ : ∃ W, W = ((w.alloc (.cells #[.int .i64 s.kind, .int .i64 s.p, .int .i64 s.q] 23)).alloc (.cells #[.int .i64 c.thread, .int .i64 c.obj, .int .i64 c.kind, .int .u64 c.a, .int .u64 c.b, .int .u64 c.c] 27)).alloc (.cells #[.int .i64 0, .int .u64 0, .slice none 0 0] 57) := ⟨_, rfl⟩
        have q0 : W.cell? ⟨g, 0, none⟩ = some (.int .u64 x) := by rw [hW]; go_simp
        have q3 : W.cell? ⟨w.heap.size + 1, 3, none⟩ = some (.int .u64 c.a) := by rw [hW]; go_simp
        have hgW : g < W.heap.size := by rw [hW]; first | (simp; done) | (simp; omega)
        have hcW : w.heap.size + 1 < W.heap.size := by rw [hW]; first | (simp; done) | (simp; omega)
        have HKW : Hid (Keep (fun k => k < w.heap.size) w W) := hide (by rw [hW]; (repeat' (first | exact Keep.refl _ _ | refine Keep.alloc ?_ (fun k (hk : k < w.heap.size) => by first | exact hk | (simp; omega)) _ | refine Keep.setCell ?_ (by first | (simp; done) | (simp; omega)) _ | refine Keep.drew ?_)))
        have r0 : W.heap[w.heap.size + 2]? = some (.cells #[.int .i64 0, .int .u64 0, .slice none 0 0] 57 (0, 0)) := by
          have hs : (((w.alloc (.cells #[.int .i64 s.kind, .int .i64 s.p, .int .i64 s.q] 23)).alloc (.cells #[.int .i64 c.thread, .int .i64 c.obj, .int .i64 c.kind, .int .u64 c.a, .int .u64 c.b, .int .u64 c.c] 27)).heap.size) = w.heap.size + 2 := by simp
          have h := heap_alloc_new ((w.alloc (.cells #[.int .i64 s.kind, .int .i64 s.p, .int .i64 s.q] 23)).alloc (.cells #[.int .i64 c.thread, .int .i64 c.obj, .int .i64 c.kind, .int .u64 c.a, .int .u64 c.b, .int .u64 c.c] 27)) (.cells #[.int .i64 0, .int .u64 0, .slice none 0 0] 57)
          rw [hs] at h
          rw [hW]
          exact h
        rw [← hW]
        refine wp_region_seq (Below W.heap.size W) (.take 0 <| .take 1 <| .take 2 <| .take 3 <| .take 4 <| .take 5 <| .done) (by kernel_rfl) (by kernel_rfl) (by kernel_rfl) (by (repeat' (first | exact Below.refl _ _ | assumption | refine Below.drew ?_ | refine below_drewN ?_ _ | refine Below.alloc ?_ (by simp <;> omega) _ | refine Below.setCell ?_ (by simp <;> omega) _))) ?_
        repeat (refine seq_take (v := ?_) rfl (by rfl) ?_ ?_; rotate_left; (focus (intro wS hS; have z0 := (hS.cell (p := ⟨g, 0, none⟩) hgW).trans q0; have z1 := (hS.cell (p := ⟨w.heap.size + 1, 3, none⟩) hcW).trans q3; go_simp; exact rfl)); simp only [Act.put, sqA, sqB, sqC])
        refine seq_nil ?_
        subst hW
        clear q0 q3 hgW hcW HKW r0
        go_wp2
        refine bodyPost_ret (v := .tuple #[.slice (some ⟨g, 0, none⟩) m cap, .agg #[.int .i64 0, .int .u64 0, .slice none 0 0]]) (by simp [results, Tryz.results87, go_sem, *]) rfl ?_
        refine ra_same HO.out HL.out hmx hB ?_
        (repeat' (first | exact Keep.refl _ _ | refine Keep.alloc ?_ (fun k (hk : k < w.heap.size) => by first | exact hk | (simp; omega)) _ | refine Keep.setCell ?_ (by first | (simp; done) | (simp; omega)) _ | refine Keep.drew ?_))
  · have hR : (if ¬ (0 ≤ c.kind ∧ c.kind < 2) then (st, anE 9) else maxM s st c) = (st, ⟨9, 0, []⟩) := by
      rw [if_pos hk]
      rfl
    rw [hR]
    have d1 : (c.kind == 1) = false := by simp; omega
    have n0 : (c.kind != 0) = true := by simp; omega
    clear hR hat hk hself hsh hsm
    go_enter Tryz.func87, Tryz.ntmps87
    go_wp2
    refine bodyPost_ret (v := .tuple #[.slice (some ⟨g, 0, none⟩) m cap, .agg #[.int .i64 9, .int .u64 0, .slice none 0 0]]) (by simp [results, Tryz.results87, go_sem, *]) rfl ?_
    refine ra_same HO.out HL.out hmx hB ?_
    (repeat' (first | exact Keep.refl _ _ | refine Keep.alloc ?_ (fun k (hk : k < w.heap.size) => by first | exact hk | (simp; omega)) _ | refine Keep.setCell ?_ (by first | (simp; done) | (simp; omega)) _ | refine Keep.drew ?_))
end Go.Proofs.YtmiimpmfkjcjlaaGreat
