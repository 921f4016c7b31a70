/- The reference's models (roundelayref27): a copy's words set in place; adder. -/
/- The reference's models (roundelayref27): cons. -/
import Derived.Test.YtmiimpmfkjcjlaaGreatBun15
import Derived.Laws.OwnMore
import Derived.Test.YtmiimpmfkjcjlaaGreatBun13
namespace Go.Proofs.YtmiimpmfkjcjlaaGreat
open Go.RowKit
attribute [local go_sem] run_store_fn run_store_nilfn

/-- The slice lies in a block of words. -/
def Tw (w : World) (u : Value) : Prop := ∀ A n c, u = .slice A n c → ∀ a, A = some a → ∃ cs fr, w.heap[a.block]? = some (.cells cs 25 fr)
theorem tw_own {w : World} {B m : Nat} {v : Value} {l : List Value} (h : w.ownsRow B 25 1 v m l) : Tw w v := by
  intro A n c e a ha
  rcases h.2 with ⟨rfl, _⟩ | ⟨g, cap, cur, rfl, _, hg, _⟩
  · cases e; cases ha
  · cases e; cases ha
    exact ⟨_, _, hg⟩
theorem tw_none (w : World) (n c : Nat) : Tw w (.slice none n c) := by
  intro A n' c' e a ha
  cases e; cases ha
theorem Tw.keep {S : Nat → Prop} {w w' : World} {u : Value} (h : Tw w u) (hk : Keep S w w') (hS : ∀ j cs fr, w.heap[j]? = some (.cells cs 25 fr) → S j) : Tw w' u := by
  intro A n c e a ha
  obtain ⟨cs, fr, hb⟩ := h A n c e a ha
  exact ⟨cs, fr, (hk.block _ (hS _ _ _ hb)).trans hb⟩
theorem sl_keepT {S : Nat → Prop} {w w' : World} {u : Value} {l : List Int} (h : SlW w u l) (ht : Tw w u) (hk : Keep S w w') (hS : ∀ j cs fr, w.heap[j]? = some (.cells cs 25 fr) → S j) : SlW w' u l := by
  obtain ⟨A, c, rfl, h1, h2, h3⟩ := h
  refine ⟨A, c, rfl, h1, h2, fun k x hx => ?_⟩
  obtain ⟨b, o, hA, hlt, hc⟩ := h3 k x hx
  obtain ⟨cs, fr, hb⟩ := ht _ _ _ rfl _ hA
  exact ⟨b, o, hA, Nat.lt_of_lt_of_le hlt hk.size, hc.of_block (hk.block b (hS _ _ _ hb))⟩
/-- What a piece of the reference answers: a state, and an answer; what lay below B lies as it lay. -/
def RPost (B : Nat) (R : List Int × An) (w : World) (e : Ending) (w' : World) : Prop :=
  ∃ v L, e = .returned (.tuple #[v, .agg #[.int .i64 R.2.err, .int .u64 R.2.val, L]]) ∧ SlW w' v R.1 ∧ SlW w' L R.2.list ∧ Below B w w' ∧ Tw w' v ∧ Tw w' L
theorem slw_none (w : World) : SlW w (.slice none 0 0) [] := ⟨none, 0, rfl, Nat.le_refl _, Nat.zero_le _, by intro k x h; simp at h⟩

theorem outOf_none (b : Nat) : OutOf b (.slice none 0 0) := by
  intro A n c h a ha
  cases h
  cases ha
theorem outOf_at {b g o n c : Nat} (h : b ≠ g) : OutOf b (.slice (some ⟨g, o, none⟩) n c) := by
  intro A n' c' h' a ha
  cases h'
  cases ha
  exact fun e => h e.symm
theorem wo_parts {w : World} {B m : Nat} {x : Value} {st : List Int} (hO : WOwn w B x m st) (hm : 0 < m) : ∃ g cap, x = .slice (some ⟨g, 0, none⟩) m cap ∧ B ≤ g ∧ g < w.heap.size ∧ st.length = m ∧ m ≤ maxLen ∧ ∀ j, w.frozen? ⟨g, j, none⟩ = false := by
  have hl : st.length = m := by have := own_len hO; simpa using this
  have h0 := hO
  rcases hO.2 with ⟨_, h⟩ | ⟨g, cap, cur, rfl, hb, hg, hnc, hcm, _, _⟩
  · omega
  · exact ⟨g, cap, rfl, hb, (Array.getElem?_eq_some_iff.1 hg).1, hl, by omega, fun j => World.ownsRow.frozenAt h0 j⟩
theorem wo_cell {w : World} {B g m cap j : Nat} {y : Int} {st : List Int} (hO : WOwn w B (.slice (some ⟨g, 0, none⟩) m cap) m st) (hy : st[j]? = some y) : w.cell? ⟨g, j, none⟩ = some (.int .u64 y) := by
  have hs := wrow_sl (show WRow w B (.slice (some ⟨g, 0, none⟩) m cap) st from by
    have hl : st.length = m := by have := own_len hO; simpa using this
    unfold WRow; rw [hl]; exact hO) (by
    have hl : st.length = m := by have := own_len hO; simpa using this
    rcases hO.2 with ⟨h, _⟩ | ⟨_, _, _, h, _, _, h1, h2, _, _⟩
    · cases h
    · omega)
  obtain ⟨b, o, e, c, _⟩ := sl_at hs j y hy
  cases e
  simpa using c
theorem ra_keep {w w' : World} {B g m cap : Nat} {st : List Int} (hO : WOwn w B (.slice (some ⟨g, 0, none⟩) m cap) m st) (hB : B ≤ w.heap.size) (hk : Keep (fun k => k < w.heap.size) w w') :
    WOwn w' B (.slice (some ⟨g, 0, none⟩) m cap) m st ∧ Below B w w' :=
  ⟨owns_keepB hO hk (fun j _ hj => hj), hk.below (fun k hk => by omega)⟩
theorem ra_set {w w' : World} {B g m cap j : Nat} {st : List Int} {y : Int} (hO : WOwn w B (.slice (some ⟨g, 0, none⟩) m cap) m st) (_hB : B ≤ w.heap.size) (hBg : B ≤ g) (hg : g < w.heap.size)
    (h' : Keep (fun k => k < w.heap.size) (w.setCell ⟨g, j, none⟩ (.int .u64 y)) w') : WOwn w' B (.slice (some ⟨g, 0, none⟩) m cap) m (st.set j y) ∧ Below B w w' := by
  have h2 := (World.ownsRow.stored hO j (.int .u64 y)).1
  have hk : Keep (fun k => k < B) w w' := ((Keep.refl _ w).setCell (by show ¬ g < B; omega) _).trans (h'.mono (fun k hk => by omega))
  refine ⟨?_, hk.below (fun k hk => hk)⟩
  unfold WOwn
  rw [List.map_set]
  obtain ⟨q1, ⟨q2, _⟩ | ⟨g', cap', cur, e1, e2, e3, e4, e5, e6, e7⟩⟩ := h2
  · cases q2
  · cases e1
    exact ⟨q1, Or.inr ⟨g, cap, cur, rfl, e2, (h'.block g hg).trans e3, e4, e5, e6, e7⟩⟩
theorem ra_same {w w' : World} {B g m cap : Nat} {st : List Int} {E V : Int} (hO : WOwn w B (.slice (some ⟨g, 0, none⟩) m cap) m st) (hl : st.length = m) (hmx : m ≤ maxLen) (hB : B ≤ w.heap.size) (h' : Keep (fun k => k < w.heap.size) w w') :
    RPost B (st, ⟨E, V, []⟩) w (.returned (.tuple #[.slice (some ⟨g, 0, none⟩) m cap, .agg #[.int .i64 E, .int .u64 V, .slice none 0 0]])) w' := by
  obtain ⟨h1, h2⟩ := ra_keep hO hB h'
  exact ⟨_, _, rfl, wrow_sl (show WRow _ B _ st from by unfold WRow; rw [hl]; exact h1) (by rw [hl]; exact hmx), slw_none _, h2, tw_own h1, tw_none _ _ _⟩
theorem ra_put {w w' : World} {B g m cap j : Nat} {st : List Int} {E V y : Int} (hO : WOwn w B (.slice (some ⟨g, 0, none⟩) m cap) m st) (hl : st.length = m) (hmx : m ≤ maxLen) (hB : B ≤ w.heap.size) (hBg : B ≤ g) (hg : g < w.heap.size)
    (h' : Keep (fun k => k < w.heap.size) (w.setCell ⟨g, j, none⟩ (.int .u64 y)) w') :
    RPost B (st.set j y, ⟨E, V, []⟩) w (.returned (.tuple #[.slice (some ⟨g, 0, none⟩) m cap, .agg #[.int .i64 E, .int .u64 V, .slice none 0 0]])) w' := by
  obtain ⟨h1, h2⟩ := ra_set hO hB hBg hg h'
  have hl' : (st.set j y).length = m := by rw [List.length_set]; exact hl
  exact ⟨_, _, rfl, wrow_sl (show WRow _ B _ (st.set j y) from by unfold WRow; rw [hl']; exact h1) (by rw [hl']; exact hmx), slw_none _, h2, tw_own h1, tw_none _ _ _⟩
set_option maxRecDepth 100000 in
set_option maxHeartbeats 2000000 in
theorem radder_any (s : Sp) (c : Cl) (B m : Nat) (v : Value) (st : List Int) (w : World) (hO : WOwn w B v m st) (hm : 0 < m) (hB : B ≤ w.heap.size) (hs : s.kind = 3) :
    Calls Tryz.prog 86 #[v, clV c] w (RPost B (if ¬ (0 ≤ c.kind ∧ c.kind < 3) then (st, anE 9) else numM s st c) w) := by
  obtain ⟨g, cap, rfl, hBg, hg, hl, hmx, hf⟩ := wo_parts hO hm
  have hm1 : (0 : Int) < (m : Int) := by omega
  have hm2 : (m : Int) ≤ 9223372036854775807 := by unfold maxLen at hmx; omega
  obtain ⟨x, hx⟩ : ∃ x, st[0]? = some x := ⟨_, List.getElem?_eq_getElem (by omega)⟩
  have hat : at0 st 0 = x := by unfold at0; rw [hx]; rfl
  have c0 := wo_cell hO hx
  have f0 := hf 0
  have HO := hide hO
  have HL := hide hl
  clear hO hl hf
  rcases (by omega : c.kind = 0 ∨ c.kind = 1 ∨ c.kind = 2 ∨ ¬ (0 ≤ c.kind ∧ c.kind < 3)) with hk | hk | hk | hk
  · clear hm
    have hR : (if ¬ (0 ≤ c.kind ∧ c.kind < 3) then (st, anE 9) else numM s st c) = (st.set 0 (IntKind.u64.wrap (x + c.a)), ⟨0, x, []⟩) := by
      unfold numM
      rw [if_neg (by omega), if_neg (by omega), if_neg (by omega), if_neg (by omega), hat, IntKind.wrap_u64]
      rfl
    rw [hR]
    clear hR hat hx
    have d0 : (c.kind == 0) = true := by simpa using hk
    clear hk
    go_enter Tryz.func86, Tryz.ntmps86
    go_wp2
    refine bodyPost_ret (v := .tuple #[.slice (some ⟨g, 0, none⟩) m cap, .agg #[.int .i64 0, .int .u64 x, .slice none 0 0]]) (by simp [results, Tryz.results86, go_sem, *]) rfl ?_
    refine ra_put HO.out HL.out hmx hB hBg hg ?_
    (repeat' (first | exact Keep.refl _ _ | refine Keep.alloc ?_ (fun k (hk : k < w.heap.size) => by first | exact hk | (simp; omega)) _ | refine Keep.setCell ?_ (by simp) _ | refine Keep.drew ?_))
  · clear hm
    have hR : (if ¬ (0 ≤ c.kind ∧ c.kind < 3) then (st, anE 9) else numM s st c) = (st, ⟨0, x, []⟩) := by
      unfold numM
      rw [if_neg (by omega), if_pos hk, hat]
      rfl
    rw [hR]
    clear hR hat hx
    have d0 : (c.kind == 0) = false := by simp; omega
    have d1 : (c.kind == 1) = true := by simpa using hk
    clear hk
    go_enter Tryz.func86, Tryz.ntmps86
    go_wp2
    refine bodyPost_ret (v := .tuple #[.slice (some ⟨g, 0, none⟩) m cap, .agg #[.int .i64 0, .int .u64 x, .slice none 0 0]]) (by simp [results, Tryz.results86, go_sem, *]) rfl ?_
    refine ra_same HO.out HL.out hmx hB ?_
    (repeat' (first | exact Keep.refl _ _ | refine Keep.alloc ?_ (fun k (hk : k < w.heap.size) => by first | exact hk | (simp; omega)) _ | refine Keep.setCell ?_ (by simp) _ | refine Keep.drew ?_))
  · clear hm
    have hR : (if ¬ (0 ≤ c.kind ∧ c.kind < 3) then (st, anE 9) else numM s st c) = (st.set 0 (IntKind.u64.wrap (x + 1)), ⟨0, x, []⟩) := by
      unfold numM
      rw [if_neg (by omega), if_neg (by omega), if_neg (by omega), if_pos hk, hat, IntKind.wrap_u64]
      rfl
    rw [hR]
    clear hR hat hx
    have d0 : (c.kind == 0) = false := by simp; omega
    have d1 : (c.kind == 1) = false := by simp; omega
    have d2 : (c.kind == 2) = true := by simpa using hk
    clear hk
    go_enter Tryz.func86, Tryz.ntmps86
    go_wp2
    refine bodyPost_ret (v := .tuple #[.slice (some ⟨g, 0, none⟩) m cap, .agg #[.int .i64 0, .int .u64 x, .slice none 0 0]]) (by simp [results, Tryz.results86, go_sem, *]) rfl ?_
    refine ra_put HO.out HL.out hmx hB hBg hg ?_
    (repeat' (first | exact Keep.refl _ _ | refine Keep.alloc ?_ (fun k (hk : k < w.heap.size) => by first | exact hk | (simp; omega)) _ | refine Keep.setCell ?_ (by simp) _ | refine Keep.drew ?_))
  · clear hm
    have hR : (if ¬ (0 ≤ c.kind ∧ c.kind < 3) then (st, anE 9) else numM s st c) = (st, ⟨9, 0, []⟩) := by
      rw [if_pos hk]
      rfl
    rw [hR]
    clear hR hat hx
    have d0 : (c.kind == 0) = false := by simp; omega
    have d1 : (c.kind == 1) = false := by simp; omega
    have d2 : (c.kind == 2) = false := by simp; omega
    clear hk
    go_enter Tryz.func86, Tryz.ntmps86
    go_wp2
    refine bodyPost_ret (v := .tuple #[.slice (some ⟨g, 0, none⟩) m cap, .agg #[.int .i64 9, .int .u64 0, .slice none 0 0]]) (by simp [results, Tryz.results86, go_sem, *]) rfl ?_
    refine ra_same HO.out HL.out hmx hB ?_
    (repeat' (first | exact Keep.refl _ _ | refine Keep.alloc ?_ (fun k (hk : k < w.heap.size) => by first | exact hk | (simp; omega)) _ | refine Keep.setCell ?_ (by simp) _ | refine Keep.drew ?_))
end Go.Proofs.YtmiimpmfkjcjlaaGreat

namespace Go.Proofs.YtmiimpmfkjcjlaaGreat
open Go.RowKit
attribute [local go_sem] run_store_fn run_store_nilfn

set_option maxRecDepth 100000 in
set_option maxHeartbeats 2000000 in
theorem rcons_any (c : Cl) (B m : Nat) (v : Value) (st : List Int) (w : World) (hO : WOwn w B v m st) (hm : 0 < m) (hB : B ≤ w.heap.size) (ha : U64 c.a) (hu : ∀ z ∈ st, U64 z) :
    Calls Tryz.prog 85 #[v, clV c] w (RPost B (if ¬ (0 ≤ c.kind ∧ c.kind < 2) then (st, anE 9) else consM st c) w) := by
  obtain ⟨g, cap, rfl, hBg, hg, hl, hmx, hf⟩ := wo_parts hO hm
  have hm1 : (0 : Int) < (m : Int) := by omega
  have hm2 : (m : Int) ≤ 9223372036854775807 := by unfold maxLen at hmx; omega
  obtain ⟨x, hx⟩ : ∃ x, st[0]? = some x := ⟨_, List.getElem?_eq_getElem (by omega)⟩
  have hat : at0 st 0 = x := by unfold at0; rw [hx]; rfl
  obtain ⟨hx0, hx1⟩ := hu x (List.mem_of_getElem? hx)
  obtain ⟨ha0, ha1⟩ := ha
  have c0 := wo_cell hO hx
  have f0 := hf 0
  have HO := hide hO
  have HL := hide hl
  clear hO hl hf hu hx
  rcases (by omega : c.kind = 1 ∨ (c.kind = 0 ∧ c.a < 4294967296) ∨ (c.kind = 0 ∧ 4294967296 ≤ c.a) ∨ ¬ (0 ≤ c.kind ∧ c.kind < 2)) with hk | ⟨hk, hk'⟩ | ⟨hk, hk'⟩ | hk
  · by_cases hx2 : x = 0
    · subst hx2
      have hR : (if ¬ (0 ≤ c.kind ∧ c.kind < 2) then (st, anE 9) else consM st c) = (st, ⟨7, 0, []⟩) := by
        unfold consM
        rw [if_neg (by omega), if_neg (by omega), if_pos ⟨hk, hat⟩]
        rfl
      rw [hR]
      clear hR hat
      have d0 : (c.kind == 0) = false := by simp; omega
      have d1 : (c.kind == 1) = true := by simpa using hk
      have n0 : (c.kind != 0) = true := by simp; omega
      have n1 : (c.kind != 1) = false := by simp; omega
      clear hk
      go_enter Tryz.func85, Tryz.ntmps85
      go_wp2
      refine bodyPost_ret (v := .tuple #[.slice (some ⟨g, 0, none⟩) m cap, .agg #[.int .i64 7, .int .u64 0, .slice none 0 0]]) (by simp [results, Tryz.results85, go_sem, *]) rfl ?_
      refine ra_same HO.out HL.out hmx hB ?_
      (repeat' (first | exact Keep.refl _ _ | refine Keep.alloc ?_ (fun k (hk : k < w.heap.size) => by first | exact hk | (simp; omega)) _ | refine Keep.setCell ?_ (by simp) _ | refine Keep.drew ?_))
    · have e0 : (x == 0) = false := by simpa using hx2
      have hw : IntKind.u64.wrap (x - 1) = x - 1 := by rw [IntKind.wrap_u64]; omega
      have hR : (if ¬ (0 ≤ c.kind ∧ c.kind < 2) then (st, anE 9) else consM st c) = (st, ⟨0, x - 1, []⟩) := by
        unfold consM
        rw [if_neg (by omega), if_neg (by omega), hat, if_neg (by omega), if_neg hx2]
        rfl
      rw [hR]
      clear hR hat
      have d0 : (c.kind == 0) = false := by simp; omega
      have d1 : (c.kind == 1) = true := by simpa using hk
      have n0 : (c.kind != 0) = true := by simp; omega
      have n1 : (c.kind != 1) = false := by simp; omega
      clear hk
      go_enter Tryz.func85, Tryz.ntmps85
      go_wp2_with fail
      obtain ⟨W, hW⟩ : ∃ W, W = (w.alloc (.cells #[.int .i64 c.thread, .int .i64 c.obj, .int .i64 c.kind, .int .u64 c.a, .int .u64 c.b, .int .u64 c.c] 27)).alloc (.cells #[.int .i64 0, .int .u64 0, .slice none 0 0] 57) := ⟨_, rfl⟩
      have q0 : W.cell? ⟨g, 0, none⟩ = some (.int .u64 x) := by rw [hW]; go_simp
      have hgW : g < W.heap.size := by rw [hW]; simp; omega
      have HKW : Hid (Keep (fun k => k < w.heap.size) w W) := hide (by rw [hW]; (repeat' (first | exact Keep.refl _ _ | refine Keep.alloc ?_ (fun k (hk : k < w.heap.size) => by first | exact hk | (simp; omega)) _ | refine Keep.setCell ?_ (by simp) _ | refine Keep.drew ?_)))
      have r0 : W.heap[w.heap.size + 1]? = some (.cells #[.int .i64 0, .int .u64 0, .slice none 0 0] 57 (0, 0)) := by
        have hs : ∀ o, (w.alloc o).heap.size = w.heap.size + 1 := fun o => by simp
        have h := heap_alloc_new (w.alloc (.cells #[.int .i64 c.thread, .int .i64 c.obj, .int .i64 c.kind, .int .u64 c.a, .int .u64 c.b, .int .u64 c.c] 27)) (.cells #[.int .i64 0, .int .u64 0, .slice none 0 0] 57)
        rw [hs] at h
        rw [hW]
        exact h
      rw [← hW]
      obtain ⟨z0, z1, z2, g0, g1, g2, rz⟩ := cells3 r0
      clear hW r0 c0 f0
      refine wp_region_seql (Below W.heap.size W) [7] (.take 0 <| .take 1 <| .take 2 <| .take 3 <| .take 4 <| .take 5 <| .take 6 <| .run 7 <| .done) (by kernel_rfl) (by kernel_rfl) (by kernel_rfl) (by (repeat' (first | exact Below.refl _ _ | assumption | refine Below.drew ?_ | refine below_drewN ?_ _ | refine Below.alloc ?_ (by simp <;> omega) _ | refine Below.setCell ?_ (by simp <;> omega) _))) ?_
      repeat (refine seql_take (v := ?_) rfl (by rfl) ?_ ?_; rotate_left; (focus (intro wS hS; have z0 := (hS.cell (p := ⟨g, 0, none⟩) hgW).trans q0; go_simp; exact rfl)); simp only [Act.put, List.setIfInBounds_toArray, List.set_cons_zero, List.set_cons_succ])
      refine seql_late rfl rfl (by rfl) (fun K hK => ?_)
      go_simp
      refine hK _ _ ?_
      clear hK K
      refine seql_nil ?_
      go_wp2
      refine bodyPost_ret (v := .tuple #[.slice (some ⟨g, 0, none⟩) m cap, .agg #[.int .i64 0, .int .u64 (x - 1), .slice none 0 0]]) (by simp [results, Tryz.results85, go_sem, *]) rfl ?_
      refine ra_same HO.out HL.out hmx hB (HKW.out.trans ?_)
      (repeat' (first | exact Keep.refl _ _ | refine Keep.alloc ?_ (fun k (hk : k < w.heap.size) => by first | exact hk | (simp; omega)) _ | refine Keep.setCell ?_ (by simp) _ | refine Keep.drew ?_))
  · by_cases hx2 : x = 0
    · subst hx2
      have hw : IntKind.u64.wrap (c.a + 1) = c.a + 1 := by rw [IntKind.wrap_u64]; omega
      have hw2 : IntKind.u64.wrap (c.a + 1 - 1) = c.a := by rw [IntKind.wrap_u64]; omega
      have hw3 : IntKind.u64.wrap c.a = c.a := by rw [IntKind.wrap_u64]; omega
      have hR : (if ¬ (0 ≤ c.kind ∧ c.kind < 2) then (st, anE 9) else consM st c) = (st.set 0 (c.a + 1), ⟨0, c.a, []⟩) := by
        unfold consM
        rw [if_neg (by omega), if_neg (by omega), hat, if_neg (by omega), if_pos rfl]
        rfl
      rw [hR]
      clear hR hat
      have d0 : (c.kind == 0) = true := by simpa using hk
      have d1 : (c.kind == 1) = false := by simp; omega
      have n0 : (c.kind != 0) = false := by simp; omega
      have e1 : decide (4294967296 ≤ c.a) = false := by simp; omega
      clear hk hk'
      go_enter Tryz.func85, Tryz.ntmps85
      go_wp2_with fail
      obtain ⟨W, hW⟩ : ∃ W, W = ((w.setCell ⟨g, 0, none⟩ (.int .u64 (c.a + 1))).alloc (.cells #[.int .i64 c.thread, .int .i64 c.obj, .int .i64 c.kind, .int .u64 c.a, .int .u64 c.b, .int .u64 c.c] 27)).alloc (.cells #[.int .i64 0, .int .u64 0, .slice none 0 0] 57) := ⟨_, rfl⟩
      have q0 : W.cell? ⟨g, 0, none⟩ = some (.int .u64 (c.a + 1)) := by rw [hW]; go_simp
      have hgW : g < W.heap.size := by rw [hW]; simp; omega
      have HKW : Hid (Keep (fun k => k < w.heap.size) (w.setCell ⟨g, 0, none⟩ (.int .u64 (c.a + 1))) W) := hide (by rw [hW]; (repeat' (first | exact Keep.refl _ _ | refine Keep.alloc ?_ (fun k (hk : k < w.heap.size) => by first | exact hk | (simp; omega)) _ | refine Keep.setCell ?_ (by simp) _ | refine Keep.drew ?_)))
      have r0 : W.heap[w.heap.size + 1]? = some (.cells #[.int .i64 0, .int .u64 0, .slice none 0 0] 57 (0, 0)) := by
        have hs : ∀ o, ((w.setCell ⟨g, 0, none⟩ (.int .u64 (c.a + 1))).alloc o).heap.size = w.heap.size + 1 := fun o => by simp
        have h := heap_alloc_new ((w.setCell ⟨g, 0, none⟩ (.int .u64 (c.a + 1))).alloc (.cells #[.int .i64 c.thread, .int .i64 c.obj, .int .i64 c.kind, .int .u64 c.a, .int .u64 c.b, .int .u64 c.c] 27)) (.cells #[.int .i64 0, .int .u64 0, .slice none 0 0] 57)
        rw [hs] at h
        rw [hW]
        exact h
      rw [← hW]
      obtain ⟨z0, z1, z2, g0, g1, g2, rz⟩ := cells3 r0
      clear hW r0 c0 f0
      refine wp_region_seql (Below W.heap.size W) [7] (.take 0 <| .take 1 <| .take 2 <| .take 3 <| .take 4 <| .take 5 <| .take 6 <| .run 7 <| .done) (by kernel_rfl) (by kernel_rfl) (by kernel_rfl) (by (repeat' (first | exact Below.refl _ _ | assumption | refine Below.drew ?_ | refine below_drewN ?_ _ | refine Below.alloc ?_ (by simp <;> omega) _ | refine Below.setCell ?_ (by simp <;> omega) _))) ?_
      repeat (refine seql_take (v := ?_) rfl (by rfl) ?_ ?_; rotate_left; (focus (intro wS hS; have z0 := (hS.cell (p := ⟨g, 0, none⟩) hgW).trans q0; go_simp; exact rfl)); simp only [Act.put, List.setIfInBounds_toArray, List.set_cons_zero, List.set_cons_succ])
      refine seql_late rfl rfl (by rfl) (fun K hK => ?_)
      go_simp
      refine hK _ _ ?_
      clear hK K
      refine seql_nil ?_
      go_wp2
      refine bodyPost_ret (v := .tuple #[.slice (some ⟨g, 0, none⟩) m cap, .agg #[.int .i64 0, .int .u64 c.a, .slice none 0 0]]) (by simp [results, Tryz.results85, go_sem, *]) rfl ?_
      refine ra_put HO.out HL.out hmx hB hBg hg (HKW.out.trans ?_)
      (repeat' (first | exact Keep.refl _ _ | refine Keep.alloc ?_ (fun k (hk : k < w.heap.size) => by first | exact hk | (simp; omega)) _ | refine Keep.setCell ?_ (by simp) _ | refine Keep.drew ?_))
    · have e0 : (x == 0) = false := by simpa using hx2
      have hw : IntKind.u64.wrap (x - 1) = x - 1 := by rw [IntKind.wrap_u64]; omega
      have hR : (if ¬ (0 ≤ c.kind ∧ c.kind < 2) then (st, anE 9) else consM st c) = (st, ⟨0, x - 1, []⟩) := by
        unfold consM
        rw [if_neg (by omega), if_neg (by omega), hat, if_neg (by omega), if_neg hx2]
        rfl
      rw [hR]
      clear hR hat
      have d0 : (c.kind == 0) = true := by simpa using hk
      have d1 : (c.kind == 1) = false := by simp; omega
      have n0 : (c.kind != 0) = false := by simp; omega
      have e1 : decide (4294967296 ≤ c.a) = false := by simp; omega
      clear hk hk'
      go_enter Tryz.func85, Tryz.ntmps85
      go_wp2_with fail
      obtain ⟨W, hW⟩ : ∃ W, W = (w.alloc (.cells #[.int .i64 c.thread, .int .i64 c.obj, .int .i64 c.kind, .int .u64 c.a, .int .u64 c.b, .int .u64 c.c] 27)).alloc (.cells #[.int .i64 0, .int .u64 0, .slice none 0 0] 57) := ⟨_, rfl⟩
      have q0 : W.cell? ⟨g, 0, none⟩ = some (.int .u64 x) := by rw [hW]; go_simp
      have hgW : g < W.heap.size := by rw [hW]; simp; omega
      have HKW : Hid (Keep (fun k => k < w.heap.size) w W) := hide (by rw [hW]; (repeat' (first | exact Keep.refl _ _ | refine Keep.alloc ?_ (fun k (hk : k < w.heap.size) => by first | exact hk | (simp; omega)) _ | refine Keep.setCell ?_ (by simp) _ | refine Keep.drew ?_)))
      have r0 : W.heap[w.heap.size + 1]? = some (.cells #[.int .i64 0, .int .u64 0, .slice none 0 0] 57 (0, 0)) := by
        have hs : ∀ o, (w.alloc o).heap.size = w.heap.size + 1 := fun o => by simp
        have h := heap_alloc_new (w.alloc (.cells #[.int .i64 c.thread, .int .i64 c.obj, .int .i64 c.kind, .int .u64 c.a, .int .u64 c.b, .int .u64 c.c] 27)) (.cells #[.int .i64 0, .int .u64 0, .slice none 0 0] 57)
        rw [hs] at h
        rw [hW]
        exact h
      rw [← hW]
      obtain ⟨z0, z1, z2, g0, g1, g2, rz⟩ := cells3 r0
      clear hW r0 c0 f0
      refine wp_region_seql (Below W.heap.size W) [7] (.take 0 <| .take 1 <| .take 2 <| .take 3 <| .take 4 <| .take 5 <| .take 6 <| .run 7 <| .done) (by kernel_rfl) (by kernel_rfl) (by kernel_rfl) (by (repeat' (first | exact Below.refl _ _ | assumption | refine Below.drew ?_ | refine below_drewN ?_ _ | refine Below.alloc ?_ (by simp <;> omega) _ | refine Below.setCell ?_ (by simp <;> omega) _))) ?_
      repeat (refine seql_take (v := ?_) rfl (by rfl) ?_ ?_; rotate_left; (focus (intro wS hS; have z0 := (hS.cell (p := ⟨g, 0, none⟩) hgW).trans q0; go_simp; exact rfl)); simp only [Act.put, List.setIfInBounds_toArray, List.set_cons_zero, List.set_cons_succ])
      refine seql_late rfl rfl (by rfl) (fun K hK => ?_)
      go_simp
      refine hK _ _ ?_
      clear hK K
      refine seql_nil ?_
      go_wp2
      refine bodyPost_ret (v := .tuple #[.slice (some ⟨g, 0, none⟩) m cap, .agg #[.int .i64 0, .int .u64 (x - 1), .slice none 0 0]]) (by simp [results, Tryz.results85, go_sem, *]) rfl ?_
      refine ra_same HO.out HL.out hmx hB (HKW.out.trans ?_)
      (repeat' (first | exact Keep.refl _ _ | refine Keep.alloc ?_ (fun k (hk : k < w.heap.size) => by first | exact hk | (simp; omega)) _ | refine Keep.setCell ?_ (by simp) _ | refine Keep.drew ?_))
  · have hR : (if ¬ (0 ≤ c.kind ∧ c.kind < 2) then (st, anE 9) else consM st c) = (st, ⟨10, 0, []⟩) := by
      unfold consM
      rw [if_neg (by omega), if_pos ⟨hk, hk'⟩]
      rfl
    rw [hR]
    clear hR hat
    have d0 : (c.kind == 0) = true := by simpa using hk
    have d1 : (c.kind == 1) = false := by simp; omega
    have n0 : (c.kind != 0) = false := by simp; omega
    have e1 : decide (4294967296 ≤ c.a) = true := by simp; omega
    clear hk hk'
    go_enter Tryz.func85, Tryz.ntmps85
    go_wp2
    refine bodyPost_ret (v := .tuple #[.slice (some ⟨g, 0, none⟩) m cap, .agg #[.int .i64 10, .int .u64 0, .slice none 0 0]]) (by simp [results, Tryz.results85, go_sem, *]) rfl ?_
    refine ra_same HO.out HL.out hmx hB ?_
    (repeat' (first | exact Keep.refl _ _ | refine Keep.alloc ?_ (fun k (hk : k < w.heap.size) => by first | exact hk | (simp; omega)) _ | refine Keep.setCell ?_ (by simp) _ | refine Keep.drew ?_))
  · have hR : (if ¬ (0 ≤ c.kind ∧ c.kind < 2) then (st, anE 9) else consM st c) = (st, ⟨9, 0, []⟩) := by
      rw [if_pos hk]
      rfl
    rw [hR]
    clear hR hat
    have d0 : (c.kind == 0) = false := by simp; omega
    have d1 : (c.kind == 1) = false := by simp; omega
    have n0 : (c.kind != 0) = true := by simp; omega
    have n1 : (c.kind != 1) = true := by simp; omega
    clear hk
    go_enter Tryz.func85, Tryz.ntmps85
    go_wp2
    refine bodyPost_ret (v := .tuple #[.slice (some ⟨g, 0, none⟩) m cap, .agg #[.int .i64 9, .int .u64 0, .slice none 0 0]]) (by simp [results, Tryz.results85, go_sem, *]) rfl ?_
    refine ra_same HO.out HL.out hmx hB ?_
    (repeat' (first | exact Keep.refl _ _ | refine Keep.alloc ?_ (fun k (hk : k < w.heap.size) => by first | exact hk | (simp; omega)) _ | refine Keep.setCell ?_ (by simp) _ | refine Keep.drew ?_))
end Go.Proofs.YtmiimpmfkjcjlaaGreat
