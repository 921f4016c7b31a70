/- The reference's models (roundelayref27): queue. -/
import Derived.Test.YtmiimpmfkjcjlaaGreatRa3
namespace Go.Proofs.YtmiimpmfkjcjlaaGreat
open Go.RowKit
attribute [local go_sem] run_store_fn run_store_nilfn

theorem ra_same' {w w' : World} {B m : Nat} {v : Value} {st : List Int} {E V : Int} (hO : WOwn w B v m st) (hl : st.length = m) (hmx : m ≤ maxLen) (hB : B ≤ w.heap.size) (h' : Keep (fun k => k < w.heap.size) w w') :
    RPost B (st, ⟨E, V, []⟩) w (.returned (.tuple #[v, .agg #[.int .i64 E, .int .u64 V, .slice none 0 0]])) w' := by
  have h1 : WOwn w' B v m st := owns_keepB hO h' (fun j _ hj => hj)
  exact ⟨_, _, rfl, wrow_sl (show WRow _ B _ st from by unfold WRow; rw [hl]; exact h1) (by rw [hl]; exact hmx), slw_none _, h'.below (fun k hk => by omega), tw_own h1, tw_none _ _ _⟩
theorem ra_ans (w : World) (a b d : Obj) : (((w.alloc a).alloc b).alloc d).heap[w.heap.size + 1]? = some (b) := by
  have hs : (w.alloc a).heap.size = w.heap.size + 1 := by simp
  have h := heap_alloc_new (w.alloc a) b
  rw [hs] at h
  exact (heap_alloc_old _ _ (by simp)).trans h
theorem tw_at {w : World} {g o o' n n' c c' : Nat} (h : Tw w (.slice (some ⟨g, o', none⟩) n' c')) : Tw w (.slice (some ⟨g, o, none⟩) n c) := by
  intro A m d e a ha
  cases e
  cases ha
  exact h _ _ _ rfl ⟨g, o', none⟩ rfl
theorem ra_take {w W w' : World} {B : Nat} {v' : Value} {st' : List Int} {V : Int} (h : SlW w v' st') (hB : B ≤ w.heap.size) (hb : Below w.heap.size w W) (ho : Tw w v') (h' : Keep (fun k => k < w.heap.size) W w') :
    RPost B (st', ⟨0, V, []⟩) w (.returned (.tuple #[v', .agg #[.int .i64 0, .int .u64 V, .slice none 0 0]])) w' := by
  have hk : Keep (fun k => k < w.heap.size) w w' := (Keep.of_below hb (fun k hk => hk)).trans h'
  exact ⟨_, _, rfl, h.below (hk.below (fun k hk => hk)) (Nat.le_refl _), slw_none _, hk.below (fun k hk => by omega), ho.keep hk (fun j cs fr hj => (Array.getElem?_eq_some_iff.1 hj).1), tw_none _ _ _⟩
theorem ra_push {w w5 w' : World} {B m c5 r : Nat} {A5 : Option Addr} {st : List Int} {x y : Int} (hO : w5.ownsRow B 25 1 (.slice A5 (m + 2) c5) (m + 2) (st.map (Value.int .u64) ++ [.int .u64 x, .int .u64 y])) (hl : st.length = m) (hmx : m + 2 ≤ maxLen)
    (hb : Below B w w5) (hne : ∀ g, A5 = some ⟨g, 0, none⟩ → g ≠ r) (hr : B ≤ r) (h' : Keep (fun k => k ≠ r) w5 w') :
    RPost B (st ++ [x, y], ⟨0, 0, []⟩) w (.returned (.tuple #[.slice A5 (m + 2) c5, .agg #[.int .i64 0, .int .u64 0, .slice none 0 0]])) w' := by
  have h1 : w'.ownsRow B 25 1 (.slice A5 (m + 2) c5) (m + 2) (st.map (Value.int .u64) ++ [.int .u64 x, .int .u64 y]) := by
    obtain ⟨q1, ⟨q2, q3⟩ | ⟨g, cap, cur, e1, e2, e3, e4⟩⟩ := hO
    · omega
    · cases e1
      exact ⟨q1, Or.inr ⟨g, c5, cur, rfl, e2, (h'.block g (hne g rfl)).trans e3, e4⟩⟩
  have hl2 : (st ++ [x, y]).length = m + 2 := by simp [hl]
  refine ⟨_, _, rfl, wrow_sl (B := B) (show WRow _ B _ (st ++ [x, y]) from ?_) (by rw [hl2]; exact hmx), slw_none _, hb.trans (h'.below (fun k hk => by omega)), tw_own h1, tw_none _ _ _⟩
  unfold WRow
  rw [hl2, List.map_append]
  exact h1
set_option maxRecDepth 100000 in
set_option maxHeartbeats 2000000 in
theorem rqueue_any (c : Cl) (B m : Nat) (v : Value) (st : List Int) (w : World) (hO : WOwn w B v m st) (hmx : m ≤ 1000000) (he : m % 2 = 0) (hB : B ≤ w.heap.size) (ha : U64 c.a) (ht0 : 0 ≤ c.thread) (ht1 : c.thread < 100) :
    Calls Tryz.prog 90 #[v, clV c] w (RPost B (if ¬ (0 ≤ c.kind ∧ c.kind < 2) then (st, anE 9) else queueM st c) w) := by
  obtain ⟨A, cap, rfl⟩ := own_slice hO
  have hl : st.length = m := by have := own_len hO; simpa using this
  have hm2 : (m : Int) ≤ 1000000 := by omega
  have hm63 : m ≤ maxLen := by unfold maxLen; omega
  have hwt : IntKind.u64.wrap c.thread = c.thread := by rw [IntKind.wrap_u64]; omega
  obtain ⟨i0, hi, hz0, hz1, hz2⟩ := info_parts info_word
  obtain ⟨ha0, ha1⟩ := ha
  have HO := hide hO
  have HL := hide hl
  clear hO
  rcases (by omega : c.kind = 1 ∨ (c.kind = 0 ∧ c.a < 16777216) ∨ (c.kind = 0 ∧ 16777216 ≤ c.a) ∨ ¬ (0 ≤ c.kind ∧ c.kind < 2)) with hk | ⟨hk, hk'⟩ | ⟨hk, hk'⟩ | hk
  · by_cases h0 : m = 0
    · subst h0
      have hR : (if ¬ (0 ≤ c.kind ∧ c.kind < 2) then (st, anE 9) else queueM st c) = (st, ⟨7, 0, []⟩) := by
        unfold queueM
        rw [if_neg (by omega), if_neg (by omega), if_neg (by omega), if_pos hl]
        rfl
      rw [hR]
      clear hR
      have d0 : (c.kind == 0) = false := by simp; omega
      have d1 : (c.kind == 1) = true := by simpa using hk
      have n0 : (c.kind != 0) = true := by simp; omega
      have n1 : (c.kind != 1) = false := by simp; omega
      clear hk hl
      go_enter Tryz.func90, Tryz.ntmps90
      go_wp2
      refine bodyPost_ret (v := .tuple #[.slice A 0 cap, .agg #[.int .i64 7, .int .u64 0, .slice none 0 0]]) (by simp [results, Tryz.results90, go_sem, *]) rfl ?_
      refine ra_same' HO.out HL.out hm63 hB ?_
      (repeat' (first | exact Keep.refl _ _ | refine Keep.alloc ?_ (fun k (hk : k < w.heap.size) => by first | exact hk | (simp; omega)) _ | refine Keep.setCell ?_ (by first | (simp; done) | (simp; omega)) _ | refine Keep.drew ?_))
    · have hsl : SlW w (.slice A m cap) st := wrow_sl (show WRow w B _ st from by unfold WRow; rw [hl]; exact HO.out) (by rw [hl]; exact hm63)
      obtain ⟨x, hx⟩ : ∃ x, st[1]? = some x := ⟨_, List.getElem?_eq_getElem (by omega)⟩
      have hat : at0 st 1 = x := by unfold at0; rw [hx]; rfl
      obtain ⟨g, o, rfl, cx, hg⟩ := sl_at hsl 1 x hx
      obtain ⟨X, hX, hXs⟩ := sl_drop (k := 2) hsl (by omega)
      unfold sliced at hX
      have hvm : m ≤ cap := by obtain ⟨_, _, e, h1, _⟩ := hsl; cases e; omega
      have hR : (if ¬ (0 ≤ c.kind ∧ c.kind < 2) then (st, anE 9) else queueM st c) = (st.drop 2, ⟨0, x, []⟩) := by
        unfold queueM
        rw [if_neg (by omega), if_neg (by omega), if_neg (by omega), if_neg (by omega), hat]
        rfl
      rw [hR]
      have hm3 : 2 ≤ m := by omega
      have hm4 : 1 < m := by omega
      have hm5 : (2 : Int) ≤ (m : Int) := by omega
      have hm6 : (1 : Int) < (m : Int) := by omega
      have e0 : ((m : Int) == 0) = false := by simp; omega
      clear hat hsl hx hR
      by_cases hvc : cap = 2
      · rw [if_pos hvc] at hX
        subst hvc
        obtain rfl : m = 2 := by omega
        subst hX
        have HX := hide hXs
        have d0 : (c.kind == 0) = false := by simp; omega
        have d1 : (c.kind == 1) = true := by simpa using hk
        have n0 : (c.kind != 0) = true := by simp; omega
        have n1 : (c.kind != 1) = false := by simp; omega
        clear hk hXs hl
        go_enter Tryz.func90, Tryz.ntmps90
        go_wp2_with fail
        obtain ⟨W, hW⟩ : ∃ W, W = (w.alloc (.cells #[.int .i64 c.thread, .int .i64 c.obj, .int .i64 c.kind, .int .u64 c.a, .int .u64 c.b, .int .u64 c.c] 27)).alloc (.cells #[.int .i64 0, .int .u64 0, .slice none 0 0] 57) := ⟨_, rfl⟩
        have q0 : W.cell? ⟨g, o + 1, none⟩ = some (.int .u64 x) := by rw [hW]; go_simp
        have hgW : g < W.heap.size := by rw [hW]; simp; omega
        have HBW : Hid (Below w.heap.size w W) := hide (by rw [hW]; exact ((Below.refl _ w).alloc (Nat.le_refl _) _).alloc (by simp) _)
        have r0 : W.heap[w.heap.size + 1]? = some (.cells #[.int .i64 0, .int .u64 0, .slice none 0 0] 57 (0, 0)) := by
          have hs : ∀ o, (w.alloc o).heap.size = w.heap.size + 1 := fun o => by simp
          have h := heap_alloc_new (w.alloc (.cells #[.int .i64 c.thread, .int .i64 c.obj, .int .i64 c.kind, .int .u64 c.a, .int .u64 c.b, .int .u64 c.c] 27)) (.cells #[.int .i64 0, .int .u64 0, .slice none 0 0] 57)
          rw [hs] at h
          rw [hW]
          exact h
        rw [← hW]
        obtain ⟨z0, z1, z2, g0, g1, g2, rz⟩ := cells3 r0
        clear hW r0 cx
        refine wp_region_seql (Below W.heap.size W) [7] (.take 0 <| .take 1 <| .take 2 <| .take 3 <| .take 4 <| .take 5 <| .take 6 <| .run 7 <| .done) (by kernel_rfl) (by kernel_rfl) (by kernel_rfl) (by (repeat' (first | exact Below.refl _ _ | assumption | refine Below.drew ?_ | refine below_drewN ?_ _ | refine Below.alloc ?_ (by simp <;> omega) _ | refine Below.setCell ?_ (by simp <;> omega) _))) ?_
        repeat (refine seql_take (v := ?_) rfl (by rfl) ?_ ?_; rotate_left; (focus (intro wS hS; have z0 := (hS.cell (p := ⟨g, o + 1, none⟩) hgW).trans q0; go_simp; exact rfl)); simp only [Act.put, List.setIfInBounds_toArray, List.set_cons_zero, List.set_cons_succ])
        refine seql_late rfl rfl (by rfl) (fun K hK => ?_)
        go_simp
        refine hK _ _ ?_
        clear hK K
        refine seql_nil ?_
        go_wp2
        refine bodyPost_ret (v := .tuple #[.slice (some ⟨g, o, none⟩) 0 0, .agg #[.int .i64 0, .int .u64 x, .slice none 0 0]]) (by simp [results, Tryz.results90, go_sem, *]) rfl ?_
        refine ra_take HX.out hB HBW.out (tw_at (tw_own HO.out)) ?_
        (repeat' (first | exact Keep.refl _ _ | refine Keep.alloc ?_ (fun k (hk : k < w.heap.size) => by first | exact hk | (simp; omega)) _ | refine Keep.setCell ?_ (by first | (simp; done) | (simp; omega)) _ | refine Keep.drew ?_))
      · rw [if_neg hvc] at hX
        simp only [Option.map_some, Addr.add, Nat.mul_one] at hX
        rw [if_neg (by omega)] at hX
        subst hX
        have HX := hide hXs
        have d0 : (c.kind == 0) = false := by simp; omega
        have d1 : (c.kind == 1) = true := by simpa using hk
        have n0 : (c.kind != 0) = true := by simp; omega
        have n1 : (c.kind != 1) = false := by simp; omega
        clear hk hXs hl
        go_enter Tryz.func90, Tryz.ntmps90
        go_wp2_with fail
        obtain ⟨W, hW⟩ : ∃ W, W = (w.alloc (.cells #[.int .i64 c.thread, .int .i64 c.obj, .int .i64 c.kind, .int .u64 c.a, .int .u64 c.b, .int .u64 c.c] 27)).alloc (.cells #[.int .i64 0, .int .u64 0, .slice none 0 0] 57) := ⟨_, rfl⟩
        have q0 : W.cell? ⟨g, o + 1, none⟩ = some (.int .u64 x) := by rw [hW]; go_simp
        have hgW : g < W.heap.size := by rw [hW]; simp; omega
        have HBW : Hid (Below w.heap.size w W) := hide (by rw [hW]; exact ((Below.refl _ w).alloc (Nat.le_refl _) _).alloc (by simp) _)
        have r0 : W.heap[w.heap.size + 1]? = some (.cells #[.int .i64 0, .int .u64 0, .slice none 0 0] 57 (0, 0)) := by
          have hs : ∀ o, (w.alloc o).heap.size = w.heap.size + 1 := fun o => by simp
          have h := heap_alloc_new (w.alloc (.cells #[.int .i64 c.thread, .int .i64 c.obj, .int .i64 c.kind, .int .u64 c.a, .int .u64 c.b, .int .u64 c.c] 27)) (.cells #[.int .i64 0, .int .u64 0, .slice none 0 0] 57)
          rw [hs] at h
          rw [hW]
          exact h
        rw [← hW]
        obtain ⟨z0, z1, z2, g0, g1, g2, rz⟩ := cells3 r0
        clear hW r0 cx
        refine wp_region_seql (Below W.heap.size W) [7] (.take 0 <| .take 1 <| .take 2 <| .take 3 <| .take 4 <| .take 5 <| .take 6 <| .run 7 <| .done) (by kernel_rfl) (by kernel_rfl) (by kernel_rfl) (by (repeat' (first | exact Below.refl _ _ | assumption | refine Below.drew ?_ | refine below_drewN ?_ _ | refine Below.alloc ?_ (by simp <;> omega) _ | refine Below.setCell ?_ (by simp <;> omega) _))) ?_
        repeat (refine seql_take (v := ?_) rfl (by rfl) ?_ ?_; rotate_left; (focus (intro wS hS; have z0 := (hS.cell (p := ⟨g, o + 1, none⟩) hgW).trans q0; go_simp; exact rfl)); simp only [Act.put, List.setIfInBounds_toArray, List.set_cons_zero, List.set_cons_succ])
        refine seql_late rfl rfl (by rfl) (fun K hK => ?_)
        go_simp
        refine hK _ _ ?_
        clear hK K
        refine seql_nil ?_
        go_wp2
        refine bodyPost_ret (v := .tuple #[.slice (some ⟨g, o + 2, none⟩) (m - 2) (cap - 2), .agg #[.int .i64 0, .int .u64 x, .slice none 0 0]]) (by simp [results, Tryz.results90, go_sem, *]) rfl ?_
        refine ra_take HX.out hB HBW.out (tw_at (tw_own HO.out)) ?_
        (repeat' (first | exact Keep.refl _ _ | refine Keep.alloc ?_ (fun k (hk : k < w.heap.size) => by first | exact hk | (simp; omega)) _ | refine Keep.setCell ?_ (by first | (simp; done) | (simp; omega)) _ | refine Keep.drew ?_))
  · have hR : (if ¬ (0 ≤ c.kind ∧ c.kind < 2) then (st, anE 9) else queueM st c) = (st ++ [c.thread, c.a], ⟨0, 0, []⟩) := by
      unfold queueM
      rw [if_neg (by omega), if_neg (by omega), if_pos hk]
      rfl
    rw [hR]
    clear hR
    have d0 : (c.kind == 0) = true := by simpa using hk
    have d1 : (c.kind == 1) = false := by simp; omega
    have n0 : (c.kind != 0) = false := by simp; omega
    have e1 : decide (16777216 ≤ c.a) = false := by simp; omega
    clear hk hk' hl
    go_enter Tryz.func90, Tryz.ntmps90
    go_wp2_with (at_builtin; refine wpList_append_own_at _ rfl _ _ 24 rfl B 25 i0 (.int .u64 0) 1 8 Tryz.underlying24 hi hz0 hz1 hz2 rfl (by decide) _ _ _ rfl (World.ownsRow.alloc (World.ownsRow.alloc (World.ownsRow.alloc HO.out _) _) _) ⟨w.heap.size + 1 + 1, 0, none⟩ 2 2 [.int .u64 c.thread, .int .u64 c.a] rfl rfl (by intro j u hu; rcases j with _ | _ | j; (cases hu; go_simp); (cases hu; go_simp); cases hu) (by simp [Value.oneCell']) (by unfold maxLen; omega) (by omega) (by simp; omega) ?_; intro v5 w5 hown5 hgrow _ hloc; have hans : w5.heap[w.heap.size + 1]? = some (.cells #[.int .i64 0, .int .u64 0, .slice none 0 0] 57 (0, 0)) := (hgrow.block _ (by simp) (fun e => by have := (HO.out.lt _ e.symm).2; omega)).trans (ra_ans w _ _ _); have hB5 : Below B w w5 := ((((Below.refl B w).alloc hB _).alloc (by simp; omega) _).alloc (by simp; omega) _).grown hgrow (by simp; omega) (fun k hk => (HO.out.lt k hk).1); obtain ⟨A5, c5, rfl⟩ := own_slice hown5; have hne : ∀ g, A5 = some ⟨g, 0, none⟩ → g ≠ w.heap.size + 1 := (fun g hA e => by subst hA; rcases hloc with h | h; (have := (HO.out.lt g h.symm).2; omega); (have := Option.some.inj (show some g = some _ from h); simp at this; omega)); obtain ⟨z0, z1, z2, g0, g1, g2, rz⟩ := cells3 hans; have HN := hide hne; have HO5 := hide hown5; have HB5 := hide hB5; clear hans hgrow hloc hne hown5 hB5)
    refine bodyPost_ret (v := .tuple #[.slice A5 (m + 2) c5, .agg #[.int .i64 0, .int .u64 0, .slice none 0 0]]) (by simp [results, Tryz.results90, go_sem, *]) rfl ?_
    refine ra_push HO5.out HL.out (by unfold maxLen; omega) HB5.out HN.out ?_ ?_
    · have := HB5.out.size; omega
    (repeat' (first | exact Keep.refl _ _ | refine Keep.setCell ?_ (by simp) _ | refine Keep.drew ?_))
  · have hR : (if ¬ (0 ≤ c.kind ∧ c.kind < 2) then (st, anE 9) else queueM st c) = (st, ⟨10, 0, []⟩) := by
      unfold queueM
      rw [if_neg (by omega), if_pos ⟨hk, hk'⟩]
      rfl
    rw [hR]
    clear hR
    have d0 : (c.kind == 0) = true := by simpa using hk
    have d1 : (c.kind == 1) = false := by simp; omega
    have n0 : (c.kind != 0) = false := by simp; omega
    have e1 : decide (16777216 ≤ c.a) = true := by simp; omega
    clear hk hk' hl
    go_enter Tryz.func90, Tryz.ntmps90
    go_wp2
    refine bodyPost_ret (v := .tuple #[.slice A m cap, .agg #[.int .i64 10, .int .u64 0, .slice none 0 0]]) (by simp [results, Tryz.results90, go_sem, *]) rfl ?_
    refine ra_same' HO.out HL.out hm63 hB ?_
    (repeat' (first | exact Keep.refl _ _ | refine Keep.alloc ?_ (fun k (hk : k < w.heap.size) => by first | exact hk | (simp; omega)) _ | refine Keep.setCell ?_ (by first | (simp; done) | (simp; omega)) _ | refine Keep.drew ?_))
  · have hR : (if ¬ (0 ≤ c.kind ∧ c.kind < 2) then (st, anE 9) else queueM st c) = (st, ⟨9, 0, []⟩) := by
      rw [if_pos hk]
      rfl
    rw [hR]
    clear hR
    have d0 : (c.kind == 0) = false := by simp; omega
    have d1 : (c.kind == 1) = false := by simp; omega
    have n0 : (c.kind != 0) = true := by simp; omega
    have n1 : (c.kind != 1) = true := by simp; omega
    clear hk hl
    go_enter Tryz.func90, Tryz.ntmps90
    go_wp2
    refine bodyPost_ret (v := .tuple #[.slice A m cap, .agg #[.int .i64 9, .int .u64 0, .slice none 0 0]]) (by simp [results, Tryz.results90, go_sem, *]) rfl ?_
    refine ra_same' HO.out HL.out hm63 hB ?_
    (repeat' (first | exact Keep.refl _ _ | refine Keep.alloc ?_ (fun k (hk : k < w.heap.size) => by first | exact hk | (simp; omega)) _ | refine Keep.setCell ?_ (by first | (simp; done) | (simp; omega)) _ | refine Keep.drew ?_))
end Go.Proofs.YtmiimpmfkjcjlaaGreat
