import Derived.Test.YtmiimpmfkjcjlaaGreatBun24
import Derived.Test.YtmiimpmfkjcjlaaGreatBun23
namespace Go.Proofs.YtmiimpmfkjcjlaaGreat
open Go.RowKit
attribute [local go_sem] run_store_fn run_store_nilfn
theorem ra_same' {w w' : World} {B m : Nat} {v : Value} {st : List Int} {E V : Int} (hO : WOwn w B v m st) (hl : st.length = m) (hmx : m ≤ maxLen) (hB : B ≤ w.heap.size) (h' : Keep (fun k => k < w.heap.size) w w') :
    RPost B (st, ⟨E, V, []⟩) w (.returned (.tuple #[v, .agg #[.int .i64 E, .int .u64 V, .slice none 0 0]])) w' := by
  have h1 : WOwn w' B v m st := owns_keepB hO h' (fun j _ hj => hj)
  exact ⟨_, _, rfl, wrow_sl (show WRow _ B _ st from by unfold WRow; rw [hl]; exact h1) (by rw [hl]; exact hmx), slw_none _, h'.below (fun k hk => by omega), tw_own h1, tw_none _ _ _⟩
theorem ra_ans (w : World) (a b d : Obj) : (((w.alloc a).alloc b).alloc d).heap[w.heap.size + 1]? = some (b) := by
  have hs : (w.alloc a).heap.size = w.heap.size + 1 := by simp
  have h := heap_alloc_new (w.alloc a) b
  rw [hs] at h
  exact (heap_alloc_old _ _ (by simp)).trans h
theorem tw_at {w : World} {g o o' n n' c c' : Nat} (h : Tw w (.slice (some ⟨g, o', none⟩) n' c')) : Tw w (.slice (some ⟨g, o, none⟩) n c) := by
  intro A m d e a ha
  cases e
  cases ha
  exact h _ _ _ rfl ⟨g, o', none⟩ rfl
theorem ra_take {w W w' : World} {B : Nat} {v' : Value} {st' : List Int} {V : Int} (h : SlW w v' st') (hB : B ≤ w.heap.size) (hb : Below w.heap.size w W) (ho : Tw w v') (h' : Keep (fun k => k < w.heap.size) W w') :
    RPost B (st', ⟨0, V, []⟩) w (.returned (.tuple #[v', .agg #[.int .i64 0, .int .u64 V, .slice none 0 0]])) w' := by
  have hk : Keep (fun k => k < w.heap.size) w w' := (Keep.of_below hb (fun k hk => hk)).trans h'
  exact ⟨_, _, rfl, h.below (hk.below (fun k hk => hk)) (Nat.le_refl _), slw_none _, hk.below (fun k hk => by omega), ho.keep hk (fun j cs fr hj => (Array.getElem?_eq_some_iff.1 hj).1), tw_none _ _ _⟩
theorem ra_push {w w5 w' : World} {B m c5 r : Nat} {A5 : Option Addr} {st : List Int} {x y : Int} (hO : w5.ownsRow B 25 1 (.slice A5 (m + 2) c5) (m + 2) (st.map (Value.int .u64) ++ [.int .u64 x, .int .u64 y])) (hl : st.length = m) (hmx : m + 2 ≤ maxLen)
    (hb : Below B w w5) (hne : ∀ g, A5 = some ⟨g, 0, none⟩ → g ≠ r) (hr : B ≤ r) (h' : Keep (fun k => k ≠ r) w5 w') :
    RPost B (st ++ [x, y], ⟨0, 0, []⟩) w (.returned (.tuple #[.slice A5 (m + 2) c5, .agg #[.int .i64 0, .int .u64 0, .slice none 0 0]])) w' := by
  have h1 : w'.ownsRow B 25 1 (.slice A5 (m + 2) c5) (m + 2) (st.map (Value.int .u64) ++ [.int .u64 x, .int .u64 y]) := by
    obtain ⟨q1, ⟨q2, q3⟩ | ⟨g, cap, cur, e1, e2, e3, e4⟩⟩ := hO
    · omega
    · cases e1
      exact ⟨q1, Or.inr ⟨g, c5, cur, rfl, e2, (h'.block g (hne g rfl)).trans e3, e4⟩⟩
  have hl2 : (st ++ [x, y]).length = m + 2 := by simp [hl]
  refine ⟨_, _, rfl, wrow_sl (B := B) (show WRow _ B _ (st ++ [x, y]) from ?_) (by rw [hl2]; exact hmx), slw_none _, hb.trans (h'.below (fun k hk => by omega)), tw_own h1, tw_none _ _ _⟩
  unfold WRow
  rw [hl2, List.map_append]
  exact h1
set_option maxRecDepth 100000 in
set_option maxHeartbeats 2000000 in
theorem rqueue_any (c : Cl) (B m : Nat) (v : Value) (st : List Int) (w : World) (hO : WOwn w B v m st) (hmx : m ≤ 1000000) (he : m % 2 = 0) (hB : B ≤ w.heap.size) (ha : U64 c.a) (ht0 : 0 ≤ c.thread) (ht1 : c.thread < 100) :
    Calls Tryz.prog 90 #[v, clV c] w (RPost B (if ¬ (0 ≤ c.kind ∧ c.kind < 2) then (st, anE 9) else queueM st c) w) := by
  obtain ⟨A, cap, rfl⟩ := own_slice hO
  have hl : st.length = m := by have := own_len hO; simpa using this
  have hm2 : (m : Int) ≤ 1000000 := by omega
  have hm63 : m ≤ maxLen := by unfold maxLen; omega
  have hwt : IntKind.u64.wrap c.thread = c.thread := by rw [IntKind.wrap_u64]; omega
  obtain ⟨i0, hi, hz0, hz1, hz2⟩ := info_parts info_word
  obtain ⟨ha0, ha1⟩ := ha
  have HO := hide hO
  have HL := hide hl
  clear hO
  rcases (by omega : c.kind = 1 ∨ (c.kind = 0 ∧ c.a < 16777216) ∨ (c.kind = 0 ∧ 16777216 ≤ c.a) ∨ ¬ (0 ≤ c.kind ∧ c.kind < 2)) with hk | ⟨hk, hk'⟩ | ⟨hk, hk'⟩ | hk
  · by_cases h0 : m = 0
    · subst h0
      have hR : (if ¬ (0 ≤ c.kind ∧ c.kind < 2) then (st, anE 9) else queueM st c) = (st, ⟨7, 0, []⟩) := by
        unfold queueM
        rw [if_neg (by omega), if_neg (by omega), if_neg (by omega), if_pos hl]
        rfl
      rw [hR]
      clear hR
      have d0 : (c.kind == 0) = false := by simp; omega
      have d1 : (c.kind == 1) = true := by simpa using hk
      have n0 : (c.kind != 0) = true := by simp; omega
      have n1 : (c.kind != 1) = false := by simp; omega
      clear hk hl
      go_enter Tryz.func90, Tryz.ntmps90
      go_wp2
      refine bodyPost_ret (v := .tuple #[.slice A 0 cap, .agg #[.int .i64 7, .int .u64 0, .slice none 0 0]]) (by simp [results, Tryz.results90, go_sem, *]) rfl ?_
      refine ra_same' HO.out HL.out hm63 hB ?_
      (repeat' (first | exact Keep.refl _ _ | refine Keep.alloc ?_ (fun k (hk : k < w.heap.size) => by first | exact hk | (simp; omega)) _ | refine Keep.setCell ?_ (by first | (simp; done) | (simp; omega)) _ | refine Keep.drew ?_))
    · have hsl : SlW w (.slice A m cap) st := wrow_sl (show WRow w B _ st from by unfold WRow; rw [hl]; exact HO.out) (by rw [hl]; exact hm63)
      obtain ⟨x, hx⟩ : ∃ x, st[1]? = some x := ⟨_, List.getElem?_eq_getElem (by omega)⟩
      have hat : at0 st 1 = x := by unfold at0; rw [hx]; rfl
      obtain ⟨g, o, rfl, cx, hg⟩ := sl_at hsl 1 x hx
      obtain ⟨X, hX, hXs⟩ := sl_drop (k := 2) hsl (by omega)
      unfold sliced at hX
      have hvm : m ≤ cap := by obtain ⟨_, _, e, h1, _⟩ := hsl; cases e; omega
      have hR : (if ¬ (0 ≤ c.kind ∧ c.kind < 2) then (st, anE 9) else queueM st c) = (st.drop 2, ⟨0, x, []⟩) := by
        unfold queueM
        rw [if_neg (by omega), if_neg (by omega), if_neg (by omega), if_neg (by omega), hat]
        rfl
      rw [hR]
      have hm3 : 2 ≤ m := by omega
      have hm4 : 1 < m := by omega
      have hm5 : (2 : Int) ≤ (m : Int) := by omega
      have hm6 : (1 : Int) < (m : Int) := by omega
      have e0 : ((m : Int) == 0) = false := by simp; omega
      clear hat hsl hx hR
      by_cases hvc : cap = 2
      · rw [if_pos hvc] at hX
        subst hvc
        obtain rfl : m = 2 := by omega
        subst hX
        have HX := hide hXs
        have d0 : (c.kind == 0) = false := by simp; omega
        have d1 : (c.kind == 1) = true := by simpa using hk
        have n0 : (c.kind != 0) = true := by simp; omega
        have n1 : (c.kind != 1) = false := by simp; omega
        clear hk hXs hl
        go_enter Tryz.func90, Tryz.ntmps90
        go_wp2_with fail
        obtain ⟨W, hW⟩ : ∃ W, W = (w.alloc (.cells #[.int .i64 c.thread, .int .i64 c.obj, .int .i64 c.kind, .int .u64 c.a, .int .u64 c.b, .int .u64 c.c] 27)).alloc (.cells #[.int .i64 0, .int .u64 0, .slice none 0 0] 57) := ⟨_, rfl⟩
        have q0 : W.cell? ⟨g, o + 1, none⟩ = some (.int .u64 x) := by rw [hW]; go_simp
        have hgW : g < W.heap.size := by rw [hW]; simp; omega
        have HBW : Hid (Below w.heap.size w W) := hide (by rw [hW]; exact ((Below.refl _ w).alloc (Nat.le_refl _) _).alloc (by simp) _)
        have r0 : W.heap[w.heap.size + 1]? = some (.cells #[.int .i64 0, .int .u64 0, .slice none 0 0] 57 (0, 0)) := by
          have hs : ∀ o, (w.alloc o).heap.size = w.heap.size + 1 := fun o => by simp
          have h := heap_alloc_new (w.alloc (.cells #[.int .i64 c.thread, .int .i64 c.obj, .int .i64 c.kind, .int .u64 c.a, .int .u64 c.b, .int .u64 c.c] 27)) (.cells #[.int .i64 0, .int .u64 0, .slice none 0 0] 57)
          rw [hs] at h
          rw [hW]
          exact h
        rw [← hW]
        obtain ⟨z0, z1, z2, g0, g1, g2, rz⟩ := cells3 r0
        clear hW r0 cx
        refine wp_region_seql (Below W.heap.size W) [7] (.take 0 <| .take 1 <| .take 2 <| .take 3 <| .take 4 <| .take 5 <| .take 6 <| .run 7 <| .done) (by kernel_rfl) (by kernel_rfl) (by kernel_rfl) (by (repeat' (first | exact Below.refl _ _ | assumption | refine Below.drew ?_ | refine below_drewN ?_ _ | refine Below.alloc ?_ (by simp <;> omega) _ | refine Below.setCell ?_ (by simp <;> omega) _))) ?_
        repeat (refine seql_take (v := ?_) rfl (by rfl) ?_ ?_; rotate_left; (focus (intro wS hS; have z0 := (hS.cell (p := ⟨g, o + 1, none⟩) hgW).trans q0; go_simp; exact rfl)); simp only [Act.put, sqA, sqB, sqC])
        refine seql_late rfl rfl (by rfl) (fun K hK => ?_)
        go_simp
        refine hK _ _ ?_
        clear hK K
        refine seql_nil ?_
        go_wp2
        refine bodyPost_ret (v := .tuple #[.slice (some ⟨g, o, none⟩) 0 0, .agg #[.int .i64 0, .int .u64 x, .slice none 0 0]]) (by simp [results, Tryz.results90, go_sem, *]) rfl ?_
        refine ra_take HX.out hB HBW.out (tw_at (tw_own HO.out)) ?_
        (repeat' (first | exact Keep.refl _ _ | refine Keep.alloc ?_ (fun k (hk : k < w.heap.size) => by first | exact hk | (simp; omega)) _ | refine Keep.setCell ?_ (by first | (simp; done) | (simp; omega)) _ | refine Keep.drew ?_))
      · rw [if_neg hvc] at hX
        simp only [Option.map_some, Addr.add, Nat.mul_one] at hX
        rw [if_neg (by omega)] at hX
        subst hX
        have HX := hide hXs
        have d0 : (c.kind == 0) = false := by simp; omega
        have d1 : (c.kind == 1) = true := by simpa using hk
        have n0 : (c.kind != 0) = true := by simp; omega
        have n1 : (c.kind != 1) = false := by simp; omega
        clear hk hXs hl
        go_enter Tryz.func90, Tryz.ntmps90
        go_wp2_with fail
        obtain ⟨W, hW⟩ : ∃ W, W = (w.alloc (.cells #[.int .i64 c.thread, .int .i64 c.obj, .int .i64 c.kind, .int .u64 c.a, .int .u64 c.b, .int .u64 c.c] 27)).alloc (.cells #[.int .i64 0, .int .u64 0, .slice none 0 0] 57) := ⟨_, rfl⟩
        have q0 : W.cell? ⟨g, o + 1, none⟩ = some (.int .u64 x) := by rw [hW]; go_simp
        have hgW : g < W.heap.size := by rw [hW]; simp; omega
        have HBW : Hid (Below w.heap.size w W) := hide (by rw [hW]; exact ((Below.refl _ w).alloc (Nat.le_refl _) _).alloc (by simp) _)
        have r0 : W.heap[w.heap.size + 1]? = some (.cells #[.int .i64 0, .int .u64 0, .slice none 0 0] 57 (0, 0)) := by
          have hs : ∀ o, (w.alloc o).heap.size = w.heap.size + 1 := fun o => by simp
          have h := heap_alloc_new (w.alloc (.cells #[.int .i64 c.thread, .int .i64 c.obj, .int .i64 c.kind, .int .u64 c.a, .int .u64 c.b, .int .u64 c.c] 27)) (.cells #[.int .i64 0, .int .u64 0, .slice none 0 0] 57)
          rw [hs] at h
          rw [hW]
          exact h
        rw [← hW]
        obtain ⟨z0, z1, z2, g0, g1, g2, rz⟩ := cells3 r0
        clear hW r0 cx
        refine wp_region_seql (Below W.heap.size W) [7] (.take 0 <| .take 1 <| .take 2 <| .take 3 <| .take 4 <| .take 5 <| .take 6 <| .run 7 <| .done) (by kernel_rfl) (by kernel_rfl) (by kernel_rfl) (by (repeat' (first | exact Below.refl _ _ | assumption | refine Below.drew ?_ | refine below_drewN ?_ _ | refine Below.alloc ?_ (by simp <;> omega) _ | refine Below.setCell ?_ (by simp <;> omega) _))) ?_
        repeat (refine seql_take (v := ?_) rfl (by rfl) ?_ ?_; rotate_left; (focus (intro wS hS; have z0 := (hS.cell (p := ⟨g, o + 1, none⟩) hgW).trans q0; go_simp; exact rfl)); simp only [Act.put, sqA, sqB, sqC])
        refine seql_late rfl rfl (by rfl) (fun K hK => ?_)
        go_simp
        refine hK _ _ ?_
        clear hK K
        refine seql_nil ?_
        go_wp2
        refine bodyPost_ret (v := .tuple #[.slice (some ⟨g, o + 2, none⟩) (m - 2) (cap - 2), .agg #[.int .i64 0, .int .u64 x, .slice none 0 0]]) (by simp [results, Tryz.results90, go_sem, *]) rfl ?_
        refine ra_take HX.out hB HBW.out (tw_at (tw_own HO.out)) ?_
        (repeat' (first | exact Keep.refl _ _ | refine Keep.alloc ?_ (fun k (hk : k < w.heap.size) => by first | exact hk | (simp; omega)) _ | refine Keep.setCell ?_ (by first | (simp; done) | (simp; omega)) _ | refine Keep.drew ?_))
  · have hR : (if ¬ (0 ≤ c.kind ∧ c.kind < 2) then (st, anE 9) else queueM st c) = (st ++ [c.thread, c.a], ⟨0, 0, []⟩) := by
      unfold queueM
      rw [if_neg (by omega), if_neg (by omega), if_pos hk]
      rfl
    rw [hR]
    clear hR
    have d0 : (c.kind == 0) = true := by simpa using hk
    have d1 : (c.kind == 1) = false := by simp; omega
    have n0 : (c.kind != 0) = false := by simp; omega
    have e1 : decide (16777216 ≤ c.a) = false := by simp; omega
    clear hk hk' hl
    go_enter Tryz.func90, Tryz.ntmps90
    go_wp2_with (at_builtin; refine wpList_append_own_at _ rfl _ _ 24 rfl B 25 i0 (.int .u64 0) 1 8 Tryz.underlying24 hi hz0 hz1 hz2 rfl (by decide) _ _ _ rfl (World.ownsRow.alloc (World.ownsRow.alloc (World.ownsRow.alloc HO.out _) _) _) ⟨w.heap.size + 1 + 1, 0, none⟩ 2 2 [.int .u64 c.thread, .int .u64 c.a] rfl rfl (by intro j u hu; rcases j with _ | _ | j; (cases hu; go_simp); (cases hu; go_simp); cases hu) (by simp [Value.oneCell']) (by unfold maxLen; omega) (by omega) (by simp; omega) ?_; intro v5 w5 hown5 hgrow _ hloc; have hans : w5.heap[w.heap.size + 1]? = some (.cells #[.int .i64 0, .int .u64 0, .slice none 0 0] 57 (0, 0)) := (hgrow.block _ (by simp) (fun e => by have := (HO.out.lt _ e.symm).2; omega)).trans (ra_ans w _ _ _); have hB5 : Below B w w5 := ((((Below.refl B w).alloc hB _).alloc (by simp; omega) _).alloc (by simp; omega) _).grown hgrow (by simp; omega) (fun k hk => (HO.out.lt k hk).1); obtain ⟨A5, c5, rfl⟩ := own_slice hown5; have hne : ∀ g, A5 = some ⟨g, 0, none⟩ → g ≠ w.heap.size + 1 := (fun g hA e => by subst hA; rcases hloc with h | h; (have := (HO.out.lt g h.symm).2; omega); (have := Option.some.inj (show some g = some _ from h); simp at this; omega)); obtain ⟨z0, z1, z2, g0, g1, g2, rz⟩ := cells3 hans; have HN := hide hne; have HO5 := hide hown5; have HB5 := hide hB5; clear hans hgrow hloc hne hown5 hB5)
    refine bodyPost_ret (v := .tuple #[.slice A5 (m + 2) c5, .agg #[.int .i64 0, .int .u64 0, .slice none 0 0]]) (by simp [results, Tryz.results90, go_sem, *]) rfl ?_
    refine ra_push HO5.out HL.out (by unfold maxLen; omega) HB5.out HN.out ?_ ?_
    · have := HB5.out.size; omega
    (repeat' (first | exact Keep.refl _ _ | refine Keep.setCell ?_ (by simp) _ | refine Keep.drew ?_))
  · have hR : (if ¬ (0 ≤ c.kind ∧ c.kind < 2) then (st, anE 9) else queueM st c) = (st, ⟨10, 0, []⟩) := by
      unfold queueM
      rw [if_neg (by omega), if_pos ⟨hk, hk'⟩]
      rfl
    rw [hR]
    clear hR
    have d0 : (c.kind == 0) = true := by simpa using hk
    have d1 : (c.kind == 1) = false := by simp; omega
    have n0 : (c.kind != 0) = false := by simp; omega
    have e1 : decide (16777216 ≤ c.a) = true := by simp; omega
    clear hk hk' hl
    go_enter Tryz.func90, Tryz.ntmps90
    go_wp2
    refine bodyPost_ret (v := .tuple #[.slice A m cap, .agg #[.int .i64 10, .int .u64 0, .slice none 0 0]]) (by simp [results, Tryz.results90, go_sem, *]) rfl ?_
    refine ra_same' HO.out HL.out hm63 hB ?_
    (repeat' (first | exact Keep.refl _ _ | refine Keep.alloc ?_ (fun k (hk : k < w.heap.size) => by first | exact hk | (simp; omega)) _ | refine Keep.setCell ?_ (by first | (simp; done) | (simp; omega)) _ | refine Keep.drew ?_))
  · have hR : (if ¬ (0 ≤ c.kind ∧ c.kind < 2) then (st, anE 9) else queueM st c) = (st, ⟨9, 0, []⟩) := by
      rw [if_pos hk]
      rfl
    rw [hR]
    clear hR
    have d0 : (c.kind == 0) = false := by simp; omega
    have d1 : (c.kind == 1) = false := by simp; omega
    have n0 : (c.kind != 0) = true := by simp; omega
    have n1 : (c.kind != 1) = true := by simp; omega
    clear hk hl
    go_enter Tryz.func90, Tryz.ntmps90
    go_wp2
    refine bodyPost_ret (v := .tuple #[.slice A m cap, .agg #[.int .i64 9, .int .u64 0, .slice none 0 0]]) (by simp [results, Tryz.results90, go_sem, *]) rfl ?_
    refine ra_same' HO.out HL.out hm63 hB ?_
    (repeat' (first | exact Keep.refl _ _ | refine Keep.alloc ?_ (fun k (hk : k < w.heap.size) => by first | exact hk | (simp; omega)) _ | refine Keep.setCell ?_ (by first | (simp; done) | (simp; omega)) _ | refine Keep.drew ?_))
end Go.Proofs.YtmiimpmfkjcjlaaGreat

namespace Go.Proofs.YtmiimpmfkjcjlaaGreat
open Go.RowKit
attribute [local go_sem] run_store_fn run_store_nilfn
abbrev legW (w : World) (s : Sp) (c : Cl) (e v : Int) (L : Value) : World := ((w.alloc (.cells #[.int .i64 s.kind, .int .i64 s.p, .int .i64 s.q] 23)).alloc (.cells #[.int .i64 c.thread, .int .i64 c.obj, .int .i64 c.kind, .int .u64 c.a, .int .u64 c.b, .int .u64 c.c] 27)).alloc (.cells #[.int .i64 e, .int .u64 v, L] 57)
theorem legW_below (w : World) (s : Sp) (c : Cl) (e v : Int) (L : Value) : Below w.heap.size w (legW w s c e v L) := (((Below.refl _ w).alloc (Nat.le_refl _) _).alloc (by simp) _).alloc (by simp; omega) _
theorem legW_blocks (w : World) (s : Sp) (c : Cl) (e v : Int) (L : Value) : (legW w s c e v L).heap[w.heap.size]? = some (.cells #[.int .i64 s.kind, .int .i64 s.p, .int .i64 s.q] 23 (0, 0)) ∧ (legW w s c e v L).heap[w.heap.size + 1]? = some (.cells #[.int .i64 c.thread, .int .i64 c.obj, .int .i64 c.kind, .int .u64 c.a, .int .u64 c.b, .int .u64 c.c] 27 (0, 0)) ∧
    (legW w s c e v L).heap[w.heap.size + 2]? = some (.cells #[.int .i64 e, .int .u64 v, L] 57 (0, 0)) := by
  refine ⟨?_, ?_, ?_⟩
  · exact (heap_alloc_old _ _ (by simp; omega)).trans ((heap_alloc_old _ _ (by simp)).trans (heap_alloc_new w _))
  · have h := heap_alloc_new (w.alloc (.cells #[.int .i64 s.kind, .int .i64 s.p, .int .i64 s.q] 23)) (.cells #[.int .i64 c.thread, .int .i64 c.obj, .int .i64 c.kind, .int .u64 c.a, .int .u64 c.b, .int .u64 c.c] 27)
    exact (heap_alloc_old _ _ (by simp)).trans (by simpa using h)
  · have h := heap_alloc_new ((w.alloc (.cells #[.int .i64 s.kind, .int .i64 s.p, .int .i64 s.q] 23)).alloc (.cells #[.int .i64 c.thread, .int .i64 c.obj, .int .i64 c.kind, .int .u64 c.a, .int .u64 c.b, .int .u64 c.c] 27)) (.cells #[.int .i64 e, .int .u64 v, L] 57)
    simpa using h
def LegPost (n : Int) (s : Sp) (st : List Int) (c : Cl) (a : An) (w : World) (e : Ending) (w' : World) : Prop :=
  ∃ v, e = .returned (.tuple #[v, .bool (legalM n s st c a).2]) ∧ WOwn w' w.heap.size v (legalM n s st c a).1.length (legalM n s st c a).1 ∧ Below w.heap.size w w'
set_option maxRecDepth 100000 in
set_option maxHeartbeats 4000000 in
theorem mlegal_any (n : Int) (s : Sp) (c : Cl) (a : An) (A LA : Option Addr) (m vc ln lc : Nat) (st : List Int) (w : World) (h : SlW w (.slice A m vc) st) (hm : st.length = m) (hl : m ≤ 10000) (ha : U64 c.a) (hb9 : U64 c.b) (hu : ∀ z ∈ st, U64 z)
    (hla : SlW w (.slice LA ln lc) a.list) (hAl : (applyM n s st c).1.length ≤ 1000000) (hAl2 : (applyM n s st c).2.list.length ≤ 1000000) :
    Calls Tryz.prog 41 #[.int .i64 n, spV s, .slice A m vc, clV c, .agg #[.int .i64 a.err, .int .u64 a.val, .slice LA ln lc]] w (LegPost n s st c a w) := by
  have N0 := fun W (h : SlW W (.slice A m vc) st) => mapply_any n s c A m vc st W h hm hl ha hb9 hu
  have NC := fun W (h : SlW W (.slice A m vc) st) => clone_any (.slice A m vc) st W h (by omega)
  unfold ApPost at N0
  have hlz : ln = a.list.length := by obtain ⟨_, _, e, _⟩ := hla; cases e; rfl
  have hlz63 : (ln : Int) ≤ 9223372036854775807 := by obtain ⟨_, _, e, h1, h2, _⟩ := hla; cases e; unfold maxLen at h2; omega
  subst hlz
  have HS := hide h
  have HM := hide hm
  have HLA := hide hla
  obtain ⟨ok, hok⟩ : ∃ ok, okM n s st c a = ok := ⟨_, rfl⟩
  obtain ⟨F, hF⟩ : ∃ F, (decide (s.kind = 8) && (decide (c.kind = 0) && (decide ((applyM n s st c).2.err = 0) && (decide (a.err = 6) && (decide (a.val = 0) && decide (a.list.length = 0)))))) = F := ⟨_, rfl⟩
  have hfull : fullM n s st c a = (F && decide (s.p - n - 1 ≤ ownN st c.thread)) := by
    rw [← hF]
    unfold fullM
    simp only [Bool.and_assoc]
  have hleg : legalM n s st c a = if ok = true then ((applyM n s st c).1, true) else (st, F && decide (s.p - n - 1 ≤ ownN st c.thread)) := by unfold legalM; rw [hok, hfull]
  have hown : F = true → m % 2 = 0 ∧ 0 ≤ c.thread ∧ c.thread < 100 ∧ (1 ≤ n ∧ n ≤ 16) ∧ (1 ≤ s.p ∧ s.p ≤ 32) := by
    intro hFt
    rw [hFt] at hF
    simp only [Bool.and_eq_true, decide_eq_true_eq] at hF
    obtain ⟨h8, _, hz, _⟩ := hF
    unfold applyM at hz
    by_cases hq : rightM n s st = false ∨ ¬ (0 ≤ c.thread ∧ c.thread < n)
    · rw [if_pos hq] at hz; cases hz
    · have hr : rightM n s st = true := by
        rcases hb : rightM n s st with _ | _
        · exact absurd (Or.inl hb) hq
        · rfl
      have ht : 0 ≤ c.thread ∧ c.thread < n := Decidable.byContradiction fun hh => hq (Or.inr hh)
      unfold rightM shapeM at hr
      rw [if_neg (by omega), if_pos h8] at hr
      simp only [Bool.and_eq_true, decide_eq_true_eq] at hr
      obtain ⟨⟨hn1, hn2⟩, _, hrt⟩ := sizeE_zero hr.1
      rw [h8] at hrt
      simp [rightT] at hrt
      exact ⟨by omega, ht.1, by omega, ⟨hn1, hn2⟩, hrt.1, hrt.2.1⟩
  unfold okM at hok
  obtain ⟨R, hR⟩ : ∃ R, applyM n s st c = R := ⟨_, rfl⟩
  rw [hR] at N0 hok hF hleg hAl hAl2
  obtain ⟨st', ⟨E, V, l⟩⟩ := R
  simp only [] at N0 hok hF hleg hAl hAl2
  have HLEG := hide hleg
  have HOWN := hide hown
  have hF' := hF
  have HF := hide hF
  have HOK := hide hok
  have NE := fun v1 v2 W h1 h2 => equal_any v1 v2 a.list l W h1 h2
  clear h hm hla hfull hleg hown hR hF hF'
  go_enter Tryz.func41, Tryz.ntmps41
  go_wp2_with fail
  refine (N0 _ ?_).mono ?_
  · exact HS.out.below (legW_below w s c _ _ _) (Nat.le_refl _)
  rintro e w1 ⟨v1, L1, rfl, hO1, hL1, hb1⟩
  have hB1 : Below (w.heap.size + 3) (legW w s c a.err a.val (.slice LA a.list.length lc)) w1 := hb1.mono (by simp)
  have hO1' : WOwn w1 (w.heap.size + 3) v1 st'.length st' := World.ownsRow.mono hO1 (by simp)
  have hL1' : SlW w1 L1 l := wrow_sl hL1 (by unfold maxLen; omega)
  obtain ⟨A1, c1', rfl⟩ := own_slice hO1
  obtain ⟨B1, d1', rfl⟩ := own_slice hL1
  have hba := legW_blocks w s c a.err a.val (.slice LA a.list.length lc)
  obtain ⟨s0, s1, s2, _, _, _, sz⟩ := cells3 ((hB1.block w.heap.size (by omega)).trans hba.1)
  obtain ⟨c0, c1, c2, c3, c4, c5, cz⟩ := cells6 ((hB1.block (w.heap.size + 1) (by omega)).trans hba.2.1)
  obtain ⟨r0, r1, r2, g0, g1, g2, rz⟩ := cells3 ((hB1.block (w.heap.size + 2) (by omega)).trans hba.2.2)
  have hW1 : Below w.heap.size w w1 := (legW_below w s c _ _ _).trans (hB1.mono (by omega))
  have HW1 := hide hW1
  have HO1 := hide hO1'
  have HL1 := hide hL1'
  have HLA1 := hide (HLA.out.below hW1 (Nat.le_refl _))
  clear hB1 hb1 hO1 hO1' hL1 hL1' hba hW1 N0
  go_upto_region 2 with fail
  go_cut [41] (fun v wx => v = .bool ok ∧ ∃ k, wx = (w1.alloc (.cells #[.int .i64 E, .int .u64 V, .slice B1 l.length d1'] 57)).drewN k)
  case first =>
    by_cases he : a.err = E
    · have d0 : (a.err == E) = true := by simpa using he
      by_cases hv : a.val = V
      · have d1 : (a.val == V) = true := by simpa using hv
        have hk : ok = decide (a.list = l) := by rw [← hok]; simp [he, hv]
        clear he hv hok
        go_wp2_with fail
        refine (NE _ _ _ (HLA1.out.alloc _) (HL1.out.alloc _)).mono ?_
        rintro e w2 ⟨rfl, k, rfl⟩
        go_wp2
        go_meet
        exact ⟨congrArg Value.bool (by rw [hk]), k, rfl⟩
      · have d1 : (a.val == V) = false := by simpa using hv
        have hk : ok = false := by rw [← hok]; simp [hv]
        clear he hv hok
        go_wp2
        go_meet
        exact ⟨congrArg Value.bool (by rw [hk]), 0, rfl⟩
    · have d0 : (a.err == E) = false := by simpa using he
      have hk : ok = false := by rw [← hok]; simp [he]
      clear he hok
      go_wp2
      go_meet
      exact ⟨congrArg Value.bool (by rw [hk]), 0, rfl⟩
  case rest =>
    obtain ⟨rfl, k, rfl⟩ := hcut
    cases ok
    · obtain ⟨W2, hW2⟩ : ∃ W2, W2 = (w1.alloc (.cells #[.int .i64 E, .int .u64 V, .slice B1 l.length d1'] 57)).drewN k := ⟨_, rfl⟩
      have hB2 : Below w1.heap.size w1 W2 := by rw [hW2]; exact below_drewN ((Below.refl _ _).alloc (Nat.le_refl _) _) _
      have hz2 : w1.heap.size < W2.heap.size := by rw [hW2]; show w1.heap.size < (w1.alloc _).heap.size; simp
      have e0 : W2.cell? ⟨w1.heap.size, 0, none⟩ = some (.int .i64 E) := by rw [hW2]; show (w1.alloc _).cell? _ = _; go_simp
      rw [← hW2]
      have s0' := (hB2.cell (p := ⟨w.heap.size, 0, none⟩) sz).trans s0
      have s1' := (hB2.cell (p := ⟨w.heap.size, 1, none⟩) sz).trans s1
      have c0' := (hB2.cell (p := ⟨w.heap.size + 1, 0, none⟩) cz).trans c0
      have c2' := (hB2.cell (p := ⟨w.heap.size + 1, 2, none⟩) cz).trans c2
      have r0' := (hB2.cell (p := ⟨w.heap.size + 2, 0, none⟩) rz).trans r0
      have r1' := (hB2.cell (p := ⟨w.heap.size + 2, 1, none⟩) rz).trans r1
      have r2' := (hB2.cell (p := ⟨w.heap.size + 2, 2, none⟩) rz).trans r2
      have HW2 := hide (HW1.out.trans (hB2.mono (by omega)))
      have hsz : w.heap.size < W2.heap.size := by omega
      have hcz : w.heap.size + 1 < W2.heap.size := by omega
      clear hW2 hB2 s0 s1 s2 c0 c1 c2 c3 c4 c5 r0 r1 r2 g0 g1 g2 hok
      have hleg2 := HLEG.out
      simp only [Bool.false_eq_true, if_false] at hleg2
      have HLEG2 := hide hleg2
      clear hleg2
      go_upto_region 4 with fail
      go_cut [14] (fun v wx => v = .bool F ∧ W2 = wx)
      case first =>
        by_cases f1 : s.kind = 8
        · by_cases f2 : c.kind = 0
          · by_cases f3 : E = 0
            · by_cases f4 : a.err = 6
              · by_cases f5 : a.val = 0
                · by_cases f6 : a.list.length = 0
                  all_goals
                    have g1 : (s.kind == 8) = true := by simpa using f1
                    have g2 : (c.kind == 0) = true := by simpa using f2
                    have g3 : (E == 0) = true := by simpa using f3
                    have g4 : (a.err == 6) = true := by simpa using f4
                    have g5 : (a.val == 0) = true := by simpa using f5
                  · have g6 : ((a.list.length : Int) == 0) = true := by simp; exact List.eq_nil_of_length_eq_zero f6
                    have hFF : F = true := by rw [← HF.out]; simp [f1, f2, f3, f4, f5, f6]
                    clear f1 f2 f3 f4 f5 f6
                    have HFF := hide hFF
                    clear hFF
                    go_wp2
                    go_meet
                    exact ⟨congrArg Value.bool (by rw [HFF.out]), rfl⟩
                  · have g6 : ((a.list.length : Int) == 0) = false := by rw [beq_eq_false_iff_ne]; omega
                    have hFF : F = false := by rw [← HF.out]; simp [f6]
                    clear f1 f2 f3 f4 f5 f6
                    have HFF := hide hFF
                    clear hFF
                    go_wp2
                    go_meet
                    exact ⟨congrArg Value.bool (by rw [HFF.out]), rfl⟩
                · have g1 : (s.kind == 8) = true := by simpa using f1
                  have g2 : (c.kind == 0) = true := by simpa using f2
                  have g3 : (E == 0) = true := by simpa using f3
                  have g4 : (a.err == 6) = true := by simpa using f4
                  have g5 : (a.val == 0) = false := by simpa using f5
                  have hFF : F = false := by rw [← HF.out]; simp [f5]
                  clear f1 f2 f3 f4 f5
                  have HFF := hide hFF
                  clear hFF
                  go_wp2
                  go_meet
                  exact ⟨congrArg Value.bool (by rw [HFF.out]), rfl⟩
              · have g1 : (s.kind == 8) = true := by simpa using f1
                have g2 : (c.kind == 0) = true := by simpa using f2
                have g3 : (E == 0) = true := by simpa using f3
                have g4 : (a.err == 6) = false := by simpa using f4
                have hFF : F = false := by rw [← HF.out]; simp [f4]
                clear f1 f2 f3 f4
                have HFF := hide hFF
                clear hFF
                go_wp2
                go_meet
                exact ⟨congrArg Value.bool (by rw [HFF.out]), rfl⟩
            · have g1 : (s.kind == 8) = true := by simpa using f1
              have g2 : (c.kind == 0) = true := by simpa using f2
              have g3 : (E == 0) = false := by simpa using f3
              have hFF : F = false := by rw [← HF.out]; simp [f3]
              clear f1 f2 f3
              have HFF := hide hFF
              clear hFF
              go_wp2
              go_meet
              exact ⟨congrArg Value.bool (by rw [HFF.out]), rfl⟩
          · have g1 : (s.kind == 8) = true := by simpa using f1
            have g2 : (c.kind == 0) = false := by simpa using f2
            have hFF : F = false := by rw [← HF.out]; simp [f2]
            clear f1 f2
            have HFF := hide hFF
            clear hFF
            go_wp2
            go_meet
            exact ⟨congrArg Value.bool (by rw [HFF.out]), rfl⟩
        · have g1 : (s.kind == 8) = false := by simpa using f1
          have hFF : F = false := by rw [← HF.out]; simp [f1]
          clear f1
          have HFF := hide hFF
          clear hFF
          go_wp2
          go_meet
          exact ⟨congrArg Value.bool (by rw [HFF.out]), rfl⟩
      case rest =>
        obtain ⟨rfl, rfl⟩ := hcut
        have hHS := HS.out.below HW2.out (Nat.le_refl _)
        go_wp2_with fail
        refine wp_region_seq (Below W2.heap.size W2) (.take 0 <| .take 2 <| .run 1 <| .take 3 <| .take 4 <| .take 5 <| .take 6 <| .take 8 <| .take 9 <| .take 10 <| .take 11 <| .take 12 <| .run 7 <| .take 13 <| .take 14 <| .take 15 <| .take 16 <| .done) (by kernel_rfl) (by kernel_rfl) (by kernel_rfl) ((Below.refl _ _).drew) ?_
        (refine seq_take (v := ?_) rfl (by rfl) ?_ ?_; rotate_left; (focus (intro wS hS; have z1 := (hS.cell (p := ⟨w.heap.size, 1, none⟩) hsz).trans s1'; have y0 := (hS.cell (p := ⟨w.heap.size + 1, 0, none⟩) hcz).trans c0'; go_simp; exact rfl)); simp only [Act.put, sqA, sqB, sqC])
        (refine seq_take (v := ?_) rfl (by rfl) ?_ ?_; rotate_left; (focus (intro wS hS; have z1 := (hS.cell (p := ⟨w.heap.size, 1, none⟩) hsz).trans s1'; have y0 := (hS.cell (p := ⟨w.heap.size + 1, 0, none⟩) hcz).trans c0'; go_simp; exact rfl)); simp only [Act.put, sqA, sqB, sqC])
        refine seq_run rfl (by rfl) (fun K hK => ?_)
        go_simp
        refine (NC _ ?_).mono ?_
        · exact hHS.below (Below.refl _ _).drew (Nat.le_refl _)
        rintro e w4 ⟨v4, rfl, ho4, hb4⟩
        have hB4 : Below W2.heap.size W2 w4 := (Below.refl _ _).drew.trans hb4
        have hO4 : WOwn w4 w.heap.size v4 st.length st := owns_base (base := W2.heap.size) (World.ownsRow.mono ho4 (by simp)) (by have := HW2.out.size; omega)
        refine hK _ _ hB4 ?_
        clear hK K
        cases F
        · (refine seq_take (v := ?_) rfl (by rfl) ?_ ?_; rotate_left; (focus (intro wS hS; have z1 := (hS.cell (p := ⟨w.heap.size, 1, none⟩) hsz).trans s1'; have y0 := (hS.cell (p := ⟨w.heap.size + 1, 0, none⟩) hcz).trans c0'; go_simp; exact rfl)); simp only [Act.put, sqA, sqB, sqC])
          repeat (refine seq_skip rfl (by rfl) ?_; simp only [Act.put, sqA, sqB, sqC])
          refine seq_pass rfl (by rfl) hB4 ?_
          simp only [Act.put, sqA, sqB, sqC]
          repeat (first | (refine seq_skip rfl (by rfl) ?_; simp only [Act.put, sqA, sqB, sqC]) | (refine seq_take (v := ?_) rfl (by rfl) ?_ ?_; rotate_left; (focus (intro wS hS; have z1 := (hS.cell (p := ⟨w.heap.size, 1, none⟩) hsz).trans s1'; have y0 := (hS.cell (p := ⟨w.heap.size + 1, 0, none⟩) hcz).trans c0'; go_simp; exact rfl)); simp only [Act.put, sqA, sqB, sqC]))
          refine seq_nil ?_
          go_wp2
          go_ret2
          unfold LegPost
          rw [HLEG2.out]
          refine ⟨v4, rfl, hO4, HW2.out.trans (hB4.mono ?_)⟩
          · have := HW2.out.size; omega
        · obtain ⟨he2, ht0, ht1, ⟨hn1, hn2⟩, hp1, hp2⟩ := HOWN.out rfl
          have ow := own_le st c.thread (m / 2)
          have hst4 := hHS.below hB4 (Nat.le_refl _)
          repeat (refine seq_take (v := ?_) rfl (by rfl) ?_ ?_; rotate_left; (focus (intro wS hS; have z1 := (hS.cell (p := ⟨w.heap.size, 1, none⟩) hsz).trans s1'; have y0 := (hS.cell (p := ⟨w.heap.size + 1, 0, none⟩) hcz).trans c0'; go_simp; exact rfl)); simp only [Act.put, sqA, sqB, sqC])
          refine seq_run rfl (by rfl) (fun K hK => ?_)
          go_simp
          refine (mown_any c.thread A m vc st _ ?_ HM.out hl he2 ht0 ht1).mono ?_
          · first | exact hst4 | exact hst4.below (Below.refl _ _).drew (Nat.le_refl _)
          rintro e w5 ⟨rfl, rfl⟩
          refine hK _ _ (by first | exact hB4 | exact hB4.drew) ?_
          clear hK K
          repeat (refine seq_take (v := ?_) rfl (by rfl) ?_ ?_; rotate_left; (focus (intro wS hS; have z1 := (hS.cell (p := ⟨w.heap.size, 1, none⟩) hsz).trans s1'; have y0 := (hS.cell (p := ⟨w.heap.size + 1, 0, none⟩) hcz).trans c0'; go_simp; exact rfl)); simp only [Act.put, sqA, sqB, sqC])
          refine seq_nil ?_
          rw [wrap_i64 (x := s.p - n) (by omega) (by omega), wrap_i64 (x := s.p - n - 1) (by omega) (by omega)]
          go_wp2
          go_ret2
          unfold LegPost
          rw [HLEG2.out]
          refine ⟨v4, by simp, ?_, HW2.out.trans (Below.mono (B := W2.heap.size) (by first | exact hB4 | exact hB4.drew) ?_)⟩
          · first | exact hO4 | exact World.ownsRow.drew hO4
          · have := HW2.out.size; omega
    · have hleg2 := HLEG.out
      simp only [if_true] at hleg2
      have HLEG2 := hide hleg2
      clear hleg2
      go_wp2
      go_ret2
      unfold LegPost
      rw [HLEG2.out]
      exact ⟨_, rfl, owns_base (owns_keepB HO1.out (Keep.of_below (K := fun j => j < w1.heap.size) (below_drewN ((Below.refl _ w1).alloc (Nat.le_refl _) _) k) (fun k hk => hk)) (fun j _ hl => hl)) (by omega), HW1.out.trans ((below_drewN ((Below.refl _ w1).alloc (Nat.le_refl _) _) k).mono (by omega))⟩
end Go.Proofs.YtmiimpmfkjcjlaaGreat
