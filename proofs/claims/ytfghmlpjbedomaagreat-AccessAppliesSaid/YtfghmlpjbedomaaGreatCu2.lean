/- A line of calls (package pick): New. -/
import Derived.Test.YtfghmlpjbedomaaGreatBun5
namespace Go.Proofs.YtfghmlpjbedomaaGreat
open Go.RowKit

theorem wp_update_imap {P : Program} {w : World} {o : Oper} {a : Act} {K : Act → World → Prop} {Q : Exit → Act → World → Prop} (xm x xv : Operand) (t : TypeId) (hop : o.op = Op.mapUpdate t xm x xv) (k e : TypeId) (kk : IntKind) (ht : P.underlying t = some (.map k e)) (hk : P.underlying k = some (.int kk))
    (b : Nat) (m : Int → Option Value) (hm : a.eval xm = .map (some b)) (h : IMap w b kk m) (n : Int) (u : Value) (hx : a.eval x = .int kk n) (hv : a.eval xv = u)
    (hK : ∀ w', IMap w' b kk (fun x => if x = n then some u else m x) → w.grownBy w' (some b) → w'.heap.size = w.heap.size → K (a.put o.dst undef) w') : Oper.wp P o a w K Q := by
  obtain ⟨w', hrun, r1, r2, r3⟩ := run_update_imap ht hk h n u
  unfold Oper.wp
  simp [execOp, hop, hm, hx, hv, hrun, Result.andThen]
  exact hK w' r1 r2 r3
theorem wp_lookup_imap {P : Program} {w : World} {o : Oper} {a : Act} {K : Act → World → Prop} {Q : Exit → Act → World → Prop} (xm x : Operand) (t : TypeId) (hop : o.op = Op.lookup t xm x false) (k e : TypeId) (kk : IntKind) (ht : P.underlying t = some (.map k e)) (hk : P.underlying k = some (.int kk))
    (z : Value) (hz : (zeroValue e).run P w = .ok z w) (b : Nat) (m : Int → Option Value) (hm : a.eval xm = .map (some b)) (h : IMap w b kk m) (n : Int) (hx : a.eval x = .int kk n)
    (hK : K (a.put o.dst ((m n).getD z)) w) : Oper.wp P o a w K Q := by
  have hrun := run_lookup_imap ht hk hz h n false
  unfold Oper.wp
  simp [execOp, hop, hm, hx, hrun, Result.andThen]
  exact hK

def wrongE (n : Int) (cs : List Cl) : Int := if ¬ (1 ≤ n ∧ n ≤ 16) then 1 else if 1000 < cs.length then 3 else if cs.all (fun c => decide (0 ≤ c.thread) && decide (c.thread < n)) = true then 0 else 1

/-- A line of calls in memory: what is left of each thread's. -/
structure LineAt (w : World) (b g B T : Nat) (rem : Int → List Nat) : Prop where
  line : ∃ left, w.heap[b]? = some (.cells #[.map (some g), .int .i64 left] 164 (0, 0))
  map : ∃ m, IMap w g .i64 m ∧ (∀ p, m p = none → rem p = []) ∧ ∀ p v, m p = some v → SlI w v (natI (rem p)) ∧ ∀ A n c a, v = .slice A n c → A = some a → B ≤ a.block ∧ a.block < T
  apart : b < B ∧ g < B ∧ b ≠ g

def NewPost (n : Int) (cs : List Cl) (w : World) (e : Ending) (w' : World) : Prop :=
  (wrongE n cs ≠ 0 ∧ e = .returned (.tuple #[.pointer none, .int .i64 (wrongE n cs)]) ∧ Below w.heap.size w w') ∨
  (wrongE n cs = 0 ∧ ∃ b g B, e = .returned (.tuple #[.pointer (some ⟨b, 0, none⟩), .int .i64 0]) ∧ w.heap.size ≤ b ∧ w.heap.size ≤ g ∧ B ≤ w'.heap.size ∧ LineAt w' b g B w'.heap.size (fun p => remF cs (List.replicate cs.length false) p) ∧ Below w.heap.size w w')

theorem all_take {cs : List Cl} {n : Int} (h : ∀ (k : Nat) (x : Cl), cs[k]? = some x → 0 ≤ x.thread ∧ x.thread < n) : cs.all (fun c => decide (0 ≤ c.thread) && decide (c.thread < n)) = true := by
  rw [List.all_eq_true]
  intro x hx
  obtain ⟨i, hi, rfl⟩ := List.getElem_of_mem hx
  have := h i _ (List.getElem?_eq_getElem hi)
  simpa using this
theorem not_all {cs : List Cl} {n : Int} {k : Nat} {x : Cl} (hk : cs[k]? = some x) (h : x.thread < 0 ∨ n ≤ x.thread) : ¬ cs.all (fun c => decide (0 ≤ c.thread) && decide (c.thread < n)) = true := by
  intro ha
  have := List.all_eq_true.1 ha x (List.mem_of_getElem? hk)
  simp at this
  omega

theorem rows5_get {w : World} {B : Nat} {m : Int → Option Value} {idx : Int → List Nat} (h : Rows5 w B m idx) (t : Int) : IOwn w B ((m t).getD (.slice none 0 0)) (idx t).length (natI (idx t)) := by
  rcases ht : m t with _ | v
  · rw [h.non t ht]
    exact World.ownsRow_nil _ _ _ _
  · exact (h.som t v ht).2
theorem own_block_lo {w : World} {B : Nat} {e : TypeId} {sz : Nat} {v : Value} {n : Nat} {xs : List Value} (h : w.ownsRow B e sz v n xs) : ∀ j, v.ownBlock = some j → B ≤ j := fun j hj => (h.lt j hj).1

set_option maxRecDepth 100000 in
set_option maxHeartbeats 4000000 in
theorem pickNew (n : Int) (A : Option Addr) (m c : Nat) (cs : List Cl) (w : World) (h : SlCl w (.slice A m c) cs) (hm : cs.length = m) :
    Calls Tryz.prog 51 #[.int .i64 n, .slice A m c] w (NewPost n cs w) := by
  have hle : m ≤ maxLen := by obtain ⟨_, _, e, h1, h2, _⟩ := h; cases e; omega
  by_cases hn : 1 ≤ n ∧ n ≤ 16
  · have n0 : decide (n < 1) = false := by simp; omega
    have n1 : decide (16 < n) = false := by simp; omega
    by_cases h8 : 1000 < m
    · have hE : wrongE n cs = 3 := by unfold wrongE; rw [if_neg (by omega), if_pos (by omega)]
      have h8' : (1000 : Int) < (m : Int) := by omega
      have HE := hide hE
      clear hm hn hle hE
      go_enter Tryz.func51, Tryz.ntmps51
      go_wp2
      go_ret2
      exact Or.inl ⟨by rw [HE.out]; decide, by rw [HE.out]; rfl, Below.refl _ _⟩
    · have h8' : ¬ (1000 : Int) < (m : Int) := by omega
      have hm0 : (m : Int) ≤ 1000 := by omega
      have hM := hide hm
      have HH := hide h
      have HN := hide hn
      obtain ⟨j0, hj, hj0, hj1, hj2⟩ := info_parts info_int
      have hmm := @run_makeMap Tryz.prog
      clear hm hn hle h
      go_enter Tryz.func51, Tryz.ntmps51
      go_wp2
      go_loopw [27] (fun i wr => ∃ (k : Nat) (mm : Int → Option Value), k ≤ m ∧ i = .int .i64 k ∧ Hid (∀ (j : Nat) (x : Cl), j < k → cs[j]? = some x → 0 ≤ x.thread ∧ x.thread < n) ∧ Hid (IMap wr w.heap.size .i64 mm) ∧
        Hid (wr.heap[w.heap.size + 1]? = some (.cells #[.map (some w.heap.size), .int .i64 m] 164 (0, 0))) ∧ Hid (Rows5 wr (w.heap.size + 2) mm (idxF cs k)) ∧ Hid (Below w.heap.size w wr) ∧ w.heap.size + 2 ≤ wr.heap.size) (fun i _ => m - (intOf i).toNat)
      case atStart => exact ⟨0, fun _ => none, Nat.zero_le _, rfl, hide (fun j x hj => by omega), hide ((IMap.new w .i64).alloc _), hide (by have := heap_alloc_new (w.alloc (.map #[] 0)) (.cells #[.map (some w.heap.size), .int .i64 m] 164); simpa using this), hide (rows5_new _ _), hide (((Below.refl _ w).alloc (Nat.le_refl _) _).alloc (by simp) _), by simp⟩
      case round =>
        obtain ⟨k, mm, hk, rfl, hOk, hI, hL, hR, hB, hsz⟩ := hrel
        by_cases hlt : k < m
        · obtain ⟨x, hxk⟩ : ∃ x, cs[k]? = some x := ⟨_, List.getElem?_eq_getElem (by have := hM.out; omega)⟩
          obtain ⟨A', c', e, _, _, h3⟩ := HH.out.below hB.out (Nat.le_refl _)
          obtain ⟨b, oo, e', hb, hc⟩ := h3 k x hxk
          rw [hM.out] at e
          cases e
          cases e'
          obtain ⟨c0, c1, c2, c3, c4, c5⟩ := cl_cells hc
          have HK := hide hxk
          clear h3 hc hxk
          by_cases hbad : x.thread < 0 ∨ n ≤ x.thread
          · have hE : wrongE n cs = 1 := by
              have hn := HN.out
              unfold wrongE
              rw [if_neg (by omega), if_neg (by have := hM.out; omega), if_neg (not_all HK.out hbad)]
            have HE := hide hE
            clear hE
            rcases (by omega : x.thread < 0 ∨ 0 ≤ x.thread ∧ n ≤ x.thread) with ht | ⟨ht, ht'⟩
            · have d0 : decide (x.thread < 0) = true := by simpa using ht
              clear hbad
              go_wp2
              go_ret2
              exact Or.inl ⟨by rw [HE.out]; decide, by rw [HE.out]; rfl, hB.out.alloc (by omega) _⟩
            · have d0 : decide (x.thread < 0) = false := by simpa using ht
              have d1 : decide (n ≤ x.thread) = true := by simpa using ht'
              clear hbad
              go_wp2
              go_ret2
              exact Or.inl ⟨by rw [HE.out]; decide, by rw [HE.out]; rfl, hB.out.alloc (by omega) _⟩
          · have ht : 0 ≤ x.thread := by omega
            have ht' : x.thread < n := by omega
            have d0 : decide (x.thread < 0) = false := by simpa using ht
            have d1 : decide (n ≤ x.thread) = false := by simpa using ht'
            have l0 : wr.cell? ⟨w.heap.size + 1, 0, none⟩ = some (.map (some w.heap.size)) := cell_of_row wr _ 0 _ _ _ hL.out
            have lz : w.heap.size + 1 < wr.heap.size := by omega
            clear hbad
            have hzv : ∀ W, (zeroValue 22).run Tryz.prog W = .ok (.slice none 0 0) W := fun _ => by kernel_rfl
            have hown0 := rows5_get hR.out x.thread
            have hvv := own_block_lo hown0
            obtain ⟨v, hv⟩ : ∃ v, (mm x.thread).getD (.slice none 0 0) = v := ⟨_, rfl⟩
            rw [hv] at hown0 hvv
            have HV := hide hv
            clear hv
            have hl : (idxF cs k x.thread).length ≤ 1000 := by
              have := List.length_filter_le (fun i => decide ((cs[i]?).map (·.thread) = some x.thread)) (List.range k)
              rw [List.length_range] at this
              unfold idxF
              omega
            have HO0 := hide hown0
            clear hown0
            go_wp2
            refine wp_region_seq (fun X => X.cell? ⟨w.heap.size + 1, 0, none⟩ = some (.map (some w.heap.size)) ∧ X.cell? ⟨wr.heap.size, 0, none⟩ = some (.int .i64 x.thread)) (.take 0 <| .take 1 <| .take 2 <| .take 3 <| .take 4 <| .take 5 <| .take 6 <| .take 7 <| .take 8 <| .take 9 <| .take 10 <| .take 11 <| .take 13 <| .fork 12 (.run 14 <| .run 15 <| .run 16 <| .done) 14 (.run 12 <| .run 15 <| .run 16 <| .done)) (by kernel_rfl) (by kernel_rfl) (by kernel_rfl) (by refine ⟨?_, ?_⟩ <;> go_simp) ?_
            repeat (refine seq_take (v := ?_) rfl (by rfl) ?_ ?_; rotate_left; (focus (intro wS hS; obtain ⟨s0, s1⟩ := hS; go_simp; exact rfl)); simp only [Act.put, List.setIfInBounds_toArray, List.set_cons_zero, List.set_cons_succ])
            refine seq_fork ?_ ?_
            · refine seq_run rfl (by rfl) (fun K hK => ?_)
              refine wp_lookup_imap _ _ 130 rfl 3 22 .i64 Tryz.underlying130 Tryz.underlying3 (.slice none 0 0) (hzv _) w.heap.size mm (by rfl) (show IMap (wr.alloc (.cells #[.int .i64 x.thread, .int .i64 x.obj, .int .i64 x.kind, .int .u64 x.a, .int .u64 x.b, .int .u64 x.c] 54)).drew w.heap.size .i64 mm from hI.out.alloc _) x.thread (by rfl) ?_
              rw [HV.out]
              refine hK _ _ (by refine ⟨?_, ?_⟩; (first | exact Lib.cell?_alloc_some _ l0 | exact Lib.cell?_alloc_some _ (Lib.cell?_alloc_some _ l0)); (go_simp)) ?_
              clear hK K
              (refine seq_run rfl (by rfl) (fun K hK => ?_); go_simp)
              refine hK _ _ (by refine ⟨?_, ?_⟩; (first | exact Lib.cell?_alloc_some _ l0 | exact Lib.cell?_alloc_some _ (Lib.cell?_alloc_some _ l0)); (go_simp)) ?_
              clear hK K
              refine seq_run rfl (by rfl) (fun K hK => ?_)
              have hown2 : IOwn ((wr.alloc (.cells #[.int .i64 x.thread, .int .i64 x.obj, .int .i64 x.kind, .int .u64 x.a, .int .u64 x.b, .int .u64 x.c] 54)).drew.alloc (.cells #[.int .i64 k] 3)) (w.heap.size + 2) v (idxF cs k x.thread).length (natI (idxF cs k x.thread)) := (World.ownsRow.alloc HO0.out _).alloc _
              refine wp_append_own_at _ _ 22 rfl (w.heap.size + 2) 3 j0 (.int .i64 0) 1 8 Tryz.underlying22 hj hj0 hj1 hj2 rfl (by decide) v _ _ (by rfl) hown2 ⟨wr.heap.size + 1, 0, none⟩ 1 1 [.int .i64 k] (by rfl) rfl (by intro j u hu; rcases j with _ | j; (cases hu; go_simp); cases hu) (by simp [Value.oneCell']) (by unfold maxLen; omega) (by omega) (by simp; omega) ?_
              intro v' w5 hown5 hgrow _ hloc
              have hR2 : Rows5 ((wr.alloc (.cells #[.int .i64 x.thread, .int .i64 x.obj, .int .i64 x.kind, .int .u64 x.a, .int .u64 x.b, .int .u64 x.c] 54)).drew.alloc (.cells #[.int .i64 k] 3)) (w.heap.size + 2) mm (idxF cs k) := rows5_keep hR.out (fun g hg hgl => (heap_alloc_old _ _ (by simp; omega)).trans (heap_alloc_old wr _ hgl)) (by simp; omega)
              have hgrow' := hgrow
              have hloc' := hloc
              rw [← HV.out] at hgrow' hloc'
              have hR5 := rows5_put (k := k) hR2 hgrow' (by unfold IOwn natI; rw [List.map_append, List.map_append]; exact hown5) hloc'
              have hz5 : wr.heap.size + 2 ≤ w5.heap.size := by have := hgrow.size; simp at this; omega
              have hblk : ∀ j, j < w.heap.size + 2 → w5.heap[j]? = wr.heap[j]? := fun j hj => (hgrow.block j (by simp; omega) (fun e => by have := hvv j e.symm; omega)).trans ((heap_alloc_old _ _ (by simp; omega)).trans (heap_alloc_old _ _ (by omega)))
              have hI5 : IMap w5 w.heap.size .i64 mm := hI.out.of_block (hblk _ (by omega))
              have hL5 := (hblk (w.heap.size + 1) (by omega)).trans hL.out
              have hB5 : Below w.heap.size w w5 := ((Below.drew (hB.out.alloc (by omega) _)).alloc (by simp; omega) _).grown hgrow (by simp; omega) (fun j hj => by have := hvv j hj; omega)
              have t0 : w5.cell? ⟨w.heap.size + 1, 0, none⟩ = some (.map (some w.heap.size)) := cell_of_row w5 _ 0 _ _ _ hL5
              have t1 : w5.cell? ⟨wr.heap.size, 0, none⟩ = some (.int .i64 x.thread) := cell_of_row w5 _ 0 _ _ _ ((hgrow.block wr.heap.size (by simp; omega) (fun e => by have := HO0.out.lt _ e.symm; omega)).trans ((heap_alloc_old _ _ (by simp)).trans (heap_alloc_new _ _)))
              refine hK _ _ ⟨t0, t1⟩ ?_
              clear hK K hR2 hgrow hgrow' hloc hloc' hown5 hown2
              refine seq_run rfl (by rfl) (fun K hK => ?_)
              refine wp_update_imap _ _ _ 130 rfl 3 22 .i64 Tryz.underlying130 Tryz.underlying3 w.heap.size mm (by rfl) hI5 x.thread v' (by rfl) (by rfl) ?_
              intro w6 hI6 hg6 hs6
              have hblk6 : ∀ j, j ≠ w.heap.size → j < w5.heap.size → w6.heap[j]? = w5.heap[j]? := fun j hj hl => hg6.block j hl (fun e => hj (Option.some.inj e))
              have hR6 := rows5_keep hR5 (fun g hg hgl => hblk6 g (by omega) hgl) (by omega)
              have hL6 := (hblk6 (w.heap.size + 1) (by omega) (by omega)).trans hL5
              have hB6 := hB5.grown hg6 hB5.size (fun j hj => by cases hj; exact Nat.le_refl _)
              have u0 : w6.cell? ⟨w.heap.size + 1, 0, none⟩ = some (.map (some w.heap.size)) := cell_of_row w6 _ 0 _ _ _ hL6
              have u1 : w6.cell? ⟨wr.heap.size, 0, none⟩ = some (.int .i64 x.thread) := (World.cell?_of_block (w := w5) (a := ⟨wr.heap.size, 0, none⟩) (hblk6 wr.heap.size (by omega) (by omega))).trans t1
              refine hK _ _ ⟨u0, u1⟩ ?_
              clear hK K hI5 hR5 hL5 hB5 hblk hblk6 t0 t1 hg6
              have HI6 := hide hI6
              have HR6 := hide hR6
              have HL6 := hide hL6
              have HB6 := hide hB6
              have hz6 : w.heap.size + 2 ≤ w6.heap.size := by omega
              have hok1 : Hid (∀ (j : Nat) (y : Cl), j < k + 1 → cs[j]? = some y → 0 ≤ y.thread ∧ y.thread < n) := by
                intro j y hj hy
                by_cases e : j = k
                · subst e
                  have := HK.out
                  rw [this] at hy
                  cases hy
                  exact ⟨ht, ht'⟩
                · exact hOk.out j y (by omega) hy
              have hidx : Hid ((fun p => if p = x.thread then idxF cs k x.thread ++ [k] else idxF cs k p) = idxF cs (k + 1)) := by
                show _ = _
                funext p
                rw [idxF_succ HK.out]
                by_cases e : p = x.thread
                · rw [if_pos e, if_pos e, e]
                · rw [if_neg e, if_neg e]
              clear hI6 hR6 hL6 hB6 u0 u1 hs6
              refine seq_nil ?_
              go_wp2
              go_roundw
              case rel => exact ⟨k + 1, _, by omega, by go_num, hok1, HI6, HL6, hide (by rw [← hidx.out]; exact HR6.out), HB6, hz6⟩
              case measure => first | (simp [intOf]; done) | (simp [intOf]; omega)
            · (refine seq_run rfl (by rfl) (fun K hK => ?_); go_simp)
              refine hK _ _ (by refine ⟨?_, ?_⟩; (first | exact Lib.cell?_alloc_some _ l0 | exact Lib.cell?_alloc_some _ (Lib.cell?_alloc_some _ l0)); (go_simp)) ?_
              clear hK K
              refine seq_run rfl (by rfl) (fun K hK => ?_)
              refine wp_lookup_imap _ _ 130 rfl 3 22 .i64 Tryz.underlying130 Tryz.underlying3 (.slice none 0 0) (hzv _) w.heap.size mm (by rfl) (show IMap ((wr.alloc (.cells #[.int .i64 x.thread, .int .i64 x.obj, .int .i64 x.kind, .int .u64 x.a, .int .u64 x.b, .int .u64 x.c] 54)).drew.alloc (.cells #[.int .i64 k] 3)) w.heap.size .i64 mm from (hI.out.alloc _).alloc _) x.thread (by rfl) ?_
              rw [HV.out]
              refine hK _ _ (by refine ⟨?_, ?_⟩; (first | exact Lib.cell?_alloc_some _ l0 | exact Lib.cell?_alloc_some _ (Lib.cell?_alloc_some _ l0)); (go_simp)) ?_
              clear hK K
              refine seq_run rfl (by rfl) (fun K hK => ?_)
              have hown2 : IOwn ((wr.alloc (.cells #[.int .i64 x.thread, .int .i64 x.obj, .int .i64 x.kind, .int .u64 x.a, .int .u64 x.b, .int .u64 x.c] 54)).drew.alloc (.cells #[.int .i64 k] 3)) (w.heap.size + 2) v (idxF cs k x.thread).length (natI (idxF cs k x.thread)) := (World.ownsRow.alloc HO0.out _).alloc _
              refine wp_append_own_at _ _ 22 rfl (w.heap.size + 2) 3 j0 (.int .i64 0) 1 8 Tryz.underlying22 hj hj0 hj1 hj2 rfl (by decide) v _ _ (by rfl) hown2 ⟨wr.heap.size + 1, 0, none⟩ 1 1 [.int .i64 k] (by rfl) rfl (by intro j u hu; rcases j with _ | j; (cases hu; go_simp); cases hu) (by simp [Value.oneCell']) (by unfold maxLen; omega) (by omega) (by simp; omega) ?_
              intro v' w5 hown5 hgrow _ hloc
              have hR2 : Rows5 ((wr.alloc (.cells #[.int .i64 x.thread, .int .i64 x.obj, .int .i64 x.kind, .int .u64 x.a, .int .u64 x.b, .int .u64 x.c] 54)).drew.alloc (.cells #[.int .i64 k] 3)) (w.heap.size + 2) mm (idxF cs k) := rows5_keep hR.out (fun g hg hgl => (heap_alloc_old _ _ (by simp; omega)).trans (heap_alloc_old wr _ hgl)) (by simp; omega)
              have hgrow' := hgrow
              have hloc' := hloc
              rw [← HV.out] at hgrow' hloc'
              have hR5 := rows5_put (k := k) hR2 hgrow' (by unfold IOwn natI; rw [List.map_append, List.map_append]; exact hown5) hloc'
              have hz5 : wr.heap.size + 2 ≤ w5.heap.size := by have := hgrow.size; simp at this; omega
              have hblk : ∀ j, j < w.heap.size + 2 → w5.heap[j]? = wr.heap[j]? := fun j hj => (hgrow.block j (by simp; omega) (fun e => by have := hvv j e.symm; omega)).trans ((heap_alloc_old _ _ (by simp; omega)).trans (heap_alloc_old _ _ (by omega)))
              have hI5 : IMap w5 w.heap.size .i64 mm := hI.out.of_block (hblk _ (by omega))
              have hL5 := (hblk (w.heap.size + 1) (by omega)).trans hL.out
              have hB5 : Below w.heap.size w w5 := ((Below.drew (hB.out.alloc (by omega) _)).alloc (by simp; omega) _).grown hgrow (by simp; omega) (fun j hj => by have := hvv j hj; omega)
              have t0 : w5.cell? ⟨w.heap.size + 1, 0, none⟩ = some (.map (some w.heap.size)) := cell_of_row w5 _ 0 _ _ _ hL5
              have t1 : w5.cell? ⟨wr.heap.size, 0, none⟩ = some (.int .i64 x.thread) := cell_of_row w5 _ 0 _ _ _ ((hgrow.block wr.heap.size (by simp; omega) (fun e => by have := HO0.out.lt _ e.symm; omega)).trans ((heap_alloc_old _ _ (by simp)).trans (heap_alloc_new _ _)))
              refine hK _ _ ⟨t0, t1⟩ ?_
              clear hK K hR2 hgrow hgrow' hloc hloc' hown5 hown2
              refine seq_run rfl (by rfl) (fun K hK => ?_)
              refine wp_update_imap _ _ _ 130 rfl 3 22 .i64 Tryz.underlying130 Tryz.underlying3 w.heap.size mm (by rfl) hI5 x.thread v' (by rfl) (by rfl) ?_
              intro w6 hI6 hg6 hs6
              have hblk6 : ∀ j, j ≠ w.heap.size → j < w5.heap.size → w6.heap[j]? = w5.heap[j]? := fun j hj hl => hg6.block j hl (fun e => hj (Option.some.inj e))
              have hR6 := rows5_keep hR5 (fun g hg hgl => hblk6 g (by omega) hgl) (by omega)
              have hL6 := (hblk6 (w.heap.size + 1) (by omega) (by omega)).trans hL5
              have hB6 := hB5.grown hg6 hB5.size (fun j hj => by cases hj; exact Nat.le_refl _)
              have u0 : w6.cell? ⟨w.heap.size + 1, 0, none⟩ = some (.map (some w.heap.size)) := cell_of_row w6 _ 0 _ _ _ hL6
              have u1 : w6.cell? ⟨wr.heap.size, 0, none⟩ = some (.int .i64 x.thread) := (World.cell?_of_block (w := w5) (a := ⟨wr.heap.size, 0, none⟩) (hblk6 wr.heap.size (by omega) (by omega))).trans t1
              refine hK _ _ ⟨u0, u1⟩ ?_
              clear hK K hI5 hR5 hL5 hB5 hblk hblk6 t0 t1 hg6
              have HI6 := hide hI6
              have HR6 := hide hR6
              have HL6 := hide hL6
              have HB6 := hide hB6
              have hz6 : w.heap.size + 2 ≤ w6.heap.size := by omega
              have hok1 : Hid (∀ (j : Nat) (y : Cl), j < k + 1 → cs[j]? = some y → 0 ≤ y.thread ∧ y.thread < n) := by
                intro j y hj hy
                by_cases e : j = k
                · subst e
                  have := HK.out
                  rw [this] at hy
                  cases hy
                  exact ⟨ht, ht'⟩
                · exact hOk.out j y (by omega) hy
              have hidx : Hid ((fun p => if p = x.thread then idxF cs k x.thread ++ [k] else idxF cs k p) = idxF cs (k + 1)) := by
                show _ = _
                funext p
                rw [idxF_succ HK.out]
                by_cases e : p = x.thread
                · rw [if_pos e, if_pos e, e]
                · rw [if_neg e, if_neg e]
              clear hI6 hR6 hL6 hB6 u0 u1 hs6
              refine seq_nil ?_
              go_wp2
              go_roundw
              case rel => exact ⟨k + 1, _, by omega, by go_num, hok1, HI6, HL6, hide (by rw [← hidx.out]; exact HR6.out), HB6, hz6⟩
              case measure => first | (simp [intOf]; done) | (simp [intOf]; omega)
        · obtain rfl : k = m := by omega
          have hE : wrongE n cs = 0 := by
            have hn := HN.out
            unfold wrongE
            rw [if_neg (by omega), if_neg (by have := hM.out; omega), if_pos (all_take (fun j x hx => hOk.out j x (by have := (List.getElem?_eq_some_iff.1 hx).1; have := hM.out; omega) hx))]
          have HE := hide hE
          clear hE
          go_wp2
          go_ret2
          refine Or.inr ⟨HE.out, w.heap.size + 1, w.heap.size, w.heap.size + 2, rfl, by omega, Nat.le_refl _, hsz, ⟨⟨_, hL.out⟩, ⟨mm, hI.out, fun p hp => ?_, fun p v hv => ?_⟩, by omega, by omega, by omega⟩, hB.out⟩
          · rw [← idxF_all, hM.out]
            exact hR.out.non p hp
          · obtain ⟨h1, h2⟩ := hR.out.som p v hv
            have hlen : (natI (idxF cs k p)).length = (idxF cs k p).length := by simp [natI]
            have hlk : (idxF cs k p).length ≤ k := by
              have := List.length_filter_le (fun i => decide ((cs[i]?).map (·.thread) = some p)) (List.range k)
              rw [List.length_range] at this
              exact this
            rw [← idxF_all, hM.out]
            refine ⟨sl_of_owns (base := w.heap.size + 2) (e := 3) (by rw [hlen]; exact h2) (by rw [hlen]; unfold maxLen; omega), fun A n c a e ha => ?_⟩
            obtain ⟨g, cap, e2, hg, hgl⟩ := own_some h2 (List.length_pos_iff.2 h1)
            subst e2
            cases e
            cases ha
            exact ⟨hg, hgl⟩
  · have hE : wrongE n cs = 1 := by unfold wrongE; rw [if_pos hn]
    have HE := hide hE
    rcases (by omega : n < 1 ∨ 1 ≤ n ∧ 16 < n) with h0 | ⟨h0, h1⟩
    · have n0 : decide (n < 1) = true := by simp; omega
      clear hm hn hle hE
      go_enter Tryz.func51, Tryz.ntmps51
      go_wp2
      go_ret2
      exact Or.inl ⟨by rw [HE.out]; decide, by rw [HE.out]; rfl, Below.refl _ _⟩
    · have n0 : decide (n < 1) = false := by simp; omega
      have n1 : decide (16 < n) = true := by simp; omega
      clear hm hn hle hE
      go_enter Tryz.func51, Tryz.ntmps51
      go_wp2
      go_ret2
      exact Or.inl ⟨by rw [HE.out]; decide, by rw [HE.out]; rfl, Below.refl _ _⟩
end Go.Proofs.YtfghmlpjbedomaaGreat
