/- The reference's models (roundelayref27): Apply, of a tally. -/
/- The reference's models (roundelayref27): Apply, done. -/
import Derived.Test.YtmiimpmfkjcjlaaGreatRa12
namespace Go.Proofs.YtmiimpmfkjcjlaaGreat
open Go.RowKit
attribute [local go_sem] run_store_fn run_store_nilfn

theorem own_builtG {W : World} {x : Value} {e : TypeId} {g : Nat} (hg : g = W.heap.size) : (W.alloc (.cells #[x] e)).ownsRow g e 1 (.slice (some ⟨g, 0, none⟩) 1 1) 1 [x] := by subst hg; exact own_built W x e
theorem sl_lit1 {w : World} {B : Nat} {v : Value} {x : Int} (h : WOwn w B v 1 [x]) : SlW w v [x] := wrow_sl (show WRow w B v [x] from h) (by simp [maxLen])
set_option maxRecDepth 100000 in
set_option maxHeartbeats 2000000 in
theorem rapply_K2 (n p q : Int) (c : Cl) (A : Option Addr) (m vc : Nat) (x : Int) (w : World) (h : SlW w (.slice A m vc) [x]) (hx : U64 x) :
    Calls Tryz.prog 47 #[.int .i64 n, spV ⟨2, p, q⟩, .slice A m vc, clV c] w (RPost w.heap.size (if ¬ (0 ≤ c.kind ∧ c.kind < 2) then ([x], anE 9) else numM ⟨2, p, q⟩ [x] c) w) := by
  have HS := hide h
  clear h
  rcases (by omega : c.kind = 0 ∨ c.kind = 1 ∨ ¬ (0 ≤ c.kind ∧ c.kind < 2)) with hk | hk | hk
  · have hR : (if ¬ (0 ≤ c.kind ∧ c.kind < 2) then ([x], anE 9) else numM ⟨2, p, q⟩ [x] c) = ([(x + 1) % 18446744073709551616], ⟨0, 0, []⟩) := by
      rw [if_neg (by omega)]; unfold numM; rw [if_neg (by omega), if_pos rfl]; rfl
    have d0 : (c.kind == 0) = true := by simpa using hk
    have wx : IntKind.u64.wrap (x + 1) = (x + 1) % 18446744073709551616 := by rw [IntKind.wrap_u64]
    rw [hR]
    clear hR hk
    go_enter Tryz.func47, Tryz.ntmps47
    go_wp2_with (at_builtin; go_loud (refine wpList_dup rfl _ _ rfl rfl (by first | rfl | (simp; done) | simp) rfl (((HS.out.alloc _).alloc _).alloc _) (by simp) ?_; intro v5 w5 hown5 hB5; obtain ⟨g5, c5, rfl⟩ := own_lit1 (show w5.ownsRow _ _ 1 v5 1 [.int .u64 x] from hown5); have hbl := appW_blocks w ⟨2, p, q⟩ c; obtain ⟨s0, s1, s2, _, _, _, sz⟩ := cells3 ((hB5.block _ (by omega)).trans hbl.1); obtain ⟨c0, c1, c2, c3, c4, c5', cz⟩ := cells6 ((hB5.block _ (by omega)).trans hbl.2.1); obtain ⟨r0, r1, r2, f0, f1, f2, rz⟩ := cells3 ((hB5.block _ (by omega)).trans hbl.2.2); have HAN : Hid (w5.heap[w.heap.size + 2]? = some (.cells #[.int .i64 0, .int .u64 0, .slice none 0 0] 57 (0, 0))) := hide ((hB5.block _ (by omega)).trans hbl.2.2); have k0 := wo_cell hown5 (show [x][0]? = some x from rfl); have hg5 := (hown5.lt g5 rfl); have HO5 : Hid (WOwn w5 (w.heap.size + 3) (.slice (some ⟨g5, 0, none⟩) 1 c5) 1 [x]) := hide hown5; have HB5 : Hid (Below w.heap.size w w5) := hide ((appW_below w ⟨2, p, q⟩ c).trans (hB5.mono (by omega))); have hz5 : w.heap.size + 3 ≤ w5.heap.size := (by have hq := hB5.size; rw [appW_size w ⟨2, p, q⟩ c] at hq; exact hq); clear hown5 hB5 hbl))
    refine bodyPost_ret (v := .tuple #[.slice (some ⟨w5.heap.size, 0, none⟩) 1 1, .agg #[.int .i64 0, .int .u64 0, .slice none 0 0]]) (by simp [results, Tryz.results47, go_sem, *]) rfl ?_
    refine ⟨_, _, rfl, sl_lit1 (own_builtG (by simp)), slw_none _, ?_, tw_own (own_builtG (by simp)), tw_none _ _ _⟩
    have hq := HB5.out
    (repeat' (first | with_reducible assumption | with_reducible exact Below.refl _ _ | with_reducible refine Below.drew ?_ | with_reducible refine below_drewN ?_ _ | with_reducible refine Below.alloc ?_ ?_ _ | with_reducible refine Below.setCell ?_ ?_ _ | omega | (simp; done) | (simp; omega)))
  · have hR : (if ¬ (0 ≤ c.kind ∧ c.kind < 2) then ([x], anE 9) else numM ⟨2, p, q⟩ [x] c) = ([x], ⟨0, x, []⟩) := by
      rw [if_neg (by omega)]; unfold numM; rw [if_pos hk]; rfl
    have d0 : (c.kind == 0) = false := by simp; omega
    have d1 : (c.kind == 1) = true := by simpa using hk
    rw [hR]
    clear hR hk
    go_enter Tryz.func47, Tryz.ntmps47
    go_wp2_with (at_builtin; go_loud (refine wpList_dup rfl _ _ rfl rfl (by first | rfl | (simp; done) | simp) rfl (((HS.out.alloc _).alloc _).alloc _) (by simp) ?_; intro v5 w5 hown5 hB5; obtain ⟨g5, c5, rfl⟩ := own_lit1 (show w5.ownsRow _ _ 1 v5 1 [.int .u64 x] from hown5); have hbl := appW_blocks w ⟨2, p, q⟩ c; obtain ⟨s0, s1, s2, _, _, _, sz⟩ := cells3 ((hB5.block _ (by omega)).trans hbl.1); obtain ⟨c0, c1, c2, c3, c4, c5', cz⟩ := cells6 ((hB5.block _ (by omega)).trans hbl.2.1); obtain ⟨r0, r1, r2, f0, f1, f2, rz⟩ := cells3 ((hB5.block _ (by omega)).trans hbl.2.2); have HAN : Hid (w5.heap[w.heap.size + 2]? = some (.cells #[.int .i64 0, .int .u64 0, .slice none 0 0] 57 (0, 0))) := hide ((hB5.block _ (by omega)).trans hbl.2.2); have k0 := wo_cell hown5 (show [x][0]? = some x from rfl); have hg5 := (hown5.lt g5 rfl); have HO5 : Hid (WOwn w5 (w.heap.size + 3) (.slice (some ⟨g5, 0, none⟩) 1 c5) 1 [x]) := hide hown5; have HB5 : Hid (Below w.heap.size w w5) := hide ((appW_below w ⟨2, p, q⟩ c).trans (hB5.mono (by omega))); have hz5 : w.heap.size + 3 ≤ w5.heap.size := (by have hq := hB5.size; rw [appW_size w ⟨2, p, q⟩ c] at hq; exact hq); clear hown5 hB5 hbl))
    refine wp_region_seql (Below w5.heap.size w5) [6] (.take 0 <| .take 1 <| .take 2 <| .take 3 <| .take 4 <| .take 5 <| .run 6 <| .done) (by kernel_rfl) (by kernel_rfl) (by kernel_rfl) (by (repeat' (first | with_reducible assumption | with_reducible exact Below.refl _ _ | with_reducible refine Below.drew ?_ | with_reducible refine below_drewN ?_ _ | with_reducible refine Below.alloc ?_ ?_ _ | with_reducible refine Below.setCell ?_ ?_ _ | omega | (simp; done) | (simp; omega)))) ?_
    repeat (refine seql_take (v := ?_) rfl (by rfl) ?_ ?_; rotate_left; (focus (intro wS hS; have yx := (hS.cell (p := ⟨g5, 0, none⟩) hg5.2).trans k0; go_simp; exact rfl)); simp only [Act.put, List.setIfInBounds_toArray, List.set_cons_zero, List.set_cons_succ])
    refine seql_late rfl rfl (by rfl) (fun K hK => ?_)
    go_simp
    refine hK _ _ ?_
    clear hK K
    refine seql_nil ?_
    go_wp2
    refine bodyPost_ret (v := .tuple #[.slice (some ⟨g5, 0, none⟩) 1 c5, .agg #[.int .i64 0, .int .u64 x, .slice none 0 0]]) (by simp [results, Tryz.results47, go_sem, *]) rfl ?_
    refine ra_wrap (w6 := w5) (R := ([x], ⟨0, x, []⟩)) (sl_lit1 HO5.out) (slw_none _) HB5.out ⟨tw_own HO5.out, tw_none _ _ _⟩ ⟨_, _, HAN.out⟩ ?_
    (repeat' (first | with_reducible assumption | with_reducible exact Keep.refl _ _ | with_reducible refine Keep.drew ?_ | with_reducible refine Keep.drewN ?_ _ | with_reducible refine Keep.setCell ?_ ?_ _ | with_reducible refine Keep.alloc ?_ ?_ _ | (intro k hk; omega) | (intro k hk; simp at hk ⊢; omega) | omega | (simp; done) | (simp; omega)))
  · have hR : (if ¬ (0 ≤ c.kind ∧ c.kind < 2) then ([x], anE 9) else numM ⟨2, p, q⟩ [x] c) = ([x], ⟨9, 0, []⟩) := by
      rw [if_pos hk]; rfl
    have d0 : (c.kind == 0) = false := by simp; omega
    have d1 : (c.kind == 1) = false := by simp; omega
    rw [hR]
    clear hR hk
    go_enter Tryz.func47, Tryz.ntmps47
    go_wp2_with (at_builtin; go_loud (refine wpList_dup rfl _ _ rfl rfl (by first | rfl | (simp; done) | simp) rfl (((HS.out.alloc _).alloc _).alloc _) (by simp) ?_; intro v5 w5 hown5 hB5; obtain ⟨g5, c5, rfl⟩ := own_lit1 (show w5.ownsRow _ _ 1 v5 1 [.int .u64 x] from hown5); have hbl := appW_blocks w ⟨2, p, q⟩ c; obtain ⟨s0, s1, s2, _, _, _, sz⟩ := cells3 ((hB5.block _ (by omega)).trans hbl.1); obtain ⟨c0, c1, c2, c3, c4, c5', cz⟩ := cells6 ((hB5.block _ (by omega)).trans hbl.2.1); obtain ⟨r0, r1, r2, f0, f1, f2, rz⟩ := cells3 ((hB5.block _ (by omega)).trans hbl.2.2); have HAN : Hid (w5.heap[w.heap.size + 2]? = some (.cells #[.int .i64 0, .int .u64 0, .slice none 0 0] 57 (0, 0))) := hide ((hB5.block _ (by omega)).trans hbl.2.2); have k0 := wo_cell hown5 (show [x][0]? = some x from rfl); have hg5 := (hown5.lt g5 rfl); have HO5 : Hid (WOwn w5 (w.heap.size + 3) (.slice (some ⟨g5, 0, none⟩) 1 c5) 1 [x]) := hide hown5; have HB5 : Hid (Below w.heap.size w w5) := hide ((appW_below w ⟨2, p, q⟩ c).trans (hB5.mono (by omega))); have hz5 : w.heap.size + 3 ≤ w5.heap.size := (by have hq := hB5.size; rw [appW_size w ⟨2, p, q⟩ c] at hq; exact hq); clear hown5 hB5 hbl))
    refine bodyPost_ret (v := .tuple #[.slice (some ⟨g5, 0, none⟩) 1 c5, .agg #[.int .i64 9, .int .u64 0, .slice none 0 0]]) (by simp [results, Tryz.results47, go_sem, *]) rfl ?_
    refine ra_wrap (w6 := w5) (R := ([x], ⟨9, 0, []⟩)) (sl_lit1 HO5.out) (slw_none _) HB5.out ⟨tw_own HO5.out, tw_none _ _ _⟩ ⟨_, _, HAN.out⟩ ?_
    (repeat' (first | with_reducible assumption | with_reducible exact Keep.refl _ _ | with_reducible refine Keep.drew ?_ | with_reducible refine Keep.drewN ?_ _ | with_reducible refine Keep.setCell ?_ ?_ _ | with_reducible refine Keep.alloc ?_ ?_ _ | (intro k hk; omega) | (intro k hk; simp at hk ⊢; omega) | omega | (simp; done) | (simp; omega)))
end Go.Proofs.YtmiimpmfkjcjlaaGreat

namespace Go.Proofs.YtmiimpmfkjcjlaaGreat
open Go.RowKit

theorem len_pos_of {n : Int} {s : Sp} {st : List Int} (hR : rightM n s st = true) (h8 : s.kind ≠ 8) : sizeE n s = 0 ∧ 0 < st.length ∧ st.length ≤ 80 := by
  unfold rightM at hR
  simp only [Bool.and_eq_true, decide_eq_true_eq] at hR
  obtain ⟨h1, h2⟩ := hR
  have h3 := newM_len n s h1
  obtain ⟨⟨g1, g2⟩, ⟨g3, g4⟩, g5⟩ := sizeE_zero h1
  unfold shapeM at h2
  refine ⟨h1, ?_⟩
  by_cases h7 : s.kind = 7
  · rw [if_pos h7] at h2
    simp only [Bool.and_eq_true, decide_eq_true_eq] at h2
    obtain ⟨h4, h5⟩ := h2
    refine ⟨h4, ?_⟩
    unfold rightB17 at h5
    repeat' split at h5
    all_goals first | (simp at h5; omega) | omega
  · rw [if_neg h7, if_neg h8, decide_eq_true_eq] at h2
    rw [h2]
    refine ⟨?_, h3⟩
    obtain ⟨k, p, q⟩ := s
    simp only at g3 g4 g5 h7 h8
    rcases (by omega : k = 0 ∨ k = 1 ∨ k = 2 ∨ k = 3 ∨ k = 4 ∨ k = 5 ∨ k = 6 ∨ k = 9) with rfl | rfl | rfl | rfl | rfl | rfl | rfl | rfl
    all_goals
      unfold rightT at g5
      simp at g5
      simp [newM]
      try omega
set_option maxRecDepth 100000 in
theorem rapply_any (n : Int) (s : Sp) (c : Cl) (A : Option Addr) (m vc : Nat) (st : List Int) (w : World) (h : SlW w (.slice A m vc) st) (hl : st.length ≤ 10000) (hR : rightM n s st = true) (ht0 : 0 ≤ c.thread) (ht1 : c.thread < n) (ha : U64 c.a) (hb : U64 c.b) (hu : ∀ z ∈ st, U64 z) :
    Calls Tryz.prog 47 #[.int .i64 n, spV s, .slice A m vc, clV c] w (RPost w.heap.size (applyM n s st c) w) := by
  have hA : applyM n s st c = if ¬ (0 ≤ c.kind ∧ c.kind < actsT s.kind s.p) then (st, anE 9) else actM n s st c := by
    unfold applyM
    rw [if_neg (by rw [hR]; simp; omega)]
  rw [hA]
  clear hA
  have hE : sizeE n s = 0 := by
    unfold rightM at hR
    simp only [Bool.and_eq_true, decide_eq_true_eq] at hR
    exact hR.1
  have hsh : shapeM n s st = true := by
    unfold rightM at hR
    simp only [Bool.and_eq_true, decide_eq_true_eq] at hR
    exact hR.2
  obtain ⟨⟨hn1, hn2⟩, ⟨hk0, hk9⟩, hrt⟩ := sizeE_zero hE
  have hlp := fun h8 => len_pos_of hR h8
  obtain ⟨k, p, q⟩ := s
  simp only at hk0 hk9 hrt hlp hsh ⊢
  rcases (by omega : k = 0 ∨ k = 1 ∨ k = 2 ∨ k = 3 ∨ k = 4 ∨ k = 5 ∨ k = 6 ∨ k = 7 ∨ k = 8 ∨ k = 9) with rfl | rfl | rfl | rfl | rfl | rfl | rfl | rfl | rfl | rfl
  · obtain ⟨_, l1, l2⟩ := hlp (by decide)
    refine rapply_K0 n p q c A m vc st w _ h (by omega) (fun v W hO hz => ?_)
    refine rcell_any ⟨0, p, q⟩ c (w.heap.size + 3) st.length v st W hO ?_ l1 (by omega) hz ha hb hu
    unfold shapeM newM at hsh
    simp at hsh
    show p = _
    omega
  · obtain ⟨_, l1, l2⟩ := hlp (by decide)
    refine rapply_K1 n p q c A m vc st w _ h (by omega) (fun v W hO hz => ?_)
    exact rcons_any c (w.heap.size + 3) st.length v st W hO l1 hz ha hu
  · have h1 : st.length = 1 := by
      unfold shapeM newM at hsh
      simpa using hsh
    obtain ⟨x, rfl⟩ := bell h1
    exact rapply_K2 n p q c A m vc x w h (hu x (by simp))
  · obtain ⟨_, l1, l2⟩ := hlp (by decide)
    refine rapply_K3 n p q c A m vc st w _ h (by omega) (fun v W hO hz => ?_)
    exact radder_any ⟨3, p, q⟩ c (w.heap.size + 3) st.length v st W hO l1 hz rfl
  · obtain ⟨_, l1, l2⟩ := hlp (by decide)
    refine rapply_K4 n p q c A m vc st w _ h (by omega) (fun v W hO hz => ?_)
    unfold rightT at hrt
    simp at hrt
    exact rmax_any ⟨4, p, q⟩ c (w.heap.size + 3) st.length v st W hO l1 hz ha hu (by show 1 ≤ p; omega) (by show p ≤ 12; omega)
  · obtain ⟨_, l1, l2⟩ := hlp (by decide)
    have hwt : IntKind.u64.wrap c.thread = c.thread := by rw [IntKind.wrap_u64]; omega
    refine rapply_K5 n p q c A m vc st w _ h (by omega) hwt (fun v W hO hz => ?_)
    unfold rightT at hrt
    simp at hrt
    have h2 : st.length = (2 * n).toNat := by
      unfold shapeM newM at hsh
      simpa using hsh
    obtain ⟨nn, rfl⟩ := Int.eq_ofNat_of_zero_le (by omega : 0 ≤ n)
    obtain ⟨tt, hct⟩ := Int.eq_ofNat_of_zero_le ht0
    by_cases hk1 : c.kind = 1
    · have := rsnap_1 nn st.length p nn c.thread c ⟨0, 0, 0, c.thread, c.a, 0⟩ (w.heap.size + 3) v st W hO (by omega) (by omega) hz hk1
      rw [if_neg (by rw [hk1]; show ¬¬ ((0 : Int) ≤ 1 ∧ (1 : Int) < 2); decide)]
      unfold actM partsM
      simpa [hk1] using this
    · have := rsnap_any nn tt st.length p nn c ⟨0, 0, 0, c.thread, c.a, 0⟩ (w.heap.size + 3) v st W hO (by omega) (by omega) (by omega) hz ⟨ht0, by show c.thread < _; omega⟩ hu (by omega) (by omega) (by omega) hct hk1
      rw [← hct] at this
      exact this
  · obtain ⟨_, l1, l2⟩ := hlp (by decide)
    refine rapply_K6 n p q c A m vc st w _ h (by omega) (fun v W hO hz => ?_)
    unfold rightT at hrt
    simp at hrt
    have h2 : st.length = (p + n).toNat := by
      unfold shapeM newM at hsh
      simpa using hsh
    obtain ⟨pp, rfl⟩ := Int.eq_ofNat_of_zero_le (by omega : 0 ≤ p)
    obtain ⟨tt, hct⟩ := Int.eq_ofNat_of_zero_le ht0
    by_cases hk1 : c.kind = 1
    · have := rsnap_1 pp st.length q n c.thread c c (w.heap.size + 3) v st W hO (by omega) (by omega) hz hk1
      rw [if_neg (by rw [hk1]; show ¬¬ ((0 : Int) ≤ 1 ∧ (1 : Int) < 2); decide)]
      unfold actM partsM
      simpa [hk1] using this
    · have := rsnap_any pp tt st.length q n c c (w.heap.size + 3) v st W hO (by omega) (by omega) (by omega) hz ha hu (by omega) (by omega) (by omega) hct hk1
      rw [← hct] at this
      exact this
  · obtain ⟨_, l1, l2⟩ := hlp (by decide)
    refine rapply_K7 n p q c A m vc st w _ h (by omega) (fun v W hO hz => ?_)
    unfold rightT at hrt
    simp at hrt
    have hr : rightB17 p (st.length - 1) = true := by
      unfold shapeM at hsh
      simp at hsh
      exact hsh.2
    have hac : actsT 7 p = kindsI p := rfl
    rw [hac]
    by_cases hk : 0 ≤ c.kind ∧ c.kind < kindsI p
    · rw [if_neg (by simpa using hk)]
      show Calls _ _ _ _ (RPost _ (sharedM ⟨7, p, q⟩ st c) W)
      by_cases hf1 : 4294967296 ≤ c.a
      · exact runiv_full ⟨7, p, q⟩ c (w.heap.size + 3) st.length v st W hO l1 hz hk.1 hk.2 (by show 0 ≤ q; omega) (by show q ≤ 1000; omega) (by omega) (Or.inl hf1)
      · by_cases hf2 : q ≤ at0 st 0
        · exact runiv_full ⟨7, p, q⟩ c (w.heap.size + 3) st.length v st W hO l1 hz hk.1 hk.2 (by show 0 ≤ q; omega) (by show q ≤ 1000; omega) (by omega) (Or.inr hf2)
        · exact runiv_ok ⟨7, p, q⟩ c (w.heap.size + 3) st.length v st W hO l1 hz hk.1 hk.2 (by show 0 ≤ q; omega) (by show q ≤ 1000; omega) (by omega) hf1 hf2 hr hu ha
    · rw [if_pos hk]
      exact runiv_no ⟨7, p, q⟩ c (w.heap.size + 3) st.length v st W hO l1 hz hk
  · refine rapply_K8 n p q c A m vc st w _ h (by omega) (fun v W hO hz => ?_)
    have he : st.length % 2 = 0 := by
      unfold shapeM at hsh
      simpa using hsh
    exact rqueue_any c (w.heap.size + 3) st.length v st W hO (by omega) he hz ha ht0 (by omega)
  · obtain ⟨_, l1, l2⟩ := hlp (by decide)
    refine rapply_K9 n p q c A m vc st w _ h (by omega) (fun v W hO hz => ?_)
    exact rpin_any ⟨9, p, q⟩ c (w.heap.size + 3) st.length v st W hO l1 (by omega) hz ha
end Go.Proofs.YtmiimpmfkjcjlaaGreat
