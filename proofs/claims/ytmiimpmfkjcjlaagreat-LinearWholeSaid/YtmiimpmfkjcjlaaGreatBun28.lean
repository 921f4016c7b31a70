import Derived.Test.YtmiimpmfkjcjlaaGreatBun27
namespace Go.Proofs.YtmiimpmfkjcjlaaGreat
open Go.RowKit
attribute [local go_sem] run_store_fn run_store_nilfn
theorem appW_size (w : World) (s : Sp) (c : Cl) : (appW w s c).heap.size = w.heap.size + 3 := by simp
theorem ra_wrap {w w6 w' : World} {R : List Int × An} {v L : Value} (hs : SlW w6 v R.1) (hL : SlW w6 L R.2.list) (hb : Below w.heap.size w w6) (ho : Tw w6 v ∧ Tw w6 L) (hr : ∃ cs fr, w6.heap[w.heap.size + 2]? = some (.cells cs 57 fr)) (hk : Keep (fun j => j ≠ w.heap.size + 2) w6 w') :
    RPost w.heap.size R w (.returned (.tuple #[v, .agg #[.int .i64 R.2.err, .int .u64 R.2.val, L]])) w' :=
  have hS : ∀ j cs fr, w6.heap[j]? = some (.cells cs 25 fr) → j ≠ w.heap.size + 2 := by
    intro j cs fr hj e
    obtain ⟨cs', fr', h'⟩ := hr
    rw [e, h'] at hj
    cases hj
  ⟨v, L, rfl, sl_keepT hs ho.1 hk hS, sl_keepT hL ho.2 hk hS, hb.trans (hk.below (fun k hk => by omega)), ho.1.keep hk hS, ho.2.keep hk hS⟩
set_option maxRecDepth 100000 in
set_option maxHeartbeats 2000000 in
theorem rapply_K0 (n p q : Int) (c : Cl) (A : Option Addr) (m vc : Nat) (st : List Int) (w : World) (R : List Int × An) (h : SlW w (.slice A m vc) st) (hl : st.length ≤ 1000000)
    (NX : ∀ v W, WOwn W (w.heap.size + 3) v st.length st → w.heap.size + 3 ≤ W.heap.size → Calls Tryz.prog 84 #[.agg #[.int .i64 0, .int .i64 p, .int .i64 q], v, clV c] W (RPost (w.heap.size + 3) R W)) :
    Calls Tryz.prog 47 #[.int .i64 n, spV ⟨0, p, q⟩, .slice A m vc, clV c] w (RPost w.heap.size R w) := by
  have HS := hide h
  clear h
  go_enter Tryz.func47, Tryz.ntmps47
  go_wp2_with (at_builtin; go_loud (refine wpList_dup rfl _ _ rfl rfl (by first | rfl | (simp; done) | simp) rfl (((HS.out.alloc _).alloc _).alloc _) hl ?_; intro v5 w5 hown5 hB5; obtain ⟨A5, c5, rfl⟩ := own_slice hown5; have hbl := appW_blocks w ⟨0, p, q⟩ c; obtain ⟨s0, s1, s2, _, _, _, sz⟩ := cells3 ((hB5.block _ (by omega)).trans hbl.1); obtain ⟨c0, c1, c2, c3, c4, c5', cz⟩ := cells6 ((hB5.block _ (by omega)).trans hbl.2.1); obtain ⟨r0, r1, r2, f0, f1, f2, rz⟩ := cells3 ((hB5.block _ (by omega)).trans hbl.2.2); have HAN : Hid (w5.heap[w.heap.size + 2]? = some (.cells #[.int .i64 0, .int .u64 0, .slice none 0 0] 57 (0, 0))) := hide ((hB5.block _ (by omega)).trans hbl.2.2); have HO5 : Hid (WOwn w5 (w.heap.size + 3) (.slice A5 st.length c5) st.length st) := hide hown5; have HB5 : Hid (Below w.heap.size w w5) := hide ((appW_below w ⟨0, p, q⟩ c).trans (hB5.mono (by omega))); have hz5 : w.heap.size + 3 ≤ w5.heap.size := (by have hq := hB5.size; rw [appW_size w ⟨0, p, q⟩ c] at hq; exact hq); clear hown5 hB5 hbl))
  refine (NX _ _ HO5.out hz5).mono ?_
  rintro e w6 ⟨v6, L6, rfl, hs6, hL6, hb6, ho6⟩
  obtain ⟨R1, E6, V6, R3⟩ := R
  simp only [] at hs6 hL6 ⊢
  obtain ⟨A6, c6, rfl, _⟩ := id hs6
  obtain ⟨B6, d6, rfl, _⟩ := id hL6
  obtain ⟨r0, r1, r2, f0, f1, f2, rz⟩ := cells3 ((hb6.block _ (by omega)).trans HAN.out)
  have HAN6 := hide ((hb6.block _ (by omega)).trans HAN.out)
  have HS6 := hide hs6
  have HL6 := hide hL6
  have HO6 := hide ho6
  have HB6 := hide (HB5.out.trans (hb6.mono (by omega)))
  clear hs6 hL6 ho6 hb6 s0 s1 s2 c0 c1 c2 c3 c4 c5'
  go_wp2
  refine bodyPost_ret (v := .tuple #[.slice A6 R1.length c6, .agg #[.int .i64 E6, .int .u64 V6, .slice B6 R3.length d6]]) (by simp [results, Tryz.results47, go_sem, *]) rfl ?_
  refine ra_wrap (R := (R1, ⟨E6, V6, R3⟩)) HS6.out HL6.out HB6.out HO6.out ⟨_, _, HAN6.out⟩ ?_
  (repeat' (first | with_reducible assumption | with_reducible exact Keep.refl _ _ | with_reducible refine Keep.drew ?_ | with_reducible refine Keep.drewN ?_ _ | with_reducible refine Keep.setCell ?_ ?_ _ | with_reducible refine Keep.alloc ?_ ?_ _ | (intro k hk; omega) | (intro k hk; simp at hk ⊢; omega) | omega | (simp; done) | (simp; omega)))
set_option maxRecDepth 100000 in
set_option maxHeartbeats 2000000 in
theorem rapply_K1 (n p q : Int) (c : Cl) (A : Option Addr) (m vc : Nat) (st : List Int) (w : World) (R : List Int × An) (h : SlW w (.slice A m vc) st) (hl : st.length ≤ 1000000)
    (NX : ∀ v W, WOwn W (w.heap.size + 3) v st.length st → w.heap.size + 3 ≤ W.heap.size → Calls Tryz.prog 85 #[v, clV c] W (RPost (w.heap.size + 3) R W)) :
    Calls Tryz.prog 47 #[.int .i64 n, spV ⟨1, p, q⟩, .slice A m vc, clV c] w (RPost w.heap.size R w) := by
  have HS := hide h
  clear h
  go_enter Tryz.func47, Tryz.ntmps47
  go_wp2_with (at_builtin; go_loud (refine wpList_dup rfl _ _ rfl rfl (by first | rfl | (simp; done) | simp) rfl (((HS.out.alloc _).alloc _).alloc _) hl ?_; intro v5 w5 hown5 hB5; obtain ⟨A5, c5, rfl⟩ := own_slice hown5; have hbl := appW_blocks w ⟨1, p, q⟩ c; obtain ⟨s0, s1, s2, _, _, _, sz⟩ := cells3 ((hB5.block _ (by omega)).trans hbl.1); obtain ⟨c0, c1, c2, c3, c4, c5', cz⟩ := cells6 ((hB5.block _ (by omega)).trans hbl.2.1); obtain ⟨r0, r1, r2, f0, f1, f2, rz⟩ := cells3 ((hB5.block _ (by omega)).trans hbl.2.2); have HAN : Hid (w5.heap[w.heap.size + 2]? = some (.cells #[.int .i64 0, .int .u64 0, .slice none 0 0] 57 (0, 0))) := hide ((hB5.block _ (by omega)).trans hbl.2.2); have HO5 : Hid (WOwn w5 (w.heap.size + 3) (.slice A5 st.length c5) st.length st) := hide hown5; have HB5 : Hid (Below w.heap.size w w5) := hide ((appW_below w ⟨1, p, q⟩ c).trans (hB5.mono (by omega))); have hz5 : w.heap.size + 3 ≤ w5.heap.size := (by have hq := hB5.size; rw [appW_size w ⟨1, p, q⟩ c] at hq; exact hq); clear hown5 hB5 hbl))
  refine (NX _ _ HO5.out hz5).mono ?_
  rintro e w6 ⟨v6, L6, rfl, hs6, hL6, hb6, ho6⟩
  obtain ⟨R1, E6, V6, R3⟩ := R
  simp only [] at hs6 hL6 ⊢
  obtain ⟨A6, c6, rfl, _⟩ := id hs6
  obtain ⟨B6, d6, rfl, _⟩ := id hL6
  obtain ⟨r0, r1, r2, f0, f1, f2, rz⟩ := cells3 ((hb6.block _ (by omega)).trans HAN.out)
  have HAN6 := hide ((hb6.block _ (by omega)).trans HAN.out)
  have HS6 := hide hs6
  have HL6 := hide hL6
  have HO6 := hide ho6
  have HB6 := hide (HB5.out.trans (hb6.mono (by omega)))
  clear hs6 hL6 ho6 hb6 s0 s1 s2 c0 c1 c2 c3 c4 c5'
  go_wp2
  refine bodyPost_ret (v := .tuple #[.slice A6 R1.length c6, .agg #[.int .i64 E6, .int .u64 V6, .slice B6 R3.length d6]]) (by simp [results, Tryz.results47, go_sem, *]) rfl ?_
  refine ra_wrap (R := (R1, ⟨E6, V6, R3⟩)) HS6.out HL6.out HB6.out HO6.out ⟨_, _, HAN6.out⟩ ?_
  (repeat' (first | with_reducible assumption | with_reducible exact Keep.refl _ _ | with_reducible refine Keep.drew ?_ | with_reducible refine Keep.drewN ?_ _ | with_reducible refine Keep.setCell ?_ ?_ _ | with_reducible refine Keep.alloc ?_ ?_ _ | (intro k hk; omega) | (intro k hk; simp at hk ⊢; omega) | omega | (simp; done) | (simp; omega)))
set_option maxRecDepth 100000 in
set_option maxHeartbeats 2000000 in
theorem rapply_K3 (n p q : Int) (c : Cl) (A : Option Addr) (m vc : Nat) (st : List Int) (w : World) (R : List Int × An) (h : SlW w (.slice A m vc) st) (hl : st.length ≤ 1000000)
    (NX : ∀ v W, WOwn W (w.heap.size + 3) v st.length st → w.heap.size + 3 ≤ W.heap.size → Calls Tryz.prog 86 #[v, clV c] W (RPost (w.heap.size + 3) R W)) :
    Calls Tryz.prog 47 #[.int .i64 n, spV ⟨3, p, q⟩, .slice A m vc, clV c] w (RPost w.heap.size R w) := by
  have HS := hide h
  clear h
  go_enter Tryz.func47, Tryz.ntmps47
  go_wp2_with (at_builtin; go_loud (refine wpList_dup rfl _ _ rfl rfl (by first | rfl | (simp; done) | simp) rfl (((HS.out.alloc _).alloc _).alloc _) hl ?_; intro v5 w5 hown5 hB5; obtain ⟨A5, c5, rfl⟩ := own_slice hown5; have hbl := appW_blocks w ⟨3, p, q⟩ c; obtain ⟨s0, s1, s2, _, _, _, sz⟩ := cells3 ((hB5.block _ (by omega)).trans hbl.1); obtain ⟨c0, c1, c2, c3, c4, c5', cz⟩ := cells6 ((hB5.block _ (by omega)).trans hbl.2.1); obtain ⟨r0, r1, r2, f0, f1, f2, rz⟩ := cells3 ((hB5.block _ (by omega)).trans hbl.2.2); have HAN : Hid (w5.heap[w.heap.size + 2]? = some (.cells #[.int .i64 0, .int .u64 0, .slice none 0 0] 57 (0, 0))) := hide ((hB5.block _ (by omega)).trans hbl.2.2); have HO5 : Hid (WOwn w5 (w.heap.size + 3) (.slice A5 st.length c5) st.length st) := hide hown5; have HB5 : Hid (Below w.heap.size w w5) := hide ((appW_below w ⟨3, p, q⟩ c).trans (hB5.mono (by omega))); have hz5 : w.heap.size + 3 ≤ w5.heap.size := (by have hq := hB5.size; rw [appW_size w ⟨3, p, q⟩ c] at hq; exact hq); clear hown5 hB5 hbl))
  refine (NX _ _ HO5.out hz5).mono ?_
  rintro e w6 ⟨v6, L6, rfl, hs6, hL6, hb6, ho6⟩
  obtain ⟨R1, E6, V6, R3⟩ := R
  simp only [] at hs6 hL6 ⊢
  obtain ⟨A6, c6, rfl, _⟩ := id hs6
  obtain ⟨B6, d6, rfl, _⟩ := id hL6
  obtain ⟨r0, r1, r2, f0, f1, f2, rz⟩ := cells3 ((hb6.block _ (by omega)).trans HAN.out)
  have HAN6 := hide ((hb6.block _ (by omega)).trans HAN.out)
  have HS6 := hide hs6
  have HL6 := hide hL6
  have HO6 := hide ho6
  have HB6 := hide (HB5.out.trans (hb6.mono (by omega)))
  clear hs6 hL6 ho6 hb6 s0 s1 s2 c0 c1 c2 c3 c4 c5'
  go_wp2
  refine bodyPost_ret (v := .tuple #[.slice A6 R1.length c6, .agg #[.int .i64 E6, .int .u64 V6, .slice B6 R3.length d6]]) (by simp [results, Tryz.results47, go_sem, *]) rfl ?_
  refine ra_wrap (R := (R1, ⟨E6, V6, R3⟩)) HS6.out HL6.out HB6.out HO6.out ⟨_, _, HAN6.out⟩ ?_
  (repeat' (first | with_reducible assumption | with_reducible exact Keep.refl _ _ | with_reducible refine Keep.drew ?_ | with_reducible refine Keep.drewN ?_ _ | with_reducible refine Keep.setCell ?_ ?_ _ | with_reducible refine Keep.alloc ?_ ?_ _ | (intro k hk; omega) | (intro k hk; simp at hk ⊢; omega) | omega | (simp; done) | (simp; omega)))
set_option maxRecDepth 100000 in
set_option maxHeartbeats 2000000 in
theorem rapply_K4 (n p q : Int) (c : Cl) (A : Option Addr) (m vc : Nat) (st : List Int) (w : World) (R : List Int × An) (h : SlW w (.slice A m vc) st) (hl : st.length ≤ 1000000)
    (NX : ∀ v W, WOwn W (w.heap.size + 3) v st.length st → w.heap.size + 3 ≤ W.heap.size → Calls Tryz.prog 87 #[.agg #[.int .i64 4, .int .i64 p, .int .i64 q], v, clV c] W (RPost (w.heap.size + 3) R W)) :
    Calls Tryz.prog 47 #[.int .i64 n, spV ⟨4, p, q⟩, .slice A m vc, clV c] w (RPost w.heap.size R w) := by
  have HS := hide h
  clear h
  go_enter Tryz.func47, Tryz.ntmps47
  go_wp2_with (at_builtin; go_loud (refine wpList_dup rfl _ _ rfl rfl (by first | rfl | (simp; done) | simp) rfl (((HS.out.alloc _).alloc _).alloc _) hl ?_; intro v5 w5 hown5 hB5; obtain ⟨A5, c5, rfl⟩ := own_slice hown5; have hbl := appW_blocks w ⟨4, p, q⟩ c; obtain ⟨s0, s1, s2, _, _, _, sz⟩ := cells3 ((hB5.block _ (by omega)).trans hbl.1); obtain ⟨c0, c1, c2, c3, c4, c5', cz⟩ := cells6 ((hB5.block _ (by omega)).trans hbl.2.1); obtain ⟨r0, r1, r2, f0, f1, f2, rz⟩ := cells3 ((hB5.block _ (by omega)).trans hbl.2.2); have HAN : Hid (w5.heap[w.heap.size + 2]? = some (.cells #[.int .i64 0, .int .u64 0, .slice none 0 0] 57 (0, 0))) := hide ((hB5.block _ (by omega)).trans hbl.2.2); have HO5 : Hid (WOwn w5 (w.heap.size + 3) (.slice A5 st.length c5) st.length st) := hide hown5; have HB5 : Hid (Below w.heap.size w w5) := hide ((appW_below w ⟨4, p, q⟩ c).trans (hB5.mono (by omega))); have hz5 : w.heap.size + 3 ≤ w5.heap.size := (by have hq := hB5.size; rw [appW_size w ⟨4, p, q⟩ c] at hq; exact hq); clear hown5 hB5 hbl))
  refine (NX _ _ HO5.out hz5).mono ?_
  rintro e w6 ⟨v6, L6, rfl, hs6, hL6, hb6, ho6⟩
  obtain ⟨R1, E6, V6, R3⟩ := R
  simp only [] at hs6 hL6 ⊢
  obtain ⟨A6, c6, rfl, _⟩ := id hs6
  obtain ⟨B6, d6, rfl, _⟩ := id hL6
  obtain ⟨r0, r1, r2, f0, f1, f2, rz⟩ := cells3 ((hb6.block _ (by omega)).trans HAN.out)
  have HAN6 := hide ((hb6.block _ (by omega)).trans HAN.out)
  have HS6 := hide hs6
  have HL6 := hide hL6
  have HO6 := hide ho6
  have HB6 := hide (HB5.out.trans (hb6.mono (by omega)))
  clear hs6 hL6 ho6 hb6 s0 s1 s2 c0 c1 c2 c3 c4 c5'
  go_wp2
  refine bodyPost_ret (v := .tuple #[.slice A6 R1.length c6, .agg #[.int .i64 E6, .int .u64 V6, .slice B6 R3.length d6]]) (by simp [results, Tryz.results47, go_sem, *]) rfl ?_
  refine ra_wrap (R := (R1, ⟨E6, V6, R3⟩)) HS6.out HL6.out HB6.out HO6.out ⟨_, _, HAN6.out⟩ ?_
  (repeat' (first | with_reducible assumption | with_reducible exact Keep.refl _ _ | with_reducible refine Keep.drew ?_ | with_reducible refine Keep.drewN ?_ _ | with_reducible refine Keep.setCell ?_ ?_ _ | with_reducible refine Keep.alloc ?_ ?_ _ | (intro k hk; omega) | (intro k hk; simp at hk ⊢; omega) | omega | (simp; done) | (simp; omega)))
set_option maxRecDepth 100000 in
set_option maxHeartbeats 2000000 in
theorem rapply_K5 (n p q : Int) (c : Cl) (A : Option Addr) (m vc : Nat) (st : List Int) (w : World) (R : List Int × An) (h : SlW w (.slice A m vc) st) (hl : st.length ≤ 1000000) (hwt : IntKind.u64.wrap c.thread = c.thread)
    (NX : ∀ v W, WOwn W (w.heap.size + 3) v st.length st → w.heap.size + 3 ≤ W.heap.size → Calls Tryz.prog 88 #[.int .i64 n, .int .i64 p, .int .i64 n, v, .int .i64 c.thread, clV c, clV ⟨0, 0, 0, c.thread, c.a, 0⟩] W (RPost (w.heap.size + 3) R W)) :
    Calls Tryz.prog 47 #[.int .i64 n, spV ⟨5, p, q⟩, .slice A m vc, clV c] w (RPost w.heap.size R w) := by
  have HS := hide h
  clear h
  go_enter Tryz.func47, Tryz.ntmps47
  go_wp2_with (at_builtin; go_loud (refine wpList_dup rfl _ _ rfl rfl (by first | rfl | (simp; done) | simp) rfl (((HS.out.alloc _).alloc _).alloc _) hl ?_; intro v5 w5 hown5 hB5; obtain ⟨A5, c5, rfl⟩ := own_slice hown5; have hbl := appW_blocks w ⟨5, p, q⟩ c; obtain ⟨s0, s1, s2, _, _, _, sz⟩ := cells3 ((hB5.block _ (by omega)).trans hbl.1); obtain ⟨c0, c1, c2, c3, c4, c5', cz⟩ := cells6 ((hB5.block _ (by omega)).trans hbl.2.1); obtain ⟨r0, r1, r2, f0, f1, f2, rz⟩ := cells3 ((hB5.block _ (by omega)).trans hbl.2.2); have HAN : Hid (w5.heap[w.heap.size + 2]? = some (.cells #[.int .i64 0, .int .u64 0, .slice none 0 0] 57 (0, 0))) := hide ((hB5.block _ (by omega)).trans hbl.2.2); have HO5 : Hid (WOwn w5 (w.heap.size + 3) (.slice A5 st.length c5) st.length st) := hide hown5; have HB5 : Hid (Below w.heap.size w w5) := hide ((appW_below w ⟨5, p, q⟩ c).trans (hB5.mono (by omega))); have hz5 : w.heap.size + 3 ≤ w5.heap.size := (by have hq := hB5.size; rw [appW_size w ⟨5, p, q⟩ c] at hq; exact hq); clear hown5 hB5 hbl))
  refine (NX _ _ HO5.out hz5).mono ?_
  rintro e w6 ⟨v6, L6, rfl, hs6, hL6, hb6, ho6⟩
  obtain ⟨R1, E6, V6, R3⟩ := R
  simp only [] at hs6 hL6 ⊢
  obtain ⟨A6, c6, rfl, _⟩ := id hs6
  obtain ⟨B6, d6, rfl, _⟩ := id hL6
  obtain ⟨r0, r1, r2, f0, f1, f2, rz⟩ := cells3 ((hb6.block _ (by omega)).trans HAN.out)
  have HAN6 := hide ((hb6.block _ (by omega)).trans HAN.out)
  have HS6 := hide hs6
  have HL6 := hide hL6
  have HO6 := hide ho6
  have HB6 := hide (HB5.out.trans (hb6.mono (by omega)))
  clear hs6 hL6 ho6 hb6 s0 s1 s2 c0 c1 c2 c3 c4 c5'
  go_wp2
  refine bodyPost_ret (v := .tuple #[.slice A6 R1.length c6, .agg #[.int .i64 E6, .int .u64 V6, .slice B6 R3.length d6]]) (by simp [results, Tryz.results47, go_sem, *]) rfl ?_
  refine ra_wrap (R := (R1, ⟨E6, V6, R3⟩)) HS6.out HL6.out HB6.out HO6.out ⟨_, _, HAN6.out⟩ ?_
  (repeat' (first | with_reducible assumption | with_reducible exact Keep.refl _ _ | with_reducible refine Keep.drew ?_ | with_reducible refine Keep.drewN ?_ _ | with_reducible refine Keep.setCell ?_ ?_ _ | with_reducible refine Keep.alloc ?_ ?_ _ | (intro k hk; omega) | (intro k hk; simp at hk ⊢; omega) | omega | (simp; done) | (simp; omega)))
set_option maxRecDepth 100000 in
set_option maxHeartbeats 2000000 in
theorem rapply_K6 (n p q : Int) (c : Cl) (A : Option Addr) (m vc : Nat) (st : List Int) (w : World) (R : List Int × An) (h : SlW w (.slice A m vc) st) (hl : st.length ≤ 1000000)
    (NX : ∀ v W, WOwn W (w.heap.size + 3) v st.length st → w.heap.size + 3 ≤ W.heap.size → Calls Tryz.prog 88 #[.int .i64 p, .int .i64 q, .int .i64 n, v, .int .i64 c.thread, clV c, clV c] W (RPost (w.heap.size + 3) R W)) :
    Calls Tryz.prog 47 #[.int .i64 n, spV ⟨6, p, q⟩, .slice A m vc, clV c] w (RPost w.heap.size R w) := by
  have HS := hide h
  clear h
  go_enter Tryz.func47, Tryz.ntmps47
  go_wp2_with (at_builtin; go_loud (refine wpList_dup rfl _ _ rfl rfl (by first | rfl | (simp; done) | simp) rfl (((HS.out.alloc _).alloc _).alloc _) hl ?_; intro v5 w5 hown5 hB5; obtain ⟨A5, c5, rfl⟩ := own_slice hown5; have hbl := appW_blocks w ⟨6, p, q⟩ c; obtain ⟨s0, s1, s2, _, _, _, sz⟩ := cells3 ((hB5.block _ (by omega)).trans hbl.1); obtain ⟨c0, c1, c2, c3, c4, c5', cz⟩ := cells6 ((hB5.block _ (by omega)).trans hbl.2.1); obtain ⟨r0, r1, r2, f0, f1, f2, rz⟩ := cells3 ((hB5.block _ (by omega)).trans hbl.2.2); have HAN : Hid (w5.heap[w.heap.size + 2]? = some (.cells #[.int .i64 0, .int .u64 0, .slice none 0 0] 57 (0, 0))) := hide ((hB5.block _ (by omega)).trans hbl.2.2); have HO5 : Hid (WOwn w5 (w.heap.size + 3) (.slice A5 st.length c5) st.length st) := hide hown5; have HB5 : Hid (Below w.heap.size w w5) := hide ((appW_below w ⟨6, p, q⟩ c).trans (hB5.mono (by omega))); have hz5 : w.heap.size + 3 ≤ w5.heap.size := (by have hq := hB5.size; rw [appW_size w ⟨6, p, q⟩ c] at hq; exact hq); clear hown5 hB5 hbl))
  refine (NX _ _ HO5.out hz5).mono ?_
  rintro e w6 ⟨v6, L6, rfl, hs6, hL6, hb6, ho6⟩
  obtain ⟨R1, E6, V6, R3⟩ := R
  simp only [] at hs6 hL6 ⊢
  obtain ⟨A6, c6, rfl, _⟩ := id hs6
  obtain ⟨B6, d6, rfl, _⟩ := id hL6
  obtain ⟨r0, r1, r2, f0, f1, f2, rz⟩ := cells3 ((hb6.block _ (by omega)).trans HAN.out)
  have HAN6 := hide ((hb6.block _ (by omega)).trans HAN.out)
  have HS6 := hide hs6
  have HL6 := hide hL6
  have HO6 := hide ho6
  have HB6 := hide (HB5.out.trans (hb6.mono (by omega)))
  clear hs6 hL6 ho6 hb6 s0 s1 s2 c0 c1 c2 c3 c4 c5'
  go_wp2
  refine bodyPost_ret (v := .tuple #[.slice A6 R1.length c6, .agg #[.int .i64 E6, .int .u64 V6, .slice B6 R3.length d6]]) (by simp [results, Tryz.results47, go_sem, *]) rfl ?_
  refine ra_wrap (R := (R1, ⟨E6, V6, R3⟩)) HS6.out HL6.out HB6.out HO6.out ⟨_, _, HAN6.out⟩ ?_
  (repeat' (first | with_reducible assumption | with_reducible exact Keep.refl _ _ | with_reducible refine Keep.drew ?_ | with_reducible refine Keep.drewN ?_ _ | with_reducible refine Keep.setCell ?_ ?_ _ | with_reducible refine Keep.alloc ?_ ?_ _ | (intro k hk; omega) | (intro k hk; simp at hk ⊢; omega) | omega | (simp; done) | (simp; omega)))
set_option maxRecDepth 100000 in
set_option maxHeartbeats 2000000 in
theorem rapply_K7 (n p q : Int) (c : Cl) (A : Option Addr) (m vc : Nat) (st : List Int) (w : World) (R : List Int × An) (h : SlW w (.slice A m vc) st) (hl : st.length ≤ 1000000)
    (NX : ∀ v W, WOwn W (w.heap.size + 3) v st.length st → w.heap.size + 3 ≤ W.heap.size → Calls Tryz.prog 89 #[.agg #[.int .i64 7, .int .i64 p, .int .i64 q], v, clV c] W (RPost (w.heap.size + 3) R W)) :
    Calls Tryz.prog 47 #[.int .i64 n, spV ⟨7, p, q⟩, .slice A m vc, clV c] w (RPost w.heap.size R w) := by
  have HS := hide h
  clear h
  go_enter Tryz.func47, Tryz.ntmps47
  go_wp2_with (at_builtin; go_loud (refine wpList_dup rfl _ _ rfl rfl (by first | rfl | (simp; done) | simp) rfl (((HS.out.alloc _).alloc _).alloc _) hl ?_; intro v5 w5 hown5 hB5; obtain ⟨A5, c5, rfl⟩ := own_slice hown5; have hbl := appW_blocks w ⟨7, p, q⟩ c; obtain ⟨s0, s1, s2, _, _, _, sz⟩ := cells3 ((hB5.block _ (by omega)).trans hbl.1); obtain ⟨c0, c1, c2, c3, c4, c5', cz⟩ := cells6 ((hB5.block _ (by omega)).trans hbl.2.1); obtain ⟨r0, r1, r2, f0, f1, f2, rz⟩ := cells3 ((hB5.block _ (by omega)).trans hbl.2.2); have HAN : Hid (w5.heap[w.heap.size + 2]? = some (.cells #[.int .i64 0, .int .u64 0, .slice none 0 0] 57 (0, 0))) := hide ((hB5.block _ (by omega)).trans hbl.2.2); have HO5 : Hid (WOwn w5 (w.heap.size + 3) (.slice A5 st.length c5) st.length st) := hide hown5; have HB5 : Hid (Below w.heap.size w w5) := hide ((appW_below w ⟨7, p, q⟩ c).trans (hB5.mono (by omega))); have hz5 : w.heap.size + 3 ≤ w5.heap.size := (by have hq := hB5.size; rw [appW_size w ⟨7, p, q⟩ c] at hq; exact hq); clear hown5 hB5 hbl))
  refine (NX _ _ HO5.out hz5).mono ?_
  rintro e w6 ⟨v6, L6, rfl, hs6, hL6, hb6, ho6⟩
  obtain ⟨R1, E6, V6, R3⟩ := R
  simp only [] at hs6 hL6 ⊢
  obtain ⟨A6, c6, rfl, _⟩ := id hs6
  obtain ⟨B6, d6, rfl, _⟩ := id hL6
  obtain ⟨r0, r1, r2, f0, f1, f2, rz⟩ := cells3 ((hb6.block _ (by omega)).trans HAN.out)
  have HAN6 := hide ((hb6.block _ (by omega)).trans HAN.out)
  have HS6 := hide hs6
  have HL6 := hide hL6
  have HO6 := hide ho6
  have HB6 := hide (HB5.out.trans (hb6.mono (by omega)))
  clear hs6 hL6 ho6 hb6 s0 s1 s2 c0 c1 c2 c3 c4 c5'
  go_wp2
  refine bodyPost_ret (v := .tuple #[.slice A6 R1.length c6, .agg #[.int .i64 E6, .int .u64 V6, .slice B6 R3.length d6]]) (by simp [results, Tryz.results47, go_sem, *]) rfl ?_
  refine ra_wrap (R := (R1, ⟨E6, V6, R3⟩)) HS6.out HL6.out HB6.out HO6.out ⟨_, _, HAN6.out⟩ ?_
  (repeat' (first | with_reducible assumption | with_reducible exact Keep.refl _ _ | with_reducible refine Keep.drew ?_ | with_reducible refine Keep.drewN ?_ _ | with_reducible refine Keep.setCell ?_ ?_ _ | with_reducible refine Keep.alloc ?_ ?_ _ | (intro k hk; omega) | (intro k hk; simp at hk ⊢; omega) | omega | (simp; done) | (simp; omega)))
set_option maxRecDepth 100000 in
set_option maxHeartbeats 2000000 in
theorem rapply_K8 (n p q : Int) (c : Cl) (A : Option Addr) (m vc : Nat) (st : List Int) (w : World) (R : List Int × An) (h : SlW w (.slice A m vc) st) (hl : st.length ≤ 1000000)
    (NX : ∀ v W, WOwn W (w.heap.size + 3) v st.length st → w.heap.size + 3 ≤ W.heap.size → Calls Tryz.prog 90 #[v, clV c] W (RPost (w.heap.size + 3) R W)) :
    Calls Tryz.prog 47 #[.int .i64 n, spV ⟨8, p, q⟩, .slice A m vc, clV c] w (RPost w.heap.size R w) := by
  have HS := hide h
  clear h
  go_enter Tryz.func47, Tryz.ntmps47
  go_wp2_with (at_builtin; go_loud (refine wpList_dup rfl _ _ rfl rfl (by first | rfl | (simp; done) | simp) rfl (((HS.out.alloc _).alloc _).alloc _) hl ?_; intro v5 w5 hown5 hB5; obtain ⟨A5, c5, rfl⟩ := own_slice hown5; have hbl := appW_blocks w ⟨8, p, q⟩ c; obtain ⟨s0, s1, s2, _, _, _, sz⟩ := cells3 ((hB5.block _ (by omega)).trans hbl.1); obtain ⟨c0, c1, c2, c3, c4, c5', cz⟩ := cells6 ((hB5.block _ (by omega)).trans hbl.2.1); obtain ⟨r0, r1, r2, f0, f1, f2, rz⟩ := cells3 ((hB5.block _ (by omega)).trans hbl.2.2); have HAN : Hid (w5.heap[w.heap.size + 2]? = some (.cells #[.int .i64 0, .int .u64 0, .slice none 0 0] 57 (0, 0))) := hide ((hB5.block _ (by omega)).trans hbl.2.2); have HO5 : Hid (WOwn w5 (w.heap.size + 3) (.slice A5 st.length c5) st.length st) := hide hown5; have HB5 : Hid (Below w.heap.size w w5) := hide ((appW_below w ⟨8, p, q⟩ c).trans (hB5.mono (by omega))); have hz5 : w.heap.size + 3 ≤ w5.heap.size := (by have hq := hB5.size; rw [appW_size w ⟨8, p, q⟩ c] at hq; exact hq); clear hown5 hB5 hbl))
  refine (NX _ _ HO5.out hz5).mono ?_
  rintro e w6 ⟨v6, L6, rfl, hs6, hL6, hb6, ho6⟩
  obtain ⟨R1, E6, V6, R3⟩ := R
  simp only [] at hs6 hL6 ⊢
  obtain ⟨A6, c6, rfl, _⟩ := id hs6
  obtain ⟨B6, d6, rfl, _⟩ := id hL6
  obtain ⟨r0, r1, r2, f0, f1, f2, rz⟩ := cells3 ((hb6.block _ (by omega)).trans HAN.out)
  have HAN6 := hide ((hb6.block _ (by omega)).trans HAN.out)
  have HS6 := hide hs6
  have HL6 := hide hL6
  have HO6 := hide ho6
  have HB6 := hide (HB5.out.trans (hb6.mono (by omega)))
  clear hs6 hL6 ho6 hb6 s0 s1 s2 c0 c1 c2 c3 c4 c5'
  go_wp2
  refine bodyPost_ret (v := .tuple #[.slice A6 R1.length c6, .agg #[.int .i64 E6, .int .u64 V6, .slice B6 R3.length d6]]) (by simp [results, Tryz.results47, go_sem, *]) rfl ?_
  refine ra_wrap (R := (R1, ⟨E6, V6, R3⟩)) HS6.out HL6.out HB6.out HO6.out ⟨_, _, HAN6.out⟩ ?_
  (repeat' (first | with_reducible assumption | with_reducible exact Keep.refl _ _ | with_reducible refine Keep.drew ?_ | with_reducible refine Keep.drewN ?_ _ | with_reducible refine Keep.setCell ?_ ?_ _ | with_reducible refine Keep.alloc ?_ ?_ _ | (intro k hk; omega) | (intro k hk; simp at hk ⊢; omega) | omega | (simp; done) | (simp; omega)))
set_option maxRecDepth 100000 in
set_option maxHeartbeats 2000000 in
theorem rapply_K9 (n p q : Int) (c : Cl) (A : Option Addr) (m vc : Nat) (st : List Int) (w : World) (R : List Int × An) (h : SlW w (.slice A m vc) st) (hl : st.length ≤ 1000000)
    (NX : ∀ v W, WOwn W (w.heap.size + 3) v st.length st → w.heap.size + 3 ≤ W.heap.size → Calls Tryz.prog 91 #[.agg #[.int .i64 9, .int .i64 p, .int .i64 q], v, clV c] W (RPost (w.heap.size + 3) R W)) :
    Calls Tryz.prog 47 #[.int .i64 n, spV ⟨9, p, q⟩, .slice A m vc, clV c] w (RPost w.heap.size R w) := by
  have HS := hide h
  clear h
  go_enter Tryz.func47, Tryz.ntmps47
  go_wp2_with (at_builtin; go_loud (refine wpList_dup rfl _ _ rfl rfl (by first | rfl | (simp; done) | simp) rfl (((HS.out.alloc _).alloc _).alloc _) hl ?_; intro v5 w5 hown5 hB5; obtain ⟨A5, c5, rfl⟩ := own_slice hown5; have hbl := appW_blocks w ⟨9, p, q⟩ c; obtain ⟨s0, s1, s2, _, _, _, sz⟩ := cells3 ((hB5.block _ (by omega)).trans hbl.1); obtain ⟨c0, c1, c2, c3, c4, c5', cz⟩ := cells6 ((hB5.block _ (by omega)).trans hbl.2.1); obtain ⟨r0, r1, r2, f0, f1, f2, rz⟩ := cells3 ((hB5.block _ (by omega)).trans hbl.2.2); have HAN : Hid (w5.heap[w.heap.size + 2]? = some (.cells #[.int .i64 0, .int .u64 0, .slice none 0 0] 57 (0, 0))) := hide ((hB5.block _ (by omega)).trans hbl.2.2); have HO5 : Hid (WOwn w5 (w.heap.size + 3) (.slice A5 st.length c5) st.length st) := hide hown5; have HB5 : Hid (Below w.heap.size w w5) := hide ((appW_below w ⟨9, p, q⟩ c).trans (hB5.mono (by omega))); have hz5 : w.heap.size + 3 ≤ w5.heap.size := (by have hq := hB5.size; rw [appW_size w ⟨9, p, q⟩ c] at hq; exact hq); clear hown5 hB5 hbl))
  refine (NX _ _ HO5.out hz5).mono ?_
  rintro e w6 ⟨v6, L6, rfl, hs6, hL6, hb6, ho6⟩
  obtain ⟨R1, E6, V6, R3⟩ := R
  simp only [] at hs6 hL6 ⊢
  obtain ⟨A6, c6, rfl, _⟩ := id hs6
  obtain ⟨B6, d6, rfl, _⟩ := id hL6
  obtain ⟨r0, r1, r2, f0, f1, f2, rz⟩ := cells3 ((hb6.block _ (by omega)).trans HAN.out)
  have HAN6 := hide ((hb6.block _ (by omega)).trans HAN.out)
  have HS6 := hide hs6
  have HL6 := hide hL6
  have HO6 := hide ho6
  have HB6 := hide (HB5.out.trans (hb6.mono (by omega)))
  clear hs6 hL6 ho6 hb6 s0 s1 s2 c0 c1 c2 c3 c4 c5'
  go_wp2
  refine bodyPost_ret (v := .tuple #[.slice A6 R1.length c6, .agg #[.int .i64 E6, .int .u64 V6, .slice B6 R3.length d6]]) (by simp [results, Tryz.results47, go_sem, *]) rfl ?_
  refine ra_wrap (R := (R1, ⟨E6, V6, R3⟩)) HS6.out HL6.out HB6.out HO6.out ⟨_, _, HAN6.out⟩ ?_
  (repeat' (first | with_reducible assumption | with_reducible exact Keep.refl _ _ | with_reducible refine Keep.drew ?_ | with_reducible refine Keep.drewN ?_ _ | with_reducible refine Keep.setCell ?_ ?_ _ | with_reducible refine Keep.alloc ?_ ?_ _ | (intro k hk; omega) | (intro k hk; simp at hk ⊢; omega) | omega | (simp; done) | (simp; omega)))
end Go.Proofs.YtmiimpmfkjcjlaaGreat

namespace Go.Proofs.YtmiimpmfkjcjlaaGreat
open Go.RowKit
attribute [local go_sem] run_store_fn run_store_nilfn
theorem own_builtG {W : World} {x : Value} {e : TypeId} {g : Nat} (hg : g = W.heap.size) : (W.alloc (.cells #[x] e)).ownsRow g e 1 (.slice (some ⟨g, 0, none⟩) 1 1) 1 [x] := by subst hg; exact own_built W x e
theorem sl_lit1 {w : World} {B : Nat} {v : Value} {x : Int} (h : WOwn w B v 1 [x]) : SlW w v [x] := wrow_sl (show WRow w B v [x] from h) (by simp [maxLen])
set_option maxRecDepth 100000 in
set_option maxHeartbeats 2000000 in
theorem rapply_K2 (n p q : Int) (c : Cl) (A : Option Addr) (m vc : Nat) (x : Int) (w : World) (h : SlW w (.slice A m vc) [x]) (_hx : U64 x) :
    Calls Tryz.prog 47 #[.int .i64 n, spV ⟨2, p, q⟩, .slice A m vc, clV c] w (RPost w.heap.size (if ¬ (0 ≤ c.kind ∧ c.kind < 2) then ([x], anE 9) else numM ⟨2, p, q⟩ [x] c) w) := by
  have HS := hide h
  clear h
  rcases (by omega : c.kind = 0 ∨ c.kind = 1 ∨ ¬ (0 ≤ c.kind ∧ c.kind < 2)) with hk | hk | hk
  · have hR : (if ¬ (0 ≤ c.kind ∧ c.kind < 2) then ([x], anE 9) else numM ⟨2, p, q⟩ [x] c) = ([(x + 1) % 18446744073709551616], ⟨0, 0, []⟩) := by
      rw [if_neg (by omega)]; unfold numM; rw [if_neg (by omega), if_pos rfl]; rfl
    have d0 : (c.kind == 0) = true := by simpa using hk
    have wx : IntKind.u64.wrap (x + 1) = (x + 1) % 18446744073709551616 := by rw [IntKind.wrap_u64]
    rw [hR]
    clear hR hk
    go_enter Tryz.func47, Tryz.ntmps47
    go_wp2_with (at_builtin; go_loud (refine wpList_dup rfl _ _ rfl rfl (by first | rfl | (simp; done) | simp) rfl (((HS.out.alloc _).alloc _).alloc _) (by simp) ?_; intro v5 w5 hown5 hB5; obtain ⟨g5, c5, rfl⟩ := own_lit1 (show w5.ownsRow _ _ 1 v5 1 [.int .u64 x] from hown5); have hbl := appW_blocks w ⟨2, p, q⟩ c; obtain ⟨s0, s1, s2, _, _, _, sz⟩ := cells3 ((hB5.block _ (by omega)).trans hbl.1); obtain ⟨c0, c1, c2, c3, c4, c5', cz⟩ := cells6 ((hB5.block _ (by omega)).trans hbl.2.1); obtain ⟨r0, r1, r2, f0, f1, f2, rz⟩ := cells3 ((hB5.block _ (by omega)).trans hbl.2.2); have HAN : Hid (w5.heap[w.heap.size + 2]? = some (.cells #[.int .i64 0, .int .u64 0, .slice none 0 0] 57 (0, 0))) := hide ((hB5.block _ (by omega)).trans hbl.2.2); have k0 := wo_cell hown5 (show [x][0]? = some x from rfl); have hg5 := (hown5.lt g5 rfl); have HO5 : Hid (WOwn w5 (w.heap.size + 3) (.slice (some ⟨g5, 0, none⟩) 1 c5) 1 [x]) := hide hown5; have HB5 : Hid (Below w.heap.size w w5) := hide ((appW_below w ⟨2, p, q⟩ c).trans (hB5.mono (by omega))); have hz5 : w.heap.size + 3 ≤ w5.heap.size := (by have hq := hB5.size; rw [appW_size w ⟨2, p, q⟩ c] at hq; exact hq); clear hown5 hB5 hbl))
    refine bodyPost_ret (v := .tuple #[.slice (some ⟨w5.heap.size, 0, none⟩) 1 1, .agg #[.int .i64 0, .int .u64 0, .slice none 0 0]]) (by simp [results, Tryz.results47, go_sem, *]) rfl ?_
    refine ⟨_, _, rfl, sl_lit1 (own_builtG (by simp)), slw_none _, ?_, tw_own (own_builtG (by simp)), tw_none _ _ _⟩
    have hq := HB5.out
    (repeat' (first | with_reducible (first | assumption | exact Below.refl _ _ | refine Below.drew ?_ | refine below_drewN ?_ _ | refine Below.alloc ?_ ?_ _ | refine Below.setCell ?_ ?_ _) | omega | (simp; done) | (simp; omega)))
  · have hR : (if ¬ (0 ≤ c.kind ∧ c.kind < 2) then ([x], anE 9) else numM ⟨2, p, q⟩ [x] c) = ([x], ⟨0, x, []⟩) := by
      rw [if_neg (by omega)]; unfold numM; rw [if_pos hk]; rfl
    have d0 : (c.kind == 0) = false := by simp; omega
    have d1 : (c.kind == 1) = true := by simpa using hk
    rw [hR]
    clear hR hk
    go_enter Tryz.func47, Tryz.ntmps47
    go_wp2_with (at_builtin; go_loud (refine wpList_dup rfl _ _ rfl rfl (by first | rfl | (simp; done) | simp) rfl (((HS.out.alloc _).alloc _).alloc _) (by simp) ?_; intro v5 w5 hown5 hB5; obtain ⟨g5, c5, rfl⟩ := own_lit1 (show w5.ownsRow _ _ 1 v5 1 [.int .u64 x] from hown5); have hbl := appW_blocks w ⟨2, p, q⟩ c; obtain ⟨s0, s1, s2, _, _, _, sz⟩ := cells3 ((hB5.block _ (by omega)).trans hbl.1); obtain ⟨c0, c1, c2, c3, c4, c5', cz⟩ := cells6 ((hB5.block _ (by omega)).trans hbl.2.1); obtain ⟨r0, r1, r2, f0, f1, f2, rz⟩ := cells3 ((hB5.block _ (by omega)).trans hbl.2.2); have HAN : Hid (w5.heap[w.heap.size + 2]? = some (.cells #[.int .i64 0, .int .u64 0, .slice none 0 0] 57 (0, 0))) := hide ((hB5.block _ (by omega)).trans hbl.2.2); have k0 := wo_cell hown5 (show [x][0]? = some x from rfl); have hg5 := (hown5.lt g5 rfl); have HO5 : Hid (WOwn w5 (w.heap.size + 3) (.slice (some ⟨g5, 0, none⟩) 1 c5) 1 [x]) := hide hown5; have HB5 : Hid (Below w.heap.size w w5) := hide ((appW_below w ⟨2, p, q⟩ c).trans (hB5.mono (by omega))); have hz5 : w.heap.size + 3 ≤ w5.heap.size := (by have hq := hB5.size; rw [appW_size w ⟨2, p, q⟩ c] at hq; exact hq); clear hown5 hB5 hbl))
    refine wp_region_seql (Below w5.heap.size w5) [6] (.take 0 <| .take 1 <| .take 2 <| .take 3 <| .take 4 <| .take 5 <| .run 6 <| .done) (by kernel_rfl) (by kernel_rfl) (by kernel_rfl) (by (repeat' (first | with_reducible (first | assumption | exact Below.refl _ _ | refine Below.drew ?_ | refine below_drewN ?_ _ | refine Below.alloc ?_ ?_ _ | refine Below.setCell ?_ ?_ _) | omega | (simp; done) | (simp; omega)))) ?_
    repeat (refine seql_take (v := ?_) rfl (by rfl) ?_ ?_; rotate_left; (focus (intro wS hS; have yx := (hS.cell (p := ⟨g5, 0, none⟩) hg5.2).trans k0; go_simp; exact rfl)); simp only [Act.put, sqA, sqB, sqC])
    refine seql_late rfl rfl (by rfl) (fun K hK => ?_)
    go_simp
    refine hK _ _ ?_
    clear hK K
    refine seql_nil ?_
    go_wp2
    refine bodyPost_ret (v := .tuple #[.slice (some ⟨g5, 0, none⟩) 1 c5, .agg #[.int .i64 0, .int .u64 x, .slice none 0 0]]) (by simp [results, Tryz.results47, go_sem, *]) rfl ?_
    refine ra_wrap (w6 := w5) (R := ([x], ⟨0, x, []⟩)) (sl_lit1 HO5.out) (slw_none _) HB5.out ⟨tw_own HO5.out, tw_none _ _ _⟩ ⟨_, _, HAN.out⟩ ?_
    (repeat' (first | with_reducible assumption | with_reducible exact Keep.refl _ _ | with_reducible refine Keep.drew ?_ | with_reducible refine Keep.drewN ?_ _ | with_reducible refine Keep.setCell ?_ ?_ _ | with_reducible refine Keep.alloc ?_ ?_ _ | (intro k hk; omega) | (intro k hk; simp at hk ⊢; omega) | omega | (simp; done) | (simp; omega)))
  · have hR : (if ¬ (0 ≤ c.kind ∧ c.kind < 2) then ([x], anE 9) else numM ⟨2, p, q⟩ [x] c) = ([x], ⟨9, 0, []⟩) := by
      rw [if_pos hk]; rfl
    have d0 : (c.kind == 0) = false := by simp; omega
    have d1 : (c.kind == 1) = false := by simp; omega
    rw [hR]
    clear hR hk
    go_enter Tryz.func47, Tryz.ntmps47
    go_wp2_with (at_builtin; go_loud (refine wpList_dup rfl _ _ rfl rfl (by first | rfl | (simp; done) | simp) rfl (((HS.out.alloc _).alloc _).alloc _) (by simp) ?_; intro v5 w5 hown5 hB5; obtain ⟨g5, c5, rfl⟩ := own_lit1 (show w5.ownsRow _ _ 1 v5 1 [.int .u64 x] from hown5); have hbl := appW_blocks w ⟨2, p, q⟩ c; obtain ⟨s0, s1, s2, _, _, _, sz⟩ := cells3 ((hB5.block _ (by omega)).trans hbl.1); obtain ⟨c0, c1, c2, c3, c4, c5', cz⟩ := cells6 ((hB5.block _ (by omega)).trans hbl.2.1); obtain ⟨r0, r1, r2, f0, f1, f2, rz⟩ := cells3 ((hB5.block _ (by omega)).trans hbl.2.2); have HAN : Hid (w5.heap[w.heap.size + 2]? = some (.cells #[.int .i64 0, .int .u64 0, .slice none 0 0] 57 (0, 0))) := hide ((hB5.block _ (by omega)).trans hbl.2.2); have k0 := wo_cell hown5 (show [x][0]? = some x from rfl); have hg5 := (hown5.lt g5 rfl); have HO5 : Hid (WOwn w5 (w.heap.size + 3) (.slice (some ⟨g5, 0, none⟩) 1 c5) 1 [x]) := hide hown5; have HB5 : Hid (Below w.heap.size w w5) := hide ((appW_below w ⟨2, p, q⟩ c).trans (hB5.mono (by omega))); have hz5 : w.heap.size + 3 ≤ w5.heap.size := (by have hq := hB5.size; rw [appW_size w ⟨2, p, q⟩ c] at hq; exact hq); clear hown5 hB5 hbl))
    refine bodyPost_ret (v := .tuple #[.slice (some ⟨g5, 0, none⟩) 1 c5, .agg #[.int .i64 9, .int .u64 0, .slice none 0 0]]) (by simp [results, Tryz.results47, go_sem, *]) rfl ?_
    refine ra_wrap (w6 := w5) (R := ([x], ⟨9, 0, []⟩)) (sl_lit1 HO5.out) (slw_none _) HB5.out ⟨tw_own HO5.out, tw_none _ _ _⟩ ⟨_, _, HAN.out⟩ ?_
    (repeat' (first | with_reducible assumption | with_reducible exact Keep.refl _ _ | with_reducible refine Keep.drew ?_ | with_reducible refine Keep.drewN ?_ _ | with_reducible refine Keep.setCell ?_ ?_ _ | with_reducible refine Keep.alloc ?_ ?_ _ | (intro k hk; omega) | (intro k hk; simp at hk ⊢; omega) | omega | (simp; done) | (simp; omega)))
end Go.Proofs.YtmiimpmfkjcjlaaGreat
