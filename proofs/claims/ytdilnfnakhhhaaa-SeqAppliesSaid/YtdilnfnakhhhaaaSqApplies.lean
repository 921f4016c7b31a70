/- SeqApplies: for every input the law returns true, and the input reads as it did. -/
import Derived.Test.YtdilnfnakhhhaaaRow
import Derived.Test.YtdilnfnakhhhaaaSqk
namespace Go.Proofs.Ytdilnfnakhhhaaa
open Go.ChangeShapes Go.WideShapes Go.ChangeAt Go.RowKit

theorem seqL_right {n : Int} {xs : List Int} {kind a : Int} (hr : rightB17 n xs.length = true) (_hk0 : 0 ≤ kind) (_hk1 : kind < kindsI n) : rightB17 n (seqL n xs kind a).length = true := by
  rcases cases8 n with (rfl | rfl | rfl | rfl | rfl | rfl | rfl | rfl) | hn
  · have hlen : xs.length = 1 := by simpa [rightB17] using hr
    simp [rightB17, seqL]; split <;> simp [hlen]
  · have hlen : xs.length = 1 := by simpa [rightB17] using hr
    simp [rightB17, seqL]; split <;> simp [hlen]
  · have hlen : xs.length ≤ 8 := by simpa [rightB17] using hr
    simp only [rightB17, seqL, rowL]
    simp
    repeat' split
    all_goals first
      | omega
      | (simp; omega)
      | (rw [List.length_eraseIdx]; split <;> omega)
  · have hlen : xs.length ≤ 8 := by simpa [rightB17] using hr
    simp only [rightB17, seqL, rowL]
    simp
    repeat' split
    all_goals first
      | omega
      | (simp; omega)
      | (rw [List.length_eraseIdx]; split <;> omega)
  · simp [rightB17, seqL, setL]
    repeat' split
    all_goals simp
  · have hlen : xs.length = 1 := by simpa [rightB17] using hr
    simp [rightB17, seqL]; split <;> simp [hlen]
  · simp [rightB17, seqL, swapL]
    repeat' split
    all_goals simp
  · have hlen : xs.length = 8 := by simpa [rightB17] using hr
    simp [rightB17, seqL, tabL]
    repeat' split
    all_goals simp [hlen]
  · exfalso
    unfold rightB17 at hr
    rw [if_neg (by omega), if_neg (by omega), decide_eq_false (by omega : ¬ n = 7)] at hr
    simp at hr

abbrev boxW (w : World) (x y : Int) : World := w.alloc (.cells #[.int .i64 x, .int .i64 y] 22)
theorem box_kept {w X : World} {x y : Int} (h : Below (w.heap.size + 1) (boxW w x y) X) : X.cell? ⟨w.heap.size, 0, none⟩ = some (.int .i64 x) ∧ X.cell? ⟨w.heap.size, 1, none⟩ = some (.int .i64 y) ∧ w.heap.size < X.heap.size := by
  have hb : X.heap[w.heap.size]? = some (.cells #[.int .i64 x, .int .i64 y] 22 (0, 0)) := (h.block _ (by omega)).trans (heap_alloc_new _ _)
  exact ⟨cell_of_row X _ 0 _ _ _ hb, cell_of_row X _ 1 _ _ _ hb, (Array.getElem?_eq_some_iff.1 hb).1⟩
theorem box_below {w X : World} {x y : Int} (h : Below (w.heap.size + 1) (boxW w x y) X) : Below w.heap.size w X := ((Below.refl _ w).alloc (Nat.le_refl _) _).trans (h.mono (by omega))

set_option maxRecDepth 100000 in
set_option maxHeartbeats 4000000 in
theorem applies_long (q0 q1 a : Int) (A : Option Addr) (k c : Nat) (w : World) (hk : 1000 < k) :
    Calls Try.prog 8 #[.agg #[.int .i64 q0, .int .i64 q1], .slice A k c, .int .u64 a] w fun e w' => e = .returned (.bool true) ∧ Below w.heap.size w w' := by
  have hk' : (1000 : Int) < (k : Int) := by omega
  go_enter Try.func8, Try.ntmps8
  go_wp2_with fail
  refine (known17 _).mono ?_
  rintro e w1 ⟨rfl, hb1⟩
  have hB := ((Below.refl _ w).alloc (Nat.le_refl _) (.cells #[.int .i64 q0, .int .i64 q1] 22)).trans (hb1.mono (by simp))
  go_wp2
  go_ret
  exact ⟨rfl, hB⟩

set_option maxRecDepth 100000 in
set_option maxHeartbeats 4000000 in
theorem applies_wrong (q0 q1 a : Int) (A : Option Addr) (k c : Nat) (xs : List Int) (w : World) (h : SlW w (.slice A k c) xs) (hk : k ≤ 1000) (hxk : xs.length = k) (hx : ∀ x ∈ xs, U64 x) (ha : U64 a) (hr : rightB17 q0 xs.length = false) :
    Calls Try.prog 8 #[.agg #[.int .i64 q0, .int .i64 q1], .slice A k c, .int .u64 a] w fun e w' => e = .returned (.bool true) ∧ Below w.heap.size w w' := by
  have N0 := fun W h => apply_any q0 q1 a (.slice A k c) xs W h (by omega) hx ha 1 0 xs k (by unfold apE; rw [if_pos hr]) (by unfold apV; rw [if_pos hr]) (by unfold apL; rw [if_pos hr]) hxk
  have N1 := fun W h => refRight17 (.slice A k c) xs q0 W h
  rw [hr] at N1
  have hk' : ¬ (1000 : Int) < (k : Int) := by omega
  clear hr hxk
  go_enter Try.func8, Try.ntmps8
  go_wp2_with fail
  refine (N0 _ (h.alloc _)).mono ?_
  rintro e w1 ⟨A1, c1, rfl, h1, hb1⟩
  have hB1 : Below (w.heap.size + 1) (boxW w q0 q1) w1 := hb1.mono (by simp)
  obtain ⟨b0, b1, bz⟩ := box_kept hB1
  have hz1 : w.heap.size + 1 ≤ w1.heap.size := bz
  go_wp2_with fail
  refine (N1 _ ((h.alloc _).below (hB1.alloc hz1 _) (by simp))).mono ?_
  rintro e w2 ⟨rfl, hb2⟩
  have hB2 : Below (w.heap.size + 1) (boxW w q0 q1) w2 := (hB1.alloc hz1 _).trans (hb2.mono (by simp; omega))
  have hT2 := (hb2.block w1.heap.size (by simp)).trans (heap_alloc_new _ _)
  have h2 := (h1.alloc _).below hb2 (Nat.le_refl _)
  have hv2 := (h.alloc _).below hB2 (by simp)
  clear hB1 hb1 h1 hb2 b0 b1 bz
  obtain ⟨b0, b1, bz⟩ := box_kept hB2
  obtain ⟨t0, t1, t2, _, _, _, tz⟩ := cells3 hT2
  go_wp2_with fail
  refine (same_any _ _ _ _ _ h2 hv2).mono ?_
  rintro e w3 ⟨rfl, nd, rfl⟩
  rw [decide_eq_true (rfl : xs = xs)]
  have hB3 := below_drewN hB2 nd
  go_wp2_with fail
  refine (known17 _).mono ?_
  rintro e w4 ⟨rfl, hb4⟩
  have hB4 := (box_below hB3).trans (hb4.mono (by have := (box_below hB3).size; simpa using this))
  go_wp2
  go_ret
  exact ⟨rfl, hB4⟩

set_option maxRecDepth 100000 in
set_option maxHeartbeats 4000000 in
theorem applies_kind (q0 q1 a : Int) (A : Option Addr) (k c : Nat) (xs : List Int) (w : World) (h : SlW w (.slice A k c) xs) (hk : k ≤ 1000) (hxk : xs.length = k) (hx : ∀ x ∈ xs, U64 x) (ha : U64 a) (hr : rightB17 q0 xs.length = true)
    (hkk : ¬ (0 ≤ q1 ∧ q1 < kindsI q0)) :
    Calls Try.prog 8 #[.agg #[.int .i64 q0, .int .i64 q1], .slice A k c, .int .u64 a] w fun e w' => e = .returned (.bool true) ∧ Below w.heap.size w w' := by
  have hr' : ¬ rightB17 q0 xs.length = false := by rw [hr]; decide
  have N0 := fun W h => apply_any q0 q1 a (.slice A k c) xs W h (by omega) hx ha 9 0 xs k (by unfold apE; rw [if_neg hr', if_neg hkk]) (by unfold apV; rw [if_neg hr', if_neg hkk]) (by unfold apL; rw [if_neg hr', if_neg hkk]) hxk
  have N1 := fun W h => refRight17 (.slice A k c) xs q0 W h
  have N2 := fun W => refKinds_any q0 W
  obtain ⟨K, hK⟩ : ∃ K, kindsI q0 = K := ⟨_, rfl⟩
  rw [hr] at N1
  rw [hK] at N2 hkk
  have hk' : ¬ (1000 : Int) < (k : Int) := by omega
  clear hr hr' hxk hK
  rcases (by omega : q1 < 0 ∨ 0 ≤ q1 ∧ K ≤ q1) with hk0 | ⟨hk0, hk1⟩
  · have d0 : decide (q1 < 0) = true := by simp; omega
    clear hkk
    go_enter Try.func8, Try.ntmps8
    go_wp2_with fail
    refine (N0 _ (h.alloc _)).mono ?_
    rintro e w1 ⟨A1, c1, rfl, h1, hb1⟩
    have hB1 : Below (w.heap.size + 1) (boxW w q0 q1) w1 := hb1.mono (by simp)
    obtain ⟨b0, b1, bz⟩ := box_kept hB1
    have hz1 : w.heap.size + 1 ≤ w1.heap.size := bz
    go_wp2_with fail
    refine (N1 _ ((h.alloc _).below (hB1.alloc hz1 _) (by simp))).mono ?_
    rintro e w2 ⟨rfl, hb2⟩
    have hB2 : Below (w.heap.size + 1) (boxW w q0 q1) w2 := (hB1.alloc hz1 _).trans (hb2.mono (by simp; omega))
    have hT2 := (hb2.block w1.heap.size (by simp)).trans (heap_alloc_new _ _)
    have h2 := (h1.alloc _).below hb2 (Nat.le_refl _)
    have hv2 := (h.alloc _).below hB2 (by simp)
    clear hB1 hb1 h1 hb2 b0 b1 bz
    obtain ⟨b0, b1, bz⟩ := box_kept hB2
    obtain ⟨t0, t1, t2, _, _, _, tz⟩ := cells3 hT2
    go_wp2
    refine wp_region_seq (fun w' => w'.cell? ⟨w.heap.size, 0, none⟩ = some (.int .i64 q0) ∧ w'.cell? ⟨w.heap.size, 1, none⟩ = some (.int .i64 q1)) (.take 0 <| .take 1 <| .take 2 <| .take 3 <| .take 4 <| .take 5 <| .take 6 <| .take 7 <| .run 8 <| .take 9 <| .take 10 <| .done) (by kernel_rfl) (by kernel_rfl) (by kernel_rfl) ⟨b0, b1⟩ ?_
    repeat (first | (refine seq_take (v := ?_) rfl (by rfl) ?_ ?_; rotate_left; (focus (intro wS hS; obtain ⟨s0, s1⟩ := hS; go_simp; exact rfl)); simp only [Act.put, List.setIfInBounds_toArray, List.set_cons_zero, List.set_cons_succ]) | (refine seq_skip rfl (by rfl) ?_; simp only [Act.put, List.setIfInBounds_toArray, List.set_cons_zero, List.set_cons_succ]) | (refine seq_pass rfl (by rfl) ⟨b0, b1⟩ ?_; simp only [Act.put, List.setIfInBounds_toArray, List.set_cons_zero, List.set_cons_succ]))
    refine seq_nil ?_
    have h3 := (show SlW w2.drew _ _ from h2)
    have hv3 := (show SlW w2.drew _ _ from hv2)
    have hB3 := below_drewN hB2 1
    go_wp2_with fail
    refine (same_any _ _ _ _ _ h3 hv3).mono ?_
    rintro e w4 ⟨rfl, nd, rfl⟩
    rw [decide_eq_true (rfl : xs = xs)]
    have hB4 := below_drewN hB3 nd
    go_wp2_with fail
    refine (known17 _).mono ?_
    rintro e w5 ⟨rfl, hb5⟩
    have hB5 : Below w.heap.size w w5 := Below.trans (by first | exact box_below hB4 | (rw [← World.drewN_drewN]; exact box_below hB4)) (hb5.mono (by have := (box_below hB4).size; simpa using this))
    go_wp2
    go_ret
    exact ⟨rfl, hB5⟩
  · have d0 : decide (q1 < 0) = false := by simp; omega
    have d1 : decide (K ≤ q1) = true := by simp; omega
    clear hkk
    go_enter Try.func8, Try.ntmps8
    go_wp2_with fail
    refine (N0 _ (h.alloc _)).mono ?_
    rintro e w1 ⟨A1, c1, rfl, h1, hb1⟩
    have hB1 : Below (w.heap.size + 1) (boxW w q0 q1) w1 := hb1.mono (by simp)
    obtain ⟨b0, b1, bz⟩ := box_kept hB1
    have hz1 : w.heap.size + 1 ≤ w1.heap.size := bz
    go_wp2_with fail
    refine (N1 _ ((h.alloc _).below (hB1.alloc hz1 _) (by simp))).mono ?_
    rintro e w2 ⟨rfl, hb2⟩
    have hB2 : Below (w.heap.size + 1) (boxW w q0 q1) w2 := (hB1.alloc hz1 _).trans (hb2.mono (by simp; omega))
    have hT2 := (hb2.block w1.heap.size (by simp)).trans (heap_alloc_new _ _)
    have h2 := (h1.alloc _).below hb2 (Nat.le_refl _)
    have hv2 := (h.alloc _).below hB2 (by simp)
    clear hB1 hb1 h1 hb2 b0 b1 bz
    obtain ⟨b0, b1, bz⟩ := box_kept hB2
    obtain ⟨t0, t1, t2, _, _, _, tz⟩ := cells3 hT2
    go_wp2
    refine wp_region_seq (fun w' => w'.cell? ⟨w.heap.size, 0, none⟩ = some (.int .i64 q0) ∧ w'.cell? ⟨w.heap.size, 1, none⟩ = some (.int .i64 q1)) (.take 0 <| .take 1 <| .take 2 <| .take 3 <| .take 4 <| .take 5 <| .take 6 <| .take 7 <| .run 8 <| .take 9 <| .take 10 <| .done) (by kernel_rfl) (by kernel_rfl) (by kernel_rfl) ⟨b0, b1⟩ ?_
    repeat (first | (refine seq_take (v := ?_) rfl (by rfl) ?_ ?_; rotate_left; (focus (intro wS hS; obtain ⟨s0, s1⟩ := hS; go_simp; exact rfl)); simp only [Act.put, List.setIfInBounds_toArray, List.set_cons_zero, List.set_cons_succ]) | (refine seq_skip rfl (by rfl) ?_; simp only [Act.put, List.setIfInBounds_toArray, List.set_cons_zero, List.set_cons_succ]))
    (refine seq_run rfl (by rfl) (fun K hK => ?_); go_simp)
    refine (N2 _).mono ?_
    rintro e w3 ⟨rfl, hb3⟩
    have hB3 : Below (w.heap.size + 1) (boxW w q0 q1) w3 := (Below.drew hB2).trans (hb3.mono (by have := hB2.size; simp at this; simp; omega))
    have h3 := (show SlW w2.drew _ _ from h2).below hb3 (Nat.le_refl _)
    have hv3 := (show SlW w2.drew _ _ from hv2).below hb3 (Nat.le_refl _)
    have hT3 := (hb3.block w1.heap.size (by simp; omega)).trans hT2
    obtain ⟨u0, u1, u2, _, _, _, uz⟩ := cells3 hT3
    obtain ⟨c0, c1', cz⟩ := box_kept hB3
    refine hK _ _ ⟨c0, c1'⟩ ?_
    clear hK K hb3 h2 hv2
    repeat (first | (refine seq_take (v := ?_) rfl (by rfl) ?_ ?_; rotate_left; (focus (intro wS hS; obtain ⟨s0, s1⟩ := hS; go_simp; exact rfl)); simp only [Act.put, List.setIfInBounds_toArray, List.set_cons_zero, List.set_cons_succ]) | (refine seq_skip rfl (by rfl) ?_; simp only [Act.put, List.setIfInBounds_toArray, List.set_cons_zero, List.set_cons_succ]))
    refine seq_nil ?_
    go_wp2_with fail
    refine (same_any _ _ _ _ _ h3 hv3).mono ?_
    rintro e w4 ⟨rfl, nd, rfl⟩
    rw [decide_eq_true (rfl : xs = xs)]
    have hB4 := below_drewN hB3 nd
    go_wp2_with fail
    refine (known17 _).mono ?_
    rintro e w5 ⟨rfl, hb5⟩
    have hB5 : Below w.heap.size w w5 := Below.trans (by first | exact box_below hB4 | (rw [← World.drewN_drewN]; exact box_below hB4)) (hb5.mono (by have := (box_below hB4).size; simpa using this))
    go_wp2
    go_ret
    exact ⟨rfl, hB5⟩

set_option maxRecDepth 100000 in
set_option maxHeartbeats 4000000 in
theorem applies_go (q0 q1 a : Int) (A : Option Addr) (k c : Nat) (xs : List Int) (w : World) (h : SlW w (.slice A k c) xs) (hk : k ≤ 1000) (hxk : xs.length = k) (hx : ∀ x ∈ xs, U64 x) (ha : U64 a) (hr : rightB17 q0 xs.length = true)
    (hkk : 0 ≤ q1 ∧ q1 < kindsI q0) :
    Calls Try.prog 8 #[.agg #[.int .i64 q0, .int .i64 q1], .slice A k c, .int .u64 a] w fun e w' => e = .returned (.bool true) ∧ Below w.heap.size w w' := by
  have hr' : ¬ rightB17 q0 xs.length = false := by rw [hr]; decide
  have hlr := seqL_right (a := a) hr hkk.1 hkk.2
  have N3 := fun W h => refApply17 q0 q1 a (.slice A k c) xs W h hr hx ha hkk.1 hkk.2
  unfold RefPost at N3
  obtain ⟨E, hE⟩ : ∃ E, seqE q0 xs q1 a = E := ⟨_, rfl⟩
  obtain ⟨V, hV⟩ : ∃ V, seqV q0 xs q1 a = V := ⟨_, rfl⟩
  obtain ⟨L, hL⟩ : ∃ L, seqL q0 xs q1 a = L := ⟨_, rfl⟩
  obtain ⟨m, hm⟩ : ∃ m, L.length = m := ⟨_, rfl⟩
  rw [hL, hm] at hlr
  rw [hE, hV, hL] at N3
  have N0 := fun W h => apply_any q0 q1 a (.slice A k c) xs W h (by omega) hx ha E V L m (by unfold apE; rw [if_neg hr', if_pos hkk]; exact hE) (by unfold apV; rw [if_neg hr', if_pos hkk]; exact hV) (by unfold apL; rw [if_neg hr', if_pos hkk]; exact hL) hm
  have N1 := fun W h => refRight17 (.slice A k c) xs q0 W h
  have N2 := fun W => refKinds_any q0 W
  have N4 := fun v W h => right_any v L q0 W h
  rw [hm, hlr] at N4
  obtain ⟨K, hK⟩ : ∃ K, kindsI q0 = K := ⟨_, rfl⟩
  rw [hr] at N1
  rw [hK] at N2 hkk
  have hk' : ¬ (1000 : Int) < (k : Int) := by omega
  have HM := hide hm
  clear hr hr' hxk hK hE hV hL hlr hm
  obtain ⟨hk0, hk1⟩ := hkk
  have d0 : decide (q1 < 0) = false := by simp; omega
  have d1 : decide (K ≤ q1) = false := by simp; omega
  have HN := hide N3
  clear N3
  go_enter Try.func8, Try.ntmps8
  go_wp2_with fail
  refine (N0 _ (h.alloc _)).mono ?_
  rintro e w1 ⟨A1, c1, rfl, h1, hb1⟩
  have hB1 : Below (w.heap.size + 1) (boxW w q0 q1) w1 := hb1.mono (by simp)
  obtain ⟨b0, b1, bz⟩ := box_kept hB1
  have hz1 : w.heap.size + 1 ≤ w1.heap.size := bz
  go_wp2_with fail
  refine (N1 _ ((h.alloc _).below (hB1.alloc hz1 _) (by simp))).mono ?_
  rintro e w2 ⟨rfl, hb2⟩
  have hB2 : Below (w.heap.size + 1) (boxW w q0 q1) w2 := (hB1.alloc hz1 _).trans (hb2.mono (by simp; omega))
  have hT2 := (hb2.block w1.heap.size (by simp)).trans (heap_alloc_new _ _)
  have h2 := (h1.alloc _).below hb2 (Nat.le_refl _)
  have hv2 := (h.alloc _).below hB2 (by simp)
  clear hB1 hb1 h1 hb2 b0 b1 bz
  obtain ⟨b0, b1, bz⟩ := box_kept hB2
  obtain ⟨t0, t1, t2, _, _, _, tz⟩ := cells3 hT2
  go_wp2
  refine wp_region_seq (fun w' => w'.cell? ⟨w.heap.size, 0, none⟩ = some (.int .i64 q0) ∧ w'.cell? ⟨w.heap.size, 1, none⟩ = some (.int .i64 q1)) (.take 0 <| .take 1 <| .take 2 <| .take 3 <| .take 4 <| .take 5 <| .take 6 <| .take 7 <| .run 8 <| .take 9 <| .take 10 <| .done) (by kernel_rfl) (by kernel_rfl) (by kernel_rfl) ⟨b0, b1⟩ ?_
  repeat (first | (refine seq_take (v := ?_) rfl (by rfl) ?_ ?_; rotate_left; (focus (intro wS hS; obtain ⟨s0, s1⟩ := hS; go_simp; exact rfl)); simp only [Act.put, List.setIfInBounds_toArray, List.set_cons_zero, List.set_cons_succ]) | (refine seq_skip rfl (by rfl) ?_; simp only [Act.put, List.setIfInBounds_toArray, List.set_cons_zero, List.set_cons_succ]))
  (refine seq_run rfl (by rfl) (fun K hK => ?_); go_simp)
  refine (N2 _).mono ?_
  rintro e w3 ⟨rfl, hb3⟩
  have hB3 : Below (w.heap.size + 1) (boxW w q0 q1) w3 := (Below.drew hB2).trans (hb3.mono (by have := hB2.size; simp at this; simp; omega))
  have h3 := (show SlW w2.drew _ _ from h2).below hb3 (Nat.le_refl _)
  have hv3 := (show SlW w2.drew _ _ from hv2).below hb3 (Nat.le_refl _)
  have hT3 := (hb3.block w1.heap.size (by simp; omega)).trans hT2
  have hz3 : w1.heap.size + 1 ≤ w3.heap.size := by have := hb3.size; simp at this; omega
  obtain ⟨c0, c1', cz⟩ := box_kept hB3
  refine hK _ _ ⟨c0, c1'⟩ ?_
  clear hK K hb3 h2 hv2 t0 t1 t2 b0 b1
  repeat (first | (refine seq_take (v := ?_) rfl (by rfl) ?_ ?_; rotate_left; (focus (intro wS hS; obtain ⟨s0, s1⟩ := hS; go_simp; exact rfl)); simp only [Act.put, List.setIfInBounds_toArray, List.set_cons_zero, List.set_cons_succ]) | (refine seq_skip rfl (by rfl) ?_; simp only [Act.put, List.setIfInBounds_toArray, List.set_cons_zero, List.set_cons_succ]))
  refine seq_nil ?_
  go_wp2_with fail
  refine (HN.out _ hv3).mono ?_
  rintro e w4 ⟨u, rfl, h4, hb4⟩
  have hB4 : Below (w.heap.size + 1) (boxW w q0 q1) w4 := hB3.trans (hb4.mono (by omega))
  have hT4 := (hb4.block w1.heap.size (by omega)).trans hT3
  have hs4 := h3.below hb4 (Nat.le_refl _)
  have hz4 : w1.heap.size + 1 ≤ w4.heap.size := by have := hb4.size; omega
  clear c0 c1' cz
  obtain ⟨c0, c1', cz⟩ := box_kept hB4
  obtain ⟨u0, u1, u2, _, _, _, uz⟩ := cells3 hT4
  have h4' := h4
  obtain ⟨A4, c4, rfl, _, _, _⟩ := h4'
  clear hb4 hT3 hT2 hB3 hB2 hv3 h3 HN
  go_wp2_with fail
  refine (same_any _ _ _ _ _ (hs4.alloc _) (h4.alloc _)).mono ?_
  rintro e w5 ⟨rfl, nd, rfl⟩
  rw [decide_eq_true (rfl : L = L)]
  go_wp2_with fail
  refine (N4 _ _ (show SlW _ _ _ from (hs4.alloc _).drewN nd)).mono ?_
  rintro e w6 ⟨rfl, hb6⟩
  have hB6 := (below_drewN ((box_below hB4).alloc (by omega) _) nd).trans (hb6.mono (by simp; omega))
  clear hb6
  go_wp2_with fail
  refine (known17 _).mono ?_
  rintro e w7 ⟨rfl, hb7⟩
  have hB7 := hB6.trans (hb7.mono hB6.size)
  go_wp2
  go_ret
  exact ⟨rfl, hB7⟩

theorem law_applies (q0 q1 a : Int) (v : Value) (xs : List Int) (w : World) (h : SlW w v xs) (hx : ∀ x ∈ xs, U64 x) (ha : U64 a) :
    Calls Try.prog 8 #[.agg #[.int .i64 q0, .int .i64 q1], v, .int .u64 a] w fun e w' => e = .returned (.bool true) ∧ Below w.heap.size w w' := by
  have h' := h
  obtain ⟨A, c, rfl, _, _, _⟩ := h'
  by_cases hk : 1000 < xs.length
  · exact applies_long q0 q1 a A _ c w hk
  · by_cases hr : rightB17 q0 xs.length = false
    · exact applies_wrong q0 q1 a A _ c xs w h (by omega) rfl hx ha hr
    · have hr' : rightB17 q0 xs.length = true := by simpa using hr
      by_cases hkk : 0 ≤ q1 ∧ q1 < kindsI q0
      · exact applies_go q0 q1 a A _ c xs w h (by omega) rfl hx ha hr' hkk
      · exact applies_kind q0 q1 a A _ c xs w h (by omega) rfl hx ha hr' hkk

set_option maxRecDepth 100000 in
theorem seqApplies_lifted (os : Os) (started : os.Started) (H : Type) (enc : TypeId × Value → H) :
    ReturnsInHanded {} Try.checked os 8 .any (Rows.seqAppliesSpec.pre6 enc Try.prog Try.f8 Rows.seqAppliesRow.domain false) (Rows.seqAppliesSpec.post enc Try.prog Try.f8 false true false false) := by
  refine returnsInHanded_of_change (C := Try.checked) Try.own started (by kernel_rfl) Try.func8
    (ChangeSpec.witness6 (enc := enc) (C := Try.checked) false ⟨#[], #[.agg #[.int .i64 0, .int .i64 0], .slice none 0 0, .int .u64 0], []⟩ 8 (by kernel_rfl) (by kernel_rfl) (by kernel_rfl) (by kernel_rfl)) ?_
  intro W base args ds gs before hval0 hW hcnd _
  have hval : ∀ (j : Nat) t v, Try.f8.params[j]? = some t → args[j]? = some v → Value.okWide Try.prog W .any base t v := hval0
  have hW' := hW
  obtain ⟨p, q, hA0, hV, rfl, hfz, hnd⟩ := hW
  have hA : DataW.TrodAll enc Try.prog W 0 (fun _ => true) true Try.f8.params.toList args.toList ds p := hA0
  have hA1 := hA
  rw [Try.params8] at hA hval
  obtain ⟨v0, v1, v2, d0, d1, d2, p0, p1, p2, rfl, rfl, rfl, h0, h1, h2⟩ := trodAll_three hA
  obtain ⟨rfl, rfl⟩ := trodVars_none hV
  obtain ⟨q0, q1, rfl, _, _⟩ := read_arr2 (hval 0 _ v0 rfl rfl) h0
  obtain ⟨xs, hxs, hwf, _⟩ := read_words (hval 1 _ v1 rfl rfl) h1
  obtain ⟨a, rfl, ha⟩ := read_word (hval 2 _ v2 rfl rfl) h2
  simp only [List.append_nil] at hW'
  refine (law_applies q0 q1 a v1 xs W hxs (fun x hx => u64_of (hwf x hx)) (u64_of ha)).mono fun e W' ⟨he, hb⟩ => ?_
  subst he
  exact ⟨_, rfl, law_post rfl rfl hW' hA1 rfl rfl rfl (by rw [Try.params8]; intro t ht; simp only [List.mem_cons, List.not_mem_nil, or_false] at ht; rcases ht with rfl | rfl | rfl <;> exact ⟨by kernel_rfl, of_decide_eq_true (by kernel_rfl)⟩) hb⟩

theorem seqApplies_holds : Rows.SeqAppliesSaid :=
  OpenClaim.holds_of_wide 8 Try.f8 rfl rfl rfl rfl rfl rfl rfl ⟨rfl, rfl, rfl, rfl, rfl⟩ rfl rfl rfl rfl rfl (by kernel_rfl) Try.func8 (by kernel_rfl)
    (of_decide_eq_true (by kernel_rfl)) (by unfold Func.isWrapper; first | (rw [if_pos (by decide +kernel)]; kernel_rfl) | (rw [if_neg (by decide +kernel)]; exact ⟨rfl, rfl⟩))
    (fun os started H enc _ => seqApplies_lifted os started H enc)
#print axioms seqApplies_holds
end Go.Proofs.Ytdilnfnakhhhaaa
