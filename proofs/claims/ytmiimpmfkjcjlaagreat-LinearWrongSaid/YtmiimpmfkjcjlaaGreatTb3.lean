import Derived.Test.YtmiimpmfkjcjlaaGreatTb2
import Derived.Test.YtmiimpmfkjcjlaaGreatBun5
namespace Go.Proofs.YtmiimpmfkjcjlaaGreat
open Go.RowKit
attribute [local go_sem] run_store_fn run_store_nilfn
theorem threads_any (n : Int) (w : World) : Calls Tryz.prog 70 #[.int .i64 n] w fun e w' => e = .returned (.bool (decide (1 ≤ n) && decide (n ≤ 16))) ∧ w' = w := by
  go_enter Tryz.func70, Tryz.ntmps70
  go_wp2
  all_goals (go_ret; exact ⟨ret_bool (by first | rfl | (simp; done) | (rw [Bool.eq_iff_iff]; simp; done) | (rw [Bool.eq_iff_iff]; simp; omega)), rfl⟩)
set_option maxRecDepth 100000 in
set_option maxHeartbeats 1000000 in
theorem tsize_1 (n : Int) (s : Sp) (hn : ¬ (1 ≤ n ∧ n ≤ 16)) (w : World) : Calls Tryz.prog 36 #[.int .i64 n, spV s] w fun e w' => e = .returned (.tuple #[.int .i64 (sizeV n s), .int .i64 (sizeE n s)]) ∧ Below w.heap.size w w' := by
  have hE : sizeE n s = 1 := by unfold sizeE; rw [if_pos hn]
  have hV : sizeV n s = 0 := by unfold sizeV; rw [hE]; rfl
  rw [hE, hV]
  have hd : (decide (1 ≤ n) && decide (n ≤ 16)) = false := by rw [Bool.eq_false_iff]; simp; omega
  have N0 := fun W => threads_any n W
  rw [hd] at N0
  clear hE hV hn hd
  go_enter Tryz.func36, Tryz.ntmps36
  go_wp2_with fail
  refine (N0 _).mono ?_
  rintro e w1 ⟨rfl, rfl⟩
  go_wp2
  go_ret2
  exact ⟨rfl, by (repeat' (first | exact Below.refl _ _ | assumption | refine Below.drew ?_ | refine below_drewN ?_ _ | refine Below.alloc ?_ (by simp <;> omega) _ | refine Below.setCell ?_ (by simp <;> omega) _))⟩
set_option maxRecDepth 100000 in
set_option maxHeartbeats 1000000 in
theorem tsize_9 (n : Int) (s : Sp) (hn : 1 ≤ n ∧ n ≤ 16) (hk : ¬ (0 ≤ s.kind ∧ s.kind ≤ 9)) (w : World) : Calls Tryz.prog 36 #[.int .i64 n, spV s] w fun e w' => e = .returned (.tuple #[.int .i64 (sizeV n s), .int .i64 (sizeE n s)]) ∧ Below w.heap.size w w' := by
  have hE : sizeE n s = 9 := by unfold sizeE; rw [if_neg (by omega), if_pos hk]
  have hV : sizeV n s = 0 := by unfold sizeV; rw [hE]; rfl
  rw [hE, hV]
  have hd : (decide (1 ≤ n) && decide (n ≤ 16)) = true := by simp; omega
  have N0 := fun W => threads_any n W
  rw [hd] at N0
  have N1 := fun W => tof_any s.kind W
  unfold OfPost at N1
  rw [decide_eq_false hk] at N1
  clear hE hV hn hd hk
  go_enter Tryz.func36, Tryz.ntmps36
  go_wp2_with fail
  refine (N0 _).mono ?_
  rintro e w1 ⟨rfl, rfl⟩
  go_wp2_with fail
  refine (N1 _).mono ?_
  rintro e w2 ⟨f1, f2, f3, f4, rfl, o1, o2, o3, o4, hsem, hb1⟩
  (have hst1 : ∀ (w : World) (a : Addr) (m : Mode), (store a f1 m).run Tryz.prog w = stored Tryz.prog w a f1 m := fun w a m => run_store _ w a f1 m o1; have hst2 : ∀ (w : World) (a : Addr) (m : Mode), (store a f2 m).run Tryz.prog w = stored Tryz.prog w a f2 m := fun w a m => run_store _ w a f2 m o2; have hst3 : ∀ (w : World) (a : Addr) (m : Mode), (store a f3 m).run Tryz.prog w = stored Tryz.prog w a f3 m := fun w a m => run_store _ w a f3 m o3; have hst4 : ∀ (w : World) (a : Addr) (m : Mode), (store a f4 m).run Tryz.prog w = stored Tryz.prog w a f4 m := fun w a m => run_store _ w a f4 m o4)
  have hB := ((Below.refl _ w).alloc (Nat.le_refl _) (.cells #[.int .i64 s.kind, .int .i64 s.p, .int .i64 s.q] 23)).trans (hb1.mono (by simp))
  clear hsem hb1
  go_wp2
  go_ret2
  exact ⟨rfl, hB.alloc hB.size _⟩
set_option maxRecDepth 100000 in
set_option maxHeartbeats 1000000 in
theorem tsize_10 (n : Int) (s : Sp) (hn : 1 ≤ n ∧ n ≤ 16) (hk : 0 ≤ s.kind ∧ s.kind ≤ 9) (hr : rightT s.kind s.p s.q = false) (w : World) : Calls Tryz.prog 36 #[.int .i64 n, spV s] w fun e w' => e = .returned (.tuple #[.int .i64 (sizeV n s), .int .i64 (sizeE n s)]) ∧ Below w.heap.size w w' := by
  have hE : sizeE n s = 10 := by unfold sizeE; rw [if_neg (by omega), if_neg (by omega), if_pos hr]
  have hV : sizeV n s = 0 := by unfold sizeV; rw [hE]; rfl
  rw [hE, hV]
  have hd : (decide (1 ≤ n) && decide (n ≤ 16)) = true := by simp; omega
  have N0 := fun W => threads_any n W
  rw [hd] at N0
  have N1 := fun W => tof_any s.kind W
  unfold OfPost at N1
  rw [decide_eq_true hk] at N1
  have HR := hide hr
  clear hE hV hd hr
  go_enter Tryz.func36, Tryz.ntmps36
  go_wp2_with fail
  refine (N0 _).mono ?_
  rintro e w1 ⟨rfl, rfl⟩
  go_wp2_with fail
  refine (N1 _).mono ?_
  rintro e w2 ⟨f1, f2, f3, f4, rfl, o1, o2, o3, o4, hsem, hb1⟩
  have hB2 : Below (w.heap.size + 1) (w.alloc (.cells #[.int .i64 s.kind, .int .i64 s.p, .int .i64 s.q] 23)) w2 := hb1.mono (by simp)
  have hbox : w2.heap[w.heap.size]? = some (.cells #[.int .i64 s.kind, .int .i64 s.p, .int .i64 s.q] 23 (0, 0)) := (hB2.block _ (by omega)).trans (heap_alloc_new _ _)
  obtain ⟨x0, x1, x2, _, _, _, xz⟩ := cells3 hbox
  have hsem1 := hsem (by omega)
  clear hsem hb1
  (have hst1 : ∀ (w : World) (a : Addr) (m : Mode), (store a f1 m).run Tryz.prog w = stored Tryz.prog w a f1 m := fun w a m => run_store _ w a f1 m o1; have hst2 : ∀ (w : World) (a : Addr) (m : Mode), (store a f2 m).run Tryz.prog w = stored Tryz.prog w a f2 m := fun w a m => run_store _ w a f2 m o2; have hst3 : ∀ (w : World) (a : Addr) (m : Mode), (store a f3 m).run Tryz.prog w = stored Tryz.prog w a f3 m := fun w a m => run_store _ w a f3 m o3; have hst4 : ∀ (w : World) (a : Addr) (m : Mode), (store a f4 m).run Tryz.prog w = stored Tryz.prog w a f4 m := fun w a m => run_store _ w a f4 m o4)
  have hA := hsem1.right s rfl
  rw [HR.out] at hA
  clear hsem1
  rcases hA with ⟨g, B, c, rfl, hent, _, hBl, hBc, hcall⟩ | ⟨g, rfl, hent, hcall⟩
  · have HC := hide hcall
    have hc' := Lib.cell?_alloc_some (o := .cells #[f1, .func (.func g) #[] #[.pointer (some ⟨B, 0, none⟩)], f3, f4] 131) hBc
    clear hcall
    go_wp2_with fail
    refine (HC.out _ hc' (by simp; omega)).mono ?_
    rintro e w3 ⟨rfl, hb3⟩
    have hB3 : Below w.heap.size w w3 := (((Below.refl _ w).alloc (Nat.le_refl _) _).trans (hB2.mono (by omega))).alloc (by omega) _ |>.trans (hb3.mono (by simp; omega))
    go_wp2
    go_ret2
    exact ⟨rfl, hB3⟩
  · have HC := hide hcall
    clear hcall
    go_wp2_with fail
    refine (HC.out _).mono ?_
    rintro e w3 ⟨rfl, hb3⟩
    have hB3 : Below w.heap.size w w3 := (((Below.refl _ w).alloc (Nat.le_refl _) _).trans (hB2.mono (by omega))).alloc (by omega) _ |>.trans (hb3.mono (by simp; omega))
    go_wp2
    go_ret2
    exact ⟨rfl, hB3⟩
set_option maxRecDepth 100000 in
set_option maxHeartbeats 1000000 in
theorem tsize_0 (n : Int) (s : Sp) (hn : 1 ≤ n ∧ n ≤ 16) (hk : 0 ≤ s.kind ∧ s.kind ≤ 9) (hr : rightT s.kind s.p s.q = true) (w : World) : Calls Tryz.prog 36 #[.int .i64 n, spV s] w fun e w' => e = .returned (.tuple #[.int .i64 (sizeV n s), .int .i64 (sizeE n s)]) ∧ Below w.heap.size w w' := by
  have hE : sizeE n s = 0 := by unfold sizeE; rw [if_neg (by omega), if_neg (by omega), if_neg (by rw [hr]; decide)]
  have hV : sizeV n s = sizeT n s.kind s.p s.q := by unfold sizeV; rw [hE]; rfl
  rw [hE, hV]
  have hd : (decide (1 ≤ n) && decide (n ≤ 16)) = true := by simp; omega
  have N0 := fun W => threads_any n W
  rw [hd] at N0
  have N1 := fun W => tof_any s.kind W
  unfold OfPost at N1
  rw [decide_eq_true hk] at N1
  have HR := hide hr
  clear hE hV hd hr
  generalize hT : sizeT n s.kind s.p s.q = T
  have HT := hide hT
  clear hT
  go_enter Tryz.func36, Tryz.ntmps36
  go_wp2_with fail
  refine (N0 _).mono ?_
  rintro e w1 ⟨rfl, rfl⟩
  go_wp2_with fail
  refine (N1 _).mono ?_
  rintro e w2 ⟨f1, f2, f3, f4, rfl, o1, o2, o3, o4, hsem, hb1⟩
  have hB2 : Below (w.heap.size + 1) (w.alloc (.cells #[.int .i64 s.kind, .int .i64 s.p, .int .i64 s.q] 23)) w2 := hb1.mono (by simp)
  have hbox : w2.heap[w.heap.size]? = some (.cells #[.int .i64 s.kind, .int .i64 s.p, .int .i64 s.q] 23 (0, 0)) := (hB2.block _ (by omega)).trans (heap_alloc_new _ _)
  obtain ⟨x0, x1, x2, _, _, _, xz⟩ := cells3 hbox
  have hsem1 := hsem (by omega)
  clear hsem hb1
  (have hst1 : ∀ (w : World) (a : Addr) (m : Mode), (store a f1 m).run Tryz.prog w = stored Tryz.prog w a f1 m := fun w a m => run_store _ w a f1 m o1; have hst2 : ∀ (w : World) (a : Addr) (m : Mode), (store a f2 m).run Tryz.prog w = stored Tryz.prog w a f2 m := fun w a m => run_store _ w a f2 m o2; have hst3 : ∀ (w : World) (a : Addr) (m : Mode), (store a f3 m).run Tryz.prog w = stored Tryz.prog w a f3 m := fun w a m => run_store _ w a f3 m o3; have hst4 : ∀ (w : World) (a : Addr) (m : Mode), (store a f4 m).run Tryz.prog w = stored Tryz.prog w a f4 m := fun w a m => run_store _ w a f4 m o4)
  have hA := hsem1.right s rfl
  rw [HR.out] at hA
  have hA2 := hsem1.size n s rfl hn.1 hn.2 HR.out
  rw [HT.out] at hA2
  clear hsem1
  obtain ⟨g3, rfl, hent3, hcall3⟩ := hA2
  have HC3 := hide hcall3
  clear hcall3
  rcases hA with ⟨g, B, c, rfl, hent, _, hBl, hBc, hcall⟩ | ⟨g, rfl, hent, hcall⟩
  all_goals
    have HC := hide hcall
    clear hcall
    try have hc' := Lib.cell?_alloc_some (o := .cells #[f1, .func (.func g) #[] #[.pointer (some ⟨B, 0, none⟩)], .func (.func g3) #[] #[], f4] 131) hBc
    go_wp2_with fail
    first
      | (with_reducible refine (HC.out _ hc' (by simp; omega)).mono ?_)
      | (with_reducible refine (HC.out _).mono ?_)
    rintro e w3 ⟨rfl, hb3⟩
    obtain ⟨y0, y1, y2, y3, yz⟩ := cells4 ((hb3.block w2.heap.size (by simp)).trans (heap_alloc_new _ _))
    obtain ⟨u0, u1, u2, _, _, _, uz⟩ := cells3 ((hb3.block w.heap.size (by simp; omega)).trans ((heap_alloc_old _ _ xz).trans hbox))
    have hB3 : Below w.heap.size w w3 := (((Below.refl _ w).alloc (Nat.le_refl _) _).trans (hB2.mono (by omega))).alloc (by omega) _ |>.trans (hb3.mono (by simp; omega))
    clear x0 x1 x2 hB2 hbox hb3
    go_wp2_with fail
    refine (HC3.out _).mono ?_
    rintro e w4 ⟨rfl, hb4⟩
    go_wp2
    go_ret2
    exact ⟨rfl, hB3.trans (hb4.mono hB3.size)⟩
theorem tsize_any (n : Int) (s : Sp) (w : World) : Calls Tryz.prog 36 #[.int .i64 n, spV s] w fun e w' => e = .returned (.tuple #[.int .i64 (sizeV n s), .int .i64 (sizeE n s)]) ∧ Below w.heap.size w w' := by
  by_cases hn : 1 ≤ n ∧ n ≤ 16
  · by_cases hk : 0 ≤ s.kind ∧ s.kind ≤ 9
    · by_cases hr : rightT s.kind s.p s.q = true
      · exact tsize_0 n s hn hk hr w
      · exact tsize_10 n s hn hk (by simpa using hr) w
    · exact tsize_9 n s hn hk w
  · exact tsize_1 n s hn w
set_option maxRecDepth 100000 in
set_option maxHeartbeats 1000000 in
theorem tkinds_any (s : Sp) (w : World) : Calls Tryz.prog 78 #[spV s] w fun e w' => e = .returned (.int .i64 (actsT s.kind s.p)) ∧ Below w.heap.size w w' := by
  have N1 := fun W => tof_any s.kind W
  unfold OfPost at N1
  by_cases hk : 0 ≤ s.kind ∧ s.kind ≤ 9
  · rw [decide_eq_true hk] at N1
    generalize hT : actsT s.kind s.p = T
    have HT := hide hT
    have HK := hide hk
    clear hT hk
    go_enter Tryz.func78, Tryz.ntmps78
    go_wp2_with fail
    refine (N1 _).mono ?_
    rintro e w2 ⟨f1, f2, f3, f4, rfl, o1, o2, o3, o4, hsem, hb1⟩
    have hB2 : Below (w.heap.size + 1) (w.alloc (.cells #[.int .i64 s.kind, .int .i64 s.p, .int .i64 s.q] 23)) w2 := hb1.mono (by simp)
    have hbox : w2.heap[w.heap.size]? = some (.cells #[.int .i64 s.kind, .int .i64 s.p, .int .i64 s.q] 23 (0, 0)) := (hB2.block _ (by omega)).trans (heap_alloc_new _ _)
    obtain ⟨x0, x1, x2, _, _, _, xz⟩ := cells3 hbox
    have hA := (hsem HK.out).acts s rfl
    rw [HT.out] at hA
    clear hsem hb1
    (have hst1 : ∀ (w : World) (a : Addr) (m : Mode), (store a f1 m).run Tryz.prog w = stored Tryz.prog w a f1 m := fun w a m => run_store _ w a f1 m o1; have hst2 : ∀ (w : World) (a : Addr) (m : Mode), (store a f2 m).run Tryz.prog w = stored Tryz.prog w a f2 m := fun w a m => run_store _ w a f2 m o2; have hst3 : ∀ (w : World) (a : Addr) (m : Mode), (store a f3 m).run Tryz.prog w = stored Tryz.prog w a f3 m := fun w a m => run_store _ w a f3 m o3; have hst4 : ∀ (w : World) (a : Addr) (m : Mode), (store a f4 m).run Tryz.prog w = stored Tryz.prog w a f4 m := fun w a m => run_store _ w a f4 m o4)
    rcases hA with ⟨g, B, c, rfl, hent, _, hBl, hBc, hcall⟩ | ⟨g, rfl, hent, hcall⟩
    all_goals
      have HC := hide hcall
      clear hcall
      try have hc' := Lib.cell?_alloc_some (o := .cells #[.func (.func g) #[] #[.pointer (some ⟨B, 0, none⟩)], f2, f3, f4] 131) hBc
      go_wp2_with fail
      first
        | (with_reducible refine (HC.out _ hc' (by simp; omega)).mono ?_)
        | (with_reducible refine (HC.out _).mono ?_)
      rintro e w3 ⟨rfl, hb3⟩
      have hB3 : Below w.heap.size w w3 := (((Below.refl _ w).alloc (Nat.le_refl _) _).trans (hB2.mono (by omega))).alloc (by omega) _ |>.trans (hb3.mono (by simp; omega))
      go_wp2
      go_ret
      exact ⟨rfl, hB3⟩
  · rw [decide_eq_false hk] at N1
    have hT : actsT s.kind s.p = 0 := by unfold actsT; rw [if_neg (by omega), if_neg (by omega), if_neg (by omega), if_neg (by omega)]
    rw [hT]
    clear hT hk
    go_enter Tryz.func78, Tryz.ntmps78
    go_wp2_with fail
    refine (N1 _).mono ?_
    rintro e w2 ⟨f1, f2, f3, f4, rfl, o1, o2, o3, o4, hsem, hb1⟩
    (have hst1 : ∀ (w : World) (a : Addr) (m : Mode), (store a f1 m).run Tryz.prog w = stored Tryz.prog w a f1 m := fun w a m => run_store _ w a f1 m o1; have hst2 : ∀ (w : World) (a : Addr) (m : Mode), (store a f2 m).run Tryz.prog w = stored Tryz.prog w a f2 m := fun w a m => run_store _ w a f2 m o2; have hst3 : ∀ (w : World) (a : Addr) (m : Mode), (store a f3 m).run Tryz.prog w = stored Tryz.prog w a f3 m := fun w a m => run_store _ w a f3 m o3; have hst4 : ∀ (w : World) (a : Addr) (m : Mode), (store a f4 m).run Tryz.prog w = stored Tryz.prog w a f4 m := fun w a m => run_store _ w a f4 m o4)
    have hB := ((Below.refl _ w).alloc (Nat.le_refl _) (.cells #[.int .i64 s.kind, .int .i64 s.p, .int .i64 s.q] 23)).trans (hb1.mono (by simp))
    clear hsem hb1
    go_wp2
    go_ret
    exact ⟨rfl, hB.alloc hB.size _⟩
end Go.Proofs.YtmiimpmfkjcjlaaGreat
