/- One tally of two threads, as table makes it (package table): of, Size, Lay, Words, Make. -/
import Derived.Test.YtfghmlpjbedomaaGreatTa4
import Derived.Test.YtfghmlpjbedomaaGreatBun10
import Derived.Deep.OwnRows
namespace Go.Proofs.YtfghmlpjbedomaaGreat
open Go.RowKit
attribute [local go_sem] run_store_fn run_store_nilfn

theorem ttActs (n : Int) (w : World) : Calls Tryz.prog 80 #[.int .i64 n] w fun e w' => e = .returned (.func (.func 108) #[] #[.pointer (some ⟨w.heap.size, 0, none⟩)]) ∧ w' = w.alloc (.cells #[.int .i64 n] 3) := by
  go_enter Tryz.func80, Tryz.ntmps80
  go_wp2
  go_ret
  exact ⟨rfl, rfl⟩
theorem ttThreads {n : Nat} (hn : 1 ≤ n ∧ n ≤ 16) (w : World) : Calls Tryz.prog 77 #[.int .i64 (n : Int)] w fun e w' => e = .returned (.bool true) ∧ w' = w := by
  have d1 : (1 : Int) ≤ n := by omega
  have d2 : (n : Int) ≤ 16 := by omega
  have d1' : 1 ≤ n := by omega
  have d2' : n ≤ 16 := by omega
  clear hn
  go_enter Tryz.func77, Tryz.ntmps77
  go_wp2
  go_ret
  exact ⟨rfl, rfl⟩
theorem ttWhatever (w : World) : Calls Tryz.prog 85 #[.agg #[.int .i64 2, .int .i64 0, .int .i64 0]] w fun e w' => e = .returned (.bool true) ∧ Below w.heap.size w w' := by
  go_enter Tryz.func85, Tryz.ntmps85
  go_wp2
  go_ret
  exact ⟨rfl, by (repeat' (first | exact Below.refl _ _ | assumption | refine Below.drew ?_ | refine below_drewN ?_ _ | refine Below.alloc ?_ (by simp <;> omega) _ | refine Below.setCell ?_ (by simp <;> omega) _))⟩
theorem ttOne (n : Nat) (w : World) : Calls Tryz.prog 89 #[.int .i64 (n : Int), .agg #[.int .i64 2, .int .i64 0, .int .i64 0]] w fun e w' => e = .returned (.int .i64 (n : Int)) ∧ Below w.heap.size w w' := by
  go_enter Tryz.func89, Tryz.ntmps89
  go_wp2
  go_ret
  exact ⟨rfl, by (repeat' (first | exact Below.refl _ _ | assumption | refine Below.drew ?_ | refine below_drewN ?_ _ | refine Below.alloc ?_ (by simp <;> omega) _ | refine Below.setCell ?_ (by simp <;> omega) _))⟩
theorem ttNew (w : World) : Calls Tryz.prog 91 #[.int .i64 0, .int .i64 2] w fun e w' => e = .returned (.agg #[.int .i64 0, .int .i64 2]) ∧ Below w.heap.size w w' := by
  go_enter Tryz.func91, Tryz.ntmps91
  go_wp2
  refine bodyPost_ret (v := .agg #[.int .i64 0, .int .i64 2]) (by simp [results, Tryz.results91, go_sem, *]) rfl ⟨rfl, ?_⟩
  (repeat' (first | exact Below.refl _ _ | assumption | refine Below.drew ?_ | refine below_drewN ?_ _ | refine Below.alloc ?_ (by simp <;> omega) _ | refine Below.setCell ?_ (by simp <;> omega) _))
theorem ttMk (w : World) : Calls Tryz.prog 90 #[.int .i64 0, .int .i64 2, .agg #[.int .i64 2, .int .i64 0, .int .i64 0]] w fun e w' => e = .returned taV ∧ Below w.heap.size w w' := by
  unfold taV
  go_enter Tryz.func90, Tryz.ntmps90
  go_wp2_with fail
  refine (ttNew _).mono ?_
  rintro e w1 ⟨rfl, hb⟩
  go_wp2
  go_ret
  exact ⟨rfl, ((Below.refl _ w).alloc (Nat.le_refl _) _).trans (hb.mono (by simp))⟩
set_option maxRecDepth 100000 in
set_option maxHeartbeats 1000000 in
theorem ttOf (w : World) : Calls Tryz.prog 53 #[.int .i64 2] w fun e w' => (∃ b, e = .returned (.tuple #[.agg #[.func (.func 108) #[] #[.pointer (some ⟨b, 0, none⟩)], .func (.func 85) #[] #[], .func (.func 89) #[] #[], .func (.func 90) #[] #[]], .bool true])) ∧ Below w.heap.size w w' := by
  go_enter Tryz.func53, Tryz.ntmps53
  go_wp2_with (refine (ttActs _ _).mono ?_; rintro e w1 ⟨rfl, rfl⟩)
  obtain ⟨b, hb⟩ : ∃ b, b = w.heap.size + 1 := ⟨_, rfl⟩
  rw [← hb]
  refine bodyPost_ret (v := .tuple #[.agg #[.func (.func 108) #[] #[.pointer (some ⟨b, 0, none⟩)], .func (.func 85) #[] #[], .func (.func 89) #[] #[], .func (.func 90) #[] #[]], .bool true]) (by simp [results, Tryz.results53, go_sem]) rfl ⟨⟨b, rfl⟩, ?_⟩
  (repeat' (first | exact Below.refl _ _ | assumption | refine Below.drew ?_ | refine below_drewN ?_ _ | refine Below.alloc ?_ (by simp <;> omega) _ | refine Below.setCell ?_ (by simp <;> omega) _))
set_option maxRecDepth 100000 in
set_option maxHeartbeats 1000000 in
theorem ttSize {n : Nat} (hn : 1 ≤ n ∧ n ≤ 16) (w : World) : Calls Tryz.prog 78 #[.int .i64 (n : Int), .agg #[.int .i64 2, .int .i64 0, .int .i64 0]] w fun e w' => e = .returned (.tuple #[.int .i64 (n : Int), .int .i64 0]) ∧ Below w.heap.size w w' := by
  have N0 := ttThreads hn
  clear hn
  go_enter Tryz.func78, Tryz.ntmps78
  go_wp2_with fail
  refine (N0 _).mono ?_
  rintro e w1 ⟨rfl, rfl⟩
  go_wp2_with fail
  refine (ttOf _).mono ?_
  rintro e w2 ⟨⟨b, rfl⟩, hb2⟩
  have hz2 : w.heap.size < w2.heap.size := by have := hb2.size; simp at this; omega
  have c0 : w2.cell? ⟨w.heap.size, 0, none⟩ = some (.int .i64 2) := (hb2.cell (p := ⟨w.heap.size, 0, none⟩) (by simp)).trans (by go_simp)
  have c1 : w2.cell? ⟨w.heap.size, 1, none⟩ = some (.int .i64 0) := (hb2.cell (p := ⟨w.heap.size, 1, none⟩) (by simp)).trans (by go_simp)
  have c2 : w2.cell? ⟨w.heap.size, 2, none⟩ = some (.int .i64 0) := (hb2.cell (p := ⟨w.heap.size, 2, none⟩) (by simp)).trans (by go_simp)
  have hbw2 : Below w.heap.size w w2 := ((Below.refl _ w).alloc (Nat.le_refl _) _).trans (hb2.mono (by simp))
  have HBW := hide hbw2
  clear hb2 hbw2
  go_wp2_with fail
  refine (ttWhatever _).mono ?_
  rintro e w3 ⟨rfl, hb3⟩
  have hz3 : w2.heap.size < w3.heap.size := by have := hb3.size; simp at this; omega
  have hzw3 : w.heap.size < w3.heap.size := by omega
  have d0 : w3.cell? ⟨w.heap.size, 0, none⟩ = some (.int .i64 2) := (hb3.cell (p := ⟨w.heap.size, 0, none⟩) (by simp; omega)).trans (by go_simp)
  have d1 : w3.cell? ⟨w.heap.size, 1, none⟩ = some (.int .i64 0) := (hb3.cell (p := ⟨w.heap.size, 1, none⟩) (by simp; omega)).trans (by go_simp)
  have d2 : w3.cell? ⟨w.heap.size, 2, none⟩ = some (.int .i64 0) := (hb3.cell (p := ⟨w.heap.size, 2, none⟩) (by simp; omega)).trans (by go_simp)
  have g2 : w3.cell? ⟨w2.heap.size, 2, none⟩ = some (.func (.func 89) #[] #[]) := (hb3.cell (p := ⟨w2.heap.size, 2, none⟩) (by simp)).trans (by go_simp)
  have hbw3 : Below w.heap.size w w3 := (HBW.out.alloc HBW.out.size _).trans (hb3.mono (by simp; omega))
  have HBW3 := hide hbw3
  clear hb3 hbw3 c0 c1 c2
  go_wp2_with fail
  refine (ttOne n _).mono ?_
  rintro e w4 ⟨rfl, hb4⟩
  go_wp2
  go_ret2
  exact ⟨rfl, HBW3.out.trans (hb4.mono HBW3.out.size)⟩
set_option maxRecDepth 100000 in
set_option maxHeartbeats 2000000 in
theorem ttLay {B cc : Nat} (w : World) (h : SlSp w (.slice (some ⟨B, 0, none⟩) 1 cc) [⟨2, 0, 0⟩]) : Calls Tryz.prog 52 #[.int .i64 2, .slice (some ⟨B, 0, none⟩) 1 cc] w fun e w' => ∃ u, e = .returned (.tuple #[u, .int .i64 2, .int .i64 0]) ∧ SlI w' u [0] ∧ Below w.heap.size w w' := by
  have N0 := ttThreads (n := 2) (by omega)
  obtain ⟨i0, hi, hz0, hz1, hz2⟩ := info_parts info_int
  obtain ⟨A', c', e1, q1, q2, q3⟩ := h
  obtain ⟨bb, oo, e2, hbb, hcc⟩ := q3 0 _ rfl
  cases e1
  cases e2
  obtain ⟨c0, c1, c2⟩ := spec_cells hcc
  have HCC := hide hcc
  clear q3 hcc q1 q2
  simp only [Nat.zero_mul, Nat.add_zero] at c0 c1 c2
  go_enter Tryz.func52, Tryz.ntmps52
  go_wp2_with fail
  refine (N0 _).mono ?_
  rintro e w1 ⟨rfl, rfl⟩
  go_wp2
  go_loopw [22, 7] (fun i v wr => ∃ k : Nat, k ≤ 1 ∧ i = .int .i64 k ∧ Hid (IOwn wr w1.heap.size v k (List.replicate k 2)) ∧ Hid (Below w1.heap.size w1 wr)) (fun i _ _ => 1 - (intOf i).toNat)
  case atStart => exact ⟨0, Nat.zero_le _, rfl, hide (World.ownsRow_nil _ _ _ _), hide (Below.refl _ _)⟩
  case round =>
    obtain ⟨k, hk, rfl, hown, hB⟩ := hrel
    have hsz := hB.out.size
    have a0 := (hB.out.cell (p := ⟨B, 0, none⟩) hbb).trans c0
    have a1 := (hB.out.cell (p := ⟨B, 0 + 1, none⟩) hbb).trans c1
    have a2 := (hB.out.cell (p := ⟨B, 0 + 2, none⟩) hbb).trans c2
    by_cases hlt : k = 0
    · subst hlt
      have hzb : B < wr.heap.size := by omega
      go_wp2_with fail
      refine (ttSize (n := 2) (by omega) _).mono ?_
      rintro e w2 ⟨rfl, hb2⟩
      have hbr2 : Below w1.heap.size w1 w2 := (hB.out.alloc hsz _).trans (hb2.mono (by simp; omega))
      have hsz2 := hbr2.size
      have hown' := owns_keepV hown.out ((Keep.refl (fun k => k < wr.heap.size) wr).alloc (fun k hk => hk) (.cells #[.int .i64 2, .int .i64 0, .int .i64 0] 51)) (fun k hk => (hown.out.lt k hk).2)
      have hown2 := owns_keepV hown' (Keep.of_below (K := fun k => k < wr.heap.size) hb2 (fun k hk => by simp; omega)) (fun k hk => (hown.out.lt k hk).2)
      clear hb2 hown'
      go_wp2_with (at_builtin; refine wpList_append_own_at _ rfl _ _ 22 rfl w1.heap.size 3 i0 (.int .i64 0) 1 8 Tryz.underlying22 hi hz0 hz1 hz2 rfl (by decide) _ 0 _ rfl (hown2.alloc _) ⟨w2.heap.size, 0, none⟩ 1 1 [.int .i64 2] rfl rfl (new_one _ _ _) (by simp [Value.oneCell']) (by unfold maxLen; omega) (by omega) (by simp; omega) ?_; intro v5 w5 hown5 hgrow _ _; have HO := hide hown5; have HB := hide ((hbr2.alloc hsz2 _).grown hgrow (by simp; omega) (fun j hj => (hown2.lt j hj).1)); clear hown5 hgrow hown2 hown hB)
      go_roundw
      case rel => exact ⟨1, Nat.le_refl _, by go_num, HO, HB⟩
      case measure => first | (simp [intOf]; done) | (simp [intOf]; omega)
    · obtain rfl : k = 1 := by omega
      obtain ⟨A, c, rfl⟩ := own_slice hown.out
      have N2 := regionLay A 1 c [2] wr (sl_of_owns (kk := .i64) (base := w1.heap.size) hown.out (by unfold maxLen; simp)) rfl (fun x hx => by have := List.mem_singleton.1 hx; omega) (by omega)
      clear hlt
      go_wp2_with fail
      refine N2.mono ?_
      rintro e w2 ⟨u, rfl, hs, hb2⟩
      rw [show regEnd [2] = 2 from by unfold regEnd; simp, show regE [2] = 0 from by unfold regE; simp]
      rw [show regL [2] = [0] from by kernel_rfl] at hs
      have HS := hide hs
      clear hs N2
      go_wp2
      go_ret3
      exact ⟨u, rfl, HS.out, hB.out.trans (hb2.mono hsz)⟩
end Go.Proofs.YtfghmlpjbedomaaGreat
