/- Types of things (package seq): what a type has; how many operations, what state at first, which states may be. -/
import Derived.Test.YtmiimpmfkjcjlaaGreatSq1
namespace Go.Proofs.YtmiimpmfkjcjlaaGreat
open Go.RowKit
attribute [local go_sem] run_store_fn run_store_nilfn

def kindsI (n : Int) : Int := if n = 0 ∨ n = 1 ∨ n = 5 ∨ n = 6 ∨ n = 7 then 2 else if n = 2 ∨ n = 3 ∨ n = 4 then 3 else 0
def wordsI (n : Int) : Int := if n = 0 ∨ n = 1 ∨ n = 4 ∨ n = 5 ∨ n = 6 then 1 else if n = 2 ∨ n = 3 then -1 else if n = 7 then 8 else 0

def BoxFn (w : World) (fv : Value) (g f : Nat) : Prop := ∃ B, fv = .func (.func g) #[] #[.pointer (some ⟨B, 0, none⟩)] ∧ w.cell? ⟨B, 0, none⟩ = some (.func (.func f) #[] #[]) ∧ B < w.heap.size
/-- The function that a type has. -/
def FnOf (n : Int) (fv : Value) (w : World) : Prop :=
  (n = 0 → BoxFn w fv 190 134) ∧ (n = 1 → BoxFn w fv 190 135) ∧ (n = 2 → BoxFn w fv 192 137) ∧
  (n = 3 → BoxFn w fv 192 138) ∧ (n = 4 → fv = .func (.func 139) #[] #[]) ∧ (n = 5 → BoxFn w fv 190 140) ∧
  (n = 6 → fv = .func (.func 141) #[] #[]) ∧ (n = 7 → fv = .func (.func 142) #[] #[])

set_option maxRecDepth 100000 in
set_option maxHeartbeats 1000000 in
theorem of_0 (n : Int) (hn : n = 0) (w : World) : Calls Tryz.prog 72 #[.int .i64 n] w fun e w' => ∃ fv, e = .returned (.tuple #[.agg #[.int .i64 (kindsI n), .int .i64 (wordsI n), fv], .bool (decide (0 ≤ n ∧ n ≤ 7))]) ∧ fv.oneCell' = true ∧ FnOf n fv w' ∧ Below w.heap.size w w' := by
  subst hn
  go_enter Tryz.func72, Tryz.ntmps72
  go_wp2_with (go_at_call 133; refine (one_any _ _).mono ?_; rintro e w1 ⟨rfl, rfl⟩)
  refine bodyPost_ret (v := .tuple #[.agg #[.int .i64 2, .int .i64 1, .func (.func 190) #[] #[.pointer (some ⟨w.heap.size + 1, 0, none⟩)]], .bool true]) (by simp [results, Tryz.results72, go_sem]) rfl ⟨_, rfl, rfl, ?_, ?_⟩
  · refine ⟨fun h => ?_, fun h => ?_, fun h => ?_, fun h => ?_, fun h => ?_, fun h => ?_, fun h => ?_, fun h => ?_⟩ <;> first | (exact absurd h (by decide)) | exact ⟨_, rfl, by go_simp, by simp <;> omega⟩
  · (repeat' (first | exact Below.refl _ _ | assumption | refine Below.drew ?_ | refine below_drewN ?_ _ | refine Below.alloc ?_ (by simp <;> omega) _ | refine Below.setCell ?_ (by simp <;> omega) _))
set_option maxRecDepth 100000 in
set_option maxHeartbeats 1000000 in
theorem of_1 (n : Int) (hn : n = 1) (w : World) : Calls Tryz.prog 72 #[.int .i64 n] w fun e w' => ∃ fv, e = .returned (.tuple #[.agg #[.int .i64 (kindsI n), .int .i64 (wordsI n), fv], .bool (decide (0 ≤ n ∧ n ≤ 7))]) ∧ fv.oneCell' = true ∧ FnOf n fv w' ∧ Below w.heap.size w w' := by
  subst hn
  go_enter Tryz.func72, Tryz.ntmps72
  go_wp2_with (go_at_call 133; refine (one_any _ _).mono ?_; rintro e w1 ⟨rfl, rfl⟩)
  refine bodyPost_ret (v := .tuple #[.agg #[.int .i64 2, .int .i64 1, .func (.func 190) #[] #[.pointer (some ⟨w.heap.size + 1, 0, none⟩)]], .bool true]) (by simp [results, Tryz.results72, go_sem]) rfl ⟨_, rfl, rfl, ?_, ?_⟩
  · refine ⟨fun h => ?_, fun h => ?_, fun h => ?_, fun h => ?_, fun h => ?_, fun h => ?_, fun h => ?_, fun h => ?_⟩ <;> first | (exact absurd h (by decide)) | exact ⟨_, rfl, by go_simp, by simp <;> omega⟩
  · (repeat' (first | exact Below.refl _ _ | assumption | refine Below.drew ?_ | refine below_drewN ?_ _ | refine Below.alloc ?_ (by simp <;> omega) _ | refine Below.setCell ?_ (by simp <;> omega) _))
set_option maxRecDepth 100000 in
set_option maxHeartbeats 1000000 in
theorem of_2 (n : Int) (hn : n = 2) (w : World) : Calls Tryz.prog 72 #[.int .i64 n] w fun e w' => ∃ fv, e = .returned (.tuple #[.agg #[.int .i64 (kindsI n), .int .i64 (wordsI n), fv], .bool (decide (0 ≤ n ∧ n ≤ 7))]) ∧ fv.oneCell' = true ∧ FnOf n fv w' ∧ Below w.heap.size w w' := by
  subst hn
  go_enter Tryz.func72, Tryz.ntmps72
  go_wp2_with (go_at_call 136; refine (row_any _ _).mono ?_; rintro e w1 ⟨rfl, rfl⟩)
  refine bodyPost_ret (v := .tuple #[.agg #[.int .i64 3, .int .i64 (-1), .func (.func 192) #[] #[.pointer (some ⟨w.heap.size + 1, 0, none⟩)]], .bool true]) (by simp [results, Tryz.results72, go_sem]) rfl ⟨_, rfl, rfl, ?_, ?_⟩
  · refine ⟨fun h => ?_, fun h => ?_, fun h => ?_, fun h => ?_, fun h => ?_, fun h => ?_, fun h => ?_, fun h => ?_⟩ <;> first | (exact absurd h (by decide)) | exact ⟨_, rfl, by go_simp, by simp <;> omega⟩
  · (repeat' (first | exact Below.refl _ _ | assumption | refine Below.drew ?_ | refine below_drewN ?_ _ | refine Below.alloc ?_ (by simp <;> omega) _ | refine Below.setCell ?_ (by simp <;> omega) _))
set_option maxRecDepth 100000 in
set_option maxHeartbeats 1000000 in
theorem of_3 (n : Int) (hn : n = 3) (w : World) : Calls Tryz.prog 72 #[.int .i64 n] w fun e w' => ∃ fv, e = .returned (.tuple #[.agg #[.int .i64 (kindsI n), .int .i64 (wordsI n), fv], .bool (decide (0 ≤ n ∧ n ≤ 7))]) ∧ fv.oneCell' = true ∧ FnOf n fv w' ∧ Below w.heap.size w w' := by
  subst hn
  go_enter Tryz.func72, Tryz.ntmps72
  go_wp2_with (go_at_call 136; refine (row_any _ _).mono ?_; rintro e w1 ⟨rfl, rfl⟩)
  refine bodyPost_ret (v := .tuple #[.agg #[.int .i64 3, .int .i64 (-1), .func (.func 192) #[] #[.pointer (some ⟨w.heap.size + 1, 0, none⟩)]], .bool true]) (by simp [results, Tryz.results72, go_sem]) rfl ⟨_, rfl, rfl, ?_, ?_⟩
  · refine ⟨fun h => ?_, fun h => ?_, fun h => ?_, fun h => ?_, fun h => ?_, fun h => ?_, fun h => ?_, fun h => ?_⟩ <;> first | (exact absurd h (by decide)) | exact ⟨_, rfl, by go_simp, by simp <;> omega⟩
  · (repeat' (first | exact Below.refl _ _ | assumption | refine Below.drew ?_ | refine below_drewN ?_ _ | refine Below.alloc ?_ (by simp <;> omega) _ | refine Below.setCell ?_ (by simp <;> omega) _))
set_option maxRecDepth 100000 in
set_option maxHeartbeats 1000000 in
theorem of_5 (n : Int) (hn : n = 5) (w : World) : Calls Tryz.prog 72 #[.int .i64 n] w fun e w' => ∃ fv, e = .returned (.tuple #[.agg #[.int .i64 (kindsI n), .int .i64 (wordsI n), fv], .bool (decide (0 ≤ n ∧ n ≤ 7))]) ∧ fv.oneCell' = true ∧ FnOf n fv w' ∧ Below w.heap.size w w' := by
  subst hn
  go_enter Tryz.func72, Tryz.ntmps72
  go_wp2_with (go_at_call 133; refine (one_any _ _).mono ?_; rintro e w1 ⟨rfl, rfl⟩)
  refine bodyPost_ret (v := .tuple #[.agg #[.int .i64 2, .int .i64 1, .func (.func 190) #[] #[.pointer (some ⟨w.heap.size + 1, 0, none⟩)]], .bool true]) (by simp [results, Tryz.results72, go_sem]) rfl ⟨_, rfl, rfl, ?_, ?_⟩
  · refine ⟨fun h => ?_, fun h => ?_, fun h => ?_, fun h => ?_, fun h => ?_, fun h => ?_, fun h => ?_, fun h => ?_⟩ <;> first | (exact absurd h (by decide)) | exact ⟨_, rfl, by go_simp, by simp <;> omega⟩
  · (repeat' (first | exact Below.refl _ _ | assumption | refine Below.drew ?_ | refine below_drewN ?_ _ | refine Below.alloc ?_ (by simp <;> omega) _ | refine Below.setCell ?_ (by simp <;> omega) _))
set_option maxRecDepth 100000 in
set_option maxHeartbeats 1000000 in
theorem of_4 (n : Int) (hn : n = 4) (w : World) : Calls Tryz.prog 72 #[.int .i64 n] w fun e w' => ∃ fv, e = .returned (.tuple #[.agg #[.int .i64 (kindsI n), .int .i64 (wordsI n), fv], .bool (decide (0 ≤ n ∧ n ≤ 7))]) ∧ fv.oneCell' = true ∧ FnOf n fv w' ∧ Below w.heap.size w w' := by
  subst hn
  go_enter Tryz.func72, Tryz.ntmps72
  go_wp2
  refine bodyPost_ret (v := .tuple #[.agg #[.int .i64 3, .int .i64 1, .func (.func 139) #[] #[]], .bool true]) (by simp [results, Tryz.results72, go_sem]) rfl ⟨_, rfl, rfl, ?_, ?_⟩
  · refine ⟨fun h => ?_, fun h => ?_, fun h => ?_, fun h => ?_, fun h => ?_, fun h => ?_, fun h => ?_, fun h => ?_⟩ <;> first | (exact absurd h (by decide)) | rfl
  · (repeat' (first | exact Below.refl _ _ | assumption | refine Below.drew ?_ | refine below_drewN ?_ _ | refine Below.alloc ?_ (by simp <;> omega) _ | refine Below.setCell ?_ (by simp <;> omega) _))
set_option maxRecDepth 100000 in
set_option maxHeartbeats 1000000 in
theorem of_6 (n : Int) (hn : n = 6) (w : World) : Calls Tryz.prog 72 #[.int .i64 n] w fun e w' => ∃ fv, e = .returned (.tuple #[.agg #[.int .i64 (kindsI n), .int .i64 (wordsI n), fv], .bool (decide (0 ≤ n ∧ n ≤ 7))]) ∧ fv.oneCell' = true ∧ FnOf n fv w' ∧ Below w.heap.size w w' := by
  subst hn
  go_enter Tryz.func72, Tryz.ntmps72
  go_wp2
  refine bodyPost_ret (v := .tuple #[.agg #[.int .i64 2, .int .i64 1, .func (.func 141) #[] #[]], .bool true]) (by simp [results, Tryz.results72, go_sem]) rfl ⟨_, rfl, rfl, ?_, ?_⟩
  · refine ⟨fun h => ?_, fun h => ?_, fun h => ?_, fun h => ?_, fun h => ?_, fun h => ?_, fun h => ?_, fun h => ?_⟩ <;> first | (exact absurd h (by decide)) | rfl
  · (repeat' (first | exact Below.refl _ _ | assumption | refine Below.drew ?_ | refine below_drewN ?_ _ | refine Below.alloc ?_ (by simp <;> omega) _ | refine Below.setCell ?_ (by simp <;> omega) _))
set_option maxRecDepth 100000 in
set_option maxHeartbeats 1000000 in
theorem of_7 (n : Int) (hn : n = 7) (w : World) : Calls Tryz.prog 72 #[.int .i64 n] w fun e w' => ∃ fv, e = .returned (.tuple #[.agg #[.int .i64 (kindsI n), .int .i64 (wordsI n), fv], .bool (decide (0 ≤ n ∧ n ≤ 7))]) ∧ fv.oneCell' = true ∧ FnOf n fv w' ∧ Below w.heap.size w w' := by
  subst hn
  go_enter Tryz.func72, Tryz.ntmps72
  go_wp2
  refine bodyPost_ret (v := .tuple #[.agg #[.int .i64 2, .int .i64 8, .func (.func 142) #[] #[]], .bool true]) (by simp [results, Tryz.results72, go_sem]) rfl ⟨_, rfl, rfl, ?_, ?_⟩
  · refine ⟨fun h => ?_, fun h => ?_, fun h => ?_, fun h => ?_, fun h => ?_, fun h => ?_, fun h => ?_, fun h => ?_⟩ <;> first | (exact absurd h (by decide)) | rfl
  · (repeat' (first | exact Below.refl _ _ | assumption | refine Below.drew ?_ | refine below_drewN ?_ _ | refine Below.alloc ?_ (by simp <;> omega) _ | refine Below.setCell ?_ (by simp <;> omega) _))
set_option maxRecDepth 100000 in
set_option maxHeartbeats 1000000 in
theorem of_none (n : Int) (hn : ¬ (0 ≤ n ∧ n ≤ 7)) (w : World) : Calls Tryz.prog 72 #[.int .i64 n] w fun e w' => ∃ fv, e = .returned (.tuple #[.agg #[.int .i64 (kindsI n), .int .i64 (wordsI n), fv], .bool (decide (0 ≤ n ∧ n ≤ 7))]) ∧ fv.oneCell' = true ∧ FnOf n fv w' ∧ Below w.heap.size w w' := by
  have hk : kindsI n = 0 := by unfold kindsI; rw [if_neg (by omega), if_neg (by omega)]
  have hw : wordsI n = 0 := by unfold wordsI; rw [if_neg (by omega), if_neg (by omega), if_neg (by omega)]
  have hd : decide (0 ≤ n ∧ n ≤ 7) = false := decide_eq_false hn
  rw [hk, hw, hd]
  have HF : Hid (∀ fv w', FnOf n fv w') := fun fv w' => ⟨fun h => by omega, fun h => by omega, fun h => by omega, fun h => by omega, fun h => by omega, fun h => by omega, fun h => by omega, fun h => by omega⟩
  have e0 : (n == 0) = false := by simp; omega
  have e1 : (n == 1) = false := by simp; omega
  have e2 : (n == 2) = false := by simp; omega
  have e3 : (n == 3) = false := by simp; omega
  have e4 : (n == 4) = false := by simp; omega
  have e5 : (n == 5) = false := by simp; omega
  have e6 : (n == 6) = false := by simp; omega
  have e7 : (n == 7) = false := by simp; omega
  clear hk hw hd hn
  go_enter Tryz.func72, Tryz.ntmps72
  go_wp2
  refine bodyPost_ret (v := .tuple #[.agg #[.int .i64 0, .int .i64 0, .nilFunc], .bool false]) (by simp [results, Tryz.results72, go_sem]) rfl ⟨_, rfl, rfl, HF.out _ _, ?_⟩
  (repeat' (first | exact Below.refl _ _ | assumption | refine Below.drew ?_ | refine below_drewN ?_ _ | refine Below.alloc ?_ (by simp <;> omega) _ | refine Below.setCell ?_ (by simp <;> omega) _))

theorem of_any (n : Int) (w : World) : Calls Tryz.prog 72 #[.int .i64 n] w fun e w' => ∃ fv, e = .returned (.tuple #[.agg #[.int .i64 (kindsI n), .int .i64 (wordsI n), fv], .bool (decide (0 ≤ n ∧ n ≤ 7))]) ∧ fv.oneCell' = true ∧ FnOf n fv w' ∧ Below w.heap.size w w' := by
  by_cases hn : 0 ≤ n ∧ n ≤ 7
  · have h8 : n = 0 ∨ n = 1 ∨ n = 2 ∨ n = 3 ∨ n = 4 ∨ n = 5 ∨ n = 6 ∨ n = 7 := by omega
    rcases h8 with h | h | h | h | h | h | h | h
    · exact of_0 n h w
    · exact of_1 n h w
    · exact of_2 n h w
    · exact of_3 n h w
    · exact of_4 n h w
    · exact of_5 n h w
    · exact of_6 n h w
    · exact of_7 n h w
  · exact of_none n hn w

set_option maxHeartbeats 1000000 in
theorem kinds_any (n : Int) (w : World) : Calls Tryz.prog 174 #[.int .i64 n] w fun e w' => e = .returned (.int .i64 (kindsI n)) ∧ Below w.heap.size w w' := by
  obtain ⟨R, hR⟩ : ∃ R, kindsI n = R := ⟨_, rfl⟩
  have P := fun W => of_any n W
  rw [hR] at P ⊢
  go_enter Tryz.func174, Tryz.ntmps174
  go_wp2_with (go_at_call 72; refine (P _).mono ?_; rintro e w1 ⟨fv, rfl, hone, hfn, hb1⟩; have hst : ∀ (w : World) (a : Addr) (m : Mode), (store a fv m).run Tryz.prog w = stored Tryz.prog w a fv m := fun w a m => run_store _ w a fv m hone)
  go_ret
  exact ⟨rfl, hb1.alloc hb1.size _⟩
end Go.Proofs.YtmiimpmfkjcjlaaGreat
