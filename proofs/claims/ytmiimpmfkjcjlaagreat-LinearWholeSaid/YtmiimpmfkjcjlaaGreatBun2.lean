import Derived.Test.YtmiimpmfkjcjlaaGreatBun1
import Derived.Deep.OwnRows
namespace Go.Proofs.YtmiimpmfkjcjlaaGreat
open Go.RowKit
attribute [local go_sem] run_store_fn run_store_nilfn
def kindsI (n : Int) : Int := if n = 0 ∨ n = 1 ∨ n = 5 ∨ n = 6 ∨ n = 7 then 2 else if n = 2 ∨ n = 3 ∨ n = 4 then 3 else 0
def wordsI (n : Int) : Int := if n = 0 ∨ n = 1 ∨ n = 4 ∨ n = 5 ∨ n = 6 then 1 else if n = 2 ∨ n = 3 then -1 else if n = 7 then 8 else 0
def BoxFn (w : World) (fv : Value) (g f : Nat) : Prop := ∃ B, fv = .func (.func g) #[] #[.pointer (some ⟨B, 0, none⟩)] ∧ w.cell? ⟨B, 0, none⟩ = some (.func (.func f) #[] #[]) ∧ B < w.heap.size
def FnOf (n : Int) (fv : Value) (w : World) : Prop :=
  (n = 0 → BoxFn w fv 190 134) ∧ (n = 1 → BoxFn w fv 190 135) ∧ (n = 2 → BoxFn w fv 192 137) ∧
  (n = 3 → BoxFn w fv 192 138) ∧ (n = 4 → fv = .func (.func 139) #[] #[]) ∧ (n = 5 → BoxFn w fv 190 140) ∧
  (n = 6 → fv = .func (.func 141) #[] #[]) ∧ (n = 7 → fv = .func (.func 142) #[] #[])
set_option maxRecDepth 100000 in
set_option maxHeartbeats 1000000 in
theorem of_0 (n : Int) (hn : n = 0) (w : World) : Calls Tryz.prog 72 #[.int .i64 n] w fun e w' => ∃ fv, e = .returned (.tuple #[.agg #[.int .i64 (kindsI n), .int .i64 (wordsI n), fv], .bool (decide (0 ≤ n ∧ n ≤ 7))]) ∧ fv.oneCell' = true ∧ FnOf n fv w' ∧ Below w.heap.size w w' := by
  subst hn
  go_enter Tryz.func72, Tryz.ntmps72
  go_wp2_with (go_at_call 133; refine (one_any _ _).mono ?_; rintro e w1 ⟨rfl, rfl⟩)
  refine bodyPost_ret (v := .tuple #[.agg #[.int .i64 2, .int .i64 1, .func (.func 190) #[] #[.pointer (some ⟨w.heap.size + 1, 0, none⟩)]], .bool true]) (by simp [results, Tryz.results72, go_sem]) rfl ⟨_, rfl, rfl, ?_, ?_⟩
  · refine ⟨fun h => ?_, fun h => ?_, fun h => ?_, fun h => ?_, fun h => ?_, fun h => ?_, fun h => ?_, fun h => ?_⟩ <;> first | (exact absurd h (by decide)) | exact ⟨_, rfl, by go_simp, by simp <;> omega⟩
  · (repeat' (first | exact Below.refl _ _ | assumption | refine Below.drew ?_ | refine below_drewN ?_ _ | refine Below.alloc ?_ (by simp <;> omega) _ | refine Below.setCell ?_ (by simp <;> omega) _))
set_option maxRecDepth 100000 in
set_option maxHeartbeats 1000000 in
theorem of_1 (n : Int) (hn : n = 1) (w : World) : Calls Tryz.prog 72 #[.int .i64 n] w fun e w' => ∃ fv, e = .returned (.tuple #[.agg #[.int .i64 (kindsI n), .int .i64 (wordsI n), fv], .bool (decide (0 ≤ n ∧ n ≤ 7))]) ∧ fv.oneCell' = true ∧ FnOf n fv w' ∧ Below w.heap.size w w' := by
  subst hn
  go_enter Tryz.func72, Tryz.ntmps72
  go_wp2_with (go_at_call 133; refine (one_any _ _).mono ?_; rintro e w1 ⟨rfl, rfl⟩)
  refine bodyPost_ret (v := .tuple #[.agg #[.int .i64 2, .int .i64 1, .func (.func 190) #[] #[.pointer (some ⟨w.heap.size + 1, 0, none⟩)]], .bool true]) (by simp [results, Tryz.results72, go_sem]) rfl ⟨_, rfl, rfl, ?_, ?_⟩
  · refine ⟨fun h => ?_, fun h => ?_, fun h => ?_, fun h => ?_, fun h => ?_, fun h => ?_, fun h => ?_, fun h => ?_⟩ <;> first | (exact absurd h (by decide)) | exact ⟨_, rfl, by go_simp, by simp <;> omega⟩
  · (repeat' (first | exact Below.refl _ _ | assumption | refine Below.drew ?_ | refine below_drewN ?_ _ | refine Below.alloc ?_ (by simp <;> omega) _ | refine Below.setCell ?_ (by simp <;> omega) _))
set_option maxRecDepth 100000 in
set_option maxHeartbeats 1000000 in
theorem of_2 (n : Int) (hn : n = 2) (w : World) : Calls Tryz.prog 72 #[.int .i64 n] w fun e w' => ∃ fv, e = .returned (.tuple #[.agg #[.int .i64 (kindsI n), .int .i64 (wordsI n), fv], .bool (decide (0 ≤ n ∧ n ≤ 7))]) ∧ fv.oneCell' = true ∧ FnOf n fv w' ∧ Below w.heap.size w w' := by
  subst hn
  go_enter Tryz.func72, Tryz.ntmps72
  go_wp2_with (go_at_call 136; refine (row_any _ _).mono ?_; rintro e w1 ⟨rfl, rfl⟩)
  refine bodyPost_ret (v := .tuple #[.agg #[.int .i64 3, .int .i64 (-1), .func (.func 192) #[] #[.pointer (some ⟨w.heap.size + 1, 0, none⟩)]], .bool true]) (by simp [results, Tryz.results72, go_sem]) rfl ⟨_, rfl, rfl, ?_, ?_⟩
  · refine ⟨fun h => ?_, fun h => ?_, fun h => ?_, fun h => ?_, fun h => ?_, fun h => ?_, fun h => ?_, fun h => ?_⟩ <;> first | (exact absurd h (by decide)) | exact ⟨_, rfl, by go_simp, by simp <;> omega⟩
  · (repeat' (first | exact Below.refl _ _ | assumption | refine Below.drew ?_ | refine below_drewN ?_ _ | refine Below.alloc ?_ (by simp <;> omega) _ | refine Below.setCell ?_ (by simp <;> omega) _))
set_option maxRecDepth 100000 in
set_option maxHeartbeats 1000000 in
theorem of_3 (n : Int) (hn : n = 3) (w : World) : Calls Tryz.prog 72 #[.int .i64 n] w fun e w' => ∃ fv, e = .returned (.tuple #[.agg #[.int .i64 (kindsI n), .int .i64 (wordsI n), fv], .bool (decide (0 ≤ n ∧ n ≤ 7))]) ∧ fv.oneCell' = true ∧ FnOf n fv w' ∧ Below w.heap.size w w' := by
  subst hn
  go_enter Tryz.func72, Tryz.ntmps72
  go_wp2_with (go_at_call 136; refine (row_any _ _).mono ?_; rintro e w1 ⟨rfl, rfl⟩)
  refine bodyPost_ret (v := .tuple #[.agg #[.int .i64 3, .int .i64 (-1), .func (.func 192) #[] #[.pointer (some ⟨w.heap.size + 1, 0, none⟩)]], .bool true]) (by simp [results, Tryz.results72, go_sem]) rfl ⟨_, rfl, rfl, ?_, ?_⟩
  · refine ⟨fun h => ?_, fun h => ?_, fun h => ?_, fun h => ?_, fun h => ?_, fun h => ?_, fun h => ?_, fun h => ?_⟩ <;> first | (exact absurd h (by decide)) | exact ⟨_, rfl, by go_simp, by simp <;> omega⟩
  · (repeat' (first | exact Below.refl _ _ | assumption | refine Below.drew ?_ | refine below_drewN ?_ _ | refine Below.alloc ?_ (by simp <;> omega) _ | refine Below.setCell ?_ (by simp <;> omega) _))
set_option maxRecDepth 100000 in
set_option maxHeartbeats 1000000 in
theorem of_5 (n : Int) (hn : n = 5) (w : World) : Calls Tryz.prog 72 #[.int .i64 n] w fun e w' => ∃ fv, e = .returned (.tuple #[.agg #[.int .i64 (kindsI n), .int .i64 (wordsI n), fv], .bool (decide (0 ≤ n ∧ n ≤ 7))]) ∧ fv.oneCell' = true ∧ FnOf n fv w' ∧ Below w.heap.size w w' := by
  subst hn
  go_enter Tryz.func72, Tryz.ntmps72
  go_wp2_with (go_at_call 133; refine (one_any _ _).mono ?_; rintro e w1 ⟨rfl, rfl⟩)
  refine bodyPost_ret (v := .tuple #[.agg #[.int .i64 2, .int .i64 1, .func (.func 190) #[] #[.pointer (some ⟨w.heap.size + 1, 0, none⟩)]], .bool true]) (by simp [results, Tryz.results72, go_sem]) rfl ⟨_, rfl, rfl, ?_, ?_⟩
  · refine ⟨fun h => ?_, fun h => ?_, fun h => ?_, fun h => ?_, fun h => ?_, fun h => ?_, fun h => ?_, fun h => ?_⟩ <;> first | (exact absurd h (by decide)) | exact ⟨_, rfl, by go_simp, by simp <;> omega⟩
  · (repeat' (first | exact Below.refl _ _ | assumption | refine Below.drew ?_ | refine below_drewN ?_ _ | refine Below.alloc ?_ (by simp <;> omega) _ | refine Below.setCell ?_ (by simp <;> omega) _))
set_option maxRecDepth 100000 in
set_option maxHeartbeats 1000000 in
theorem of_4 (n : Int) (hn : n = 4) (w : World) : Calls Tryz.prog 72 #[.int .i64 n] w fun e w' => ∃ fv, e = .returned (.tuple #[.agg #[.int .i64 (kindsI n), .int .i64 (wordsI n), fv], .bool (decide (0 ≤ n ∧ n ≤ 7))]) ∧ fv.oneCell' = true ∧ FnOf n fv w' ∧ Below w.heap.size w w' := by
  subst hn
  go_enter Tryz.func72, Tryz.ntmps72
  go_wp2
  refine bodyPost_ret (v := .tuple #[.agg #[.int .i64 3, .int .i64 1, .func (.func 139) #[] #[]], .bool true]) (by simp [results, Tryz.results72, go_sem]) rfl ⟨_, rfl, rfl, ?_, ?_⟩
  · refine ⟨fun h => ?_, fun h => ?_, fun h => ?_, fun h => ?_, fun h => ?_, fun h => ?_, fun h => ?_, fun h => ?_⟩ <;> first | (exact absurd h (by decide)) | rfl
  · (repeat' (first | exact Below.refl _ _ | assumption | refine Below.drew ?_ | refine below_drewN ?_ _ | refine Below.alloc ?_ (by simp <;> omega) _ | refine Below.setCell ?_ (by simp <;> omega) _))
set_option maxRecDepth 100000 in
set_option maxHeartbeats 1000000 in
theorem of_6 (n : Int) (hn : n = 6) (w : World) : Calls Tryz.prog 72 #[.int .i64 n] w fun e w' => ∃ fv, e = .returned (.tuple #[.agg #[.int .i64 (kindsI n), .int .i64 (wordsI n), fv], .bool (decide (0 ≤ n ∧ n ≤ 7))]) ∧ fv.oneCell' = true ∧ FnOf n fv w' ∧ Below w.heap.size w w' := by
  subst hn
  go_enter Tryz.func72, Tryz.ntmps72
  go_wp2
  refine bodyPost_ret (v := .tuple #[.agg #[.int .i64 2, .int .i64 1, .func (.func 141) #[] #[]], .bool true]) (by simp [results, Tryz.results72, go_sem]) rfl ⟨_, rfl, rfl, ?_, ?_⟩
  · refine ⟨fun h => ?_, fun h => ?_, fun h => ?_, fun h => ?_, fun h => ?_, fun h => ?_, fun h => ?_, fun h => ?_⟩ <;> first | (exact absurd h (by decide)) | rfl
  · (repeat' (first | exact Below.refl _ _ | assumption | refine Below.drew ?_ | refine below_drewN ?_ _ | refine Below.alloc ?_ (by simp <;> omega) _ | refine Below.setCell ?_ (by simp <;> omega) _))
set_option maxRecDepth 100000 in
set_option maxHeartbeats 1000000 in
theorem of_7 (n : Int) (hn : n = 7) (w : World) : Calls Tryz.prog 72 #[.int .i64 n] w fun e w' => ∃ fv, e = .returned (.tuple #[.agg #[.int .i64 (kindsI n), .int .i64 (wordsI n), fv], .bool (decide (0 ≤ n ∧ n ≤ 7))]) ∧ fv.oneCell' = true ∧ FnOf n fv w' ∧ Below w.heap.size w w' := by
  subst hn
  go_enter Tryz.func72, Tryz.ntmps72
  go_wp2
  refine bodyPost_ret (v := .tuple #[.agg #[.int .i64 2, .int .i64 8, .func (.func 142) #[] #[]], .bool true]) (by simp [results, Tryz.results72, go_sem]) rfl ⟨_, rfl, rfl, ?_, ?_⟩
  · refine ⟨fun h => ?_, fun h => ?_, fun h => ?_, fun h => ?_, fun h => ?_, fun h => ?_, fun h => ?_, fun h => ?_⟩ <;> first | (exact absurd h (by decide)) | rfl
  · (repeat' (first | exact Below.refl _ _ | assumption | refine Below.drew ?_ | refine below_drewN ?_ _ | refine Below.alloc ?_ (by simp <;> omega) _ | refine Below.setCell ?_ (by simp <;> omega) _))
set_option maxRecDepth 100000 in
set_option maxHeartbeats 1000000 in
theorem of_none (n : Int) (hn : ¬ (0 ≤ n ∧ n ≤ 7)) (w : World) : Calls Tryz.prog 72 #[.int .i64 n] w fun e w' => ∃ fv, e = .returned (.tuple #[.agg #[.int .i64 (kindsI n), .int .i64 (wordsI n), fv], .bool (decide (0 ≤ n ∧ n ≤ 7))]) ∧ fv.oneCell' = true ∧ FnOf n fv w' ∧ Below w.heap.size w w' := by
  have hk : kindsI n = 0 := by unfold kindsI; rw [if_neg (by omega), if_neg (by omega)]
  have hw : wordsI n = 0 := by unfold wordsI; rw [if_neg (by omega), if_neg (by omega), if_neg (by omega)]
  have hd : decide (0 ≤ n ∧ n ≤ 7) = false := decide_eq_false hn
  rw [hk, hw, hd]
  have HF : Hid (∀ fv w', FnOf n fv w') := fun fv w' => ⟨fun h => by omega, fun h => by omega, fun h => by omega, fun h => by omega, fun h => by omega, fun h => by omega, fun h => by omega, fun h => by omega⟩
  have e0 : (n == 0) = false := by simp; omega
  have e1 : (n == 1) = false := by simp; omega
  have e2 : (n == 2) = false := by simp; omega
  have e3 : (n == 3) = false := by simp; omega
  have e4 : (n == 4) = false := by simp; omega
  have e5 : (n == 5) = false := by simp; omega
  have e6 : (n == 6) = false := by simp; omega
  have e7 : (n == 7) = false := by simp; omega
  clear hk hw hd hn
  go_enter Tryz.func72, Tryz.ntmps72
  go_wp2
  refine bodyPost_ret (v := .tuple #[.agg #[.int .i64 0, .int .i64 0, .nilFunc], .bool false]) (by simp [results, Tryz.results72, go_sem]) rfl ⟨_, rfl, rfl, HF.out _ _, ?_⟩
  (repeat' (first | exact Below.refl _ _ | assumption | refine Below.drew ?_ | refine below_drewN ?_ _ | refine Below.alloc ?_ (by simp <;> omega) _ | refine Below.setCell ?_ (by simp <;> omega) _))
theorem of_any (n : Int) (w : World) : Calls Tryz.prog 72 #[.int .i64 n] w fun e w' => ∃ fv, e = .returned (.tuple #[.agg #[.int .i64 (kindsI n), .int .i64 (wordsI n), fv], .bool (decide (0 ≤ n ∧ n ≤ 7))]) ∧ fv.oneCell' = true ∧ FnOf n fv w' ∧ Below w.heap.size w w' := by
  by_cases hn : 0 ≤ n ∧ n ≤ 7
  · have h8 : n = 0 ∨ n = 1 ∨ n = 2 ∨ n = 3 ∨ n = 4 ∨ n = 5 ∨ n = 6 ∨ n = 7 := by omega
    rcases h8 with h | h | h | h | h | h | h | h
    · exact of_0 n h w
    · exact of_1 n h w
    · exact of_2 n h w
    · exact of_3 n h w
    · exact of_4 n h w
    · exact of_5 n h w
    · exact of_6 n h w
    · exact of_7 n h w
  · exact of_none n hn w
set_option maxHeartbeats 1000000 in
theorem kinds_any (n : Int) (w : World) : Calls Tryz.prog 174 #[.int .i64 n] w fun e w' => e = .returned (.int .i64 (kindsI n)) ∧ Below w.heap.size w w' := by
  obtain ⟨R, hR⟩ : ∃ R, kindsI n = R := ⟨_, rfl⟩
  have P := fun W => of_any n W
  rw [hR] at P ⊢
  go_enter Tryz.func174, Tryz.ntmps174
  go_wp2_with (go_at_call 72; refine (P _).mono ?_; rintro e w1 ⟨fv, rfl, hone, hfn, hb1⟩; have hst : ∀ (w : World) (a : Addr) (m : Mode), (store a fv m).run Tryz.prog w = stored Tryz.prog w a fv m := fun w a m => run_store _ w a fv m hone)
  go_ret
  exact ⟨rfl, hb1.alloc hb1.size _⟩
end Go.Proofs.YtmiimpmfkjcjlaaGreat

namespace Go.Proofs.YtmiimpmfkjcjlaaGreat
open Go.RowKit
structure Sp where
  kind : Int
  p : Int
  q : Int
def spEnc (s : Sp) : List Value := [.int .i64 s.kind, .int .i64 s.p, .int .i64 s.q]
abbrev spV (s : Sp) : Value := .agg #[.int .i64 s.kind, .int .i64 s.p, .int .i64 s.q]
abbrev SlSp := Sl spEnc 3
theorem spec_cells {w : World} {b p : Nat} {e : Sp} (h : CellsAt w b p (spEnc e)) :
    w.cell? ⟨b, p, none⟩ = some (.int .i64 e.kind) ∧ w.cell? ⟨b, p + 1, none⟩ = some (.int .i64 e.p) ∧ w.cell? ⟨b, p + 2, none⟩ = some (.int .i64 e.q) :=
  ⟨h 0 _ rfl, h 1 _ rfl, h 2 _ rfl⟩
end Go.Proofs.YtmiimpmfkjcjlaaGreat

namespace Go.Proofs.YtmiimpmfkjcjlaaGreat
open Go.RowKit
def actsT (k p : Int) : Int := if k = 0 then 4 else if k = 3 then 3 else if k = 7 then kindsI p else if 0 ≤ k ∧ k ≤ 9 then 2 else 0
def rightT (k p q : Int) : Bool :=
  if k = 0 ∨ k = 5 then decide (1 ≤ p) && decide (p ≤ 64) else if k = 4 then decide (1 ≤ p) && decide (p ≤ 12) else
  if k = 6 then decide (1 ≤ p) && (decide (p ≤ 16) && (decide (1 ≤ q) && decide (q ≤ 64))) else if k = 7 then decide (0 < kindsI p) && (decide (1 ≤ q) && decide (q ≤ 256)) else
  if k = 8 then decide (1 ≤ p) && (decide (p ≤ 32) && (decide (0 ≤ q) && decide (q ≤ 3))) else if k = 9 then decide (1 ≤ p) && decide (p ≤ 8) else true
def sizeT (n k p q : Int) : Int :=
  if k = 0 then p else if k = 1 then 1 else if k = 2 then n else if k = 3 then 1 else if k = 4 then 2 ^ p.toNat - 1 else if k = 5 then n + n * p * (n + 1) else
  if k = 6 then p + n * q * (p + 1) else if k = 7 then n + q else if k = 8 then 2 + n + 4 * (1 + n * p) else 1 + (n + 1) * (p + 1)
def sizeE (n : Int) (s : Sp) : Int := if ¬ (1 ≤ n ∧ n ≤ 16) then 1 else if ¬ (0 ≤ s.kind ∧ s.kind ≤ 9) then 9 else if rightT s.kind s.p s.q = false then 10 else 0
def sizeV (n : Int) (s : Sp) : Int := if sizeE n s = 0 then sizeT n s.kind s.p s.q else 0
theorem mul_bd {a b A B : Int} (ha0 : 0 ≤ a) (ha : a ≤ A) (hb0 : 0 ≤ b) (hb : b ≤ B) : 0 ≤ a * b ∧ a * b ≤ A * B :=
  ⟨Int.mul_nonneg ha0 hb0, Int.mul_le_mul ha hb hb0 (Int.le_trans ha0 ha)⟩
theorem pow_bd {p : Int} (h1 : 1 ≤ p) (h2 : p ≤ 12) : 2 ≤ (2 : Int) ^ p.toNat ∧ (2 : Int) ^ p.toNat ≤ 4096 := by
  obtain ⟨k, rfl⟩ := Int.eq_ofNat_of_zero_le (by omega : 0 ≤ p)
  rw [Int.toNat_natCast]
  have a := Nat.pow_le_pow_right (n := 2) (by decide) (show 1 ≤ k by omega)
  have b := Nat.pow_le_pow_right (n := 2) (by decide) (show k ≤ 12 by omega)
  have e : (2 : Int) ^ k = ((2 ^ k : Nat) : Int) := by simp
  rw [e]
  generalize 2 ^ k = m at *
  simp at a b
  omega
theorem size_bd {n k p q : Int} (hk0 : 0 ≤ k) (hk9 : k ≤ 9) (hn1 : 1 ≤ n) (hn2 : n ≤ 16) (hr : rightT k p q = true) : 1 ≤ sizeT n k p q ∧ sizeT n k p q ≤ 100000 := by
  unfold rightT at hr
  unfold sizeT
  repeat' split at hr
  all_goals simp at hr
  · split
    · omega
    · rename_i h h0
      obtain rfl : k = 5 := by omega
      simp
      have a := mul_bd (show 0 ≤ n by omega) hn2 (show 0 ≤ p by omega) hr.2
      have b := mul_bd a.1 a.2 (show 0 ≤ n + 1 by omega) (show n + 1 ≤ 17 by omega)
      omega
  · have := pow_bd hr.1 hr.2
    rename_i h; subst h; simp; omega
  · rename_i h; subst h; simp
    have a := mul_bd (show 0 ≤ n by omega) hn2 (show 0 ≤ q by omega) hr.2.2.2
    have b := mul_bd a.1 a.2 (show 0 ≤ p + 1 by omega) (show p + 1 ≤ 17 by omega)
    omega
  · rename_i h; subst h; simp; omega
  · rename_i h; subst h; simp
    have a := mul_bd (show 0 ≤ n by omega) hn2 (show 0 ≤ p by omega) hr.2.1
    omega
  · rename_i h; subst h; simp
    have a := mul_bd (show 0 ≤ n + 1 by omega) (show n + 1 ≤ 17 by omega) (show 0 ≤ p + 1 by omega) (show p + 1 ≤ 9 by omega)
    omega
  · have h9 : k = 1 ∨ k = 2 ∨ k = 3 := by omega
    rcases h9 with rfl | rfl | rfl <;> simp <;> omega
end Go.Proofs.YtmiimpmfkjcjlaaGreat

namespace Go.Proofs.YtmiimpmfkjcjlaaGreat
open Go.RowKit
attribute [local go_sem] run_store_fn run_store_nilfn
theorem cases8 (n : Int) : (n = 0 ∨ n = 1 ∨ n = 2 ∨ n = 3 ∨ n = 4 ∨ n = 5 ∨ n = 6 ∨ n = 7) ∨ ¬ (0 ≤ n ∧ n ≤ 7) := by omega
set_option maxHeartbeats 1000000 in
theorem refKinds_any (n : Int) (w : World) : Calls Tryz.prog 73 #[.int .i64 n] w fun e w' => e = .returned (.int .i64 (kindsI n)) ∧ Below w.heap.size w w' := by
  rcases cases8 n with (rfl | rfl | rfl | rfl | rfl | rfl | rfl | rfl) | hn
  iterate 8
    · go_enter Tryz.func73, Tryz.ntmps73
      go_wp2
      go_ret
      exact ⟨rfl, by (repeat' (first | exact Below.refl _ _ | assumption | refine Below.drew ?_ | refine below_drewN ?_ _ | refine Below.alloc ?_ (by simp <;> omega) _ | refine Below.setCell ?_ (by simp <;> omega) _))⟩
  · have hk : kindsI n = 0 := by unfold kindsI; rw [if_neg (by omega), if_neg (by omega)]
    rw [hk]
    clear hk
    by_cases h : n < 0
    · go_enter Tryz.func73, Tryz.ntmps73
      go_wp2
      go_ret
      exact ⟨rfl, by (repeat' (first | exact Below.refl _ _ | assumption | refine Below.drew ?_ | refine below_drewN ?_ _ | refine Below.alloc ?_ (by simp <;> omega) _ | refine Below.setCell ?_ (by simp <;> omega) _))⟩
    · have h7 : 7 < n := by omega
      go_enter Tryz.func73, Tryz.ntmps73
      go_wp2
      go_ret
      exact ⟨rfl, by (repeat' (first | exact Below.refl _ _ | assumption | refine Below.drew ?_ | refine below_drewN ?_ _ | refine Below.alloc ?_ (by simp <;> omega) _ | refine Below.setCell ?_ (by simp <;> omega) _))⟩
end Go.Proofs.YtmiimpmfkjcjlaaGreat

namespace Go.Proofs.YtmiimpmfkjcjlaaGreat
open Go.RowKit
attribute [local go_sem] run_store_fn run_store_nilfn
def newL (n : Int) : List Int := if n = 0 ∨ n = 1 ∨ n = 4 ∨ n = 5 ∨ n = 6 then [0] else if n = 7 then List.replicate 8 0 else []
def rightB17 (n : Int) (k : Nat) : Bool := if n = 0 ∨ n = 1 ∨ n = 4 ∨ n = 5 ∨ n = 6 then decide (k = 1) else if n = 2 ∨ n = 3 then decide (k ≤ 8) else decide (n = 7) && decide (k = 8)
theorem sl_zero1 (w : World) (t : TypeId) (g : Nat) (hg : g = w.heap.size) : SlW (w.alloc (.cells #[.int .u64 0] t)) (.slice (some ⟨g, 0, none⟩) 1 1) [0] := by
  subst hg
  refine Sl.of_block (xs := [0]) (heap_alloc_new _ _) (Nat.le_refl 1) (by decide) ?_
  intro k x hx j u hu
  rcases k with _ | k
  · cases hx; rcases j with _ | j <;> first | exact hu | cases hu
  · cases hx
theorem sl_zero8 (w : World) (t : TypeId) (g : Nat) (hg : g = w.heap.size) : SlW (w.alloc (.cells #[.int .u64 0, .int .u64 0, .int .u64 0, .int .u64 0, .int .u64 0, .int .u64 0, .int .u64 0, .int .u64 0] t)) (.slice (some ⟨g, 0, none⟩) 8 8) [0, 0, 0, 0, 0, 0, 0, 0] := by
  subst hg
  refine Sl.of_block (xs := [0, 0, 0, 0, 0, 0, 0, 0]) (heap_alloc_new _ _) (Nat.le_refl 8) (by decide) ?_
  intro k x hx j u hu
  rcases k with _ | _ | _ | _ | _ | _ | _ | _ | k <;> first | (cases hx; rcases j with _ | j <;> first | exact hu | cases hu) | cases hx
theorem sl_nothing (w : World) (A : Option Addr) (c : Nat) (hc : c = 0) : SlW w (.slice A 0 c) [] := ⟨A, c, rfl, Nat.zero_le _, by subst hc; decide, fun k x hx => by simp at hx⟩
theorem make8 (w : World) : (Instr.makeSlice 24 (.int .i64 8) (.int .i64 8)).run Tryz.prog w = .ok (.slice (some ⟨w.heap.size, 0, none⟩) 8 8) (w.alloc (.cells #[.int .u64 0, .int .u64 0, .int .u64 0, .int .u64 0, .int .u64 0, .int .u64 0, .int .u64 0, .int .u64 0] 25)) :=
  by
  have h := run_make_row' (P := Tryz.prog) 24 25 (.int .u64 0) 8 Tryz.underlying24 info_word rfl .i64 .i64 8 (by decide) (by decide) w
  have hm : madeCells #[Value.int .u64 0] 8 = #[.int .u64 0, .int .u64 0, .int .u64 0, .int .u64 0, .int .u64 0, .int .u64 0, .int .u64 0, .int .u64 0] := by kernel_rfl
  rw [hm] at h
  exact h
theorem make1 (w : World) : (Instr.makeSlice 24 (.int .i64 1) (.int .i64 1)).run Tryz.prog w = .ok (.slice (some ⟨w.heap.size, 0, none⟩) 1 1) (w.alloc (.cells #[.int .u64 0] 25)) :=
  by
  have h := run_make_row' (P := Tryz.prog) 24 25 (.int .u64 0) 8 Tryz.underlying24 info_word rfl .i64 .i64 1 (by decide) (by decide) w
  have hm : madeCells #[Value.int .u64 0] 1 = #[.int .u64 0] := by kernel_rfl
  rw [hm] at h
  exact h
theorem make0 (w : World) : (Instr.makeSlice 24 (.int .i64 0) (.int .i64 0)).run Tryz.prog w = .ok (.slice (some ⟨w.heap.size, 0, none⟩) 0 0) (w.alloc (.cells #[] 25)) :=
  by
  have h := run_make_row' (P := Tryz.prog) 24 25 (.int .u64 0) 8 Tryz.underlying24 info_word rfl .i64 .i64 0 (by decide) (by decide) w
  have hm : madeCells #[Value.int .u64 0] 0 = #[] := by kernel_rfl
  rw [hm] at h
  exact h
set_option maxRecDepth 100000 in
set_option maxHeartbeats 1000000 in
theorem refNew_any (n : Int) (w : World) : Calls Tryz.prog 42 #[.int .i64 n] w fun e w' => ∃ v, e = .returned v ∧ SlW w' v (newL n) ∧ Below w.heap.size w w' := by
  rcases cases8 n with (rfl | rfl | rfl | rfl | rfl | rfl | rfl | rfl) | hn
  iterate 8
    · go_enter Tryz.func42, Tryz.ntmps42
      have mk8 := make8
      go_wp2
      go_ret
      exact ⟨_, rfl, by first | exact sl_zero1 _ _ _ (by simp) | exact sl_zero8 _ _ _ (by simp) | exact sl_nothing _ _ _ rfl, by (repeat' (first | exact Below.refl _ _ | assumption | refine Below.drew ?_ | refine below_drewN ?_ _ | refine Below.alloc ?_ (by simp <;> omega) _ | refine Below.setCell ?_ (by simp <;> omega) _))⟩
  · have hk : newL n = [] := by unfold newL; rw [if_neg (by omega), if_neg (by omega)]
    rw [hk]
    have e0 : (n == 0) = false := by simp; omega
    have e1 : (n == 1) = false := by simp; omega
    have e2 : (n == 2) = false := by simp; omega
    have e3 : (n == 3) = false := by simp; omega
    have e4 : (n == 4) = false := by simp; omega
    have e5 : (n == 5) = false := by simp; omega
    have e6 : (n == 6) = false := by simp; omega
    have e7 : (n == 7) = false := by simp; omega
    clear hk
    go_enter Tryz.func42, Tryz.ntmps42
    have mk8 := make8
    go_wp2
    go_ret
    exact ⟨_, rfl, by first | exact sl_zero1 _ _ _ (by simp) | exact sl_zero8 _ _ _ (by simp) | exact sl_nothing _ _ _ rfl, by (repeat' (first | exact Below.refl _ _ | assumption | refine Below.drew ?_ | refine below_drewN ?_ _ | refine Below.alloc ?_ (by simp <;> omega) _ | refine Below.setCell ?_ (by simp <;> omega) _))⟩
set_option maxRecDepth 100000 in
set_option maxHeartbeats 1000000 in
theorem new_any (n : Int) (w : World) : Calls Tryz.prog 37 #[.int .i64 n] w fun e w' => ∃ v, e = .returned v ∧ SlW w' v (newL n) ∧ Below w.heap.size w w' := by
  have P := fun W => of_any n W
  have mk8 := make8
  have mk1 := make1
  have mk0 := make0
  rcases cases8 n with (rfl | rfl | rfl | rfl | rfl | rfl | rfl | rfl) | hn
  · have hk : kindsI 0 = 2 := by decide
    have hw : wordsI 0 = 1 := by decide
    rw [hk, hw] at P
    go_enter Tryz.func37, Tryz.ntmps37
    go_wp2_with (go_at_call 72; refine (P _).mono ?_; rintro e w1 ⟨fv, rfl, hone, hfn, hb1⟩; have hst : ∀ (w : World) (a : Addr) (m : Mode), (store a fv m).run Tryz.prog w = stored Tryz.prog w a fv m := fun w a m => run_store _ w a fv m hone)
    go_ret
    exact ⟨_, rfl, by first | exact sl_zero1 _ _ _ (by simp) | exact sl_zero8 _ _ _ (by simp) | exact sl_nothing _ _ _ rfl, (hb1.alloc hb1.size _).alloc (by have := hb1.size; simp; omega) _⟩
  · have hk : kindsI 1 = 2 := by decide
    have hw : wordsI 1 = 1 := by decide
    rw [hk, hw] at P
    go_enter Tryz.func37, Tryz.ntmps37
    go_wp2_with (go_at_call 72; refine (P _).mono ?_; rintro e w1 ⟨fv, rfl, hone, hfn, hb1⟩; have hst : ∀ (w : World) (a : Addr) (m : Mode), (store a fv m).run Tryz.prog w = stored Tryz.prog w a fv m := fun w a m => run_store _ w a fv m hone)
    go_ret
    exact ⟨_, rfl, by first | exact sl_zero1 _ _ _ (by simp) | exact sl_zero8 _ _ _ (by simp) | exact sl_nothing _ _ _ rfl, (hb1.alloc hb1.size _).alloc (by have := hb1.size; simp; omega) _⟩
  · have hk : kindsI 2 = 3 := by decide
    have hw : wordsI 2 = -1 := by decide
    rw [hk, hw] at P
    go_enter Tryz.func37, Tryz.ntmps37
    go_wp2_with (go_at_call 72; refine (P _).mono ?_; rintro e w1 ⟨fv, rfl, hone, hfn, hb1⟩; have hst : ∀ (w : World) (a : Addr) (m : Mode), (store a fv m).run Tryz.prog w = stored Tryz.prog w a fv m := fun w a m => run_store _ w a fv m hone)
    go_ret
    exact ⟨_, rfl, by first | exact sl_zero1 _ _ _ (by simp) | exact sl_zero8 _ _ _ (by simp) | exact sl_nothing _ _ _ rfl, (hb1.alloc hb1.size _).alloc (by have := hb1.size; simp; omega) _⟩
  · have hk : kindsI 3 = 3 := by decide
    have hw : wordsI 3 = -1 := by decide
    rw [hk, hw] at P
    go_enter Tryz.func37, Tryz.ntmps37
    go_wp2_with (go_at_call 72; refine (P _).mono ?_; rintro e w1 ⟨fv, rfl, hone, hfn, hb1⟩; have hst : ∀ (w : World) (a : Addr) (m : Mode), (store a fv m).run Tryz.prog w = stored Tryz.prog w a fv m := fun w a m => run_store _ w a fv m hone)
    go_ret
    exact ⟨_, rfl, by first | exact sl_zero1 _ _ _ (by simp) | exact sl_zero8 _ _ _ (by simp) | exact sl_nothing _ _ _ rfl, (hb1.alloc hb1.size _).alloc (by have := hb1.size; simp; omega) _⟩
  · have hk : kindsI 4 = 3 := by decide
    have hw : wordsI 4 = 1 := by decide
    rw [hk, hw] at P
    go_enter Tryz.func37, Tryz.ntmps37
    go_wp2_with (go_at_call 72; refine (P _).mono ?_; rintro e w1 ⟨fv, rfl, hone, hfn, hb1⟩; have hst : ∀ (w : World) (a : Addr) (m : Mode), (store a fv m).run Tryz.prog w = stored Tryz.prog w a fv m := fun w a m => run_store _ w a fv m hone)
    go_ret
    exact ⟨_, rfl, by first | exact sl_zero1 _ _ _ (by simp) | exact sl_zero8 _ _ _ (by simp) | exact sl_nothing _ _ _ rfl, (hb1.alloc hb1.size _).alloc (by have := hb1.size; simp; omega) _⟩
  · have hk : kindsI 5 = 2 := by decide
    have hw : wordsI 5 = 1 := by decide
    rw [hk, hw] at P
    go_enter Tryz.func37, Tryz.ntmps37
    go_wp2_with (go_at_call 72; refine (P _).mono ?_; rintro e w1 ⟨fv, rfl, hone, hfn, hb1⟩; have hst : ∀ (w : World) (a : Addr) (m : Mode), (store a fv m).run Tryz.prog w = stored Tryz.prog w a fv m := fun w a m => run_store _ w a fv m hone)
    go_ret
    exact ⟨_, rfl, by first | exact sl_zero1 _ _ _ (by simp) | exact sl_zero8 _ _ _ (by simp) | exact sl_nothing _ _ _ rfl, (hb1.alloc hb1.size _).alloc (by have := hb1.size; simp; omega) _⟩
  · have hk : kindsI 6 = 2 := by decide
    have hw : wordsI 6 = 1 := by decide
    rw [hk, hw] at P
    go_enter Tryz.func37, Tryz.ntmps37
    go_wp2_with (go_at_call 72; refine (P _).mono ?_; rintro e w1 ⟨fv, rfl, hone, hfn, hb1⟩; have hst : ∀ (w : World) (a : Addr) (m : Mode), (store a fv m).run Tryz.prog w = stored Tryz.prog w a fv m := fun w a m => run_store _ w a fv m hone)
    go_ret
    exact ⟨_, rfl, by first | exact sl_zero1 _ _ _ (by simp) | exact sl_zero8 _ _ _ (by simp) | exact sl_nothing _ _ _ rfl, (hb1.alloc hb1.size _).alloc (by have := hb1.size; simp; omega) _⟩
  · have hk : kindsI 7 = 2 := by decide
    have hw : wordsI 7 = 8 := by decide
    rw [hk, hw] at P
    go_enter Tryz.func37, Tryz.ntmps37
    go_wp2_with (go_at_call 72; refine (P _).mono ?_; rintro e w1 ⟨fv, rfl, hone, hfn, hb1⟩; have hst : ∀ (w : World) (a : Addr) (m : Mode), (store a fv m).run Tryz.prog w = stored Tryz.prog w a fv m := fun w a m => run_store _ w a fv m hone)
    go_ret
    exact ⟨_, rfl, by first | exact sl_zero1 _ _ _ (by simp) | exact sl_zero8 _ _ _ (by simp) | exact sl_nothing _ _ _ rfl, (hb1.alloc hb1.size _).alloc (by have := hb1.size; simp; omega) _⟩
  · have hk : kindsI n = 0 := by unfold kindsI; rw [if_neg (by omega), if_neg (by omega)]
    have hw : wordsI n = 0 := by unfold wordsI; rw [if_neg (by omega), if_neg (by omega), if_neg (by omega)]
    have hl : newL n = [] := by unfold newL; rw [if_neg (by omega), if_neg (by omega)]
    rw [hl]
    clear hl
    rw [hk, hw] at P
    go_enter Tryz.func37, Tryz.ntmps37
    go_wp2_with (go_at_call 72; refine (P _).mono ?_; rintro e w1 ⟨fv, rfl, hone, hfn, hb1⟩; have hst : ∀ (w : World) (a : Addr) (m : Mode), (store a fv m).run Tryz.prog w = stored Tryz.prog w a fv m := fun w a m => run_store _ w a fv m hone)
    go_ret
    exact ⟨_, rfl, by first | exact sl_zero1 _ _ _ (by simp) | exact sl_zero8 _ _ _ (by simp) | exact sl_nothing _ _ _ rfl, (hb1.alloc hb1.size _).alloc (by have := hb1.size; simp; omega) _⟩
end Go.Proofs.YtmiimpmfkjcjlaaGreat
