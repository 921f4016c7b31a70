import Derived.Test.YtmiimpmfkjcjlaaGreatBun4
import Derived.Test.YtmiimpmfkjcjlaaGreatBun1
import Derived.Maps.AppendAt
import Derived.Deep.AppendLies
import Derived.Lib.SliceRun
import Derived.OwnWalk
namespace Go.Proofs.YtmiimpmfkjcjlaaGreat
open Go.RowKit
attribute [local go_sem] run_store_fn run_store_nilfn
def setP (a : Int) : Int := 2 ^ a.toNat
def setH (x a : Int) : Int := x / setP a % 2
def setL (x kind a : Int) : List Int := if 64 ≤ a then [x] else if kind = 1 then (if setH x a = 0 then [x + setP a] else [x]) else if kind = 2 then (if setH x a = 1 then [x - setP a] else [x]) else [x]
def setE (a : Int) : Int := if 64 ≤ a then 10 else 0
def setV (x kind a : Int) : Int := if 64 ≤ a then 0 else if kind = 1 then 1 - setH x a else setH x a
structure SetFacts (x a p h : Int) : Prop where
  pos : 0 < p
  lt : p < 18446744073709551616
  shl : IntKind.u64.wrap (2 ^ a.toNat) = p
  q0 : 0 ≤ x / p
  q1 : x / p < 18446744073709551616
  and0 : h = 0 → bits .and .u64 x p = 0
  and1 : h = 1 → bits .and .u64 x p = p
  or0 : h = 0 → bits .or .u64 x p = x + p
  or1 : h = 0 → x + p < 18446744073709551616
  not0 : h = 1 → bits .andNot .u64 x p = x - p
  not1 : h = 1 → 0 ≤ x - p
theorem set_facts {x a : Int} (hx0 : 0 ≤ x) (hx1 : x < 18446744073709551616) (ha0 : 0 ≤ a) (ha1 : a < 64) : SetFacts x a (setP a) (setH x a) ∧ (setH x a = 0 ∨ setH x a = 1) := by
  obtain ⟨X, rfl⟩ := Int.eq_ofNat_of_zero_le hx0
  obtain ⟨i, rfl⟩ := Int.eq_ofNat_of_zero_le ha0
  have hX : X < 18446744073709551616 := by omega
  have hi : i < 64 := by omega
  have hP : setP (i : Int) = ((2 ^ i : Nat) : Int) := by unfold setP; simp
  have hH : setH X i = ((X / 2 ^ i % 2 : Nat) : Int) := by unfold setH; rw [hP]; simp
  have hp := pow_lt64 hi
  have hp0 : 0 < 2 ^ i := Nat.two_pow_pos i
  have hw := bit_wrap hi
  have hle : X / 2 ^ i ≤ X := Nat.div_le_self _ _
  have ha := bit_and hX hi
  rw [hP, hH]
  have hcast : (X : Int) / ((2 ^ i : Nat) : Int) = ((X / 2 ^ i : Nat) : Int) := by simp
  refine ⟨⟨by omega, by omega, ?_, by rw [hcast]; exact Int.natCast_nonneg _, by rw [hcast]; exact Int.ofNat_lt.2 (Nat.lt_of_le_of_lt hle hX), fun h => ?_, fun h => ?_, fun h => ?_, fun h => ?_, fun h => ?_, fun h => ?_⟩, by omega⟩
  · rw [Int.toNat_natCast]; exact hw
  · rw [ha, show X / 2 ^ i % 2 = 0 by omega]; simp
  · rw [ha, show X / 2 ^ i % 2 = 1 by omega]; simp
  · rw [bit_or hX hi (by omega)]; simp
  · have := or_lt hX hi (by omega); omega
  · have := andNot_le (x := X) (i := i) (by omega)
    rw [bit_andNot hX hi (by omega), Int.ofNat_sub this]
  · have := andNot_le (x := X) (i := i) (by omega); omega
set_option maxRecDepth 100000 in
set_option maxHeartbeats 4000000 in
theorem sets_any (v : Value) (x kind a : Int) (w : World) (hv : SlW w v [x]) (hx0 : 0 ≤ x) (hx1 : x < 18446744073709551616) (ha0 : 0 ≤ a) (ha1 : a < 18446744073709551616) (hk : kind = 0 ∨ kind = 1 ∨ kind = 2) :
    Calls Tryz.prog 139 #[v, .int .i64 kind, .int .u64 a] w fun e w' => ∃ u, e = .returned (.tuple #[u, .agg #[.int .i64 (setE a), .int .u64 (setV x kind a), .slice none 0 0]]) ∧ SlW w' u (setL x kind a) ∧ Below w.heap.size w w' := by
  have hv' := hv
  obtain ⟨A, c, rfl, h1, h2, h3⟩ := hv
  obtain ⟨b, o, rfl, hb, hc⟩ := h3 0 x rfl
  have c0 := nt_cell hc
  simp only [Nat.zero_mul, Nat.add_zero] at c0
  clear h3 hc
  by_cases h64 : 64 ≤ a
  · have hE : setE a = 10 := by unfold setE; rw [if_pos h64]
    have hV : setV x kind a = 0 := by unfold setV; rw [if_pos h64]
    have hL : setL x kind a = [x] := by unfold setL; rw [if_pos h64]
    rw [hE, hV, hL]
    clear hE hV hL hk
    go_enter Tryz.func139, Tryz.ntmps139
    go_wp2_with (go_at_call 193; refine (no_any _ _).mono ?_; rintro e w1 ⟨rfl, rfl⟩)
    refine bodyPost_ret (v := .tuple #[.slice (some ⟨b, o, none⟩) 1 c, .agg #[.int .i64 10, .int .u64 0, .slice none 0 0]]) (by simp [results, Tryz.results139, go_sem]) rfl ⟨_, rfl, hv'.below (B := w.heap.size) ?_ (Nat.le_refl _), ?_⟩
    · (repeat' (first | exact Below.refl _ _ | assumption | refine Below.drew ?_ | refine below_drewN ?_ _ | refine Below.alloc ?_ (by simp <;> omega) _ | refine Below.setCell ?_ (by simp <;> omega) _))
    · (repeat' (first | exact Below.refl _ _ | assumption | refine Below.drew ?_ | refine below_drewN ?_ _ | refine Below.alloc ?_ (by simp <;> omega) _ | refine Below.setCell ?_ (by simp <;> omega) _))
  · have hE : setE a = 0 := by unfold setE; rw [if_neg h64]
    rw [hE]
    clear hE
    obtain ⟨F, h01⟩ := set_facts hx0 hx1 ha0 (by omega)
    have hV : setV x kind a = if kind = 1 then 1 - setH x a else setH x a := by unfold setV; rw [if_neg h64]
    have hL : setL x kind a = if kind = 1 then (if setH x a = 0 then [x + setP a] else [x]) else if kind = 2 then (if setH x a = 1 then [x - setP a] else [x]) else [x] := by unfold setL; rw [if_neg h64]
    rw [hV, hL]
    clear hV hL
    generalize setH x a = h at *
    generalize setP a = p at *
    have p0 := F.pos
    have p1 := F.lt
    have hshl := F.shl
    rcases h01 with rfl | rfl
    · have hand := F.and0 rfl
      have hor := F.or0 rfl
      have hor1 := F.or1 rfl
      clear F
      rcases hk with rfl | rfl | rfl
      · simp only [show ¬ ((0 : Int) = 1) by decide, show ¬ ((0 : Int) = 2) by decide, if_false]
        go_enter Tryz.func139, Tryz.ntmps139
        go_wp2_with (go_at_call 191; refine (ok_any _ _).mono ?_; rintro e w1 ⟨rfl, rfl⟩)
        refine bodyPost_ret (v := .tuple #[.slice (some ⟨b, o, none⟩) 1 c, .agg #[.int .i64 0, .int .u64 0, .slice none 0 0]]) (by simp [results, Tryz.results139, go_sem]) rfl ⟨_, rfl, hv'.below (B := w.heap.size) ?_ (Nat.le_refl _), ?_⟩
        · (repeat' (first | exact Below.refl _ _ | assumption | refine Below.drew ?_ | refine below_drewN ?_ _ | refine Below.alloc ?_ (by simp <;> omega) _ | refine Below.setCell ?_ (by simp <;> omega) _))
        · (repeat' (first | exact Below.refl _ _ | assumption | refine Below.drew ?_ | refine below_drewN ?_ _ | refine Below.alloc ?_ (by simp <;> omega) _ | refine Below.setCell ?_ (by simp <;> omega) _))
      · simp only [if_true, Int.sub_zero]
        go_enter Tryz.func139, Tryz.ntmps139
        go_wp2_with (go_at_call 191; refine (ok_any _ _).mono ?_; rintro e w1 ⟨rfl, rfl⟩)
        refine wp_region_seq (fun w' => Below w.heap.size w w') (.take 0 <| .take 1 <| .take 2 <| .take 3 <| .take 4 <| .fork 5 (.run 6 <| .take 7 <| .run 8 <| .done) 6 (.run 5 <| .take 7 <| .run 8 <| .done)) (by kernel_rfl) (by kernel_rfl) (by kernel_rfl) (by (repeat' (first | exact Below.refl _ _ | assumption | refine Below.drew ?_ | refine below_drewN ?_ _ | refine Below.alloc ?_ (by simp <;> omega) _ | refine Below.setCell ?_ (by simp <;> omega) _))) ?_
        repeat (first | (refine seq_take (v := ?_) rfl (by rfl) ?_ ?_; rotate_left; (focus (intro wS hS; replace hS := bcellc hS; go_simp; exact rfl)); simp only [Act.put, sqA, sqB, sqC]) | (refine seq_skip rfl (by rfl) ?_; simp only [Act.put, sqA, sqB, sqC]) | (refine seq_pass rfl (by rfl) (by assumption) ?_; simp only [Act.put, sqA, sqB, sqC]))
        refine seq_fork ?_ ?_
        · (refine seq_run rfl (by rfl) (fun K hK => ?_); go_simp)
          refine hK _ _ (by (repeat' (first | exact Below.refl _ _ | assumption | refine Below.drew ?_ | refine below_drewN ?_ _ | refine Below.alloc ?_ (by simp <;> omega) _ | refine Below.setCell ?_ (by simp <;> omega) _))) ?_
          clear hK K
          (refine seq_run rfl (by rfl) (fun K hK => ?_); go_simp)
          refine (ok_any _ _).mono ?_
          rintro e w1 ⟨rfl, rfl⟩
          refine hK _ _ (by (repeat' (first | exact Below.refl _ _ | assumption | refine Below.drew ?_ | refine below_drewN ?_ _ | refine Below.alloc ?_ (by simp <;> omega) _ | refine Below.setCell ?_ (by simp <;> omega) _))) ?_
          clear hK K
          repeat (first | (refine seq_take (v := ?_) rfl (by rfl) ?_ ?_; rotate_left; (focus (intro wS hS; replace hS := bcellc hS; go_simp; exact rfl)); simp only [Act.put, sqA, sqB, sqC]) | (refine seq_skip rfl (by rfl) ?_; simp only [Act.put, sqA, sqB, sqC]) | (refine seq_pass rfl (by rfl) (by assumption) ?_; simp only [Act.put, sqA, sqB, sqC]))
          (refine seq_run rfl (by rfl) (fun K hK => ?_); go_simp)
          refine hK _ _ (by (repeat' (first | exact Below.refl _ _ | assumption | refine Below.drew ?_ | refine below_drewN ?_ _ | refine Below.alloc ?_ (by simp <;> omega) _ | refine Below.setCell ?_ (by simp <;> omega) _))) ?_
          clear hK K
          refine seq_nil ?_
          go_wp2
          refine bodyPost_ret (v := .tuple #[.slice (some ⟨w.heap.size + 1, 0, none⟩) 1 1, .agg #[.int .i64 0, .int .u64 1, .slice none 0 0]]) (by simp [results, Tryz.results139, go_sem]; done) rfl ⟨_, rfl, sl_one (by go_simp; done) (by simp <;> omega), ?_⟩
          (repeat' (first | exact Below.refl _ _ | assumption | refine Below.drew ?_ | refine below_drewN ?_ _ | refine Below.alloc ?_ (by simp <;> omega) _ | refine Below.setCell ?_ (by simp <;> omega) _))
        · (refine seq_run rfl (by rfl) (fun K hK => ?_); go_simp)
          refine (ok_any _ _).mono ?_
          rintro e w1 ⟨rfl, rfl⟩
          refine hK _ _ (by (repeat' (first | exact Below.refl _ _ | assumption | refine Below.drew ?_ | refine below_drewN ?_ _ | refine Below.alloc ?_ (by simp <;> omega) _ | refine Below.setCell ?_ (by simp <;> omega) _))) ?_
          clear hK K
          (refine seq_run rfl (by rfl) (fun K hK => ?_); go_simp)
          refine hK _ _ (by (repeat' (first | exact Below.refl _ _ | assumption | refine Below.drew ?_ | refine below_drewN ?_ _ | refine Below.alloc ?_ (by simp <;> omega) _ | refine Below.setCell ?_ (by simp <;> omega) _))) ?_
          clear hK K
          repeat (first | (refine seq_take (v := ?_) rfl (by rfl) ?_ ?_; rotate_left; (focus (intro wS hS; replace hS := bcellc hS; go_simp; exact rfl)); simp only [Act.put, sqA, sqB, sqC]) | (refine seq_skip rfl (by rfl) ?_; simp only [Act.put, sqA, sqB, sqC]) | (refine seq_pass rfl (by rfl) (by assumption) ?_; simp only [Act.put, sqA, sqB, sqC]))
          (refine seq_run rfl (by rfl) (fun K hK => ?_); go_simp)
          refine hK _ _ (by (repeat' (first | exact Below.refl _ _ | assumption | refine Below.drew ?_ | refine below_drewN ?_ _ | refine Below.alloc ?_ (by simp <;> omega) _ | refine Below.setCell ?_ (by simp <;> omega) _))) ?_
          clear hK K
          refine seq_nil ?_
          go_wp2
          refine bodyPost_ret (v := .tuple #[.slice (some ⟨w.heap.size + 1 + 1, 0, none⟩) 1 1, .agg #[.int .i64 0, .int .u64 1, .slice none 0 0]]) (by simp [results, Tryz.results139, go_sem]; done) rfl ⟨_, rfl, sl_one (by go_simp; done) (by simp <;> omega), ?_⟩
          (repeat' (first | exact Below.refl _ _ | assumption | refine Below.drew ?_ | refine below_drewN ?_ _ | refine Below.alloc ?_ (by simp <;> omega) _ | refine Below.setCell ?_ (by simp <;> omega) _))
      · simp only [show ¬ ((2 : Int) = 1) by decide, show ¬ ((0 : Int) = 1) by decide, if_false, if_true]
        go_enter Tryz.func139, Tryz.ntmps139
        go_wp2_with (go_at_call 191; refine (ok_any _ _).mono ?_; rintro e w1 ⟨rfl, rfl⟩)
        refine bodyPost_ret (v := .tuple #[.slice (some ⟨b, o, none⟩) 1 c, .agg #[.int .i64 0, .int .u64 0, .slice none 0 0]]) (by simp [results, Tryz.results139, go_sem]) rfl ⟨_, rfl, hv'.below (B := w.heap.size) ?_ (Nat.le_refl _), ?_⟩
        · (repeat' (first | exact Below.refl _ _ | assumption | refine Below.drew ?_ | refine below_drewN ?_ _ | refine Below.alloc ?_ (by simp <;> omega) _ | refine Below.setCell ?_ (by simp <;> omega) _))
        · (repeat' (first | exact Below.refl _ _ | assumption | refine Below.drew ?_ | refine below_drewN ?_ _ | refine Below.alloc ?_ (by simp <;> omega) _ | refine Below.setCell ?_ (by simp <;> omega) _))
    · have hand := F.and1 rfl
      have hnot := F.not0 rfl
      have hnot1 := F.not1 rfl
      have hpn : (p != 0) = true := by simp; omega
      clear F
      rcases hk with rfl | rfl | rfl
      · simp only [show ¬ ((0 : Int) = 1) by decide, show ¬ ((0 : Int) = 2) by decide, if_false]
        go_enter Tryz.func139, Tryz.ntmps139
        go_wp2_with (go_at_call 191; refine (ok_any _ _).mono ?_; rintro e w1 ⟨rfl, rfl⟩)
        refine bodyPost_ret (v := .tuple #[.slice (some ⟨b, o, none⟩) 1 c, .agg #[.int .i64 0, .int .u64 1, .slice none 0 0]]) (by simp [results, Tryz.results139, go_sem]) rfl ⟨_, rfl, hv'.below (B := w.heap.size) ?_ (Nat.le_refl _), ?_⟩
        · (repeat' (first | exact Below.refl _ _ | assumption | refine Below.drew ?_ | refine below_drewN ?_ _ | refine Below.alloc ?_ (by simp <;> omega) _ | refine Below.setCell ?_ (by simp <;> omega) _))
        · (repeat' (first | exact Below.refl _ _ | assumption | refine Below.drew ?_ | refine below_drewN ?_ _ | refine Below.alloc ?_ (by simp <;> omega) _ | refine Below.setCell ?_ (by simp <;> omega) _))
      · simp only [show ¬ ((1 : Int) = 0) by decide, if_true, if_false, Int.sub_self]
        go_enter Tryz.func139, Tryz.ntmps139
        go_wp2_with (go_at_call 191; refine (ok_any _ _).mono ?_; rintro e w1 ⟨rfl, rfl⟩)
        refine bodyPost_ret (v := .tuple #[.slice (some ⟨b, o, none⟩) 1 c, .agg #[.int .i64 0, .int .u64 0, .slice none 0 0]]) (by simp [results, Tryz.results139, go_sem]) rfl ⟨_, rfl, hv'.below (B := w.heap.size) ?_ (Nat.le_refl _), ?_⟩
        · (repeat' (first | exact Below.refl _ _ | assumption | refine Below.drew ?_ | refine below_drewN ?_ _ | refine Below.alloc ?_ (by simp <;> omega) _ | refine Below.setCell ?_ (by simp <;> omega) _))
        · (repeat' (first | exact Below.refl _ _ | assumption | refine Below.drew ?_ | refine below_drewN ?_ _ | refine Below.alloc ?_ (by simp <;> omega) _ | refine Below.setCell ?_ (by simp <;> omega) _))
      · simp only [show ¬ ((2 : Int) = 1) by decide, if_false, if_true]
        go_enter Tryz.func139, Tryz.ntmps139
        go_wp2_with (go_at_call 191; refine (ok_any _ _).mono ?_; rintro e w1 ⟨rfl, rfl⟩)
        refine wp_region_seq (fun w' => Below w.heap.size w w') (.take 0 <| .take 1 <| .take 2 <| .take 3 <| .take 4 <| .fork 5 (.run 6 <| .take 7 <| .run 8 <| .done) 6 (.run 5 <| .take 7 <| .run 8 <| .done)) (by kernel_rfl) (by kernel_rfl) (by kernel_rfl) (by (repeat' (first | exact Below.refl _ _ | assumption | refine Below.drew ?_ | refine below_drewN ?_ _ | refine Below.alloc ?_ (by simp <;> omega) _ | refine Below.setCell ?_ (by simp <;> omega) _))) ?_
        repeat (first | (refine seq_take (v := ?_) rfl (by rfl) ?_ ?_; rotate_left; (focus (intro wS hS; replace hS := bcellc hS; go_simp; exact rfl)); simp only [Act.put, sqA, sqB, sqC]) | (refine seq_skip rfl (by rfl) ?_; simp only [Act.put, sqA, sqB, sqC]) | (refine seq_pass rfl (by rfl) (by assumption) ?_; simp only [Act.put, sqA, sqB, sqC]))
        refine seq_fork ?_ ?_
        · (refine seq_run rfl (by rfl) (fun K hK => ?_); go_simp)
          refine hK _ _ (by (repeat' (first | exact Below.refl _ _ | assumption | refine Below.drew ?_ | refine below_drewN ?_ _ | refine Below.alloc ?_ (by simp <;> omega) _ | refine Below.setCell ?_ (by simp <;> omega) _))) ?_
          clear hK K
          (refine seq_run rfl (by rfl) (fun K hK => ?_); go_simp)
          refine (ok_any _ _).mono ?_
          rintro e w1 ⟨rfl, rfl⟩
          refine hK _ _ (by (repeat' (first | exact Below.refl _ _ | assumption | refine Below.drew ?_ | refine below_drewN ?_ _ | refine Below.alloc ?_ (by simp <;> omega) _ | refine Below.setCell ?_ (by simp <;> omega) _))) ?_
          clear hK K
          repeat (first | (refine seq_take (v := ?_) rfl (by rfl) ?_ ?_; rotate_left; (focus (intro wS hS; replace hS := bcellc hS; go_simp; exact rfl)); simp only [Act.put, sqA, sqB, sqC]) | (refine seq_skip rfl (by rfl) ?_; simp only [Act.put, sqA, sqB, sqC]) | (refine seq_pass rfl (by rfl) (by assumption) ?_; simp only [Act.put, sqA, sqB, sqC]))
          (refine seq_run rfl (by rfl) (fun K hK => ?_); go_simp)
          refine hK _ _ (by (repeat' (first | exact Below.refl _ _ | assumption | refine Below.drew ?_ | refine below_drewN ?_ _ | refine Below.alloc ?_ (by simp <;> omega) _ | refine Below.setCell ?_ (by simp <;> omega) _))) ?_
          clear hK K
          refine seq_nil ?_
          go_wp2
          refine bodyPost_ret (v := .tuple #[.slice (some ⟨w.heap.size + 1, 0, none⟩) 1 1, .agg #[.int .i64 0, .int .u64 1, .slice none 0 0]]) (by simp [results, Tryz.results139, go_sem]; done) rfl ⟨_, rfl, sl_one (by go_simp; done) (by simp <;> omega), ?_⟩
          (repeat' (first | exact Below.refl _ _ | assumption | refine Below.drew ?_ | refine below_drewN ?_ _ | refine Below.alloc ?_ (by simp <;> omega) _ | refine Below.setCell ?_ (by simp <;> omega) _))
        · (refine seq_run rfl (by rfl) (fun K hK => ?_); go_simp)
          refine (ok_any _ _).mono ?_
          rintro e w1 ⟨rfl, rfl⟩
          refine hK _ _ (by (repeat' (first | exact Below.refl _ _ | assumption | refine Below.drew ?_ | refine below_drewN ?_ _ | refine Below.alloc ?_ (by simp <;> omega) _ | refine Below.setCell ?_ (by simp <;> omega) _))) ?_
          clear hK K
          (refine seq_run rfl (by rfl) (fun K hK => ?_); go_simp)
          refine hK _ _ (by (repeat' (first | exact Below.refl _ _ | assumption | refine Below.drew ?_ | refine below_drewN ?_ _ | refine Below.alloc ?_ (by simp <;> omega) _ | refine Below.setCell ?_ (by simp <;> omega) _))) ?_
          clear hK K
          repeat (first | (refine seq_take (v := ?_) rfl (by rfl) ?_ ?_; rotate_left; (focus (intro wS hS; replace hS := bcellc hS; go_simp; exact rfl)); simp only [Act.put, sqA, sqB, sqC]) | (refine seq_skip rfl (by rfl) ?_; simp only [Act.put, sqA, sqB, sqC]) | (refine seq_pass rfl (by rfl) (by assumption) ?_; simp only [Act.put, sqA, sqB, sqC]))
          (refine seq_run rfl (by rfl) (fun K hK => ?_); go_simp)
          refine hK _ _ (by (repeat' (first | exact Below.refl _ _ | assumption | refine Below.drew ?_ | refine below_drewN ?_ _ | refine Below.alloc ?_ (by simp <;> omega) _ | refine Below.setCell ?_ (by simp <;> omega) _))) ?_
          clear hK K
          refine seq_nil ?_
          go_wp2
          refine bodyPost_ret (v := .tuple #[.slice (some ⟨w.heap.size + 1 + 1, 0, none⟩) 1 1, .agg #[.int .i64 0, .int .u64 1, .slice none 0 0]]) (by simp [results, Tryz.results139, go_sem]; done) rfl ⟨_, rfl, sl_one (by go_simp; done) (by simp <;> omega), ?_⟩
          (repeat' (first | exact Below.refl _ _ | assumption | refine Below.drew ?_ | refine below_drewN ?_ _ | refine Below.alloc ?_ (by simp <;> omega) _ | refine Below.setCell ?_ (by simp <;> omega) _))
end Go.Proofs.YtmiimpmfkjcjlaaGreat

namespace Go.Proofs.YtmiimpmfkjcjlaaGreat
open Go.RowKit
theorem cells3 {w : World} {g : Nat} {x y z : Value} {t : TypeId} (h : w.heap[g]? = some (.cells #[x, y, z] t (0, 0))) :
    w.cell? ⟨g, 0, none⟩ = some x ∧ w.cell? ⟨g, 1, none⟩ = some y ∧ w.cell? ⟨g, 2, none⟩ = some z ∧ w.frozen? ⟨g, 0, none⟩ = false ∧ w.frozen? ⟨g, 1, none⟩ = false ∧ w.frozen? ⟨g, 2, none⟩ = false ∧ g < w.heap.size :=
  ⟨cell_of_row w g 0 _ t _ h, cell_of_row w g 1 _ t _ h, cell_of_row w g 2 _ t _ h, frozen_of_row w g 0 _ t h, frozen_of_row w g 1 _ t h, frozen_of_row w g 2 _ t h, (Array.getElem?_eq_some_iff.1 h).1⟩
theorem cells4 {w : World} {g : Nat} {x y z u : Value} {t : TypeId} (h : w.heap[g]? = some (.cells #[x, y, z, u] t (0, 0))) :
    w.cell? ⟨g, 0, none⟩ = some x ∧ w.cell? ⟨g, 1, none⟩ = some y ∧ w.cell? ⟨g, 2, none⟩ = some z ∧ w.cell? ⟨g, 3, none⟩ = some u ∧ g < w.heap.size :=
  ⟨cell_of_row w g 0 _ t _ h, cell_of_row w g 1 _ t _ h, cell_of_row w g 2 _ t _ h, cell_of_row w g 3 _ t _ h, (Array.getElem?_eq_some_iff.1 h).1⟩
theorem new_one (w : World) (x : Value) (t : TypeId) : ∀ (j : Nat) (u : Value), [x][j]? = some u → (w.alloc (.cells #[x] t)).cell? ((⟨w.heap.size, 0, none⟩ : Addr).add j) = some u := by
  intro j u hu
  rcases j with _ | j
  · cases hu
    go_simp
  · cases hu
def psum (xs : List Int) (k : Nat) : Int := (xs.take k).sum
theorem psum_zero (xs : List Int) : psum xs 0 = 0 := by simp [psum]
theorem psum_succ {xs : List Int} {k : Nat} {x : Int} (h : xs[k]? = some x) : psum xs (k + 1) = psum xs k + x := by
  unfold psum
  rw [List.take_add_one, h]
  simp [List.sum_append]
theorem psum_mono {xs : List Int} (hx : ∀ x ∈ xs, 0 ≤ x) {j k : Nat} (h : j ≤ k) : psum xs j ≤ psum xs k := by
  induction k with
  | zero => obtain rfl : j = 0 := by omega
            exact Int.le_refl _
  | succ k ih =>
    rcases Nat.lt_or_ge k j with h' | h'
    · obtain rfl : j = k + 1 := by omega
      exact Int.le_refl _
    · have := ih h'
      rcases hk : xs[k]? with _ | x
      · have e : psum xs (k + 1) = psum xs k := by
          unfold psum
          rw [List.take_add_one, hk]
          simp
        omega
      · rw [psum_succ hk]
        have := hx x (List.mem_of_getElem? hk)
        omega
theorem psum_all (xs : List Int) : psum xs xs.length = xs.sum := by unfold psum; rw [List.take_length]
def begins (xs : List Int) (k : Nat) : List Int := (List.range k).map (psum xs)
theorem begins_succ (xs : List Int) (k : Nat) : begins xs (k + 1) = begins xs k ++ [psum xs k] := by unfold begins; rw [List.range_succ, List.map_append]; rfl
theorem begins_length (xs : List Int) (k : Nat) : (begins xs k).length = k := by simp [begins]
end Go.Proofs.YtmiimpmfkjcjlaaGreat

namespace Go.Proofs.YtmiimpmfkjcjlaaGreat
open Go.RowKit
theorem wp_append_own_at {P : Program} {w : World} {o : Oper} {a : Act} {K : Act → World → Prop} {Q : Exit → Act → World → Prop} (s x : Operand) (t : TypeId)
    (ho : o.op = .call { callee := .builtin .append, args := #[s, x], argTypes := #[t, t] })
    (base : Nat) (e : TypeId) (i : TypeInfo) (z : Value) (size bytes : Nat) (ht : P.underlying t = some (.slice e)) (hi : P.info? e = some i) (hz : i.zero = some z)
    (hsize : i.size = size) (hby : i.bytes = bytes) (hzs : z.cells.size = size) (hsz : 0 < size)
    (v : Value) (n : Nat) (xs : List Value) (hs : a.eval s = v) (hown : w.ownsRow base e size v n xs)
    (ad : Addr) (m c : Nat) (news : List Value) (hx : a.eval x = .slice (some ad) m c) (hl : news.length = m * size) (hnews : ∀ (j : Nat) (u : Value), news[j]? = some u → w.cell? (ad.add j) = some u) (h1 : ∀ u ∈ news, u.oneCell' = true)
    (h63 : n + m ≤ maxLen) (hbytes : (n + m) * bytes ≤ 140737488355328) (hbase : base ≤ w.heap.size)
    (h : ∀ v' w', w'.ownsRow base e size v' (n + m) (xs ++ news) → w.grownBy w' v.ownBlock → (v' = .slice none 0 0 ↔ v = .slice none 0 0 ∧ m = 0) → (v'.ownBlock = v.ownBlock ∨ v'.ownBlock = some w.heap.size) → K (a.put o.dst v') w') :
    Oper.wp P o a w K Q := by
  obtain ⟨v', w', hr, h2, h3, h4, h5⟩ := run_append_own_at (P := P) w base t o.type e i z size bytes ht hi hz hsize hby hzs hsz v n xs hown ad m c news hl hnews h1 h63 hbytes hbase
  unfold Oper.wp execOp
  simp only [ho, resolve, invoke, builtin, Sem.run_bind, Sem.run_pure, Result.andThen_ok, List.map_toArray, List.map_cons, List.map_nil, hs, hx, hr]
  exact h _ _ h2 h3 h4 h5
section
variable {P : Program} {w : World} {kk : IntKind}
theorem run_append_null (base : Nat) (t ty e : TypeId) (i : TypeInfo) (size : Nat) (ht : P.underlying t = some (.slice e)) (hi : P.info? e = some i)
    {v : Value} {n : Nat} {xs : List Value} (hown : w.ownsRow base e size v n xs) (c : Nat) : (Builtin.append_ #[t, t] ty #[v, .slice none 0 c]).run P w = .ok v w := by
  have hcell : ∀ cap : Nat, n ≤ cap → ¬ cap < n := fun cap h => Nat.not_lt.2 h
  obtain ⟨_, ⟨rfl, rfl⟩ | ⟨g, cap, cur, rfl, _, _, hle, _⟩⟩ := hown
  · simp [Builtin.append_, run_underlying ht, sizeOf, typeInfo, hi, Builtin.lenOf, Builtin.firstCells]
  · simp [Builtin.append_, run_underlying ht, sizeOf, typeInfo, hi, Builtin.lenOf, Builtin.firstCells, storeCells, hle]
theorem sl_news {A : Option Addr} {m c : Nat} {ys : List Int} (h : Sl (ntEnc kk) 1 w (.slice A m c) ys) {ad : Addr} (hA : A = some ad) :
    ∀ (j : Nat) (u : Value), (ys.map (Value.int kk))[j]? = some u → w.cell? (ad.add j) = some u := by
  intro j u hu
  rw [List.getElem?_map] at hu
  rcases hy : ys[j]? with _ | y
  · rw [hy] at hu; cases hu
  · rw [hy] at hu
    cases hu
    obtain ⟨A', c', e, _, _, h3⟩ := h
    obtain ⟨b, o, e', _, hc⟩ := h3 j y hy
    cases e
    subst hA
    cases e'
    rw [Addr.add_lit]
    have := nt_cell hc
    simpa only [Nat.mul_one] using this
theorem sl_len {A : Option Addr} {m c : Nat} {ys : List Int} (h : Sl (ntEnc kk) 1 w (.slice A m c) ys) : m = ys.length := by
  obtain ⟨A', c', e, _⟩ := h
  cases e
  rfl
theorem sl_null {m c : Nat} {ys : List Int} (h : Sl (ntEnc kk) 1 w (.slice none m c) ys) : ys = [] := by
  obtain ⟨A', c', e, _, _, h3⟩ := h
  cases e
  rcases ys with _ | ⟨y, l⟩
  · rfl
  · obtain ⟨b, o, e', _⟩ := h3 0 y rfl
    cases e'
theorem run_append_sl (base : Nat) (t ty e : TypeId) (i : TypeInfo) (z : Value) (bytes : Nat) (ht : P.underlying t = some (.slice e)) (hi : P.info? e = some i) (hz : i.zero = some z) (hsize : i.size = 1) (hby : i.bytes = bytes) (hzs : z.cells.size = 1)
    {v : Value} {n : Nat} {xs : List Int} (hown : w.ownsRow base e 1 v n (xs.map (Value.int kk))) {A : Option Addr} {m c : Nat} {ys : List Int} (hs : Sl (ntEnc kk) 1 w (.slice A m c) ys)
    (h63 : n + ys.length ≤ maxLen) (hbytes : (n + ys.length) * bytes ≤ 140737488355328) (hbase : base ≤ w.heap.size) :
    ∃ v' w', (Builtin.append_ #[t, t] ty #[v, .slice A m c]).run P w = .ok v' w' ∧ w'.ownsRow base e 1 v' (n + ys.length) ((xs ++ ys).map (Value.int kk)) ∧ w.grownBy w' v.ownBlock ∧ (v'.ownBlock = v.ownBlock ∨ v'.ownBlock = some w.heap.size) := by
  have hm := sl_len hs
  rcases A with _ | ad
  · have hy := sl_null hs
    subst hy
    have : m = 0 := hm
    subst this
    exact ⟨v, w, run_append_null base t ty e i 1 ht hi hown c, by simpa using hown, World.grownBy.refl w _, Or.inl rfl⟩
  · subst hm
    obtain ⟨v', w', hr, h2, h3, _, h5⟩ := run_append_own_at (P := P) w base t ty e i z 1 bytes ht hi hz hsize hby hzs (by decide) v n (xs.map (Value.int kk)) hown ad ys.length c (ys.map (Value.int kk)) (by simp) (sl_news hs rfl) (ints_oneCell kk ys) h63 hbytes hbase
    exact ⟨v', w', hr, by rw [List.map_append]; exact h2, h3, h5⟩
theorem wp_append_sl {o : Oper} {a : Act} {K : Act → World → Prop} {Q : Exit → Act → World → Prop} (s x : Operand) (t : TypeId) (ho : o.op = .call { callee := .builtin .append, args := #[s, x], argTypes := #[t, t] })
    (base : Nat) (e : TypeId) (i : TypeInfo) (z : Value) (bytes : Nat) (ht : P.underlying t = some (.slice e)) (hi : P.info? e = some i) (hz : i.zero = some z) (hsize : i.size = 1) (hby : i.bytes = bytes) (hzs : z.cells.size = 1)
    (v : Value) (n : Nat) (xs : List Int) (hv : a.eval s = v) (hown : w.ownsRow base e 1 v n (xs.map (Value.int kk))) (A : Option Addr) (m c : Nat) (ys : List Int) (hx : a.eval x = .slice A m c) (hs : Sl (ntEnc kk) 1 w (.slice A m c) ys)
    (h63 : n + ys.length ≤ maxLen) (hbytes : (n + ys.length) * bytes ≤ 140737488355328) (hbase : base ≤ w.heap.size)
    (h : ∀ v' w', w'.ownsRow base e 1 v' (n + ys.length) ((xs ++ ys).map (Value.int kk)) → w.grownBy w' v.ownBlock → (v'.ownBlock = v.ownBlock ∨ v'.ownBlock = some w.heap.size) → K (a.put o.dst v') w') : Oper.wp P o a w K Q := by
  obtain ⟨v', w', hr, h2, h3, h4⟩ := run_append_sl (P := P) base t o.type e i z bytes ht hi hz hsize hby hzs hown hs h63 hbytes hbase
  unfold Oper.wp execOp
  simp only [ho, resolve, invoke, builtin, Sem.run_bind, Sem.run_pure, Result.andThen_ok, List.map_toArray, List.map_cons, List.map_nil, hv, hx, hr]
  exact h _ _ h2 h3 h4
theorem wpList_append_sl {ops : Array Oper} {rest : List Oper} {o : Oper} {a : Act} {Q : Exit → Act → World → Prop} (hgd : o.guard = none) (s x : Operand) (t : TypeId) (ho : o.op = .call { callee := .builtin .append, args := #[s, x], argTypes := #[t, t] })
    (base : Nat) (e : TypeId) (i : TypeInfo) (z : Value) (bytes : Nat) (ht : P.underlying t = some (.slice e)) (hi : P.info? e = some i) (hz : i.zero = some z) (hsize : i.size = 1) (hby : i.bytes = bytes) (hzs : z.cells.size = 1)
    (v : Value) (n : Nat) (xs : List Int) (hv : a.eval s = v) (hown : w.ownsRow base e 1 v n (xs.map (Value.int kk))) (A : Option Addr) (m c : Nat) (ys : List Int) (hx : a.eval x = .slice A m c) (hs : Sl (ntEnc kk) 1 w (.slice A m c) ys)
    (h63 : n + ys.length ≤ maxLen) (hbytes : (n + ys.length) * bytes ≤ 140737488355328) (hbase : base ≤ w.heap.size)
    (h : ∀ v' w', w'.ownsRow base e 1 v' (n + ys.length) ((xs ++ ys).map (Value.int kk)) → w.grownBy w' v.ownBlock → (v'.ownBlock = v.ownBlock ∨ v'.ownBlock = some w.heap.size) → wpList P ops Q rest (a.put o.dst v') w') : wpList P ops Q (o :: rest) a w :=
  wpList_plain hgd fun _ hK => wp_append_sl s x t ho base e i z bytes ht hi hz hsize hby hzs v n xs hv hown A m c ys hx hs h63 hbytes hbase fun v' w' h2 h3 h4 => hK _ _ (h v' w' h2 h3 h4)
end
end Go.Proofs.YtmiimpmfkjcjlaaGreat
