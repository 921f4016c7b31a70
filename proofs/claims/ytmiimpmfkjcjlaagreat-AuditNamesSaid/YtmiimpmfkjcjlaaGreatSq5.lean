/- Types of things (package seq): what the operations do. -/
import Derived.Test.YtmiimpmfkjcjlaaGreatSq4
namespace Go.Proofs.YtmiimpmfkjcjlaaGreat
open Go.RowKit
attribute [local go_sem] run_store_fn run_store_nilfn

theorem next1 (v a : Int) (w : World) : Calls Tryz.prog 134 #[.int .u64 v, .int .u64 a] w fun e w' => e = .returned (.int .u64 a) ∧ w' = w := by
  go_enter Tryz.func134, Tryz.ntmps134
  go_wp2
  go_ret
  exact ⟨rfl, rfl⟩
theorem next2 (v a : Int) (w : World) : Calls Tryz.prog 135 #[.int .u64 v, .int .u64 a] w fun e w' => e = .returned (.int .u64 (IntKind.u64.wrap (v + a))) ∧ w' = w := by
  go_enter Tryz.func135, Tryz.ntmps135
  go_wp2
  go_ret
  exact ⟨rfl, rfl⟩
theorem next5 (v a : Int) (w : World) : Calls Tryz.prog 140 #[.int .u64 v, .int .u64 a] w fun e w' => e = .returned (.int .u64 (max v a)) ∧ w' = w := by
  by_cases h : v < a
  · rw [show max v a = a by omega]
    go_enter Tryz.func140, Tryz.ntmps140
    go_wp2
    go_ret
    exact ⟨rfl, rfl⟩
  · rw [show max v a = v by omega]
    go_enter Tryz.func140, Tryz.ntmps140
    go_wp2
    go_ret
    exact ⟨rfl, rfl⟩

theorem sl_one {w : World} {g : Nat} {y : Int} (h : w.cell? ⟨g, 0, none⟩ = some (.int .u64 y)) (hg : g < w.heap.size) : SlW w (.slice (some ⟨g, 0, none⟩) 1 1) [y] := by
  refine ⟨_, 1, rfl, Nat.le_refl 1, by decide, fun k x hx => ?_⟩
  rcases k with _ | k
  · cases hx
    refine ⟨g, 0, rfl, hg, fun j u hu => ?_⟩
    rcases j with _ | j
    · cases hu; exact h
    · cases hu
  · cases hx

set_option maxRecDepth 100000 in
set_option maxHeartbeats 1000000 in
theorem one1 (f : Nat) (nx : Int → Int → Int) (hf : ∀ v a w, Calls Tryz.prog f #[.int .u64 v, .int .u64 a] w fun e w' => e = .returned (.int .u64 (nx v a)) ∧ w' = w)
    (hent : ∀ args w, (callFunc f args).run Tryz.prog w = .ok (.enter f args) w) (v : Value) (x kind a : Int) (B : Nat) (w : World) (hv : SlW w v [x]) (hB : w.cell? ⟨B, 0, none⟩ = some (.func (.func f) #[] #[])) (hBl : B < w.heap.size) :
    Calls Tryz.prog 190 #[v, .int .i64 kind, .int .u64 a, .pointer (some ⟨B, 0, none⟩)] w fun e w' => ∃ u, e = .returned (.tuple #[u, .agg #[.int .i64 0, .int .u64 x, .slice none 0 0]]) ∧ SlW w' u (if kind = 0 then [x] else [nx x a]) ∧ Below w.heap.size w w' := by
  have hv' := hv
  obtain ⟨A, c, rfl, h1, h2, h3⟩ := hv
  obtain ⟨b, o, rfl, hb, hc⟩ := h3 0 x rfl
  have c0 := nt_cell hc
  simp only [Nat.zero_mul, Nat.add_zero] at c0
  clear h3 hc
  by_cases hk : kind = 0
  · have e0 : (kind == 0) = true := by simp [hk]
    rw [if_pos hk]
    clear hk
    go_enter Tryz.func190, Tryz.ntmps190
    go_wp2_with (go_at_call 191; refine (ok_any _ _).mono ?_; rintro e w1 ⟨rfl, rfl⟩)
    refine bodyPost_ret (v := .tuple #[.slice (some ⟨b, o, none⟩) 1 c, .agg #[.int .i64 0, .int .u64 x, .slice none 0 0]]) (by simp [results, Tryz.results190, go_sem]) rfl ⟨_, rfl, hv'.below (B := w.heap.size) ?_ (Nat.le_refl _), ?_⟩
    · (repeat' (first | exact Below.refl _ _ | assumption | refine Below.drew ?_ | refine below_drewN ?_ _ | refine Below.alloc ?_ (by simp <;> omega) _ | refine Below.setCell ?_ (by simp <;> omega) _))
    · (repeat' (first | exact Below.refl _ _ | assumption | refine Below.drew ?_ | refine below_drewN ?_ _ | refine Below.alloc ?_ (by simp <;> omega) _ | refine Below.setCell ?_ (by simp <;> omega) _))
  · have e0 : (kind == 0) = false := by simp [hk]
    rw [if_neg hk]
    clear hk
    go_enter Tryz.func190, Tryz.ntmps190
    go_wp2
    refine wp_region_seq (fun w' => Below w.heap.size w w') (.take 0 <| .take 1 <| .take 2 <| .take 3 <| .take 4 <| .take 7 <| .take 8 <| .take 9 <| .run 5 <| .fork 6 (.run 10 <| .take 11 <| .run 12 <| .done) 10 (.run 6 <| .take 11 <| .run 12 <| .done)) (by kernel_rfl) (by kernel_rfl) (by kernel_rfl) (by (repeat' (first | exact Below.refl _ _ | assumption | refine Below.drew ?_ | refine below_drewN ?_ _ | refine Below.alloc ?_ (by simp <;> omega) _ | refine Below.setCell ?_ (by simp <;> omega) _))) ?_
    repeat (first | (refine seq_take (v := ?_) rfl (by rfl) ?_ ?_; rotate_left; (focus (intro wS hS; replace hS := bcellc hS; go_simp; exact rfl)); simp only [Act.put, List.setIfInBounds_toArray, List.set_cons_zero, List.set_cons_succ]) | (refine seq_skip rfl (by rfl) ?_; simp only [Act.put, List.setIfInBounds_toArray, List.set_cons_zero, List.set_cons_succ]) | (refine seq_pass rfl (by rfl) (by assumption) ?_; simp only [Act.put, List.setIfInBounds_toArray, List.set_cons_zero, List.set_cons_succ]))
    (refine seq_run rfl (by rfl) (fun K hK => ?_); go_simp)
    refine (hf _ _ _).mono ?_
    rintro e w1 ⟨rfl, rfl⟩
    refine hK _ _ (by (repeat' (first | exact Below.refl _ _ | assumption | refine Below.drew ?_ | refine below_drewN ?_ _ | refine Below.alloc ?_ (by simp <;> omega) _ | refine Below.setCell ?_ (by simp <;> omega) _))) ?_
    clear hK K
    refine seq_fork ?_ ?_
    · (refine seq_run rfl (by rfl) (fun K hK => ?_); go_simp)
      refine hK _ _ (by (repeat' (first | exact Below.refl _ _ | assumption | refine Below.drew ?_ | refine below_drewN ?_ _ | refine Below.alloc ?_ (by simp <;> omega) _ | refine Below.setCell ?_ (by simp <;> omega) _))) ?_
      clear hK K
      (refine seq_run rfl (by rfl) (fun K hK => ?_); go_simp)
      refine (ok_any _ _).mono ?_
      rintro e w1 ⟨rfl, rfl⟩
      refine hK _ _ (by (repeat' (first | exact Below.refl _ _ | assumption | refine Below.drew ?_ | refine below_drewN ?_ _ | refine Below.alloc ?_ (by simp <;> omega) _ | refine Below.setCell ?_ (by simp <;> omega) _))) ?_
      clear hK K
      repeat (first | (refine seq_take (v := ?_) rfl (by rfl) ?_ ?_; rotate_left; (focus (intro wS hS; replace hS := bcellc hS; go_simp; exact rfl)); simp only [Act.put, List.setIfInBounds_toArray, List.set_cons_zero, List.set_cons_succ]) | (refine seq_skip rfl (by rfl) ?_; simp only [Act.put, List.setIfInBounds_toArray, List.set_cons_zero, List.set_cons_succ]) | (refine seq_pass rfl (by rfl) (by assumption) ?_; simp only [Act.put, List.setIfInBounds_toArray, List.set_cons_zero, List.set_cons_succ]))
      (refine seq_run rfl (by rfl) (fun K hK => ?_); go_simp)
      refine hK _ _ (by (repeat' (first | exact Below.refl _ _ | assumption | refine Below.drew ?_ | refine below_drewN ?_ _ | refine Below.alloc ?_ (by simp <;> omega) _ | refine Below.setCell ?_ (by simp <;> omega) _))) ?_
      clear hK K
      refine seq_nil ?_
      go_wp2
      refine bodyPost_ret (v := .tuple #[.slice (some ⟨w.heap.size + 1, 0, none⟩) 1 1, .agg #[.int .i64 0, .int .u64 x, .slice none 0 0]]) (by simp [results, Tryz.results190, go_sem]; done) rfl ⟨_, rfl, sl_one (by go_simp; done) (by simp <;> omega), ?_⟩
      (repeat' (first | exact Below.refl _ _ | assumption | refine Below.drew ?_ | refine below_drewN ?_ _ | refine Below.alloc ?_ (by simp <;> omega) _ | refine Below.setCell ?_ (by simp <;> omega) _))
    · (refine seq_run rfl (by rfl) (fun K hK => ?_); go_simp)
      refine (ok_any _ _).mono ?_
      rintro e w1 ⟨rfl, rfl⟩
      refine hK _ _ (by (repeat' (first | exact Below.refl _ _ | assumption | refine Below.drew ?_ | refine below_drewN ?_ _ | refine Below.alloc ?_ (by simp <;> omega) _ | refine Below.setCell ?_ (by simp <;> omega) _))) ?_
      clear hK K
      (refine seq_run rfl (by rfl) (fun K hK => ?_); go_simp)
      refine hK _ _ (by (repeat' (first | exact Below.refl _ _ | assumption | refine Below.drew ?_ | refine below_drewN ?_ _ | refine Below.alloc ?_ (by simp <;> omega) _ | refine Below.setCell ?_ (by simp <;> omega) _))) ?_
      clear hK K
      repeat (first | (refine seq_take (v := ?_) rfl (by rfl) ?_ ?_; rotate_left; (focus (intro wS hS; replace hS := bcellc hS; go_simp; exact rfl)); simp only [Act.put, List.setIfInBounds_toArray, List.set_cons_zero, List.set_cons_succ]) | (refine seq_skip rfl (by rfl) ?_; simp only [Act.put, List.setIfInBounds_toArray, List.set_cons_zero, List.set_cons_succ]) | (refine seq_pass rfl (by rfl) (by assumption) ?_; simp only [Act.put, List.setIfInBounds_toArray, List.set_cons_zero, List.set_cons_succ]))
      (refine seq_run rfl (by rfl) (fun K hK => ?_); go_simp)
      refine hK _ _ (by (repeat' (first | exact Below.refl _ _ | assumption | refine Below.drew ?_ | refine below_drewN ?_ _ | refine Below.alloc ?_ (by simp <;> omega) _ | refine Below.setCell ?_ (by simp <;> omega) _))) ?_
      clear hK K
      refine seq_nil ?_
      go_wp2
      refine bodyPost_ret (v := .tuple #[.slice (some ⟨w.heap.size + 1 + 1, 0, none⟩) 1 1, .agg #[.int .i64 0, .int .u64 x, .slice none 0 0]]) (by simp [results, Tryz.results190, go_sem]; done) rfl ⟨_, rfl, sl_one (by go_simp; done) (by simp <;> omega), ?_⟩
      (repeat' (first | exact Below.refl _ _ | assumption | refine Below.drew ?_ | refine below_drewN ?_ _ | refine Below.alloc ?_ (by simp <;> omega) _ | refine Below.setCell ?_ (by simp <;> omega) _))
end Go.Proofs.YtmiimpmfkjcjlaaGreat
