/- The law HistoryRight, walked: it returns true whatever the events, the calls, the number of threads and of ticks are; what lay in memory lies as it lay. -/
import Derived.Test.YtdilnfnakhhhaaaHist7
namespace Go.Proofs.Ytdilnfnakhhhaaa
open Go.RowKit

set_option maxRecDepth 100000 in
set_option maxHeartbeats 2000000 in
theorem law_right (q0 q1 : Int) (cv sv : Value) (cs : List Cl) (es : List Ev) (w : World) (hcs : SlCl w cv cs) (hes : SlEv w sv es) (hwf : ∀ e ∈ es, EvWf e) :
    Calls Try.prog 3 #[.agg #[.int .i64 q0, .int .i64 q1], cv, sv] w fun e w' => e = .returned (.bool true) ∧ Below w.heap.size w w' := by
  have hes' := hes
  obtain ⟨A, cap, rfl, h1, h2, h3⟩ := hes
  clear h3
  by_cases hbig : 100 < es.length
  · go_enter Try.func3, Try.ntmps3
    go_wp2_with (go_at_call 12; refine (two_any _).mono ?_; rintro e w1 ⟨rfl, hb1⟩)
    go_ret
    exact ⟨rfl, ((Below.refl _ _).alloc (Nat.le_refl _) _).trans (hb1.mono (by simp))⟩
  · go_enter Try.func3, Try.ntmps3
    go_wp2
    have hq0 : (w.alloc (.cells #[.int .i64 q0, .int .i64 q1] 22)).cell? ⟨w.heap.size, 0, none⟩ = some (.int .i64 q0) := by go_simp
    have hq1 : (w.alloc (.cells #[.int .i64 q0, .int .i64 q1] 22)).cell? ⟨w.heap.size, 1, none⟩ = some (.int .i64 q1) := by go_simp
    have hzz : w.heap.size < (w.alloc (.cells #[.int .i64 q0, .int .i64 q1] 22)).heap.size := by simp
    have hC := hcs.alloc (.cells #[.int .i64 q0, .int .i64 q1] 22)
    have hE := hes'.alloc (.cells #[.int .i64 q0, .int .i64 q1] 22)
    have hB : Below w.heap.size w (w.alloc (.cells #[.int .i64 q0, .int .i64 q1] 22)) := by (repeat' (first | exact Below.refl _ _ | assumption | refine Below.drew ?_ | refine below_drewN ?_ _ | refine Below.alloc ?_ (by simp <;> omega) _ | refine Below.setCell ?_ (by simp <;> omega) _))
    generalize hW : w.alloc (.cells #[.int .i64 q0, .int .i64 q1] 22) = W at *
    clear hW
    refine wp_region_seq (fun w' => Below W.heap.size W w') (.take 0 <| .take 1 <| .take 2 <| .take 3 <| .take 4 <| .take 5 <| .take 7 <| .take 8 <| .take 9 <| .take 10 <| .take 11 <| .take 12 <| .run 6 <| .run 13 <| .take 14 <| .take 15 <| .run 16 <| .take 17 <| .take 18 <| .done) (by kernel_rfl) (by kernel_rfl) (by kernel_rfl) (Below.refl _ _).drew ?_
    repeat (first | (refine seq_take (v := ?_) rfl (by rfl) ?_ ?_; rotate_left; (focus (intro wS hS; replace hS := bcellc hS; go_simp; exact rfl)); simp only [Act.put, List.setIfInBounds_toArray, List.set_cons_zero, List.set_cons_succ]) | (refine seq_skip rfl (by rfl) ?_; simp only [Act.put, List.setIfInBounds_toArray, List.set_cons_zero, List.set_cons_succ]) | (refine seq_pass rfl (by rfl) (by assumption) ?_; simp only [Act.put, List.setIfInBounds_toArray, List.set_cons_zero, List.set_cons_succ]))
    (refine seq_run rfl (by rfl) (fun K hK => ?_); go_simp)
    refine (right_any q0 q1 _ _ cs es _ (hC.drewN 1) (hE.drewN 1) hwf).mono ?_
    rintro e w1 ⟨rfl, hb1⟩
    have hb1' : Below W.heap.size W w1 := (Below.refl _ _).drew.trans hb1
    refine hK _ _ hb1' ?_
    clear hK K
    repeat (first | (refine seq_take (v := ?_) rfl (by rfl) ?_ ?_; rotate_left; (focus (intro wS hS; replace hS := bcellc hS; go_simp; exact rfl)); simp only [Act.put, List.setIfInBounds_toArray, List.set_cons_zero, List.set_cons_succ]) | (refine seq_skip rfl (by rfl) ?_; simp only [Act.put, List.setIfInBounds_toArray, List.set_cons_zero, List.set_cons_succ]) | (refine seq_pass rfl (by rfl) (by assumption) ?_; simp only [Act.put, List.setIfInBounds_toArray, List.set_cons_zero, List.set_cons_succ]))
    (refine seq_run rfl (by rfl) (fun K hK => ?_); go_simp)
    refine (refRight_any q0 q1 _ _ cs es _ (hC.below hb1' (Nat.le_refl _)) (hE.below hb1' (Nat.le_refl _)) hwf).mono ?_
    rw [← right_ref]
    rintro e w2 ⟨rfl, hb2⟩
    have hb2' : Below W.heap.size W w2 := hb1'.trans (hb2.mono hb1'.size)
    refine hK _ _ hb2' ?_
    clear hK K
    repeat (first | (refine seq_take (v := ?_) rfl (by rfl) ?_ ?_; rotate_left; (focus (intro wS hS; replace hS := bcellc hS; go_simp; exact rfl)); simp only [Act.put, List.setIfInBounds_toArray, List.set_cons_zero, List.set_cons_succ]) | (refine seq_skip rfl (by rfl) ?_; simp only [Act.put, List.setIfInBounds_toArray, List.set_cons_zero, List.set_cons_succ]) | (refine seq_pass rfl (by rfl) (by assumption) ?_; simp only [Act.put, List.setIfInBounds_toArray, List.set_cons_zero, List.set_cons_succ]))
    (refine seq_run rfl (by rfl) (fun K hK => ?_); go_simp)
    refine (two_any _).mono ?_
    rintro e w3 ⟨rfl, hb3⟩
    have hb3' : Below W.heap.size W w3 := hb2'.trans (hb3.mono hb2'.size)
    refine hK _ _ hb3' ?_
    clear hK K
    repeat (first | (refine seq_take (v := ?_) rfl (by rfl) ?_ ?_; rotate_left; (focus (intro wS hS; replace hS := bcellc hS; go_simp; exact rfl)); simp only [Act.put, List.setIfInBounds_toArray, List.set_cons_zero, List.set_cons_succ]) | (refine seq_skip rfl (by rfl) ?_; simp only [Act.put, List.setIfInBounds_toArray, List.set_cons_zero, List.set_cons_succ]) | (refine seq_pass rfl (by rfl) (by assumption) ?_; simp only [Act.put, List.setIfInBounds_toArray, List.set_cons_zero, List.set_cons_succ]))
    refine seq_nil ?_
    go_wp2
    go_ret
    exact ⟨rfl, hB.trans (hb3'.mono hB.size)⟩
end Go.Proofs.Ytdilnfnakhhhaaa
