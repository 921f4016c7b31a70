/- HistoryTells: the reference's Within; and what the law's loops gather, in plain data. -/
import Derived.Test.YtdilnfnakhhhaaaHist6
import Derived.Test.YtdilnfnakhhhaaaCmp
namespace Go.Proofs.Ytdilnfnakhhhaaa
open Go.RowKit

set_option maxHeartbeats 1000000 in
theorem within_any (e : Ev) (t : Int) (w : World) :
    Calls Try.prog 16 #[.agg (evEnc e).toArray, .int .i64 t] w fun en w' => en = .returned (.bool (withinB t e)) ∧ Below w.heap.size w w' := by
  by_cases h1 : e.inv ≤ t
  · by_cases h2 : e.resp = 0
    · have HF : Hid (withinB t e = true) := by show _ = _; unfold withinB; simp [h1, h2]
      have r1 : (e.resp == 0) = true := by simp [h2]
      rw [HF.out]
      clear h2
      unfold evEnc
      go_enter Try.func16, Try.ntmps16
      go_wp2
      all_goals (go_ret; refine ⟨ret_bool (by (first | rfl | (simp; done) | (simp <;> omega) | (simp [*]; done) | (simp [*] <;> omega))), ?_⟩; (repeat' (first | exact Below.refl _ _ | assumption | refine Below.drew ?_ | refine below_drewN ?_ _ | refine Below.alloc ?_ (by simp <;> omega) _ | refine Below.setCell ?_ (by simp <;> omega) _)))
    · have HF : Hid (withinB t e = decide (t ≤ e.resp)) := by show _ = _; unfold withinB; simp [h1, h2]
      have r1 : (e.resp == 0) = false := by simp [h2]
      rw [HF.out]
      clear h2
      unfold evEnc
      go_enter Try.func16, Try.ntmps16
      go_wp2
      all_goals (go_ret; refine ⟨ret_bool (by (first | rfl | (simp; done) | (simp <;> omega) | (simp [*]; done) | (simp [*] <;> omega))), ?_⟩; (repeat' (first | exact Below.refl _ _ | assumption | refine Below.drew ?_ | refine below_drewN ?_ _ | refine Below.alloc ?_ (by simp <;> omega) _ | refine Below.setCell ?_ (by simp <;> omega) _)))
  · have HF : Hid (withinB t e = false) := by show _ = _; unfold withinB; simp [h1]
    rw [HF.out]
    unfold evEnc
    go_enter Try.func16, Try.ntmps16
    go_wp2
    all_goals (go_ret; refine ⟨ret_bool (by (first | rfl | (simp; done) | (simp <;> omega) | (simp [*]; done) | (simp [*] <;> omega))), ?_⟩; (repeat' (first | exact Below.refl _ _ | assumption | refine Below.drew ?_ | refine below_drewN ?_ _ | refine Below.alloc ?_ (by simp <;> omega) _ | refine Below.setCell ?_ (by simp <;> omega) _)))

/-- How many of the first k events have a tick within. -/
def cntTo (es : List Ev) (t : Int) (k : Nat) : Nat := (ixTo es (withinB t) k).length
theorem cntTo_succ {es : List Ev} {t : Int} {k : Nat} {e : Ev} (he : es[k]? = some e) : cntTo es t (k + 1) = cntTo es t k + (if withinB t e = true then 1 else 0) := by
  unfold cntTo
  rcases h : withinB t e with _ | _
  · rw [ixTo_miss he h]; simp
  · rw [ixTo_hit he h]; simp
theorem cntTo_le (es : List Ev) (t : Int) (k : Nat) : cntTo es t k ≤ k := ixTo_length es (withinB t) k

theorem info_i : (Try.prog.info? 3).map (fun i => (i.zero, i.size, i.bytes)) = some (some (.int .i64 0), 1, 8) := by kernel_rfl
end Go.Proofs.Ytdilnfnakhhhaaa
