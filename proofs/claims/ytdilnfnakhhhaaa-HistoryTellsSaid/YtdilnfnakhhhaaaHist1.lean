/- History: the contracts of the small functions of package history. -/
import Derived.Test.YtdilnfnakhhhaaaProg
import Derived.Test.YtdilnfnakhhhaaaHist0
import Derived.Deep.QuietTactic
import Derived.BigQuiet
namespace Go.Proofs.Ytdilnfnakhhhaaa
open Go.RowKit

set_option maxHeartbeats 400000 in
theorem ahead_any (v : Value) (es : List Ev) (i k : Int) (w : World) (h : SlEv w v es) :
    Calls Try.prog 17 #[v, .int .i64 i, .int .i64 k] w fun e w' => e = .returned (.bool (aheadB es i k)) ∧ ∃ n, w' = w.drewN n := by
  obtain ⟨A, c, rfl, h1, h2, h3⟩ := h
  by_cases hc : 0 ≤ i ∧ 0 ≤ k ∧ i < es.length ∧ k < es.length
  · obtain ⟨hi, hk, hil, hkl⟩ := hc
    obtain ⟨i, rfl⟩ := Int.eq_ofNat_of_zero_le hi
    obtain ⟨k, rfl⟩ := Int.eq_ofNat_of_zero_le hk
    have hil' : i < es.length := by omega
    have hkl' : k < es.length := by omega
    obtain ⟨b, o, rfl, hb, hca⟩ := h3 i _ (List.getElem?_eq_getElem hil')
    obtain ⟨b', o', hA, _, hcb⟩ := h3 k _ (List.getElem?_eq_getElem hkl')
    simp only [Option.some.injEq, Addr.mk.injEq, and_true] at hA
    obtain ⟨rfl, rfl⟩ := hA
    obtain ⟨_, _, ca, _⟩ := ev_cells hca
    obtain ⟨_, cb, _⟩ := ev_cells hcb
    have hB : Hid (aheadB es (i : Int) (k : Int) = aheadE es[i] es[k]) := by
      show _ = _
      unfold aheadB
      simp [hil', hkl']
    clear h3 hca hcb
    generalize es[i] = ea at *
    generalize es[k] = eb at *
    rw [hB.out]
    by_cases hr : ea.resp = 0
    · have e1 : decide (ea.resp ≠ 0) = false := by simp [hr]
      have hfin : Hid (aheadE ea eb = false) := by show _ = _; unfold aheadE; rw [e1]; rfl
      rw [hfin.out]
      have e2 : (ea.resp == 0) = true := by simp [hr]
      have e3 : (ea.resp != 0) = false := by simp [hr]
      clear hr e1
      go_enter Try.func17, Try.ntmps17
      go_wp2
      go_quiet (fail)
      go_wp2
      go_ret
      exact ⟨rfl, _, rfl⟩
    · have hfin : Hid (aheadE ea eb = decide (ea.resp < eb.inv)) := by show _ = _; unfold aheadE; simp [hr]
      rw [hfin.out]
      have e2 : (ea.resp == 0) = false := by simp [hr]
      have e3 : (ea.resp != 0) = true := by simp [hr]
      clear hr
      go_enter Try.func17, Try.ntmps17
      go_wp2
      go_quiet (fail)
      go_wp2
      go_ret
      exact ⟨rfl, _, rfl⟩
  · have hB : Hid (aheadB es i k = false) := by show _ = _; unfold aheadB; rw [decide_eq_false hc]; rfl
    rw [hB.out]
    clear h3 hB
    go_enter Try.func17, Try.ntmps17
    go_wp2
    all_goals first | (exfalso; omega) | (go_ret; exact ⟨rfl, 0, rfl⟩)

theorem ahead_q (v : Value) (es : List Ev) (i k : Int) (r : Bool) (w : World) (h : SlEv w v es) (hr : Hid (aheadB es i k = r)) (n : Nat) :
    Calls Try.prog 17 #[v, .int .i64 i, .int .i64 k] (w.drewN n) fun e w'' => e = .returned (.bool r) ∧ ∃ m, w'' = w.drewN m :=
  Calls.quiet_of (by have := ahead_any v es i k (w.drewN n) (h.drewN n); rw [hr.out] at this; exact this)

set_option maxHeartbeats 400000 in
theorem call_some (v : Value) (cs : List Cl) (e : Ev) (c : Cl) (w : World) (h : SlCl w v cs) (he : Hid (evCall cs e = some c)) :
    Calls Try.prog 48 #[v, .agg (evEnc e).toArray] w fun en w' =>
      en = .returned (.tuple #[.agg #[.int .i64 c.thread, .int .i64 c.obj, .int .i64 c.kind, .int .u64 c.a, .int .u64 c.b, .int .u64 c.c], .bool true]) ∧ Below w.heap.size w w' := by
  obtain ⟨A, cp, rfl, h1, h2, h3⟩ := h
  have hc : 0 ≤ e.call ∧ e.call < cs.length := by
    by_cases hc : 0 ≤ e.call ∧ e.call < cs.length
    · exact hc
    · have := he.out; rw [evCall_none hc] at this; cases this
  obtain ⟨cl, hcl, hev⟩ := evCall_some hc
  obtain ⟨hc0, hc1⟩ := hc
  obtain rfl : cl = c := by have := he.out; rw [hev] at this; exact Option.some.inj this
  obtain ⟨b, o, rfl, hb, hcc⟩ := h3 _ _ hcl
  obtain ⟨a0, a1, a2, a3, a4, a5⟩ := cl_cells hcc
  clear h3 hcc hev hcl he
  unfold evEnc
  go_enter Try.func48, Try.ntmps48
  go_wp2
  refine bodyPost_ret (v := .tuple #[.agg #[.int .i64 cl.thread, .int .i64 cl.obj, .int .i64 cl.kind, .int .u64 cl.a, .int .u64 cl.b, .int .u64 cl.c], .bool true]) (by simp [results, Try.results48, go_sem]) rfl ⟨rfl, ?_⟩
  (repeat' (first | exact Below.refl _ _ | assumption | refine Below.drew ?_ | refine below_drewN ?_ _ | refine Below.alloc ?_ (by simp <;> omega) _ | refine Below.setCell ?_ (by simp <;> omega) _))

set_option maxHeartbeats 400000 in
theorem call_none (v : Value) (cs : List Cl) (e : Ev) (w : World) (h : SlCl w v cs) (he : Hid (evCall cs e = none)) :
    Calls Try.prog 48 #[v, .agg (evEnc e).toArray] w fun en w' =>
      en = .returned (.tuple #[.agg #[.int .i64 0, .int .i64 0, .int .i64 0, .int .u64 0, .int .u64 0, .int .u64 0], .bool false]) ∧ Below w.heap.size w w' := by
  obtain ⟨A, cp, rfl, h1, h2, h3⟩ := h
  have hc : ¬ (0 ≤ e.call ∧ e.call < cs.length) := by
    intro hc
    obtain ⟨cl, _, hev⟩ := evCall_some hc
    have := he.out; rw [hev] at this; cases this
  unfold evEnc
  clear h3 he
  go_enter Try.func48, Try.ntmps48
  go_wp2
  all_goals first | (exfalso; omega) | (refine bodyPost_ret (v := .tuple #[.agg #[.int .i64 0, .int .i64 0, .int .i64 0, .int .u64 0, .int .u64 0, .int .u64 0], .bool false]) (by simp [results, Try.results48, go_sem]) rfl ⟨rfl, ?_⟩; (repeat' (first | exact Below.refl _ _ | assumption | refine Below.drew ?_ | refine below_drewN ?_ _ | refine Below.alloc ?_ (by simp <;> omega) _ | refine Below.setCell ?_ (by simp <;> omega) _)))

set_option maxHeartbeats 1000000 in
theorem may_any (e : Ev) (ticks : Int) (w : World) (hs : (Lit.int .i64 e.steps).wf = true) (hr : (Lit.int .i64 e.resp).wf = true) (hi : (Lit.int .i64 e.inv).wf = true) :
    Calls Try.prog 49 #[.agg (evEnc e).toArray, .int .i64 ticks] w fun en w' => en = .returned (.bool (mayB e ticks)) ∧ Below w.heap.size w w' := by
  have hs := bounds_i64 hs
  have hr := bounds_i64 hr
  have hi := bounds_i64 hi
  obtain ⟨hs1, hs2⟩ := hs
  obtain ⟨hr1, hr2⟩ := hr
  obtain ⟨hi1, hi2⟩ := hi
  by_cases hA : 1 ≤ e.inv ∧ e.inv ≤ ticks ∧ 1 ≤ e.steps
  · obtain ⟨hA1, hA2, hA3⟩ := hA
    by_cases h0 : e.resp = 0
    · have H : Hid (mayB e ticks = true) := by show _ = _; unfold mayB; simp [hA1, hA2, hA3, h0]
      rw [H.out]
      unfold evEnc
      rw [h0]
      clear h0
      go_enter Try.func49, Try.ntmps49
      go_wp2
      go_ret
      refine ⟨rfl, ?_⟩
      (repeat' (first | exact Below.refl _ _ | assumption | refine Below.drew ?_ | refine below_drewN ?_ _ | refine Below.alloc ?_ (by simp <;> omega) _ | refine Below.setCell ?_ (by simp <;> omega) _))
    · by_cases hB : e.inv ≤ e.resp ∧ e.resp ≤ ticks ∧ e.steps - 1 ≤ e.resp - e.inv
      · have H : Hid (mayB e ticks = true) := by show _ = _; unfold mayB; simp [hA1, hA2, hA3, hB]
        rw [H.out]
        obtain ⟨hB1, hB2, hB3⟩ := hB
        unfold evEnc
        go_enter Try.func49, Try.ntmps49
        go_wp2
        all_goals first | (exfalso; omega) | (go_ret; refine ⟨ret_bool (by (first | rfl | (simp; done) | (simp <;> omega) | (simp [*]; done) | (simp [*] <;> omega))), ?_⟩; (repeat' (first | exact Below.refl _ _ | assumption | refine Below.drew ?_ | refine below_drewN ?_ _ | refine Below.alloc ?_ (by simp <;> omega) _ | refine Below.setCell ?_ (by simp <;> omega) _)))
      · have H : Hid (mayB e ticks = false) := by show _ = _; unfold mayB; simp [h0, hB]
        rw [H.out]
        clear H
        unfold evEnc
        go_enter Try.func49, Try.ntmps49
        go_wp2
        all_goals first | (exfalso; omega) | (go_ret; refine ⟨ret_bool (by (first | rfl | (simp; done) | (simp <;> omega) | (simp [*]; done) | (simp [*] <;> omega))), ?_⟩; (repeat' (first | exact Below.refl _ _ | assumption | refine Below.drew ?_ | refine below_drewN ?_ _ | refine Below.alloc ?_ (by simp <;> omega) _ | refine Below.setCell ?_ (by simp <;> omega) _)))
  · have H : Hid (mayB e ticks = false) := by show _ = _; unfold mayB; rw [decide_eq_false hA]; rfl
    rw [H.out]
    clear H
    unfold evEnc
    go_enter Try.func49, Try.ntmps49
    go_wp2
    all_goals first | (exfalso; omega) | (go_ret; refine ⟨ret_bool (by (first | rfl | (simp; done) | (simp <;> omega) | (simp [*]; done) | (simp [*] <;> omega))), ?_⟩; (repeat' (first | exact Below.refl _ _ | assumption | refine Below.drew ?_ | refine below_drewN ?_ _ | refine Below.alloc ?_ (by simp <;> omega) _ | refine Below.setCell ?_ (by simp <;> omega) _)))
end Go.Proofs.Ytdilnfnakhhhaaa
