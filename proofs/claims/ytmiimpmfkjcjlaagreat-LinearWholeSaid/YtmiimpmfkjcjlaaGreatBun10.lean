import Derived.Test.YtmiimpmfkjcjlaaGreatBun9
import Derived.Deep.QuietTactic
import Derived.BigQuiet
import Derived.Test.YtmiimpmfkjcjlaaGreatProg
import Derived.Test.YtmiimpmfkjcjlaaGreatBun5
namespace Go.Proofs.YtmiimpmfkjcjlaaGreat
open Go.RowKit
theorem kcmp_step {a b : List Int} {k : Nat} {x y : Int} (hx : a[k]? = some x) (hy : b[k]? = some y) : kcmp (a.drop k) (b.drop k) = if x < y then -1 else if y < x then 1 else kcmp (a.drop (k + 1)) (b.drop (k + 1)) := by
  obtain ⟨h1, h2⟩ := List.getElem?_eq_some_iff.1 hx
  obtain ⟨h3, h4⟩ := List.getElem?_eq_some_iff.1 hy
  rw [List.drop_eq_getElem_cons h1, List.drop_eq_getElem_cons h3, h2, h4]
  rfl
theorem kcmp_end {a b : List Int} {k : Nat} (h1 : k ≤ a.length) (h2 : k ≤ b.length) (h : k = a.length ∨ k = b.length) : decide (kcmp (a.drop k) (b.drop k) < 0) = decide (a.length < b.length) := by
  rcases Nat.lt_or_eq_of_le h1 with l1 | l1 <;> rcases Nat.lt_or_eq_of_le h2 with l2 | l2
  · omega
  · rw [List.drop_eq_getElem_cons l1, List.drop_of_length_le (show b.length ≤ k by omega)]
    rw [decide_eq_false (show ¬ a.length < b.length by omega)]
    rfl
  · rw [List.drop_of_length_le (show a.length ≤ k by omega), List.drop_eq_getElem_cons l2]
    rw [decide_eq_true (show a.length < b.length by omega)]
    rfl
  · rw [List.drop_of_length_le (show a.length ≤ k by omega), List.drop_of_length_le (show b.length ≤ k by omega)]
    rw [decide_eq_false (show ¬ a.length < b.length by omega)]
    rfl
set_option maxRecDepth 100000 in
set_option maxHeartbeats 2000000 in
theorem pahead_any (v1 v2 : Value) (a b : List Int) (w : World) (h1 : SlI w v1 a) (h2 : SlI w v2 b) :
    Calls Tryz.prog 106 #[v1, v2] w fun e w' => e = .returned (.bool (decide (kcmp a b < 0))) ∧ ∃ m, w' = w.drewN m := by
  obtain ⟨A, cA, rfl, a1, a2, a3⟩ := h1
  obtain ⟨B, cB, rfl, b1, b2, b3⟩ := h2
  have hlx : (a.length : Int) ≤ 9223372036854775807 := by unfold maxLen at a2; omega
  have hly : (b.length : Int) ≤ 9223372036854775807 := by unfold maxLen at b2; omega
  obtain ⟨R, hR⟩ : ∃ R, decide (kcmp a b < 0) = R := ⟨_, rfl⟩
  rw [hR]
  have HR := hide hR
  clear hR
  go_enter Tryz.func106, Tryz.ntmps106
  go_wp2
  go_loopw [5] (fun i wr => ∃ k : Nat, k ≤ a.length ∧ k ≤ b.length ∧ i = .int .i64 k ∧ Hid (kcmp a b = kcmp (a.drop k) (b.drop k)) ∧ Hid (∃ m, wr = w.drewN m)) (fun i _ => a.length - (intOf i).toNat)
  case atStart => exact ⟨0, Nat.zero_le _, Nat.zero_le _, rfl, hide rfl, hide ⟨0, rfl⟩⟩
  case round =>
    obtain ⟨k, hk, hkb, rfl, hc, hm⟩ := hrel
    obtain ⟨m, rfl⟩ := hm.out
    by_cases l1 : k < a.length
    · by_cases l2 : k < b.length
      · obtain ⟨x, hx⟩ : ∃ x, a[k]? = some x := ⟨_, List.getElem?_eq_getElem l1⟩
        obtain ⟨y, hy⟩ : ∃ y, b[k]? = some y := ⟨_, List.getElem?_eq_getElem l2⟩
        obtain ⟨g, o, rfl, hg, hcx⟩ := a3 k x hx
        obtain ⟨g', o', rfl, hg', hcy⟩ := b3 k y hy
        have c1 := nt_cell hcx
        have c2 := nt_cell hcy
        simp only [Nat.mul_one] at c1 c2
        have hs := kcmp_step hx hy
        have q0 : (0 : Int) ≤ (k : Int) := by omega
        have q1 : (k : Int) < (a.length : Int) := by omega
        have q2 : (k : Int) < (b.length : Int) := by omega
        have d1 : decide ((k : Int) < (a.length : Int)) = true := by simp; omega
        have d2 : decide ((k : Int) < (b.length : Int)) = true := by simp; omega
        clear a3 b3 hcx hcy hx hy
        by_cases hxy : x = y
        · have e1 : (x != y) = false := by simp [hxy]
          have e2 : (x == y) = true := by simp [hxy]
          have HN : Hid (kcmp a b = kcmp (a.drop (k + 1)) (b.drop (k + 1))) := hide (by rw [hc.out, hs, if_neg (by omega), if_neg (by omega)])
          clear hs hxy
          go_wp2
          go_quiet (fail)
          go_wp2
          go_roundw
          case rel => exact ⟨k + 1, by omega, by omega, by go_num, HN, hide ⟨_, rfl⟩⟩
          case measure => simp [intOf] <;> omega
        · have e1 : (x != y) = true := by simp [hxy]
          have e2 : (x == y) = false := by simp [hxy]
          have HF : Hid (decide (x < y) = R) := hide (by
            rw [← HR.out, hc.out, hs]
            by_cases hl : x < y
            · rw [if_pos hl, decide_eq_true hl]; rfl
            · rw [if_neg hl, if_pos (by omega), decide_eq_false hl]; rfl)
          have hne := hxy
          clear hs hxy
          go_wp2
          go_quiet (fail)
          go_wp2
          go_quiet (fail)
          go_wp2
          go_ret
          exact ⟨ret_bool HF.out, _, by rw [World.drewN_drewN, World.drewN_drewN]⟩
      · have HF : Hid (decide (a.length < b.length) = R) := hide (by rw [← HR.out, hc.out, kcmp_end hk hkb (Or.inr (by omega))])
        have d1 : decide ((k : Int) < (a.length : Int)) = true := by simp; omega
        have d2 : decide ((k : Int) < (b.length : Int)) = false := by simp; omega
        clear a3 b3
        go_wp2
        go_ret
        exact ⟨ret_bool (by first | exact HF.out | (rw [← HF.out]; simp)), m, rfl⟩
    · have HF : Hid (decide (a.length < b.length) = R) := hide (by rw [← HR.out, hc.out, kcmp_end hk hkb (Or.inl (by omega))])
      have d1 : decide ((k : Int) < (a.length : Int)) = false := by simp; omega
      clear a3 b3
      go_wp2
      go_ret
      exact ⟨ret_bool (by first | exact HF.out | (rw [← HF.out]; simp)), m, rfl⟩
set_option maxRecDepth 100000 in
set_option maxHeartbeats 2000000 in
theorem r4ahead_any (v1 v2 : Value) (a b : List Int) (w : World) (h1 : SlI w v1 a) (h2 : SlI w v2 b) :
    Calls Tryz.prog 100 #[v1, v2] w fun e w' => e = .returned (.bool (decide (kcmp a b < 0))) ∧ ∃ m, w' = w.drewN m := by
  obtain ⟨A, cA, rfl, a1, a2, a3⟩ := h1
  obtain ⟨B, cB, rfl, b1, b2, b3⟩ := h2
  have hlx : (a.length : Int) ≤ 9223372036854775807 := by unfold maxLen at a2; omega
  have hly : (b.length : Int) ≤ 9223372036854775807 := by unfold maxLen at b2; omega
  obtain ⟨R, hR⟩ : ∃ R, decide (kcmp a b < 0) = R := ⟨_, rfl⟩
  rw [hR]
  have HR := hide hR
  clear hR
  go_enter Tryz.func100, Tryz.ntmps100
  go_wp2
  go_loopw [5] (fun i wr => ∃ k : Nat, k ≤ a.length ∧ k ≤ b.length ∧ i = .int .i64 k ∧ Hid (kcmp a b = kcmp (a.drop k) (b.drop k)) ∧ Hid (∃ m, wr = w.drewN m)) (fun i _ => a.length - (intOf i).toNat)
  case atStart => exact ⟨0, Nat.zero_le _, Nat.zero_le _, rfl, hide rfl, hide ⟨0, rfl⟩⟩
  case round =>
    obtain ⟨k, hk, hkb, rfl, hc, hm⟩ := hrel
    obtain ⟨m, rfl⟩ := hm.out
    by_cases l1 : k < a.length
    · by_cases l2 : k < b.length
      · obtain ⟨x, hx⟩ : ∃ x, a[k]? = some x := ⟨_, List.getElem?_eq_getElem l1⟩
        obtain ⟨y, hy⟩ : ∃ y, b[k]? = some y := ⟨_, List.getElem?_eq_getElem l2⟩
        obtain ⟨g, o, rfl, hg, hcx⟩ := a3 k x hx
        obtain ⟨g', o', rfl, hg', hcy⟩ := b3 k y hy
        have c1 := nt_cell hcx
        have c2 := nt_cell hcy
        simp only [Nat.mul_one] at c1 c2
        have hs := kcmp_step hx hy
        have q0 : (0 : Int) ≤ (k : Int) := by omega
        have q1 : (k : Int) < (a.length : Int) := by omega
        have q2 : (k : Int) < (b.length : Int) := by omega
        have d1 : decide ((k : Int) < (a.length : Int)) = true := by simp; omega
        have d2 : decide ((k : Int) < (b.length : Int)) = true := by simp; omega
        clear a3 b3 hcx hcy hx hy
        by_cases hxy : x = y
        · have e1 : (x != y) = false := by simp [hxy]
          have e2 : (x == y) = true := by simp [hxy]
          have HN : Hid (kcmp a b = kcmp (a.drop (k + 1)) (b.drop (k + 1))) := hide (by rw [hc.out, hs, if_neg (by omega), if_neg (by omega)])
          clear hs hxy
          go_wp2
          go_quiet (fail)
          go_wp2
          go_roundw
          case rel => exact ⟨k + 1, by omega, by omega, by go_num, HN, hide ⟨_, rfl⟩⟩
          case measure => simp [intOf] <;> omega
        · have e1 : (x != y) = true := by simp [hxy]
          have e2 : (x == y) = false := by simp [hxy]
          have HF : Hid (decide (x < y) = R) := hide (by
            rw [← HR.out, hc.out, hs]
            by_cases hl : x < y
            · rw [if_pos hl, decide_eq_true hl]; rfl
            · rw [if_neg hl, if_pos (by omega), decide_eq_false hl]; rfl)
          have hne := hxy
          clear hs hxy
          go_wp2
          go_quiet (fail)
          go_wp2
          go_quiet (fail)
          go_wp2
          go_ret
          exact ⟨ret_bool HF.out, _, by rw [World.drewN_drewN, World.drewN_drewN]⟩
      · have HF : Hid (decide (a.length < b.length) = R) := hide (by rw [← HR.out, hc.out, kcmp_end hk hkb (Or.inr (by omega))])
        have d1 : decide ((k : Int) < (a.length : Int)) = true := by simp; omega
        have d2 : decide ((k : Int) < (b.length : Int)) = false := by simp; omega
        clear a3 b3
        go_wp2
        go_ret
        exact ⟨ret_bool (by first | exact HF.out | (rw [← HF.out]; simp)), m, rfl⟩
    · have HF : Hid (decide (a.length < b.length) = R) := hide (by rw [← HR.out, hc.out, kcmp_end hk hkb (Or.inl (by omega))])
      have d1 : decide ((k : Int) < (a.length : Int)) = false := by simp; omega
      clear a3 b3
      go_wp2
      go_ret
      exact ⟨ret_bool (by first | exact HF.out | (rw [← HF.out]; simp)), m, rfl⟩
end Go.Proofs.YtmiimpmfkjcjlaaGreat

namespace Go.Proofs.YtmiimpmfkjcjlaaGreat
open Go.RowKit
set_option maxHeartbeats 400000 in
theorem ahead_any (v : Value) (es : List Ev) (i k : Int) (w : World) (h : SlEv w v es) :
    Calls Tryz.prog 102 #[v, .int .i64 i, .int .i64 k] w fun e w' => e = .returned (.bool (aheadB es i k)) ∧ ∃ n, w' = w.drewN n := by
  obtain ⟨A, c, rfl, h1, h2, h3⟩ := h
  by_cases hc : 0 ≤ i ∧ 0 ≤ k ∧ i < es.length ∧ k < es.length
  · obtain ⟨hi, hk, hil, hkl⟩ := hc
    obtain ⟨i, rfl⟩ := Int.eq_ofNat_of_zero_le hi
    obtain ⟨k, rfl⟩ := Int.eq_ofNat_of_zero_le hk
    have hil' : i < es.length := by omega
    have hkl' : k < es.length := by omega
    obtain ⟨b, o, rfl, hb, hca⟩ := h3 i _ (List.getElem?_eq_getElem hil')
    obtain ⟨b', o', hA, _, hcb⟩ := h3 k _ (List.getElem?_eq_getElem hkl')
    simp only [Option.some.injEq, Addr.mk.injEq, and_true] at hA
    obtain ⟨rfl, rfl⟩ := hA
    obtain ⟨_, _, ca, _⟩ := ev_cells hca
    obtain ⟨_, cb, _⟩ := ev_cells hcb
    have hB : Hid (aheadB es (i : Int) (k : Int) = aheadE es[i] es[k]) := by
      show _ = _
      unfold aheadB
      simp [hil', hkl']
    clear h3 hca hcb
    generalize es[i] = ea at *
    generalize es[k] = eb at *
    rw [hB.out]
    by_cases hr : ea.resp = 0
    · have e1 : decide (ea.resp ≠ 0) = false := by simp [hr]
      have hfin : Hid (aheadE ea eb = false) := by show _ = _; unfold aheadE; rw [e1]; rfl
      rw [hfin.out]
      have e2 : (ea.resp == 0) = true := by simp [hr]
      have e3 : (ea.resp != 0) = false := by simp [hr]
      clear hr e1
      go_enter Tryz.func102, Tryz.ntmps102
      go_wp2
      go_quiet (fail)
      go_wp2
      go_ret
      exact ⟨rfl, _, rfl⟩
    · have hfin : Hid (aheadE ea eb = decide (ea.resp < eb.inv)) := by show _ = _; unfold aheadE; simp [hr]
      rw [hfin.out]
      have e2 : (ea.resp == 0) = false := by simp [hr]
      have e3 : (ea.resp != 0) = true := by simp [hr]
      clear hr
      go_enter Tryz.func102, Tryz.ntmps102
      go_wp2
      go_quiet (fail)
      go_wp2
      go_ret
      exact ⟨rfl, _, rfl⟩
  · have hB : Hid (aheadB es i k = false) := by show _ = _; unfold aheadB; rw [decide_eq_false hc]; rfl
    rw [hB.out]
    clear h3 hB
    go_enter Tryz.func102, Tryz.ntmps102
    go_wp2
    all_goals first | (exfalso; omega) | (go_ret; exact ⟨rfl, 0, rfl⟩)
theorem ahead_q (v : Value) (es : List Ev) (i k : Int) (r : Bool) (w : World) (h : SlEv w v es) (hr : Hid (aheadB es i k = r)) (n : Nat) :
    Calls Tryz.prog 102 #[v, .int .i64 i, .int .i64 k] (w.drewN n) fun e w'' => e = .returned (.bool r) ∧ ∃ m, w'' = w.drewN m :=
  Calls.quiet_of (by have := ahead_any v es i k (w.drewN n) (h.drewN n); rw [hr.out] at this; exact this)
set_option maxHeartbeats 400000 in
theorem call_some (v : Value) (cs : List Cl) (e : Ev) (c : Cl) (w : World) (h : SlCl w v cs) (he : Hid (evCall cs e = some c)) :
    Calls Tryz.prog 107 #[v, .agg (evEnc e).toArray] w fun en w' =>
      en = .returned (.tuple #[.agg #[.int .i64 c.thread, .int .i64 c.obj, .int .i64 c.kind, .int .u64 c.a, .int .u64 c.b, .int .u64 c.c], .bool true]) ∧ Below w.heap.size w w' := by
  obtain ⟨A, cp, rfl, h1, h2, h3⟩ := h
  have hc : 0 ≤ e.call ∧ e.call < cs.length := by
    by_cases hc : 0 ≤ e.call ∧ e.call < cs.length
    · exact hc
    · have := he.out; rw [evCall_none hc] at this; cases this
  obtain ⟨cl, hcl, hev⟩ := evCall_some hc
  obtain ⟨hc0, hc1⟩ := hc
  obtain rfl : cl = c := by have := he.out; rw [hev] at this; exact Option.some.inj this
  obtain ⟨b, o, rfl, hb, hcc⟩ := h3 _ _ hcl
  obtain ⟨a0, a1, a2, a3, a4, a5⟩ := cl_cells hcc
  clear h3 hcc hev hcl he
  unfold evEnc
  go_enter Tryz.func107, Tryz.ntmps107
  go_wp2
  refine bodyPost_ret (v := .tuple #[.agg #[.int .i64 cl.thread, .int .i64 cl.obj, .int .i64 cl.kind, .int .u64 cl.a, .int .u64 cl.b, .int .u64 cl.c], .bool true]) (by simp [results, Tryz.results107, go_sem]) rfl ⟨rfl, ?_⟩
  (repeat' (first | exact Below.refl _ _ | assumption | refine Below.drew ?_ | refine below_drewN ?_ _ | refine Below.alloc ?_ (by simp <;> omega) _ | refine Below.setCell ?_ (by simp <;> omega) _))
set_option maxHeartbeats 400000 in
theorem call_none (v : Value) (cs : List Cl) (e : Ev) (w : World) (h : SlCl w v cs) (he : Hid (evCall cs e = none)) :
    Calls Tryz.prog 107 #[v, .agg (evEnc e).toArray] w fun en w' =>
      en = .returned (.tuple #[.agg #[.int .i64 0, .int .i64 0, .int .i64 0, .int .u64 0, .int .u64 0, .int .u64 0], .bool false]) ∧ Below w.heap.size w w' := by
  obtain ⟨A, cp, rfl, h1, h2, h3⟩ := h
  have hc : ¬ (0 ≤ e.call ∧ e.call < cs.length) := by
    intro hc
    obtain ⟨cl, _, hev⟩ := evCall_some hc
    have := he.out; rw [hev] at this; cases this
  unfold evEnc
  clear h3 he
  go_enter Tryz.func107, Tryz.ntmps107
  go_wp2
  all_goals first | (exfalso; omega) | (refine bodyPost_ret (v := .tuple #[.agg #[.int .i64 0, .int .i64 0, .int .i64 0, .int .u64 0, .int .u64 0, .int .u64 0], .bool false]) (by simp [results, Tryz.results107, go_sem]) rfl ⟨rfl, ?_⟩; (repeat' (first | exact Below.refl _ _ | assumption | refine Below.drew ?_ | refine below_drewN ?_ _ | refine Below.alloc ?_ (by simp <;> omega) _ | refine Below.setCell ?_ (by simp <;> omega) _)))
set_option maxHeartbeats 1000000 in
theorem may_any (e : Ev) (ticks : Int) (w : World) (hs : (Lit.int .i64 e.steps).wf = true) (hr : (Lit.int .i64 e.resp).wf = true) (hi : (Lit.int .i64 e.inv).wf = true) :
    Calls Tryz.prog 108 #[.agg (evEnc e).toArray, .int .i64 ticks] w fun en w' => en = .returned (.bool (mayB e ticks)) ∧ Below w.heap.size w w' := by
  have hs := bounds_i64 hs
  have hr := bounds_i64 hr
  have hi := bounds_i64 hi
  obtain ⟨hs1, hs2⟩ := hs
  obtain ⟨hr1, hr2⟩ := hr
  obtain ⟨hi1, hi2⟩ := hi
  by_cases hA : 1 ≤ e.inv ∧ e.inv ≤ ticks ∧ 1 ≤ e.steps
  · obtain ⟨hA1, hA2, hA3⟩ := hA
    by_cases h0 : e.resp = 0
    · have H : Hid (mayB e ticks = true) := by show _ = _; unfold mayB; simp [hA1, hA2, hA3, h0]
      rw [H.out]
      unfold evEnc
      rw [h0]
      clear h0
      go_enter Tryz.func108, Tryz.ntmps108
      go_wp2
      go_ret
      refine ⟨rfl, ?_⟩
      (repeat' (first | exact Below.refl _ _ | assumption | refine Below.drew ?_ | refine below_drewN ?_ _ | refine Below.alloc ?_ (by simp <;> omega) _ | refine Below.setCell ?_ (by simp <;> omega) _))
    · by_cases hB : e.inv ≤ e.resp ∧ e.resp ≤ ticks ∧ e.steps - 1 ≤ e.resp - e.inv
      · have H : Hid (mayB e ticks = true) := by show _ = _; unfold mayB; simp [hA1, hA2, hA3, hB]
        rw [H.out]
        obtain ⟨hB1, hB2, hB3⟩ := hB
        unfold evEnc
        go_enter Tryz.func108, Tryz.ntmps108
        go_wp2
        all_goals first | (exfalso; omega) | (go_ret; refine ⟨ret_bool (by (first | rfl | (simp; done) | (simp <;> omega) | (simp [*]; done) | (simp [*] <;> omega))), ?_⟩; (repeat' (first | exact Below.refl _ _ | assumption | refine Below.drew ?_ | refine below_drewN ?_ _ | refine Below.alloc ?_ (by simp <;> omega) _ | refine Below.setCell ?_ (by simp <;> omega) _)))
      · have H : Hid (mayB e ticks = false) := by show _ = _; unfold mayB; simp [h0, hB]
        rw [H.out]
        clear H
        unfold evEnc
        go_enter Tryz.func108, Tryz.ntmps108
        go_wp2
        all_goals first | (exfalso; omega) | (go_ret; refine ⟨ret_bool (by (first | rfl | (simp; done) | (simp <;> omega) | (simp [*]; done) | (simp [*] <;> omega))), ?_⟩; (repeat' (first | exact Below.refl _ _ | assumption | refine Below.drew ?_ | refine below_drewN ?_ _ | refine Below.alloc ?_ (by simp <;> omega) _ | refine Below.setCell ?_ (by simp <;> omega) _)))
  · have H : Hid (mayB e ticks = false) := by show _ = _; unfold mayB; rw [decide_eq_false hA]; rfl
    rw [H.out]
    clear H
    unfold evEnc
    go_enter Tryz.func108, Tryz.ntmps108
    go_wp2
    all_goals first | (exfalso; omega) | (go_ret; refine ⟨ret_bool (by (first | rfl | (simp; done) | (simp <;> omega) | (simp [*]; done) | (simp [*] <;> omega))), ?_⟩; (repeat' (first | exact Below.refl _ _ | assumption | refine Below.drew ?_ | refine below_drewN ?_ _ | refine Below.alloc ?_ (by simp <;> omega) _ | refine Below.setCell ?_ (by simp <;> omega) _)))
end Go.Proofs.YtmiimpmfkjcjlaaGreat

namespace Go.Proofs.YtmiimpmfkjcjlaaGreat
open Go.RowKit
abbrev ordI (L : List Nat) : List Int := L.map fun k : Nat => (k : Int)
def SsAt (w : World) (b : Nat) (n : Int) (S C L : Value) : Prop := w.heap[b]? = some (.cells #[.int .i64 n, S, C, L] 100 (0, 0))
theorem SsAt.below {w w' : World} {b : Nat} {n : Int} {S C L : Value} (h : SsAt w b n S C L) (hb : Below w.heap.size w w') : SsAt w' b n S C L := (hb.block b (Array.getElem?_eq_some_iff.1 h).1).trans h
end Go.Proofs.YtmiimpmfkjcjlaaGreat

namespace Go.Proofs.YtmiimpmfkjcjlaaGreat
open Go.RowKit
def icmp (x y : Int) : Int := if x < y then -1 else if y < x then 1 else 0
theorem isnan_any (x : Int) (w : World) : Calls Tryz.prog 210 #[.int .i64 x] w fun e w' => e = .returned (.bool false) ∧ w' = w := by
  have e1 : (x != x) = false := by simp
  go_enter Tryz.func210, Tryz.ntmps210
  go_wp2
  go_ret
  exact ⟨rfl, rfl⟩
theorem icmp_any (x y : Int) (w : World) : Calls Tryz.prog 204 #[.int .i64 x, .int .i64 y] w fun e w' => e = .returned (.int .i64 (icmp x y)) ∧ w' = w := by
  have N1 := isnan_any x w
  have N2 := isnan_any y w
  obtain ⟨R, hR⟩ : ∃ R, icmp x y = R := ⟨_, rfl⟩
  rw [hR]
  by_cases h1 : x < y
  · have d1 : decide (x < y) = true := by simp; omega
    have HR : Hid (R = -1) := hide (by rw [← hR]; unfold icmp; rw [if_pos h1])
    clear hR
    go_enter Tryz.func204, Tryz.ntmps204
    go_wp2_with fail
    refine N1.mono ?_
    rintro e w1 ⟨rfl, rfl⟩
    go_wp2_with fail
    refine N2.mono ?_
    rintro e w1 ⟨rfl, rfl⟩
    clear N1 N2
    go_wp2
    go_ret
    exact ⟨by have := HR.out; subst this; rfl, rfl⟩
  · have d1 : decide (x < y) = false := by simp; omega
    by_cases h2 : y < x
    · have d2 : decide (y < x) = true := by simp; omega
      have HR : Hid (R = 1) := hide (by rw [← hR]; unfold icmp; rw [if_neg h1, if_pos h2])
      clear hR
      go_enter Tryz.func204, Tryz.ntmps204
      go_wp2_with fail
      refine N1.mono ?_
      rintro e w1 ⟨rfl, rfl⟩
      go_wp2_with fail
      refine N2.mono ?_
      rintro e w1 ⟨rfl, rfl⟩
      clear N1 N2
      go_wp2
      go_ret
      exact ⟨by have := HR.out; subst this; rfl, rfl⟩
    · have d2 : decide (y < x) = false := by simp; omega
      have HR : Hid (R = 0) := hide (by rw [← hR]; unfold icmp; rw [if_neg h1, if_neg h2])
      clear hR
      go_enter Tryz.func204, Tryz.ntmps204
      go_wp2_with fail
      refine N1.mono ?_
      rintro e w1 ⟨rfl, rfl⟩
      go_wp2_with fail
      refine N2.mono ?_
      rintro e w1 ⟨rfl, rfl⟩
      clear N1 N2
      go_wp2
      go_ret
      exact ⟨by have := HR.out; subst this; rfl, rfl⟩
theorem kcmp_over {a b : List Int} {k : Nat} (h1 : k < a.length) (h2 : b.length ≤ k) : kcmp (a.drop k) (b.drop k) = 1 := by
  rw [List.drop_eq_getElem_cons h1, List.drop_of_length_le h2]; rfl
theorem kcmp_tail {a b : List Int} {k : Nat} (h1 : a.length ≤ k) (hk : k ≤ b.length) (hka : k = a.length) : kcmp (a.drop k) (b.drop k) = if a.length < b.length then -1 else 0 := by
  rw [List.drop_of_length_le h1]
  by_cases h : a.length < b.length
  · rw [if_pos h, List.drop_eq_getElem_cons (by omega)]; rfl
  · rw [if_neg h, List.drop_of_length_le (by omega)]; rfl
set_option maxRecDepth 100000 in
set_option maxHeartbeats 2000000 in
theorem scompare_any (v1 v2 : Value) (a b : List Int) (w : World) (h1 : SlI w v1 a) (h2 : SlI w v2 b) :
    Calls Tryz.prog 160 #[v1, v2] w fun e w' => e = .returned (.int .i64 (kcmp a b)) ∧ w' = w := by
  obtain ⟨A, cA, rfl, a1, a2, a3⟩ := h1
  obtain ⟨B, cB, rfl, b1, b2, b3⟩ := h2
  have hlx : (a.length : Int) ≤ 9223372036854775807 := by unfold maxLen at a2; omega
  have hly : (b.length : Int) ≤ 9223372036854775807 := by unfold maxLen at b2; omega
  obtain ⟨R, hR⟩ : ∃ R, kcmp a b = R := ⟨_, rfl⟩
  rw [hR]
  have HR := hide hR
  clear hR
  go_enter Tryz.func160, Tryz.ntmps160
  go_wp2
  go_loopw [11] (fun i wr => ∃ k : Nat, k ≤ a.length ∧ k ≤ b.length ∧ i = .int .i64 k ∧ Hid (kcmp a b = kcmp (a.drop k) (b.drop k)) ∧ wr = w) (fun i _ => a.length - (intOf i).toNat)
  case atStart => exact ⟨0, Nat.zero_le _, Nat.zero_le _, rfl, hide rfl, rfl⟩
  case round =>
    obtain ⟨k, hk, hkb, rfl, hc, rfl⟩ := hrel
    have q0 : (0 : Int) ≤ (k : Int) := by omega
    by_cases l1 : k < a.length
    · have d1 : decide ((k : Int) < (a.length : Int)) = true := by simp; omega
      have q1 : (k : Int) < (a.length : Int) := by omega
      obtain ⟨x, hx⟩ : ∃ x, a[k]? = some x := ⟨_, List.getElem?_eq_getElem l1⟩
      obtain ⟨g, o, rfl, hg, hcx⟩ := a3 k x hx
      have c1 := nt_cell hcx
      simp only [Nat.mul_one] at c1
      by_cases l2 : k < b.length
      · obtain ⟨y, hy⟩ : ∃ y, b[k]? = some y := ⟨_, List.getElem?_eq_getElem l2⟩
        obtain ⟨g', o', rfl, hg', hcy⟩ := b3 k y hy
        have c2 := nt_cell hcy
        simp only [Nat.mul_one] at c2
        have hs := kcmp_step hx hy
        have q2 : (k : Int) < (b.length : Int) := by omega
        have d2 : decide ((b.length : Int) ≤ (k : Int)) = false := by simp; omega
        have N := icmp_any x y wr
        clear a3 b3 hcx hcy hx hy
        by_cases hxy : icmp x y = 0
        · have HN : Hid (kcmp a b = kcmp (a.drop (k + 1)) (b.drop (k + 1))) := hide (by
            unfold icmp at hxy
            rw [hc.out, hs, if_neg (by intro h; rw [if_pos h] at hxy; omega), if_neg (by intro h; rw [if_neg (by omega), if_pos h] at hxy; omega)])
          have e1 : (icmp x y != 0) = false := by simp [hxy]
          generalize icmp x y = z at e1 N
          clear hs hxy
          go_wp2_with fail
          refine N.mono ?_
          rintro e w1 ⟨rfl, rfl⟩
          clear N
          go_wp2
          go_roundw
          case rel => exact ⟨k + 1, by omega, by omega, by go_num, HN, trivial⟩
          case measure => simp [intOf] <;> omega
        · have HN : Hid (icmp x y = R) := hide (by
            rw [← HR.out, hc.out, hs]
            unfold icmp at hxy ⊢
            by_cases h1 : x < y
            · rw [if_pos h1, if_pos h1]
            · by_cases h2 : y < x
              · rw [if_neg h1, if_pos h2, if_neg h1, if_pos h2]
              · exact absurd (by rw [if_neg h1, if_neg h2]) hxy)
          have e1 : (icmp x y != 0) = true := by simp [hxy]
          have e2 : ¬ icmp x y = 0 := hxy
          generalize icmp x y = z at e1 e2 N HN
          clear hs hxy
          go_wp2_with fail
          refine N.mono ?_
          rintro e w1 ⟨rfl, rfl⟩
          clear N
          go_wp2
          go_ret
          exact ⟨by have := HN.out; subst this; rfl, rfl⟩
      · have d2 : decide ((b.length : Int) ≤ (k : Int)) = true := by simp; omega
        have HF : Hid (R = 1) := hide (by rw [← HR.out, hc.out, kcmp_over l1 (by omega)])
        clear a3 b3 hcx hx
        go_wp2
        go_ret
        exact ⟨by have := HF.out; subst this; rfl, rfl⟩
    · have d1 : decide ((k : Int) < (a.length : Int)) = false := by simp; omega
      have HF : Hid (R = if a.length < b.length then -1 else 0) := hide (by rw [← HR.out, hc.out, kcmp_tail (by omega) hkb (by omega)])
      clear a3 b3
      by_cases l2 : a.length < b.length
      · have d3 : decide ((a.length : Int) < (b.length : Int)) = true := by simp; omega
        have d4 : decide (a.length < b.length) = true := by simp; omega
        have HG : Hid (R = -1) := hide (by rw [HF.out, if_pos l2])
        clear l2
        go_wp2
        go_ret
        exact ⟨by have := HG.out; subst this; rfl, rfl⟩
      · have d3 : decide ((a.length : Int) < (b.length : Int)) = false := by simp; omega
        have d4 : decide (a.length < b.length) = false := by simp; omega
        have HG : Hid (R = 0) := hide (by rw [HF.out, if_neg l2])
        clear l2
        go_wp2
        go_ret
        exact ⟨by have := HG.out; subst this; rfl, rfl⟩
theorem kcompare_any (v1 v2 : Value) (a b : List Int) (w : World) (h1 : SlI w v1 a) (h2 : SlI w v2 b) :
    Calls Tryz.prog 103 #[v1, v2] w fun e w' => e = .returned (.int .i64 (kcmp a b)) ∧ w' = w := by
  have N := scompare_any v1 v2 a b w h1 h2
  obtain ⟨A, cA, rfl, a1, a2, a3⟩ := h1
  obtain ⟨B, cB, rfl, b1, b2, b3⟩ := h2
  clear a3 b3
  generalize kcmp a b = R at N ⊢
  go_enter Tryz.func103, Tryz.ntmps103
  go_wp2_with fail
  refine N.mono ?_
  rintro e w1 ⟨rfl, rfl⟩
  clear N
  go_wp2
  go_ret
  exact ⟨rfl, rfl⟩
end Go.Proofs.YtmiimpmfkjcjlaaGreat
