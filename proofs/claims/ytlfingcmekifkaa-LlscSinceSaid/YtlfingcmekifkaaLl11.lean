/- Linked words (law 38): written. -/
import Derived.Test.YtlfingcmekifkaaLl10
namespace Go.Proofs.Ytlfingcmekifkaa
open Go.RowKit

set_option maxRecDepth 100000 in
set_option maxHeartbeats 2000000 in
theorem writtenW (A Ae : Option Addr) (m c ce f i B : Nat) (Mu : Nat → Prop) (cs : List Cl) (es : List Ep) (e : Ep) (w : World) (h : SlCl w (.slice A m c) cs) (hm : cs.length = m) (hE : EvsAt w B Mu (.slice Ae es.length ce) es) (hc : ∀ (k : Nat) (y : Ep), es[k]? = some y → y.call < cs.length) (he : es[i]? = some e) (hel : es.length ≤ maxLen) (hf : f < i) :
    Calls Try.prog 15 #[.slice A m c, .slice Ae es.length ce, .int .i64 f, .int .i64 i] w fun x w' => ∃ b, x = .returned (.bool b) ∧ (b = true ↔ ∃ (k : Nat) (d : Ep), f < k ∧ k < i ∧ es[k]? = some d ∧ isPut cs (callOf cs e.call).a d) ∧ Below w.heap.size w w' := by
  have hil := (List.getElem?_eq_some_iff.1 he).1
  have hil' : (i : Int) < (es.length : Int) := by omega
  have hel' : (es.length : Int) ≤ 9223372036854775807 := by unfold maxLen at hel; omega
  have H := hide h
  have HM := hide hm
  have HEV := hide hE
  have HCL := hide hc
  have HE := hide he
  have hwf : IntKind.i64.wrap ((f : Int) + 1) = (f : Int) + 1 := wrap_i64 (by omega) (by omega)
  clear h hm hE hc hel he
  go_enter Try.func15, Try.ntmps15
  go_wp2
  go_loopw [9] (fun j wr => ∃ k : Nat, f < k ∧ k ≤ i ∧ j = .int .i64 k ∧ Hid (∀ (j : Nat) (d : Ep), f < j → j < k → es[j]? = some d → ¬ isPut cs (callOf cs e.call).a d) ∧ Hid (Below w.heap.size w wr)) (fun j _ => i - (intOf j).toNat)
  case atStart => exact ⟨f + 1, by omega, by omega, by first | rfl | simp, hide (fun j d h1 h2 => by omega), hide (Below.refl _ _)⟩
  case round =>
    obtain ⟨k, hfk, hk, rfl, HN, hB⟩ := hrel
    have hbw := hB.out
    by_cases hlt : k < i
    · obtain ⟨y, hy⟩ : ∃ y, es[k]? = some y := ⟨_, List.getElem?_eq_getElem (by omega)⟩
      have hkl : (k : Int) < (es.length : Int) := by omega
      have hki : (k : Int) < (i : Int) := by omega
      obtain ⟨gy, rfl, hgz2, z, hz, b0, b1, b2, b3, b4, b5, b6, b7⟩ := ev_at (HEV.out.below hbw) hy
      obtain ⟨ge, hge, hgz, x, hx, a0, a1, a2, a3, a4, a5, a6, a7⟩ := ev_at (HEV.out.below hbw) HE.out
      cases hge
      have hyc := HCL.out k y hy
      have hec := HCL.out i e HE.out
      obtain ⟨A', c', e1, _, _, g3⟩ := H.out.below hbw (Nat.le_refl _)
      obtain ⟨bb', oo', e2, hbb', hcc⟩ := g3 _ _ (call_get hyc)
      obtain ⟨bb2, oo2, e22, hbb2, hcc2⟩ := g3 _ _ (call_get hec)
      rw [HM.out] at e1
      cases e1
      cases e2
      cases e22
      obtain ⟨d0, d1, d2, d3, d4, d5⟩ := cl_cells hcc
      obtain ⟨f0, f1, f2, f3, f4, f5⟩ := cl_cells hcc2
      have hym : (y.call : Int) < (m : Int) := by have := HM.out; omega
      have hem : (e.call : Int) < (m : Int) := by have := HM.out; omega
      have HY := hide hy
      clear hz g3 hcc hcc2 hyc hec hy hbw hx f0 f1 f2 f4 f5
      by_cases q1 : (callOf cs y.call).obj = 0
      · have p1 : ((callOf cs y.call).obj == 0) = true := by simpa using q1
        by_cases q2 : (callOf cs y.call).kind = 1
        · have p2 : ((callOf cs y.call).kind == 1) = true := by simpa using q2
          by_cases q3 : (callOf cs y.call).a = (callOf cs e.call).a
          · have p3 : ((callOf cs y.call).a == (callOf cs e.call).a) = true := by simpa using q3
            by_cases q4 : y.ans.val = 1
            · have p4 : (y.ans.val == 1) = true := by simpa using q4
              have hw : ∃ (k : Nat) (d : Ep), f < k ∧ k < i ∧ es[k]? = some d ∧ isPut cs (callOf cs e.call).a d := ⟨k, y, hfk, hlt, HY.out, q1, q2, q3, q4⟩
              have HWW := hide hw
              clear q1 q2 q3 q4 hw
              go_wp2
              refine wp_region_seq (fun Y => Below (wr.alloc (.cells #[.int .i64 (callOf cs y.call).thread, .int .i64 (callOf cs y.call).obj, .int .i64 (callOf cs y.call).kind, .int .u64 (callOf cs y.call).a, .int .u64 (callOf cs y.call).b, .int .u64 (callOf cs y.call).c] 43)).heap.size (wr.alloc (.cells #[.int .i64 (callOf cs y.call).thread, .int .i64 (callOf cs y.call).obj, .int .i64 (callOf cs y.call).kind, .int .u64 (callOf cs y.call).a, .int .u64 (callOf cs y.call).b, .int .u64 (callOf cs y.call).c] 43)) Y) (.take 0 <| .take 1 <| .take 2 <| .take 3 <| .take 4 <| .take 5 <| .take 6 <| .take 7 <| .take 8 <| .take 9 <| .take 10 <| .take 11 <| .take 12 <| .take 13 <| .take 14 <| .take 15 <| .take 16 <| .take 17 <| .take 18 <| .take 19 <| .take 20 <| .take 21 <| .take 22 <| .take 23 <| .take 24 <| .take 25 <| .take 26 <| .take 27 <| .take 28 <| .take 29 <| .take 30 <| .done) (by kernel_rfl) (by kernel_rfl) (by kernel_rfl) (by (repeat' (first | exact Below.refl _ _ | assumption | refine Below.drew ?_ | refine below_drewN ?_ _ | refine Below.alloc ?_ (by simp <;> omega) _ | refine Below.setCell ?_ (by simp <;> omega) _))) ?_
              repeat (first | (refine seq_take (v := ?_) rfl (by rfl) ?_ ?_; rotate_left; (focus (intro wS hS; replace hS := bcellc hS; go_simp; exact rfl)); simp only [Act.put, List.setIfInBounds_toArray, List.set_cons_zero, List.set_cons_succ]) | (refine seq_skip rfl (by rfl) ?_; simp only [Act.put, List.setIfInBounds_toArray, List.set_cons_zero, List.set_cons_succ]) | (refine seq_pass rfl (by rfl) (by assumption) ?_; simp only [Act.put, List.setIfInBounds_toArray, List.set_cons_zero, List.set_cons_succ]))
              refine seq_nil ?_
              go_wp2
              go_ret
              exact ⟨true, rfl, ⟨fun _ => HWW.out, fun _ => rfl⟩, by first | exact (hB.out.alloc hB.out.size _) | exact (hB.out.alloc hB.out.size _).drew | exact below_drewN (hB.out.alloc hB.out.size _) _⟩
            · have p4 : (y.ans.val == 1) = false := by simpa using q4
              have hw : ¬ isPut cs (callOf cs e.call).a y := fun h => q4 h.2.2.2
              clear q1 q2 q3 q4
              have HN2 : Hid (∀ (j : Nat) (d : Ep), f < j → j < k + 1 → es[j]? = some d → ¬ isPut cs (callOf cs e.call).a d) := hide (fun j d h1 h2 h3 => by
                by_cases ej : j = k
                · subst ej
                  rw [HY.out] at h3
                  cases h3
                  exact hw
                · exact HN.out j d h1 (by omega) h3)
              clear hw
              go_wp2
              refine wp_region_seq (fun Y => Below (wr.alloc (.cells #[.int .i64 (callOf cs y.call).thread, .int .i64 (callOf cs y.call).obj, .int .i64 (callOf cs y.call).kind, .int .u64 (callOf cs y.call).a, .int .u64 (callOf cs y.call).b, .int .u64 (callOf cs y.call).c] 43)).heap.size (wr.alloc (.cells #[.int .i64 (callOf cs y.call).thread, .int .i64 (callOf cs y.call).obj, .int .i64 (callOf cs y.call).kind, .int .u64 (callOf cs y.call).a, .int .u64 (callOf cs y.call).b, .int .u64 (callOf cs y.call).c] 43)) Y) (.take 0 <| .take 1 <| .take 2 <| .take 3 <| .take 4 <| .take 5 <| .take 6 <| .take 7 <| .take 8 <| .take 9 <| .take 10 <| .take 11 <| .take 12 <| .take 13 <| .take 14 <| .take 15 <| .take 16 <| .take 17 <| .take 18 <| .take 19 <| .take 20 <| .take 21 <| .take 22 <| .take 23 <| .take 24 <| .take 25 <| .take 26 <| .take 27 <| .take 28 <| .take 29 <| .take 30 <| .done) (by kernel_rfl) (by kernel_rfl) (by kernel_rfl) (by (repeat' (first | exact Below.refl _ _ | assumption | refine Below.drew ?_ | refine below_drewN ?_ _ | refine Below.alloc ?_ (by simp <;> omega) _ | refine Below.setCell ?_ (by simp <;> omega) _))) ?_
              repeat (first | (refine seq_take (v := ?_) rfl (by rfl) ?_ ?_; rotate_left; (focus (intro wS hS; replace hS := bcellc hS; go_simp; exact rfl)); simp only [Act.put, List.setIfInBounds_toArray, List.set_cons_zero, List.set_cons_succ]) | (refine seq_skip rfl (by rfl) ?_; simp only [Act.put, List.setIfInBounds_toArray, List.set_cons_zero, List.set_cons_succ]) | (refine seq_pass rfl (by rfl) (by assumption) ?_; simp only [Act.put, List.setIfInBounds_toArray, List.set_cons_zero, List.set_cons_succ]))
              refine seq_nil ?_
              go_wp2
              go_roundw
              case rel => exact ⟨k + 1, by omega, by omega, by go_num, HN2, hide (by first | exact (hB.out.alloc hB.out.size _) | exact (hB.out.alloc hB.out.size _).drew | exact below_drewN (hB.out.alloc hB.out.size _) _)⟩
              case measure => first | (simp [intOf]; done) | (simp [intOf]; omega)
          · have p3 : ((callOf cs y.call).a == (callOf cs e.call).a) = false := by simpa using q3
            have hw : ¬ isPut cs (callOf cs e.call).a y := fun h => q3 h.2.2.1
            clear q1 q2 q3
            have HN2 : Hid (∀ (j : Nat) (d : Ep), f < j → j < k + 1 → es[j]? = some d → ¬ isPut cs (callOf cs e.call).a d) := hide (fun j d h1 h2 h3 => by
              by_cases ej : j = k
              · subst ej
                rw [HY.out] at h3
                cases h3
                exact hw
              · exact HN.out j d h1 (by omega) h3)
            clear hw
            go_wp2
            refine wp_region_seq (fun Y => Below (wr.alloc (.cells #[.int .i64 (callOf cs y.call).thread, .int .i64 (callOf cs y.call).obj, .int .i64 (callOf cs y.call).kind, .int .u64 (callOf cs y.call).a, .int .u64 (callOf cs y.call).b, .int .u64 (callOf cs y.call).c] 43)).heap.size (wr.alloc (.cells #[.int .i64 (callOf cs y.call).thread, .int .i64 (callOf cs y.call).obj, .int .i64 (callOf cs y.call).kind, .int .u64 (callOf cs y.call).a, .int .u64 (callOf cs y.call).b, .int .u64 (callOf cs y.call).c] 43)) Y) (.take 0 <| .take 1 <| .take 2 <| .take 3 <| .take 4 <| .take 5 <| .take 6 <| .take 7 <| .take 8 <| .take 9 <| .take 10 <| .take 11 <| .take 12 <| .take 13 <| .take 14 <| .take 15 <| .take 16 <| .take 17 <| .take 18 <| .take 19 <| .take 20 <| .take 21 <| .take 22 <| .take 23 <| .take 24 <| .take 25 <| .take 26 <| .take 27 <| .take 28 <| .take 29 <| .take 30 <| .done) (by kernel_rfl) (by kernel_rfl) (by kernel_rfl) (by (repeat' (first | exact Below.refl _ _ | assumption | refine Below.drew ?_ | refine below_drewN ?_ _ | refine Below.alloc ?_ (by simp <;> omega) _ | refine Below.setCell ?_ (by simp <;> omega) _))) ?_
            repeat (first | (refine seq_take (v := ?_) rfl (by rfl) ?_ ?_; rotate_left; (focus (intro wS hS; replace hS := bcellc hS; go_simp; exact rfl)); simp only [Act.put, List.setIfInBounds_toArray, List.set_cons_zero, List.set_cons_succ]) | (refine seq_skip rfl (by rfl) ?_; simp only [Act.put, List.setIfInBounds_toArray, List.set_cons_zero, List.set_cons_succ]) | (refine seq_pass rfl (by rfl) (by assumption) ?_; simp only [Act.put, List.setIfInBounds_toArray, List.set_cons_zero, List.set_cons_succ]))
            refine seq_nil ?_
            go_wp2
            go_roundw
            case rel => exact ⟨k + 1, by omega, by omega, by go_num, HN2, hide (by first | exact (hB.out.alloc hB.out.size _) | exact (hB.out.alloc hB.out.size _).drew | exact below_drewN (hB.out.alloc hB.out.size _) _)⟩
            case measure => first | (simp [intOf]; done) | (simp [intOf]; omega)
        · have p2 : ((callOf cs y.call).kind == 1) = false := by simpa using q2
          have hw : ¬ isPut cs (callOf cs e.call).a y := fun h => q2 h.2.1
          clear q1 q2
          have HN2 : Hid (∀ (j : Nat) (d : Ep), f < j → j < k + 1 → es[j]? = some d → ¬ isPut cs (callOf cs e.call).a d) := hide (fun j d h1 h2 h3 => by
            by_cases ej : j = k
            · subst ej
              rw [HY.out] at h3
              cases h3
              exact hw
            · exact HN.out j d h1 (by omega) h3)
          clear hw
          go_wp2
          refine wp_region_seq (fun Y => Below (wr.alloc (.cells #[.int .i64 (callOf cs y.call).thread, .int .i64 (callOf cs y.call).obj, .int .i64 (callOf cs y.call).kind, .int .u64 (callOf cs y.call).a, .int .u64 (callOf cs y.call).b, .int .u64 (callOf cs y.call).c] 43)).heap.size (wr.alloc (.cells #[.int .i64 (callOf cs y.call).thread, .int .i64 (callOf cs y.call).obj, .int .i64 (callOf cs y.call).kind, .int .u64 (callOf cs y.call).a, .int .u64 (callOf cs y.call).b, .int .u64 (callOf cs y.call).c] 43)) Y) (.take 0 <| .take 1 <| .take 2 <| .take 3 <| .take 4 <| .take 5 <| .take 6 <| .take 7 <| .take 8 <| .take 9 <| .take 10 <| .take 11 <| .take 12 <| .take 13 <| .take 14 <| .take 15 <| .take 16 <| .take 17 <| .take 18 <| .take 19 <| .take 20 <| .take 21 <| .take 22 <| .take 23 <| .take 24 <| .take 25 <| .take 26 <| .take 27 <| .take 28 <| .take 29 <| .take 30 <| .done) (by kernel_rfl) (by kernel_rfl) (by kernel_rfl) (by (repeat' (first | exact Below.refl _ _ | assumption | refine Below.drew ?_ | refine below_drewN ?_ _ | refine Below.alloc ?_ (by simp <;> omega) _ | refine Below.setCell ?_ (by simp <;> omega) _))) ?_
          repeat (first | (refine seq_take (v := ?_) rfl (by rfl) ?_ ?_; rotate_left; (focus (intro wS hS; replace hS := bcellc hS; go_simp; exact rfl)); simp only [Act.put, List.setIfInBounds_toArray, List.set_cons_zero, List.set_cons_succ]) | (refine seq_skip rfl (by rfl) ?_; simp only [Act.put, List.setIfInBounds_toArray, List.set_cons_zero, List.set_cons_succ]) | (refine seq_pass rfl (by rfl) (by assumption) ?_; simp only [Act.put, List.setIfInBounds_toArray, List.set_cons_zero, List.set_cons_succ]))
          refine seq_nil ?_
          go_wp2
          go_roundw
          case rel => exact ⟨k + 1, by omega, by omega, by go_num, HN2, hide (by first | exact (hB.out.alloc hB.out.size _) | exact (hB.out.alloc hB.out.size _).drew | exact below_drewN (hB.out.alloc hB.out.size _) _)⟩
          case measure => first | (simp [intOf]; done) | (simp [intOf]; omega)
      · have p1 : ((callOf cs y.call).obj == 0) = false := by simpa using q1
        have hw : ¬ isPut cs (callOf cs e.call).a y := fun h => q1 h.1
        clear q1
        have HN2 : Hid (∀ (j : Nat) (d : Ep), f < j → j < k + 1 → es[j]? = some d → ¬ isPut cs (callOf cs e.call).a d) := hide (fun j d h1 h2 h3 => by
          by_cases ej : j = k
          · subst ej
            rw [HY.out] at h3
            cases h3
            exact hw
          · exact HN.out j d h1 (by omega) h3)
        clear hw
        go_wp2
        refine wp_region_seq (fun Y => Below (wr.alloc (.cells #[.int .i64 (callOf cs y.call).thread, .int .i64 (callOf cs y.call).obj, .int .i64 (callOf cs y.call).kind, .int .u64 (callOf cs y.call).a, .int .u64 (callOf cs y.call).b, .int .u64 (callOf cs y.call).c] 43)).heap.size (wr.alloc (.cells #[.int .i64 (callOf cs y.call).thread, .int .i64 (callOf cs y.call).obj, .int .i64 (callOf cs y.call).kind, .int .u64 (callOf cs y.call).a, .int .u64 (callOf cs y.call).b, .int .u64 (callOf cs y.call).c] 43)) Y) (.take 0 <| .take 1 <| .take 2 <| .take 3 <| .take 4 <| .take 5 <| .take 6 <| .take 7 <| .take 8 <| .take 9 <| .take 10 <| .take 11 <| .take 12 <| .take 13 <| .take 14 <| .take 15 <| .take 16 <| .take 17 <| .take 18 <| .take 19 <| .take 20 <| .take 21 <| .take 22 <| .take 23 <| .take 24 <| .take 25 <| .take 26 <| .take 27 <| .take 28 <| .take 29 <| .take 30 <| .done) (by kernel_rfl) (by kernel_rfl) (by kernel_rfl) (by (repeat' (first | exact Below.refl _ _ | assumption | refine Below.drew ?_ | refine below_drewN ?_ _ | refine Below.alloc ?_ (by simp <;> omega) _ | refine Below.setCell ?_ (by simp <;> omega) _))) ?_
        repeat (first | (refine seq_take (v := ?_) rfl (by rfl) ?_ ?_; rotate_left; (focus (intro wS hS; replace hS := bcellc hS; go_simp; exact rfl)); simp only [Act.put, List.setIfInBounds_toArray, List.set_cons_zero, List.set_cons_succ]) | (refine seq_skip rfl (by rfl) ?_; simp only [Act.put, List.setIfInBounds_toArray, List.set_cons_zero, List.set_cons_succ]) | (refine seq_pass rfl (by rfl) (by assumption) ?_; simp only [Act.put, List.setIfInBounds_toArray, List.set_cons_zero, List.set_cons_succ]))
        refine seq_nil ?_
        go_wp2
        go_roundw
        case rel => exact ⟨k + 1, by omega, by omega, by go_num, HN2, hide (by first | exact (hB.out.alloc hB.out.size _) | exact (hB.out.alloc hB.out.size _).drew | exact below_drewN (hB.out.alloc hB.out.size _) _)⟩
        case measure => first | (simp [intOf]; done) | (simp [intOf]; omega)
    · obtain rfl : k = i := by omega
      go_wp2
      go_ret
      refine ⟨false, rfl, ⟨fun h => (by cases h), fun ⟨j, d, h1, h2, h3, h4⟩ => absurd h4 (HN.out j d h1 h2 h3)⟩, hbw⟩
end Go.Proofs.Ytlfingcmekifkaa
