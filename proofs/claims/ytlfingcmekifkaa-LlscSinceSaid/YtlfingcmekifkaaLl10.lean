/- Linked words (law 38): linked, written. -/
import Derived.Test.YtlfingcmekifkaaBun5
import Derived.Test.YtlfingcmekifkaaBun6
namespace Go.Proofs.Ytlfingcmekifkaa
open Go.RowKit

/-- The last event that linked a place for a thread, among the first k. -/
def linkN (cs : List Cl) (es : List Ep) (t a : Int) : Nat → Int
  | 0 => -1
  | k + 1 => match es[k]? with
    | some e => if isLoad cs t a e then k else linkN cs es t a k
    | none => linkN cs es t a k
theorem linkN_succ {cs : List Cl} {es : List Ep} {t a : Int} {k : Nat} {e : Ep} (h : es[k]? = some e) : linkN cs es t a (k + 1) = if isLoad cs t a e then (k : Int) else linkN cs es t a k := by
  show (match es[k]? with | some e => if isLoad cs t a e then (k : Int) else linkN cs es t a k | none => linkN cs es t a k) = _
  rw [h]
theorem linkN_is {cs : List Cl} {es : List Ep} {t a : Int} {f : Nat} {d : Ep} (hd : es[f]? = some d) (hl : isLoad cs t a d) : ∀ {i : Nat}, f < i → (∀ k d, f < k → k < i → es[k]? = some d → ¬ isLoad cs t a d) → linkN cs es t a i = f := by
  intro i
  induction i with
  | zero => intro h; omega
  | succ i ih =>
    intro h hno
    by_cases e : f = i
    · subst e
      rw [linkN_succ hd, if_pos hl]
    · have h1 := ih (by omega) (fun k d h1 h2 => hno k d h1 (by omega))
      show (match es[i]? with | some e => if isLoad cs t a e then (i : Int) else linkN cs es t a i | none => linkN cs es t a i) = _
      rcases hx : es[i]? with _ | e'
      · exact h1
      · dsimp only
        rw [if_neg (hno i e' (by omega) (by omega) hx)]
        exact h1
set_option maxRecDepth 100000 in
set_option maxHeartbeats 2000000 in
theorem linkedW (A Ae : Option Addr) (m c ce i B : Nat) (Mu : Nat → Prop) (cs : List Cl) (es : List Ep) (e : Ep) (w : World) (h : SlCl w (.slice A m c) cs) (hm : cs.length = m) (hE : EvsAt w B Mu (.slice Ae es.length ce) es) (hc : ∀ (k : Nat) (y : Ep), es[k]? = some y → y.call < cs.length) (he : es[i]? = some e) (hel : es.length ≤ maxLen) :
    Calls Try.prog 14 #[.slice A m c, .slice Ae es.length ce, .int .i64 i] w fun x w' => x = .returned (.int .i64 (linkN cs es (callOf cs e.call).thread (callOf cs e.call).a i)) ∧ Below w.heap.size w w' := by
  have hil := (List.getElem?_eq_some_iff.1 he).1
  have hil' : (i : Int) < (es.length : Int) := by omega
  have hel' : (es.length : Int) ≤ 9223372036854775807 := by unfold maxLen at hel; omega
  obtain ⟨ge, rfl, hgz, x, hx, a0, a1, a2, a3, a4, a5, a6, a7⟩ := ev_at hE he
  have hL := hc i e he
  have hLm : (e.call : Int) < (m : Int) := by omega
  have H := hide h
  obtain ⟨A', c', e1, g1, g2, g3⟩ := h
  obtain ⟨bb, oo, e2, hbb, hcc⟩ := g3 _ _ (call_get hL)
  rw [hm] at e1
  cases e1
  cases e2
  obtain ⟨c0, c1, c2, c3, c4, c5⟩ := cl_cells hcc
  have HM := hide hm
  have HEV := hide hE
  have HCL := hide hc
  clear g1 g2 g3 hcc hx hL hE hc hel he hm
  go_enter Try.func14, Try.ntmps14
  go_wp2
  go_loopw [20, 8] (fun j v wr => ∃ k : Nat, k ≤ i ∧ j = .int .i64 k ∧ v = .int .i64 (linkN cs es (callOf cs e.call).thread (callOf cs e.call).a k) ∧ Hid (Below (w.alloc (.cells #[.int .i64 (callOf cs e.call).thread, .int .i64 (callOf cs e.call).obj, .int .i64 (callOf cs e.call).kind, .int .u64 (callOf cs e.call).a, .int .u64 (callOf cs e.call).b, .int .u64 (callOf cs e.call).c] 43)).heap.size (w.alloc (.cells #[.int .i64 (callOf cs e.call).thread, .int .i64 (callOf cs e.call).obj, .int .i64 (callOf cs e.call).kind, .int .u64 (callOf cs e.call).a, .int .u64 (callOf cs e.call).b, .int .u64 (callOf cs e.call).c] 43)) wr)) (fun j _ _ => i - (intOf j).toNat)
  case atStart => exact ⟨0, Nat.zero_le _, rfl, rfl, hide (Below.refl _ _)⟩
  case round =>
    obtain ⟨k, hk, rfl, rfl, hB⟩ := hrel
    have hbw : Below w.heap.size w wr := ((Below.refl _ w).alloc (Nat.le_refl _) _).trans (hB.out.mono (by simp))
    have hzr : w.heap.size < wr.heap.size := by have := hB.out.size; simp at this; omega
    have t0 : wr.cell? ⟨w.heap.size, 0, none⟩ = some (.int .i64 (callOf cs e.call).thread) := (hB.out.cell (p := ⟨w.heap.size, 0, none⟩) (by simp)).trans (by go_simp)
    have t3 : wr.cell? ⟨w.heap.size, 3, none⟩ = some (.int .u64 (callOf cs e.call).a) := (hB.out.cell (p := ⟨w.heap.size, 3, none⟩) (by simp)).trans (by go_simp)
    by_cases hlt : k < i
    · obtain ⟨y, hy⟩ : ∃ y, es[k]? = some y := ⟨_, List.getElem?_eq_getElem (by omega)⟩
      have hkl : (k : Int) < (es.length : Int) := by omega
      have hki : (k : Int) < (i : Int) := by omega
      obtain ⟨gy, hgy, hgz2, z, hz, b0, b1, b2, b3, b4, b5, b6, b7⟩ := ev_at (HEV.out.below hbw) hy
      cases hgy
      have hyc := HCL.out k y hy
      obtain ⟨A', c', e1, _, _, g3⟩ := H.out.below hbw (Nat.le_refl _)
      obtain ⟨bb', oo', e2, hbb', hcc⟩ := g3 _ _ (call_get hyc)
      rw [HM.out] at e1
      cases e1
      cases e2
      obtain ⟨d0, d1, d2, d3, d4, d5⟩ := cl_cells hcc
      have hym : (y.call : Int) < (m : Int) := by have := HM.out; omega
      have HL := hide (linkN_succ (cs := cs) (t := (callOf cs e.call).thread) (a := (callOf cs e.call).a) hy)
      clear hz g3 hcc hyc hy hbw c0 c1 c2 c3 c4 c5 a0 a1 a2 a3 a4 a5 a6 a7
      by_cases q0 : (callOf cs y.call).thread = (callOf cs e.call).thread
      · have p0 : ((callOf cs y.call).thread == (callOf cs e.call).thread) = true := by simpa using q0
        by_cases q1 : (callOf cs y.call).obj = 0
        · have p1 : ((callOf cs y.call).obj == 0) = true := by simpa using q1
          by_cases q2 : (callOf cs y.call).kind = 0
          · have p2 : ((callOf cs y.call).kind == 0) = true := by simpa using q2
            by_cases q3 : (callOf cs y.call).a = (callOf cs e.call).a
            · have p3 : ((callOf cs y.call).a == (callOf cs e.call).a) = true := by simpa using q3
              by_cases q4 : y.ans.err = 0
              · have p4 : (y.ans.err == 0) = true := by simpa using q4
                have HL2 : Hid (linkN cs es (callOf cs e.call).thread (callOf cs e.call).a (k + 1) = k) := hide (by rw [HL.out, if_pos (show isLoad _ _ _ _ from ⟨q0, q1, q2, q3, q4⟩)])
                clear q0 q1 q2 q3 q4
                go_wp2
                go_roundw
                case rel => exact ⟨k + 1, by omega, by go_num, by rw [HL2.out], hide (hB.out.alloc hB.out.size _)⟩
                case measure => first | (simp [intOf]; done) | (simp [intOf]; omega)
              · have p4 : (y.ans.err == 0) = false := by simpa using q4
                have hw : ¬ isLoad cs (callOf cs e.call).thread (callOf cs e.call).a y := fun h => q4 h.2.2.2.2
                clear q0 q1 q2 q3 q4
                have hno : ¬ isLoad cs (callOf cs e.call).thread (callOf cs e.call).a y := hw
                have HL2 : Hid (linkN cs es (callOf cs e.call).thread (callOf cs e.call).a (k + 1) = linkN cs es (callOf cs e.call).thread (callOf cs e.call).a k) := hide (by rw [HL.out, if_neg hno])
                clear hno hw
                go_wp2
                go_roundw
                case rel => exact ⟨k + 1, by omega, by go_num, by rw [HL2.out], hide (hB.out.alloc hB.out.size _)⟩
                case measure => first | (simp [intOf]; done) | (simp [intOf]; omega)
            · have p3 : ((callOf cs y.call).a == (callOf cs e.call).a) = false := by simpa using q3
              have hw : ¬ isLoad cs (callOf cs e.call).thread (callOf cs e.call).a y := fun h => q3 h.2.2.2.1
              clear q0 q1 q2 q3
              have hno : ¬ isLoad cs (callOf cs e.call).thread (callOf cs e.call).a y := hw
              have HL2 : Hid (linkN cs es (callOf cs e.call).thread (callOf cs e.call).a (k + 1) = linkN cs es (callOf cs e.call).thread (callOf cs e.call).a k) := hide (by rw [HL.out, if_neg hno])
              clear hno hw
              go_wp2
              go_roundw
              case rel => exact ⟨k + 1, by omega, by go_num, by rw [HL2.out], hide (hB.out.alloc hB.out.size _)⟩
              case measure => first | (simp [intOf]; done) | (simp [intOf]; omega)
          · have p2 : ((callOf cs y.call).kind == 0) = false := by simpa using q2
            have hw : ¬ isLoad cs (callOf cs e.call).thread (callOf cs e.call).a y := fun h => q2 h.2.2.1
            clear q0 q1 q2
            have hno : ¬ isLoad cs (callOf cs e.call).thread (callOf cs e.call).a y := hw
            have HL2 : Hid (linkN cs es (callOf cs e.call).thread (callOf cs e.call).a (k + 1) = linkN cs es (callOf cs e.call).thread (callOf cs e.call).a k) := hide (by rw [HL.out, if_neg hno])
            clear hno hw
            go_wp2
            go_roundw
            case rel => exact ⟨k + 1, by omega, by go_num, by rw [HL2.out], hide (hB.out.alloc hB.out.size _)⟩
            case measure => first | (simp [intOf]; done) | (simp [intOf]; omega)
        · have p1 : ((callOf cs y.call).obj == 0) = false := by simpa using q1
          have hw : ¬ isLoad cs (callOf cs e.call).thread (callOf cs e.call).a y := fun h => q1 h.2.1
          clear q0 q1
          have hno : ¬ isLoad cs (callOf cs e.call).thread (callOf cs e.call).a y := hw
          have HL2 : Hid (linkN cs es (callOf cs e.call).thread (callOf cs e.call).a (k + 1) = linkN cs es (callOf cs e.call).thread (callOf cs e.call).a k) := hide (by rw [HL.out, if_neg hno])
          clear hno hw
          go_wp2
          go_roundw
          case rel => exact ⟨k + 1, by omega, by go_num, by rw [HL2.out], hide (hB.out.alloc hB.out.size _)⟩
          case measure => first | (simp [intOf]; done) | (simp [intOf]; omega)
      · have p0 : ((callOf cs y.call).thread == (callOf cs e.call).thread) = false := by simpa using q0
        have hw : ¬ isLoad cs (callOf cs e.call).thread (callOf cs e.call).a y := fun h => q0 h.1
        clear q0
        have hno : ¬ isLoad cs (callOf cs e.call).thread (callOf cs e.call).a y := hw
        have HL2 : Hid (linkN cs es (callOf cs e.call).thread (callOf cs e.call).a (k + 1) = linkN cs es (callOf cs e.call).thread (callOf cs e.call).a k) := hide (by rw [HL.out, if_neg hno])
        clear hno hw
        go_wp2
        go_roundw
        case rel => exact ⟨k + 1, by omega, by go_num, by rw [HL2.out], hide (hB.out.alloc hB.out.size _)⟩
        case measure => first | (simp [intOf]; done) | (simp [intOf]; omega)
    · obtain rfl : k = i := by omega
      go_wp2
      go_ret
      exact ⟨rfl, hbw⟩
end Go.Proofs.Ytlfingcmekifkaa
