/- The document's answer about ticks: Event (chapter 36). -/
import Derived.Test.YtmiimpmfkjcjlaaCu7
namespace Go.Proofs.Ytmiimpmfkjcjlaa
open Go.RowKit

def evIx (es : List Ev) (c : Int) : Int := match es.findIdx? (fun e => decide (e.call = c)) with
  | some k => k
  | none => -1
theorem evIx_at {es : List Ev} {c : Int} {k : Nat} {x : Ev} (h : es[k]? = some x) (hx : x.call = c) (hj : ∀ (j : Nat) (y : Ev), j < k → es[j]? = some y → y.call ≠ c) : evIx es c = k ∧ evAt es c = some x := by
  have h1 : es.findIdx? (fun e => decide (e.call = c)) = some k := by
    rw [List.findIdx?_eq_some_iff_getElem]
    obtain ⟨hk, e⟩ := List.getElem?_eq_some_iff.1 h
    refine ⟨hk, by rw [e]; simpa using hx, fun j hjk => ?_⟩
    have := hj j _ hjk (List.getElem?_eq_getElem (by omega))
    simpa using this
  refine ⟨by unfold evIx; rw [h1], ?_⟩
  unfold evAt
  rw [List.find?_eq_bind_findIdx?_getElem?, h1]
  exact h
theorem evIx_no {es : List Ev} {c : Int} (hj : ∀ (j : Nat) (y : Ev), es[j]? = some y → y.call ≠ c) : evIx es c = -1 ∧ evAt es c = none := by
  have h1 : ∀ y ∈ es, ¬ y.call = c := fun y hy => by
    obtain ⟨i, hi, rfl⟩ := List.getElem_of_mem hy
    exact hj i _ (List.getElem?_eq_getElem hi)
  refine ⟨?_, by unfold evAt; rw [List.find?_eq_none]; simpa using h1⟩
  unfold evIx
  rw [List.findIdx?_eq_none_iff.2 (by simpa using h1)]

set_option maxRecDepth 100000 in
set_option maxHeartbeats 2000000 in
theorem refEvent36 (A : Option Addr) (m c : Nat) (es : List Ev) (q : Int) (w : World) (h : SlEv w (.slice A m c) es) (hm : es.length = m) :
    Calls Try.prog 10 #[.slice A m c, .int .i64 q] w fun e w' => e = .returned (.int .i64 (evIx es q)) ∧ w' = w := by
  have hle : m ≤ maxLen := by obtain ⟨_, _, e, h1, h2, _⟩ := h; cases e; omega
  have hm63 : (m : Int) ≤ 9223372036854775807 := by unfold maxLen at hle; omega
  have HH := hide h
  have HM := hide hm
  obtain ⟨E, hE⟩ : ∃ E, evIx es q = E := ⟨_, rfl⟩
  have HE := hide hE
  rw [hE]
  clear h hm hE
  go_enter Try.func10, Try.ntmps10
  go_wp2
  go_loopw [8] (fun i wr => ∃ k : Nat, k ≤ m ∧ i = .int .i64 k ∧ Hid (∀ (j : Nat) (y : Ev), j < k → es[j]? = some y → y.call ≠ q) ∧ wr = w) (fun i _ => m - (intOf i).toNat)
  case atStart => exact ⟨0, Nat.zero_le _, rfl, hide (fun j y hj => by omega), rfl⟩
  case round =>
    obtain ⟨k, hk, rfl, hOk, rfl⟩ := hrel
    by_cases hlt : k < m
    · obtain ⟨x, hxk⟩ : ∃ x, es[k]? = some x := ⟨_, List.getElem?_eq_getElem (by have := HM.out; omega)⟩
      obtain ⟨A', c', e, _, _, h3⟩ := HH.out
      obtain ⟨b, oo, e', hb, hc⟩ := h3 k x hxk
      rw [HM.out] at e
      cases e
      cases e'
      obtain ⟨c0, c1, c2, c3, c4, c5, c6, c7⟩ := ev_cells hc
      have HK := hide hxk
      clear h3 hc hxk
      by_cases hp : x.call = q
      · have d0 : (x.call == q) = true := by simpa using hp
        have hE1 : Hid ((k : Int) = E) := hide (by rw [← HE.out]; exact (evIx_at HK.out hp hOk.out).1.symm)
        clear hp
        go_wp2
        go_ret
        exact ⟨by rw [← hE1.out]; rfl, rfl⟩
      · have d0 : (x.call == q) = false := by simpa using hp
        have hok1 : Hid (∀ (j : Nat) (y : Ev), j < k + 1 → es[j]? = some y → y.call ≠ q) := hide (fun j y hj hy => by
          by_cases e : j = k
          · subst e
            rw [HK.out] at hy
            cases hy
            exact hp
          · exact hOk.out j y (by omega) hy)
        clear hp
        go_wp2
        go_roundw
        case rel => exact ⟨k + 1, by omega, by go_num, hok1, trivial⟩
        case measure => first | (simp [intOf]; done) | (simp [intOf]; omega)
    · obtain rfl : k = m := by omega
      have hE1 : Hid (-1 = E) := hide (by rw [← HE.out]; exact (evIx_no (fun j y hy => hOk.out j y (by have := (List.getElem?_eq_some_iff.1 hy).1; have := HM.out; omega) hy)).1.symm)
      go_wp2
      go_ret
      exact ⟨by rw [← hE1.out]; rfl, rfl⟩
end Go.Proofs.Ytmiimpmfkjcjlaa
