/- The document's answer about ticks: Now (chapter 5). -/
import Derived.Test.YtmiimpmfkjcjlaaCu6
namespace Go.Proofs.Ytmiimpmfkjcjlaa
open Go.RowKit

def isNow (cs : List Cl) (fin : List Bool) (p : Int) (i : Nat) : Bool := decide ((cs[i]?).map (·.thread) = some p) && !(fin[i]?.getD false)
def nowV (cs : List Cl) (fin : List Bool) (p : Int) : Int := match nowF cs fin p with
  | some i => i
  | none => -1
theorem nowF_find (cs : List Cl) (fin : List Bool) (p : Int) : nowF cs fin p = (List.range cs.length).find? (isNow cs fin p) := by
  unfold nowF remF
  rw [List.head?_filter]
  rfl
theorem nowF_at {cs : List Cl} {fin : List Bool} {p : Int} {k : Nat} (hk : k < cs.length) (h : isNow cs fin p k = true) (hj : ∀ j, j < k → isNow cs fin p j = false) : nowF cs fin p = some k := by
  rw [nowF_find, List.find?_range_eq_some]
  exact ⟨h, List.mem_range.2 hk, fun j hjk => by rw [hj j hjk]; rfl⟩
theorem nowF_no {cs : List Cl} {fin : List Bool} {p : Int} (hj : ∀ j, j < cs.length → isNow cs fin p j = false) : nowF cs fin p = none := by
  rw [nowF_find, List.find?_eq_none]
  intro j hjm
  rw [hj j (List.mem_range.1 hjm)]
  simp
def bEnc (b : Bool) : List Value := [.bool b]
abbrev SlB := Sl bEnc 1
theorem b_cell {w : World} {b p : Nat} {x : Bool} (h : CellsAt w b p (bEnc x)) : w.cell? ⟨b, p, none⟩ = some (.bool x) := h 0 _ rfl

set_option maxRecDepth 100000 in
set_option maxHeartbeats 2000000 in
theorem refNow05 (A Af : Option Addr) (m c cf : Nat) (cs : List Cl) (fin : List Bool) (p : Int) (w : World) (h : SlCl w (.slice A m c) cs) (hm : cs.length = m) (hf : SlB w (.slice Af m cf) fin) (hmf : fin.length = m) :
    Calls Try.prog 20 #[.slice A m c, .slice Af m cf, .int .i64 p] w fun e w' => e = .returned (.int .i64 (nowV cs fin p)) ∧ w' = w := by
  have hle : m ≤ maxLen := by obtain ⟨_, _, e, h1, h2, _⟩ := h; cases e; omega
  have hm63 : (m : Int) ≤ 9223372036854775807 := by unfold maxLen at hle; omega
  have HH := hide h
  have HM := hide hm
  have HF := hide hf
  have HMF := hide hmf
  obtain ⟨E, hE⟩ : ∃ E, nowV cs fin p = E := ⟨_, rfl⟩
  have HE := hide hE
  rw [hE]
  clear h hm hf hmf hE
  go_enter Try.func20, Try.ntmps20
  go_wp2
  go_loopw [10] (fun i wr => ∃ k : Nat, k ≤ m ∧ i = .int .i64 k ∧ Hid (∀ j, j < k → isNow cs fin p j = false) ∧ wr = w) (fun i _ => m - (intOf i).toNat)
  case atStart => exact ⟨0, Nat.zero_le _, rfl, hide (fun j hj => by omega), rfl⟩
  case round =>
    obtain ⟨k, hk, rfl, hOk, rfl⟩ := hrel
    by_cases hlt : k < m
    · obtain ⟨x, hxk⟩ : ∃ x, cs[k]? = some x := ⟨_, List.getElem?_eq_getElem (by have := HM.out; omega)⟩
      obtain ⟨f, hfk⟩ : ∃ f, fin[k]? = some f := ⟨_, List.getElem?_eq_getElem (by have := HMF.out; omega)⟩
      obtain ⟨A', c', e, _, _, h3⟩ := HH.out
      obtain ⟨b, oo, e', hb, hc⟩ := h3 k x hxk
      rw [HM.out] at e
      cases e
      cases e'
      obtain ⟨c0, c1, c2, c3, c4, c5⟩ := cl_cells hc
      obtain ⟨A2, c2', e2, _, _, h4⟩ := HF.out
      obtain ⟨b2, o2, e2', hb2, hc2⟩ := h4 k f hfk
      rw [HMF.out] at e2
      cases e2
      cases e2'
      have f0 := b_cell hc2
      simp only [Nat.mul_one] at f0
      have hN : isNow cs fin p k = (decide (x.thread = p) && !f) := by unfold isNow; rw [hxk, hfk]; simp
      have HN := hide hN
      clear h3 hc hxk h4 hc2 hfk hN
      by_cases hp : x.thread = p
      · have d0 : (x.thread == p) = true := by simpa using hp
        cases f
        · have hE1 : Hid ((k : Int) = E) := hide (by rw [← HE.out]; unfold nowV; rw [nowF_at (by have := HM.out; omega) (by rw [HN.out]; simpa using hp) hOk.out])
          clear hp
          go_wp2
          go_ret
          exact ⟨by rw [← hE1.out]; rfl, rfl⟩
        · have hok1 : Hid (∀ j, j < k + 1 → isNow cs fin p j = false) := hide (fun j hj => by
            by_cases e : j = k
            · rw [e, HN.out]; simp
            · exact hOk.out j (by omega))
          clear hp
          go_wp2
          go_roundw
          case rel => exact ⟨k + 1, by omega, by go_num, hok1, trivial⟩
          case measure => first | (simp [intOf]; done) | (simp [intOf]; omega)
      · have d0 : (x.thread == p) = false := by simpa using hp
        have hok1 : Hid (∀ j, j < k + 1 → isNow cs fin p j = false) := hide (fun j hj => by
          by_cases e : j = k
          · rw [e, HN.out]; simp [hp]
          · exact hOk.out j (by omega))
        clear hp
        go_wp2
        go_roundw
        case rel => exact ⟨k + 1, by omega, by go_num, hok1, trivial⟩
        case measure => first | (simp [intOf]; done) | (simp [intOf]; omega)
    · obtain rfl : k = m := by omega
      have hE1 : Hid (-1 = E) := hide (by rw [← HE.out]; unfold nowV; rw [nowF_no (fun j hj => hOk.out j (by have := HM.out; omega))])
      go_wp2
      go_ret
      exact ⟨by rw [← hE1.out]; rfl, rfl⟩
end Go.Proofs.Ytmiimpmfkjcjlaa
