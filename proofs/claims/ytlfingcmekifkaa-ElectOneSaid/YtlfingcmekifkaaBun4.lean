/- roundelayplain: Many; nothing is in a report that tells nothing (None). -/
/- An election (law 42): ElectOne: what is counted. -/
import Derived.Test.YtlfingcmekifkaaCmp
import Derived.Test.YtlfingcmekifkaaOj1
import Derived.Test.YtlfingcmekifkaaEl6
import Derived.Test.YtlfingcmekifkaaOj3
namespace Go.Proofs.Ytlfingcmekifkaa
open Go.RowKit

def manyB (c p : Nat) : Bool := (decide (60 < c) && decide (c ≤ 1000)) || (decide (600 < p) && decide (p ≤ 65536)) || decide (1100 < c)
theorem manyB_no {c p : Nat} (h : manyB c p = false) : (c ≤ 60 ∨ (1000 < c ∧ c ≤ 1100)) ∧ (p ≤ 600 ∨ 65536 < p) := by
  unfold manyB at h
  simp at h
  omega

set_option maxRecDepth 100000 in
set_option maxHeartbeats 2000000 in
theorem many_any (A Ap : Option Addr) (m c mp cp : Nat) (w : World) (hm : m ≤ maxLen) (hp : mp ≤ maxLen) :
    Calls Try.prog 10 #[.slice A m c, .slice Ap mp cp] w fun e w' => e = .returned (.bool (manyB m mp)) ∧ w' = w := by
  have hm63 : (m : Int) ≤ 9223372036854775807 := by unfold maxLen at hm; omega
  have hp63 : (mp : Int) ≤ 9223372036854775807 := by unfold maxLen at hp; omega
  obtain ⟨R, hR⟩ : ∃ R, manyB m mp = R := ⟨_, rfl⟩
  have HR := hide hR
  rw [hR]
  clear hR
  rcases (by omega : m ≤ 60 ∨ (60 < m ∧ m ≤ 1000) ∨ (1000 < m ∧ m ≤ 1100) ∨ 1100 < m) with h1 | ⟨h1, h2⟩ | ⟨h1, h2⟩ | h1 <;>
  rcases (by omega : mp ≤ 600 ∨ (600 < mp ∧ mp ≤ 65536) ∨ 65536 < mp) with g1 | ⟨g1, g2⟩ | g1
  all_goals
    have d0 : decide ((60 : Int) < (m : Int)) = decide (60 < m) := by simp; omega
    have d1 : decide ((m : Int) ≤ 1000) = decide (m ≤ 1000) := by simp; omega
    have d2 : decide ((600 : Int) < (mp : Int)) = decide (600 < mp) := by simp; omega
    have d3 : decide ((mp : Int) ≤ 65536) = decide (mp ≤ 65536) := by simp; omega
    have d4 : decide ((1100 : Int) < (m : Int)) = decide (1100 < m) := by simp; omega
    rw [show decide (60 < m) = _ by first | exact decide_eq_true (by omega) | exact decide_eq_false (by omega)] at d0
    rw [show decide (m ≤ 1000) = _ by first | exact decide_eq_true (by omega) | exact decide_eq_false (by omega)] at d1
    rw [show decide (600 < mp) = _ by first | exact decide_eq_true (by omega) | exact decide_eq_false (by omega)] at d2
    rw [show decide (mp ≤ 65536) = _ by first | exact decide_eq_true (by omega) | exact decide_eq_false (by omega)] at d3
    rw [show decide (1100 < m) = _ by first | exact decide_eq_true (by omega) | exact decide_eq_false (by omega)] at d4
    have hv := HR.out
    unfold manyB at hv
    go_enter Try.func10, Try.ntmps10
    go_wp2
    go_ret
    exact ⟨ret_bool (by rw [← hv]; simp <;> omega), rfl⟩


set_option maxRecDepth 100000 in
set_option maxHeartbeats 2000000 in
theorem sameZero (w : World) : Calls Try.prog 30 #[zeroV, zeroV] w fun e w' => e = .returned (.bool true) ∧ Below w.heap.size w w' := by
  have hnil : ∀ W : World, SlW W (.slice none 0 0) [] := fun W => ⟨none, 0, rfl, Nat.le_refl _, Nat.zero_le _, fun k x hx => by simp at hx⟩
  have N := fun W => same_any (.slice none 0 0) (.slice none 0 0) [] [] W (hnil W) (hnil W)
  unfold zeroV
  go_enter Try.func30, Try.ntmps30
  go_wp2_with fail
  refine (N _).mono ?_
  rintro e w1 ⟨rfl, n1, rfl⟩
  go_wp2
  go_loopw [45] (fun i wr => i = .int .i64 0 ∧ Hid (Below w.heap.size w wr)) (fun _ _ => 0)
  case atStart => exact ⟨rfl, hide (by (repeat' (first | exact Below.refl _ _ | assumption | refine Below.drew ?_ | refine below_drewN ?_ _ | refine Below.alloc ?_ (by simp <;> omega) _ | refine Below.setCell ?_ (by simp <;> omega) _)))⟩
  case round =>
    obtain ⟨rfl, hB⟩ := hrel
    go_wp2
    go_ret
    exact ⟨rfl, hB.out⟩
set_option maxRecDepth 100000 in
theorem noneZero (w : World) : Calls Try.prog 13 #[zeroV] w fun e w' => e = .returned (.bool true) ∧ Below w.heap.size w w' := by
  have N := sameZero (w.alloc zeroRep)
  unfold zeroV at *
  unfold zeroRep at N
  go_enter Try.func13, Try.ntmps13
  go_wp2_with fail
  refine N.mono ?_
  rintro e w1 ⟨rfl, hb⟩
  have HB := hide hb
  clear hb N
  go_wp2
  go_ret
  exact ⟨rfl, ((Below.refl _ w).alloc (Nat.le_refl _) _).trans (HB.out.mono (by simp))⟩
end Go.Proofs.Ytlfingcmekifkaa

namespace Go.Proofs.Ytlfingcmekifkaa
open Go.RowKit

def stoodB (cs : List Cl) (e : Ep) : Bool := decide ((callOf cs e.call).obj = 0) && decide ((callOf cs e.call).kind = 0) && decide (e.ans.err = 0)
def leadB (cs : List Cl) (e : Ep) : Bool := stoodB cs e && decide (e.ans.val = 1)
def openB (cs : List Cl) (e : Ep) : Bool := stoodB cs e && decide (e.resp = 0)
theorem stoodB_iff {cs : List Cl} {e : Ep} : stoodB cs e = true ↔ isStand cs e := by
  unfold stoodB isStand
  simp [and_assoc]
theorem countP_one {α : Type} {p : α → Bool} : ∀ {l : List α}, (∀ (h k : Nat) (e e' : α), l[h]? = some e → l[k]? = some e' → p e = true → p e' = true → h = k) → l.countP p ≤ 1
  | [], _ => by simp
  | x :: l, H => by
    have ih := countP_one (p := p) (l := l) fun h k e e' he he' hp hp' => by
      have := H (h + 1) (k + 1) e e' (by simpa using he) (by simpa using he') hp hp'
      omega
    by_cases hx : p x = true
    · have h0 : l.countP p = 0 := by
        rw [List.countP_eq_zero]
        intro y hy hpy
        obtain ⟨k, hk⟩ := List.mem_iff_getElem?.1 hy
        have := H 0 (k + 1) x y (by simp) (by simpa using hk) hx hpy
        omega
      rw [List.countP_cons, h0, if_pos hx]
      omega
    · rw [List.countP_cons, if_neg hx]
      exact ih
theorem ElOne.ends {d : Nat} {cs : List Cl} {P : Ps EM El} (h : ElOne d cs P.evs) : ElOne d cs (P.ends elG) := by
  have hp : ∀ (e e0 : Ep), e.call = e0.call → e.ans = e0.ans → (isStand cs e ↔ isStand cs e0) := fun e e0 h1 h2 => by unfold isStand; rw [h1, h2]
  refine ⟨fun k e he => ?_, fun k j e e' he he' hs hs' hv hv' => ?_, fun hno hex => ?_⟩
  · obtain ⟨e0, h0, h1, h2, h3, h4, h5⟩ := ends_get he
    rw [h1, h4]
    exact h.call k e0 h0
  · obtain ⟨e0, h0, h1, h2, h3, h4, h5⟩ := ends_get he
    obtain ⟨f0, g0, g1, g2, g3, g4, g5⟩ := ends_get he'
    exact h.one k j e0 f0 h0 g0 ((hp e e0 h1 h5).1 hs) ((hp e' f0 g1 g5).1 hs') (by rw [← h5]; exact hv) (by rw [← g5]; exact hv')
  · obtain ⟨k, e, he, hs, hv⟩ := h.some (fun k e he hs => by
      obtain ⟨e', h1, h2, h3, h4, h5, h6⟩ := ends_has (G := elG) he
      rw [← h4]
      exact hno k e' h1 ((hp e' e h2 h6).2 hs)) (by
      obtain ⟨k, e, he, hs⟩ := hex
      obtain ⟨e0, h0, h1, h2, h3, h4, h5⟩ := ends_get he
      exact ⟨k, e0, h0, (hp e e0 h1 h5).1 hs⟩)
    obtain ⟨e', h1, h2, h3, h4, h5, h6⟩ := ends_has (G := elG) he
    exact ⟨k, e', h1, (hp e' e h2 h6).2 hs, by rw [h6]; exact hv⟩
theorem el_count {d : Nat} {cs : List Cl} {es : List Ep} (h : ElOne d cs es) : es.countP (leadB cs) ≤ 1 ∧ (es.any (openB cs) = true ∨ es.countP (stoodB cs) = 0 ∨ es.countP (leadB cs) = 1) := by
  have hl : ∀ e : Ep, leadB cs e = true ↔ isStand cs e ∧ e.ans.val = 1 := fun e => by unfold leadB; rw [Bool.and_eq_true, stoodB_iff]; simp
  have h1 : es.countP (leadB cs) ≤ 1 := countP_one fun a b e e' he he' hp hp' => h.one a b e e' he he' ((hl e).1 hp).1 ((hl e').1 hp').1 ((hl e).1 hp).2 ((hl e').1 hp').2
  refine ⟨h1, ?_⟩
  by_cases ho : es.any (openB cs) = true
  · exact .inl ho
  · refine .inr ?_
    by_cases hs : es.countP (stoodB cs) = 0
    · exact .inl hs
    · refine .inr ?_
      have hs := Nat.pos_of_ne_zero hs
      rw [List.countP_pos_iff] at hs
      obtain ⟨x, hx, hxs⟩ := hs
      obtain ⟨k, hk⟩ := List.mem_iff_getElem?.1 hx
      obtain ⟨j, e, he, hse, hv⟩ := h.some (fun a e he hse hr => ho (List.any_eq_true.2 ⟨e, List.mem_of_getElem? he, by unfold openB; rw [stoodB_iff.2 hse]; simp [hr]⟩)) ⟨k, x, hk, stoodB_iff.1 hxs⟩
      have : 0 < es.countP (leadB cs) := List.countP_pos_iff.2 ⟨e, List.mem_of_getElem? he, (hl e).2 ⟨hse, hv⟩⟩
      omega
theorem countP_take {f : Ep → Bool} {l : List Ep} {k : Nat} {y : Ep} (h : l[k]? = some y) : (l.take (k + 1)).countP f = (l.take k).countP f + if f y then 1 else 0 := by
  rw [List.take_add_one, h]
  simp [List.countP_append, List.countP_cons]
end Go.Proofs.Ytlfingcmekifkaa
