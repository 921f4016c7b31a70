/- roundelayplain: Many, Large; an answer, and an event, are like themselves. -/
import Derived.Test.YtmiimpmfkjcjlaaRowE
import Derived.Test.YtmiimpmfkjcjlaaCmpI
namespace Go.Proofs.Ytmiimpmfkjcjlaa
open Go.RowKit

def manyB (c p : Nat) : Bool := (decide (60 < c) && decide (c ≤ 1000)) || (decide (600 < p) && decide (p ≤ 65536)) || decide (1100 < c)
theorem manyB_no {c p : Nat} (h : manyB c p = false) : (c ≤ 60 ∨ (1000 < c ∧ c ≤ 1100)) ∧ (p ≤ 600 ∨ 65536 < p) := by
  unfold manyB at h
  simp at h
  omega

set_option maxRecDepth 100000 in
set_option maxHeartbeats 2000000 in
theorem many_any (A Ap : Option Addr) (m c mp cp : Nat) (w : World) (hm : m ≤ maxLen) (hp : mp ≤ maxLen) :
    Calls Try.prog 23 #[.slice A m c, .slice Ap mp cp] w fun e w' => e = .returned (.bool (manyB m mp)) ∧ w' = w := by
  have hm63 : (m : Int) ≤ 9223372036854775807 := by unfold maxLen at hm; omega
  have hp63 : (mp : Int) ≤ 9223372036854775807 := by unfold maxLen at hp; omega
  obtain ⟨R, hR⟩ : ∃ R, manyB m mp = R := ⟨_, rfl⟩
  have HR := hide hR
  rw [hR]
  clear hR
  rcases (by omega : m ≤ 60 ∨ (60 < m ∧ m ≤ 1000) ∨ (1000 < m ∧ m ≤ 1100) ∨ 1100 < m) with h1 | ⟨h1, h2⟩ | ⟨h1, h2⟩ | h1 <;>
  rcases (by omega : mp ≤ 600 ∨ (600 < mp ∧ mp ≤ 65536) ∨ 65536 < mp) with g1 | ⟨g1, g2⟩ | g1
  all_goals
    have d0 : decide ((60 : Int) < (m : Int)) = decide (60 < m) := by simp; omega
    have d1 : decide ((m : Int) ≤ 1000) = decide (m ≤ 1000) := by simp; omega
    have d2 : decide ((600 : Int) < (mp : Int)) = decide (600 < mp) := by simp; omega
    have d3 : decide ((mp : Int) ≤ 65536) = decide (mp ≤ 65536) := by simp; omega
    have d4 : decide ((1100 : Int) < (m : Int)) = decide (1100 < m) := by simp; omega
    rw [show decide (60 < m) = _ by first | exact decide_eq_true (by omega) | exact decide_eq_false (by omega)] at d0
    rw [show decide (m ≤ 1000) = _ by first | exact decide_eq_true (by omega) | exact decide_eq_false (by omega)] at d1
    rw [show decide (600 < mp) = _ by first | exact decide_eq_true (by omega) | exact decide_eq_false (by omega)] at d2
    rw [show decide (mp ≤ 65536) = _ by first | exact decide_eq_true (by omega) | exact decide_eq_false (by omega)] at d3
    rw [show decide (1100 < m) = _ by first | exact decide_eq_true (by omega) | exact decide_eq_false (by omega)] at d4
    have hv := HR.out
    unfold manyB at hv
    go_enter Try.func23, Try.ntmps23
    go_wp2
    go_ret
    exact ⟨ret_bool (by rw [← hv]; simp <;> omega), rfl⟩

def largeB (sp c p : Nat) : Bool := decide (20 < sp) || manyB c p
set_option maxRecDepth 100000 in
set_option maxHeartbeats 2000000 in
theorem large_any (n : Int) (As A Ap : Option Addr) (ms cS m c mp cp : Nat) (w : World) (hs : ms ≤ maxLen) (hm : m ≤ maxLen) (hp : mp ≤ maxLen) :
    Calls Try.prog 14 #[.agg #[.int .i64 n, .slice As ms cS, .slice A m c, .slice Ap mp cp]] w fun e w' => e = .returned (.bool (largeB ms m mp)) ∧ Below w.heap.size w w' := by
  have hs63 : (ms : Int) ≤ 9223372036854775807 := by unfold maxLen at hs; omega
  have N0 := fun W => many_any A Ap m c mp cp W hm hp
  unfold largeB
  generalize manyB m mp = R at *
  rcases (by omega : ms ≤ 20 ∨ 20 < ms) with h1 | h1
  · have d0 : decide ((20 : Int) < (ms : Int)) = false := by simp; omega
    have e0 : decide (20 < ms) = false := by simp; omega
    rw [e0]
    clear h1 e0
    go_enter Try.func14, Try.ntmps14
    go_wp2_with fail
    refine (N0 _).mono ?_
    rintro e w1 ⟨rfl, rfl⟩
    go_wp2
    go_ret
    exact ⟨rfl, by (repeat' (first | exact Below.refl _ _ | assumption | refine Below.drew ?_ | refine below_drewN ?_ _ | refine Below.alloc ?_ (by simp <;> omega) _ | refine Below.setCell ?_ (by simp <;> omega) _))⟩
  · have d0 : decide ((20 : Int) < (ms : Int)) = true := by simp; omega
    have e0 : decide (20 < ms) = true := by simp; omega
    rw [e0]
    clear h1 e0 N0
    go_enter Try.func14, Try.ntmps14
    go_wp2
    go_ret
    exact ⟨rfl, by (repeat' (first | exact Below.refl _ _ | assumption | refine Below.drew ?_ | refine below_drewN ?_ _ | refine Below.alloc ?_ (by simp <;> omega) _ | refine Below.setCell ?_ (by simp <;> omega) _))⟩

set_option maxRecDepth 100000 in
set_option maxHeartbeats 2000000 in
theorem answer_self (err val : Int) (A B : Option Addr) (n c m d : Nat) (l : List Int) (w : World) (h : SlW w (.slice A n c) l) (h' : SlW w (.slice B m d) l) :
    Calls Try.prog 21 #[.agg #[.int .i64 err, .int .u64 val, .slice A n c], .agg #[.int .i64 err, .int .u64 val, .slice B m d]] w fun e w' => e = .returned (.bool true) ∧ Below w.heap.size w w' := by
  have N0 := fun W h h' => same_any (.slice A n c) (.slice B m d) l l W h h'
  have H := hide h
  have H' := hide h'
  clear h h'
  go_enter Try.func21, Try.ntmps21
  go_wp2_with fail
  refine (N0 _ ((H.out.alloc _).alloc _) ((H'.out.alloc _).alloc _)).mono ?_
  rintro e w1 ⟨rfl, k, rfl⟩
  go_wp2
  go_ret
  exact ⟨ret_bool (by simp), by (repeat' (first | exact Below.refl _ _ | assumption | refine Below.drew ?_ | refine below_drewN ?_ _ | refine Below.alloc ?_ (by simp <;> omega) _ | refine Below.setCell ?_ (by simp <;> omega) _))⟩

set_option maxRecDepth 100000 in
set_option maxHeartbeats 2000000 in
theorem event_self (x : Ev) (lA' kA' : Option Addr) (lN' lC' kN' kC' : Nat) (l k : List Int) (w : World) (h : SlW w (.slice x.lA x.lN x.lC) l) (h' : SlW w (.slice lA' lN' lC') l) (g : SlI w (.slice x.kA x.kN x.kC) k) (g' : SlI w (.slice kA' kN' kC') k) :
    Calls Try.prog 13 #[.agg #[.int .i64 x.call, .int .i64 x.inv, .int .i64 x.resp, .int .i64 x.steps, .int .i64 x.err, .int .u64 x.val, .slice x.lA x.lN x.lC, .slice x.kA x.kN x.kC],
      .agg #[.int .i64 x.call, .int .i64 x.inv, .int .i64 x.resp, .int .i64 x.steps, .int .i64 x.err, .int .u64 x.val, .slice lA' lN' lC', .slice kA' kN' kC']] w fun e w' => e = .returned (.bool true) ∧ Below w.heap.size w w' := by
  have N0 := fun W h h' => answer_self x.err x.val x.lA lA' x.lN x.lC lN' lC' l W h h'
  have N1 := fun W h h' => ints_any (.slice x.kA x.kN x.kC) (.slice kA' kN' kC') k k W h h'
  have H := hide h
  have H' := hide h'
  have G := hide g
  have G' := hide g'
  clear h h' g g'
  go_enter Try.func13, Try.ntmps13
  go_wp2_with fail
  refine (N0 _ ((H.out.alloc _).alloc _) ((H'.out.alloc _).alloc _)).mono ?_
  rintro e w1 ⟨rfl, hb⟩
  have hB : Below w.heap.size w w1 := ((((Below.refl _ w).alloc (Nat.le_refl _) _).alloc (by simp) _)).trans (hb.mono (by simp; omega))
  have a4 := fun (o : Nat) (v : Value) (h : ((w.alloc (.cells #[.int .i64 x.call, .int .i64 x.inv, .int .i64 x.resp, .int .i64 x.steps, .int .i64 x.err, .int .u64 x.val, .slice x.lA x.lN x.lC, .slice x.kA x.kN x.kC] 44)).alloc (.cells #[.int .i64 x.call, .int .i64 x.inv, .int .i64 x.resp, .int .i64 x.steps, .int .i64 x.err, .int .u64 x.val, .slice lA' lN' lC', .slice kA' kN' kC'] 44)).cell? ⟨w.heap.size, o, none⟩ = some v) => (hb.cell (p := ⟨w.heap.size, o, none⟩) (by simp; omega)).trans h
  have b4 := fun (o : Nat) (v : Value) (h : ((w.alloc (.cells #[.int .i64 x.call, .int .i64 x.inv, .int .i64 x.resp, .int .i64 x.steps, .int .i64 x.err, .int .u64 x.val, .slice x.lA x.lN x.lC, .slice x.kA x.kN x.kC] 44)).alloc (.cells #[.int .i64 x.call, .int .i64 x.inv, .int .i64 x.resp, .int .i64 x.steps, .int .i64 x.err, .int .u64 x.val, .slice lA' lN' lC', .slice kA' kN' kC'] 44)).cell? ⟨w.heap.size + 1, o, none⟩ = some v) => (hb.cell (p := ⟨w.heap.size + 1, o, none⟩) (by simp)).trans h
  have a7 := a4 7 (.slice x.kA x.kN x.kC) (by go_simp)
  have b7 := b4 7 (.slice kA' kN' kC') (by go_simp)
  have G1 := G.out.below hB (Nat.le_refl _)
  have G2 := G'.out.below hB (Nat.le_refl _)
  clear a4 b4 hb
  go_wp2_with fail
  refine (N1 _ G1 G2).mono ?_
  rintro e w2 ⟨rfl, k, rfl⟩
  go_wp2
  go_ret
  exact ⟨ret_bool (by simp), by (repeat' (first | exact Below.refl _ _ | assumption | refine Below.drew ?_ | refine below_drewN ?_ _ | refine Below.alloc ?_ (by simp <;> omega) _ | refine Below.setCell ?_ (by simp <;> omega) _))⟩
end Go.Proofs.Ytmiimpmfkjcjlaa
