/- A lattice (law 41): the known case (both). -/
/- roundelayplain: Many. -/
/- roundelayplain: nothing is in a report that tells nothing (None). -/
import Derived.Test.YtlfingcmekifkaaBun24
import Derived.Test.YtlfingcmekifkaaBun12
import Derived.Test.YtlfingcmekifkaaBun5
import Derived.Test.YtlfingcmekifkaaBun3
namespace Go.Proofs.Ytlfingcmekifkaa
open Go.RowKit

def bothC : List Cl := [⟨0, 0, 0, 1, 0, 0⟩, ⟨1, 0, 0, 2, 0, 0⟩]
def bothP : List Int := [0, 0, 0, 0, 0, 0, 0, 0, 0, 0, 0, 0, 0, 1, 1, 1, 1, 1, 1, 1, 1, 1, 1, 1, 1, 1, 1, 1]
theorem both_evs : ((latPlay 2 1 bothC bothP).ends latG).map (fun e => (e.resp, e.steps, e.ans.val)) = [(13, 13, 1), (28, 15, 3)] := by kernel_rfl
theorem both_chk : chkP 2 1 bothC bothP.length = 0 := by kernel_rfl
theorem both_calls {w : World} {b : Nat} {t : TypeId} (h : w.heap[b]? = some (.cells #[.int .i64 0, .int .i64 0, .int .i64 0, .int .u64 1, .int .u64 0, .int .u64 0, .int .i64 1, .int .i64 0, .int .i64 0, .int .u64 2, .int .u64 0, .int .u64 0] t (0, 0))) : SlCl w (.slice (some ⟨b, 0, none⟩) 2 2) bothC := by
  refine Sl.of_block (enc := clEnc) (sz := 6) (xs := bothC) (c := 2) h (Nat.le_refl _) (by unfold maxLen; decide) ?_
  intro k x hx j u hu
  rcases k with _ | _ | k
  · simp [bothC] at hx
    subst hx
    rcases j with _ | _ | _ | _ | _ | _ | j <;> simp [clEnc] at hu ⊢ <;> exact hu
  · simp [bothC] at hx
    subst hx
    rcases j with _ | _ | _ | _ | _ | _ | j <;> simp [clEnc] at hu ⊢ <;> exact hu
  · simp [bothC] at hx
set_option maxRecDepth 100000 in
set_option maxHeartbeats 2000000 in
theorem laBothW (w : World) : Calls Try.prog 21 #[] w fun e w' => e = .returned (.bool true) ∧ Below w.heap.size w w' := by
  obtain ⟨i0, hi, hz0, hz1, hz2⟩ := info_parts info_int
  have hmc : madeCells #[.int .i64 0] 13 = #[.int .i64 0, .int .i64 0, .int .i64 0, .int .i64 0, .int .i64 0, .int .i64 0, .int .i64 0, .int .i64 0, .int .i64 0, .int .i64 0, .int .i64 0, .int .i64 0, .int .i64 0] := by kernel_rfl
  have hmk : ∀ W, (Instr.makeSlice 24 (.int .i64 13) (.int .i64 13)).run Try.prog W = .ok (.slice (some ⟨W.heap.size, 0, none⟩) 13 13) (W.alloc (.cells #[.int .i64 0, .int .i64 0, .int .i64 0, .int .i64 0, .int .i64 0, .int .i64 0, .int .i64 0, .int .i64 0, .int .i64 0, .int .i64 0, .int .i64 0, .int .i64 0, .int .i64 0] 3)) := by
    intro W
    rw [← hmc]
    exact run_make_row' (P := Try.prog) 24 3 (.int .i64 0) 8 Try.underlying24 info_int rfl .i64 .i64 13 (by omega) (by omega) W
  have hown : IOwn ((w.alloc (.cells #[.int .i64 0, .int .i64 0, .int .i64 0, .int .i64 0, .int .i64 0, .int .i64 0, .int .i64 0, .int .i64 0, .int .i64 0, .int .i64 0, .int .i64 0, .int .i64 0, .int .i64 0] 3)).alloc (.cells #[.int .i64 1, .int .i64 1, .int .i64 1, .int .i64 1, .int .i64 1, .int .i64 1, .int .i64 1, .int .i64 1, .int .i64 1, .int .i64 1, .int .i64 1, .int .i64 1, .int .i64 1, .int .i64 1, .int .i64 1] 3)) w.heap.size (.slice (some ⟨w.heap.size, 0, none⟩) 13 13) 13 ([0, 0, 0, 0, 0, 0, 0, 0, 0, 0, 0, 0, 0] : List Int) := by
    have hh : ((w.alloc (.cells #[.int .i64 0, .int .i64 0, .int .i64 0, .int .i64 0, .int .i64 0, .int .i64 0, .int .i64 0, .int .i64 0, .int .i64 0, .int .i64 0, .int .i64 0, .int .i64 0, .int .i64 0] 3)).alloc (.cells #[.int .i64 1, .int .i64 1, .int .i64 1, .int .i64 1, .int .i64 1, .int .i64 1, .int .i64 1, .int .i64 1, .int .i64 1, .int .i64 1, .int .i64 1, .int .i64 1, .int .i64 1, .int .i64 1, .int .i64 1] 3)).heap[w.heap.size]? = some (.cells #[.int .i64 0, .int .i64 0, .int .i64 0, .int .i64 0, .int .i64 0, .int .i64 0, .int .i64 0, .int .i64 0, .int .i64 0, .int .i64 0, .int .i64 0, .int .i64 0, .int .i64 0] 3 (0, 0)) := (heap_alloc_old _ _ (by simp)).trans (heap_alloc_new _ _)
    exact ⟨rfl, Or.inr ⟨w.heap.size, 13, #[.int .i64 0, .int .i64 0, .int .i64 0, .int .i64 0, .int .i64 0, .int .i64 0, .int .i64 0, .int .i64 0, .int .i64 0, .int .i64 0, .int .i64 0, .int .i64 0, .int .i64 0], rfl, Nat.le_refl _, hh, Nat.le_refl _, by unfold maxLen; decide, rfl, rfl⟩⟩
  have hnews : ∀ j u, (([1, 1, 1, 1, 1, 1, 1, 1, 1, 1, 1, 1, 1, 1, 1] : List Int).map (Value.int .i64))[j]? = some u → ((w.alloc (.cells #[.int .i64 0, .int .i64 0, .int .i64 0, .int .i64 0, .int .i64 0, .int .i64 0, .int .i64 0, .int .i64 0, .int .i64 0, .int .i64 0, .int .i64 0, .int .i64 0, .int .i64 0] 3)).alloc (.cells #[.int .i64 1, .int .i64 1, .int .i64 1, .int .i64 1, .int .i64 1, .int .i64 1, .int .i64 1, .int .i64 1, .int .i64 1, .int .i64 1, .int .i64 1, .int .i64 1, .int .i64 1, .int .i64 1, .int .i64 1] 3)).cell? (Addr.add ⟨w.heap.size + 1, 0, none⟩ j) = some u := by
    intro j u hu
    have hh : ((w.alloc (.cells #[.int .i64 0, .int .i64 0, .int .i64 0, .int .i64 0, .int .i64 0, .int .i64 0, .int .i64 0, .int .i64 0, .int .i64 0, .int .i64 0, .int .i64 0, .int .i64 0, .int .i64 0] 3)).alloc (.cells #[.int .i64 1, .int .i64 1, .int .i64 1, .int .i64 1, .int .i64 1, .int .i64 1, .int .i64 1, .int .i64 1, .int .i64 1, .int .i64 1, .int .i64 1, .int .i64 1, .int .i64 1, .int .i64 1, .int .i64 1] 3)).heap[w.heap.size + 1]? = some (.cells #[.int .i64 1, .int .i64 1, .int .i64 1, .int .i64 1, .int .i64 1, .int .i64 1, .int .i64 1, .int .i64 1, .int .i64 1, .int .i64 1, .int .i64 1, .int .i64 1, .int .i64 1, .int .i64 1, .int .i64 1] 3 (0, 0)) := by
      have : (w.alloc (.cells #[.int .i64 0, .int .i64 0, .int .i64 0, .int .i64 0, .int .i64 0, .int .i64 0, .int .i64 0, .int .i64 0, .int .i64 0, .int .i64 0, .int .i64 0, .int .i64 0, .int .i64 0] 3)).heap.size = w.heap.size + 1 := by simp
      rw [← this]
      exact heap_alloc_new _ _
    rw [Addr.add_lit, Nat.zero_add, cell_of_row _ _ _ _ _ _ hh, ← hu, ← Array.getElem?_toList]
    rfl
  go_enter Try.func21, Try.ntmps21
  go_wp2_with (first | (at_builtin; refine wpList_append_own_at _ rfl _ _ 24 rfl w.heap.size 3 i0 (.int .i64 0) 1 8 Try.underlying24 hi hz0 hz1 hz2 rfl (by decide) _ _ _ rfl hown ⟨w.heap.size + 1, 0, none⟩ 15 15 (([1, 1, 1, 1, 1, 1, 1, 1, 1, 1, 1, 1, 1, 1, 1] : List Int).map (Value.int .i64)) rfl (by simp) hnews (ints_oneCell .i64 ([1, 1, 1, 1, 1, 1, 1, 1, 1, 1, 1, 1, 1, 1, 1] : List Int)) (by unfold maxLen; omega) (by omega) (by simp; omega) ?_; intro v' w5 hown' hgrow hnil hloc; clear hown hnews) | fail)
  have hbA : Below w.heap.size w w5 := (((Below.refl _ w).alloc (Nat.le_refl _) _).alloc (by simp) _).grown hgrow (by simp; omega) (by intro k hk; cases hk; exact Nat.le_refl _)
  have hown2 : IOwn w5 w.heap.size v' 28 bothP := hown'
  clear hown' hgrow hnil hloc
  obtain ⟨Av, cv, rfl⟩ := own_slice hown2
  have hp : SlI (w5.alloc (.cells #[.int .i64 0, .int .i64 0, .int .i64 0, .int .u64 1, .int .u64 0, .int .u64 0, .int .i64 1, .int .i64 0, .int .i64 0, .int .u64 2, .int .u64 0, .int .u64 0] 43)) (.slice Av 28 cv) bothP := (sl_of_owns (kk := .i64) hown2 (by unfold maxLen; decide)).below ((Below.refl _ w5).alloc (Nat.le_refl _) _) (Nat.le_refl _)
  have hc : SlCl (w5.alloc (.cells #[.int .i64 0, .int .i64 0, .int .i64 0, .int .u64 1, .int .u64 0, .int .u64 0, .int .i64 1, .int .i64 0, .int .i64 0, .int .u64 2, .int .u64 0, .int .u64 0] 43)) (.slice (some ⟨w5.heap.size, 0, none⟩) 2 2) bothC := both_calls (heap_alloc_new _ _)
  have N := latticePlay 2 1 _ _ _ bothC _ _ _ bothP _ hc rfl hp rfl (fun c hc => by
    simp [bothC] at hc
    rcases hc with rfl | rfl <;> (unfold ClU; decide))
  rw [both_chk, show (2 : Int).toNat = 2 from rfl, show (1 : Int).toNat = 1 from rfl] at N
  have he := both_evs
  clear hc hp hown2
  generalize hPe : (latPlay 2 1 bothC bothP).ends latG = es at N he
  generalize (latPlay 2 1 bothC bothP).lw.mem = mm at N
  generalize (latPlay 2 1 bothC bothP).lw.now = now at N
  generalize (latPlay 2 1 bothC bothP).idle = idle at N
  clear hPe
  have hel : es.length = 2 := by have := congrArg List.length he; simpa using this
  have HBA := hide hbA
  clear hbA
  refine N.mono ?_
  rintro e w1 (⟨h, _⟩ | ⟨_, ev, B, Mu, g, c, rfl, hEv, hB, hwr, hb⟩)
  · exact absurd rfl h
  obtain ⟨ge, ce, rfl, hge, hgz, hev⟩ := ev_of hEv (by rw [hel]; decide)
  match es, he with
  | [e0, e1], he =>
    simp at he
    obtain ⟨⟨s0, _, v0⟩, _, s1, v1⟩ := he
    obtain ⟨x0, i0, r0⟩ := hev 0 e0 rfl
    obtain ⟨x1, i1, r1⟩ := hev 1 e1 rfl
    have a2 := r0 2 _ rfl
    have a5 := r0 5 _ rfl
    have b3 := r1 3 _ rfl
    have b5 := r1 5 _ rfl
    rw [i0.resp, s0] at a2
    rw [i0.val, v0] at a5
    rw [i1.steps, s1] at b3
    rw [i1.val, v1] at b5
    unfold repV
    simp only [List.length_cons, List.length_nil]
    have HB := hide hb
    clear hwr hEv hev r0 r1 i0 i1 N hb hel
    simp at a2 a5 b3 b5
    go_wp2
    go_ret
    have hb2 : Below w.heap.size w (w5.alloc (.cells #[.int .i64 0, .int .i64 0, .int .i64 0, .int .u64 1, .int .u64 0, .int .u64 0, .int .i64 1, .int .i64 0, .int .i64 0, .int .u64 2, .int .u64 0, .int .u64 0] 43)) := HBA.out.alloc HBA.out.size _
    have hb3 := hb2.trans (HB.out.mono hb2.size)
    exact ⟨rfl, hb3.alloc hb3.size _⟩
end Go.Proofs.Ytlfingcmekifkaa

namespace Go.Proofs.Ytlfingcmekifkaa
open Go.RowKit

def manyB (c p : Nat) : Bool := (decide (60 < c) && decide (c ≤ 1000)) || (decide (600 < p) && decide (p ≤ 65536)) || decide (1100 < c)
theorem manyB_no {c p : Nat} (h : manyB c p = false) : (c ≤ 60 ∨ (1000 < c ∧ c ≤ 1100)) ∧ (p ≤ 600 ∨ 65536 < p) := by
  unfold manyB at h
  simp at h
  omega

set_option maxRecDepth 100000 in
set_option maxHeartbeats 2000000 in
theorem many_any (A Ap : Option Addr) (m c mp cp : Nat) (w : World) (hm : m ≤ maxLen) (hp : mp ≤ maxLen) :
    Calls Try.prog 10 #[.slice A m c, .slice Ap mp cp] w fun e w' => e = .returned (.bool (manyB m mp)) ∧ w' = w := by
  have hm63 : (m : Int) ≤ 9223372036854775807 := by unfold maxLen at hm; omega
  have hp63 : (mp : Int) ≤ 9223372036854775807 := by unfold maxLen at hp; omega
  obtain ⟨R, hR⟩ : ∃ R, manyB m mp = R := ⟨_, rfl⟩
  have HR := hide hR
  rw [hR]
  clear hR
  rcases (by omega : m ≤ 60 ∨ (60 < m ∧ m ≤ 1000) ∨ (1000 < m ∧ m ≤ 1100) ∨ 1100 < m) with h1 | ⟨h1, h2⟩ | ⟨h1, h2⟩ | h1 <;>
  rcases (by omega : mp ≤ 600 ∨ (600 < mp ∧ mp ≤ 65536) ∨ 65536 < mp) with g1 | ⟨g1, g2⟩ | g1
  all_goals
    have d0 : decide ((60 : Int) < (m : Int)) = decide (60 < m) := by simp; omega
    have d1 : decide ((m : Int) ≤ 1000) = decide (m ≤ 1000) := by simp; omega
    have d2 : decide ((600 : Int) < (mp : Int)) = decide (600 < mp) := by simp; omega
    have d3 : decide ((mp : Int) ≤ 65536) = decide (mp ≤ 65536) := by simp; omega
    have d4 : decide ((1100 : Int) < (m : Int)) = decide (1100 < m) := by simp; omega
    rw [show decide (60 < m) = _ by first | exact decide_eq_true (by omega) | exact decide_eq_false (by omega)] at d0
    rw [show decide (m ≤ 1000) = _ by first | exact decide_eq_true (by omega) | exact decide_eq_false (by omega)] at d1
    rw [show decide (600 < mp) = _ by first | exact decide_eq_true (by omega) | exact decide_eq_false (by omega)] at d2
    rw [show decide (mp ≤ 65536) = _ by first | exact decide_eq_true (by omega) | exact decide_eq_false (by omega)] at d3
    rw [show decide (1100 < m) = _ by first | exact decide_eq_true (by omega) | exact decide_eq_false (by omega)] at d4
    have hv := HR.out
    unfold manyB at hv
    go_enter Try.func10, Try.ntmps10
    go_wp2
    go_ret
    exact ⟨ret_bool (by rw [← hv]; simp <;> omega), rfl⟩
end Go.Proofs.Ytlfingcmekifkaa

namespace Go.Proofs.Ytlfingcmekifkaa
open Go.RowKit

set_option maxRecDepth 100000 in
set_option maxHeartbeats 2000000 in
theorem sameZero (w : World) : Calls Try.prog 30 #[zeroV, zeroV] w fun e w' => e = .returned (.bool true) ∧ Below w.heap.size w w' := by
  have hnil : ∀ W : World, SlW W (.slice none 0 0) [] := fun W => ⟨none, 0, rfl, Nat.le_refl _, Nat.zero_le _, fun k x hx => by simp at hx⟩
  have N := fun W => same_any (.slice none 0 0) (.slice none 0 0) [] [] W (hnil W) (hnil W)
  unfold zeroV
  go_enter Try.func30, Try.ntmps30
  go_wp2_with fail
  refine (N _).mono ?_
  rintro e w1 ⟨rfl, n1, rfl⟩
  go_wp2
  go_loopw [45] (fun i wr => i = .int .i64 0 ∧ Hid (Below w.heap.size w wr)) (fun _ _ => 0)
  case atStart => exact ⟨rfl, hide (by (repeat' (first | exact Below.refl _ _ | assumption | refine Below.drew ?_ | refine below_drewN ?_ _ | refine Below.alloc ?_ (by simp <;> omega) _ | refine Below.setCell ?_ (by simp <;> omega) _)))⟩
  case round =>
    obtain ⟨rfl, hB⟩ := hrel
    go_wp2
    go_ret
    exact ⟨rfl, hB.out⟩
set_option maxRecDepth 100000 in
theorem noneZero (w : World) : Calls Try.prog 13 #[zeroV] w fun e w' => e = .returned (.bool true) ∧ Below w.heap.size w w' := by
  have N := sameZero (w.alloc zeroRep)
  unfold zeroV at *
  unfold zeroRep at N
  go_enter Try.func13, Try.ntmps13
  go_wp2_with fail
  refine N.mono ?_
  rintro e w1 ⟨rfl, hb⟩
  have HB := hide hb
  clear hb N
  go_wp2
  go_ret
  exact ⟨rfl, ((Below.refl _ w).alloc (Nat.le_refl _) _).trans (HB.out.mono (by simp))⟩
end Go.Proofs.Ytlfingcmekifkaa
