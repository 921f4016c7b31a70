/- Objects on a loom: what is so of all answers of a play. -/
/- roundelayplain: Many; nothing is in a report that tells nothing (None). -/
import Derived.Test.YtlfingcmekifkaaBun5
import Derived.Test.YtlfingcmekifkaaBun1
import Derived.Test.YtlfingcmekifkaaOj1
namespace Go.Proofs.Ytlfingcmekifkaa
open Go.RowKit

section
variable {M O : Type} {T : Th M O} {Q : An → Prop}
theorem ans_step {P : Ps M O} {t i h : Nat} {m : M} (hs : ∀ (o : O) (lw : Lw) (hs : Nat → Option M) (t : Nat) (m : M), T.goodT o lw hs → hs t = some m → t < 16 → (T.G.step o lw t m).2.2.2 = true → Q (T.G.ans (T.G.step o lw t m).1 (T.G.step o lw t m).2.2.1).1) (hg : T.goodT P.obj P.lw P.ms) (hm : P.hands t = some (m, h)) (ht : t < 16) (hq : ∀ e ∈ P.evs, Q e.ans) : ∀ e ∈ (P.step T.G t i m h).evs, Q e.ans := by
  intro e he
  cases hd : (P.after T.G t m).2.2.2
  · obtain ⟨_, _, h3⟩ := step_more (i := i) (h := h) hd
    rw [h3] at he
    rcases modify_mem he with he | ⟨y, hy, rfl⟩
    · exact hq e he
    · exact hq y hy
  · obtain ⟨_, _, key, h3⟩ := step_done (i := i) (h := h) hd
    rw [h3] at he
    rcases modify_mem he with he | ⟨y, hy, rfl⟩
    · exact hq e he
    · exact hs P.obj P.lw P.ms t m hg (by unfold Ps.ms; rw [hm]; rfl) ht hd
theorem ans_play (hT : T.Ok) (h0 : Q ⟨0, 0, []⟩) (hs : ∀ (o : O) (lw : Lw) (hs : Nat → Option M) (t : Nat) (m : M), T.goodT o lw hs → hs t = some m → t < 16 → (T.G.step o lw t m).2.2.2 = true → Q (T.G.ans (T.G.step o lw t m).1 (T.G.step o lw t m).2.2.1).1) {cs : List Cl} (hcs : ∀ c ∈ cs, 0 ≤ c.thread ∧ c.thread < 16 ∧ ClU c) (picks : List Int) :
    ∀ {P : Ps M O}, T.good P.obj P.lw P.ms → (∀ e ∈ P.evs, Q e.ans) → ∀ e ∈ (P.play T.G cs picks).evs, Q e.ans := by
  induction picks with
  | nil => exact fun _ h => h
  | cons p l ih =>
    intro P hg hq
    refine ih (P := P.pick T.G cs p) (good_pick hT hcs hg p) ?_
    rcases pick_cases T.G P p (fun c hc => (hcs c hc).1) with e | ⟨t, i, _, hi, hth, _, ⟨m, h, hm, e⟩ | ⟨hn, e⟩⟩
    · rw [e]
      exact hq
    all_goals
      have hC : callOf cs i ∈ cs := by
        unfold callOf
        rw [List.getElem?_eq_getElem hi]
        exact List.getElem_mem hi
      have ht : t < 16 := by
        have := hcs _ hC
        omega
      rw [e]
    · exact ans_step (P := P.tick) hs (hT.goodTick hg) hm ht hq
    · have h1 := hT.goodStart (t := t) (c := callOf cs i) (hT.goodTick hg) (show P.ms t = none by unfold Ps.ms; rw [hn]; rfl) ht hth (hcs _ hC).2.2
      refine ans_step (P := P.tick.start T.G t i (callOf cs i)) hs ?_ (upd_same _ _ _) ht (fun e he => ?_)
      · have : (P.tick.start T.G t i (callOf cs i)).ms = upd P.ms t (some (T.G.start P.obj t (callOf cs i)).2) := ms_upd _ _ _
        rw [this]
        exact h1
      · rcases List.mem_append.1 he with he | he
        · exact hq e he
        · have := List.mem_singleton.1 he
          subst this
          exact h0
theorem ans_ends {G : Gm M O} {P : Ps M O} (h : ∀ e ∈ P.evs, Q e.ans) : ∀ e ∈ P.ends G, Q e.ans := by
  intro e he
  obtain ⟨k, hk⟩ := List.mem_iff_getElem?.1 he
  obtain ⟨e0, h0, _, _, _, _, h5⟩ := ends_get hk
  rw [h5]
  exact h e0 (List.mem_of_getElem? h0)
end
theorem ends_has {M O : Type} {G : Gm M O} {P : Ps M O} {h : Nat} {e0 : Ep} (he : P.evs[h]? = some e0) : ∃ e, (P.ends G)[h]? = some e ∧ e.call = e0.call ∧ e.inv = e0.inv ∧ e.resp = e0.resp ∧ e.steps = e0.steps ∧ e.ans = e0.ans := by
  have hl : h < (P.ends G).length := by rw [ends_len]; exact (List.getElem?_eq_some_iff.1 he).1
  obtain ⟨e1, h1, r⟩ := ends_get (List.getElem?_eq_getElem hl)
  rw [he] at h1
  cases h1
  exact ⟨_, List.getElem?_eq_getElem hl, r⟩
/-- Calls that a play takes: whose threads are. -/
theorem chk_calls {n : Int} {cs : List Cl} {np : Nat} (h : chkE n cs np = 0) : (1 ≤ n ∧ n ≤ 16) ∧ cs.length ≤ 1000 ∧ np ≤ 65536 ∧ ∀ c ∈ cs, 0 ≤ c.thread ∧ c.thread < n := by
  unfold chkE at h
  split at h
  · cases h
  · rename_i h1
    split at h
    · cases h
    · rename_i h2
      refine ⟨by omega, by omega, by omega, ?_⟩
      unfold wrongE at h
      split at h
      · cases h
      · split at h
        · cases h
        · split at h
          · rename_i ha
            intro c hc
            have := List.all_eq_true.1 ha c hc
            simp at this
            exact this
          · cases h
/-- A call of a play. -/
theorem call_get {cs : List Cl} {i : Nat} (h : i < cs.length) : cs[i]? = some (callOf cs i) := by
  unfold callOf
  rw [List.getElem?_eq_getElem h]
  rfl
end Go.Proofs.Ytlfingcmekifkaa

namespace Go.Proofs.Ytlfingcmekifkaa
open Go.RowKit

def manyB (c p : Nat) : Bool := (decide (60 < c) && decide (c ≤ 1000)) || (decide (600 < p) && decide (p ≤ 65536)) || decide (1100 < c)
theorem manyB_no {c p : Nat} (h : manyB c p = false) : (c ≤ 60 ∨ (1000 < c ∧ c ≤ 1100)) ∧ (p ≤ 600 ∨ 65536 < p) := by
  unfold manyB at h
  simp at h
  omega

set_option maxRecDepth 100000 in
set_option maxHeartbeats 2000000 in
theorem many_any (A Ap : Option Addr) (m c mp cp : Nat) (w : World) (hm : m ≤ maxLen) (hp : mp ≤ maxLen) :
    Calls Try.prog 10 #[.slice A m c, .slice Ap mp cp] w fun e w' => e = .returned (.bool (manyB m mp)) ∧ w' = w := by
  have hm63 : (m : Int) ≤ 9223372036854775807 := by unfold maxLen at hm; omega
  have hp63 : (mp : Int) ≤ 9223372036854775807 := by unfold maxLen at hp; omega
  obtain ⟨R, hR⟩ : ∃ R, manyB m mp = R := ⟨_, rfl⟩
  have HR := hide hR
  rw [hR]
  clear hR
  rcases (by omega : m ≤ 60 ∨ (60 < m ∧ m ≤ 1000) ∨ (1000 < m ∧ m ≤ 1100) ∨ 1100 < m) with h1 | ⟨h1, h2⟩ | ⟨h1, h2⟩ | h1 <;>
  rcases (by omega : mp ≤ 600 ∨ (600 < mp ∧ mp ≤ 65536) ∨ 65536 < mp) with g1 | ⟨g1, g2⟩ | g1
  all_goals
    have d0 : decide ((60 : Int) < (m : Int)) = decide (60 < m) := by simp; omega
    have d1 : decide ((m : Int) ≤ 1000) = decide (m ≤ 1000) := by simp; omega
    have d2 : decide ((600 : Int) < (mp : Int)) = decide (600 < mp) := by simp; omega
    have d3 : decide ((mp : Int) ≤ 65536) = decide (mp ≤ 65536) := by simp; omega
    have d4 : decide ((1100 : Int) < (m : Int)) = decide (1100 < m) := by simp; omega
    rw [show decide (60 < m) = _ by first | exact decide_eq_true (by omega) | exact decide_eq_false (by omega)] at d0
    rw [show decide (m ≤ 1000) = _ by first | exact decide_eq_true (by omega) | exact decide_eq_false (by omega)] at d1
    rw [show decide (600 < mp) = _ by first | exact decide_eq_true (by omega) | exact decide_eq_false (by omega)] at d2
    rw [show decide (mp ≤ 65536) = _ by first | exact decide_eq_true (by omega) | exact decide_eq_false (by omega)] at d3
    rw [show decide (1100 < m) = _ by first | exact decide_eq_true (by omega) | exact decide_eq_false (by omega)] at d4
    have hv := HR.out
    unfold manyB at hv
    go_enter Try.func10, Try.ntmps10
    go_wp2
    go_ret
    exact ⟨ret_bool (by rw [← hv]; simp <;> omega), rfl⟩


set_option maxRecDepth 100000 in
set_option maxHeartbeats 2000000 in
theorem sameZero (w : World) : Calls Try.prog 30 #[zeroV, zeroV] w fun e w' => e = .returned (.bool true) ∧ Below w.heap.size w w' := by
  have hnil : ∀ W : World, SlW W (.slice none 0 0) [] := fun W => ⟨none, 0, rfl, Nat.le_refl _, Nat.zero_le _, fun k x hx => by simp at hx⟩
  have N := fun W => same_any (.slice none 0 0) (.slice none 0 0) [] [] W (hnil W) (hnil W)
  unfold zeroV
  go_enter Try.func30, Try.ntmps30
  go_wp2_with fail
  refine (N _).mono ?_
  rintro e w1 ⟨rfl, n1, rfl⟩
  go_wp2
  go_loopw [45] (fun i wr => i = .int .i64 0 ∧ Hid (Below w.heap.size w wr)) (fun _ _ => 0)
  case atStart => exact ⟨rfl, hide (by (repeat' (first | exact Below.refl _ _ | assumption | refine Below.drew ?_ | refine below_drewN ?_ _ | refine Below.alloc ?_ (by simp <;> omega) _ | refine Below.setCell ?_ (by simp <;> omega) _)))⟩
  case round =>
    obtain ⟨rfl, hB⟩ := hrel
    go_wp2
    go_ret
    exact ⟨rfl, hB.out⟩
set_option maxRecDepth 100000 in
theorem noneZero (w : World) : Calls Try.prog 13 #[zeroV] w fun e w' => e = .returned (.bool true) ∧ Below w.heap.size w w' := by
  have N := sameZero (w.alloc zeroRep)
  unfold zeroV at *
  unfold zeroRep at N
  go_enter Try.func13, Try.ntmps13
  go_wp2_with fail
  refine N.mono ?_
  rintro e w1 ⟨rfl, hb⟩
  have HB := hide hb
  clear hb N
  go_wp2
  go_ret
  exact ⟨rfl, ((Below.refl _ w).alloc (Nat.le_refl _) _).trans (HB.out.mono (by simp))⟩
end Go.Proofs.Ytlfingcmekifkaa
