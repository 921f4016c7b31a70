/- Objects on a loom: what is so of all answers of a play. -/
/- roundelayplain: Many; nothing is in a report that tells nothing (None). -/
/- Agreeing (law 40): AdoptHolds: what is so of the events, and the test whether one is done. -/
import Derived.Test.YtlfingcmekifkaaBun10
import Derived.Test.YtlfingcmekifkaaBun1
import Derived.Test.YtlfingcmekifkaaOj1
namespace Go.Proofs.Ytlfingcmekifkaa
open Go.RowKit

section
variable {M O : Type} {T : Th M O} {Q : An → Prop}
theorem ans_step {P : Ps M O} {t i h : Nat} {m : M} (hs : ∀ (o : O) (lw : Lw) (hs : Nat → Option M) (t : Nat) (m : M), T.good o lw hs → hs t = some m → t < 16 → (T.G.step o lw t m).2.2.2 = true → Q (T.G.ans (T.G.step o lw t m).1 (T.G.step o lw t m).2.2.1).1) (hg : T.good P.obj P.lw P.ms) (hm : P.hands t = some (m, h)) (ht : t < 16) (hq : ∀ e ∈ P.evs, Q e.ans) : ∀ e ∈ (P.step T.G t i m h).evs, Q e.ans := by
  intro e he
  cases hd : (P.after T.G t m).2.2.2
  · obtain ⟨_, _, h3⟩ := step_more (i := i) (h := h) hd
    rw [h3] at he
    rcases modify_mem he with he | ⟨y, hy, rfl⟩
    · exact hq e he
    · exact hq y hy
  · obtain ⟨_, _, key, h3⟩ := step_done (i := i) (h := h) hd
    rw [h3] at he
    rcases modify_mem he with he | ⟨y, hy, rfl⟩
    · exact hq e he
    · exact hs P.obj P.lw P.ms t m hg (by unfold Ps.ms; rw [hm]; rfl) ht hd
theorem ans_play (hT : T.Ok) (h0 : Q ⟨0, 0, []⟩) (hs : ∀ (o : O) (lw : Lw) (hs : Nat → Option M) (t : Nat) (m : M), T.good o lw hs → hs t = some m → t < 16 → (T.G.step o lw t m).2.2.2 = true → Q (T.G.ans (T.G.step o lw t m).1 (T.G.step o lw t m).2.2.1).1) {cs : List Cl} (hcs : ∀ c ∈ cs, 0 ≤ c.thread ∧ c.thread < 16 ∧ ClU c) (picks : List Int) :
    ∀ {P : Ps M O}, T.good P.obj P.lw P.ms → (∀ e ∈ P.evs, Q e.ans) → ∀ e ∈ (P.play T.G cs picks).evs, Q e.ans := by
  induction picks with
  | nil => exact fun _ h => h
  | cons p l ih =>
    intro P hg hq
    refine ih (P := P.pick T.G cs p) (good_pick hT hcs hg p) ?_
    rcases pick_cases T.G P p (fun c hc => (hcs c hc).1) with e | ⟨t, i, _, hi, hth, _, ⟨m, h, hm, e⟩ | ⟨hn, e⟩⟩
    · rw [e]
      exact hq
    all_goals
      have hC : callOf cs i ∈ cs := by
        unfold callOf
        rw [List.getElem?_eq_getElem hi]
        exact List.getElem_mem hi
      have ht : t < 16 := by
        have := hcs _ hC
        omega
      rw [e]
    · exact ans_step (P := P.tick) hs (hT.goodTick hg) hm ht hq
    · have h1 := hT.goodStart (t := t) (c := callOf cs i) (hT.goodTick hg) (show P.ms t = none by unfold Ps.ms; rw [hn]; rfl) ht hth (hcs _ hC).2.2
      refine ans_step (P := P.tick.start T.G t i (callOf cs i)) hs ?_ (upd_same _ _ _) ht (fun e he => ?_)
      · have : (P.tick.start T.G t i (callOf cs i)).ms = upd P.ms t (some (T.G.start P.obj t (callOf cs i)).2) := ms_upd _ _ _
        rw [this]
        exact h1
      · rcases List.mem_append.1 he with he | he
        · exact hq e he
        · have := List.mem_singleton.1 he
          subst this
          exact h0
theorem ans_ends {G : Gm M O} {P : Ps M O} (h : ∀ e ∈ P.evs, Q e.ans) : ∀ e ∈ P.ends G, Q e.ans := by
  intro e he
  obtain ⟨k, hk⟩ := List.mem_iff_getElem?.1 he
  obtain ⟨e0, h0, _, _, _, _, h5⟩ := ends_get hk
  rw [h5]
  exact h e0 (List.mem_of_getElem? h0)
end
theorem ends_has {M O : Type} {G : Gm M O} {P : Ps M O} {h : Nat} {e0 : Ep} (he : P.evs[h]? = some e0) : ∃ e, (P.ends G)[h]? = some e ∧ e.call = e0.call ∧ e.inv = e0.inv ∧ e.resp = e0.resp ∧ e.steps = e0.steps ∧ e.ans = e0.ans := by
  have hl : h < (P.ends G).length := by rw [ends_len]; exact (List.getElem?_eq_some_iff.1 he).1
  obtain ⟨e1, h1, r⟩ := ends_get (List.getElem?_eq_getElem hl)
  rw [he] at h1
  cases h1
  exact ⟨_, List.getElem?_eq_getElem hl, r⟩
/-- Calls that a play takes: whose threads are. -/
theorem chk_calls {n : Int} {cs : List Cl} {np : Nat} (h : chkE n cs np = 0) : (1 ≤ n ∧ n ≤ 16) ∧ cs.length ≤ 1000 ∧ np ≤ 65536 ∧ ∀ c ∈ cs, 0 ≤ c.thread ∧ c.thread < n := by
  unfold chkE at h
  split at h
  · cases h
  · rename_i h1
    split at h
    · cases h
    · rename_i h2
      refine ⟨by omega, by omega, by omega, ?_⟩
      unfold wrongE at h
      split at h
      · cases h
      · split at h
        · cases h
        · split at h
          · rename_i ha
            intro c hc
            have := List.all_eq_true.1 ha c hc
            simp at this
            exact this
          · cases h
/-- A call of a play. -/
theorem call_get {cs : List Cl} {i : Nat} (h : i < cs.length) : cs[i]? = some (callOf cs i) := by
  unfold callOf
  rw [List.getElem?_eq_getElem h]
  rfl
end Go.Proofs.Ytlfingcmekifkaa

namespace Go.Proofs.Ytlfingcmekifkaa
open Go.RowKit

def manyB (c p : Nat) : Bool := (decide (60 < c) && decide (c ≤ 1000)) || (decide (600 < p) && decide (p ≤ 65536)) || decide (1100 < c)
theorem manyB_no {c p : Nat} (h : manyB c p = false) : (c ≤ 60 ∨ (1000 < c ∧ c ≤ 1100)) ∧ (p ≤ 600 ∨ 65536 < p) := by
  unfold manyB at h
  simp at h
  omega

set_option maxRecDepth 100000 in
set_option maxHeartbeats 2000000 in
theorem many_any (A Ap : Option Addr) (m c mp cp : Nat) (w : World) (hm : m ≤ maxLen) (hp : mp ≤ maxLen) :
    Calls Try.prog 10 #[.slice A m c, .slice Ap mp cp] w fun e w' => e = .returned (.bool (manyB m mp)) ∧ w' = w := by
  have hm63 : (m : Int) ≤ 9223372036854775807 := by unfold maxLen at hm; omega
  have hp63 : (mp : Int) ≤ 9223372036854775807 := by unfold maxLen at hp; omega
  obtain ⟨R, hR⟩ : ∃ R, manyB m mp = R := ⟨_, rfl⟩
  have HR := hide hR
  rw [hR]
  clear hR
  rcases (by omega : m ≤ 60 ∨ (60 < m ∧ m ≤ 1000) ∨ (1000 < m ∧ m ≤ 1100) ∨ 1100 < m) with h1 | ⟨h1, h2⟩ | ⟨h1, h2⟩ | h1 <;>
  rcases (by omega : mp ≤ 600 ∨ (600 < mp ∧ mp ≤ 65536) ∨ 65536 < mp) with g1 | ⟨g1, g2⟩ | g1
  all_goals
    have d0 : decide ((60 : Int) < (m : Int)) = decide (60 < m) := by simp; omega
    have d1 : decide ((m : Int) ≤ 1000) = decide (m ≤ 1000) := by simp; omega
    have d2 : decide ((600 : Int) < (mp : Int)) = decide (600 < mp) := by simp; omega
    have d3 : decide ((mp : Int) ≤ 65536) = decide (mp ≤ 65536) := by simp; omega
    have d4 : decide ((1100 : Int) < (m : Int)) = decide (1100 < m) := by simp; omega
    rw [show decide (60 < m) = _ by first | exact decide_eq_true (by omega) | exact decide_eq_false (by omega)] at d0
    rw [show decide (m ≤ 1000) = _ by first | exact decide_eq_true (by omega) | exact decide_eq_false (by omega)] at d1
    rw [show decide (600 < mp) = _ by first | exact decide_eq_true (by omega) | exact decide_eq_false (by omega)] at d2
    rw [show decide (mp ≤ 65536) = _ by first | exact decide_eq_true (by omega) | exact decide_eq_false (by omega)] at d3
    rw [show decide (1100 < m) = _ by first | exact decide_eq_true (by omega) | exact decide_eq_false (by omega)] at d4
    have hv := HR.out
    unfold manyB at hv
    go_enter Try.func10, Try.ntmps10
    go_wp2
    go_ret
    exact ⟨ret_bool (by rw [← hv]; simp <;> omega), rfl⟩


set_option maxRecDepth 100000 in
set_option maxHeartbeats 2000000 in
theorem sameZero (w : World) : Calls Try.prog 30 #[zeroV, zeroV] w fun e w' => e = .returned (.bool true) ∧ Below w.heap.size w w' := by
  have hnil : ∀ W : World, SlW W (.slice none 0 0) [] := fun W => ⟨none, 0, rfl, Nat.le_refl _, Nat.zero_le _, fun k x hx => by simp at hx⟩
  have N := fun W => same_any (.slice none 0 0) (.slice none 0 0) [] [] W (hnil W) (hnil W)
  unfold zeroV
  go_enter Try.func30, Try.ntmps30
  go_wp2_with fail
  refine (N _).mono ?_
  rintro e w1 ⟨rfl, n1, rfl⟩
  go_wp2
  go_loopw [45] (fun i wr => i = .int .i64 0 ∧ Hid (Below w.heap.size w wr)) (fun _ _ => 0)
  case atStart => exact ⟨rfl, hide (by (repeat' (first | exact Below.refl _ _ | assumption | refine Below.drew ?_ | refine below_drewN ?_ _ | refine Below.alloc ?_ (by simp <;> omega) _ | refine Below.setCell ?_ (by simp <;> omega) _)))⟩
  case round =>
    obtain ⟨rfl, hB⟩ := hrel
    go_wp2
    go_ret
    exact ⟨rfl, hB.out⟩
set_option maxRecDepth 100000 in
theorem noneZero (w : World) : Calls Try.prog 13 #[zeroV] w fun e w' => e = .returned (.bool true) ∧ Below w.heap.size w w' := by
  have N := sameZero (w.alloc zeroRep)
  unfold zeroV at *
  unfold zeroRep at N
  go_enter Try.func13, Try.ntmps13
  go_wp2_with fail
  refine N.mono ?_
  rintro e w1 ⟨rfl, hb⟩
  have HB := hide hb
  clear hb N
  go_wp2
  go_ret
  exact ⟨rfl, ((Below.refl _ w).alloc (Nat.le_refl _) _).trans (HB.out.mono (by simp))⟩
end Go.Proofs.Ytlfingcmekifkaa

namespace Go.Proofs.Ytlfingcmekifkaa
open Go.RowKit

theorem ad_vals {n : Nat} (hn : 1 ≤ n ∧ n ≤ 16) {cs : List Cl} (hcs : ∀ c ∈ cs, 0 ≤ c.thread ∧ c.thread < 16 ∧ ClU c) (picks : List Int) : ∀ e ∈ (adPlay n cs picks).ends adG, 0 ≤ e.ans.val ∧ e.ans.val < 18446744073709551616 := by
  refine ans_ends (Q := fun a => 0 ≤ a.val ∧ a.val < 18446744073709551616) ?_
  refine ans_play (T := adTh 0 n) (Q := fun a => 0 ≤ a.val ∧ a.val < 18446744073709551616) (adTh_ok 0 n) (by decide) ?_ hcs picks (adGood_new n hn cs.length) (fun e he => by cases he)
  intro o lw hs t m hg hm ht hd
  obtain ⟨g1, g2, g3, g4⟩ := hg
  have hk := g4 t m hm
  cases m with
  | no e => exact (by decide : (0 : Int) ≤ 0 ∧ (0 : Int) < 18446744073709551616)
  | prop t' pc v seen val =>
    obtain ⟨k1, k2, k3, k4, k5, k6, k7, k8⟩ := hk
    have hd : (adStep o lw (.prop t' pc v seen val)).2.2.2 = true := hd
    show 0 ≤ (adAns (adStep o lw (.prop t' pc v seen val)).2.2.1).1.val ∧ (adAns (adStep o lw (.prop t' pc v seen val)).2.2.1).1.val < 18446744073709551616
    unfold adStep at hd ⊢
    by_cases h0 : pc = 0
    · simp [h0] at hd
    · by_cases h1 : pc = 1
      · simp [h1] at hd
      · by_cases h2 : pc = 2
        · simp [h2] at hd
        · simp only [if_neg h0, if_neg h1, if_neg h2] at hd ⊢
          split at hd
          · rename_i hq
            rw [if_pos hq]
            show 0 ≤ endF v _ ∧ endF v _ < 18446744073709551616
            have hb := firstF_bound (l := seen ++ [lw.mem.tell 0 ((o.n : Int) + seen.length) 0]) (fun x hx => by
              rcases List.mem_append.1 hx with h | h
              · exact k5 x h
              · rw [List.mem_singleton.1 h]
                exact tell0_bd g3 _)
            unfold endF
            split
            · split <;> omega
            · omega
          · cases hd
theorem AdHold.ends {cs : List Cl} {P : Ps AM Ad} (h : AdHold cs P.evs) : AdHold cs (P.ends adG) := by
  have hp : ∀ (e e0 : Ep), e.call = e0.call → e.ans = e0.ans → (isProp cs e ↔ isProp cs e0) := fun e e0 h1 h2 => by unfold isProp; rw [h1, h2]
  refine ⟨fun k e he => ?_, fun k e he hr hs => ?_, fun k j e e' he he' hr hr' hs hs' hodd => ?_⟩
  · obtain ⟨e0, h0, h1, _⟩ := ends_get he
    rw [h1]
    exact h.call k e0 h0
  · obtain ⟨e0, h0, h1, h2, h3, h4, h5⟩ := ends_get he
    obtain ⟨j, y, a1, a2, a3, a4⟩ := h.prop k e0 h0 (by rw [← h3]; exact hr) ((hp e e0 h1 h5).1 hs)
    obtain ⟨y', b1, b2, b3, b4, b5, b6⟩ := ends_has (G := adG) a1
    refine ⟨j, y', b1, (hp y' y b2 b6).2 a2, ?_, ?_⟩
    · unfold prA at a3 ⊢
      rw [b2, a3, h5]
    · rw [b3, h3]
      exact a4
  · obtain ⟨e0, h0, h1, h2, h3, h4, h5⟩ := ends_get he
    obtain ⟨f0, g0, g1, g2, g3, g4, g5⟩ := ends_get he'
    rw [h5, g5]
    exact h.same k j e0 f0 h0 g0 (by rw [← h3]; exact hr) (by rw [← g3]; exact hr') ((hp e e0 h1 h5).1 hs) ((hp e' f0 g1 g5).1 hs') (by rw [← h5]; exact hodd)
/-- Whether an event is of a proposal that responded. -/
def doneB (cs : List Cl) (e : Ep) : Bool := decide ((callOf cs e.call).obj = 0) && decide ((callOf cs e.call).kind = 0) && decide (e.resp ≠ 0) && decide (e.ans.err = 0)
theorem doneB_iff {cs : List Cl} {e : Ep} : doneB cs e = true ↔ isProp cs e ∧ e.resp ≠ 0 := by
  unfold doneB isProp
  simp
  constructor
  · rintro ⟨⟨⟨a, b⟩, c⟩, d⟩
    exact ⟨⟨a, b, d⟩, c⟩
  · rintro ⟨⟨a, b, d⟩, c⟩
    exact ⟨⟨⟨a, b⟩, c⟩, d⟩
set_option maxRecDepth 100000 in
set_option maxHeartbeats 1000000 in
theorem doneW (A : Option Addr) (m c : Nat) (cs : List Cl) (e : Ep) (x : Ev) (w : World) (h : SlCl w (.slice A m c) cs) (hm : cs.length = m) (hc : e.call < cs.length) :
    Calls Try.prog 20 #[.slice A m c, .agg #[.int .i64 e.call, .int .i64 e.inv, .int .i64 e.resp, .int .i64 e.steps, .int .i64 e.ans.err, .int .u64 e.ans.val, .slice x.lA x.lN x.lC, .slice x.kA x.kN x.kC]] w fun e' w' => e' = .returned (.bool (doneB cs e)) ∧ w' = w.alloc (.cells #[.int .i64 e.call, .int .i64 e.inv, .int .i64 e.resp, .int .i64 e.steps, .int .i64 e.ans.err, .int .u64 e.ans.val, .slice x.lA x.lN x.lC, .slice x.kA x.kN x.kC] 41) := by
  obtain ⟨A', c', e1, g1, g2, g3⟩ := h
  obtain ⟨bb, oo, e2, hbb, hcc⟩ := g3 _ _ (call_get hc)
  rw [hm] at e1
  cases e1
  cases e2
  obtain ⟨c0, c1, c2, c3, c4, c5⟩ := cl_cells hcc
  have hlt : (e.call : Int) < (m : Int) := by omega
  have HD := hide (show doneB cs e = (decide ((callOf cs e.call).obj = 0) && decide ((callOf cs e.call).kind = 0) && decide (e.resp ≠ 0) && decide (e.ans.err = 0)) from rfl)
  clear g1 g2 g3 hcc hm hc
  generalize callOf cs e.call = cl at *
  by_cases h0 : cl.obj = 0 <;> by_cases h1 : cl.kind = 0 <;> by_cases h2 : e.resp = 0 <;> by_cases h3 : e.ans.err = 0
  all_goals
    have d0 : (cl.obj == 0) = decide (cl.obj = 0) := by simp [h0]
    have d1 : (cl.kind == 0) = decide (cl.kind = 0) := by simp [h1]
    have hv := HD.out
    simp only [h0, h1, h2, h3, decide_true, decide_false, Bool.and_true, Bool.and_false, Bool.false_and, ne_eq, not_true_eq_false, not_false_eq_true, Bool.true_and] at hv
    rw [hv]
    clear HD hv d0 d1
    go_enter Try.func20, Try.ntmps20
    go_wp2
    go_ret
    exact ⟨by first | rfl | (simp; done) | (simp [h0, h1, h2, h3]; done), by first | rfl | (simp only [h2]; done) | (simp only [h3]; done) | (simp only [h2, h3]; done) | (rw [h2, h3]) | (rw [h3]) | (rw [h2])⟩
end Go.Proofs.Ytlfingcmekifkaa
