/- Objects on a loom: what is so of all answers of a play. -/
import Derived.Test.YtlfingcmekifkaaOj2
namespace Go.Proofs.Ytlfingcmekifkaa
open Go.RowKit

section
variable {M O : Type} {T : Th M O} {Q : An → Prop}
theorem ans_step {P : Ps M O} {t i h : Nat} {m : M} (hs : ∀ (o : O) (lw : Lw) (hs : Nat → Option M) (t : Nat) (m : M), T.goodT o lw hs → hs t = some m → t < 16 → (T.G.step o lw t m).2.2.2 = true → Q (T.G.ans (T.G.step o lw t m).1 (T.G.step o lw t m).2.2.1).1) (hg : T.goodT P.obj P.lw P.ms) (hm : P.hands t = some (m, h)) (ht : t < 16) (hq : ∀ e ∈ P.evs, Q e.ans) : ∀ e ∈ (P.step T.G t i m h).evs, Q e.ans := by
  intro e he
  cases hd : (P.after T.G t m).2.2.2
  · obtain ⟨_, _, h3⟩ := step_more (i := i) (h := h) hd
    rw [h3] at he
    rcases modify_mem he with he | ⟨y, hy, rfl⟩
    · exact hq e he
    · exact hq y hy
  · obtain ⟨_, _, key, h3⟩ := step_done (i := i) (h := h) hd
    rw [h3] at he
    rcases modify_mem he with he | ⟨y, hy, rfl⟩
    · exact hq e he
    · exact hs P.obj P.lw P.ms t m hg (by unfold Ps.ms; rw [hm]; rfl) ht hd
theorem ans_play (hT : T.Ok) (h0 : Q ⟨0, 0, []⟩) (hs : ∀ (o : O) (lw : Lw) (hs : Nat → Option M) (t : Nat) (m : M), T.goodT o lw hs → hs t = some m → t < 16 → (T.G.step o lw t m).2.2.2 = true → Q (T.G.ans (T.G.step o lw t m).1 (T.G.step o lw t m).2.2.1).1) {cs : List Cl} (hcs : ∀ c ∈ cs, 0 ≤ c.thread ∧ c.thread < 16 ∧ ClU c) (picks : List Int) :
    ∀ {P : Ps M O}, T.good P.obj P.lw P.ms → (∀ e ∈ P.evs, Q e.ans) → ∀ e ∈ (P.play T.G cs picks).evs, Q e.ans := by
  induction picks with
  | nil => exact fun _ h => h
  | cons p l ih =>
    intro P hg hq
    refine ih (P := P.pick T.G cs p) (good_pick hT hcs hg p) ?_
    rcases pick_cases T.G P p (fun c hc => (hcs c hc).1) with e | ⟨t, i, _, hi, hth, _, ⟨m, h, hm, e⟩ | ⟨hn, e⟩⟩
    · rw [e]
      exact hq
    all_goals
      have hC : callOf cs i ∈ cs := by
        unfold callOf
        rw [List.getElem?_eq_getElem hi]
        exact List.getElem_mem hi
      have ht : t < 16 := by
        have := hcs _ hC
        omega
      rw [e]
    · exact ans_step (P := P.tick) hs (hT.goodTick hg) hm ht hq
    · have h1 := hT.goodStart (t := t) (c := callOf cs i) (hT.goodTick hg) (show P.ms t = none by unfold Ps.ms; rw [hn]; rfl) ht hth (hcs _ hC).2.2
      refine ans_step (P := P.tick.start T.G t i (callOf cs i)) hs ?_ (upd_same _ _ _) ht (fun e he => ?_)
      · have : (P.tick.start T.G t i (callOf cs i)).ms = upd P.ms t (some (T.G.start P.obj t (callOf cs i)).2) := ms_upd _ _ _
        rw [this]
        exact h1
      · rcases List.mem_append.1 he with he | he
        · exact hq e he
        · have := List.mem_singleton.1 he
          subst this
          exact h0
theorem ans_ends {G : Gm M O} {P : Ps M O} (h : ∀ e ∈ P.evs, Q e.ans) : ∀ e ∈ P.ends G, Q e.ans := by
  intro e he
  obtain ⟨k, hk⟩ := List.mem_iff_getElem?.1 he
  obtain ⟨e0, h0, _, _, _, _, h5⟩ := ends_get hk
  rw [h5]
  exact h e0 (List.mem_of_getElem? h0)
end
theorem ends_has {M O : Type} {G : Gm M O} {P : Ps M O} {h : Nat} {e0 : Ep} (he : P.evs[h]? = some e0) : ∃ e, (P.ends G)[h]? = some e ∧ e.call = e0.call ∧ e.inv = e0.inv ∧ e.resp = e0.resp ∧ e.steps = e0.steps ∧ e.ans = e0.ans := by
  have hl : h < (P.ends G).length := by rw [ends_len]; exact (List.getElem?_eq_some_iff.1 he).1
  obtain ⟨e1, h1, r⟩ := ends_get (List.getElem?_eq_getElem hl)
  rw [he] at h1
  cases h1
  exact ⟨_, List.getElem?_eq_getElem hl, r⟩
/-- Calls that a play takes: whose threads are. -/
theorem chk_calls {n : Int} {cs : List Cl} {np : Nat} (h : chkE n cs np = 0) : (1 ≤ n ∧ n ≤ 16) ∧ cs.length ≤ 1000 ∧ np ≤ 65536 ∧ ∀ c ∈ cs, 0 ≤ c.thread ∧ c.thread < n := by
  unfold chkE at h
  split at h
  · cases h
  · rename_i h1
    split at h
    · cases h
    · rename_i h2
      refine ⟨by omega, by omega, by omega, ?_⟩
      unfold wrongE at h
      split at h
      · cases h
      · split at h
        · cases h
        · split at h
          · rename_i ha
            intro c hc
            have := List.all_eq_true.1 ha c hc
            simp at this
            exact this
          · cases h
/-- A call of a play. -/
theorem call_get {cs : List Cl} {i : Nat} (h : i < cs.length) : cs[i]? = some (callOf cs i) := by
  unfold callOf
  rw [List.getElem?_eq_getElem h]
  rfl
end Go.Proofs.Ytlfingcmekifkaa
