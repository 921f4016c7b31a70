/- A play on a loom: what is so of objects and machines all along; one more block among the objects'. -/
import Derived.Test.YtfghmlpjbedomaaGreatLo12
namespace Go.Proofs.YtfghmlpjbedomaaGreat
open Go.RowKit

theorem good_play {M O : Type} {T : Th M O} (hT : T.Ok) {cs : List Cl} (hcs : ∀ c ∈ cs, 0 ≤ c.thread ∧ c.thread < 16 ∧ ClU c ∧ T.cl c) (picks : List Int) : ∀ {P : Ps M O}, T.good P.obj P.lw P.ms → T.good (P.play T.G cs picks).obj (P.play T.G cs picks).lw (P.play T.G cs picks).ms := by
  induction picks with
  | nil => exact fun h => h
  | cons p l ih => exact fun h => ih (good_pick hT hcs h p)
/-- One more block among the objects'. -/
def Th.hold {M O : Type} (T : Th M O) (b : Nat) (c : Obj) : Th M O := { T with OB := fun w F o => ∃ F1, T.OB w F1 o ∧ (∀ k, F k ↔ F1 k ∨ k = b) ∧ ¬ F1 b ∧ w.heap[b]? = some c }
theorem Th.hold_ok {M O : Type} {T : Th M O} (hT : T.Ok) (b : Nat) (c : Obj) : (T.hold b c).Ok := by
  refine ⟨?_, ?_, hT.mlKeep, hT.alKeep, hT.mlLt, hT.mlIface, hT.objIface, ?_, hT.refuse, ?_, hT.still, hT.ans, hT.late, hT.goodStart, hT.goodTick, hT.goodStep⟩
  · rintro w w' F o S ⟨F1, h1, h2, h3, h4⟩ hk hS
    exact ⟨F1, hT.obKeep h1 hk (fun k hk => hS k ((h2 k).2 (Or.inl hk))), h2, h3, (hk.block b (hS b ((h2 b).2 (Or.inr rfl)))).trans h4⟩
  · rintro w F o ⟨F1, h1, h2, h3, h4⟩ k hk
    rcases (h2 k).1 hk with hk | rfl
    · exact hT.obLt h1 k hk
    · exact (Array.getElem?_eq_some_iff.1 h4).1
  · rintro w Fo o lw hs t j cl v ⟨F1, h1, h2, h3, h4⟩ hg hn ht hc hu hq ho hv
    have hbz := (Array.getElem?_eq_some_iff.1 h4).1
    obtain ⟨f, r, hd, hcall⟩ := hT.start h1 hg hn ht hc hu hq ho hv
    refine ⟨f, r, hd, fun pw => (hcall pw).mono ?_⟩
    rintro e w' ⟨Fo1, Fm1, u, he, a1, a2, a3, a4, a5, a6⟩
    refine ⟨fun k => Fo1 k ∨ k = b, Fm1, u, he, ⟨Fo1, a1, fun k => Iff.rfl, fun hb => ?_, (a6.block b ⟨hbz, h3⟩).trans h4⟩, a2, fun k hk => ?_, fun k hk => ?_, fun k hk hm => ?_, a6.mono (fun k hk => ⟨hk.1, fun hf => hk.2 ((h2 k).2 (Or.inl hf))⟩)⟩
    · rcases a3 b hb with h | h
      · exact h3 h
      · omega
    · rcases hk with hk | rfl
      · rcases a3 k hk with h | h
        · exact Or.inl ((h2 k).2 (Or.inl h))
        · exact Or.inr h
      · exact Or.inl ((h2 k).2 (Or.inr rfl))
    · rcases a4 k hk with h | h
      · exact Or.inl ((h2 k).2 (Or.inl h))
      · exact Or.inr h
    · rcases hk with hk | rfl
      · exact a5 k hk hm
      · rcases a4 k hm with h | h
        · exact h3 h
        · omega
  · rintro w Fo Fm v m o lw hs ad Mu t ⟨F1, h1, h2, h3, h4⟩ hML hw he hh hg hn0 hn1 ht c1 c2 c3 c4 c5
    have hbz := (Array.getElem?_eq_some_iff.1 h4).1
    have hFb := (h2 b).2 (Or.inr rfl)
    obtain ⟨cm, c4'⟩ := c1 b hFb
    obtain ⟨f, r, hd, hcall⟩ := hT.step h1 hML hw he hh hg hn0 hn1 ht (fun k hk => c1 k ((h2 k).2 (Or.inl hk))) c2 (fun k hk => c3 k (by rcases hk with hk | hk; exact Or.inl ((h2 k).2 (Or.inl hk)); exact Or.inr hk)) c4 c5
    refine ⟨f, r, hd, hcall.mono ?_⟩
    rintro e w' ⟨Fo1, Fm1, he, a1, a2, a2', a3, a4, a5, a6⟩
    have hnb : ∀ k, Fo1 k ∨ Fm1 k → k ≠ b := by
      rintro k hk rfl
      rcases a4 _ hk with h | h | h
      · exact h3 h
      · exact cm h
      · omega
    refine ⟨fun k => Fo1 k ∨ k = b, Fm1, he, ⟨Fo1, a1, fun k => Iff.rfl, fun hb => hnb b (Or.inl hb) rfl, (a6.block b ⟨hbz, h3, cm, c4'⟩).trans h4⟩, a2, a2', ?_, fun k hk => ?_, fun k hk hm => ?_, a6.mono (fun k hk => ⟨hk.1, fun hf => hk.2.1 ((h2 k).2 (Or.inl hf)), hk.2.2.1, hk.2.2.2⟩)⟩
    · refine a3.keep (Keep.refl (fun _ => True) w') (fun _ _ _ => trivial) (fun k _ hk => ?_) trivial trivial trivial trivial
      rcases hk with hk | hk | hk
      · exact Or.inl ⟨hk.1, fun hf => hk.2.1 ((h2 k).2 (Or.inl hf)), hk.2.2⟩
      · rcases hk with hk | rfl
        · exact Or.inr (Or.inl hk)
        · exact Or.inl ⟨c3 _ (Or.inl hFb), h3, cm⟩
      · exact Or.inr (Or.inr hk)
    · rcases hk with (hk | rfl) | hk
      · rcases a4 k (Or.inl hk) with h | h
        · exact Or.inl ((h2 k).2 (Or.inl h))
        · exact Or.inr h
      · exact Or.inl hFb
      · rcases a4 k (Or.inr hk) with h | h
        · exact Or.inl ((h2 k).2 (Or.inl h))
        · exact Or.inr h
    · rcases hk with hk | rfl
      · exact a5 k hk hm
      · exact hnb _ (Or.inr hm) rfl
end Go.Proofs.YtfghmlpjbedomaaGreat
