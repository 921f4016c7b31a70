/- Splitters in a grid: where threads are, and how they go on. -/
import Derived.Test.YtlfingcmekifkaaLs0
namespace Go.Proofs.Ytlfingcmekifkaa
open Go.RowKit

/-- Who was where (vis), went right, or down; where each thread is, and at what (4: it has the name); the words of the splitters. -/
structure Grid (n : Nat) (vis right down : Nat → Nat → Nat → Prop) (cur : Nat → Option (Nat × Nat × Nat)) (La Sh : Nat → Nat → Int) : Prop where
  at' : ∀ t r c pc, cur t = some (r, c, pc) → t < n ∧ pc ≤ 4 ∧ vis t r c ∧ ¬ right t r c ∧ ¬ down t r c ∧ ∀ r' c', vis t r' c' → r' ≤ r ∧ c' ≤ c
  was : ∀ t r c, vis t r c → ∃ r' c' pc, cur t = some (r', c', pc) ∧ ((r = r' ∧ c = c') ∨ right t r c ∨ down t r c)
  came : ∀ t r c, vis t r c → (r = 0 ∧ c = 0) ∨ (0 < c ∧ right t r (c - 1)) ∨ (0 < r ∧ down t (r - 1) c)
  rt : ∀ t r c, right t r c → vis t r c ∧ vis t r (c + 1)
  dn : ∀ t r c, down t r c → vis t r c ∧ vis t (r + 1) c
  bd : ∃ N, ∀ t r c, vis t r c → r ≤ N ∧ c ≤ N
  gone : ∀ t r c, right t r c ∨ down t r c → Sh r c ≠ 0
  shut3 : ∀ t r c pc, cur t = some (r, c, pc) → 3 ≤ pc → Sh r c ≠ 0
  sh1 : ∀ r c, Sh r c ≠ 0 → ∃ s, vis s r c ∧ ¬ right s r c ∧ (down s r c ∨ ∃ pc, 3 ≤ pc ∧ cur s = some (r, c, pc))
  la0 : ∀ r c, La r c = 0 → ∀ t, vis t r c → cur t = some (r, c, 0)
  la1 : ∀ r c, La r c ≠ 0 → ∃ q : Nat, La r c = q + 1 ∧ vis q r c ∧ ¬ down q r c ∧ cur q ≠ some (r, c, 0)
  st : ∀ p r c, cur p = some (r, c, 4) → ∀ q pc, q ≠ p → cur q = some (r, c, pc) → 2 ≤ pc → La r c ≠ q + 1 ∧ pc ≠ 4
theorem Grid.new (n : Nat) : Grid n (fun _ _ _ => False) (fun _ _ _ => False) (fun _ _ _ => False) (fun _ => none) (fun _ _ => 0) (fun _ _ => 0) := by
  refine ⟨fun _ _ _ _ h => ?_, fun _ _ _ h => h.elim, fun _ _ _ h => h.elim, fun _ _ _ h => h.elim, fun _ _ _ h => h.elim, ⟨0, fun _ _ _ h => h.elim⟩, fun _ _ _ h => ?_, fun _ _ _ _ h => ?_, fun _ _ h => absurd rfl h, fun _ _ _ _ h => h.elim, fun _ _ h => absurd rfl h, fun _ _ _ h => ?_⟩
  · cases h
  · rcases h with h | h <;> exact h.elim
  · cases h
  · cases h
section
variable {n : Nat} {vis right down : Nat → Nat → Nat → Prop} {cur : Nat → Option (Nat × Nat × Nat)} {La Sh : Nat → Nat → Int}
theorem Grid.ways (G : Grid n vis right down cur La Sh) : ∃ N, Ways n N vis right down := by
  obtain ⟨N, hN⟩ := G.bd
  refine ⟨N, fun t r c h => ?_, G.came, G.rt, G.dn, fun t r c h hr hd r' c' h' => ?_, fun t r c h => ?_, fun t r c h => ?_⟩
  · obtain ⟨r', c', pc, h1, _⟩ := G.was t r c h
    exact ⟨(G.at' t _ _ _ h1).1, hN t r c h⟩
  · obtain ⟨r1, c1, pc, h1, h2⟩ := G.was t r c h
    rcases h2 with ⟨rfl, rfl⟩ | h2 | h2
    · exact (G.at' t _ _ _ h1).2.2.2.2.2 r' c' h'
    · exact absurd h2 hr
    · exact absurd h2 hd
  · by_cases hs : Sh r c = 0
    · exact ⟨t, h, fun hr => G.gone t r c (.inl hr) hs⟩
    · obtain ⟨s, h1, h2, _⟩ := G.sh1 r c hs
      exact ⟨s, h1, h2⟩
  · by_cases hl : La r c = 0
    · have := G.la0 r c hl t h
      exact ⟨t, h, (G.at' t _ _ _ this).2.2.2.2.1⟩
    · obtain ⟨q, _, h1, h2, _⟩ := G.la1 r c hl
      exact ⟨q, h1, h2⟩
/-- Who is anywhere, is nearer than there are threads that began. -/
theorem Grid.near (G : Grid n vis right down cur La Sh) {t r c pc : Nat} (h : cur t = some (r, c, pc)) : r + c + 1 ≤ cntP n fun t => cur t ≠ none := by
  obtain ⟨N, W⟩ := G.ways
  have h1 := W.near (G.at' t r c pc h).2.2.1
  have : (fun t => ∃ r c, vis t r c) = fun t => cur t ≠ none := by
    funext t
    apply propext
    constructor
    · rintro ⟨r, c, h⟩
      obtain ⟨_, _, _, h, _⟩ := G.was t r c h
      rw [h]
      simp
    · intro h
      cases hc : cur t with
      | none => exact absurd hc h
      | some x => exact ⟨x.1, x.2.1, (G.at' t x.1 x.2.1 x.2.2 (by rw [hc])).2.2.1⟩
  rw [this] at h1
  exact h1
theorem upd_some {t u : Nat} {x y : Nat × Nat × Nat} (h : upd cur t (some x) u = some y) : (u = t ∧ x = y) ∨ (u ≠ t ∧ cur u = some y) := by
  by_cases e : u = t
  · subst e
    rw [upd_same] at h
    exact .inl ⟨rfl, Option.some.inj h⟩
  · rw [upd_other e] at h
    exact .inr ⟨e, h⟩
def updC (f : Nat → Nat → Int) (r c : Nat) (x : Int) : Nat → Nat → Int := fun i j => if i = r ∧ j = c then x else f i j
theorem updC_same {f : Nat → Nat → Int} {r c : Nat} {x : Int} : updC f r c x r c = x := if_pos ⟨rfl, rfl⟩
theorem updC_other {f : Nat → Nat → Int} {r c i j : Nat} {x : Int} (h : ¬ (i = r ∧ j = c)) : updC f r c x i j = f i j := if_neg h
/-- A thread writes itself as the last one. -/
theorem Grid.last (G : Grid n vis right down cur La Sh) {t r c : Nat} (h : cur t = some (r, c, 0)) : Grid n vis right down (upd cur t (some (r, c, 1))) (updC La r c (t + 1)) Sh := by
  obtain ⟨a1, a2, a3, a4, a5, a6⟩ := G.at' t r c 0 h
  refine ⟨fun u r' c' pc hu => ?_, fun u r' c' hv => ?_, G.came, G.rt, G.dn, G.bd, G.gone, fun u r' c' pc hu h3 => ?_, fun r' c' hs => ?_, fun r' c' hl u hv => ?_, fun r' c' hl => ?_, fun p r' c' hp q pc hqp hq h2 => ?_⟩
  · rcases upd_some hu with ⟨rfl, h'⟩ | ⟨_, h'⟩
    · cases h'
      exact ⟨a1, by omega, a3, a4, a5, a6⟩
    · exact G.at' u _ _ _ h'
  · by_cases e : u = t
    · subst e
      obtain ⟨r1, c1, pc, h1, h2⟩ := G.was u r' c' hv
      rw [h] at h1
      cases h1
      exact ⟨r, c, 1, upd_same _ _ _, h2⟩
    · rw [upd_other e]
      exact G.was u r' c' hv
  · rcases upd_some hu with ⟨rfl, h'⟩ | ⟨_, h'⟩
    · cases h'
      omega
    · exact G.shut3 u _ _ _ h' h3
  · obtain ⟨s, h1, h2, h3⟩ := G.sh1 r' c' hs
    refine ⟨s, h1, h2, ?_⟩
    rcases h3 with h3 | ⟨pc, h3, h4⟩
    · exact .inl h3
    · refine .inr ⟨pc, h3, ?_⟩
      rw [upd_other ?_]
      · exact h4
      · rintro rfl
        rw [h] at h4
        cases h4
        omega
  · by_cases e : r' = r ∧ c' = c
    · obtain ⟨rfl, rfl⟩ := e
      rw [updC_same] at hl
      omega
    · rw [updC_other e] at hl
      have := G.la0 r' c' hl u hv
      rw [upd_other ?_]
      · exact this
      · rintro rfl
        rw [h] at this
        cases this
        exact e ⟨rfl, rfl⟩
  · by_cases e : r' = r ∧ c' = c
    · obtain ⟨rfl, rfl⟩ := e
      rw [updC_same]
      refine ⟨t, rfl, a3, a5, ?_⟩
      rw [upd_same]
      intro h
      cases h
    · rw [updC_other e] at hl ⊢
      obtain ⟨q, h1, h2, h3, h4⟩ := G.la1 r' c' hl
      refine ⟨q, h1, h2, h3, ?_⟩
      by_cases e' : q = t
      · subst e'
        rw [upd_same]
        intro h
        cases h
      · rw [upd_other e']
        exact h4
  · rcases upd_some hp with ⟨_, h'⟩ | ⟨hpt, hp'⟩
    · cases h'
    · rcases upd_some hq with ⟨_, h'⟩ | ⟨hqt, hq'⟩
      · cases h'
        omega
      · obtain ⟨h4, h5⟩ := G.st p r' c' hp' q pc hqp hq' h2
        refine ⟨?_, h5⟩
        by_cases e : r' = r ∧ c' = c
        · obtain ⟨rfl, rfl⟩ := e
          rw [updC_same]
          omega
        · rw [updC_other e]
          exact h4
/-- A thread asks, and finds the splitter open. -/
theorem Grid.ask (G : Grid n vis right down cur La Sh) {t r c : Nat} (h : cur t = some (r, c, 1)) (hs0 : Sh r c = 0) : Grid n vis right down (upd cur t (some (r, c, 2))) La Sh := by
  obtain ⟨a1, a2, a3, a4, a5, a6⟩ := G.at' t r c 1 h
  refine ⟨fun u r' c' pc hu => ?_, fun u r' c' hv => ?_, G.came, G.rt, G.dn, G.bd, G.gone, fun u r' c' pc hu h3 => ?_, fun r' c' hs => ?_, fun r' c' hl u hv => ?_, fun r' c' hl => ?_, fun p r' c' hp q pc hqp hq h2 => ?_⟩
  · rcases upd_some hu with ⟨rfl, h'⟩ | ⟨_, h'⟩
    · cases h'
      exact ⟨a1, by omega, a3, a4, a5, a6⟩
    · exact G.at' u _ _ _ h'
  · by_cases e : u = t
    · subst e
      obtain ⟨r1, c1, pc, h1, h2⟩ := G.was u r' c' hv
      rw [h] at h1
      cases h1
      exact ⟨r, c, 2, upd_same _ _ _, h2⟩
    · rw [upd_other e]
      exact G.was u r' c' hv
  · rcases upd_some hu with ⟨rfl, h'⟩ | ⟨_, h'⟩
    · cases h'
      omega
    · exact G.shut3 u _ _ _ h' h3
  · obtain ⟨s, h1, h2, h3⟩ := G.sh1 r' c' hs
    refine ⟨s, h1, h2, ?_⟩
    rcases h3 with h3 | ⟨pc, h3, h4⟩
    · exact .inl h3
    · refine .inr ⟨pc, h3, ?_⟩
      rw [upd_other ?_]
      · exact h4
      · rintro rfl
        rw [h] at h4
        cases h4
        omega
  · have := G.la0 r' c' hl u hv
    rw [upd_other ?_]
    · exact this
    · rintro rfl
      rw [h] at this
      cases this
  · obtain ⟨q, h1, h2, h3, h4⟩ := G.la1 r' c' hl
    refine ⟨q, h1, h2, h3, ?_⟩
    by_cases e' : q = t
    · subst e'
      rw [upd_same]
      intro h
      cases h
    · rw [upd_other e']
      exact h4
  · rcases upd_some hp with ⟨_, h'⟩ | ⟨hpt, hp'⟩
    · cases h'
    · rcases upd_some hq with ⟨_, h'⟩ | ⟨hqt, hq'⟩
      · cases h'
        exact absurd hs0 (G.shut3 p _ _ _ hp' (by omega))
      · exact G.st p r' c' hp' q pc hqp hq' h2
/-- A thread shuts it. -/
theorem Grid.shut (G : Grid n vis right down cur La Sh) {t r c : Nat} (h : cur t = some (r, c, 2)) : Grid n vis right down (upd cur t (some (r, c, 3))) La (updC Sh r c 1) := by
  obtain ⟨a1, a2, a3, a4, a5, a6⟩ := G.at' t r c 2 h
  have hmono : ∀ i j, Sh i j ≠ 0 → updC Sh r c 1 i j ≠ 0 := by
    intro i j hs
    by_cases e : i = r ∧ j = c
    · obtain ⟨rfl, rfl⟩ := e
      rw [updC_same]
      decide
    · rw [updC_other e]
      exact hs
  refine ⟨fun u r' c' pc hu => ?_, fun u r' c' hv => ?_, G.came, G.rt, G.dn, G.bd, fun u r' c' h => hmono _ _ (G.gone u r' c' h), fun u r' c' pc hu h3 => ?_, fun r' c' hs => ?_, fun r' c' hl u hv => ?_, fun r' c' hl => ?_, fun p r' c' hp q pc hqp hq h2 => ?_⟩
  · rcases upd_some hu with ⟨rfl, h'⟩ | ⟨_, h'⟩
    · cases h'
      exact ⟨a1, by omega, a3, a4, a5, a6⟩
    · exact G.at' u _ _ _ h'
  · by_cases e : u = t
    · subst e
      obtain ⟨r1, c1, pc, h1, h2⟩ := G.was u r' c' hv
      rw [h] at h1
      cases h1
      exact ⟨r, c, 3, upd_same _ _ _, h2⟩
    · rw [upd_other e]
      exact G.was u r' c' hv
  · rcases upd_some hu with ⟨rfl, h'⟩ | ⟨_, h'⟩
    · cases h'
      rw [updC_same]
      decide
    · exact hmono _ _ (G.shut3 u _ _ _ h' h3)
  · by_cases e : r' = r ∧ c' = c
    · obtain ⟨rfl, rfl⟩ := e
      exact ⟨t, a3, a4, .inr ⟨3, Nat.le_refl _, upd_same _ _ _⟩⟩
    · rw [updC_other e] at hs
      obtain ⟨s, h1, h2, h3⟩ := G.sh1 r' c' hs
      refine ⟨s, h1, h2, ?_⟩
      rcases h3 with h3 | ⟨pc, h3, h4⟩
      · exact .inl h3
      · refine .inr ⟨pc, h3, ?_⟩
        rw [upd_other ?_]
        · exact h4
        · rintro rfl
          rw [h] at h4
          cases h4
          omega
  · have := G.la0 r' c' hl u hv
    rw [upd_other ?_]
    · exact this
    · rintro rfl
      rw [h] at this
      cases this
  · obtain ⟨q, h1, h2, h3, h4⟩ := G.la1 r' c' hl
    refine ⟨q, h1, h2, h3, ?_⟩
    by_cases e' : q = t
    · subst e'
      rw [upd_same]
      intro h
      cases h
    · rw [upd_other e']
      exact h4
  · rcases upd_some hp with ⟨_, h'⟩ | ⟨hpt, hp'⟩
    · cases h'
    · rcases upd_some hq with ⟨rfl, h'⟩ | ⟨hqt, hq'⟩
      · cases h'
        exact ⟨(G.st p r c hp' q 2 hqp h (Nat.le_refl _)).1, by decide⟩
      · exact G.st p r' c' hp' q pc hqp hq' h2
/-- A thread that is the last one there has the name. -/
theorem Grid.take (G : Grid n vis right down cur La Sh) {t r c : Nat} (h : cur t = some (r, c, 3)) (hl0 : La r c = t + 1) : Grid n vis right down (upd cur t (some (r, c, 4))) La Sh := by
  obtain ⟨a1, a2, a3, a4, a5, a6⟩ := G.at' t r c 3 h
  refine ⟨fun u r' c' pc hu => ?_, fun u r' c' hv => ?_, G.came, G.rt, G.dn, G.bd, G.gone, fun u r' c' pc hu h3 => ?_, fun r' c' hs => ?_, fun r' c' hl u hv => ?_, fun r' c' hl => ?_, fun p r' c' hp q pc hqp hq h2 => ?_⟩
  · rcases upd_some hu with ⟨rfl, h'⟩ | ⟨_, h'⟩
    · cases h'
      exact ⟨a1, by omega, a3, a4, a5, a6⟩
    · exact G.at' u _ _ _ h'
  · by_cases e : u = t
    · subst e
      obtain ⟨r1, c1, pc, h1, h2⟩ := G.was u r' c' hv
      rw [h] at h1
      cases h1
      exact ⟨r, c, 4, upd_same _ _ _, h2⟩
    · rw [upd_other e]
      exact G.was u r' c' hv
  · rcases upd_some hu with ⟨rfl, h'⟩ | ⟨_, h'⟩
    · cases h'
      exact G.shut3 u r c 3 h (Nat.le_refl _)
    · exact G.shut3 u _ _ _ h' h3
  · obtain ⟨s, h1, h2, h3⟩ := G.sh1 r' c' hs
    refine ⟨s, h1, h2, ?_⟩
    rcases h3 with h3 | ⟨pc, h3, h4⟩
    · exact .inl h3
    · by_cases e : s = t
      · subst e
        rw [h] at h4
        cases h4
        exact .inr ⟨4, by decide, upd_same _ _ _⟩
      · exact .inr ⟨pc, h3, by rw [upd_other e]; exact h4⟩
  · have := G.la0 r' c' hl u hv
    rw [upd_other ?_]
    · exact this
    · rintro rfl
      rw [h] at this
      cases this
  · obtain ⟨q, h1, h2, h3, h4⟩ := G.la1 r' c' hl
    refine ⟨q, h1, h2, h3, ?_⟩
    by_cases e' : q = t
    · subst e'
      rw [upd_same]
      intro h
      cases h
    · rw [upd_other e']
      exact h4
  · rcases upd_some hp with ⟨rfl, h'⟩ | ⟨hpt, hp'⟩
    · cases h'
      rw [upd_other hqp] at hq
      refine ⟨by omega, ?_⟩
      rintro rfl
      exact (G.st q r c hq p 3 (Ne.symm hqp) h (by decide)).1 hl0
    · rcases upd_some hq with ⟨rfl, h'⟩ | ⟨hqt, hq'⟩
      · cases h'
        exact absurd hl0 (G.st p r c hp' q 3 hqp h (by decide)).1
      · exact G.st p r' c' hp' q pc hqp hq' h2
end
end Go.Proofs.Ytlfingcmekifkaa
