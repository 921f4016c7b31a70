/- A line of calls (package pick): New. -/
import Derived.Test.YtfghmlpjbedomaaGreatBun6
import Derived.Test.YtfghmlpjbedomaaGreatMapI
import Derived.Test.YtfghmlpjbedomaaGreatBun2
import Derived.Test.YtfghmlpjbedomaaGreatBun3
import Derived.Test.YtfghmlpjbedomaaGreatBun4
namespace Go.Proofs.YtfghmlpjbedomaaGreat
open Go.RowKit

/-- The first k calls of a thread. -/
def idxF (cs : List Cl) (k : Nat) (p : Int) : List Nat := (List.range k).filter fun i => decide ((cs[i]?).map (·.thread) = some p)
theorem idxF_succ {cs : List Cl} {k : Nat} {x : Cl} (h : cs[k]? = some x) (p : Int) : idxF cs (k + 1) p = if p = x.thread then idxF cs k p ++ [k] else idxF cs k p := by
  unfold idxF
  rw [List.range_succ, List.filter_append]
  by_cases hp : p = x.thread
  · subst hp; simp [h]
  · rw [if_neg hp]
    simp [h]
    exact fun e => hp e.symm
def natI (l : List Nat) : List Int := l.map Int.ofNat
theorem idxF_all (cs : List Cl) (p : Int) : idxF cs cs.length p = remF cs (List.replicate cs.length false) p := by
  unfold idxF remF
  apply List.filter_congr
  intro i hi
  rw [List.mem_range] at hi
  simp [hi]

/-- Each thread's row, its own, and no two in one block. -/
structure Rows5 (w : World) (B : Nat) (m : Int → Option Value) (idx : Int → List Nat) : Prop where
  non : ∀ p, m p = none → idx p = []
  som : ∀ p v, m p = some v → idx p ≠ [] ∧ IOwn w B v (idx p).length (natI (idx p))
  apart : ∀ p p' v v', p ≠ p' → m p = some v → m p' = some v' → v.ownBlock ≠ v'.ownBlock

theorem rows5_new (w : World) (B : Nat) : Rows5 w B (fun _ => none) (fun _ => []) := by
  refine ⟨fun _ _ => rfl, fun p v h => ?_, fun p p' v v' _ h => ?_⟩
  · cases h
  · cases h
theorem own_some {w : World} {B : Nat} {v : Value} {n : Nat} {xs : List Value} (h : w.ownsRow B 3 1 v n xs) (hn : 0 < n) : ∃ g cap, v = .slice (some ⟨g, 0, none⟩) n cap ∧ B ≤ g ∧ g < w.heap.size := by
  rcases h.2 with ⟨_, h0⟩ | ⟨g, cap, cur, rfl, hg, hb, _⟩
  · omega
  · exact ⟨g, cap, rfl, hg, (Array.getElem?_eq_some_iff.1 hb).1⟩
/-- A thread gets one more call. -/
theorem rows5_put {w w' : World} {B : Nat} {m : Int → Option Value} {idx : Int → List Nat} {t : Int} {k : Nat} {v' : Value} (h : Rows5 w B m idx) (hg : w.grownBy w' ((m t).getD (.slice none 0 0)).ownBlock)
    (ho : IOwn w' B v' ((idx t).length + 1) (natI (idx t ++ [k]))) (hloc : v'.ownBlock = ((m t).getD (.slice none 0 0)).ownBlock ∨ v'.ownBlock = some w.heap.size) :
    Rows5 w' B (fun x => if x = t then some v' else m x) (fun x => if x = t then idx t ++ [k] else idx x) := by
  have hnew : ∀ p v, p ≠ t → m p = some v → v.ownBlock ≠ ((m t).getD (.slice none 0 0)).ownBlock ∧ v.ownBlock ≠ some w.heap.size := by
    intro p v hp hv
    obtain ⟨hne, hov⟩ := h.som p v hv
    obtain ⟨g, cap, rfl, hBg, hgl⟩ := own_some hov (List.length_pos_iff.2 hne)
    refine ⟨?_, fun e => by have := Option.some.inj (show some g = some w.heap.size from e); omega⟩
    rcases ht : m t with _ | u
    · intro e; cases e
    · exact h.apart p t _ u hp hv ht
  refine ⟨fun p hp => ?_, fun p v hp => ?_, fun p p' v u hpp hp hp' => ?_⟩
  · by_cases e : p = t
    · simp [e] at hp
    · simp only [if_neg e] at hp ⊢
      exact h.non p hp
  · by_cases e : p = t
    · simp only [if_pos e] at hp ⊢
      cases hp
      refine ⟨by simp, ?_⟩
      rw [List.length_append]
      exact ho
    · simp only [if_neg e] at hp ⊢
      obtain ⟨h1, h2⟩ := h.som p v hp
      exact ⟨h1, World.ownsRow.kept h2 hg (Or.inr (hnew p v e hp).1)⟩
  · by_cases e : p = t
    · by_cases e' : p' = t
      · exact absurd (e.trans e'.symm) hpp
      · simp only [if_pos e] at hp
        simp only [if_neg e'] at hp'
        cases hp
        have := hnew p' u e' hp'
        rcases hloc with hl | hl
        · rw [hl]; exact fun x => this.1 x.symm
        · rw [hl]; exact fun x => this.2 x.symm
    · by_cases e' : p' = t
      · simp only [if_neg e] at hp
        simp only [if_pos e'] at hp'
        cases hp'
        have := hnew p v e hp
        rcases hloc with hl | hl
        · rw [hl]; exact this.1
        · rw [hl]; exact this.2
      · simp only [if_neg e] at hp
        simp only [if_neg e'] at hp'
        exact h.apart p p' v u hpp hp hp'
theorem rows5_keep {w w' : World} {B : Nat} {m : Int → Option Value} {idx : Int → List Nat} (h : Rows5 w B m idx) (hb : ∀ g, B ≤ g → g < w.heap.size → w'.heap[g]? = w.heap[g]?) (_hs : w.heap.size ≤ w'.heap.size) : Rows5 w' B m idx := by
  refine ⟨h.non, fun p v hv => ?_, h.apart⟩
  obtain ⟨h1, h2⟩ := h.som p v hv
  refine ⟨h1, ?_⟩
  rcases h2.2 with ⟨e, h0⟩ | ⟨g, cap, cur, e, hg, hc, hr⟩
  · exact ⟨h2.1, Or.inl ⟨e, h0⟩⟩
  · exact ⟨h2.1, Or.inr ⟨g, cap, cur, e, hg, (hb g hg (Array.getElem?_eq_some_iff.1 hc).1).trans hc, hr⟩⟩
end Go.Proofs.YtfghmlpjbedomaaGreat
