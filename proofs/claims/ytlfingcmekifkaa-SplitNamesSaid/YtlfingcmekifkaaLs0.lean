/- A grid of which not all who come to a place go right, and not all go down: how many come how far. -/
import Derived.Test.YtlfingcmekifkaaLm1
namespace Go.Proofs.Ytlfingcmekifkaa
open Go.RowKit

open Classical in
/-- How many threads are so. -/
noncomputable def cntP (n : Nat) (p : Nat → Prop) : Nat := (List.range n).countP fun t => decide (p t)
theorem cnt_lt {n : Nat} {p q : Nat → Prop} (h : ∀ t, t < n → p t → q t) {t : Nat} (ht : t < n) (hq : q t) (hp : ¬ p t) : cntP n p + 1 ≤ cntP n q := by
  classical
  induction n with
  | zero => omega
  | succ n ih =>
    unfold cntP at *
    rw [List.range_succ, List.countP_append, List.countP_append]
    have e : ∀ r : Nat → Prop, List.countP (fun t => decide (r t)) [n] = if r n then 1 else 0 := by
      intro r
      by_cases hr : r n <;> simp [hr]
    rw [e, e]
    have hle : ∀ m, (∀ t, t < m → p t → q t) → List.countP (fun t => decide (p t)) (List.range m) ≤ List.countP (fun t => decide (q t)) (List.range m) := by
      intro m hm
      refine List.countP_mono_left fun x hx hpx => ?_
      exact decide_eq_true (hm x (List.mem_range.1 hx) (of_decide_eq_true hpx))
    have h1 : ∀ t, t < n → p t → q t := fun t ht => h t (by omega)
    by_cases htn : t = n
    · subst htn
      rw [if_pos hq, if_neg hp]
      have := hle t h1
      omega
    · have := ih h1 (by omega)
      have h2 : (if p n then 1 else 0) ≤ (if q n then 1 else 0) := by
        by_cases hpn : p n
        · rw [if_pos hpn, if_pos (h n (by omega) hpn)]
          exact Nat.le_refl _
        · rw [if_neg hpn]
          exact Nat.zero_le _
      omega
theorem cnt_pos {n : Nat} {p : Nat → Prop} {t : Nat} (ht : t < n) (h : p t) : 1 ≤ cntP n p := by
  have := cnt_lt (n := n) (p := fun _ => False) (q := p) (fun _ _ h => h.elim) ht h id
  omega
theorem greatest_of {p : Nat → Prop} {N : Nat} (hN : ∀ k, p k → k ≤ N) : (∃ k, p k) → ∃ k, p k ∧ ∀ j, k < j → ¬ p j := by
  rintro ⟨k, hk⟩
  have : ∀ d k, N - k = d → p k → ∃ k, p k ∧ ∀ j, k < j → ¬ p j := by
    intro d
    induction d using Nat.strongRecOn with
    | ind d ih =>
      intro k hd hk
      by_cases h : ∃ j, k < j ∧ p j
      · obtain ⟨j, hj, hp⟩ := h
        have := hN j hp
        have := hN k hk
        exact ih (N - j) (by omega) j rfl hp
      · exact ⟨k, hk, fun j hj hp => h ⟨j, hj, hp⟩⟩
  exact this _ k rfl hk
/-- Ways through a grid: who was where, and went on to the right, or down. -/
structure Ways (n N : Nat) (vis right down : Nat → Nat → Nat → Prop) : Prop where
  lt : ∀ t r c, vis t r c → t < n ∧ r ≤ N ∧ c ≤ N
  came : ∀ t r c, vis t r c → (r = 0 ∧ c = 0) ∨ (0 < c ∧ right t r (c - 1)) ∨ (0 < r ∧ down t (r - 1) c)
  rt : ∀ t r c, right t r c → vis t r c ∧ vis t r (c + 1)
  dn : ∀ t r c, down t r c → vis t r c ∧ vis t (r + 1) c
  last : ∀ t r c, vis t r c → ¬ right t r c → ¬ down t r c → ∀ r' c', vis t r' c' → r' ≤ r ∧ c' ≤ c
  notR : ∀ t r c, vis t r c → ∃ s, vis s r c ∧ ¬ right s r c
  notD : ∀ t r c, vis t r c → ∃ s, vis s r c ∧ ¬ down s r c
def Quad (vis : Nat → Nat → Nat → Prop) (r c t : Nat) : Prop := ∃ r' c', r ≤ r' ∧ c ≤ c' ∧ vis t r' c'
theorem Ways.quad {n N : Nat} {vis right down : Nat → Nat → Nat → Prop} (W : Ways n N vis right down) : ∀ (d r c t : Nat), r + c = d → Quad vis r c t → cntP n (Quad vis r c) + d ≤ cntP n (Quad vis 0 0) := by
  intro d
  induction d with
  | zero =>
    intro r c t hd _
    obtain ⟨rfl, rfl⟩ : r = 0 ∧ c = 0 := by omega
    exact Nat.le_refl _
  | succ d ih =>
    -- a thread that was in the column (row) before, and one that stays there
    have RIGHT : ∀ r c, r + (c + 1) = d + 1 → (∃ t r', r ≤ r' ∧ vis t r' c) → cntP n (Quad vis r (c + 1)) + (d + 1) ≤ cntP n (Quad vis 0 0) := by
      rintro r c hd ⟨t, r', hr, hv⟩
      obtain ⟨k, ⟨hk, s, hs⟩, hg⟩ := greatest_of (p := fun k => r ≤ k ∧ ∃ s, vis s k c) (N := N) (fun k hk => by obtain ⟨_, s, hs⟩ := hk; exact (W.lt s k c hs).2.1) ⟨r', hr, t, hv⟩
      obtain ⟨s, hs, hnr⟩ := W.notR s k c hs
      have hnd : ¬ down s k c := fun hd => hg (k + 1) (by omega) ⟨by omega, s, (W.dn s k c hd).2⟩
      have hl := W.last s k c hs hnr hnd
      have h1 := ih r c s (by omega) ⟨k, c, hk, Nat.le_refl _, hs⟩
      have h2 := cnt_lt (n := n) (p := Quad vis r (c + 1)) (q := Quad vis r c) (fun u _ hu => by obtain ⟨a, b, h1, h2, h3⟩ := hu; exact ⟨a, b, h1, by omega, h3⟩) (W.lt s k c hs).1 ⟨k, c, hk, Nat.le_refl _, hs⟩ (fun hu => by obtain ⟨a, b, h1, h2, h3⟩ := hu; have := (hl a b h3).2; omega)
      omega
    have DOWN : ∀ r c, (r + 1) + c = d + 1 → (∃ t c', c ≤ c' ∧ vis t r c') → cntP n (Quad vis (r + 1) c) + (d + 1) ≤ cntP n (Quad vis 0 0) := by
      rintro r c hd ⟨t, c', hc, hv⟩
      obtain ⟨k, ⟨hk, s, hs⟩, hg⟩ := greatest_of (p := fun k => c ≤ k ∧ ∃ s, vis s r k) (N := N) (fun k hk => by obtain ⟨_, s, hs⟩ := hk; exact (W.lt s r k hs).2.2) ⟨c', hc, t, hv⟩
      obtain ⟨s, hs, hnd⟩ := W.notD s r k hs
      have hnr : ¬ right s r k := fun hd => hg (k + 1) (by omega) ⟨by omega, s, (W.rt s r k hd).2⟩
      have hl := W.last s r k hs hnr hnd
      have h1 := ih r c s (by omega) ⟨r, k, Nat.le_refl _, hk, hs⟩
      have h2 := cnt_lt (n := n) (p := Quad vis (r + 1) c) (q := Quad vis r c) (fun u _ hu => by obtain ⟨a, b, h1, h2, h3⟩ := hu; exact ⟨a, b, by omega, h2, h3⟩) (W.lt s r k hs).1 ⟨r, k, Nat.le_refl _, hk, hs⟩ (fun hu => by obtain ⟨a, b, h1, h2, h3⟩ := hu; have := (hl a b h3).1; omega)
      omega
    rintro r c t hd ⟨a, b, ha, hb, hv⟩
    -- the first place of the quadrant
    have : ∀ k a b, a + b = k → r ≤ a → c ≤ b → vis t a b → (∃ a', r ≤ a' ∧ 0 < c ∧ vis t a' (c - 1)) ∨ ∃ b', c ≤ b' ∧ 0 < r ∧ vis t (r - 1) b' := by
      intro k
      induction k with
      | zero => intro a b h1 h2 h3; omega
      | succ k ihk =>
        intro a b h1 h2 h3 hv
        rcases W.came t a b hv with ⟨h4, h5⟩ | ⟨h4, h5⟩ | ⟨h4, h5⟩
        · omega
        · have hv' := (W.rt _ _ _ h5).1
          by_cases hbc : b = c
          · subst hbc
            exact .inl ⟨a, h2, h4, hv'⟩
          · exact ihk a (b - 1) (by omega) h2 (by omega) hv'
        · have hv' := (W.dn _ _ _ h5).1
          by_cases har : a = r
          · subst har
            exact .inr ⟨b, h3, h4, hv'⟩
          · exact ihk (a - 1) b (by omega) (by omega) h3 hv'
    rcases this _ a b rfl ha hb hv with ⟨a', h1, h2, h3⟩ | ⟨b', h1, h2, h3⟩
    · obtain ⟨c, rfl⟩ : ∃ c', c = c' + 1 := ⟨c - 1, by omega⟩
      exact RIGHT r c hd ⟨t, a', h1, h3⟩
    · obtain ⟨r, rfl⟩ : ∃ r', r = r' + 1 := ⟨r - 1, by omega⟩
      exact DOWN r c hd ⟨t, b', h1, h3⟩
/-- Whoever came to a place is nearer than there are threads. -/
theorem Ways.near {n N : Nat} {vis right down : Nat → Nat → Nat → Prop} (W : Ways n N vis right down) {t r c : Nat} (h : vis t r c) : r + c + 1 ≤ cntP n (fun t => ∃ r c, vis t r c) := by
  have hq : Quad vis r c t := ⟨r, c, Nat.le_refl _, Nat.le_refl _, h⟩
  have h1 := W.quad (r + c) r c t rfl hq
  have h2 := cnt_pos (W.lt t r c h).1 hq
  have h3 : cntP n (Quad vis 0 0) = cntP n (fun t => ∃ r c, vis t r c) := by
    unfold cntP
    congr 1
    funext t
    congr 1
    unfold Quad
    simp
  omega
end Go.Proofs.Ytlfingcmekifkaa
