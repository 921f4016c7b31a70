import Derived.Test.YtlfingcmekifkaaGreatBun12
import Derived.Test.YtlfingcmekifkaaGreatLq1
import Derived.Test.YtlfingcmekifkaaGreatBun4
namespace Go.Proofs.YtlfingcmekifkaaGreat
open Go.RowKit
theorem wrel_acc {lw : Lw} {W : Rw} (h : WRel lw W) (k a x y : Int) (l : List Ac) : WRel { lw with mem := lw.mem.acc k a x y } { W with mem := W.mem.acc k a x y, log := l } := by
  obtain ⟨w1, w2, w3, w4⟩ := h
  exact ⟨by show W.mem.acc _ _ _ _ = _; rw [w1], w2, w3, w4⟩
end Go.Proofs.YtlfingcmekifkaaGreat

namespace Go.Proofs.YtlfingcmekifkaaGreat
open Go.RowKit
open Classical in
noncomputable def cntP (n : Nat) (p : Nat → Prop) : Nat := (List.range n).countP fun t => decide (p t)
theorem cnt_lt {n : Nat} {p q : Nat → Prop} (h : ∀ t, t < n → p t → q t) {t : Nat} (ht : t < n) (hq : q t) (hp : ¬ p t) : cntP n p + 1 ≤ cntP n q := by
  classical
  induction n with
  | zero => omega
  | succ n ih =>
    unfold cntP at *
    rw [List.range_succ, List.countP_append, List.countP_append]
    have e : ∀ r : Nat → Prop, List.countP (fun t => decide (r t)) [n] = if r n then 1 else 0 := by
      intro r
      by_cases hr : r n <;> simp [hr]
    rw [e, e]
    have hle : ∀ m, (∀ t, t < m → p t → q t) → List.countP (fun t => decide (p t)) (List.range m) ≤ List.countP (fun t => decide (q t)) (List.range m) := by
      intro m hm
      refine List.countP_mono_left fun x hx hpx => ?_
      exact decide_eq_true (hm x (List.mem_range.1 hx) (of_decide_eq_true hpx))
    have h1 : ∀ t, t < n → p t → q t := fun t ht => h t (by omega)
    by_cases htn : t = n
    · subst htn
      rw [if_pos hq, if_neg hp]
      have := hle t h1
      omega
    · have := ih h1 (by omega)
      have h2 : (if p n then 1 else 0) ≤ (if q n then 1 else 0) := by
        by_cases hpn : p n
        · rw [if_pos hpn, if_pos (h n (by omega) hpn)]
          exact Nat.le_refl _
        · rw [if_neg hpn]
          exact Nat.zero_le _
      omega
theorem cnt_pos {n : Nat} {p : Nat → Prop} {t : Nat} (ht : t < n) (h : p t) : 1 ≤ cntP n p := by
  have := cnt_lt (n := n) (p := fun _ => False) (q := p) (fun _ _ h => h.elim) ht h id
  omega
theorem greatest_of {p : Nat → Prop} {N : Nat} (hN : ∀ k, p k → k ≤ N) : (∃ k, p k) → ∃ k, p k ∧ ∀ j, k < j → ¬ p j := by
  rintro ⟨k, hk⟩
  have : ∀ d k, N - k = d → p k → ∃ k, p k ∧ ∀ j, k < j → ¬ p j := by
    intro d
    induction d using Nat.strongRecOn with
    | ind d ih =>
      intro k hd hk
      by_cases h : ∃ j, k < j ∧ p j
      · obtain ⟨j, hj, hp⟩ := h
        have := hN j hp
        have := hN k hk
        exact ih (N - j) (by omega) j rfl hp
      · exact ⟨k, hk, fun j hj hp => h ⟨j, hj, hp⟩⟩
  exact this _ k rfl hk
structure Ways (n N : Nat) (vis right down : Nat → Nat → Nat → Prop) : Prop where
  lt : ∀ t r c, vis t r c → t < n ∧ r ≤ N ∧ c ≤ N
  came : ∀ t r c, vis t r c → (r = 0 ∧ c = 0) ∨ (0 < c ∧ right t r (c - 1)) ∨ (0 < r ∧ down t (r - 1) c)
  rt : ∀ t r c, right t r c → vis t r c ∧ vis t r (c + 1)
  dn : ∀ t r c, down t r c → vis t r c ∧ vis t (r + 1) c
  last : ∀ t r c, vis t r c → ¬ right t r c → ¬ down t r c → ∀ r' c', vis t r' c' → r' ≤ r ∧ c' ≤ c
  notR : ∀ t r c, vis t r c → ∃ s, vis s r c ∧ ¬ right s r c
  notD : ∀ t r c, vis t r c → ∃ s, vis s r c ∧ ¬ down s r c
def Quad (vis : Nat → Nat → Nat → Prop) (r c t : Nat) : Prop := ∃ r' c', r ≤ r' ∧ c ≤ c' ∧ vis t r' c'
theorem Ways.quad {n N : Nat} {vis right down : Nat → Nat → Nat → Prop} (W : Ways n N vis right down) : ∀ (d r c t : Nat), r + c = d → Quad vis r c t → cntP n (Quad vis r c) + d ≤ cntP n (Quad vis 0 0) := by
  intro d
  induction d with
  | zero =>
    intro r c t hd _
    obtain ⟨rfl, rfl⟩ : r = 0 ∧ c = 0 := by omega
    exact Nat.le_refl _
  | succ d ih =>
    have RIGHT : ∀ r c, r + (c + 1) = d + 1 → (∃ t r', r ≤ r' ∧ vis t r' c) → cntP n (Quad vis r (c + 1)) + (d + 1) ≤ cntP n (Quad vis 0 0) := by
      rintro r c hd ⟨t, r', hr, hv⟩
      obtain ⟨k, ⟨hk, s, hs⟩, hg⟩ := greatest_of (p := fun k => r ≤ k ∧ ∃ s, vis s k c) (N := N) (fun k hk => by obtain ⟨_, s, hs⟩ := hk; exact (W.lt s k c hs).2.1) ⟨r', hr, t, hv⟩
      obtain ⟨s, hs, hnr⟩ := W.notR s k c hs
      have hnd : ¬ down s k c := fun hd => hg (k + 1) (by omega) ⟨by omega, s, (W.dn s k c hd).2⟩
      have hl := W.last s k c hs hnr hnd
      have h1 := ih r c s (by omega) ⟨k, c, hk, Nat.le_refl _, hs⟩
      have h2 := cnt_lt (n := n) (p := Quad vis r (c + 1)) (q := Quad vis r c) (fun u _ hu => by obtain ⟨a, b, h1, h2, h3⟩ := hu; exact ⟨a, b, h1, by omega, h3⟩) (W.lt s k c hs).1 ⟨k, c, hk, Nat.le_refl _, hs⟩ (fun hu => by obtain ⟨a, b, h1, h2, h3⟩ := hu; have := (hl a b h3).2; omega)
      omega
    have DOWN : ∀ r c, (r + 1) + c = d + 1 → (∃ t c', c ≤ c' ∧ vis t r c') → cntP n (Quad vis (r + 1) c) + (d + 1) ≤ cntP n (Quad vis 0 0) := by
      rintro r c hd ⟨t, c', hc, hv⟩
      obtain ⟨k, ⟨hk, s, hs⟩, hg⟩ := greatest_of (p := fun k => c ≤ k ∧ ∃ s, vis s r k) (N := N) (fun k hk => by obtain ⟨_, s, hs⟩ := hk; exact (W.lt s r k hs).2.2) ⟨c', hc, t, hv⟩
      obtain ⟨s, hs, hnd⟩ := W.notD s r k hs
      have hnr : ¬ right s r k := fun hd => hg (k + 1) (by omega) ⟨by omega, s, (W.rt s r k hd).2⟩
      have hl := W.last s r k hs hnr hnd
      have h1 := ih r c s (by omega) ⟨r, k, Nat.le_refl _, hk, hs⟩
      have h2 := cnt_lt (n := n) (p := Quad vis (r + 1) c) (q := Quad vis r c) (fun u _ hu => by obtain ⟨a, b, h1, h2, h3⟩ := hu; exact ⟨a, b, by omega, h2, h3⟩) (W.lt s r k hs).1 ⟨r, k, Nat.le_refl _, hk, hs⟩ (fun hu => by obtain ⟨a, b, h1, h2, h3⟩ := hu; have := (hl a b h3).1; omega)
      omega
    rintro r c t hd ⟨a, b, ha, hb, hv⟩
    have : ∀ k a b, a + b = k → r ≤ a → c ≤ b → vis t a b → (∃ a', r ≤ a' ∧ 0 < c ∧ vis t a' (c - 1)) ∨ ∃ b', c ≤ b' ∧ 0 < r ∧ vis t (r - 1) b' := by
      intro k
      induction k with
      | zero => intro a b h1 h2 h3; omega
      | succ k ihk =>
        intro a b h1 h2 h3 hv
        rcases W.came t a b hv with ⟨h4, h5⟩ | ⟨h4, h5⟩ | ⟨h4, h5⟩
        · omega
        · have hv' := (W.rt _ _ _ h5).1
          by_cases hbc : b = c
          · subst hbc
            exact .inl ⟨a, h2, h4, hv'⟩
          · exact ihk a (b - 1) (by omega) h2 (by omega) hv'
        · have hv' := (W.dn _ _ _ h5).1
          by_cases har : a = r
          · subst har
            exact .inr ⟨b, h3, h4, hv'⟩
          · exact ihk (a - 1) b (by omega) (by omega) h3 hv'
    rcases this _ a b rfl ha hb hv with ⟨a', h1, h2, h3⟩ | ⟨b', h1, h2, h3⟩
    · obtain ⟨c, rfl⟩ : ∃ c', c = c' + 1 := ⟨c - 1, by omega⟩
      exact RIGHT r c hd ⟨t, a', h1, h3⟩
    · obtain ⟨r, rfl⟩ : ∃ r', r = r' + 1 := ⟨r - 1, by omega⟩
      exact DOWN r c hd ⟨t, b', h1, h3⟩
theorem Ways.near {n N : Nat} {vis right down : Nat → Nat → Nat → Prop} (W : Ways n N vis right down) {t r c : Nat} (h : vis t r c) : r + c + 1 ≤ cntP n (fun t => ∃ r c, vis t r c) := by
  have hq : Quad vis r c t := ⟨r, c, Nat.le_refl _, Nat.le_refl _, h⟩
  have h1 := W.quad (r + c) r c t rfl hq
  have h2 := cnt_pos (W.lt t r c h).1 hq
  have h3 : cntP n (Quad vis 0 0) = cntP n (fun t => ∃ r c, vis t r c) := by
    unfold cntP
    congr 1
    funext t
    congr 1
    unfold Quad
    simp
  omega
end Go.Proofs.YtlfingcmekifkaaGreat

namespace Go.Proofs.YtlfingcmekifkaaGreat
open Go.RowKit
structure Grid (n : Nat) (vis right down : Nat → Nat → Nat → Prop) (cur : Nat → Option (Nat × Nat × Nat)) (La Sh : Nat → Nat → Int) : Prop where
  at' : ∀ t r c pc, cur t = some (r, c, pc) → t < n ∧ pc ≤ 4 ∧ vis t r c ∧ ¬ right t r c ∧ ¬ down t r c ∧ ∀ r' c', vis t r' c' → r' ≤ r ∧ c' ≤ c
  was : ∀ t r c, vis t r c → ∃ r' c' pc, cur t = some (r', c', pc) ∧ ((r = r' ∧ c = c') ∨ right t r c ∨ down t r c)
  came : ∀ t r c, vis t r c → (r = 0 ∧ c = 0) ∨ (0 < c ∧ right t r (c - 1)) ∨ (0 < r ∧ down t (r - 1) c)
  rt : ∀ t r c, right t r c → vis t r c ∧ vis t r (c + 1)
  dn : ∀ t r c, down t r c → vis t r c ∧ vis t (r + 1) c
  bd : ∃ N, ∀ t r c, vis t r c → r ≤ N ∧ c ≤ N
  gone : ∀ t r c, right t r c ∨ down t r c → Sh r c ≠ 0
  shut3 : ∀ t r c pc, cur t = some (r, c, pc) → 3 ≤ pc → Sh r c ≠ 0
  sh1 : ∀ r c, Sh r c ≠ 0 → ∃ s, vis s r c ∧ ¬ right s r c ∧ (down s r c ∨ ∃ pc, 3 ≤ pc ∧ cur s = some (r, c, pc))
  la0 : ∀ r c, La r c = 0 → ∀ t, vis t r c → cur t = some (r, c, 0)
  la1 : ∀ r c, La r c ≠ 0 → ∃ q : Nat, La r c = q + 1 ∧ vis q r c ∧ ¬ down q r c ∧ cur q ≠ some (r, c, 0)
  st : ∀ p r c, cur p = some (r, c, 4) → ∀ q pc, q ≠ p → cur q = some (r, c, pc) → 2 ≤ pc → La r c ≠ q + 1 ∧ pc ≠ 4
theorem Grid.new (n : Nat) : Grid n (fun _ _ _ => False) (fun _ _ _ => False) (fun _ _ _ => False) (fun _ => none) (fun _ _ => 0) (fun _ _ => 0) := by
  refine ⟨fun _ _ _ _ h => ?_, fun _ _ _ h => h.elim, fun _ _ _ h => h.elim, fun _ _ _ h => h.elim, fun _ _ _ h => h.elim, ⟨0, fun _ _ _ h => h.elim⟩, fun _ _ _ h => ?_, fun _ _ _ _ h => ?_, fun _ _ h => absurd rfl h, fun _ _ _ _ h => h.elim, fun _ _ h => absurd rfl h, fun _ _ _ h => ?_⟩
  · cases h
  · rcases h with h | h <;> exact h.elim
  · cases h
  · cases h
section
variable {n : Nat} {vis right down : Nat → Nat → Nat → Prop} {cur : Nat → Option (Nat × Nat × Nat)} {La Sh : Nat → Nat → Int}
theorem Grid.ways (G : Grid n vis right down cur La Sh) : ∃ N, Ways n N vis right down := by
  obtain ⟨N, hN⟩ := G.bd
  refine ⟨N, fun t r c h => ?_, G.came, G.rt, G.dn, fun t r c h hr hd r' c' h' => ?_, fun t r c h => ?_, fun t r c h => ?_⟩
  · obtain ⟨r', c', pc, h1, _⟩ := G.was t r c h
    exact ⟨(G.at' t _ _ _ h1).1, hN t r c h⟩
  · obtain ⟨r1, c1, pc, h1, h2⟩ := G.was t r c h
    rcases h2 with ⟨rfl, rfl⟩ | h2 | h2
    · exact (G.at' t _ _ _ h1).2.2.2.2.2 r' c' h'
    · exact absurd h2 hr
    · exact absurd h2 hd
  · by_cases hs : Sh r c = 0
    · exact ⟨t, h, fun hr => G.gone t r c (.inl hr) hs⟩
    · obtain ⟨s, h1, h2, _⟩ := G.sh1 r c hs
      exact ⟨s, h1, h2⟩
  · by_cases hl : La r c = 0
    · have := G.la0 r c hl t h
      exact ⟨t, h, (G.at' t _ _ _ this).2.2.2.2.1⟩
    · obtain ⟨q, _, h1, h2, _⟩ := G.la1 r c hl
      exact ⟨q, h1, h2⟩
theorem Grid.near (G : Grid n vis right down cur La Sh) {t r c pc : Nat} (h : cur t = some (r, c, pc)) : r + c + 1 ≤ cntP n fun t => cur t ≠ none := by
  obtain ⟨N, W⟩ := G.ways
  have h1 := W.near (G.at' t r c pc h).2.2.1
  have : (fun t => ∃ r c, vis t r c) = fun t => cur t ≠ none := by
    funext t
    apply propext
    constructor
    · rintro ⟨r, c, h⟩
      obtain ⟨_, _, _, h, _⟩ := G.was t r c h
      rw [h]
      simp
    · intro h
      cases hc : cur t with
      | none => exact absurd hc h
      | some x => exact ⟨x.1, x.2.1, (G.at' t x.1 x.2.1 x.2.2 (by rw [hc])).2.2.1⟩
  rw [this] at h1
  exact h1
theorem upd_some {t u : Nat} {x y : Nat × Nat × Nat} (h : upd cur t (some x) u = some y) : (u = t ∧ x = y) ∨ (u ≠ t ∧ cur u = some y) := by
  by_cases e : u = t
  · subst e
    rw [upd_same] at h
    exact .inl ⟨rfl, Option.some.inj h⟩
  · rw [upd_other e] at h
    exact .inr ⟨e, h⟩
def updC (f : Nat → Nat → Int) (r c : Nat) (x : Int) : Nat → Nat → Int := fun i j => if i = r ∧ j = c then x else f i j
theorem updC_same {f : Nat → Nat → Int} {r c : Nat} {x : Int} : updC f r c x r c = x := if_pos ⟨rfl, rfl⟩
theorem updC_other {f : Nat → Nat → Int} {r c i j : Nat} {x : Int} (h : ¬ (i = r ∧ j = c)) : updC f r c x i j = f i j := if_neg h
theorem Grid.last (G : Grid n vis right down cur La Sh) {t r c : Nat} (h : cur t = some (r, c, 0)) : Grid n vis right down (upd cur t (some (r, c, 1))) (updC La r c (t + 1)) Sh := by
  obtain ⟨a1, a2, a3, a4, a5, a6⟩ := G.at' t r c 0 h
  refine ⟨fun u r' c' pc hu => ?_, fun u r' c' hv => ?_, G.came, G.rt, G.dn, G.bd, G.gone, fun u r' c' pc hu h3 => ?_, fun r' c' hs => ?_, fun r' c' hl u hv => ?_, fun r' c' hl => ?_, fun p r' c' hp q pc hqp hq h2 => ?_⟩
  · rcases upd_some hu with ⟨rfl, h'⟩ | ⟨_, h'⟩
    · cases h'
      exact ⟨a1, by omega, a3, a4, a5, a6⟩
    · exact G.at' u _ _ _ h'
  · by_cases e : u = t
    · subst e
      obtain ⟨r1, c1, pc, h1, h2⟩ := G.was u r' c' hv
      rw [h] at h1
      cases h1
      exact ⟨r, c, 1, upd_same _ _ _, h2⟩
    · rw [upd_other e]
      exact G.was u r' c' hv
  · rcases upd_some hu with ⟨rfl, h'⟩ | ⟨_, h'⟩
    · cases h'
      omega
    · exact G.shut3 u _ _ _ h' h3
  · obtain ⟨s, h1, h2, h3⟩ := G.sh1 r' c' hs
    refine ⟨s, h1, h2, ?_⟩
    rcases h3 with h3 | ⟨pc, h3, h4⟩
    · exact .inl h3
    · refine .inr ⟨pc, h3, ?_⟩
      rw [upd_other ?_]
      · exact h4
      · rintro rfl
        rw [h] at h4
        cases h4
        omega
  · by_cases e : r' = r ∧ c' = c
    · obtain ⟨rfl, rfl⟩ := e
      rw [updC_same] at hl
      omega
    · rw [updC_other e] at hl
      have := G.la0 r' c' hl u hv
      rw [upd_other ?_]
      · exact this
      · rintro rfl
        rw [h] at this
        cases this
        exact e ⟨rfl, rfl⟩
  · by_cases e : r' = r ∧ c' = c
    · obtain ⟨rfl, rfl⟩ := e
      rw [updC_same]
      refine ⟨t, rfl, a3, a5, ?_⟩
      rw [upd_same]
      intro h
      cases h
    · rw [updC_other e] at hl ⊢
      obtain ⟨q, h1, h2, h3, h4⟩ := G.la1 r' c' hl
      refine ⟨q, h1, h2, h3, ?_⟩
      by_cases e' : q = t
      · subst e'
        rw [upd_same]
        intro h
        cases h
      · rw [upd_other e']
        exact h4
  · rcases upd_some hp with ⟨_, h'⟩ | ⟨hpt, hp'⟩
    · cases h'
    · rcases upd_some hq with ⟨_, h'⟩ | ⟨hqt, hq'⟩
      · cases h'
        omega
      · obtain ⟨h4, h5⟩ := G.st p r' c' hp' q pc hqp hq' h2
        refine ⟨?_, h5⟩
        by_cases e : r' = r ∧ c' = c
        · obtain ⟨rfl, rfl⟩ := e
          rw [updC_same]
          omega
        · rw [updC_other e]
          exact h4
theorem Grid.ask (G : Grid n vis right down cur La Sh) {t r c : Nat} (h : cur t = some (r, c, 1)) (hs0 : Sh r c = 0) : Grid n vis right down (upd cur t (some (r, c, 2))) La Sh := by
  obtain ⟨a1, a2, a3, a4, a5, a6⟩ := G.at' t r c 1 h
  refine ⟨fun u r' c' pc hu => ?_, fun u r' c' hv => ?_, G.came, G.rt, G.dn, G.bd, G.gone, fun u r' c' pc hu h3 => ?_, fun r' c' hs => ?_, fun r' c' hl u hv => ?_, fun r' c' hl => ?_, fun p r' c' hp q pc hqp hq h2 => ?_⟩
  · rcases upd_some hu with ⟨rfl, h'⟩ | ⟨_, h'⟩
    · cases h'
      exact ⟨a1, by omega, a3, a4, a5, a6⟩
    · exact G.at' u _ _ _ h'
  · by_cases e : u = t
    · subst e
      obtain ⟨r1, c1, pc, h1, h2⟩ := G.was u r' c' hv
      rw [h] at h1
      cases h1
      exact ⟨r, c, 2, upd_same _ _ _, h2⟩
    · rw [upd_other e]
      exact G.was u r' c' hv
  · rcases upd_some hu with ⟨rfl, h'⟩ | ⟨_, h'⟩
    · cases h'
      omega
    · exact G.shut3 u _ _ _ h' h3
  · obtain ⟨s, h1, h2, h3⟩ := G.sh1 r' c' hs
    refine ⟨s, h1, h2, ?_⟩
    rcases h3 with h3 | ⟨pc, h3, h4⟩
    · exact .inl h3
    · refine .inr ⟨pc, h3, ?_⟩
      rw [upd_other ?_]
      · exact h4
      · rintro rfl
        rw [h] at h4
        cases h4
        omega
  · have := G.la0 r' c' hl u hv
    rw [upd_other ?_]
    · exact this
    · rintro rfl
      rw [h] at this
      cases this
  · obtain ⟨q, h1, h2, h3, h4⟩ := G.la1 r' c' hl
    refine ⟨q, h1, h2, h3, ?_⟩
    by_cases e' : q = t
    · subst e'
      rw [upd_same]
      intro h
      cases h
    · rw [upd_other e']
      exact h4
  · rcases upd_some hp with ⟨_, h'⟩ | ⟨hpt, hp'⟩
    · cases h'
    · rcases upd_some hq with ⟨_, h'⟩ | ⟨hqt, hq'⟩
      · cases h'
        exact absurd hs0 (G.shut3 p _ _ _ hp' (by omega))
      · exact G.st p r' c' hp' q pc hqp hq' h2
theorem Grid.shut (G : Grid n vis right down cur La Sh) {t r c : Nat} (h : cur t = some (r, c, 2)) : Grid n vis right down (upd cur t (some (r, c, 3))) La (updC Sh r c 1) := by
  obtain ⟨a1, a2, a3, a4, a5, a6⟩ := G.at' t r c 2 h
  have hmono : ∀ i j, Sh i j ≠ 0 → updC Sh r c 1 i j ≠ 0 := by
    intro i j hs
    by_cases e : i = r ∧ j = c
    · obtain ⟨rfl, rfl⟩ := e
      rw [updC_same]
      decide
    · rw [updC_other e]
      exact hs
  refine ⟨fun u r' c' pc hu => ?_, fun u r' c' hv => ?_, G.came, G.rt, G.dn, G.bd, fun u r' c' h => hmono _ _ (G.gone u r' c' h), fun u r' c' pc hu h3 => ?_, fun r' c' hs => ?_, fun r' c' hl u hv => ?_, fun r' c' hl => ?_, fun p r' c' hp q pc hqp hq h2 => ?_⟩
  · rcases upd_some hu with ⟨rfl, h'⟩ | ⟨_, h'⟩
    · cases h'
      exact ⟨a1, by omega, a3, a4, a5, a6⟩
    · exact G.at' u _ _ _ h'
  · by_cases e : u = t
    · subst e
      obtain ⟨r1, c1, pc, h1, h2⟩ := G.was u r' c' hv
      rw [h] at h1
      cases h1
      exact ⟨r, c, 3, upd_same _ _ _, h2⟩
    · rw [upd_other e]
      exact G.was u r' c' hv
  · rcases upd_some hu with ⟨rfl, h'⟩ | ⟨_, h'⟩
    · cases h'
      rw [updC_same]
      decide
    · exact hmono _ _ (G.shut3 u _ _ _ h' h3)
  · by_cases e : r' = r ∧ c' = c
    · obtain ⟨rfl, rfl⟩ := e
      exact ⟨t, a3, a4, .inr ⟨3, Nat.le_refl _, upd_same _ _ _⟩⟩
    · rw [updC_other e] at hs
      obtain ⟨s, h1, h2, h3⟩ := G.sh1 r' c' hs
      refine ⟨s, h1, h2, ?_⟩
      rcases h3 with h3 | ⟨pc, h3, h4⟩
      · exact .inl h3
      · refine .inr ⟨pc, h3, ?_⟩
        rw [upd_other ?_]
        · exact h4
        · rintro rfl
          rw [h] at h4
          cases h4
          omega
  · have := G.la0 r' c' hl u hv
    rw [upd_other ?_]
    · exact this
    · rintro rfl
      rw [h] at this
      cases this
  · obtain ⟨q, h1, h2, h3, h4⟩ := G.la1 r' c' hl
    refine ⟨q, h1, h2, h3, ?_⟩
    by_cases e' : q = t
    · subst e'
      rw [upd_same]
      intro h
      cases h
    · rw [upd_other e']
      exact h4
  · rcases upd_some hp with ⟨_, h'⟩ | ⟨hpt, hp'⟩
    · cases h'
    · rcases upd_some hq with ⟨rfl, h'⟩ | ⟨hqt, hq'⟩
      · cases h'
        exact ⟨(G.st p r c hp' q 2 hqp h (Nat.le_refl _)).1, by decide⟩
      · exact G.st p r' c' hp' q pc hqp hq' h2
theorem Grid.take (G : Grid n vis right down cur La Sh) {t r c : Nat} (h : cur t = some (r, c, 3)) (hl0 : La r c = t + 1) : Grid n vis right down (upd cur t (some (r, c, 4))) La Sh := by
  obtain ⟨a1, a2, a3, a4, a5, a6⟩ := G.at' t r c 3 h
  refine ⟨fun u r' c' pc hu => ?_, fun u r' c' hv => ?_, G.came, G.rt, G.dn, G.bd, G.gone, fun u r' c' pc hu h3 => ?_, fun r' c' hs => ?_, fun r' c' hl u hv => ?_, fun r' c' hl => ?_, fun p r' c' hp q pc hqp hq h2 => ?_⟩
  · rcases upd_some hu with ⟨rfl, h'⟩ | ⟨_, h'⟩
    · cases h'
      exact ⟨a1, by omega, a3, a4, a5, a6⟩
    · exact G.at' u _ _ _ h'
  · by_cases e : u = t
    · subst e
      obtain ⟨r1, c1, pc, h1, h2⟩ := G.was u r' c' hv
      rw [h] at h1
      cases h1
      exact ⟨r, c, 4, upd_same _ _ _, h2⟩
    · rw [upd_other e]
      exact G.was u r' c' hv
  · rcases upd_some hu with ⟨rfl, h'⟩ | ⟨_, h'⟩
    · cases h'
      exact G.shut3 u r c 3 h (Nat.le_refl _)
    · exact G.shut3 u _ _ _ h' h3
  · obtain ⟨s, h1, h2, h3⟩ := G.sh1 r' c' hs
    refine ⟨s, h1, h2, ?_⟩
    rcases h3 with h3 | ⟨pc, h3, h4⟩
    · exact .inl h3
    · by_cases e : s = t
      · subst e
        rw [h] at h4
        cases h4
        exact .inr ⟨4, by decide, upd_same _ _ _⟩
      · exact .inr ⟨pc, h3, by rw [upd_other e]; exact h4⟩
  · have := G.la0 r' c' hl u hv
    rw [upd_other ?_]
    · exact this
    · rintro rfl
      rw [h] at this
      cases this
  · obtain ⟨q, h1, h2, h3, h4⟩ := G.la1 r' c' hl
    refine ⟨q, h1, h2, h3, ?_⟩
    by_cases e' : q = t
    · subst e'
      rw [upd_same]
      intro h
      cases h
    · rw [upd_other e']
      exact h4
  · rcases upd_some hp with ⟨rfl, h'⟩ | ⟨hpt, hp'⟩
    · cases h'
      rw [upd_other hqp] at hq
      refine ⟨by omega, ?_⟩
      rintro rfl
      exact (G.st q r c hq p 3 (Ne.symm hqp) h (by decide)).1 hl0
    · rcases upd_some hq with ⟨rfl, h'⟩ | ⟨hqt, hq'⟩
      · cases h'
        exact absurd hl0 (G.st p r c hp' q 3 hqp h (by decide)).1
      · exact G.st p r' c' hp' q pc hqp hq' h2
end
end Go.Proofs.YtlfingcmekifkaaGreat
