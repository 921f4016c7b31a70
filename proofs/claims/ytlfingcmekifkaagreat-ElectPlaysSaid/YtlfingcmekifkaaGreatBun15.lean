import Derived.Test.YtlfingcmekifkaaGreatBun12
import Derived.Test.YtlfingcmekifkaaGreatLq1
import Derived.Test.YtlfingcmekifkaaGreatBun4
import Derived.Test.YtlfingcmekifkaaGreatBun9
import Derived.Test.YtlfingcmekifkaaGreatRf1
namespace Go.Proofs.YtlfingcmekifkaaGreat
open Go.RowKit
end Go.Proofs.YtlfingcmekifkaaGreat

namespace Go.Proofs.YtlfingcmekifkaaGreat
open Go.RowKit
structure Ways (n N : Nat) (vis right down : Nat → Nat → Nat → Prop) : Prop where
  lt : ∀ t r c, vis t r c → t < n ∧ r ≤ N ∧ c ≤ N
  came : ∀ t r c, vis t r c → (r = 0 ∧ c = 0) ∨ (0 < c ∧ right t r (c - 1)) ∨ (0 < r ∧ down t (r - 1) c)
  rt : ∀ t r c, right t r c → vis t r c ∧ vis t r (c + 1)
  dn : ∀ t r c, down t r c → vis t r c ∧ vis t (r + 1) c
  last : ∀ t r c, vis t r c → ¬ right t r c → ¬ down t r c → ∀ r' c', vis t r' c' → r' ≤ r ∧ c' ≤ c
  notR : ∀ t r c, vis t r c → ∃ s, vis s r c ∧ ¬ right s r c
  notD : ∀ t r c, vis t r c → ∃ s, vis s r c ∧ ¬ down s r c
end Go.Proofs.YtlfingcmekifkaaGreat

namespace Go.Proofs.YtlfingcmekifkaaGreat
open Go.RowKit
structure Grid (n : Nat) (vis right down : Nat → Nat → Nat → Prop) (cur : Nat → Option (Nat × Nat × Nat)) (La Sh : Nat → Nat → Int) : Prop where
  at' : ∀ t r c pc, cur t = some (r, c, pc) → t < n ∧ pc ≤ 4 ∧ vis t r c ∧ ¬ right t r c ∧ ¬ down t r c ∧ ∀ r' c', vis t r' c' → r' ≤ r ∧ c' ≤ c
  was : ∀ t r c, vis t r c → ∃ r' c' pc, cur t = some (r', c', pc) ∧ ((r = r' ∧ c = c') ∨ right t r c ∨ down t r c)
  came : ∀ t r c, vis t r c → (r = 0 ∧ c = 0) ∨ (0 < c ∧ right t r (c - 1)) ∨ (0 < r ∧ down t (r - 1) c)
  rt : ∀ t r c, right t r c → vis t r c ∧ vis t r (c + 1)
  dn : ∀ t r c, down t r c → vis t r c ∧ vis t (r + 1) c
  bd : ∃ N, ∀ t r c, vis t r c → r ≤ N ∧ c ≤ N
  gone : ∀ t r c, right t r c ∨ down t r c → Sh r c ≠ 0
  shut3 : ∀ t r c pc, cur t = some (r, c, pc) → 3 ≤ pc → Sh r c ≠ 0
  sh1 : ∀ r c, Sh r c ≠ 0 → ∃ s, vis s r c ∧ ¬ right s r c ∧ (down s r c ∨ ∃ pc, 3 ≤ pc ∧ cur s = some (r, c, pc))
  la0 : ∀ r c, La r c = 0 → ∀ t, vis t r c → cur t = some (r, c, 0)
  la1 : ∀ r c, La r c ≠ 0 → ∃ q : Nat, La r c = q + 1 ∧ vis q r c ∧ ¬ down q r c ∧ cur q ≠ some (r, c, 0)
  st : ∀ p r c, cur p = some (r, c, 4) → ∀ q pc, q ≠ p → cur q = some (r, c, pc) → 2 ≤ pc → La r c ≠ q + 1 ∧ pc ≠ 4
theorem Grid.new (n : Nat) : Grid n (fun _ _ _ => False) (fun _ _ _ => False) (fun _ _ _ => False) (fun _ => none) (fun _ _ => 0) (fun _ _ => 0) := by
  refine ⟨fun _ _ _ _ h => ?_, fun _ _ _ h => h.elim, fun _ _ _ h => h.elim, fun _ _ _ h => h.elim, fun _ _ _ h => h.elim, ⟨0, fun _ _ _ h => h.elim⟩, fun _ _ _ h => ?_, fun _ _ _ _ h => ?_, fun _ _ h => absurd rfl h, fun _ _ _ _ h => h.elim, fun _ _ h => absurd rfl h, fun _ _ _ h => ?_⟩
  · cases h
  · rcases h with h | h <;> exact h.elim
  · cases h
  · cases h
section
variable {n : Nat} {vis right down : Nat → Nat → Nat → Prop} {cur : Nat → Option (Nat × Nat × Nat)} {La Sh : Nat → Nat → Int}
theorem upd_some {t u : Nat} {x y : Nat × Nat × Nat} (h : upd cur t (some x) u = some y) : (u = t ∧ x = y) ∨ (u ≠ t ∧ cur u = some y) := by
  by_cases e : u = t
  · subst e
    rw [upd_same] at h
    exact .inl ⟨rfl, Option.some.inj h⟩
  · rw [upd_other e] at h
    exact .inr ⟨e, h⟩
def updC (f : Nat → Nat → Int) (r c : Nat) (x : Int) : Nat → Nat → Int := fun i j => if i = r ∧ j = c then x else f i j
theorem updC_same {f : Nat → Nat → Int} {r c : Nat} {x : Int} : updC f r c x r c = x := if_pos ⟨rfl, rfl⟩
theorem updC_other {f : Nat → Nat → Int} {r c i j : Nat} {x : Int} (h : ¬ (i = r ∧ j = c)) : updC f r c x i j = f i j := if_neg h
theorem Grid.last (G : Grid n vis right down cur La Sh) {t r c : Nat} (h : cur t = some (r, c, 0)) : Grid n vis right down (upd cur t (some (r, c, 1))) (updC La r c (t + 1)) Sh := by
  obtain ⟨a1, a2, a3, a4, a5, a6⟩ := G.at' t r c 0 h
  refine ⟨fun u r' c' pc hu => ?_, fun u r' c' hv => ?_, G.came, G.rt, G.dn, G.bd, G.gone, fun u r' c' pc hu h3 => ?_, fun r' c' hs => ?_, fun r' c' hl u hv => ?_, fun r' c' hl => ?_, fun p r' c' hp q pc hqp hq h2 => ?_⟩
  · rcases upd_some hu with ⟨rfl, h'⟩ | ⟨_, h'⟩
    · cases h'
      exact ⟨a1, by omega, a3, a4, a5, a6⟩
    · exact G.at' u _ _ _ h'
  · by_cases e : u = t
    · subst e
      obtain ⟨r1, c1, pc, h1, h2⟩ := G.was u r' c' hv
      rw [h] at h1
      cases h1
      exact ⟨r, c, 1, upd_same _ _ _, h2⟩
    · rw [upd_other e]
      exact G.was u r' c' hv
  · rcases upd_some hu with ⟨rfl, h'⟩ | ⟨_, h'⟩
    · cases h'
      omega
    · exact G.shut3 u _ _ _ h' h3
  · obtain ⟨s, h1, h2, h3⟩ := G.sh1 r' c' hs
    refine ⟨s, h1, h2, ?_⟩
    rcases h3 with h3 | ⟨pc, h3, h4⟩
    · exact .inl h3
    · refine .inr ⟨pc, h3, ?_⟩
      rw [upd_other ?_]
      · exact h4
      · rintro rfl
        rw [h] at h4
        cases h4
        omega
  · by_cases e : r' = r ∧ c' = c
    · obtain ⟨rfl, rfl⟩ := e
      rw [updC_same] at hl
      omega
    · rw [updC_other e] at hl
      have := G.la0 r' c' hl u hv
      rw [upd_other ?_]
      · exact this
      · rintro rfl
        rw [h] at this
        cases this
        exact e ⟨rfl, rfl⟩
  · by_cases e : r' = r ∧ c' = c
    · obtain ⟨rfl, rfl⟩ := e
      rw [updC_same]
      refine ⟨t, rfl, a3, a5, ?_⟩
      rw [upd_same]
      intro h
      cases h
    · rw [updC_other e] at hl ⊢
      obtain ⟨q, h1, h2, h3, h4⟩ := G.la1 r' c' hl
      refine ⟨q, h1, h2, h3, ?_⟩
      by_cases e' : q = t
      · subst e'
        rw [upd_same]
        intro h
        cases h
      · rw [upd_other e']
        exact h4
  · rcases upd_some hp with ⟨_, h'⟩ | ⟨hpt, hp'⟩
    · cases h'
    · rcases upd_some hq with ⟨_, h'⟩ | ⟨hqt, hq'⟩
      · cases h'
        omega
      · obtain ⟨h4, h5⟩ := G.st p r' c' hp' q pc hqp hq' h2
        refine ⟨?_, h5⟩
        by_cases e : r' = r ∧ c' = c
        · obtain ⟨rfl, rfl⟩ := e
          rw [updC_same]
          omega
        · rw [updC_other e]
          exact h4
theorem Grid.shut (G : Grid n vis right down cur La Sh) {t r c : Nat} (h : cur t = some (r, c, 2)) : Grid n vis right down (upd cur t (some (r, c, 3))) La (updC Sh r c 1) := by
  obtain ⟨a1, a2, a3, a4, a5, a6⟩ := G.at' t r c 2 h
  have hmono : ∀ i j, Sh i j ≠ 0 → updC Sh r c 1 i j ≠ 0 := by
    intro i j hs
    by_cases e : i = r ∧ j = c
    · obtain ⟨rfl, rfl⟩ := e
      rw [updC_same]
      decide
    · rw [updC_other e]
      exact hs
  refine ⟨fun u r' c' pc hu => ?_, fun u r' c' hv => ?_, G.came, G.rt, G.dn, G.bd, fun u r' c' h => hmono _ _ (G.gone u r' c' h), fun u r' c' pc hu h3 => ?_, fun r' c' hs => ?_, fun r' c' hl u hv => ?_, fun r' c' hl => ?_, fun p r' c' hp q pc hqp hq h2 => ?_⟩
  · rcases upd_some hu with ⟨rfl, h'⟩ | ⟨_, h'⟩
    · cases h'
      exact ⟨a1, by omega, a3, a4, a5, a6⟩
    · exact G.at' u _ _ _ h'
  · by_cases e : u = t
    · subst e
      obtain ⟨r1, c1, pc, h1, h2⟩ := G.was u r' c' hv
      rw [h] at h1
      cases h1
      exact ⟨r, c, 3, upd_same _ _ _, h2⟩
    · rw [upd_other e]
      exact G.was u r' c' hv
  · rcases upd_some hu with ⟨rfl, h'⟩ | ⟨_, h'⟩
    · cases h'
      rw [updC_same]
      decide
    · exact hmono _ _ (G.shut3 u _ _ _ h' h3)
  · by_cases e : r' = r ∧ c' = c
    · obtain ⟨rfl, rfl⟩ := e
      exact ⟨t, a3, a4, .inr ⟨3, Nat.le_refl _, upd_same _ _ _⟩⟩
    · rw [updC_other e] at hs
      obtain ⟨s, h1, h2, h3⟩ := G.sh1 r' c' hs
      refine ⟨s, h1, h2, ?_⟩
      rcases h3 with h3 | ⟨pc, h3, h4⟩
      · exact .inl h3
      · refine .inr ⟨pc, h3, ?_⟩
        rw [upd_other ?_]
        · exact h4
        · rintro rfl
          rw [h] at h4
          cases h4
          omega
  · have := G.la0 r' c' hl u hv
    rw [upd_other ?_]
    · exact this
    · rintro rfl
      rw [h] at this
      cases this
  · obtain ⟨q, h1, h2, h3, h4⟩ := G.la1 r' c' hl
    refine ⟨q, h1, h2, h3, ?_⟩
    by_cases e' : q = t
    · subst e'
      rw [upd_same]
      intro h
      cases h
    · rw [upd_other e']
      exact h4
  · rcases upd_some hp with ⟨_, h'⟩ | ⟨hpt, hp'⟩
    · cases h'
    · rcases upd_some hq with ⟨rfl, h'⟩ | ⟨hqt, hq'⟩
      · cases h'
        exact ⟨(G.st p r c hp' q 2 hqp h (Nat.le_refl _)).1, by decide⟩
      · exact G.st p r' c' hp' q pc hqp hq' h2
theorem Grid.take (G : Grid n vis right down cur La Sh) {t r c : Nat} (h : cur t = some (r, c, 3)) (hl0 : La r c = t + 1) : Grid n vis right down (upd cur t (some (r, c, 4))) La Sh := by
  obtain ⟨a1, a2, a3, a4, a5, a6⟩ := G.at' t r c 3 h
  refine ⟨fun u r' c' pc hu => ?_, fun u r' c' hv => ?_, G.came, G.rt, G.dn, G.bd, G.gone, fun u r' c' pc hu h3 => ?_, fun r' c' hs => ?_, fun r' c' hl u hv => ?_, fun r' c' hl => ?_, fun p r' c' hp q pc hqp hq h2 => ?_⟩
  · rcases upd_some hu with ⟨rfl, h'⟩ | ⟨_, h'⟩
    · cases h'
      exact ⟨a1, by omega, a3, a4, a5, a6⟩
    · exact G.at' u _ _ _ h'
  · by_cases e : u = t
    · subst e
      obtain ⟨r1, c1, pc, h1, h2⟩ := G.was u r' c' hv
      rw [h] at h1
      cases h1
      exact ⟨r, c, 4, upd_same _ _ _, h2⟩
    · rw [upd_other e]
      exact G.was u r' c' hv
  · rcases upd_some hu with ⟨rfl, h'⟩ | ⟨_, h'⟩
    · cases h'
      exact G.shut3 u r c 3 h (Nat.le_refl _)
    · exact G.shut3 u _ _ _ h' h3
  · obtain ⟨s, h1, h2, h3⟩ := G.sh1 r' c' hs
    refine ⟨s, h1, h2, ?_⟩
    rcases h3 with h3 | ⟨pc, h3, h4⟩
    · exact .inl h3
    · by_cases e : s = t
      · subst e
        rw [h] at h4
        cases h4
        exact .inr ⟨4, by decide, upd_same _ _ _⟩
      · exact .inr ⟨pc, h3, by rw [upd_other e]; exact h4⟩
  · have := G.la0 r' c' hl u hv
    rw [upd_other ?_]
    · exact this
    · rintro rfl
      rw [h] at this
      cases this
  · obtain ⟨q, h1, h2, h3, h4⟩ := G.la1 r' c' hl
    refine ⟨q, h1, h2, h3, ?_⟩
    by_cases e' : q = t
    · subst e'
      rw [upd_same]
      intro h
      cases h
    · rw [upd_other e']
      exact h4
  · rcases upd_some hp with ⟨rfl, h'⟩ | ⟨hpt, hp'⟩
    · cases h'
      rw [upd_other hqp] at hq
      refine ⟨by omega, ?_⟩
      rintro rfl
      exact (G.st q r c hq p 3 (Ne.symm hqp) h (by decide)).1 hl0
    · rcases upd_some hq with ⟨rfl, h'⟩ | ⟨hqt, hq'⟩
      · cases h'
        exact absurd hl0 (G.st p r c hp' q 3 hqp h (by decide)).1
      · exact G.st p r' c' hp' q pc hqp hq' h2
end
end Go.Proofs.YtlfingcmekifkaaGreat

namespace Go.Proofs.YtlfingcmekifkaaGreat
open Go.RowKit
section
variable {n : Nat} {vis right down : Nat → Nat → Nat → Prop} {cur : Nat → Option (Nat × Nat × Nat)} {La Sh : Nat → Nat → Int}
end
end Go.Proofs.YtlfingcmekifkaaGreat

namespace Go.Proofs.YtlfingcmekifkaaGreat
open Go.RowKit
def tri : Nat → Nat
  | 0 => 0
  | d + 1 => tri d + (d + 1)
def nameN (r c : Nat) : Nat := tri (r + c) + r
structure Spl where
  has : Nat → Bool
inductive SM where
  | no (e : Int)
  | take (t pc r c : Nat)
def isTk (cs : List Cl) (e : Ep) : Prop := (callOf cs e.call).obj = 0 ∧ (callOf cs e.call).kind = 0 ∧ e.ans.err = 0
def tkT (cs : List Cl) (e : Ep) : Nat := (callOf cs e.call).thread.toNat
structure SInv (n : Nat) (cs : List Cl) (P : Ps SM Spl) (vis right down : Nat → Nat → Nat → Prop) (cur : Nat → Option (Nat × Nat × Nat)) (La Sh : Nat → Nat → Int) : Prop where
  wf : PWf cs P
  grid : Grid n vis right down cur La Sh
  len : P.lw.mem.words.length = 2 * tri n
  flt : P.lw.mem.ft = 0
  memL : ∀ r c, r + c < n → P.lw.mem.at (2 * nameN r c : Nat) = La r c
  memS : ∀ r c, r + c < n → P.lw.mem.at ((2 * nameN r c : Nat) + 1) = Sh r c
  mach : ∀ t m h, P.hands t = some (m, h) → ∃ (pc r c : Nat) (e : Ep), m = .take t pc r c ∧ pc ≤ 3 ∧ cur t = some (r, c, pc) ∧ P.evs[h]? = some e ∧ isTk cs e ∧ e.steps ≤ 4 * ((r + c : Nat) : Int) + pc
  held : ∀ t r c pc, cur t = some (r, c, pc) → (pc < 4 → ∃ m h, P.hands t = some (m, h)) ∧ (pc = 4 → P.obj.has t = true)
  has : ∀ t, P.obj.has t = true → ∃ r c, cur t = some (r, c, 4)
  done : ∀ (h : Nat) (e : Ep), P.evs[h]? = some e → e.resp ≠ 0 → isTk cs e → ∃ r c : Nat, cur (tkT cs e) = some (r, c, 4) ∧ e.ans.val = (nameN r c : Nat) ∧ e.steps ≤ 4 * ((r + c : Nat) : Int) + 4
  ref : ∀ (h : Nat) (e : Ep), P.evs[h]? = some e → ¬ isTk cs e → e.steps ≤ 1
  came : ∀ (h : Nat) (e : Ep), P.evs[h]? = some e → (callOf cs e.call).obj = 0 → (callOf cs e.call).kind = 0 → cur (tkT cs e) ≠ none
  uniq : ∀ (h k : Nat) (e e' : Ep), P.evs[h]? = some e → P.evs[k]? = some e' → isTk cs e → isTk cs e' → tkT cs e = tkT cs e' → h = k
  begun : ∀ t, cur t ≠ none → ∃ (h : Nat) (e : Ep), P.evs[h]? = some e ∧ isTk cs e ∧ tkT cs e = t
end Go.Proofs.YtlfingcmekifkaaGreat

namespace Go.Proofs.YtlfingcmekifkaaGreat
open Go.RowKit
inductive SpGot (t : Nat) : Nat → Nat → List Int → Prop
  | nil : SpGot t 0 0 []
  | right {r c : Nat} {g : List Int} {x : Int} : SpGot t r c g → x ≠ 0 → SpGot t r (c + 1) (g ++ [0, x])
  | down {r c : Nat} {g : List Int} {y : Int} : SpGot t r c g → y ≠ t + 1 → SpGot t (r + 1) c (g ++ [0, 0, 0, y])
end Go.Proofs.YtlfingcmekifkaaGreat

namespace Go.Proofs.YtlfingcmekifkaaGreat
open Go.RowKit
structure Col (n : Nat) (A : Nat → Int) (S : Nat → List Int) : Prop where
  w : ∀ t, t < n → A t = 0 → S t = []
  v : ∀ t s a, t < n → (S t)[s]? = some a → s < n ∧ (a = 0 ∨ a = A s)
  s : ∀ t s a b, t < n → s < n → (S t)[s]? = some a → (S s)[t]? = some b → a ≠ 0 ∨ b ≠ 0
theorem Col.new (n : Nat) : Col n (fun _ => 0) (fun _ => []) := ⟨fun _ _ _ => rfl, (fun _ _ _ _ h => by cases h), (fun _ _ _ _ _ _ h _ => by cases h)⟩
theorem Col.own {n : Nat} {A : Nat → Int} {S : Nat → List Int} (C : Col n A S) {t : Nat} (ht : t < n) (hl : (S t).length = n) : (S t)[t]? = some (A t) ∧ A t ≠ 0 := by
  have h : (S t)[t]? = some ((S t)[t]'(by omega)) := List.getElem?_eq_getElem _
  have h1 := C.s t t _ _ ht ht h h
  have h2 := (C.v t t _ ht h).2
  rcases h2 with h2 | h2
  · rcases h1 with h1 | h1 <;> exact absurd h2 h1
  · rw [h2] at h h1
    exact ⟨h, by rcases h1 with h1 | h1 <;> exact h1⟩
structure Ad where
  n : Nat
  has : Nat → Bool
inductive AM where
  | no (e : Int)
  | prop (t pc : Nat) (v : Int) (seen : List Int) (val : Int)
end Go.Proofs.YtlfingcmekifkaaGreat

namespace Go.Proofs.YtlfingcmekifkaaGreat
open Go.RowKit
end Go.Proofs.YtlfingcmekifkaaGreat

namespace Go.Proofs.YtlfingcmekifkaaGreat
open Go.RowKit
section
variable {M O : Type} {G : Gm M O} {D : Dof} {no : Nat}
theorem foldl_same {α β : Type} {f g : α → β → α} : ∀ {l : List β} {a : α}, (∀ b ∈ l, ∀ a, f a b = g a b) → l.foldl f a = l.foldl g a
  | [], _, _ => rfl
  | b :: l, a, h => by
    rw [List.foldl_cons, List.foldl_cons, h b (by simp)]
    exact foldl_same fun b' hb' => h b' (by simp [hb'])
theorem foldl_noop {α β : Type} {f : α → β → α} : ∀ {l : List β} {a : α}, (∀ b ∈ l, ∀ a, f a b = a) → l.foldl f a = a
  | [], _, _ => rfl
  | b :: l, a, h => by
    rw [List.foldl_cons, h b (by simp)]
    exact foldl_noop fun b' hb' => h b' (by simp [hb'])
theorem Sim.ends {A : Alike G D no} {cs : List Cl} {P : Ps M O} {R : Rs} (S : Sim A cs P R) (hl : ∀ o lw m, G.late o lw m = none) {n : Nat} (h16 : n ≤ 16) (hn : ∀ t, n ≤ t → P.hands t = none) : P.ends G = R.endsK (fun _ t => R.w.marks t) n := by
  unfold Ps.ends Rs.endsK
  obtain ⟨k, hk⟩ : ∃ k, 16 = n + k := ⟨16 - n, by omega⟩
  rw [hk, List.range_add, List.foldl_append, S.evs]
  rw [foldl_noop (fun t ht a => by
    obtain ⟨j, _, rfl⟩ := List.mem_map.1 ht
    rw [hn (n + j) (by omega)])]
  refine foldl_same fun t ht a => ?_
  rcases hh : P.hands t with _ | ⟨m, h⟩
  · rw [(S.hno t hh).1]
    rfl
  · obtain ⟨q1, q2, _⟩ := S.hso t m h hh
    rw [q1, q2]
    simp only [hl, if_true, S.rel.2.2.1]
end
end Go.Proofs.YtlfingcmekifkaaGreat

namespace Go.Proofs.YtlfingcmekifkaaGreat
open Go.RowKit
def b1 (b : Bool) : Nat := if b then 1 else 0
structure Few (T : Tp) (W : Rw) (T' : Tp) (W' : Rw) : Prop where
  got : T'.got.length + b1 T'.fresh ≤ T.got.length + b1 T.fresh
  tks : T'.tks.length + b1 T'.fresh ≤ T.tks.length + b1 T.fresh
  log : W'.log.length + b1 T'.fresh ≤ W.log.length + b1 T.fresh
theorem Few.refl (T : Tp) (W : Rw) : Few T W T W := ⟨Nat.le_refl _, Nat.le_refl _, Nat.le_refl _⟩
theorem Few.trans {T T1 T2 : Tp} {W W1 W2 : Rw} (h : Few T W T1 W1) (h' : Few T1 W1 T2 W2) : Few T W T2 W2 := ⟨Nat.le_trans h'.got h.got, Nat.le_trans h'.tks h.tks, Nat.le_trans h'.log h.log⟩
theorem acc_few (t : Nat) (k a x y : Int) (T : Tp) (W : Rw) : Few T W (T.acc t k a x y W).2.1 (T.acc t k a x y W).2.2 := by
  unfold Tp.acc
  split
  · exact Few.refl T W
  · split
    · exact ⟨Nat.le_refl _, Nat.le_refl _, Nat.le_refl _⟩
    · split
      · rename_i h
        refine ⟨?_, ?_, ?_⟩
        · show (T.got ++ [_]).length + b1 false ≤ _
          rw [h]; simp [b1]
        · show (T.tks ++ [_]).length + b1 false ≤ _
          rw [h]; simp [b1]
        · show (W.log1 t k a x y).length + b1 false ≤ _
          rw [h]
          unfold Rw.log1
          split <;> simp [b1]
      · exact ⟨Nat.le_refl _, Nat.le_refl _, Nat.le_refl _⟩
theorem acc_priv (t : Nat) (k a x y : Int) (T : Tp) (W : Rw) : (T.acc t k a x y W).2.1.priv = T.priv := by
  unfold Tp.acc
  repeat' split
  all_goals rfl
structure DSm (D : Dof) : Prop where
  few : ∀ t c T W, Few T W (D t c T W).1 (D t c T W).2
  priv : ∀ t c T W, T.priv.length ≤ 1000 → (D t c T W).1.priv.length ≤ 1000
theorem elLoop_few (t : Nat) : ∀ f v T W, Few T W (elLoop t f v T W).1 (elLoop t f v T W).2 ∧ (elLoop t f v T W).1.priv = T.priv
  | 0, _, T, W => ⟨⟨Nat.le_refl _, Nat.le_refl _, Nat.le_refl _⟩, rfl⟩
  | f + 1, v, T, W => by
    rw [elLoop_succ]
    split
    · exact ⟨⟨Nat.le_refl _, Nat.le_refl _, Nat.le_refl _⟩, rfl⟩
    · split
      · obtain ⟨h1, h2⟩ := elLoop_few t f (v / 2) (T.acc t 2 (v - 1) 0 (t + 1) W).2.1 (T.acc t 2 (v - 1) 0 (t + 1) W).2.2
        exact ⟨(acc_few t 2 (v - 1) 0 (t + 1) T W).trans h1, h2.trans (acc_priv _ _ _ _ _ _ _)⟩
      · exact ⟨acc_few t 2 (v - 1) 0 (t + 1) T W, acc_priv _ _ _ _ _ _ _⟩
theorem el_small (L : Int) : DSm (elDo L) := by
  refine ⟨fun t c T W => ?_, fun t c T W h => ?_⟩
  · unfold elDo
    split
    · exact ⟨Nat.le_refl _, Nat.le_refl _, Nat.le_refl _⟩
    · split
      · exact ⟨Nat.le_refl _, Nat.le_refl _, Nat.le_refl _⟩
      · exact (show Few T W { T with priv := [1] } W from ⟨Nat.le_refl _, Nat.le_refl _, Nat.le_refl _⟩).trans (elLoop_few _ _ _ _ _).1
  · unfold elDo
    split
    · exact h
    · split
      · exact h
      · rw [(elLoop_few _ _ _ _ _).2]
        show ([1] : List Int).length ≤ 1000
        decide
end Go.Proofs.YtlfingcmekifkaaGreat
