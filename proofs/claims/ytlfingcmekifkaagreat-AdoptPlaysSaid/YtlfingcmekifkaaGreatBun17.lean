import Derived.Test.YtlfingcmekifkaaGreatBun16
import Derived.Test.YtlfingcmekifkaaGreatBun9
import Derived.Test.YtlfingcmekifkaaGreatBun4
namespace Go.Proofs.YtlfingcmekifkaaGreat
open Go.RowKit
structure Grid (n : Nat) (vis right down : Nat → Nat → Nat → Prop) (cur : Nat → Option (Nat × Nat × Nat)) (La Sh : Nat → Nat → Int) : Prop where
  at' : ∀ t r c pc, cur t = some (r, c, pc) → t < n ∧ pc ≤ 4 ∧ vis t r c ∧ ¬ right t r c ∧ ¬ down t r c ∧ ∀ r' c', vis t r' c' → r' ≤ r ∧ c' ≤ c
  was : ∀ t r c, vis t r c → ∃ r' c' pc, cur t = some (r', c', pc) ∧ ((r = r' ∧ c = c') ∨ right t r c ∨ down t r c)
  came : ∀ t r c, vis t r c → (r = 0 ∧ c = 0) ∨ (0 < c ∧ right t r (c - 1)) ∨ (0 < r ∧ down t (r - 1) c)
  rt : ∀ t r c, right t r c → vis t r c ∧ vis t r (c + 1)
  dn : ∀ t r c, down t r c → vis t r c ∧ vis t (r + 1) c
  bd : ∃ N, ∀ t r c, vis t r c → r ≤ N ∧ c ≤ N
  gone : ∀ t r c, right t r c ∨ down t r c → Sh r c ≠ 0
  shut3 : ∀ t r c pc, cur t = some (r, c, pc) → 3 ≤ pc → Sh r c ≠ 0
  sh1 : ∀ r c, Sh r c ≠ 0 → ∃ s, vis s r c ∧ ¬ right s r c ∧ (down s r c ∨ ∃ pc, 3 ≤ pc ∧ cur s = some (r, c, pc))
  la0 : ∀ r c, La r c = 0 → ∀ t, vis t r c → cur t = some (r, c, 0)
  la1 : ∀ r c, La r c ≠ 0 → ∃ q : Nat, La r c = q + 1 ∧ vis q r c ∧ ¬ down q r c ∧ cur q ≠ some (r, c, 0)
  st : ∀ p r c, cur p = some (r, c, 4) → ∀ q pc, q ≠ p → cur q = some (r, c, pc) → 2 ≤ pc → La r c ≠ q + 1 ∧ pc ≠ 4
theorem Grid.new (n : Nat) : Grid n (fun _ _ _ => False) (fun _ _ _ => False) (fun _ _ _ => False) (fun _ => none) (fun _ _ => 0) (fun _ _ => 0) := by
  refine ⟨fun _ _ _ _ h => ?_, fun _ _ _ h => h.elim, fun _ _ _ h => h.elim, fun _ _ _ h => h.elim, fun _ _ _ h => h.elim, ⟨0, fun _ _ _ h => h.elim⟩, fun _ _ _ h => ?_, fun _ _ _ _ h => ?_, fun _ _ h => absurd rfl h, fun _ _ _ _ h => h.elim, fun _ _ h => absurd rfl h, fun _ _ _ h => ?_⟩
  · cases h
  · rcases h with h | h <;> exact h.elim
  · cases h
  · cases h
section
variable {n : Nat} {vis right down : Nat → Nat → Nat → Prop} {cur : Nat → Option (Nat × Nat × Nat)} {La Sh : Nat → Nat → Int}
theorem upd_some {t u : Nat} {x y : Nat × Nat × Nat} (h : upd cur t (some x) u = some y) : (u = t ∧ x = y) ∨ (u ≠ t ∧ cur u = some y) := by
  by_cases e : u = t
  · subst e
    rw [upd_same] at h
    exact .inl ⟨rfl, Option.some.inj h⟩
  · rw [upd_other e] at h
    exact .inr ⟨e, h⟩
def updC (f : Nat → Nat → Int) (r c : Nat) (x : Int) : Nat → Nat → Int := fun i j => if i = r ∧ j = c then x else f i j
theorem updC_same {f : Nat → Nat → Int} {r c : Nat} {x : Int} : updC f r c x r c = x := if_pos ⟨rfl, rfl⟩
theorem updC_other {f : Nat → Nat → Int} {r c i j : Nat} {x : Int} (h : ¬ (i = r ∧ j = c)) : updC f r c x i j = f i j := if_neg h
theorem Grid.last (G : Grid n vis right down cur La Sh) {t r c : Nat} (h : cur t = some (r, c, 0)) : Grid n vis right down (upd cur t (some (r, c, 1))) (updC La r c (t + 1)) Sh := by
  obtain ⟨a1, a2, a3, a4, a5, a6⟩ := G.at' t r c 0 h
  refine ⟨fun u r' c' pc hu => ?_, fun u r' c' hv => ?_, G.came, G.rt, G.dn, G.bd, G.gone, fun u r' c' pc hu h3 => ?_, fun r' c' hs => ?_, fun r' c' hl u hv => ?_, fun r' c' hl => ?_, fun p r' c' hp q pc hqp hq h2 => ?_⟩
  · rcases upd_some hu with ⟨rfl, h'⟩ | ⟨_, h'⟩
    · cases h'
      exact ⟨a1, by omega, a3, a4, a5, a6⟩
    · exact G.at' u _ _ _ h'
  · by_cases e : u = t
    · subst e
      obtain ⟨r1, c1, pc, h1, h2⟩ := G.was u r' c' hv
      rw [h] at h1
      cases h1
      exact ⟨r, c, 1, upd_same _ _ _, h2⟩
    · rw [upd_other e]
      exact G.was u r' c' hv
  · rcases upd_some hu with ⟨rfl, h'⟩ | ⟨_, h'⟩
    · cases h'
      omega
    · exact G.shut3 u _ _ _ h' h3
  · obtain ⟨s, h1, h2, h3⟩ := G.sh1 r' c' hs
    refine ⟨s, h1, h2, ?_⟩
    rcases h3 with h3 | ⟨pc, h3, h4⟩
    · exact .inl h3
    · refine .inr ⟨pc, h3, ?_⟩
      rw [upd_other ?_]
      · exact h4
      · rintro rfl
        rw [h] at h4
        cases h4
        omega
  · by_cases e : r' = r ∧ c' = c
    · obtain ⟨rfl, rfl⟩ := e
      rw [updC_same] at hl
      omega
    · rw [updC_other e] at hl
      have := G.la0 r' c' hl u hv
      rw [upd_other ?_]
      · exact this
      · rintro rfl
        rw [h] at this
        cases this
        exact e ⟨rfl, rfl⟩
  · by_cases e : r' = r ∧ c' = c
    · obtain ⟨rfl, rfl⟩ := e
      rw [updC_same]
      refine ⟨t, rfl, a3, a5, ?_⟩
      rw [upd_same]
      intro h
      cases h
    · rw [updC_other e] at hl ⊢
      obtain ⟨q, h1, h2, h3, h4⟩ := G.la1 r' c' hl
      refine ⟨q, h1, h2, h3, ?_⟩
      by_cases e' : q = t
      · subst e'
        rw [upd_same]
        intro h
        cases h
      · rw [upd_other e']
        exact h4
  · rcases upd_some hp with ⟨_, h'⟩ | ⟨hpt, hp'⟩
    · cases h'
    · rcases upd_some hq with ⟨_, h'⟩ | ⟨hqt, hq'⟩
      · cases h'
        omega
      · obtain ⟨h4, h5⟩ := G.st p r' c' hp' q pc hqp hq' h2
        refine ⟨?_, h5⟩
        by_cases e : r' = r ∧ c' = c
        · obtain ⟨rfl, rfl⟩ := e
          rw [updC_same]
          omega
        · rw [updC_other e]
          exact h4
theorem Grid.shut (G : Grid n vis right down cur La Sh) {t r c : Nat} (h : cur t = some (r, c, 2)) : Grid n vis right down (upd cur t (some (r, c, 3))) La (updC Sh r c 1) := by
  obtain ⟨a1, a2, a3, a4, a5, a6⟩ := G.at' t r c 2 h
  have hmono : ∀ i j, Sh i j ≠ 0 → updC Sh r c 1 i j ≠ 0 := by
    intro i j hs
    by_cases e : i = r ∧ j = c
    · obtain ⟨rfl, rfl⟩ := e
      rw [updC_same]
      decide
    · rw [updC_other e]
      exact hs
  refine ⟨fun u r' c' pc hu => ?_, fun u r' c' hv => ?_, G.came, G.rt, G.dn, G.bd, fun u r' c' h => hmono _ _ (G.gone u r' c' h), fun u r' c' pc hu h3 => ?_, fun r' c' hs => ?_, fun r' c' hl u hv => ?_, fun r' c' hl => ?_, fun p r' c' hp q pc hqp hq h2 => ?_⟩
  · rcases upd_some hu with ⟨rfl, h'⟩ | ⟨_, h'⟩
    · cases h'
      exact ⟨a1, by omega, a3, a4, a5, a6⟩
    · exact G.at' u _ _ _ h'
  · by_cases e : u = t
    · subst e
      obtain ⟨r1, c1, pc, h1, h2⟩ := G.was u r' c' hv
      rw [h] at h1
      cases h1
      exact ⟨r, c, 3, upd_same _ _ _, h2⟩
    · rw [upd_other e]
      exact G.was u r' c' hv
  · rcases upd_some hu with ⟨rfl, h'⟩ | ⟨_, h'⟩
    · cases h'
      rw [updC_same]
      decide
    · exact hmono _ _ (G.shut3 u _ _ _ h' h3)
  · by_cases e : r' = r ∧ c' = c
    · obtain ⟨rfl, rfl⟩ := e
      exact ⟨t, a3, a4, .inr ⟨3, Nat.le_refl _, upd_same _ _ _⟩⟩
    · rw [updC_other e] at hs
      obtain ⟨s, h1, h2, h3⟩ := G.sh1 r' c' hs
      refine ⟨s, h1, h2, ?_⟩
      rcases h3 with h3 | ⟨pc, h3, h4⟩
      · exact .inl h3
      · refine .inr ⟨pc, h3, ?_⟩
        rw [upd_other ?_]
        · exact h4
        · rintro rfl
          rw [h] at h4
          cases h4
          omega
  · have := G.la0 r' c' hl u hv
    rw [upd_other ?_]
    · exact this
    · rintro rfl
      rw [h] at this
      cases this
  · obtain ⟨q, h1, h2, h3, h4⟩ := G.la1 r' c' hl
    refine ⟨q, h1, h2, h3, ?_⟩
    by_cases e' : q = t
    · subst e'
      rw [upd_same]
      intro h
      cases h
    · rw [upd_other e']
      exact h4
  · rcases upd_some hp with ⟨_, h'⟩ | ⟨hpt, hp'⟩
    · cases h'
    · rcases upd_some hq with ⟨rfl, h'⟩ | ⟨hqt, hq'⟩
      · cases h'
        exact ⟨(G.st p r c hp' q 2 hqp h (Nat.le_refl _)).1, by decide⟩
      · exact G.st p r' c' hp' q pc hqp hq' h2
theorem Grid.take (G : Grid n vis right down cur La Sh) {t r c : Nat} (h : cur t = some (r, c, 3)) (hl0 : La r c = t + 1) : Grid n vis right down (upd cur t (some (r, c, 4))) La Sh := by
  obtain ⟨a1, a2, a3, a4, a5, a6⟩ := G.at' t r c 3 h
  refine ⟨fun u r' c' pc hu => ?_, fun u r' c' hv => ?_, G.came, G.rt, G.dn, G.bd, G.gone, fun u r' c' pc hu h3 => ?_, fun r' c' hs => ?_, fun r' c' hl u hv => ?_, fun r' c' hl => ?_, fun p r' c' hp q pc hqp hq h2 => ?_⟩
  · rcases upd_some hu with ⟨rfl, h'⟩ | ⟨_, h'⟩
    · cases h'
      exact ⟨a1, by omega, a3, a4, a5, a6⟩
    · exact G.at' u _ _ _ h'
  · by_cases e : u = t
    · subst e
      obtain ⟨r1, c1, pc, h1, h2⟩ := G.was u r' c' hv
      rw [h] at h1
      cases h1
      exact ⟨r, c, 4, upd_same _ _ _, h2⟩
    · rw [upd_other e]
      exact G.was u r' c' hv
  · rcases upd_some hu with ⟨rfl, h'⟩ | ⟨_, h'⟩
    · cases h'
      exact G.shut3 u r c 3 h (Nat.le_refl _)
    · exact G.shut3 u _ _ _ h' h3
  · obtain ⟨s, h1, h2, h3⟩ := G.sh1 r' c' hs
    refine ⟨s, h1, h2, ?_⟩
    rcases h3 with h3 | ⟨pc, h3, h4⟩
    · exact .inl h3
    · by_cases e : s = t
      · subst e
        rw [h] at h4
        cases h4
        exact .inr ⟨4, by decide, upd_same _ _ _⟩
      · exact .inr ⟨pc, h3, by rw [upd_other e]; exact h4⟩
  · have := G.la0 r' c' hl u hv
    rw [upd_other ?_]
    · exact this
    · rintro rfl
      rw [h] at this
      cases this
  · obtain ⟨q, h1, h2, h3, h4⟩ := G.la1 r' c' hl
    refine ⟨q, h1, h2, h3, ?_⟩
    by_cases e' : q = t
    · subst e'
      rw [upd_same]
      intro h
      cases h
    · rw [upd_other e']
      exact h4
  · rcases upd_some hp with ⟨rfl, h'⟩ | ⟨hpt, hp'⟩
    · cases h'
      rw [upd_other hqp] at hq
      refine ⟨by omega, ?_⟩
      rintro rfl
      exact (G.st q r c hq p 3 (Ne.symm hqp) h (by decide)).1 hl0
    · rcases upd_some hq with ⟨rfl, h'⟩ | ⟨hqt, hq'⟩
      · cases h'
        exact absurd hl0 (G.st p r c hp' q 3 hqp h (by decide)).1
      · exact G.st p r' c' hp' q pc hqp hq' h2
end
end Go.Proofs.YtlfingcmekifkaaGreat

namespace Go.Proofs.YtlfingcmekifkaaGreat
open Go.RowKit
section
variable {n : Nat} {vis right down : Nat → Nat → Nat → Prop} {cur : Nat → Option (Nat × Nat × Nat)} {La Sh : Nat → Nat → Int}
end
end Go.Proofs.YtlfingcmekifkaaGreat

namespace Go.Proofs.YtlfingcmekifkaaGreat
open Go.RowKit
def tri : Nat → Nat
  | 0 => 0
  | d + 1 => tri d + (d + 1)
def nameN (r c : Nat) : Nat := tri (r + c) + r
structure Spl where
  has : Nat → Bool
inductive SM where
  | no (e : Int)
  | take (t pc r c : Nat)
def isTk (cs : List Cl) (e : Ep) : Prop := (callOf cs e.call).obj = 0 ∧ (callOf cs e.call).kind = 0 ∧ e.ans.err = 0
def tkT (cs : List Cl) (e : Ep) : Nat := (callOf cs e.call).thread.toNat
structure SInv (n : Nat) (cs : List Cl) (P : Ps SM Spl) (vis right down : Nat → Nat → Nat → Prop) (cur : Nat → Option (Nat × Nat × Nat)) (La Sh : Nat → Nat → Int) : Prop where
  wf : PWf cs P
  grid : Grid n vis right down cur La Sh
  len : P.lw.mem.words.length = 2 * tri n
  flt : P.lw.mem.ft = 0
  memL : ∀ r c, r + c < n → P.lw.mem.at (2 * nameN r c : Nat) = La r c
  memS : ∀ r c, r + c < n → P.lw.mem.at ((2 * nameN r c : Nat) + 1) = Sh r c
  mach : ∀ t m h, P.hands t = some (m, h) → ∃ (pc r c : Nat) (e : Ep), m = .take t pc r c ∧ pc ≤ 3 ∧ cur t = some (r, c, pc) ∧ P.evs[h]? = some e ∧ isTk cs e ∧ e.steps ≤ 4 * ((r + c : Nat) : Int) + pc
  held : ∀ t r c pc, cur t = some (r, c, pc) → (pc < 4 → ∃ m h, P.hands t = some (m, h)) ∧ (pc = 4 → P.obj.has t = true)
  has : ∀ t, P.obj.has t = true → ∃ r c, cur t = some (r, c, 4)
  done : ∀ (h : Nat) (e : Ep), P.evs[h]? = some e → e.resp ≠ 0 → isTk cs e → ∃ r c : Nat, cur (tkT cs e) = some (r, c, 4) ∧ e.ans.val = (nameN r c : Nat) ∧ e.steps ≤ 4 * ((r + c : Nat) : Int) + 4
  ref : ∀ (h : Nat) (e : Ep), P.evs[h]? = some e → ¬ isTk cs e → e.steps ≤ 1
  came : ∀ (h : Nat) (e : Ep), P.evs[h]? = some e → (callOf cs e.call).obj = 0 → (callOf cs e.call).kind = 0 → cur (tkT cs e) ≠ none
  uniq : ∀ (h k : Nat) (e e' : Ep), P.evs[h]? = some e → P.evs[k]? = some e' → isTk cs e → isTk cs e' → tkT cs e = tkT cs e' → h = k
  begun : ∀ t, cur t ≠ none → ∃ (h : Nat) (e : Ep), P.evs[h]? = some e ∧ isTk cs e ∧ tkT cs e = t
end Go.Proofs.YtlfingcmekifkaaGreat

namespace Go.Proofs.YtlfingcmekifkaaGreat
open Go.RowKit
theorem acc_stop {t : Nat} {k a x y : Int} {T : Tp} {W : Rw} (hh : T.halt = true) : T.acc t k a x y W = (0, T, W) := by
  unfold Tp.acc
  rw [hh]
  rfl
inductive SpGot (t : Nat) : Nat → Nat → List Int → Prop
  | nil : SpGot t 0 0 []
  | right {r c : Nat} {g : List Int} {x : Int} : SpGot t r c g → x ≠ 0 → SpGot t r (c + 1) (g ++ [0, x])
  | down {r c : Nat} {g : List Int} {y : Int} : SpGot t r c g → y ≠ t + 1 → SpGot t (r + 1) c (g ++ [0, 0, 0, y])
theorem tell1 (m : Mm) (a x : Int) : m.tell 1 a x = 0 := by
  unfold Mm.tell acV
  split
  · rw [if_neg (by decide), if_pos rfl]
  · rfl
end Go.Proofs.YtlfingcmekifkaaGreat

namespace Go.Proofs.YtlfingcmekifkaaGreat
open Go.RowKit
structure Col (n : Nat) (A : Nat → Int) (S : Nat → List Int) : Prop where
  w : ∀ t, t < n → A t = 0 → S t = []
  v : ∀ t s a, t < n → (S t)[s]? = some a → s < n ∧ (a = 0 ∨ a = A s)
  s : ∀ t s a b, t < n → s < n → (S t)[s]? = some a → (S s)[t]? = some b → a ≠ 0 ∨ b ≠ 0
theorem Col.new (n : Nat) : Col n (fun _ => 0) (fun _ => []) := ⟨fun _ _ _ => rfl, (fun _ _ _ _ h => by cases h), (fun _ _ _ _ _ _ h _ => by cases h)⟩
theorem Col.write {n : Nat} {A : Nat → Int} {S : Nat → List Int} (C : Col n A S) {t : Nat} {x : Int} (h0 : A t = 0) (hx : x ≠ 0) : Col n (upd A t x) S := by
  refine ⟨fun s hs h => ?_, fun s k a hs h => ?_, C.s⟩
  · by_cases e : s = t
    · rw [e, upd_same] at h
      exact absurd h hx
    · rw [upd_other e] at h
      exact C.w s hs h
  · obtain ⟨h1, h2⟩ := C.v s k a hs h
    refine ⟨h1, ?_⟩
    by_cases e : k = t
    · subst e
      rw [h0] at h2
      rcases h2 with h2 | h2 <;> exact .inl h2
    · rw [upd_other e]
      exact h2
theorem Col.read {n : Nat} {A : Nat → Int} {S : Nat → List Int} (C : Col n A S) {t : Nat} (h0 : A t ≠ 0) (hl : (S t).length < n) : Col n A (upd S t (S t ++ [A (S t).length])) := by
  have key : ∀ s k a, s < n → (upd S t (S t ++ [A (S t).length]) s)[k]? = some a → (S s)[k]? = some a ∨ (s = t ∧ k = (S t).length ∧ a = A k) := by
    intro s k a _ h
    by_cases e : s = t
    · subst e
      rw [upd_same] at h
      rcases snoc_get h with ⟨_, h⟩ | ⟨h1, h2⟩
      · exact .inl h
      · exact .inr ⟨rfl, h1, by rw [h2, h1]⟩
    · rw [upd_other e] at h
      exact .inl h
  refine ⟨fun s hs h => ?_, fun s k a hs h => ?_, fun s k a b hs hk ha hb => ?_⟩
  · rw [upd_other (by rintro rfl; exact h0 h)]
    exact C.w s hs h
  · rcases key s k a hs h with h | ⟨_, h2, h3⟩
    · exact C.v s k a hs h
    · exact ⟨by omega, .inr h3⟩
  · rcases key s k a hs ha with ha' | ⟨rfl, h2, rfl⟩
    · rcases key k s b hk hb with hb' | ⟨rfl, h2, rfl⟩
      · exact C.s s k a b hs hk ha' hb'
      · refine .inr (fun hA => ?_)
        rw [C.w s hs hA] at ha'
        cases ha'
    · refine .inl (fun hA => ?_)
      have hks : k ≠ s := by rintro rfl; exact h0 hA
      rw [upd_other hks, C.w k hk hA] at hb
      cases hb
theorem Col.own {n : Nat} {A : Nat → Int} {S : Nat → List Int} (C : Col n A S) {t : Nat} (ht : t < n) (hl : (S t).length = n) : (S t)[t]? = some (A t) ∧ A t ≠ 0 := by
  have h : (S t)[t]? = some ((S t)[t]'(by omega)) := List.getElem?_eq_getElem _
  have h1 := C.s t t _ _ ht ht h h
  have h2 := (C.v t t _ ht h).2
  rcases h2 with h2 | h2
  · rcases h1 with h1 | h1 <;> exact absurd h2 h1
  · rw [h2] at h h1
    exact ⟨h, by rcases h1 with h1 | h1 <;> exact h1⟩
structure Ad where
  n : Nat
  has : Nat → Bool
inductive AM where
  | no (e : Int)
  | prop (t pc : Nat) (v : Int) (seen : List Int) (val : Int)
def aloneF (v : Int) (l : List Int) : Bool := l.all fun x => decide (x = 0 ∨ x = v)
def firstF (l : List Int) : Int := l.foldl (fun f m => if m = 0 then f else if m % 2 = 0 then f else if f = 0 then m / 2 else f) 0
def allF (l : List Int) : Bool := l.all fun m => decide (m = 0 ∨ m % 2 ≠ 0)
def markF (v : Int) (l : List Int) : Int := 2 * v + if aloneF v l then 1 else 0
def endF (v : Int) (l : List Int) : Int := if 0 < firstF l then 2 * (firstF l - 1) + (if allF l then 1 else 0) else 2 * (v - 1)
def adStart (o : Ad) (t : Nat) (c : Cl) : Ad × AM :=
  if c.obj ≠ 0 then (o, .no 12) else if c.kind ≠ 0 then (o, .no 9) else if 2147483648 ≤ c.a then (o, .no 10) else if o.has t then (o, .no 8) else ({ o with has := upd o.has t true }, .prop t 0 (c.a + 1) [] 0)
def adStep (o : Ad) (w : Lw) (m : AM) : Ad × Lw × AM × Bool :=
  match m with
  | .no e => (o, w, .no e, true)
  | .prop t pc v seen val =>
    if pc = 0 then (o, { w with mem := w.mem.acc 1 t v 0 }, .prop t 1 v seen val, false)
    else if pc = 1 then
      let s := seen ++ [w.mem.tell 0 (seen.length : Int) 0]
      (o, { w with mem := w.mem.acc 0 (seen.length : Int) 0 0 }, .prop t (if s.length = o.n then 2 else 1) v s val, false)
    else if pc = 2 then (o, { w with mem := w.mem.acc 1 ((o.n : Int) + t) (markF v seen) 0 }, .prop t 3 v [] val, false)
    else
      let s := seen ++ [w.mem.tell 0 ((o.n : Int) + seen.length) 0]
      if s.length = o.n then (o, { w with mem := w.mem.acc 0 ((o.n : Int) + seen.length) 0 0 }, .prop t 3 v s (endF v s), true)
      else (o, { w with mem := w.mem.acc 0 ((o.n : Int) + seen.length) 0 0 }, .prop t 3 v s val, false)
def adAns : AM → An × List Int
  | .no e => (⟨e, 0, []⟩, [])
  | .prop _ _ _ _ val => (⟨0, val, []⟩, [])
def adG : Gm AM Ad := ⟨adStart, fun o w _ m => adStep o w m, fun _ m => adAns m, fun _ _ _ => none⟩
theorem adG_still : adG.Still := by
  intro o w t m
  show (adStep o w m).2.1.now = w.now
  unfold adStep
  split
  · rfl
  · split
    · rfl
    · split
      · rfl
      · split
        · rfl
        · dsimp only
          split <;> rfl
theorem firstF_go (l : List Int) (hl : ∀ m ∈ l, 0 ≤ m ∧ m ≠ 1) : ∀ f : Int, 0 ≤ f → (0 < f → l.foldl (fun f m => if m = 0 then f else if m % 2 = 0 then f else if f = 0 then m / 2 else f) f = f) ∧
    (f = 0 → (l.foldl (fun f m => if m = 0 then f else if m % 2 = 0 then f else if f = 0 then m / 2 else f) f = 0 ∧ ∀ m ∈ l, m % 2 = 0) ∨ ∃ m ∈ l, m % 2 = 1 ∧ l.foldl (fun f m => if m = 0 then f else if m % 2 = 0 then f else if f = 0 then m / 2 else f) f = m / 2) := by
  induction l with
  | nil =>
    intro f hf
    exact ⟨fun _ => rfl, fun h => .inl ⟨h, fun m hm => by cases hm⟩⟩
  | cons x l ih =>
    intro f hf
    have hx := hl x (List.mem_cons_self ..)
    have hl' : ∀ m ∈ l, 0 ≤ m ∧ m ≠ 1 := fun m hm => hl m (List.mem_cons_of_mem _ hm)
    simp only [List.foldl_cons]
    constructor
    · intro hp
      have e : (if x = 0 then f else if x % 2 = 0 then f else if f = 0 then x / 2 else f) = f := by
        split
        · rfl
        · split
          · rfl
          · rw [if_neg (by omega)]
      rw [e]
      exact (ih hl' f hf).1 hp
    · intro h0
      by_cases h2 : x % 2 = 0
      · have e : (if x = 0 then f else if x % 2 = 0 then f else if f = 0 then x / 2 else f) = f := by
          split
          · rfl
          · first | rfl | rw [if_pos h2]
        rw [e]
        rcases (ih hl' f hf).2 h0 with ⟨a, b⟩ | ⟨m, hm, a, b⟩
        · refine .inl ⟨a, fun m hm => ?_⟩
          rcases List.mem_cons.1 hm with rfl | hm
          · exact h2
          · exact b m hm
        · exact .inr ⟨m, List.mem_cons_of_mem _ hm, a, b⟩
      · have e : (if x = 0 then f else if x % 2 = 0 then f else if f = 0 then x / 2 else f) = x / 2 := by
          rw [if_neg (by omega), if_neg h2, if_pos h0]
        rw [e]
        refine .inr ⟨x, List.mem_cons_self .., by omega, ?_⟩
        exact (ih hl' (x / 2) (by omega)).1 (by omega)
theorem firstF_cases {l : List Int} (hl : ∀ m ∈ l, 0 ≤ m ∧ m ≠ 1) : (firstF l = 0 ∧ ∀ m ∈ l, m % 2 = 0) ∨ ∃ m ∈ l, m % 2 = 1 ∧ firstF l = m / 2 ∧ 0 < firstF l := by
  rcases (firstF_go l hl 0 (Int.le_refl _)).2 rfl with h | ⟨m, hm, h1, h2⟩
  · exact .inl h
  · have := hl m hm
    refine .inr ⟨m, hm, h1, h2, ?_⟩
    unfold firstF
    rw [h2]
    omega
end Go.Proofs.YtlfingcmekifkaaGreat
