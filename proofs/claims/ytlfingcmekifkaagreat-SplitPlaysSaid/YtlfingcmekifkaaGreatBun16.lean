import Derived.Test.YtlfingcmekifkaaGreatBun15
import Derived.Test.YtlfingcmekifkaaGreatBun9
namespace Go.Proofs.YtlfingcmekifkaaGreat
open Go.RowKit
section
variable {n : Nat} {vis right down : Nat → Nat → Nat → Prop} {cur : Nat → Option (Nat × Nat × Nat)} {La Sh : Nat → Nat → Int}
def nextC (d : Bool) (r c : Nat) : Nat × Nat := if d then (r, c + 1) else (r + 1, c)
def addV (f : Nat → Nat → Nat → Prop) (b : Prop) (t r c : Nat) : Nat → Nat → Nat → Prop := fun u i j => f u i j ∨ (b ∧ u = t ∧ i = r ∧ j = c)
theorem Grid.move (G : Grid n vis right down cur La Sh) {t r c pc : Nat} (d : Bool) (h : cur t = some (r, c, pc)) (h0 : pc ≠ 0) (hsh : Sh r c ≠ 0) (hd1 : d = true → pc < 3) (hd0 : d = false → La r c ≠ t + 1) :
    Grid n (addV vis True t (nextC d r c).1 (nextC d r c).2) (addV right (d = true) t r c) (addV down (d = false) t r c) (upd cur t (some ((nextC d r c).1, (nextC d r c).2, 0))) La Sh := by
  obtain ⟨a1, a2, a3, a4, a5, a6⟩ := G.at' t r c pc h
  have hnew : ¬ ((nextC d r c).1 ≤ r ∧ (nextC d r c).2 ≤ c) ∧ r ≤ (nextC d r c).1 ∧ c ≤ (nextC d r c).2 ∧ (nextC d r c).1 ≤ r + 1 ∧ (nextC d r c).2 ≤ c + 1 := by
    cases d <;> simp [nextC]
  have hcase : (d = true ∧ (nextC d r c).1 = r ∧ (nextC d r c).2 = c + 1) ∨ (d = false ∧ (nextC d r c).1 = r + 1 ∧ (nextC d r c).2 = c) := by
    cases d
    · exact .inr ⟨rfl, rfl, rfl⟩
    · exact .inl ⟨rfl, rfl, rfl⟩
  generalize (nextC d r c).1 = r2 at *
  generalize (nextC d r c).2 = c2 at *
  refine ⟨fun u i j p hu => ?_, fun u i j hv => ?_, fun u i j hv => ?_, fun u i j hv => ?_, fun u i j hv => ?_, ?_, fun u i j hv => ?_, fun u i j p hu h3 => ?_, fun i j hs => ?_, fun i j hl u hv => ?_, fun i j hl => ?_, fun p i j hp q k hqp hq h2 => ?_⟩
  · rcases upd_some hu with ⟨rfl, h'⟩ | ⟨hut, h'⟩
    · cases h'
      refine ⟨a1, by omega, .inr ⟨trivial, rfl, rfl, rfl⟩, ?_, ?_, ?_⟩
      · rintro (hr | ⟨_, _, hi, hj⟩)
        · have := a6 _ _ (G.rt _ _ _ hr).1
          omega
        · omega
      · rintro (hr | ⟨_, _, hi, hj⟩)
        · have := a6 _ _ (G.dn _ _ _ hr).1
          omega
        · omega
      · rintro r' c' (hv | ⟨_, _, rfl, rfl⟩)
        · have := a6 _ _ hv
          omega
        · exact ⟨Nat.le_refl _, Nat.le_refl _⟩
    · obtain ⟨b1, b2, b3, b4, b5, b6⟩ := G.at' u _ _ _ h'
      refine ⟨b1, b2, .inl b3, ?_, ?_, ?_⟩
      · rintro (hr | ⟨_, hr, _⟩)
        · exact b4 hr
        · exact hut hr
      · rintro (hr | ⟨_, hr, _⟩)
        · exact b5 hr
        · exact hut hr
      · rintro r' c' (hv | ⟨_, hr, _⟩)
        · exact b6 _ _ hv
        · exact absurd hr hut
  · by_cases e : u = t
    · subst e
      refine ⟨r2, c2, 0, upd_same _ _ _, ?_⟩
      rcases hv with hv | ⟨_, _, rfl, rfl⟩
      · obtain ⟨r1, c1, p1, h1, h2⟩ := G.was u i j hv
        rw [h] at h1
        cases h1
        rcases h2 with ⟨rfl, rfl⟩ | h2 | h2
        · cases d
          · exact .inr (.inr (.inr ⟨rfl, rfl, rfl, rfl⟩))
          · exact .inr (.inl (.inr ⟨rfl, rfl, rfl, rfl⟩))
        · exact .inr (.inl (.inl h2))
        · exact .inr (.inr (.inl h2))
      · exact .inl ⟨rfl, rfl⟩
    · rcases hv with hv | ⟨_, h', _⟩
      · obtain ⟨r1, c1, p1, h1, h2⟩ := G.was u i j hv
        refine ⟨r1, c1, p1, by rw [upd_other e]; exact h1, ?_⟩
        rcases h2 with h2 | h2 | h2
        · exact .inl h2
        · exact .inr (.inl (.inl h2))
        · exact .inr (.inr (.inl h2))
      · exact absurd h' e
  · rcases hv with hv | ⟨_, rfl, rfl, rfl⟩
    · rcases G.came u i j hv with h | ⟨h1, h2⟩ | ⟨h1, h2⟩
      · exact .inl h
      · exact .inr (.inl ⟨h1, .inl h2⟩)
      · exact .inr (.inr ⟨h1, .inl h2⟩)
    · rcases hcase with ⟨rfl, h1, h2⟩ | ⟨rfl, h1, h2⟩
      · exact .inr (.inl ⟨by omega, .inr ⟨rfl, rfl, h1, by omega⟩⟩)
      · exact .inr (.inr ⟨by omega, .inr ⟨rfl, rfl, by omega, h2⟩⟩)
  · rcases hv with hv | ⟨hd, rfl, rfl, rfl⟩
    · exact ⟨.inl (G.rt _ _ _ hv).1, .inl (G.rt _ _ _ hv).2⟩
    · refine ⟨.inl a3, .inr ⟨trivial, rfl, ?_, ?_⟩⟩
      · rcases hcase with ⟨_, h1, h2⟩ | ⟨h, h1, h2⟩
        · exact h1.symm
        · rw [hd] at h
          cases h
      · rcases hcase with ⟨_, h1, h2⟩ | ⟨h, h1, h2⟩
        · exact h2.symm
        · rw [hd] at h
          cases h
  · rcases hv with hv | ⟨hd, rfl, rfl, rfl⟩
    · exact ⟨.inl (G.dn _ _ _ hv).1, .inl (G.dn _ _ _ hv).2⟩
    · refine ⟨.inl a3, .inr ⟨trivial, rfl, ?_, ?_⟩⟩
      · rcases hcase with ⟨h, h1, h2⟩ | ⟨_, h1, h2⟩
        · rw [hd] at h
          cases h
        · exact h1.symm
      · rcases hcase with ⟨h, h1, h2⟩ | ⟨_, h1, h2⟩
        · rw [hd] at h
          cases h
        · exact h2.symm
  · obtain ⟨N, hN⟩ := G.bd
    refine ⟨N + 1, fun u i j hv => ?_⟩
    rcases hv with hv | ⟨_, rfl, rfl, rfl⟩
    · have := hN u i j hv
      omega
    · have := hN u r c a3
      omega
  · rcases hv with (hv | ⟨_, _, rfl, rfl⟩) | (hv | ⟨_, _, rfl, rfl⟩)
    · exact G.gone u i j (.inl hv)
    · exact hsh
    · exact G.gone u i j (.inr hv)
    · exact hsh
  · rcases upd_some hu with ⟨rfl, h'⟩ | ⟨_, h'⟩
    · cases h'
      omega
    · exact G.shut3 u _ _ _ h' h3
  · obtain ⟨s, h1, h2, h3⟩ := G.sh1 i j hs
    by_cases e : s = t
    · subst e
      by_cases e2 : i = r ∧ j = c
      · obtain ⟨rfl, rfl⟩ := e2
        rcases h3 with h3 | ⟨p, h3, h4⟩
        · exact absurd h3 a5
        · rw [h] at h4
          cases h4
          cases d with
          | true =>
            have := hd1 rfl
            omega
          | false =>
            refine ⟨s, .inl h1, ?_, .inl (.inr ⟨rfl, rfl, rfl, rfl⟩)⟩
            rintro (hr | ⟨hr, _⟩)
            · exact h2 hr
            · cases hr
      · refine ⟨s, .inl h1, ?_, ?_⟩
        · rintro (hr | ⟨_, _, hi, hj⟩)
          · exact h2 hr
          · exact e2 ⟨hi, hj⟩
        · rcases h3 with h3 | ⟨p, h3, h4⟩
          · exact .inl (.inl h3)
          · rw [h] at h4
            cases h4
            exact absurd ⟨rfl, rfl⟩ e2
    · refine ⟨s, .inl h1, ?_, ?_⟩
      · rintro (hr | ⟨_, hr, _⟩)
        · exact h2 hr
        · exact e hr
      · rcases h3 with h3 | ⟨p, h3, h4⟩
        · exact .inl (.inl h3)
        · exact .inr ⟨p, h3, by rw [upd_other e]; exact h4⟩
  · rcases hv with hv | ⟨_, rfl, rfl, rfl⟩
    · have := G.la0 i j hl u hv
      rw [upd_other ?_]
      · exact this
      · rintro rfl
        rw [h] at this
        cases this
        exact h0 rfl
    · exact upd_same _ _ _
  · obtain ⟨q, h1, h2, h3, h4⟩ := G.la1 i j hl
    refine ⟨q, h1, .inl h2, ?_, ?_⟩
    · rintro (hr | ⟨hd, rfl, rfl, rfl⟩)
      · exact h3 hr
      · exact hd0 hd h1
    · by_cases e : q = t
      · subst e
        rw [upd_same]
        intro h'
        cases h'
        have := a6 _ _ h2
        omega
      · rw [upd_other e]
        exact h4
  · rcases upd_some hp with ⟨_, h'⟩ | ⟨_, hp'⟩
    · cases h'
    · rcases upd_some hq with ⟨_, h'⟩ | ⟨_, hq'⟩
      · cases h'
        omega
      · exact G.st p i j hp' q k hqp hq' h2
theorem Grid.begin' (G : Grid n vis right down cur La Sh) {t : Nat} (ht : t < n) (h : cur t = none) : Grid n (addV vis True t 0 0) right down (upd cur t (some (0, 0, 0))) La Sh := by
  have hnv : ∀ i j, ¬ vis t i j := by
    intro i j hv
    obtain ⟨_, _, _, h1, _⟩ := G.was t i j hv
    rw [h] at h1
    cases h1
  refine ⟨fun u i j p hu => ?_, fun u i j hv => ?_, fun u i j hv => ?_, fun u i j hv => ?_, fun u i j hv => ?_, ?_, G.gone, fun u i j p hu h3 => ?_, fun i j hs => ?_, fun i j hl u hv => ?_, fun i j hl => ?_, fun p i j hp q k hqp hq h2 => ?_⟩
  · rcases upd_some hu with ⟨rfl, h'⟩ | ⟨hut, h'⟩
    · cases h'
      refine ⟨ht, by omega, .inr ⟨trivial, rfl, rfl, rfl⟩, fun hr => hnv _ _ (G.rt _ _ _ hr).1, fun hr => hnv _ _ (G.dn _ _ _ hr).1, ?_⟩
      rintro r' c' (hv | ⟨_, _, rfl, rfl⟩)
      · exact absurd hv (hnv _ _)
      · exact ⟨Nat.le_refl _, Nat.le_refl _⟩
    · obtain ⟨b1, b2, b3, b4, b5, b6⟩ := G.at' u _ _ _ h'
      refine ⟨b1, b2, .inl b3, b4, b5, ?_⟩
      rintro r' c' (hv | ⟨_, hr, _⟩)
      · exact b6 _ _ hv
      · exact absurd hr hut
  · rcases hv with hv | ⟨_, rfl, rfl, rfl⟩
    · obtain ⟨r1, c1, p1, h1, h2⟩ := G.was u i j hv
      refine ⟨r1, c1, p1, ?_, h2⟩
      rw [upd_other ?_]
      · exact h1
      · rintro rfl
        exact hnv _ _ hv
    · exact ⟨0, 0, 0, upd_same _ _ _, .inl ⟨rfl, rfl⟩⟩
  · rcases hv with hv | ⟨_, rfl, rfl, rfl⟩
    · exact G.came u i j hv
    · exact .inl ⟨rfl, rfl⟩
  · exact ⟨.inl (G.rt _ _ _ hv).1, .inl (G.rt _ _ _ hv).2⟩
  · exact ⟨.inl (G.dn _ _ _ hv).1, .inl (G.dn _ _ _ hv).2⟩
  · obtain ⟨N, hN⟩ := G.bd
    refine ⟨N, fun u i j hv => ?_⟩
    rcases hv with hv | ⟨_, _, rfl, rfl⟩
    · exact hN u i j hv
    · omega
  · rcases upd_some hu with ⟨rfl, h'⟩ | ⟨_, h'⟩
    · cases h'
      omega
    · exact G.shut3 u _ _ _ h' h3
  · obtain ⟨s, h1, h2, h3⟩ := G.sh1 i j hs
    refine ⟨s, .inl h1, h2, ?_⟩
    rcases h3 with h3 | ⟨p, h3, h4⟩
    · exact .inl h3
    · refine .inr ⟨p, h3, ?_⟩
      rw [upd_other ?_]
      · exact h4
      · rintro rfl
        rw [h] at h4
        cases h4
  · rcases hv with hv | ⟨_, rfl, rfl, rfl⟩
    · rw [upd_other ?_]
      · exact G.la0 i j hl u hv
      · rintro rfl
        exact hnv _ _ hv
    · exact upd_same _ _ _
  · obtain ⟨q, h1, h2, h3, h4⟩ := G.la1 i j hl
    refine ⟨q, h1, .inl h2, h3, ?_⟩
    rw [upd_other ?_]
    · exact h4
    · rintro rfl
      exact hnv _ _ h2
  · rcases upd_some hp with ⟨_, h'⟩ | ⟨_, hp'⟩
    · cases h'
    · rcases upd_some hq with ⟨_, h'⟩ | ⟨_, hq'⟩
      · cases h'
        omega
      · exact G.st p i j hp' q k hqp hq' h2
end
end Go.Proofs.YtlfingcmekifkaaGreat

namespace Go.Proofs.YtlfingcmekifkaaGreat
open Go.RowKit
def tri : Nat → Nat
  | 0 => 0
  | d + 1 => tri d + (d + 1)
def nameN (r c : Nat) : Nat := tri (r + c) + r
theorem tri_mono {a b : Nat} (h : a ≤ b) : tri a ≤ tri b := by
  induction b with
  | zero =>
    obtain rfl : a = 0 := by omega
    exact Nat.le_refl _
  | succ b ih =>
    by_cases e : a = b + 1
    · subst e
      exact Nat.le_refl _
    · have := ih (by omega)
      show tri a ≤ tri b + (b + 1)
      omega
theorem name_lt {r c n : Nat} (h : r + c < n) : nameN r c < tri n := by
  have h1 : tri (r + c + 1) ≤ tri n := tri_mono h
  have h2 : tri (r + c + 1) = tri (r + c) + (r + c + 1) := rfl
  unfold nameN
  omega
theorem name_inj {r c r' c' : Nat} (h : nameN r c = nameN r' c') : r = r' ∧ c = c' := by
  have key : ∀ a b a' b', nameN a b = nameN a' b' → ¬ a + b < a' + b' := by
    intro a b a' b' h hlt
    have h1 : tri (a + b + 1) ≤ tri (a' + b') := tri_mono hlt
    have h2 : tri (a + b + 1) = tri (a + b) + (a + b + 1) := rfl
    unfold nameN at h
    omega
  have h1 := key _ _ _ _ h
  have h2 := key _ _ _ _ h.symm
  have h3 : r + c = r' + c' := by omega
  unfold nameN at h
  rw [h3] at h
  omega
structure Spl where
  has : Nat → Bool
inductive SM where
  | no (e : Int)
  | take (t pc r c : Nat)
def spStart (o : Spl) (t : Nat) (c : Cl) : Spl × SM :=
  if c.obj ≠ 0 then (o, .no 12) else if c.kind ≠ 0 then (o, .no 9) else if o.has t then (o, .no 8) else (o, .take t 0 0 0)
def spStep (o : Spl) (w : Lw) (m : SM) : Spl × Lw × SM × Bool :=
  match m with
  | .no e => (o, w, .no e, true)
  | .take t pc r c =>
    if pc = 0 then (o, { w with mem := w.mem.acc 1 (2 * nameN r c : Nat) (t + 1) 0 }, .take t 1 r c, false)
    else if pc = 1 then
      if w.mem.tell 0 ((2 * nameN r c : Nat) + 1) 0 ≠ 0 then (o, { w with mem := w.mem.acc 0 ((2 * nameN r c : Nat) + 1) 0 0 }, .take t 0 r (c + 1), false)
      else (o, { w with mem := w.mem.acc 0 ((2 * nameN r c : Nat) + 1) 0 0 }, .take t 2 r c, false)
    else if pc = 2 then (o, { w with mem := w.mem.acc 1 ((2 * nameN r c : Nat) + 1) 1 0 }, .take t 3 r c, false)
    else if w.mem.tell 0 (2 * nameN r c : Nat) 0 = t + 1 then (⟨upd o.has t true⟩, { w with mem := w.mem.acc 0 (2 * nameN r c : Nat) 0 0 }, .take t 3 r c, true)
    else (o, { w with mem := w.mem.acc 0 (2 * nameN r c : Nat) 0 0 }, .take t 0 (r + 1) c, false)
def spAns : SM → An × List Int
  | .no e => (⟨e, 0, []⟩, [])
  | .take _ _ r c => (⟨0, nameN r c, []⟩, [])
def spG : Gm SM Spl := ⟨spStart, fun o w _ m => spStep o w m, fun _ m => spAns m, fun _ _ _ => none⟩
theorem spG_still : spG.Still := by
  intro o w t m
  show (spStep o w m).2.1.now = w.now
  unfold spStep
  split
  · rfl
  · split
    · rfl
    · split
      · split <;> rfl
      · split
        · rfl
        · split <;> rfl
def isTk (cs : List Cl) (e : Ep) : Prop := (callOf cs e.call).obj = 0 ∧ (callOf cs e.call).kind = 0 ∧ e.ans.err = 0
def tkT (cs : List Cl) (e : Ep) : Nat := (callOf cs e.call).thread.toNat
structure SInv (n : Nat) (cs : List Cl) (P : Ps SM Spl) (vis right down : Nat → Nat → Nat → Prop) (cur : Nat → Option (Nat × Nat × Nat)) (La Sh : Nat → Nat → Int) : Prop where
  wf : PWf cs P
  grid : Grid n vis right down cur La Sh
  len : P.lw.mem.words.length = 2 * tri n
  flt : P.lw.mem.ft = 0
  memL : ∀ r c, r + c < n → P.lw.mem.at (2 * nameN r c : Nat) = La r c
  memS : ∀ r c, r + c < n → P.lw.mem.at ((2 * nameN r c : Nat) + 1) = Sh r c
  mach : ∀ t m h, P.hands t = some (m, h) → ∃ (pc r c : Nat) (e : Ep), m = .take t pc r c ∧ pc ≤ 3 ∧ cur t = some (r, c, pc) ∧ P.evs[h]? = some e ∧ isTk cs e ∧ e.steps ≤ 4 * ((r + c : Nat) : Int) + pc
  held : ∀ t r c pc, cur t = some (r, c, pc) → (pc < 4 → ∃ m h, P.hands t = some (m, h)) ∧ (pc = 4 → P.obj.has t = true)
  has : ∀ t, P.obj.has t = true → ∃ r c, cur t = some (r, c, 4)
  done : ∀ (h : Nat) (e : Ep), P.evs[h]? = some e → e.resp ≠ 0 → isTk cs e → ∃ r c : Nat, cur (tkT cs e) = some (r, c, 4) ∧ e.ans.val = (nameN r c : Nat) ∧ e.steps ≤ 4 * ((r + c : Nat) : Int) + 4
  ref : ∀ (h : Nat) (e : Ep), P.evs[h]? = some e → ¬ isTk cs e → e.steps ≤ 1
  came : ∀ (h : Nat) (e : Ep), P.evs[h]? = some e → (callOf cs e.call).obj = 0 → (callOf cs e.call).kind = 0 → cur (tkT cs e) ≠ none
  uniq : ∀ (h k : Nat) (e e' : Ep), P.evs[h]? = some e → P.evs[k]? = some e' → isTk cs e → isTk cs e' → tkT cs e = tkT cs e' → h = k
  begun : ∀ t, cur t ≠ none → ∃ (h : Nat) (e : Ep), P.evs[h]? = some e ∧ isTk cs e ∧ tkT cs e = t
end Go.Proofs.YtlfingcmekifkaaGreat
