/- Proposals under way: what their words and reads are. -/
import Derived.Test.YtlfingcmekifkaaBun9
namespace Go.Proofs.Ytlfingcmekifkaa
open Go.RowKit

def isProp (cs : List Cl) (e : Ep) : Prop := (callOf cs e.call).obj = 0 ∧ (callOf cs e.call).kind = 0 ∧ e.ans.err = 0
def prA (cs : List Cl) (e : Ep) : Int := (callOf cs e.call).a
def prT (cs : List Cl) (e : Ep) : Nat := (callOf cs e.call).thread.toNat
/-- Where a proposal is. -/
def AdPh (n : Nat) (A B : Nat → Int) (S1 S2 : Nat → List Int) (t pc : Nat) (v : Int) (seen : List Int) : Prop :=
  (pc = 0 ∧ seen = [] ∧ A t = 0) ∨ (pc = 1 ∧ A t = v ∧ seen = S1 t ∧ seen.length < n ∧ B t = 0) ∨ (pc = 2 ∧ A t = v ∧ seen = S1 t ∧ seen.length = n ∧ B t = 0) ∨ (pc = 3 ∧ A t = v ∧ B t ≠ 0 ∧ seen = S2 t ∧ seen.length < n)
/-- What it ends with. -/
def AdEnd (n : Nat) (cs : List Cl) (evs : List Ep) (A B : Nat → Int) (S2 : Nat → List Int) (e : Ep) : Prop :=
  A (prT cs e) = prA cs e + 1 ∧ B (prT cs e) ≠ 0 ∧ (S2 (prT cs e)).length = n ∧ e.ans.val = endF (prA cs e + 1) (S2 (prT cs e)) ∧ ∃ (k : Nat) (y : Ep), evs[k]? = some y ∧ isProp cs y ∧ prA cs y = e.ans.val / 2 ∧ y.inv < e.resp
structure AInv (n : Nat) (cs : List Cl) (P : Ps AM Ad) (A B : Nat → Int) (S1 S2 : Nat → List Int) : Prop where
  wf : PWf cs P
  on : P.obj.n = n
  len : P.lw.mem.words.length = 2 * n
  memA : ∀ j, j < n → P.lw.mem.at j = A j
  memB : ∀ j, j < n → P.lw.mem.at ((n : Int) + j) = B j
  c1 : Col n A S1
  c2 : Col n B S2
  bval : ∀ t, t < n → B t ≠ 0 → A t ≠ 0 ∧ (S1 t).length = n ∧ B t = markF (A t) (S1 t)
  aval : ∀ t, t < n → A t ≠ 0 → ∃ (h : Nat) (e : Ep), P.evs[h]? = some e ∧ isProp cs e ∧ prT cs e = t ∧ A t = prA cs e + 1
  has : ∀ t, t < n → P.obj.has t = false → A t = 0
  stood : ∀ (h : Nat) (e : Ep), P.evs[h]? = some e → isProp cs e → P.obj.has (prT cs e) = true
  uniq : ∀ (h k : Nat) (e e' : Ep), P.evs[h]? = some e → P.evs[k]? = some e' → isProp cs e → isProp cs e' → prT cs e = prT cs e' → h = k
  mach : ∀ t m h, P.hands t = some (m, h) → ∃ (pc : Nat) (v : Int) (seen : List Int) (val : Int) (e : Ep), m = .prop t pc v seen val ∧ P.evs[h]? = some e ∧ isProp cs e ∧ v = prA cs e + 1 ∧ AdPh n A B S1 S2 t pc v seen
  done : ∀ (h : Nat) (e : Ep), P.evs[h]? = some e → e.resp ≠ 0 → isProp cs e → AdEnd n cs P.evs A B S2 e
theorem prT_lt {n : Nat} {cs : List Cl} (hcs : ∀ c ∈ cs, 0 ≤ c.thread ∧ c.thread < n ∧ 0 ≤ c.a) {e : Ep} (h : e.call < cs.length) : prT cs e < n ∧ ((prT cs e : Nat) : Int) = (callOf cs e.call).thread ∧ 0 ≤ prA cs e := by
  have hC : callOf cs e.call ∈ cs := by
    unfold callOf
    rw [List.getElem?_eq_getElem h]
    exact List.getElem_mem h
  obtain ⟨a, b, c⟩ := hcs _ hC
  unfold prT prA
  exact ⟨by omega, by omega, c⟩
/-- A thread's step changes what is the thread's own. -/
theorem AInv.next {n : Nat} {cs : List Cl} {P P' : Ps AM Ad} {A B A' B' : Nat → Int} {S1 S2 S1' S2' : Nat → List Int} (I : AInv n cs P A B S1 S2) (hcs : ∀ c ∈ cs, 0 ≤ c.thread ∧ c.thread < n ∧ 0 ≤ c.a) {t h : Nat} {m : AM} {e e' : Ep} (ht : t < n)
    (hm : P.hands t = some (m, h)) (he : P.evs[h]? = some e) (hs : isProp cs e) (hT : prT cs e = t) (hW : PWf cs P') (hobj : P'.obj = P.obj) (hlen : P'.lw.mem.words.length = 2 * n)
    (hA : ∀ j, j < n → P'.lw.mem.at j = A' j) (hB : ∀ j, j < n → P'.lw.mem.at ((n : Int) + j) = B' j) (c1 : Col n A' S1') (c2 : Col n B' S2')
    (oA : ∀ j, j ≠ t → A' j = A j) (oB : ∀ j, j ≠ t → B' j = B j) (o1 : ∀ j, j ≠ t → S1' j = S1 j) (o2 : ∀ j, j ≠ t → S2' j = S2 j)
    (hbv : B' t ≠ 0 → A' t ≠ 0 ∧ (S1' t).length = n ∧ B' t = markF (A' t) (S1' t)) (hAt : A' t = prA cs e + 1)
    (hands : ∀ s, s ≠ t → P'.hands s = P.hands s) (hevs : ∀ (k : Nat) (x : Ep), P'.evs[k]? = some x → (k ≠ h ∧ P.evs[k]? = some x) ∨ (k = h ∧ x = e')) (hevo : ∀ (k : Nat) (x : Ep), k ≠ h → P.evs[k]? = some x → P'.evs[k]? = some x) (hevh : P'.evs[h]? = some e')
    (hec : e'.call = e.call) (hei : e'.inv = e.inv) (hee : e'.ans.err = 0)
    (hcase : (∃ pc v seen val, P'.hands t = some (.prop t pc v seen val, h) ∧ e'.resp = 0 ∧ v = prA cs e + 1 ∧ AdPh n A' B' S1' S2' t pc v seen) ∨ (P'.hands t = none ∧ e'.resp ≠ 0 ∧ AdEnd n cs P'.evs A' B' S2' e')) : AInv n cs P' A' B' S1' S2' := by
  have hs' : isProp cs e' := by
    unfold isProp
    rw [hec]
    exact ⟨hs.1, hs.2.1, hee⟩
  have hT' : prT cs e' = t := by
    unfold prT
    rw [hec]
    exact hT
  have hA' : prA cs e' = prA cs e := by
    unfold prA
    rw [hec]
  have hne : ∀ (k : Nat) (x : Ep), k ≠ h → P.evs[k]? = some x → isProp cs x → prT cs x ≠ t := by
    intro k x hk hx hxs htt
    exact hk (I.uniq k h x e hx he hxs hs (htt.trans hT.symm))
  refine ⟨hW, by rw [hobj]; exact I.on, hlen, hA, hB, c1, c2, fun s hs hb => ?_, fun s hs ha => ?_, fun s hs hh => ?_, fun k x hx hxs => ?_, fun k k' x x' hx hx' hxs hxs' htt => ?_, fun s m' k hk => ?_, fun k x hx hr hxs => ?_⟩
  · by_cases hst : s = t
    · subst hst
      exact hbv hb
    · rw [oA s hst, oB s hst, o1 s hst] at *
      exact I.bval s hs hb
  · by_cases hst : s = t
    · subst hst
      exact ⟨h, e', hevh, hs', hT', by rw [hA', hAt]⟩
    · rw [oA s hst] at ha ⊢
      obtain ⟨k, x, a1, a2, a3, a4⟩ := I.aval s hs ha
      refine ⟨k, x, hevo k x ?_ a1, a2, a3, a4⟩
      rintro rfl
      rw [he] at a1
      cases a1
      exact hst (a3.symm.trans hT)
  · rw [hobj] at hh
    by_cases hst : s = t
    · subst hst
      have := I.stood h e he ‹_›
      rw [hT, hh] at this
      cases this
    · rw [oA s hst]
      exact I.has s hs hh
  · rw [hobj]
    rcases hevs k x hx with ⟨_, hx⟩ | ⟨rfl, rfl⟩
    · exact I.stood k x hx hxs
    · rw [hT', ← hT]
      exact I.stood k e he hs
  · rcases hevs k x hx with ⟨_, hx⟩ | ⟨rfl, rfl⟩
    · rcases hevs k' x' hx' with ⟨_, hx'⟩ | ⟨rfl, rfl⟩
      · exact I.uniq k k' x x' hx hx' hxs hxs' htt
      · exact I.uniq k k' x e hx he hxs hs (htt.trans (hT'.trans hT.symm))
    · rcases hevs k' x' hx' with ⟨_, hx'⟩ | ⟨rfl, rfl⟩
      · exact I.uniq k k' e x' he hx' hs hxs' ((hT.trans hT'.symm).trans htt)
      · rfl
  · by_cases hst : s = t
    · subst hst
      rcases hcase with ⟨pc, v, seen, val, a1, _, a2, a3⟩ | ⟨a1, _⟩
      · rw [a1] at hk
        cases hk
        exact ⟨pc, v, seen, val, e', rfl, hevh, hs', by rw [hA']; exact a2, a3⟩
      · rw [a1] at hk
        cases hk
    · rw [hands s hst] at hk
      obtain ⟨pc, v, seen, val, x, a1, a2, a3, a4, a5⟩ := I.mach s m' k hk
      refine ⟨pc, v, seen, val, x, a1, hevo k x ?_ a2, a3, a4, ?_⟩
      · rintro rfl
        obtain ⟨y, hy, _, hy2, _⟩ := I.wf.hand s m' k hk
        rw [he] at hy
        cases hy
        unfold prT at hT
        omega
      · unfold AdPh at a5 ⊢
        rw [oA s hst, oB s hst, o1 s hst, o2 s hst]
        exact a5
  · rcases hevs k x hx with ⟨hk, hx⟩ | ⟨rfl, rfl⟩
    · have hxt := hne k x hk hx hxs
      obtain ⟨a1, a2, a3, a4, k2, y, b1, b2, b3, b4⟩ := I.done k x hx hr hxs
      unfold AdEnd
      rw [oA _ hxt, oB _ hxt, o2 _ hxt]
      refine ⟨a1, a2, a3, a4, ?_⟩
      by_cases hk2 : k2 = h
      · subst hk2
        rw [he] at b1
        cases b1
        exact ⟨k2, e', hevh, hs', by rw [hA']; exact b3, by rw [hei]; exact b4⟩
      · exact ⟨k2, y, hevo k2 y hk2 b1, b2, b3, b4⟩
    · rcases hcase with ⟨_, _, _, _, _, a1, _⟩ | ⟨_, _, a1⟩
      · exact absurd a1 hr
      · exact a1
end Go.Proofs.Ytlfingcmekifkaa
