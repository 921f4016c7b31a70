/- Objects as if each operation were done at once (package model), as plain data: what they are at first, what an operation makes of them, and what it answers. -/
import Derived.Test.YtmiimpmfkjcjlaaGreatTb0
import Derived.Test.YtmiimpmfkjcjlaaGreatSqk
namespace Go.Proofs.YtmiimpmfkjcjlaaGreat
open Go.RowKit

/-- An answer: the error, the number, the words. -/
structure An where
  err : Int
  val : Int
  list : List Int
def anE (e : Int) : An := ⟨e, 0, []⟩
def anV (v : Int) : An := ⟨0, v, []⟩

def newM (n : Int) (s : Sp) : List Int :=
  if s.kind = 0 ∨ s.kind = 9 then List.replicate s.p.toNat 0 else if s.kind = 5 then List.replicate (2 * n).toNat 0 else if s.kind = 6 then List.replicate (s.p + n).toNat 0 else
  if s.kind = 7 then 0 :: newL s.p else if s.kind = 8 then [] else [0]
def shapeM (n : Int) (s : Sp) (st : List Int) : Bool :=
  if s.kind = 7 then decide (0 < st.length) && rightB17 s.p (st.length - 1) else if s.kind = 8 then decide (st.length % 2 = 0) else decide (st.length = (newM n s).length)
def rightM (n : Int) (s : Sp) (st : List Int) : Bool := decide (sizeE n s = 0) && shapeM n s st

def two64 : Int := 18446744073709551616
def at0 (st : List Int) (i : Nat) : Int := (st[i]?).getD 0
def cellM (s : Sp) (st : List Int) (c : Cl) : List Int × An :=
  if s.p ≤ c.a then (st, anE 10) else if c.kind = 1 then (st.set c.a.toNat c.b, anE 0) else
  if c.kind = 2 then (if at0 st c.a.toNat = c.b then (st.set c.a.toNat c.c, anV 1) else (st, anE 0)) else
  if c.kind = 3 then (st.set c.a.toNat ((at0 st c.a.toNat + c.b) % 18446744073709551616), anV (at0 st c.a.toNat)) else (st, anV (at0 st c.a.toNat))
def consM (st : List Int) (c : Cl) : List Int × An :=
  if c.kind = 0 ∧ 4294967296 ≤ c.a then (st, anE 10) else if c.kind = 1 ∧ at0 st 0 = 0 then (st, anE 7) else
  if at0 st 0 = 0 then (st.set 0 (c.a + 1), anV c.a) else (st, anV (at0 st 0 - 1))
def numM (s : Sp) (st : List Int) (c : Cl) : List Int × An :=
  if c.kind = 1 then (st, anV (at0 st 0)) else if s.kind = 2 then (st.set 0 ((at0 st 0 + 1) % 18446744073709551616), anE 0) else
  if c.kind = 2 then (st.set 0 ((at0 st 0 + 1) % 18446744073709551616), anV (at0 st 0)) else (st.set 0 ((at0 st 0 + c.a) % 18446744073709551616), anV (at0 st 0))
def maxM (s : Sp) (st : List Int) (c : Cl) : List Int × An :=
  if c.kind = 1 then (st, anV (at0 st 0)) else if c.a / 2 ^ s.p.toNat ≠ 0 then (st, anE 10) else (st.set 0 (max (at0 st 0) c.a), anE 0)
def partsM (m most part v : Int) (st : List Int) (c : Cl) : List Int × An :=
  if c.kind = 1 then (st, ⟨0, 0, st.take m.toNat⟩) else if m ≤ part then (st, anE 10) else if most ≤ at0 st (m + c.thread).toNat then (st, anE 6) else
  ((st.set part.toNat v).set (m + c.thread).toNat (at0 st (m + c.thread).toNat + 1), anE 0)
def sharedM (s : Sp) (st : List Int) (c : Cl) : List Int × An :=
  if 4294967296 ≤ c.a then (st, anE 10) else if s.q ≤ at0 st 0 then (st, anE 6) else
  ((at0 st 0 + 1) :: apL s.p (st.drop 1) c.kind c.a, ⟨apE s.p (st.drop 1) c.kind c.a, apV s.p (st.drop 1) c.kind c.a, []⟩)
def queueM (st : List Int) (c : Cl) : List Int × An :=
  if c.kind = 0 ∧ 16777216 ≤ c.a then (st, anE 10) else if c.kind = 0 then (st ++ [c.thread, c.a], anE 0) else if st.length = 0 then (st, anE 7) else (st.drop 2, anV (at0 st 1))
def pinL (a : Int) (k : Nat) : List Int := (List.range k).map fun i : Nat => (a + i) % 18446744073709551616
def pinM (st : List Int) (c : Cl) : List Int × An :=
  if c.kind = 1 then (st, ⟨0, 0, st⟩) else if c.thread ≠ 0 then (st, anE 11) else (pinL c.a st.length, anE 0)
def actM (n : Int) (s : Sp) (st : List Int) (c : Cl) : List Int × An :=
  if s.kind = 0 then cellM s st c else if s.kind = 1 then consM st c else if s.kind = 2 ∨ s.kind = 3 then numM s st c else if s.kind = 4 then maxM s st c else
  if s.kind = 5 then partsM n s.p c.thread c.a st c else if s.kind = 6 then partsM s.p s.q c.a c.b st c else if s.kind = 7 then sharedM s st c else if s.kind = 8 then queueM st c else pinM st c
def applyM (n : Int) (s : Sp) (st : List Int) (c : Cl) : List Int × An :=
  if rightM n s st = false ∨ ¬ (0 ≤ c.thread ∧ c.thread < n) then (st, anE 1) else if ¬ (0 ≤ c.kind ∧ c.kind < actsT s.kind s.p) then (st, anE 9) else actM n s st c
def ownM (st : List Int) (t : Int) : Nat → Nat
  | 0 => 0
  | k + 1 => ownM st t k + if at0 st (2 * k) = t then 1 else 0
def ownN (st : List Int) (t : Int) : Nat := ownM st t (st.length / 2)
def fullM (n : Int) (s : Sp) (st : List Int) (c : Cl) (a : An) : Bool :=
  decide (s.kind = 8) && (decide (c.kind = 0) && (decide ((applyM n s st c).2.err = 0) && (decide (a.err = 6) && (decide (a.val = 0) && (decide (a.list.length = 0) && decide (s.p - n - 1 ≤ ownN st c.thread))))))
def okM (n : Int) (s : Sp) (st : List Int) (c : Cl) (a : An) : Bool := decide (a.err = (applyM n s st c).2.err) && (decide (a.val = (applyM n s st c).2.val) && decide (a.list = (applyM n s st c).2.list))
def legalM (n : Int) (s : Sp) (st : List Int) (c : Cl) (a : An) : List Int × Bool := if okM n s st c a = true then ((applyM n s st c).1, true) else (st, fullM n s st c a)

theorem newM_len (n : Int) (s : Sp) (h : sizeE n s = 0) : (newM n s).length ≤ 80 := by
  unfold sizeE at h
  split at h
  · cases h
  · split at h
    · cases h
    · split at h
      · cases h
      · rename_i h1 h2 h3
        simp at h3
        unfold rightT at h3
        unfold newM newL
        repeat' split at h3
        all_goals simp at h3
        all_goals (repeat' split)
        all_goals (simp; try omega)

theorem shapeM_newM (n : Int) (s : Sp) (h : sizeE n s = 0) : shapeM n s (newM n s) = true := by
  unfold shapeM
  split
  · rename_i h7
    have hk : kindsI s.p > 0 := by
      unfold sizeE at h
      split at h
      · cases h
      · split at h
        · cases h
        · split at h
          · cases h
          · rename_i h1 h2 h3
            simp at h3
            unfold rightT at h3
            simp [h7] at h3
            omega
    unfold newM
    simp [h7]
    unfold kindsI at hk
    unfold rightB17 newL
    repeat' split at hk
    · rename_i q
      rcases q with q | q | q | q | q <;> simp [q]
    · rename_i q
      rcases q with q | q | q <;> simp [q]
    · omega
  · split
    · rename_i h7 h8
      unfold newM
      simp [h8]
    · simp

theorem rightM_newM (n : Int) (s : Sp) (h : sizeE n s = 0) : rightM n s (newM n s) = true := by
  unfold rightM
  rw [shapeM_newM n s h, decide_eq_true h]
  rfl

theorem u64_new {n : Int} {s : Sp} : ∀ x ∈ newM n s, U64 x := by
  intro x hx
  have : x = 0 := by
    unfold newM newL at hx
    repeat' split at hx
    all_goals simp at hx
    all_goals first | exact hx.2 | exact hx | (rcases hx with hx | hx; exact hx; exact hx) | skip
  subst this
  exact ⟨by omega, by omega⟩
end Go.Proofs.YtmiimpmfkjcjlaaGreat
