/- Objects as if each operation were done at once (package model), as plain data: what they are at first, what an operation makes of them, and what it answers. -/
/- Kinds of objects (package table): the small functions. -/
import Derived.Test.YtmiimpmfkjcjlaaGreatBun3
import Derived.Test.YtmiimpmfkjcjlaaGreatBun9
import Derived.Deep.QuietTactic
import Derived.BigQuiet
namespace Go.Proofs.YtmiimpmfkjcjlaaGreat
open Go.RowKit

/-- An answer: the error, the number, the words. -/
structure An where
  err : Int
  val : Int
  list : List Int
def anE (e : Int) : An := ⟨e, 0, []⟩
def anV (v : Int) : An := ⟨0, v, []⟩

def newM (n : Int) (s : Sp) : List Int :=
  if s.kind = 0 ∨ s.kind = 9 then List.replicate s.p.toNat 0 else if s.kind = 5 then List.replicate (2 * n).toNat 0 else if s.kind = 6 then List.replicate (s.p + n).toNat 0 else
  if s.kind = 7 then 0 :: newL s.p else if s.kind = 8 then [] else [0]
def shapeM (n : Int) (s : Sp) (st : List Int) : Bool :=
  if s.kind = 7 then decide (0 < st.length) && rightB17 s.p (st.length - 1) else if s.kind = 8 then decide (st.length % 2 = 0) else decide (st.length = (newM n s).length)
def rightM (n : Int) (s : Sp) (st : List Int) : Bool := decide (sizeE n s = 0) && shapeM n s st

def two64 : Int := 18446744073709551616
def at0 (st : List Int) (i : Nat) : Int := (st[i]?).getD 0
def cellM (s : Sp) (st : List Int) (c : Cl) : List Int × An :=
  if s.p ≤ c.a then (st, anE 10) else if c.kind = 1 then (st.set c.a.toNat c.b, anE 0) else
  if c.kind = 2 then (if at0 st c.a.toNat = c.b then (st.set c.a.toNat c.c, anV 1) else (st, anE 0)) else
  if c.kind = 3 then (st.set c.a.toNat ((at0 st c.a.toNat + c.b) % 18446744073709551616), anV (at0 st c.a.toNat)) else (st, anV (at0 st c.a.toNat))
def consM (st : List Int) (c : Cl) : List Int × An :=
  if c.kind = 0 ∧ 4294967296 ≤ c.a then (st, anE 10) else if c.kind = 1 ∧ at0 st 0 = 0 then (st, anE 7) else
  if at0 st 0 = 0 then (st.set 0 (c.a + 1), anV c.a) else (st, anV (at0 st 0 - 1))
def numM (s : Sp) (st : List Int) (c : Cl) : List Int × An :=
  if c.kind = 1 then (st, anV (at0 st 0)) else if s.kind = 2 then (st.set 0 ((at0 st 0 + 1) % 18446744073709551616), anE 0) else
  if c.kind = 2 then (st.set 0 ((at0 st 0 + 1) % 18446744073709551616), anV (at0 st 0)) else (st.set 0 ((at0 st 0 + c.a) % 18446744073709551616), anV (at0 st 0))
def maxM (s : Sp) (st : List Int) (c : Cl) : List Int × An :=
  if c.kind = 1 then (st, anV (at0 st 0)) else if c.a / 2 ^ s.p.toNat ≠ 0 then (st, anE 10) else (st.set 0 (max (at0 st 0) c.a), anE 0)
def partsM (m most part v : Int) (st : List Int) (c : Cl) : List Int × An :=
  if c.kind = 1 then (st, ⟨0, 0, st.take m.toNat⟩) else if m ≤ part then (st, anE 10) else if most ≤ at0 st (m + c.thread).toNat then (st, anE 6) else
  ((st.set part.toNat v).set (m + c.thread).toNat (at0 st (m + c.thread).toNat + 1), anE 0)
def sharedM (s : Sp) (st : List Int) (c : Cl) : List Int × An :=
  if 4294967296 ≤ c.a then (st, anE 10) else if s.q ≤ at0 st 0 then (st, anE 6) else
  ((at0 st 0 + 1) :: apL s.p (st.drop 1) c.kind c.a, ⟨apE s.p (st.drop 1) c.kind c.a, apV s.p (st.drop 1) c.kind c.a, []⟩)
def queueM (st : List Int) (c : Cl) : List Int × An :=
  if c.kind = 0 ∧ 16777216 ≤ c.a then (st, anE 10) else if c.kind = 0 then (st ++ [c.thread, c.a], anE 0) else if st.length = 0 then (st, anE 7) else (st.drop 2, anV (at0 st 1))
def pinL (a : Int) (k : Nat) : List Int := (List.range k).map fun i : Nat => (a + i) % 18446744073709551616
def pinM (st : List Int) (c : Cl) : List Int × An :=
  if c.kind = 1 then (st, ⟨0, 0, st⟩) else if c.thread ≠ 0 then (st, anE 11) else (pinL c.a st.length, anE 0)
def actM (n : Int) (s : Sp) (st : List Int) (c : Cl) : List Int × An :=
  if s.kind = 0 then cellM s st c else if s.kind = 1 then consM st c else if s.kind = 2 ∨ s.kind = 3 then numM s st c else if s.kind = 4 then maxM s st c else
  if s.kind = 5 then partsM n s.p c.thread c.a st c else if s.kind = 6 then partsM s.p s.q c.a c.b st c else if s.kind = 7 then sharedM s st c else if s.kind = 8 then queueM st c else pinM st c
def applyM (n : Int) (s : Sp) (st : List Int) (c : Cl) : List Int × An :=
  if rightM n s st = false ∨ ¬ (0 ≤ c.thread ∧ c.thread < n) then (st, anE 1) else if ¬ (0 ≤ c.kind ∧ c.kind < actsT s.kind s.p) then (st, anE 9) else actM n s st c
def ownM (st : List Int) (t : Int) : Nat → Nat
  | 0 => 0
  | k + 1 => ownM st t k + if at0 st (2 * k) = t then 1 else 0
def ownN (st : List Int) (t : Int) : Nat := ownM st t (st.length / 2)
def fullM (n : Int) (s : Sp) (st : List Int) (c : Cl) (a : An) : Bool :=
  decide (s.kind = 8) && (decide (c.kind = 0) && (decide ((applyM n s st c).2.err = 0) && (decide (a.err = 6) && (decide (a.val = 0) && (decide (a.list.length = 0) && decide (s.p - n - 1 ≤ ownN st c.thread))))))
def okM (n : Int) (s : Sp) (st : List Int) (c : Cl) (a : An) : Bool := decide (a.err = (applyM n s st c).2.err) && (decide (a.val = (applyM n s st c).2.val) && decide (a.list = (applyM n s st c).2.list))
def legalM (n : Int) (s : Sp) (st : List Int) (c : Cl) (a : An) : List Int × Bool := if okM n s st c a = true then ((applyM n s st c).1, true) else (st, fullM n s st c a)

theorem newM_len (n : Int) (s : Sp) (h : sizeE n s = 0) : (newM n s).length ≤ 80 := by
  unfold sizeE at h
  split at h
  · cases h
  · split at h
    · cases h
    · split at h
      · cases h
      · rename_i h1 h2 h3
        simp at h3
        unfold rightT at h3
        unfold newM newL
        repeat' split at h3
        all_goals simp at h3
        all_goals (repeat' split)
        all_goals (simp; try omega)

theorem shapeM_newM (n : Int) (s : Sp) (h : sizeE n s = 0) : shapeM n s (newM n s) = true := by
  unfold shapeM
  split
  · rename_i h7
    have hk : kindsI s.p > 0 := by
      unfold sizeE at h
      split at h
      · cases h
      · split at h
        · cases h
        · split at h
          · cases h
          · rename_i h1 h2 h3
            simp at h3
            unfold rightT at h3
            simp [h7] at h3
            omega
    unfold newM
    simp [h7]
    unfold kindsI at hk
    unfold rightB17 newL
    repeat' split at hk
    · rename_i q
      rcases q with q | q | q | q | q <;> simp [q]
    · rename_i q
      rcases q with q | q | q <;> simp [q]
    · omega
  · split
    · rename_i h7 h8
      unfold newM
      simp [h8]
    · simp

theorem rightM_newM (n : Int) (s : Sp) (h : sizeE n s = 0) : rightM n s (newM n s) = true := by
  unfold rightM
  rw [shapeM_newM n s h, decide_eq_true h]
  rfl

theorem u64_new {n : Int} {s : Sp} : ∀ x ∈ newM n s, U64 x := by
  intro x hx
  have : x = 0 := by
    unfold newM newL at hx
    repeat' split at hx
    all_goals simp at hx
    all_goals first | exact hx.2 | exact hx | (rcases hx with hx | hx; exact hx; exact hx) | skip
  subst this
  exact ⟨by omega, by omega⟩
end Go.Proofs.YtmiimpmfkjcjlaaGreat

namespace Go.Proofs.YtmiimpmfkjcjlaaGreat
open Go.RowKit
attribute [local go_sem] run_store_fn run_store_nilfn

theorem tacts_c (n : Int) (w : World) : Calls Tryz.prog 114 #[.int .i64 n] w fun e w' => e = .returned (.func (.func 162) #[] #[.pointer (some ⟨w.heap.size, 0, none⟩)]) ∧ w' = w.alloc (.cells #[.int .i64 n] 3) := by
  go_enter Tryz.func114, Tryz.ntmps114
  go_wp2
  go_ret
  exact ⟨rfl, rfl⟩
theorem tupTo_c (n : Int) (w : World) : Calls Tryz.prog 115 #[.int .i64 n] w fun e w' => e = .returned (.func (.func 163) #[] #[.pointer (some ⟨w.heap.size, 0, none⟩)]) ∧ w' = w.alloc (.cells #[.int .i64 n] 3) := by
  go_enter Tryz.func115, Tryz.ntmps115
  go_wp2
  go_ret
  exact ⟨rfl, rfl⟩
theorem tacts1 (s : Sp) (B : Nat) (n : Int) (w : World) (hB : w.cell? ⟨B, 0, none⟩ = some (.int .i64 n)) (hBl : B < w.heap.size) :
    Calls Tryz.prog 162 #[spV s, .pointer (some ⟨B, 0, none⟩)] w fun e w' => e = .returned (.int .i64 n) ∧ Below w.heap.size w w' := by
  go_enter Tryz.func162, Tryz.ntmps162
  go_wp2
  go_ret
  exact ⟨rfl, by (repeat' (first | exact Below.refl _ _ | assumption | refine Below.drew ?_ | refine below_drewN ?_ _ | refine Below.alloc ?_ (by simp <;> omega) _ | refine Below.setCell ?_ (by simp <;> omega) _))⟩
theorem tupTo1 (s : Sp) (B : Nat) (n : Int) (w : World) (hB : w.cell? ⟨B, 0, none⟩ = some (.int .i64 n)) (hBl : B < w.heap.size) :
    Calls Tryz.prog 163 #[spV s, .pointer (some ⟨B, 0, none⟩)] w fun e w' => e = .returned (.bool (decide (1 ≤ s.p) && decide (s.p ≤ n))) ∧ Below w.heap.size w w' := by
  by_cases h : 1 ≤ s.p
  · have d1 : decide (1 ≤ s.p) = true := by simpa using h
    go_enter Tryz.func163, Tryz.ntmps163
    go_wp2
    go_ret
    exact ⟨ret_bool (by first | rfl | (simp; done) | (rw [Bool.eq_iff_iff]; simp; done) | (rw [Bool.eq_iff_iff]; simp; omega)), by (repeat' (first | exact Below.refl _ _ | assumption | refine Below.drew ?_ | refine below_drewN ?_ _ | refine Below.alloc ?_ (by simp <;> omega) _ | refine Below.setCell ?_ (by simp <;> omega) _))⟩
  · have d1 : decide (1 ≤ s.p) = false := by simpa using h
    go_enter Tryz.func163, Tryz.ntmps163
    go_wp2
    go_ret
    exact ⟨ret_bool (by first | rfl | (simp; done) | (rw [Bool.eq_iff_iff]; simp; done) | (rw [Bool.eq_iff_iff]; simp; omega)), by (repeat' (first | exact Below.refl _ _ | assumption | refine Below.drew ?_ | refine below_drewN ?_ _ | refine Below.alloc ?_ (by simp <;> omega) _ | refine Below.setCell ?_ (by simp <;> omega) _))⟩
theorem twhatever (s : Sp) (w : World) : Calls Tryz.prog 119 #[spV s] w fun e w' => e = .returned (.bool true) ∧ Below w.heap.size w w' := by
  go_enter Tryz.func119, Tryz.ntmps119
  go_wp2
  go_ret
  exact ⟨rfl, by (repeat' (first | exact Below.refl _ _ | assumption | refine Below.drew ?_ | refine below_drewN ?_ _ | refine Below.alloc ?_ (by simp <;> omega) _ | refine Below.setCell ?_ (by simp <;> omega) _))⟩
theorem tone (n : Int) (s : Sp) (w : World) : Calls Tryz.prog 120 #[.int .i64 n, spV s] w fun e w' => e = .returned (.int .i64 1) ∧ Below w.heap.size w w' := by
  go_enter Tryz.func120, Tryz.ntmps120
  go_wp2
  go_ret
  exact ⟨rfl, by (repeat' (first | exact Below.refl _ _ | assumption | refine Below.drew ?_ | refine below_drewN ?_ _ | refine Below.alloc ?_ (by simp <;> omega) _ | refine Below.setCell ?_ (by simp <;> omega) _))⟩
theorem tsizeCell (n : Int) (s : Sp) (w : World) : Calls Tryz.prog 116 #[.int .i64 n, spV s] w fun e w' => e = .returned (.int .i64 s.p) ∧ Below w.heap.size w w' := by
  go_enter Tryz.func116, Tryz.ntmps116
  go_wp2
  go_ret
  exact ⟨rfl, by (repeat' (first | exact Below.refl _ _ | assumption | refine Below.drew ?_ | refine below_drewN ?_ _ | refine Below.alloc ?_ (by simp <;> omega) _ | refine Below.setCell ?_ (by simp <;> omega) _))⟩
theorem tsizeTally (n : Int) (s : Sp) (w : World) : Calls Tryz.prog 123 #[.int .i64 n, spV s] w fun e w' => e = .returned (.int .i64 n) ∧ Below w.heap.size w w' := by
  go_enter Tryz.func123, Tryz.ntmps123
  go_wp2
  go_ret
  exact ⟨rfl, by (repeat' (first | exact Below.refl _ _ | assumption | refine Below.drew ?_ | refine below_drewN ?_ _ | refine Below.alloc ?_ (by simp <;> omega) _ | refine Below.setCell ?_ (by simp <;> omega) _))⟩
theorem maxSize (p : Int) (h1 : 1 ≤ p) (h2 : p ≤ 12) (w : World) : Calls Tryz.prog 129 #[.int .i64 p] w fun e w' => e = .returned (.int .i64 (2 ^ p.toNat - 1)) ∧ w' = w := by
  obtain ⟨b1, b2⟩ := pow_bd h1 h2
  have hw : IntKind.i64.wrap (2 ^ p.toNat) = 2 ^ p.toNat := IntWalk.i64_in _ (by omega)
  have hu : IntKind.u64.wrap p = p := by rw [IntKind.wrap_u64]; omega
  go_enter Tryz.func129, Tryz.ntmps129
  go_wp2
  go_ret
  exact ⟨rfl, rfl⟩

theorem tsizeMax (n : Int) (s : Sp) (h1 : 1 ≤ s.p) (h2 : s.p ≤ 12) (w : World) : Calls Tryz.prog 128 #[.int .i64 n, spV s] w fun e w' => e = .returned (.int .i64 (2 ^ s.p.toNat - 1)) ∧ Below w.heap.size w w' := by
  go_enter Tryz.func128, Tryz.ntmps128
  go_wp2_with fail
  refine (maxSize s.p h1 h2 _).mono ?_
  rintro e w1 ⟨rfl, rfl⟩
  go_wp2
  go_ret
  exact ⟨rfl, by (repeat' (first | exact Below.refl _ _ | assumption | refine Below.drew ?_ | refine below_drewN ?_ _ | refine Below.alloc ?_ (by simp <;> omega) _ | refine Below.setCell ?_ (by simp <;> omega) _))⟩
theorem snapSize (n p : Int) (hn1 : 1 ≤ n) (hn2 : n ≤ 16) (h1 : 1 ≤ p) (h2 : p ≤ 64) (w : World) : Calls Tryz.prog 165 #[.int .i64 n, .int .i64 p] w fun e w' => e = .returned (.int .i64 (n + n * p * (n + 1))) ∧ w' = w := by
  obtain ⟨a1, a2⟩ := mul_bd (show 0 ≤ n by omega) hn2 (show 0 ≤ p by omega) h2
  obtain ⟨b1, b2⟩ := mul_bd a1 a2 (show 0 ≤ n + 1 by omega) (show n + 1 ≤ 17 by omega)
  go_enter Tryz.func165, Tryz.ntmps165
  go_wp2
  go_ret
  exact ⟨rfl, rfl⟩
theorem tsizeSnap (n : Int) (s : Sp) (hn1 : 1 ≤ n) (hn2 : n ≤ 16) (h1 : 1 ≤ s.p) (h2 : s.p ≤ 64) (w : World) : Calls Tryz.prog 164 #[.int .i64 n, spV s] w fun e w' => e = .returned (.int .i64 (n + n * s.p * (n + 1))) ∧ Below w.heap.size w w' := by
  go_enter Tryz.func164, Tryz.ntmps164
  go_wp2_with fail
  refine (snapSize n s.p hn1 hn2 h1 h2 _).mono ?_
  rintro e w1 ⟨rfl, rfl⟩
  go_wp2
  go_ret
  exact ⟨rfl, by (repeat' (first | exact Below.refl _ _ | assumption | refine Below.drew ?_ | refine below_drewN ?_ _ | refine Below.alloc ?_ (by simp <;> omega) _ | refine Below.setCell ?_ (by simp <;> omega) _))⟩
theorem multiSize (n p q : Int) (hn1 : 1 ≤ n) (hn2 : n ≤ 16) (h1 : 1 ≤ p) (h2 : p ≤ 16) (h3 : 1 ≤ q) (h4 : q ≤ 64) (w : World) : Calls Tryz.prog 170 #[.int .i64 n, .int .i64 p, .int .i64 q] w fun e w' => e = .returned (.int .i64 (p + n * q * (p + 1))) ∧ w' = w := by
  obtain ⟨a1, a2⟩ := mul_bd (show 0 ≤ n by omega) hn2 (show 0 ≤ q by omega) h4
  obtain ⟨b1, b2⟩ := mul_bd a1 a2 (show 0 ≤ p + 1 by omega) (show p + 1 ≤ 17 by omega)
  go_enter Tryz.func170, Tryz.ntmps170
  go_wp2
  go_ret
  exact ⟨rfl, rfl⟩
theorem tsizeMulti (n : Int) (s : Sp) (hn1 : 1 ≤ n) (hn2 : n ≤ 16) (h1 : 1 ≤ s.p) (h2 : s.p ≤ 16) (h3 : 1 ≤ s.q) (h4 : s.q ≤ 64) (w : World) : Calls Tryz.prog 169 #[.int .i64 n, spV s] w fun e w' => e = .returned (.int .i64 (s.p + n * s.q * (s.p + 1))) ∧ Below w.heap.size w w' := by
  go_enter Tryz.func169, Tryz.ntmps169
  go_wp2_with fail
  refine (multiSize n s.p s.q hn1 hn2 h1 h2 h3 h4 _).mono ?_
  rintro e w1 ⟨rfl, rfl⟩
  go_wp2
  go_ret
  exact ⟨rfl, by (repeat' (first | exact Below.refl _ _ | assumption | refine Below.drew ?_ | refine below_drewN ?_ _ | refine Below.alloc ?_ (by simp <;> omega) _ | refine Below.setCell ?_ (by simp <;> omega) _))⟩
theorem trightMulti (s : Sp) (w : World) : Calls Tryz.prog 168 #[spV s] w fun e w' => e = .returned (.bool (decide (1 ≤ s.p) && (decide (s.p ≤ 16) && (decide (1 ≤ s.q) && decide (s.q ≤ 64))))) ∧ Below w.heap.size w w' := by
  go_enter Tryz.func168, Tryz.ntmps168
  go_wp2
  all_goals (go_ret; exact ⟨ret_bool (by first | rfl | (simp; done) | (rw [Bool.eq_iff_iff]; simp; done) | (rw [Bool.eq_iff_iff]; simp; omega)), by (repeat' (first | exact Below.refl _ _ | assumption | refine Below.drew ?_ | refine below_drewN ?_ _ | refine Below.alloc ?_ (by simp <;> omega) _ | refine Below.setCell ?_ (by simp <;> omega) _))⟩)
theorem tactsUniv (s : Sp) (w : World) : Calls Tryz.prog 173 #[spV s] w fun e w' => e = .returned (.int .i64 (kindsI s.p)) ∧ Below w.heap.size w w' := by
  obtain ⟨K, hK⟩ : ∃ K, kindsI s.p = K := ⟨_, rfl⟩
  have N0 := fun W => kinds_any s.p W
  rw [hK] at N0 ⊢
  clear hK
  go_enter Tryz.func173, Tryz.ntmps173
  go_wp2_with fail
  refine (N0 _).mono ?_
  rintro e w1 ⟨rfl, hb⟩
  go_wp2
  go_ret
  exact ⟨rfl, ((Below.refl _ w).alloc (Nat.le_refl _) _).trans (hb.mono (by simp))⟩
theorem univRight (p q : Int) (w : World) : Calls Tryz.prog 176 #[.int .i64 p, .int .i64 q] w fun e w' => e = .returned (.bool (decide (0 < kindsI p) && (decide (1 ≤ q) && decide (q ≤ 256)))) ∧ Below w.heap.size w w' := by
  obtain ⟨K, hK⟩ : ∃ K, kindsI p = K := ⟨_, rfl⟩
  have N0 := fun W => kinds_any p W
  rw [hK] at N0 ⊢
  clear hK
  go_enter Tryz.func176, Tryz.ntmps176
  go_wp2_with fail
  refine (N0 _).mono ?_
  rintro e w1 ⟨rfl, hb⟩
  go_wp2
  all_goals (go_ret; exact ⟨ret_bool (by first | rfl | (simp; done) | (rw [Bool.eq_iff_iff]; simp; done) | (rw [Bool.eq_iff_iff]; simp; omega)), hb⟩)
theorem trightUniv (s : Sp) (w : World) : Calls Tryz.prog 175 #[spV s] w fun e w' => e = .returned (.bool (decide (0 < kindsI s.p) && (decide (1 ≤ s.q) && decide (s.q ≤ 256)))) ∧ Below w.heap.size w w' := by
  obtain ⟨R, hR⟩ : ∃ R, (decide (0 < kindsI s.p) && (decide (1 ≤ s.q) && decide (s.q ≤ 256))) = R := ⟨_, rfl⟩
  have N0 := fun W => univRight s.p s.q W
  rw [hR] at N0 ⊢
  clear hR
  go_enter Tryz.func175, Tryz.ntmps175
  go_wp2_with fail
  refine (N0 _).mono ?_
  rintro e w1 ⟨rfl, hb⟩
  go_wp2
  go_ret
  exact ⟨rfl, ((Below.refl _ w).alloc (Nat.le_refl _) _).trans (hb.mono (by simp))⟩
theorem tsizeUniv (n : Int) (s : Sp) (hn1 : 1 ≤ n) (hn2 : n ≤ 16) (h3 : 1 ≤ s.q) (h4 : s.q ≤ 256) (w : World) : Calls Tryz.prog 177 #[.int .i64 n, spV s] w fun e w' => e = .returned (.int .i64 (n + s.q)) ∧ Below w.heap.size w w' := by
  go_enter Tryz.func177, Tryz.ntmps177
  go_wp2
  go_ret
  exact ⟨rfl, by (repeat' (first | exact Below.refl _ _ | assumption | refine Below.drew ?_ | refine below_drewN ?_ _ | refine Below.alloc ?_ (by simp <;> omega) _ | refine Below.setCell ?_ (by simp <;> omega) _))⟩
theorem queueRight (p q : Int) (w : World) : Calls Tryz.prog 181 #[.int .i64 p, .int .i64 q] w fun e w' => e = .returned (.bool (decide (1 ≤ p) && (decide (p ≤ 32) && (decide (0 ≤ q) && decide (q ≤ 3))))) ∧ w' = w := by
  go_enter Tryz.func181, Tryz.ntmps181
  go_wp2
  all_goals (go_ret; exact ⟨ret_bool (by first | rfl | (simp; done) | (rw [Bool.eq_iff_iff]; simp; done) | (rw [Bool.eq_iff_iff]; simp; omega)), rfl⟩)
theorem trightQueue (s : Sp) (w : World) : Calls Tryz.prog 180 #[spV s] w fun e w' => e = .returned (.bool (decide (1 ≤ s.p) && (decide (s.p ≤ 32) && (decide (0 ≤ s.q) && decide (s.q ≤ 3))))) ∧ Below w.heap.size w w' := by
  obtain ⟨R, hR⟩ : ∃ R, (decide (1 ≤ s.p) && (decide (s.p ≤ 32) && (decide (0 ≤ s.q) && decide (s.q ≤ 3)))) = R := ⟨_, rfl⟩
  have N0 := fun W => queueRight s.p s.q W
  rw [hR] at N0 ⊢
  clear hR
  go_enter Tryz.func180, Tryz.ntmps180
  go_wp2_with fail
  refine (N0 _).mono ?_
  rintro e w1 ⟨rfl, rfl⟩
  go_wp2
  go_ret
  exact ⟨rfl, by (repeat' (first | exact Below.refl _ _ | assumption | refine Below.drew ?_ | refine below_drewN ?_ _ | refine Below.alloc ?_ (by simp <;> omega) _ | refine Below.setCell ?_ (by simp <;> omega) _))⟩
theorem nodeRight (n p : Int) (hn1 : 1 ≤ n) (hn2 : n ≤ 16) (h1 : 1 ≤ p) (h2 : p ≤ 32) (w : World) : Calls Tryz.prog 206 #[.int .i64 n, .int .i64 p] w fun e w' => e = .returned (.bool true) ∧ w' = w := by
  go_enter Tryz.func206, Tryz.ntmps206
  go_wp2
  all_goals (go_ret; exact ⟨ret_bool (by first | rfl | (simp; done) | (rw [Bool.eq_iff_iff]; simp; done) | (rw [Bool.eq_iff_iff]; simp; omega)), rfl⟩)
theorem nodeSize (n p : Int) (hn1 : 1 ≤ n) (hn2 : n ≤ 16) (h1 : 1 ≤ p) (h2 : p ≤ 32) (w : World) : Calls Tryz.prog 183 #[.int .i64 n, .int .i64 p] w fun e w' => e = .returned (.int .i64 (2 + n + 4 * (1 + n * p))) ∧ w' = w := by
  obtain ⟨a1, a2⟩ := mul_bd (show 0 ≤ n by omega) hn2 (show 0 ≤ p by omega) h2
  go_enter Tryz.func183, Tryz.ntmps183
  go_wp2_with fail
  refine (nodeRight n p hn1 hn2 h1 h2 _).mono ?_
  rintro e w1 ⟨rfl, rfl⟩
  go_wp2
  go_ret
  exact ⟨rfl, rfl⟩
theorem tsizeQueue (n : Int) (s : Sp) (hn1 : 1 ≤ n) (hn2 : n ≤ 16) (h1 : 1 ≤ s.p) (h2 : s.p ≤ 32) (w : World) : Calls Tryz.prog 182 #[.int .i64 n, spV s] w fun e w' => e = .returned (.int .i64 (2 + n + 4 * (1 + n * s.p))) ∧ Below w.heap.size w w' := by
  go_enter Tryz.func182, Tryz.ntmps182
  go_wp2_with fail
  refine (nodeSize n s.p hn1 hn2 h1 h2 _).mono ?_
  rintro e w1 ⟨rfl, rfl⟩
  go_wp2
  go_ret
  exact ⟨rfl, by (repeat' (first | exact Below.refl _ _ | assumption | refine Below.drew ?_ | refine below_drewN ?_ _ | refine Below.alloc ?_ (by simp <;> omega) _ | refine Below.setCell ?_ (by simp <;> omega) _))⟩
theorem pinSize (n p : Int) (hn1 : 1 ≤ n) (hn2 : n ≤ 16) (h1 : 1 ≤ p) (h2 : p ≤ 8) (w : World) : Calls Tryz.prog 187 #[.int .i64 n, .int .i64 p] w fun e w' => e = .returned (.int .i64 (1 + (n + 1) * (p + 1))) ∧ w' = w := by
  obtain ⟨a1, a2⟩ := mul_bd (show 0 ≤ n + 1 by omega) (show n + 1 ≤ 17 by omega) (show 0 ≤ p + 1 by omega) (show p + 1 ≤ 9 by omega)
  go_enter Tryz.func187, Tryz.ntmps187
  go_wp2
  go_ret
  exact ⟨rfl, rfl⟩
theorem tsizePin (n : Int) (s : Sp) (hn1 : 1 ≤ n) (hn2 : n ≤ 16) (h1 : 1 ≤ s.p) (h2 : s.p ≤ 8) (w : World) : Calls Tryz.prog 186 #[.int .i64 n, spV s] w fun e w' => e = .returned (.int .i64 (1 + (n + 1) * (s.p + 1))) ∧ Below w.heap.size w w' := by
  go_enter Tryz.func186, Tryz.ntmps186
  go_wp2_with fail
  refine (pinSize n s.p hn1 hn2 h1 h2 _).mono ?_
  rintro e w1 ⟨rfl, rfl⟩
  go_wp2
  go_ret
  exact ⟨rfl, by (repeat' (first | exact Below.refl _ _ | assumption | refine Below.drew ?_ | refine below_drewN ?_ _ | refine Below.alloc ?_ (by simp <;> omega) _ | refine Below.setCell ?_ (by simp <;> omega) _))⟩
end Go.Proofs.YtmiimpmfkjcjlaaGreat
