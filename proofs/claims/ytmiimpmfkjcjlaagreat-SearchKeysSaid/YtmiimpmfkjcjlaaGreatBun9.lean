import Derived.Test.YtmiimpmfkjcjlaaGreatBun1
import Derived.Test.YtmiimpmfkjcjlaaGreatBun8
import Derived.Test.YtmiimpmfkjcjlaaGreatProg
import Derived.Deep.QuietTactic
import Derived.BigQuiet
import Derived.Maps.AppendAt
import Derived.Test.YtmiimpmfkjcjlaaGreatBun5
namespace Go.Proofs.YtmiimpmfkjcjlaaGreat
def aheadE (a b : Ev) : Bool := decide (a.resp ≠ 0) && decide (a.resp < b.inv)
def aheadB (es : List Ev) (i k : Int) : Bool :=
  decide (0 ≤ i ∧ 0 ≤ k ∧ i < es.length ∧ k < es.length) && (match es[i.toNat]?, es[k.toNat]? with | some a, some b => aheadE a b | _, _ => false)
def mayB (e : Ev) (ticks : Int) : Bool :=
  decide (1 ≤ e.inv ∧ e.inv ≤ ticks ∧ 1 ≤ e.steps) && (decide (e.resp = 0) || decide (e.inv ≤ e.resp ∧ e.resp ≤ ticks ∧ e.steps - 1 ≤ e.resp - e.inv))
def evCall (cs : List Cl) (e : Ev) : Option Cl := if 0 ≤ e.call ∧ e.call < cs.length then cs[e.call.toNat]? else none
theorem evCall_some {cs : List Cl} {e : Ev} (h : 0 ≤ e.call ∧ e.call < cs.length) : ∃ c, cs[e.call.toNat]? = some c ∧ evCall cs e = some c := by
  have hl : e.call.toNat < cs.length := by omega
  exact ⟨cs[e.call.toNat], List.getElem?_eq_getElem hl, by unfold evCall; rw [if_pos h, List.getElem?_eq_getElem hl]⟩
theorem evCall_none {cs : List Cl} {e : Ev} (h : ¬ (0 ≤ e.call ∧ e.call < cs.length)) : evCall cs e = none := by unfold evCall; rw [if_neg h]
def invAt (es : List Ev) : Nat → Int
  | 0 => 0
  | k + 1 => ((es[k]?).map (·.inv)).getD 0
def fstB (n : Int) (cs : List Cl) (es : List Ev) (ticks : Int) (k : Nat) : Bool :=
  match es[k]? with
  | none => false
  | some e => match evCall cs e with
    | none => false
    | some c => decide (0 ≤ c.thread ∧ c.thread < n) && mayB e ticks && decide (invAt es k < e.inv)
theorem fstB_eq {n : Int} {cs : List Cl} {es : List Ev} {ticks : Int} {k : Nat} {e : Ev} {c : Cl} (he : es[k]? = some e) (hc : evCall cs e = some c) :
    fstB n cs es ticks k = (decide (0 ≤ c.thread ∧ c.thread < n) && mayB e ticks && decide (invAt es k < e.inv)) := by unfold fstB; rw [he]; simp only [hc]
theorem fstB_none {n : Int} {cs : List Cl} {es : List Ev} {ticks : Int} {k : Nat} {e : Ev} (he : es[k]? = some e) (hc : evCall cs e = none) : fstB n cs es ticks k = false := by
  unfold fstB; rw [he]; simp only [hc]
theorem fstB_true {n : Int} {cs : List Cl} {es : List Ev} {ticks : Int} {k : Nat} (h : fstB n cs es ticks k = true) :
    ∃ e c, es[k]? = some e ∧ evCall cs e = some c ∧ (0 ≤ c.thread ∧ c.thread < n) ∧ mayB e ticks = true ∧ invAt es k < e.inv := by
  unfold fstB at h
  split at h
  · cases h
  · rename_i e he
    split at h
    · cases h
    · rename_i c hc
      simp only [Bool.and_eq_true, decide_eq_true_eq] at h
      exact ⟨e, c, he, hc, h.1.1, h.1.2, h.2⟩
theorem fstAll_succ {n : Int} {cs : List Cl} {es : List Ev} {ticks : Int} {k : Nat} (h : ∀ j, j < k → fstB n cs es ticks j = true) (hk : fstB n cs es ticks k = true) : ∀ j, j < k + 1 → fstB n cs es ticks j = true := by
  intro j hj
  by_cases h' : j = k
  · subst h'; exact hk
  · exact h j (by omega)
def sndB (cs : List Cl) (es : List Ev) (k i : Nat) : Bool :=
  match es[k]?, es[i]? with
  | some d, some e => !decide ((evCall cs d).map (·.thread) = (evCall cs e).map (·.thread)) || (aheadE d e && decide (d.call < e.call))
  | _, _ => false
theorem sndB_eq {cs : List Cl} {es : List Ev} {k i : Nat} {d e : Ev} (hd : es[k]? = some d) (he : es[i]? = some e) :
    sndB cs es k i = (!decide ((evCall cs d).map (·.thread) = (evCall cs e).map (·.thread)) || (aheadE d e && decide (d.call < e.call))) := by unfold sndB; rw [hd, he]
theorem sndAll_succ {cs : List Cl} {es : List Ev} {i : Nat} (h : ∀ a, a < i → ∀ j, j < a → sndB cs es j a = true) (hk : ∀ j, j < i → sndB cs es j i = true) : ∀ a, a < i + 1 → ∀ j, j < a → sndB cs es j a = true := by
  intro a ha
  by_cases h' : a = i
  · subst h'; exact hk
  · exact h a (by omega)
theorem sndTo_succ {cs : List Cl} {es : List Ev} {i j : Nat} (h : ∀ a, a < j → sndB cs es a i = true) (hk : sndB cs es j i = true) : ∀ a, a < j + 1 → sndB cs es a i = true := by
  intro a ha
  by_cases h' : a = j
  · subst h'; exact hk
  · exact h a (by omega)
theorem evCall_bounds {cs : List Cl} {e : Ev} {c : Cl} (h : evCall cs e = some c) : 0 ≤ e.call ∧ e.call < cs.length ∧ cs[e.call.toNat]? = some c := by
  unfold evCall at h
  split at h
  · rename_i hc; exact ⟨hc.1, hc.2, h⟩
  · cases h
def refB (n : Int) (cs : List Cl) (es : List Ev) (ticks : Int) : Bool :=
  (List.range es.length).all (fstB n cs es ticks) && (List.range es.length).all fun i => (List.range i).all fun k => sndB cs es k i
theorem refB_false1 {n : Int} {cs : List Cl} {es : List Ev} {ticks : Int} {k : Nat} (hk : k < es.length) (h : fstB n cs es ticks k = false) : refB n cs es ticks = false := by
  unfold refB
  have : (List.range es.length).all (fstB n cs es ticks) = false := by rw [List.all_eq_false]; exact ⟨k, by simpa using hk, by simp [h]⟩
  rw [this]; rfl
theorem refB_false2 {n : Int} {cs : List Cl} {es : List Ev} {ticks : Int} {k i : Nat} (hi : i < es.length) (hk : k < i) (h : sndB cs es k i = false) : refB n cs es ticks = false := by
  unfold refB
  have : (List.range es.length).all (fun i => (List.range i).all fun k => sndB cs es k i) = false := by
    rw [List.all_eq_false]
    refine ⟨i, by simpa using hi, ?_⟩
    simp only [Bool.not_eq_true]
    rw [List.all_eq_false]
    exact ⟨k, by simpa using hk, by simp [h]⟩
  rw [this, Bool.and_false]
theorem refB_true {n : Int} {cs : List Cl} {es : List Ev} {ticks : Int} (h1 : ∀ k, k < es.length → fstB n cs es ticks k = true) (h2 : ∀ i, i < es.length → ∀ k, k < i → sndB cs es k i = true) : refB n cs es ticks = true := by
  unfold refB
  rw [Bool.and_eq_true, List.all_eq_true, List.all_eq_true]
  refine ⟨fun k hk => h1 k (by simpa using hk), fun i hi => ?_⟩
  rw [List.all_eq_true]
  exact fun k hk => h2 i (by simpa using hi) k (by simpa using hk)
theorem invAt_succ {es : List Ev} {k : Nat} {e : Ev} (he : es[k]? = some e) : invAt es (k + 1) = e.inv := by simp [invAt, he]
theorem invAt_pos {es : List Ev} {k : Nat} {e : Ev} (hk : 0 < k) (he : es[k - 1]? = some e) : invAt es k = e.inv := by
  obtain ⟨k, rfl⟩ : ∃ j, k = j + 1 := ⟨k - 1, by omega⟩
  exact invAt_succ (by simpa using he)
theorem aheadB_nat {es : List Ev} {j k : Nat} {d e : Ev} (hd : es[j]? = some d) (he : es[k]? = some e) : aheadB es j k = aheadE d e := by
  have h1 := (List.getElem?_eq_some_iff.1 hd).1
  have h2 := (List.getElem?_eq_some_iff.1 he).1
  unfold aheadB
  rw [decide_eq_true (by omega)]
  simp [hd, he]
theorem aheadE_iff {a b : Ev} : aheadE a b = true ↔ a.resp ≠ 0 ∧ a.resp < b.inv := by unfold aheadE; simp
end Go.Proofs.YtmiimpmfkjcjlaaGreat

namespace Go.Proofs.YtmiimpmfkjcjlaaGreat
def kcmp : List Int → List Int → Int
  | [], [] => 0
  | [], _ :: _ => -1
  | _ :: _, [] => 1
  | x :: a, y :: b => if x < y then -1 else if y < x then 1 else kcmp a b
theorem kcmp_anti : ∀ a b, kcmp a b < 0 ↔ 0 < kcmp b a
  | [], [] => by simp [kcmp]
  | [], _ :: _ => by simp [kcmp]
  | _ :: _, [] => by simp [kcmp]
  | x :: a, y :: b => by
    have ih := kcmp_anti a b
    unfold kcmp
    repeat' split
    all_goals first | omega | exact ih
theorem kcmp_trans : ∀ a b c, kcmp a b ≤ 0 → kcmp b c ≤ 0 → kcmp a c ≤ 0
  | [], b, [], _, _ => by simp [kcmp]
  | [], b, _ :: _, _, _ => by simp [kcmp]
  | x :: a, [], c, h, _ => by simp [kcmp] at h
  | x :: a, y :: b, [], _, h => by simp [kcmp] at h
  | x :: a, y :: b, z :: c, h1, h2 => by
    have ih := kcmp_trans a b c
    unfold kcmp at h1 h2 ⊢
    repeat' split at h1
    all_goals repeat' split at h2
    all_goals repeat' split
    all_goals first | omega | exact ih h1 h2
def cfK (ky : Nat → List Int) (x y : Int) : Int := kcmp (ky x.toNat) (ky y.toNat)
theorem cfK_ok (ky : Nat → List Int) : CmpOk (cfK ky) := ⟨fun _ _ => kcmp_anti _ _, fun _ _ _ => kcmp_trans _ _ _⟩
def LtK (ky : Nat → List Int) (a b : Nat) : Prop := Lt (cfK ky) (a : Int) (b : Int)
def IsOrd (ky : Nat → List Int) (m : Nat) (L : List Nat) : Prop := L.Pairwise (LtK ky) ∧ ∀ x, x ∈ L ↔ x < m ∧ ky x ≠ []
theorem LtK.irr {ky : Nat → List Int} {a : Nat} (h : LtK ky a a) : False := Lt.irr (cfK_ok ky) h
theorem LtK.trans {ky : Nat → List Int} {a b c : Nat} (h1 : LtK ky a b) (h2 : LtK ky b c) : LtK ky a c := Lt.trans (cfK_ok ky) h1 h2
theorem pair_one {ky : Nat → List Int} : ∀ {L M : List Nat}, L.Pairwise (LtK ky) → M.Pairwise (LtK ky) → (∀ x, x ∈ L ↔ x ∈ M) → L = M
  | [], [], _, _, _ => rfl
  | [], b :: M, _, _, h => by
    have := (h b).2 (by simp)
    simp at this
  | a :: L, [], _, _, h => by
    have := (h a).1 (by simp)
    simp at this
  | a :: L, b :: M, h1, h2, h => by
    rw [List.pairwise_cons] at h1 h2
    have hab : a = b := by
      rcases List.mem_cons.1 ((h a).1 (by simp)) with e | e
      · exact e
      · rcases List.mem_cons.1 ((h b).2 (by simp)) with e' | e'
        · exact e'.symm
        · exact (LtK.irr (LtK.trans (h2.1 a e) (h1.1 b e'))).elim
    subst hab
    congr 1
    refine pair_one h1.2 h2.2 (fun x => ⟨fun hx => ?_, fun hx => ?_⟩)
    · rcases List.mem_cons.1 ((h x).1 (List.mem_cons_of_mem _ hx)) with e | e
      · subst e
        exact (LtK.irr (h1.1 x hx)).elim
      · exact e
    · rcases List.mem_cons.1 ((h x).2 (List.mem_cons_of_mem _ hx)) with e | e
      · subst e
        exact (LtK.irr (h2.1 x hx)).elim
      · exact e
theorem IsOrd.one {ky : Nat → List Int} {m : Nat} {L M : List Nat} (h1 : IsOrd ky m L) (h2 : IsOrd ky m M) : L = M :=
  pair_one h1.1 h2.1 (fun x => (h1.2 x).trans (h2.2 x).symm)
section
variable (n : Int) (specs : List Sp) (calls : List Cl) (es : List Ev) (ls : Nat → List Int)
def stepC (sts : List (List Int)) (e : Ev) (l : List Int) (c : Cl) : List (List Int) × Bool :=
  if ¬ (0 ≤ c.obj ∧ c.obj < specs.length) then (sts, decide (e.resp = 0) || (decide (e.err = 12) && (decide (e.val = 0) && decide (l = [])))) else
  if e.resp = 0 then (sts.set c.obj.toNat (applyM n ((specs[c.obj.toNat]?).getD ⟨0, 0, 0⟩) ((sts[c.obj.toNat]?).getD []) c).1, true)
  else (sts.set c.obj.toNat (legalM n ((specs[c.obj.toNat]?).getD ⟨0, 0, 0⟩) ((sts[c.obj.toNat]?).getD []) c ⟨e.err, e.val, l⟩).1, (legalM n ((specs[c.obj.toNat]?).getD ⟨0, 0, 0⟩) ((sts[c.obj.toNat]?).getD []) c ⟨e.err, e.val, l⟩).2)
def stepL (sts : List (List Int)) (i : Nat) : List (List Int) × Bool :=
  match es[i]? with
  | none => (sts, false)
  | some e => match calls[e.call.toNat]? with
    | none => (sts, false)
    | some c => stepC n specs sts e (ls i) c
def runL : List Nat → List (List Int) → Option Nat
  | [], _ => none
  | i :: r, sts => if (stepL n specs calls es ls sts i).2 = true then runL r (stepL n specs calls es ls sts i).1 else some i
def freeB (order : List Nat) (i : Nat) : Bool := decide (i ∉ order) && (List.range es.length).all fun k => decide (k ∈ order) || !(aheadB es k i)
def wholeB (order : List Nat) : Bool := (List.range es.length).all fun i => (match es[i]? with | some e => decide (e.resp = 0) | none => true) || decide (i ∈ order)
def srch : Nat → List Nat → List (List Int) → Bool
  | 0, order, _ => wholeB es order
  | f + 1, order, sts => wholeB es order || (List.range es.length).any fun i => freeB es order i && ((stepL n specs calls es ls sts i).2 && srch f (order ++ [i]) (stepL n specs calls es ls sts i).1)
end
def aheadK (es : List Ev) (ky : Nat → List Int) : Bool := (List.range es.length).all fun i => (List.range es.length).all fun k => !(aheadB es i k) || (decide (ky i = []) || (decide (ky k = []) || decide (kcmp (ky i) (ky k) < 0)))
theorem nodup_le : ∀ {m : Nat} {l : List Nat}, l.Nodup → (∀ x ∈ l, x < m) → l.length ≤ m
  | 0, [], _, _ => Nat.le_refl _
  | 0, x :: l, _, h => by have := h x (by simp); omega
  | m + 1, l, h1, h2 => by
    have h3 := nodup_le (m := m) (h1.erase m) (fun x hx => by
      have h4 := (h1.mem_erase_iff).1 hx
      have := h2 x h4.2
      have := h4.1
      omega)
    have h5 := List.length_erase (a := m) (l := l)
    split at h5 <;> omega
theorem nodup_all {m : Nat} {l : List Nat} (h1 : l.Nodup) (h2 : ∀ x ∈ l, x < m) (h3 : l.length = m) {i : Nat} (hi : i < m) : i ∈ l := by
  refine Classical.byContradiction fun hn => ?_
  have := nodup_le (m := m) (l := i :: l) (List.nodup_cons.2 ⟨hn, h1⟩) (fun x hx => by
    rcases List.mem_cons.1 hx with rfl | hx
    · exact hi
    · exact h2 x hx)
  simp at this
  omega
theorem IsOrd.nodup {ky : Nat → List Int} {m : Nat} {L : List Nat} (h : IsOrd ky m L) : L.Nodup := by
  refine h.1.imp (fun {a b} hab e => ?_)
  subst e
  exact LtK.irr hab
theorem freeB_iff {es : List Ev} {order : List Nat} {i : Nat} : freeB es order i = true ↔ i ∉ order ∧ ∀ k, k < es.length → k ∉ order → aheadB es k i = false := by
  unfold freeB
  rw [Bool.and_eq_true, decide_eq_true_eq, List.all_eq_true]
  refine and_congr Iff.rfl ⟨fun h k hk hn => ?_, fun h k hk => ?_⟩
  · have := h k (by simpa using hk)
    simpa [hn] using this
  · by_cases hn : k ∈ order
    · simp [hn]
    · simp [hn, h k (by simpa using hk) hn]
theorem wholeB_iff {es : List Ev} {order : List Nat} : wholeB es order = true ↔ ∀ i e, es[i]? = some e → e.resp ≠ 0 → i ∈ order := by
  unfold wholeB
  rw [List.all_eq_true]
  refine ⟨fun h i e he hr => ?_, fun h i hi => ?_⟩
  · have := h i (by simpa using (List.getElem?_eq_some_iff.1 he).1)
    rw [he] at this
    simpa [hr] using this
  · have hi' : i < es.length := by simpa using hi
    rw [List.getElem?_eq_getElem hi']
    by_cases hr : es[i].resp = 0
    · simp [hr]
    · simp [h i _ (List.getElem?_eq_getElem hi') hr]
theorem srch_ok {n : Int} {specs : List Sp} {calls : List Cl} {es : List Ev} {ls ky : Nat → List Int} (ha : aheadK es ky = true) (hk : ∀ i e, es[i]? = some e → e.resp ≠ 0 → ky i ≠ []) :
    ∀ (R P : List Nat) (sts : List (List Int)) (f : Nat), IsOrd ky es.length (P ++ R) → R.length ≤ f → runL n specs calls es ls R sts = none → srch n specs calls es ls f P sts = true
  | [], P, sts, f, h, _, _ => by
    have hw : wholeB es P = true := wholeB_iff.2 fun i e he hr => by
      have := (h.2 i).2 ⟨(List.getElem?_eq_some_iff.1 he).1, hk i e he hr⟩
      simpa using this
    cases f
    · exact hw
    · unfold srch
      rw [hw, Bool.true_or]
  | i :: R, P, sts, 0, _, hf, _ => by simp at hf
  | i :: R, P, sts, f + 1, h, hf, hr => by
    have hmem := (h.2 i).1 (by simp)
    have hok : (stepL n specs calls es ls sts i).2 = true := by
      unfold runL at hr
      split at hr
      · assumption
      · cases hr
    have hr' : runL n specs calls es ls R (stepL n specs calls es ls sts i).1 = none := by
      unfold runL at hr
      rwa [if_pos hok] at hr
    have ih := srch_ok (n := n) (specs := specs) (calls := calls) (ls := ls) ha hk R (P ++ [i]) (stepL n specs calls es ls sts i).1 f (by simpa using h) (by simp at hf; omega) hr'
    have hpw := List.pairwise_append.1 h.1
    have hfree : freeB es P i = true := freeB_iff.2 ⟨fun hi => LtK.irr (hpw.2.2 i hi i (by simp)), fun k hkl hkn => by
      rcases hb : aheadB es k i with _ | _
      · rfl
      · have hkr : ky k ≠ [] := by
          obtain ⟨e, he⟩ : ∃ e, es[k]? = some e := ⟨_, List.getElem?_eq_getElem hkl⟩
          obtain ⟨e', he'⟩ : ∃ e', es[i]? = some e' := ⟨_, List.getElem?_eq_getElem hmem.1⟩
          rw [aheadB_nat he he', aheadE_iff] at hb
          exact hk k e he hb.1
        have hlt : kcmp (ky k) (ky i) < 0 := by
          unfold aheadK at ha
          rw [List.all_eq_true] at ha
          have h1 := ha k (by simpa using hkl)
          rw [List.all_eq_true] at h1
          have h2 := h1 i (by simpa using hmem.1)
          rw [hb] at h2
          simpa [hkr, hmem.2] using h2
        have hki : LtK ky k i := Or.inl hlt
        rcases List.mem_append.1 ((h.2 k).2 ⟨hkl, hkr⟩) with hp | hp
        · exact absurd hp hkn
        · rcases List.mem_cons.1 hp with rfl | hp
          · exact (LtK.irr hki).elim
          · have := (List.pairwise_cons.1 hpw.2.1).1 k hp
            exact (LtK.irr (LtK.trans hki this)).elim⟩
    unfold srch
    rw [Bool.or_eq_true, List.any_eq_true]
    exact Or.inr ⟨i, by simpa using hmem.1, by rw [hfree, hok, ih]; rfl⟩
end Go.Proofs.YtmiimpmfkjcjlaaGreat

namespace Go.Proofs.YtmiimpmfkjcjlaaGreat
open Go.RowKit
set_option maxHeartbeats 400000 in
theorem ahead_any (v : Value) (es : List Ev) (i k : Int) (w : World) (h : SlEv w v es) :
    Calls Tryz.prog 102 #[v, .int .i64 i, .int .i64 k] w fun e w' => e = .returned (.bool (aheadB es i k)) ∧ ∃ n, w' = w.drewN n := by
  obtain ⟨A, c, rfl, h1, h2, h3⟩ := h
  by_cases hc : 0 ≤ i ∧ 0 ≤ k ∧ i < es.length ∧ k < es.length
  · obtain ⟨hi, hk, hil, hkl⟩ := hc
    obtain ⟨i, rfl⟩ := Int.eq_ofNat_of_zero_le hi
    obtain ⟨k, rfl⟩ := Int.eq_ofNat_of_zero_le hk
    have hil' : i < es.length := by omega
    have hkl' : k < es.length := by omega
    obtain ⟨b, o, rfl, hb, hca⟩ := h3 i _ (List.getElem?_eq_getElem hil')
    obtain ⟨b', o', hA, _, hcb⟩ := h3 k _ (List.getElem?_eq_getElem hkl')
    simp only [Option.some.injEq, Addr.mk.injEq, and_true] at hA
    obtain ⟨rfl, rfl⟩ := hA
    obtain ⟨_, _, ca, _⟩ := ev_cells hca
    obtain ⟨_, cb, _⟩ := ev_cells hcb
    have hB : Hid (aheadB es (i : Int) (k : Int) = aheadE es[i] es[k]) := by
      show _ = _
      unfold aheadB
      simp [hil', hkl']
    clear h3 hca hcb
    generalize es[i] = ea at *
    generalize es[k] = eb at *
    rw [hB.out]
    by_cases hr : ea.resp = 0
    · have e1 : decide (ea.resp ≠ 0) = false := by simp [hr]
      have hfin : Hid (aheadE ea eb = false) := by show _ = _; unfold aheadE; rw [e1]; rfl
      rw [hfin.out]
      have e2 : (ea.resp == 0) = true := by simp [hr]
      have e3 : (ea.resp != 0) = false := by simp [hr]
      clear hr e1
      go_enter Tryz.func102, Tryz.ntmps102
      go_wp2
      go_quiet (fail)
      go_wp2
      go_ret
      exact ⟨rfl, _, rfl⟩
    · have hfin : Hid (aheadE ea eb = decide (ea.resp < eb.inv)) := by show _ = _; unfold aheadE; simp [hr]
      rw [hfin.out]
      have e2 : (ea.resp == 0) = false := by simp [hr]
      have e3 : (ea.resp != 0) = true := by simp [hr]
      clear hr
      go_enter Tryz.func102, Tryz.ntmps102
      go_wp2
      go_quiet (fail)
      go_wp2
      go_ret
      exact ⟨rfl, _, rfl⟩
  · have hB : Hid (aheadB es i k = false) := by show _ = _; unfold aheadB; rw [decide_eq_false hc]; rfl
    rw [hB.out]
    clear h3 hB
    go_enter Tryz.func102, Tryz.ntmps102
    go_wp2
    all_goals first | (exfalso; omega) | (go_ret; exact ⟨rfl, 0, rfl⟩)
end Go.Proofs.YtmiimpmfkjcjlaaGreat

namespace Go.Proofs.YtmiimpmfkjcjlaaGreat
open Go.RowKit
theorem info_int : (Tryz.prog.info? 3).map (fun i => (i.zero, i.size, i.bytes)) = some (some (.int .i64 0), 1, 8) := by kernel_rfl
abbrev IOwn (w : World) (B : Nat) (v : Value) (n : Nat) (xs : List Int) : Prop := w.ownsRow B 3 1 v n (xs.map (Value.int .i64))
end Go.Proofs.YtmiimpmfkjcjlaaGreat

namespace Go.Proofs.YtmiimpmfkjcjlaaGreat
open Go.RowKit
abbrev ordI (L : List Nat) : List Int := L.map fun k : Nat => (k : Int)
theorem mem_ordI {L : List Nat} {i : Nat} : (i : Int) ∈ ordI L ↔ i ∈ L := by
  rw [List.mem_map]
  exact ⟨fun ⟨j, hj, e⟩ => by have : j = i := by omega
                              subst this; exact hj, fun h => ⟨i, h, rfl⟩⟩
set_option maxRecDepth 100000 in
set_option maxHeartbeats 1000000 in
theorem index_any (v : Value) (xs : List Int) (x : Int) (w : World) (h : SlI w v xs) :
    Calls Tryz.prog 202 #[v, .int .i64 x] w fun e w' => ∃ r : Int, e = .returned (.int .i64 r) ∧ decide (0 ≤ r) = decide (x ∈ xs) ∧ w' = w := by
  obtain ⟨A, cap, rfl, h1, h2, h3⟩ := h
  have hlen : (xs.length : Int) ≤ 9223372036854775807 := by unfold maxLen at h2; omega
  go_enter Tryz.func202, Tryz.ntmps202
  go_wp2
  go_loopw [8] (fun i wr => ∃ k : Nat, k ≤ xs.length ∧ i = .int .i64 k ∧ Hid (∀ j, j < k → xs[j]? ≠ some x) ∧ wr = w) (fun i _ => xs.length - (intOf i).toNat)
  case atStart => exact ⟨0, Nat.zero_le _, rfl, hide (fun j hj => by omega), rfl⟩
  case round =>
    obtain ⟨k, hk, rfl, hok, rfl⟩ := hrel
    by_cases hlt : k < xs.length
    · obtain ⟨y, hy⟩ : ∃ y, xs[k]? = some y := ⟨_, List.getElem?_eq_getElem hlt⟩
      obtain ⟨b, o, rfl, hb, hc⟩ := h3 k y hy
      have c1 := nt_cell hc
      simp only [Nat.mul_one] at c1
      have q0 : (0 : Int) ≤ (k : Int) := by omega
      have q1 : (k : Int) < (xs.length : Int) := by omega
      clear hc
      by_cases hxy : x = y
      · have e1 : (x == y) = true := by simp [hxy]
        have HM : Hid (x ∈ xs) := hide (by subst hxy; exact List.mem_of_getElem? hy)
        clear hxy hy h3
        go_wp2
        go_ret
        exact ⟨k, rfl, by rw [decide_eq_true HM.out]; simp, rfl⟩
      · have e1 : (x == y) = false := by simp [hxy]
        have HN : Hid (∀ j, j < k + 1 → xs[j]? ≠ some x) := hide (fun j hj => by
          by_cases hjk : j = k
          · subst hjk; rw [hy]; intro e; exact hxy (Option.some.inj e).symm
          · exact hok.out j (by omega))
        clear hxy hy
        go_wp2
        go_roundw
        case rel => exact ⟨k + 1, by omega, by go_num, HN, trivial⟩
        case measure => first | (simp [intOf]; done) | (simp [intOf]; omega)
    · have HN : Hid (x ∉ xs) := hide (fun hm => by
        obtain ⟨j, hj⟩ := List.mem_iff_getElem?.1 hm
        exact hok.out j (by have := (List.getElem?_eq_some_iff.1 hj).1; omega) hj)
      clear h3
      go_wp2
      go_ret
      exact ⟨-1, rfl, by rw [decide_eq_false HN.out]; simp, rfl⟩
theorem contains_any (v : Value) (xs : List Int) (x : Int) (w : World) (h : SlI w v xs) :
    Calls Tryz.prog 156 #[v, .int .i64 x] w fun e w' => e = .returned (.bool (decide (x ∈ xs))) ∧ w' = w := by
  have N := index_any v xs x w h
  have h' := h
  obtain ⟨A, cap, rfl, h1, h2, h3⟩ := h
  clear h3 h'
  go_enter Tryz.func156, Tryz.ntmps156
  go_wp2_with fail
  refine N.mono ?_
  rintro e w1 ⟨r, rfl, hr, rfl⟩
  have HR := hide hr
  clear hr N
  go_wp2
  go_ret
  exact ⟨ret_bool HR.out, rfl⟩
theorem contains_ord (v : Value) (L : List Nat) (i : Nat) (w : World) (h : SlI w v (ordI L)) :
    Calls Tryz.prog 156 #[v, .int .i64 (i : Int)] w fun e w' => e = .returned (.bool (decide (i ∈ L))) ∧ w' = w := by
  refine (contains_any v (ordI L) i w h).mono ?_
  rintro e w' ⟨rfl, rfl⟩
  exact ⟨ret_bool (by simp only [mem_ordI]), rfl⟩
def SsAt (w : World) (b : Nat) (n : Int) (S C L : Value) : Prop := w.heap[b]? = some (.cells #[.int .i64 n, S, C, L] 100 (0, 0))
theorem SsAt.below {w w' : World} {b : Nat} {n : Int} {S C L : Value} (h : SsAt w b n S C L) (hb : Below w.heap.size w w') : SsAt w' b n S C L := (hb.block b (Array.getElem?_eq_some_iff.1 h).1).trans h
theorem wholeB_no {es : List Ev} {L : List Nat} {k : Nat} {e : Ev} (he : es[k]? = some e) (hr : e.resp ≠ 0) (hn : k ∉ L) : wholeB es L = false := by
  rcases h : wholeB es L with _ | _
  · rfl
  · exact absurd (wholeB_iff.1 h k e he hr) hn
set_option maxRecDepth 100000 in
set_option maxHeartbeats 2000000 in
theorem swhole_any (b : Nat) (n : Int) (S C ve v : Value) (es : List Ev) (L : List Nat) (w : World) (hS : SsAt w b n S C ve) (hes : SlEv w ve es) (hL : SlI w v (ordI L)) :
    Calls Tryz.prog 94 #[.pointer (some ⟨b, 0, none⟩), v] w fun e w' => e = .returned (.bool (wholeB es L)) ∧ Below w.heap.size w w' := by
  obtain ⟨A, cap, rfl, h1, h2, h3⟩ := id hes
  have hlen : (es.length : Int) ≤ 9223372036854775807 := by unfold maxLen at h2; omega
  obtain ⟨a0, a1, a2, a3, bz⟩ := cells4 hS
  obtain ⟨LA, lc, rfl, _⟩ := id hL
  have hll : (ordI L).length = L.length := by simp
  rw [hll] at hL ⊢
  clear hll
  obtain ⟨R, hR⟩ : ∃ R, wholeB es L = R := ⟨_, rfl⟩
  rw [hR]
  have HR := hide hR
  have HL := hide hL
  clear hR hL hS hes
  go_enter Tryz.func94, Tryz.ntmps94
  go_wp2
  go_loopw [12] (fun i wr => ∃ k : Nat, k ≤ es.length ∧ i = .int .i64 k ∧ Hid (∀ j e, j < k → es[j]? = some e → e.resp ≠ 0 → j ∈ L) ∧ Hid (Below w.heap.size w wr)) (fun i _ => es.length - (intOf i).toNat)
  case atStart => exact ⟨0, Nat.zero_le _, rfl, hide (fun j _ hj => by omega), hide (Below.refl _ _)⟩
  case round =>
    obtain ⟨k, hk, rfl, hok, hB⟩ := hrel
    by_cases hlt : k < es.length
    · obtain ⟨e, hee⟩ : ∃ e, es[k]? = some e := ⟨_, List.getElem?_eq_getElem hlt⟩
      obtain ⟨g, o, rfl, hg, hce⟩ := h3 k e hee
      obtain ⟨c0, c1, c2, c3, c4, c5, c6, c7⟩ := ev_cells (hce.of_block (w' := wr) (hB.out.block g hg))
      have q0 : (0 : Int) ≤ (k : Int) := by omega
      have q1 : (k : Int) < (es.length : Int) := by omega
      have hz := hB.out.size
      clear hce h3
      by_cases hr : e.resp = 0
      · have r1 : (e.resp == 0) = true := by simp [hr]
        have r2 : (e.resp != 0) = false := by simp [hr]
        have HN : Hid (∀ j e, j < k + 1 → es[j]? = some e → e.resp ≠ 0 → j ∈ L) := hide (fun j e' hj he' hr' => by
          by_cases hjk : j = k
          · subst hjk; rw [hee] at he'; cases he'; exact absurd hr hr'
          · exact hok.out j e' (by omega) he' hr')
        clear hee hr
        go_wp2
        go_roundw
        case rel =>
          have hq := hB.out
          exact ⟨k + 1, by omega, by go_num, HN, hide (by (repeat' (first | with_reducible assumption | with_reducible exact Below.refl _ _ | with_reducible refine Below.drew ?_ | with_reducible refine below_drewN ?_ _ | with_reducible refine Below.alloc ?_ ?_ _ | with_reducible refine Below.setCell ?_ ?_ _ | omega | (simp; done) | (simp; omega))))⟩
        case measure => first | (simp [intOf]; done) | (simp [intOf]; omega)
      · have r1 : (e.resp == 0) = false := by simp [hr]
        have r2 : (e.resp != 0) = true := by simp [hr]
        have HLr : Hid (∀ W, Below wr.heap.size wr W → SlI W (.slice LA L.length lc) (ordI L)) := hide (fun W hW => HL.out.below (hB.out.trans (hW.mono hz)) (Nat.le_refl _))
        have N := fun W hW => contains_ord _ L k W (HLr.out W hW)
        by_cases hm : k ∈ L
        · have HN : Hid (∀ j e, j < k + 1 → es[j]? = some e → e.resp ≠ 0 → j ∈ L) := hide (fun j e' hj he' hr' => by
            by_cases hjk : j = k
            · subst hjk; exact hm
            · exact hok.out j e' (by omega) he' hr')
          rw [decide_eq_true hm] at N
          clear hee hm
          go_wp2_with fail
          refine (N _ ?_).mono ?_
          · (repeat' (first | with_reducible assumption | with_reducible exact Below.refl _ _ | with_reducible refine Below.drew ?_ | with_reducible refine below_drewN ?_ _ | with_reducible refine Below.alloc ?_ ?_ _ | with_reducible refine Below.setCell ?_ ?_ _ | omega | (simp; done) | (simp; omega)))
          rintro e' w1 ⟨rfl, rfl⟩
          clear N
          go_wp2
          go_roundw
          case rel =>
            have hq := hB.out
            exact ⟨k + 1, by omega, by go_num, HN, hide (by (repeat' (first | with_reducible assumption | with_reducible exact Below.refl _ _ | with_reducible refine Below.drew ?_ | with_reducible refine below_drewN ?_ _ | with_reducible refine Below.alloc ?_ ?_ _ | with_reducible refine Below.setCell ?_ ?_ _ | omega | (simp; done) | (simp; omega))))⟩
          case measure => first | (simp [intOf]; done) | (simp [intOf]; omega)
        · have HF : Hid (false = R) := hide (by rw [← HR.out, wholeB_no hee hr hm])
          rw [decide_eq_false hm] at N
          clear hee hm hr
          go_wp2_with fail
          refine (N _ ?_).mono ?_
          · (repeat' (first | with_reducible assumption | with_reducible exact Below.refl _ _ | with_reducible refine Below.drew ?_ | with_reducible refine below_drewN ?_ _ | with_reducible refine Below.alloc ?_ ?_ _ | with_reducible refine Below.setCell ?_ ?_ _ | omega | (simp; done) | (simp; omega)))
          rintro e' w1 ⟨rfl, rfl⟩
          clear N
          go_wp2
          go_ret
          have hq := hB.out
          exact ⟨ret_bool HF.out, by (repeat' (first | with_reducible assumption | with_reducible exact Below.refl _ _ | with_reducible refine Below.drew ?_ | with_reducible refine below_drewN ?_ _ | with_reducible refine Below.alloc ?_ ?_ _ | with_reducible refine Below.setCell ?_ ?_ _ | omega | (simp; done) | (simp; omega)))⟩
    · have HT : Hid (true = R) := hide (by rw [← HR.out, wholeB_iff.2 (fun i e he hr => hok.out i e (by have := (List.getElem?_eq_some_iff.1 he).1; omega) he hr)])
      clear h3
      go_wp2
      go_ret
      exact ⟨ret_bool HT.out, hB.out⟩
theorem freeB_no {es : List Ev} {L : List Nat} {k i : Nat} (hk : k < es.length) (hn : k ∉ L) (ha : aheadB es k i = true) : freeB es L i = false := by
  rcases h : freeB es L i with _ | _
  · rfl
  · rw [(freeB_iff.1 h).2 k hk hn] at ha; cases ha
theorem freeB_in {es : List Ev} {L : List Nat} {i : Nat} (hn : i ∈ L) : freeB es L i = false := by
  rcases h : freeB es L i with _ | _
  · rfl
  · exact absurd hn (freeB_iff.1 h).1
set_option maxRecDepth 100000 in
set_option maxHeartbeats 2000000 in
theorem sfree_any (b : Nat) (n : Int) (S C ve v : Value) (es : List Ev) (L : List Nat) (i : Nat) (w : World) (hS : SsAt w b n S C ve) (hes : SlEv w ve es) (hL : SlI w v (ordI L)) :
    Calls Tryz.prog 95 #[.pointer (some ⟨b, 0, none⟩), v, .int .i64 (i : Int)] w fun e w' => e = .returned (.bool (freeB es L i)) ∧ Below w.heap.size w w' := by
  obtain ⟨A, cap, rfl, h1, h2, h3⟩ := id hes
  have hlen : (es.length : Int) ≤ 9223372036854775807 := by unfold maxLen at h2; omega
  obtain ⟨a0, a1, a2, a3, bz⟩ := cells4 hS
  obtain ⟨LA, lc, rfl, _⟩ := id hL
  have hll : (ordI L).length = L.length := by simp
  rw [hll] at hL ⊢
  clear hll
  obtain ⟨R, hR⟩ : ∃ R, freeB es L i = R := ⟨_, rfl⟩
  rw [hR]
  have HR := hide hR
  have HL := hide hL
  have HE := hide hes
  have N0 := contains_ord _ L i w hL
  clear hR hL hS hes h3
  by_cases hi : i ∈ L
  · have HF : Hid (false = R) := hide (by rw [← HR.out, freeB_in hi])
    rw [decide_eq_true hi] at N0
    clear hi
    go_enter Tryz.func95, Tryz.ntmps95
    go_wp2_with fail
    refine N0.mono ?_
    rintro e' w1 ⟨rfl, rfl⟩
    go_wp2
    go_ret
    exact ⟨ret_bool HF.out, Below.refl _ _⟩
  · have HI := hide hi
    rw [decide_eq_false hi] at N0
    clear hi
    go_enter Tryz.func95, Tryz.ntmps95
    go_wp2_with fail
    refine N0.mono ?_
    rintro e' w1 ⟨rfl, rfl⟩
    clear N0
    go_wp2
    go_loopw [16] (fun j wr => ∃ k : Nat, k ≤ es.length ∧ j = .int .i64 k ∧ Hid (∀ j, j < k → j ∉ L → aheadB es j i = false) ∧ ∃ m, wr = w1.drewN m) (fun i _ => es.length - (intOf i).toNat)
    case atStart => exact ⟨0, Nat.zero_le _, rfl, hide (fun j hj => by omega), 0, rfl⟩
    case round =>
      obtain ⟨k, hk, rfl, hok, m, rfl⟩ := hrel
      by_cases hlt : k < es.length
      · have q0 : (0 : Int) ≤ (k : Int) := by omega
        have q1 : (k : Int) < (es.length : Int) := by omega
        have N := contains_ord _ L k (w1.drewN m) (HL.out.drewN m)
        by_cases hm : k ∈ L
        · have HN : Hid (∀ j, j < k + 1 → j ∉ L → aheadB es j i = false) := hide (fun j hj hjn => by
            by_cases hjk : j = k
            · subst hjk; exact absurd hm hjn
            · exact hok.out j (by omega) hjn)
          rw [decide_eq_true hm] at N
          clear hm
          go_wp2_with fail
          refine N.mono ?_
          rintro e' w2 ⟨rfl, rfl⟩
          clear N
          go_wp2
          go_roundw
          case rel => exact ⟨k + 1, by omega, by go_num, HN, m, rfl⟩
          case measure => first | (simp [intOf]; done) | (simp [intOf]; omega)
        · rw [decide_eq_false hm] at N
          have NA := ahead_any (.slice A es.length cap) es (k : Int) (i : Int) (w1.drewN m) (HE.out.drewN m)
          rcases hah : aheadB es (k : Int) (i : Int) with _ | _
          · have HN : Hid (∀ j, j < k + 1 → j ∉ L → aheadB es j i = false) := hide (fun j hj hjn => by
              by_cases hjk : j = k
              · subst hjk; exact hah
              · exact hok.out j (by omega) hjn)
            rw [hah] at NA
            clear hm hah
            go_wp2_with fail
            refine N.mono ?_
            rintro e' w2 ⟨rfl, rfl⟩
            clear N
            go_wp2_with fail
            refine NA.mono ?_
            rintro e' w2 ⟨rfl, m2, rfl⟩
            clear NA
            go_wp2
            go_roundw
            case rel => exact ⟨k + 1, by omega, by go_num, HN, _, rfl⟩
            case measure => first | (simp [intOf]; done) | (simp [intOf]; omega)
          · have HF : Hid (false = R) := hide (by rw [← HR.out, freeB_no hlt hm hah])
            rw [hah] at NA
            clear hm hah
            go_wp2_with fail
            refine N.mono ?_
            rintro e' w2 ⟨rfl, rfl⟩
            clear N
            go_wp2_with fail
            refine NA.mono ?_
            rintro e' w2 ⟨rfl, m2, rfl⟩
            clear NA
            go_wp2
            go_ret
            exact ⟨ret_bool HF.out, below_drewN (Below.refl _ _) _⟩
      · have HT : Hid (true = R) := hide (by rw [← HR.out, freeB_iff.2 ⟨HI.out, fun j hj hjn => hok.out j (by omega) hjn⟩])
        go_wp2
        go_ret
        exact ⟨ret_bool HT.out, below_drewN (Below.refl _ _) _⟩
end Go.Proofs.YtmiimpmfkjcjlaaGreat
