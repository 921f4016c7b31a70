import Derived.Test.YtlfingcmekifkaaGreatBun14
import Derived.Test.YtlfingcmekifkaaGreatLq1
import Derived.Test.YtlfingcmekifkaaGreatBun4
import Derived.Test.YtlfingcmekifkaaGreatBun10
namespace Go.Proofs.YtlfingcmekifkaaGreat
open Go.RowKit
def padL (m : Nat) (l : List Int) : List Int := l ++ List.replicate (m - l.length) 0
def at9 (l : List Int) (j : Nat) : Int := (l[j]?).getD 0
theorem padL_at (m : Nat) (l : List Int) (j : Nat) : at9 (padL m l) j = at9 l j := by
  unfold at9 padL
  by_cases h : j < l.length
  · rw [List.getElem?_append_left h]
  · rw [List.getElem?_append_right (by omega), List.getElem?_eq_none (Nat.le_of_not_lt h)]
    rw [List.getElem?_replicate]
    split <;> rfl
theorem padL_len {m : Nat} {l : List Int} (h : l.length ≤ m) : (padL m l).length = m := by unfold padL; simp; omega
theorem at9_set {l : List Int} {i j : Nat} {x : Int} (h : i < l.length) : at9 (l.set i x) j = if j = i then x else at9 l j := by
  unfold at9
  by_cases e : j = i
  · subst e
    rw [if_pos rfl, List.getElem?_set_self h]
    rfl
  · rw [if_neg e, List.getElem?_set_ne (fun e' => e e'.symm)]
def llDo (P : Int) : Dof := fun t c T W =>
  if c.kind < 0 ∨ 2 < c.kind then ({ T with err := 9 }, W)
  else if P ≤ c.a ∨ (c.kind = 1 ∧ two32 ≤ c.b) then ({ T with err := 10 }, W)
  else if c.kind ≠ 0 ∧ at9 T.priv (2 * c.a.toNat) = 0 then ({ T with err := 8 }, W)
  else if c.kind = 0 then ({ (T.acc t 0 c.a 0 0 W).2.1 with val := (T.acc t 0 c.a 0 0 W).1 % two32, priv := ((padL (2 * P.toNat) T.priv).set (2 * c.a.toNat) 1).set (2 * c.a.toNat + 1) (T.acc t 0 c.a 0 0 W).1 }, (T.acc t 0 c.a 0 0 W).2.2)
  else if c.kind = 1 then ({ (T.acc t 2 c.a (at9 T.priv (2 * c.a.toNat + 1)) (llNext (at9 T.priv (2 * c.a.toNat + 1)) c.b) W).2.1 with val := if (T.acc t 2 c.a (at9 T.priv (2 * c.a.toNat + 1)) (llNext (at9 T.priv (2 * c.a.toNat + 1)) c.b) W).1 = 1 then 1 else T.val, priv := (padL (2 * P.toNat) T.priv).set (2 * c.a.toNat) 0 }, (T.acc t 2 c.a (at9 T.priv (2 * c.a.toNat + 1)) (llNext (at9 T.priv (2 * c.a.toNat + 1)) c.b) W).2.2)
  else ({ (T.acc t 0 c.a 0 0 W).2.1 with val := if (T.acc t 0 c.a 0 0 W).1 = at9 T.priv (2 * c.a.toNat + 1) then 1 else T.val, priv := padL (2 * P.toNat) T.priv }, (T.acc t 0 c.a 0 0 W).2.2)
def llOwn (P : Int) (o : Ll) (t : Nat) (ow : Nat → List Int) : Prop :=
  o.size = P ∧ (ow 0).length ≤ 2 * P.toNat ∧ ∀ i : Nat, (i : Int) < P → o.links t i = if at9 (ow 0) (2 * i) = 0 then none else some (at9 (ow 0) (2 * i + 1))
def llRep (P : Int) (o : Ll) (t : Nat) (c : Cl) (ow : Nat → List Int) (T : Tp) (m : Lo × An) : Prop := T.got = [] ∧ m.1 = llStart o t c ∧ llOwn P o t ow
def llA (P : Int) : Alike llG (llDo P) 1 := ⟨llOwn P, llRep P⟩
theorem llGo_other {o : Ll} {lw : Lw} {t s : Nat} {m : Lo} (h : s ≠ t) : (llGo o lw t m).1.size = o.size ∧ ∀ q, (llGo o lw t m).1.links s q = o.links s q := by
  have hl : ∀ p x, (llLink o t p x).size = o.size ∧ ∀ q, (llLink o t p x).links s q = o.links s q := fun p x => ⟨rfl, fun q => if_neg (fun e => h e.1)⟩
  cases m with
  | no e => exact ⟨rfl, fun _ => rfl⟩
  | op c =>
    unfold llGo
    dsimp only
    split
    · exact hl _ _
    · split
      · exact hl _ _
      · exact ⟨rfl, fun _ => rfl⟩
theorem llOwn.other {P : Int} {o o' : Ll} {s : Nat} {ow : Nat → List Int} (h : llOwn P o s ow) (h1 : o'.size = o.size) (h2 : ∀ q, o'.links s q = o.links s q) : llOwn P o' s ow :=
  ⟨by rw [h1]; exact h.1, h.2.1, fun i hi => by rw [h2]; exact h.2.2 i hi⟩
theorem llRep.other {P : Int} {o o' : Ll} {s : Nat} {c : Cl} {ow : Nat → List Int} {T : Tp} {m : Lo × An} (h : llRep P o s c ow T m) (h1 : o'.size = o.size) (h2 : ∀ q, o'.links s q = o.links s q) : llRep P o' s c ow T m := by
  refine ⟨h.1, ?_, h.2.2.other h1 h2⟩
  rw [h.2.1]
  unfold llStart llWrong
  rw [h1, h2]
theorem wrel_acc {lw : Lw} {W : Rw} (h : WRel lw W) (k a x y : Int) (l : List Ac) : WRel { lw with mem := lw.mem.acc k a x y } { W with mem := W.mem.acc k a x y, log := l } := by
  obtain ⟨w1, w2, w3, w4⟩ := h
  exact ⟨by show W.mem.acc _ _ _ _ = _; rw [w1], w2, w3, w4⟩
theorem tell2 (m : Mm) (a x : Int) : m.tell 2 a x = 0 ∨ m.tell 2 a x = 1 := by
  unfold Mm.tell acV
  split
  · rw [if_neg (by decide), if_neg (by decide), if_pos rfl]
    split
    · exact Or.inr rfl
    · exact Or.inl rfl
  · exact Or.inl rfl
theorem ll_alike {P : Int} (hP : 1 ≤ P ∧ P ≤ 64) : (llA P).Ok := by
  refine ⟨?_, ?_, ?_, ?_, ?_, ?_⟩
  · intro o t c ow inv ho hc ht hu
    exact ⟨rfl, rfl, ho⟩
  · intro o t s c ow hst ho
    exact ho
  · intro o t s c c' ow T m hst hr
    exact hr
  · intro o t c ow T m lw W hr hW hu hct ht
    obtain ⟨g0, hm, ho⟩ := hr
    obtain ⟨h1, h2, h3⟩ := ho
    have hW' := hW
    obtain ⟨w1, w2, w3, w4⟩ := hW
    show WRel (llGo o lw t m.1).2.1 _ ∧ _ = !true ∧ (true = false → _) ∧ (true = true → llOwn P (llGo o lw t m.1).1 t _ ∧ ((llGo o lw t m.1).2.2, ([] : List Int)) = _)
    rw [hm]
    by_cases q1 : c.obj ≠ 0
    · have hs : llStart o t c = .no 12 := if_pos q1
      have hrun : runT (llDo P) 1 t c ow T W = ({ T.again with err := 12 }, W) := if_neg (by omega)
      rw [hs, hrun]
      refine ⟨hW', rfl, (fun h => by cases h), fun _ => ⟨?_, rfl⟩⟩
      rw [if_neg (by omega)]
      exact ⟨h1, h2, h3⟩
    have q0 : c.obj = 0 := by omega
    have hown : ∀ l : List Int, (if 0 ≤ c.obj ∧ c.obj < (1 : Nat) then upd ow c.obj.toNat l else ow) = upd ow 0 l := fun l => by rw [if_pos (by omega), q0]; rfl
    have hsame : llOwn P o t (upd ow 0 (ow c.obj.toNat)) := by
      refine ⟨h1, ?_, ?_⟩
      · rw [upd_same, q0]; exact h2
      · rw [upd_same, q0]; exact h3
    by_cases q2 : c.kind < 0 ∨ 2 < c.kind
    · have hs : llStart o t c = .no 9 := by unfold llStart llWrong; rw [if_neg q1, if_pos q2]; rfl
      have hrun : runT (llDo P) 1 t c ow T W = ({ T.again with priv := ow c.obj.toNat, err := 9 }, W) := by unfold runT llDo; rw [if_pos (by omega), if_pos q2]
      rw [hs, hrun]
      refine ⟨hW', rfl, (fun h => by cases h), fun _ => ⟨?_, rfl⟩⟩
      rw [hown]
      exact hsame
    by_cases q3 : P ≤ c.a ∨ (c.kind = 1 ∧ two32 ≤ c.b)
    · have hs : llStart o t c = .no 10 := by unfold llStart llWrong; rw [if_neg q1, if_neg q2, h1, if_pos q3]; rfl
      have hrun : runT (llDo P) 1 t c ow T W = ({ T.again with priv := ow c.obj.toNat, err := 10 }, W) := by unfold runT llDo; rw [if_pos (by omega), if_neg q2, if_pos q3]
      rw [hs, hrun]
      refine ⟨hW', rfl, (fun h => by cases h), fun _ => ⟨?_, rfl⟩⟩
      rw [hown]
      exact hsame
    obtain ⟨i, hi⟩ : ∃ i : Nat, c.a = (i : Int) := ⟨c.a.toNat, by have := hu.1.1; omega⟩
    have hit : c.a.toNat = i := by omega
    have hiP : (i : Int) < P := by omega
    have hl := h3 i hiP
    rw [← hi] at hl
    by_cases q4 : c.kind ≠ 0 ∧ at9 (ow 0) (2 * i) = 0
    · have hw : llWrong o t c = 8 := by
        unfold llWrong
        rw [if_neg q2, h1, if_neg q3, hl, if_pos q4.2]
        exact if_pos ⟨q4.1, rfl⟩
      have hs : llStart o t c = .no 8 := by
        unfold llStart
        rw [if_neg q1, hw]
        rfl
      have hrun : runT (llDo P) 1 t c ow T W = ({ T.again with priv := ow c.obj.toNat, err := 8 }, W) := by
        unfold runT llDo
        rw [if_pos (by omega), if_neg q2, if_neg q3, if_pos (by rw [q0, hit]; exact q4)]
      rw [hs, hrun]
      refine ⟨hW', rfl, (fun h => by cases h), fun _ => ⟨?_, rfl⟩⟩
      rw [hown]
      exact hsame
    have hw : llWrong o t c = 0 := by
      unfold llWrong
      rw [if_neg q2, h1, if_neg q3]
      refine if_neg ?_
      rintro ⟨k1, k2⟩
      rw [hl] at k2
      by_cases e : at9 (ow 0) (2 * i) = 0
      · exact q4 ⟨k1, e⟩
      · rw [if_neg e] at k2
        cases k2
    have hs : llStart o t c = .op c := by
      unfold llStart
      rw [if_neg q1, hw]
      rfl
    rw [hs]
    let T1 : Tp := { T.again with priv := ow c.obj.toNat }
    have hacc : ∀ k x y, T1.acc t k c.a x y W = (W.mem.tell k c.a x, { T1 with fresh := false, got := T1.got ++ [W.mem.tell k c.a x], tks := T1.tks ++ [W.now], at_ := T1.at_ + 1 }, { W with mem := W.mem.acc k c.a x y, log := W.log1 t k c.a x y }) := fun k x y => acc_new rfl rfl (by show 0 = T.got.length; rw [g0]; rfl)
    have hpriv : T1.priv = ow 0 := by show ow c.obj.toNat = _; rw [q0]; rfl
    have hlen : (padL (2 * P.toNat) (ow 0)).length = 2 * P.toNat := padL_len h2
    by_cases k0 : c.kind = 0
    · have hrun : runT (llDo P) 1 t c ow T W = llDo P t c T1 W := if_pos (by omega)
      have hdo : llDo P t c T1 W = ({ (T1.acc t 0 c.a 0 0 W).2.1 with val := (T1.acc t 0 c.a 0 0 W).1 % two32, priv := ((padL (2 * P.toNat) (ow 0)).set (2 * i) 1).set (2 * i + 1) (T1.acc t 0 c.a 0 0 W).1 }, (T1.acc t 0 c.a 0 0 W).2.2) := by
        unfold llDo
        rw [if_neg q2, if_neg q3, if_neg (by omega), if_pos k0, hpriv, hit]
      rw [hrun, hdo, hacc]
      have hgo : llGo o lw t (.op c) = (llLink o t c.a (some (lw.mem.tell 0 c.a 0)), { lw with mem := lw.mem.acc 0 c.a 0 0 }, ⟨0, lw.mem.tell 0 c.a 0 % two32, []⟩) := if_pos k0
      rw [hgo, w1]
      refine ⟨by have := wrel_acc hW' 0 c.a 0 0 (W.log1 t 0 c.a 0 0); rw [w1] at this; exact this, rfl, (fun h => by cases h), fun _ => ⟨?_, rfl⟩⟩
      rw [hown]
      refine ⟨h1, ?_, fun j hj => ?_⟩
      · rw [upd_same]; simp only [List.length_set]; omega
      · rw [upd_same]
        show (if t = t ∧ (j : Int) = c.a then some (lw.mem.tell 0 c.a 0) else o.links t j) = if at9 (((padL (2 * P.toNat) (ow 0)).set (2 * i) 1).set (2 * i + 1) (lw.mem.tell 0 c.a 0)) (2 * j) = 0 then none else some (at9 (((padL (2 * P.toNat) (ow 0)).set (2 * i) 1).set (2 * i + 1) (lw.mem.tell 0 c.a 0)) (2 * j + 1))
        have hl1 : 2 * i < (padL (2 * P.toNat) (ow 0)).length := by omega
        have hl2 : 2 * i + 1 < ((padL (2 * P.toNat) (ow 0)).set (2 * i) 1).length := by rw [List.length_set]; omega
        rw [at9_set hl2, at9_set hl2, at9_set hl1, at9_set hl1, padL_at, padL_at]
        by_cases e : j = i
        · subst e
          have u1 : ¬ (2 * j = 2 * j + 1) := by omega
          rw [if_pos ⟨rfl, hi.symm⟩]
          simp only [u1, if_false, if_true]
          rfl
        · have u1 : ¬ (2 * j = 2 * i + 1) := by omega
          have u2 : ¬ (2 * j = 2 * i) := by omega
          have u3 : ¬ (2 * j + 1 = 2 * i + 1) := by omega
          have u4 : ¬ (2 * j + 1 = 2 * i) := by omega
          simp only [u1, u2, u3, u4, if_false]
          exact (if_neg (fun e' => e (by have := e'.2; omega))).trans (h3 j hj)
    · have hx : at9 (ow 0) (2 * i) ≠ 0 := fun e => q4 ⟨k0, e⟩
      rw [if_neg hx] at hl
      by_cases k1 : c.kind = 1
      · have hrun : runT (llDo P) 1 t c ow T W = llDo P t c T1 W := if_pos (by omega)
        obtain ⟨x, hxe⟩ : ∃ x, at9 (ow 0) (2 * i + 1) = x := ⟨_, rfl⟩
        rw [hxe] at hl
        have hdo : llDo P t c T1 W = ({ (T1.acc t 2 c.a x (llNext x c.b) W).2.1 with val := if (T1.acc t 2 c.a x (llNext x c.b) W).1 = 1 then 1 else T1.val, priv := (padL (2 * P.toNat) (ow 0)).set (2 * i) 0 }, (T1.acc t 2 c.a x (llNext x c.b) W).2.2) := by
          unfold llDo
          rw [if_neg q2, if_neg q3, if_neg (by rw [hpriv, hit]; exact q4), if_neg k0, if_pos k1, hpriv, hit, hxe]
        rw [hrun, hdo, hacc]
        have hgo : llGo o lw t (.op c) = (llLink o t c.a none, { lw with mem := lw.mem.acc 2 c.a x (llNext x c.b) }, ⟨0, lw.mem.tell 2 c.a x, []⟩) := by
          unfold llGo
          dsimp only
          rw [if_neg k0, if_pos k1, hl]
          rfl
        rw [hgo, w1]
        have htell : (if lw.mem.tell 2 c.a x = 1 then (1 : Int) else 0) = lw.mem.tell 2 c.a x := by
          rcases tell2 lw.mem c.a x with h | h <;> rw [h] <;> rfl
        refine ⟨by have := wrel_acc hW' 2 c.a x (llNext x c.b) (W.log1 t 2 c.a x (llNext x c.b)); rw [w1] at this; exact this, rfl, (fun h => by cases h), fun _ => ⟨?_, ?_⟩⟩
        · rw [hown]
          refine ⟨h1, ?_, fun j hj => ?_⟩
          · rw [upd_same]; simp only [List.length_set]; omega
          · rw [upd_same, at9_set (by omega), at9_set (by omega), padL_at, padL_at]
            show (if t = t ∧ (j : Int) = c.a then none else o.links t j) = _
            by_cases e : j = i
            · subst e
              rw [if_pos ⟨rfl, hi.symm⟩, if_pos rfl]
              rfl
            · have u2 : ¬ (2 * j = 2 * i) := by omega
              have u4 : ¬ (2 * j + 1 = 2 * i) := by omega
              simp only [u2, u4, if_false]
              exact (if_neg (fun e' => e (by have := e'.2; omega))).trans (h3 j hj)
        · show _ = ((⟨0, if lw.mem.tell 2 c.a x = 1 then 1 else 0, []⟩ : An), ([] : List Int))
          rw [htell]
      · have hrun : runT (llDo P) 1 t c ow T W = llDo P t c T1 W := if_pos (by omega)
        obtain ⟨x, hxe⟩ : ∃ x, at9 (ow 0) (2 * i + 1) = x := ⟨_, rfl⟩
        rw [hxe] at hl
        have hdo : llDo P t c T1 W = ({ (T1.acc t 0 c.a 0 0 W).2.1 with val := if (T1.acc t 0 c.a 0 0 W).1 = x then 1 else T1.val, priv := padL (2 * P.toNat) (ow 0) }, (T1.acc t 0 c.a 0 0 W).2.2) := by
          unfold llDo
          rw [if_neg q2, if_neg q3, if_neg (by rw [hpriv, hit]; exact q4), if_neg k0, if_neg k1, hpriv, hit, hxe]
        rw [hrun, hdo, hacc]
        have hgo : llGo o lw t (.op c) = (o, { lw with mem := lw.mem.acc 0 c.a 0 0 }, ⟨0, if lw.mem.tell 0 c.a 0 = x then 1 else 0, []⟩) := by
          unfold llGo
          dsimp only
          rw [if_neg k0, if_neg k1, hl]
          rfl
        rw [hgo, w1]
        refine ⟨by have := wrel_acc hW' 0 c.a 0 0 (W.log1 t 0 c.a 0 0); rw [w1] at this; exact this, rfl, (fun h => by cases h), fun _ => ⟨?_, rfl⟩⟩
        rw [hown]
        refine ⟨h1, ?_, fun j hj => ?_⟩
        · rw [upd_same]; show (padL (2 * P.toNat) (ow 0)).length ≤ _; omega
        · rw [upd_same]
          show _ = if at9 (padL (2 * P.toNat) (ow 0)) (2 * j) = 0 then none else some (at9 (padL (2 * P.toNat) (ow 0)) (2 * j + 1))
          rw [padL_at, padL_at]
          exact h3 j hj
  · intro o t s c2 ow2 T2 ow m lw hst _ ho
    obtain ⟨e1, e2⟩ := llGo_other (o := o) (lw := lw) (m := m.1) hst
    exact ho.other e1 e2
  · intro o t s c2 ow2 T2 c' ow T m m' lw hst _ hr
    obtain ⟨e1, e2⟩ := llGo_other (o := o) (lw := lw) (m := m.1) hst
    exact hr.other e1 e2
end Go.Proofs.YtlfingcmekifkaaGreat

namespace Go.Proofs.YtlfingcmekifkaaGreat
open Go.RowKit
structure Ways (n N : Nat) (vis right down : Nat → Nat → Nat → Prop) : Prop where
  lt : ∀ t r c, vis t r c → t < n ∧ r ≤ N ∧ c ≤ N
  came : ∀ t r c, vis t r c → (r = 0 ∧ c = 0) ∨ (0 < c ∧ right t r (c - 1)) ∨ (0 < r ∧ down t (r - 1) c)
  rt : ∀ t r c, right t r c → vis t r c ∧ vis t r (c + 1)
  dn : ∀ t r c, down t r c → vis t r c ∧ vis t (r + 1) c
  last : ∀ t r c, vis t r c → ¬ right t r c → ¬ down t r c → ∀ r' c', vis t r' c' → r' ≤ r ∧ c' ≤ c
  notR : ∀ t r c, vis t r c → ∃ s, vis s r c ∧ ¬ right s r c
  notD : ∀ t r c, vis t r c → ∃ s, vis s r c ∧ ¬ down s r c
end Go.Proofs.YtlfingcmekifkaaGreat

namespace Go.Proofs.YtlfingcmekifkaaGreat
open Go.RowKit
structure Grid (n : Nat) (vis right down : Nat → Nat → Nat → Prop) (cur : Nat → Option (Nat × Nat × Nat)) (La Sh : Nat → Nat → Int) : Prop where
  at' : ∀ t r c pc, cur t = some (r, c, pc) → t < n ∧ pc ≤ 4 ∧ vis t r c ∧ ¬ right t r c ∧ ¬ down t r c ∧ ∀ r' c', vis t r' c' → r' ≤ r ∧ c' ≤ c
  was : ∀ t r c, vis t r c → ∃ r' c' pc, cur t = some (r', c', pc) ∧ ((r = r' ∧ c = c') ∨ right t r c ∨ down t r c)
  came : ∀ t r c, vis t r c → (r = 0 ∧ c = 0) ∨ (0 < c ∧ right t r (c - 1)) ∨ (0 < r ∧ down t (r - 1) c)
  rt : ∀ t r c, right t r c → vis t r c ∧ vis t r (c + 1)
  dn : ∀ t r c, down t r c → vis t r c ∧ vis t (r + 1) c
  bd : ∃ N, ∀ t r c, vis t r c → r ≤ N ∧ c ≤ N
  gone : ∀ t r c, right t r c ∨ down t r c → Sh r c ≠ 0
  shut3 : ∀ t r c pc, cur t = some (r, c, pc) → 3 ≤ pc → Sh r c ≠ 0
  sh1 : ∀ r c, Sh r c ≠ 0 → ∃ s, vis s r c ∧ ¬ right s r c ∧ (down s r c ∨ ∃ pc, 3 ≤ pc ∧ cur s = some (r, c, pc))
  la0 : ∀ r c, La r c = 0 → ∀ t, vis t r c → cur t = some (r, c, 0)
  la1 : ∀ r c, La r c ≠ 0 → ∃ q : Nat, La r c = q + 1 ∧ vis q r c ∧ ¬ down q r c ∧ cur q ≠ some (r, c, 0)
  st : ∀ p r c, cur p = some (r, c, 4) → ∀ q pc, q ≠ p → cur q = some (r, c, pc) → 2 ≤ pc → La r c ≠ q + 1 ∧ pc ≠ 4
theorem Grid.new (n : Nat) : Grid n (fun _ _ _ => False) (fun _ _ _ => False) (fun _ _ _ => False) (fun _ => none) (fun _ _ => 0) (fun _ _ => 0) := by
  refine ⟨fun _ _ _ _ h => ?_, fun _ _ _ h => h.elim, fun _ _ _ h => h.elim, fun _ _ _ h => h.elim, fun _ _ _ h => h.elim, ⟨0, fun _ _ _ h => h.elim⟩, fun _ _ _ h => ?_, fun _ _ _ _ h => ?_, fun _ _ h => absurd rfl h, fun _ _ _ _ h => h.elim, fun _ _ h => absurd rfl h, fun _ _ _ h => ?_⟩
  · cases h
  · rcases h with h | h <;> exact h.elim
  · cases h
  · cases h
section
variable {n : Nat} {vis right down : Nat → Nat → Nat → Prop} {cur : Nat → Option (Nat × Nat × Nat)} {La Sh : Nat → Nat → Int}
theorem upd_some {t u : Nat} {x y : Nat × Nat × Nat} (h : upd cur t (some x) u = some y) : (u = t ∧ x = y) ∨ (u ≠ t ∧ cur u = some y) := by
  by_cases e : u = t
  · subst e
    rw [upd_same] at h
    exact .inl ⟨rfl, Option.some.inj h⟩
  · rw [upd_other e] at h
    exact .inr ⟨e, h⟩
def updC (f : Nat → Nat → Int) (r c : Nat) (x : Int) : Nat → Nat → Int := fun i j => if i = r ∧ j = c then x else f i j
theorem updC_same {f : Nat → Nat → Int} {r c : Nat} {x : Int} : updC f r c x r c = x := if_pos ⟨rfl, rfl⟩
theorem updC_other {f : Nat → Nat → Int} {r c i j : Nat} {x : Int} (h : ¬ (i = r ∧ j = c)) : updC f r c x i j = f i j := if_neg h
theorem Grid.last (G : Grid n vis right down cur La Sh) {t r c : Nat} (h : cur t = some (r, c, 0)) : Grid n vis right down (upd cur t (some (r, c, 1))) (updC La r c (t + 1)) Sh := by
  obtain ⟨a1, a2, a3, a4, a5, a6⟩ := G.at' t r c 0 h
  refine ⟨fun u r' c' pc hu => ?_, fun u r' c' hv => ?_, G.came, G.rt, G.dn, G.bd, G.gone, fun u r' c' pc hu h3 => ?_, fun r' c' hs => ?_, fun r' c' hl u hv => ?_, fun r' c' hl => ?_, fun p r' c' hp q pc hqp hq h2 => ?_⟩
  · rcases upd_some hu with ⟨rfl, h'⟩ | ⟨_, h'⟩
    · cases h'
      exact ⟨a1, by omega, a3, a4, a5, a6⟩
    · exact G.at' u _ _ _ h'
  · by_cases e : u = t
    · subst e
      obtain ⟨r1, c1, pc, h1, h2⟩ := G.was u r' c' hv
      rw [h] at h1
      cases h1
      exact ⟨r, c, 1, upd_same _ _ _, h2⟩
    · rw [upd_other e]
      exact G.was u r' c' hv
  · rcases upd_some hu with ⟨rfl, h'⟩ | ⟨_, h'⟩
    · cases h'
      omega
    · exact G.shut3 u _ _ _ h' h3
  · obtain ⟨s, h1, h2, h3⟩ := G.sh1 r' c' hs
    refine ⟨s, h1, h2, ?_⟩
    rcases h3 with h3 | ⟨pc, h3, h4⟩
    · exact .inl h3
    · refine .inr ⟨pc, h3, ?_⟩
      rw [upd_other ?_]
      · exact h4
      · rintro rfl
        rw [h] at h4
        cases h4
        omega
  · by_cases e : r' = r ∧ c' = c
    · obtain ⟨rfl, rfl⟩ := e
      rw [updC_same] at hl
      omega
    · rw [updC_other e] at hl
      have := G.la0 r' c' hl u hv
      rw [upd_other ?_]
      · exact this
      · rintro rfl
        rw [h] at this
        cases this
        exact e ⟨rfl, rfl⟩
  · by_cases e : r' = r ∧ c' = c
    · obtain ⟨rfl, rfl⟩ := e
      rw [updC_same]
      refine ⟨t, rfl, a3, a5, ?_⟩
      rw [upd_same]
      intro h
      cases h
    · rw [updC_other e] at hl ⊢
      obtain ⟨q, h1, h2, h3, h4⟩ := G.la1 r' c' hl
      refine ⟨q, h1, h2, h3, ?_⟩
      by_cases e' : q = t
      · subst e'
        rw [upd_same]
        intro h
        cases h
      · rw [upd_other e']
        exact h4
  · rcases upd_some hp with ⟨_, h'⟩ | ⟨hpt, hp'⟩
    · cases h'
    · rcases upd_some hq with ⟨_, h'⟩ | ⟨hqt, hq'⟩
      · cases h'
        omega
      · obtain ⟨h4, h5⟩ := G.st p r' c' hp' q pc hqp hq' h2
        refine ⟨?_, h5⟩
        by_cases e : r' = r ∧ c' = c
        · obtain ⟨rfl, rfl⟩ := e
          rw [updC_same]
          omega
        · rw [updC_other e]
          exact h4
theorem Grid.shut (G : Grid n vis right down cur La Sh) {t r c : Nat} (h : cur t = some (r, c, 2)) : Grid n vis right down (upd cur t (some (r, c, 3))) La (updC Sh r c 1) := by
  obtain ⟨a1, a2, a3, a4, a5, a6⟩ := G.at' t r c 2 h
  have hmono : ∀ i j, Sh i j ≠ 0 → updC Sh r c 1 i j ≠ 0 := by
    intro i j hs
    by_cases e : i = r ∧ j = c
    · obtain ⟨rfl, rfl⟩ := e
      rw [updC_same]
      decide
    · rw [updC_other e]
      exact hs
  refine ⟨fun u r' c' pc hu => ?_, fun u r' c' hv => ?_, G.came, G.rt, G.dn, G.bd, fun u r' c' h => hmono _ _ (G.gone u r' c' h), fun u r' c' pc hu h3 => ?_, fun r' c' hs => ?_, fun r' c' hl u hv => ?_, fun r' c' hl => ?_, fun p r' c' hp q pc hqp hq h2 => ?_⟩
  · rcases upd_some hu with ⟨rfl, h'⟩ | ⟨_, h'⟩
    · cases h'
      exact ⟨a1, by omega, a3, a4, a5, a6⟩
    · exact G.at' u _ _ _ h'
  · by_cases e : u = t
    · subst e
      obtain ⟨r1, c1, pc, h1, h2⟩ := G.was u r' c' hv
      rw [h] at h1
      cases h1
      exact ⟨r, c, 3, upd_same _ _ _, h2⟩
    · rw [upd_other e]
      exact G.was u r' c' hv
  · rcases upd_some hu with ⟨rfl, h'⟩ | ⟨_, h'⟩
    · cases h'
      rw [updC_same]
      decide
    · exact hmono _ _ (G.shut3 u _ _ _ h' h3)
  · by_cases e : r' = r ∧ c' = c
    · obtain ⟨rfl, rfl⟩ := e
      exact ⟨t, a3, a4, .inr ⟨3, Nat.le_refl _, upd_same _ _ _⟩⟩
    · rw [updC_other e] at hs
      obtain ⟨s, h1, h2, h3⟩ := G.sh1 r' c' hs
      refine ⟨s, h1, h2, ?_⟩
      rcases h3 with h3 | ⟨pc, h3, h4⟩
      · exact .inl h3
      · refine .inr ⟨pc, h3, ?_⟩
        rw [upd_other ?_]
        · exact h4
        · rintro rfl
          rw [h] at h4
          cases h4
          omega
  · have := G.la0 r' c' hl u hv
    rw [upd_other ?_]
    · exact this
    · rintro rfl
      rw [h] at this
      cases this
  · obtain ⟨q, h1, h2, h3, h4⟩ := G.la1 r' c' hl
    refine ⟨q, h1, h2, h3, ?_⟩
    by_cases e' : q = t
    · subst e'
      rw [upd_same]
      intro h
      cases h
    · rw [upd_other e']
      exact h4
  · rcases upd_some hp with ⟨_, h'⟩ | ⟨hpt, hp'⟩
    · cases h'
    · rcases upd_some hq with ⟨rfl, h'⟩ | ⟨hqt, hq'⟩
      · cases h'
        exact ⟨(G.st p r c hp' q 2 hqp h (Nat.le_refl _)).1, by decide⟩
      · exact G.st p r' c' hp' q pc hqp hq' h2
theorem Grid.take (G : Grid n vis right down cur La Sh) {t r c : Nat} (h : cur t = some (r, c, 3)) (hl0 : La r c = t + 1) : Grid n vis right down (upd cur t (some (r, c, 4))) La Sh := by
  obtain ⟨a1, a2, a3, a4, a5, a6⟩ := G.at' t r c 3 h
  refine ⟨fun u r' c' pc hu => ?_, fun u r' c' hv => ?_, G.came, G.rt, G.dn, G.bd, G.gone, fun u r' c' pc hu h3 => ?_, fun r' c' hs => ?_, fun r' c' hl u hv => ?_, fun r' c' hl => ?_, fun p r' c' hp q pc hqp hq h2 => ?_⟩
  · rcases upd_some hu with ⟨rfl, h'⟩ | ⟨_, h'⟩
    · cases h'
      exact ⟨a1, by omega, a3, a4, a5, a6⟩
    · exact G.at' u _ _ _ h'
  · by_cases e : u = t
    · subst e
      obtain ⟨r1, c1, pc, h1, h2⟩ := G.was u r' c' hv
      rw [h] at h1
      cases h1
      exact ⟨r, c, 4, upd_same _ _ _, h2⟩
    · rw [upd_other e]
      exact G.was u r' c' hv
  · rcases upd_some hu with ⟨rfl, h'⟩ | ⟨_, h'⟩
    · cases h'
      exact G.shut3 u r c 3 h (Nat.le_refl _)
    · exact G.shut3 u _ _ _ h' h3
  · obtain ⟨s, h1, h2, h3⟩ := G.sh1 r' c' hs
    refine ⟨s, h1, h2, ?_⟩
    rcases h3 with h3 | ⟨pc, h3, h4⟩
    · exact .inl h3
    · by_cases e : s = t
      · subst e
        rw [h] at h4
        cases h4
        exact .inr ⟨4, by decide, upd_same _ _ _⟩
      · exact .inr ⟨pc, h3, by rw [upd_other e]; exact h4⟩
  · have := G.la0 r' c' hl u hv
    rw [upd_other ?_]
    · exact this
    · rintro rfl
      rw [h] at this
      cases this
  · obtain ⟨q, h1, h2, h3, h4⟩ := G.la1 r' c' hl
    refine ⟨q, h1, h2, h3, ?_⟩
    by_cases e' : q = t
    · subst e'
      rw [upd_same]
      intro h
      cases h
    · rw [upd_other e']
      exact h4
  · rcases upd_some hp with ⟨rfl, h'⟩ | ⟨hpt, hp'⟩
    · cases h'
      rw [upd_other hqp] at hq
      refine ⟨by omega, ?_⟩
      rintro rfl
      exact (G.st q r c hq p 3 (Ne.symm hqp) h (by decide)).1 hl0
    · rcases upd_some hq with ⟨rfl, h'⟩ | ⟨hqt, hq'⟩
      · cases h'
        exact absurd hl0 (G.st p r c hp' q 3 hqp h (by decide)).1
      · exact G.st p r' c' hp' q pc hqp hq' h2
end
end Go.Proofs.YtlfingcmekifkaaGreat

namespace Go.Proofs.YtlfingcmekifkaaGreat
open Go.RowKit
section
variable {n : Nat} {vis right down : Nat → Nat → Nat → Prop} {cur : Nat → Option (Nat × Nat × Nat)} {La Sh : Nat → Nat → Int}
end
end Go.Proofs.YtlfingcmekifkaaGreat

namespace Go.Proofs.YtlfingcmekifkaaGreat
open Go.RowKit
def tri : Nat → Nat
  | 0 => 0
  | d + 1 => tri d + (d + 1)
def nameN (r c : Nat) : Nat := tri (r + c) + r
structure Spl where
  has : Nat → Bool
inductive SM where
  | no (e : Int)
  | take (t pc r c : Nat)
def isTk (cs : List Cl) (e : Ep) : Prop := (callOf cs e.call).obj = 0 ∧ (callOf cs e.call).kind = 0 ∧ e.ans.err = 0
def tkT (cs : List Cl) (e : Ep) : Nat := (callOf cs e.call).thread.toNat
structure SInv (n : Nat) (cs : List Cl) (P : Ps SM Spl) (vis right down : Nat → Nat → Nat → Prop) (cur : Nat → Option (Nat × Nat × Nat)) (La Sh : Nat → Nat → Int) : Prop where
  wf : PWf cs P
  grid : Grid n vis right down cur La Sh
  len : P.lw.mem.words.length = 2 * tri n
  flt : P.lw.mem.ft = 0
  memL : ∀ r c, r + c < n → P.lw.mem.at (2 * nameN r c : Nat) = La r c
  memS : ∀ r c, r + c < n → P.lw.mem.at ((2 * nameN r c : Nat) + 1) = Sh r c
  mach : ∀ t m h, P.hands t = some (m, h) → ∃ (pc r c : Nat) (e : Ep), m = .take t pc r c ∧ pc ≤ 3 ∧ cur t = some (r, c, pc) ∧ P.evs[h]? = some e ∧ isTk cs e ∧ e.steps ≤ 4 * ((r + c : Nat) : Int) + pc
  held : ∀ t r c pc, cur t = some (r, c, pc) → (pc < 4 → ∃ m h, P.hands t = some (m, h)) ∧ (pc = 4 → P.obj.has t = true)
  has : ∀ t, P.obj.has t = true → ∃ r c, cur t = some (r, c, 4)
  done : ∀ (h : Nat) (e : Ep), P.evs[h]? = some e → e.resp ≠ 0 → isTk cs e → ∃ r c : Nat, cur (tkT cs e) = some (r, c, 4) ∧ e.ans.val = (nameN r c : Nat) ∧ e.steps ≤ 4 * ((r + c : Nat) : Int) + 4
  ref : ∀ (h : Nat) (e : Ep), P.evs[h]? = some e → ¬ isTk cs e → e.steps ≤ 1
  came : ∀ (h : Nat) (e : Ep), P.evs[h]? = some e → (callOf cs e.call).obj = 0 → (callOf cs e.call).kind = 0 → cur (tkT cs e) ≠ none
  uniq : ∀ (h k : Nat) (e e' : Ep), P.evs[h]? = some e → P.evs[k]? = some e' → isTk cs e → isTk cs e' → tkT cs e = tkT cs e' → h = k
  begun : ∀ t, cur t ≠ none → ∃ (h : Nat) (e : Ep), P.evs[h]? = some e ∧ isTk cs e ∧ tkT cs e = t
end Go.Proofs.YtlfingcmekifkaaGreat

namespace Go.Proofs.YtlfingcmekifkaaGreat
open Go.RowKit
inductive SpGot (t : Nat) : Nat → Nat → List Int → Prop
  | nil : SpGot t 0 0 []
  | right {r c : Nat} {g : List Int} {x : Int} : SpGot t r c g → x ≠ 0 → SpGot t r (c + 1) (g ++ [0, x])
  | down {r c : Nat} {g : List Int} {y : Int} : SpGot t r c g → y ≠ t + 1 → SpGot t (r + 1) c (g ++ [0, 0, 0, y])
end Go.Proofs.YtlfingcmekifkaaGreat

namespace Go.Proofs.YtlfingcmekifkaaGreat
open Go.RowKit
structure Col (n : Nat) (A : Nat → Int) (S : Nat → List Int) : Prop where
  w : ∀ t, t < n → A t = 0 → S t = []
  v : ∀ t s a, t < n → (S t)[s]? = some a → s < n ∧ (a = 0 ∨ a = A s)
  s : ∀ t s a b, t < n → s < n → (S t)[s]? = some a → (S s)[t]? = some b → a ≠ 0 ∨ b ≠ 0
theorem Col.new (n : Nat) : Col n (fun _ => 0) (fun _ => []) := ⟨fun _ _ _ => rfl, (fun _ _ _ _ h => by cases h), (fun _ _ _ _ _ _ h _ => by cases h)⟩
theorem Col.own {n : Nat} {A : Nat → Int} {S : Nat → List Int} (C : Col n A S) {t : Nat} (ht : t < n) (hl : (S t).length = n) : (S t)[t]? = some (A t) ∧ A t ≠ 0 := by
  have h : (S t)[t]? = some ((S t)[t]'(by omega)) := List.getElem?_eq_getElem _
  have h1 := C.s t t _ _ ht ht h h
  have h2 := (C.v t t _ ht h).2
  rcases h2 with h2 | h2
  · rcases h1 with h1 | h1 <;> exact absurd h2 h1
  · rw [h2] at h h1
    exact ⟨h, by rcases h1 with h1 | h1 <;> exact h1⟩
structure Ad where
  n : Nat
  has : Nat → Bool
inductive AM where
  | no (e : Int)
  | prop (t pc : Nat) (v : Int) (seen : List Int) (val : Int)
end Go.Proofs.YtlfingcmekifkaaGreat

namespace Go.Proofs.YtlfingcmekifkaaGreat
open Go.RowKit
end Go.Proofs.YtlfingcmekifkaaGreat
