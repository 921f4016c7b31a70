import Derived.Test.YtlfingcmekifkaaGreatBun2
namespace Go.Proofs.YtlfingcmekifkaaGreat
open Go.RowKit
def onceG {O Op : Type} (st : O → Nat → Cl → Op) (go : O → Lw → Nat → Op → O × Lw × An) : Gm (Op × An) O :=
  ⟨fun o t c => (o, (st o t c, ⟨0, 0, []⟩)), fun o w t m => ((go o w t m.1).1, (go o w t m.1).2.1, (m.1, (go o w t m.1).2.2), true), fun _ m => (m.2, []), fun _ _ _ => none⟩
section
variable {O Op : Type} {st : O → Nat → Cl → Op} {go : O → Lw → Nat → Op → O × Lw × An}
def onceW (P : Ps (Op × An) O) (t : Nat) : Lw := { P.lw with now := P.lw.now + 1, inv := upd P.lw.inv t (P.lw.now + 1), marks := upd P.lw.marks t [] }
def onceC (cs : List Cl) (i : Nat) : Cl := (cs[i]?).getD ⟨0, 0, 0, 0, 0, 0⟩
def onceR (st : O → Nat → Cl → Op) (go : O → Lw → Nat → Op → O × Lw × An) (cs : List Cl) (P : Ps (Op × An) O) (t i : Nat) : O × Lw × An := go P.obj (onceW P t) t (st P.obj t (onceC cs i))
theorem modify_last {α : Type} (l : List α) (x : α) (f : α → α) : (l ++ [x]).modify l.length f = l ++ [f x] := by
  rw [List.modify_eq_take_drop]
  simp
theorem once_pick_none {cs : List Cl} {P : Ps (Op × An) O} {p : Int} (h : nowF cs P.fin p = none) : P.pick (onceG st go) cs p = { P with idle := P.idle + 1 } := by
  unfold Ps.pick
  rw [h]
theorem once_pick_some {cs : List Cl} {P : Ps (Op × An) O} {p : Int} {i : Nat} (h : nowF cs P.fin p = some i) (hn : P.hands p.toNat = none) :
    (P.pick (onceG st go) cs p).obj = (onceR st go cs P p.toNat i).1 ∧ (P.pick (onceG st go) cs p).lw = (onceR st go cs P p.toNat i).2.1 ∧ (P.pick (onceG st go) cs p).hands = upd (upd P.hands p.toNat (some ((st P.obj p.toNat (onceC cs i), ⟨0, 0, []⟩), P.evs.length))) p.toNat none ∧
    (P.pick (onceG st go) cs p).fin = P.fin.set i true ∧ (P.pick (onceG st go) cs p).idle = P.idle ∧
    (P.pick (onceG st go) cs p).evs = P.evs ++ [⟨i, P.lw.now + 1, (onceR st go cs P p.toNat i).2.1.now, 1, (onceR st go cs P p.toNat i).2.2, keyOf [] ((onceR st go cs P p.toNat i).2.1.marks p.toNat) (onceR st go cs P p.toNat i).2.1.now⟩] := by
  unfold Ps.pick
  rw [h]
  simp only [hn]
  refine ⟨rfl, rfl, rfl, rfl, rfl, ?_⟩
  exact modify_last P.evs _ _
end
structure Ll where
  size : Int
  links : Nat → Int → Option Int
inductive Lo where
  | no (e : Int)
  | op (c : Cl)
def two32 : Int := 4294967296
def llWrong (o : Ll) (t : Nat) (c : Cl) : Int :=
  if c.kind < 0 ∨ 2 < c.kind then 9 else if o.size ≤ c.a ∨ (c.kind = 1 ∧ two32 ≤ c.b) then 10 else if c.kind ≠ 0 ∧ o.links t c.a = none then 8 else 0
def llStart (o : Ll) (t : Nat) (c : Cl) : Lo := if c.obj ≠ 0 then .no 12 else if llWrong o t c = 0 then .op c else .no (llWrong o t c)
def llNext (x v : Int) : Int := (x / two32 + 1) % two32 * two32 + v
def llLink (o : Ll) (t : Nat) (p : Int) (x : Option Int) : Ll := { o with links := fun s q => if s = t ∧ q = p then x else o.links s q }
def llGo (o : Ll) (w : Lw) (t : Nat) : Lo → Ll × Lw × An
  | .no e => (o, w, ⟨e, 0, []⟩)
  | .op c =>
    if c.kind = 0 then (llLink o t c.a (some (w.mem.tell 0 c.a 0)), { w with mem := w.mem.acc 0 c.a 0 0 }, ⟨0, w.mem.tell 0 c.a 0 % two32, []⟩)
    else
      let x := (o.links t c.a).getD 0
      if c.kind = 1 then (llLink o t c.a none, { w with mem := w.mem.acc 2 c.a x (llNext x c.b) }, ⟨0, w.mem.tell 2 c.a x, []⟩)
      else (o, { w with mem := w.mem.acc 0 c.a 0 0 }, ⟨0, if w.mem.tell 0 c.a 0 = x then 1 else 0, []⟩)
def llG : Gm (Lo × An) Ll := onceG llStart llGo
def llPlay (size : Int) (cs : List Cl) (picks : List Int) : Ps (Lo × An) Ll := (Ps.new (List.replicate size.toNat 0) ⟨size, fun _ _ => none⟩ cs.length).play llG cs picks
def isLoad (cs : List Cl) (t a : Int) (e : Ep) : Prop := (onceC cs e.call).thread = t ∧ (onceC cs e.call).obj = 0 ∧ (onceC cs e.call).kind = 0 ∧ (onceC cs e.call).a = a ∧ e.ans.err = 0
instance (cs : List Cl) (t a : Int) (e : Ep) : Decidable (isLoad cs t a e) := by unfold isLoad; infer_instance
def isPut (cs : List Cl) (a : Int) (e : Ep) : Prop := (onceC cs e.call).obj = 0 ∧ (onceC cs e.call).kind = 1 ∧ (onceC cs e.call).a = a ∧ e.ans.val = 1
instance (cs : List Cl) (a : Int) (e : Ep) : Decidable (isPut cs a e) := by unfold isPut; infer_instance
def puts (cs : List Cl) (a : Int) (l : List Ep) : Nat := l.countP fun e => decide (isPut cs a e)
def sinceAt (cs : List Cl) (l : List Ep) (i : Nat) (e : Ep) : Prop :=
  (onceC cs e.call).obj = 0 → ((onceC cs e.call).kind = 1 ∨ (onceC cs e.call).kind = 2) → e.ans.err = 0 →
  ∃ f, f < i ∧ (∃ d, l[f]? = some d ∧ isLoad cs (onceC cs e.call).thread (onceC cs e.call).a d) ∧ (∀ k d, f < k → k < i → l[k]? = some d → ¬ isLoad cs (onceC cs e.call).thread (onceC cs e.call).a d) ∧
    ((e.ans.val = 1 ∧ ∀ k d, f < k → k < i → l[k]? = some d → ¬ isPut cs (onceC cs e.call).a d) ∨ (e.ans.val = 0 ∧ ∃ k d, f < k ∧ k < i ∧ l[k]? = some d ∧ isPut cs (onceC cs e.call).a d))
def linkAt (cs : List Cl) (l : List Ep) (t a x w : Int) : Prop :=
  ∃ f, f < l.length ∧ (∃ d, l[f]? = some d ∧ isLoad cs t a d) ∧ (∀ k d, f < k → l[k]? = some d → ¬ isLoad cs t a d) ∧ 0 ≤ x ∧ x / two32 = (puts cs a (l.take f) : Nat) ∧
    ((w = x ∧ ∀ k d, f < k → l[k]? = some d → ¬ isPut cs a d) ∨ ∃ k d, f < k ∧ l[k]? = some d ∧ isPut cs a d)
structure LInv (sz : Int) (cs : List Cl) (P : Ps (Lo × An) Ll) : Prop where
  size : P.obj.size = sz
  hands : ∀ t, P.hands t = none
  len : (P.lw.mem.words.length : Int) = sz
  word : ∀ a, 0 ≤ a → a < sz → 0 ≤ P.lw.mem.at a ∧ P.lw.mem.at a / two32 = (puts cs a P.evs : Nat)
  link : ∀ (t : Nat) a x, 0 ≤ a → a < sz → P.obj.links t a = some x → linkAt cs P.evs t a x (P.lw.mem.at a)
  calls : ∀ e ∈ P.evs, e.call < cs.length
  evs : ∀ i e, P.evs[i]? = some e → sinceAt cs P.evs i e
  cnt : P.evs.length ≤ P.fin.countP id
  finl : P.fin.length = cs.length
theorem getLast_append {α : Type} {l : List α} {e d : α} {k : Nat} (h : (l ++ [e])[k]? = some d) : (k < l.length ∧ l[k]? = some d) ∨ (k = l.length ∧ d = e) := by
  rcases Nat.lt_trichotomy k l.length with hk | hk | hk
  · rw [List.getElem?_append_left hk] at h
    exact .inl ⟨hk, h⟩
  · subst hk
    rw [List.getElem?_append_right (Nat.le_refl _), Nat.sub_self] at h
    exact .inr ⟨rfl, (Option.some.inj h).symm⟩
  · rw [List.getElem?_eq_none (by simp; omega)] at h
    cases h
theorem get_append_of {α : Type} {l : List α} {e d : α} {k : Nat} (h : l[k]? = some d) : (l ++ [e])[k]? = some d := by
  obtain ⟨hk, _⟩ := List.getElem?_eq_some_iff.1 h
  rw [List.getElem?_append_left hk, h]
theorem since_append {cs : List Cl} {l : List Ep} {i : Nat} {e x : Ep} (hi : i < l.length) (h : sinceAt cs l i e) : sinceAt cs (l ++ [x]) i e := by
  intro h1 h2 h3
  obtain ⟨f, hf, ⟨d, hd, hl⟩, hno, hcase⟩ := h h1 h2 h3
  have hlow {k : Nat} {d : Ep} (hk : k < i) (hd : (l ++ [x])[k]? = some d) : l[k]? = some d := by
    rcases getLast_append hd with ⟨_, h⟩ | ⟨h, _⟩
    · exact h
    · omega
  refine ⟨f, hf, ⟨d, get_append_of hd, hl⟩, fun k d hk hki hd => hno k d hk hki (hlow hki hd), ?_⟩
  rcases hcase with ⟨hv, hp⟩ | ⟨hv, k, d, hk, hki, hd, hp⟩
  · exact .inl ⟨hv, fun k d hk hki hd => hp k d hk hki (hlow hki hd)⟩
  · exact .inr ⟨hv, k, d, hk, hki, get_append_of hd, hp⟩
theorem puts_append (cs : List Cl) (a : Int) (l : List Ep) (e : Ep) : puts cs a (l ++ [e]) = puts cs a l + if isPut cs a e then 1 else 0 := by
  unfold puts
  rw [List.countP_append]
  by_cases h : isPut cs a e <;> simp [h]
theorem puts_le (cs : List Cl) (a : Int) (l : List Ep) : puts cs a l ≤ l.length := List.countP_le_length
theorem puts_take {cs : List Cl} {a : Int} {l : List Ep} {f k : Nat} {d : Ep} (hk : f ≤ k) (hd : l[k]? = some d) (hp : isPut cs a d) : puts cs a (l.take f) < puts cs a l := by
  obtain ⟨hkl, hke⟩ := List.getElem?_eq_some_iff.1 hd
  have h1 : l = l.take k ++ (d :: l.drop (k + 1)) := by
    rw [← hke, List.getElem_cons_drop, List.take_append_drop]
  have h2 : puts cs a (l.take f) ≤ puts cs a (l.take k) := by
    have : l.take f = (l.take k).take f := by rw [List.take_take, Nat.min_eq_left hk]
    rw [this]
    exact (List.take_sublist _ _).countP_le
  have h3 : puts cs a l = puts cs a (l.take k) + (1 + puts cs a (l.drop (k + 1))) := by
    conv => lhs; rw [h1]
    unfold puts
    rw [List.countP_append, List.countP_cons]
    simp [hp]
    omega
  omega
theorem link_append {cs : List Cl} {l : List Ep} {t a x w w' : Int} {e : Ep} (h : linkAt cs l t a x w) (hn : ¬ isLoad cs t a e) (hw : isPut cs a e ∨ w' = w) : linkAt cs (l ++ [e]) t a x w' := by
  obtain ⟨f, hf, ⟨d, hd, hl⟩, hno, hx, hc, hcase⟩ := h
  refine ⟨f, by simp; omega, ⟨d, get_append_of hd, hl⟩, fun k d hk hd => ?_, hx, ?_, ?_⟩
  · rcases getLast_append hd with ⟨_, h⟩ | ⟨_, rfl⟩
    · exact hno k d hk h
    · exact hn
  · rw [List.take_append_of_le_length (by omega)]
    exact hc
  · by_cases hp : isPut cs a e
    · exact .inr ⟨l.length, e, hf, by rw [List.getElem?_append_right (Nat.le_refl _), Nat.sub_self]; rfl, hp⟩
    · rcases hw with hw | rfl
      · exact absurd hw hp
      rcases hcase with ⟨rfl, hq⟩ | ⟨k, d, hk, hd, hq⟩
      · refine .inl ⟨rfl, fun k d hk hd => ?_⟩
        rcases getLast_append hd with ⟨_, h⟩ | ⟨_, rfl⟩
        · exact hq k d hk h
        · exact hp
      · exact .inr ⟨k, d, hk, get_append_of hd, hq⟩
theorem link_new {cs : List Cl} {l : List Ep} {t a w : Int} {e : Ep} (hl : isLoad cs t a e) (h0 : 0 ≤ w) (hc : w / two32 = (puts cs a l : Nat)) : linkAt cs (l ++ [e]) t a w w := by
  refine ⟨l.length, by simp, ⟨e, by rw [List.getElem?_append_right (Nat.le_refl _), Nat.sub_self]; rfl, hl⟩, fun k d hk hd => ?_, h0, ?_, .inl ⟨rfl, fun k d hk hd => ?_⟩⟩
  · rcases getLast_append hd with ⟨h, _⟩ | ⟨h, _⟩ <;> omega
  · rw [List.take_append_of_le_length (Nat.le_refl _), List.take_length]
    exact hc
  · rcases getLast_append hd with ⟨h, _⟩ | ⟨h, _⟩ <;> omega
theorem link_tells {cs : List Cl} {l : List Ep} {t a x w : Int} (h : linkAt cs l t a x w) (hw : w / two32 = (puts cs a l : Nat)) :
    ∃ f, f < l.length ∧ (∃ d, l[f]? = some d ∧ isLoad cs t a d) ∧ (∀ k d, f < k → k < l.length → l[k]? = some d → ¬ isLoad cs t a d) ∧
      ((w = x ∧ ∀ k d, f < k → k < l.length → l[k]? = some d → ¬ isPut cs a d) ∨ (w ≠ x ∧ ∃ k d, f < k ∧ k < l.length ∧ l[k]? = some d ∧ isPut cs a d)) := by
  obtain ⟨f, hf, hd, hno, hx, hc, hcase⟩ := h
  refine ⟨f, hf, hd, fun k d hk _ hd => hno k d hk hd, ?_⟩
  rcases hcase with ⟨rfl, hq⟩ | ⟨k, d, hk, hd, hq⟩
  · exact .inl ⟨rfl, fun k d hk _ hd => hq k d hk hd⟩
  · refine .inr ⟨?_, k, d, hk, (List.getElem?_eq_some_iff.1 hd).1, hd, hq⟩
    rintro rfl
    have := puts_take (Nat.le_of_lt hk) hd hq
    rw [hw] at hc
    omega
theorem acc_len (m : Mm) (k a x y : Int) : (m.acc k a x y).words.length = m.words.length := by
  unfold Mm.acc
  split <;> simp
theorem acc_at {m : Mm} {k a x y b : Int} (ha : m.in a) (hb : 0 ≤ b) : (m.acc k a x y).at b = if b = a then acY k (m.at a) x y else m.at b := by
  unfold Mm.acc
  rw [if_pos ha]
  unfold Mm.at
  show ((m.words.set a.toNat _)[b.toNat]?).getD 0 = _
  rw [List.getElem?_set]
  obtain ⟨h0, h1⟩ := ha
  by_cases h : b = a
  · subst h
    rw [if_pos rfl, if_pos rfl, if_pos (by omega)]
    rfl
  · rw [if_neg h, if_neg (by omega)]
theorem tell_in {m : Mm} {k a x : Int} (ha : m.in a) : m.tell k a x = acV k (m.at a) x := if_pos ha
theorem acc_read {m : Mm} {a b : Int} (ha : m.in a) (hb : 0 ≤ b) : (m.acc 0 a 0 0).at b = m.at b := by
  rw [acc_at ha hb]
  unfold acY
  split
  · rename_i h
    rw [if_pos rfl, h]
  · rfl
theorem LInv.new (size : Int) (cs : List Cl) (h0 : 0 < size) : LInv size cs (Ps.new (List.replicate size.toNat 0) ⟨size, fun _ _ => none⟩ cs.length) := by
  refine ⟨rfl, fun _ => rfl, ?_, fun a ha hs => ?_, ?_, ?_, ?_, ?_, ?_⟩
  · show ((List.replicate size.toNat (0 : Int)).length : Int) = size
    rw [List.length_replicate]
    omega
  · have : (Mm.new (List.replicate size.toNat 0)).at a = 0 := by
      unfold Mm.at Mm.new
      show ((List.replicate size.toNat (0 : Int))[a.toNat]?).getD 0 = 0
      rw [List.getElem?_replicate]
      split <;> rfl
    show 0 ≤ (Mm.new (List.replicate size.toNat 0)).at a ∧ (Mm.new (List.replicate size.toNat 0)).at a / two32 = _
    rw [this]
    exact ⟨Int.le_refl _, rfl⟩
  · intro t a x _ _ h
    exact absurd h (by simp [Ps.new])
  · intro e h
    exact absurd h (by simp [Ps.new])
  · intro i e h
    exact absurd h (by simp [Ps.new])
  · exact Nat.zero_le _
  · exact List.length_replicate
theorem countP_set {l : List Bool} {i : Nat} (hi : i < l.length) (h : l[i]?.getD false = false) : (l.set i true).countP id = l.countP id + 1 := by
  rw [List.getElem?_eq_getElem hi] at h
  have e1 : l.set i true = l.take i ++ true :: l.drop (i + 1) := by rw [List.set_eq_take_append_cons_drop, if_pos hi]
  have e2 : l = l.take i ++ l[i] :: l.drop (i + 1) := by rw [List.getElem_cons_drop, List.take_append_drop]
  rw [e1]
  conv => rhs; rw [e2]
  have h' : l[i] = false := h
  rw [h', List.countP_append, List.countP_append, List.countP_cons, List.countP_cons]
  simp
  omega
theorem LInv.pick {size : Int} {cs : List Cl} {P : Ps (Lo × An) Ll} {p : Int} (I : LInv size cs P) (hlen : cs.length ≤ 65536) (hcs : ∀ c ∈ cs, 0 ≤ c.thread ∧ 0 ≤ c.a ∧ 0 ≤ c.b) : LInv size cs (P.pick llG cs p) := by
  cases hn : nowF cs P.fin p with
  | none =>
    unfold llG
    rw [once_pick_none hn]
    exact ⟨I.size, I.hands, I.len, I.word, I.link, I.calls, I.evs, I.cnt, I.finl⟩
  | some i =>
    obtain ⟨hi, hth, hfin⟩ := nowF_some hn
    have hcnt : (P.fin.set i true).countP id = P.fin.countP id + 1 := countP_set (by rw [I.finl]; exact hi) hfin
    have hle : (P.fin.set i true).countP id ≤ cs.length := by
      have := List.countP_le_length (p := id) (l := P.fin.set i true)
      rw [List.length_set, I.finl] at this
      exact this
    have hC : cs[i]? = some (onceC cs i) := by
      unfold onceC
      rw [List.getElem?_eq_getElem hi]
      rfl
    obtain ⟨hc0, hca, hcb⟩ := hcs _ (List.mem_of_getElem? hC)
    have hpt : (onceC cs i).thread = p := by
      rw [hC] at hth
      exact Option.some.inj hth
    have hp0 : 0 ≤ p := by omega
    obtain ⟨h1, h2, h3, h4, h5, h6⟩ := once_pick_some (st := llStart) (go := llGo) hn (I.hands p.toNat)
    have hands : ∀ t, (P.pick llG cs p).hands t = none := by
      intro t
      show (P.pick (onceG llStart llGo) cs p).hands t = none
      rw [h3]
      by_cases h : t = p.toNat
      · subst h
        rw [upd_same]
      · rw [upd_other h, upd_other h]
        exact I.hands t
    have hfl : (P.pick llG cs p).fin.length = cs.length := by
      show (P.pick (onceG llStart llGo) cs p).fin.length = _
      rw [h4, List.length_set]
      exact I.finl
    have hS := I.size
    have hcases : llStart P.obj p.toNat (onceC cs i) = .no 12 ∨ (∃ e, e ≠ 0 ∧ llStart P.obj p.toNat (onceC cs i) = .no e) ∨ (llStart P.obj p.toNat (onceC cs i) = .op (onceC cs i) ∧ (onceC cs i).obj = 0 ∧ llWrong P.obj p.toNat (onceC cs i) = 0) := by
      unfold llStart
      by_cases ho : (onceC cs i).obj ≠ 0
      · rw [if_pos ho]
        exact .inl rfl
      · rw [if_neg ho]
        by_cases hw : llWrong P.obj p.toNat (onceC cs i) = 0
        · rw [if_pos hw]
          exact .inr (.inr ⟨rfl, by omega, hw⟩)
        · rw [if_neg hw]
          exact .inr (.inl ⟨_, hw, rfl⟩)
    generalize hE : (⟨i, P.lw.now + 1, (onceR llStart llGo cs P p.toNat i).2.1.now, 1, (onceR llStart llGo cs P p.toNat i).2.2, keyOf [] ((onceR llStart llGo cs P p.toNat i).2.1.marks p.toNat) (onceR llStart llGo cs P p.toNat i).2.1.now⟩ : Ep) = E at h6
    have hEc : E.call = i := by rw [← hE]
    have hEa : E.ans = (onceR llStart llGo cs P p.toNat i).2.2 := by rw [← hE]
    suffices H : ∀ o w a, onceR llStart llGo cs P p.toNat i = (o, w, a) → E.ans = a → o.size = size ∧ (w.mem.words.length : Int) = size ∧ (∀ a, 0 ≤ a → a < size → 0 ≤ w.mem.at a ∧ w.mem.at a / two32 = (puts cs a (P.evs ++ [E]) : Nat)) ∧ (∀ (t : Nat) a x, 0 ≤ a → a < size → o.links t a = some x → linkAt cs (P.evs ++ [E]) t a x (w.mem.at a)) ∧ sinceAt cs P.evs P.evs.length E by
      obtain ⟨q1, q2, q3, q4, q5⟩ := H _ _ _ rfl hEa
      have hL : (P.evs ++ [E]).length ≤ (P.fin.set i true).countP id := by
        rw [List.length_append, hcnt]
        exact Nat.succ_le_succ I.cnt
      constructor
      · show (P.pick (onceG llStart llGo) cs p).obj.size = _
        rw [h1]; exact q1
      · exact hands
      · show ((P.pick (onceG llStart llGo) cs p).lw.mem.words.length : Int) = _
        rw [h2]; exact q2
      · show ∀ a, 0 ≤ a → a < size → 0 ≤ (P.pick (onceG llStart llGo) cs p).lw.mem.at a ∧ (P.pick (onceG llStart llGo) cs p).lw.mem.at a / two32 = (puts cs a (P.pick (onceG llStart llGo) cs p).evs : Nat)
        rw [h2, h6]; exact q3
      · show ∀ (t : Nat) a x, 0 ≤ a → a < size → (P.pick (onceG llStart llGo) cs p).obj.links t a = some x → linkAt cs (P.pick (onceG llStart llGo) cs p).evs t a x ((P.pick (onceG llStart llGo) cs p).lw.mem.at a)
        rw [h1, h2, h6]; exact q4
      · show ∀ e ∈ (P.pick (onceG llStart llGo) cs p).evs, e.call < cs.length
        rw [h6]
        intro e he
        rcases List.mem_append.1 he with h | h
        · exact I.calls e h
        · rw [List.mem_singleton.1 h, hEc]
          exact hi
      · show ∀ j e, (P.pick (onceG llStart llGo) cs p).evs[j]? = some e → sinceAt cs (P.pick (onceG llStart llGo) cs p).evs j e
        rw [h6]
        intro j e hj
        rcases getLast_append hj with ⟨hl, h⟩ | ⟨rfl, rfl⟩
        · exact since_append hl (I.evs j e h)
        · intro a1 a2 a3
          obtain ⟨f, hf, ⟨d, hd, hl⟩, hno, hcase⟩ := q5 a1 a2 a3
          have hlow {k : Nat} {d : Ep} (hk : k < P.evs.length) (hd : (P.evs ++ [e])[k]? = some d) : P.evs[k]? = some d := by
            rcases getLast_append hd with ⟨_, h⟩ | ⟨h, _⟩
            · exact h
            · omega
          refine ⟨f, hf, ⟨d, get_append_of hd, hl⟩, fun k d hk hki hd => hno k d hk hki (hlow hki hd), ?_⟩
          rcases hcase with ⟨hv, hp⟩ | ⟨hv, k, d, hk, hki, hd, hp⟩
          · exact .inl ⟨hv, fun k d hk hki hd => hp k d hk hki (hlow hki hd)⟩
          · exact .inr ⟨hv, k, d, hk, hki, get_append_of hd, hp⟩
      · show (P.pick (onceG llStart llGo) cs p).evs.length ≤ (P.pick (onceG llStart llGo) cs p).fin.countP id
        rw [h6, h4]; exact hL
      · exact hfl
    have hPl : P.evs.length + 1 ≤ 65536 := by
      have := I.cnt
      omega
    intro o w a hR hA
    have hp0' : ((p.toNat : Nat) : Int) = p := Int.toNat_of_nonneg hp0
    have hmem : (onceW P p.toNat).mem = P.lw.mem := rfl
    have hNo : ∀ e, e ≠ 0 → llStart P.obj p.toNat (onceC cs i) = .no e → o.size = size ∧ (w.mem.words.length : Int) = size ∧ (∀ a, 0 ≤ a → a < size → 0 ≤ w.mem.at a ∧ w.mem.at a / two32 = (puts cs a (P.evs ++ [E]) : Nat)) ∧ (∀ (t : Nat) a x, 0 ≤ a → a < size → o.links t a = some x → linkAt cs (P.evs ++ [E]) t a x (w.mem.at a)) ∧ sinceAt cs P.evs P.evs.length E := by
      intro e he hst
      unfold onceR at hR
      rw [hst] at hR
      simp only [llGo, Prod.mk.injEq] at hR
      obtain ⟨rfl, rfl, rfl⟩ := hR
      have hnp : ∀ a, ¬ isPut cs a E := fun a h => by have := h.2.2.2; rw [hA] at this; cases this
      have hnl : ∀ t a, ¬ isLoad cs t a E := fun t a h => he (by have := h.2.2.2.2; rw [hA] at this; exact this)
      refine ⟨I.size, I.len, fun a h0 h1 => ?_, fun t a x h0 h1 hx => link_append (I.link t a x h0 h1 hx) (hnl _ _) (.inr rfl), fun _ _ h => absurd (by rw [hA] at h; exact h) he⟩
      rw [puts_append, if_neg (hnp a)]
      exact I.word a h0 h1
    rcases hcases with h | ⟨e, he, h⟩ | ⟨hst, hob, hwr⟩
    · exact hNo 12 (by decide) h
    · exact hNo e he h
    clear hNo
    unfold onceR at hR
    rw [hst] at hR
    have hst := hR
    clear hR
    generalize hcc : onceC cs i = c at *
    have hw2 : 0 ≤ c.kind ∧ c.kind ≤ 2 ∧ c.a < size ∧ (c.kind = 1 → c.b < two32) ∧ (c.kind ≠ 0 → ∃ x, P.obj.links p.toNat c.a = some x) := by
      unfold llWrong at hwr
      rw [hS] at hwr
      split at hwr
      · cases hwr
      split at hwr
      · cases hwr
      split at hwr
      · cases hwr
      rename_i g1 g2 g3
      refine ⟨by omega, by omega, by omega, fun h => by rcases Int.lt_or_le c.b two32 with h' | h'; exact h'; exact absurd (.inr ⟨h, h'⟩) g2, fun h => ?_⟩
      cases hl : P.obj.links p.toNat c.a with
      | none => exact absurd ⟨h, hl⟩ g3
      | some x => exact ⟨x, rfl⟩
    obtain ⟨k0, k2, has, hb, hlk⟩ := hw2
    have hin : P.lw.mem.in c.a := ⟨hca, by rw [I.len]; exact has⟩
    obtain ⟨wd0, wd1⟩ := I.word c.a hca has
    have hEC : onceC cs E.call = c := by rw [hEc, hcc]
    simp only [llGo, hmem] at hst
    rcases Int.lt_trichotomy c.kind 1 with hk | hk | hk
    · have hk : c.kind = 0 := by omega
      rw [if_pos hk] at hst
      simp only [Prod.mk.injEq] at hst
      obtain ⟨rfl, rfl, rfl⟩ := hst
      rw [tell_in hin] at hA ⊢
      rw [show acV 0 (P.lw.mem.at c.a) 0 = P.lw.mem.at c.a from rfl] at hA ⊢
      have hnp : ∀ a, ¬ isPut cs a E := fun a h => by have := h.2.1; rw [hEC, hk] at this; cases this
      refine ⟨I.size, by rw [acc_len]; exact I.len, fun a h0 h1 => ?_, fun t a x h0 h1 hx => ?_, fun _ h => ?_⟩
      · rw [acc_read hin h0, puts_append, if_neg (hnp a)]
        exact I.word a h0 h1
      · show linkAt _ _ _ _ _ ((P.lw.mem.acc 0 c.a 0 0).at a)
        rw [acc_read hin h0]
        unfold llLink at hx
        dsimp only at hx
        by_cases hta : t = p.toNat ∧ a = c.a
        · rw [if_pos hta] at hx
          obtain ⟨rfl, rfl⟩ := hta
          obtain rfl := Option.some.inj hx
          refine link_new ⟨?_, ?_, ?_, ?_, ?_⟩ wd0 wd1
          · rw [hEC, hp0']; exact hpt
          · rw [hEC]; exact hob
          · rw [hEC]; exact hk
          · rw [hEC]
          · rw [hA]
        · rw [if_neg hta] at hx
          refine link_append (I.link t a x h0 h1 hx) (fun h => hta ?_) (.inr rfl)
          obtain ⟨u1, _, _, u4, _⟩ := h
          rw [hEC] at u1 u4
          exact ⟨by omega, u4.symm⟩
      · rw [hEC, hk] at h
        omega
    · have hne : ¬ c.kind = 0 := by omega
      obtain ⟨x, hx⟩ := hlk hne
      have hb := hb hk
      rw [if_neg hne] at hst
      simp only [hx, Option.getD_some] at hst
      rw [if_pos hk] at hst
      simp only [Prod.mk.injEq] at hst
      obtain ⟨rfl, rfl, rfl⟩ := hst
      rw [tell_in hin] at hA
      have hLk := I.link _ _ _ hca has hx
      have hnl : ∀ t a, ¬ isLoad cs t a E := fun t a h => by have := h.2.2.1; rw [hEC, hk] at this; cases this
      have hput : ∀ a, isPut cs a E ↔ c.a = a ∧ P.lw.mem.at c.a = x := by
        intro a
        unfold isPut
        rw [hEC, hA]
        show c.obj = 0 ∧ c.kind = 1 ∧ c.a = a ∧ acV 2 (P.lw.mem.at c.a) x = 1 ↔ _
        rw [show acV 2 (P.lw.mem.at c.a) x = if P.lw.mem.at c.a = x then 1 else 0 from rfl]
        constructor
        · rintro ⟨_, _, u, v⟩
          refine ⟨u, ?_⟩
          split at v
          · assumption
          · cases v
        · rintro ⟨u, v⟩
          rw [if_pos v]
          exact ⟨hob, hk, u, rfl⟩
      have hat : ∀ a, 0 ≤ a → (P.lw.mem.acc 2 c.a x (llNext x c.b)).at a = if a = c.a then (if P.lw.mem.at c.a = x then llNext x c.b else P.lw.mem.at c.a) else P.lw.mem.at a := fun a h0 => acc_at hin h0
      refine ⟨I.size, by rw [acc_len]; exact I.len, fun a h0 h1 => ?_, fun t a y h0 h1 hy => ?_, fun _ _ _ => ?_⟩
      · rw [hat a h0, puts_append]
        by_cases ha : a = c.a
        · subst ha
          rw [if_pos rfl]
          by_cases hx : P.lw.mem.at c.a = x
          · rw [if_pos hx, if_pos ((hput _).2 ⟨rfl, hx⟩)]
            rw [hx] at wd0 wd1
            have hpl := puts_le cs c.a P.evs
            unfold llNext
            rw [wd1]
            have e1 : (((puts cs c.a P.evs : Nat) : Int) + 1) % two32 = (puts cs c.a P.evs : Nat) + 1 := Int.emod_eq_of_lt (by omega) (by unfold two32; omega)
            rw [e1]
            unfold two32 at hb ⊢
            push_cast
            omega
          · rw [if_neg hx, if_neg (fun h => hx ((hput _).1 h).2)]
            exact ⟨wd0, wd1⟩
        · rw [if_neg ha, if_neg (fun h => ha ((hput _).1 h).1.symm)]
          exact I.word a h0 h1
      · show linkAt _ _ _ _ _ ((P.lw.mem.acc 2 c.a x (llNext x c.b)).at a)
        unfold llLink at hy
        dsimp only at hy
        by_cases hta : t = p.toNat ∧ a = c.a
        · rw [if_pos hta] at hy
          cases hy
        · rw [if_neg hta] at hy
          refine link_append (I.link t a y h0 h1 hy) (hnl _ _) ?_
          rw [hat a h0]
          by_cases ha : a = c.a
          · subst ha
            by_cases hx : P.lw.mem.at c.a = x
            · exact .inl ((hput _).2 ⟨rfl, hx⟩)
            · rw [if_pos rfl, if_neg hx]
              exact .inr rfl
          · rw [if_neg ha]
            exact .inr rfl
      · obtain ⟨f, hf, hd, hno, hcase⟩ := link_tells hLk wd1
        rw [hp0', ← hpt] at hd hno
        rw [hEC, hA]
        refine ⟨f, hf, hd, hno, ?_⟩
        rw [show acV 2 (P.lw.mem.at c.a) x = if P.lw.mem.at c.a = x then 1 else 0 from rfl]
        rcases hcase with ⟨h, hq⟩ | ⟨h, hq⟩
        · exact .inl ⟨if_pos h, hq⟩
        · exact .inr ⟨if_neg h, hq⟩
    · have hne : ¬ c.kind = 0 := by omega
      have hne1 : ¬ c.kind = 1 := by omega
      obtain ⟨x, hx⟩ := hlk hne
      rw [if_neg hne] at hst
      simp only [hx, Option.getD_some] at hst
      rw [if_neg hne1] at hst
      simp only [Prod.mk.injEq] at hst
      obtain ⟨rfl, rfl, rfl⟩ := hst
      rw [tell_in hin, show acV 0 (P.lw.mem.at c.a) 0 = P.lw.mem.at c.a from rfl] at hA
      have hLk := I.link _ _ _ hca has hx
      have hnl : ∀ t a, ¬ isLoad cs t a E := fun t a h => by have := h.2.2.1; rw [hEC] at this; exact hne this
      have hnp : ∀ a, ¬ isPut cs a E := fun a h => by have := h.2.1; rw [hEC] at this; exact hne1 this
      refine ⟨I.size, by rw [acc_len]; exact I.len, fun a h0 h1 => ?_, fun t a y h0 h1 hy => ?_, fun _ _ _ => ?_⟩
      · rw [acc_read hin h0, puts_append, if_neg (hnp a)]
        exact I.word a h0 h1
      · show linkAt _ _ _ _ _ ((P.lw.mem.acc 0 c.a 0 0).at a)
        rw [acc_read hin h0]
        exact link_append (I.link t a y h0 h1 hy) (hnl _ _) (.inr rfl)
      · obtain ⟨f, hf, hd, hno, hcase⟩ := link_tells hLk wd1
        rw [hp0', ← hpt] at hd hno
        rw [hEC, hA]
        refine ⟨f, hf, hd, hno, ?_⟩
        rcases hcase with ⟨h, hq⟩ | ⟨h, hq⟩
        · exact .inl ⟨if_pos h, hq⟩
        · exact .inr ⟨if_neg h, hq⟩
theorem LInv.play {size : Int} {cs : List Cl} (hlen : cs.length ≤ 65536) (hcs : ∀ c ∈ cs, 0 ≤ c.thread ∧ 0 ≤ c.a ∧ 0 ≤ c.b) (picks : List Int) : ∀ {P : Ps (Lo × An) Ll}, LInv size cs P → LInv size cs (P.play llG cs picks) := by
  induction picks with
  | nil => exact fun I => I
  | cons p l ih => exact fun I => ih (I.pick hlen hcs)
end Go.Proofs.YtlfingcmekifkaaGreat
