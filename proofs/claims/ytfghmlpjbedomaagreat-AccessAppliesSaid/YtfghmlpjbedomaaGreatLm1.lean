/- Plays of machines of many steps: what is so of any of them. -/
import Derived.Test.YtfghmlpjbedomaaGreatBun2
namespace Go.Proofs.YtfghmlpjbedomaaGreat
open Go.RowKit

section
variable {M O : Type}
/-- The call of an event. -/
def callOf (cs : List Cl) (i : Nat) : Cl := (cs[i]?).getD ⟨0, 0, 0, 0, 0, 0⟩
def Ps.tick (P : Ps M O) : Ps M O := { P with lw := { P.lw with now := P.lw.now + 1 } }
/-- No machine turns the clock. -/
def Gm.Still (G : Gm M O) : Prop := ∀ o w t m, (G.step o w t m).2.1.now = w.now
/-- What any play is. -/
structure PWf (cs : List Cl) (P : Ps M O) : Prop where
  finl : P.fin.length = cs.length
  now : 0 ≤ P.lw.now
  call : ∀ (h : Nat) (e : Ep), P.evs[h]? = some e → e.call < cs.length ∧ 0 ≤ (callOf cs e.call).thread ∧ 1 ≤ e.inv ∧ e.inv ≤ P.lw.now ∧ 0 ≤ e.resp ∧ e.resp ≤ P.lw.now ∧ 0 ≤ e.steps
  hand : ∀ t m h, P.hands t = some (m, h) → ∃ e : Ep, P.evs[h]? = some e ∧ e.resp = 0 ∧ (callOf cs e.call).thread = t ∧ e.ans = ⟨0, 0, []⟩
  opn : ∀ (h : Nat) (e : Ep), P.evs[h]? = some e → e.resp = 0 → ∃ m, P.hands (callOf cs e.call).thread.toNat = some (m, h)
theorem PWf.new (words : List Int) (o : O) (cs : List Cl) : PWf cs (Ps.new words o cs.length : Ps M O) := by
  refine ⟨List.length_replicate, Int.le_refl _, fun h e he => ?_, fun t m h he => ?_, fun h e he => ?_⟩
  · cases he
  · cases he
  · cases he
theorem PWf.tick {cs : List Cl} {P : Ps M O} (W : PWf cs P) : PWf cs P.tick := by
  refine ⟨W.finl, ?_, fun h e he => ?_, W.hand, W.opn⟩
  · have := W.now
    show 0 ≤ P.lw.now + 1
    omega
  · obtain ⟨a, b, c, d, f, g, k⟩ := W.call h e he
    exact ⟨a, b, c, by show e.inv ≤ P.lw.now + 1; omega, f, by show e.resp ≤ P.lw.now + 1; omega, k⟩
theorem snoc_get {α : Type} {l : List α} {e d : α} {k : Nat} (h : (l ++ [e])[k]? = some d) : (k < l.length ∧ l[k]? = some d) ∨ (k = l.length ∧ d = e) := by
  rcases Nat.lt_trichotomy k l.length with hk | hk | hk
  · rw [List.getElem?_append_left hk] at h
    exact .inl ⟨hk, h⟩
  · subst hk
    rw [List.getElem?_append_right (Nat.le_refl _), Nat.sub_self] at h
    exact .inr ⟨rfl, (Option.some.inj h).symm⟩
  · rw [List.getElem?_eq_none (by simp; omega)] at h
    cases h
theorem snoc_old {α : Type} {l : List α} {e d : α} {k : Nat} (h : l[k]? = some d) : (l ++ [e])[k]? = some d := by
  obtain ⟨hk, _⟩ := List.getElem?_eq_some_iff.1 h
  rw [List.getElem?_append_left hk, h]
theorem snoc_new {α : Type} (l : List α) (e : α) : (l ++ [e])[l.length]? = some e := by
  rw [List.getElem?_append_right (Nat.le_refl _), Nat.sub_self]
  rfl
theorem get_lt {α : Type} {l : List α} {d : α} {k : Nat} (h : l[k]? = some d) : k < l.length := (List.getElem?_eq_some_iff.1 h).1
theorem snoc_modify {α : Type} (l : List α) (x : α) (f : α → α) : (l ++ [x]).modify l.length f = l ++ [f x] := by
  rw [List.modify_eq_take_drop]
  simp
theorem mod_get {α : Type} {l : List α} {f : α → α} {h k : Nat} {e : α} (he : (l.modify h f)[k]? = some e) : (k ≠ h ∧ l[k]? = some e) ∨ (k = h ∧ ∃ d, l[k]? = some d ∧ e = f d) := by
  cases hd : l[k]? with
  | none =>
    rw [List.getElem?_modify, hd] at he
    cases he
  | some d =>
    rw [List.getElem?_modify, hd] at he
    have he : some (if h = k then f d else d) = some e := he
    have he := Option.some.inj he
    by_cases hk : h = k
    · rw [if_pos hk] at he
      exact .inr ⟨hk.symm, d, rfl, he.symm⟩
    · rw [if_neg hk] at he
      exact .inl ⟨fun h => hk h.symm, by rw [he]⟩
theorem mod_same {α : Type} {l : List α} {f : α → α} {h : Nat} {d : α} (hd : l[h]? = some d) : (l.modify h f)[h]? = some (f d) := by
  rw [List.getElem?_modify, hd]
  show some (if h = h then f d else d) = _
  rw [if_pos rfl]
theorem mod_other {α : Type} {l : List α} {f : α → α} {h k : Nat} {d : α} (hk : k ≠ h) (hd : l[k]? = some d) : (l.modify h f)[k]? = some d := by
  rw [List.getElem?_modify, hd]
  show some (if h = k then f d else d) = _
  rw [if_neg (fun e => hk e.symm)]
theorem mod_facts {α : Type} {l l' : List α} {f : α → α} {h : Nat} {e : α} (hl : l' = l.modify h f) (he : l[h]? = some e) : (∀ (k : Nat) (x : α), l'[k]? = some x → (k ≠ h ∧ l[k]? = some x) ∨ (k = h ∧ x = f e)) ∧ (∀ (k : Nat) (x : α), k ≠ h → l[k]? = some x → l'[k]? = some x) ∧ l'[h]? = some (f e) := by
  subst hl
  refine ⟨fun k x hx => ?_, fun k x hk hx => mod_other hk hx, mod_same he⟩
  rcases mod_get hx with h' | ⟨rfl, y, hy, rfl⟩
  · exact .inl h'
  · rw [he] at hy
    cases hy
    exact .inr ⟨rfl, rfl⟩
theorem mm_at {m : Mm} {k a x y b : Int} (ha : m.in a) (hb : 0 ≤ b) : (m.acc k a x y).at b = if b = a then acY k (m.at a) x y else m.at b := by
  unfold Mm.acc
  rw [if_pos ha]
  unfold Mm.at
  show ((m.words.set a.toNat _)[b.toNat]?).getD 0 = _
  rw [List.getElem?_set]
  obtain ⟨h0, h1⟩ := ha
  by_cases h : b = a
  · subst h
    rw [if_pos rfl, if_pos rfl, if_pos (by omega)]
    rfl
  · rw [if_neg h, if_neg (by omega)]
theorem mm_read {m : Mm} {a x y b : Int} (ha : m.in a) (hb : 0 ≤ b) : (m.acc 0 a x y).at b = m.at b := by
  rw [mm_at ha hb]
  split
  · rename_i h
    rw [h]
    rfl
  · rfl
theorem mm_len (m : Mm) (k a x y : Int) : (m.acc k a x y).words.length = m.words.length := by
  unfold Mm.acc
  split <;> simp
theorem mm_tell {m : Mm} {k a x : Int} (ha : m.in a) : m.tell k a x = acV k (m.at a) x := if_pos ha
theorem PWf.start {cs : List Cl} {G : Gm M O} {P : Ps M O} (W : PWf cs P) {t i : Nat} {c : Cl} (hn : P.hands t = none) (hi : i < cs.length) (ht : (callOf cs i).thread = t) (h1 : 1 ≤ P.lw.now) : PWf cs (P.start G t i c) := by
  refine ⟨W.finl, W.now, fun h e he => ?_, fun s m h he => ?_, fun h e he hr => ?_⟩
  · rcases snoc_get he with ⟨_, he⟩ | ⟨_, rfl⟩
    · exact W.call h e he
    · exact ⟨hi, by rw [ht]; omega, h1, Int.le_refl _, Int.le_refl _, by show 0 ≤ P.lw.now; omega, Int.le_refl _⟩
  · show ∃ e, (P.evs ++ [_])[h]? = some e ∧ _
    by_cases hs : s = t
    · subst hs
      have he : upd P.hands s (some ((G.start P.obj s c).2, P.evs.length)) s = some (m, h) := he
      rw [upd_same] at he
      cases he
      exact ⟨_, snoc_new _ _, rfl, ht, rfl⟩
    · have he : upd P.hands t (some ((G.start P.obj t c).2, P.evs.length)) s = some (m, h) := he
      rw [upd_other hs] at he
      obtain ⟨e, e1, e2, e3, e4⟩ := W.hand s m h he
      exact ⟨e, snoc_old e1, e2, e3, e4⟩
  · show ∃ m, upd P.hands t _ _ = _
    rcases snoc_get he with ⟨_, he⟩ | ⟨rfl, rfl⟩
    · obtain ⟨m, hm⟩ := W.opn h e he hr
      refine ⟨m, ?_⟩
      rw [upd_other ?_]
      · exact hm
      · rintro h
        rw [h, hn] at hm
        cases hm
    · refine ⟨(G.start P.obj t c).2, ?_⟩
      show upd P.hands t _ (callOf cs i).thread.toNat = _
      rw [ht, Int.toNat_natCast, upd_same]
/-- The step of a machine: what the thread, and its event, come to. -/
def Ps.after (G : Gm M O) (P : Ps M O) (t : Nat) (m : M) : O × Lw × M × Bool := G.step P.obj P.lw t m
theorem step_obj (G : Gm M O) (P : Ps M O) (t i : Nat) (m : M) (h : Nat) : (P.step G t i m h).obj = (P.after G t m).1 := by
  unfold Ps.step Ps.after
  dsimp only
  split <;> rfl
theorem step_lw (G : Gm M O) (P : Ps M O) (t i : Nat) (m : M) (h : Nat) : (P.step G t i m h).lw = (P.after G t m).2.1 := by
  unfold Ps.step Ps.after
  dsimp only
  split <;> rfl
theorem step_done {G : Gm M O} {P : Ps M O} {t i : Nat} {m : M} {h : Nat} (hd : (P.after G t m).2.2.2 = true) : (P.step G t i m h).hands = upd P.hands t none ∧ (P.step G t i m h).fin = P.fin.set i true ∧
    ∃ key, (P.step G t i m h).evs = P.evs.modify h fun e => { e with steps := e.steps + 1, ans := (G.ans (P.after G t m).1 (P.after G t m).2.2.1).1, resp := (P.after G t m).2.1.now, key := key } := by
  unfold Ps.step
  unfold Ps.after at *
  dsimp only
  rw [if_pos hd]
  exact ⟨rfl, rfl, _, rfl⟩
theorem step_more {G : Gm M O} {P : Ps M O} {t i : Nat} {m : M} {h : Nat} (hd : (P.after G t m).2.2.2 = false) : (P.step G t i m h).hands = upd P.hands t (some ((P.after G t m).2.2.1, h)) ∧ (P.step G t i m h).fin = P.fin ∧
    (P.step G t i m h).evs = P.evs.modify h fun e => { e with steps := e.steps + 1 } := by
  unfold Ps.step
  unfold Ps.after at *
  dsimp only
  rw [if_neg (by rw [hd]; exact Bool.false_ne_true)]
  exact ⟨rfl, rfl, rfl⟩
theorem PWf.step {cs : List Cl} {G : Gm M O} {P : Ps M O} (hG : G.Still) (W : PWf cs P) {t i : Nat} {m : M} {h : Nat} (hm : P.hands t = some (m, h)) (h1 : 1 ≤ P.lw.now) : PWf cs (P.step G t i m h) := by
  obtain ⟨e0, he0, hr0, ht0, ha0⟩ := W.hand t m h hm
  have hnow : (P.step G t i m h).lw.now = P.lw.now := by
    rw [step_lw]
    exact hG _ _ _ _
  have hS : (P.after G t m).2.1.now = P.lw.now := hG _ _ _ _
  have honly : ∀ s m' k, P.hands s = some (m', k) → k = h → s = t := by
    intro s m' k hs hk
    subst hk
    obtain ⟨e, e1, _, e3, _⟩ := W.hand s m' k hs
    rw [he0] at e1
    cases e1
    omega
  cases hd : (P.after G t m).2.2.2 with
  | true =>
    obtain ⟨q1, q2, key, q3⟩ := step_done (i := i) (h := h) hd
    refine ⟨by rw [q2, List.length_set]; exact W.finl, by rw [hnow]; exact W.now, fun k e he => ?_, fun s m' k hs => ?_, fun k e he hr => ?_⟩
    · rw [q3] at he
      rw [hnow]
      rcases mod_get he with ⟨_, he⟩ | ⟨_, d, hd, rfl⟩
      · exact W.call k e he
      · obtain ⟨a, b, c, d', f, g, k'⟩ := W.call k d hd
        refine ⟨a, b, c, d', ?_, ?_, ?_⟩
        · show 0 ≤ (P.after G t m).2.1.now
          omega
        · show (P.after G t m).2.1.now ≤ _
          omega
        · show 0 ≤ d.steps + 1
          omega
    · rw [q1] at hs
      by_cases hst : s = t
      · subst hst
        rw [upd_same] at hs
        cases hs
      · rw [upd_other hst] at hs
        obtain ⟨e, e1, e2⟩ := W.hand s m' k hs
        rw [q3]
        exact ⟨e, mod_other (fun h => hst (honly _ _ _ hs h)) e1, e2⟩
    · rw [q3] at he
      rw [q1]
      rcases mod_get he with ⟨hk, he⟩ | ⟨_, d, hd, rfl⟩
      · obtain ⟨m', hm'⟩ := W.opn k e he hr
        refine ⟨m', ?_⟩
        rw [upd_other ?_]
        · exact hm'
        · intro h'
          rw [h', hm] at hm'
          cases hm'
          exact hk rfl
      · have : (P.after G t m).2.1.now = 0 := hr
        omega
  | false =>
    obtain ⟨q1, q2, q3⟩ := step_more (i := i) (h := h) hd
    refine ⟨by rw [q2]; exact W.finl, by rw [hnow]; exact W.now, fun k e he => ?_, fun s m' k hs => ?_, fun k e he hr => ?_⟩
    · rw [q3] at he
      rw [hnow]
      rcases mod_get he with ⟨_, he⟩ | ⟨_, d, hd, rfl⟩
      · exact W.call k e he
      · obtain ⟨a, b, c, d', f, g, k'⟩ := W.call k d hd
        exact ⟨a, b, c, d', f, g, by show 0 ≤ d.steps + 1; omega⟩
    · rw [q1] at hs
      rw [q3]
      by_cases hst : s = t
      · subst hst
        rw [upd_same] at hs
        cases hs
        exact ⟨_, mod_same he0, hr0, ht0, ha0⟩
      · rw [upd_other hst] at hs
        obtain ⟨e, e1, e2⟩ := W.hand s m' k hs
        exact ⟨e, mod_other (fun h => hst (honly _ _ _ hs h)) e1, e2⟩
    · rw [q3] at he
      rw [q1]
      rcases mod_get he with ⟨hk, he⟩ | ⟨rfl, d, hd, rfl⟩
      · obtain ⟨m', hm'⟩ := W.opn k e he hr
        refine ⟨m', ?_⟩
        rw [upd_other ?_]
        · exact hm'
        · intro h'
          rw [h', hm] at hm'
          cases hm'
          exact hk rfl
      · rw [he0] at hd
        cases hd
        refine ⟨(P.after G t m).2.2.1, ?_⟩
        show upd P.hands t _ (callOf cs e0.call).thread.toNat = _
        rw [ht0, Int.toNat_natCast, upd_same]
/-- A pick: nothing, or a step of the machine at hand, or of a new one. -/
theorem pick_cases (G : Gm M O) {cs : List Cl} (P : Ps M O) (p : Int) (hcs : ∀ c ∈ cs, 0 ≤ c.thread) :
    P.pick G cs p = { P with idle := P.idle + 1 } ∨
    ∃ t i : Nat, p = t ∧ i < cs.length ∧ (callOf cs i).thread = t ∧ nowF cs P.fin t = some i ∧
      ((∃ m h, P.hands t = some (m, h) ∧ P.pick G cs p = P.tick.step G t i m h) ∨
       (P.hands t = none ∧ P.pick G cs p = (P.tick.start G t i (callOf cs i)).step G t i (G.start P.obj t (callOf cs i)).2 P.evs.length)) := by
  unfold Ps.pick
  cases hn : nowF cs P.fin p with
  | none => exact .inl rfl
  | some i =>
    obtain ⟨hi, hth, hf⟩ := nowF_some hn
    have hC : cs[i]? = some (callOf cs i) := by
      unfold callOf
      rw [List.getElem?_eq_getElem hi]
      rfl
    rw [hC] at hth
    have hth : (callOf cs i).thread = p := Option.some.inj hth
    have h0 := hcs _ (List.mem_of_getElem? hC)
    have hp : ((p.toNat : Nat) : Int) = p := Int.toNat_of_nonneg (by omega)
    refine .inr ⟨p.toNat, i, hp.symm, hi, by rw [hp]; exact hth, by rw [hp]; exact hn, ?_⟩
    cases hh : P.hands p.toNat with
    | none => exact .inr ⟨rfl, rfl⟩
    | some mh => exact .inl ⟨mh.1, mh.2, rfl, rfl⟩
end
end Go.Proofs.YtfghmlpjbedomaaGreat
