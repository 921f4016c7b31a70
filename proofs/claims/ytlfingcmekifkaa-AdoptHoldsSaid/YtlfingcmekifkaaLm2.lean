/- Events of a play are of different calls. -/
import Derived.Test.YtlfingcmekifkaaLm1
namespace Go.Proofs.Ytlfingcmekifkaa
open Go.RowKit

section
variable {M O : Type}
structure CWf (cs : List Cl) (P : Ps M O) : Prop where
  hand : ∀ t m h, P.hands t = some (m, h) → ∃ e : Ep, P.evs[h]? = some e ∧ nowF cs P.fin t = some e.call
  fin : ∀ (h : Nat) (e : Ep), P.evs[h]? = some e → e.resp ≠ 0 → P.fin[e.call]?.getD false = true
  dist : ∀ (h k : Nat) (e e' : Ep), P.evs[h]? = some e → P.evs[k]? = some e' → e.call = e'.call → h = k
theorem CWf.new (words : List Int) (o : O) (cs : List Cl) : CWf cs (Ps.new words o cs.length : Ps M O) := by
  refine ⟨fun _ _ _ h => ?_, fun _ _ h => ?_, fun _ _ _ _ h => ?_⟩ <;> cases h
theorem nowF_other {cs : List Cl} {fin : List Bool} {i : Nat} {s t : Int} (hi : (callOf cs i).thread = t) (hl : i < cs.length) (hst : s ≠ t) : nowF cs (fin.set i true) s = nowF cs fin s := by
  unfold nowF remF
  congr 1
  refine List.filter_congr fun j _ => ?_
  by_cases hj : j = i
  · subst hj
    have : cs[j]? = some (callOf cs j) := by
      unfold callOf
      rw [List.getElem?_eq_getElem hl]
      rfl
    rw [this]
    have : decide ((some (callOf cs j)).map (·.thread) = some s) = false := decide_eq_false fun h => hst (by rw [← hi]; exact (Option.some.inj h).symm)
    rw [this]
    rfl
  · rw [List.getElem?_set, if_neg (fun h => hj h.symm)]
/-- A call that is begun has no event yet. -/
theorem CWf.fresh {cs : List Cl} {P : Ps M O} (W : PWf cs P) (C : CWf cs P) {t i : Nat} (hn : P.hands t = none) (h : nowF cs P.fin t = some i) (ht : (callOf cs i).thread = t) : ∀ (k : Nat) (e : Ep), P.evs[k]? = some e → e.call ≠ i := by
  rintro k e he rfl
  have hf := (nowF_some h).2.2
  by_cases hr : e.resp = 0
  · obtain ⟨m, hm⟩ := W.opn k e he hr
    rw [ht, Int.toNat_natCast, hn] at hm
    cases hm
  · rw [C.fin k e he hr] at hf
    cases hf
theorem CWf.start {cs : List Cl} {G : Gm M O} {P : Ps M O} (W : PWf cs P) (C : CWf cs P) {t i : Nat} {c : Cl} (hn : P.hands t = none) (h : nowF cs P.fin t = some i) (ht : (callOf cs i).thread = t) : CWf cs (P.start G t i c) := by
  have hfr := C.fresh W hn h ht
  refine ⟨fun s m k hk => ?_, fun k e he hr => ?_, fun k k' e e' he he' hc => ?_⟩
  · show ∃ e : Ep, (P.evs ++ [_])[k]? = some e ∧ nowF cs P.fin s = some e.call
    have hk : upd P.hands t (some ((G.start P.obj t c).2, P.evs.length)) s = some (m, k) := hk
    by_cases hs : s = t
    · subst hs
      rw [upd_same] at hk
      cases hk
      exact ⟨_, snoc_new _ _, h⟩
    · rw [upd_other hs] at hk
      obtain ⟨e, e1, e2⟩ := C.hand s m k hk
      exact ⟨e, snoc_old e1, e2⟩
  · rcases snoc_get he with ⟨_, he⟩ | ⟨_, rfl⟩
    · exact C.fin k e he hr
    · exact absurd rfl hr
  · rcases snoc_get he with ⟨_, he⟩ | ⟨h1, rfl⟩
    · rcases snoc_get he' with ⟨_, he'⟩ | ⟨_, rfl⟩
      · exact C.dist k k' e e' he he' hc
      · exact absurd hc (hfr k e he)
    · rcases snoc_get he' with ⟨_, he'⟩ | ⟨h2, rfl⟩
      · exact absurd hc.symm (hfr k' e' he')
      · omega
theorem CWf.step {cs : List Cl} {G : Gm M O} {P : Ps M O} (W : PWf cs P) (C : CWf cs P) {t i : Nat} {m : M} {h : Nat} (hm : P.hands t = some (m, h)) (hN : nowF cs P.fin t = some i) : CWf cs (P.step G t i m h) := by
  obtain ⟨e0, he0, hcall⟩ := C.hand t m h hm
  rw [hN] at hcall
  have hci : i = e0.call := Option.some.inj hcall
  obtain ⟨hil, hth, _⟩ := nowF_some hN
  have ht : (callOf cs i).thread = t := by
    have : cs[i]? = some (callOf cs i) := by
      unfold callOf
      rw [List.getElem?_eq_getElem hil]
      rfl
    rw [this] at hth
    exact Option.some.inj hth
  have honly : ∀ s m' k, P.hands s = some (m', k) → k = h → s = t := by
    intro s m' k hs hk
    subst hk
    obtain ⟨e, e1, _, e3, _⟩ := W.hand s m' k hs
    obtain ⟨x, x1, _, x3, _⟩ := W.hand t m k hm
    rw [e1] at x1
    cases x1
    omega
  cases hd : (P.after G t m).2.2.2 with
  | true =>
    obtain ⟨q1, q2, key, q3⟩ := step_done (i := i) (h := h) hd
    obtain ⟨f1, f2, f3⟩ := mod_facts q3 he0
    refine ⟨fun s m' k hk => ?_, fun k e he hr => ?_, fun k k' e e' he he' hc => ?_⟩
    · rw [q1] at hk
      rw [q2]
      by_cases hs : s = t
      · subst hs
        rw [upd_same] at hk
        cases hk
      · rw [upd_other hs] at hk
        obtain ⟨e, e1, e2⟩ := C.hand s m' k hk
        refine ⟨e, f2 k e (fun h => hs (honly _ _ _ hk h)) e1, ?_⟩
        rw [nowF_other ht hil (by omega)]
        exact e2
    · rw [q2]
      rcases f1 k e he with ⟨_, he⟩ | ⟨_, rfl⟩
      · have := C.fin k e he hr
        rw [List.getElem?_set]
        split
        · split
          · rfl
          · rename_i h1 h2
            rw [h1, W.finl] at h2
            exact absurd (W.call k e he).1 h2
        · exact this
      · show (P.fin.set i true)[e0.call]?.getD false = true
        rw [← hci, List.getElem?_set, if_pos rfl, if_pos (by rw [W.finl]; exact hil)]
        rfl
    · rcases f1 k e he with ⟨_, hx⟩ | ⟨hx1, hx2⟩
      · rcases f1 k' e' he' with ⟨_, hy⟩ | ⟨hy1, hy2⟩
        · exact C.dist k k' e e' hx hy hc
        · subst hy2
          rw [hy1]
          exact C.dist k h e e0 hx he0 hc
      · subst hx2
        rcases f1 k' e' he' with ⟨_, hy⟩ | ⟨hy1, hy2⟩
        · rw [hx1]
          exact C.dist h k' e0 e' he0 hy hc
        · rw [hx1, hy1]
  | false =>
    obtain ⟨q1, q2, q3⟩ := step_more (i := i) (h := h) hd
    obtain ⟨f1, f2, f3⟩ := mod_facts q3 he0
    refine ⟨fun s m' k hk => ?_, fun k e he hr => ?_, fun k k' e e' he he' hc => ?_⟩
    · rw [q1] at hk
      rw [q2]
      by_cases hs : s = t
      · subst hs
        rw [upd_same] at hk
        cases hk
        exact ⟨_, f3, by rw [hN, hci]⟩
      · rw [upd_other hs] at hk
        obtain ⟨e, e1, e2⟩ := C.hand s m' k hk
        exact ⟨e, f2 k e (fun h => hs (honly _ _ _ hk h)) e1, e2⟩
    · rw [q2]
      rcases f1 k e he with ⟨_, he⟩ | ⟨_, rfl⟩
      · exact C.fin k e he hr
      · exact C.fin h e0 he0 hr
    · rcases f1 k e he with ⟨_, hx⟩ | ⟨hx1, hx2⟩
      · rcases f1 k' e' he' with ⟨_, hy⟩ | ⟨hy1, hy2⟩
        · exact C.dist k k' e e' hx hy hc
        · subst hy2
          rw [hy1]
          exact C.dist k h e e0 hx he0 hc
      · subst hx2
        rcases f1 k' e' he' with ⟨_, hy⟩ | ⟨hy1, hy2⟩
        · rw [hx1]
          exact C.dist h k' e0 e' he0 hy hc
        · rw [hx1, hy1]
theorem CWf.tick {cs : List Cl} {P : Ps M O} (C : CWf cs P) : CWf cs P.tick := ⟨C.hand, C.fin, C.dist⟩
theorem wf_pick {cs : List Cl} {G : Gm M O} {P : Ps M O} (hG : G.Still) (W : PWf cs P) (C : CWf cs P) (p : Int) (hcs : ∀ c ∈ cs, 0 ≤ c.thread) : PWf cs (P.pick G cs p) ∧ CWf cs (P.pick G cs p) := by
  have h1 : 1 ≤ P.tick.lw.now := by
    have := W.now
    show 1 ≤ P.lw.now + 1
    omega
  rcases pick_cases G P p hcs with h | ⟨t, i, _, hi, ht, hN, ⟨m, h, hm, hp⟩ | ⟨hn, hp⟩⟩
  · rw [h]
    exact ⟨⟨W.finl, W.now, W.call, W.hand, W.opn⟩, ⟨C.hand, C.fin, C.dist⟩⟩
  · rw [hp]
    exact ⟨W.tick.step (P := P.tick) hG hm h1, C.tick.step (P := P.tick) W.tick hm hN⟩
  · rw [hp]
    have hh : (P.tick.start G t i (callOf cs i)).hands t = some ((G.start P.obj t (callOf cs i)).2, P.evs.length) := by
      show upd P.hands t (some ((G.start P.obj t (callOf cs i)).2, P.evs.length)) t = _
      rw [upd_same]
    have W' := W.tick.start (G := G) (P := P.tick) (c := callOf cs i) hn hi ht h1
    have C' := C.tick.start (G := G) (P := P.tick) (c := callOf cs i) W.tick hn hN ht
    exact ⟨W'.step hG hh h1, C'.step W' hh hN⟩
theorem wf_play {cs : List Cl} {G : Gm M O} (hG : G.Still) (hcs : ∀ c ∈ cs, 0 ≤ c.thread) (picks : List Int) : ∀ {P : Ps M O}, PWf cs P → CWf cs P → PWf cs (P.play G cs picks) ∧ CWf cs (P.play G cs picks) := by
  induction picks with
  | nil => exact fun W C => ⟨W, C⟩
  | cons p l ih =>
    intro P W C
    obtain ⟨W', C'⟩ := wf_pick hG W C p hcs
    exact ih W' C'
end
end Go.Proofs.Ytlfingcmekifkaa
