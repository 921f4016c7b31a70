/- Events of a play are of different calls. -/
/- A lattice's plays: from the beginning to the end, and what LatticeRows and LatticeHolds say of the events. -/
import Derived.Test.YtlfingcmekifkaaBun2
import Derived.Test.YtlfingcmekifkaaLt3
namespace Go.Proofs.Ytlfingcmekifkaa
open Go.RowKit

section
variable {M O : Type}
structure CWf (cs : List Cl) (P : Ps M O) : Prop where
  hand : ∀ t m h, P.hands t = some (m, h) → ∃ e : Ep, P.evs[h]? = some e ∧ nowF cs P.fin t = some e.call
  fin : ∀ (h : Nat) (e : Ep), P.evs[h]? = some e → e.resp ≠ 0 → P.fin[e.call]?.getD false = true
  dist : ∀ (h k : Nat) (e e' : Ep), P.evs[h]? = some e → P.evs[k]? = some e' → e.call = e'.call → h = k
theorem CWf.new (words : List Int) (o : O) (cs : List Cl) : CWf cs (Ps.new words o cs.length : Ps M O) := by
  refine ⟨fun _ _ _ h => ?_, fun _ _ h => ?_, fun _ _ _ _ h => ?_⟩ <;> cases h
theorem nowF_other {cs : List Cl} {fin : List Bool} {i : Nat} {s t : Int} (hi : (callOf cs i).thread = t) (hl : i < cs.length) (hst : s ≠ t) : nowF cs (fin.set i true) s = nowF cs fin s := by
  unfold nowF remF
  congr 1
  refine List.filter_congr fun j _ => ?_
  by_cases hj : j = i
  · subst hj
    have : cs[j]? = some (callOf cs j) := by
      unfold callOf
      rw [List.getElem?_eq_getElem hl]
      rfl
    rw [this]
    have : decide ((some (callOf cs j)).map (·.thread) = some s) = false := decide_eq_false fun h => hst (by rw [← hi]; exact (Option.some.inj h).symm)
    rw [this]
    rfl
  · rw [List.getElem?_set, if_neg (fun h => hj h.symm)]
/-- A call that is begun has no event yet. -/
theorem CWf.fresh {cs : List Cl} {P : Ps M O} (W : PWf cs P) (C : CWf cs P) {t i : Nat} (hn : P.hands t = none) (h : nowF cs P.fin t = some i) (ht : (callOf cs i).thread = t) : ∀ (k : Nat) (e : Ep), P.evs[k]? = some e → e.call ≠ i := by
  rintro k e he rfl
  have hf := (nowF_some h).2.2
  by_cases hr : e.resp = 0
  · obtain ⟨m, hm⟩ := W.opn k e he hr
    rw [ht, Int.toNat_natCast, hn] at hm
    cases hm
  · rw [C.fin k e he hr] at hf
    cases hf
theorem CWf.start {cs : List Cl} {G : Gm M O} {P : Ps M O} (W : PWf cs P) (C : CWf cs P) {t i : Nat} {c : Cl} (hn : P.hands t = none) (h : nowF cs P.fin t = some i) (ht : (callOf cs i).thread = t) : CWf cs (P.start G t i c) := by
  have hfr := C.fresh W hn h ht
  refine ⟨fun s m k hk => ?_, fun k e he hr => ?_, fun k k' e e' he he' hc => ?_⟩
  · show ∃ e : Ep, (P.evs ++ [_])[k]? = some e ∧ nowF cs P.fin s = some e.call
    have hk : upd P.hands t (some ((G.start P.obj t c).2, P.evs.length)) s = some (m, k) := hk
    by_cases hs : s = t
    · subst hs
      rw [upd_same] at hk
      cases hk
      exact ⟨_, snoc_new _ _, h⟩
    · rw [upd_other hs] at hk
      obtain ⟨e, e1, e2⟩ := C.hand s m k hk
      exact ⟨e, snoc_old e1, e2⟩
  · rcases snoc_get he with ⟨_, he⟩ | ⟨_, rfl⟩
    · exact C.fin k e he hr
    · exact absurd rfl hr
  · rcases snoc_get he with ⟨_, he⟩ | ⟨h1, rfl⟩
    · rcases snoc_get he' with ⟨_, he'⟩ | ⟨_, rfl⟩
      · exact C.dist k k' e e' he he' hc
      · exact absurd hc (hfr k e he)
    · rcases snoc_get he' with ⟨_, he'⟩ | ⟨h2, rfl⟩
      · exact absurd hc.symm (hfr k' e' he')
      · omega
theorem CWf.step {cs : List Cl} {G : Gm M O} {P : Ps M O} (W : PWf cs P) (C : CWf cs P) {t i : Nat} {m : M} {h : Nat} (hm : P.hands t = some (m, h)) (hN : nowF cs P.fin t = some i) : CWf cs (P.step G t i m h) := by
  obtain ⟨e0, he0, hcall⟩ := C.hand t m h hm
  rw [hN] at hcall
  have hci : i = e0.call := Option.some.inj hcall
  obtain ⟨hil, hth, _⟩ := nowF_some hN
  have ht : (callOf cs i).thread = t := by
    have : cs[i]? = some (callOf cs i) := by
      unfold callOf
      rw [List.getElem?_eq_getElem hil]
      rfl
    rw [this] at hth
    exact Option.some.inj hth
  have honly : ∀ s m' k, P.hands s = some (m', k) → k = h → s = t := by
    intro s m' k hs hk
    subst hk
    obtain ⟨e, e1, _, e3, _⟩ := W.hand s m' k hs
    obtain ⟨x, x1, _, x3, _⟩ := W.hand t m k hm
    rw [e1] at x1
    cases x1
    omega
  cases hd : (P.after G t m).2.2.2 with
  | true =>
    obtain ⟨q1, q2, key, q3⟩ := step_done (i := i) (h := h) hd
    obtain ⟨f1, f2, f3⟩ := mod_facts q3 he0
    refine ⟨fun s m' k hk => ?_, fun k e he hr => ?_, fun k k' e e' he he' hc => ?_⟩
    · rw [q1] at hk
      rw [q2]
      by_cases hs : s = t
      · subst hs
        rw [upd_same] at hk
        cases hk
      · rw [upd_other hs] at hk
        obtain ⟨e, e1, e2⟩ := C.hand s m' k hk
        refine ⟨e, f2 k e (fun h => hs (honly _ _ _ hk h)) e1, ?_⟩
        rw [nowF_other ht hil (by omega)]
        exact e2
    · rw [q2]
      rcases f1 k e he with ⟨_, he⟩ | ⟨_, rfl⟩
      · have := C.fin k e he hr
        rw [List.getElem?_set]
        split
        · split
          · rfl
          · rename_i h1 h2
            rw [h1, W.finl] at h2
            exact absurd (W.call k e he).1 h2
        · exact this
      · show (P.fin.set i true)[e0.call]?.getD false = true
        rw [← hci, List.getElem?_set, if_pos rfl, if_pos (by rw [W.finl]; exact hil)]
        rfl
    · rcases f1 k e he with ⟨_, hx⟩ | ⟨hx1, hx2⟩
      · rcases f1 k' e' he' with ⟨_, hy⟩ | ⟨hy1, hy2⟩
        · exact C.dist k k' e e' hx hy hc
        · subst hy2
          rw [hy1]
          exact C.dist k h e e0 hx he0 hc
      · subst hx2
        rcases f1 k' e' he' with ⟨_, hy⟩ | ⟨hy1, hy2⟩
        · rw [hx1]
          exact C.dist h k' e0 e' he0 hy hc
        · rw [hx1, hy1]
  | false =>
    obtain ⟨q1, q2, q3⟩ := step_more (i := i) (h := h) hd
    obtain ⟨f1, f2, f3⟩ := mod_facts q3 he0
    refine ⟨fun s m' k hk => ?_, fun k e he hr => ?_, fun k k' e e' he he' hc => ?_⟩
    · rw [q1] at hk
      rw [q2]
      by_cases hs : s = t
      · subst hs
        rw [upd_same] at hk
        cases hk
        exact ⟨_, f3, by rw [hN, hci]⟩
      · rw [upd_other hs] at hk
        obtain ⟨e, e1, e2⟩ := C.hand s m' k hk
        exact ⟨e, f2 k e (fun h => hs (honly _ _ _ hk h)) e1, e2⟩
    · rw [q2]
      rcases f1 k e he with ⟨_, he⟩ | ⟨_, rfl⟩
      · exact C.fin k e he hr
      · exact C.fin h e0 he0 hr
    · rcases f1 k e he with ⟨_, hx⟩ | ⟨hx1, hx2⟩
      · rcases f1 k' e' he' with ⟨_, hy⟩ | ⟨hy1, hy2⟩
        · exact C.dist k k' e e' hx hy hc
        · subst hy2
          rw [hy1]
          exact C.dist k h e e0 hx he0 hc
      · subst hx2
        rcases f1 k' e' he' with ⟨_, hy⟩ | ⟨hy1, hy2⟩
        · rw [hx1]
          exact C.dist h k' e0 e' he0 hy hc
        · rw [hx1, hy1]
theorem CWf.tick {cs : List Cl} {P : Ps M O} (C : CWf cs P) : CWf cs P.tick := ⟨C.hand, C.fin, C.dist⟩
theorem wf_pick {cs : List Cl} {G : Gm M O} {P : Ps M O} (hG : G.Still) (W : PWf cs P) (C : CWf cs P) (p : Int) (hcs : ∀ c ∈ cs, 0 ≤ c.thread) : PWf cs (P.pick G cs p) ∧ CWf cs (P.pick G cs p) := by
  have h1 : 1 ≤ P.tick.lw.now := by
    have := W.now
    show 1 ≤ P.lw.now + 1
    omega
  rcases pick_cases G P p hcs with h | ⟨t, i, _, hi, ht, hN, ⟨m, h, hm, hp⟩ | ⟨hn, hp⟩⟩
  · rw [h]
    exact ⟨⟨W.finl, W.now, W.call, W.hand, W.opn⟩, ⟨C.hand, C.fin, C.dist⟩⟩
  · rw [hp]
    exact ⟨W.tick.step (P := P.tick) hG hm h1, C.tick.step (P := P.tick) W.tick hm hN⟩
  · rw [hp]
    have hh : (P.tick.start G t i (callOf cs i)).hands t = some ((G.start P.obj t (callOf cs i)).2, P.evs.length) := by
      show upd P.hands t (some ((G.start P.obj t (callOf cs i)).2, P.evs.length)) t = _
      rw [upd_same]
    have W' := W.tick.start (G := G) (P := P.tick) (c := callOf cs i) hn hi ht h1
    have C' := C.tick.start (G := G) (P := P.tick) (c := callOf cs i) W.tick hn hN ht
    exact ⟨W'.step hG hh h1, C'.step W' hh hN⟩
theorem wf_play {cs : List Cl} {G : Gm M O} (hG : G.Still) (hcs : ∀ c ∈ cs, 0 ≤ c.thread) (picks : List Int) : ∀ {P : Ps M O}, PWf cs P → CWf cs P → PWf cs (P.play G cs picks) ∧ CWf cs (P.play G cs picks) := by
  induction picks with
  | nil => exact fun W C => ⟨W, C⟩
  | cons p l ih =>
    intro P W C
    obtain ⟨W', C'⟩ := wf_pick hG W C p hcs
    exact ih W' C'
end
end Go.Proofs.Ytlfingcmekifkaa

namespace Go.Proofs.Ytlfingcmekifkaa
open Go.RowKit

section
variable {n p : Nat} {cs : List Cl} {P : Ps LM Lat} {g : Gh} {N : Int} {t i : Nat}
theorem LIv.start (hn : 1 ≤ n) (I : LIv n p cs P g N) (hN : 0 ≤ N) (hw : P.lw.now = N + 1) (hh : P.hands t = none) (hi : i < cs.length) (ht : (callOf cs i).thread = t) (htn : t < n) : LIv n p cs (P.start latG t i (callOf cs i)) g N := by
  obtain ⟨on1, on2⟩ := I.on
  have hwf := I.wf.start (G := latG) (c := callOf cs i) hh hi ht (by omega)
  have hobj : (P.start latG t i (callOf cs i)).obj = P.obj := by
    show (latStart P.obj t (callOf cs i)).1 = P.obj
    unfold latStart
    repeat' split
    all_goals rfl
  refine ⟨hwf, by rw [hobj]; exact I.on, I.gok, by rw [hobj]; exact I.cnt, ⟨I.mem.len, I.mem.cell, I.mem.le, I.mem.val, I.mem.view, I.mem.trace, I.mem.tmo⟩, by rw [hobj]; exact I.vm, by rw [hobj]; exact I.own, fun s τ k j hk hk' hb => ?_, fun s m h hs => ?_, fun h x hx => ?_⟩
  · obtain ⟨h, y, ⟨r1, r2, r3⟩, r4⟩ := I.wit s τ k j hk hk' hb
    refine ⟨h, y, ⟨snoc_old r1, r2, ?_⟩, r4⟩
    rcases r3 with r3 | ⟨t', v, q, all, r3⟩
    · exact Or.inl r3
    · refine Or.inr ⟨t', v, q, all, ?_⟩
      show upd P.hands t _ t' = _
      rw [upd_other (fun e => by rw [e, hh] at r3; cases r3)]
      exact r3
  · have hs : upd P.hands t (some ((latStart P.obj t (callOf cs i)).2, P.evs.length)) s = some (m, h) := hs
    by_cases e : s = t
    · subst e
      rw [upd_same] at hs
      cases hs
      refine ⟨htn, _, snoc_new _ _, ?_⟩
      rw [hobj]
      have sc : ∃ b, (P.lw.now : Int) ≤ b ∧ ScOk n p g s b N Sc.new := ⟨N + 1, by omega, ScOk.new hn (fun τ h => I.gok.fut τ s (by omega)) (Int.le_refl _)⟩
      unfold latStart
      by_cases h1 : (callOf cs i).obj ≠ 0
      · rw [if_pos h1]
        exact ⟨by decide, rfl⟩
      · rw [if_neg h1]
        by_cases h2 : (callOf cs i).kind = 0
        · rw [if_pos h2]
          dsimp only
          by_cases h3 : P.obj.p ≤ P.obj.used s
          · rw [if_pos h3]
            exact ⟨⟨Decidable.not_not.1 h1, h2⟩, rfl⟩
          · rw [if_neg h3, on1, on2]
            exact ⟨rfl, ⟨Decidable.not_not.1 h1, h2⟩, rfl, by omega, rfl, sc, Or.inl ⟨rfl, by show (0 : Nat) ≠ 3; decide, rfl⟩, fun h => absurd h (by omega), fun j hj => absurd hj (by omega), by show (0 : Int) ≤ _; omega⟩
        · rw [if_neg h2]
          by_cases h3 : (callOf cs i).kind = 1
          · rw [if_pos h3]
            exact ⟨⟨Decidable.not_not.1 h1, h3⟩, rfl, by show (0 : Nat) ≠ 3; decide, sc, by show (0 : Int) ≤ _; omega⟩
          · rw [if_neg h3]
            exact ⟨by decide, rfl⟩
    · rw [upd_other e] at hs
      obtain ⟨h1, x, h2, h3⟩ := I.mach s m h hs
      refine ⟨h1, x, snoc_old h2, ?_⟩
      rw [hobj]
      cases m <;> exact h3
  · rw [hobj]
    rcases snoc_get hx with ⟨_, hx⟩ | ⟨_, rfl⟩
    · obtain ⟨a, b, c⟩ := I.evs h x hx
      refine ⟨a, b, fun c1 c2 c3 => ?_⟩
      obtain ⟨d1, d2⟩ := c c1 c2 c3
      refine ⟨d1, fun k y hk hy => ?_⟩
      rcases snoc_get hy with ⟨_, hy⟩ | ⟨hk2, _⟩
      · exact d2 k y hk hy
      · have := get_lt hx
        omega
    · exact ⟨⟨by show (0 : Int) ≤ _; omega, fun _ => by show (0 : Int) ≤ _; omega⟩, fun _ h => absurd rfl h, fun _ h => absurd rfl h⟩
theorem LIv.pick (hn : 1 ≤ n) (hcs : ∀ c ∈ cs, 0 ≤ c.thread ∧ c.thread < n) (I : LIv n p cs P g P.lw.now) (q : Int) : ∃ g', LIv n p cs (P.pick latG cs q) g' (P.pick latG cs q).lw.now := by
  have h0 := I.wf.now
  unfold Ps.pick
  cases hq : nowF cs P.fin q with
  | none => exact ⟨g, ⟨⟨I.wf.finl, I.wf.now, I.wf.call, I.wf.hand, I.wf.opn⟩, I.on, I.gok, I.cnt, I.mem, I.vm, I.own, I.wit, I.mach, I.evs⟩⟩
  | some i =>
    obtain ⟨hi, hth, _⟩ := nowF_some hq
    have hcl : cs[i]? = some (callOf cs i) := by unfold callOf; rw [List.getElem?_eq_getElem hi]; rfl
    have hq2 : (callOf cs i).thread = q := by rw [hcl] at hth; simpa using hth
    obtain ⟨c1, c2⟩ := hcs _ (List.mem_of_getElem? hcl)
    have htq : (callOf cs i).thread = (q.toNat : Int) := by omega
    have I1 : LIv n p cs P.tick g P.lw.now := ⟨I.wf.tick, I.on, I.gok, I.cnt, ⟨I.mem.len, I.mem.cell, I.mem.le, I.mem.val, I.mem.view, I.mem.trace, I.mem.tmo⟩, I.vm, I.own, I.wit, fun t m h hm => by
      obtain ⟨a, e, b, c⟩ := I.mach t m h hm
      refine ⟨a, e, b, ?_⟩
      cases m <;> exact c, I.evs⟩
    have fin : ∀ {Q : Ps LM Lat} {m : LM} {h : Nat}, LIv n p cs Q g P.lw.now → Q.lw.now = P.lw.now + 1 → Q.hands q.toNat = some (m, h) → ∃ g', LIv n p cs (Q.step latG q.toNat i m h) g' (Q.step latG q.toNat i m h).lw.now := fun {Q m h} J h1 h2 => by
      obtain ⟨g', hg'⟩ := J.step (i := i) hn h0 h1 h2
      refine ⟨g', ?_⟩
      rw [step_lw]
      have : (Q.after latG q.toNat m).2.1.now = P.lw.now + 1 := (latG_still _ _ _ _).trans h1
      rw [this]
      exact hg'
    dsimp only
    cases hh : P.hands q.toNat with
    | some mh =>
      obtain ⟨m, h⟩ := mh
      exact fin I1 rfl hh
    | none =>
      have I2 := I1.start hn h0 rfl hh hi htq (by omega)
      exact fin I2 rfl (upd_same _ _ _)
theorem LIv.play (hn : 1 ≤ n) (hcs : ∀ c ∈ cs, 0 ≤ c.thread ∧ c.thread < n) : ∀ (picks : List Int) {P : Ps LM Lat} {g : Gh}, LIv n p cs P g P.lw.now → ∃ g', LIv n p cs (P.play latG cs picks) g' (P.play latG cs picks).lw.now
  | [], _, g, I => ⟨g, I⟩
  | q :: l, _, _, I => by
    obtain ⟨g1, I1⟩ := I.pick hn hcs q
    exact LIv.play hn hcs l I1
theorem at_zero (m : Nat) (b : Int) : (Mm.new (List.replicate m 0)).at b = 0 := by
  unfold Mm.at Mm.new
  dsimp only
  rw [List.getElem?_replicate]
  split <;> rfl
theorem LIv.new (n p : Nat) (cs : List Cl) : LIv n p cs (Ps.new (List.replicate (n + n * p * (n + 1)) 0) ⟨n, p, fun _ => 0, fun _ => 0⟩ cs.length) ⟨fun _ _ => 0, fun _ _ => 0, fun _ _ => 0⟩ 0 := by
  refine ⟨PWf.new _ _ _, ⟨rfl, rfl⟩, ⟨fun _ _ _ _ => Nat.le_refl _, fun _ _ _ => rfl⟩, fun _ => rfl, ⟨?_, fun t _ => at_zero _ _, fun _ => Nat.zero_le _, fun t k _ h1 h2 => ?_, fun t k _ h1 h2 => ?_, fun t k _ h1 h2 => ?_, fun t k _ h1 h2 => ?_⟩, fun t k k' h1 h2 => ?_, fun _ => rfl, fun t τ k i h1 h2 => ?_, fun t m h hm => ?_, fun h e he => ?_⟩
  · show (List.replicate _ (0 : Int)).length = _
    simp
  · have h2 : k ≤ 0 := h2; omega
  · have h2 : k ≤ 0 := h2; omega
  · have h2 : k ≤ 0 := h2; omega
  · have h2 : k ≤ 0 := h2; omega
  · have h2 : k' ≤ 0 := h2
    obtain rfl : k = 0 := by omega
    exact subI_zero _
  · have h2 : k ≤ 0 := h2; omega
  · cases hm
  · cases he
theorem LIv.mono (I : LIv n p cs P g N) {τ τ' : Int} (h : τ ≤ τ') (h' : τ' ≤ N) : subI (unI (g.view τ n)) (unI (g.view τ' n)) := by
  intro b hb
  rw [bit_un] at hb ⊢
  obtain ⟨x, hx, hb⟩ := hb
  unfold Gh.view at hx ⊢
  obtain ⟨j, hj, rfl⟩ := List.mem_map.1 hx
  have h1 := I.gok.mono τ τ' j h
  have h2 := I.gok.mono τ' N j h'
  rw [I.cnt j] at h2
  exact ⟨_, List.mem_map.2 ⟨j, hj, rfl⟩, I.vm j _ _ h1 h2 b hb⟩
end
def toldE (cs : List Cl) (e : Ep) : Prop := (isGive cs e ∨ isTell cs e) ∧ e.resp ≠ 0 ∧ e.ans.err = 0
theorem lat_rows {n p : Nat} (hn : 1 ≤ n) {cs : List Cl} (hcs : ∀ c ∈ cs, 0 ≤ c.thread ∧ c.thread < n) (picks : List Int) (h k : Nat) (x y : Ep) (hx : (latPlay n p cs picks).evs[h]? = some x) (hy : (latPlay n p cs picks).evs[k]? = some y) (tx : toldE cs x) (ty : toldE cs y) :
    (subI x.ans.val y.ans.val ∨ subI y.ans.val x.ans.val) ∧ (x.resp < y.inv → subI x.ans.val y.ans.val) := by
  obtain ⟨g, I⟩ := (LIv.new n p cs).play hn hcs picks
  obtain ⟨⟨τ, a1, a2, a3, a4⟩, _⟩ := (I.evs h x hx).2.2 tx.1 tx.2.1 tx.2.2
  obtain ⟨⟨σ, b1, b2, b3, b4⟩, _⟩ := (I.evs k y hy).2.2 ty.1 ty.2.1 ty.2.2
  rw [a4, b4]
  refine ⟨?_, fun hlt => I.mono (by omega) b3⟩
  rcases Int.le_total τ σ with hle | hle
  · exact Or.inl (I.mono hle b3)
  · exact Or.inr (I.mono hle a3)
theorem lat_holds {n p : Nat} (hn : 1 ≤ n) {cs : List Cl} (hcs : ∀ c ∈ cs, 0 ≤ c.thread ∧ c.thread < n) (picks : List Int) (h : Nat) (x : Ep) (hx : (latPlay n p cs picks).evs[h]? = some x) :
    x.call < cs.length ∧ x.steps ≤ 2 * (n * n : Nat) + 5 * n + 2 ∧ ((callOf cs x.call).kind = 1 → x.steps ≤ (n * n : Nat) + 2 * n) ∧ (toldE cs x →
      (∀ (k : Nat) (y : Ep), k ≤ h → (latPlay n p cs picks).evs[k]? = some y → thrE cs y = thrE cs x → isGive cs y → y.ans.err = 0 → subI (argA cs y) x.ans.val) ∧
      ∀ b, bit x.ans.val b = true → ∃ (k : Nat) (y : Ep), (latPlay n p cs picks).evs[k]? = some y ∧ isGive cs y ∧ y.ans.err = 0 ∧ y.inv ≤ x.resp ∧ bit (argA cs y) b = true) := by
  obtain ⟨g, I⟩ := (LIv.new n p cs).play hn hcs picks
  obtain ⟨⟨e1, e2⟩, _, e3⟩ := I.evs h x hx
  have hmx : mxS n = n * n + 2 * n := by unfold mxS; rw [Nat.succ_mul]; omega
  refine ⟨(I.wf.call h x hx).1, by rw [hmx] at e1; omega, fun hk => by have := e2 hk; rw [hmx] at this; omega, fun ⟨t1, t2, t3⟩ => ?_⟩
  obtain ⟨⟨τ, a1, a2, a3, a4⟩, a5⟩ := e3 t1 t2 t3
  refine ⟨fun k y hk hy ht hg he => (a5 k y hk hy ht).2 hg he, fun b hb => ?_⟩
  rw [a4, bit_un] at hb
  obtain ⟨v, hv, hb⟩ := hb
  unfold Gh.view at hv
  obtain ⟨j, _, rfl⟩ := List.mem_map.1 hv
  by_cases h0 : g.H τ j = 0
  · rw [h0] at hb
    have : g.vv j 0 = 0 := rfl
    rw [this, bit_zero] at hb
    cases hb
  · have hvv : g.vv j (g.H τ j) = g.v j (g.H τ j) := by unfold Gh.vv; rw [if_neg h0]
    rw [hvv] at hb
    obtain ⟨k, y, ⟨r1, r2, r3⟩, r4, r5, r6⟩ := I.wit j τ _ b (by omega) (Nat.le_refl _) hb
    refine ⟨k, y, r1, r2, ?_, by omega, r5⟩
    rcases r3 with r3 | ⟨t', v, q, all, r3⟩
    · exact r3.2
    · obtain ⟨e0, z1, z2, z3, z4⟩ := I.wf.hand t' _ k r3
      have r1' : (latPlay n p cs picks).evs[k]? = some e0 := z1
      have hye : y = e0 := Option.some.inj (r1.symm.trans r1')
      rw [hye, z4]
end Go.Proofs.Ytlfingcmekifkaa
