import Derived.Test.YtlfingcmekifkaaGreatBun4
namespace Go.Proofs.YtlfingcmekifkaaGreat
open Go.RowKit
section
variable {M O : Type}
structure CWf (cs : List Cl) (P : Ps M O) : Prop where
  hand : ∀ t m h, P.hands t = some (m, h) → ∃ e : Ep, P.evs[h]? = some e ∧ nowF cs P.fin t = some e.call
  fin : ∀ (h : Nat) (e : Ep), P.evs[h]? = some e → e.resp ≠ 0 → P.fin[e.call]?.getD false = true
  dist : ∀ (h k : Nat) (e e' : Ep), P.evs[h]? = some e → P.evs[k]? = some e' → e.call = e'.call → h = k
theorem CWf.new (words : List Int) (o : O) (cs : List Cl) : CWf cs (Ps.new words o cs.length : Ps M O) := by
  refine ⟨fun _ _ _ h => ?_, fun _ _ h => ?_, fun _ _ _ _ h => ?_⟩ <;> cases h
theorem nowF_other {cs : List Cl} {fin : List Bool} {i : Nat} {s t : Int} (hi : (callOf cs i).thread = t) (hl : i < cs.length) (hst : s ≠ t) : nowF cs (fin.set i true) s = nowF cs fin s := by
  unfold nowF remF
  congr 1
  refine List.filter_congr fun j _ => ?_
  by_cases hj : j = i
  · subst hj
    have : cs[j]? = some (callOf cs j) := by
      unfold callOf
      rw [List.getElem?_eq_getElem hl]
      rfl
    rw [this]
    have : decide ((some (callOf cs j)).map (·.thread) = some s) = false := decide_eq_false fun h => hst (by rw [← hi]; exact (Option.some.inj h).symm)
    rw [this]
    rfl
  · rw [List.getElem?_set, if_neg (fun h => hj h.symm)]
theorem CWf.fresh {cs : List Cl} {P : Ps M O} (W : PWf cs P) (C : CWf cs P) {t i : Nat} (hn : P.hands t = none) (h : nowF cs P.fin t = some i) (ht : (callOf cs i).thread = t) : ∀ (k : Nat) (e : Ep), P.evs[k]? = some e → e.call ≠ i := by
  rintro k e he rfl
  have hf := (nowF_some h).2.2
  by_cases hr : e.resp = 0
  · obtain ⟨m, hm⟩ := W.opn k e he hr
    rw [ht, Int.toNat_natCast, hn] at hm
    cases hm
  · rw [C.fin k e he hr] at hf
    cases hf
theorem CWf.start {cs : List Cl} {G : Gm M O} {P : Ps M O} (W : PWf cs P) (C : CWf cs P) {t i : Nat} {c : Cl} (hn : P.hands t = none) (h : nowF cs P.fin t = some i) (ht : (callOf cs i).thread = t) : CWf cs (P.start G t i c) := by
  have hfr := C.fresh W hn h ht
  refine ⟨fun s m k hk => ?_, fun k e he hr => ?_, fun k k' e e' he he' hc => ?_⟩
  · show ∃ e : Ep, (P.evs ++ [_])[k]? = some e ∧ nowF cs P.fin s = some e.call
    have hk : upd P.hands t (some ((G.start P.obj t c).2, P.evs.length)) s = some (m, k) := hk
    by_cases hs : s = t
    · subst hs
      rw [upd_same] at hk
      cases hk
      exact ⟨_, snoc_new _ _, h⟩
    · rw [upd_other hs] at hk
      obtain ⟨e, e1, e2⟩ := C.hand s m k hk
      exact ⟨e, snoc_old e1, e2⟩
  · rcases snoc_get he with ⟨_, he⟩ | ⟨_, rfl⟩
    · exact C.fin k e he hr
    · exact absurd rfl hr
  · rcases snoc_get he with ⟨_, he⟩ | ⟨h1, rfl⟩
    · rcases snoc_get he' with ⟨_, he'⟩ | ⟨_, rfl⟩
      · exact C.dist k k' e e' he he' hc
      · exact absurd hc (hfr k e he)
    · rcases snoc_get he' with ⟨_, he'⟩ | ⟨h2, rfl⟩
      · exact absurd hc.symm (hfr k' e' he')
      · omega
theorem CWf.step {cs : List Cl} {G : Gm M O} {P : Ps M O} (W : PWf cs P) (C : CWf cs P) {t i : Nat} {m : M} {h : Nat} (hm : P.hands t = some (m, h)) (hN : nowF cs P.fin t = some i) : CWf cs (P.step G t i m h) := by
  obtain ⟨e0, he0, hcall⟩ := C.hand t m h hm
  rw [hN] at hcall
  have hci : i = e0.call := Option.some.inj hcall
  obtain ⟨hil, hth, _⟩ := nowF_some hN
  have ht : (callOf cs i).thread = t := by
    have : cs[i]? = some (callOf cs i) := by
      unfold callOf
      rw [List.getElem?_eq_getElem hil]
      rfl
    rw [this] at hth
    exact Option.some.inj hth
  have honly : ∀ s m' k, P.hands s = some (m', k) → k = h → s = t := by
    intro s m' k hs hk
    subst hk
    obtain ⟨e, e1, _, e3, _⟩ := W.hand s m' k hs
    obtain ⟨x, x1, _, x3, _⟩ := W.hand t m k hm
    rw [e1] at x1
    cases x1
    omega
  cases hd : (P.after G t m).2.2.2 with
  | true =>
    obtain ⟨q1, q2, key, q3⟩ := step_done (i := i) (h := h) hd
    obtain ⟨f1, f2, f3⟩ := mod_facts q3 he0
    refine ⟨fun s m' k hk => ?_, fun k e he hr => ?_, fun k k' e e' he he' hc => ?_⟩
    · rw [q1] at hk
      rw [q2]
      by_cases hs : s = t
      · subst hs
        rw [upd_same] at hk
        cases hk
      · rw [upd_other hs] at hk
        obtain ⟨e, e1, e2⟩ := C.hand s m' k hk
        refine ⟨e, f2 k e (fun h => hs (honly _ _ _ hk h)) e1, ?_⟩
        rw [nowF_other ht hil (by omega)]
        exact e2
    · rw [q2]
      rcases f1 k e he with ⟨_, he⟩ | ⟨_, rfl⟩
      · have := C.fin k e he hr
        rw [List.getElem?_set]
        split
        · split
          · rfl
          · rename_i h1 h2
            rw [h1, W.finl] at h2
            exact absurd (W.call k e he).1 h2
        · exact this
      · show (P.fin.set i true)[e0.call]?.getD false = true
        rw [← hci, List.getElem?_set, if_pos rfl, if_pos (by rw [W.finl]; exact hil)]
        rfl
    · rcases f1 k e he with ⟨_, hx⟩ | ⟨hx1, hx2⟩
      · rcases f1 k' e' he' with ⟨_, hy⟩ | ⟨hy1, hy2⟩
        · exact C.dist k k' e e' hx hy hc
        · subst hy2
          rw [hy1]
          exact C.dist k h e e0 hx he0 hc
      · subst hx2
        rcases f1 k' e' he' with ⟨_, hy⟩ | ⟨hy1, hy2⟩
        · rw [hx1]
          exact C.dist h k' e0 e' he0 hy hc
        · rw [hx1, hy1]
  | false =>
    obtain ⟨q1, q2, q3⟩ := step_more (i := i) (h := h) hd
    obtain ⟨f1, f2, f3⟩ := mod_facts q3 he0
    refine ⟨fun s m' k hk => ?_, fun k e he hr => ?_, fun k k' e e' he he' hc => ?_⟩
    · rw [q1] at hk
      rw [q2]
      by_cases hs : s = t
      · subst hs
        rw [upd_same] at hk
        cases hk
        exact ⟨_, f3, by rw [hN, hci]⟩
      · rw [upd_other hs] at hk
        obtain ⟨e, e1, e2⟩ := C.hand s m' k hk
        exact ⟨e, f2 k e (fun h => hs (honly _ _ _ hk h)) e1, e2⟩
    · rw [q2]
      rcases f1 k e he with ⟨_, he⟩ | ⟨_, rfl⟩
      · exact C.fin k e he hr
      · exact C.fin h e0 he0 hr
    · rcases f1 k e he with ⟨_, hx⟩ | ⟨hx1, hx2⟩
      · rcases f1 k' e' he' with ⟨_, hy⟩ | ⟨hy1, hy2⟩
        · exact C.dist k k' e e' hx hy hc
        · subst hy2
          rw [hy1]
          exact C.dist k h e e0 hx he0 hc
      · subst hx2
        rcases f1 k' e' he' with ⟨_, hy⟩ | ⟨hy1, hy2⟩
        · rw [hx1]
          exact C.dist h k' e0 e' he0 hy hc
        · rw [hx1, hy1]
theorem CWf.tick {cs : List Cl} {P : Ps M O} (C : CWf cs P) : CWf cs P.tick := ⟨C.hand, C.fin, C.dist⟩
theorem wf_pick {cs : List Cl} {G : Gm M O} {P : Ps M O} (hG : G.Still) (W : PWf cs P) (C : CWf cs P) (p : Int) (hcs : ∀ c ∈ cs, 0 ≤ c.thread) : PWf cs (P.pick G cs p) ∧ CWf cs (P.pick G cs p) := by
  have h1 : 1 ≤ P.tick.lw.now := by
    have := W.now
    show 1 ≤ P.lw.now + 1
    omega
  rcases pick_cases G P p hcs with h | ⟨t, i, _, hi, ht, hN, ⟨m, h, hm, hp⟩ | ⟨hn, hp⟩⟩
  · rw [h]
    exact ⟨⟨W.finl, W.now, W.call, W.hand, W.opn⟩, ⟨C.hand, C.fin, C.dist⟩⟩
  · rw [hp]
    exact ⟨W.tick.step (P := P.tick) hG hm h1, C.tick.step (P := P.tick) W.tick hm hN⟩
  · rw [hp]
    have hh : (P.tick.start G t i (callOf cs i)).hands t = some ((G.start P.obj t (callOf cs i)).2, P.evs.length) := by
      show upd P.hands t (some ((G.start P.obj t (callOf cs i)).2, P.evs.length)) t = _
      rw [upd_same]
    have W' := W.tick.start (G := G) (P := P.tick) (c := callOf cs i) hn hi ht h1
    have C' := C.tick.start (G := G) (P := P.tick) (c := callOf cs i) W.tick hn hN ht
    exact ⟨W'.step hG hh h1, C'.step W' hh hN⟩
theorem wf_play {cs : List Cl} {G : Gm M O} (hG : G.Still) (hcs : ∀ c ∈ cs, 0 ≤ c.thread) (picks : List Int) : ∀ {P : Ps M O}, PWf cs P → CWf cs P → PWf cs (P.play G cs picks) ∧ CWf cs (P.play G cs picks) := by
  induction picks with
  | nil => exact fun W C => ⟨W, C⟩
  | cons p l ih =>
    intro P W C
    obtain ⟨W', C'⟩ := wf_pick hG W C p hcs
    exact ih W' C'
end
end Go.Proofs.YtlfingcmekifkaaGreat

namespace Go.Proofs.YtlfingcmekifkaaGreat
open Go.RowKit
structure Ac where
  tick : Int
  thread : Int
  kind : Int
  at_ : Int
  old : Int
  now : Int
structure Rw where
  mem : Mm
  now : Int
  marks : Nat → List Int
  traces : Int → List Int
  log : List Ac
structure Tp where
  inv : Int
  got : List Int
  tks : List Int
  at_ : Nat
  fresh : Bool
  halt : Bool
  priv : List Int
  err : Int
  val : Int
  list : List Int
  key : List Int
def ClB (c : Cl) : Prop := (0 ≤ c.a ∧ c.a < 18446744073709551616) ∧ (0 ≤ c.b ∧ c.b < 18446744073709551616) ∧ (0 ≤ c.c ∧ c.c < 18446744073709551616)
def Tp.new (inv : Int) : Tp := ⟨inv, [], [], 0, false, false, [], 0, 0, [], []⟩
def Tp.again (T : Tp) : Tp := { T with at_ := 0, fresh := true, halt := false, err := 0, val := 0, list := [], key := [] }
def Rw.log1 (W : Rw) (t : Nat) (k a x y : Int) : List Ac := if W.mem.in a then W.log ++ [⟨W.now, t, k, a, W.mem.at a, (W.mem.acc k a x y).at a⟩] else W.log
def Tp.acc (t : Nat) (k a x y : Int) (T : Tp) (W : Rw) : Int × Tp × Rw :=
  if T.halt then (0, T, W)
  else if T.at_ < T.got.length then ((T.got[T.at_]?).getD 0, { T with at_ := T.at_ + 1 }, W)
  else if T.fresh then (W.mem.tell k a x, { T with fresh := false, got := T.got ++ [W.mem.tell k a x], tks := T.tks ++ [W.now], at_ := T.at_ + 1 }, { W with mem := W.mem.acc k a x y, log := W.log1 t k a x y })
  else (0, { T with halt := true }, W)
structure Hd where
  opn : Bool
  event : Nat
  tape : Tp
  own : Nat → List Int
structure Rs where
  w : Rw
  fin : List Bool
  hands : Nat → Hd
  evs : List Ep
  idle : Int
def Dof := Nat → Cl → Tp → Rw → Tp × Rw
def Rs.new (words : List Int) (m : Nat) : Rs := ⟨⟨Mm.new words, 0, fun _ => [], fun _ => [], []⟩, List.replicate m false, fun _ => ⟨false, 0, Tp.new 0, fun _ => []⟩, [], 0⟩
def Rs.tick (R : Rs) : Rs := { R with w := { R.w with now := R.w.now + 1 } }
def Rs.begin (R : Rs) (t i : Nat) : Rs :=
  { R with w := { R.w with marks := upd R.w.marks t [] }, hands := upd R.hands t { R.hands t with opn := true, event := R.evs.length, tape := Tp.new R.w.now }, evs := R.evs ++ [⟨i, R.w.now, 0, 0, ⟨0, 0, []⟩, []⟩] }
def Rs.run (D : Dof) (no : Nat) (R : Rs) (t : Nat) (c : Cl) : Tp × Rw :=
  if 0 ≤ c.obj ∧ c.obj < no then D t c { (R.hands t).tape.again with priv := (R.hands t).own c.obj.toNat } R.w else ({ (R.hands t).tape.again with err := 12 }, R.w)
def Rs.step (D : Dof) (no : Nat) (R : Rs) (t i : Nat) (c : Cl) : Rs :=
  let r := R.run D no t c
  let h := R.hands t
  if r.1.halt then { R with w := r.2, hands := upd R.hands t { h with tape := r.1 }, evs := R.evs.modify h.event fun e => { e with steps := e.steps + 1 } }
  else { R with w := r.2, fin := R.fin.set i true, hands := upd R.hands t { opn := false, event := h.event, tape := r.1, own := if 0 ≤ c.obj ∧ c.obj < no then upd h.own c.obj.toNat r.1.priv else h.own },
                evs := R.evs.modify h.event fun e => { e with steps := e.steps + 1, resp := r.2.now, ans := ⟨r.1.err, r.1.val, r.1.list⟩, key := keyOf r.1.key (r.2.marks t) r.2.now } }
def Rs.pick (D : Dof) (no : Nat) (cs : List Cl) (R : Rs) (p : Int) : Rs :=
  match nowF cs R.fin p with
  | none => { R with idle := R.idle + 1 }
  | some i => (if (R.hands p.toNat).opn then R.tick else R.tick.begin p.toNat i).step D no p.toNat i (callOf cs i)
def Rs.play (D : Dof) (no : Nat) (cs : List Cl) (R : Rs) (picks : List Int) : Rs := picks.foldl (Rs.pick D no cs) R
theorem rplay_succ {D : Dof} {no : Nat} {cs : List Cl} {R : Rs} {picks : List Int} {k : Nat} {p : Int} (h : picks[k]? = some p) : R.play D no cs (picks.take (k + 1)) = (R.play D no cs (picks.take k)).pick D no cs p := by
  unfold Rs.play
  rw [List.take_add_one, h]
  simp [List.foldl_append]
def Rs.endsK (R : Rs) (late : Hd → Nat → List Int) (n : Nat) : List Ep := (List.range n).foldl (fun evs t => if (R.hands t).opn then evs.modify (R.hands t).event fun e => { e with key := late (R.hands t) t } else evs) R.evs
structure Alike {M O : Type} (G : Gm M O) (D : Dof) (no : Nat) where
  own : O → Nat → (Nat → List Int) → Prop
  rep : O → Nat → Cl → (Nat → List Int) → Tp → M → Prop
def WRel (lw : Lw) (W : Rw) : Prop := W.mem = lw.mem ∧ W.now = lw.now ∧ (∀ t, W.marks t = lw.marks t) ∧ ∀ a, W.traces a = lw.traces a
def runT (D : Dof) (no : Nat) (t : Nat) (c : Cl) (ow : Nat → List Int) (T : Tp) (W : Rw) : Tp × Rw := if 0 ≤ c.obj ∧ c.obj < no then D t c { T.again with priv := ow c.obj.toNat } W else ({ T.again with err := 12 }, W)
structure Alike.Ok {M O : Type} {G : Gm M O} {D : Dof} {no : Nat} (A : Alike G D no) : Prop where
  start : ∀ {o : O} {t : Nat} {c : Cl} {ow : Nat → List Int} {inv : Int}, A.own o t ow → c.thread = t → t < 16 → ClB c → A.rep (G.start o t c).1 t c ow (Tp.new inv) (G.start o t c).2
  startO : ∀ {o : O} {t s : Nat} {c : Cl} {ow : Nat → List Int}, s ≠ t → A.own o s ow → A.own (G.start o t c).1 s ow
  startR : ∀ {o : O} {t s : Nat} {c c' : Cl} {ow : Nat → List Int} {T : Tp} {m : M}, s ≠ t → A.rep o s c' ow T m → A.rep (G.start o t c).1 s c' ow T m
  step : ∀ {o : O} {t : Nat} {c : Cl} {ow : Nat → List Int} {T : Tp} {m : M} {lw : Lw} {W : Rw}, A.rep o t c ow T m → WRel lw W → ClB c → c.thread = t → t < 16 →
    WRel (G.step o lw t m).2.1 (runT D no t c ow T W).2 ∧ (runT D no t c ow T W).1.halt = !(G.step o lw t m).2.2.2 ∧
    ((G.step o lw t m).2.2.2 = false → A.rep (G.step o lw t m).1 t c ow (runT D no t c ow T W).1 (G.step o lw t m).2.2.1) ∧
    ((G.step o lw t m).2.2.2 = true → A.own (G.step o lw t m).1 t (if 0 ≤ c.obj ∧ c.obj < no then upd ow c.obj.toNat (runT D no t c ow T W).1.priv else ow) ∧
      G.ans (G.step o lw t m).1 (G.step o lw t m).2.2.1 = (⟨(runT D no t c ow T W).1.err, (runT D no t c ow T W).1.val, (runT D no t c ow T W).1.list⟩, (runT D no t c ow T W).1.key))
  stepO : ∀ {o : O} {t s : Nat} {c2 : Cl} {ow2 : Nat → List Int} {T2 : Tp} {ow : Nat → List Int} {m : M} {lw : Lw}, s ≠ t → A.rep o t c2 ow2 T2 m → A.own o s ow → A.own (G.step o lw t m).1 s ow
  stepR : ∀ {o : O} {t s : Nat} {c2 : Cl} {ow2 : Nat → List Int} {T2 : Tp} {c' : Cl} {ow : Nat → List Int} {T : Tp} {m m' : M} {lw : Lw}, s ≠ t → A.rep o t c2 ow2 T2 m → A.rep o s c' ow T m' → A.rep (G.step o lw t m).1 s c' ow T m'
end Go.Proofs.YtlfingcmekifkaaGreat
