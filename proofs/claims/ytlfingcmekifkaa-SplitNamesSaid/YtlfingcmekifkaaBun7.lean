/- Events of a play are of different calls. -/
/- Threads that take names: the machine, and what its words, events and places are. -/
import Derived.Test.YtlfingcmekifkaaLm1
import Derived.Test.YtlfingcmekifkaaLs2
namespace Go.Proofs.Ytlfingcmekifkaa
open Go.RowKit

section
variable {M O : Type}
structure CWf (cs : List Cl) (P : Ps M O) : Prop where
  hand : ∀ t m h, P.hands t = some (m, h) → ∃ e : Ep, P.evs[h]? = some e ∧ nowF cs P.fin t = some e.call
  fin : ∀ (h : Nat) (e : Ep), P.evs[h]? = some e → e.resp ≠ 0 → P.fin[e.call]?.getD false = true
  dist : ∀ (h k : Nat) (e e' : Ep), P.evs[h]? = some e → P.evs[k]? = some e' → e.call = e'.call → h = k
theorem CWf.new (words : List Int) (o : O) (cs : List Cl) : CWf cs (Ps.new words o cs.length : Ps M O) := by
  refine ⟨fun _ _ _ h => ?_, fun _ _ h => ?_, fun _ _ _ _ h => ?_⟩ <;> cases h
theorem nowF_other {cs : List Cl} {fin : List Bool} {i : Nat} {s t : Int} (hi : (callOf cs i).thread = t) (hl : i < cs.length) (hst : s ≠ t) : nowF cs (fin.set i true) s = nowF cs fin s := by
  unfold nowF remF
  congr 1
  refine List.filter_congr fun j _ => ?_
  by_cases hj : j = i
  · subst hj
    have : cs[j]? = some (callOf cs j) := by
      unfold callOf
      rw [List.getElem?_eq_getElem hl]
      rfl
    rw [this]
    have : decide ((some (callOf cs j)).map (·.thread) = some s) = false := decide_eq_false fun h => hst (by rw [← hi]; exact (Option.some.inj h).symm)
    rw [this]
    rfl
  · rw [List.getElem?_set, if_neg (fun h => hj h.symm)]
/-- A call that is begun has no event yet. -/
theorem CWf.fresh {cs : List Cl} {P : Ps M O} (W : PWf cs P) (C : CWf cs P) {t i : Nat} (hn : P.hands t = none) (h : nowF cs P.fin t = some i) (ht : (callOf cs i).thread = t) : ∀ (k : Nat) (e : Ep), P.evs[k]? = some e → e.call ≠ i := by
  rintro k e he rfl
  have hf := (nowF_some h).2.2
  by_cases hr : e.resp = 0
  · obtain ⟨m, hm⟩ := W.opn k e he hr
    rw [ht, Int.toNat_natCast, hn] at hm
    cases hm
  · rw [C.fin k e he hr] at hf
    cases hf
theorem CWf.start {cs : List Cl} {G : Gm M O} {P : Ps M O} (W : PWf cs P) (C : CWf cs P) {t i : Nat} {c : Cl} (hn : P.hands t = none) (h : nowF cs P.fin t = some i) (ht : (callOf cs i).thread = t) : CWf cs (P.start G t i c) := by
  have hfr := C.fresh W hn h ht
  refine ⟨fun s m k hk => ?_, fun k e he hr => ?_, fun k k' e e' he he' hc => ?_⟩
  · show ∃ e : Ep, (P.evs ++ [_])[k]? = some e ∧ nowF cs P.fin s = some e.call
    have hk : upd P.hands t (some ((G.start P.obj t c).2, P.evs.length)) s = some (m, k) := hk
    by_cases hs : s = t
    · subst hs
      rw [upd_same] at hk
      cases hk
      exact ⟨_, snoc_new _ _, h⟩
    · rw [upd_other hs] at hk
      obtain ⟨e, e1, e2⟩ := C.hand s m k hk
      exact ⟨e, snoc_old e1, e2⟩
  · rcases snoc_get he with ⟨_, he⟩ | ⟨_, rfl⟩
    · exact C.fin k e he hr
    · exact absurd rfl hr
  · rcases snoc_get he with ⟨_, he⟩ | ⟨h1, rfl⟩
    · rcases snoc_get he' with ⟨_, he'⟩ | ⟨_, rfl⟩
      · exact C.dist k k' e e' he he' hc
      · exact absurd hc (hfr k e he)
    · rcases snoc_get he' with ⟨_, he'⟩ | ⟨h2, rfl⟩
      · exact absurd hc.symm (hfr k' e' he')
      · omega
theorem CWf.step {cs : List Cl} {G : Gm M O} {P : Ps M O} (W : PWf cs P) (C : CWf cs P) {t i : Nat} {m : M} {h : Nat} (hm : P.hands t = some (m, h)) (hN : nowF cs P.fin t = some i) : CWf cs (P.step G t i m h) := by
  obtain ⟨e0, he0, hcall⟩ := C.hand t m h hm
  rw [hN] at hcall
  have hci : i = e0.call := Option.some.inj hcall
  obtain ⟨hil, hth, _⟩ := nowF_some hN
  have ht : (callOf cs i).thread = t := by
    have : cs[i]? = some (callOf cs i) := by
      unfold callOf
      rw [List.getElem?_eq_getElem hil]
      rfl
    rw [this] at hth
    exact Option.some.inj hth
  have honly : ∀ s m' k, P.hands s = some (m', k) → k = h → s = t := by
    intro s m' k hs hk
    subst hk
    obtain ⟨e, e1, _, e3, _⟩ := W.hand s m' k hs
    obtain ⟨x, x1, _, x3, _⟩ := W.hand t m k hm
    rw [e1] at x1
    cases x1
    omega
  cases hd : (P.after G t m).2.2.2 with
  | true =>
    obtain ⟨q1, q2, key, q3⟩ := step_done (i := i) (h := h) hd
    obtain ⟨f1, f2, f3⟩ := mod_facts q3 he0
    refine ⟨fun s m' k hk => ?_, fun k e he hr => ?_, fun k k' e e' he he' hc => ?_⟩
    · rw [q1] at hk
      rw [q2]
      by_cases hs : s = t
      · subst hs
        rw [upd_same] at hk
        cases hk
      · rw [upd_other hs] at hk
        obtain ⟨e, e1, e2⟩ := C.hand s m' k hk
        refine ⟨e, f2 k e (fun h => hs (honly _ _ _ hk h)) e1, ?_⟩
        rw [nowF_other ht hil (by omega)]
        exact e2
    · rw [q2]
      rcases f1 k e he with ⟨_, he⟩ | ⟨_, rfl⟩
      · have := C.fin k e he hr
        rw [List.getElem?_set]
        split
        · split
          · rfl
          · rename_i h1 h2
            rw [h1, W.finl] at h2
            exact absurd (W.call k e he).1 h2
        · exact this
      · show (P.fin.set i true)[e0.call]?.getD false = true
        rw [← hci, List.getElem?_set, if_pos rfl, if_pos (by rw [W.finl]; exact hil)]
        rfl
    · rcases f1 k e he with ⟨_, hx⟩ | ⟨hx1, hx2⟩
      · rcases f1 k' e' he' with ⟨_, hy⟩ | ⟨hy1, hy2⟩
        · exact C.dist k k' e e' hx hy hc
        · subst hy2
          rw [hy1]
          exact C.dist k h e e0 hx he0 hc
      · subst hx2
        rcases f1 k' e' he' with ⟨_, hy⟩ | ⟨hy1, hy2⟩
        · rw [hx1]
          exact C.dist h k' e0 e' he0 hy hc
        · rw [hx1, hy1]
  | false =>
    obtain ⟨q1, q2, q3⟩ := step_more (i := i) (h := h) hd
    obtain ⟨f1, f2, f3⟩ := mod_facts q3 he0
    refine ⟨fun s m' k hk => ?_, fun k e he hr => ?_, fun k k' e e' he he' hc => ?_⟩
    · rw [q1] at hk
      rw [q2]
      by_cases hs : s = t
      · subst hs
        rw [upd_same] at hk
        cases hk
        exact ⟨_, f3, by rw [hN, hci]⟩
      · rw [upd_other hs] at hk
        obtain ⟨e, e1, e2⟩ := C.hand s m' k hk
        exact ⟨e, f2 k e (fun h => hs (honly _ _ _ hk h)) e1, e2⟩
    · rw [q2]
      rcases f1 k e he with ⟨_, he⟩ | ⟨_, rfl⟩
      · exact C.fin k e he hr
      · exact C.fin h e0 he0 hr
    · rcases f1 k e he with ⟨_, hx⟩ | ⟨hx1, hx2⟩
      · rcases f1 k' e' he' with ⟨_, hy⟩ | ⟨hy1, hy2⟩
        · exact C.dist k k' e e' hx hy hc
        · subst hy2
          rw [hy1]
          exact C.dist k h e e0 hx he0 hc
      · subst hx2
        rcases f1 k' e' he' with ⟨_, hy⟩ | ⟨hy1, hy2⟩
        · rw [hx1]
          exact C.dist h k' e0 e' he0 hy hc
        · rw [hx1, hy1]
theorem CWf.tick {cs : List Cl} {P : Ps M O} (C : CWf cs P) : CWf cs P.tick := ⟨C.hand, C.fin, C.dist⟩
theorem wf_pick {cs : List Cl} {G : Gm M O} {P : Ps M O} (hG : G.Still) (W : PWf cs P) (C : CWf cs P) (p : Int) (hcs : ∀ c ∈ cs, 0 ≤ c.thread) : PWf cs (P.pick G cs p) ∧ CWf cs (P.pick G cs p) := by
  have h1 : 1 ≤ P.tick.lw.now := by
    have := W.now
    show 1 ≤ P.lw.now + 1
    omega
  rcases pick_cases G P p hcs with h | ⟨t, i, _, hi, ht, hN, ⟨m, h, hm, hp⟩ | ⟨hn, hp⟩⟩
  · rw [h]
    exact ⟨⟨W.finl, W.now, W.call, W.hand, W.opn⟩, ⟨C.hand, C.fin, C.dist⟩⟩
  · rw [hp]
    exact ⟨W.tick.step (P := P.tick) hG hm h1, C.tick.step (P := P.tick) W.tick hm hN⟩
  · rw [hp]
    have hh : (P.tick.start G t i (callOf cs i)).hands t = some ((G.start P.obj t (callOf cs i)).2, P.evs.length) := by
      show upd P.hands t (some ((G.start P.obj t (callOf cs i)).2, P.evs.length)) t = _
      rw [upd_same]
    have W' := W.tick.start (G := G) (P := P.tick) (c := callOf cs i) hn hi ht h1
    have C' := C.tick.start (G := G) (P := P.tick) (c := callOf cs i) W.tick hn hN ht
    exact ⟨W'.step hG hh h1, C'.step W' hh hN⟩
theorem wf_play {cs : List Cl} {G : Gm M O} (hG : G.Still) (hcs : ∀ c ∈ cs, 0 ≤ c.thread) (picks : List Int) : ∀ {P : Ps M O}, PWf cs P → CWf cs P → PWf cs (P.play G cs picks) ∧ CWf cs (P.play G cs picks) := by
  induction picks with
  | nil => exact fun W C => ⟨W, C⟩
  | cons p l ih =>
    intro P W C
    obtain ⟨W', C'⟩ := wf_pick hG W C p hcs
    exact ih W' C'
end
end Go.Proofs.Ytlfingcmekifkaa

namespace Go.Proofs.Ytlfingcmekifkaa
open Go.RowKit

def tri : Nat → Nat
  | 0 => 0
  | d + 1 => tri d + (d + 1)
def nameN (r c : Nat) : Nat := tri (r + c) + r
theorem tri_mono {a b : Nat} (h : a ≤ b) : tri a ≤ tri b := by
  induction b with
  | zero =>
    obtain rfl : a = 0 := by omega
    exact Nat.le_refl _
  | succ b ih =>
    by_cases e : a = b + 1
    · subst e
      exact Nat.le_refl _
    · have := ih (by omega)
      show tri a ≤ tri b + (b + 1)
      omega
theorem name_lt {r c n : Nat} (h : r + c < n) : nameN r c < tri n := by
  have h1 : tri (r + c + 1) ≤ tri n := tri_mono h
  have h2 : tri (r + c + 1) = tri (r + c) + (r + c + 1) := rfl
  unfold nameN
  omega
theorem name_inj {r c r' c' : Nat} (h : nameN r c = nameN r' c') : r = r' ∧ c = c' := by
  have key : ∀ a b a' b', nameN a b = nameN a' b' → ¬ a + b < a' + b' := by
    intro a b a' b' h hlt
    have h1 : tri (a + b + 1) ≤ tri (a' + b') := tri_mono hlt
    have h2 : tri (a + b + 1) = tri (a + b) + (a + b + 1) := rfl
    unfold nameN at h
    omega
  have h1 := key _ _ _ _ h
  have h2 := key _ _ _ _ h.symm
  have h3 : r + c = r' + c' := by omega
  unfold nameN at h
  rw [h3] at h
  omega
structure Spl where
  has : Nat → Bool
inductive SM where
  | no (e : Int)
  | take (t pc r c : Nat)
def spStart (o : Spl) (t : Nat) (c : Cl) : Spl × SM :=
  if c.obj ≠ 0 then (o, .no 12) else if c.kind ≠ 0 then (o, .no 9) else if o.has t then (o, .no 8) else (o, .take t 0 0 0)
def spStep (o : Spl) (w : Lw) (m : SM) : Spl × Lw × SM × Bool :=
  match m with
  | .no e => (o, w, .no e, true)
  | .take t pc r c =>
    if pc = 0 then (o, { w with mem := w.mem.acc 1 (2 * nameN r c : Nat) (t + 1) 0 }, .take t 1 r c, false)
    else if pc = 1 then
      if w.mem.tell 0 ((2 * nameN r c : Nat) + 1) 0 ≠ 0 then (o, { w with mem := w.mem.acc 0 ((2 * nameN r c : Nat) + 1) 0 0 }, .take t 0 r (c + 1), false)
      else (o, { w with mem := w.mem.acc 0 ((2 * nameN r c : Nat) + 1) 0 0 }, .take t 2 r c, false)
    else if pc = 2 then (o, { w with mem := w.mem.acc 1 ((2 * nameN r c : Nat) + 1) 1 0 }, .take t 3 r c, false)
    else if w.mem.tell 0 (2 * nameN r c : Nat) 0 = t + 1 then (⟨upd o.has t true⟩, { w with mem := w.mem.acc 0 (2 * nameN r c : Nat) 0 0 }, .take t 3 r c, true)
    else (o, { w with mem := w.mem.acc 0 (2 * nameN r c : Nat) 0 0 }, .take t 0 (r + 1) c, false)
def spAns : SM → An × List Int
  | .no e => (⟨e, 0, []⟩, [])
  | .take _ _ r c => (⟨0, nameN r c, []⟩, [])
def spG : Gm SM Spl := ⟨spStart, fun o w _ m => spStep o w m, fun _ m => spAns m, fun _ _ _ => none⟩
theorem spG_still : spG.Still := by
  intro o w t m
  show (spStep o w m).2.1.now = w.now
  unfold spStep
  split
  · rfl
  · split
    · rfl
    · split
      · split <;> rfl
      · split
        · rfl
        · split <;> rfl
def isTk (cs : List Cl) (e : Ep) : Prop := (callOf cs e.call).obj = 0 ∧ (callOf cs e.call).kind = 0 ∧ e.ans.err = 0
def tkT (cs : List Cl) (e : Ep) : Nat := (callOf cs e.call).thread.toNat
structure SInv (n : Nat) (cs : List Cl) (P : Ps SM Spl) (vis right down : Nat → Nat → Nat → Prop) (cur : Nat → Option (Nat × Nat × Nat)) (La Sh : Nat → Nat → Int) : Prop where
  wf : PWf cs P
  grid : Grid n vis right down cur La Sh
  len : P.lw.mem.words.length = 2 * tri n
  flt : P.lw.mem.ft = 0
  memL : ∀ r c, r + c < n → P.lw.mem.at (2 * nameN r c : Nat) = La r c
  memS : ∀ r c, r + c < n → P.lw.mem.at ((2 * nameN r c : Nat) + 1) = Sh r c
  mach : ∀ t m h, P.hands t = some (m, h) → ∃ (pc r c : Nat) (e : Ep), m = .take t pc r c ∧ pc ≤ 3 ∧ cur t = some (r, c, pc) ∧ P.evs[h]? = some e ∧ isTk cs e ∧ e.steps ≤ 4 * ((r + c : Nat) : Int) + pc
  held : ∀ t r c pc, cur t = some (r, c, pc) → (pc < 4 → ∃ m h, P.hands t = some (m, h)) ∧ (pc = 4 → P.obj.has t = true)
  has : ∀ t, P.obj.has t = true → ∃ r c, cur t = some (r, c, 4)
  done : ∀ (h : Nat) (e : Ep), P.evs[h]? = some e → e.resp ≠ 0 → isTk cs e → ∃ r c : Nat, cur (tkT cs e) = some (r, c, 4) ∧ e.ans.val = (nameN r c : Nat) ∧ e.steps ≤ 4 * ((r + c : Nat) : Int) + 4
  ref : ∀ (h : Nat) (e : Ep), P.evs[h]? = some e → ¬ isTk cs e → e.steps ≤ 1
  came : ∀ (h : Nat) (e : Ep), P.evs[h]? = some e → (callOf cs e.call).obj = 0 → (callOf cs e.call).kind = 0 → cur (tkT cs e) ≠ none
  uniq : ∀ (h k : Nat) (e e' : Ep), P.evs[h]? = some e → P.evs[k]? = some e' → isTk cs e → isTk cs e' → tkT cs e = tkT cs e' → h = k
  begun : ∀ t, cur t ≠ none → ∃ (h : Nat) (e : Ep), P.evs[h]? = some e ∧ isTk cs e ∧ tkT cs e = t
end Go.Proofs.Ytlfingcmekifkaa
