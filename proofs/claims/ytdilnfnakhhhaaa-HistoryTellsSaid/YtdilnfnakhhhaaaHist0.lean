/- History: what the functions of package history, and of its reference, tell, in plain data; no program in sight. -/
import Derived.Test.YtdilnfnakhhhaaaBase
namespace Go.Proofs.Ytdilnfnakhhhaaa

/-- Is the event i ahead of the event k? -/
def aheadE (a b : Ev) : Bool := decide (a.resp ≠ 0) && decide (a.resp < b.inv)
def aheadB (es : List Ev) (i k : Int) : Bool :=
  decide (0 ≤ i ∧ 0 ≤ k ∧ i < es.length ∧ k < es.length) && (match es[i.toNat]?, es[k.toNat]? with | some a, some b => aheadE a b | _, _ => false)
def mayB (e : Ev) (ticks : Int) : Bool :=
  decide (1 ≤ e.inv ∧ e.inv ≤ ticks ∧ 1 ≤ e.steps) && (decide (e.resp = 0) || decide (e.inv ≤ e.resp ∧ e.resp ≤ ticks ∧ e.steps - 1 ≤ e.resp - e.inv))
def evCall (cs : List Cl) (e : Ev) : Option Cl := if 0 ≤ e.call ∧ e.call < cs.length then cs[e.call.toNat]? else none

theorem evCall_some {cs : List Cl} {e : Ev} (h : 0 ≤ e.call ∧ e.call < cs.length) : ∃ c, cs[e.call.toNat]? = some c ∧ evCall cs e = some c := by
  have hl : e.call.toNat < cs.length := by omega
  exact ⟨cs[e.call.toNat], List.getElem?_eq_getElem hl, by unfold evCall; rw [if_pos h, List.getElem?_eq_getElem hl]⟩
theorem evCall_none {cs : List Cl} {e : Ev} (h : ¬ (0 ≤ e.call ∧ e.call < cs.length)) : evCall cs e = none := by unfold evCall; rw [if_neg h]

/-- The last event before k whose call is of the thread t. -/
def lastIx (cs : List Cl) (es : List Ev) : Nat → Int → Option Nat
  | 0, _ => none
  | k + 1, t => if ((es[k]?).bind (evCall cs)).map (·.thread) = some t then some k else lastIx cs es k t

def invAt (es : List Ev) : Nat → Int
  | 0 => 0
  | k + 1 => ((es[k]?).map (·.inv)).getD 0

/-- Does the event j, the last one of the thread before k, let k be? -/
def behindB (es : List Ev) (j k : Nat) : Bool :=
  aheadB es j k && (match es[j]?, es[k]? with | some d, some e => decide (d.call < e.call) | _, _ => false)

def lastB (cs : List Cl) (es : List Ev) (k : Nat) (t : Int) : Bool :=
  match lastIx cs es k t with
  | none => true
  | some j => behindB es j k

def okB (n : Int) (cs : List Cl) (es : List Ev) (ticks : Int) (k : Nat) : Bool :=
  match es[k]? with
  | none => false
  | some e => match evCall cs e with
    | none => false
    | some c => decide (0 ≤ c.thread ∧ c.thread < n) && mayB e ticks && decide (invAt es k < e.inv) && lastB cs es k c.thread

theorem okB_eq {n : Int} {cs : List Cl} {es : List Ev} {ticks : Int} {k : Nat} {e : Ev} {c : Cl} (he : es[k]? = some e) (hc : evCall cs e = some c) :
    okB n cs es ticks k = (decide (0 ≤ c.thread ∧ c.thread < n) && mayB e ticks && decide (invAt es k < e.inv) && lastB cs es k c.thread) := by
  unfold okB; rw [he]; simp only [hc]
theorem okB_none {n : Int} {cs : List Cl} {es : List Ev} {ticks : Int} {k : Nat} {e : Ev} (he : es[k]? = some e) (hc : evCall cs e = none) : okB n cs es ticks k = false := by
  unfold okB; rw [he]; simp only [hc]

/-- The reference's first look: an event by itself. -/
def fstB (n : Int) (cs : List Cl) (es : List Ev) (ticks : Int) (k : Nat) : Bool :=
  match es[k]? with
  | none => false
  | some e => match evCall cs e with
    | none => false
    | some c => decide (0 ≤ c.thread ∧ c.thread < n) && mayB e ticks && decide (invAt es k < e.inv)
theorem fstB_eq {n : Int} {cs : List Cl} {es : List Ev} {ticks : Int} {k : Nat} {e : Ev} {c : Cl} (he : es[k]? = some e) (hc : evCall cs e = some c) :
    fstB n cs es ticks k = (decide (0 ≤ c.thread ∧ c.thread < n) && mayB e ticks && decide (invAt es k < e.inv)) := by unfold fstB; rw [he]; simp only [hc]
theorem fstB_none {n : Int} {cs : List Cl} {es : List Ev} {ticks : Int} {k : Nat} {e : Ev} (he : es[k]? = some e) (hc : evCall cs e = none) : fstB n cs es ticks k = false := by
  unfold fstB; rw [he]; simp only [hc]
theorem fstB_true {n : Int} {cs : List Cl} {es : List Ev} {ticks : Int} {k : Nat} (h : fstB n cs es ticks k = true) :
    ∃ e c, es[k]? = some e ∧ evCall cs e = some c ∧ (0 ≤ c.thread ∧ c.thread < n) ∧ mayB e ticks = true ∧ invAt es k < e.inv := by
  unfold fstB at h
  split at h
  · cases h
  · rename_i e he
    split at h
    · cases h
    · rename_i c hc
      simp only [Bool.and_eq_true, decide_eq_true_eq] at h
      exact ⟨e, c, he, hc, h.1.1, h.1.2, h.2⟩

theorem fstAll_succ {n : Int} {cs : List Cl} {es : List Ev} {ticks : Int} {k : Nat} (h : ∀ j, j < k → fstB n cs es ticks j = true) (hk : fstB n cs es ticks k = true) : ∀ j, j < k + 1 → fstB n cs es ticks j = true := by
  intro j hj
  by_cases h' : j = k
  · subst h'; exact hk
  · exact h j (by omega)

def sndB (cs : List Cl) (es : List Ev) (k i : Nat) : Bool :=
  match es[k]?, es[i]? with
  | some d, some e => !decide ((evCall cs d).map (·.thread) = (evCall cs e).map (·.thread)) || (aheadE d e && decide (d.call < e.call))
  | _, _ => false
theorem sndB_eq {cs : List Cl} {es : List Ev} {k i : Nat} {d e : Ev} (hd : es[k]? = some d) (he : es[i]? = some e) :
    sndB cs es k i = (!decide ((evCall cs d).map (·.thread) = (evCall cs e).map (·.thread)) || (aheadE d e && decide (d.call < e.call))) := by unfold sndB; rw [hd, he]

theorem sndAll_succ {cs : List Cl} {es : List Ev} {i : Nat} (h : ∀ a, a < i → ∀ j, j < a → sndB cs es j a = true) (hk : ∀ j, j < i → sndB cs es j i = true) : ∀ a, a < i + 1 → ∀ j, j < a → sndB cs es j a = true := by
  intro a ha
  by_cases h' : a = i
  · subst h'; exact hk
  · exact h a (by omega)
theorem sndTo_succ {cs : List Cl} {es : List Ev} {i j : Nat} (h : ∀ a, a < j → sndB cs es a i = true) (hk : sndB cs es j i = true) : ∀ a, a < j + 1 → sndB cs es a i = true := by
  intro a ha
  by_cases h' : a = j
  · subst h'; exact hk
  · exact h a (by omega)
theorem evCall_bounds {cs : List Cl} {e : Ev} {c : Cl} (h : evCall cs e = some c) : 0 ≤ e.call ∧ e.call < cs.length ∧ cs[e.call.toNat]? = some c := by
  unfold evCall at h
  split at h
  · rename_i hc; exact ⟨hc.1, hc.2, h⟩
  · cases h

def refB (n : Int) (cs : List Cl) (es : List Ev) (ticks : Int) : Bool :=
  (List.range es.length).all (fstB n cs es ticks) && (List.range es.length).all fun i => (List.range i).all fun k => sndB cs es k i

theorem refB_false1 {n : Int} {cs : List Cl} {es : List Ev} {ticks : Int} {k : Nat} (hk : k < es.length) (h : fstB n cs es ticks k = false) : refB n cs es ticks = false := by
  unfold refB
  have : (List.range es.length).all (fstB n cs es ticks) = false := by rw [List.all_eq_false]; exact ⟨k, by simpa using hk, by simp [h]⟩
  rw [this]; rfl
theorem refB_false2 {n : Int} {cs : List Cl} {es : List Ev} {ticks : Int} {k i : Nat} (hi : i < es.length) (hk : k < i) (h : sndB cs es k i = false) : refB n cs es ticks = false := by
  unfold refB
  have : (List.range es.length).all (fun i => (List.range i).all fun k => sndB cs es k i) = false := by
    rw [List.all_eq_false]
    refine ⟨i, by simpa using hi, ?_⟩
    simp only [Bool.not_eq_true]
    rw [List.all_eq_false]
    exact ⟨k, by simpa using hk, by simp [h]⟩
  rw [this, Bool.and_false]
theorem refB_true {n : Int} {cs : List Cl} {es : List Ev} {ticks : Int} (h1 : ∀ k, k < es.length → fstB n cs es ticks k = true) (h2 : ∀ i, i < es.length → ∀ k, k < i → sndB cs es k i = true) : refB n cs es ticks = true := by
  unfold refB
  rw [Bool.and_eq_true, List.all_eq_true, List.all_eq_true]
  refine ⟨fun k hk => h1 k (by simpa using hk), fun i hi => ?_⟩
  rw [List.all_eq_true]
  exact fun k hk => h2 i (by simpa using hi) k (by simpa using hk)

def rightB (n : Int) (cs : List Cl) (es : List Ev) (ticks : Int) : Bool := (List.range es.length).all (okB n cs es ticks)

theorem lastIx_succ {cs : List Cl} {es : List Ev} {k : Nat} {e : Ev} {c : Cl} (he : es[k]? = some e) (hc : evCall cs e = some c) (t : Int) :
    lastIx cs es (k + 1) t = if t = c.thread then some k else lastIx cs es k t := by
  rw [lastIx, he]
  simp only [Option.bind_some, hc, Option.map_some, Option.some.injEq]
  by_cases h : c.thread = t
  · rw [if_pos h, if_pos h.symm]
  · rw [if_neg h, if_neg (fun e => h e.symm)]
theorem invAt_succ {es : List Ev} {k : Nat} {e : Ev} (he : es[k]? = some e) : invAt es (k + 1) = e.inv := by simp [invAt, he]

theorem invAt_pos {es : List Ev} {k : Nat} {e : Ev} (hk : 0 < k) (he : es[k - 1]? = some e) : invAt es k = e.inv := by
  obtain ⟨k, rfl⟩ : ∃ j, k = j + 1 := ⟨k - 1, by omega⟩
  exact invAt_succ (by simpa using he)

theorem rightB_false {n : Int} {cs : List Cl} {es : List Ev} {ticks : Int} {k : Nat} (hk : k < es.length) (h : okB n cs es ticks k = false) : rightB n cs es ticks = false := by
  unfold rightB
  rw [List.all_eq_false]
  exact ⟨k, by simpa using hk, by simp [h]⟩
theorem rightB_true {n : Int} {cs : List Cl} {es : List Ev} {ticks : Int} (h : ∀ k, k < es.length → okB n cs es ticks k = true) : rightB n cs es ticks = true := by
  unfold rightB
  rw [List.all_eq_true]
  exact fun k hk => h k (by simpa using hk)

theorem okAll_succ {n : Int} {cs : List Cl} {es : List Ev} {ticks : Int} {k : Nat} (h : ∀ j, j < k → okB n cs es ticks j = true) (hk : okB n cs es ticks k = true) : ∀ j, j < k + 1 → okB n cs es ticks j = true := by
  intro j hj
  by_cases h' : j = k
  · subst h'; exact hk
  · exact h j (by omega)

theorem lastIx_lt {cs : List Cl} {es : List Ev} {t : Int} : ∀ {k j : Nat}, lastIx cs es k t = some j → j < k
  | 0, j, h => by simp [lastIx] at h
  | k + 1, j, h => by
    unfold lastIx at h
    split at h
    · simp only [Option.some.injEq] at h; omega
    · have := lastIx_lt h; omega

theorem lastIx_some {cs : List Cl} {es : List Ev} {t : Int} : ∀ {k j : Nat}, lastIx cs es k t = some j → ∃ e c, es[j]? = some e ∧ evCall cs e = some c ∧ c.thread = t
  | 0, j, h => by simp [lastIx] at h
  | k + 1, j, h => by
    unfold lastIx at h
    split at h
    · rename_i hc
      simp only [Option.some.injEq] at h
      subst h
      rcases he : es[k]? with _ | e
      · rw [he] at hc; simp at hc
      · rw [he] at hc
        simp only [Option.bind_some] at hc
        rcases hcc : evCall cs e with _ | c
        · rw [hcc] at hc; simp at hc
        · rw [hcc] at hc; simp at hc; exact ⟨e, c, rfl, hcc, hc⟩
    · exact lastIx_some h
theorem lastIx_ge {cs : List Cl} {es : List Ev} {t : Int} : ∀ {k i : Nat} {e : Ev} {c : Cl}, i < k → es[i]? = some e → evCall cs e = some c → c.thread = t → ∃ j, lastIx cs es k t = some j ∧ i ≤ j
  | 0, i, _, _, h, _, _, _ => by omega
  | k + 1, i, e, c, h, he, hc, ht => by
    unfold lastIx
    split
    · exact ⟨k, rfl, by omega⟩
    · rename_i hn
      by_cases hik : i = k
      · subst hik; rw [he] at hn; simp [hc, ht] at hn
      · obtain ⟨j, hj, hij⟩ := lastIx_ge (k := k) (by omega) he hc ht
        exact ⟨j, hj, hij⟩

theorem aheadB_nat {es : List Ev} {j k : Nat} {d e : Ev} (hd : es[j]? = some d) (he : es[k]? = some e) : aheadB es j k = aheadE d e := by
  have h1 := (List.getElem?_eq_some_iff.1 hd).1
  have h2 := (List.getElem?_eq_some_iff.1 he).1
  unfold aheadB
  rw [decide_eq_true (by omega)]
  simp [hd, he]

theorem aheadE_iff {a b : Ev} : aheadE a b = true ↔ a.resp ≠ 0 ∧ a.resp < b.inv := by unfold aheadE; simp
theorem aheadE_trans {t : Int} {a b c : Ev} (h1 : aheadE a b = true) (h2 : aheadE b c = true) (hb : mayB b t = true) : aheadE a c = true := by
  rw [aheadE_iff] at *
  unfold mayB at hb
  simp only [Bool.and_eq_true, Bool.or_eq_true, decide_eq_true_eq] at hb
  refine ⟨h1.1, ?_⟩
  rcases hb.2 with h | h
  · exact absurd h h2.1
  · omega

/-- THE PLAIN LAW: to hold each event against the last one of its thread is as good as to hold it against all of them. -/
theorem right_ref (n : Int) (cs : List Cl) (es : List Ev) (ticks : Int) : rightB n cs es ticks = refB n cs es ticks := by
  by_cases h : ∀ k, k < es.length → okB n cs es ticks k = true
  · rw [rightB_true h]
    symm
    have hf : ∀ k, k < es.length → fstB n cs es ticks k = true ∧ ∀ e c, es[k]? = some e → evCall cs e = some c → lastB cs es k c.thread = true := by
      intro k hk
      have hk' := h k hk
      obtain ⟨e, he⟩ : ∃ e, es[k]? = some e := ⟨_, List.getElem?_eq_getElem hk⟩
      rcases hc : evCall cs e with _ | c
      · rw [okB_none he hc] at hk'; cases hk'
      · rw [okB_eq he hc, Bool.and_eq_true] at hk'
        refine ⟨by rw [fstB_eq he hc]; exact hk'.1, fun e' c' he' hc' => ?_⟩
        rw [he] at he'; cases he'
        rw [hc] at hc'; cases hc'
        exact hk'.2
    refine refB_true (fun k hk => (hf k hk).1) ?_
    -- by induction on i: the last event of the thread, and those ahead of it
    have main : ∀ m i, i ≤ m → i < es.length → ∀ k, k < i → sndB cs es k i = true := by
      intro m
      induction m with
      | zero => intro i h1 _ k hk; omega
      | succ m ih =>
        intro i him hi k hk
        obtain ⟨e, c, he, hc, _, hme, _⟩ := fstB_true (hf i hi).1
        obtain ⟨d, c', hd, hc', _, hmd, _⟩ := fstB_true (hf k (by omega)).1
        rw [sndB_eq hd he, hc, hc']
        by_cases ht : c'.thread = c.thread
        · simp only [Option.map_some, ht, decide_true, Bool.not_true, Bool.false_or, Bool.and_eq_true, decide_eq_true_eq]
          obtain ⟨j, hj, hkj⟩ := lastIx_ge (k := i) hk hd hc' ht
          obtain ⟨f, cf, hfj, hcf, htf⟩ := lastIx_some hj
          have hji := lastIx_lt hj
          have hb := (hf i hi).2 e c he hc
          unfold lastB at hb
          rw [hj] at hb
          simp only at hb
          unfold behindB at hb
          rw [hfj, he] at hb
          simp only [Bool.and_eq_true, decide_eq_true_eq] at hb
          rw [aheadB_nat hfj he] at hb
          by_cases hkj' : k = j
          · subst hkj'
            rw [hd] at hfj; cases hfj
            exact hb
          · have := ih j (by omega) (by omega) k (by omega)
            rw [sndB_eq hd hfj, hcf, hc'] at this
            simp only [Option.map_some, ht, htf, decide_true, Bool.not_true, Bool.false_or, Bool.and_eq_true, decide_eq_true_eq] at this
            obtain ⟨_, _, hfj', _, _, hmf, _⟩ := fstB_true (hf j (by omega)).1
            rw [hfj] at hfj'; cases hfj'
            exact ⟨aheadE_trans this.1 hb.1 hmf, by omega⟩
        · simp [ht]
    exact fun i hi => main i i (Nat.le_refl _) hi
  · have h' : ∃ k, k < es.length ∧ okB n cs es ticks k = false := by
      refine Classical.byContradiction fun hn => h fun k hk => ?_
      rcases ho : okB n cs es ticks k with _ | _
      · exact absurd ⟨k, hk, ho⟩ hn
      · rfl
    obtain ⟨k, hk, hf⟩ := h'
    rw [rightB_false hk hf]
    symm
    obtain ⟨e, he⟩ : ∃ e, es[k]? = some e := ⟨_, List.getElem?_eq_getElem hk⟩
    rcases hc : evCall cs e with _ | c
    · exact refB_false1 hk (fstB_none he hc)
    · rw [okB_eq he hc] at hf
      rcases h1 : fstB n cs es ticks k with _ | _
      · exact refB_false1 hk h1
      · rw [fstB_eq he hc] at h1
        rw [h1, Bool.true_and] at hf
        unfold lastB at hf
        rcases hl : lastIx cs es k c.thread with _ | j
        · rw [hl] at hf; cases hf
        · rw [hl] at hf
          simp only at hf
          obtain ⟨f, cf, hfj, hcf, htf⟩ := lastIx_some hl
          refine refB_false2 hk (lastIx_lt hl) ?_
          rw [sndB_eq hfj he, hc, hcf]
          unfold behindB at hf
          rw [hfj, he] at hf
          simp only at hf
          rw [aheadB_nat hfj he] at hf
          simp [htf, hf]

end Go.Proofs.Ytdilnfnakhhhaaa
