import Derived.Test.YtlfingcmekifkaaGreatBun4
namespace Go.Proofs.YtlfingcmekifkaaGreat
open Go.RowKit
structure El where
  leaves : Int
  stood : Nat → Bool
inductive EM where
  | no (e : Int)
  | stand (t : Nat) (v : Int) (leads : Bool)
def elStart (o : El) (t : Nat) (c : Cl) : El × EM :=
  if c.obj ≠ 0 then (o, .no 12) else if c.kind ≠ 0 then (o, .no 9) else if o.stood t then (o, .no 8) else ({ o with stood := upd o.stood t true }, .stand t ((o.leaves + t) / 2) false)
def elStep (o : El) (w : Lw) (m : EM) : El × Lw × EM × Bool :=
  match m with
  | .no e => (o, w, .no e, true)
  | .stand t v l =>
    if v < 1 then (o, w, .stand t (v / 2) (decide (v / 2 < 1)), decide (v / 2 < 1))
    else if w.mem.tell 2 (v - 1) 0 = 0 then (o, { w with mem := w.mem.acc 2 (v - 1) 0 (t + 1) }, .stand t v l, true)
    else (o, { w with mem := w.mem.acc 2 (v - 1) 0 (t + 1) }, .stand t (v / 2) (decide (v / 2 < 1)), decide (v / 2 < 1))
def elAns : EM → An × List Int
  | .no e => (⟨e, 0, []⟩, [])
  | .stand _ _ l => (⟨0, if l then 1 else 0, []⟩, [])
def elG : Gm EM El := ⟨elStart, fun o w _ m => elStep o w m, fun _ m => elAns m, fun _ _ _ => none⟩
theorem elG_still : elG.Still := by
  intro o w t m
  show (elStep o w m).2.1.now = w.now
  unfold elStep
  split
  · rfl
  · split
    · rfl
    · split <;> rfl
def isStand (cs : List Cl) (e : Ep) : Prop := (callOf cs e.call).obj = 0 ∧ (callOf cs e.call).kind = 0 ∧ e.ans.err = 0
def thr (cs : List Cl) (e : Ep) : Int := (callOf cs e.call).thread
def El.w (P : Ps EM El) (v : Int) : Int := P.lw.mem.at (v - 1)
structure EInv (d : Nat) (cs : List Cl) (P : Ps EM El) : Prop where
  wf : PWf cs P
  lv : P.obj.leaves = 2 ^ d
  len : (P.lw.mem.words.length : Int) = 2 ^ d - 1
  mach : ∀ t m h, P.hands t = some (m, h) → ∃ (v : Int) (e : Ep), m = .stand t v false ∧ 0 ≤ v ∧ (v = 0 → d = 0) ∧ P.evs[h]? = some e ∧ isStand cs e ∧ v * 2 ^ e.steps.toNat < 2 ^ d ∧ (v = 0 → e.steps = 0)
  stood : ∀ (h : Nat) (e : Ep), P.evs[h]? = some e → isStand cs e → P.obj.stood (thr cs e).toNat = true
  uniq : ∀ (h k : Nat) (e e' : Ep), P.evs[h]? = some e → P.evs[k]? = some e' → isStand cs e → isStand cs e' → thr cs e = thr cs e' → h = k
  done : ∀ (h : Nat) (e : Ep), P.evs[h]? = some e → e.resp ≠ 0 → isStand cs e → (e.ans.val = 0 ∧ ∃ v, 1 ≤ v ∧ v < 2 ^ d ∧ El.w P v ≠ 0) ∨ (e.ans.val = 1 ∧ (d = 0 ∨ El.w P 1 = thr cs e + 1))
  word : ∀ v, 1 ≤ v → v < 2 ^ d → El.w P v ≠ 0 → ∃ (h : Nat) (e : Ep), P.evs[h]? = some e ∧ isStand cs e ∧ El.w P v = thr cs e + 1 ∧
    ((e.resp = 0 ∧ ∃ v', P.hands (thr cs e).toNat = some (.stand (thr cs e).toNat v' false, h) ∧ v' < v) ∨ (e.resp ≠ 0 ∧ e.ans.val = 1) ∨ (e.resp ≠ 0 ∧ ∃ v', 1 ≤ v' ∧ v' < v ∧ El.w P v' ≠ 0))
  steps : ∀ (h : Nat) (e : Ep), P.evs[h]? = some e → e.steps ≤ max d 1
theorem EInv.new (d : Nat) (cs : List Cl) : EInv d cs (Ps.new (List.replicate (2 ^ d - 1) 0) ⟨2 ^ d, fun _ => false⟩ cs.length) := by
  refine ⟨PWf.new _ _ cs, rfl, ?_, fun _ _ _ h => ?_, fun _ _ h => ?_, fun _ _ _ _ h => ?_, fun _ _ h => ?_, fun v h0 h1 h => ?_, fun _ _ h => ?_⟩
  · show ((List.replicate (2 ^ d - 1) (0 : Int)).length : Int) = _
    rw [List.length_replicate]
    have : 1 ≤ 2 ^ d := Nat.one_le_two_pow
    push_cast [Int.ofNat_sub this]
    omega
  · cases h
  · cases h
  · cases h
  · cases h
  · exfalso
    apply h
    show ((List.replicate (2 ^ d - 1) (0 : Int))[(v - 1).toNat]?).getD 0 = 0
    rw [List.getElem?_replicate]
    split <;> rfl
  · cases h
theorem EInv.tick {d : Nat} {cs : List Cl} {P : Ps EM El} (I : EInv d cs P) : EInv d cs P.tick := ⟨I.wf.tick, I.lv, I.len, I.mach, I.stood, I.uniq, I.done, I.word, I.steps⟩
theorem acc_at' {m : Mm} {k a x y b : Int} (ha : m.in a) (hb : 0 ≤ b) : (m.acc k a x y).at b = if b = a then acY k (m.at a) x y else m.at b := by
  unfold Mm.acc
  rw [if_pos ha]
  unfold Mm.at
  show ((m.words.set a.toNat _)[b.toNat]?).getD 0 = _
  rw [List.getElem?_set]
  obtain ⟨h0, h1⟩ := ha
  by_cases h : b = a
  · subst h
    rw [if_pos rfl, if_pos rfl, if_pos (by omega)]
    rfl
  · rw [if_neg h, if_neg (by omega)]
theorem EInv.start {d : Nat} {cs : List Cl} {P : Ps EM El} (I : EInv d cs P) {t i : Nat} (hn : P.hands t = none) (hi : i < cs.length) (ht : (callOf cs i).thread = t) (h1 : 1 ≤ P.lw.now) (htn : (t : Int) < 2 ^ d)
    (ho : (callOf cs i).obj = 0) (hk : (callOf cs i).kind = 0) (hst : P.obj.stood t = false) : EInv d cs (P.start elG t i (callOf cs i)) ∧ (elG.start P.obj t (callOf cs i)).2 = .stand t ((2 ^ d + t) / 2) false := by
  have hS : elG.start P.obj t (callOf cs i) = (⟨2 ^ d, upd P.obj.stood t true⟩, .stand t ((2 ^ d + t) / 2) false) := by
    show elStart P.obj t (callOf cs i) = _
    unfold elStart
    rw [if_neg (by omega), if_neg (by omega), if_neg (by rw [hst]; exact Bool.false_ne_true), ← I.lv]
  refine ⟨?_, by rw [hS]⟩
  have hW := I.wf.start (G := elG) (c := callOf cs i) hn hi ht h1
  have hobj : (P.start elG t i (callOf cs i)).obj = ⟨2 ^ d, upd P.obj.stood t true⟩ := by
    show (elG.start P.obj t (callOf cs i)).1 = _
    rw [hS]
  have hhands : (P.start elG t i (callOf cs i)).hands = upd P.hands t (some (.stand t ((2 ^ d + t) / 2) false, P.evs.length)) := by
    show upd P.hands t (some ((elG.start P.obj t (callOf cs i)).2, P.evs.length)) = _
    rw [hS]
  have hevs : (P.start elG t i (callOf cs i)).evs = P.evs ++ [⟨i, P.lw.now, 0, 0, ⟨0, 0, []⟩, []⟩] := rfl
  have hw : ∀ v, El.w (P.start elG t i (callOf cs i)) v = El.w P v := fun _ => rfl
  have hp : (0 : Int) < 2 ^ d := Int.pow_pos (by decide)
  have hne : ∀ (h : Nat) (e : Ep), P.evs[h]? = some e → isStand cs e → thr cs e ≠ t := by
    intro h e he hs hc
    have := I.stood h e he hs
    rw [hc, Int.toNat_natCast, hst] at this
    cases this
  refine ⟨hW, by rw [hobj], I.len, fun s m h hs => ?_, fun h e he hs => ?_, fun h k e e' he he' hs hs' htt => ?_, fun h e he hr hs => ?_, fun v v0 v1 hv => ?_, fun h e he => ?_⟩
  · rw [hhands] at hs
    rw [hevs]
    by_cases hst : s = t
    · subst hst
      rw [upd_same] at hs
      cases hs
      refine ⟨_, _, rfl, by omega, fun h => ?_, snoc_new _ _, ⟨ho, hk, rfl⟩, ?_, fun _ => rfl⟩
      · cases d with
        | zero => rfl
        | succ d =>
          have : (2 : Int) ^ (d + 1) = 2 ^ d * 2 := Int.pow_succ 2 d
          have : (0 : Int) < 2 ^ d := Int.pow_pos (by decide)
          omega
      · show (2 ^ d + (s : Int)) / 2 * 2 ^ (0 : Nat) < 2 ^ d
        omega
    · rw [upd_other hst] at hs
      obtain ⟨v, e, a1, a2, a3, a4, a5⟩ := I.mach s m h hs
      exact ⟨v, e, a1, a2, a3, snoc_old a4, a5⟩
  · rw [hevs] at he
    rw [hobj]
    show upd P.obj.stood t true _ = true
    rcases snoc_get he with ⟨_, he⟩ | ⟨_, rfl⟩
    · have := I.stood h e he hs
      by_cases hh : (thr cs e).toNat = t
      · rw [hh, upd_same]
      · rw [upd_other hh]
        exact this
    · show upd P.obj.stood t true (callOf cs i).thread.toNat = true
      rw [ht, Int.toNat_natCast, upd_same]
  · rw [hevs] at he he'
    rcases snoc_get he with ⟨_, he⟩ | ⟨h1, rfl⟩
    · rcases snoc_get he' with ⟨_, he'⟩ | ⟨_, rfl⟩
      · exact I.uniq h k e e' he he' hs hs' htt
      · exact absurd (htt.trans ht) (hne h e he hs)
    · rcases snoc_get he' with ⟨_, he'⟩ | ⟨h2, rfl⟩
      · exact absurd (htt.symm.trans ht) (hne k e' he' hs')
      · omega
  · rw [hevs] at he
    rcases snoc_get he with ⟨_, he⟩ | ⟨_, rfl⟩
    · exact I.done h e he hr hs
    · exact absurd rfl hr
  · rw [hevs, hhands]
    obtain ⟨h, e, a1, a2, a3, a4⟩ := I.word v v0 v1 hv
    refine ⟨h, e, snoc_old a1, a2, a3, ?_⟩
    rcases a4 with ⟨b1, v', b2, b3⟩ | a4
    · refine .inl ⟨b1, v', ?_, b3⟩
      rw [upd_other ?_]
      · exact b2
      · intro hh
        rw [hh, hn] at b2
        cases b2
    · exact .inr a4
  · rw [hevs] at he
    rcases snoc_get he with ⟨_, he⟩ | ⟨_, rfl⟩
    · exact I.steps h e he
    · show (0 : Int) ≤ _
      omega
theorem pow_step {v : Int} {s : Int} {d : Nat} (hs : 0 ≤ s) (h : v * 2 ^ s.toNat < 2 ^ d) : v / 2 * 2 ^ (s + 1).toNat < 2 ^ d := by
  have e : (s + 1).toNat = s.toNat + 1 := by omega
  rw [e, Int.pow_succ]
  have h0 : (0 : Int) < 2 ^ s.toNat := Int.pow_pos (by decide)
  have h1 : v / 2 * (2 ^ s.toNat * 2) = (v / 2 * 2) * 2 ^ s.toNat := by
    rw [Int.mul_comm (2 ^ s.toNat) 2, ← Int.mul_assoc]
  rw [h1]
  have h2 : v / 2 * 2 ≤ v := by omega
  exact Int.lt_of_le_of_lt (Int.mul_le_mul_of_nonneg_right h2 (Int.le_of_lt h0)) h
theorem pow_bound {v s : Int} {d : Nat} (hv : 1 ≤ v) (hs : 0 ≤ s) (h : v * 2 ^ s.toNat < 2 ^ d) : v < 2 ^ d ∧ s + 1 ≤ d := by
  have h0 : (0 : Int) < 2 ^ s.toNat := Int.pow_pos (by decide)
  constructor
  · have : v * 1 ≤ v * 2 ^ s.toNat := Int.mul_le_mul_of_nonneg_left h0 (by omega)
    omega
  · have h1 : 1 * 2 ^ s.toNat ≤ v * 2 ^ s.toNat := Int.mul_le_mul_of_nonneg_right hv (Int.le_of_lt h0)
    have h2 : (2 : Int) ^ s.toNat < 2 ^ d := by omega
    have h3 : (2 : Nat) ^ s.toNat < 2 ^ d := by exact_mod_cast h2
    have := (Nat.pow_lt_pow_iff_right (by decide : 1 < 2)).1 h3
    omega
theorem EInv.step {d : Nat} {cs : List Cl} {P : Ps EM El} (I : EInv d cs P) {t i : Nat} {m : EM} {h : Nat} (hm : P.hands t = some (m, h)) (h1 : 1 ≤ P.lw.now) : EInv d cs (P.step elG t i m h) := by
  have hW := I.wf.step (i := i) elG_still hm h1
  obtain ⟨v, e, rfl, v0, vd, he, hs, hpow, hv0⟩ := I.mach t m h hm
  obtain ⟨e', he', hr0, ht0, ha0⟩ := I.wf.hand t _ h hm
  rw [he] at he'
  cases he'
  obtain ⟨_, _, _, _, _, _, hst0⟩ := I.wf.call h e he
  have hthr : thr cs e = t := ht0
  have hT : (thr cs e).toNat = t := by rw [hthr]; exact Int.toNat_natCast t
  have DONE : ∀ (o : El) (w : Lw) (l : Bool), P.after elG t (.stand t v false) = (o, w, .stand t (if l then 0 else v) l, true) ∨ P.after elG t (.stand t v false) = (o, w, .stand t (v / 2) l, true) → o = P.obj → w.now = P.lw.now → (w.mem.words.length : Int) = 2 ^ d - 1 →
      (∀ u, 1 ≤ u → u < 2 ^ d → P.lw.mem.at (u - 1) ≠ 0 → w.mem.at (u - 1) = P.lw.mem.at (u - 1)) →
      (∀ u, 1 ≤ u → u < 2 ^ d → w.mem.at (u - 1) ≠ 0 → P.lw.mem.at (u - 1) ≠ 0 ∨ (l = true ∧ w.mem.at (u - 1) = t + 1)) →
      (l = false → 1 ≤ v ∧ v < 2 ^ d ∧ w.mem.at (v - 1) ≠ 0) → (l = true → v < 2 ∧ (d = 0 ∨ (0 < d ∧ w.mem.at 0 = t + 1))) → EInv d cs (P.step elG t i (.stand t v false) h) := by
    intro o w l hA ho hwn hlen hmono hnew hl0 hl1
    have hD : (P.after elG t (.stand t v false)).2.2.2 = true := by rcases hA with h | h <;> rw [h]
    obtain ⟨q1, q2, key, q3⟩ := step_done (i := i) (h := h) hD
    have q4 := step_obj elG P t i (.stand t v false) h
    have q5 := step_lw elG P t i (.stand t v false) h
    have hA1 : (P.after elG t (.stand t v false)).1 = P.obj := by rcases hA with h | h <;> rw [h] <;> exact ho
    have hA2 : (P.after elG t (.stand t v false)).2.1 = w := by rcases hA with h | h <;> rw [h]
    have hA3 : (elG.ans (P.after elG t (.stand t v false)).1 (P.after elG t (.stand t v false)).2.2.1).1 = ⟨0, if l then 1 else 0, []⟩ := by rcases hA with h | h <;> rw [h] <;> rfl
    rw [hA1] at q4
    rw [hA2] at q5
    rw [hA2, hA3] at q3
    generalize hP : P.step elG t i (.stand t v false) h = P' at *
    have hww : ∀ u, El.w P' u = w.mem.at (u - 1) := fun u => by unfold El.w; rw [q5]
    have ev' : ∀ (k : Nat) (x : Ep), P'.evs[k]? = some x → (k ≠ h ∧ P.evs[k]? = some x) ∨ (k = h ∧ x = { e with steps := e.steps + 1, ans := ⟨0, if l then 1 else 0, []⟩, resp := w.now, key := key }) := by
      intro k x hx
      rw [q3] at hx
      rcases mod_get hx with h' | ⟨rfl, y, hy, rfl⟩
      · exact .inl h'
      · rw [he] at hy
        cases hy
        exact .inr ⟨rfl, rfl⟩
    have evo : ∀ (k : Nat) (x : Ep), k ≠ h → P.evs[k]? = some x → P'.evs[k]? = some x := by
      intro k x hk hx
      rw [q3]
      exact mod_other hk hx
    have evh : P'.evs[h]? = some { e with steps := e.steps + 1, ans := ⟨0, if l then 1 else 0, []⟩, resp := w.now, key := key } := by
      rw [q3]
      exact mod_same he
    have hwn' : w.now ≠ 0 := by omega
    refine ⟨hW, by rw [q4]; exact I.lv, by rw [q5]; exact hlen, fun s m k hk => ?_, fun k x hx hxs => ?_, fun k k' x x' hx hx' hxs hxs' htt => ?_, fun k x hx hr hxs => ?_, fun u u0 u1 hu => ?_, fun k x hx => ?_⟩
    · rw [q1] at hk
      by_cases hst : s = t
      · subst hst
        rw [upd_same] at hk
        cases hk
      · rw [upd_other hst] at hk
        obtain ⟨v2, x, a1, a2, a3, a4, a5⟩ := I.mach s m k hk
        refine ⟨v2, x, a1, a2, a3, evo k x ?_ a4, a5⟩
        rintro rfl
        obtain ⟨y, hy, _, hy2, _⟩ := I.wf.hand s m k hk
        rw [he] at hy
        cases hy
        omega
    · rw [q4]
      rcases ev' k x hx with ⟨_, hx⟩ | ⟨rfl, rfl⟩
      · exact I.stood k x hx hxs
      · exact I.stood k e he hs
    · rcases ev' k x hx with ⟨_, hx⟩ | ⟨rfl, rfl⟩
      · rcases ev' k' x' hx' with ⟨_, hx'⟩ | ⟨rfl, rfl⟩
        · exact I.uniq k k' x x' hx hx' hxs hxs' htt
        · exact I.uniq k k' x e hx he hxs hs htt
      · rcases ev' k' x' hx' with ⟨_, hx'⟩ | ⟨rfl, rfl⟩
        · exact I.uniq k k' e x' he hx' hs hxs' htt
        · rfl
    · rcases ev' k x hx with ⟨_, hx⟩ | ⟨rfl, rfl⟩
      · rcases I.done k x hx hr hxs with ⟨a1, u, u0, u1, hu⟩ | ⟨a1, a2⟩
        · refine .inl ⟨a1, u, u0, u1, ?_⟩
          rw [hww, hmono u u0 u1 hu]
          exact hu
        · refine .inr ⟨a1, ?_⟩
          rcases a2 with a2 | a2
          · exact .inl a2
          · by_cases hd : d = 0
            · exact .inl hd
            refine .inr ?_
            rw [hww]
            have hx0 := (I.wf.call k x hx).2.1
            have : (1 : Int) < 2 ^ d := by
              have : (2 : Nat) ^ 0 < 2 ^ d := (Nat.pow_lt_pow_iff_right (by decide : 1 < 2)).2 (by omega)
              exact_mod_cast this
            rw [hmono 1 (Int.le_refl _) this (by show El.w P 1 ≠ 0; rw [a2]; unfold thr; omega)]
            exact a2
      · cases l with
        | false =>
          obtain ⟨b1, b2, b3⟩ := hl0 rfl
          exact .inl ⟨rfl, v, b1, b2, by rw [hww]; exact b3⟩
        | true =>
          obtain ⟨_, b⟩ := hl1 rfl
          refine .inr ⟨rfl, ?_⟩
          rcases b with b | b
          · exact .inl b
          · refine .inr ?_
            rw [hww]
            show w.mem.at (1 - 1) = thr cs e + 1
            rw [hthr]
            exact b.2
    · rw [hww] at hu
      rcases hnew u u0 u1 hu with hu' | ⟨hl, hu'⟩
      · obtain ⟨k, x, a1, a2, a3, a4⟩ := I.word u u0 u1 hu'
        have huu : El.w P' u = thr cs x + 1 := by rw [hww, hmono u u0 u1 hu']; exact a3
        by_cases hk : k = h
        · subst hk
          rw [he] at a1
          cases a1
          refine ⟨k, _, evh, ⟨hs.1, hs.2.1, rfl⟩, huu, .inr ?_⟩
          rcases a4 with ⟨_, v', b2, b3⟩ | ⟨b1, _⟩ | ⟨b1, _⟩
          · rw [hT, hm] at b2
            cases b2
            cases l with
            | false =>
              obtain ⟨c1, c2, c3⟩ := hl0 rfl
              exact .inr ⟨hwn', v, c1, b3, by rw [hww]; exact c3⟩
            | true => exact .inl ⟨hwn', rfl⟩
          · exact absurd hr0 b1
          · exact absurd hr0 b1
        · refine ⟨k, x, evo k x hk a1, a2, huu, ?_⟩
          rcases a4 with ⟨b1, v', b2, b3⟩ | b | ⟨b1, v', b2, b3, b4⟩
          · refine .inl ⟨b1, v', ?_, b3⟩
            rw [q1, upd_other ?_]
            · exact b2
            · intro hh
              rw [hh, hm] at b2
              cases b2
              exact hk rfl
          · exact .inr (.inl b)
          · refine .inr (.inr ⟨b1, v', b2, b3, ?_⟩)
            rw [hww, hmono v' b2 (by omega) b4]
            exact b4
      · subst hl
        refine ⟨h, _, evh, ⟨hs.1, hs.2.1, rfl⟩, ?_, .inr (.inl ⟨hwn', rfl⟩)⟩
        rw [hww, hu']
        show _ = thr cs e + 1
        rw [hthr]
    · rcases ev' k x hx with ⟨_, hx⟩ | ⟨rfl, rfl⟩
      · exact I.steps k x hx
      · show e.steps + 1 ≤ ((max d 1 : Nat) : Int)
        rcases Int.lt_or_le v 1 with hv | hv
        · have := hv0 (by omega)
          omega
        · have := (pow_bound hv hst0 hpow).2
          omega
  have hN : P.lw.now = P.lw.now := rfl
  rcases Int.lt_or_le v 1 with hv | hv
  · have hv' : v = 0 := by omega
    subst hv'
    have hd0 := vd rfl
    refine DONE P.obj P.lw true (.inr ?_) rfl rfl I.len (fun _ _ _ _ => rfl) (fun _ _ _ h => .inl h) (fun h => by cases h) (fun _ => ⟨by decide, .inl hd0⟩)
    show elStep P.obj P.lw (.stand t 0 false) = _
    rfl
  · obtain ⟨hv2, hst1⟩ := pow_bound hv hst0 hpow
    have hin : P.lw.mem.in (v - 1) := ⟨by omega, by rw [I.len]; omega⟩
    have htell : P.lw.mem.tell 2 (v - 1) 0 = if P.lw.mem.at (v - 1) = 0 then 1 else 0 := if_pos hin
    have hacc : ∀ u, 1 ≤ u → (P.lw.mem.acc 2 (v - 1) 0 (t + 1)).at (u - 1) = if u = v then (if P.lw.mem.at (v - 1) = 0 then (t : Int) + 1 else P.lw.mem.at (v - 1)) else P.lw.mem.at (u - 1) := by
      intro u hu
      rw [acc_at' hin (by omega)]
      by_cases h : u = v
      · rw [if_pos h, if_pos (by omega)]
        rfl
      · rw [if_neg h, if_neg (by omega)]
    have hlen : ((P.lw.mem.acc 2 (v - 1) 0 (t + 1)).words.length : Int) = 2 ^ d - 1 := by
      rw [← I.len]
      unfold Mm.acc
      split <;> simp
    by_cases hw : P.lw.mem.at (v - 1) = 0
    · rw [if_pos hw] at htell
      have hmono : ∀ u, 1 ≤ u → u < 2 ^ d → P.lw.mem.at (u - 1) ≠ 0 → (P.lw.mem.acc 2 (v - 1) 0 (t + 1)).at (u - 1) = P.lw.mem.at (u - 1) := by
        intro u u0 _ hu
        rw [hacc u u0, if_neg]
        rintro rfl
        exact hu hw
      by_cases hv1 : v / 2 < 1
      · refine DONE P.obj { P.lw with mem := P.lw.mem.acc 2 (v - 1) 0 (t + 1) } true (.inr ?_) rfl rfl hlen hmono ?_ (fun h => by cases h) ?_
        · show elStep P.obj P.lw (.stand t v false) = _
          unfold elStep
          dsimp only
          rw [if_neg (by omega), if_neg (by rw [htell]; decide)]
          simp only [hv1, decide_true]
        · intro u u0 _ hu
          by_cases h : u = v
          · subst h
            refine .inr ⟨rfl, ?_⟩
            show (P.lw.mem.acc 2 (u - 1) 0 (t + 1)).at (u - 1) = _
            rw [hacc u u0, if_pos rfl, if_pos hw]
          · refine .inl ?_
            have hu : (P.lw.mem.acc 2 (v - 1) 0 (t + 1)).at (u - 1) ≠ 0 := hu
            rw [hacc u u0, if_neg h] at hu
            exact hu
        · intro _
          have hv1 : v = 1 := by omega
          subst hv1
          refine ⟨by decide, .inr ⟨by omega, ?_⟩⟩
          show (P.lw.mem.acc 2 (1 - 1) 0 (t + 1)).at (1 - 1) = _
          rw [hacc 1 (by decide), if_pos rfl, if_pos hw]
      · have hA : P.after elG t (.stand t v false) = (P.obj, { P.lw with mem := P.lw.mem.acc 2 (v - 1) 0 (t + 1) }, .stand t (v / 2) false, false) := by
          show elStep P.obj P.lw (.stand t v false) = _
          unfold elStep
          dsimp only
          rw [if_neg (by omega), if_neg (by rw [htell]; decide)]
          simp only [hv1, decide_false]
        obtain ⟨q1, q2, q3⟩ := step_more (i := i) (h := h) (by rw [hA])
        have q4 := step_obj elG P t i (.stand t v false) h
        have q5 := step_lw elG P t i (.stand t v false) h
        rw [hA] at q1 q4 q5
        generalize hP : P.step elG t i (.stand t v false) h = P' at *
        have hww : ∀ u, 1 ≤ u → El.w P' u = if u = v then (t : Int) + 1 else El.w P u := by
          intro u hu
          unfold El.w
          rw [q5]
          show (P.lw.mem.acc 2 (v - 1) 0 (t + 1)).at (u - 1) = _
          rw [hacc u hu, if_pos hw]
        have ev' : ∀ (k : Nat) (x : Ep), P'.evs[k]? = some x → (k ≠ h ∧ P.evs[k]? = some x) ∨ (k = h ∧ x = { e with steps := e.steps + 1 }) := by
          intro k x hx
          rw [q3] at hx
          rcases mod_get hx with h' | ⟨rfl, y, hy, rfl⟩
          · exact .inl h'
          · rw [he] at hy
            cases hy
            exact .inr ⟨rfl, rfl⟩
        have evo : ∀ (k : Nat) (x : Ep), k ≠ h → P.evs[k]? = some x → P'.evs[k]? = some x := by
          intro k x hk hx
          rw [q3]
          exact mod_other hk hx
        have evh : P'.evs[h]? = some { e with steps := e.steps + 1 } := by
          rw [q3]
          exact mod_same he
        have hmo : ∀ u, 1 ≤ u → El.w P u ≠ 0 → El.w P' u = El.w P u := by
          intro u hu hne
          rw [hww u hu, if_neg]
          rintro rfl
          exact hne hw
        refine ⟨hW, by rw [q4]; exact I.lv, by rw [q5]; exact hlen, fun s m k hk => ?_, fun k x hx hxs => ?_, fun k k' x x' hx hx' hxs hxs' htt => ?_, fun k x hx hr hxs => ?_, fun u u0 u1 hu => ?_, fun k x hx => ?_⟩
        · rw [q1] at hk
          by_cases hst : s = t
          · subst hst
            rw [upd_same] at hk
            cases hk
            refine ⟨v / 2, _, rfl, by omega, fun h => by omega, evh, hs, pow_step hst0 hpow, fun h => by omega⟩
          · rw [upd_other hst] at hk
            obtain ⟨v2, x, a1, a2, a3, a4, a5⟩ := I.mach s m k hk
            refine ⟨v2, x, a1, a2, a3, evo k x ?_ a4, a5⟩
            rintro rfl
            obtain ⟨y, hy, _, hy2, _⟩ := I.wf.hand s m k hk
            rw [he] at hy
            cases hy
            omega
        · rw [q4]
          rcases ev' k x hx with ⟨_, hx⟩ | ⟨rfl, rfl⟩
          · exact I.stood k x hx hxs
          · exact I.stood k e he hs
        · rcases ev' k x hx with ⟨_, hx⟩ | ⟨rfl, rfl⟩
          · rcases ev' k' x' hx' with ⟨_, hx'⟩ | ⟨rfl, rfl⟩
            · exact I.uniq k k' x x' hx hx' hxs hxs' htt
            · exact I.uniq k k' x e hx he hxs hs htt
          · rcases ev' k' x' hx' with ⟨_, hx'⟩ | ⟨rfl, rfl⟩
            · exact I.uniq k k' e x' he hx' hs hxs' htt
            · rfl
        · rcases ev' k x hx with ⟨_, hx⟩ | ⟨rfl, rfl⟩
          · rcases I.done k x hx hr hxs with ⟨a1, u, u0, u1, hu⟩ | ⟨a1, a2⟩
            · refine .inl ⟨a1, u, u0, u1, ?_⟩
              rw [hmo u u0 hu]
              exact hu
            · refine .inr ⟨a1, ?_⟩
              rcases a2 with a2 | a2
              · exact .inl a2
              · have hx0 := (I.wf.call k x hx).2.1
                refine .inr ?_
                rw [hmo 1 (by decide) (by rw [a2]; unfold thr; omega)]
                exact a2
          · exact absurd hr0 hr
        · by_cases huv : u = v
          · subst huv
            refine ⟨h, _, evh, hs, ?_, .inl ⟨hr0, u / 2, ?_, by omega⟩⟩
            · rw [hww u u0, if_pos rfl]
              show _ = thr cs e + 1
              rw [hthr]
            · show P'.hands (thr cs e).toNat = some (.stand (thr cs e).toNat (u / 2) false, h)
              rw [hT, q1, upd_same]
          · rw [hww u u0, if_neg huv] at hu ⊢
            obtain ⟨k, x, a1, a2, a3, a4⟩ := I.word u u0 u1 hu
            by_cases hk : k = h
            · subst hk
              rw [he] at a1
              cases a1
              refine ⟨k, _, evh, hs, a3, .inl ?_⟩
              rcases a4 with ⟨_, v', b2, b3⟩ | ⟨b1, _⟩ | ⟨b1, _⟩
              · rw [hT, hm] at b2
                cases b2
                refine ⟨hr0, v / 2, ?_, by omega⟩
                show P'.hands (thr cs e).toNat = some (.stand (thr cs e).toNat (v / 2) false, k)
                rw [hT, q1, upd_same]
              · exact absurd hr0 b1
              · exact absurd hr0 b1
            · refine ⟨k, x, evo k x hk a1, a2, a3, ?_⟩
              rcases a4 with ⟨b1, v', b2, b3⟩ | b | ⟨b1, v', b2, b3, b4⟩
              · refine .inl ⟨b1, v', ?_, b3⟩
                rw [q1, upd_other ?_]
                · exact b2
                · intro hh
                  rw [hh, hm] at b2
                  cases b2
                  exact hk rfl
              · exact .inr (.inl b)
              · refine .inr (.inr ⟨b1, v', b2, b3, ?_⟩)
                rw [hmo v' b2 b4]
                exact b4
        · rcases ev' k x hx with ⟨_, hx⟩ | ⟨rfl, rfl⟩
          · exact I.steps k x hx
          · show e.steps + 1 ≤ ((max d 1 : Nat) : Int)
            omega
    · rw [if_neg hw] at htell
      refine DONE P.obj { P.lw with mem := P.lw.mem.acc 2 (v - 1) 0 (t + 1) } false (.inl ?_) rfl rfl hlen ?_ ?_ ?_ (fun h => by cases h)
      · show elStep P.obj P.lw (.stand t v false) = _
        unfold elStep
        dsimp only
        rw [if_neg (by omega), if_pos htell]
        rfl
      · intro u u0 _ hu
        show (P.lw.mem.acc 2 (v - 1) 0 (t + 1)).at (u - 1) = _
        rw [hacc u u0]
        by_cases h : u = v
        · rw [if_pos h, if_neg hw, h]
        · rw [if_neg h]
      · intro u u0 _ hu
        refine .inl ?_
        have hu : (P.lw.mem.acc 2 (v - 1) 0 (t + 1)).at (u - 1) ≠ 0 := hu
        rw [hacc u u0] at hu
        by_cases h : u = v
        · rw [h]; exact hw
        · rw [if_neg h] at hu
          exact hu
      · intro _
        refine ⟨hv, hv2, ?_⟩
        show (P.lw.mem.acc 2 (v - 1) 0 (t + 1)).at (v - 1) ≠ 0
        rw [hacc v hv, if_pos rfl, if_neg hw]
        exact hw
end Go.Proofs.YtlfingcmekifkaaGreat
