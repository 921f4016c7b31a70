import Derived.Test.YtlfingcmekifkaaGreatLe1
import Derived.Test.YtlfingcmekifkaaGreatRf1
namespace Go.Proofs.YtlfingcmekifkaaGreat
open Go.RowKit
theorem EInv.refuse {d : Nat} {cs : List Cl} {P : Ps EM El} (I : EInv d cs P) {t i : Nat} (hn : P.hands t = none) (hi : i < cs.length) (ht : (callOf cs i).thread = t) (h1 : 1 ≤ P.lw.now) {e : Int} (he : e ≠ 0)
    (hS : elG.start P.obj t (callOf cs i) = (P.obj, .no e)) : EInv d cs ((P.start elG t i (callOf cs i)).step elG t i (.no e) P.evs.length) := by
  have hh : (P.start elG t i (callOf cs i)).hands t = some (.no e, P.evs.length) := by
    show upd P.hands t (some ((elG.start P.obj t (callOf cs i)).2, P.evs.length)) t = _
    rw [hS, upd_same]
  have hW := (I.wf.start (G := elG) (c := callOf cs i) hn hi ht h1).step (i := i) elG_still hh h1
  have hobj : (P.start elG t i (callOf cs i)).obj = P.obj := by
    show (elG.start P.obj t (callOf cs i)).1 = _
    rw [hS]
  have hA : (P.start elG t i (callOf cs i)).after elG t (.no e) = (P.obj, (P.start elG t i (callOf cs i)).lw, .no e, true) := by
    unfold Ps.after
    rw [hobj]
    rfl
  obtain ⟨q1, q2, key, q3⟩ := step_done (i := i) (h := P.evs.length) (G := elG) (P := P.start elG t i (callOf cs i)) (t := t) (m := .no e) (by rw [hA])
  have q4 := step_obj elG (P.start elG t i (callOf cs i)) t i (.no e) P.evs.length
  have q5 := step_lw elG (P.start elG t i (callOf cs i)) t i (.no e) P.evs.length
  rw [hA] at q3 q4 q5
  generalize hP : (P.start elG t i (callOf cs i)).step elG t i (.no e) P.evs.length = P' at *
  have hhands : ∀ s, P'.hands s = P.hands s := by
    intro s
    rw [q1]
    by_cases hs : s = t
    · rw [hs, upd_same, hn]
    · rw [upd_other hs]
      show upd P.hands t _ s = _
      rw [upd_other hs]
  have hev : P'.evs = P.evs ++ [⟨i, P.lw.now, P.lw.now, 0 + 1, ⟨e, 0, []⟩, key⟩] := by
    rw [q3]
    exact snoc_modify P.evs _ _
  have hww : ∀ u, El.w P' u = El.w P u := fun u => by unfold El.w; rw [q5]; rfl
  have old : ∀ (k : Nat) (x : Ep), P'.evs[k]? = some x → isStand cs x → P.evs[k]? = some x := by
    intro k x hx hs
    rw [hev] at hx
    rcases snoc_get hx with ⟨_, hx⟩ | ⟨_, rfl⟩
    · exact hx
    · exact absurd hs.2.2 he
  refine ⟨hW, by rw [q4]; exact I.lv, by rw [q5]; exact I.len, fun s m h hs => ?_, fun h x hx hs => ?_, fun h k x y hx hy hs hs' htt => ?_, fun h x hx hr hs => ?_, fun v v0 v1 hv => ?_, fun h x hx => ?_⟩
  · rw [hhands] at hs
    obtain ⟨v, x, a1, a2, a3, a4, a5⟩ := I.mach s m h hs
    rw [hev]
    exact ⟨v, x, a1, a2, a3, snoc_old a4, a5⟩
  · rw [q4]
    exact I.stood h x (old h x hx hs) hs
  · exact I.uniq h k x y (old h x hx hs) (old k y hy hs') hs hs' htt
  · have := I.done h x (old h x hx hs) hr hs
    simp only [hww]
    exact this
  · simp only [hww] at hv ⊢
    obtain ⟨h, x, a1, a2, a3, a4⟩ := I.word v v0 v1 hv
    refine ⟨h, x, by rw [hev]; exact snoc_old a1, a2, a3, ?_⟩
    rw [hhands]
    exact a4
  · rw [hev] at hx
    rcases snoc_get hx with ⟨_, hx⟩ | ⟨_, rfl⟩
    · exact I.steps h x hx
    · show (0 : Int) + 1 ≤ ((max d 1 : Nat) : Int)
      omega
theorem EInv.idle {d : Nat} {cs : List Cl} {P : Ps EM El} (I : EInv d cs P) : EInv d cs { P with idle := P.idle + 1 } := ⟨⟨I.wf.finl, I.wf.now, I.wf.call, I.wf.hand, I.wf.opn⟩, I.lv, I.len, I.mach, I.stood, I.uniq, I.done, I.word, I.steps⟩
theorem EInv.pick {d : Nat} {cs : List Cl} {P : Ps EM El} (I : EInv d cs P) (p : Int) (hcs : ∀ c ∈ cs, 0 ≤ c.thread ∧ c.thread < 2 ^ d) : EInv d cs (P.pick elG cs p) := by
  rcases pick_cases elG P p (fun c hc => (hcs c hc).1) with h | ⟨t, i, _, hi, ht, _, ⟨m, h, hm, hp⟩ | ⟨hn, hp⟩⟩
  · rw [h]
    exact I.idle
  · rw [hp]
    have h1 : 1 ≤ P.tick.lw.now := by
      have := I.wf.now
      show 1 ≤ P.lw.now + 1
      omega
    exact I.tick.step (i := i) (P := P.tick) hm h1
  · rw [hp]
    have h1 : 1 ≤ P.tick.lw.now := by
      have := I.wf.now
      show 1 ≤ P.lw.now + 1
      omega
    have hC : callOf cs i ∈ cs := by
      unfold callOf
      rw [List.getElem?_eq_getElem hi]
      exact List.getElem_mem hi
    have htn : (t : Int) < 2 ^ d := by
      rw [← ht]
      exact (hcs _ hC).2
    have hno : ∀ e, e ≠ 0 → elG.start P.obj t (callOf cs i) = (P.obj, .no e) → EInv d cs ((P.tick.start elG t i (callOf cs i)).step elG t i (elG.start P.obj t (callOf cs i)).2 P.evs.length) := by
      intro e he hS
      rw [hS]
      exact I.tick.refuse (P := P.tick) hn hi ht h1 he hS
    by_cases ho : (callOf cs i).obj = 0
    · by_cases hk : (callOf cs i).kind = 0
      · cases hst : P.obj.stood t with
        | true =>
          refine hno 8 (by decide) ?_
          show elStart _ _ _ = _
          unfold elStart
          rw [if_neg (by omega), if_neg (by omega), if_pos hst]
        | false =>
          obtain ⟨I', hS⟩ := I.tick.start (P := P.tick) hn hi ht h1 htn ho hk hst
          have hh : (P.tick.start elG t i (callOf cs i)).hands t = some ((elG.start P.obj t (callOf cs i)).2, P.evs.length) := by
            show upd P.hands t (some ((elG.start P.obj t (callOf cs i)).2, P.evs.length)) t = _
            rw [upd_same]
          exact I'.step (i := i) hh h1
      · refine hno 9 (by decide) ?_
        show elStart _ _ _ = _
        unfold elStart
        rw [if_neg (by omega), if_pos hk]
    · refine hno 12 (by decide) ?_
      show elStart _ _ _ = _
      unfold elStart
      rw [if_pos ho]
theorem EInv.play {d : Nat} {cs : List Cl} (hcs : ∀ c ∈ cs, 0 ≤ c.thread ∧ c.thread < 2 ^ d) (picks : List Int) : ∀ {P : Ps EM El}, EInv d cs P → EInv d cs (P.play elG cs picks) := by
  induction picks with
  | nil => exact fun I => I
  | cons p l ih => exact fun I => ih (I.pick p hcs)
structure ElOne (d : Nat) (cs : List Cl) (evs : List Ep) : Prop where
  call : ∀ (h : Nat) (e : Ep), evs[h]? = some e → e.call < cs.length ∧ e.steps ≤ max d 1
  one : ∀ (h k : Nat) (e e' : Ep), evs[h]? = some e → evs[k]? = some e' → isStand cs e → isStand cs e' → e.ans.val = 1 → e'.ans.val = 1 → h = k
  some : (∀ (h : Nat) (e : Ep), evs[h]? = some e → isStand cs e → e.resp ≠ 0) → (∃ (h : Nat) (e : Ep), evs[h]? = some e ∧ isStand cs e) → ∃ (h : Nat) (e : Ep), evs[h]? = some e ∧ isStand cs e ∧ e.ans.val = 1
theorem least_of {p : Nat → Prop} : (∃ n, p n) → ∃ n, p n ∧ ∀ k, k < n → ¬ p k := by
  rintro ⟨n, hn⟩
  induction n using Nat.strongRecOn with
  | ind n ih =>
    by_cases h : ∃ k, k < n ∧ p k
    · obtain ⟨k, hk, hp⟩ := h
      exact ih k hk hp
    · exact ⟨n, hn, fun k hk hp => h ⟨k, hk, hp⟩⟩
theorem EInv.one {d : Nat} {cs : List Cl} {P : Ps EM El} (I : EInv d cs P) (hcs : ∀ c ∈ cs, 0 ≤ c.thread ∧ c.thread < 2 ^ d) : ElOne d cs P.evs := by
  have hzero : ∀ (h : Nat) (e : Ep), P.evs[h]? = some e → e.resp = 0 → e.ans.val = 0 := by
    intro h e he hr
    obtain ⟨m, hm⟩ := I.wf.opn h e he hr
    obtain ⟨e', he', _, _, ha⟩ := I.wf.hand _ _ _ hm
    rw [he] at he'
    cases he'
    rw [ha]
  refine ⟨fun h e he => ⟨(I.wf.call h e he).1, I.steps h e he⟩, fun h k e e' he he' hs hs' hv hv' => ?_, fun hno hex => ?_⟩
  · have hr : e.resp ≠ 0 := fun hr => by rw [hzero h e he hr] at hv; cases hv
    have hr' : e'.resp ≠ 0 := fun hr => by rw [hzero k e' he' hr] at hv'; cases hv'
    refine I.uniq h k e e' he he' hs hs' ?_
    have hd : ∀ (h : Nat) (e : Ep), P.evs[h]? = some e → d = 0 → thr cs e = 0 := by
      intro h e he hd
      have hl := (I.wf.call h e he).1
      have hC : callOf cs e.call ∈ cs := by
        unfold callOf
        rw [List.getElem?_eq_getElem hl]
        exact List.getElem_mem hl
      have := hcs _ hC
      rw [hd] at this
      have h2 : (callOf cs e.call).thread < 1 := this.2
      unfold thr
      omega
    rcases I.done h e he hr hs with ⟨a, _⟩ | ⟨_, a⟩
    · rw [a] at hv; cases hv
    rcases I.done k e' he' hr' hs' with ⟨b, _⟩ | ⟨_, b⟩
    · rw [b] at hv'; cases hv'
    rcases a with a | a
    · rw [hd h e he a, hd k e' he' a]
    · rcases b with b | b
      · rw [hd h e he b, hd k e' he' b]
      · omega
  · obtain ⟨h, e, he, hs⟩ := hex
    rcases I.done h e he (hno h e he hs) hs with ⟨_, v, v0, v1, hv⟩ | ⟨a, _⟩
    · obtain ⟨n, ⟨n0, n1, hn⟩, hleast⟩ := least_of (p := fun n => 1 ≤ n ∧ (n : Int) < 2 ^ d ∧ El.w P n ≠ 0) ⟨v.toNat, by omega, by rw [Int.toNat_of_nonneg (by omega)]; exact v1, by rw [Int.toNat_of_nonneg (by omega)]; exact hv⟩
      obtain ⟨k, x, a1, a2, a3, a4⟩ := I.word n (by omega) n1 hn
      rcases a4 with ⟨b1, _⟩ | ⟨_, b⟩ | ⟨_, v', b2, b3, b4⟩
      · exact absurd b1 (hno k x a1 a2)
      · exact ⟨k, x, a1, a2, b⟩
      · exact absurd ⟨by omega, by omega, by rw [Int.toNat_of_nonneg (by omega)]; exact b4⟩ (hleast v'.toNat (by omega))
    · exact ⟨h, e, he, hs, a⟩
def elPlay (d : Nat) (cs : List Cl) (picks : List Int) : Ps EM El := (Ps.new (List.replicate (2 ^ d - 1) 0) ⟨2 ^ d, fun _ => false⟩ cs.length).play elG cs picks
end Go.Proofs.YtlfingcmekifkaaGreat

namespace Go.Proofs.YtlfingcmekifkaaGreat
open Go.RowKit
def elLoop (t : Nat) : Nat → Int → Tp → Rw → Tp × Rw
  | 0, _, T, W => ({ T with val := 1 }, W)
  | f + 1, v, T, W => if v < 1 then ({ T with val := 1 }, W) else if (T.acc t 2 (v - 1) 0 (t + 1) W).1 = 1 then elLoop t f (v / 2) (T.acc t 2 (v - 1) 0 (t + 1) W).2.1 (T.acc t 2 (v - 1) 0 (t + 1) W).2.2 else ((T.acc t 2 (v - 1) 0 (t + 1) W).2.1, (T.acc t 2 (v - 1) 0 (t + 1) W).2.2)
def elDo (L : Int) : Dof := fun t c T W => if c.kind ≠ 0 then ({ T with err := 9 }, W) else if T.priv ≠ [] then ({ T with err := 8 }, W) else elLoop t 5 ((L + t) / 2) { T with priv := [1] } W
theorem elLoop_succ (t f : Nat) (v : Int) (T : Tp) (W : Rw) : elLoop t (f + 1) v T W = if v < 1 then ({ T with val := 1 }, W) else if (T.acc t 2 (v - 1) 0 (t + 1) W).1 = 1 then elLoop t f (v / 2) (T.acc t 2 (v - 1) 0 (t + 1) W).2.1 (T.acc t 2 (v - 1) 0 (t + 1) W).2.2 else ((T.acc t 2 (v - 1) 0 (t + 1) W).2.1, (T.acc t 2 (v - 1) 0 (t + 1) W).2.2) := rfl
theorem acc_old {t : Nat} {k a x y v : Int} {T : Tp} {W : Rw} (hh : T.halt = false) (hv : T.got[T.at_]? = some v) : T.acc t k a x y W = (v, { T with at_ := T.at_ + 1 }, W) := by
  have hl := (List.getElem?_eq_some_iff.1 hv).1
  unfold Tp.acc
  rw [hh, hv]
  simp [hl]
theorem acc_new {t : Nat} {k a x y : Int} {T : Tp} {W : Rw} (hh : T.halt = false) (hf : T.fresh = true) (hl : T.at_ = T.got.length) : T.acc t k a x y W = (W.mem.tell k a x, { T with fresh := false, got := T.got ++ [W.mem.tell k a x], tks := T.tks ++ [W.now], at_ := T.at_ + 1 }, { W with mem := W.mem.acc k a x y, log := W.log1 t k a x y }) := by
  unfold Tp.acc
  rw [hh, hf]
  simp [hl]
theorem acc_halt {t : Nat} {k a x y : Int} {T : Tp} {W : Rw} (hh : T.halt = false) (hf : T.fresh = false) (hl : T.at_ = T.got.length) : T.acc t k a x y W = (0, { T with halt := true }, W) := by
  unfold Tp.acc
  rw [hh, hf]
  simp [hl]
theorem elLoop_replay (t : Nat) (W : Rw) : ∀ (d f : Nat) (v : Int) (T : Tp), T.halt = false → T.got = List.replicate (T.at_ + d) 1 → 0 ≤ v → (∀ j, j < d → 1 ≤ v / 2 ^ j) → elLoop t (f + d) v T W = elLoop t f (v / 2 ^ d) { T with at_ := T.at_ + d } W := by
  intro d
  induction d with
  | zero =>
    intro f v T _ _ _ _
    simp
  | succ d ih =>
    intro f v T hh hg h0 hj
    have h1 : 1 ≤ v := by have := hj 0 (by omega); simpa using this
    have hga : T.got[T.at_]? = some 1 := by rw [hg]; simp
    rw [show f + (d + 1) = (f + d) + 1 by omega, elLoop_succ, if_neg (by omega), acc_old hh hga]
    dsimp only
    rw [if_pos rfl]
    have e2 : v / 2 ^ (d + 1) = v / 2 / 2 ^ d := by
      rw [Int.pow_succ, Int.mul_comm, Int.ediv_ediv_of_nonneg (by decide)]
    rw [ih f (v / 2) { T with at_ := T.at_ + 1 } hh (by rw [hg]; congr 1; show T.at_ + (d + 1) = T.at_ + 1 + d; omega) (by omega) (fun j hjd => by
      have := hj (j + 1) (by omega)
      rw [Int.pow_succ, Int.mul_comm, ← Int.ediv_ediv_of_nonneg (by decide)] at this
      exact this), e2]
    congr 1
    show ({ T with at_ := T.at_ + 1 + d } : Tp) = { T with at_ := T.at_ + (d + 1) }
    rw [show T.at_ + 1 + d = T.at_ + (d + 1) by omega]
def elOwn (L : Int) (o : El) (t : Nat) (ow : Nat → List Int) : Prop := o.leaves = L ∧ (o.stood t = true ↔ ow 0 ≠ [])
def elRep (L : Int) (o : El) (t : Nat) (c : Cl) (ow : Nat → List Int) (T : Tp) : EM → Prop
  | .no e => T.got = [] ∧ elOwn L o t ow ∧ ((c.obj ≠ 0 ∧ e = 12) ∨ (c.obj = 0 ∧ c.kind ≠ 0 ∧ e = 9) ∨ (c.obj = 0 ∧ c.kind = 0 ∧ ow 0 ≠ [] ∧ e = 8))
  | .stand t' v l => o.leaves = L ∧ t' = t ∧ c.obj = 0 ∧ c.kind = 0 ∧ ow 0 = [] ∧ l = false ∧ o.stood t = true ∧ ∃ k : Nat, T.got = List.replicate k 1 ∧ v = (L + t) / 2 / 2 ^ k ∧ (1 ≤ k → 1 ≤ v)
def elA (L : Int) : Alike elG (elDo L) 1 := ⟨elOwn L, elRep L⟩
theorem el_obj (o : El) (lw : Lw) (m : EM) : (elStep o lw m).1 = o := by
  unfold elStep
  split
  · rfl
  · split
    · rfl
    · split <;> rfl
theorem el_alike {L : Int} (hL : 1 ≤ L ∧ L ≤ 16) : (elA L).Ok := by
  refine ⟨?_, ?_, ?_, ?_, ?_, ?_⟩
  · intro o t c ow inv ho hc ht hu
    obtain ⟨h1, h2⟩ := ho
    show elRep L (elStart o t c).1 t c ow (Tp.new inv) (elStart o t c).2
    unfold elStart
    by_cases q1 : c.obj ≠ 0
    · rw [if_pos q1]
      exact ⟨rfl, ⟨h1, h2⟩, Or.inl ⟨q1, rfl⟩⟩
    · rw [if_neg q1]
      by_cases q2 : c.kind ≠ 0
      · rw [if_pos q2]
        exact ⟨rfl, ⟨h1, h2⟩, Or.inr (Or.inl ⟨by omega, q2, rfl⟩)⟩
      · rw [if_neg q2]
        by_cases q3 : o.stood t = true
        · rw [if_pos q3]
          exact ⟨rfl, ⟨h1, h2⟩, Or.inr (Or.inr ⟨by omega, by omega, h2.1 q3, rfl⟩)⟩
        · rw [if_neg q3]
          refine ⟨h1, rfl, by omega, by omega, Decidable.byContradiction fun h => q3 (h2.2 h), rfl, upd_same _ _ _, 0, rfl, ?_, fun h => by omega⟩
          rw [h1]
          simp
  · intro o t s c ow hst ho
    obtain ⟨h1, h2⟩ := ho
    show elOwn L (elStart o t c).1 s ow
    unfold elStart
    split
    · exact ⟨h1, h2⟩
    · split
      · exact ⟨h1, h2⟩
      · split
        · exact ⟨h1, h2⟩
        · exact ⟨h1, by show (upd o.stood t true s = true ↔ _); rw [upd_other hst]; exact h2⟩
  · intro o t s c c' ow T m hst hr
    have key : ∀ o' : El, o'.leaves = o.leaves → o'.stood s = o.stood s → elRep L o' s c' ow T m := by
      intro o' e1 e2
      cases m with
      | no e =>
        obtain ⟨a, ⟨b1, b2⟩, d⟩ := hr
        exact ⟨a, ⟨by rw [e1]; exact b1, by rw [e2]; exact b2⟩, d⟩
      | stand t' v l =>
        obtain ⟨a, b, d, e, f, g, h, i⟩ := hr
        exact ⟨by rw [e1]; exact a, b, d, e, f, g, by rw [e2]; exact h, i⟩
    refine key _ ?_ ?_
    · show (elStart o t c).1.leaves = _
      unfold elStart
      split
      · rfl
      · split
        · rfl
        · split <;> rfl
    · show (elStart o t c).1.stood s = _
      unfold elStart
      split
      · rfl
      · split
        · rfl
        · split
          · rfl
          · exact upd_other hst
  · intro o t c ow T m lw W hr hW hu hct ht
    obtain ⟨w1, w2, w3, w4⟩ := hW
    show WRel (elStep o lw m).2.1 _ ∧ _ = !(elStep o lw m).2.2.2 ∧ ((elStep o lw m).2.2.2 = false → elRep L (elStep o lw m).1 t c ow _ (elStep o lw m).2.2.1) ∧ ((elStep o lw m).2.2.2 = true → elOwn L (elStep o lw m).1 t _ ∧ elAns (elStep o lw m).2.2.1 = _)
    cases m with
    | no e =>
      obtain ⟨a, ho, hcase⟩ := hr
      rcases hcase with ⟨q1, rfl⟩ | ⟨q1, q2, rfl⟩ | ⟨q1, q2, q3, rfl⟩
      · have hrun : runT (elDo L) 1 t c ow T W = ({ T.again with err := 12 }, W) := if_neg (by omega)
        rw [hrun]
        refine ⟨⟨w1, w2, w3, w4⟩, rfl, (fun h => by cases h), fun _ => ⟨?_, rfl⟩⟩
        rw [if_neg (by omega)]
        exact ho
      · have hrun : runT (elDo L) 1 t c ow T W = ({ T.again with priv := ow c.obj.toNat, err := 9 }, W) := by
          unfold runT elDo
          rw [if_pos (by omega), if_pos q2]
        rw [hrun]
        refine ⟨⟨w1, w2, w3, w4⟩, rfl, (fun h => by cases h), fun _ => ⟨?_, rfl⟩⟩
        rw [if_pos (by omega)]
        refine ⟨ho.1, ?_⟩
        rw [q1]
        show _ ↔ upd ow 0 (ow 0) 0 ≠ []
        rw [upd_same]
        exact ho.2
      · have hrun : runT (elDo L) 1 t c ow T W = ({ T.again with priv := ow c.obj.toNat, err := 8 }, W) := by
          unfold runT elDo
          rw [if_pos (by omega), if_neg (by omega), if_pos (by rw [q1]; exact q3)]
        rw [hrun]
        refine ⟨⟨w1, w2, w3, w4⟩, rfl, (fun h => by cases h), fun _ => ⟨?_, rfl⟩⟩
        rw [if_pos (by omega)]
        refine ⟨ho.1, ?_⟩
        rw [q1]
        show _ ↔ upd ow 0 (ow 0) 0 ≠ []
        rw [upd_same]
        exact ho.2
    | stand t' v l =>
      obtain ⟨a1, rfl, a3, a4, a5, rfl, a7, k, g1, g2, g3⟩ := hr
      have hv0 : 0 ≤ (L + (t' : Int)) / 2 ∧ (L + (t' : Int)) / 2 ≤ 15 := by omega
      have hpow : (0 : Int) < 2 ^ k := Int.pow_pos (by decide)
      have hvk : 0 ≤ v := by rw [g2]; exact Int.ediv_nonneg hv0.1 (by omega)
      have hmono : ∀ j, j < k → 1 ≤ (L + (t' : Int)) / 2 / 2 ^ j := by
        intro j hj
        have hv1 := g3 (by omega)
        obtain ⟨d, rfl⟩ : ∃ d, k = j + d := ⟨k - j, by omega⟩
        rw [g2, Int.pow_add, ← Int.ediv_ediv_of_nonneg (Int.le_of_lt (Int.pow_pos (by decide)))] at hv1
        have hd : (0 : Int) < 2 ^ d := Int.pow_pos (by decide)
        generalize (L + (t' : Int)) / 2 / 2 ^ j = z at *
        by_cases hz : 1 ≤ z
        · exact hz
        · exfalso
          have : z / 2 ^ d ≤ 0 := Int.ediv_le_of_le_mul hd (by omega)
          omega
      have hk4 : k ≤ 3 := by
        by_cases hk : k ≤ 3
        · exact hk
        · exfalso
          have h1 := hmono 3 (by omega)
          have hv1 := g3 (by omega)
          have h2 : (L + (t' : Int)) / 2 / 2 ^ 4 < 1 := by omega
          by_cases hk' : k = 4
          · subst hk'
            omega
          · have := hmono 4 (by omega)
            omega
      obtain ⟨f, hf⟩ : ∃ f, 5 = f + 2 + k := ⟨3 - k, by omega⟩
      let T1 : Tp := { T.again with priv := [1] }
      have hrun : runT (elDo L) 1 t' c ow T W = elLoop t' (f + 2) v { T1 with at_ := k } W := by
        unfold runT elDo
        rw [if_pos (by omega), if_neg (by omega), if_neg (by rw [a3]; simpa using a5), hf]
        have := elLoop_replay t' W k (f + 2) ((L + t') / 2) T1 rfl (by show T.got = List.replicate (0 + k) 1; rw [Nat.zero_add]; exact g1) hv0.1 hmono
        rw [show T1.at_ = 0 from rfl, Nat.zero_add, ← g2] at this
        exact this
      rw [hrun]
      have hpriv : (if 0 ≤ c.obj ∧ c.obj < (1 : Nat) then upd ow c.obj.toNat [1] else ow) 0 ≠ [] := by
        rw [if_pos (by omega), a3]
        show upd ow 0 [1] 0 ≠ []
        rw [upd_same]
        exact List.cons_ne_nil _ _
      rw [elLoop_succ]
      by_cases hv1 : v < 1
      · have hs : elStep o lw (.stand t' v false) = (o, lw, .stand t' (v / 2) (decide (v / 2 < 1)), decide (v / 2 < 1)) := by
          unfold elStep
          dsimp only
          rw [if_pos hv1]
        have hv2 : decide (v / 2 < 1) = true := by simp; omega
        rw [hs, if_pos hv1, hv2]
        exact ⟨⟨w1, w2, w3, w4⟩, rfl, (fun h => by cases h), fun _ => ⟨⟨a1, by rw [a7]; simpa using hpriv⟩, rfl⟩⟩
      · rw [if_neg hv1]
        rw [acc_new (T := { T1 with at_ := k }) rfl rfl (by show k = T.got.length; rw [g1]; simp)]
        dsimp only
        have hmem : W.mem.tell 2 (v - 1) 0 = lw.mem.tell 2 (v - 1) 0 := by rw [w1]
        by_cases ht0 : lw.mem.tell 2 (v - 1) 0 = 0
        · have hs : elStep o lw (.stand t' v false) = (o, { lw with mem := lw.mem.acc 2 (v - 1) 0 (t' + 1) }, .stand t' v false, true) := by
            unfold elStep
            dsimp only
            rw [if_neg hv1, if_pos ht0]
          rw [hs, hmem, ht0, if_neg (by decide)]
          exact ⟨⟨by show W.mem.acc _ _ _ _ = _; rw [w1], w2, w3, w4⟩, rfl, (fun h => by cases h), fun _ => ⟨⟨a1, by rw [a7]; simpa using hpriv⟩, rfl⟩⟩
        · have ht1 : lw.mem.tell 2 (v - 1) 0 = 1 := by
            have : ∀ (m : Mm) (a x : Int), m.tell 2 a x = 0 ∨ m.tell 2 a x = 1 := by
              intro m a x
              unfold Mm.tell acV
              split
              · rw [if_neg (by decide), if_neg (by decide), if_pos rfl]
                split
                · exact Or.inr rfl
                · exact Or.inl rfl
              · exact Or.inl rfl
            rcases this lw.mem (v - 1) 0 with h | h
            · exact absurd h ht0
            · exact h
          have hs : elStep o lw (.stand t' v false) = (o, { lw with mem := lw.mem.acc 2 (v - 1) 0 (t' + 1) }, .stand t' (v / 2) (decide (v / 2 < 1)), decide (v / 2 < 1)) := by
            unfold elStep
            dsimp only
            rw [if_neg hv1, if_neg ht0]
          rw [hs, hmem, ht1, if_pos rfl, elLoop_succ]
          by_cases hv2 : v / 2 < 1
          · rw [if_pos hv2, decide_eq_true hv2]
            exact ⟨⟨by show W.mem.acc _ _ _ _ = _; rw [w1], w2, w3, w4⟩, rfl, (fun h => by cases h), fun _ => ⟨⟨a1, by rw [a7]; simpa using hpriv⟩, rfl⟩⟩
          · rw [if_neg hv2, decide_eq_false hv2]
            rw [acc_halt rfl rfl (by show k + 1 = (T.got ++ [1]).length; rw [g1]; simp)]
            dsimp only
            rw [if_neg (by decide)]
            refine ⟨⟨by show W.mem.acc _ _ _ _ = _; rw [w1], w2, w3, w4⟩, rfl, fun _ => ?_, (fun h => by cases h)⟩
            refine ⟨a1, rfl, a3, a4, a5, rfl, a7, k + 1, ?_, ?_, fun _ => by omega⟩
            · show T.got ++ [1] = _
              rw [g1, List.replicate_succ']
            · rw [g2, Int.pow_succ, Int.ediv_ediv_of_nonneg (Int.le_of_lt hpow)]
  · intro o t s c2 ow2 T2 ow m lw hst _ ho
    have hs : (elStep o lw m).1 = o := el_obj o lw m
    show elOwn L (elStep o lw m).1 s ow
    rw [hs]
    exact ho
  · intro o t s c2 ow2 T2 c' ow T m m' lw hst _ hr
    have hs : (elStep o lw m).1 = o := el_obj o lw m
    show elRep L (elStep o lw m).1 s c' ow T m'
    rw [hs]
    exact hr
end Go.Proofs.YtlfingcmekifkaaGreat
