/- What ElectOne says of the events of an election. -/
import Derived.Test.YtlfingcmekifkaaLe1
namespace Go.Proofs.Ytlfingcmekifkaa
open Go.RowKit

/-- An operation that may not be. -/
theorem EInv.refuse {d : Nat} {cs : List Cl} {P : Ps EM El} (I : EInv d cs P) {t i : Nat} (hn : P.hands t = none) (hi : i < cs.length) (ht : (callOf cs i).thread = t) (h1 : 1 ≤ P.lw.now) {e : Int} (he : e ≠ 0)
    (hS : elG.start P.obj t (callOf cs i) = (P.obj, .no e)) : EInv d cs ((P.start elG t i (callOf cs i)).step elG t i (.no e) P.evs.length) := by
  have hh : (P.start elG t i (callOf cs i)).hands t = some (.no e, P.evs.length) := by
    show upd P.hands t (some ((elG.start P.obj t (callOf cs i)).2, P.evs.length)) t = _
    rw [hS, upd_same]
  have hW := (I.wf.start (G := elG) (c := callOf cs i) hn hi ht h1).step (i := i) elG_still hh h1
  have hobj : (P.start elG t i (callOf cs i)).obj = P.obj := by
    show (elG.start P.obj t (callOf cs i)).1 = _
    rw [hS]
  have hA : (P.start elG t i (callOf cs i)).after elG t (.no e) = (P.obj, (P.start elG t i (callOf cs i)).lw, .no e, true) := by
    unfold Ps.after
    rw [hobj]
    rfl
  obtain ⟨q1, q2, key, q3⟩ := step_done (i := i) (h := P.evs.length) (G := elG) (P := P.start elG t i (callOf cs i)) (t := t) (m := .no e) (by rw [hA])
  have q4 := step_obj elG (P.start elG t i (callOf cs i)) t i (.no e) P.evs.length
  have q5 := step_lw elG (P.start elG t i (callOf cs i)) t i (.no e) P.evs.length
  rw [hA] at q3 q4 q5
  generalize hP : (P.start elG t i (callOf cs i)).step elG t i (.no e) P.evs.length = P' at *
  have hhands : ∀ s, P'.hands s = P.hands s := by
    intro s
    rw [q1]
    by_cases hs : s = t
    · rw [hs, upd_same, hn]
    · rw [upd_other hs]
      show upd P.hands t _ s = _
      rw [upd_other hs]
  have hev : P'.evs = P.evs ++ [⟨i, P.lw.now, P.lw.now, 0 + 1, ⟨e, 0, []⟩, key⟩] := by
    rw [q3]
    exact snoc_modify P.evs _ _
  have hww : ∀ u, El.w P' u = El.w P u := fun u => by unfold El.w; rw [q5]; rfl
  have old : ∀ (k : Nat) (x : Ep), P'.evs[k]? = some x → isStand cs x → P.evs[k]? = some x := by
    intro k x hx hs
    rw [hev] at hx
    rcases snoc_get hx with ⟨_, hx⟩ | ⟨_, rfl⟩
    · exact hx
    · exact absurd hs.2.2 he
  refine ⟨hW, by rw [q4]; exact I.lv, by rw [q5]; exact I.len, fun s m h hs => ?_, fun h x hx hs => ?_, fun h k x y hx hy hs hs' htt => ?_, fun h x hx hr hs => ?_, fun v v0 v1 hv => ?_, fun h x hx => ?_⟩
  · rw [hhands] at hs
    obtain ⟨v, x, a1, a2, a3, a4, a5⟩ := I.mach s m h hs
    rw [hev]
    exact ⟨v, x, a1, a2, a3, snoc_old a4, a5⟩
  · rw [q4]
    exact I.stood h x (old h x hx hs) hs
  · exact I.uniq h k x y (old h x hx hs) (old k y hy hs') hs hs' htt
  · have := I.done h x (old h x hx hs) hr hs
    simp only [hww]
    exact this
  · simp only [hww] at hv ⊢
    obtain ⟨h, x, a1, a2, a3, a4⟩ := I.word v v0 v1 hv
    refine ⟨h, x, by rw [hev]; exact snoc_old a1, a2, a3, ?_⟩
    rw [hhands]
    exact a4
  · rw [hev] at hx
    rcases snoc_get hx with ⟨_, hx⟩ | ⟨_, rfl⟩
    · exact I.steps h x hx
    · show (0 : Int) + 1 ≤ ((max d 1 : Nat) : Int)
      omega
theorem EInv.idle {d : Nat} {cs : List Cl} {P : Ps EM El} (I : EInv d cs P) : EInv d cs { P with idle := P.idle + 1 } := ⟨⟨I.wf.finl, I.wf.now, I.wf.call, I.wf.hand, I.wf.opn⟩, I.lv, I.len, I.mach, I.stood, I.uniq, I.done, I.word, I.steps⟩
theorem EInv.pick {d : Nat} {cs : List Cl} {P : Ps EM El} (I : EInv d cs P) (p : Int) (hcs : ∀ c ∈ cs, 0 ≤ c.thread ∧ c.thread < 2 ^ d) : EInv d cs (P.pick elG cs p) := by
  rcases pick_cases elG P p (fun c hc => (hcs c hc).1) with h | ⟨t, i, _, hi, ht, _, ⟨m, h, hm, hp⟩ | ⟨hn, hp⟩⟩
  · rw [h]
    exact I.idle
  · rw [hp]
    have h1 : 1 ≤ P.tick.lw.now := by
      have := I.wf.now
      show 1 ≤ P.lw.now + 1
      omega
    exact I.tick.step (i := i) (P := P.tick) hm h1
  · rw [hp]
    have h1 : 1 ≤ P.tick.lw.now := by
      have := I.wf.now
      show 1 ≤ P.lw.now + 1
      omega
    have hC : callOf cs i ∈ cs := by
      unfold callOf
      rw [List.getElem?_eq_getElem hi]
      exact List.getElem_mem hi
    have htn : (t : Int) < 2 ^ d := by
      rw [← ht]
      exact (hcs _ hC).2
    have hno : ∀ e, e ≠ 0 → elG.start P.obj t (callOf cs i) = (P.obj, .no e) → EInv d cs ((P.tick.start elG t i (callOf cs i)).step elG t i (elG.start P.obj t (callOf cs i)).2 P.evs.length) := by
      intro e he hS
      rw [hS]
      exact I.tick.refuse (P := P.tick) hn hi ht h1 he hS
    by_cases ho : (callOf cs i).obj = 0
    · by_cases hk : (callOf cs i).kind = 0
      · cases hst : P.obj.stood t with
        | true =>
          refine hno 8 (by decide) ?_
          show elStart _ _ _ = _
          unfold elStart
          rw [if_neg (by omega), if_neg (by omega), if_pos hst]
        | false =>
          obtain ⟨I', hS⟩ := I.tick.start (P := P.tick) hn hi ht h1 htn ho hk hst
          have hh : (P.tick.start elG t i (callOf cs i)).hands t = some ((elG.start P.obj t (callOf cs i)).2, P.evs.length) := by
            show upd P.hands t (some ((elG.start P.obj t (callOf cs i)).2, P.evs.length)) t = _
            rw [upd_same]
          exact I'.step (i := i) hh h1
      · refine hno 9 (by decide) ?_
        show elStart _ _ _ = _
        unfold elStart
        rw [if_neg (by omega), if_pos hk]
    · refine hno 12 (by decide) ?_
      show elStart _ _ _ = _
      unfold elStart
      rw [if_pos ho]
theorem EInv.play {d : Nat} {cs : List Cl} (hcs : ∀ c ∈ cs, 0 ≤ c.thread ∧ c.thread < 2 ^ d) (picks : List Int) : ∀ {P : Ps EM El}, EInv d cs P → EInv d cs (P.play elG cs picks) := by
  induction picks with
  | nil => exact fun I => I
  | cons p l ih => exact fun I => ih (I.pick p hcs)
/-- What ElectOne says of the events. -/
structure ElOne (d : Nat) (cs : List Cl) (evs : List Ep) : Prop where
  call : ∀ (h : Nat) (e : Ep), evs[h]? = some e → e.call < cs.length ∧ e.steps ≤ max d 1
  one : ∀ (h k : Nat) (e e' : Ep), evs[h]? = some e → evs[k]? = some e' → isStand cs e → isStand cs e' → e.ans.val = 1 → e'.ans.val = 1 → h = k
  some : (∀ (h : Nat) (e : Ep), evs[h]? = some e → isStand cs e → e.resp ≠ 0) → (∃ (h : Nat) (e : Ep), evs[h]? = some e ∧ isStand cs e) → ∃ (h : Nat) (e : Ep), evs[h]? = some e ∧ isStand cs e ∧ e.ans.val = 1
theorem least_of {p : Nat → Prop} : (∃ n, p n) → ∃ n, p n ∧ ∀ k, k < n → ¬ p k := by
  rintro ⟨n, hn⟩
  induction n using Nat.strongRecOn with
  | ind n ih =>
    by_cases h : ∃ k, k < n ∧ p k
    · obtain ⟨k, hk, hp⟩ := h
      exact ih k hk hp
    · exact ⟨n, hn, fun k hk hp => h ⟨k, hk, hp⟩⟩
theorem EInv.one {d : Nat} {cs : List Cl} {P : Ps EM El} (I : EInv d cs P) (hcs : ∀ c ∈ cs, 0 ≤ c.thread ∧ c.thread < 2 ^ d) : ElOne d cs P.evs := by
  have hzero : ∀ (h : Nat) (e : Ep), P.evs[h]? = some e → e.resp = 0 → e.ans.val = 0 := by
    intro h e he hr
    obtain ⟨m, hm⟩ := I.wf.opn h e he hr
    obtain ⟨e', he', _, _, ha⟩ := I.wf.hand _ _ _ hm
    rw [he] at he'
    cases he'
    rw [ha]
  refine ⟨fun h e he => ⟨(I.wf.call h e he).1, I.steps h e he⟩, fun h k e e' he he' hs hs' hv hv' => ?_, fun hno hex => ?_⟩
  · have hr : e.resp ≠ 0 := fun hr => by rw [hzero h e he hr] at hv; cases hv
    have hr' : e'.resp ≠ 0 := fun hr => by rw [hzero k e' he' hr] at hv'; cases hv'
    refine I.uniq h k e e' he he' hs hs' ?_
    have hd : ∀ (h : Nat) (e : Ep), P.evs[h]? = some e → d = 0 → thr cs e = 0 := by
      intro h e he hd
      have hl := (I.wf.call h e he).1
      have hC : callOf cs e.call ∈ cs := by
        unfold callOf
        rw [List.getElem?_eq_getElem hl]
        exact List.getElem_mem hl
      have := hcs _ hC
      rw [hd] at this
      have h2 : (callOf cs e.call).thread < 1 := this.2
      unfold thr
      omega
    rcases I.done h e he hr hs with ⟨a, _⟩ | ⟨_, a⟩
    · rw [a] at hv; cases hv
    rcases I.done k e' he' hr' hs' with ⟨b, _⟩ | ⟨_, b⟩
    · rw [b] at hv'; cases hv'
    rcases a with a | a
    · rw [hd h e he a, hd k e' he' a]
    · rcases b with b | b
      · rw [hd h e he b, hd k e' he' b]
      · omega
  · obtain ⟨h, e, he, hs⟩ := hex
    rcases I.done h e he (hno h e he hs) hs with ⟨_, v, v0, v1, hv⟩ | ⟨a, _⟩
    · obtain ⟨n, ⟨n0, n1, hn⟩, hleast⟩ := least_of (p := fun n => 1 ≤ n ∧ (n : Int) < 2 ^ d ∧ El.w P n ≠ 0) ⟨v.toNat, by omega, by rw [Int.toNat_of_nonneg (by omega)]; exact v1, by rw [Int.toNat_of_nonneg (by omega)]; exact hv⟩
      obtain ⟨k, x, a1, a2, a3, a4⟩ := I.word n (by omega) n1 hn
      rcases a4 with ⟨b1, _⟩ | ⟨_, b⟩ | ⟨_, v', b2, b3, b4⟩
      · exact absurd b1 (hno k x a1 a2)
      · exact ⟨k, x, a1, a2, b⟩
      · exact absurd ⟨by omega, by omega, by rw [Int.toNat_of_nonneg (by omega)]; exact b4⟩ (hleast v'.toNat (by omega))
    · exact ⟨h, e, he, hs, a⟩
def elPlay (d : Nat) (cs : List Cl) (picks : List Int) : Ps EM El := (Ps.new (List.replicate (2 ^ d - 1) 0) ⟨2 ^ d, fun _ => false⟩ cs.length).play elG cs picks
theorem el_one {d : Nat} {cs : List Cl} (hcs : ∀ c ∈ cs, 0 ≤ c.thread ∧ c.thread < 2 ^ d) (picks : List Int) : ElOne d cs (elPlay d cs picks).evs := ((EInv.new d cs).play hcs picks).one hcs
end Go.Proofs.Ytlfingcmekifkaa
