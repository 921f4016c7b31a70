import Derived.Test.YtlfingcmekifkaaGreatBun9
namespace Go.Proofs.YtlfingcmekifkaaGreat
open Go.RowKit
section
variable {M O : Type} {G : Gm M O} {D : Dof} {no : Nat}
structure Sim (A : Alike G D no) (cs : List Cl) (P : Ps M O) (R : Rs) : Prop where
  rel : WRel P.lw R.w
  fin : R.fin = P.fin
  evs : R.evs = P.evs
  idle : R.idle = P.idle
  hno : ∀ t, P.hands t = none → (R.hands t).opn = false ∧ A.own P.obj t (R.hands t).own
  hso : ∀ t m h, P.hands t = some (m, h) → (R.hands t).opn = true ∧ (R.hands t).event = h ∧ ∃ i, nowF cs P.fin t = some i ∧ A.rep P.obj t (callOf cs i) (R.hands t).own (R.hands t).tape m
theorem Sim.tick {A : Alike G D no} {cs : List Cl} {P : Ps M O} {R : Rs} (S : Sim A cs P R) : Sim A cs P.tick R.tick := by
  obtain ⟨a, b, c, d⟩ := S.rel
  exact ⟨⟨a, by show R.w.now + 1 = P.lw.now + 1; rw [b], c, d⟩, S.fin, S.evs, S.idle, S.hno, S.hso⟩
theorem Sim.begin {A : Alike G D no} (hA : A.Ok) {cs : List Cl} {P : Ps M O} {R : Rs} (S : Sim A cs P R) {t i : Nat} (hn : P.hands t = none) (hi : nowF cs P.fin t = some i) (ht : (callOf cs i).thread = t) (h16 : t < 16) (hu : ClB (callOf cs i)) : Sim A cs (P.start G t i (callOf cs i)) (R.begin t i) := by
  obtain ⟨a, b, c, d⟩ := S.rel
  refine ⟨⟨a, b, fun s => ?_, d⟩, S.fin, ?_, S.idle, fun s hs => ?_, fun s m h hs => ?_⟩
  · show upd R.w.marks t [] s = upd P.lw.marks t [] s
    by_cases e : s = t
    · subst e; rw [upd_same, upd_same]
    · rw [upd_other e, upd_other e]; exact c s
  · show R.evs ++ [_] = P.evs ++ [_]
    rw [S.evs, b]
  · have hst : s ≠ t := by
      rintro rfl
      have hs : upd P.hands s _ s = none := hs
      rw [upd_same] at hs
      cases hs
    have hs : upd P.hands t _ s = none := hs
    rw [upd_other hst] at hs
    obtain ⟨q1, q2⟩ := S.hno s hs
    have e1 : (R.begin t i).hands s = R.hands s := upd_other hst
    rw [e1]
    exact ⟨q1, hA.startO hst q2⟩
  · have hs : upd P.hands t _ s = some (m, h) := hs
    by_cases hst : s = t
    · subst hst
      rw [upd_same] at hs
      cases hs
      have e1 : (R.begin s i).hands s = { R.hands s with opn := true, event := R.evs.length, tape := Tp.new R.w.now } := upd_same _ _ _
      rw [e1]
      exact ⟨rfl, by show R.evs.length = P.evs.length; rw [S.evs], i, hi, hA.start (S.hno s hn).2 ht h16 hu⟩
    · rw [upd_other hst] at hs
      obtain ⟨q1, q2, j, q3, q4⟩ := S.hso s m h hs
      have e1 : (R.begin t i).hands s = R.hands s := upd_other hst
      rw [e1]
      exact ⟨q1, q2, j, q3, hA.startR hst q4⟩
theorem Sim.step {A : Alike G D no} (hA : A.Ok) {cs : List Cl} {P : Ps M O} {R : Rs} (S : Sim A cs P R) {t i : Nat} {m : M} {h : Nat} (hm : P.hands t = some (m, h)) (hi : nowF cs P.fin t = some i) (hil : i < cs.length) (ht : (callOf cs i).thread = t) (h16 : t < 16) (hu : ClB (callOf cs i)) : Sim A cs (P.step G t i m h) (R.step D no t i (callOf cs i)) := by
  obtain ⟨q1, q2, j, q3, q4⟩ := S.hso t m h hm
  rw [hi] at q3
  cases q3
  obtain ⟨s1, s2, s3, s4⟩ := hA.step q4 S.rel hu ht h16
  have hrun : R.run D no t (callOf cs i) = runT D no t (callOf cs i) (R.hands t).own (R.hands t).tape R.w := rfl
  cases hd : (G.step P.obj P.lw t m).2.2.2
  · have hh : (R.run D no t (callOf cs i)).1.halt = true := by rw [hrun, s2, hd]; rfl
    obtain ⟨p1, p2, p3⟩ := step_more (i := i) (h := h) (show (P.after G t m).2.2.2 = false from hd)
    have p4 := step_obj G P t i m h
    have p5 := step_lw G P t i m h
    have hR : R.step D no t i (callOf cs i) = { R with w := (R.run D no t (callOf cs i)).2, hands := upd R.hands t { R.hands t with tape := (R.run D no t (callOf cs i)).1 }, evs := R.evs.modify (R.hands t).event fun e => { e with steps := e.steps + 1 } } := by
      unfold Rs.step
      dsimp only
      rw [if_pos hh]
    rw [hR]
    have s3' := s3 hd
    refine ⟨?_, ?_, ?_, ?_, fun s hs => ?_, fun s m' h' hs => ?_⟩
    · rw [p5]; exact s1
    · rw [p2]; exact S.fin
    · rw [p3]
      show R.evs.modify _ _ = _
      rw [q2, S.evs]
    · show R.idle = (P.step G t i m h).idle
      rw [S.idle]
      unfold Ps.step
      dsimp only
      split <;> rfl
    · rw [p1] at hs
      have hst : s ≠ t := by
        rintro rfl
        rw [upd_same] at hs
        cases hs
      rw [upd_other hst] at hs
      obtain ⟨u1, u2⟩ := S.hno s hs
      show (upd R.hands t _ s).opn = _ ∧ A.own _ s (upd R.hands t _ s).own
      rw [upd_other hst, p4]
      exact ⟨u1, hA.stepO hst q4 u2⟩
    · rw [p1] at hs
      show (upd R.hands t _ s).opn = _ ∧ (upd R.hands t _ s).event = _ ∧ ∃ i, nowF cs (P.step G t _ m h).fin s = _ ∧ A.rep _ s _ (upd R.hands t _ s).own (upd R.hands t _ s).tape _
      rw [p2, p4]
      by_cases hst : s = t
      · subst hst
        rw [upd_same] at hs
        cases hs
        rw [upd_same]
        exact ⟨q1, q2, i, hi, s3'⟩
      · rw [upd_other hst] at hs
        rw [upd_other hst]
        obtain ⟨u1, u2, k, u3, u4⟩ := S.hso s m' h' hs
        exact ⟨u1, u2, k, u3, hA.stepR hst q4 u4⟩
  · have hh : (R.run D no t (callOf cs i)).1.halt = false := by rw [hrun, s2, hd]; rfl
    have p4 := step_obj G P t i m h
    have p5 := step_lw G P t i m h
    obtain ⟨g1, g2⟩ := s4 hd
    have hP : (P.step G t i m h).hands = upd P.hands t none ∧ (P.step G t i m h).fin = P.fin.set i true ∧ (P.step G t i m h).idle = P.idle ∧ (P.step G t i m h).evs = P.evs.modify h fun e => { e with steps := e.steps + 1, ans := (G.ans (G.step P.obj P.lw t m).1 (G.step P.obj P.lw t m).2.2.1).1, resp := (G.step P.obj P.lw t m).2.1.now, key := keyOf (G.ans (G.step P.obj P.lw t m).1 (G.step P.obj P.lw t m).2.2.1).2 ((G.step P.obj P.lw t m).2.1.marks t) (G.step P.obj P.lw t m).2.1.now } := by
      unfold Ps.step
      dsimp only
      rw [if_pos hd]
      exact ⟨rfl, rfl, rfl, rfl⟩
    obtain ⟨p1, p2, p6, p3⟩ := hP
    have hR : R.step D no t i (callOf cs i) = { R with w := (R.run D no t (callOf cs i)).2, fin := R.fin.set i true, hands := upd R.hands t { opn := false, event := (R.hands t).event, tape := (R.run D no t (callOf cs i)).1, own := if 0 ≤ (callOf cs i).obj ∧ (callOf cs i).obj < no then upd (R.hands t).own (callOf cs i).obj.toNat (R.run D no t (callOf cs i)).1.priv else (R.hands t).own }, evs := R.evs.modify (R.hands t).event fun e => { e with steps := e.steps + 1, resp := (R.run D no t (callOf cs i)).2.now, ans := ⟨(R.run D no t (callOf cs i)).1.err, (R.run D no t (callOf cs i)).1.val, (R.run D no t (callOf cs i)).1.list⟩, key := keyOf (R.run D no t (callOf cs i)).1.key ((R.run D no t (callOf cs i)).2.marks t) (R.run D no t (callOf cs i)).2.now } } := by
      unfold Rs.step
      dsimp only
      rw [if_neg (by rw [hh]; exact Bool.false_ne_true)]
    rw [hR]
    obtain ⟨r1, r2, r3, r4⟩ := s1
    refine ⟨?_, ?_, ?_, ?_, fun s hs => ?_, fun s m' h' hs => ?_⟩
    · rw [p5]; exact ⟨r1, r2, r3, r4⟩
    · rw [p2]
      show R.fin.set i true = _
      rw [S.fin]
    · rw [p3]
      show R.evs.modify _ _ = _
      rw [q2, S.evs, g2, hrun, r2, r3 t]
    · rw [p6]; exact S.idle
    · rw [p1] at hs
      show (upd R.hands t _ s).opn = _ ∧ A.own _ s (upd R.hands t _ s).own
      rw [p4]
      by_cases hst : s = t
      · subst hst
        rw [upd_same]
        exact ⟨rfl, g1⟩
      · rw [upd_other hst] at hs
        rw [upd_other hst]
        obtain ⟨u1, u2⟩ := S.hno s hs
        exact ⟨u1, hA.stepO hst q4 u2⟩
    · rw [p1] at hs
      show (upd R.hands t _ s).opn = _ ∧ (upd R.hands t _ s).event = _ ∧ ∃ j, nowF cs (P.step G t i m h).fin s = _ ∧ A.rep _ s _ (upd R.hands t _ s).own (upd R.hands t _ s).tape _
      rw [p2, p4]
      have hst : s ≠ t := by
        rintro rfl
        rw [upd_same] at hs
        cases hs
      rw [upd_other hst] at hs
      rw [upd_other hst]
      obtain ⟨u1, u2, k, u3, u4⟩ := S.hso s m' h' hs
      exact ⟨u1, u2, k, by rw [nowF_other ht hil (fun e => hst (by omega))]; exact u3, hA.stepR hst q4 u4⟩
theorem Sim.pick {A : Alike G D no} (hA : A.Ok) {cs : List Cl} {P : Ps M O} {R : Rs} (S : Sim A cs P R) (p : Int) (hcs : ∀ c ∈ cs, 0 ≤ c.thread ∧ c.thread < 16 ∧ ClB c) : Sim A cs (P.pick G cs p) (R.pick D no cs p) := by
  unfold Rs.pick
  rcases hq : nowF cs P.fin p with _ | i0
  · rw [show nowF cs R.fin p = none by rw [S.fin]; exact hq]
    have : P.pick G cs p = { P with idle := P.idle + 1 } := by
      unfold Ps.pick
      rw [hq]
    rw [this]
    show Sim A cs _ { R with idle := R.idle + 1 }
    exact ⟨S.rel, S.fin, S.evs, by show R.idle + 1 = P.idle + 1; rw [S.idle], S.hno, S.hso⟩
  · rw [show nowF cs R.fin p = some i0 by rw [S.fin]; exact hq]
    rcases pick_cases G P p (fun c hc => (hcs c hc).1) with e | ⟨t, i, hp, hil, hth, hi, ⟨m, h, hm, e⟩ | ⟨hn, e⟩⟩
    · exfalso
      have h1 := congrArg Ps.idle e
      unfold Ps.pick at h1
      rw [hq] at h1
      dsimp only at h1
      have key : ∀ (P : Ps M O) (t i : Nat) (m : M) (h : Nat), (P.step G t i m h).idle = P.idle := by
        intro P t i m h
        unfold Ps.step
        dsimp only
        split <;> rfl
      split at h1
      · rw [key] at h1
        have h1 : P.idle = P.idle + 1 := h1
        omega
      · rw [key] at h1
        have h1 : P.idle = P.idle + 1 := h1
        omega
    all_goals
      subst hp
      rw [hi] at hq
      obtain rfl : i = i0 := Option.some.inj hq
      rw [Int.toNat_natCast, e]
      have hC : callOf cs i ∈ cs := by
        unfold callOf
        rw [List.getElem?_eq_getElem hil]
        exact List.getElem_mem hil
      have h16 : t < 16 := by have := (hcs _ hC).2.1; omega
      dsimp only
    · rw [if_pos (S.hso t m h hm).1]
      exact S.tick.step hA hm hi hil hth h16 (hcs _ hC).2.2
    · rw [if_neg (by rw [(S.hno t hn).1]; exact Bool.false_ne_true)]
      exact (S.tick.begin hA (show P.tick.hands t = none from hn) hi hth h16 (hcs _ hC).2.2).step hA (upd_same _ _ _) hi hil hth h16 (hcs _ hC).2.2
theorem Sim.play {A : Alike G D no} (hA : A.Ok) {cs : List Cl} (hcs : ∀ c ∈ cs, 0 ≤ c.thread ∧ c.thread < 16 ∧ ClB c) (picks : List Int) : ∀ {P : Ps M O} {R : Rs}, Sim A cs P R → Sim A cs (P.play G cs picks) (R.play D no cs picks) := by
  induction picks with
  | nil => exact fun h => h
  | cons p l ih => exact fun h => ih (h.pick hA p hcs)
theorem Sim.new {A : Alike G D no} (cs : List Cl) (words : List Int) (o : O) (h : ∀ t, A.own o t (fun _ => [])) : Sim A cs (Ps.new words o cs.length : Ps M O) (Rs.new words cs.length) :=
  ⟨⟨rfl, rfl, fun _ => rfl, fun _ => rfl⟩, rfl, rfl, rfl, fun t _ => ⟨rfl, h t⟩, fun t m h hh => by cases hh⟩
end
end Go.Proofs.YtlfingcmekifkaaGreat
