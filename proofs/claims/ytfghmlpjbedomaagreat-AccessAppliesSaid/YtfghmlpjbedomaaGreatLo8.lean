/- A play on a loom: a pick (Player.Pick): what is so of the plain data, and of memory. -/
import Derived.Test.YtfghmlpjbedomaaGreatLo7
namespace Go.Proofs.YtfghmlpjbedomaaGreat
open Go.RowKit

section
variable {M O : Type}
/-- What so many picks leave within. -/
structure PB (P : Ps M O) (k : Nat) : Prop where
  now0 : 0 ≤ P.lw.now
  now : P.lw.now ≤ k
  len : P.evs.length ≤ k
  idle0 : 0 ≤ P.idle
  idle : P.idle ≤ k
  steps : ∀ e ∈ P.evs, 0 ≤ e.steps ∧ e.steps ≤ k
theorem PB.new (words : List Int) (o : O) (m : Nat) : PB (Ps.new words o m : Ps M O) 0 :=
  ⟨Int.le_refl _, Int.le_refl _, Nat.le_refl _, Int.le_refl _, Int.le_refl _, fun e he => by cases he⟩
theorem modify_mem {α : Type} {l : List α} {f : α → α} {h : Nat} {x : α} (hx : x ∈ l.modify h f) : x ∈ l ∨ ∃ y ∈ l, x = f y := by
  obtain ⟨k, hk⟩ := List.mem_iff_getElem?.1 hx
  rcases mod_get hk with ⟨_, h1⟩ | ⟨_, d, hd, rfl⟩
  · exact .inl (List.mem_of_getElem? h1)
  · exact .inr ⟨d, List.mem_of_getElem? hd, rfl⟩
theorem PB.stepped {G : Gm M O} (hG : G.Still) {P : Ps M O} {t i h k : Nat} {m : M} (h0 : 0 ≤ P.lw.now) (h1 : P.lw.now ≤ (k : Int) + 1) (hl : P.evs.length ≤ k + 1) (i0 : 0 ≤ P.idle) (i1 : P.idle ≤ k) (hs : ∀ e ∈ P.evs, 0 ≤ e.steps ∧ e.steps ≤ k) : PB (P.step G t i m h) (k + 1) := by
  have hn : (G.step P.obj P.lw t m).2.1.now = P.lw.now := hG _ _ _ _
  unfold Ps.step
  simp only
  split
  · refine ⟨by show 0 ≤ (G.step P.obj P.lw t m).2.1.now; omega, by show (G.step P.obj P.lw t m).2.1.now ≤ _; omega, by simpa using hl, i0, by show P.idle ≤ _; omega, fun e he => ?_⟩
    rcases modify_mem he with he | ⟨y, hy, rfl⟩
    · have := hs e he
      omega
    · have := hs y hy
      show 0 ≤ y.steps + 1 ∧ y.steps + 1 ≤ _
      omega
  · refine ⟨by show 0 ≤ (G.step P.obj P.lw t m).2.1.now; omega, by show (G.step P.obj P.lw t m).2.1.now ≤ _; omega, by simpa using hl, i0, by show P.idle ≤ _; omega, fun e he => ?_⟩
    rcases modify_mem he with he | ⟨y, hy, rfl⟩
    · have := hs e he
      omega
    · have := hs y hy
      show 0 ≤ y.steps + 1 ∧ y.steps + 1 ≤ _
      omega
theorem PB.pick {G : Gm M O} (hG : G.Still) {cs : List Cl} {P : Ps M O} {k : Nat} (h : PB P k) (p : Int) (hcs : ∀ c ∈ cs, 0 ≤ c.thread) : PB (P.pick G cs p) (k + 1) := by
  obtain ⟨a1, a2, a3, a4, a5, a6⟩ := h
  rcases pick_cases G P p hcs with e | ⟨t, i, _, _, _, _, ⟨m, h, _, e⟩ | ⟨_, e⟩⟩
  · rw [e]
    exact ⟨a1, by show P.lw.now ≤ _; omega, by show P.evs.length ≤ _; omega, by show 0 ≤ P.idle + 1; omega, by show P.idle + 1 ≤ _; omega, fun e he => by have := a6 e he; omega⟩
  · rw [e]
    exact PB.stepped hG (by show 0 ≤ P.lw.now + 1; omega) (by show P.lw.now + 1 ≤ _; omega) (by show P.evs.length ≤ _; omega) a4 a5 a6
  · rw [e]
    refine PB.stepped hG (by show 0 ≤ P.lw.now + 1; omega) (by show P.lw.now + 1 ≤ _; omega) (by show (P.evs ++ [_]).length ≤ _; simp; omega) a4 a5 (fun e he => ?_)
    rcases List.mem_append.1 he with he | he
    · exact a6 e he
    · have := List.mem_singleton.1 he
      subst this
      exact ⟨Int.le_refl _, by show (0 : Int) ≤ _; omega⟩
theorem PB.play {G : Gm M O} (hG : G.Still) {cs : List Cl} (hcs : ∀ c ∈ cs, 0 ≤ c.thread) (picks : List Int) : ∀ {P : Ps M O} {k : Nat}, PB P k → PB (P.play G cs picks) (k + picks.length) := by
  induction picks with
  | nil => exact fun h => h
  | cons p l ih =>
    intro P k h
    have := ih (h.pick hG p hcs)
    rw [show k + (p :: l).length = k + 1 + l.length by simp; omega]
    exact this
theorem good_step {T : Th M O} (hT : T.Ok) {P : Ps M O} {t i h : Nat} {m : M} (hg : T.goodT P.obj P.lw P.ms) (hm : P.hands t = some (m, h)) (ht : t < 16) : T.good (P.step T.G t i m h).obj (P.step T.G t i m h).lw (P.step T.G t i m h).ms := by
  have h1 := hT.goodStep (m := m) hg (show (P.hands t).map Prod.fst = some m by rw [hm]; rfl) ht
  have e1 : (P.step T.G t i m h).obj = (T.G.step P.obj P.lw t m).1 := step_obj ..
  have e2 : (P.step T.G t i m h).lw = (T.G.step P.obj P.lw t m).2.1 := step_lw ..
  rw [e1, e2]
  cases hd : (T.G.step P.obj P.lw t m).2.2.2
  · have e3 := (step_more (i := i) (h := h) (show (P.after T.G t m).2.2.2 = false from hd)).1
    have : (P.step T.G t i m h).ms = upd P.ms t (some (T.G.step P.obj P.lw t m).2.2.1) := by
      unfold Ps.ms
      rw [e3]
      exact ms_upd _ _ _
    rw [this]
    rw [hd] at h1
    exact h1
  · have e3 := (step_done (i := i) (h := h) (show (P.after T.G t m).2.2.2 = true from hd)).1
    have : (P.step T.G t i m h).ms = upd P.ms t none := by
      unfold Ps.ms
      rw [e3]
      exact ms_upd _ _ _
    rw [this]
    rw [hd] at h1
    exact h1
theorem good_pick {T : Th M O} (hT : T.Ok) {P : Ps M O} {cs : List Cl} (hcs : ∀ c ∈ cs, 0 ≤ c.thread ∧ c.thread < 16 ∧ ClU c ∧ T.cl c) (hg : T.good P.obj P.lw P.ms) (p : Int) : T.good (P.pick T.G cs p).obj (P.pick T.G cs p).lw (P.pick T.G cs p).ms := by
  rcases pick_cases T.G P p (fun c hc => (hcs c hc).1) with e | ⟨t, i, _, hi, hth, _, ⟨m, h, hm, e⟩ | ⟨hn, e⟩⟩
  · rw [e]
    exact hg
  all_goals
    have hC : callOf cs i ∈ cs := by
      unfold callOf
      rw [List.getElem?_eq_getElem hi]
      exact List.getElem_mem hi
    have ht : t < 16 := by
      have := hcs _ hC
      omega
    rw [e]
  · exact good_step hT (P := P.tick) (hT.goodTick hg) hm ht
  · have h1 := hT.goodStart (t := t) (c := callOf cs i) (hT.goodTick hg) (show P.ms t = none by unfold Ps.ms; rw [hn]; rfl) ht (hcs _ hC).2.2.2 hth (hcs _ hC).2.2.1
    refine good_step hT (P := P.tick.start T.G t i (callOf cs i)) ?_ (upd_same _ _ _) ht
    have : (P.tick.start T.G t i (callOf cs i)).ms = upd P.ms t (some (T.G.start P.obj t (callOf cs i)).2) := ms_upd _ _ _
    rw [this]
    exact h1
end
section
variable {M O : Type} {T : Th M O} {X : Fix} {w w' : World} {Mu Fo : Nat → Prop} {Fm : Nat → Nat → Prop} {hv : Nat → Value} {ev : Value} {P : Ps M O}
/-- The player's own cells turn, but for those that tell the play. -/
theorem PLa.turned (hT : T.Ok) (h : PLa T X w Mu Fo Fm hv ev P) {z : Int} (hK : Keep (fun k => k < w.heap.size ∧ k ≠ X.ad.pp) w w')
    (hf : ∃ f : Nat → Value, w'.rowIs X.ad.pp 141 46 f ∧ f 0 = .pointer (some ⟨X.ad.pw, 0, none⟩) ∧ f 1 = X.OV ∧ f 2 = X.CV ∧ f 3 = .pointer (some ⟨X.ad.pl, 0, none⟩) ∧ (∀ t, t < 16 → f (5 + t * 2) = hv t ∧ (∀ m h, P.hands t = some (m, h) → f (5 + t * 2 + 1) = .int .i64 (h : Nat)) ∧ (f (5 + t * 2 + 1)).oneCell' = true) ∧ f 37 = ev ∧ f 45 = .int .i64 z) :
    PLa T X w' Mu Fo Fm hv ev { P with idle := z } := by
  obtain ⟨n1, n2, n3, n4, n5, n6, n7, n8, n9, n10, n11, n12⟩ := h.types
  have hlt := h.lt
  have h6 : ∀ k, X.six k → k ≠ X.ad.pp → k < w.heap.size ∧ k ≠ X.ad.pp := fun k hk e => ⟨hlt k (h.muFix k hk), e⟩
  have hnp : ∀ k, ¬ X.six k → k ≠ X.ad.pp := fun k hk e => hk (e ▸ Or.inl rfl)
  have hnm : ∀ k, k < w.heap.size → ¬ Mu k → k < w.heap.size ∧ k ≠ X.ad.pp := fun k hk hm => ⟨hk, fun e => hm (e ▸ h.muFix _ (Or.inl rfl))⟩
  refine ⟨hf, h.world.keep hK hnm (fun k _ hm => hm) (h6 _ (Or.inr (Or.inr (Or.inr (Or.inl rfl)))) n1.symm) (h6 _ (Or.inr (Or.inr (Or.inr (Or.inr (Or.inl rfl))))) n2.symm) (h6 _ (Or.inr (Or.inr (Or.inr (Or.inr (Or.inr (Or.inl rfl)))))) n3.symm) (h6 _ (Or.inr (Or.inr (Or.inr (Or.inr (Or.inr (Or.inr rfl)))))) n4.symm),
    h.line.keep hK (h6 _ (Or.inr (Or.inl rfl)) n5.symm) (h6 _ (Or.inr (Or.inr (Or.inl rfl))) n6.symm) (fun k h1 h2 => hnm k (by have := h.gap2; omega) (fun hm => by have := h.gap k hm; omega)), hT.obKeep h.objs hK (fun k hk => ⟨hlt k (h.muFo k hk).1, hnp k (h.muFo k hk).2⟩), h.hnone, fun t m hh hm => ?_, h.evs.keep hK hnm (fun k _ hm => hm) (fun k hk => ⟨hlt k (h.muEv k hk).1, hnp k (h.muEv k hk).2.1⟩), h.muFix, h.muEv, h.muFo, h.muFm, h.apart, fun k hk => Nat.lt_of_lt_of_le (hlt k hk) hK.size, h.gap, ⟨h.gap2.1, Nat.le_trans h.gap2.2 hK.size⟩, h.ne, ?_, ?_, h.fin, h.thr⟩
  · obtain ⟨a1, a2, a3⟩ := h.hsome t m hh hm
    exact ⟨a1, hT.mlKeep a2 hK (fun k hk => ⟨hlt k (h.muFm t m hh k hm hk).1, hnp k (h.muFm t m hh k hm hk).2.1⟩), a3⟩
  · obtain ⟨A, cc, e1, e2, e3, e4⟩ := h.calls
    exact ⟨A, cc, e1, sl_keepG e2 hK (fun a ha hl => hnm _ (sl_block e2 ha hl) (e4 a ha hl)), e3, e4⟩
  · obtain ⟨A, cc, e1, e2, e4⟩ := h.ovs
    exact ⟨A, cc, e1, sl_keepG e2 hK (fun a ha hl => hnm _ (sl_block e2 ha hl) (e4 a ha hl)), e4⟩
/-- The line turns. -/
theorem PLa.lined (hT : T.Ok) (h : PLa T X w Mu Fo Fm hv ev P) {fin' : List Bool} (hK : Keep (fun k => k ≠ X.ad.pl ∧ k ≠ X.ad.pg ∧ k < w.heap.size) w w') (hL : LineAt w' X.ad.pl X.ad.pg X.Bl X.Tl (remF X.cs fin')) (hfl : fin'.length = X.cs.length) :
    PLa T X w' Mu Fo Fm hv ev { P with fin := fin' } := by
  obtain ⟨n1, n2, n3, n4, n5, n6, n7, n8, n9, n10, n11, n12⟩ := h.types
  obtain ⟨_, h6⟩ := h.line.line
  obtain ⟨_, ⟨_, _, h7, _⟩, _⟩ := h.line.map
  obtain ⟨_, b1, _⟩ := h.world.mem.blk
  obtain ⟨_, b2, _⟩ := h.world.mem.row
  obtain ⟨_, ⟨_, _, b3, _⟩, _⟩ := h.world.notes
  have hlt := h.lt
  have e1 : X.ad.pm ≠ X.ad.pl := by intro e; rw [← e, b1] at h6; injection h6 with h1; injection h1 with _ h1 _; exact absurd h1 (by decide)
  have e2 : X.ad.px ≠ X.ad.pl := by intro e; rw [← e, b2] at h6; injection h6 with h1; injection h1 with _ h1 _; exact absurd h1 (by decide)
  have e3 : X.ad.pt ≠ X.ad.pl := by intro e; rw [← e, b3] at h6; cases h6
  have e4 : X.ad.pm ≠ X.ad.pg := by intro e; rw [← e, b1] at h7; cases h7
  have e5 : X.ad.px ≠ X.ad.pg := by intro e; rw [← e, b2] at h7; cases h7
  have hs : ∀ k, X.six k → k < w.heap.size := fun k hk => hlt k (h.muFix k hk)
  have hn6 : ∀ k, ¬ X.six k → k ≠ X.ad.pl ∧ k ≠ X.ad.pg := fun k hk => ⟨fun e => hk (e ▸ Or.inr (Or.inl rfl)), fun e => hk (e ▸ Or.inr (Or.inr (Or.inl rfl)))⟩
  have hnm : ∀ k, k < w.heap.size → ¬ Mu k → k ≠ X.ad.pl ∧ k ≠ X.ad.pg ∧ k < w.heap.size := fun k hk hm => ⟨fun e => hm (e ▸ h.muFix _ (Or.inr (Or.inl rfl))), fun e => hm (e ▸ h.muFix _ (Or.inr (Or.inr (Or.inl rfl)))), hk⟩
  obtain ⟨f, f1, f2⟩ := h.player
  refine ⟨⟨f, rowIs_keep f1 hK ⟨n5, n6, hs _ (Or.inl rfl)⟩, f2⟩, h.world.keep hK hnm (fun k _ hm => hm) ⟨n10, n11, hs _ (Or.inr (Or.inr (Or.inr (Or.inl rfl))))⟩ ⟨e1, e4, hs _ (Or.inr (Or.inr (Or.inr (Or.inr (Or.inl rfl)))))⟩ ⟨e2, e5, hs _ (Or.inr (Or.inr (Or.inr (Or.inr (Or.inr (Or.inl rfl))))))⟩ ⟨e3, h.ne, hs _ (Or.inr (Or.inr (Or.inr (Or.inr (Or.inr (Or.inr rfl))))))⟩,
    hL, hT.obKeep h.objs hK (fun k hk => ⟨(hn6 k (h.muFo k hk).2).1, (hn6 k (h.muFo k hk).2).2, hlt k (h.muFo k hk).1⟩), h.hnone, fun t m hh hm => ?_, h.evs.keep hK hnm (fun k _ hm => hm) (fun k hk => ⟨(hn6 k (h.muEv k hk).2.1).1, (hn6 k (h.muEv k hk).2.1).2, hlt k (h.muEv k hk).1⟩), h.muFix, h.muEv, h.muFo, h.muFm, h.apart, fun k hk => Nat.lt_of_lt_of_le (hlt k hk) hK.size, h.gap, ⟨h.gap2.1, Nat.le_trans h.gap2.2 hK.size⟩, h.ne, ?_, ?_, hfl, h.thr⟩
  · obtain ⟨a1, a2, a3⟩ := h.hsome t m hh hm
    exact ⟨a1, hT.mlKeep a2 hK (fun k hk => ⟨(hn6 k (h.muFm t m hh k hm hk).2.1).1, (hn6 k (h.muFm t m hh k hm hk).2.1).2, hlt k (h.muFm t m hh k hm hk).1⟩), a3⟩
  · obtain ⟨A, cc, e1, e2, e3, e4⟩ := h.calls
    exact ⟨A, cc, e1, sl_keepG e2 hK (fun a ha hl => hnm _ (sl_block e2 ha hl) (e4 a ha hl)), e3, e4⟩
  · obtain ⟨A, cc, e1, e2, e4⟩ := h.ovs
    exact ⟨A, cc, e1, sl_keepG e2 hK (fun a ha hl => hnm _ (sl_block e2 ha hl) (e4 a ha hl)), e4⟩
end
end Go.Proofs.YtfghmlpjbedomaaGreat
