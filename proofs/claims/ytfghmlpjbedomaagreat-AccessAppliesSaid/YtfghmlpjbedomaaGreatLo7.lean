/- A play on a loom: a thread makes a step (Player.step). -/
import Derived.Test.YtfghmlpjbedomaaGreatLo6
import Derived.Deep.DeepCutAuto
namespace Go.Proofs.YtfghmlpjbedomaaGreat
open Go.RowKit

/-- What a machine's step leaves: whether it responded, and the play. -/
def StepPost {M O : Type} (T : Th M O) (X : Fix) (Mu : Nat → Prop) (P : Ps M O) (t i : Nat) (m : M) (h : Nat) (w : World) (e : Ending) (w' : World) : Prop :=
  e = .returned (.bool (T.G.step P.obj P.lw t m).2.2.2) ∧ ∃ Mu' Fo Fm hv ev, PLa T X w' Mu' Fo Fm hv ev { P.step T.G t i m h with fin := P.fin } ∧ (∀ k, Mu' k → Mu k ∨ w.heap.size ≤ k) ∧ Keep (fun k => k < w.heap.size ∧ ¬ Mu k) w w'
/-- The state in which the thread's machine makes its step. -/
def Ps.at {M O : Type} (G : Gm M O) (P : Ps M O) (t i : Nat) (c : Cl) : Ps M O × M × Nat := match P.hands t with
  | some (m, h) => (P.tick, m, h)
  | none => (P.tick.start G t i c, (G.start P.obj t c).2, P.evs.length)
theorem own_some' {w : World} {B n sz : Nat} {T : TypeId} {v : Value} {xs : List Value} (h : w.ownsRow B T sz v n xs) (hn : 0 < n) : ∃ g cap, v = .slice (some ⟨g, 0, none⟩) n cap ∧ B ≤ g ∧ g < w.heap.size := by
  rcases h.2 with ⟨_, h0⟩ | ⟨g, cap, cur, rfl, hg, hb, _⟩
  · omega
  · exact ⟨g, cap, rfl, hg, (Array.getElem?_eq_some_iff.1 hb).1⟩
theorem row_turn {w : World} {B g cap n h j : Nat} {raw : List Ev} {x1 x2 : Ev} {u : Value} (ho : w.ownsRow B 66 8 (.slice (some ⟨g, 0, none⟩) n cap) n ((raw.set h x1).flatMap evEnc)) (hh : h < raw.length) (hj : j < 8) (he : evEnc x2 = (evEnc x1).set j u) :
    (w.setCell ⟨g, h * 8 + j, none⟩ u).ownsRow B 66 8 (.slice (some ⟨g, 0, none⟩) n cap) n ((raw.set h x2).flatMap evEnc) := by
  have := row_field ho (by rw [List.getElem?_set_self hh]) hj he
  rwa [List.set_set] at this
set_option maxRecDepth 100000 in
theorem loomTick (pw : Nat) (now : Int) (w : World) (h : w.cell? ⟨pw, 1, none⟩ = some (.int .i64 now)) (h0 : 0 ≤ now) (h1 : now ≤ 1048576) :
    Calls Tryz.prog 101 #[.pointer (some ⟨pw, 0, none⟩)] w fun e w' => e = .returned (.slice (some ⟨w.heap.size, 0, none⟩) 1 1) ∧ w' = w.alloc (.cells #[.int .i64 (2 * now)] 3) := by
  go_enter Tryz.func101, Tryz.ntmps101
  go_wp2
  go_ret
  exact ⟨rfl, rfl⟩
theorem step_no {M O : Type} {G : Gm M O} {P : Ps M O} {t i h : Nat} {m : M} (hd : (G.step P.obj P.lw t m).2.2.2 = false) : { P.step G t i m h with fin := P.fin } = { P with obj := (G.step P.obj P.lw t m).1, lw := (G.step P.obj P.lw t m).2.1, hands := upd P.hands t (some ((G.step P.obj P.lw t m).2.2.1, h)), evs := P.evs.modify h fun e => { e with steps := e.steps + 1 } } := by
  unfold Ps.step
  simp [hd]
theorem step_yes {M O : Type} {G : Gm M O} {P : Ps M O} {t i h : Nat} {m : M} (hd : (G.step P.obj P.lw t m).2.2.2 = true) : { P.step G t i m h with fin := P.fin } = { P with obj := (G.step P.obj P.lw t m).1, lw := (G.step P.obj P.lw t m).2.1, hands := upd P.hands t none, evs := P.evs.modify h fun e => { e with steps := e.steps + 1, ans := (G.ans (G.step P.obj P.lw t m).1 (G.step P.obj P.lw t m).2.2.1).1, resp := (G.step P.obj P.lw t m).2.1.now, key := keyOf (G.ans (G.step P.obj P.lw t m).1 (G.step P.obj P.lw t m).2.2.1).2 ((G.step P.obj P.lw t m).2.1.marks t) (G.step P.obj P.lw t m).2.1.now } } := by
  unfold Ps.step
  simp [hd]
theorem modify_set {α : Type} {l : List α} {h : Nat} {x : α} (f : α → α) (hx : l[h]? = some x) : l.modify h f = l.set h (f x) := by
  apply List.ext_getElem?
  intro k
  rw [List.getElem?_modify, List.getElem?_set]
  obtain ⟨hl, he⟩ := List.getElem?_eq_some_iff.1 hx
  by_cases e : h = k
  · subst e
    rw [if_pos rfl, if_pos hl, hx]
    simp
  · simp [e]
/-- An event is another one. -/
theorem EvsAt.turn {w w' : World} {B hh : Nat} {Mu Mu' S : Nat → Prop} {v : Value} {es : List Ep} {raw : List Ev} {x' : Ev} {ep' : Ep} (hrl : raw.length = es.length) (hre : ∀ (i : Nat) (x : Ev) (e : Ep), raw[i]? = some x → es[i]? = some e → EvIs w Mu x e) (hk : Keep S w w') (hS : ∀ k, k < w.heap.size → ¬ Mu k → S k) (hM : ∀ k, k < w.heap.size → Mu' k → Mu k)
    (hrow : w'.ownsRow B 66 8 v es.length ((raw.set hh x').flatMap evEnc)) (hx : EvIs w' Mu' x' ep') : EvsAt w' B Mu' v (es.set hh ep') := by
  refine ⟨raw.set hh x', by rw [List.length_set]; exact hrow, by simp [hrl], fun i y e hy he => ?_⟩
  rw [List.getElem?_set] at hy he
  by_cases e1 : hh = i
  · subst e1
    rw [if_pos rfl] at hy he
    split at hy
    · cases hy
      split at he
      · cases he
        exact hx
      · cases he
    · cases hy
  · rw [if_neg e1] at hy he
    exact (hre i y e hy he).keep hk hS hM
theorem upd_upd {α : Type} (f : Nat → α) (t : Nat) (x y : α) : upd (upd f t x) t y = upd f t y := by
  funext s
  by_cases h : s = t
  · subst h
    rw [upd_same, upd_same]
  · rw [upd_other h, upd_other h, upd_other h]
theorem step_fin {M O : Type} {T : Th M O} {X : Fix} {w3 w4 w5 W' : World} {Mu3 Fo3 Fm3 : Nat → Prop} {Fmf : Nat → Nat → Prop} {hv2 : Nat → Value} {P2 P4 : Ps M O} {o' : O} {lw' : Lw} {m' : M} {t hh ge ce : Nat} {raw : List Ev} {x xF : Ev} {ep : Ep} {an : An} {key : List Int} {K5 : Nat} (hT : T.Ok)
    (h4 : PLa T X w4 Mu3 Fo3 Fmf hv2 (.slice (some ⟨ge, 0, none⟩) P2.evs.length ce) P4) (hP4 : P4 = { lw := lw', obj := o', fin := P2.fin, hands := upd P2.hands t (some (m', hh)), evs := P4.evs, idle := P2.idle }) (hes : P4.evs.length = P2.evs.length) (hFm : Fmf t = Fm3)
    (hb5 : Below w4.heap.size w4 w5) (hkW : Keep (fun k => k < w5.heap.size ∧ k ≠ ge ∧ k ≠ X.ad.pp) w5 W') (hppW : ∀ f : Nat → Value, w5.rowIs X.ad.pp 141 46 f → W'.rowIs X.ad.pp 141 46 (fun j => if j = 5 + t * 2 then .nilIface else f j))
    (hk34 : Keep (fun k => k < w3.heap.size ∧ (Value.slice (some ⟨ge, 0, none⟩) P2.evs.length ce).ownBlock ≠ some k) w3 w4) (hrl : raw.length = P2.evs.length) (hre : ∀ (i : Nat) (x : Ev) (e : Ep), raw[i]? = some x → P2.evs[i]? = some e → EvIs w3 Mu3 x e) (hep : P2.evs[hh]? = some ep) (hxe : EvIs w3 Mu3 x ep)
    (hK5 : K5 = w4.heap.size) (hLs : LstIs w5 (fun k => k < K5 ∧ ¬ Fm3 k) (.slice xF.lA xF.lN xF.lC) an.list) (f1 : xF.call = x.call) (f2 : xF.inv = x.inv) (f3 : xF.resp = lw'.now) (f4 : xF.steps = x.steps + 1) (f5 : xF.err = an.err) (f6 : xF.val = an.val)
    (hrow : W'.ownsRow X.Tl 66 8 (.slice (some ⟨ge, 0, none⟩) P2.evs.length ce) P2.evs.length ((raw.set hh xF).flatMap evEnc)) (hkey : KeyIs W' (fun k => Mu3 k ∧ ¬ Fm3 k) (.slice xF.kA xF.kN xF.kC) key) :
    PLa T X W' (fun k => Mu3 k ∧ ¬ Fm3 k) Fo3 Fmf (upd hv2 t .nilIface) (.slice (some ⟨ge, 0, none⟩) P2.evs.length ce) { P2 with obj := o', lw := lw', hands := upd P2.hands t none, evs := P2.evs.modify hh fun e => { e with steps := e.steps + 1, ans := an, resp := lw'.now, key := key } } ∧ Keep (fun k => k < w4.heap.size ∧ k ≠ ge ∧ k ≠ X.ad.pp) w4 W' := by
  subst hK5
  have hge4 := (h4.muEv ge rfl)
  have hm4 : P4.hands t = some (m', hh) := by rw [hP4]; exact upd_same _ _ _
  have hpp4 := h4.muFix X.ad.pp (Or.inl rfl)
  have hge3 : ¬ Fm3 ge := by rw [← hFm]; exact hge4.2.2.2 t m' hh hm4
  have hpp3 : ¬ Fm3 X.ad.pp := by rw [← hFm]; exact fun e => (h4.muFm t m' hh _ hm4 e).2.1 (Or.inl rfl)
  have hk4 : Keep (fun k => k < w4.heap.size ∧ k ≠ ge ∧ k ≠ X.ad.pp) w4 W' := (Keep.of_below (K := fun k => k < w4.heap.size ∧ k ≠ ge ∧ k ≠ X.ad.pp) hb5 (fun k hk => hk.1)).trans (hkW.mono (fun k hk => ⟨Nat.lt_of_lt_of_le hk.1 hb5.size, hk.2⟩))
  have hk3 : Keep (fun k => k < w3.heap.size ∧ k ≠ ge ∧ k ≠ X.ad.pp) w3 W' := (hk34.mono (fun k hk => ⟨hk.1, fun e => hk.2.1 (Option.some.inj e).symm⟩)).trans (hk4.mono (fun k hk => ⟨Nat.lt_of_lt_of_le hk.1 hk34.size, hk.2⟩))
  have hkn : ∀ k, k < w3.heap.size → ¬ Mu3 k → k < w3.heap.size ∧ k ≠ ge ∧ k ≠ X.ad.pp := fun k h1 h2 => ⟨h1, fun e => h2 (e ▸ hge4.1), fun e => h2 (e ▸ hpp4)⟩
  have hxF := hxe.keep (Mu' := fun k => Mu3 k ∧ ¬ Fm3 k) hk3 hkn (fun k _ hm => hm.1)
  have hL := hLs.keep (Mu' := fun k => Mu3 k ∧ ¬ Fm3 k) (S := fun k => k < w5.heap.size ∧ k ≠ ge ∧ k ≠ X.ad.pp) hkW (fun k h1 h2 => ⟨h1, fun e => h2 ⟨e ▸ h4.lt _ hge4.1, e ▸ hge3⟩, fun e => h2 ⟨e ▸ h4.lt _ hpp4, e ▸ hpp3⟩⟩) (fun k _ hm => ⟨h4.lt k hm.1, hm.2⟩)
  have hE := EvsAt.turn (hh := hh) (x' := xF) (ep' := { ep with steps := ep.steps + 1, ans := an, resp := lw'.now, key := key }) hrl hre hk3 hkn (fun k _ hm => hm.1) hrow ⟨f1.trans hxF.call, f2.trans hxF.inv, f3, by rw [f4, hxF.steps], f5, f6, hL, hkey⟩
  have h5 := h4.keepAll hT (Keep.of_below (K := fun k => k < w4.heap.size) hb5 (fun k hk => hk))
  have h6 := h5.dropped hT hm4 (es' := P2.evs.set hh { ep with steps := ep.steps + 1, ans := an, resp := lw'.now, key := key }) (by rw [List.length_set, hes]) (hkW.mono (fun k hk => ⟨hk.1, fun e => hk.2.2 (congrArg some e.symm), hk.2.1⟩)) hppW (by rw [hFm]; exact hE)
  rw [hFm] at h6
  refine ⟨?_, hk4⟩
  rw [modify_set _ hep]
  rw [hP4] at h6
  simp only [upd_upd] at h6
  exact h6
theorem step_keys {M O : Type} {T : Th M O} {X : Fix} {w3 w4 w5 W' : World} {Mu3 Fo3 Fm3 : Nat → Prop} {Fmf : Nat → Nat → Prop} {hv2 : Nat → Value} {P4 : Ps M O} {m' : M} {t hh ge n ce : Nat} {K5 : Nat}
    (h4 : PLa T X w4 Mu3 Fo3 Fmf hv2 (.slice (some ⟨ge, 0, none⟩) n ce) P4) (hm4 : P4.hands t = some (m', hh)) (hFm : Fmf t = Fm3)
    (hb5 : Below w4.heap.size w4 w5) (hkW : Keep (fun k => k < w5.heap.size ∧ k ≠ ge ∧ k ≠ X.ad.pp) w5 W') (hk34 : Keep (fun k => k < w3.heap.size ∧ (Value.slice (some ⟨ge, 0, none⟩) n ce).ownBlock ≠ some k) w3 w4) (hK5 : K5 = w4.heap.size) :
    (∀ v l, KeyIs w5 (fun k => k < K5 ∧ ¬ Fm3 k) v l → KeyIs W' (fun k => Mu3 k ∧ ¬ Fm3 k) v l) ∧ (∀ v l, KeyIs w3 Mu3 v l → KeyIs W' (fun k => Mu3 k ∧ ¬ Fm3 k) v l) ∧ ∀ k, K5 ≤ k → ¬ (Mu3 k ∧ ¬ Fm3 k) := by
  subst hK5
  have hge4 := (h4.muEv ge rfl)
  have hpp4 := h4.muFix X.ad.pp (Or.inl rfl)
  have hge3 : ¬ Fm3 ge := by rw [← hFm]; exact hge4.2.2.2 t m' hh hm4
  have hpp3 : ¬ Fm3 X.ad.pp := by rw [← hFm]; exact fun e => (h4.muFm t m' hh _ hm4 e).2.1 (Or.inl rfl)
  have hk4 : Keep (fun k => k < w4.heap.size ∧ k ≠ ge ∧ k ≠ X.ad.pp) w4 W' := (Keep.of_below (K := fun k => k < w4.heap.size ∧ k ≠ ge ∧ k ≠ X.ad.pp) hb5 (fun k hk => hk.1)).trans (hkW.mono (fun k hk => ⟨Nat.lt_of_lt_of_le hk.1 hb5.size, hk.2⟩))
  have hk3 : Keep (fun k => k < w3.heap.size ∧ k ≠ ge ∧ k ≠ X.ad.pp) w3 W' := (hk34.mono (fun k hk => ⟨hk.1, fun e => hk.2.1 (Option.some.inj e).symm⟩)).trans (hk4.mono (fun k hk => ⟨Nat.lt_of_lt_of_le hk.1 hk34.size, hk.2⟩))
  have hkn : ∀ k, k < w3.heap.size → ¬ Mu3 k → k < w3.heap.size ∧ k ≠ ge ∧ k ≠ X.ad.pp := fun k h1 h2 => ⟨h1, fun e => h2 (e ▸ hge4.1), fun e => h2 (e ▸ hpp4)⟩
  exact ⟨fun v l h => h.keep hkW (fun k h1 h2 => ⟨h1, fun e => h2 ⟨e ▸ h4.lt _ hge4.1, e ▸ hge3⟩, fun e => h2 ⟨e ▸ h4.lt _ hpp4, e ▸ hpp3⟩⟩) (fun k _ hm => ⟨h4.lt k hm.1, hm.2⟩), fun v l h => h.keep hk3 hkn (fun k _ hm => hm.1), fun k hk hm => by have := h4.lt k hm.1; omega⟩
set_option maxRecDepth 100000 in
set_option maxHeartbeats 4000000 in
theorem playerStep {M O : Type} {T : Th M O} {X : Fix} {w : World} {Mu Fo : Nat → Prop} {Fm : Nat → Nat → Prop} {hv : Nat → Value} {ev : Value} {P : Ps M O} (hT : T.Ok) (h : PLa T X w Mu Fo Fm hv ev P) (hgd : T.good P.obj P.lw P.ms) {t i : Nat} {c : Cl} (ht : t < 16) (hi : X.cs[i]? = some c) (hc : c.thread = t)
    (hl : P.evs.length ≤ 1000000) (hnow : 0 ≤ P.lw.now ∧ P.lw.now < 1048576) (hst : ∀ e ∈ P.evs, 0 ≤ e.steps ∧ e.steps ≤ 1048576)
    (henv : ∀ w' : World, w'.cell? ⟨X.ad.pp, 0, none⟩ = some (.pointer (some ⟨X.ad.pw, 0, none⟩)) → w'.cell? ⟨X.ad.pp, 4, none⟩ = some (.int .i64 t) → T.env w' X.ad t) (htu : w.cell? ⟨X.ad.pp, 4, none⟩ = some (.int .i64 t)) :
    Calls Tryz.prog 59 #[.pointer (some ⟨X.ad.pp, 0, none⟩), .int .i64 t, .int .i64 i] w (StepPost T X Mu (P.at T.G t i c).1 t i (P.at T.G t i c).2.1 (P.at T.G t i c).2.2 w) := by
  have htick := h.tick hT
  have hgt : T.goodT P.tick.obj P.tick.lw P.tick.ms := hT.goodTick hgd
  obtain ⟨n1, n2, n3, n4, n5, n6, n7, n8, n9, n10, n11, n12⟩ := h.types
  obtain ⟨f, f1, f2, f3, f4, f5, f6, f7, f8⟩ := h.player
  obtain ⟨g, g1, g2, g3, g4, g5⟩ := h.world.cells
  have p0 := f1.cell (i := 0) (by omega)
  have p5 := f1.cell (i := 5 + t * 2) (by omega)
  have w1 := g1.cell (i := 1) (by omega)
  have r1 := g1.frozen 1
  rw [f2] at p0
  rw [(f6 t ht).1] at p5
  rw [g3] at w1
  have zp := f1.lt
  have zw := g1.lt
  have ht' : (t : Int) < 16 := by omega
  obtain ⟨hn0, hn1⟩ := hnow
  have hno := h.hnone t
  have hkt : Keep (fun k => k < w.heap.size ∧ ¬ Mu k) w (w.setCell ⟨X.ad.pw, 1, none⟩ (.int .i64 (P.lw.now + 1))) := (Keep.refl _ _).setCell (fun hk => hk.2 (h.muFix _ (Or.inr (Or.inr (Or.inr (Or.inl rfl)))))) _
  have HTU : Hid ((w.setCell ⟨X.ad.pw, 1, none⟩ (.int .i64 (P.lw.now + 1))).cell? ⟨X.ad.pp, 4, none⟩ = some (.int .i64 t)) := hide (by rw [World.cell?_setCell_other (h := fun e => n1 (congrArg Addr.block e).symm)]; exact htu)
  have HENV := hide henv
  clear henv htu
  have HTK := hide htick
  have HGT := hide hgt
  have HI := hide hi
  have HC := hide hc
  have HST := hide hst
  have HKT := hide hkt
  rcases hh0 : P.hands t with _ | ⟨m, hh⟩
  · rw [hno hh0 ht] at p5
    have hat : P.at T.G t i c = (P.tick.start T.G t i c, (T.G.start P.obj t c).2, P.evs.length) := by unfold Ps.at; rw [hh0]
    rw [hat]
    have hgd2 := hT.goodStart (t := t) (c := c) HGT.out (show P.ms t = none by unfold Ps.ms; rw [hh0]; rfl) ht (h.thr c (List.mem_of_getElem? hi)).2.2.2 HC.out (h.thr c (List.mem_of_getElem? hi)).2.2.1
    have hm2 : (P.tick.start T.G t i c).hands t = some ((T.G.start P.obj t c).2, P.evs.length) := upd_same _ _ _
    have hmsE : (P.tick.start T.G t i c).ms = upd P.tick.ms t (some (T.G.start P.tick.obj t c).2) := ms_upd _ _ _
    have hgd2' : T.goodT (P.tick.start T.G t i c).obj (P.tick.start T.G t i c).lw (P.tick.start T.G t i c).ms := by rw [hmsE]; exact hgd2
    have hnow2 : 0 ≤ (P.tick.start T.G t i c).lw.now ∧ (P.tick.start T.G t i c).lw.now ≤ 1048576 := by
      have : (P.tick.start T.G t i c).lw.now = P.lw.now + 1 := rfl
      omega
    have hst2 : ∀ e ∈ (P.tick.start T.G t i c).evs, 0 ≤ e.steps ∧ e.steps ≤ 1048576 := by
      intro e he
      rcases List.mem_append.1 he with he | he
      · exact HST.out e he
      · have := List.mem_singleton.1 he
        subst this
        exact ⟨Int.le_refl _, show (0 : Int) ≤ 1048576 by decide⟩
    have N := playerStart hT HTK.out HGT.out ht (show P.tick.hands t = none from hh0) HI.out HC.out hl
    generalize (T.G.start P.obj t c).2 = m at hm2 ⊢
    generalize P.evs.length = hh at hm2 ⊢
    unfold StartPost at N
    generalize P.tick.start T.G t i c = P2 at N hm2 hgd2' hnow2 hst2 ⊢
    have HM2 := hide hm2
    have HST2 := hide hst2
    have hgd2 := hgd2'
    clear f1 f2 f3 f4 f5 f6 f7 f8 g1 g2 g3 g4 g5 hno htick hgt hi hc hst hkt hh0 h hgd hat hgd2' hmsE hm2 hst2
    go_enter Tryz.func59, Tryz.ntmps59
    go_wp2_with fail
    refine N.mono ?_
    rintro e w2 ⟨rfl, Mu2, Fo2, Fm2, hv2, ev2, h2, hmu2, hk2, htu2⟩
    have HTU2 := hide (htu2 _ HTU.out)
    clear htu2
    have hkw : Keep (fun k => k < w.heap.size ∧ ¬ Mu k) w w2 := ⟨hk2.os.trans HKT.out.os, hk2.tape.trans HKT.out.tape, hk2.output.trans HKT.out.output, Nat.le_trans HKT.out.size hk2.size, fun k hk => (hk2.block k ⟨by simpa using hk.1, hk.2⟩).trans (HKT.out.block k hk)⟩
    have hmuw : ∀ k, Mu2 k → Mu k ∨ w.heap.size ≤ k := fun k hk => by simpa using hmu2 k hk
    have hm2 := HM2.out
    have hst2 := HST2.out
    clear hk2 hmu2 HTK HGT HI HC HST HKT p0 p5 w1 r1 N HM2
    have hm2' := hm2
    obtain ⟨f, f1, f2, f3, f4, f5, f6, f7, f8⟩ := h2.player
    obtain ⟨ht16, hML, hhl⟩ := h2.hsome t m hh hm2
    obtain ⟨tm, um, hvt⟩ := hT.mlIface hML
    have e0 := f1.cell (i := 0) (by omega)
    have e5 := f1.cell (i := 5 + t * 2) (by omega)
    rw [f2] at e0
    rw [(f6 t ht16).1, hvt] at e5
    have H2 := hide h2
    have HM2 := hide hm2
    have HVT := hide hvt
    clear f1 f2 f3 f4 f5 f6 f7 f8 hm2 hm2' h2 hML hvt
    go_wp2
    refine wp_region_seq (fun Y => Y.cell? ⟨X.ad.pp, 0, none⟩ = some (.pointer (some ⟨X.ad.pw, 0, none⟩)) ∧ Y.cell? ⟨X.ad.pp, 5 + t * 2, none⟩ = some (.iface tm um)) (.take 0 <| .take 1 <| .take 2 <| .take 3 <| .take 4 <| .take 5 <| .take 6 <| .take 7 <| .take 8 <| .take 9 <| .run 10 <| .take 11 <| .done) (by kernel_rfl) (by kernel_rfl) (by kernel_rfl) ⟨e0, e5⟩ ?_
    repeat (refine seq_take (v := ?_) rfl (by rfl) ?_ ?_; rotate_left; (focus (intro wS hS; obtain ⟨s0, s1⟩ := hS; go_simp; exact rfl)); simp only [Act.put, List.setIfInBounds_toArray, List.set_cons_zero, List.set_cons_succ])
    refine seq_run rfl (by rfl) (fun K hK => ?_)
    have h2d := H2.out.keepAll hT ((Keep.refl (fun k => k < w2.heap.size) w2).drew)
    have h2m := (h2d.hsome t m hh HM2.out).2.1
    rw [HVT.out] at h2m
    obtain ⟨fS, rS, hD, hC⟩ := hT.step (hs := P2.ms) (t := t) h2d.objs h2m h2d.world (HENV.out _ e0 HTU2.out) (show (P2.hands t).map Prod.fst = some m by rw [HM2.out]; rfl) hgd2 hnow2.1 hnow2.2 ht16 (fun k hk => ⟨fun e => (h2d.muFm t m hh k HM2.out e).2.2 hk, fun e => (h2d.muFo k hk).2 (h2d.fourLt k e).1⟩) (fun k hk e => (h2d.muFm t m hh k HM2.out hk).2.1 (h2d.fourLt k e).1) (fun k hk => by
      rcases hk with hk | hk | hk
      · exact (h2d.muFo k hk).1
      · exact (h2d.muFm t m hh k HM2.out hk).1
      · exact (h2d.fourLt k hk).2.1) h2d.types.2.2.2.2.2.2.2.2.2.2.2 h2d.lt
    refine wp_disp _ "Step" _ _ rfl (.iface tm um) rS fS (by rfl) hD [.pointer (some ⟨X.ad.pw, 0, none⟩)] (by rfl) hC ?_
    rintro e w3 ⟨Fo3, Fm3, he, hO, hM, hA, hW, hF, hFF, hK3⟩
    obtain ⟨d, hd⟩ : ∃ d, (T.G.step P2.obj P2.lw t m).2.2.2 = d := ⟨_, rfl⟩
    rw [hd] at he hA
    subst he
    have HA := hide hA
    have h3 := PLa.stepped hT h2d HM2.out hO (by rw [HVT.out]; exact hM) hW hF hFF hK3
    have hK3' : Keep (fun k => k < w2.heap.size ∧ ¬ Mu2 k) w2 w3 := ⟨hK3.os, hK3.tape, hK3.output, hK3.size, fun k hk => hK3.block k ⟨hk.1, fun e => hk.2 (h2d.muFo k e).1, fun e => hk.2 (h2d.muFm t m hh k HM2.out e).1, fun e => hk.2 (h2d.fourLt k e).2.1⟩⟩
    have hmu3 : ∀ k, ((Mu2 k ∧ ¬ Fo2 k ∧ ¬ Fm2 t k) ∨ Fo3 k ∨ Fm3 k) → Mu2 k ∨ w2.heap.size ≤ k := by
      intro k hk
      rcases hk with hk | hk
      · exact Or.inl hk.1
      · rcases hF k hk with h1 | h1 | h1
        · exact Or.inl (h2d.muFo k h1).1
        · exact Or.inl (h2d.muFm t m hh k HM2.out h1).1
        · exact Or.inr h1
    clear hO hM hA hW hF hFF hK3 hC hD h2m h2d
    generalize hO' : (T.G.step P2.obj P2.lw t m).1 = o' at h3
    generalize hL' : (T.G.step P2.obj P2.lw t m).2.1 = lw' at h3
    generalize hM' : (T.G.step P2.obj P2.lw t m).2.2.1 = m' at h3
    generalize hMu : (fun k => (Mu2 k ∧ ¬ Fo2 k ∧ ¬ Fm2 t k) ∨ Fo3 k ∨ Fm3 k) = Mu3 at h3
    have hmu3' : ∀ k, Mu3 k → Mu2 k ∨ w2.heap.size ≤ k := by rw [← hMu]; exact hmu3
    obtain ⟨f, f1, f2, f3, f4, f5, f6, f7, f8⟩ := h3.player
    obtain ⟨g, g1, g2, g3, g4, g5⟩ := h3.world.cells
    obtain ⟨raw, hrow, hrl, hre⟩ := h3.evs.row
    have hhl' : hh < P2.evs.length := hhl
    obtain ⟨ge, ce, rfl, hge, hgz⟩ := own_some' hrow (by show 0 < P2.evs.length; omega)
    have hrl' : raw.length = P2.evs.length := hrl
    obtain ⟨x, hx⟩ : ∃ x, raw[hh]? = some x := ⟨_, List.getElem?_eq_getElem (by omega)⟩
    obtain ⟨ep, hep⟩ : ∃ ep, P2.evs[hh]? = some ep := ⟨_, List.getElem?_eq_getElem hhl'⟩
    have hxe := hre hh x ep hx hep
    have hsx : x.steps = ep.steps := hxe.steps
    obtain ⟨hs0, hs1⟩ := hst2 ep (List.mem_of_getElem? hep)
    rw [← hsx] at hs0 hs1
    have i0 := f1.cell (i := 0) (by omega)
    have i5 := f1.cell (i := 5 + t * 2) (by omega)
    have i6 := f1.cell (i := 5 + t * 2 + 1) (by omega)
    have i37 := f1.cell (i := 37) (by omega)
    have iz := f1.lt
    rw [f2] at i0
    rw [(f6 t ht).1, HVT.out] at i5
    rw [(f6 t ht).2.1 m' hh (upd_same _ _ _)] at i6
    rw [f7] at i37
    have j5 := f1.frozen (5 + t * 2)
    have q3 := row_cells hrow hx hrl 3 _ rfl
    have q4 := row_cells hrow hx hrl 4 _ rfl
    have q5 := row_cells hrow hx hrl 5 _ rfl
    have q6 := row_cells hrow hx hrl 6 _ rfl
    have q7 := row_cells hrow hx hrl 7 _ rfl
    have q2 := row_cells hrow hx hrl 2 _ rfl
    have qf := hrow.frozenAt
    have qf2 := qf (hh * 8 + 2)
    have qf3 := qf (hh * 8 + 3)
    have qf4 := qf (hh * 8 + 4)
    have qf5 := qf (hh * 8 + 5)
    have qf6 := qf (hh * 8 + 6)
    have qf7 := qf (hh * 8 + 7)
    have npe : X.ad.pp ≠ ge := fun e => (h3.muEv ge rfl).2.1 (Or.inl e.symm)
    have nwe : X.ad.pw ≠ ge := fun e => (h3.muEv ge rfl).2.1 (Or.inr (Or.inr (Or.inr (Or.inl e.symm))))
    have H3 := hide h3
    have HROW := hide hrow
    have HRE := hide hre
    have HX := hide hx
    have HEP := hide hep
    have HD := hide hd
    have HMU := hide hMu
    have HO' := hide hO'
    have HL' := hide hL'
    have HM' := hide hM'
    have HG := hide (show w3.rowIs X.ad.pw 134 35 g ∧ g 0 = .pointer (some ⟨X.ad.pm, 0, none⟩) ∧ g 1 = .int .i64 lw'.now ∧ g 34 = .map (some X.ad.pt) ∧ ∀ t, t < 16 → g (2 + t) = .int .i64 (lw'.inv t) ∧ KeyIs w3 Mu3 (g (18 + t)) (lw'.marks t) from ⟨g1, g2, g3, g4, g5⟩)
    have HK3 := hide hK3'
    refine ⟨_, rfl, hK _ _ ⟨i0, i5⟩ ?_⟩
    clear hK K f1 f2 f3 f4 f5 f6 f7 f8 g1 g2 g3 g4 g5 qf hrow hre hx hep hxe hsx h3 hd hMu hO' hL' hM' hK3' hrl hhl hmu3 e0 e5
    repeat (refine seq_take (v := ?_) rfl (by rfl) ?_ ?_; rotate_left; (focus (intro wS hS; obtain ⟨s0, s1⟩ := hS; go_simp; exact rfl)); simp only [Act.put, List.setIfInBounds_toArray, List.set_cons_zero, List.set_cons_succ])
    refine seq_nil ?_
    go_wp2
    go_quiet (fail)
    have hxe := HRE.out hh x ep HX.out HEP.out
    have hk4 : Keep (fun k => k < w3.heap.size ∧ (Value.slice (some ⟨ge, 0, none⟩) P2.evs.length ce).ownBlock ≠ some k) w3 ((w3.drewN nq).setCell ⟨ge, hh * 8 + 3, none⟩ (.int .i64 (x.steps + 1))) := ((Keep.refl _ w3).drewN nq).setCell (fun hk => hk.2 rfl) _
    have hkn : ∀ k, k < w3.heap.size → ¬ Mu3 k → k < w3.heap.size ∧ (Value.slice (some ⟨ge, 0, none⟩) P2.evs.length ce).ownBlock ≠ some k := fun k h1 h2 => ⟨h1, fun e => h2 (H3.out.muEv k e).1⟩
    have hxe4 := hxe.keep hk4 hkn (fun k _ hm => hm)
    have hrow4 := row_field (w := w3.drewN nq) (x' := { x with steps := x.steps + 1 }) (u := .int .i64 (x.steps + 1)) HROW.out HX.out (j := 3) (by decide) rfl
    have hE := EvsAt.turn (B := X.Tl) (hh := hh) (x' := { x with steps := x.steps + 1 }) (ep' := { ep with steps := ep.steps + 1 }) (v := .slice (some ⟨ge, 0, none⟩) P2.evs.length ce) hrl' HRE.out hk4 hkn (fun k _ hm => hm) hrow4 ⟨hxe4.call, hxe4.inv, hxe4.resp, by show x.steps + 1 = _; rw [hxe4.steps], hxe4.err, hxe4.val, hxe4.list, hxe4.key⟩
    have h4 := H3.out.evsTo hT (es' := P2.evs.set hh { ep with steps := ep.steps + 1 }) (by simp) hk4 hE
    have hk4w : Keep (fun k => k < w.heap.size ∧ ¬ Mu k) w ((w3.drewN nq).setCell ⟨ge, hh * 8 + 3, none⟩ (.int .i64 (x.steps + 1))) := by
      refine hkw.trans ⟨HK3.out.os, HK3.out.tape, HK3.out.output, Nat.le_trans HK3.out.size (by simp), fun k hk => ?_⟩
      have hk2 : k < w2.heap.size ∧ ¬ Mu2 k := ⟨Nat.lt_of_lt_of_le hk.1 hkw.size, fun e => by rcases hmuw k e with h1 | h1; exact hk.2 h1; omega⟩
      refine (hk4.block k ⟨Nat.lt_of_lt_of_le hk2.1 HK3.out.size, fun e => ?_⟩).trans (HK3.out.block k hk2)
      have h1 := (H3.out.muEv k e).1
      rcases hmu3' k h1 with h2 | h2
      · exact hk2.2 h2
      · omega
    have hmu3w : ∀ k, Mu3 k → Mu k ∨ w.heap.size ≤ k := by
      intro k hk
      rcases hmu3' k hk with h1 | h1
      · exact hmuw k h1
      · exact Or.inr (Nat.le_trans hkw.size h1)
    have H4 := hide h4
    have HK4W := hide hk4w
    have HK4 := hide hk4
    have HROW4 := hide hrow4
    have HXE := hide hxe
    clear h4 hk4w hk4 hrow4 hE hxe4 hxe hkn
    rcases d with _ | _
    · go_wp2
      go_ret
      refine ⟨by rw [HD.out]; rfl, Mu3, Fo3, (fun s => if s = t then Fm3 else Fm2 s), hv2, .slice (some ⟨ge, 0, none⟩) P2.evs.length ce, ?_, hmu3w, HK4W.out⟩
      rw [step_no HD.out, HO'.out, HL'.out, HM'.out, modify_set _ HEP.out]
      exact H4.out
    · go_wp2_with fail
      have hm4 := hT.alKeep (HA.out (by first | trivial | rfl)) HK4.out (fun k hk => by
        have h1 := H3.out.muFm t m' hh k (upd_same _ _ _) (by rw [if_pos rfl]; exact hk)
        exact ⟨H3.out.lt k h1.1, fun e => (H3.out.muEv k e).2.2.2 t m' hh (upd_same _ _ _) (by rw [if_pos rfl]; exact hk)⟩)
      rw [HM'.out] at hm4
      obtain ⟨fA, rA, hDA, hCA⟩ := hT.ans o' hm4
      refine upon_disp0 hDA (by kernel_rfl) hCA ?_
      rintro e w5 ⟨lv, kv, rfl, hLs, hKy, hb5⟩
      refine ⟨_, rfl, ?_⟩
      obtain ⟨A5, c5, rfl, hl5, hlA⟩ := hLs
      simp only [Act.put, List.setIfInBounds_toArray, List.set_cons_zero, List.set_cons_succ]
      obtain ⟨A6, c6, rfl, hk6n, hk6, hkA⟩ := hKy
      have hz45 := hb5.size
      simp at hz45
      have zge : ge < w5.heap.size := by omega
      have zpp : X.ad.pp < w5.heap.size := by omega
      have hc5 : ∀ b o, b < w3.heap.size → w5.cell? ⟨b, o, none⟩ = ((w3.drewN nq).setCell ⟨ge, hh * 8 + 3, none⟩ (.int .i64 (x.steps + 1))).cell? ⟨b, o, none⟩ := fun b o h => hb5.cell (p := ⟨b, o, none⟩) (by simpa using h)
      have hf5 : ∀ b o, b < w3.heap.size → w5.frozen? ⟨b, o, none⟩ = ((w3.drewN nq).setCell ⟨ge, hh * 8 + 3, none⟩ (.int .i64 (x.steps + 1))).frozen? ⟨b, o, none⟩ := fun b o h => hb5.frozen (p := ⟨b, o, none⟩) (by simpa using h)
      have y0 : w5.cell? ⟨X.ad.pp, 0, none⟩ = some (.pointer (some ⟨X.ad.pw, 0, none⟩)) := by rw [hc5 _ _ iz]; go_simp
      have y5 : w5.cell? ⟨X.ad.pp, 5 + t * 2, none⟩ = some (.iface tm um) := by rw [hc5 _ _ iz]; go_simp
      have z2 : w5.cell? ⟨ge, hh * 8 + 2, none⟩ = some (.int .i64 x.resp) := by rw [hc5 _ _ hgz]; go_simp
      have z4 : w5.cell? ⟨ge, hh * 8 + 4, none⟩ = some (.int .i64 x.err) := by rw [hc5 _ _ hgz]; go_simp
      have z5 : w5.cell? ⟨ge, hh * 8 + 5, none⟩ = some (.int .u64 x.val) := by rw [hc5 _ _ hgz]; go_simp
      have z6 : w5.cell? ⟨ge, hh * 8 + 6, none⟩ = some (.slice x.lA x.lN x.lC) := by rw [hc5 _ _ hgz]; go_simp
      have z7 : w5.cell? ⟨ge, hh * 8 + 7, none⟩ = some (.slice x.kA x.kN x.kC) := by rw [hc5 _ _ hgz]; go_simp
      have zf2 : w5.frozen? ⟨ge, hh * 8 + 2, none⟩ = false := by rw [hf5 _ _ hgz]; go_simp
      have zf4 : w5.frozen? ⟨ge, hh * 8 + 4, none⟩ = false := by rw [hf5 _ _ hgz]; go_simp
      have zf5 : w5.frozen? ⟨ge, hh * 8 + 5, none⟩ = false := by rw [hf5 _ _ hgz]; go_simp
      have zf6 : w5.frozen? ⟨ge, hh * 8 + 6, none⟩ = false := by rw [hf5 _ _ hgz]; go_simp
      have zf7 : w5.frozen? ⟨ge, hh * 8 + 7, none⟩ = false := by rw [hf5 _ _ hgz]; go_simp
      have yf5 : w5.frozen? ⟨X.ad.pp, 5 + t * 2, none⟩ = false := by rw [hf5 _ _ iz]; go_simp
      have zw3 := HG.out.1.lt
      have yw1 : w5.cell? ⟨X.ad.pw, 1, none⟩ = some (.int .i64 lw'.now) := by
        rw [hc5 _ _ zw3]
        have := (HG.out.1.setOther (a := ⟨ge, hh * 8 + 3, none⟩) (by simpa using nwe) (.int .i64 (x.steps + 1))).cell (i := 1) (by omega)
        exact this.trans (congrArg some HG.out.2.2.1)
      have yw18 : w5.cell? ⟨X.ad.pw, 18 + t, none⟩ = some (g (18 + t)) := by
        rw [hc5 _ _ zw3]
        exact (HG.out.1.setOther (a := ⟨ge, hh * 8 + 3, none⟩) (by simpa using nwe) (.int .i64 (x.steps + 1))).cell (i := 18 + t) (by omega)
      obtain ⟨A8, c8, e8, hm8n, hm8, hmA⟩ := (HG.out.2.2.2.2 t ht).2
      rw [e8] at yw18
      have hnow' : 0 ≤ lw'.now ∧ lw'.now ≤ 1048576 := by
        have : lw'.now = P2.lw.now := by rw [← HL'.out]; exact hT.still _ _ _ _
        omega
      have qN : ∀ (w : World) (a : Option Addr) (n c n' c' : Nat), (binOp .eql 22 (.slice a n c) (.slice none n' c')).run Tryz.prog w = .ok (.bool a.isNone) w := fun w a n c n' c' => Lib.run_eql_slice_nil w _ _ a n c n' c' Tryz.underlying22
      have HB5 := hide hb5
      have HLS := hide (show LstIs w5 (fun k => k < ((w3.drewN nq).setCell ⟨ge, hh * 8 + 3, none⟩ (.int .i64 (x.steps + 1))).heap.size ∧ ¬ Fm3 k) (.slice A5 (T.G.ans o' m').1.list.length c5) (T.G.ans o' m').1.list from ⟨A5, c5, rfl, hl5, hlA⟩)
      have HKY := hide (show KeyIs w5 (fun k => k < ((w3.drewN nq).setCell ⟨ge, hh * 8 + 3, none⟩ (.int .i64 (x.steps + 1))).heap.size ∧ ¬ Fm3 k) (.slice A6 (T.G.ans o' m').2.length c6) (T.G.ans o' m').2 from ⟨A6, c6, rfl, hk6n, hk6, hkA⟩)
      have HK6N := hide hk6n
      have HM8N := hide hm8n
      have HMK := hide (show KeyIs w3 Mu3 (.slice A8 (lw'.marks t).length c8) (lw'.marks t) from ⟨A8, c8, rfl, hm8n, hm8, hmA⟩)
      have hhr : hh < raw.length := by omega
      have HRL := hide hrl'
      clear hc5 hf5 hl5 hlA hk6n hk6 hkA hm8n hm8 hmA e8 i0 i5 i6 i37 j5 q2 q3 q4 q5 q6 q7 qf2 qf3 qf4 qf5 qf6 qf7 hCA hDA hm4 hrl'
      go_upto_region 12 with (fail)
      have hrow5 := owns_keepV HROW4.out (Keep.of_below (K := fun k => k < ((w3.drewN nq).setCell ⟨ge, hh * 8 + 3, none⟩ (.int .i64 (x.steps + 1))).heap.size) hb5 (fun k hk => hk)) (fun k hk => by cases hk; simpa using hgz)
      have hrow6 := row_turn (x2 := { x with steps := x.steps + 1, err := (T.G.ans o' m').1.err }) (j := 4) (u := .int .i64 (T.G.ans o' m').1.err) hrow5 hhr (by decide) rfl
      have hrow7 := row_turn (x2 := { x with steps := x.steps + 1, err := (T.G.ans o' m').1.err, val := (T.G.ans o' m').1.val }) (j := 5) (u := .int .u64 (T.G.ans o' m').1.val) hrow6 hhr (by decide) rfl
      have hrow8 := row_turn (x2 := { x with steps := x.steps + 1, err := (T.G.ans o' m').1.err, val := (T.G.ans o' m').1.val, lA := A5, lN := (T.G.ans o' m').1.list.length, lC := c5 }) (j := 6) (u := .slice A5 (T.G.ans o' m').1.list.length c5) hrow7 hhr (by decide) rfl
      have hrow9 := row_turn (x2 := { x with steps := x.steps + 1, err := (T.G.ans o' m').1.err, val := (T.G.ans o' m').1.val, lA := A5, lN := (T.G.ans o' m').1.list.length, lC := c5, kA := A6, kN := (T.G.ans o' m').2.length, kC := c6 }) (j := 7) (u := .slice A6 (T.G.ans o' m').2.length c6) hrow8 hhr (by decide) rfl
      have hrowA := row_turn (x2 := { x with steps := x.steps + 1, err := (T.G.ans o' m').1.err, val := (T.G.ans o' m').1.val, lA := A5, lN := (T.G.ans o' m').1.list.length, lC := c5, kA := A6, kN := (T.G.ans o' m').2.length, kC := c6, resp := lw'.now }) (j := 2) (u := .int .i64 lw'.now) hrow9 hhr (by decide) rfl
      have hkA5 : Keep (fun k => k < w5.heap.size ∧ k ≠ ge) w5 (((((w5.setCell ⟨ge, hh * 8 + 4, none⟩ (.int .i64 (T.G.ans o' m').1.err)).setCell ⟨ge, hh * 8 + 5, none⟩ (.int .u64 (T.G.ans o' m').1.val)).setCell ⟨ge, hh * 8 + 6, none⟩ (.slice A5 (T.G.ans o' m').1.list.length c5)).setCell ⟨ge, hh * 8 + 7, none⟩ (.slice A6 (T.G.ans o' m').2.length c6)).setCell ⟨ge, hh * 8 + 2, none⟩ (.int .i64 lw'.now)) := by
        repeat' (first | exact Keep.refl _ _ | refine Keep.setCell ?_ (fun hk => hk.2 rfl) _)
      have hqq := row_cells hrowA (by rw [List.getElem?_set_self hhr]) (by rw [List.length_set]; exact HRL.out) 7 _ rfl
      have hqf := hrowA.frozenAt (hh * 8 + 7)
      have hzA : (((((w5.setCell ⟨ge, hh * 8 + 4, none⟩ (.int .i64 (T.G.ans o' m').1.err)).setCell ⟨ge, hh * 8 + 5, none⟩ (.int .u64 (T.G.ans o' m').1.val)).setCell ⟨ge, hh * 8 + 6, none⟩ (.slice A5 (T.G.ans o' m').1.list.length c5)).setCell ⟨ge, hh * 8 + 7, none⟩ (.slice A6 (T.G.ans o' m').2.length c6)).setCell ⟨ge, hh * 8 + 2, none⟩ (.int .i64 lw'.now)).heap.size = w5.heap.size := by simp
      show Code.wp _ _ _ _ (((((w5.setCell ⟨ge, hh * 8 + 4, none⟩ (.int .i64 (T.G.ans o' m').1.err)).setCell ⟨ge, hh * 8 + 5, none⟩ (.int .u64 (T.G.ans o' m').1.val)).setCell ⟨ge, hh * 8 + 6, none⟩ (.slice A5 (T.G.ans o' m').1.list.length c5)).setCell ⟨ge, hh * 8 + 7, none⟩ (.slice A6 (T.G.ans o' m').2.length c6)).setCell ⟨ge, hh * 8 + 2, none⟩ (.int .i64 lw'.now))
      generalize (((((w5.setCell ⟨ge, hh * 8 + 4, none⟩ (.int .i64 (T.G.ans o' m').1.err)).setCell ⟨ge, hh * 8 + 5, none⟩ (.int .u64 (T.G.ans o' m').1.val)).setCell ⟨ge, hh * 8 + 6, none⟩ (.slice A5 (T.G.ans o' m').1.list.length c5)).setCell ⟨ge, hh * 8 + 7, none⟩ (.slice A6 (T.G.ans o' m').2.length c6)).setCell ⟨ge, hh * 8 + 2, none⟩ (.int .i64 lw'.now)) = W6 at hrowA hkA5 hqq hqf hzA ⊢
      have v0 := (hkA5.cell (p := ⟨X.ad.pp, 0, none⟩) ⟨zpp, npe⟩).trans y0
      have v5 := (hkA5.cell (p := ⟨X.ad.pp, 5 + t * 2, none⟩) ⟨zpp, npe⟩).trans y5
      have zpw5 : X.ad.pw < w5.heap.size := by omega
      have v1 := (hkA5.cell (p := ⟨X.ad.pw, 1, none⟩) ⟨zpw5, nwe⟩).trans yw1
      have v18 := (hkA5.cell (p := ⟨X.ad.pw, 18 + t, none⟩) ⟨zpw5, nwe⟩).trans yw18
      have vf5 : W6.frozen? ⟨X.ad.pp, 5 + t * 2, none⟩ = false := (World.frozen?_of_block (w := w5) (a := ⟨X.ad.pp, 5 + t * 2, none⟩) (hkA5.block _ ⟨zpp, npe⟩)).trans yf5
      have zg6 : ge < W6.heap.size := by omega
      have zp6 : X.ad.pp < W6.heap.size := by omega
      have zw6 : X.ad.pw < W6.heap.size := by omega
      have HROWA := hide hrowA
      have HKA5 := hide hkA5
      have HZA := hide hzA
      have hpp6 : ∀ f : Nat → Value, w5.rowIs X.ad.pp 141 46 f → W6.rowIs X.ad.pp 141 46 f := fun f hf => rowIs_keep hf HKA5.out ⟨zpp, npe⟩
      have HPP6 := hide hpp6
      clear hrow5 hrow6 hrow7 hrow8 hrow9 hrowA hkA5 hzA y0 y5 z2 z4 z5 z6 z7 zf2 zf4 zf5 zf6 zf7 yf5 yw1 yw18 hb5 hpp6
      rcases A6 with _ | a6
      · rcases A8 with _ | a8
        · go_wp2_with fail
          refine (loomTick X.ad.pw lw'.now _ (by go_simp) hnow'.1 hnow'.2).mono ?_
          rintro e w7 ⟨rfl, rfl⟩
          go_wp2
          go_ret
          have hk0 : (T.G.ans o' m').2 = [] := HK6N.out.1 (by simp)
          have hk8 : lw'.marks t = [] := HM8N.out.1 (by simp)
          have hrow7 := row_turn (x2 := { x with steps := x.steps + 1, err := (T.G.ans o' m').1.err, val := (T.G.ans o' m').1.val, lA := A5, lN := (T.G.ans o' m').1.list.length, lC := c5, kA := none, kN := (lw'.marks t).length, kC := c8, resp := lw'.now }) (j := 7) (u := .slice none (lw'.marks t).length c8) HROWA.out hhr (by decide) rfl
          have hrow8 := row_turn (x2 := { x with steps := x.steps + 1, err := (T.G.ans o' m').1.err, val := (T.G.ans o' m').1.val, lA := A5, lN := (T.G.ans o' m').1.list.length, lC := c5, kA := some ⟨W6.heap.size, 0, none⟩, kN := 1, kC := 1, resp := lw'.now }) (j := 7) (u := .slice (some ⟨W6.heap.size, 0, none⟩) 1 1) hrow7 hhr (by decide) rfl
          have hrowF := owns_keepV hrow8 (Keep.alloc ((Keep.refl (fun k => k ≠ X.ad.pp ∧ k < W6.heap.size) _).setCell (p := ⟨X.ad.pp, 5 + t * 2, none⟩) (by simp) .nilIface) (fun k hk => by simpa using hk.2) (.cells #[.int .i64 (2 * lw'.now)] 3)) (fun k hk => by cases hk; exact ⟨npe.symm, zg6⟩)
          have hkW : Keep (fun k => k < w5.heap.size ∧ k ≠ ge ∧ k ≠ X.ad.pp) w5 (((((W6.setCell ⟨ge, hh * 8 + 7, none⟩ (.slice none (lw'.marks t).length c8)).setCell ⟨ge, hh * 8 + 7, none⟩ (.slice (some ⟨W6.heap.size, 0, none⟩) 1 1)).setCell ⟨X.ad.pp, 5 + t * 2, none⟩ .nilIface).alloc (.cells #[.int .i64 (2 * lw'.now)] 3))) := by
            have : w5.heap.size ≤ W6.heap.size := Nat.le_of_eq HZA.out.symm
            refine (HKA5.out.mono (fun k hk => ⟨hk.1, hk.2.1⟩)).trans (Keep.alloc ?_ (fun k hk => by simp; omega) _)
            exact (((Keep.refl _ _).setCell (fun hk => hk.2.1 rfl) _).setCell (fun hk => hk.2.1 rfl) _).setCell (fun hk => hk.2.2 rfl) _
          obtain ⟨hk1, hk2, hk3⟩ := step_keys H4.out (upd_same _ _ _) (if_pos rfl) HB5.out hkW HK4.out rfl
          have hnewk : (((((W6.setCell ⟨ge, hh * 8 + 7, none⟩ (.slice none (lw'.marks t).length c8)).setCell ⟨ge, hh * 8 + 7, none⟩ (.slice (some ⟨W6.heap.size, 0, none⟩) 1 1)).setCell ⟨X.ad.pp, 5 + t * 2, none⟩ .nilIface).alloc (.cells #[.int .i64 (2 * lw'.now)] 3))).heap[W6.heap.size]? = some (.cells #[.int .i64 (2 * lw'.now)] 3 (0, 0)) := by
            have := heap_alloc_new (((W6.setCell ⟨ge, hh * 8 + 7, none⟩ (.slice none (lw'.marks t).length c8)).setCell ⟨ge, hh * 8 + 7, none⟩ (.slice (some ⟨W6.heap.size, 0, none⟩) 1 1)).setCell ⟨X.ad.pp, 5 + t * 2, none⟩ .nilIface) (.cells #[.int .i64 (2 * lw'.now)] 3)
            simpa using this
          have hkey : KeyIs (((((W6.setCell ⟨ge, hh * 8 + 7, none⟩ (.slice none (lw'.marks t).length c8)).setCell ⟨ge, hh * 8 + 7, none⟩ (.slice (some ⟨W6.heap.size, 0, none⟩) 1 1)).setCell ⟨X.ad.pp, 5 + t * 2, none⟩ .nilIface).alloc (.cells #[.int .i64 (2 * lw'.now)] 3))) (fun k => Mu3 k ∧ ¬ Fm3 k) (.slice (some ⟨W6.heap.size, 0, none⟩) 1 1) [2 * lw'.now] := by
            refine ⟨_, _, rfl, by simp, Sl.of_block (enc := ntEnc .i64) (sz := 1) (xs := [2 * lw'.now]) hnewk (Nat.le_refl _) (by unfold maxLen; decide) ?_, fun a ha => ?_⟩
            · intro k x hx j u hu
              rcases k with _ | k
              · simp at hx
                subst hx
                rcases j with _ | j
                · simpa [ntEnc] using hu
                · simp [ntEnc] at hu
              · simp at hx
            · cases ha
              refine ⟨hk3 _ ?_, by simp⟩
              have h1 : ((w3.drewN nq).setCell ⟨ge, hh * 8 + 3, none⟩ (.int .i64 (x.steps + 1))).heap.size = w3.heap.size := by simp
              exact Nat.le_trans (Nat.le_of_eq h1) (Nat.le_trans hz45 (Nat.le_of_eq HZA.out.symm))
          obtain ⟨hfin, hk4⟩ := step_fin (xF := { x with steps := x.steps + 1, err := (T.G.ans o' m').1.err, val := (T.G.ans o' m').1.val, lA := A5, lN := (T.G.ans o' m').1.list.length, lC := c5, kA := some ⟨W6.heap.size, 0, none⟩, kN := 1, kC := 1, resp := lw'.now }) (an := (T.G.ans o' m').1) (key := keyOf (T.G.ans o' m').2 (lw'.marks t) lw'.now) hT H4.out rfl (by simp) (if_pos rfl) HB5.out hkW (fun f hf => ((((HPP6.out f hf).setOther (by simpa using npe) _).setOther (by simpa using npe) _).set _ _).alloc _) HK4.out HRL.out HRE.out HEP.out HXE.out rfl HLS.out rfl rfl rfl rfl rfl rfl hrowF (by unfold keyOf; rw [if_neg (by simp [hk0]), if_neg (by simp [hk8])]; exact hkey)
          refine ⟨by rw [HD.out]; rfl, fun k => Mu3 k ∧ ¬ Fm3 k, Fo3, (fun s => if s = t then Fm3 else Fm2 s), upd hv2 t .nilIface, .slice (some ⟨ge, 0, none⟩) P2.evs.length ce, ?_, fun k hk => hmu3w k hk.1, ?_⟩
          · rw [step_yes HD.out, HO'.out, HL'.out, HM'.out]
            exact hfin
          · refine HK4W.out.trans ⟨hk4.os, hk4.tape, hk4.output, hk4.size, fun k hk => hk4.block k ⟨?_, fun e => ?_, fun e => ?_⟩⟩
            · exact Nat.lt_of_lt_of_le hk.1 HK4W.out.size
            · have h1 := (H3.out.muEv ge rfl).1
              rw [← e] at h1
              rcases hmu3w k h1 with h2 | h2
              · exact hk.2 h2
              · have := hk.1; omega
            · have h1 := H3.out.muFix _ (Or.inl rfl)
              rw [← e] at h1
              rcases hmu3w k h1 with h2 | h2
              · exact hk.2 h2
              · have := hk.1; omega
        · go_wp2
          go_ret
          have hk0 : (T.G.ans o' m').2 = [] := HK6N.out.1 (by simp)
          have hk8 : lw'.marks t ≠ [] := fun e => by have := HM8N.out.2 e; cases this
          have hrow7 := row_turn (x2 := { x with steps := x.steps + 1, err := (T.G.ans o' m').1.err, val := (T.G.ans o' m').1.val, lA := A5, lN := (T.G.ans o' m').1.list.length, lC := c5, kA := some a8, kN := (lw'.marks t).length, kC := c8, resp := lw'.now }) (j := 7) (u := .slice (some a8) (lw'.marks t).length c8) HROWA.out hhr (by decide) rfl
          have hrowF := owns_keepV hrow7 ((Keep.refl (fun k => k ≠ X.ad.pp) _).setCell (p := ⟨X.ad.pp, 5 + t * 2, none⟩) (by simp) .nilIface) (fun k hk => by cases hk; exact npe.symm)
          have hkW : Keep (fun k => k < w5.heap.size ∧ k ≠ ge ∧ k ≠ X.ad.pp) w5 ((W6.setCell ⟨ge, hh * 8 + 7, none⟩ (.slice (some a8) (lw'.marks t).length c8)).setCell ⟨X.ad.pp, 5 + t * 2, none⟩ .nilIface) := ((HKA5.out.mono (fun k hk => ⟨hk.1, hk.2.1⟩)).setCell (fun hk => hk.2.1 rfl) _).setCell (fun hk => hk.2.2 rfl) _
          obtain ⟨hk1, hk2, hk3⟩ := step_keys H4.out (upd_same _ _ _) (if_pos rfl) HB5.out hkW HK4.out rfl
          obtain ⟨hfin, hk4⟩ := step_fin (xF := { x with steps := x.steps + 1, err := (T.G.ans o' m').1.err, val := (T.G.ans o' m').1.val, lA := A5, lN := (T.G.ans o' m').1.list.length, lC := c5, kA := some a8, kN := (lw'.marks t).length, kC := c8, resp := lw'.now }) (an := (T.G.ans o' m').1) (key := keyOf (T.G.ans o' m').2 (lw'.marks t) lw'.now) hT H4.out rfl (by simp) (if_pos rfl) HB5.out hkW (fun f hf => (((HPP6.out f hf).setOther (by simpa using npe) _).set _ _)) HK4.out HRL.out HRE.out HEP.out HXE.out rfl HLS.out rfl rfl rfl rfl rfl rfl hrowF (by unfold keyOf; rw [if_neg (by simp [hk0]), if_pos hk8]; exact hk2 _ _ HMK.out)
          refine ⟨by rw [HD.out]; rfl, fun k => Mu3 k ∧ ¬ Fm3 k, Fo3, (fun s => if s = t then Fm3 else Fm2 s), upd hv2 t .nilIface, .slice (some ⟨ge, 0, none⟩) P2.evs.length ce, ?_, fun k hk => hmu3w k hk.1, ?_⟩
          · rw [step_yes HD.out, HO'.out, HL'.out, HM'.out]
            exact hfin
          · refine HK4W.out.trans ⟨hk4.os, hk4.tape, hk4.output, hk4.size, fun k hk => hk4.block k ⟨?_, fun e => ?_, fun e => ?_⟩⟩
            · exact Nat.lt_of_lt_of_le hk.1 HK4W.out.size
            · have h1 := (H3.out.muEv ge rfl).1
              rw [← e] at h1
              rcases hmu3w k h1 with h2 | h2
              · exact hk.2 h2
              · have := hk.1; omega
            · have h1 := H3.out.muFix _ (Or.inl rfl)
              rw [← e] at h1
              rcases hmu3w k h1 with h2 | h2
              · exact hk.2 h2
              · have := hk.1; omega
      · go_wp2
        go_ret
        have hk0 : (T.G.ans o' m').2 ≠ [] := fun e => by have := HK6N.out.2 e; cases this
        have hkW : Keep (fun k => k < w5.heap.size ∧ k ≠ ge ∧ k ≠ X.ad.pp) w5 (W6.setCell ⟨X.ad.pp, 5 + t * 2, none⟩ .nilIface) := (HKA5.out.mono (fun k hk => ⟨hk.1, hk.2.1⟩)).setCell (fun hk => hk.2.2 rfl) _
        obtain ⟨hk1, hk2, hk3⟩ := step_keys H4.out (upd_same _ _ _) (if_pos rfl) HB5.out hkW HK4.out rfl
        have hrowF := owns_keepV HROWA.out ((Keep.refl (fun k => k ≠ X.ad.pp) W6).setCell (p := ⟨X.ad.pp, 5 + t * 2, none⟩) (by simp) .nilIface) (fun k hk => by cases hk; exact npe.symm)
        obtain ⟨hfin, hk4⟩ := step_fin (xF := { x with steps := x.steps + 1, err := (T.G.ans o' m').1.err, val := (T.G.ans o' m').1.val, lA := A5, lN := (T.G.ans o' m').1.list.length, lC := c5, kA := some a6, kN := (T.G.ans o' m').2.length, kC := c6, resp := lw'.now }) (an := (T.G.ans o' m').1) (key := keyOf (T.G.ans o' m').2 (lw'.marks t) lw'.now) hT H4.out rfl (by simp) (if_pos rfl) HB5.out hkW (fun f hf => (HPP6.out f hf).set _ _) HK4.out HRL.out HRE.out HEP.out HXE.out rfl HLS.out rfl rfl rfl rfl rfl rfl hrowF (by unfold keyOf; rw [if_pos hk0]; exact hk1 _ _ HKY.out)
        refine ⟨by rw [HD.out]; rfl, fun k => Mu3 k ∧ ¬ Fm3 k, Fo3, (fun s => if s = t then Fm3 else Fm2 s), upd hv2 t .nilIface, .slice (some ⟨ge, 0, none⟩) P2.evs.length ce, ?_, fun k hk => hmu3w k hk.1, ?_⟩
        · rw [step_yes HD.out, HO'.out, HL'.out, HM'.out]
          exact hfin
        · refine HK4W.out.trans ⟨hk4.os, hk4.tape, hk4.output, hk4.size, fun k hk => hk4.block k ⟨?_, fun e => ?_, fun e => ?_⟩⟩
          · exact Nat.lt_of_lt_of_le hk.1 HK4W.out.size
          · have h1 := (H3.out.muEv ge rfl).1
            rw [← e] at h1
            rcases hmu3w k h1 with h2 | h2
            · exact hk.2 h2
            · have := hk.1; omega
          · have h1 := H3.out.muFix _ (Or.inl rfl)
            rw [← e] at h1
            rcases hmu3w k h1 with h2 | h2
            · exact hk.2 h2
            · have := hk.1; omega
  · obtain ⟨_, hML0, _⟩ := h.hsome t m hh hh0
    obtain ⟨tm0, um0, hv0⟩ := hT.mlIface hML0
    rw [hv0] at p5
    have hat : P.at T.G t i c = (P.tick, m, hh) := by unfold Ps.at; rw [hh0]
    rw [hat]
    have hm2 : P.tick.hands t = some (m, hh) := hh0
    have hgd2 := HGT.out
    have hnow2 : 0 ≤ P.tick.lw.now ∧ P.tick.lw.now ≤ 1048576 := by
      have : P.tick.lw.now = P.lw.now + 1 := rfl
      omega
    have hst2 : ∀ e ∈ P.tick.evs, 0 ≤ e.steps ∧ e.steps ≤ 1048576 := hst
    have h2 := htick
    generalize P.tick = P2 at h2 hm2 hgd2 hnow2 hst2 ⊢
    have HM2 := hide hm2
    have HST2 := hide hst2
    have HX2 := hide h2
    clear f1 f2 f3 f4 f5 f6 f7 f8 g1 g2 g3 g4 g5 hno htick hgt hi hc hst hkt hh0 h hgd hat hm2 hst2 h2 hML0 hv0 HTK HGT
    go_enter Tryz.func59, Tryz.ntmps59
    go_upto_region 5 with (fail)
    have hkw := HKT.out
    have htu2 := HTU.out
    have hmuw : ∀ k, Mu k → Mu k ∨ w.heap.size ≤ k := fun k hk => Or.inl hk
    have h2 := HX2.out
    generalize (w.setCell ⟨X.ad.pw, 1, none⟩ (.int .i64 (P.lw.now + 1))) = w2 at h2 hkw htu2 ⊢
    have HTU2 := hide htu2
    clear htu2 HTU
    have hm2 := HM2.out
    have hst2 := HST2.out
    obtain ⟨Mu2, hMu2⟩ : ∃ Mu2, Mu2 = Mu := ⟨_, rfl⟩
    rw [← hMu2] at h2
    have hmuw : ∀ k, Mu2 k → Mu k ∨ w.heap.size ≤ k := fun k hk => by rw [hMu2] at hk; exact Or.inl hk
    obtain ⟨Fo2, hFo2⟩ : ∃ Fo2, Fo2 = Fo := ⟨_, rfl⟩
    obtain ⟨Fm2, hFm2⟩ : ∃ Fm2, Fm2 = Fm := ⟨_, rfl⟩
    obtain ⟨hv2, hhv2⟩ : ∃ hv2, hv2 = hv := ⟨_, rfl⟩
    rw [← hFo2, ← hFm2, ← hhv2] at h2
    clear hMu2 hFo2 hFm2 hhv2 HI HC HST HKT HX2 p0 p5 w1 r1 HM2
    have hm2' := hm2
    obtain ⟨f, f1, f2, f3, f4, f5, f6, f7, f8⟩ := h2.player
    obtain ⟨ht16, hML, hhl⟩ := h2.hsome t m hh hm2
    obtain ⟨tm, um, hvt⟩ := hT.mlIface hML
    have e0 := f1.cell (i := 0) (by omega)
    have e5 := f1.cell (i := 5 + t * 2) (by omega)
    rw [f2] at e0
    rw [(f6 t ht16).1, hvt] at e5
    have H2 := hide h2
    have HM2 := hide hm2
    have HVT := hide hvt
    clear f1 f2 f3 f4 f5 f6 f7 f8 hm2 hm2' h2 hML hvt
    go_wp2
    refine wp_region_seq (fun Y => Y.cell? ⟨X.ad.pp, 0, none⟩ = some (.pointer (some ⟨X.ad.pw, 0, none⟩)) ∧ Y.cell? ⟨X.ad.pp, 5 + t * 2, none⟩ = some (.iface tm um)) (.take 0 <| .take 1 <| .take 2 <| .take 3 <| .take 4 <| .take 5 <| .take 6 <| .take 7 <| .take 8 <| .take 9 <| .run 10 <| .take 11 <| .done) (by kernel_rfl) (by kernel_rfl) (by kernel_rfl) ⟨e0, e5⟩ ?_
    repeat (refine seq_take (v := ?_) rfl (by rfl) ?_ ?_; rotate_left; (focus (intro wS hS; obtain ⟨s0, s1⟩ := hS; go_simp; exact rfl)); simp only [Act.put, List.setIfInBounds_toArray, List.set_cons_zero, List.set_cons_succ])
    refine seq_run rfl (by rfl) (fun K hK => ?_)
    have h2d := H2.out.keepAll hT ((Keep.refl (fun k => k < w2.heap.size) w2).drew)
    have h2m := (h2d.hsome t m hh HM2.out).2.1
    rw [HVT.out] at h2m
    obtain ⟨fS, rS, hD, hC⟩ := hT.step (hs := P2.ms) (t := t) h2d.objs h2m h2d.world (HENV.out _ e0 HTU2.out) (show (P2.hands t).map Prod.fst = some m by rw [HM2.out]; rfl) hgd2 hnow2.1 hnow2.2 ht16 (fun k hk => ⟨fun e => (h2d.muFm t m hh k HM2.out e).2.2 hk, fun e => (h2d.muFo k hk).2 (h2d.fourLt k e).1⟩) (fun k hk e => (h2d.muFm t m hh k HM2.out hk).2.1 (h2d.fourLt k e).1) (fun k hk => by
      rcases hk with hk | hk | hk
      · exact (h2d.muFo k hk).1
      · exact (h2d.muFm t m hh k HM2.out hk).1
      · exact (h2d.fourLt k hk).2.1) h2d.types.2.2.2.2.2.2.2.2.2.2.2 h2d.lt
    refine wp_disp _ "Step" _ _ rfl (.iface tm um) rS fS (by rfl) hD [.pointer (some ⟨X.ad.pw, 0, none⟩)] (by rfl) hC ?_
    rintro e w3 ⟨Fo3, Fm3, he, hO, hM, hA, hW, hF, hFF, hK3⟩
    obtain ⟨d, hd⟩ : ∃ d, (T.G.step P2.obj P2.lw t m).2.2.2 = d := ⟨_, rfl⟩
    rw [hd] at he hA
    subst he
    have HA := hide hA
    have h3 := PLa.stepped hT h2d HM2.out hO (by rw [HVT.out]; exact hM) hW hF hFF hK3
    have hK3' : Keep (fun k => k < w2.heap.size ∧ ¬ Mu2 k) w2 w3 := ⟨hK3.os, hK3.tape, hK3.output, hK3.size, fun k hk => hK3.block k ⟨hk.1, fun e => hk.2 (h2d.muFo k e).1, fun e => hk.2 (h2d.muFm t m hh k HM2.out e).1, fun e => hk.2 (h2d.fourLt k e).2.1⟩⟩
    have hmu3 : ∀ k, ((Mu2 k ∧ ¬ Fo2 k ∧ ¬ Fm2 t k) ∨ Fo3 k ∨ Fm3 k) → Mu2 k ∨ w2.heap.size ≤ k := by
      intro k hk
      rcases hk with hk | hk
      · exact Or.inl hk.1
      · rcases hF k hk with h1 | h1 | h1
        · exact Or.inl (h2d.muFo k h1).1
        · exact Or.inl (h2d.muFm t m hh k HM2.out h1).1
        · exact Or.inr h1
    clear hO hM hA hW hF hFF hK3 hC hD h2m h2d
    generalize hO' : (T.G.step P2.obj P2.lw t m).1 = o' at h3
    generalize hL' : (T.G.step P2.obj P2.lw t m).2.1 = lw' at h3
    generalize hM' : (T.G.step P2.obj P2.lw t m).2.2.1 = m' at h3
    generalize hMu : (fun k => (Mu2 k ∧ ¬ Fo2 k ∧ ¬ Fm2 t k) ∨ Fo3 k ∨ Fm3 k) = Mu3 at h3
    have hmu3' : ∀ k, Mu3 k → Mu2 k ∨ w2.heap.size ≤ k := by rw [← hMu]; exact hmu3
    obtain ⟨f, f1, f2, f3, f4, f5, f6, f7, f8⟩ := h3.player
    obtain ⟨g, g1, g2, g3, g4, g5⟩ := h3.world.cells
    obtain ⟨raw, hrow, hrl, hre⟩ := h3.evs.row
    have hhl' : hh < P2.evs.length := hhl
    obtain ⟨ge, ce, rfl, hge, hgz⟩ := own_some' hrow (by show 0 < P2.evs.length; omega)
    have hrl' : raw.length = P2.evs.length := hrl
    obtain ⟨x, hx⟩ : ∃ x, raw[hh]? = some x := ⟨_, List.getElem?_eq_getElem (by omega)⟩
    obtain ⟨ep, hep⟩ : ∃ ep, P2.evs[hh]? = some ep := ⟨_, List.getElem?_eq_getElem hhl'⟩
    have hxe := hre hh x ep hx hep
    have hsx : x.steps = ep.steps := hxe.steps
    obtain ⟨hs0, hs1⟩ := hst2 ep (List.mem_of_getElem? hep)
    rw [← hsx] at hs0 hs1
    have i0 := f1.cell (i := 0) (by omega)
    have i5 := f1.cell (i := 5 + t * 2) (by omega)
    have i6 := f1.cell (i := 5 + t * 2 + 1) (by omega)
    have i37 := f1.cell (i := 37) (by omega)
    have iz := f1.lt
    rw [f2] at i0
    rw [(f6 t ht).1, HVT.out] at i5
    rw [(f6 t ht).2.1 m' hh (upd_same _ _ _)] at i6
    rw [f7] at i37
    have j5 := f1.frozen (5 + t * 2)
    have q3 := row_cells hrow hx hrl 3 _ rfl
    have q4 := row_cells hrow hx hrl 4 _ rfl
    have q5 := row_cells hrow hx hrl 5 _ rfl
    have q6 := row_cells hrow hx hrl 6 _ rfl
    have q7 := row_cells hrow hx hrl 7 _ rfl
    have q2 := row_cells hrow hx hrl 2 _ rfl
    have qf := hrow.frozenAt
    have qf2 := qf (hh * 8 + 2)
    have qf3 := qf (hh * 8 + 3)
    have qf4 := qf (hh * 8 + 4)
    have qf5 := qf (hh * 8 + 5)
    have qf6 := qf (hh * 8 + 6)
    have qf7 := qf (hh * 8 + 7)
    have npe : X.ad.pp ≠ ge := fun e => (h3.muEv ge rfl).2.1 (Or.inl e.symm)
    have nwe : X.ad.pw ≠ ge := fun e => (h3.muEv ge rfl).2.1 (Or.inr (Or.inr (Or.inr (Or.inl e.symm))))
    have H3 := hide h3
    have HROW := hide hrow
    have HRE := hide hre
    have HX := hide hx
    have HEP := hide hep
    have HD := hide hd
    have HMU := hide hMu
    have HO' := hide hO'
    have HL' := hide hL'
    have HM' := hide hM'
    have HG := hide (show w3.rowIs X.ad.pw 134 35 g ∧ g 0 = .pointer (some ⟨X.ad.pm, 0, none⟩) ∧ g 1 = .int .i64 lw'.now ∧ g 34 = .map (some X.ad.pt) ∧ ∀ t, t < 16 → g (2 + t) = .int .i64 (lw'.inv t) ∧ KeyIs w3 Mu3 (g (18 + t)) (lw'.marks t) from ⟨g1, g2, g3, g4, g5⟩)
    have HK3 := hide hK3'
    refine ⟨_, rfl, hK _ _ ⟨i0, i5⟩ ?_⟩
    clear hK K f1 f2 f3 f4 f5 f6 f7 f8 g1 g2 g3 g4 g5 qf hrow hre hx hep hxe hsx h3 hd hMu hO' hL' hM' hK3' hrl hhl hmu3 e0 e5
    repeat (refine seq_take (v := ?_) rfl (by rfl) ?_ ?_; rotate_left; (focus (intro wS hS; obtain ⟨s0, s1⟩ := hS; go_simp; exact rfl)); simp only [Act.put, List.setIfInBounds_toArray, List.set_cons_zero, List.set_cons_succ])
    refine seq_nil ?_
    go_wp2
    go_quiet (fail)
    have hxe := HRE.out hh x ep HX.out HEP.out
    have hk4 : Keep (fun k => k < w3.heap.size ∧ (Value.slice (some ⟨ge, 0, none⟩) P2.evs.length ce).ownBlock ≠ some k) w3 ((w3.drewN nq).setCell ⟨ge, hh * 8 + 3, none⟩ (.int .i64 (x.steps + 1))) := ((Keep.refl _ w3).drewN nq).setCell (fun hk => hk.2 rfl) _
    have hkn : ∀ k, k < w3.heap.size → ¬ Mu3 k → k < w3.heap.size ∧ (Value.slice (some ⟨ge, 0, none⟩) P2.evs.length ce).ownBlock ≠ some k := fun k h1 h2 => ⟨h1, fun e => h2 (H3.out.muEv k e).1⟩
    have hxe4 := hxe.keep hk4 hkn (fun k _ hm => hm)
    have hrow4 := row_field (w := w3.drewN nq) (x' := { x with steps := x.steps + 1 }) (u := .int .i64 (x.steps + 1)) HROW.out HX.out (j := 3) (by decide) rfl
    have hE := EvsAt.turn (B := X.Tl) (hh := hh) (x' := { x with steps := x.steps + 1 }) (ep' := { ep with steps := ep.steps + 1 }) (v := .slice (some ⟨ge, 0, none⟩) P2.evs.length ce) hrl' HRE.out hk4 hkn (fun k _ hm => hm) hrow4 ⟨hxe4.call, hxe4.inv, hxe4.resp, by show x.steps + 1 = _; rw [hxe4.steps], hxe4.err, hxe4.val, hxe4.list, hxe4.key⟩
    have h4 := H3.out.evsTo hT (es' := P2.evs.set hh { ep with steps := ep.steps + 1 }) (by simp) hk4 hE
    have hk4w : Keep (fun k => k < w.heap.size ∧ ¬ Mu k) w ((w3.drewN nq).setCell ⟨ge, hh * 8 + 3, none⟩ (.int .i64 (x.steps + 1))) := by
      refine hkw.trans ⟨HK3.out.os, HK3.out.tape, HK3.out.output, Nat.le_trans HK3.out.size (by simp), fun k hk => ?_⟩
      have hk2 : k < w2.heap.size ∧ ¬ Mu2 k := ⟨Nat.lt_of_lt_of_le hk.1 hkw.size, fun e => by rcases hmuw k e with h1 | h1; exact hk.2 h1; omega⟩
      refine (hk4.block k ⟨Nat.lt_of_lt_of_le hk2.1 HK3.out.size, fun e => ?_⟩).trans (HK3.out.block k hk2)
      have h1 := (H3.out.muEv k e).1
      rcases hmu3' k h1 with h2 | h2
      · exact hk2.2 h2
      · omega
    have hmu3w : ∀ k, Mu3 k → Mu k ∨ w.heap.size ≤ k := by
      intro k hk
      rcases hmu3' k hk with h1 | h1
      · exact hmuw k h1
      · exact Or.inr (Nat.le_trans hkw.size h1)
    have H4 := hide h4
    have HK4W := hide hk4w
    have HK4 := hide hk4
    have HROW4 := hide hrow4
    have HXE := hide hxe
    clear h4 hk4w hk4 hrow4 hE hxe4 hxe hkn
    rcases d with _ | _
    · go_wp2
      go_ret
      refine ⟨by rw [HD.out]; rfl, Mu3, Fo3, (fun s => if s = t then Fm3 else Fm2 s), hv2, .slice (some ⟨ge, 0, none⟩) P2.evs.length ce, ?_, hmu3w, HK4W.out⟩
      rw [step_no HD.out, HO'.out, HL'.out, HM'.out, modify_set _ HEP.out]
      exact H4.out
    · go_wp2_with fail
      have hm4 := hT.alKeep (HA.out (by first | trivial | rfl)) HK4.out (fun k hk => by
        have h1 := H3.out.muFm t m' hh k (upd_same _ _ _) (by rw [if_pos rfl]; exact hk)
        exact ⟨H3.out.lt k h1.1, fun e => (H3.out.muEv k e).2.2.2 t m' hh (upd_same _ _ _) (by rw [if_pos rfl]; exact hk)⟩)
      rw [HM'.out] at hm4
      obtain ⟨fA, rA, hDA, hCA⟩ := hT.ans o' hm4
      refine upon_disp0 hDA (by kernel_rfl) hCA ?_
      rintro e w5 ⟨lv, kv, rfl, hLs, hKy, hb5⟩
      refine ⟨_, rfl, ?_⟩
      obtain ⟨A5, c5, rfl, hl5, hlA⟩ := hLs
      simp only [Act.put, List.setIfInBounds_toArray, List.set_cons_zero, List.set_cons_succ]
      obtain ⟨A6, c6, rfl, hk6n, hk6, hkA⟩ := hKy
      have hz45 := hb5.size
      simp at hz45
      have zge : ge < w5.heap.size := by omega
      have zpp : X.ad.pp < w5.heap.size := by omega
      have hc5 : ∀ b o, b < w3.heap.size → w5.cell? ⟨b, o, none⟩ = ((w3.drewN nq).setCell ⟨ge, hh * 8 + 3, none⟩ (.int .i64 (x.steps + 1))).cell? ⟨b, o, none⟩ := fun b o h => hb5.cell (p := ⟨b, o, none⟩) (by simpa using h)
      have hf5 : ∀ b o, b < w3.heap.size → w5.frozen? ⟨b, o, none⟩ = ((w3.drewN nq).setCell ⟨ge, hh * 8 + 3, none⟩ (.int .i64 (x.steps + 1))).frozen? ⟨b, o, none⟩ := fun b o h => hb5.frozen (p := ⟨b, o, none⟩) (by simpa using h)
      have y0 : w5.cell? ⟨X.ad.pp, 0, none⟩ = some (.pointer (some ⟨X.ad.pw, 0, none⟩)) := by rw [hc5 _ _ iz]; go_simp
      have y5 : w5.cell? ⟨X.ad.pp, 5 + t * 2, none⟩ = some (.iface tm um) := by rw [hc5 _ _ iz]; go_simp
      have z2 : w5.cell? ⟨ge, hh * 8 + 2, none⟩ = some (.int .i64 x.resp) := by rw [hc5 _ _ hgz]; go_simp
      have z4 : w5.cell? ⟨ge, hh * 8 + 4, none⟩ = some (.int .i64 x.err) := by rw [hc5 _ _ hgz]; go_simp
      have z5 : w5.cell? ⟨ge, hh * 8 + 5, none⟩ = some (.int .u64 x.val) := by rw [hc5 _ _ hgz]; go_simp
      have z6 : w5.cell? ⟨ge, hh * 8 + 6, none⟩ = some (.slice x.lA x.lN x.lC) := by rw [hc5 _ _ hgz]; go_simp
      have z7 : w5.cell? ⟨ge, hh * 8 + 7, none⟩ = some (.slice x.kA x.kN x.kC) := by rw [hc5 _ _ hgz]; go_simp
      have zf2 : w5.frozen? ⟨ge, hh * 8 + 2, none⟩ = false := by rw [hf5 _ _ hgz]; go_simp
      have zf4 : w5.frozen? ⟨ge, hh * 8 + 4, none⟩ = false := by rw [hf5 _ _ hgz]; go_simp
      have zf5 : w5.frozen? ⟨ge, hh * 8 + 5, none⟩ = false := by rw [hf5 _ _ hgz]; go_simp
      have zf6 : w5.frozen? ⟨ge, hh * 8 + 6, none⟩ = false := by rw [hf5 _ _ hgz]; go_simp
      have zf7 : w5.frozen? ⟨ge, hh * 8 + 7, none⟩ = false := by rw [hf5 _ _ hgz]; go_simp
      have yf5 : w5.frozen? ⟨X.ad.pp, 5 + t * 2, none⟩ = false := by rw [hf5 _ _ iz]; go_simp
      have zw3 := HG.out.1.lt
      have yw1 : w5.cell? ⟨X.ad.pw, 1, none⟩ = some (.int .i64 lw'.now) := by
        rw [hc5 _ _ zw3]
        have := (HG.out.1.setOther (a := ⟨ge, hh * 8 + 3, none⟩) (by simpa using nwe) (.int .i64 (x.steps + 1))).cell (i := 1) (by omega)
        exact this.trans (congrArg some HG.out.2.2.1)
      have yw18 : w5.cell? ⟨X.ad.pw, 18 + t, none⟩ = some (g (18 + t)) := by
        rw [hc5 _ _ zw3]
        exact (HG.out.1.setOther (a := ⟨ge, hh * 8 + 3, none⟩) (by simpa using nwe) (.int .i64 (x.steps + 1))).cell (i := 18 + t) (by omega)
      obtain ⟨A8, c8, e8, hm8n, hm8, hmA⟩ := (HG.out.2.2.2.2 t ht).2
      rw [e8] at yw18
      have hnow' : 0 ≤ lw'.now ∧ lw'.now ≤ 1048576 := by
        have : lw'.now = P2.lw.now := by rw [← HL'.out]; exact hT.still _ _ _ _
        omega
      have qN : ∀ (w : World) (a : Option Addr) (n c n' c' : Nat), (binOp .eql 22 (.slice a n c) (.slice none n' c')).run Tryz.prog w = .ok (.bool a.isNone) w := fun w a n c n' c' => Lib.run_eql_slice_nil w _ _ a n c n' c' Tryz.underlying22
      have HB5 := hide hb5
      have HLS := hide (show LstIs w5 (fun k => k < ((w3.drewN nq).setCell ⟨ge, hh * 8 + 3, none⟩ (.int .i64 (x.steps + 1))).heap.size ∧ ¬ Fm3 k) (.slice A5 (T.G.ans o' m').1.list.length c5) (T.G.ans o' m').1.list from ⟨A5, c5, rfl, hl5, hlA⟩)
      have HKY := hide (show KeyIs w5 (fun k => k < ((w3.drewN nq).setCell ⟨ge, hh * 8 + 3, none⟩ (.int .i64 (x.steps + 1))).heap.size ∧ ¬ Fm3 k) (.slice A6 (T.G.ans o' m').2.length c6) (T.G.ans o' m').2 from ⟨A6, c6, rfl, hk6n, hk6, hkA⟩)
      have HK6N := hide hk6n
      have HM8N := hide hm8n
      have HMK := hide (show KeyIs w3 Mu3 (.slice A8 (lw'.marks t).length c8) (lw'.marks t) from ⟨A8, c8, rfl, hm8n, hm8, hmA⟩)
      have hhr : hh < raw.length := by omega
      have HRL := hide hrl'
      clear hc5 hf5 hl5 hlA hk6n hk6 hkA hm8n hm8 hmA e8 i0 i5 i6 i37 j5 q2 q3 q4 q5 q6 q7 qf2 qf3 qf4 qf5 qf6 qf7 hCA hDA hm4 hrl'
      go_upto_region 12 with (fail)
      have hrow5 := owns_keepV HROW4.out (Keep.of_below (K := fun k => k < ((w3.drewN nq).setCell ⟨ge, hh * 8 + 3, none⟩ (.int .i64 (x.steps + 1))).heap.size) hb5 (fun k hk => hk)) (fun k hk => by cases hk; simpa using hgz)
      have hrow6 := row_turn (x2 := { x with steps := x.steps + 1, err := (T.G.ans o' m').1.err }) (j := 4) (u := .int .i64 (T.G.ans o' m').1.err) hrow5 hhr (by decide) rfl
      have hrow7 := row_turn (x2 := { x with steps := x.steps + 1, err := (T.G.ans o' m').1.err, val := (T.G.ans o' m').1.val }) (j := 5) (u := .int .u64 (T.G.ans o' m').1.val) hrow6 hhr (by decide) rfl
      have hrow8 := row_turn (x2 := { x with steps := x.steps + 1, err := (T.G.ans o' m').1.err, val := (T.G.ans o' m').1.val, lA := A5, lN := (T.G.ans o' m').1.list.length, lC := c5 }) (j := 6) (u := .slice A5 (T.G.ans o' m').1.list.length c5) hrow7 hhr (by decide) rfl
      have hrow9 := row_turn (x2 := { x with steps := x.steps + 1, err := (T.G.ans o' m').1.err, val := (T.G.ans o' m').1.val, lA := A5, lN := (T.G.ans o' m').1.list.length, lC := c5, kA := A6, kN := (T.G.ans o' m').2.length, kC := c6 }) (j := 7) (u := .slice A6 (T.G.ans o' m').2.length c6) hrow8 hhr (by decide) rfl
      have hrowA := row_turn (x2 := { x with steps := x.steps + 1, err := (T.G.ans o' m').1.err, val := (T.G.ans o' m').1.val, lA := A5, lN := (T.G.ans o' m').1.list.length, lC := c5, kA := A6, kN := (T.G.ans o' m').2.length, kC := c6, resp := lw'.now }) (j := 2) (u := .int .i64 lw'.now) hrow9 hhr (by decide) rfl
      have hkA5 : Keep (fun k => k < w5.heap.size ∧ k ≠ ge) w5 (((((w5.setCell ⟨ge, hh * 8 + 4, none⟩ (.int .i64 (T.G.ans o' m').1.err)).setCell ⟨ge, hh * 8 + 5, none⟩ (.int .u64 (T.G.ans o' m').1.val)).setCell ⟨ge, hh * 8 + 6, none⟩ (.slice A5 (T.G.ans o' m').1.list.length c5)).setCell ⟨ge, hh * 8 + 7, none⟩ (.slice A6 (T.G.ans o' m').2.length c6)).setCell ⟨ge, hh * 8 + 2, none⟩ (.int .i64 lw'.now)) := by
        repeat' (first | exact Keep.refl _ _ | refine Keep.setCell ?_ (fun hk => hk.2 rfl) _)
      have hqq := row_cells hrowA (by rw [List.getElem?_set_self hhr]) (by rw [List.length_set]; exact HRL.out) 7 _ rfl
      have hqf := hrowA.frozenAt (hh * 8 + 7)
      have hzA : (((((w5.setCell ⟨ge, hh * 8 + 4, none⟩ (.int .i64 (T.G.ans o' m').1.err)).setCell ⟨ge, hh * 8 + 5, none⟩ (.int .u64 (T.G.ans o' m').1.val)).setCell ⟨ge, hh * 8 + 6, none⟩ (.slice A5 (T.G.ans o' m').1.list.length c5)).setCell ⟨ge, hh * 8 + 7, none⟩ (.slice A6 (T.G.ans o' m').2.length c6)).setCell ⟨ge, hh * 8 + 2, none⟩ (.int .i64 lw'.now)).heap.size = w5.heap.size := by simp
      show Code.wp _ _ _ _ (((((w5.setCell ⟨ge, hh * 8 + 4, none⟩ (.int .i64 (T.G.ans o' m').1.err)).setCell ⟨ge, hh * 8 + 5, none⟩ (.int .u64 (T.G.ans o' m').1.val)).setCell ⟨ge, hh * 8 + 6, none⟩ (.slice A5 (T.G.ans o' m').1.list.length c5)).setCell ⟨ge, hh * 8 + 7, none⟩ (.slice A6 (T.G.ans o' m').2.length c6)).setCell ⟨ge, hh * 8 + 2, none⟩ (.int .i64 lw'.now))
      generalize (((((w5.setCell ⟨ge, hh * 8 + 4, none⟩ (.int .i64 (T.G.ans o' m').1.err)).setCell ⟨ge, hh * 8 + 5, none⟩ (.int .u64 (T.G.ans o' m').1.val)).setCell ⟨ge, hh * 8 + 6, none⟩ (.slice A5 (T.G.ans o' m').1.list.length c5)).setCell ⟨ge, hh * 8 + 7, none⟩ (.slice A6 (T.G.ans o' m').2.length c6)).setCell ⟨ge, hh * 8 + 2, none⟩ (.int .i64 lw'.now)) = W6 at hrowA hkA5 hqq hqf hzA ⊢
      have v0 := (hkA5.cell (p := ⟨X.ad.pp, 0, none⟩) ⟨zpp, npe⟩).trans y0
      have v5 := (hkA5.cell (p := ⟨X.ad.pp, 5 + t * 2, none⟩) ⟨zpp, npe⟩).trans y5
      have zpw5 : X.ad.pw < w5.heap.size := by omega
      have v1 := (hkA5.cell (p := ⟨X.ad.pw, 1, none⟩) ⟨zpw5, nwe⟩).trans yw1
      have v18 := (hkA5.cell (p := ⟨X.ad.pw, 18 + t, none⟩) ⟨zpw5, nwe⟩).trans yw18
      have vf5 : W6.frozen? ⟨X.ad.pp, 5 + t * 2, none⟩ = false := (World.frozen?_of_block (w := w5) (a := ⟨X.ad.pp, 5 + t * 2, none⟩) (hkA5.block _ ⟨zpp, npe⟩)).trans yf5
      have zg6 : ge < W6.heap.size := by omega
      have zp6 : X.ad.pp < W6.heap.size := by omega
      have zw6 : X.ad.pw < W6.heap.size := by omega
      have HROWA := hide hrowA
      have HKA5 := hide hkA5
      have HZA := hide hzA
      have hpp6 : ∀ f : Nat → Value, w5.rowIs X.ad.pp 141 46 f → W6.rowIs X.ad.pp 141 46 f := fun f hf => rowIs_keep hf HKA5.out ⟨zpp, npe⟩
      have HPP6 := hide hpp6
      clear hrow5 hrow6 hrow7 hrow8 hrow9 hrowA hkA5 hzA y0 y5 z2 z4 z5 z6 z7 zf2 zf4 zf5 zf6 zf7 yf5 yw1 yw18 hb5 hpp6
      rcases A6 with _ | a6
      · rcases A8 with _ | a8
        · go_wp2_with fail
          refine (loomTick X.ad.pw lw'.now _ (by go_simp) hnow'.1 hnow'.2).mono ?_
          rintro e w7 ⟨rfl, rfl⟩
          go_wp2
          go_ret
          have hk0 : (T.G.ans o' m').2 = [] := HK6N.out.1 (by simp)
          have hk8 : lw'.marks t = [] := HM8N.out.1 (by simp)
          have hrow7 := row_turn (x2 := { x with steps := x.steps + 1, err := (T.G.ans o' m').1.err, val := (T.G.ans o' m').1.val, lA := A5, lN := (T.G.ans o' m').1.list.length, lC := c5, kA := none, kN := (lw'.marks t).length, kC := c8, resp := lw'.now }) (j := 7) (u := .slice none (lw'.marks t).length c8) HROWA.out hhr (by decide) rfl
          have hrow8 := row_turn (x2 := { x with steps := x.steps + 1, err := (T.G.ans o' m').1.err, val := (T.G.ans o' m').1.val, lA := A5, lN := (T.G.ans o' m').1.list.length, lC := c5, kA := some ⟨W6.heap.size, 0, none⟩, kN := 1, kC := 1, resp := lw'.now }) (j := 7) (u := .slice (some ⟨W6.heap.size, 0, none⟩) 1 1) hrow7 hhr (by decide) rfl
          have hrowF := owns_keepV hrow8 (Keep.alloc ((Keep.refl (fun k => k ≠ X.ad.pp ∧ k < W6.heap.size) _).setCell (p := ⟨X.ad.pp, 5 + t * 2, none⟩) (by simp) .nilIface) (fun k hk => by simpa using hk.2) (.cells #[.int .i64 (2 * lw'.now)] 3)) (fun k hk => by cases hk; exact ⟨npe.symm, zg6⟩)
          have hkW : Keep (fun k => k < w5.heap.size ∧ k ≠ ge ∧ k ≠ X.ad.pp) w5 (((((W6.setCell ⟨ge, hh * 8 + 7, none⟩ (.slice none (lw'.marks t).length c8)).setCell ⟨ge, hh * 8 + 7, none⟩ (.slice (some ⟨W6.heap.size, 0, none⟩) 1 1)).setCell ⟨X.ad.pp, 5 + t * 2, none⟩ .nilIface).alloc (.cells #[.int .i64 (2 * lw'.now)] 3))) := by
            have : w5.heap.size ≤ W6.heap.size := Nat.le_of_eq HZA.out.symm
            refine (HKA5.out.mono (fun k hk => ⟨hk.1, hk.2.1⟩)).trans (Keep.alloc ?_ (fun k hk => by simp; omega) _)
            exact (((Keep.refl _ _).setCell (fun hk => hk.2.1 rfl) _).setCell (fun hk => hk.2.1 rfl) _).setCell (fun hk => hk.2.2 rfl) _
          obtain ⟨hk1, hk2, hk3⟩ := step_keys H4.out (upd_same _ _ _) (if_pos rfl) HB5.out hkW HK4.out rfl
          have hnewk : (((((W6.setCell ⟨ge, hh * 8 + 7, none⟩ (.slice none (lw'.marks t).length c8)).setCell ⟨ge, hh * 8 + 7, none⟩ (.slice (some ⟨W6.heap.size, 0, none⟩) 1 1)).setCell ⟨X.ad.pp, 5 + t * 2, none⟩ .nilIface).alloc (.cells #[.int .i64 (2 * lw'.now)] 3))).heap[W6.heap.size]? = some (.cells #[.int .i64 (2 * lw'.now)] 3 (0, 0)) := by
            have := heap_alloc_new (((W6.setCell ⟨ge, hh * 8 + 7, none⟩ (.slice none (lw'.marks t).length c8)).setCell ⟨ge, hh * 8 + 7, none⟩ (.slice (some ⟨W6.heap.size, 0, none⟩) 1 1)).setCell ⟨X.ad.pp, 5 + t * 2, none⟩ .nilIface) (.cells #[.int .i64 (2 * lw'.now)] 3)
            simpa using this
          have hkey : KeyIs (((((W6.setCell ⟨ge, hh * 8 + 7, none⟩ (.slice none (lw'.marks t).length c8)).setCell ⟨ge, hh * 8 + 7, none⟩ (.slice (some ⟨W6.heap.size, 0, none⟩) 1 1)).setCell ⟨X.ad.pp, 5 + t * 2, none⟩ .nilIface).alloc (.cells #[.int .i64 (2 * lw'.now)] 3))) (fun k => Mu3 k ∧ ¬ Fm3 k) (.slice (some ⟨W6.heap.size, 0, none⟩) 1 1) [2 * lw'.now] := by
            refine ⟨_, _, rfl, by simp, Sl.of_block (enc := ntEnc .i64) (sz := 1) (xs := [2 * lw'.now]) hnewk (Nat.le_refl _) (by unfold maxLen; decide) ?_, fun a ha => ?_⟩
            · intro k x hx j u hu
              rcases k with _ | k
              · simp at hx
                subst hx
                rcases j with _ | j
                · simpa [ntEnc] using hu
                · simp [ntEnc] at hu
              · simp at hx
            · cases ha
              refine ⟨hk3 _ ?_, by simp⟩
              have h1 : ((w3.drewN nq).setCell ⟨ge, hh * 8 + 3, none⟩ (.int .i64 (x.steps + 1))).heap.size = w3.heap.size := by simp
              exact Nat.le_trans (Nat.le_of_eq h1) (Nat.le_trans hz45 (Nat.le_of_eq HZA.out.symm))
          obtain ⟨hfin, hk4⟩ := step_fin (xF := { x with steps := x.steps + 1, err := (T.G.ans o' m').1.err, val := (T.G.ans o' m').1.val, lA := A5, lN := (T.G.ans o' m').1.list.length, lC := c5, kA := some ⟨W6.heap.size, 0, none⟩, kN := 1, kC := 1, resp := lw'.now }) (an := (T.G.ans o' m').1) (key := keyOf (T.G.ans o' m').2 (lw'.marks t) lw'.now) hT H4.out rfl (by simp) (if_pos rfl) HB5.out hkW (fun f hf => ((((HPP6.out f hf).setOther (by simpa using npe) _).setOther (by simpa using npe) _).set _ _).alloc _) HK4.out HRL.out HRE.out HEP.out HXE.out rfl HLS.out rfl rfl rfl rfl rfl rfl hrowF (by unfold keyOf; rw [if_neg (by simp [hk0]), if_neg (by simp [hk8])]; exact hkey)
          refine ⟨by rw [HD.out]; rfl, fun k => Mu3 k ∧ ¬ Fm3 k, Fo3, (fun s => if s = t then Fm3 else Fm2 s), upd hv2 t .nilIface, .slice (some ⟨ge, 0, none⟩) P2.evs.length ce, ?_, fun k hk => hmu3w k hk.1, ?_⟩
          · rw [step_yes HD.out, HO'.out, HL'.out, HM'.out]
            exact hfin
          · refine HK4W.out.trans ⟨hk4.os, hk4.tape, hk4.output, hk4.size, fun k hk => hk4.block k ⟨?_, fun e => ?_, fun e => ?_⟩⟩
            · exact Nat.lt_of_lt_of_le hk.1 HK4W.out.size
            · have h1 := (H3.out.muEv ge rfl).1
              rw [← e] at h1
              rcases hmu3w k h1 with h2 | h2
              · exact hk.2 h2
              · have := hk.1; omega
            · have h1 := H3.out.muFix _ (Or.inl rfl)
              rw [← e] at h1
              rcases hmu3w k h1 with h2 | h2
              · exact hk.2 h2
              · have := hk.1; omega
        · go_wp2
          go_ret
          have hk0 : (T.G.ans o' m').2 = [] := HK6N.out.1 (by simp)
          have hk8 : lw'.marks t ≠ [] := fun e => by have := HM8N.out.2 e; cases this
          have hrow7 := row_turn (x2 := { x with steps := x.steps + 1, err := (T.G.ans o' m').1.err, val := (T.G.ans o' m').1.val, lA := A5, lN := (T.G.ans o' m').1.list.length, lC := c5, kA := some a8, kN := (lw'.marks t).length, kC := c8, resp := lw'.now }) (j := 7) (u := .slice (some a8) (lw'.marks t).length c8) HROWA.out hhr (by decide) rfl
          have hrowF := owns_keepV hrow7 ((Keep.refl (fun k => k ≠ X.ad.pp) _).setCell (p := ⟨X.ad.pp, 5 + t * 2, none⟩) (by simp) .nilIface) (fun k hk => by cases hk; exact npe.symm)
          have hkW : Keep (fun k => k < w5.heap.size ∧ k ≠ ge ∧ k ≠ X.ad.pp) w5 ((W6.setCell ⟨ge, hh * 8 + 7, none⟩ (.slice (some a8) (lw'.marks t).length c8)).setCell ⟨X.ad.pp, 5 + t * 2, none⟩ .nilIface) := ((HKA5.out.mono (fun k hk => ⟨hk.1, hk.2.1⟩)).setCell (fun hk => hk.2.1 rfl) _).setCell (fun hk => hk.2.2 rfl) _
          obtain ⟨hk1, hk2, hk3⟩ := step_keys H4.out (upd_same _ _ _) (if_pos rfl) HB5.out hkW HK4.out rfl
          obtain ⟨hfin, hk4⟩ := step_fin (xF := { x with steps := x.steps + 1, err := (T.G.ans o' m').1.err, val := (T.G.ans o' m').1.val, lA := A5, lN := (T.G.ans o' m').1.list.length, lC := c5, kA := some a8, kN := (lw'.marks t).length, kC := c8, resp := lw'.now }) (an := (T.G.ans o' m').1) (key := keyOf (T.G.ans o' m').2 (lw'.marks t) lw'.now) hT H4.out rfl (by simp) (if_pos rfl) HB5.out hkW (fun f hf => (((HPP6.out f hf).setOther (by simpa using npe) _).set _ _)) HK4.out HRL.out HRE.out HEP.out HXE.out rfl HLS.out rfl rfl rfl rfl rfl rfl hrowF (by unfold keyOf; rw [if_neg (by simp [hk0]), if_pos hk8]; exact hk2 _ _ HMK.out)
          refine ⟨by rw [HD.out]; rfl, fun k => Mu3 k ∧ ¬ Fm3 k, Fo3, (fun s => if s = t then Fm3 else Fm2 s), upd hv2 t .nilIface, .slice (some ⟨ge, 0, none⟩) P2.evs.length ce, ?_, fun k hk => hmu3w k hk.1, ?_⟩
          · rw [step_yes HD.out, HO'.out, HL'.out, HM'.out]
            exact hfin
          · refine HK4W.out.trans ⟨hk4.os, hk4.tape, hk4.output, hk4.size, fun k hk => hk4.block k ⟨?_, fun e => ?_, fun e => ?_⟩⟩
            · exact Nat.lt_of_lt_of_le hk.1 HK4W.out.size
            · have h1 := (H3.out.muEv ge rfl).1
              rw [← e] at h1
              rcases hmu3w k h1 with h2 | h2
              · exact hk.2 h2
              · have := hk.1; omega
            · have h1 := H3.out.muFix _ (Or.inl rfl)
              rw [← e] at h1
              rcases hmu3w k h1 with h2 | h2
              · exact hk.2 h2
              · have := hk.1; omega
      · go_wp2
        go_ret
        have hk0 : (T.G.ans o' m').2 ≠ [] := fun e => by have := HK6N.out.2 e; cases this
        have hkW : Keep (fun k => k < w5.heap.size ∧ k ≠ ge ∧ k ≠ X.ad.pp) w5 (W6.setCell ⟨X.ad.pp, 5 + t * 2, none⟩ .nilIface) := (HKA5.out.mono (fun k hk => ⟨hk.1, hk.2.1⟩)).setCell (fun hk => hk.2.2 rfl) _
        obtain ⟨hk1, hk2, hk3⟩ := step_keys H4.out (upd_same _ _ _) (if_pos rfl) HB5.out hkW HK4.out rfl
        have hrowF := owns_keepV HROWA.out ((Keep.refl (fun k => k ≠ X.ad.pp) W6).setCell (p := ⟨X.ad.pp, 5 + t * 2, none⟩) (by simp) .nilIface) (fun k hk => by cases hk; exact npe.symm)
        obtain ⟨hfin, hk4⟩ := step_fin (xF := { x with steps := x.steps + 1, err := (T.G.ans o' m').1.err, val := (T.G.ans o' m').1.val, lA := A5, lN := (T.G.ans o' m').1.list.length, lC := c5, kA := some a6, kN := (T.G.ans o' m').2.length, kC := c6, resp := lw'.now }) (an := (T.G.ans o' m').1) (key := keyOf (T.G.ans o' m').2 (lw'.marks t) lw'.now) hT H4.out rfl (by simp) (if_pos rfl) HB5.out hkW (fun f hf => (HPP6.out f hf).set _ _) HK4.out HRL.out HRE.out HEP.out HXE.out rfl HLS.out rfl rfl rfl rfl rfl rfl hrowF (by unfold keyOf; rw [if_pos hk0]; exact hk1 _ _ HKY.out)
        refine ⟨by rw [HD.out]; rfl, fun k => Mu3 k ∧ ¬ Fm3 k, Fo3, (fun s => if s = t then Fm3 else Fm2 s), upd hv2 t .nilIface, .slice (some ⟨ge, 0, none⟩) P2.evs.length ce, ?_, fun k hk => hmu3w k hk.1, ?_⟩
        · rw [step_yes HD.out, HO'.out, HL'.out, HM'.out]
          exact hfin
        · refine HK4W.out.trans ⟨hk4.os, hk4.tape, hk4.output, hk4.size, fun k hk => hk4.block k ⟨?_, fun e => ?_, fun e => ?_⟩⟩
          · exact Nat.lt_of_lt_of_le hk.1 HK4W.out.size
          · have h1 := (H3.out.muEv ge rfl).1
            rw [← e] at h1
            rcases hmu3w k h1 with h2 | h2
            · exact hk.2 h2
            · have := hk.1; omega
          · have h1 := H3.out.muFix _ (Or.inl rfl)
            rw [← e] at h1
            rcases hmu3w k h1 with h2 | h2
            · exact hk.2 h2
            · have := hk.1; omega
end Go.Proofs.YtfghmlpjbedomaaGreat
