/- A play on a loom: what a tick, a machine's step, and an event's turning leave, in plain words for memory. -/
import Derived.Test.YtfghmlpjbedomaaGreatLo5
namespace Go.Proofs.YtfghmlpjbedomaaGreat
open Go.RowKit

theorem flat_set {α : Type} {en : α → List Value} {sz : Nat} (hl : ∀ x, (en x).length = sz) {l : List α} {h j : Nat} {x x' : α} {u : Value} (hx : l[h]? = some x) (hj : j < sz) (he : en x' = (en x).set j u) : (l.flatMap en).set (h * sz + j) u = (l.set h x').flatMap en := by
  induction l generalizing h with
  | nil => simp at hx
  | cons y l ih =>
    rcases h with _ | h
    · simp at hx
      subst hx
      rw [List.set_cons_zero, List.flatMap_cons, List.flatMap_cons, he, Nat.zero_mul, Nat.zero_add, List.set_append_left _ _ (by rw [hl]; exact hj)]
    · rw [List.set_cons_succ, List.flatMap_cons, List.flatMap_cons, List.set_append_right _ _ (by rw [hl, Nat.succ_mul]; omega)]
      congr 1
      rw [show (h + 1) * sz + j - (en y).length = h * sz + j by rw [hl, Nat.succ_mul]; omega]
      exact ih (by simpa using hx)
/-- A field of an event is written. -/
theorem row_field {w : World} {B g cap n h j : Nat} {raw : List Ev} {x x' : Ev} {u : Value} (ho : w.ownsRow B 66 8 (.slice (some ⟨g, 0, none⟩) n cap) n (raw.flatMap evEnc)) (hx : raw[h]? = some x) (hj : j < 8) (he : evEnc x' = (evEnc x).set j u) :
    (w.setCell ⟨g, h * 8 + j, none⟩ u).ownsRow B 66 8 (.slice (some ⟨g, 0, none⟩) n cap) n ((raw.set h x').flatMap evEnc) := by
  have := (World.ownsRow.stored ho (h * 8 + j) u).1
  rwa [flat_set evEnc_len hx hj he] at this
theorem row_cells {w : World} {B g cap n h : Nat} {raw : List Ev} {x : Ev} (ho : w.ownsRow B 66 8 (.slice (some ⟨g, 0, none⟩) n cap) n (raw.flatMap evEnc)) (hx : raw[h]? = some x) (hl : raw.length = n) (j : Nat) (u : Value) (hu : (evEnc x)[j]? = some u) : w.cell? ⟨g, h * 8 + j, none⟩ = some u := by
  have hj : j < 8 := (List.getElem?_eq_some_iff.1 hu).1
  have hh := (List.getElem?_eq_some_iff.1 hx).1
  rw [World.ownsRow.cellAt ho (h * 8 + j) (by omega)]
  exact flat_en evEnc_len hx j u hu
section
variable {M O : Type} {T : Th M O} {X : Fix} {w w' : World} {Mu Fo : Nat → Prop} {Fm : Nat → Nat → Prop} {hv : Nat → Value} {ev : Value} {P : Ps M O}
theorem PLa.fourLt (h : PLa T X w Mu Fo Fm hv ev P) : ∀ k, X.ad.four k → X.six k ∧ Mu k ∧ k < w.heap.size := fun k hk => ⟨Or.inr (Or.inr (Or.inr hk)), h.muFix k (Or.inr (Or.inr (Or.inr hk))), h.lt k (h.muFix k (Or.inr (Or.inr (Or.inr hk))))⟩
/-- The clock turns. -/
theorem PLa.tick (hT : T.Ok) (h : PLa T X w Mu Fo Fm hv ev P) : PLa T X (w.setCell ⟨X.ad.pw, 1, none⟩ (.int .i64 (P.lw.now + 1))) Mu Fo Fm hv ev P.tick := by
  obtain ⟨n1, n2, n3, n4, n5, n6, n7, n8, n9, n10, n11, n12⟩ := h.types
  have hK : Keep (fun k => k ≠ X.ad.pw) w (w.setCell ⟨X.ad.pw, 1, none⟩ (.int .i64 (P.lw.now + 1))) := (Keep.refl _ _).setCell (by simp) _
  have hpw : ∀ k, ¬ Mu k → k ≠ X.ad.pw := fun k hk e => hk (e ▸ h.muFix _ (Or.inr (Or.inr (Or.inr (Or.inl rfl)))))
  obtain ⟨f, f1, f2⟩ := h.player
  obtain ⟨g, g1, g2, g3, g4, g5⟩ := h.world.cells
  obtain ⟨m, m1, m2⟩ := h.world.notes
  have hsix : ∀ k, ¬ X.six k → k ≠ X.ad.pw := fun k hk e => hk (e ▸ (Or.inr (Or.inr (Or.inr (Or.inl rfl)))))
  refine ⟨⟨f, rowIs_keep f1 hK n1, f2⟩, ⟨h.world.mem.of_blocks (hK.block _ n7.symm) (hK.block _ n8.symm), ⟨_, g1.set _ _, ?_, ?_, ?_, fun t ht => ?_⟩, ⟨m, m1.of_block (hK.block _ n9.symm), fun a => ?_⟩⟩, h.line.keep hK n10.symm n11.symm (fun k h1 h2 => hpw k (fun hm => by have := h.gap k hm; omega)), hT.obKeep h.objs hK (fun k hk => hsix k (h.muFo k hk).2), h.hnone, fun t m hh hm => ?_, h.evs.keep hK (fun k _ hk => hpw k hk) (fun k _ hm => hm) (fun k hk => hsix k (h.muEv k hk).2.1), h.muFix, h.muEv, h.muFo, h.muFm, h.apart, fun k hk => by simpa using h.lt k hk, h.gap, ⟨h.gap2.1, by simpa using h.gap2.2⟩, h.ne, ?_, ?_, h.fin, h.thr⟩
  · show (if 0 = 1 then _ else g 0) = _
    rw [if_neg (by decide)]; exact g2
  · show (if 1 = 1 then _ else g 1) = _
    rw [if_pos rfl]; rfl
  · show (if 34 = 1 then _ else g 34) = _
    rw [if_neg (by decide)]; exact g4
  · refine ⟨?_, ?_⟩
    · show (if 2 + t = 1 then _ else g (2 + t)) = _
      rw [if_neg (by omega)]; exact (g5 t ht).1
    · show KeyIs _ _ (if 18 + t = 1 then _ else g (18 + t)) _
      rw [if_neg (by omega)]; exact (g5 t ht).2.keep hK (fun k _ hk => hpw k hk) (fun k _ hm => hm)
  · rcases m2 a with h | ⟨v, hv, hk'⟩
    · exact .inl h
    · exact .inr ⟨v, hv, hk'.keep hK (fun k _ hk => hpw k hk) (fun k _ hm => hm)⟩
  · obtain ⟨a1, a2, a3⟩ := h.hsome t m hh hm
    exact ⟨a1, hT.mlKeep a2 hK (fun k hk => hsix k (h.muFm t m hh k hm hk).2.1), a3⟩
  · obtain ⟨A, cc, e1, e2, e3, e4⟩ := h.calls
    exact ⟨A, cc, e1, sl_keepG e2 hK (fun a ha hl => hpw _ (e4 a ha hl)), e3, e4⟩
  · obtain ⟨A, cc, e1, e2, e4⟩ := h.ovs
    exact ⟨A, cc, e1, sl_keepG e2 hK (fun a ha hl => hpw _ (e4 a ha hl)), e4⟩
/-- Nothing but draws. -/
theorem PLa.keepAll (hT : T.Ok) (h : PLa T X w Mu Fo Fm hv ev P) (hK : Keep (fun k => k < w.heap.size) w w') : PLa T X w' Mu Fo Fm hv ev P := by
  obtain ⟨f, f1, f2⟩ := h.player
  have hlt := h.lt
  have h6 : ∀ k, X.six k → k < w.heap.size := fun k hk => hlt k (h.muFix k hk)
  refine ⟨⟨f, rowIs_keep f1 hK (h6 _ (Or.inl rfl)), f2⟩, h.world.keep hK (fun k hk _ => hk) (fun k _ hm => hm) (h6 _ (Or.inr (Or.inr (Or.inr (Or.inl rfl))))) (h6 _ (Or.inr (Or.inr (Or.inr (Or.inr (Or.inl rfl)))))) (h6 _ (Or.inr (Or.inr (Or.inr (Or.inr (Or.inr (Or.inl rfl))))))) (h6 _ (Or.inr (Or.inr (Or.inr (Or.inr (Or.inr (Or.inr rfl))))))),
    h.line.keep hK (h6 _ (Or.inr (Or.inl rfl))) (h6 _ (Or.inr (Or.inr (Or.inl rfl)))) (fun k h1 h2 => by have := h.gap2; omega), hT.obKeep h.objs hK (fun k hk => hlt k (h.muFo k hk).1), h.hnone, fun t m hh hm => ?_, h.evs.keep hK (fun k hk _ => hk) (fun k _ hm => hm) (fun k hk => hlt k (h.muEv k hk).1), h.muFix, h.muEv, h.muFo, h.muFm, h.apart, fun k hk => Nat.lt_of_lt_of_le (hlt k hk) hK.size, h.gap, ⟨h.gap2.1, Nat.le_trans h.gap2.2 hK.size⟩, h.ne, ?_, ?_, h.fin, h.thr⟩
  · obtain ⟨a1, a2, a3⟩ := h.hsome t m hh hm
    exact ⟨a1, hT.mlKeep a2 hK (fun k hk => hlt k (h.muFm t m hh k hm hk).1), a3⟩
  · obtain ⟨A, cc, e1, e2, e3, e4⟩ := h.calls
    exact ⟨A, cc, e1, sl_keepG e2 hK (fun a ha hl => sl_block e2 ha hl), e3, e4⟩
  · obtain ⟨A, cc, e1, e2, e4⟩ := h.ovs
    exact ⟨A, cc, e1, sl_keepG e2 hK (fun a ha hl => sl_block e2 ha hl), e4⟩
/-- A machine made its step. -/
theorem PLa.stepped (hT : T.Ok) (h : PLa T X w Mu Fo Fm hv ev P) {t hh : Nat} {m m' : M} {o' : O} {lw' : Lw} {Fo' Fm' : Nat → Prop} (hm : P.hands t = some (m, hh)) (hO : T.OB w' Fo' o') (hM : T.ML w' Fm' (hv t) m') (hW : WL w' X.ad (fun k => (Mu k ∧ ¬ Fo k ∧ ¬ Fm t k) ∨ Fo' k ∨ Fm' k) lw')
    (hF : ∀ k, Fo' k ∨ Fm' k → Fo k ∨ Fm t k ∨ w.heap.size ≤ k) (hFF : ∀ k, Fo' k → ¬ Fm' k) (hK : Keep (fun k => k < w.heap.size ∧ ¬ Fo k ∧ ¬ Fm t k ∧ ¬ X.ad.four k) w w') :
    PLa T X w' (fun k => (Mu k ∧ ¬ Fo k ∧ ¬ Fm t k) ∨ Fo' k ∨ Fm' k) Fo' (fun s => if s = t then Fm' else Fm s) hv ev { P with obj := o', lw := lw', hands := upd P.hands t (some (m', hh)) } := by
  obtain ⟨n1, n2, n3, n4, n5, n6, n7, n8, n9, n10, n11, n12⟩ := h.types
  have hlt := h.lt
  obtain ⟨a1, a2, a3⟩ := h.hsome t m hh hm
  have hmt := fun k => h.muFm t m hh k hm
  have hnm : ∀ k, k < w.heap.size → ¬ Mu k → k < w.heap.size ∧ ¬ Fo k ∧ ¬ Fm t k ∧ ¬ X.ad.four k := fun k hk hm => ⟨hk, fun e => hm (h.muFo k e).1, fun e => hm (hmt k e).1, fun e => hm (h.fourLt k e).2.1⟩
  have hmo : ∀ k, k < w.heap.size → ((Mu k ∧ ¬ Fo k ∧ ¬ Fm t k) ∨ Fo' k ∨ Fm' k) → Mu k := by
    intro k hk hm
    rcases hm with hm | hm
    · exact hm.1
    · rcases hF k hm with hm | hm | hm
      · exact (h.muFo k hm).1
      · exact (hmt k hm).1
      · omega
  have h6 : ∀ k, k = X.ad.pp ∨ k = X.ad.pl ∨ k = X.ad.pg → X.six k ∧ k < w.heap.size ∧ ¬ Fo k ∧ ¬ Fm t k ∧ ¬ X.ad.four k := by
    intro k hk
    have hs : X.six k := by unfold Fix.six; omega
    refine ⟨hs, hlt k (h.muFix k hs), fun e => (h.muFo k e).2 hs, fun e => (hmt k e).2.1 hs, fun e => ?_⟩
    have hpl := h.line.apart
    obtain ⟨_, h6⟩ := h.line.line
    obtain ⟨_, ⟨_, _, h7, _⟩, _⟩ := h.line.map
    obtain ⟨_, b1, _⟩ := h.world.mem.blk
    obtain ⟨_, b2, _⟩ := h.world.mem.row
    obtain ⟨_, ⟨_, _, b3, _⟩, _⟩ := h.world.notes
    unfold Adr.four at e
    rcases hk with rfl | rfl | rfl
    · rcases e with e | e | e | e
      · exact n1 e
      · exact n2 e
      · exact n3 e
      · exact n4 e
    · rcases e with e | e | e | e
      · exact n10 e.symm
      · rw [e, b1] at h6; injection h6 with h1; injection h1 with _ h1 _; exact absurd h1 (by decide)
      · rw [e, b2] at h6; injection h6 with h1; injection h1 with _ h1 _; exact absurd h1 (by decide)
      · rw [e, b3] at h6; cases h6
    · rcases e with e | e | e | e
      · exact n11 e.symm
      · rw [e, b1] at h7; cases h7
      · rw [e, b2] at h7; cases h7
      · exact h.ne e.symm
  have hnew : ∀ k, (Fo' k ∨ Fm' k) → ¬ X.six k ∧ (k < w.heap.size → Fo k ∨ Fm t k) := by
    intro k hk
    refine ⟨fun hs => ?_, fun hl => ?_⟩
    · rcases hF k hk with h1 | h1 | h1
      · exact (h.muFo k h1).2 hs
      · exact (hmt k h1).2.1 hs
      · have := hlt k (h.muFix k hs); omega
    · rcases hF k hk with h1 | h1 | h1
      · exact Or.inl h1
      · exact Or.inr h1
      · omega
  have hst : ∀ s m2 h2, (upd P.hands t (some (m', hh)) s) = some (m2, h2) → (s = t ∧ m2 = m' ∧ h2 = hh) ∨ (s ≠ t ∧ P.hands s = some (m2, h2)) := by
    intro s m2 h2 hs
    by_cases e : s = t
    · subst e
      rw [upd_same] at hs
      cases hs
      exact .inl ⟨rfl, rfl, rfl⟩
    · rw [upd_other e] at hs
      exact .inr ⟨e, hs⟩
  have hFmS : ∀ s m2 h2 k, s ≠ t → P.hands s = some (m2, h2) → Fm s k → k < w.heap.size ∧ ¬ Fo k ∧ ¬ Fm t k ∧ ¬ X.ad.four k := by
    intro s m2 h2 k hs hm2 hk
    obtain ⟨b1, b2, b3⟩ := h.muFm s m2 h2 k hm2 hk
    exact ⟨hlt k b1, b3, h.apart s t m2 h2 m hh k hs hm2 hm hk, fun e => b2 (h.fourLt k e).1⟩
  obtain ⟨f, f1, f2, f3, f4, f5, f6, f7, f8⟩ := h.player
  have hevS : ∀ k, ev.ownBlock = some k → k < w.heap.size ∧ ¬ Fo k ∧ ¬ Fm t k ∧ ¬ X.ad.four k := fun k hk => by
    obtain ⟨b1, b2, b3, b4⟩ := h.muEv k hk
    exact ⟨hlt k b1, b3, b4 t m hh hm, fun e => b2 (h.fourLt k e).1⟩
  refine ⟨⟨f, rowIs_keep f1 hK (h6 _ (Or.inl rfl)).2, f2, f3, f4, f5, fun s hs => ⟨(f6 s hs).1, fun m2 h2 hm2 => ?_, (f6 s hs).2.2⟩, f7, f8⟩, hW, h.line.keep hK (h6 _ (Or.inr (Or.inl rfl))).2 (h6 _ (Or.inr (Or.inr rfl))).2 (fun k h1 h2 => hnm k (by have := h.gap2; omega) (fun hm => by have := h.gap k hm; omega)), hO, fun s hs hs16 => ?_, fun s m2 h2 hm2 => ?_, h.evs.keep hK hnm hmo hevS, fun k hk => ?_, fun k hk => ?_, fun k hk => ?_, fun s m2 h2 k hm2 hk => ?_, fun s r m2 h2 m3 h3 k hsr hm2 hm3 hk hk' => ?_, fun k hk => ?_, fun k hk => ?_, ⟨h.gap2.1, Nat.le_trans h.gap2.2 hK.size⟩, h.ne, ?_, ?_, h.fin, h.thr⟩
  · rcases hst s m2 h2 hm2 with ⟨rfl, rfl, rfl⟩ | ⟨e, hm2⟩
    · exact (f6 s hs).2.1 m h2 hm
    · exact (f6 s hs).2.1 m2 h2 hm2
  · have hs : upd P.hands t (some (m', hh)) s = none := hs
    by_cases e : s = t
    · subst e
      rw [upd_same] at hs
      cases hs
    · rw [upd_other e] at hs
      exact h.hnone s hs hs16
  · rcases hst s m2 h2 hm2 with ⟨rfl, rfl, rfl⟩ | ⟨e, hm2⟩
    · refine ⟨a1, ?_, a3⟩
      rw [if_pos rfl]
      exact hM
    · obtain ⟨b1, b2, b3⟩ := h.hsome s m2 h2 hm2
      refine ⟨b1, ?_, b3⟩
      rw [if_neg e]
      exact hT.mlKeep b2 hK (fun k hk => hFmS s m2 h2 k e hm2 hk)
  · exact Or.inl ⟨h.muFix k hk, fun e => (h.muFo k e).2 hk, fun e => (hmt k e).2.1 hk⟩
  · obtain ⟨b1, b2, b3, b4⟩ := h.muEv k hk
    refine ⟨Or.inl ⟨b1, b3, b4 t m hh hm⟩, b2, fun e => ?_, fun s m2 h2 hm2 hk2 => ?_⟩
    · rcases (hnew k (Or.inl e)).2 (hlt k b1) with h1 | h1
      · exact b3 h1
      · exact b4 t m hh hm h1
    · rcases hst s m2 h2 hm2 with ⟨rfl, rfl, rfl⟩ | ⟨e, hm2⟩
      · rw [if_pos rfl] at hk2
        rcases (hnew k (Or.inr hk2)).2 (hlt k b1) with h1 | h1
        · exact b3 h1
        · exact b4 s m h2 hm h1
      · rw [if_neg e] at hk2
        exact b4 s m2 h2 hm2 hk2
  · exact ⟨Or.inr (Or.inl hk), (hnew k (Or.inl hk)).1⟩
  · rcases hst s m2 h2 hm2 with ⟨rfl, rfl, rfl⟩ | ⟨e, hm2⟩
    · rw [if_pos rfl] at hk
      exact ⟨Or.inr (Or.inr hk), (hnew k (Or.inr hk)).1, fun e => hFF k e hk⟩
    · rw [if_neg e] at hk
      obtain ⟨b1, b2, b3⟩ := h.muFm s m2 h2 k hm2 hk
      have b5 := hFmS s m2 h2 k e hm2 hk
      refine ⟨Or.inl ⟨b1, b3, b5.2.2.1⟩, b2, fun e' => ?_⟩
      rcases (hnew k (Or.inl e')).2 b5.1 with h1 | h1
      · exact b3 h1
      · exact b5.2.2.1 h1
  · have key : ∀ r m' hh' k, r ≠ t → P.hands r = some (m', hh') → Fm r k → ¬ Fm' k := by
      intro r m' hh' k e hr hk hk'
      have b5 := hFmS r m' hh' k e hr hk
      rcases (hnew k (Or.inr hk')).2 b5.1 with h1 | h1
      · exact b5.2.1 h1
      · exact b5.2.2.1 h1
    rcases hst s m2 h2 hm2 with ⟨e, _, _⟩ | ⟨e, hm2⟩
    · rcases hst r m3 h3 hm3 with ⟨e', _, _⟩ | ⟨e', hm3⟩
      · exact hsr (e.trans e'.symm)
      · simp only [if_pos e] at hk
        simp only [if_neg e'] at hk'
        exact key r m3 h3 k e' hm3 hk' hk
    · rcases hst r m3 h3 hm3 with ⟨e', _, _⟩ | ⟨e', hm3⟩
      · simp only [if_neg e] at hk
        simp only [if_pos e'] at hk'
        exact key s m2 h2 k e hm2 hk hk'
      · simp only [if_neg e] at hk
        simp only [if_neg e'] at hk'
        exact h.apart s r m2 h2 m3 h3 k hsr hm2 hm3 hk hk'
  · rcases hk with hk | hk | hk
    · exact Nat.lt_of_lt_of_le (hlt k hk.1) hK.size
    · exact hT.obLt hO k hk
    · exact hT.mlLt hM k hk
  · have h2 := h.gap2
    by_cases e : k < w.heap.size
    · exact h.gap k (hmo k e hk)
    · omega
  · obtain ⟨A, cc, e1, e2, e3, e4⟩ := h.calls
    exact ⟨A, cc, e1, sl_keepG e2 hK (fun a ha hl => hnm _ (sl_block e2 ha hl) (e4 a ha hl)), e3, fun a ha hl hm => e4 a ha hl (hmo _ (sl_block e2 ha hl) hm)⟩
  · obtain ⟨A, cc, e1, e2, e4⟩ := h.ovs
    exact ⟨A, cc, e1, sl_keepG e2 hK (fun a ha hl => hnm _ (sl_block e2 ha hl) (e4 a ha hl)), fun a ha hl hm => e4 a ha hl (hmo _ (sl_block e2 ha hl) hm)⟩
/-- The events turn. -/
theorem PLa.evsTo (hT : T.Ok) (h : PLa T X w Mu Fo Fm hv ev P) {es' : List Ep} (hl : es'.length = P.evs.length) (hK : Keep (fun k => k < w.heap.size ∧ ev.ownBlock ≠ some k) w w') (hE : EvsAt w' X.Tl Mu ev es') : PLa T X w' Mu Fo Fm hv ev { P with evs := es' } := by
  obtain ⟨f, f1, f2⟩ := h.player
  have hlt := h.lt
  have h6 : ∀ k, X.six k → k < w.heap.size ∧ ev.ownBlock ≠ some k := fun k hk => ⟨hlt k (h.muFix k hk), fun e => (h.muEv k e).2.1 hk⟩
  have hnm : ∀ k, k < w.heap.size → ¬ Mu k → k < w.heap.size ∧ ev.ownBlock ≠ some k := fun k hk hm => ⟨hk, fun e => hm (h.muEv k e).1⟩
  refine ⟨⟨f, rowIs_keep f1 hK (h6 _ (Or.inl rfl)), f2⟩, h.world.keep hK hnm (fun k _ hm => hm) (h6 _ (Or.inr (Or.inr (Or.inr (Or.inl rfl))))) (h6 _ (Or.inr (Or.inr (Or.inr (Or.inr (Or.inl rfl)))))) (h6 _ (Or.inr (Or.inr (Or.inr (Or.inr (Or.inr (Or.inl rfl))))))) (h6 _ (Or.inr (Or.inr (Or.inr (Or.inr (Or.inr (Or.inr rfl))))))),
    h.line.keep hK (h6 _ (Or.inr (Or.inl rfl))) (h6 _ (Or.inr (Or.inr (Or.inl rfl)))) (fun k h1 h2 => hnm k (by have := h.gap2; omega) (fun hm => by have := h.gap k hm; omega)), hT.obKeep h.objs hK (fun k hk => ⟨hlt k (h.muFo k hk).1, fun e => (h.muEv k e).2.2.1 hk⟩), h.hnone, fun t m hh hm => ?_, hE, h.muFix, h.muEv, h.muFo, h.muFm, h.apart, fun k hk => Nat.lt_of_lt_of_le (hlt k hk) hK.size, h.gap, ⟨h.gap2.1, Nat.le_trans h.gap2.2 hK.size⟩, h.ne, ?_, ?_, h.fin, h.thr⟩
  · obtain ⟨a1, a2, a3⟩ := h.hsome t m hh hm
    exact ⟨a1, hT.mlKeep a2 hK (fun k hk => ⟨hlt k (h.muFm t m hh k hm hk).1, fun e => (h.muEv k e).2.2.2 t m hh hm hk⟩), by rw [hl]; exact a3⟩
  · obtain ⟨A, cc, e1, e2, e3, e4⟩ := h.calls
    exact ⟨A, cc, e1, sl_keepG e2 hK (fun a ha hl => hnm _ (sl_block e2 ha hl) (e4 a ha hl)), e3, e4⟩
  · obtain ⟨A, cc, e1, e2, e4⟩ := h.ovs
    exact ⟨A, cc, e1, sl_keepG e2 hK (fun a ha hl => hnm _ (sl_block e2 ha hl) (e4 a ha hl)), e4⟩
/-- A machine goes: what it answered is written no more. -/
theorem PLa.dropped (hT : T.Ok) (h : PLa T X w Mu Fo Fm hv ev P) {t hh : Nat} {m : M} (hm : P.hands t = some (m, hh)) {es' : List Ep} (hl : es'.length = P.evs.length) (hK : Keep (fun k => k < w.heap.size ∧ k ≠ X.ad.pp ∧ ev.ownBlock ≠ some k) w w')
    (hf : ∀ f : Nat → Value, w.rowIs X.ad.pp 141 46 f → w'.rowIs X.ad.pp 141 46 (fun j => if j = 5 + t * 2 then .nilIface else f j)) (hE : EvsAt w' X.Tl (fun k => Mu k ∧ ¬ Fm t k) ev es') :
    PLa T X w' (fun k => Mu k ∧ ¬ Fm t k) Fo Fm (upd hv t .nilIface) ev { P with evs := es', hands := upd P.hands t none } := by
  obtain ⟨f, f1, f2, f3, f4, f5, f6, f7, f8⟩ := h.player
  obtain ⟨n1, n2, n3, n4, n5, n6, n7, n8, n9, n10, n11, n12⟩ := h.types
  have hlt := h.lt
  obtain ⟨a1, a2, a3⟩ := h.hsome t m hh hm
  have hmt := fun k => h.muFm t m hh k hm
  have h6 : ∀ k, X.six k → k ≠ X.ad.pp → k < w.heap.size ∧ k ≠ X.ad.pp ∧ ev.ownBlock ≠ some k := fun k hk h1 => ⟨hlt k (h.muFix k hk), h1, fun e => (h.muEv k e).2.1 hk⟩
  have hnm : ∀ k, k < w.heap.size → ¬ Mu k → k < w.heap.size ∧ k ≠ X.ad.pp ∧ ev.ownBlock ≠ some k := fun k hk hm => ⟨hk, fun e => hm (h.muFix k (Or.inl e)), fun e => hm (h.muEv k e).1⟩
  have hst : ∀ s m2 h2, upd P.hands t none s = some (m2, h2) → s ≠ t ∧ P.hands s = some (m2, h2) := by
    intro s m2 h2 hs
    by_cases e : s = t
    · subst e
      rw [upd_same] at hs
      cases hs
    · rw [upd_other e] at hs
      exact ⟨e, hs⟩
  have sp : ∀ k, k ≠ X.ad.pp → X.six k → k < w.heap.size ∧ k ≠ X.ad.pp ∧ ev.ownBlock ≠ some k := fun k h1 h2 => h6 k h2 h1
  refine ⟨⟨_, hf f f1, ?_, ?_, ?_, ?_, fun s hs => ⟨?_, fun m2 h2 hm2 => ?_, by show (if 5 + s * 2 + 1 = 5 + t * 2 then Value.nilIface else f (5 + s * 2 + 1)).oneCell' = true; rw [if_neg (by omega)]; exact (f6 s hs).2.2⟩, ?_, ?_⟩, h.world.keep hK hnm (fun k _ hm => hm.1) (sp _ n1.symm (Or.inr (Or.inr (Or.inr (Or.inl rfl))))) (sp _ n2.symm (Or.inr (Or.inr (Or.inr (Or.inr (Or.inl rfl)))))) (sp _ n3.symm (Or.inr (Or.inr (Or.inr (Or.inr (Or.inr (Or.inl rfl))))))) (sp _ n4.symm (Or.inr (Or.inr (Or.inr (Or.inr (Or.inr (Or.inr rfl))))))),
    h.line.keep hK (sp _ n5.symm (Or.inr (Or.inl rfl))) (sp _ n6.symm (Or.inr (Or.inr (Or.inl rfl)))) (fun k h1 h2 => hnm k (by have := h.gap2; omega) (fun hm => by have := h.gap k hm; omega)), hT.obKeep h.objs hK (fun k hk => ⟨hlt k (h.muFo k hk).1, fun e => (h.muFo k hk).2 (Or.inl e), fun e => (h.muEv k e).2.2.1 hk⟩), fun s hs hs16 => ?_, fun s m2 h2 hm2 => ?_, hE, fun k hk => ⟨h.muFix k hk, fun e => (hmt k e).2.1 hk⟩, fun k hk => ?_, fun k hk => ?_, fun s m2 h2 k hm2 hk => ?_, fun s r m2 h2 m3 h3 k hsr hm2 hm3 hk hk' => ?_, fun k hk => Nat.lt_of_lt_of_le (hlt k hk.1) hK.size, fun k hk => h.gap k hk.1, ⟨h.gap2.1, Nat.le_trans h.gap2.2 hK.size⟩, h.ne, ?_, ?_, h.fin, h.thr⟩
  · show (if 0 = 5 + t * 2 then _ else f 0) = _
    rw [if_neg (by omega)]; exact f2
  · show (if 1 = 5 + t * 2 then _ else f 1) = _
    rw [if_neg (by omega)]; exact f3
  · show (if 2 = 5 + t * 2 then _ else f 2) = _
    rw [if_neg (by omega)]; exact f4
  · show (if 3 = 5 + t * 2 then _ else f 3) = _
    rw [if_neg (by omega)]; exact f5
  · show (if 5 + s * 2 = 5 + t * 2 then _ else f (5 + s * 2)) = _
    by_cases e : s = t
    · subst e
      rw [if_pos rfl, upd_same]
    · rw [if_neg (by omega), upd_other e]
      exact (f6 s hs).1
  · show (if 5 + s * 2 + 1 = 5 + t * 2 then _ else f (5 + s * 2 + 1)) = _
    rw [if_neg (by omega)]
    exact (f6 s hs).2.1 m2 h2 (hst s m2 h2 hm2).2
  · show (if 37 = 5 + t * 2 then _ else f 37) = _
    rw [if_neg (by omega)]; exact f7
  · show (if 45 = 5 + t * 2 then _ else f 45) = _
    rw [if_neg (by omega)]; exact f8
  · have hs : upd P.hands t none s = none := hs
    by_cases e : s = t
    · subst e
      rw [upd_same]
    · rw [upd_other e] at hs
      rw [upd_other e]
      exact h.hnone s hs hs16
  · obtain ⟨e, hm2⟩ := hst s m2 h2 hm2
    obtain ⟨b1, b2, b3⟩ := h.hsome s m2 h2 hm2
    refine ⟨b1, ?_, by rw [hl]; exact b3⟩
    rw [upd_other e]
    exact hT.mlKeep b2 hK (fun k hk => ⟨hlt k (h.muFm s m2 h2 k hm2 hk).1, fun e => (h.muFm s m2 h2 k hm2 hk).2.1 (Or.inl e), fun e => (h.muEv k e).2.2.2 s m2 h2 hm2 hk⟩)
  · obtain ⟨b1, b2, b3, b4⟩ := h.muEv k hk
    exact ⟨⟨b1, b4 t m hh hm⟩, b2, b3, fun s m2 h2 hm2 => b4 s m2 h2 (hst s m2 h2 hm2).2⟩
  · exact ⟨⟨(h.muFo k hk).1, fun e => (hmt k e).2.2 hk⟩, (h.muFo k hk).2⟩
  · obtain ⟨e, hm2⟩ := hst s m2 h2 hm2
    obtain ⟨b1, b2, b3⟩ := h.muFm s m2 h2 k hm2 hk
    exact ⟨⟨b1, h.apart s t m2 h2 m hh k e hm2 hm hk⟩, b2, b3⟩
  · exact h.apart s r m2 h2 m3 h3 k hsr (hst s m2 h2 hm2).2 (hst r m3 h3 hm3).2 hk hk'
  · obtain ⟨A, cc, e1, e2, e3, e4⟩ := h.calls
    exact ⟨A, cc, e1, sl_keepG e2 hK (fun a ha hl => hnm _ (sl_block e2 ha hl) (e4 a ha hl)), e3, fun a ha hl hm => e4 a ha hl hm.1⟩
  · obtain ⟨A, cc, e1, e2, e4⟩ := h.ovs
    exact ⟨A, cc, e1, sl_keepG e2 hK (fun a ha hl => hnm _ (sl_block e2 ha hl) (e4 a ha hl)), fun a ha hl hm => e4 a ha hl hm.1⟩
end
end Go.Proofs.YtfghmlpjbedomaaGreat
