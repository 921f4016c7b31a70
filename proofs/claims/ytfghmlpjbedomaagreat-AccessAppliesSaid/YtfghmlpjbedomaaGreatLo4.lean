/- A play on a loom: what stays, and what a thread's beginning leaves, in plain words for memory. -/
import Derived.Test.YtfghmlpjbedomaaGreatLo3
namespace Go.Proofs.YtfghmlpjbedomaaGreat
open Go.RowKit

theorem LineAt.keep {w w' : World} {b g B T : Nat} {rem : Int → List Nat} {S : Nat → Prop} (h : LineAt w b g B T rem) (hk : Keep S w w') (h1 : S b) (h2 : S g) (h3 : ∀ k, B ≤ k → k < T → S k) : LineAt w' b g B T rem := by
  obtain ⟨left, hl⟩ := h.line
  obtain ⟨m, m1, m2, m3⟩ := h.map
  refine ⟨⟨left, (hk.block _ h1).trans hl⟩, ⟨m, m1.of_block (hk.block _ h2), m2, fun p v hv => ?_⟩, h.apart⟩
  obtain ⟨g1, g2⟩ := m3 p v hv
  exact ⟨sl_keepB g1 hk (fun A n c a e1 e2 _ => by have := g2 A n c a e1 e2; exact h3 _ this.1 this.2), g2⟩
theorem sl_keepG {α : Type} {en : α → List Value} {sz : Nat} {w w' : World} {A : Option Addr} {n c : Nat} {xs : List α} {S : Nat → Prop} (h : Sl en sz w (.slice A n c) xs) (hk : Keep S w w') (hS : ∀ a : Addr, A = some a → 0 < xs.length → S a.block) : Sl en sz w' (.slice A n c) xs := by
  obtain ⟨A', c', e, h1, h2, h3⟩ := h
  cases e
  refine ⟨A, c, rfl, h1, h2, fun k x hx => ?_⟩
  obtain ⟨b, o, e', hb, hc⟩ := h3 k x hx
  refine ⟨b, o, e', Nat.lt_of_lt_of_le hb hk.size, fun j u hj => ?_⟩
  exact (hk.cell (p := ⟨b, o + k * sz + j, none⟩) (hS ⟨b, o, none⟩ e' (Nat.lt_of_le_of_lt (Nat.zero_le _) (List.getElem?_eq_some_iff.1 hx).1))).trans (hc j u hj)
theorem sl_block {α : Type} {en : α → List Value} {sz : Nat} {w : World} {A : Option Addr} {n c : Nat} {xs : List α} (h : Sl en sz w (.slice A n c) xs) {a : Addr} (ha : A = some a) (hl : 0 < xs.length) : a.block < w.heap.size := by
  obtain ⟨A', c', e, _, _, h3⟩ := h
  cases e
  obtain ⟨b, o, e', hb, _⟩ := h3 0 _ (List.getElem?_eq_getElem hl)
  rw [ha] at e'
  cases e'
  exact hb

theorem owns_keepV {w w' : World} {B : Nat} {e : TypeId} {sz n : Nat} {v : Value} {xs : List Value} {S : Nat → Prop} (h : w.ownsRow B e sz v n xs) (hk : Keep S w w') (hS : ∀ k, v.ownBlock = some k → S k) : w'.ownsRow B e sz v n xs := by
  obtain ⟨g1, g2 | ⟨g, cap, cur, e1, e2, e3, e4⟩⟩ := h
  · exact ⟨g1, Or.inl g2⟩
  · subst e1
    exact ⟨g1, Or.inr ⟨g, cap, cur, rfl, e2, (hk.block g (hS g rfl)).trans e3, e4⟩⟩
theorem flat_snoc {α : Type} (l : List α) (x : α) (en : α → List Value) : (l ++ [x]).flatMap en = l.flatMap en ++ en x := by simp
/-- An event more. -/
theorem EvsAt.push {w w' : World} {B : Nat} {Mu : Nat → Prop} {v v' : Value} {es : List Ep} {i : Nat} {now : Int} (_h : EvsAt w B Mu v es) (hk : Keep (fun k => k < w.heap.size ∧ ¬ Mu k) w w') (raw : List Ev) (_hr : w.ownsRow B 66 8 v es.length (raw.flatMap evEnc)) (hl : raw.length = es.length)
    (he : ∀ (i : Nat) (x : Ev) (e : Ep), raw[i]? = some x → es[i]? = some e → EvIs w Mu x e) (ho : w'.ownsRow B 66 8 v' (es.length + 1) (raw.flatMap evEnc ++ [.int .i64 i, .int .i64 now, .int .i64 0, .int .i64 0, .int .i64 0, .int .u64 0, .slice none 0 0, .slice none 0 0])) {Mu' : Nat → Prop} (hM : ∀ k, k < w.heap.size → Mu' k → Mu k) :
    EvsAt w' B Mu' v' (es ++ [⟨i, now, 0, 0, ⟨0, 0, []⟩, []⟩]) := by
  refine ⟨raw ++ [⟨i, now, 0, 0, 0, 0, none, 0, 0, none, 0, 0⟩], ?_, by simp [hl], fun j x e hx he' => ?_⟩
  · rw [flat_snoc, List.length_append]
    exact ho
  · rcases snoc_get hx with ⟨hj, hx⟩ | ⟨hj, rfl⟩
    · have he2 : es[j]? = some e := by
        rcases snoc_get he' with ⟨_, h⟩ | ⟨h, _⟩
        · exact h
        · omega
      exact (he j x e hx he2).keep hk (fun k h1 hk => ⟨h1, hk⟩) hM
    · subst hj
      rw [hl] at he'
      rw [snoc_new] at he'
      cases he'
      exact ⟨rfl, rfl, rfl, rfl, rfl, rfl, LstIs.nil _ _, KeyIs.nil _ _⟩
theorem ms_upd {M O : Type} (P : Ps M O) (t : Nat) (x : Option (M × Nat)) : (fun s => (upd P.hands t x s).map Prod.fst) = upd P.ms t (x.map Prod.fst) := by
  funext s
  by_cases h : s = t
  · subst h
    rw [upd_same, upd_same]
  · rw [upd_other h, upd_other h]
    rfl
section
variable {M O : Type} {T : Th M O} {X : Fix} {w w' : World} {Mu Fo : Nat → Prop} {Fm : Nat → Nat → Prop} {hv : Nat → Value} {ev : Value} {P : Ps M O}
theorem PLa.types (h : PLa T X w Mu Fo Fm hv ev P) : X.ad.pp ≠ X.ad.pw ∧ X.ad.pp ≠ X.ad.pm ∧ X.ad.pp ≠ X.ad.px ∧ X.ad.pp ≠ X.ad.pt ∧ X.ad.pp ≠ X.ad.pl ∧ X.ad.pp ≠ X.ad.pg ∧ X.ad.pw ≠ X.ad.pm ∧ X.ad.pw ≠ X.ad.px ∧ X.ad.pw ≠ X.ad.pt ∧ X.ad.pw ≠ X.ad.pl ∧ X.ad.pw ≠ X.ad.pg ∧ X.ad.pt ≠ X.ad.pm := by
  obtain ⟨f, ⟨c1, h1, _⟩, _⟩ := h.player
  obtain ⟨f', ⟨c2, h2, _⟩, _⟩ := h.world.cells
  obtain ⟨_, h3, _⟩ := h.world.mem.blk
  obtain ⟨_, h4, _⟩ := h.world.mem.row
  obtain ⟨_, ⟨_, _, h5, _⟩, _⟩ := h.world.notes
  obtain ⟨_, h6⟩ := h.line.line
  obtain ⟨_, ⟨_, _, h7, _⟩, _⟩ := h.line.map
  refine ⟨?_, ?_, ?_, ?_, ?_, ?_, ?_, ?_, ?_, ?_, ?_, ?_⟩ <;> intro e
  · rw [e, h2] at h1; injection h1 with h1; injection h1 with _ h1 _; exact absurd h1 (by decide)
  · rw [e, h3] at h1; injection h1 with h1; injection h1 with _ h1 _; exact absurd h1 (by decide)
  · rw [e, h4] at h1; injection h1 with h1; injection h1 with _ h1 _; exact absurd h1 (by decide)
  · rw [e, h5] at h1; cases h1
  · rw [e, h6] at h1; injection h1 with h1; injection h1 with _ h1 _; exact absurd h1 (by decide)
  · rw [e, h7] at h1; cases h1
  · rw [e, h3] at h2; injection h2 with h1; injection h1 with _ h1 _; exact absurd h1 (by decide)
  · rw [e, h4] at h2; injection h2 with h1; injection h1 with _ h1 _; exact absurd h1 (by decide)
  · rw [e, h5] at h2; cases h2
  · rw [e, h6] at h2; injection h2 with h1; injection h1 with _ h1 _; exact absurd h1 (by decide)
  · rw [e, h7] at h2; cases h2
  · rw [e, h3] at h5; cases h5
/-- What a thread's beginning leaves. -/
theorem PLa.start (hT : T.Ok) (h : PLa T X w Mu Fo Fm hv ev P) {t i : Nat} {c : Cl} (ht : t < 16) (hn : P.hands t = none) (hc : c.thread = t) {f g : Nat → Value} {u ev' : Value} {Fo' Fm' : Nat → Prop} {Z : Nat}
    (hf : w.rowIs X.ad.pp 141 46 f ∧ f 0 = .pointer (some ⟨X.ad.pw, 0, none⟩) ∧ f 1 = X.OV ∧ f 2 = X.CV ∧ f 3 = .pointer (some ⟨X.ad.pl, 0, none⟩) ∧ (∀ t, t < 16 → f (5 + t * 2) = hv t ∧ (∀ m h, P.hands t = some (m, h) → f (5 + t * 2 + 1) = .int .i64 (h : Nat)) ∧ (f (5 + t * 2 + 1)).oneCell' = true) ∧ f 37 = ev ∧ f 45 = .int .i64 P.idle)
    (hg : w.rowIs X.ad.pw 134 35 g ∧ g 0 = .pointer (some ⟨X.ad.pm, 0, none⟩) ∧ g 1 = .int .i64 P.lw.now ∧ g 34 = .map (some X.ad.pt) ∧ ∀ t, t < 16 → g (2 + t) = .int .i64 (P.lw.inv t) ∧ KeyIs w Mu (g (18 + t)) (P.lw.marks t))
    (hpp : w'.rowIs X.ad.pp 141 46 (fun j => if j = 5 + t * 2 then u else if j = 37 then ev' else if j = 5 + t * 2 + 1 then .int .i64 (P.evs.length : Nat) else f j))
    (hpw : w'.rowIs X.ad.pw 134 35 (fun j => if j = 18 + t then .slice none 0 0 else if j = 2 + t then .int .i64 P.lw.now else g j))
    (hK : Keep (fun k => k < w.heap.size ∧ k ≠ X.ad.pp ∧ k ≠ X.ad.pw ∧ ev.ownBlock ≠ some k ∧ ¬ Fo k) w w')
    (hev : EvsAt w' X.Tl (fun k => Mu k ∨ ev'.ownBlock = some k ∨ Fo' k ∨ Fm' k) ev' (P.evs ++ [⟨i, P.lw.now, 0, 0, ⟨0, 0, []⟩, []⟩]))
    (hevb : ∀ k, ev'.ownBlock = some k → ev.ownBlock = some k ∨ (w.heap.size ≤ k ∧ k < Z)) (hZ : w.heap.size ≤ Z)
    (hO : T.OB w' Fo' (T.G.start P.obj t c).1) (hM : T.ML w' Fm' u (T.G.start P.obj t c).2) (hFo : ∀ k, Fo' k → Fo k ∨ Z ≤ k) (hFm : ∀ k, Fm' k → Fo k ∨ Z ≤ k) (hFF : ∀ k, Fo' k → ¬ Fm' k) (hevz : ∀ k, ev'.ownBlock = some k → k < w'.heap.size) :
    PLa T X w' (fun k => Mu k ∨ ev'.ownBlock = some k ∨ Fo' k ∨ Fm' k) Fo' (fun s => if s = t then Fm' else Fm s) (upd hv t u) ev' (P.start T.G t i c) := by
  obtain ⟨n1, n2, n3, n4, n5, n6, n7, n8, n9, n10, n11, n12⟩ := h.types
  have hlt := h.lt
  have hsix : ∀ k, X.six k → k < w.heap.size := fun k hk => hlt k (h.muFix k hk)
  have hevlt : ∀ k, ev.ownBlock = some k → k < w.heap.size := fun k hk => hlt k (h.muEv k hk).1
  have hFolt : ∀ k, Fo k → k < w.heap.size := fun k hk => hlt k (h.muFo k hk).1
  have h6 : ∀ k, k = X.ad.pm ∨ k = X.ad.px ∨ k = X.ad.pt ∨ k = X.ad.pl ∨ k = X.ad.pg → X.six k := by
    intro k hk
    unfold Fix.six Adr.four
    omega
  have hS6 : ∀ k, k = X.ad.pm ∨ k = X.ad.px ∨ k = X.ad.pt ∨ k = X.ad.pl ∨ k = X.ad.pg → k < w.heap.size ∧ k ≠ X.ad.pp ∧ k ≠ X.ad.pw ∧ ev.ownBlock ≠ some k ∧ ¬ Fo k := by
    intro k hk
    have hs := h6 k hk
    refine ⟨hsix k hs, ?_, ?_, fun e => (h.muEv k e).2.1 hs, fun e => (h.muFo k e).2 hs⟩
    · rintro rfl; rcases hk with hk | hk | hk | hk | hk <;> first | exact n2 hk | exact n3 hk | exact n4 hk | exact n5 hk | exact n6 hk
    · rintro rfl; rcases hk with hk | hk | hk | hk | hk <;> first | exact n7 hk | exact n8 hk | exact n9 hk | exact n10 hk | exact n11 hk
  have hnm : ∀ k, k < w.heap.size → ¬ Mu k → k < w.heap.size ∧ k ≠ X.ad.pp ∧ k ≠ X.ad.pw ∧ ev.ownBlock ≠ some k ∧ ¬ Fo k := by
    intro k hk hm
    exact ⟨hk, fun e => hm (h.muFix k (by unfold Fix.six; exact Or.inl e)), fun e => hm (h.muFix k (by unfold Fix.six Adr.four; exact Or.inr (Or.inr (Or.inr (Or.inl e))))), fun e => hm (h.muEv k e).1, fun e => hm (h.muFo k e).1⟩
  have hmo : ∀ k, k < w.heap.size → (Mu k ∨ ev'.ownBlock = some k ∨ Fo' k ∨ Fm' k) → Mu k := by
    intro k hk hm
    rcases hm with hm | hm | hm | hm
    · exact hm
    · rcases hevb k hm with hm | ⟨hm, _⟩
      · exact (h.muEv k hm).1
      · omega
    · rcases hFo k hm with hm | hm
      · exact (h.muFo k hm).1
      · omega
    · rcases hFm k hm with hm | hm
      · exact (h.muFo k hm).1
      · omega
  have hFmS : ∀ s m hh k, s ≠ t → P.hands s = some (m, hh) → Fm s k → k < w.heap.size ∧ k ≠ X.ad.pp ∧ k ≠ X.ad.pw ∧ ev.ownBlock ≠ some k ∧ ¬ Fo k := by
    intro s m hh k hs hm hk
    obtain ⟨a1, a2, a3⟩ := h.muFm s m hh k hm hk
    exact ⟨hlt k a1, fun e => a2 (by unfold Fix.six; exact Or.inl e), fun e => a2 (by unfold Fix.six Adr.four; exact Or.inr (Or.inr (Or.inr (Or.inl e)))), fun e => (h.muEv k e).2.2.2 s m hh hm hk, a3⟩
  have hst : ∀ s m hh, (P.start T.G t i c).hands s = some (m, hh) → (s = t ∧ m = (T.G.start P.obj t c).2 ∧ hh = P.evs.length) ∨ (s ≠ t ∧ P.hands s = some (m, hh)) := by
    intro s m hh hs
    have hs : upd P.hands t (some ((T.G.start P.obj t c).2, P.evs.length)) s = some (m, hh) := hs
    by_cases e : s = t
    · subst e
      rw [upd_same] at hs
      cases hs
      exact .inl ⟨rfl, rfl, rfl⟩
    · rw [upd_other e] at hs
      exact .inr ⟨e, hs⟩
  obtain ⟨g1, g2, g3, g4, g5⟩ := hg
  obtain ⟨f1, f2, f3, f4, f5, f6, f7, f8⟩ := hf
  refine ⟨⟨_, hpp, ?_, ?_, ?_, ?_, ?_, ?_, ?_⟩, ⟨?_, ⟨_, hpw, ?_, ?_, ?_, ?_⟩, ?_⟩, ?_, hO, ?_, ?_, hev, ?_, ?_, ?_, ?_, ?_, ?_, ?_, ?_, h.ne, ?_, ?_, h.fin, h.thr⟩
  · show (if 0 = 5 + t * 2 then u else if 0 = 37 then ev' else if 0 = 5 + t * 2 + 1 then _ else f 0) = _
    rw [if_neg (by omega), if_neg (by omega), if_neg (by omega)]; exact f2
  · show (if 1 = 5 + t * 2 then u else if 1 = 37 then ev' else if 1 = 5 + t * 2 + 1 then _ else f 1) = _
    rw [if_neg (by omega), if_neg (by omega), if_neg (by omega)]; exact f3
  · show (if 2 = 5 + t * 2 then u else if 2 = 37 then ev' else if 2 = 5 + t * 2 + 1 then _ else f 2) = _
    rw [if_neg (by omega), if_neg (by omega), if_neg (by omega)]; exact f4
  · show (if 3 = 5 + t * 2 then u else if 3 = 37 then ev' else if 3 = 5 + t * 2 + 1 then _ else f 3) = _
    rw [if_neg (by omega), if_neg (by omega), if_neg (by omega)]; exact f5
  · intro s hs
    refine ⟨?_, fun m hh hm => ?_, ?_⟩
    · show (if 5 + s * 2 = 5 + t * 2 then u else if 5 + s * 2 = 37 then ev' else if 5 + s * 2 = 5 + t * 2 + 1 then _ else f (5 + s * 2)) = _
      by_cases e : s = t
      · subst e
        rw [if_pos rfl, upd_same]
      · rw [if_neg (by omega), if_neg (by omega), if_neg (by omega), upd_other e]
        exact (f6 s hs).1
    · show (if 5 + s * 2 + 1 = 5 + t * 2 then u else if 5 + s * 2 + 1 = 37 then ev' else if 5 + s * 2 + 1 = 5 + t * 2 + 1 then _ else f (5 + s * 2 + 1)) = _
      rcases hst s m hh hm with ⟨rfl, _, rfl⟩ | ⟨e, hm⟩
      · rw [if_neg (by omega), if_neg (by omega), if_pos rfl]
      · rw [if_neg (by omega), if_neg (by omega), if_neg (by omega)]
        exact (f6 s hs).2.1 m hh hm
    · show (if 5 + s * 2 + 1 = 5 + t * 2 then u else if 5 + s * 2 + 1 = 37 then ev' else if 5 + s * 2 + 1 = 5 + t * 2 + 1 then Value.int .i64 (P.evs.length : Nat) else f (5 + s * 2 + 1)).oneCell' = true
      by_cases e : s = t
      · rw [if_neg (by omega), if_neg (by omega), if_pos (by omega)]
        rfl
      · rw [if_neg (by omega), if_neg (by omega), if_neg (by omega)]
        exact (f6 s hs).2.2
  · show (if 37 = 5 + t * 2 then u else if 37 = 37 then ev' else if 37 = 5 + t * 2 + 1 then _ else f 37) = _
    rw [if_neg (by omega), if_pos rfl]
  · show (if 45 = 5 + t * 2 then u else if 45 = 37 then ev' else if 45 = 5 + t * 2 + 1 then _ else f 45) = _
    rw [if_neg (by omega), if_neg (by omega), if_neg (by omega)]; exact f8
  · exact h.world.mem.of_blocks (hK.block _ (hS6 _ (by simp))) (hK.block _ (hS6 _ (by simp)))
  · show (if 0 = 18 + t then _ else if 0 = 2 + t then _ else g 0) = _
    rw [if_neg (by omega), if_neg (by omega)]; exact g2
  · show (if 1 = 18 + t then _ else if 1 = 2 + t then _ else g 1) = _
    rw [if_neg (by omega), if_neg (by omega)]; exact g3
  · show (if 34 = 18 + t then _ else if 34 = 2 + t then _ else g 34) = _
    rw [if_neg (by omega), if_neg (by omega)]; exact g4
  · intro s hs
    refine ⟨?_, ?_⟩
    · show (if 2 + s = 18 + t then _ else if 2 + s = 2 + t then _ else g (2 + s)) = Value.int .i64 (upd P.lw.inv t P.lw.now s)
      by_cases e : s = t
      · subst e
        rw [if_neg (by omega), if_pos rfl, upd_same]
      · rw [if_neg (by omega), if_neg (by omega), upd_other e]
        exact (g5 s hs).1
    · show KeyIs w' _ (if 18 + s = 18 + t then _ else if 18 + s = 2 + t then _ else g (18 + s)) (upd P.lw.marks t [] s)
      by_cases e : s = t
      · subst e
        rw [if_pos rfl, upd_same]
        exact KeyIs.nil _ _
      · rw [if_neg (by omega), if_neg (by omega), upd_other e]
        exact (g5 s hs).2.keep hK hnm hmo
  · obtain ⟨m, m1, m2⟩ := h.world.notes
    refine ⟨m, m1.of_block (hK.block _ (hS6 _ (by simp))), fun a => ?_⟩
    rcases m2 a with h | ⟨v, hv, hk'⟩
    · exact .inl h
    · exact .inr ⟨v, hv, hk'.keep hK hnm hmo⟩
  · refine h.line.keep hK (hS6 _ (by simp)) (hS6 _ (by simp)) (fun k h1 h2 => ?_)
    have := h.gap2
    refine hnm k (by omega) (fun hm => ?_)
    have := h.gap k hm
    omega
  · intro s hs hs16
    have hs : upd P.hands t (some ((T.G.start P.obj t c).2, P.evs.length)) s = none := hs
    by_cases e : s = t
    · subst e
      rw [upd_same] at hs
      cases hs
    · rw [upd_other e] at hs
      rw [upd_other e]
      exact h.hnone s hs hs16
  · intro s m hh hs
    rcases hst s m hh hs with ⟨rfl, rfl, rfl⟩ | ⟨e, hm⟩
    · refine ⟨ht, ?_, ?_⟩
      · rw [if_pos rfl, upd_same]
        exact hM
      · show P.evs.length < (P.evs ++ [_]).length
        simp
    · obtain ⟨a1, a2, a3⟩ := h.hsome s m hh hm
      refine ⟨a1, ?_, ?_⟩
      · rw [if_neg e, upd_other e]
        exact hT.mlKeep a2 hK (fun k hk => hFmS s m hh k e hm hk)
      · show hh < (P.evs ++ [_]).length
        simp
        omega
  · exact fun k hk => Or.inl (h.muFix k hk)
  · intro k hk
    refine ⟨Or.inr (Or.inl hk), ?_, ?_, ?_⟩
    · intro hs
      rcases hevb k hk with h' | ⟨h', _⟩
      · exact (h.muEv k h').2.1 hs
      · have := hsix k hs; omega
    · intro hs
      rcases hevb k hk with h' | ⟨h', h''⟩
      · rcases hFo k hs with h1 | h1
        · exact (h.muEv k h').2.2.1 h1
        · have := hevlt k h'; omega
      · rcases hFo k hs with h1 | h1
        · have := hFolt k h1; omega
        · omega
    · intro s m hh hs hm
      rcases hst s m hh hs with ⟨rfl, rfl, rfl⟩ | ⟨e, hs⟩
      · rw [if_pos rfl] at hm
        rcases hevb k hk with h' | ⟨h', h''⟩
        · rcases hFm k hm with h1 | h1
          · exact (h.muEv k h').2.2.1 h1
          · have := hevlt k h'; omega
        · rcases hFm k hm with h1 | h1
          · have := hFolt k h1; omega
          · omega
      · rw [if_neg e] at hm
        rcases hevb k hk with h' | ⟨h', h''⟩
        · exact (h.muEv k h').2.2.2 s m hh hs hm
        · have := (hFmS s m hh k e hs hm).1; omega
  · intro k hk
    refine ⟨Or.inr (Or.inr (Or.inl hk)), fun hs => ?_⟩
    rcases hFo k hk with h1 | h1
    · exact (h.muFo k h1).2 hs
    · have := hsix k hs; omega
  · intro s m hh k hs hm
    rcases hst s m hh hs with ⟨rfl, rfl, rfl⟩ | ⟨e, hs⟩
    · rw [if_pos rfl] at hm
      refine ⟨Or.inr (Or.inr (Or.inr hm)), fun h6 => ?_, fun h1 => hFF k h1 hm⟩
      rcases hFm k hm with h1 | h1
      · exact (h.muFo k h1).2 h6
      · have := hsix k h6; omega
    · rw [if_neg e] at hm
      obtain ⟨a1, a2, a3⟩ := h.muFm s m hh k hs hm
      refine ⟨Or.inl a1, a2, fun h1 => ?_⟩
      rcases hFo k h1 with h1 | h1
      · exact a3 h1
      · have := hlt k a1; omega
  · intro s r m hh m' hh' k hsr hs hr hk hk'
    have key : ∀ r m' hh' k, r ≠ t → P.hands r = some (m', hh') → Fm r k → ¬ Fm' k := by
      intro r m' hh' k e hr hk hk'
      obtain ⟨a1, a2, a3⟩ := h.muFm r m' hh' k hr hk
      rcases hFm k hk' with h1 | h1
      · exact a3 h1
      · have := hlt k a1; omega
    rcases hst s m hh hs with ⟨e, rfl, rfl⟩ | ⟨e, hs⟩
    · rcases hst r m' hh' hr with ⟨e', _, _⟩ | ⟨e', hr⟩
      · exact hsr (e.trans e'.symm)
      · simp only [if_pos e] at hk
        simp only [if_neg e'] at hk'
        exact key r m' hh' k e' hr hk' hk
    · rcases hst r m' hh' hr with ⟨e', _, _⟩ | ⟨e', hr⟩
      · simp only [if_neg e] at hk
        simp only [if_pos e'] at hk'
        exact key s m hh k e hs hk hk'
      · simp only [if_neg e] at hk
        simp only [if_neg e'] at hk'
        exact h.apart s r m hh m' hh' k hsr hs hr hk hk'
  · intro k hk
    rcases hk with hk | hk | hk | hk
    · exact Nat.lt_of_lt_of_le (hlt k hk) hK.size
    · exact hevz k hk
    · exact hT.obLt hO k hk
    · exact hT.mlLt hM k hk
  · intro k hk
    have h2 := h.gap2
    by_cases e : k < w.heap.size
    · exact h.gap k (hmo k e hk)
    · omega
  · have h2 := h.gap2
    have := hK.size
    omega
  · obtain ⟨A, cc, e1, e2, e3, e4⟩ := h.calls
    exact ⟨A, cc, e1, sl_keepG e2 hK (fun a ha hl => hnm _ (sl_block e2 ha hl) (e4 a ha hl)), e3, fun a ha hl hm => e4 a ha hl (hmo _ (sl_block e2 ha hl) hm)⟩
  · obtain ⟨A, cc, e1, e2, e4⟩ := h.ovs
    exact ⟨A, cc, e1, sl_keepG e2 hK (fun a ha hl => hnm _ (sl_block e2 ha hl) (e4 a ha hl)), fun a ha hl hm => e4 a ha hl (hmo _ (sl_block e2 ha hl) hm)⟩
end
end Go.Proofs.YtfghmlpjbedomaaGreat
