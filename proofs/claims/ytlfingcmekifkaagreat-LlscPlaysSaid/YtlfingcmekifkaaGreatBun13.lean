import Derived.Test.YtlfingcmekifkaaGreatBun12
import Derived.Test.YtlfingcmekifkaaGreatBun10
namespace Go.Proofs.YtlfingcmekifkaaGreat
open Go.RowKit
theorem RtAt.cellX {w : World} {hb wp q nh th : Nat} {g f : Nat → Value} {X : Rv} {T T' : Tp} {W : Rw} (h : RtAt w hb wp q nh th g f X T W) {j : Nat} (v pv lv kv : Value) (_hj : j < 13) (ht : TpF (fun i => if i = q + j then v else g i) q wp th ⟨X.wv, X.lg, X.gv, X.tv, pv, lv, kv⟩ T') (e1 : T'.got = T.got) (e2 : T'.tks = T.tks) (e3 : T'.at_ ≤ T'.got.length) :
    RtAt (w.setCell ⟨hb, q + j, none⟩ v) hb wp q nh th (fun i => if i = q + j then v else g i) f ⟨X.wv, X.lg, X.gv, X.tv, pv, lv, kv⟩ T' W := by
  have hk : Keep (fun k => k ≠ hb) w (w.setCell ⟨hb, q + j, none⟩ v) := (Keep.refl _ w).setCell (by simp) _
  have hn : ∀ k, X.four k → k ≠ hb := fun k hk => (h.ne k hk).1
  refine ⟨⟨rowIs_keep h.mem.row hk h.hw.symm, h.mem.is, owns_keepV h.mem.own hk (fun k hk => hn k (Or.inl hk)), h.mem.ne, h.mem.len⟩, h.now, h.lgf, h.hrow.set (q + j) v, h.qn, ht, ?_, ?_, ?_, h.hw, h.ne, h.a1, h.a2, h.a3, h.a4, h.a5, h.a6, by rw [e1]; exact h.bg, by rw [e2]; exact h.bt, h.bl, e3⟩
  · rw [e1]; exact owns_keepV h.got hk (fun k hk => hn k (Or.inr (Or.inr (Or.inl hk))))
  · rw [e2]; exact owns_keepV h.tks hk (fun k hk => hn k (Or.inr (Or.inr (Or.inr hk))))
  · exact owns_keepV h.log hk (fun k hk => hn k (Or.inr (Or.inl hk)))
theorem RtAt.keep {w w' : World} {hb wp q nh th : Nat} {g f : Nat → Value} {X : Rv} {T : Tp} {W : Rw} {S : Nat → Prop} (h : RtAt w hb wp q nh th g f X T W) (hk : Keep S w w') (h1 : S hb) (h2 : S wp) (h3 : ∀ k, X.four k → S k) : RtAt w' hb wp q nh th g f X T W :=
  ⟨⟨rowIs_keep h.mem.row hk h2, h.mem.is, owns_keepV h.mem.own hk (fun k e => h3 k (Or.inl e)), h.mem.ne, h.mem.len⟩, h.now, h.lgf, rowIs_keep h.hrow hk h1, h.qn, h.tp, owns_keepV h.got hk (fun k e => h3 k (Or.inr (Or.inr (Or.inl e)))), owns_keepV h.tks hk (fun k e => h3 k (Or.inr (Or.inr (Or.inr e)))), owns_keepV h.log hk (fun k e => h3 k (Or.inr (Or.inl e))), h.hw, h.ne, h.a1, h.a2, h.a3, h.a4, h.a5, h.a6, h.bg, h.bt, h.bl, h.ba⟩
structure DoAt (w : World) (hb wp q nh th : Nat) (g f : Nat → Value) (X : Rv) (T : Tp) (W : Rw) (Mu : Nat → Prop) : Prop where
  at_ : RtAt w hb wp q nh th g f X T W
  pr : LstIs w Mu X.pv T.priv
  li : LstIs w Mu X.lv T.list
  ky : KeyIs w Mu X.kv T.key
  mu : Mu hb ∧ Mu wp ∧ ∀ k, X.four k → Mu k
  lt : ∀ k, Mu k → k < w.heap.size
def DoR (w : World) (hb wp q nh th : Nat) (g f : Nat → Value) (X : Rv) (Mu : Nat → Prop) (T' : Tp) (W' : Rw) (w' : World) : Prop :=
  ∃ g' f' X', DoAt w' hb wp q nh th g' f' X' T' W' (fun k => Mu k ∨ X'.four k) ∧ X'.wv = X.wv ∧ (∀ i, (i < q ∨ q + 13 ≤ i) → g' i = g i) ∧ (∀ i, i = 7 ∨ i = 8 → f' i = f i) ∧
    (∀ k, X'.four k → X.four k ∨ w.heap.size ≤ k) ∧ Keep (fun k => k < w.heap.size ∧ k ≠ hb ∧ k ≠ wp ∧ ¬ X.four k) w w'
section
variable {w w' w2 : World} {hb wp q nh th : Nat} {g f : Nat → Value} {X : Rv} {T : Tp} {W : Rw} {Mu : Nat → Prop}
theorem DoAt.start (h : DoAt w hb wp q nh th g f X T W Mu) : DoR w hb wp q nh th g f X Mu T W w := by
  have hM : ∀ k, k < w.heap.size → (Mu k ∨ X.four k) → Mu k := fun k _ hk => by
    rcases hk with hk | hk
    · exact hk
    · exact h.mu.2.2 k hk
  have hr := Keep.refl (fun _ => True) w
  exact ⟨g, f, X, ⟨h.at_, h.pr.keep hr (fun _ _ _ => trivial) hM, h.li.keep hr (fun _ _ _ => trivial) hM, h.ky.keep hr (fun _ _ _ => trivial) hM, ⟨Or.inl h.mu.1, Or.inl h.mu.2.1, fun k hk => Or.inr hk⟩, fun k hk => by rcases hk with hk | hk; exact h.lt k hk; exact h.at_.lt4 k hk⟩, rfl, fun _ _ => rfl, fun _ _ => rfl, fun k hk => Or.inl hk, Keep.refl _ _⟩
theorem DoR.acc {T1 T2 : Tp} {W1 W2 : Rw} (h : DoR w hb wp q nh th g f X Mu T1 W1 w') (hp : T2.priv = T1.priv ∧ T2.list = T1.list ∧ T2.key = T1.key) : ∃ g1 f1 X1, RtAt w' hb wp q nh th g1 f1 X1 T1 W1 ∧ ∀ w2, RtQ w' hb wp q nh th g1 f1 X1 T2 W2 w2 → DoR w hb wp q nh th g f X Mu T2 W2 w2 := by
  obtain ⟨g1, f1, X1, h1, h2, h3, h4, h5, h6⟩ := h
  refine ⟨g1, f1, X1, h1.at_, fun w2 hQ => ?_⟩
  obtain ⟨g2, f2, X2, q1, q2, q3, q4, q5, q6, q7, q8, q9⟩ := hQ
  have hz := h6.size
  have hS : ∀ k, k < w'.heap.size → ¬ (Mu k ∨ X1.four k) → k < w'.heap.size ∧ k ≠ hb ∧ k ≠ wp ∧ ¬ X1.four k := fun k k1 k2 => ⟨k1, fun e => by subst e; exact (h1.mu.1).elim (fun a => k2 (Or.inl a)) (fun a => k2 (Or.inr a)), fun e => by subst e; exact (h1.mu.2.1).elim (fun a => k2 (Or.inl a)) (fun a => k2 (Or.inr a)), fun e => k2 (Or.inr e)⟩
  have hM : ∀ k, k < w'.heap.size → (Mu k ∨ X2.four k) → (Mu k ∨ X1.four k) := fun k k1 k2 => by
    rcases k2 with k2 | k2
    · exact Or.inl k2
    · rcases q8 k k2 with k3 | k3
      · exact Or.inr k3
      · omega
  have hlt : ∀ k, Mu k → k < w'.heap.size := fun k hk => h1.lt k (Or.inl hk)
  refine ⟨g2, f2, X2, ⟨q1, ?_, ?_, ?_, ⟨?_, ?_, fun k hk => Or.inr hk⟩, fun k hk => ?_⟩, by rw [q2, h2], fun i hi => (q6 i hi).trans (h3 i hi), fun i hi => (q7 i hi).trans (h4 i hi), fun k hk => ?_, ?_⟩
  · rw [q3, hp.1]; exact h1.pr.keep q9 hS hM
  · rw [q4, hp.2.1]; exact h1.li.keep q9 hS hM
  · rw [q5, hp.2.2]; exact h1.ky.keep q9 hS hM
  · rcases h1.mu.1 with a | a
    · exact Or.inl a
    · exact absurd rfl (h1.at_.ne hb a).1
  · rcases h1.mu.2.1 with a | a
    · exact Or.inl a
    · exact absurd rfl (h1.at_.ne wp a).2
  · rcases hk with hk | hk
    · exact Nat.lt_of_lt_of_le (hlt k hk) q9.size
    · exact q1.lt4 k hk
  · rcases q8 k hk with k3 | k3
    · exact h5 k k3
    · exact Or.inr (by omega)
  · exact h6.trans (q9.mono (fun k hk => ⟨by omega, hk.2.1, hk.2.2.1, fun e => by
      rcases h5 k e with e | e
      · exact hk.2.2.2 e
      · omega⟩))
theorem DoR.grow {T1 : Tp} {W1 : Rw} (h : DoR w hb wp q nh th g f X Mu T1 W1 w') (hb' : Below w'.heap.size w' w2) : DoR w hb wp q nh th g f X Mu T1 W1 w2 := by
  obtain ⟨g1, f1, X1, h1, h2, h3, h4, h5, h6⟩ := h
  have hk := Keep.of_below (K := fun k => k < w'.heap.size) hb' (fun k hk => hk)
  have hz := h6.size
  refine ⟨g1, f1, X1, ⟨h1.at_.keep hk h1.at_.hrow.lt h1.at_.mem.row.lt (h1.at_.lt4), h1.pr.keep hk (fun k k1 _ => k1) (fun _ _ h => h), h1.li.keep hk (fun k k1 _ => k1) (fun _ _ h => h), h1.ky.keep hk (fun k k1 _ => k1) (fun _ _ h => h), h1.mu, fun k k1 => Nat.lt_of_lt_of_le (h1.lt k k1) hk.size⟩, h2, h3, h4, h5, h6.trans (hk.mono (fun k k1 => by omega))⟩
theorem DoR.num {T1 T2 : Tp} {W1 : Rw} (h : DoR w hb wp q nh th g f X Mu T1 W1 w') {j : Nat} (v : Value) (hj : j < 13) (ht : ∀ g X, TpF g q wp th X T1 → TpF (fun i => if i = q + j then v else g i) q wp th X T2) (e1 : T2.got = T1.got) (e2 : T2.tks = T1.tks) (e3 : T2.at_ = T1.at_) (hp : T2.priv = T1.priv ∧ T2.list = T1.list ∧ T2.key = T1.key) : DoR w hb wp q nh th g f X Mu T2 W1 (w'.setCell ⟨hb, q + j, none⟩ v) := by
  obtain ⟨g1, f1, X1, h1, h2, h3, h4, h5, h6⟩ := h
  have hk : Keep (fun k => k ≠ hb) w' (w'.setCell ⟨hb, q + j, none⟩ v) := (Keep.refl _ w').setCell (by simp) _
  have hS : ∀ k, k < w'.heap.size → ¬ (Mu k ∨ X1.four k) → k ≠ hb := fun k k1 k2 e => by subst e; exact k2 h1.mu.1
  refine ⟨_, f1, X1, ⟨h1.at_.cell v hj (ht _ _ h1.at_.tp) e1 e2 (by rw [e3, e1]; exact h1.at_.ba), ?_, ?_, ?_, h1.mu, fun k k1 => Nat.lt_of_lt_of_le (h1.lt k k1) hk.size⟩, h2, fun i hi => ?_, h4, h5, h6.setCell (fun hh => hh.2.1 rfl) _⟩
  · rw [hp.1]; exact h1.pr.keep hk hS (fun _ _ h => h)
  · rw [hp.2.1]; exact h1.li.keep hk hS (fun _ _ h => h)
  · rw [hp.2.2]; exact h1.ky.keep hk hS (fun _ _ h => h)
  · show (if i = q + j then v else g1 i) = g i
    rw [if_neg (by omega)]
    exact h3 i hi
theorem DoR.prv {T1 : Tp} {W1 : Rw} {l : List Int} (h : DoR w hb wp q nh th g f X Mu T1 W1 w') (v : Value) (hv : LstIs w' (fun k => k < w.heap.size ∨ Mu k ∨ ∃ g1 f1 X1, RtAt w' hb wp q nh th g1 f1 X1 T1 W1 ∧ X1.four k) v l) : DoR w hb wp q nh th g f X Mu { T1 with priv := l } W1 (w'.setCell ⟨hb, q + 8, none⟩ v) := by
  obtain ⟨g1, f1, X1, h1, h2, h3, h4, h5, h6⟩ := h
  have hk : Keep (fun k => k ≠ hb) w' (w'.setCell ⟨hb, q + 8, none⟩ v) := (Keep.refl _ w').setCell (by simp) _
  have hS : ∀ k, k < w'.heap.size → ¬ (Mu k ∨ X1.four k) → k ≠ hb := fun k k1 k2 e => by subst e; exact k2 h1.mu.1
  refine ⟨_, f1, ⟨X1.wv, X1.lg, X1.gv, X1.tv, v, X1.lv, X1.kv⟩, ⟨h1.at_.cellX (T' := { T1 with priv := l }) v v X1.lv X1.kv (show 8 < 13 by decide) ?_ rfl rfl h1.at_.ba, ?_, ?_, ?_, h1.mu, fun k k1 => Nat.lt_of_lt_of_le (h1.lt k k1) hk.size⟩, h2, fun i hi => ?_, h4, h5, h6.setCell (fun hh => hh.2.1 rfl) _⟩
  · obtain ⟨b0, b1, b2, b3, b4, b5, b6, b7, b8, b9, b10, b11, b12⟩ := h1.at_.tp
    refine ⟨?_, ?_, ?_, ?_, ?_, ?_, ?_, ?_, ?_, ?_, ?_, ?_, ?_⟩
    all_goals first | (rw [if_neg (by omega)]; assumption) | (rw [if_pos (by omega)]; rfl) | (rw [if_pos (by omega)])
  · refine hv.keep hk (fun k k1 k2 e => ?_) (fun k k1 k2 => ?_)
    · subst e
      rcases h1.mu.1 with a | a
      · exact k2 (Or.inr (Or.inl a))
      · exact absurd rfl (h1.at_.ne k a).1
    · rcases k2 with k2 | k2
      · exact Or.inr (Or.inl k2)
      · exact Or.inr (Or.inr ⟨g1, f1, X1, h1.at_, k2⟩)
  · exact h1.li.keep hk hS (fun _ _ h => h)
  · exact h1.ky.keep hk hS (fun _ _ h => h)
  · show (if i = q + 8 then v else g1 i) = g i
    rw [if_neg (by omega)]
    exact h3 i hi
end
end Go.Proofs.YtlfingcmekifkaaGreat

namespace Go.Proofs.YtlfingcmekifkaaGreat
open Go.RowKit
section
variable {M O : Type} {G : Gm M O} {D : Dof} {no : Nat}
structure Sim (A : Alike G D no) (cs : List Cl) (P : Ps M O) (R : Rs) : Prop where
  rel : WRel P.lw R.w
  fin : R.fin = P.fin
  evs : R.evs = P.evs
  idle : R.idle = P.idle
  hno : ∀ t, P.hands t = none → (R.hands t).opn = false ∧ A.own P.obj t (R.hands t).own
  hso : ∀ t m h, P.hands t = some (m, h) → (R.hands t).opn = true ∧ (R.hands t).event = h ∧ ∃ i, nowF cs P.fin t = some i ∧ A.rep P.obj t (callOf cs i) (R.hands t).own (R.hands t).tape m
theorem Sim.tick {A : Alike G D no} {cs : List Cl} {P : Ps M O} {R : Rs} (S : Sim A cs P R) : Sim A cs P.tick R.tick := by
  obtain ⟨a, b, c, d⟩ := S.rel
  exact ⟨⟨a, by show R.w.now + 1 = P.lw.now + 1; rw [b], c, d⟩, S.fin, S.evs, S.idle, S.hno, S.hso⟩
theorem Sim.begin {A : Alike G D no} (hA : A.Ok) {cs : List Cl} {P : Ps M O} {R : Rs} (S : Sim A cs P R) {t i : Nat} (hn : P.hands t = none) (hi : nowF cs P.fin t = some i) (ht : (callOf cs i).thread = t) (h16 : t < 16) (hu : ClB (callOf cs i)) : Sim A cs (P.start G t i (callOf cs i)) (R.begin t i) := by
  obtain ⟨a, b, c, d⟩ := S.rel
  refine ⟨⟨a, b, fun s => ?_, d⟩, S.fin, ?_, S.idle, fun s hs => ?_, fun s m h hs => ?_⟩
  · show upd R.w.marks t [] s = upd P.lw.marks t [] s
    by_cases e : s = t
    · subst e; rw [upd_same, upd_same]
    · rw [upd_other e, upd_other e]; exact c s
  · show R.evs ++ [_] = P.evs ++ [_]
    rw [S.evs, b]
  · have hst : s ≠ t := by
      rintro rfl
      have hs : upd P.hands s _ s = none := hs
      rw [upd_same] at hs
      cases hs
    have hs : upd P.hands t _ s = none := hs
    rw [upd_other hst] at hs
    obtain ⟨q1, q2⟩ := S.hno s hs
    have e1 : (R.begin t i).hands s = R.hands s := upd_other hst
    rw [e1]
    exact ⟨q1, hA.startO hst q2⟩
  · have hs : upd P.hands t _ s = some (m, h) := hs
    by_cases hst : s = t
    · subst hst
      rw [upd_same] at hs
      cases hs
      have e1 : (R.begin s i).hands s = { R.hands s with opn := true, event := R.evs.length, tape := Tp.new R.w.now } := upd_same _ _ _
      rw [e1]
      exact ⟨rfl, by show R.evs.length = P.evs.length; rw [S.evs], i, hi, hA.start (S.hno s hn).2 ht h16 hu⟩
    · rw [upd_other hst] at hs
      obtain ⟨q1, q2, j, q3, q4⟩ := S.hso s m h hs
      have e1 : (R.begin t i).hands s = R.hands s := upd_other hst
      rw [e1]
      exact ⟨q1, q2, j, q3, hA.startR hst q4⟩
theorem Sim.step {A : Alike G D no} (hA : A.Ok) {cs : List Cl} {P : Ps M O} {R : Rs} (S : Sim A cs P R) {t i : Nat} {m : M} {h : Nat} (hm : P.hands t = some (m, h)) (hi : nowF cs P.fin t = some i) (hil : i < cs.length) (ht : (callOf cs i).thread = t) (h16 : t < 16) (hu : ClB (callOf cs i)) : Sim A cs (P.step G t i m h) (R.step D no t i (callOf cs i)) := by
  obtain ⟨q1, q2, j, q3, q4⟩ := S.hso t m h hm
  rw [hi] at q3
  cases q3
  obtain ⟨s1, s2, s3, s4⟩ := hA.step q4 S.rel hu ht h16
  have hrun : R.run D no t (callOf cs i) = runT D no t (callOf cs i) (R.hands t).own (R.hands t).tape R.w := rfl
  cases hd : (G.step P.obj P.lw t m).2.2.2
  · have hh : (R.run D no t (callOf cs i)).1.halt = true := by rw [hrun, s2, hd]; rfl
    obtain ⟨p1, p2, p3⟩ := step_more (i := i) (h := h) (show (P.after G t m).2.2.2 = false from hd)
    have p4 := step_obj G P t i m h
    have p5 := step_lw G P t i m h
    have hR : R.step D no t i (callOf cs i) = { R with w := (R.run D no t (callOf cs i)).2, hands := upd R.hands t { R.hands t with tape := (R.run D no t (callOf cs i)).1 }, evs := R.evs.modify (R.hands t).event fun e => { e with steps := e.steps + 1 } } := by
      unfold Rs.step
      dsimp only
      rw [if_pos hh]
    rw [hR]
    have s3' := s3 hd
    refine ⟨?_, ?_, ?_, ?_, fun s hs => ?_, fun s m' h' hs => ?_⟩
    · rw [p5]; exact s1
    · rw [p2]; exact S.fin
    · rw [p3]
      show R.evs.modify _ _ = _
      rw [q2, S.evs]
    · show R.idle = (P.step G t i m h).idle
      rw [S.idle]
      unfold Ps.step
      dsimp only
      split <;> rfl
    · rw [p1] at hs
      have hst : s ≠ t := by
        rintro rfl
        rw [upd_same] at hs
        cases hs
      rw [upd_other hst] at hs
      obtain ⟨u1, u2⟩ := S.hno s hs
      show (upd R.hands t _ s).opn = _ ∧ A.own _ s (upd R.hands t _ s).own
      rw [upd_other hst, p4]
      exact ⟨u1, hA.stepO hst q4 u2⟩
    · rw [p1] at hs
      show (upd R.hands t _ s).opn = _ ∧ (upd R.hands t _ s).event = _ ∧ ∃ i, nowF cs (P.step G t _ m h).fin s = _ ∧ A.rep _ s _ (upd R.hands t _ s).own (upd R.hands t _ s).tape _
      rw [p2, p4]
      by_cases hst : s = t
      · subst hst
        rw [upd_same] at hs
        cases hs
        rw [upd_same]
        exact ⟨q1, q2, i, hi, s3'⟩
      · rw [upd_other hst] at hs
        rw [upd_other hst]
        obtain ⟨u1, u2, k, u3, u4⟩ := S.hso s m' h' hs
        exact ⟨u1, u2, k, u3, hA.stepR hst q4 u4⟩
  · have hh : (R.run D no t (callOf cs i)).1.halt = false := by rw [hrun, s2, hd]; rfl
    have p4 := step_obj G P t i m h
    have p5 := step_lw G P t i m h
    obtain ⟨g1, g2⟩ := s4 hd
    have hP : (P.step G t i m h).hands = upd P.hands t none ∧ (P.step G t i m h).fin = P.fin.set i true ∧ (P.step G t i m h).idle = P.idle ∧ (P.step G t i m h).evs = P.evs.modify h fun e => { e with steps := e.steps + 1, ans := (G.ans (G.step P.obj P.lw t m).1 (G.step P.obj P.lw t m).2.2.1).1, resp := (G.step P.obj P.lw t m).2.1.now, key := keyOf (G.ans (G.step P.obj P.lw t m).1 (G.step P.obj P.lw t m).2.2.1).2 ((G.step P.obj P.lw t m).2.1.marks t) (G.step P.obj P.lw t m).2.1.now } := by
      unfold Ps.step
      dsimp only
      rw [if_pos hd]
      exact ⟨rfl, rfl, rfl, rfl⟩
    obtain ⟨p1, p2, p6, p3⟩ := hP
    have hR : R.step D no t i (callOf cs i) = { R with w := (R.run D no t (callOf cs i)).2, fin := R.fin.set i true, hands := upd R.hands t { opn := false, event := (R.hands t).event, tape := (R.run D no t (callOf cs i)).1, own := if 0 ≤ (callOf cs i).obj ∧ (callOf cs i).obj < no then upd (R.hands t).own (callOf cs i).obj.toNat (R.run D no t (callOf cs i)).1.priv else (R.hands t).own }, evs := R.evs.modify (R.hands t).event fun e => { e with steps := e.steps + 1, resp := (R.run D no t (callOf cs i)).2.now, ans := ⟨(R.run D no t (callOf cs i)).1.err, (R.run D no t (callOf cs i)).1.val, (R.run D no t (callOf cs i)).1.list⟩, key := keyOf (R.run D no t (callOf cs i)).1.key ((R.run D no t (callOf cs i)).2.marks t) (R.run D no t (callOf cs i)).2.now } } := by
      unfold Rs.step
      dsimp only
      rw [if_neg (by rw [hh]; exact Bool.false_ne_true)]
    rw [hR]
    obtain ⟨r1, r2, r3, r4⟩ := s1
    refine ⟨?_, ?_, ?_, ?_, fun s hs => ?_, fun s m' h' hs => ?_⟩
    · rw [p5]; exact ⟨r1, r2, r3, r4⟩
    · rw [p2]
      show R.fin.set i true = _
      rw [S.fin]
    · rw [p3]
      show R.evs.modify _ _ = _
      rw [q2, S.evs, g2, hrun, r2, r3 t]
    · rw [p6]; exact S.idle
    · rw [p1] at hs
      show (upd R.hands t _ s).opn = _ ∧ A.own _ s (upd R.hands t _ s).own
      rw [p4]
      by_cases hst : s = t
      · subst hst
        rw [upd_same]
        exact ⟨rfl, g1⟩
      · rw [upd_other hst] at hs
        rw [upd_other hst]
        obtain ⟨u1, u2⟩ := S.hno s hs
        exact ⟨u1, hA.stepO hst q4 u2⟩
    · rw [p1] at hs
      show (upd R.hands t _ s).opn = _ ∧ (upd R.hands t _ s).event = _ ∧ ∃ j, nowF cs (P.step G t i m h).fin s = _ ∧ A.rep _ s _ (upd R.hands t _ s).own (upd R.hands t _ s).tape _
      rw [p2, p4]
      have hst : s ≠ t := by
        rintro rfl
        rw [upd_same] at hs
        cases hs
      rw [upd_other hst] at hs
      rw [upd_other hst]
      obtain ⟨u1, u2, k, u3, u4⟩ := S.hso s m' h' hs
      exact ⟨u1, u2, k, by rw [nowF_other ht hil (fun e => hst (by omega))]; exact u3, hA.stepR hst q4 u4⟩
theorem Sim.pick {A : Alike G D no} (hA : A.Ok) {cs : List Cl} {P : Ps M O} {R : Rs} (S : Sim A cs P R) (p : Int) (hcs : ∀ c ∈ cs, 0 ≤ c.thread ∧ c.thread < 16 ∧ ClB c) : Sim A cs (P.pick G cs p) (R.pick D no cs p) := by
  unfold Rs.pick
  rcases hq : nowF cs P.fin p with _ | i0
  · rw [show nowF cs R.fin p = none by rw [S.fin]; exact hq]
    have : P.pick G cs p = { P with idle := P.idle + 1 } := by
      unfold Ps.pick
      rw [hq]
    rw [this]
    show Sim A cs _ { R with idle := R.idle + 1 }
    exact ⟨S.rel, S.fin, S.evs, by show R.idle + 1 = P.idle + 1; rw [S.idle], S.hno, S.hso⟩
  · rw [show nowF cs R.fin p = some i0 by rw [S.fin]; exact hq]
    rcases pick_cases G P p (fun c hc => (hcs c hc).1) with e | ⟨t, i, hp, hil, hth, hi, ⟨m, h, hm, e⟩ | ⟨hn, e⟩⟩
    · exfalso
      have h1 := congrArg Ps.idle e
      unfold Ps.pick at h1
      rw [hq] at h1
      dsimp only at h1
      have key : ∀ (P : Ps M O) (t i : Nat) (m : M) (h : Nat), (P.step G t i m h).idle = P.idle := by
        intro P t i m h
        unfold Ps.step
        dsimp only
        split <;> rfl
      split at h1
      · rw [key] at h1
        have h1 : P.idle = P.idle + 1 := h1
        omega
      · rw [key] at h1
        have h1 : P.idle = P.idle + 1 := h1
        omega
    all_goals
      subst hp
      rw [hi] at hq
      obtain rfl : i = i0 := Option.some.inj hq
      rw [Int.toNat_natCast, e]
      have hC : callOf cs i ∈ cs := by
        unfold callOf
        rw [List.getElem?_eq_getElem hil]
        exact List.getElem_mem hil
      have h16 : t < 16 := by have := (hcs _ hC).2.1; omega
      dsimp only
    · rw [if_pos (S.hso t m h hm).1]
      exact S.tick.step hA hm hi hil hth h16 (hcs _ hC).2.2
    · rw [if_neg (by rw [(S.hno t hn).1]; exact Bool.false_ne_true)]
      exact (S.tick.begin hA (show P.tick.hands t = none from hn) hi hth h16 (hcs _ hC).2.2).step hA (upd_same _ _ _) hi hil hth h16 (hcs _ hC).2.2
theorem Sim.play {A : Alike G D no} (hA : A.Ok) {cs : List Cl} (hcs : ∀ c ∈ cs, 0 ≤ c.thread ∧ c.thread < 16 ∧ ClB c) (picks : List Int) : ∀ {P : Ps M O} {R : Rs}, Sim A cs P R → Sim A cs (P.play G cs picks) (R.play D no cs picks) := by
  induction picks with
  | nil => exact fun h => h
  | cons p l ih => exact fun h => ih (h.pick hA p hcs)
theorem Sim.new {A : Alike G D no} (cs : List Cl) (words : List Int) (o : O) (h : ∀ t, A.own o t (fun _ => [])) : Sim A cs (Ps.new words o cs.length : Ps M O) (Rs.new words cs.length) :=
  ⟨⟨rfl, rfl, fun _ => rfl, fun _ => rfl⟩, rfl, rfl, rfl, fun t _ => ⟨rfl, h t⟩, fun t m h hh => by cases hh⟩
end
end Go.Proofs.YtlfingcmekifkaaGreat
