import Derived.Test.YtlfingcmekifkaaGreatBun14
import Derived.Test.YtlfingcmekifkaaGreatBun10
namespace Go.Proofs.YtlfingcmekifkaaGreat
open Go.RowKit
section
variable {w w1 : World} {hb wp q nh th : Nat} {g f : Nat → Value} {X : Rv} {T T' : Tp} {W : Rw} {Mu : Nat → Prop}
theorem DoAt.set (h : DoAt w hb wp q nh th g f X T W Mu) {j : Nat} (v pv lv kv : Value) (hj : j < 13) (ht : ∀ g, TpF g q wp th X T → TpF (fun i => if i = q + j then v else g i) q wp th ⟨X.wv, X.lg, X.gv, X.tv, pv, lv, kv⟩ T') (e1 : T'.got = T.got) (e2 : T'.tks = T.tks) (e3 : T'.at_ ≤ T'.got.length) (hp : LstIs w Mu pv T'.priv) (hl : LstIs w Mu lv T'.list) (hk : KeyIs w Mu kv T'.key) :
    DoAt (w.setCell ⟨hb, q + j, none⟩ v) hb wp q nh th (fun i => if i = q + j then v else g i) f ⟨X.wv, X.lg, X.gv, X.tv, pv, lv, kv⟩ T' W Mu := by
  have hkk : Keep (fun k => k ≠ hb) w (w.setCell ⟨hb, q + j, none⟩ v) := (Keep.refl _ w).setCell (by simp) _
  have hS : ∀ k, k < w.heap.size → ¬ Mu k → k ≠ hb := fun k _ k2 e => by subst e; exact k2 h.mu.1
  exact ⟨h.at_.cellX v pv lv kv hj (ht _ h.at_.tp) e1 e2 e3, hp.keep hkk hS (fun _ _ h => h), hl.keep hkk hS (fun _ _ h => h), hk.keep hkk hS (fun _ _ h => h), h.mu, fun k k1 => Nat.lt_of_lt_of_le (h.lt k k1) hkk.size⟩
def againW (w : World) (hb q : Nat) : World := ((((((w.setCell ⟨hb, q + 5, none⟩ (.int .i64 0)).setCell ⟨hb, q + 6, none⟩ (.bool true)).setCell ⟨hb, q + 7, none⟩ (.bool false)).setCell ⟨hb, q + 9, none⟩ (.int .i64 0)).setCell ⟨hb, q + 10, none⟩ (.int .u64 0)).setCell ⟨hb, q + 11, none⟩ (.slice none 0 0)).setCell ⟨hb, q + 12, none⟩ (.slice none 0 0)
theorem DoAt.again (h : DoAt w hb wp q nh th g f X T W Mu) : ∃ g', DoAt (againW w hb q) hb wp q nh th g' f ⟨X.wv, X.lg, X.gv, X.tv, X.pv, .slice none 0 0, .slice none 0 0⟩ T.again W Mu ∧ (∀ i, (i < q ∨ q + 13 ≤ i) → g' i = g i) := by
  have h1 := h.set (j := 5) (T' := { T with at_ := 0 }) (.int .i64 0) X.pv X.lv X.kv (by decide) (fun g ht => by obtain ⟨b0, b1, b2, b3, b4, b5, b6, b7, b8, b9, b10, b11, b12⟩ := ht; refine ⟨?_, ?_, ?_, ?_, ?_, ?_, ?_, ?_, ?_, ?_, ?_, ?_, ?_⟩; all_goals first | (rw [if_neg (by omega)]; assumption) | (rw [if_pos (by omega)]; rfl) | (rw [if_pos (by omega)])) rfl rfl (Nat.zero_le _) h.pr h.li h.ky
  have h2 := h1.set (j := 6) (T' := { T with at_ := 0, fresh := true }) (.bool true) X.pv X.lv X.kv (by decide) (fun g ht => by obtain ⟨b0, b1, b2, b3, b4, b5, b6, b7, b8, b9, b10, b11, b12⟩ := ht; refine ⟨?_, ?_, ?_, ?_, ?_, ?_, ?_, ?_, ?_, ?_, ?_, ?_, ?_⟩; all_goals first | (rw [if_neg (by omega)]; assumption) | (rw [if_pos (by omega)]; rfl) | (rw [if_pos (by omega)])) rfl rfl (Nat.zero_le _) h1.pr h1.li h1.ky
  have h3 := h2.set (j := 7) (T' := { T with at_ := 0, fresh := true, halt := false }) (.bool false) X.pv X.lv X.kv (by decide) (fun g ht => by obtain ⟨b0, b1, b2, b3, b4, b5, b6, b7, b8, b9, b10, b11, b12⟩ := ht; refine ⟨?_, ?_, ?_, ?_, ?_, ?_, ?_, ?_, ?_, ?_, ?_, ?_, ?_⟩; all_goals first | (rw [if_neg (by omega)]; assumption) | (rw [if_pos (by omega)]; rfl) | (rw [if_pos (by omega)])) rfl rfl (Nat.zero_le _) h2.pr h2.li h2.ky
  have h4 := h3.set (j := 9) (T' := { T with at_ := 0, fresh := true, halt := false, err := 0 }) (.int .i64 0) X.pv X.lv X.kv (by decide) (fun g ht => by obtain ⟨b0, b1, b2, b3, b4, b5, b6, b7, b8, b9, b10, b11, b12⟩ := ht; refine ⟨?_, ?_, ?_, ?_, ?_, ?_, ?_, ?_, ?_, ?_, ?_, ?_, ?_⟩; all_goals first | (rw [if_neg (by omega)]; assumption) | (rw [if_pos (by omega)]; rfl) | (rw [if_pos (by omega)])) rfl rfl (Nat.zero_le _) h3.pr h3.li h3.ky
  have h5 := h4.set (j := 10) (T' := { T with at_ := 0, fresh := true, halt := false, err := 0, val := 0 }) (.int .u64 0) X.pv X.lv X.kv (by decide) (fun g ht => by obtain ⟨b0, b1, b2, b3, b4, b5, b6, b7, b8, b9, b10, b11, b12⟩ := ht; refine ⟨?_, ?_, ?_, ?_, ?_, ?_, ?_, ?_, ?_, ?_, ?_, ?_, ?_⟩; all_goals first | (rw [if_neg (by omega)]; assumption) | (rw [if_pos (by omega)]; rfl) | (rw [if_pos (by omega)])) rfl rfl (Nat.zero_le _) h4.pr h4.li h4.ky
  have h6 := h5.set (j := 11) (T' := { T with at_ := 0, fresh := true, halt := false, err := 0, val := 0, list := [] }) (.slice none 0 0) X.pv (.slice none 0 0) X.kv (by decide) (fun g ht => by obtain ⟨b0, b1, b2, b3, b4, b5, b6, b7, b8, b9, b10, b11, b12⟩ := ht; refine ⟨?_, ?_, ?_, ?_, ?_, ?_, ?_, ?_, ?_, ?_, ?_, ?_, ?_⟩; all_goals first | (rw [if_neg (by omega)]; assumption) | (rw [if_pos (by omega)]; rfl) | (rw [if_pos (by omega)])) rfl rfl (Nat.zero_le _) h5.pr (LstIs.nil _ _) h5.ky
  have h7 := h6.set (j := 12) (T' := T.again) (.slice none 0 0) X.pv (.slice none 0 0) (.slice none 0 0) (by decide) (fun g ht => by obtain ⟨b0, b1, b2, b3, b4, b5, b6, b7, b8, b9, b10, b11, b12⟩ := ht; refine ⟨?_, ?_, ?_, ?_, ?_, ?_, ?_, ?_, ?_, ?_, ?_, ?_, ?_⟩; all_goals first | (rw [if_neg (by omega)]; assumption) | (rw [if_pos (by omega)]; rfl) | (rw [if_pos (by omega)])) rfl rfl (Nat.zero_le _) h6.pr h6.li (KeyIs.nil _ _)
  refine ⟨_, h7, fun i hi => ?_⟩
  rw [if_neg (by omega), if_neg (by omega), if_neg (by omega), if_neg (by omega), if_neg (by omega), if_neg (by omega), if_neg (by omega)]
theorem DoR.open {T1 : Tp} {W1 : Rw} (h : DoR w hb wp q nh th g f X Mu T1 W1 w1) : ∃ g1 f1 X1, DoAt w1 hb wp q nh th g1 f1 X1 T1 W1 (fun k => Mu k ∨ X1.four k) ∧ ∀ T2 W2 w2, DoR w1 hb wp q nh th g1 f1 X1 (fun k => Mu k ∨ X1.four k) T2 W2 w2 → DoR w hb wp q nh th g f X Mu T2 W2 w2 := by
  obtain ⟨g1, f1, X1, h1, h2, h3, h4, h5, h6⟩ := h
  refine ⟨g1, f1, X1, h1, fun T2 W2 w2 hD => ?_⟩
  obtain ⟨g2, f2, X2, a1, a2, a3, a4, a5, a6⟩ := hD
  have hz := h6.size
  have hr := Keep.refl (fun _ => True) w2
  have hM : ∀ k, k < w2.heap.size → (Mu k ∨ X2.four k) → ((Mu k ∨ X1.four k) ∨ X2.four k) := fun k _ hk => by
    rcases hk with hk | hk
    · exact Or.inl (Or.inl hk)
    · exact Or.inr hk
  have hmu : ∀ k, (Mu k ∨ X1.four k) → k = hb ∨ k = wp → Mu k := fun k hk e => by
    rcases hk with hk | hk
    · exact hk
    · have := h1.at_.ne k hk
      rcases e with e | e
      · exact absurd e this.1
      · exact absurd e this.2
  refine ⟨g2, f2, X2, ⟨a1.at_, a1.pr.keep hr (fun _ _ _ => trivial) hM, a1.li.keep hr (fun _ _ _ => trivial) hM, a1.ky.keep hr (fun _ _ _ => trivial) hM, ⟨Or.inl (hmu _ h1.mu.1 (Or.inl rfl)), Or.inl (hmu _ h1.mu.2.1 (Or.inr rfl)), fun k hk => Or.inr hk⟩, fun k hk => ?_⟩, a2.trans h2, fun i hi => (a3 i hi).trans (h3 i hi), fun i hi => (a4 i hi).trans (h4 i hi), fun k hk => ?_, ?_⟩
  · rcases hk with hk | hk
    · exact a1.lt k (Or.inl (Or.inl hk))
    · exact a1.lt k (Or.inr hk)
  · rcases a5 k hk with e | e
    · exact h5 k e
    · exact Or.inr (by omega)
  · exact h6.trans (a6.mono (fun k hk => ⟨by omega, hk.2.1, hk.2.2.1, fun e => by
      rcases h5 k e with e | e
      · exact hk.2.2.2 e
      · omega⟩))
end
end Go.Proofs.YtlfingcmekifkaaGreat

namespace Go.Proofs.YtlfingcmekifkaaGreat
open Go.RowKit
def Wd (x : Int) : Prop := 0 ≤ x ∧ x < 18446744073709551616
structure TBd (T : Tp) (W : Rw) : Prop where
  got : ∀ x ∈ T.got, Wd x
  priv : ∀ x ∈ T.priv, Wd x
  mem : ∀ x ∈ W.mem.words, Wd x
def DBd (D : Dof) : Prop := ∀ t c T W, t < 16 → ClB c → TBd T W → TBd (D t c T W).1 (D t c T W).2
theorem wd0 : Wd 0 := ⟨Int.le_refl _, by decide⟩
theorem wd1 : Wd 1 := ⟨by decide, by decide⟩
theorem mm_at_wd {m : Mm} (h : ∀ x ∈ m.words, Wd x) (a : Int) : Wd (m.at a) := by
  unfold Mm.at
  rcases hx : m.words[a.toNat]? with _ | x
  · exact wd0
  · exact h x (List.mem_of_getElem? hx)
theorem mm_acc_wd {m : Mm} (h : ∀ x ∈ m.words, Wd x) {k a x y : Int} (hx : Wd x) (hy : Wd y) : (∀ z ∈ (m.acc k a x y).words, Wd z) ∧ Wd (m.tell k a x) := by
  have ha := mm_at_wd h a
  unfold Mm.acc Mm.tell
  split
  · constructor
    · intro z hz
      rcases List.mem_or_eq_of_mem_set hz with hz | rfl
      · exact h z hz
      · unfold acY
        repeat' split
        · exact ha
        · exact hx
        · exact hy
        · exact ha
        · exact ⟨Int.emod_nonneg _ (by decide), Int.emod_lt_of_pos _ (by decide)⟩
    · unfold acV
      repeat' split
      · exact ha
      · exact wd0
      · exact wd1
      · exact wd0
      · exact ha
  · exact ⟨h, wd0⟩
theorem acc_wd {t : Nat} {k a x y : Int} {T : Tp} {W : Rw} (h : TBd T W) (hx : Wd x) (hy : Wd y) : TBd (T.acc t k a x y W).2.1 (T.acc t k a x y W).2.2 ∧ Wd (T.acc t k a x y W).1 := by
  obtain ⟨h1, h2⟩ := mm_acc_wd h.mem (k := k) (a := a) hx hy
  unfold Tp.acc
  split
  · exact ⟨h, wd0⟩
  · split
    · refine ⟨⟨h.got, h.priv, h.mem⟩, ?_⟩
      show Wd ((T.got[T.at_]?).getD 0)
      rcases hg : T.got[T.at_]? with _ | z
      · exact wd0
      · exact h.got z (List.mem_of_getElem? hg)
    · split
      · refine ⟨⟨fun z hz => ?_, h.priv, h1⟩, h2⟩
        have hz : z ∈ T.got ++ [W.mem.tell k a x] := hz
        rcases List.mem_append.1 hz with hz | hz
        · exact h.got z hz
        · obtain rfl := List.mem_singleton.1 hz
          exact h2
      · exact ⟨⟨h.got, h.priv, h.mem⟩, wd0⟩
structure RBd (R : Rs) : Prop where
  mem : ∀ x ∈ R.w.mem.words, Wd x
  got : ∀ t, ∀ x ∈ (R.hands t).tape.got, Wd x
  own : ∀ t j, ∀ x ∈ (R.hands t).own j, Wd x
theorem RBd.run {D : Dof} (hD : DBd D) {R : Rs} (h : RBd R) {no t : Nat} {c : Cl} (ht : t < 16) (hc : ClB c) : (∀ x ∈ (R.run D no t c).2.mem.words, Wd x) ∧ (∀ x ∈ (R.run D no t c).1.got, Wd x) ∧ (0 ≤ c.obj ∧ c.obj < no → ∀ x ∈ (R.run D no t c).1.priv, Wd x) := by
  unfold Rs.run
  by_cases ho : 0 ≤ c.obj ∧ c.obj < no
  · rw [if_pos ho]
    have b := hD t c { (R.hands t).tape.again with priv := (R.hands t).own c.obj.toNat } R.w ht hc ⟨h.got t, h.own t _, h.mem⟩
    exact ⟨b.mem, b.got, fun _ => b.priv⟩
  · rw [if_neg ho]
    exact ⟨h.mem, h.got t, fun hh => absurd hh ho⟩
theorem RBd.step {D : Dof} (hD : DBd D) {R : Rs} (h : RBd R) {no t i : Nat} {c : Cl} (ht : t < 16) (hc : ClB c) : RBd (R.step D no t i c) := by
  obtain ⟨r1, r2, r3⟩ := h.run hD (no := no) ht hc
  unfold Rs.step
  dsimp only
  split
  · refine ⟨r1, fun s => ?_, fun s j => ?_⟩
    · show ∀ x ∈ (upd R.hands t _ s).tape.got, Wd x
      by_cases e : s = t
      · subst e; rw [upd_same]; exact r2
      · rw [upd_other e]; exact h.got s
    · show ∀ x ∈ (upd R.hands t _ s).own j, Wd x
      by_cases e : s = t
      · subst e; rw [upd_same]; exact h.own s j
      · rw [upd_other e]; exact h.own s j
  · refine ⟨r1, fun s => ?_, fun s j => ?_⟩
    · show ∀ x ∈ (upd R.hands t _ s).tape.got, Wd x
      by_cases e : s = t
      · subst e; rw [upd_same]; exact r2
      · rw [upd_other e]; exact h.got s
    · show ∀ x ∈ (upd R.hands t _ s).own j, Wd x
      by_cases e : s = t
      · subst e
        rw [upd_same]
        show ∀ x ∈ (if 0 ≤ c.obj ∧ c.obj < no then upd (R.hands s).own c.obj.toNat _ else (R.hands s).own) j, Wd x
        split
        · rename_i ho
          by_cases ej : j = c.obj.toNat
          · rw [ej, upd_same]; exact r3 ho
          · rw [upd_other ej]; exact h.own s j
        · exact h.own s j
      · rw [upd_other e]; exact h.own s j
theorem RBd.tick {R : Rs} (h : RBd R) : RBd R.tick := ⟨h.mem, h.got, h.own⟩
theorem RBd.begin {R : Rs} (h : RBd R) {t i : Nat} : RBd (R.begin t i) := by
  refine ⟨h.mem, fun s => ?_, fun s j => ?_⟩
  · show ∀ x ∈ (upd R.hands t _ s).tape.got, Wd x
    by_cases e : s = t
    · subst e; rw [upd_same]; exact fun x hx => by cases hx
    · rw [upd_other e]; exact h.got s
  · show ∀ x ∈ (upd R.hands t _ s).own j, Wd x
    by_cases e : s = t
    · subst e; rw [upd_same]; exact h.own s j
    · rw [upd_other e]; exact h.own s j
theorem callOf_bd {cs : List Cl} (hcs : ∀ c ∈ cs, ClB c) (i : Nat) : ClB (callOf cs i) := by
  unfold callOf
  rcases hc : cs[i]? with _ | c
  · exact ⟨wd0, wd0, wd0⟩
  · exact hcs c (List.mem_of_getElem? hc)
theorem RBd.new {words : List Int} (h : ∀ x ∈ words, Wd x) (m : Nat) : RBd (Rs.new words m) := ⟨h, fun _ x hx => (by cases hx), fun _ _ x hx => (by cases hx)⟩
end Go.Proofs.YtlfingcmekifkaaGreat
