import Derived.Test.YtlfingcmekifkaaGreatRt17
namespace Go.Proofs.YtlfingcmekifkaaGreat
open Go.RowKit
theorem rowIs_setCells {b n : Nat} {t : TypeId} : ∀ (vs : List Value) {w : World} {f : Nat → Value} (o : Nat), w.rowIs b t n f → (w.setCells b o vs).rowIs b t n (fun i => if o ≤ i ∧ i < o + vs.length then (vs[i - o]?).getD (f i) else f i)
  | [], w, f, o, h => h.congr fun i _ => by rw [if_neg (by simp)]
  | v :: vs, w, f, o, h => (rowIs_setCells vs (o + 1) (h.set o v)).congr fun i _ => by
    show (if o + 1 ≤ i ∧ i < o + 1 + vs.length then (vs[i - (o + 1)]?).getD (if i = o then v else f i) else if i = o then v else f i) = (if o ≤ i ∧ i < o + (v :: vs).length then ((v :: vs)[i - o]?).getD (f i) else f i)
    have hl : (v :: vs).length = vs.length + 1 := rfl
    by_cases h1 : o + 1 ≤ i ∧ i < o + 1 + vs.length
    · rw [if_pos h1, if_neg (show ¬ i = o by omega), if_pos (show o ≤ i ∧ i < o + (v :: vs).length by omega)]
      obtain ⟨j, rfl⟩ : ∃ j, i = o + 1 + j := ⟨i - (o + 1), by omega⟩
      rw [show o + 1 + j - (o + 1) = j by omega, show o + 1 + j - o = j + 1 by omega]
      rfl
    · rw [if_neg h1]
      by_cases h2 : i = o
      · subst h2
        simp
      · rw [if_neg h2, if_neg (show ¬ (o ≤ i ∧ i < o + (v :: vs).length) by omega)]
theorem setCells2 (w : World) (b o : Nat) (x y : Value) (l : List Value) : w.setCells b o (x :: y :: l) = ((w.setCell ⟨b, o, none⟩ x).setCell ⟨b, o + 1, none⟩ y).setCells b (o + 1 + 1) l := rfl
section
variable {w w' : World} {Fx : Nat → Nat} {n t : Nat} {M M' S : Nat → Prop} {g f : Nat → Value} {X : Nat → Rv} {W : Rw} {H : Nat → Hd}
theorem keep_setCells {K : Nat → Prop} {b : Nat} (hb : ¬ K b) : ∀ (vs : List Value) {a w : World} (o : Nat), Keep K a w → Keep K a (w.setCells b o vs)
  | [], _, _, _, h => h
  | v :: vs, _, _, o, h => keep_setCells hb vs (o + 1) (h.setCell (p := ⟨b, o, none⟩) hb v)
set_option maxHeartbeats 1000000 in
theorem HsAt.begun (hi : Inj Fx n) (h : HsAt w Fx n M g f X W H) (hn : 1 ≤ n) (ht : t < n) (ev : Nat) :
    ∃ g' X', HsAt (beginW w (Fx 0) (Fx 1) (t * 16) (Fx 2) 0 t W.now (ev : Int)) Fx n M g' f X' { W with marks := upd W.marks t [] } (upd H t { H t with opn := true, event := ev, tape := Tp.new W.now }) ∧ (∀ s, s < n → ∀ k, (X' s).four k → (X s).four k) ∧
      Keep (fun k => k ≠ Fx 0 ∧ k ≠ Fx 2) w (beginW w (Fx 0) (Fx 1) (t * 16) (Fx 2) 0 t W.now (ev : Int)) := by
  obtain ⟨L, hL⟩ : ∃ L, L = (.bool true :: .int .i64 (ev : Int) :: newTape (Fx 1) t W.now) := ⟨_, rfl⟩
  have hw : beginW w (Fx 0) (Fx 1) (t * 16) (Fx 2) 0 t W.now (ev : Int) = (w.setCells (Fx 0) (t * 16) L).setCell ⟨Fx 2, 0 + t, none⟩ (.slice none 0 0) := by rw [hL, setCells2]; unfold beginW; rfl
  have hLl : L.length = 15 := by rw [hL]; rfl
  rw [hw]
  clear hw
  have hk1 : Keep (fun k => k ≠ Fx 0) w (w.setCells (Fx 0) (t * 16) L) := keep_setCells (by simp) _ _ (Keep.refl _ _)
  obtain ⟨w1, hw1⟩ : ∃ w1, w1 = w.setCells (Fx 0) (t * 16) L := ⟨_, rfl⟩
  have hrow1 : w1.rowIs (Fx 0) 102 (n * 16) (fun i => if t * 16 ≤ i ∧ i < t * 16 + L.length then (L[i - t * 16]?).getD (g i) else g i) := by rw [hw1]; exact rowIs_setCells L (t * 16) h.row
  rw [← hw1] at hk1 ⊢
  have hk2 : Keep (fun k => k ≠ Fx 2) w1 (w1.setCell ⟨Fx 2, 0 + t, none⟩ (.slice none 0 0)) := (Keep.refl _ w1).setCell (by simp) _
  have hk : Keep (fun k => k ≠ Fx 0 ∧ k ≠ Fx 2) w (w1.setCell ⟨Fx 2, 0 + t, none⟩ (.slice none 0 0)) := (hk1.mono fun k hk => hk.1).trans (hk2.mono fun k hk => hk.2)
  have hne : ∀ i j, i < 6 + n → j < 6 + n → i ≠ j → Fx i ≠ Fx j := fun i j a b c e => c (hi i j a b e)
  have h4 : ∀ s, s < n → ∀ k, (X s).four k → k ≠ Fx 0 ∧ k ≠ Fx 2 := fun s hs k k4 => ⟨(h.nf s hs k k4).1 0 (by omega), (h.nf s hs k k4).1 2 (by omega)⟩
  have hS : ∀ k, k < w.heap.size → ¬ M k → k ≠ Fx 0 ∧ k ≠ Fx 2 := fun k _ k2 => ⟨fun e => k2 (e ▸ h.fx 0 (by omega)), fun e => k2 (e ▸ h.fx 2 (by omega))⟩
  obtain ⟨xs, m1, m2⟩ := h.mks
  have m3 : w1.heap[Fx 2]? = some (.cells xs 24 (0, 0)) := (hk1.block _ (hne 2 0 (by omega) (by omega) (by omega))).trans m1
  obtain ⟨g', hg'⟩ : ∃ g', g' = fun i => if t * 16 ≤ i ∧ i < t * 16 + L.length then (L[i - t * 16]?).getD (g i) else g i := ⟨_, rfl⟩
  have hga : ∀ i, (i < t * 16 ∨ t * 16 + 15 ≤ i) → g' i = g i := fun i hi' => by rw [hg']; show (if _ then _ else _) = _; rw [if_neg (by omega)]
  have hgt : ∀ j, j < 15 → ∀ v, L[j]? = some v → g' (t * 16 + j) = v := fun j hj v hv => by
    rw [hg']
    show (if _ then _ else _) = _
    rw [if_pos (by omega), show t * 16 + j - t * 16 = j by omega, hv]
    rfl
  rw [← hg'] at hrow1
  clear hg'
  obtain ⟨X', hX'⟩ : ∃ X' : Nat → Rv, X' = fun s => if s = t then ⟨(X t).wv, (X t).lg, .slice none 0 0, .slice none 0 0, .slice none 0 0, .slice none 0 0, .slice none 0 0⟩ else X s := ⟨_, rfl⟩
  have hXt : X' t = ⟨(X t).wv, (X t).lg, .slice none 0 0, .slice none 0 0, .slice none 0 0, .slice none 0 0, .slice none 0 0⟩ := by rw [hX']; exact if_pos rfl
  have hXs : ∀ s, s ≠ t → X' s = X s := fun s hs => by rw [hX']; exact if_neg hs
  have hXw : ∀ s, (X' s).wv = (X s).wv ∧ (X' s).lg = (X s).lg := fun s => by
    by_cases e : s = t
    · subst e; rw [hXt]; exact ⟨rfl, rfl⟩
    · rw [hXs s e]; exact ⟨rfl, rfl⟩
  have hX4 : ∀ s, s < n → ∀ k, (X' s).four k → (X s).four k := fun s hs k e => by
    by_cases es : s = t
    · subst es; rw [hXt] at e
      rcases e with e | e | e | e
      · exact Or.inl e
      · exact Or.inr (Or.inl e)
      · cases e
      · cases e
    · rw [hXs s es] at e; exact e
  refine ⟨g', X', ?_, hX4, hk⟩
  have hwn := hXw 0
  refine ⟨⟨rowIs_keep h.mem.row hk ⟨hne 1 0 (by omega) (by omega) (by omega), hne 1 2 (by omega) (by omega) (by omega)⟩, by rw [hwn.1]; exact h.mem.is, by rw [hwn.1]; exact owns_keepV h.mem.own hk (fun k e => h4 0 hn k (Or.inl e)), by rw [hwn.1]; exact h.mem.ne, h.mem.len⟩, h.now, h.mrk, ⟨_, cells_set m3, fun j hj => ?_⟩, by rw [hwn.2]; exact h.lgf, by rw [hwn.2]; exact owns_keepV h.log hk (fun k e => h4 0 hn k (Or.inr (Or.inl e))), rowIs_keep hrow1 hk2 (hne 0 2 (by omega) (by omega) (by omega)), by rw [hwn.1, hwn.2]; exact h.a1, fun s hs => ?_, fun s hs k e => h.nf s hs k (hX4 s hs k e), fun s u hs hu hsu k k2 k4 => ?_, fun s hs => ?_, fun s hs => ?_, fun s hs hso => ?_, h.fx, fun k hk' => Nat.lt_of_lt_of_le (h.lt k hk') hk.size⟩
  · rw [Array.getElem?_setIfInBounds]
    split
    · split
      · rfl
      · rename_i e1 e2
        exfalso
        apply e2
        subst e1
        exact (Array.getElem?_eq_some_iff.1 (m2 _ hj)).1
    · exact m2 j hj
  · rw [(hXw s).1, (hXw s).2, hwn.1, hwn.2]
    exact h.wl s hs
  · by_cases es : s = t
    · subst es; rw [hXt] at k2
      rcases k2 with k2 | k2 <;> cases k2
    · rw [hXs s es] at k2
      exact h.ap s u hs hu hsu k k2 (hX4 u hu k k4)
  · by_cases es : s = t
    · subst es
      rw [upd_same]
      exact hgt 0 (by omega) _ (by rw [hL]; rfl)
    · rw [upd_other es, hga _ (by omega)]
      exact h.op s hs
  · have e1 : (upd H t { H t with opn := true, event := ev, tape := Tp.new W.now } s).own = (H s).own := by
      by_cases e : s = t
      · subst e; rw [upd_same]
      · rw [upd_other e]
    rw [e1, hga _ (by omega)]
    obtain ⟨o1, v, o2, o3⟩ := h.own s hs
    exact ⟨o1, v, (hk.block _ ⟨hne (6 + s) 0 (by omega) (by omega) (by omega), hne (6 + s) 2 (by omega) (by omega) (by omega)⟩).trans o2, o3.keep hk hS (fun _ _ h => h)⟩
  · by_cases es : s = t
    · subst es
      rw [upd_same, hXt]
      have hv := fun j hj v (hv : L[j]? = some v) => hgt j hj v hv
      refine ⟨hgt 1 (by omega) _ (by rw [hL]; rfl), ?_, World.ownsRow_nil _ _ _ _, World.ownsRow_nil _ _ _ _, fun k _ e => (by cases e), fun k _ e => (by cases e), fun k _ e => (by cases e), fun k _ e => (by cases e), fun k e _ => (by cases e), Nat.le_refl _, LstIs.nil _ _, LstIs.nil _ _, KeyIs.nil _ _⟩
      refine ⟨hgt 2 (by omega) _ ?_, hgt 3 (by omega) _ ?_, hgt 4 (by omega) _ ?_, hgt 5 (by omega) _ ?_, hgt 6 (by omega) _ ?_, hgt 7 (by omega) _ ?_, hgt 8 (by omega) _ ?_, hgt 9 (by omega) _ ?_, hgt 10 (by omega) _ ?_, hgt 11 (by omega) _ ?_, hgt 12 (by omega) _ ?_, hgt 13 (by omega) _ ?_, hgt 14 (by omega) _ ?_⟩
      all_goals (rw [hL]; rfl)
    · have hso : (upd H t { H t with opn := true, event := ev, tape := Tp.new W.now } s).opn = true := hso
      rw [upd_other es] at hso ⊢
      rw [hXs s es]
      exact (h.hd s hs hso).keep (g' := g') hk (fun _ _ h => h) hS (fun k k2 => h4 s hs k (Rv.two4 k2)) (fun i i1 i2 => hga i (by omega))
theorem HsAt.kept (hi : Inj Fx n) (h : HsAt w Fx n M g f X W H) (hn : 1 ≤ n) (ht : t < n) {v : Value} {l : List Int} (hv : LstIs w M v l) : HsAt (w.setCell ⟨Fx (6 + t), 0, none⟩ v) Fx n M g f X W (upd H t { H t with own := upd (H t).own 0 l }) := by
  have hk : Keep (fun k => k ≠ Fx (6 + t)) w (w.setCell ⟨Fx (6 + t), 0, none⟩ v) := (Keep.refl _ w).setCell (by simp) _
  have hne : ∀ i, i < 6 + n → i ≠ 6 + t → Fx i ≠ Fx (6 + t) := fun i a c e => c (hi i _ a (by omega) e)
  have h4 : ∀ s, s < n → ∀ k, (X s).four k → k ≠ Fx (6 + t) := fun s hs k k4 => (h.nf s hs k k4).1 (6 + t) (by omega)
  have hS : ∀ k, k < w.heap.size → ¬ M k → k ≠ Fx (6 + t) := fun k _ k2 e => k2 (e ▸ h.fx (6 + t) (by omega))
  obtain ⟨xs, m1, m2⟩ := h.mks
  have ho : ∀ s, (upd H t { H t with own := upd (H t).own 0 l } s).opn = (H s).opn ∧ (upd H t { H t with own := upd (H t).own 0 l } s).event = (H s).event ∧ (upd H t { H t with own := upd (H t).own 0 l } s).tape = (H s).tape := fun s => by
    by_cases e : s = t
    · subst e; rw [upd_same]; exact ⟨rfl, rfl, rfl⟩
    · rw [upd_other e]; exact ⟨rfl, rfl, rfl⟩
  refine ⟨⟨rowIs_keep h.mem.row hk (hne 1 (by omega) (by omega)), h.mem.is, owns_keepV h.mem.own hk (fun k e => h4 0 hn k (Or.inl e)), h.mem.ne, h.mem.len⟩, h.now, h.mrk, ⟨xs, (hk.block _ (hne 2 (by omega) (by omega))).trans m1, m2⟩, h.lgf, owns_keepV h.log hk (fun k e => h4 0 hn k (Or.inr (Or.inl e))), rowIs_keep h.row hk (hne 0 (by omega) (by omega)), h.a1, h.wl, h.nf, h.ap, fun s hs => by rw [(ho s).1]; exact h.op s hs, fun s hs => ?_, fun s hs hso => ?_, h.fx, fun k hk' => Nat.lt_of_lt_of_le (h.lt k hk') hk.size⟩
  · obtain ⟨o1, v0, o2, o3⟩ := h.own s hs
    by_cases e : s = t
    · subst e
      rw [upd_same]
      refine ⟨o1, v, cells_set o2, ?_⟩
      show LstIs _ _ v (upd (H s).own 0 l 0)
      rw [upd_same]
      exact hv.keep hk hS (fun _ _ h => h)
    · rw [upd_other e]
      exact ⟨o1, v0, (hk.block _ (hne (6 + s) (by omega) (by omega))).trans o2, o3.keep hk hS (fun _ _ h => h)⟩
  · rw [(ho s).1] at hso
    have hh := (h.hd s hs hso).keep hk (fun _ _ h => h) hS (fun k e => h4 s hs k (Rv.two4 e)) (fun _ _ _ => rfl)
    obtain ⟨q1, q2, q3, q4, q5, q6, q7, q8, q9, q10, q11, q12, q13⟩ := hh
    obtain ⟨_, e2, e3⟩ := ho s
    exact ⟨by rw [e2]; exact q1, by rw [e3]; exact q2, by rw [e3]; exact q3, by rw [e3]; exact q4, q5, q6, q7, q8, q9, by rw [e3]; exact q10, by rw [e3]; exact q11, by rw [e3]; exact q12, by rw [e3]; exact q13⟩
theorem HsAt.shut (hi : Inj Fx n) (h : HsAt w Fx n M g f X W H) (hn : 1 ≤ n) (ht : t < n) : HsAt (w.setCell ⟨Fx 0, t * 16, none⟩ (.bool false)) Fx n M (fun i => if i = t * 16 then .bool false else g i) f X W (upd H t { H t with opn := false }) := by
  have hk : Keep (fun k => k ≠ Fx 0) w (w.setCell ⟨Fx 0, t * 16, none⟩ (.bool false)) := (Keep.refl _ w).setCell (by simp) _
  have hne : ∀ i, i < 6 + n → i ≠ 0 → Fx i ≠ Fx 0 := fun i a c e => c (hi i 0 a (by omega) e)
  have h4 : ∀ s, s < n → ∀ k, (X s).four k → k ≠ Fx 0 := fun s hs k k4 => (h.nf s hs k k4).1 0 (by omega)
  have hS : ∀ k, k < w.heap.size → ¬ M k → k ≠ Fx 0 := fun k _ k2 e => k2 (e ▸ h.fx 0 (by omega))
  obtain ⟨xs, m1, m2⟩ := h.mks
  refine ⟨⟨rowIs_keep h.mem.row hk (hne 1 (by omega) (by omega)), h.mem.is, owns_keepV h.mem.own hk (fun k e => h4 0 hn k (Or.inl e)), h.mem.ne, h.mem.len⟩, h.now, h.mrk, ⟨xs, (hk.block _ (hne 2 (by omega) (by omega))).trans m1, m2⟩, h.lgf, owns_keepV h.log hk (fun k e => h4 0 hn k (Or.inr (Or.inl e))), h.row.set _ _, h.a1, h.wl, h.nf, h.ap, fun s hs => ?_, fun s hs => ?_, fun s hs hso => ?_, h.fx, fun k hk' => Nat.lt_of_lt_of_le (h.lt k hk') hk.size⟩
  · by_cases e : s = t
    · subst e
      rw [upd_same]
      exact if_pos rfl
    · rw [upd_other e]
      show (if _ then _ else _) = _
      rw [if_neg (by omega)]
      exact h.op s hs
  · obtain ⟨o1, v0, o2, o3⟩ := h.own s hs
    have e1 : (upd H t { H t with opn := false } s).own = (H s).own := by
      by_cases e : s = t
      · subst e; rw [upd_same]
      · rw [upd_other e]
    rw [e1]
    refine ⟨?_, v0, (hk.block _ (hne (6 + s) (by omega) (by omega))).trans o2, o3.keep hk hS (fun _ _ h => h)⟩
    show (if _ then _ else _) = _
    rw [if_neg (by omega)]
    exact o1
  · by_cases e : s = t
    · subst e
      have hso : (upd H s { H s with opn := false } s).opn = true := hso
      rw [upd_same] at hso
      cases hso
    · have hso : (upd H t { H t with opn := false } s).opn = true := hso
      rw [upd_other e] at hso ⊢
      exact (h.hd s hs hso).keep hk (fun _ _ h => h) hS (fun k e => h4 s hs k (Rv.two4 e)) (fun i i1 i2 => if_neg (by omega))
end
end Go.Proofs.YtlfingcmekifkaaGreat
