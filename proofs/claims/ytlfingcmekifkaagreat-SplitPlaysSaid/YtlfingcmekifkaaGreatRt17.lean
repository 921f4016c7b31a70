import Derived.Test.YtlfingcmekifkaaGreatRt13
import Derived.Test.YtlfingcmekifkaaGreatBun18
namespace Go.Proofs.YtlfingcmekifkaaGreat
open Go.RowKit
def Rv.two (X : Rv) (k : Nat) : Prop := X.gv.ownBlock = some k ∨ X.tv.ownBlock = some k
structure HdAt (w : World) (wp : Nat) (M : Nat → Prop) (g : Nat → Value) (X : Rv) (t : Nat) (h : Hd) : Prop where
  ev : g (t * 16 + 1) = .int .i64 (h.event : Nat)
  tp : TpF g (t * 16 + 2) wp t X h.tape
  got : WRow w 0 X.gv h.tape.got
  tks : w.ownsRow 0 3 1 X.tv h.tape.tks.length (h.tape.tks.map (Value.int .i64))
  a2 : Apt X.wv X.gv
  a3 : Apt X.wv X.tv
  a4 : Apt X.lg X.gv
  a5 : Apt X.lg X.tv
  a6 : Apt X.gv X.tv
  ba : h.tape.at_ ≤ h.tape.got.length
  pr : LstIs w M X.pv h.tape.priv
  li : LstIs w M X.lv h.tape.list
  ky : KeyIs w M X.kv h.tape.key
def Inj (Fx : Nat → Nat) (n : Nat) : Prop := ∀ i j, i < 6 + n → j < 6 + n → Fx i = Fx j → i = j
structure HsAt (w : World) (Fx : Nat → Nat) (n : Nat) (M : Nat → Prop) (g f : Nat → Value) (X : Nat → Rv) (W : Rw) (H : Nat → Hd) : Prop where
  mem : RmAt w (Fx 1) 0 f (X 0).wv W.mem
  now : f 6 = .int .i64 W.now
  mrk : f 7 = .slice (some ⟨Fx 2, 0, none⟩) n n
  mks : ∃ xs, w.heap[Fx 2]? = some (.cells xs 24 (0, 0)) ∧ ∀ j, j < n → xs[j]? = some (.slice none 0 0)
  lgf : f 9 = (X 0).lg
  log : w.ownsRow 0 222 6 (X 0).lg W.log.length (W.log.flatMap acEnc)
  row : w.rowIs (Fx 0) 102 (n * 16) g
  a1 : Apt (X 0).wv (X 0).lg
  wl : ∀ t, t < n → (X t).wv = (X 0).wv ∧ (X t).lg = (X 0).lg
  nf : ∀ t, t < n → ∀ k, (X t).four k → (∀ i, i < 6 + n → k ≠ Fx i) ∧ M k
  ap : ∀ s t, s < n → t < n → s ≠ t → ∀ k, (X s).two k → ¬ (X t).four k
  op : ∀ t, t < n → g (t * 16) = .bool (H t).opn
  own : ∀ t, t < n → g (t * 16 + 15) = .slice (some ⟨Fx (6 + t), 0, none⟩) 1 1 ∧ ∃ v, w.heap[Fx (6 + t)]? = some (.cells #[v] 28 (0, 0)) ∧ LstIs w M v ((H t).own 0)
  hd : ∀ t, t < n → (H t).opn = true → HdAt w (Fx 1) M g (X t) t (H t)
  fx : ∀ i, i < 6 + n → M (Fx i)
  lt : ∀ k, M k → k < w.heap.size
section
variable {w w' : World} {Fx : Nat → Nat} {n t : Nat} {M M' S : Nat → Prop} {g f : Nat → Value} {X : Nat → Rv} {W : Rw} {H : Nat → Hd}
theorem Rv.two4 {X : Rv} {k : Nat} (h : X.two k) : X.four k := by
  rcases h with h | h
  · exact Or.inr (Or.inr (Or.inl h))
  · exact Or.inr (Or.inr (Or.inr h))
theorem HdAt.keep {wp : Nat} {g' : Nat → Value} {X : Rv} {h : Hd} (hh : HdAt w wp M g X t h) (hk : Keep S w w') (hM : ∀ k, k < w.heap.size → M' k → M k) (hS : ∀ k, k < w.heap.size → ¬ M k → S k) (h2 : ∀ k, X.two k → S k) (hg : ∀ i, t * 16 < i → i < t * 16 + 15 → g' i = g i) : HdAt w' wp M' g' X t h := by
  obtain ⟨b0, b1, b2, b3, b4, b5, b6, b7, b8, b9, b10, b11, b12⟩ := hh.tp
  refine ⟨(hg _ (by omega) (by omega)).trans hh.ev, ⟨?_, ?_, ?_, ?_, ?_, ?_, ?_, ?_, ?_, ?_, ?_, ?_, ?_⟩, owns_keepV hh.got hk (fun k e => h2 k (Or.inl e)), owns_keepV hh.tks hk (fun k e => h2 k (Or.inr e)), hh.a2, hh.a3, hh.a4, hh.a5, hh.a6, hh.ba, hh.pr.keep hk hS hM, hh.li.keep hk hS hM, hh.ky.keep hk hS hM⟩
  all_goals (rw [hg _ (by omega) (by omega)]; assumption)
theorem HdAt.ofX {wp : Nat} {X X' : Rv} {h : Hd} (hh : HdAt w wp M g X t h) (e : X'.gv = X.gv ∧ X'.tv = X.tv ∧ X'.pv = X.pv ∧ X'.lv = X.lv ∧ X'.kv = X.kv) (a2 : Apt X'.wv X'.gv) (a3 : Apt X'.wv X'.tv) (a4 : Apt X'.lg X'.gv) (a5 : Apt X'.lg X'.tv) : HdAt w wp M g X' t h := by
  obtain ⟨b0, b1, b2, b3, b4, b5, b6, b7, b8, b9, b10, b11, b12⟩ := hh.tp
  obtain ⟨e1, e2, e3, e4, e5⟩ := e
  exact ⟨hh.ev, ⟨b0, b1, b2, by rw [e1]; exact b3, by rw [e2]; exact b4, b5, b6, b7, by rw [e3]; exact b8, b9, b10, by rw [e4]; exact b11, by rw [e5]; exact b12⟩, by rw [e1]; exact hh.got, by rw [e2]; exact hh.tks, a2, a3, a4, a5, by rw [e1, e2]; exact hh.a6, hh.ba, by rw [e3]; exact hh.pr, by rw [e4]; exact hh.li, by rw [e5]; exact hh.ky⟩
theorem HsAt.frame (h : HsAt w Fx n M g f X W H) (hn : 1 ≤ n) (hk : Keep S w w') (hM : ∀ k, k < w.heap.size → M' k → M k) (hM2 : ∀ k, M k → M' k) (hlt : ∀ k, M' k → k < w'.heap.size) (hS : ∀ k, k < w.heap.size → ¬ M k → S k) (h1 : S (Fx 0) ∧ S (Fx 1) ∧ S (Fx 2)) (h6 : ∀ t, t < n → S (Fx (6 + t))) (h4 : ∀ t, t < n → ∀ k, (X t).four k → S k) : HsAt w' Fx n M' g f X W H := by
  obtain ⟨xs, m1, m2⟩ := h.mks
  refine ⟨⟨rowIs_keep h.mem.row hk h1.2.1, h.mem.is, owns_keepV h.mem.own hk (fun k e => h4 0 hn k (Or.inl e)), h.mem.ne, h.mem.len⟩, h.now, h.mrk, ⟨xs, (hk.block _ h1.2.2).trans m1, m2⟩, h.lgf, owns_keepV h.log hk (fun k e => h4 0 hn k (Or.inr (Or.inl e))), rowIs_keep h.row hk h1.1, h.a1, h.wl, fun t ht k k4 => ⟨(h.nf t ht k k4).1, hM2 _ (h.nf t ht k k4).2⟩, h.ap, h.op, fun t ht => ?_, fun t ht ho => (h.hd t ht ho).keep hk hM hS (fun k e => h4 t ht k (Rv.two4 e)) (fun _ _ _ => rfl), fun i hi => hM2 _ (h.fx i hi), hlt⟩
  obtain ⟨o1, v, o2, o3⟩ := h.own t ht
  exact ⟨o1, v, (hk.block _ (h6 t ht)).trans o2, o3.keep hk hS hM⟩
theorem HsAt.doAt (hi : Inj Fx n) (h : HsAt w Fx n M g f X W H) (ht : t < n) (ho : (H t).opn = true) (b1 : W.log.length ≤ 100000) (b2 : (H t).tape.got.length ≤ 100000) (b3 : (H t).tape.tks.length ≤ 100000) : DoAt w (Fx 0) (Fx 1) (t * 16 + 2) (n * 16) t g f (X t) (H t).tape W M := by
  have hd := h.hd t ht ho
  obtain ⟨e1, e2⟩ := h.wl t ht
  have h01 : Fx 0 ≠ Fx 1 := fun e => by have := hi 0 1 (by omega) (by omega) e; omega
  have hne : ∀ k, (X t).four k → k ≠ Fx 0 ∧ k ≠ Fx 1 := fun k hk => ⟨(h.nf t ht k hk).1 0 (by omega), (h.nf t ht k hk).1 1 (by omega)⟩
  refine ⟨⟨by rw [e1]; exact h.mem, h.now, by rw [e2]; exact h.lgf, h.row, by omega, hd.tp, hd.got, hd.tks, by rw [e2]; exact h.log, h01, hne, by rw [e1, e2]; exact h.a1, hd.a2, hd.a3, hd.a4, hd.a5, hd.a6, b2, b3, b1, hd.ba⟩, hd.pr, hd.li, hd.ky, ⟨h.fx 0 (by omega), h.fx 1 (by omega), fun k hk => (h.nf t ht k hk).2⟩, h.lt⟩
theorem HsAt.ran (hi : Inj Fx n) (h : HsAt w Fx n M g f X W H) (ht : t < n) {T' : Tp} {W' : Rw} (hD : DoR w (Fx 0) (Fx 1) (t * 16 + 2) (n * 16) t g f (X t) M T' W' w') (ho : (H t).opn = true) :
    ∃ M' g' f' X', HsAt w' Fx n M' g' f' X' W' (upd H t { H t with tape := T' }) ∧ (∀ k, k < w.heap.size → M' k → M k) ∧ (∀ k, M k → M' k) ∧ (∀ s, s < n → ∀ k, (X' s).four k → (X t).four k ∨ (X s).four k ∨ w.heap.size ≤ k) ∧ Keep (fun k => k < w.heap.size ∧ k ≠ Fx 0 ∧ k ≠ Fx 1 ∧ ¬ (X t).four k) w w' ∧ (X' t).lv = (X' t).lv := by
  obtain ⟨g', f', X1, d, e1, hg, hf, h4, hk⟩ := hD
  have hz := hk.size
  have hlt : ∀ s, s < n → ∀ k, (X s).four k → k < w.heap.size := fun s hs k e => h.lt k (h.nf s hs k e).2
  have hdt := h.hd t ht ho
  obtain ⟨X', hX'⟩ : ∃ X' : Nat → Rv, X' = fun s => if s = t then X1 else ⟨X1.wv, X1.lg, (X s).gv, (X s).tv, (X s).pv, (X s).lv, (X s).kv⟩ := ⟨_, rfl⟩
  have hXt : X' t = X1 := by rw [hX']; exact if_pos rfl
  have hXs : ∀ s, s ≠ t → X' s = ⟨X1.wv, X1.lg, (X s).gv, (X s).tv, (X s).pv, (X s).lv, (X s).kv⟩ := fun s hs => by rw [hX']; exact if_neg hs
  have hwl : ∀ s, (X' s).wv = X1.wv ∧ (X' s).lg = X1.lg := fun s => by
    by_cases e : s = t
    · subst e; rw [hXt]; exact ⟨rfl, rfl⟩
    · rw [hXs s e]; exact ⟨rfl, rfl⟩
  have hfour : ∀ s, s < n → ∀ k, (X' s).four k → X1.four k ∨ (s ≠ t ∧ (X s).two k) := fun s hs k e => by
    by_cases es : s = t
    · subst es; rw [hXt] at e; exact Or.inl e
    · rw [hXs s es] at e
      rcases e with e | e | e | e
      · exact Or.inl (Or.inl e)
      · exact Or.inl (Or.inr (Or.inl e))
      · exact Or.inr ⟨es, Or.inl e⟩
      · exact Or.inr ⟨es, Or.inr e⟩
  have hfx : ∀ i, i < 6 + n → Fx i < w.heap.size := fun i hi' => h.lt _ (h.fx i hi')
  have hkx : ∀ i, i < 6 + n → i ≠ 0 → i ≠ 1 → (Fx i < w.heap.size ∧ Fx i ≠ Fx 0 ∧ Fx i ≠ Fx 1 ∧ ¬ (X t).four (Fx i)) := fun i hi' i0 i1 => ⟨hfx i hi', fun e => i0 (hi i 0 hi' (by omega) e), fun e => i1 (hi i 1 hi' (by omega) e), fun e => (h.nf t ht _ e).1 i hi' rfl⟩
  have hS : ∀ k, k < w.heap.size → ¬ M k → (k < w.heap.size ∧ k ≠ Fx 0 ∧ k ≠ Fx 1 ∧ ¬ (X t).four k) := fun k k1 k2 => ⟨k1, fun e => k2 (e ▸ h.fx 0 (by omega)), fun e => k2 (e ▸ h.fx 1 (by omega)), fun e => k2 (h.nf t ht k e).2⟩
  have hM : ∀ k, k < w.heap.size → (M k ∨ X1.four k) → M k := fun k k1 k2 => by
    rcases k2 with k2 | k2
    · exact k2
    · rcases h4 k k2 with e | e
      · exact (h.nf t ht k e).2
      · omega
  obtain ⟨xs, m1, m2⟩ := h.mks
  have two_s : ∀ s, s < n → s ≠ t → ∀ k, (X s).two k → ¬ X1.four k := fun s hs hst k k2 k4 => by
    have k3 := hlt s hs k (Rv.two4 k2)
    rcases h4 k k4 with e | e
    · exact h.ap s t hs ht hst k k2 e
    · omega
  refine ⟨fun k => M k ∨ X1.four k, g', f', X', ?_, hM, fun k => Or.inl, fun s hs k e => ?_, hk, rfl⟩
  · have e0 := hwl 0
    refine ⟨by rw [e0.1]; exact d.at_.mem, d.at_.now, by rw [hf 7 (Or.inl rfl)]; exact h.mrk, ⟨xs, (hk.block _ (hkx 2 (by omega) (by omega) (by omega))).trans m1, m2⟩, by rw [e0.2]; exact d.at_.lgf, by rw [e0.2]; exact d.at_.log, d.at_.hrow, by rw [e0.1, e0.2]; exact d.at_.a1, fun s _ => ⟨(hwl s).1.trans e0.1.symm, (hwl s).2.trans e0.2.symm⟩, fun s hs k e => ?_, fun s u hs hu hsu k k2 k4 => ?_, fun s hs => ?_, fun s hs => ?_, fun s hs hso => ?_, fun i hi' => Or.inl (h.fx i hi'), d.lt⟩
    · rcases hfour s hs k e with e | ⟨es, e⟩
      · refine ⟨fun i hi' => ?_, Or.inr e⟩
        rcases h4 k e with e' | e'
        · exact (h.nf t ht k e').1 i hi'
        · have := hfx i hi'; omega
      · exact ⟨(h.nf s hs k (Rv.two4 e)).1, Or.inl (h.nf s hs k (Rv.two4 e)).2⟩
    · by_cases es : s = t
      · subst es
        have eu : u ≠ s := fun e => hsu e.symm
        rw [hXt] at k2
        rw [hXs u eu] at k4
        rcases k4 with k4 | k4 | k4 | k4
        · rcases k2 with k2 | k2
          · exact d.at_.a2 k k4 k2
          · exact d.at_.a3 k k4 k2
        · rcases k2 with k2 | k2
          · exact d.at_.a4 k k4 k2
          · exact d.at_.a5 k k4 k2
        · exact two_s u hu eu k (Or.inl k4) (Rv.two4 k2)
        · exact two_s u hu eu k (Or.inr k4) (Rv.two4 k2)
      · rw [hXs s es] at k2
        have k2 : (X s).two k := k2
        rcases hfour u hu k k4 with k4 | ⟨_, k4⟩
        · exact two_s s hs es k k2 k4
        · exact h.ap s u hs hu hsu k k2 (Rv.two4 k4)
    · have e1 : (upd H t { H t with tape := T' } s).opn = (H s).opn := by
        by_cases e : s = t
        · subst e; rw [upd_same]
        · rw [upd_other e]
      rw [e1, hg _ (by omega)]
      exact h.op s hs
    · have e1 : (upd H t { H t with tape := T' } s).own = (H s).own := by
        by_cases e : s = t
        · subst e; rw [upd_same]
        · rw [upd_other e]
      rw [e1, hg _ (by omega)]
      obtain ⟨o1, v, o2, o3⟩ := h.own s hs
      exact ⟨o1, v, (hk.block _ (hkx (6 + s) (by omega) (by omega) (by omega))).trans o2, o3.keep hk hS hM⟩
    · by_cases es : s = t
      · subst es
        rw [upd_same, hXt]
        exact ⟨by rw [hg _ (by omega)]; exact hdt.ev, d.at_.tp, d.at_.got, d.at_.tks, d.at_.a2, d.at_.a3, d.at_.a4, d.at_.a5, d.at_.a6, d.at_.ba, d.pr, d.li, d.ky⟩
      · have hso : (upd H t { H t with tape := T' } s).opn = true := hso
        rw [upd_other es] at hso ⊢
        have h1 := (h.hd s hs hso).keep (g' := g') hk hM hS (fun k k2 => ⟨hlt s hs k (Rv.two4 k2), (h.nf s hs k (Rv.two4 k2)).1 0 (by omega), (h.nf s hs k (Rv.two4 k2)).1 1 (by omega), h.ap s t hs ht es k k2⟩) (fun i i1 i2 => hg i (by omega))
        rw [hXs s es]
        refine h1.ofX ⟨rfl, rfl, rfl, rfl, rfl⟩ ?_ ?_ ?_ ?_
        · exact fun k k1 k2 => two_s s hs es k (Or.inl k2) (Or.inl k1)
        · exact fun k k1 k2 => two_s s hs es k (Or.inr k2) (Or.inl k1)
        · exact fun k k1 k2 => two_s s hs es k (Or.inl k2) (Or.inr (Or.inl k1))
        · exact fun k k1 k2 => two_s s hs es k (Or.inr k2) (Or.inr (Or.inl k1))
  · rcases hfour s hs k e with e | ⟨_, e⟩
    · rcases h4 k e with e | e
      · exact Or.inl e
      · exact Or.inr (Or.inr e)
    · exact Or.inr (Or.inl (Rv.two4 e))
theorem HsAt.tick (hi : Inj Fx n) (h : HsAt w Fx n M g f X W H) (hn : 1 ≤ n) (x : Int) : HsAt (w.setCell ⟨Fx 1, 6, none⟩ (.int .i64 x)) Fx n M g (fun i => if i = 6 then .int .i64 x else f i) X { W with now := x } H := by
  have hk : Keep (fun k => k ≠ Fx 1) w (w.setCell ⟨Fx 1, 6, none⟩ (.int .i64 x)) := (Keep.refl _ w).setCell (by simp) _
  have hne : ∀ i, i < 6 + n → i ≠ 1 → Fx i ≠ Fx 1 := fun i hi' i1 e => i1 (hi i 1 hi' (by omega) e)
  have h4 : ∀ t, t < n → ∀ k, (X t).four k → k ≠ Fx 1 := fun t ht k k4 => (h.nf t ht k k4).1 1 (by omega)
  have hS : ∀ k, k < w.heap.size → ¬ M k → k ≠ Fx 1 := fun k _ k2 e => k2 (e ▸ h.fx 1 (by omega))
  obtain ⟨xs, m1, m2⟩ := h.mks
  obtain ⟨i0, i1, i2, i3, i4, i5⟩ := h.mem.is
  refine ⟨⟨h.mem.row.set 6 _, ⟨?_, ?_, ?_, ?_, ?_, ?_⟩, owns_keepV h.mem.own hk (fun k e => h4 0 hn k (Or.inl e)), h.mem.ne, h.mem.len⟩, if_pos rfl, ?_, ⟨xs, (hk.block _ (hne 2 (by omega) (by omega))).trans m1, m2⟩, ?_, owns_keepV h.log hk (fun k e => h4 0 hn k (Or.inr (Or.inl e))), rowIs_keep h.row hk (hne 0 (by omega) (by omega)), h.a1, h.wl, h.nf, h.ap, h.op, fun t ht => ?_, fun t ht ho => (h.hd t ht ho).keep hk (fun _ _ h => h) hS (fun k e => h4 t ht k (Rv.two4 e)) (fun _ _ _ => rfl), h.fx, fun k hk' => Nat.lt_of_lt_of_le (h.lt k hk') hk.size⟩
  · show (if 0 = 6 then _ else f 0) = _; rw [if_neg (by decide)]; exact i0
  · show (if 1 = 6 then _ else f 1) = _; rw [if_neg (by decide)]; exact i1
  · show (if 2 = 6 then _ else f 2) = _; rw [if_neg (by decide)]; exact i2
  · show (if 3 = 6 then _ else f 3) = _; rw [if_neg (by decide)]; exact i3
  · show (if 4 = 6 then _ else f 4) = _; rw [if_neg (by decide)]; exact i4
  · show (if 5 = 6 then _ else f 5) = _; rw [if_neg (by decide)]; exact i5
  · show (if 7 = 6 then _ else f 7) = _; rw [if_neg (by decide)]; exact h.mrk
  · show (if 9 = 6 then _ else f 9) = _; rw [if_neg (by decide)]; exact h.lgf
  · obtain ⟨o1, v, o2, o3⟩ := h.own t ht
    exact ⟨o1, v, (hk.block _ (hne (6 + t) (by omega) (by omega))).trans o2, o3.keep hk hS (fun _ _ h => h)⟩
end
end Go.Proofs.YtlfingcmekifkaaGreat
