import Derived.Test.YtlfingcmekifkaaGreatRt13
import Derived.Test.YtlfingcmekifkaaGreatBun18
namespace Go.Proofs.YtlfingcmekifkaaGreat
open Go.RowKit
def Rv.two (X : Rv) (k : Nat) : Prop := X.gv.ownBlock = some k ∨ X.tv.ownBlock = some k
structure HdAt (w : World) (wp : Nat) (M : Nat → Prop) (g : Nat → Value) (X : Rv) (t : Nat) (h : Hd) : Prop where
  ev : g (t * 16 + 1) = .int .i64 (h.event : Nat)
  tp : TpF g (t * 16 + 2) wp t X h.tape
  got : WRow w 0 X.gv h.tape.got
  tks : w.ownsRow 0 3 1 X.tv h.tape.tks.length (h.tape.tks.map (Value.int .i64))
  a2 : Apt X.wv X.gv
  a3 : Apt X.wv X.tv
  a4 : Apt X.lg X.gv
  a5 : Apt X.lg X.tv
  a6 : Apt X.gv X.tv
  ba : h.tape.at_ ≤ h.tape.got.length
  pr : LstIs w M X.pv h.tape.priv
  li : LstIs w M X.lv h.tape.list
  ky : KeyIs w M X.kv h.tape.key
def Inj (Fx : Nat → Nat) (n : Nat) : Prop := ∀ i j, i < 6 + n → j < 6 + n → Fx i = Fx j → i = j
structure HsAt (w : World) (Fx : Nat → Nat) (n : Nat) (M : Nat → Prop) (g f : Nat → Value) (X : Nat → Rv) (W : Rw) (H : Nat → Hd) : Prop where
  mem : RmAt w (Fx 1) 0 f (X 0).wv W.mem
  now : f 6 = .int .i64 W.now
  mrk : f 7 = .slice (some ⟨Fx 2, 0, none⟩) n n
  mks : ∃ xs, w.heap[Fx 2]? = some (.cells xs 24 (0, 0)) ∧ ∀ j, j < n → xs[j]? = some (.slice none 0 0)
  lgf : f 9 = (X 0).lg
  log : w.ownsRow 0 222 6 (X 0).lg W.log.length (W.log.flatMap acEnc)
  row : w.rowIs (Fx 0) 102 (n * 16) g
  a1 : Apt (X 0).wv (X 0).lg
  wl : ∀ t, t < n → (X t).wv = (X 0).wv ∧ (X t).lg = (X 0).lg
  nf : ∀ t, t < n → ∀ k, (X t).four k → (∀ i, i < 6 + n → k ≠ Fx i) ∧ M k
  ap : ∀ s t, s < n → t < n → s ≠ t → ∀ k, (X s).two k → ¬ (X t).four k
  op : ∀ t, t < n → g (t * 16) = .bool (H t).opn
  own : ∀ t, t < n → g (t * 16 + 15) = .slice (some ⟨Fx (6 + t), 0, none⟩) 1 1 ∧ ∃ v, w.heap[Fx (6 + t)]? = some (.cells #[v] 28 (0, 0)) ∧ LstIs w M v ((H t).own 0)
  hd : ∀ t, t < n → (H t).opn = true → HdAt w (Fx 1) M g (X t) t (H t)
  fx : ∀ i, i < 6 + n → M (Fx i)
  lt : ∀ k, M k → k < w.heap.size
section
variable {w w' : World} {Fx : Nat → Nat} {n t : Nat} {M M' S : Nat → Prop} {g f : Nat → Value} {X : Nat → Rv} {W : Rw} {H : Nat → Hd}
theorem Rv.two4 {X : Rv} {k : Nat} (h : X.two k) : X.four k := by
  rcases h with h | h
  · exact Or.inr (Or.inr (Or.inl h))
  · exact Or.inr (Or.inr (Or.inr h))
theorem HdAt.keep {wp : Nat} {g' : Nat → Value} {X : Rv} {h : Hd} (hh : HdAt w wp M g X t h) (hk : Keep S w w') (hM : ∀ k, k < w.heap.size → M' k → M k) (hS : ∀ k, k < w.heap.size → ¬ M k → S k) (h2 : ∀ k, X.two k → S k) (hg : ∀ i, t * 16 < i → i < t * 16 + 15 → g' i = g i) : HdAt w' wp M' g' X t h := by
  obtain ⟨b0, b1, b2, b3, b4, b5, b6, b7, b8, b9, b10, b11, b12⟩ := hh.tp
  refine ⟨(hg _ (by omega) (by omega)).trans hh.ev, ⟨?_, ?_, ?_, ?_, ?_, ?_, ?_, ?_, ?_, ?_, ?_, ?_, ?_⟩, owns_keepV hh.got hk (fun k e => h2 k (Or.inl e)), owns_keepV hh.tks hk (fun k e => h2 k (Or.inr e)), hh.a2, hh.a3, hh.a4, hh.a5, hh.a6, hh.ba, hh.pr.keep hk hS hM, hh.li.keep hk hS hM, hh.ky.keep hk hS hM⟩
  all_goals (rw [hg _ (by omega) (by omega)]; assumption)
theorem HdAt.ofX {wp : Nat} {X X' : Rv} {h : Hd} (hh : HdAt w wp M g X t h) (e : X'.gv = X.gv ∧ X'.tv = X.tv ∧ X'.pv = X.pv ∧ X'.lv = X.lv ∧ X'.kv = X.kv) (a2 : Apt X'.wv X'.gv) (a3 : Apt X'.wv X'.tv) (a4 : Apt X'.lg X'.gv) (a5 : Apt X'.lg X'.tv) : HdAt w wp M g X' t h := by
  obtain ⟨b0, b1, b2, b3, b4, b5, b6, b7, b8, b9, b10, b11, b12⟩ := hh.tp
  obtain ⟨e1, e2, e3, e4, e5⟩ := e
  exact ⟨hh.ev, ⟨b0, b1, b2, by rw [e1]; exact b3, by rw [e2]; exact b4, b5, b6, b7, by rw [e3]; exact b8, b9, b10, by rw [e4]; exact b11, by rw [e5]; exact b12⟩, by rw [e1]; exact hh.got, by rw [e2]; exact hh.tks, a2, a3, a4, a5, by rw [e1, e2]; exact hh.a6, hh.ba, by rw [e3]; exact hh.pr, by rw [e4]; exact hh.li, by rw [e5]; exact hh.ky⟩
theorem HsAt.frame (h : HsAt w Fx n M g f X W H) (hn : 1 ≤ n) (hk : Keep S w w') (hM : ∀ k, k < w.heap.size → M' k → M k) (hM2 : ∀ k, M k → M' k) (hlt : ∀ k, M' k → k < w'.heap.size) (hS : ∀ k, k < w.heap.size → ¬ M k → S k) (h1 : S (Fx 0) ∧ S (Fx 1) ∧ S (Fx 2)) (h6 : ∀ t, t < n → S (Fx (6 + t))) (h4 : ∀ t, t < n → ∀ k, (X t).four k → S k) : HsAt w' Fx n M' g f X W H := by
  obtain ⟨xs, m1, m2⟩ := h.mks
  refine ⟨⟨rowIs_keep h.mem.row hk h1.2.1, h.mem.is, owns_keepV h.mem.own hk (fun k e => h4 0 hn k (Or.inl e)), h.mem.ne, h.mem.len⟩, h.now, h.mrk, ⟨xs, (hk.block _ h1.2.2).trans m1, m2⟩, h.lgf, owns_keepV h.log hk (fun k e => h4 0 hn k (Or.inr (Or.inl e))), rowIs_keep h.row hk h1.1, h.a1, h.wl, fun t ht k k4 => ⟨(h.nf t ht k k4).1, hM2 _ (h.nf t ht k k4).2⟩, h.ap, h.op, fun t ht => ?_, fun t ht ho => (h.hd t ht ho).keep hk hM hS (fun k e => h4 t ht k (Rv.two4 e)) (fun _ _ _ => rfl), fun i hi => hM2 _ (h.fx i hi), hlt⟩
  obtain ⟨o1, v, o2, o3⟩ := h.own t ht
  exact ⟨o1, v, (hk.block _ (h6 t ht)).trans o2, o3.keep hk hS hM⟩
theorem HsAt.doAt (hi : Inj Fx n) (h : HsAt w Fx n M g f X W H) (ht : t < n) (ho : (H t).opn = true) (b1 : W.log.length ≤ 100000) (b2 : (H t).tape.got.length ≤ 100000) (b3 : (H t).tape.tks.length ≤ 100000) : DoAt w (Fx 0) (Fx 1) (t * 16 + 2) (n * 16) t g f (X t) (H t).tape W M := by
  have hd := h.hd t ht ho
  obtain ⟨e1, e2⟩ := h.wl t ht
  have h01 : Fx 0 ≠ Fx 1 := fun e => by have := hi 0 1 (by omega) (by omega) e; omega
  have hne : ∀ k, (X t).four k → k ≠ Fx 0 ∧ k ≠ Fx 1 := fun k hk => ⟨(h.nf t ht k hk).1 0 (by omega), (h.nf t ht k hk).1 1 (by omega)⟩
  refine ⟨⟨by rw [e1]; exact h.mem, h.now, by rw [e2]; exact h.lgf, h.row, by omega, hd.tp, hd.got, hd.tks, by rw [e2]; exact h.log, h01, hne, by rw [e1, e2]; exact h.a1, hd.a2, hd.a3, hd.a4, hd.a5, hd.a6, b2, b3, b1, hd.ba⟩, hd.pr, hd.li, hd.ky, ⟨h.fx 0 (by omega), h.fx 1 (by omega), fun k hk => (h.nf t ht k hk).2⟩, h.lt⟩
theorem HsAt.ran (hi : Inj Fx n) (h : HsAt w Fx n M g f X W H) (ht : t < n) {T' : Tp} {W' : Rw} (hD : DoR w (Fx 0) (Fx 1) (t * 16 + 2) (n * 16) t g f (X t) M T' W' w') (ho : (H t).opn = true) :
    ∃ M' g' f' X', HsAt w' Fx n M' g' f' X' W' (upd H t { H t with tape := T' }) ∧ (∀ k, k < w.heap.size → M' k → M k) ∧ (∀ k, M k → M' k) ∧ (∀ s, s < n → ∀ k, (X' s).four k → (X t).four k ∨ (X s).four k ∨ w.heap.size ≤ k) ∧ Keep (fun k => k < w.heap.size ∧ k ≠ Fx 0 ∧ k ≠ Fx 1 ∧ ¬ (X t).four k) w w' ∧ (X' t).lv = (X' t).lv := by
  obtain ⟨g', f', X1, d, e1, hg, hf, h4, hk⟩ := hD
  have hz := hk.size
  have hlt : ∀ s, s < n → ∀ k, (X s).four k → k < w.heap.size := fun s hs k e => h.lt k (h.nf s hs k e).2
  have hdt := h.hd t ht ho
  obtain ⟨X', hX'⟩ : ∃ X' : Nat → Rv, X' = fun s => if s = t then X1 else ⟨X1.wv, X1.lg, (X s).gv, (X s).tv, (X s).pv, (X s).lv, (X s).kv⟩ := ⟨_, rfl⟩
  have hXt : X' t = X1 := by rw [hX']; exact if_pos rfl
  have hXs : ∀ s, s ≠ t → X' s = ⟨X1.wv, X1.lg, (X s).gv, (X s).tv, (X s).pv, (X s).lv, (X s).kv⟩ := fun s hs => by rw [hX']; exact if_neg hs
  have hwl : ∀ s, (X' s).wv = X1.wv ∧ (X' s).lg = X1.lg := fun s => by
    by_cases e : s = t
    · subst e; rw [hXt]; exact ⟨rfl, rfl⟩
    · rw [hXs s e]; exact ⟨rfl, rfl⟩
  have hfour : ∀ s, s < n → ∀ k, (X' s).four k → X1.four k ∨ (s ≠ t ∧ (X s).two k) := fun s hs k e => by
    by_cases es : s = t
    · subst es; rw [hXt] at e; exact Or.inl e
    · rw [hXs s es] at e
      rcases e with e | e | e | e
      · exact Or.inl (Or.inl e)
      · exact Or.inl (Or.inr (Or.inl e))
      · exact Or.inr ⟨es, Or.inl e⟩
      · exact Or.inr ⟨es, Or.inr e⟩
  have hfx : ∀ i, i < 6 + n → Fx i < w.heap.size := fun i hi' => h.lt _ (h.fx i hi')
  have hkx : ∀ i, i < 6 + n → i ≠ 0 → i ≠ 1 → (Fx i < w.heap.size ∧ Fx i ≠ Fx 0 ∧ Fx i ≠ Fx 1 ∧ ¬ (X t).four (Fx i)) := fun i hi' i0 i1 => ⟨hfx i hi', fun e => i0 (hi i 0 hi' (by omega) e), fun e => i1 (hi i 1 hi' (by omega) e), fun e => (h.nf t ht _ e).1 i hi' rfl⟩
  have hS : ∀ k, k < w.heap.size → ¬ M k → (k < w.heap.size ∧ k ≠ Fx 0 ∧ k ≠ Fx 1 ∧ ¬ (X t).four k) := fun k k1 k2 => ⟨k1, fun e => k2 (e ▸ h.fx 0 (by omega)), fun e => k2 (e ▸ h.fx 1 (by omega)), fun e => k2 (h.nf t ht k e).2⟩
  have hM : ∀ k, k < w.heap.size → (M k ∨ X1.four k) → M k := fun k k1 k2 => by
    rcases k2 with k2 | k2
    · exact k2
    · rcases h4 k k2 with e | e
      · exact (h.nf t ht k e).2
      · omega
  obtain ⟨xs, m1, m2⟩ := h.mks
  have two_s : ∀ s, s < n → s ≠ t → ∀ k, (X s).two k → ¬ X1.four k := fun s hs hst k k2 k4 => by
    have k3 := hlt s hs k (Rv.two4 k2)
    rcases h4 k k4 with e | e
    · exact h.ap s t hs ht hst k k2 e
    · omega
  refine ⟨fun k => M k ∨ X1.four k, g', f', X', ?_, hM, fun k => Or.inl, fun s hs k e => ?_, hk, rfl⟩
  · have e0 := hwl 0
    refine ⟨by rw [e0.1]; exact d.at_.mem, d.at_.now, by rw [hf 7 (Or.inl rfl)]; exact h.mrk, ⟨xs, (hk.block _ (hkx 2 (by omega) (by omega) (by omega))).trans m1, m2⟩, by rw [e0.2]; exact d.at_.lgf, by rw [e0.2]; exact d.at_.log, d.at_.hrow, by rw [e0.1, e0.2]; exact d.at_.a1, fun s _ => ⟨(hwl s).1.trans e0.1.symm, (hwl s).2.trans e0.2.symm⟩, fun s hs k e => ?_, fun s u hs hu hsu k k2 k4 => ?_, fun s hs => ?_, fun s hs => ?_, fun s hs hso => ?_, fun i hi' => Or.inl (h.fx i hi'), d.lt⟩
    · rcases hfour s hs k e with e | ⟨es, e⟩
      · refine ⟨fun i hi' => ?_, Or.inr e⟩
        rcases h4 k e with e' | e'
        · exact (h.nf t ht k e').1 i hi'
        · have := hfx i hi'; omega
      · exact ⟨(h.nf s hs k (Rv.two4 e)).1, Or.inl (h.nf s hs k (Rv.two4 e)).2⟩
    · by_cases es : s = t
      · subst es
        have eu : u ≠ s := fun e => hsu e.symm
        rw [hXt] at k2
        rw [hXs u eu] at k4
        rcases k4 with k4 | k4 | k4 | k4
        · rcases k2 with k2 | k2
          · exact d.at_.a2 k k4 k2
          · exact d.at_.a3 k k4 k2
        · rcases k2 with k2 | k2
          · exact d.at_.a4 k k4 k2
          · exact d.at_.a5 k k4 k2
        · exact two_s u hu eu k (Or.inl k4) (Rv.two4 k2)
        · exact two_s u hu eu k (Or.inr k4) (Rv.two4 k2)
      · rw [hXs s es] at k2
        have k2 : (X s).two k := k2
        rcases hfour u hu k k4 with k4 | ⟨_, k4⟩
        · exact two_s s hs es k k2 k4
        · exact h.ap s u hs hu hsu k k2 (Rv.two4 k4)
    · have e1 : (upd H t { H t with tape := T' } s).opn = (H s).opn := by
        by_cases e : s = t
        · subst e; rw [upd_same]
        · rw [upd_other e]
      rw [e1, hg _ (by omega)]
      exact h.op s hs
    · have e1 : (upd H t { H t with tape := T' } s).own = (H s).own := by
        by_cases e : s = t
        · subst e; rw [upd_same]
        · rw [upd_other e]
      rw [e1, hg _ (by omega)]
      obtain ⟨o1, v, o2, o3⟩ := h.own s hs
      exact ⟨o1, v, (hk.block _ (hkx (6 + s) (by omega) (by omega) (by omega))).trans o2, o3.keep hk hS hM⟩
    · by_cases es : s = t
      · subst es
        rw [upd_same, hXt]
        exact ⟨by rw [hg _ (by omega)]; exact hdt.ev, d.at_.tp, d.at_.got, d.at_.tks, d.at_.a2, d.at_.a3, d.at_.a4, d.at_.a5, d.at_.a6, d.at_.ba, d.pr, d.li, d.ky⟩
      · have hso : (upd H t { H t with tape := T' } s).opn = true := hso
        rw [upd_other es] at hso ⊢
        have h1 := (h.hd s hs hso).keep (g' := g') hk hM hS (fun k k2 => ⟨hlt s hs k (Rv.two4 k2), (h.nf s hs k (Rv.two4 k2)).1 0 (by omega), (h.nf s hs k (Rv.two4 k2)).1 1 (by omega), h.ap s t hs ht es k k2⟩) (fun i i1 i2 => hg i (by omega))
        rw [hXs s es]
        refine h1.ofX ⟨rfl, rfl, rfl, rfl, rfl⟩ ?_ ?_ ?_ ?_
        · exact fun k k1 k2 => two_s s hs es k (Or.inl k2) (Or.inl k1)
        · exact fun k k1 k2 => two_s s hs es k (Or.inr k2) (Or.inl k1)
        · exact fun k k1 k2 => two_s s hs es k (Or.inl k2) (Or.inr (Or.inl k1))
        · exact fun k k1 k2 => two_s s hs es k (Or.inr k2) (Or.inr (Or.inl k1))
  · rcases hfour s hs k e with e | ⟨_, e⟩
    · rcases h4 k e with e | e
      · exact Or.inl e
      · exact Or.inr (Or.inr e)
    · exact Or.inr (Or.inl (Rv.two4 e))
theorem HsAt.tick (hi : Inj Fx n) (h : HsAt w Fx n M g f X W H) (hn : 1 ≤ n) (x : Int) : HsAt (w.setCell ⟨Fx 1, 6, none⟩ (.int .i64 x)) Fx n M g (fun i => if i = 6 then .int .i64 x else f i) X { W with now := x } H := by
  have hk : Keep (fun k => k ≠ Fx 1) w (w.setCell ⟨Fx 1, 6, none⟩ (.int .i64 x)) := (Keep.refl _ w).setCell (by simp) _
  have hne : ∀ i, i < 6 + n → i ≠ 1 → Fx i ≠ Fx 1 := fun i hi' i1 e => i1 (hi i 1 hi' (by omega) e)
  have h4 : ∀ t, t < n → ∀ k, (X t).four k → k ≠ Fx 1 := fun t ht k k4 => (h.nf t ht k k4).1 1 (by omega)
  have hS : ∀ k, k < w.heap.size → ¬ M k → k ≠ Fx 1 := fun k _ k2 e => k2 (e ▸ h.fx 1 (by omega))
  obtain ⟨xs, m1, m2⟩ := h.mks
  obtain ⟨i0, i1, i2, i3, i4, i5⟩ := h.mem.is
  refine ⟨⟨h.mem.row.set 6 _, ⟨?_, ?_, ?_, ?_, ?_, ?_⟩, owns_keepV h.mem.own hk (fun k e => h4 0 hn k (Or.inl e)), h.mem.ne, h.mem.len⟩, if_pos rfl, ?_, ⟨xs, (hk.block _ (hne 2 (by omega) (by omega))).trans m1, m2⟩, ?_, owns_keepV h.log hk (fun k e => h4 0 hn k (Or.inr (Or.inl e))), rowIs_keep h.row hk (hne 0 (by omega) (by omega)), h.a1, h.wl, h.nf, h.ap, h.op, fun t ht => ?_, fun t ht ho => (h.hd t ht ho).keep hk (fun _ _ h => h) hS (fun k e => h4 t ht k (Rv.two4 e)) (fun _ _ _ => rfl), h.fx, fun k hk' => Nat.lt_of_lt_of_le (h.lt k hk') hk.size⟩
  · show (if 0 = 6 then _ else f 0) = _; rw [if_neg (by decide)]; exact i0
  · show (if 1 = 6 then _ else f 1) = _; rw [if_neg (by decide)]; exact i1
  · show (if 2 = 6 then _ else f 2) = _; rw [if_neg (by decide)]; exact i2
  · show (if 3 = 6 then _ else f 3) = _; rw [if_neg (by decide)]; exact i3
  · show (if 4 = 6 then _ else f 4) = _; rw [if_neg (by decide)]; exact i4
  · show (if 5 = 6 then _ else f 5) = _; rw [if_neg (by decide)]; exact i5
  · show (if 7 = 6 then _ else f 7) = _; rw [if_neg (by decide)]; exact h.mrk
  · show (if 9 = 6 then _ else f 9) = _; rw [if_neg (by decide)]; exact h.lgf
  · obtain ⟨o1, v, o2, o3⟩ := h.own t ht
    exact ⟨o1, v, (hk.block _ (hne (6 + t) (by omega) (by omega))).trans o2, o3.keep hk hS (fun _ _ h => h)⟩
end
end Go.Proofs.YtlfingcmekifkaaGreat

namespace Go.Proofs.YtlfingcmekifkaaGreat
open Go.RowKit
theorem rowIs_setCells {b n : Nat} {t : TypeId} : ∀ (vs : List Value) {w : World} {f : Nat → Value} (o : Nat), w.rowIs b t n f → (w.setCells b o vs).rowIs b t n (fun i => if o ≤ i ∧ i < o + vs.length then (vs[i - o]?).getD (f i) else f i)
  | [], w, f, o, h => h.congr fun i _ => by rw [if_neg (by simp)]
  | v :: vs, w, f, o, h => (rowIs_setCells vs (o + 1) (h.set o v)).congr fun i _ => by
    show (if o + 1 ≤ i ∧ i < o + 1 + vs.length then (vs[i - (o + 1)]?).getD (if i = o then v else f i) else if i = o then v else f i) = (if o ≤ i ∧ i < o + (v :: vs).length then ((v :: vs)[i - o]?).getD (f i) else f i)
    have hl : (v :: vs).length = vs.length + 1 := rfl
    by_cases h1 : o + 1 ≤ i ∧ i < o + 1 + vs.length
    · rw [if_pos h1, if_neg (show ¬ i = o by omega), if_pos (show o ≤ i ∧ i < o + (v :: vs).length by omega)]
      obtain ⟨j, rfl⟩ : ∃ j, i = o + 1 + j := ⟨i - (o + 1), by omega⟩
      rw [show o + 1 + j - (o + 1) = j by omega, show o + 1 + j - o = j + 1 by omega]
      rfl
    · rw [if_neg h1]
      by_cases h2 : i = o
      · subst h2
        simp
      · rw [if_neg h2, if_neg (show ¬ (o ≤ i ∧ i < o + (v :: vs).length) by omega)]
theorem setCells2 (w : World) (b o : Nat) (x y : Value) (l : List Value) : w.setCells b o (x :: y :: l) = ((w.setCell ⟨b, o, none⟩ x).setCell ⟨b, o + 1, none⟩ y).setCells b (o + 1 + 1) l := rfl
section
variable {w w' : World} {Fx : Nat → Nat} {n t : Nat} {M M' S : Nat → Prop} {g f : Nat → Value} {X : Nat → Rv} {W : Rw} {H : Nat → Hd}
theorem keep_setCells {K : Nat → Prop} {b : Nat} (hb : ¬ K b) : ∀ (vs : List Value) {a w : World} (o : Nat), Keep K a w → Keep K a (w.setCells b o vs)
  | [], _, _, _, h => h
  | v :: vs, _, _, o, h => keep_setCells hb vs (o + 1) (h.setCell (p := ⟨b, o, none⟩) hb v)
set_option maxHeartbeats 1000000 in
theorem HsAt.begun (hi : Inj Fx n) (h : HsAt w Fx n M g f X W H) (hn : 1 ≤ n) (ht : t < n) (ev : Nat) :
    ∃ g' X', HsAt (beginW w (Fx 0) (Fx 1) (t * 16) (Fx 2) 0 t W.now (ev : Int)) Fx n M g' f X' { W with marks := upd W.marks t [] } (upd H t { H t with opn := true, event := ev, tape := Tp.new W.now }) ∧ (∀ s, s < n → ∀ k, (X' s).four k → (X s).four k) ∧
      Keep (fun k => k ≠ Fx 0 ∧ k ≠ Fx 2) w (beginW w (Fx 0) (Fx 1) (t * 16) (Fx 2) 0 t W.now (ev : Int)) := by
  obtain ⟨L, hL⟩ : ∃ L, L = (.bool true :: .int .i64 (ev : Int) :: newTape (Fx 1) t W.now) := ⟨_, rfl⟩
  have hw : beginW w (Fx 0) (Fx 1) (t * 16) (Fx 2) 0 t W.now (ev : Int) = (w.setCells (Fx 0) (t * 16) L).setCell ⟨Fx 2, 0 + t, none⟩ (.slice none 0 0) := by rw [hL, setCells2]; unfold beginW; rfl
  have hLl : L.length = 15 := by rw [hL]; rfl
  rw [hw]
  clear hw
  have hk1 : Keep (fun k => k ≠ Fx 0) w (w.setCells (Fx 0) (t * 16) L) := keep_setCells (by simp) _ _ (Keep.refl _ _)
  obtain ⟨w1, hw1⟩ : ∃ w1, w1 = w.setCells (Fx 0) (t * 16) L := ⟨_, rfl⟩
  have hrow1 : w1.rowIs (Fx 0) 102 (n * 16) (fun i => if t * 16 ≤ i ∧ i < t * 16 + L.length then (L[i - t * 16]?).getD (g i) else g i) := by rw [hw1]; exact rowIs_setCells L (t * 16) h.row
  rw [← hw1] at hk1 ⊢
  have hk2 : Keep (fun k => k ≠ Fx 2) w1 (w1.setCell ⟨Fx 2, 0 + t, none⟩ (.slice none 0 0)) := (Keep.refl _ w1).setCell (by simp) _
  have hk : Keep (fun k => k ≠ Fx 0 ∧ k ≠ Fx 2) w (w1.setCell ⟨Fx 2, 0 + t, none⟩ (.slice none 0 0)) := (hk1.mono fun k hk => hk.1).trans (hk2.mono fun k hk => hk.2)
  have hne : ∀ i j, i < 6 + n → j < 6 + n → i ≠ j → Fx i ≠ Fx j := fun i j a b c e => c (hi i j a b e)
  have h4 : ∀ s, s < n → ∀ k, (X s).four k → k ≠ Fx 0 ∧ k ≠ Fx 2 := fun s hs k k4 => ⟨(h.nf s hs k k4).1 0 (by omega), (h.nf s hs k k4).1 2 (by omega)⟩
  have hS : ∀ k, k < w.heap.size → ¬ M k → k ≠ Fx 0 ∧ k ≠ Fx 2 := fun k _ k2 => ⟨fun e => k2 (e ▸ h.fx 0 (by omega)), fun e => k2 (e ▸ h.fx 2 (by omega))⟩
  obtain ⟨xs, m1, m2⟩ := h.mks
  have m3 : w1.heap[Fx 2]? = some (.cells xs 24 (0, 0)) := (hk1.block _ (hne 2 0 (by omega) (by omega) (by omega))).trans m1
  obtain ⟨g', hg'⟩ : ∃ g', g' = fun i => if t * 16 ≤ i ∧ i < t * 16 + L.length then (L[i - t * 16]?).getD (g i) else g i := ⟨_, rfl⟩
  have hga : ∀ i, (i < t * 16 ∨ t * 16 + 15 ≤ i) → g' i = g i := fun i hi' => by rw [hg']; show (if _ then _ else _) = _; rw [if_neg (by omega)]
  have hgt : ∀ j, j < 15 → ∀ v, L[j]? = some v → g' (t * 16 + j) = v := fun j hj v hv => by
    rw [hg']
    show (if _ then _ else _) = _
    rw [if_pos (by omega), show t * 16 + j - t * 16 = j by omega, hv]
    rfl
  rw [← hg'] at hrow1
  clear hg'
  obtain ⟨X', hX'⟩ : ∃ X' : Nat → Rv, X' = fun s => if s = t then ⟨(X t).wv, (X t).lg, .slice none 0 0, .slice none 0 0, .slice none 0 0, .slice none 0 0, .slice none 0 0⟩ else X s := ⟨_, rfl⟩
  have hXt : X' t = ⟨(X t).wv, (X t).lg, .slice none 0 0, .slice none 0 0, .slice none 0 0, .slice none 0 0, .slice none 0 0⟩ := by rw [hX']; exact if_pos rfl
  have hXs : ∀ s, s ≠ t → X' s = X s := fun s hs => by rw [hX']; exact if_neg hs
  have hXw : ∀ s, (X' s).wv = (X s).wv ∧ (X' s).lg = (X s).lg := fun s => by
    by_cases e : s = t
    · subst e; rw [hXt]; exact ⟨rfl, rfl⟩
    · rw [hXs s e]; exact ⟨rfl, rfl⟩
  have hX4 : ∀ s, s < n → ∀ k, (X' s).four k → (X s).four k := fun s hs k e => by
    by_cases es : s = t
    · subst es; rw [hXt] at e
      rcases e with e | e | e | e
      · exact Or.inl e
      · exact Or.inr (Or.inl e)
      · cases e
      · cases e
    · rw [hXs s es] at e; exact e
  refine ⟨g', X', ?_, hX4, hk⟩
  have hwn := hXw 0
  refine ⟨⟨rowIs_keep h.mem.row hk ⟨hne 1 0 (by omega) (by omega) (by omega), hne 1 2 (by omega) (by omega) (by omega)⟩, by rw [hwn.1]; exact h.mem.is, by rw [hwn.1]; exact owns_keepV h.mem.own hk (fun k e => h4 0 hn k (Or.inl e)), by rw [hwn.1]; exact h.mem.ne, h.mem.len⟩, h.now, h.mrk, ⟨_, cells_set m3, fun j hj => ?_⟩, by rw [hwn.2]; exact h.lgf, by rw [hwn.2]; exact owns_keepV h.log hk (fun k e => h4 0 hn k (Or.inr (Or.inl e))), rowIs_keep hrow1 hk2 (hne 0 2 (by omega) (by omega) (by omega)), by rw [hwn.1, hwn.2]; exact h.a1, fun s hs => ?_, fun s hs k e => h.nf s hs k (hX4 s hs k e), fun s u hs hu hsu k k2 k4 => ?_, fun s hs => ?_, fun s hs => ?_, fun s hs hso => ?_, h.fx, fun k hk' => Nat.lt_of_lt_of_le (h.lt k hk') hk.size⟩
  · rw [Array.getElem?_setIfInBounds]
    split
    · split
      · rfl
      · rename_i e1 e2
        exfalso
        apply e2
        subst e1
        exact (Array.getElem?_eq_some_iff.1 (m2 _ hj)).1
    · exact m2 j hj
  · rw [(hXw s).1, (hXw s).2, hwn.1, hwn.2]
    exact h.wl s hs
  · by_cases es : s = t
    · subst es; rw [hXt] at k2
      rcases k2 with k2 | k2 <;> cases k2
    · rw [hXs s es] at k2
      exact h.ap s u hs hu hsu k k2 (hX4 u hu k k4)
  · by_cases es : s = t
    · subst es
      rw [upd_same]
      exact hgt 0 (by omega) _ (by rw [hL]; rfl)
    · rw [upd_other es, hga _ (by omega)]
      exact h.op s hs
  · have e1 : (upd H t { H t with opn := true, event := ev, tape := Tp.new W.now } s).own = (H s).own := by
      by_cases e : s = t
      · subst e; rw [upd_same]
      · rw [upd_other e]
    rw [e1, hga _ (by omega)]
    obtain ⟨o1, v, o2, o3⟩ := h.own s hs
    exact ⟨o1, v, (hk.block _ ⟨hne (6 + s) 0 (by omega) (by omega) (by omega), hne (6 + s) 2 (by omega) (by omega) (by omega)⟩).trans o2, o3.keep hk hS (fun _ _ h => h)⟩
  · by_cases es : s = t
    · subst es
      rw [upd_same, hXt]
      have hv := fun j hj v (hv : L[j]? = some v) => hgt j hj v hv
      refine ⟨hgt 1 (by omega) _ (by rw [hL]; rfl), ?_, World.ownsRow_nil _ _ _ _, World.ownsRow_nil _ _ _ _, fun k _ e => (by cases e), fun k _ e => (by cases e), fun k _ e => (by cases e), fun k _ e => (by cases e), fun k e _ => (by cases e), Nat.le_refl _, LstIs.nil _ _, LstIs.nil _ _, KeyIs.nil _ _⟩
      refine ⟨hgt 2 (by omega) _ ?_, hgt 3 (by omega) _ ?_, hgt 4 (by omega) _ ?_, hgt 5 (by omega) _ ?_, hgt 6 (by omega) _ ?_, hgt 7 (by omega) _ ?_, hgt 8 (by omega) _ ?_, hgt 9 (by omega) _ ?_, hgt 10 (by omega) _ ?_, hgt 11 (by omega) _ ?_, hgt 12 (by omega) _ ?_, hgt 13 (by omega) _ ?_, hgt 14 (by omega) _ ?_⟩
      all_goals (rw [hL]; rfl)
    · have hso : (upd H t { H t with opn := true, event := ev, tape := Tp.new W.now } s).opn = true := hso
      rw [upd_other es] at hso ⊢
      rw [hXs s es]
      exact (h.hd s hs hso).keep (g' := g') hk (fun _ _ h => h) hS (fun k k2 => h4 s hs k (Rv.two4 k2)) (fun i i1 i2 => hga i (by omega))
theorem HsAt.kept (hi : Inj Fx n) (h : HsAt w Fx n M g f X W H) (hn : 1 ≤ n) (ht : t < n) {v : Value} {l : List Int} (hv : LstIs w M v l) : HsAt (w.setCell ⟨Fx (6 + t), 0, none⟩ v) Fx n M g f X W (upd H t { H t with own := upd (H t).own 0 l }) := by
  have hk : Keep (fun k => k ≠ Fx (6 + t)) w (w.setCell ⟨Fx (6 + t), 0, none⟩ v) := (Keep.refl _ w).setCell (by simp) _
  have hne : ∀ i, i < 6 + n → i ≠ 6 + t → Fx i ≠ Fx (6 + t) := fun i a c e => c (hi i _ a (by omega) e)
  have h4 : ∀ s, s < n → ∀ k, (X s).four k → k ≠ Fx (6 + t) := fun s hs k k4 => (h.nf s hs k k4).1 (6 + t) (by omega)
  have hS : ∀ k, k < w.heap.size → ¬ M k → k ≠ Fx (6 + t) := fun k _ k2 e => k2 (e ▸ h.fx (6 + t) (by omega))
  obtain ⟨xs, m1, m2⟩ := h.mks
  have ho : ∀ s, (upd H t { H t with own := upd (H t).own 0 l } s).opn = (H s).opn ∧ (upd H t { H t with own := upd (H t).own 0 l } s).event = (H s).event ∧ (upd H t { H t with own := upd (H t).own 0 l } s).tape = (H s).tape := fun s => by
    by_cases e : s = t
    · subst e; rw [upd_same]; exact ⟨rfl, rfl, rfl⟩
    · rw [upd_other e]; exact ⟨rfl, rfl, rfl⟩
  refine ⟨⟨rowIs_keep h.mem.row hk (hne 1 (by omega) (by omega)), h.mem.is, owns_keepV h.mem.own hk (fun k e => h4 0 hn k (Or.inl e)), h.mem.ne, h.mem.len⟩, h.now, h.mrk, ⟨xs, (hk.block _ (hne 2 (by omega) (by omega))).trans m1, m2⟩, h.lgf, owns_keepV h.log hk (fun k e => h4 0 hn k (Or.inr (Or.inl e))), rowIs_keep h.row hk (hne 0 (by omega) (by omega)), h.a1, h.wl, h.nf, h.ap, fun s hs => by rw [(ho s).1]; exact h.op s hs, fun s hs => ?_, fun s hs hso => ?_, h.fx, fun k hk' => Nat.lt_of_lt_of_le (h.lt k hk') hk.size⟩
  · obtain ⟨o1, v0, o2, o3⟩ := h.own s hs
    by_cases e : s = t
    · subst e
      rw [upd_same]
      refine ⟨o1, v, cells_set o2, ?_⟩
      show LstIs _ _ v (upd (H s).own 0 l 0)
      rw [upd_same]
      exact hv.keep hk hS (fun _ _ h => h)
    · rw [upd_other e]
      exact ⟨o1, v0, (hk.block _ (hne (6 + s) (by omega) (by omega))).trans o2, o3.keep hk hS (fun _ _ h => h)⟩
  · rw [(ho s).1] at hso
    have hh := (h.hd s hs hso).keep hk (fun _ _ h => h) hS (fun k e => h4 s hs k (Rv.two4 e)) (fun _ _ _ => rfl)
    obtain ⟨q1, q2, q3, q4, q5, q6, q7, q8, q9, q10, q11, q12, q13⟩ := hh
    obtain ⟨_, e2, e3⟩ := ho s
    exact ⟨by rw [e2]; exact q1, by rw [e3]; exact q2, by rw [e3]; exact q3, by rw [e3]; exact q4, q5, q6, q7, q8, q9, by rw [e3]; exact q10, by rw [e3]; exact q11, by rw [e3]; exact q12, by rw [e3]; exact q13⟩
theorem HsAt.shut (hi : Inj Fx n) (h : HsAt w Fx n M g f X W H) (hn : 1 ≤ n) (ht : t < n) : HsAt (w.setCell ⟨Fx 0, t * 16, none⟩ (.bool false)) Fx n M (fun i => if i = t * 16 then .bool false else g i) f X W (upd H t { H t with opn := false }) := by
  have hk : Keep (fun k => k ≠ Fx 0) w (w.setCell ⟨Fx 0, t * 16, none⟩ (.bool false)) := (Keep.refl _ w).setCell (by simp) _
  have hne : ∀ i, i < 6 + n → i ≠ 0 → Fx i ≠ Fx 0 := fun i a c e => c (hi i 0 a (by omega) e)
  have h4 : ∀ s, s < n → ∀ k, (X s).four k → k ≠ Fx 0 := fun s hs k k4 => (h.nf s hs k k4).1 0 (by omega)
  have hS : ∀ k, k < w.heap.size → ¬ M k → k ≠ Fx 0 := fun k _ k2 e => k2 (e ▸ h.fx 0 (by omega))
  obtain ⟨xs, m1, m2⟩ := h.mks
  refine ⟨⟨rowIs_keep h.mem.row hk (hne 1 (by omega) (by omega)), h.mem.is, owns_keepV h.mem.own hk (fun k e => h4 0 hn k (Or.inl e)), h.mem.ne, h.mem.len⟩, h.now, h.mrk, ⟨xs, (hk.block _ (hne 2 (by omega) (by omega))).trans m1, m2⟩, h.lgf, owns_keepV h.log hk (fun k e => h4 0 hn k (Or.inr (Or.inl e))), h.row.set _ _, h.a1, h.wl, h.nf, h.ap, fun s hs => ?_, fun s hs => ?_, fun s hs hso => ?_, h.fx, fun k hk' => Nat.lt_of_lt_of_le (h.lt k hk') hk.size⟩
  · by_cases e : s = t
    · subst e
      rw [upd_same]
      exact if_pos rfl
    · rw [upd_other e]
      show (if _ then _ else _) = _
      rw [if_neg (by omega)]
      exact h.op s hs
  · obtain ⟨o1, v0, o2, o3⟩ := h.own s hs
    have e1 : (upd H t { H t with opn := false } s).own = (H s).own := by
      by_cases e : s = t
      · subst e; rw [upd_same]
      · rw [upd_other e]
    rw [e1]
    refine ⟨?_, v0, (hk.block _ (hne (6 + s) (by omega) (by omega))).trans o2, o3.keep hk hS (fun _ _ h => h)⟩
    show (if _ then _ else _) = _
    rw [if_neg (by omega)]
    exact o1
  · by_cases e : s = t
    · subst e
      have hso : (upd H s { H s with opn := false } s).opn = true := hso
      rw [upd_same] at hso
      cases hso
    · have hso : (upd H t { H t with opn := false } s).opn = true := hso
      rw [upd_other e] at hso ⊢
      exact (h.hd s hs hso).keep hk (fun _ _ h => h) hS (fun k e => h4 s hs k (Rv.two4 e)) (fun i i1 i2 => if_neg (by omega))
end
end Go.Proofs.YtlfingcmekifkaaGreat
