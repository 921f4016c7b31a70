import Derived.Test.YtlfingcmekifkaaGreatBun11
namespace Go.Proofs.YtlfingcmekifkaaGreat
open Go.RowKit
section
variable {w w2 w5 : World} {hb wp q nh th : Nat} {g f f' : Nat → Value} {X : Rv} {T : Tp} {W : Rw}
theorem RtAt.lt4 (h : RtAt w hb wp q nh th g f X T W) : ∀ k, X.four k → k < w.heap.size := by
  rintro k (hk | hk | hk | hk)
  · exact (World.ownsRow.lt h.mem.own k hk).2
  · exact (World.ownsRow.lt h.log k hk).2
  · exact (World.ownsRow.lt h.got k hk).2
  · exact (World.ownsRow.lt h.tks k hk).2
theorem RtAt.acc (h : RtAt w hb wp q nh th g f X T W) {m' : Mm} (hM : RmAt w2 wp 0 f' X.wv m') (hf : ∀ i, 6 ≤ i → f' i = f i) (hK : Keep (fun k => k ≠ wp ∧ X.wv.ownBlock ≠ some k) w w2) : RtAt w2 hb wp q nh th g f' X T { W with mem := m' } := by
  have n : ∀ k, X.four k → k ≠ wp := fun k hk => (h.ne k hk).2
  refine ⟨hM, by rw [hf 6 (by omega)]; exact h.now, by rw [hf 9 (by omega)]; exact h.lgf, rowIs_keep h.hrow hK ⟨h.hw, fun e => (h.ne hb (Or.inl e)).1 rfl⟩, h.qn, h.tp, ?_, ?_, ?_, h.hw, h.ne, h.a1, h.a2, h.a3, h.a4, h.a5, h.a6, h.bg, h.bt, h.bl, h.ba⟩
  · exact owns_keepV h.got hK (fun k hk => ⟨n k (Or.inr (Or.inr (Or.inl hk))), fun e => h.a2 k e hk⟩)
  · exact owns_keepV h.tks hK (fun k hk => ⟨n k (Or.inr (Or.inr (Or.inr hk))), fun e => h.a3 k e hk⟩)
  · exact owns_keepV h.log hK (fun k hk => ⟨n k (Or.inr (Or.inl hk)), fun e => h.a1 k e hk⟩)
theorem RtAt.logd (h : RtAt w hb wp q nh th g f X T W) {v : Value} {x : Ac} (hown : w5.ownsRow 0 222 6 v (W.log.length + 1) ((W.log ++ [x]).flatMap acEnc)) (hK : Keep (fun k => k < w.heap.size ∧ X.lg.ownBlock ≠ some k) w w5) (hloc : ∀ k, v.ownBlock = some k → X.lg.ownBlock = some k ∨ w.heap.size ≤ k) (hl : W.log.length + 1 ≤ 100000) (hhz : hb < w.heap.size) (hwz : wp < w.heap.size) :
    RtAt (w5.setCell ⟨wp, 9, none⟩ v) hb wp q nh th g (fun i => if i = 9 then v else f i) { X with lg := v } T { W with log := W.log ++ [x] } := by
  have n : ∀ k, X.four k → k ≠ wp := fun k hk => (h.ne k hk).2
  have hlt := h.lt4
  have hks : Keep (fun k => k ≠ wp) w5 (w5.setCell ⟨wp, 9, none⟩ v) := (Keep.refl _ w5).setCell (by simp) _
  have hKs : Keep (fun k => k < w.heap.size ∧ X.lg.ownBlock ≠ some k ∧ k ≠ wp) w (w5.setCell ⟨wp, 9, none⟩ v) := (hK.mono (fun k hk => ⟨hk.1, hk.2.1⟩)).trans (hks.mono (fun k hk => hk.2.2))
  have hvn : ∀ k, v.ownBlock = some k → k ≠ wp ∧ k ≠ hb := fun k hk => by
    rcases hloc k hk with h1 | h1
    · exact ⟨n k (Or.inr (Or.inl h1)), (h.ne k (Or.inr (Or.inl h1))).1⟩
    · exact ⟨by omega, by omega⟩
  have apt : ∀ (Y : Value), Apt X.lg Y → (∀ k, Y.ownBlock = some k → k < w.heap.size) → Apt v Y := fun Y h1 h2 k hk hy => by
    rcases hloc k hk with h3 | h3
    · exact h1 k h3 hy
    · have := h2 k hy; omega
  have hrow := (rowIs_keep h.mem.row hK ⟨hwz, fun e => n wp (Or.inr (Or.inl e)) rfl⟩).set 9 v
  refine ⟨⟨hrow, ?_, owns_keepV h.mem.own hKs (fun k hk => ⟨hlt k (Or.inl hk), fun e => h.a1 k hk e, n k (Or.inl hk)⟩), h.mem.ne, h.mem.len⟩, ?_, if_pos rfl, rowIs_keep h.hrow hKs ⟨hhz, fun e => (h.ne hb (Or.inr (Or.inl e))).1 rfl, h.hw⟩, h.qn, ⟨h.tp.w, h.tp.th, h.tp.inv, h.tp.got, h.tp.tks, h.tp.at_, h.tp.fresh, h.tp.halt, h.tp.priv, h.tp.err, h.tp.val, h.tp.list, h.tp.key⟩, ?_, ?_, ?_, h.hw, ?_, ?_, h.a2, h.a3, ?_, ?_, h.a6, h.bg, h.bt, ?_, h.ba⟩
  · have hi := h.mem.is
    refine ⟨?_, ?_, ?_, ?_, ?_, ?_⟩
    · show (if 0 = 9 then _ else f 0) = _; rw [if_neg (by decide)]; exact hi.v
    · show (if 1 = 9 then _ else f 1) = _; rw [if_neg (by decide)]; exact hi.rd
    · show (if 2 = 9 then _ else f 2) = _; rw [if_neg (by decide)]; exact hi.wr
    · show (if 3 = 9 then _ else f 3) = _; rw [if_neg (by decide)]; exact hi.sw
    · show (if 4 = 9 then _ else f 4) = _; rw [if_neg (by decide)]; exact hi.ad
    · show (if 5 = 9 then _ else f 5) = _; rw [if_neg (by decide)]; exact hi.ft
  · show (if 6 = 9 then _ else f 6) = _; rw [if_neg (by decide)]; exact h.now
  · exact owns_keepV h.got hKs (fun k hk => ⟨hlt k (Or.inr (Or.inr (Or.inl hk))), fun e => h.a4 k e hk, n k (Or.inr (Or.inr (Or.inl hk)))⟩)
  · exact owns_keepV h.tks hKs (fun k hk => ⟨hlt k (Or.inr (Or.inr (Or.inr hk))), fun e => h.a5 k e hk, n k (Or.inr (Or.inr (Or.inr hk)))⟩)
  · have : (W.log ++ [x]).length = W.log.length + 1 := by simp
    show World.ownsRow _ _ _ _ v (W.log ++ [x]).length _
    rw [this]
    exact owns_keepV hown hks (fun k hk => (hvn k hk).1)
  · rintro k (hk | hk | hk | hk)
    · exact h.ne k (Or.inl hk)
    · exact ⟨(hvn k hk).2, (hvn k hk).1⟩
    · exact h.ne k (Or.inr (Or.inr (Or.inl hk)))
    · exact h.ne k (Or.inr (Or.inr (Or.inr hk)))
  · intro k h1 h2
    rcases hloc k h2 with h3 | h3
    · exact h.a1 k h1 h3
    · have := hlt k (Or.inl h1); omega
  · exact apt _ h.a4 (fun k hk => hlt k (Or.inr (Or.inr (Or.inl hk))))
  · exact apt _ h.a5 (fun k hk => hlt k (Or.inr (Or.inr (Or.inr hk))))
  · simpa using hl
theorem RtAt.gotd (h : RtAt w hb wp q nh th g f X T W) {v : Value} {x : Int} (hown : WRow w5 0 v (T.got ++ [x])) (hK : Keep (fun k => k < w.heap.size ∧ X.gv.ownBlock ≠ some k) w w5) (hloc : ∀ k, v.ownBlock = some k → X.gv.ownBlock = some k ∨ w.heap.size ≤ k) (hl : T.got.length + 1 ≤ 100000) (hhz : hb < w.heap.size) (hwz : wp < w.heap.size) :
    RtAt (w5.setCell ⟨hb, q + 3, none⟩ v) hb wp q nh th (fun i => if i = q + 3 then v else g i) f { X with gv := v } { T with got := T.got ++ [x] } W := by
  have hlt := h.lt4
  have n : ∀ k, X.four k → k ≠ hb := fun k hk => (h.ne k hk).1
  have hks : Keep (fun k => k ≠ hb) w5 (w5.setCell ⟨hb, q + 3, none⟩ v) := (Keep.refl _ w5).setCell (by simp) _
  have hKs : Keep (fun k => k < w.heap.size ∧ X.gv.ownBlock ≠ some k ∧ k ≠ hb) w (w5.setCell ⟨hb, q + 3, none⟩ v) := (hK.mono (fun k hk => ⟨hk.1, hk.2.1⟩)).trans (hks.mono (fun k hk => hk.2.2))
  have hvn : ∀ k, v.ownBlock = some k → k ≠ hb ∧ k ≠ wp := fun k hk => by
    rcases hloc k hk with h1 | h1
    · exact h.ne k (Or.inr (Or.inr (Or.inl h1)))
    · exact ⟨by omega, by omega⟩
  have apt : ∀ (Y : Value), Apt Y X.gv → (∀ k, Y.ownBlock = some k → k < w.heap.size) → Apt Y v := fun Y h1 h2 k hy hk => by
    rcases hloc k hk with h3 | h3
    · exact h1 k hy h3
    · have := h2 k hy; omega
  have hrow := (rowIs_keep h.hrow hK ⟨hhz, fun e => n hb (Or.inr (Or.inr (Or.inl e))) rfl⟩).set (q + 3) v
  refine ⟨⟨rowIs_keep h.mem.row hKs ⟨hwz, fun e => (h.ne wp (Or.inr (Or.inr (Or.inl e)))).2 rfl, h.hw.symm⟩, h.mem.is, owns_keepV h.mem.own hKs (fun k hk => ⟨hlt k (Or.inl hk), fun e => h.a2 k hk e, n k (Or.inl hk)⟩), h.mem.ne, h.mem.len⟩, h.now, h.lgf, hrow, h.qn, ?_, ?_, ?_, ?_, h.hw, ?_, h.a1, ?_, h.a3, ?_, h.a5, ?_, by simpa using hl, h.bt, h.bl, ?_⟩
  · obtain ⟨b0, b1, b2, b3, b4, b5, b6, b7, b8, b9, b10, b11, b12⟩ := h.tp
    refine ⟨?_, ?_, ?_, ?_, ?_, ?_, ?_, ?_, ?_, ?_, ?_, ?_, ?_⟩
    all_goals first | (rw [if_neg (by omega)]; assumption) | (rw [if_pos (by omega)]; rfl) | (rw [if_pos (by omega)])
  · exact owns_keepV hown hks (fun k hk => (hvn k hk).1)
  · exact owns_keepV h.tks hKs (fun k hk => ⟨hlt k (Or.inr (Or.inr (Or.inr hk))), fun e => h.a6 k e hk, n k (Or.inr (Or.inr (Or.inr hk)))⟩)
  · exact owns_keepV h.log hKs (fun k hk => ⟨hlt k (Or.inr (Or.inl hk)), fun e => h.a4 k hk e, n k (Or.inr (Or.inl hk))⟩)
  · rintro k (hk | hk | hk | hk)
    · exact h.ne k (Or.inl hk)
    · exact h.ne k (Or.inr (Or.inl hk))
    · exact hvn k hk
    · exact h.ne k (Or.inr (Or.inr (Or.inr hk)))
  · exact apt _ h.a2 (fun k hk => hlt k (Or.inl hk))
  · exact apt _ h.a4 (fun k hk => hlt k (Or.inr (Or.inl hk)))
  · intro k h1 h2
    rcases hloc k h1 with h3 | h3
    · exact h.a6 k h3 h2
    · have := hlt k (Or.inr (Or.inr (Or.inr h2))); omega
  · show T.at_ ≤ (T.got ++ [x]).length
    have := h.ba
    simp
    omega
theorem RtAt.tksd (h : RtAt w hb wp q nh th g f X T W) {v : Value} {x : Int} (hown : w5.ownsRow 0 3 1 v (T.tks ++ [x]).length ((T.tks ++ [x]).map (Value.int .i64))) (hK : Keep (fun k => k < w.heap.size ∧ X.tv.ownBlock ≠ some k) w w5) (hloc : ∀ k, v.ownBlock = some k → X.tv.ownBlock = some k ∨ w.heap.size ≤ k) (hl : T.tks.length + 1 ≤ 100000) (hhz : hb < w.heap.size) (hwz : wp < w.heap.size) :
    RtAt (w5.setCell ⟨hb, q + 4, none⟩ v) hb wp q nh th (fun i => if i = q + 4 then v else g i) f { X with tv := v } { T with tks := T.tks ++ [x] } W := by
  have hlt := h.lt4
  have n : ∀ k, X.four k → k ≠ hb := fun k hk => (h.ne k hk).1
  have hks : Keep (fun k => k ≠ hb) w5 (w5.setCell ⟨hb, q + 4, none⟩ v) := (Keep.refl _ w5).setCell (by simp) _
  have hKs : Keep (fun k => k < w.heap.size ∧ X.tv.ownBlock ≠ some k ∧ k ≠ hb) w (w5.setCell ⟨hb, q + 4, none⟩ v) := (hK.mono (fun k hk => ⟨hk.1, hk.2.1⟩)).trans (hks.mono (fun k hk => hk.2.2))
  have hvn : ∀ k, v.ownBlock = some k → k ≠ hb ∧ k ≠ wp := fun k hk => by
    rcases hloc k hk with h1 | h1
    · exact h.ne k (Or.inr (Or.inr (Or.inr h1)))
    · exact ⟨by omega, by omega⟩
  have apt : ∀ (Y : Value), Apt Y X.tv → (∀ k, Y.ownBlock = some k → k < w.heap.size) → Apt Y v := fun Y h1 h2 k hy hk => by
    rcases hloc k hk with h3 | h3
    · exact h1 k hy h3
    · have := h2 k hy; omega
  have hrow := (rowIs_keep h.hrow hK ⟨hhz, fun e => n hb (Or.inr (Or.inr (Or.inr e))) rfl⟩).set (q + 4) v
  refine ⟨⟨rowIs_keep h.mem.row hKs ⟨hwz, fun e => (h.ne wp (Or.inr (Or.inr (Or.inr e)))).2 rfl, h.hw.symm⟩, h.mem.is, owns_keepV h.mem.own hKs (fun k hk => ⟨hlt k (Or.inl hk), fun e => h.a3 k hk e, n k (Or.inl hk)⟩), h.mem.ne, h.mem.len⟩, h.now, h.lgf, hrow, h.qn, ?_, ?_, ?_, ?_, h.hw, ?_, h.a1, h.a2, ?_, h.a4, ?_, ?_, h.bg, by simpa using hl, h.bl, h.ba⟩
  · obtain ⟨b0, b1, b2, b3, b4, b5, b6, b7, b8, b9, b10, b11, b12⟩ := h.tp
    refine ⟨?_, ?_, ?_, ?_, ?_, ?_, ?_, ?_, ?_, ?_, ?_, ?_, ?_⟩
    all_goals first | (rw [if_neg (by omega)]; assumption) | (rw [if_pos (by omega)]; rfl) | (rw [if_pos (by omega)])
  · exact owns_keepV h.got hKs (fun k hk => ⟨hlt k (Or.inr (Or.inr (Or.inl hk))), fun e => h.a6 k hk e, n k (Or.inr (Or.inr (Or.inl hk)))⟩)
  · exact owns_keepV hown hks (fun k hk => (hvn k hk).1)
  · exact owns_keepV h.log hKs (fun k hk => ⟨hlt k (Or.inr (Or.inl hk)), fun e => h.a5 k hk e, n k (Or.inr (Or.inl hk))⟩)
  · rintro k (hk | hk | hk | hk)
    · exact h.ne k (Or.inl hk)
    · exact h.ne k (Or.inr (Or.inl hk))
    · exact h.ne k (Or.inr (Or.inr (Or.inl hk)))
    · exact hvn k hk
  · exact apt _ h.a3 (fun k hk => hlt k (Or.inl hk))
  · exact apt _ h.a5 (fun k hk => hlt k (Or.inr (Or.inl hk)))
  · exact apt _ h.a6 (fun k hk => hlt k (Or.inr (Or.inr (Or.inl hk))))
end
end Go.Proofs.YtlfingcmekifkaaGreat
