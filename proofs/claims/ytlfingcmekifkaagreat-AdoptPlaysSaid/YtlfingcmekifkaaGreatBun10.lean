import Derived.Test.YtlfingcmekifkaaGreatRt1
namespace Go.Proofs.YtlfingcmekifkaaGreat
open Go.RowKit
def acEnc (x : Ac) : List Value := [.int .i64 x.tick, .int .i64 x.thread, .int .i64 x.kind, .int .i64 x.at_, .int .u64 x.old, .int .u64 x.now]
structure Rv where
  wv : Value
  lg : Value
  gv : Value
  tv : Value
  pv : Value
  lv : Value
  kv : Value
structure TpF (g : Nat → Value) (q wp : Nat) (th : Nat) (X : Rv) (T : Tp) : Prop where
  w : g q = .pointer (some ⟨wp, 0, none⟩)
  th : g (q + 1) = .int .i64 th
  inv : g (q + 2) = .int .i64 T.inv
  got : g (q + 3) = X.gv
  tks : g (q + 4) = X.tv
  at_ : g (q + 5) = .int .i64 T.at_
  fresh : g (q + 6) = .bool T.fresh
  halt : g (q + 7) = .bool T.halt
  priv : g (q + 8) = X.pv
  err : g (q + 9) = .int .i64 T.err
  val : g (q + 10) = .int .u64 T.val
  list : g (q + 11) = X.lv
  key : g (q + 12) = X.kv
def Apt (a b : Value) : Prop := ∀ k, a.ownBlock = some k → b.ownBlock ≠ some k
def Rv.four (X : Rv) (k : Nat) : Prop := X.wv.ownBlock = some k ∨ X.lg.ownBlock = some k ∨ X.gv.ownBlock = some k ∨ X.tv.ownBlock = some k
structure RtAt (w : World) (hb wp q nh th : Nat) (g f : Nat → Value) (X : Rv) (T : Tp) (W : Rw) : Prop where
  mem : RmAt w wp 0 f X.wv W.mem
  now : f 6 = .int .i64 W.now
  lgf : f 9 = X.lg
  hrow : w.rowIs hb 102 nh g
  qn : q + 13 ≤ nh
  tp : TpF g q wp th X T
  got : WRow w 0 X.gv T.got
  tks : w.ownsRow 0 3 1 X.tv T.tks.length (T.tks.map (Value.int .i64))
  log : w.ownsRow 0 222 6 X.lg W.log.length (W.log.flatMap acEnc)
  hw : hb ≠ wp
  ne : ∀ k, X.four k → k ≠ hb ∧ k ≠ wp
  a1 : Apt X.wv X.lg
  a2 : Apt X.wv X.gv
  a3 : Apt X.wv X.tv
  a4 : Apt X.lg X.gv
  a5 : Apt X.lg X.tv
  a6 : Apt X.gv X.tv
  bg : T.got.length ≤ 100000
  bt : T.tks.length ≤ 100000
  bl : W.log.length ≤ 100000
  ba : T.at_ ≤ T.got.length
def RtP (w : World) (hb wp q nh th : Nat) (g f : Nat → Value) (X : Rv) (val : Int) (T' : Tp) (W' : Rw) (e : Ending) (w' : World) : Prop :=
  e = .returned (.int .u64 val) ∧ ∃ g' f' X', RtAt w' hb wp q nh th g' f' X' T' W' ∧ X'.wv = X.wv ∧ X'.pv = X.pv ∧ X'.lv = X.lv ∧ X'.kv = X.kv ∧ (∀ i, (i < q ∨ q + 13 ≤ i) → g' i = g i) ∧ (∀ i, i = 7 ∨ i = 8 → f' i = f i) ∧
    (∀ k, X'.four k → X.four k ∨ w.heap.size ≤ k) ∧ Keep (fun k => k < w.heap.size ∧ k ≠ hb ∧ k ≠ wp ∧ ¬ X.four k) w w'
theorem RtAt.cell {w : World} {hb wp q nh th : Nat} {g f : Nat → Value} {X : Rv} {T T' : Tp} {W : Rw} (h : RtAt w hb wp q nh th g f X T W) {j : Nat} (v : Value) (_hj : j < 13) (ht : TpF (fun i => if i = q + j then v else g i) q wp th X T') (e1 : T'.got = T.got) (e2 : T'.tks = T.tks) (e3 : T'.at_ ≤ T'.got.length) :
    RtAt (w.setCell ⟨hb, q + j, none⟩ v) hb wp q nh th (fun i => if i = q + j then v else g i) f X T' W := by
  have hk : Keep (fun k => k ≠ hb) w (w.setCell ⟨hb, q + j, none⟩ v) := (Keep.refl _ w).setCell (by simp) _
  have hn : ∀ k, X.four k → k ≠ hb := fun k hk => (h.ne k hk).1
  refine ⟨⟨rowIs_keep h.mem.row hk h.hw.symm, h.mem.is, owns_keepV h.mem.own hk (fun k hk => hn k (Or.inl hk)), h.mem.ne, h.mem.len⟩, h.now, h.lgf, h.hrow.set (q + j) v, h.qn, ht, ?_, ?_, ?_, h.hw, h.ne, h.a1, h.a2, h.a3, h.a4, h.a5, h.a6, by rw [e1]; exact h.bg, by rw [e2]; exact h.bt, h.bl, e3⟩
  · rw [e1]; exact owns_keepV h.got hk (fun k hk => hn k (Or.inr (Or.inr (Or.inl hk))))
  · rw [e2]; exact owns_keepV h.tks hk (fun k hk => hn k (Or.inr (Or.inr (Or.inr hk))))
  · exact owns_keepV h.log hk (fun k hk => hn k (Or.inr (Or.inl hk)))
theorem RtAt.drewN {w : World} {hb wp q nh th n : Nat} {g f : Nat → Value} {X : Rv} {T : Tp} {W : Rw} (h : RtAt w hb wp q nh th g f X T W) : RtAt (w.drewN n) hb wp q nh th g f X T W := by
  have hk : Keep (fun _ => True) w (w.drewN n) := (Keep.refl _ w).drewN n
  exact ⟨⟨rowIs_keep h.mem.row hk trivial, h.mem.is, owns_keepV h.mem.own hk (fun _ _ => trivial), h.mem.ne, h.mem.len⟩, h.now, h.lgf, rowIs_keep h.hrow hk trivial, h.qn, h.tp, owns_keepV h.got hk (fun _ _ => trivial), owns_keepV h.tks hk (fun _ _ => trivial), owns_keepV h.log hk (fun _ _ => trivial), h.hw, h.ne, h.a1, h.a2, h.a3, h.a4, h.a5, h.a6, h.bg, h.bt, h.bl, h.ba⟩
theorem RtAt.cells {w : World} {hb wp q nh th : Nat} {g f : Nat → Value} {X : Rv} {T : Tp} {W : Rw} (h : RtAt w hb wp q nh th g f X T W) : w.cell? ⟨hb, q, none⟩ = some (.pointer (some ⟨wp, 0, none⟩)) ∧ w.cell? ⟨hb, q + 1, none⟩ = some (.int .i64 th) ∧ w.cell? ⟨hb, q + 3, none⟩ = some X.gv ∧ w.cell? ⟨hb, q + 4, none⟩ = some X.tv ∧ w.cell? ⟨hb, q + 5, none⟩ = some (.int .i64 T.at_) ∧ w.cell? ⟨hb, q + 6, none⟩ = some (.bool T.fresh) ∧ w.cell? ⟨hb, q + 7, none⟩ = some (.bool T.halt) ∧
    w.cell? ⟨wp, 0, none⟩ = some X.wv ∧ w.cell? ⟨wp, 6, none⟩ = some (.int .i64 W.now) ∧ w.cell? ⟨wp, 9, none⟩ = some X.lg := by
  have hq := h.qn
  have c := fun i (hi : i < nh) => h.hrow.cell (i := i) hi
  have d := fun i (hi : i < 10) => h.mem.row.cell (i := i) hi
  refine ⟨?_, ?_, ?_, ?_, ?_, ?_, ?_, ?_, ?_, ?_⟩
  · rw [c _ (by omega), h.tp.w]
  · rw [c _ (by omega), h.tp.th]
  · rw [c _ (by omega), h.tp.got]
  · rw [c _ (by omega), h.tp.tks]
  · rw [c _ (by omega), h.tp.at_]
  · rw [c _ (by omega), h.tp.fresh]
  · rw [c _ (by omega), h.tp.halt]
  · rw [d 0 (by omega), h.mem.is.v]
  · rw [d 6 (by omega), h.now]
  · rw [d 9 (by omega), h.lgf]
section
variable {w : World} {hb wp q nh th : Nat} {g f : Nat → Value} {X : Rv} {T : Tp} {W : Rw}
set_option maxRecDepth 100000 in
set_option maxHeartbeats 1000000 in
theorem tapeHalt (k a x y : Int) (h : RtAt w hb wp q nh th g f X T W) (hh : T.halt = true) : Calls Tryz.prog 121 #[.pointer (some ⟨hb, q, none⟩), .int .i64 k, .int .i64 a, .int .u64 x, .int .u64 y] w (RtP w hb wp q nh th g f X 0 T W) := by
  obtain ⟨t0, t1, t3, t4, t5, t6, t7, x0, x6, x9⟩ := h.cells
  have hz := h.hrow.lt
  have HH := hide h
  rw [hh] at t7
  clear h hh
  go_enter Tryz.func121, Tryz.ntmps121
  go_wp2
  go_ret
  exact ⟨rfl, g, f, X, HH.out, rfl, rfl, rfl, rfl, fun _ _ => rfl, fun _ _ => rfl, fun k hk => Or.inl hk, Keep.refl _ _⟩
set_option maxRecDepth 100000 in
set_option maxHeartbeats 1000000 in
theorem tapeNo (k a x y : Int) (h : RtAt w hb wp q nh th g f X T W) (hh : T.halt = false) (hf : T.fresh = false) (hl : T.at_ = T.got.length) : Calls Tryz.prog 121 #[.pointer (some ⟨hb, q, none⟩), .int .i64 k, .int .i64 a, .int .u64 x, .int .u64 y] w (RtP w hb wp q nh th g f X 0 { T with halt := true } W) := by
  obtain ⟨t0, t1, t3, t4, t5, t6, t7, x0, x6, x9⟩ := h.cells
  have hz := h.hrow.lt
  have hwz := h.mem.row.lt
  have hbg : (T.got.length : Int) ≤ 100000 := by have := h.bg; omega
  have hba : (T.at_ : Int) ≤ (T.got.length : Int) := by have := h.ba; omega
  have hown := h.got
  obtain ⟨Ag, cg, hgv⟩ := own_slice hown
  rw [hgv] at t3
  have HH := hide h
  have fz := h.hrow.frozen (q + 7)
  rw [hh] at t7
  rw [hf] at t6
  have hlt : ¬ (T.at_ : Int) < (T.got.length : Int) := by omega
  clear h hh hf hown hl
  go_enter Tryz.func121, Tryz.ntmps121
  go_wp2
  refine wp_region_seq (fun Y => Y.cell? ⟨hb, q + 5, none⟩ = some (.int .i64 T.at_) ∧ Y.cell? ⟨hb, q + 3, none⟩ = some (.slice Ag T.got.length cg)) (.take 0 <| .take 1 <| .take 2 <| .take 3 <| .take 4 <| .take 5 <| .take 6 <| .take 7 <| .take 8 <| .take 9 <| .done) (by kernel_rfl) (by kernel_rfl) (by kernel_rfl) (by refine ⟨?_, ?_⟩ <;> go_simp) ?_
  repeat (refine seq_take (v := ?_) rfl (by rfl) ?_ ?_; rotate_left; (focus (intro wS hS; obtain ⟨s0, s1⟩ := hS; go_simp; exact rfl)); simp only [Act.put, List.setIfInBounds_toArray, List.set_cons_zero, List.set_cons_succ])
  refine seq_nil ?_
  go_wp2
  go_ret
  have h := HH.out
  have hR := (h.cell (T' := { T with halt := true }) (.bool true) (show 7 < 13 by decide) (by obtain ⟨b0, b1, b2, b3, b4, b5, b6, b7, b8, b9, b10, b11, b12⟩ := h.tp; refine ⟨?_, ?_, ?_, ?_, ?_, ?_, ?_, ?_, ?_, ?_, ?_, ?_, ?_⟩; all_goals first | (rw [if_neg (by omega)]; assumption) | (rw [if_pos (by omega)]; rfl) | (rw [if_pos (by omega)])) rfl rfl h.ba).drewN (n := 1)
  exact ⟨rfl, _, f, X, hR, rfl, rfl, rfl, rfl, fun i hi => if_neg (by omega), fun _ _ => rfl, fun k hk => Or.inl hk, (((Keep.refl _ w).setCell (fun hk => hk.2.1 rfl) _).drewN 1)⟩
set_option maxRecDepth 100000 in
set_option maxHeartbeats 1000000 in
theorem tapeOld (k a x y v : Int) (h : RtAt w hb wp q nh th g f X T W) (hh : T.halt = false) (hv : T.got[T.at_]? = some v) : Calls Tryz.prog 121 #[.pointer (some ⟨hb, q, none⟩), .int .i64 k, .int .i64 a, .int .u64 x, .int .u64 y] w (RtP w hb wp q nh th g f X v { T with at_ := T.at_ + 1 } W) := by
  have hl := (List.getElem?_eq_some_iff.1 hv).1
  obtain ⟨t0, t1, t3, t4, t5, t6, t7, x0, x6, x9⟩ := h.cells
  have hz := h.hrow.lt
  have hwz := h.mem.row.lt
  have hbg : (T.got.length : Int) ≤ 100000 := by have := h.bg; omega
  have hba : (T.at_ : Int) ≤ (T.got.length : Int) := by have := h.ba; omega
  have hown := h.got
  obtain ⟨Ag, cg, hgv⟩ := own_slice hown
  rw [hgv] at t3
  have HH := hide h
  have fz := h.hrow.frozen (q + 5)
  rw [hh] at t7
  have hlt : (T.at_ : Int) < (T.got.length : Int) := by omega
  rw [hgv] at hown
  obtain ⟨gg, cap, hge, _, hgz⟩ := own_some' hown (by omega)
  cases hge
  have hgn := (h.ne gg (Or.inr (Or.inr (Or.inl (by rw [hgv]; rfl))))).1
  have cx : w.cell? ⟨gg, T.at_, none⟩ = some (.int .u64 v) := by
    rw [World.ownsRow.cellAt hown T.at_ (by omega), List.getElem?_map, hv]
    rfl
  have hw1 : IntKind.i64.wrap ((T.at_ : Int) + 1) = (T.at_ : Int) + 1 := wrap_i64 (by omega) (by omega)
  have hw2 : IntKind.i64.wrap ((T.at_ : Int) + 1 - 1) = (T.at_ : Int) := by rw [Int.add_sub_cancel]; exact wrap_i64 (by omega) (by omega)
  have hw3 : (T.at_ : Int) + 1 - 1 = T.at_ := by omega
  have hw4 : IntKind.i64.wrap (T.at_ : Int) = (T.at_ : Int) := wrap_i64 (by omega) (by omega)
  have HL := hide hl
  clear h hh hown hl hv
  go_enter Tryz.func121, Tryz.ntmps121
  go_wp2
  refine wp_region_seq (fun Y => Y.cell? ⟨hb, q + 5, none⟩ = some (.int .i64 T.at_) ∧ Y.cell? ⟨hb, q + 3, none⟩ = some (.slice (some ⟨gg, 0, none⟩) T.got.length cg)) (.take 0 <| .take 1 <| .take 2 <| .take 3 <| .take 4 <| .take 5 <| .take 6 <| .take 7 <| .take 8 <| .take 9 <| .done) (by kernel_rfl) (by kernel_rfl) (by kernel_rfl) (by refine ⟨?_, ?_⟩ <;> go_simp) ?_
  repeat (refine seq_take (v := ?_) rfl (by rfl) ?_ ?_; rotate_left; (focus (intro wS hS; obtain ⟨s0, s1⟩ := hS; go_simp; exact rfl)); simp only [Act.put, List.setIfInBounds_toArray, List.set_cons_zero, List.set_cons_succ])
  refine seq_nil ?_
  go_wp2
  refine wp_region_seq (fun Y => Y.cell? ⟨hb, q + 5, none⟩ = some (.int .i64 ((T.at_ : Int) + 1)) ∧ Y.cell? ⟨hb, q + 3, none⟩ = some (.slice (some ⟨gg, 0, none⟩) T.got.length cg) ∧ Y.cell? ⟨gg, T.at_, none⟩ = some (.int .u64 v)) (.take 0 <| .take 1 <| .take 2 <| .take 3 <| .take 4 <| .take 5 <| .take 6 <| .take 7 <| .take 8 <| .take 9 <| .take 10 <| .take 11 <| .done) (by kernel_rfl) (by kernel_rfl) (by kernel_rfl) (by refine ⟨?_, ?_, ?_⟩ <;> go_simp) ?_
  repeat (refine seq_take (v := ?_) rfl (by rfl) ?_ ?_; rotate_left; (focus (intro wS hS; obtain ⟨s0, s1, s2⟩ := hS; go_simp; exact rfl)); simp only [Act.put, List.setIfInBounds_toArray, List.set_cons_zero, List.set_cons_succ])
  refine seq_nil ?_
  go_wp2
  go_ret
  have h := HH.out
  have hR := (h.cell (T' := { T with at_ := T.at_ + 1 }) (.int .i64 ((T.at_ : Int) + 1)) (show 5 < 13 by decide) (by obtain ⟨b0, b1, b2, b3, b4, b5, b6, b7, b8, b9, b10, b11, b12⟩ := h.tp; refine ⟨?_, ?_, ?_, ?_, ?_, ?_, ?_, ?_, ?_, ?_, ?_, ?_, ?_⟩; all_goals first | (rw [if_neg (by omega)]; assumption) | (rw [if_pos (by omega)]; rfl) | (rw [if_pos (by omega)])) rfl rfl (by show T.at_ + 1 ≤ T.got.length; have := HL.out; omega)).drewN (n := 2)
  exact ⟨rfl, _, f, X, hR, rfl, rfl, rfl, rfl, fun i hi => if_neg (by omega), fun _ _ => rfl, fun k hk => Or.inl hk, (((Keep.refl _ w).setCell (fun hk => hk.2.1 rfl) _).drewN 2)⟩
end
end Go.Proofs.YtlfingcmekifkaaGreat

namespace Go.Proofs.YtlfingcmekifkaaGreat
open Go.RowKit
section
variable {w w2 w5 : World} {hb wp q nh th : Nat} {g f f' : Nat → Value} {X : Rv} {T : Tp} {W : Rw}
theorem RtAt.lt4 (h : RtAt w hb wp q nh th g f X T W) : ∀ k, X.four k → k < w.heap.size := by
  rintro k (hk | hk | hk | hk)
  · exact (World.ownsRow.lt h.mem.own k hk).2
  · exact (World.ownsRow.lt h.log k hk).2
  · exact (World.ownsRow.lt h.got k hk).2
  · exact (World.ownsRow.lt h.tks k hk).2
theorem RtAt.acc (h : RtAt w hb wp q nh th g f X T W) {m' : Mm} (hM : RmAt w2 wp 0 f' X.wv m') (hf : ∀ i, 6 ≤ i → f' i = f i) (hK : Keep (fun k => k ≠ wp ∧ X.wv.ownBlock ≠ some k) w w2) : RtAt w2 hb wp q nh th g f' X T { W with mem := m' } := by
  have n : ∀ k, X.four k → k ≠ wp := fun k hk => (h.ne k hk).2
  refine ⟨hM, by rw [hf 6 (by omega)]; exact h.now, by rw [hf 9 (by omega)]; exact h.lgf, rowIs_keep h.hrow hK ⟨h.hw, fun e => (h.ne hb (Or.inl e)).1 rfl⟩, h.qn, h.tp, ?_, ?_, ?_, h.hw, h.ne, h.a1, h.a2, h.a3, h.a4, h.a5, h.a6, h.bg, h.bt, h.bl, h.ba⟩
  · exact owns_keepV h.got hK (fun k hk => ⟨n k (Or.inr (Or.inr (Or.inl hk))), fun e => h.a2 k e hk⟩)
  · exact owns_keepV h.tks hK (fun k hk => ⟨n k (Or.inr (Or.inr (Or.inr hk))), fun e => h.a3 k e hk⟩)
  · exact owns_keepV h.log hK (fun k hk => ⟨n k (Or.inr (Or.inl hk)), fun e => h.a1 k e hk⟩)
theorem RtAt.logd (h : RtAt w hb wp q nh th g f X T W) {v : Value} {x : Ac} (hown : w5.ownsRow 0 222 6 v (W.log.length + 1) ((W.log ++ [x]).flatMap acEnc)) (hK : Keep (fun k => k < w.heap.size ∧ X.lg.ownBlock ≠ some k) w w5) (hloc : ∀ k, v.ownBlock = some k → X.lg.ownBlock = some k ∨ w.heap.size ≤ k) (hl : W.log.length + 1 ≤ 100000) (hhz : hb < w.heap.size) (hwz : wp < w.heap.size) :
    RtAt (w5.setCell ⟨wp, 9, none⟩ v) hb wp q nh th g (fun i => if i = 9 then v else f i) { X with lg := v } T { W with log := W.log ++ [x] } := by
  have n : ∀ k, X.four k → k ≠ wp := fun k hk => (h.ne k hk).2
  have hlt := h.lt4
  have hks : Keep (fun k => k ≠ wp) w5 (w5.setCell ⟨wp, 9, none⟩ v) := (Keep.refl _ w5).setCell (by simp) _
  have hKs : Keep (fun k => k < w.heap.size ∧ X.lg.ownBlock ≠ some k ∧ k ≠ wp) w (w5.setCell ⟨wp, 9, none⟩ v) := (hK.mono (fun k hk => ⟨hk.1, hk.2.1⟩)).trans (hks.mono (fun k hk => hk.2.2))
  have hvn : ∀ k, v.ownBlock = some k → k ≠ wp ∧ k ≠ hb := fun k hk => by
    rcases hloc k hk with h1 | h1
    · exact ⟨n k (Or.inr (Or.inl h1)), (h.ne k (Or.inr (Or.inl h1))).1⟩
    · exact ⟨by omega, by omega⟩
  have apt : ∀ (Y : Value), Apt X.lg Y → (∀ k, Y.ownBlock = some k → k < w.heap.size) → Apt v Y := fun Y h1 h2 k hk hy => by
    rcases hloc k hk with h3 | h3
    · exact h1 k h3 hy
    · have := h2 k hy; omega
  have hrow := (rowIs_keep h.mem.row hK ⟨hwz, fun e => n wp (Or.inr (Or.inl e)) rfl⟩).set 9 v
  refine ⟨⟨hrow, ?_, owns_keepV h.mem.own hKs (fun k hk => ⟨hlt k (Or.inl hk), fun e => h.a1 k hk e, n k (Or.inl hk)⟩), h.mem.ne, h.mem.len⟩, ?_, if_pos rfl, rowIs_keep h.hrow hKs ⟨hhz, fun e => (h.ne hb (Or.inr (Or.inl e))).1 rfl, h.hw⟩, h.qn, ⟨h.tp.w, h.tp.th, h.tp.inv, h.tp.got, h.tp.tks, h.tp.at_, h.tp.fresh, h.tp.halt, h.tp.priv, h.tp.err, h.tp.val, h.tp.list, h.tp.key⟩, ?_, ?_, ?_, h.hw, ?_, ?_, h.a2, h.a3, ?_, ?_, h.a6, h.bg, h.bt, ?_, h.ba⟩
  · have hi := h.mem.is
    refine ⟨?_, ?_, ?_, ?_, ?_, ?_⟩
    · show (if 0 = 9 then _ else f 0) = _; rw [if_neg (by decide)]; exact hi.v
    · show (if 1 = 9 then _ else f 1) = _; rw [if_neg (by decide)]; exact hi.rd
    · show (if 2 = 9 then _ else f 2) = _; rw [if_neg (by decide)]; exact hi.wr
    · show (if 3 = 9 then _ else f 3) = _; rw [if_neg (by decide)]; exact hi.sw
    · show (if 4 = 9 then _ else f 4) = _; rw [if_neg (by decide)]; exact hi.ad
    · show (if 5 = 9 then _ else f 5) = _; rw [if_neg (by decide)]; exact hi.ft
  · show (if 6 = 9 then _ else f 6) = _; rw [if_neg (by decide)]; exact h.now
  · exact owns_keepV h.got hKs (fun k hk => ⟨hlt k (Or.inr (Or.inr (Or.inl hk))), fun e => h.a4 k e hk, n k (Or.inr (Or.inr (Or.inl hk)))⟩)
  · exact owns_keepV h.tks hKs (fun k hk => ⟨hlt k (Or.inr (Or.inr (Or.inr hk))), fun e => h.a5 k e hk, n k (Or.inr (Or.inr (Or.inr hk)))⟩)
  · have : (W.log ++ [x]).length = W.log.length + 1 := by simp
    show World.ownsRow _ _ _ _ v (W.log ++ [x]).length _
    rw [this]
    exact owns_keepV hown hks (fun k hk => (hvn k hk).1)
  · rintro k (hk | hk | hk | hk)
    · exact h.ne k (Or.inl hk)
    · exact ⟨(hvn k hk).2, (hvn k hk).1⟩
    · exact h.ne k (Or.inr (Or.inr (Or.inl hk)))
    · exact h.ne k (Or.inr (Or.inr (Or.inr hk)))
  · intro k h1 h2
    rcases hloc k h2 with h3 | h3
    · exact h.a1 k h1 h3
    · have := hlt k (Or.inl h1); omega
  · exact apt _ h.a4 (fun k hk => hlt k (Or.inr (Or.inr (Or.inl hk))))
  · exact apt _ h.a5 (fun k hk => hlt k (Or.inr (Or.inr (Or.inr hk))))
  · simpa using hl
theorem RtAt.gotd (h : RtAt w hb wp q nh th g f X T W) {v : Value} {x : Int} (hown : WRow w5 0 v (T.got ++ [x])) (hK : Keep (fun k => k < w.heap.size ∧ X.gv.ownBlock ≠ some k) w w5) (hloc : ∀ k, v.ownBlock = some k → X.gv.ownBlock = some k ∨ w.heap.size ≤ k) (hl : T.got.length + 1 ≤ 100000) (hhz : hb < w.heap.size) (hwz : wp < w.heap.size) :
    RtAt (w5.setCell ⟨hb, q + 3, none⟩ v) hb wp q nh th (fun i => if i = q + 3 then v else g i) f { X with gv := v } { T with got := T.got ++ [x] } W := by
  have hlt := h.lt4
  have n : ∀ k, X.four k → k ≠ hb := fun k hk => (h.ne k hk).1
  have hks : Keep (fun k => k ≠ hb) w5 (w5.setCell ⟨hb, q + 3, none⟩ v) := (Keep.refl _ w5).setCell (by simp) _
  have hKs : Keep (fun k => k < w.heap.size ∧ X.gv.ownBlock ≠ some k ∧ k ≠ hb) w (w5.setCell ⟨hb, q + 3, none⟩ v) := (hK.mono (fun k hk => ⟨hk.1, hk.2.1⟩)).trans (hks.mono (fun k hk => hk.2.2))
  have hvn : ∀ k, v.ownBlock = some k → k ≠ hb ∧ k ≠ wp := fun k hk => by
    rcases hloc k hk with h1 | h1
    · exact h.ne k (Or.inr (Or.inr (Or.inl h1)))
    · exact ⟨by omega, by omega⟩
  have apt : ∀ (Y : Value), Apt Y X.gv → (∀ k, Y.ownBlock = some k → k < w.heap.size) → Apt Y v := fun Y h1 h2 k hy hk => by
    rcases hloc k hk with h3 | h3
    · exact h1 k hy h3
    · have := h2 k hy; omega
  have hrow := (rowIs_keep h.hrow hK ⟨hhz, fun e => n hb (Or.inr (Or.inr (Or.inl e))) rfl⟩).set (q + 3) v
  refine ⟨⟨rowIs_keep h.mem.row hKs ⟨hwz, fun e => (h.ne wp (Or.inr (Or.inr (Or.inl e)))).2 rfl, h.hw.symm⟩, h.mem.is, owns_keepV h.mem.own hKs (fun k hk => ⟨hlt k (Or.inl hk), fun e => h.a2 k hk e, n k (Or.inl hk)⟩), h.mem.ne, h.mem.len⟩, h.now, h.lgf, hrow, h.qn, ?_, ?_, ?_, ?_, h.hw, ?_, h.a1, ?_, h.a3, ?_, h.a5, ?_, by simpa using hl, h.bt, h.bl, ?_⟩
  · obtain ⟨b0, b1, b2, b3, b4, b5, b6, b7, b8, b9, b10, b11, b12⟩ := h.tp
    refine ⟨?_, ?_, ?_, ?_, ?_, ?_, ?_, ?_, ?_, ?_, ?_, ?_, ?_⟩
    all_goals first | (rw [if_neg (by omega)]; assumption) | (rw [if_pos (by omega)]; rfl) | (rw [if_pos (by omega)])
  · exact owns_keepV hown hks (fun k hk => (hvn k hk).1)
  · exact owns_keepV h.tks hKs (fun k hk => ⟨hlt k (Or.inr (Or.inr (Or.inr hk))), fun e => h.a6 k e hk, n k (Or.inr (Or.inr (Or.inr hk)))⟩)
  · exact owns_keepV h.log hKs (fun k hk => ⟨hlt k (Or.inr (Or.inl hk)), fun e => h.a4 k hk e, n k (Or.inr (Or.inl hk))⟩)
  · rintro k (hk | hk | hk | hk)
    · exact h.ne k (Or.inl hk)
    · exact h.ne k (Or.inr (Or.inl hk))
    · exact hvn k hk
    · exact h.ne k (Or.inr (Or.inr (Or.inr hk)))
  · exact apt _ h.a2 (fun k hk => hlt k (Or.inl hk))
  · exact apt _ h.a4 (fun k hk => hlt k (Or.inr (Or.inl hk)))
  · intro k h1 h2
    rcases hloc k h1 with h3 | h3
    · exact h.a6 k h3 h2
    · have := hlt k (Or.inr (Or.inr (Or.inr h2))); omega
  · show T.at_ ≤ (T.got ++ [x]).length
    have := h.ba
    simp
    omega
theorem RtAt.tksd (h : RtAt w hb wp q nh th g f X T W) {v : Value} {x : Int} (hown : w5.ownsRow 0 3 1 v (T.tks ++ [x]).length ((T.tks ++ [x]).map (Value.int .i64))) (hK : Keep (fun k => k < w.heap.size ∧ X.tv.ownBlock ≠ some k) w w5) (hloc : ∀ k, v.ownBlock = some k → X.tv.ownBlock = some k ∨ w.heap.size ≤ k) (hl : T.tks.length + 1 ≤ 100000) (hhz : hb < w.heap.size) (hwz : wp < w.heap.size) :
    RtAt (w5.setCell ⟨hb, q + 4, none⟩ v) hb wp q nh th (fun i => if i = q + 4 then v else g i) f { X with tv := v } { T with tks := T.tks ++ [x] } W := by
  have hlt := h.lt4
  have n : ∀ k, X.four k → k ≠ hb := fun k hk => (h.ne k hk).1
  have hks : Keep (fun k => k ≠ hb) w5 (w5.setCell ⟨hb, q + 4, none⟩ v) := (Keep.refl _ w5).setCell (by simp) _
  have hKs : Keep (fun k => k < w.heap.size ∧ X.tv.ownBlock ≠ some k ∧ k ≠ hb) w (w5.setCell ⟨hb, q + 4, none⟩ v) := (hK.mono (fun k hk => ⟨hk.1, hk.2.1⟩)).trans (hks.mono (fun k hk => hk.2.2))
  have hvn : ∀ k, v.ownBlock = some k → k ≠ hb ∧ k ≠ wp := fun k hk => by
    rcases hloc k hk with h1 | h1
    · exact h.ne k (Or.inr (Or.inr (Or.inr h1)))
    · exact ⟨by omega, by omega⟩
  have apt : ∀ (Y : Value), Apt Y X.tv → (∀ k, Y.ownBlock = some k → k < w.heap.size) → Apt Y v := fun Y h1 h2 k hy hk => by
    rcases hloc k hk with h3 | h3
    · exact h1 k hy h3
    · have := h2 k hy; omega
  have hrow := (rowIs_keep h.hrow hK ⟨hhz, fun e => n hb (Or.inr (Or.inr (Or.inr e))) rfl⟩).set (q + 4) v
  refine ⟨⟨rowIs_keep h.mem.row hKs ⟨hwz, fun e => (h.ne wp (Or.inr (Or.inr (Or.inr e)))).2 rfl, h.hw.symm⟩, h.mem.is, owns_keepV h.mem.own hKs (fun k hk => ⟨hlt k (Or.inl hk), fun e => h.a3 k hk e, n k (Or.inl hk)⟩), h.mem.ne, h.mem.len⟩, h.now, h.lgf, hrow, h.qn, ?_, ?_, ?_, ?_, h.hw, ?_, h.a1, h.a2, ?_, h.a4, ?_, ?_, h.bg, by simpa using hl, h.bl, h.ba⟩
  · obtain ⟨b0, b1, b2, b3, b4, b5, b6, b7, b8, b9, b10, b11, b12⟩ := h.tp
    refine ⟨?_, ?_, ?_, ?_, ?_, ?_, ?_, ?_, ?_, ?_, ?_, ?_, ?_⟩
    all_goals first | (rw [if_neg (by omega)]; assumption) | (rw [if_pos (by omega)]; rfl) | (rw [if_pos (by omega)])
  · exact owns_keepV h.got hKs (fun k hk => ⟨hlt k (Or.inr (Or.inr (Or.inl hk))), fun e => h.a6 k hk e, n k (Or.inr (Or.inr (Or.inl hk)))⟩)
  · exact owns_keepV hown hks (fun k hk => (hvn k hk).1)
  · exact owns_keepV h.log hKs (fun k hk => ⟨hlt k (Or.inr (Or.inl hk)), fun e => h.a5 k hk e, n k (Or.inr (Or.inl hk))⟩)
  · rintro k (hk | hk | hk | hk)
    · exact h.ne k (Or.inl hk)
    · exact h.ne k (Or.inr (Or.inl hk))
    · exact h.ne k (Or.inr (Or.inr (Or.inl hk)))
    · exact hvn k hk
  · exact apt _ h.a3 (fun k hk => hlt k (Or.inl hk))
  · exact apt _ h.a5 (fun k hk => hlt k (Or.inr (Or.inl hk)))
  · exact apt _ h.a6 (fun k hk => hlt k (Or.inr (Or.inr (Or.inl hk))))
end
end Go.Proofs.YtlfingcmekifkaaGreat
