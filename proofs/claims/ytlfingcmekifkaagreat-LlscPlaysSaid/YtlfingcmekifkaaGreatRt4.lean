import Derived.Test.YtlfingcmekifkaaGreatRt3
import Derived.Test.YtlfingcmekifkaaGreatBun2
import Derived.Test.YtlfingcmekifkaaGreatSeqL
namespace Go.Proofs.YtlfingcmekifkaaGreat
open Go.RowKit
theorem info_acc : (Tryz.prog.info? 222).map (fun i => (i.zero, i.size, i.bytes)) = some (some (.agg #[.int .i64 0, .int .i64 0, .int .i64 0, .int .i64 0, .int .u64 0, .int .u64 0]), 6, 48) := by kernel_rfl
theorem info_int4 : (Tryz.prog.info? 3).map (fun i => (i.zero, i.size, i.bytes)) = some (some (.int .i64 0), 1, 8) := by kernel_rfl
theorem new1 (w : World) (u : Value) (t : TypeId) : ∀ (j : Nat) (z : Value), [u][j]? = some z → (w.alloc (.cells #[u] t)).cell? ((⟨w.heap.size, 0, none⟩ : Addr).add j) = some z := by
  intro j z hz
  rcases j with _ | j
  · simp at hz
    subst hz
    have := cell_of_row (w.alloc (.cells #[u] t)) w.heap.size 0 _ _ _ (heap_alloc_new w _)
    first | exact this | simpa [Addr.add] using this
  · simp at hz
section
variable {w : World} {hb wp q nh th : Nat} {g f : Nat → Value} {X : Rv} {T : Tp} {W : Rw}
set_option maxRecDepth 100000 in
set_option maxHeartbeats 2000000 in
theorem tapeNewOut (k a x y : Int) (hk : 0 ≤ k ∧ k ≤ 3) (h : RtAt w hb wp q nh th g f X T W) (hh : T.halt = false) (hf : T.fresh = true) (hl : T.at_ = T.got.length) (hb1 : T.got.length + 1 ≤ 100000) (hb2 : T.tks.length + 1 ≤ 100000) (hout : ¬ W.mem.in a) :
    Calls Tryz.prog 121 #[.pointer (some ⟨hb, q, none⟩), .int .i64 k, .int .i64 a, .int .u64 x, .int .u64 y] w (RtP w hb wp q nh th g f X (W.mem.tell k a x) { T with fresh := false, got := T.got ++ [W.mem.tell k a x], tks := T.tks ++ [W.now], at_ := T.at_ + 1 } { W with mem := W.mem.acc k a x y }) := by
  have h0 := h
  obtain ⟨t0, t1, t3, t4, t5, t6, t7, x0, x6, x9⟩ := h.cells
  have hz := h.hrow.lt
  have hwz := h.mem.row.lt
  have hwb := h.hw
  have hbg : (T.got.length : Int) ≤ 100000 := by have := h.bg; omega
  have hown := h.got
  obtain ⟨Ag, cg, hgv⟩ := own_slice hown
  rw [hgv] at t3
  have hownw := h.mem.own
  obtain ⟨Aw, cw, hwv⟩ := own_slice hownw
  rw [hwv] at x0
  have fz := h.hrow.frozen (q + 6)
  rw [hh] at t7
  rw [hf] at t6
  have hlt : ¬ (T.at_ : Int) < (T.got.length : Int) := by omega
  have hS0 : RtAt ((w.setCell ⟨hb, q + 6, none⟩ (.bool false)).drewN 1) hb wp q nh th (fun i => if i = q + 6 then .bool false else g i) f X { T with fresh := false } W := (h.cell (T' := { T with fresh := false }) (.bool false) (show 6 < 13 by decide) (by obtain ⟨b0, b1, b2, b3, b4, b5, b6, b7, b8, b9, b10, b11, b12⟩ := h.tp; refine ⟨?_, ?_, ?_, ?_, ?_, ?_, ?_, ?_, ?_, ?_, ?_, ?_, ?_⟩; all_goals first | (rw [if_neg (by omega)]; assumption) | (rw [if_pos (by omega)]; rfl) | (rw [if_pos (by omega)])) rfl rfl h.ba).drewN
  have hk0 : Keep (fun k => k ≠ hb) w ((w.setCell ⟨hb, q + 6, none⟩ (.bool false)).drewN 1) := ((Keep.refl _ w).setCell (by simp) _).drewN 1
  have N := rmAccess k a x y hk hS0.mem
  have HS0 := hide hS0
  have HK0 := hide hk0
  have HH := hide h0
  have HBA := hide h0.ba
  have hoo : a < 0 ∨ (0 ≤ a ∧ (W.mem.words.length : Int) ≤ a) := by unfold Mm.in at hout; omega
  have hol : (W.mem.words.length : Int) ≤ 65536 := by have := h.mem.len; omega
  clear h h0 hh hf hown hownw hl hS0 hk0 hout
  rcases hoo with ha | ⟨ha0, ha⟩
  · go_enter Tryz.func121, Tryz.ntmps121
    go_wp2
    refine wp_region_seq (fun Y => Y.cell? ⟨hb, q + 5, none⟩ = some (.int .i64 T.at_) ∧ Y.cell? ⟨hb, q + 3, none⟩ = some (.slice Ag T.got.length cg)) (.take 0 <| .take 1 <| .take 2 <| .take 3 <| .take 4 <| .take 5 <| .take 6 <| .take 7 <| .take 8 <| .take 9 <| .done) (by kernel_rfl) (by kernel_rfl) (by kernel_rfl) (by refine ⟨?_, ?_⟩ <;> go_simp) ?_
    repeat (refine seq_take (v := ?_) rfl (by rfl) ?_ ?_; rotate_left; (focus (intro wS hS; obtain ⟨s0, s1⟩ := hS; go_simp; exact rfl)); simp only [Act.put, List.setIfInBounds_toArray, List.set_cons_zero, List.set_cons_succ])
    refine seq_nil ?_
    go_wp2_with fail
    refine N.mono ?_
    rintro e w3 ⟨rfl, f', hM, hf', hK2, hs2⟩
    have h3 := HS0.out.acc hM hf' hK2
    obtain ⟨X3, hX3⟩ : ∃ X3 : Rv, X3 = X := ⟨_, rfl⟩
    have hgv' : X3.gv = .slice Ag T.got.length cg := by rw [hX3]; exact hgv
    rw [← hX3] at h3
    generalize W.mem.tell k a x = V at *
    have HX3 : Hid (X3.wv = X.wv ∧ X3.pv = X.pv ∧ X3.lv = X.lv ∧ X3.kv = X.kv) := hide (by rw [hX3]; exact ⟨rfl, rfl, rfl, rfl⟩)
    have HF3 : Hid (∀ i, i = 7 ∨ i = 8 → f' i = f i) := hide (fun i hi => hf' i (by omega))
    have HR3 : Hid (∀ k, X3.four k → X.four k ∨ w.heap.size ≤ k) := hide (fun k hk => Or.inl (by rw [hX3] at hk; exact hk))
    have HKX : Hid (Keep (fun k => k < w.heap.size ∧ k ≠ hb ∧ k ≠ wp ∧ ¬ X.four k) w w3) := hide ((HK0.out.mono (fun k hk => hk.2.1)).trans (hK2.mono (fun k hk => ⟨hk.2.2.1, fun e => hk.2.2.2 (Or.inl e)⟩)))
    clear hM hf' hK2 hs2 N t0 t1 t3 t4 t5 t6 t7 x0 x6 x9 fz hX3
    obtain ⟨u0, u1, u3, u4, u5, u6, u7, y0, y6, y9⟩ := h3.cells
    have hgv3 : X3.gv = .slice Ag T.got.length cg := hgv'
    rw [hgv3] at u3
    have hown3 : w3.ownsRow 0 46 1 (.slice Ag T.got.length cg) T.got.length (T.got.map (Value.int .u64)) := by rw [← hgv3]; exact h3.got
    have HN3 := hide (show hb < w3.heap.size ∧ X3.gv.ownBlock ≠ some hb from ⟨h3.hrow.lt, fun e => (h3.ne hb (Or.inr (Or.inr (Or.inl e)))).1 rfl⟩)
    have hz3 := h3.hrow.lt
    have hwz3 := h3.mem.row.lt
    have HT3 := hide h3
    obtain ⟨j0, hj, hj0, hj1, hj2⟩ := info_parts info_word
    go_wp2_with (at_builtin; (refine wpList_append_own_at _ rfl _ _ 28 rfl 0 46 j0 (.int .u64 0) 1 8 Tryz.underlying28 hj hj0 hj1 hj2 rfl (by decide) (.slice Ag T.got.length cg) T.got.length (T.got.map (Value.int .u64)) rfl (World.ownsRow.alloc hown3 (.cells #[.int .u64 V] 46)) ⟨w3.heap.size, 0, none⟩ 1 1 [.int .u64 V] rfl rfl (new1 _ _ _) (by simp [Value.oneCell']) (by unfold maxLen; omega) (by omega) (by simp) ?_; intro v' w5 hown5 hgrow hnil hloc; have hk5 : Keep (fun k => k < w3.heap.size ∧ X3.gv.ownBlock ≠ some k) w3 w5 := ((Keep.refl _ w3).alloc (fun k hk => hk.1) _).grown hgrow (fun k hk => by simp; omega) (fun k hk hh => hh.2 (by rw [hgv3]; exact hk)); obtain ⟨Av, cv, rfl⟩ := own_slice hown5; have s53 := (hk5.cell (p := ⟨hb, q + 3, none⟩) HN3.out).trans u3; have s5f := (rowIs_keep h3.hrow hk5 HN3.out).frozen (q + 3); have hz5 : hb < w5.heap.size := Nat.lt_of_lt_of_le HN3.out.1 hk5.size; have HK5 := hide hk5; have HO5 := hide hown5; have HL5 := hide hloc; clear hk5 hown5 hgrow hnil hloc u0 u1 u3 u4 u5 u6 u7 y0 y6 y9 hown3 h3))
    have h4 := HT3.out.gotd (v := .slice Av (T.got.length + 1) cv) (x := V) (by
      have hl : (T.got ++ [V]).length = T.got.length + 1 := by simp
      show WRow w5 0 _ (T.got ++ [V])
      unfold WRow
      rw [hl, List.map_append]
      exact HO5.out) HK5.out (fun k hk => by
      rcases HL5.out with e | e
      · exact Or.inl (by rw [hgv3, ← e]; exact hk)
      · rw [e] at hk
        cases hk
        exact Or.inr (by simp)) hb1 hz3 hwz3
    have hk4 : Keep (fun k => k < w3.heap.size ∧ X3.gv.ownBlock ≠ some k ∧ k ≠ hb) w3 (w5.setCell ⟨hb, q + 3, none⟩ (.slice Av (T.got.length + 1) cv)) := (HK5.out.mono (fun k hk => ⟨hk.1, hk.2.1⟩)).trans (((Keep.refl (fun k => k ≠ hb) w5).setCell (by simp) _).mono (fun k hk => hk.2.2))
    have hgl4 : ∀ k, (Value.slice Av (T.got.length + 1) cv).ownBlock = some k → X3.gv.ownBlock = some k ∨ w3.heap.size ≤ k := fun k hk => by
      rcases HL5.out with e | e
      · exact Or.inl (by rw [hgv3, ← e]; exact hk)
      · rw [e] at hk
        cases hk
        exact Or.inr (by simp)
    have HK4 := hide hk4
    have HGL4 := hide hgl4
    clear hk4 hgl4 HO5 HL5 s53 s5f hz5
    generalize w5.setCell ⟨hb, q + 3, none⟩ (.slice Av (T.got.length + 1) cv) = w4 at *
    have HT4 := hide h4
    obtain ⟨u0, u1, u3, u4, u5, u6, u7, y0, y6, y9⟩ := h4.cells
    have hownt := h4.tks
    obtain ⟨At, ct, htv⟩ := own_slice hownt
    have htv' : X3.tv = .slice At T.tks.length ct := htv
    rw [htv] at u4
    have hownt4 : w4.ownsRow 0 3 1 (.slice At T.tks.length ct) T.tks.length (T.tks.map (Value.int .i64)) := by rw [← htv]; exact hownt
    have hz4 := h4.hrow.lt
    have hwz4 := h4.mem.row.lt
    have fz4 := h4.hrow.frozen (q + 4)
    have HN4 := hide (show (hb < w4.heap.size ∧ X3.tv.ownBlock ≠ some hb) ∧ (wp < w4.heap.size ∧ X3.tv.ownBlock ≠ some wp) from ⟨⟨hz4, fun e => (h4.ne hb (Or.inr (Or.inr (Or.inr e)))).1 rfl⟩, ⟨hwz4, fun e => (h4.ne wp (Or.inr (Or.inr (Or.inr e)))).2 rfl⟩⟩)
    obtain ⟨j1, hi, hi0, hi1, hi2⟩ := info_parts info_int4
    clear h4 hownt u1 u3 u5 u6 u7 y0 y9
    refine wp_region_seql (fun Y => Y.cell? ⟨hb, q, none⟩ = some (.pointer (some ⟨wp, 0, none⟩)) ∧ Y.cell? ⟨hb, q + 4, none⟩ = some (.slice At T.tks.length ct) ∧ Y.cell? ⟨wp, 6, none⟩ = some (.int .i64 W.now)) [16] (.take 0 <| .take 1 <| .take 2 <| .take 3 <| .take 4 <| .take 5 <| .take 6 <| .take 7 <| .take 8 <| .take 9 <| .take 10 <| .take 11 <| .run 12 <| .run 13 <| .take 14 <| .take 15 <| .run 16 <| .done) (by kernel_rfl) (by kernel_rfl) (by kernel_rfl) (by refine ⟨?_, ?_, ?_⟩ <;> go_simp) ?_
    repeat (refine seql_take (v := ?_) rfl (by rfl) ?_ ?_; rotate_left; (focus (intro wS hS; obtain ⟨s0, s1, s2⟩ := hS; go_simp; exact rfl)); simp only [Act.put, List.setIfInBounds_toArray, List.set_cons_zero, List.set_cons_succ])
    refine seql_run rfl (by rfl) (fun K hK => ?_)
    go_simp
    refine hK _ _ (by refine ⟨?_, ?_, ?_⟩ <;> go_simp) ?_
    clear hK K
    refine seql_run rfl (by rfl) (fun K hK => ?_)
    refine wp_append_own_at _ _ 24 rfl 0 3 j1 (.int .i64 0) 1 8 Tryz.underlying24 hi hi0 hi1 hi2 rfl (by decide) (.slice At T.tks.length ct) _ _ (by rfl) (World.ownsRow.alloc hownt4 (.cells #[.int .i64 W.now] 3)) ⟨w4.heap.size, 0, none⟩ 1 1 [.int .i64 W.now] (by rfl) rfl (new1 _ _ _) (by simp [Value.oneCell']) (by unfold maxLen; omega) (by omega) (by simp) ?_
    intro v' w6 hown6 hgrow6 hnil6 hloc6
    have hk6 : Keep (fun k => k < w4.heap.size ∧ X3.tv.ownBlock ≠ some k) w4 w6 := ((Keep.refl _ _).drew.alloc (fun k hk => hk.1) _).grown hgrow6 (fun k hk => by simp; omega) (fun k hk hh => hh.2 (by rw [htv']; exact hk))
    obtain ⟨Av6, cv6, rfl⟩ := own_slice hown6
    have s60 := (hk6.cell (p := ⟨hb, q, none⟩) HN4.out.1).trans u0
    have s64 := (hk6.cell (p := ⟨hb, q + 4, none⟩) HN4.out.1).trans u4
    have s66 := (hk6.cell (p := ⟨wp, 6, none⟩) HN4.out.2).trans y6
    have s6f := (rowIs_keep HT4.out.hrow hk6 HN4.out.1).frozen (q + 4)
    have hz6 : hb < w6.heap.size := Nat.lt_of_lt_of_le hz4 hk6.size
    have HK6 := hide hk6
    have HO6 := hide hown6
    have HL6 := hide hloc6
    refine hK _ _ ⟨s60, s64, s66⟩ ?_
    clear hK K hk6 hown6 hgrow6 hnil6 hloc6
    repeat (refine seql_take (v := ?_) rfl (by rfl) ?_ ?_; rotate_left; (focus (intro wS hS; obtain ⟨s0, s1, s2⟩ := hS; go_simp; exact rfl)); simp only [Act.put, List.setIfInBounds_toArray, List.set_cons_zero, List.set_cons_succ])
    refine seql_late rfl rfl (by rfl) (fun K hK => ?_)
    go_simp
    refine hK _ _ ?_
    clear hK K
    refine seql_nil ?_
    have h5 := HT4.out.tksd (v := .slice Av6 (T.tks.length + 1) cv6) (x := W.now) (by
      have hl : (T.tks ++ [W.now]).length = T.tks.length + 1 := by simp
      show w6.ownsRow 0 3 1 _ (T.tks ++ [W.now]).length _
      rw [hl, List.map_append]
      exact HO6.out) HK6.out (fun k hk => by
      rcases HL6.out with e | e
      · exact Or.inl (by show X3.tv.ownBlock = _; rw [htv', ← e]; exact hk)
      · rw [e] at hk
        cases hk
        exact Or.inr (by simp)) hb2 hz4 hwz4
    have hk7 : Keep (fun k => k < w4.heap.size ∧ X3.tv.ownBlock ≠ some k ∧ k ≠ hb) w4 (w6.setCell ⟨hb, q + 4, none⟩ (.slice Av6 (T.tks.length + 1) cv6)) := (HK6.out.mono (fun k hk => ⟨hk.1, hk.2.1⟩)).trans (((Keep.refl (fun k => k ≠ hb) w6).setCell (by simp) _).mono (fun k hk => hk.2.2))
    have htl7 : ∀ k, (Value.slice Av6 (T.tks.length + 1) cv6).ownBlock = some k → X3.tv.ownBlock = some k ∨ w4.heap.size ≤ k := fun k hk => by
      rcases HL6.out with e | e
      · exact Or.inl (by rw [htv', ← e]; exact hk)
      · rw [e] at hk
        cases hk
        exact Or.inr (by simp)
    have HK7 := hide hk7
    have HTL7 := hide htl7
    clear hk7 htl7 HO6 HL6 s60 s64 s66 s6f hz6
    generalize w6.setCell ⟨hb, q + 4, none⟩ (.slice Av6 (T.tks.length + 1) cv6) = w7 at *
    have HT5 := hide h5
    have z5 := h5.cells.2.2.2.2.1
    have fz5 := h5.hrow.frozen (q + 5)
    have hz7 := h5.hrow.lt
    have hat5 := HBA.out
    have hw1 : IntKind.i64.wrap ((T.at_ : Int) + 1) = (T.at_ : Int) + 1 := wrap_i64 (by omega) (by omega)
    clear h5
    go_wp2
    go_ret
    have h6 := HT5.out.cell (T' := { T with fresh := false, got := T.got ++ [V], tks := T.tks ++ [W.now], at_ := T.at_ + 1 }) (.int .i64 ((T.at_ : Int) + 1)) (show 5 < 13 by decide) (by obtain ⟨b0, b1, b2, b3, b4, b5, b6, b7, b8, b9, b10, b11, b12⟩ := HT5.out.tp; refine ⟨?_, ?_, ?_, ?_, ?_, ?_, ?_, ?_, ?_, ?_, ?_, ?_, ?_⟩; all_goals first | (rw [if_neg (by omega)]; assumption) | (rw [if_pos (by omega)]; rfl) | (rw [if_pos (by omega)])) rfl rfl (by show T.at_ + 1 ≤ (T.got ++ [V]).length; have := HBA.out; simp; omega)
    refine ⟨rfl, _, _, _, h6, HX3.out.1, HX3.out.2.1, HX3.out.2.2.1, HX3.out.2.2.2, fun i hi => ?_, HF3.out, ?_, ?_⟩
    · show (if i = q + 5 then _ else if i = q + 4 then _ else if i = q + 3 then _ else if i = q + 6 then _ else g i) = g i
      rw [if_neg (by omega), if_neg (by omega), if_neg (by omega), if_neg (by omega)]
    · rintro k (hk | hk | hk | hk)
      · exact HR3.out k (Or.inl hk)
      · exact HR3.out k (Or.inr (Or.inl hk))
      · rcases HGL4.out k hk with h1 | h1
        · exact HR3.out k (Or.inr (Or.inr (Or.inl h1)))
        · have := HKX.out.size
          exact Or.inr (by omega)
      · rcases HTL7.out k hk with h1 | h1
        · exact HR3.out k (Or.inr (Or.inr (Or.inr h1)))
        · have := HKX.out.size
          have := HK4.out.size
          exact Or.inr (by omega)
    · have e1 := HKX.out.size
      have e2 := HK4.out.size
      have nf : ∀ k, k < w.heap.size → ¬ X.four k → ¬ X3.four k := fun k h1 h2 h3 => by
        rcases HR3.out k h3 with h4 | h4
        · exact h2 h4
        · omega
      exact ((HKX.out.trans (HK4.out.mono (fun k hk => ⟨by omega, fun e => nf k hk.1 hk.2.2.2 (Or.inr (Or.inr (Or.inl e))), hk.2.1⟩))).trans (HK7.out.mono (fun k hk => ⟨by omega, fun e => nf k hk.1 hk.2.2.2 (Or.inr (Or.inr (Or.inr e))), hk.2.1⟩))).setCell (fun hk => hk.2.1 rfl) _
  · go_enter Tryz.func121, Tryz.ntmps121
    go_wp2
    refine wp_region_seq (fun Y => Y.cell? ⟨hb, q + 5, none⟩ = some (.int .i64 T.at_) ∧ Y.cell? ⟨hb, q + 3, none⟩ = some (.slice Ag T.got.length cg)) (.take 0 <| .take 1 <| .take 2 <| .take 3 <| .take 4 <| .take 5 <| .take 6 <| .take 7 <| .take 8 <| .take 9 <| .done) (by kernel_rfl) (by kernel_rfl) (by kernel_rfl) (by refine ⟨?_, ?_⟩ <;> go_simp) ?_
    repeat (refine seq_take (v := ?_) rfl (by rfl) ?_ ?_; rotate_left; (focus (intro wS hS; obtain ⟨s0, s1⟩ := hS; go_simp; exact rfl)); simp only [Act.put, List.setIfInBounds_toArray, List.set_cons_zero, List.set_cons_succ])
    refine seq_nil ?_
    go_wp2_with fail
    refine N.mono ?_
    rintro e w3 ⟨rfl, f', hM, hf', hK2, hs2⟩
    have h3 := HS0.out.acc hM hf' hK2
    obtain ⟨X3, hX3⟩ : ∃ X3 : Rv, X3 = X := ⟨_, rfl⟩
    have hgv' : X3.gv = .slice Ag T.got.length cg := by rw [hX3]; exact hgv
    rw [← hX3] at h3
    generalize W.mem.tell k a x = V at *
    have HX3 : Hid (X3.wv = X.wv ∧ X3.pv = X.pv ∧ X3.lv = X.lv ∧ X3.kv = X.kv) := hide (by rw [hX3]; exact ⟨rfl, rfl, rfl, rfl⟩)
    have HF3 : Hid (∀ i, i = 7 ∨ i = 8 → f' i = f i) := hide (fun i hi => hf' i (by omega))
    have HR3 : Hid (∀ k, X3.four k → X.four k ∨ w.heap.size ≤ k) := hide (fun k hk => Or.inl (by rw [hX3] at hk; exact hk))
    have HKX : Hid (Keep (fun k => k < w.heap.size ∧ k ≠ hb ∧ k ≠ wp ∧ ¬ X.four k) w w3) := hide ((HK0.out.mono (fun k hk => hk.2.1)).trans (hK2.mono (fun k hk => ⟨hk.2.2.1, fun e => hk.2.2.2 (Or.inl e)⟩)))
    clear hM hf' hK2 hs2 N t0 t1 t3 t4 t5 t6 t7 x0 x6 x9 fz hX3
    obtain ⟨u0, u1, u3, u4, u5, u6, u7, y0, y6, y9⟩ := h3.cells
    have hgv3 : X3.gv = .slice Ag T.got.length cg := hgv'
    rw [hgv3] at u3
    have hown3 : w3.ownsRow 0 46 1 (.slice Ag T.got.length cg) T.got.length (T.got.map (Value.int .u64)) := by rw [← hgv3]; exact h3.got
    have HN3 := hide (show hb < w3.heap.size ∧ X3.gv.ownBlock ≠ some hb from ⟨h3.hrow.lt, fun e => (h3.ne hb (Or.inr (Or.inr (Or.inl e)))).1 rfl⟩)
    have hz3 := h3.hrow.lt
    have hwz3 := h3.mem.row.lt
    have HT3 := hide h3
    obtain ⟨j0, hj, hj0, hj1, hj2⟩ := info_parts info_word
    go_wp2_with (at_builtin; (refine wpList_append_own_at _ rfl _ _ 28 rfl 0 46 j0 (.int .u64 0) 1 8 Tryz.underlying28 hj hj0 hj1 hj2 rfl (by decide) (.slice Ag T.got.length cg) T.got.length (T.got.map (Value.int .u64)) rfl (World.ownsRow.alloc hown3 (.cells #[.int .u64 V] 46)) ⟨w3.heap.size, 0, none⟩ 1 1 [.int .u64 V] rfl rfl (new1 _ _ _) (by simp [Value.oneCell']) (by unfold maxLen; omega) (by omega) (by simp) ?_; intro v' w5 hown5 hgrow hnil hloc; have hk5 : Keep (fun k => k < w3.heap.size ∧ X3.gv.ownBlock ≠ some k) w3 w5 := ((Keep.refl _ w3).alloc (fun k hk => hk.1) _).grown hgrow (fun k hk => by simp; omega) (fun k hk hh => hh.2 (by rw [hgv3]; exact hk)); obtain ⟨Av, cv, rfl⟩ := own_slice hown5; have s53 := (hk5.cell (p := ⟨hb, q + 3, none⟩) HN3.out).trans u3; have s5f := (rowIs_keep h3.hrow hk5 HN3.out).frozen (q + 3); have hz5 : hb < w5.heap.size := Nat.lt_of_lt_of_le HN3.out.1 hk5.size; have HK5 := hide hk5; have HO5 := hide hown5; have HL5 := hide hloc; clear hk5 hown5 hgrow hnil hloc u0 u1 u3 u4 u5 u6 u7 y0 y6 y9 hown3 h3))
    have h4 := HT3.out.gotd (v := .slice Av (T.got.length + 1) cv) (x := V) (by
      have hl : (T.got ++ [V]).length = T.got.length + 1 := by simp
      show WRow w5 0 _ (T.got ++ [V])
      unfold WRow
      rw [hl, List.map_append]
      exact HO5.out) HK5.out (fun k hk => by
      rcases HL5.out with e | e
      · exact Or.inl (by rw [hgv3, ← e]; exact hk)
      · rw [e] at hk
        cases hk
        exact Or.inr (by simp)) hb1 hz3 hwz3
    have hk4 : Keep (fun k => k < w3.heap.size ∧ X3.gv.ownBlock ≠ some k ∧ k ≠ hb) w3 (w5.setCell ⟨hb, q + 3, none⟩ (.slice Av (T.got.length + 1) cv)) := (HK5.out.mono (fun k hk => ⟨hk.1, hk.2.1⟩)).trans (((Keep.refl (fun k => k ≠ hb) w5).setCell (by simp) _).mono (fun k hk => hk.2.2))
    have hgl4 : ∀ k, (Value.slice Av (T.got.length + 1) cv).ownBlock = some k → X3.gv.ownBlock = some k ∨ w3.heap.size ≤ k := fun k hk => by
      rcases HL5.out with e | e
      · exact Or.inl (by rw [hgv3, ← e]; exact hk)
      · rw [e] at hk
        cases hk
        exact Or.inr (by simp)
    have HK4 := hide hk4
    have HGL4 := hide hgl4
    clear hk4 hgl4 HO5 HL5 s53 s5f hz5
    generalize w5.setCell ⟨hb, q + 3, none⟩ (.slice Av (T.got.length + 1) cv) = w4 at *
    have HT4 := hide h4
    obtain ⟨u0, u1, u3, u4, u5, u6, u7, y0, y6, y9⟩ := h4.cells
    have hownt := h4.tks
    obtain ⟨At, ct, htv⟩ := own_slice hownt
    have htv' : X3.tv = .slice At T.tks.length ct := htv
    rw [htv] at u4
    have hownt4 : w4.ownsRow 0 3 1 (.slice At T.tks.length ct) T.tks.length (T.tks.map (Value.int .i64)) := by rw [← htv]; exact hownt
    have hz4 := h4.hrow.lt
    have hwz4 := h4.mem.row.lt
    have fz4 := h4.hrow.frozen (q + 4)
    have HN4 := hide (show (hb < w4.heap.size ∧ X3.tv.ownBlock ≠ some hb) ∧ (wp < w4.heap.size ∧ X3.tv.ownBlock ≠ some wp) from ⟨⟨hz4, fun e => (h4.ne hb (Or.inr (Or.inr (Or.inr e)))).1 rfl⟩, ⟨hwz4, fun e => (h4.ne wp (Or.inr (Or.inr (Or.inr e)))).2 rfl⟩⟩)
    obtain ⟨j1, hi, hi0, hi1, hi2⟩ := info_parts info_int4
    clear h4 hownt u1 u3 u5 u6 u7 y0 y9
    refine wp_region_seql (fun Y => Y.cell? ⟨hb, q, none⟩ = some (.pointer (some ⟨wp, 0, none⟩)) ∧ Y.cell? ⟨hb, q + 4, none⟩ = some (.slice At T.tks.length ct) ∧ Y.cell? ⟨wp, 6, none⟩ = some (.int .i64 W.now)) [16] (.take 0 <| .take 1 <| .take 2 <| .take 3 <| .take 4 <| .take 5 <| .take 6 <| .take 7 <| .take 8 <| .take 9 <| .take 10 <| .take 11 <| .run 12 <| .run 13 <| .take 14 <| .take 15 <| .run 16 <| .done) (by kernel_rfl) (by kernel_rfl) (by kernel_rfl) (by refine ⟨?_, ?_, ?_⟩ <;> go_simp) ?_
    repeat (refine seql_take (v := ?_) rfl (by rfl) ?_ ?_; rotate_left; (focus (intro wS hS; obtain ⟨s0, s1, s2⟩ := hS; go_simp; exact rfl)); simp only [Act.put, List.setIfInBounds_toArray, List.set_cons_zero, List.set_cons_succ])
    refine seql_run rfl (by rfl) (fun K hK => ?_)
    go_simp
    refine hK _ _ (by refine ⟨?_, ?_, ?_⟩ <;> go_simp) ?_
    clear hK K
    refine seql_run rfl (by rfl) (fun K hK => ?_)
    refine wp_append_own_at _ _ 24 rfl 0 3 j1 (.int .i64 0) 1 8 Tryz.underlying24 hi hi0 hi1 hi2 rfl (by decide) (.slice At T.tks.length ct) _ _ (by rfl) (World.ownsRow.alloc hownt4 (.cells #[.int .i64 W.now] 3)) ⟨w4.heap.size, 0, none⟩ 1 1 [.int .i64 W.now] (by rfl) rfl (new1 _ _ _) (by simp [Value.oneCell']) (by unfold maxLen; omega) (by omega) (by simp) ?_
    intro v' w6 hown6 hgrow6 hnil6 hloc6
    have hk6 : Keep (fun k => k < w4.heap.size ∧ X3.tv.ownBlock ≠ some k) w4 w6 := ((Keep.refl _ _).drew.alloc (fun k hk => hk.1) _).grown hgrow6 (fun k hk => by simp; omega) (fun k hk hh => hh.2 (by rw [htv']; exact hk))
    obtain ⟨Av6, cv6, rfl⟩ := own_slice hown6
    have s60 := (hk6.cell (p := ⟨hb, q, none⟩) HN4.out.1).trans u0
    have s64 := (hk6.cell (p := ⟨hb, q + 4, none⟩) HN4.out.1).trans u4
    have s66 := (hk6.cell (p := ⟨wp, 6, none⟩) HN4.out.2).trans y6
    have s6f := (rowIs_keep HT4.out.hrow hk6 HN4.out.1).frozen (q + 4)
    have hz6 : hb < w6.heap.size := Nat.lt_of_lt_of_le hz4 hk6.size
    have HK6 := hide hk6
    have HO6 := hide hown6
    have HL6 := hide hloc6
    refine hK _ _ ⟨s60, s64, s66⟩ ?_
    clear hK K hk6 hown6 hgrow6 hnil6 hloc6
    repeat (refine seql_take (v := ?_) rfl (by rfl) ?_ ?_; rotate_left; (focus (intro wS hS; obtain ⟨s0, s1, s2⟩ := hS; go_simp; exact rfl)); simp only [Act.put, List.setIfInBounds_toArray, List.set_cons_zero, List.set_cons_succ])
    refine seql_late rfl rfl (by rfl) (fun K hK => ?_)
    go_simp
    refine hK _ _ ?_
    clear hK K
    refine seql_nil ?_
    have h5 := HT4.out.tksd (v := .slice Av6 (T.tks.length + 1) cv6) (x := W.now) (by
      have hl : (T.tks ++ [W.now]).length = T.tks.length + 1 := by simp
      show w6.ownsRow 0 3 1 _ (T.tks ++ [W.now]).length _
      rw [hl, List.map_append]
      exact HO6.out) HK6.out (fun k hk => by
      rcases HL6.out with e | e
      · exact Or.inl (by show X3.tv.ownBlock = _; rw [htv', ← e]; exact hk)
      · rw [e] at hk
        cases hk
        exact Or.inr (by simp)) hb2 hz4 hwz4
    have hk7 : Keep (fun k => k < w4.heap.size ∧ X3.tv.ownBlock ≠ some k ∧ k ≠ hb) w4 (w6.setCell ⟨hb, q + 4, none⟩ (.slice Av6 (T.tks.length + 1) cv6)) := (HK6.out.mono (fun k hk => ⟨hk.1, hk.2.1⟩)).trans (((Keep.refl (fun k => k ≠ hb) w6).setCell (by simp) _).mono (fun k hk => hk.2.2))
    have htl7 : ∀ k, (Value.slice Av6 (T.tks.length + 1) cv6).ownBlock = some k → X3.tv.ownBlock = some k ∨ w4.heap.size ≤ k := fun k hk => by
      rcases HL6.out with e | e
      · exact Or.inl (by rw [htv', ← e]; exact hk)
      · rw [e] at hk
        cases hk
        exact Or.inr (by simp)
    have HK7 := hide hk7
    have HTL7 := hide htl7
    clear hk7 htl7 HO6 HL6 s60 s64 s66 s6f hz6
    generalize w6.setCell ⟨hb, q + 4, none⟩ (.slice Av6 (T.tks.length + 1) cv6) = w7 at *
    have HT5 := hide h5
    have z5 := h5.cells.2.2.2.2.1
    have fz5 := h5.hrow.frozen (q + 5)
    have hz7 := h5.hrow.lt
    have hat5 := HBA.out
    have hw1 : IntKind.i64.wrap ((T.at_ : Int) + 1) = (T.at_ : Int) + 1 := wrap_i64 (by omega) (by omega)
    clear h5
    go_wp2
    go_ret
    have h6 := HT5.out.cell (T' := { T with fresh := false, got := T.got ++ [V], tks := T.tks ++ [W.now], at_ := T.at_ + 1 }) (.int .i64 ((T.at_ : Int) + 1)) (show 5 < 13 by decide) (by obtain ⟨b0, b1, b2, b3, b4, b5, b6, b7, b8, b9, b10, b11, b12⟩ := HT5.out.tp; refine ⟨?_, ?_, ?_, ?_, ?_, ?_, ?_, ?_, ?_, ?_, ?_, ?_, ?_⟩; all_goals first | (rw [if_neg (by omega)]; assumption) | (rw [if_pos (by omega)]; rfl) | (rw [if_pos (by omega)])) rfl rfl (by show T.at_ + 1 ≤ (T.got ++ [V]).length; have := HBA.out; simp; omega)
    refine ⟨rfl, _, _, _, h6, HX3.out.1, HX3.out.2.1, HX3.out.2.2.1, HX3.out.2.2.2, fun i hi => ?_, HF3.out, ?_, ?_⟩
    · show (if i = q + 5 then _ else if i = q + 4 then _ else if i = q + 3 then _ else if i = q + 6 then _ else g i) = g i
      rw [if_neg (by omega), if_neg (by omega), if_neg (by omega), if_neg (by omega)]
    · rintro k (hk | hk | hk | hk)
      · exact HR3.out k (Or.inl hk)
      · exact HR3.out k (Or.inr (Or.inl hk))
      · rcases HGL4.out k hk with h1 | h1
        · exact HR3.out k (Or.inr (Or.inr (Or.inl h1)))
        · have := HKX.out.size
          exact Or.inr (by omega)
      · rcases HTL7.out k hk with h1 | h1
        · exact HR3.out k (Or.inr (Or.inr (Or.inr h1)))
        · have := HKX.out.size
          have := HK4.out.size
          exact Or.inr (by omega)
    · have e1 := HKX.out.size
      have e2 := HK4.out.size
      have nf : ∀ k, k < w.heap.size → ¬ X.four k → ¬ X3.four k := fun k h1 h2 h3 => by
        rcases HR3.out k h3 with h4 | h4
        · exact h2 h4
        · omega
      exact ((HKX.out.trans (HK4.out.mono (fun k hk => ⟨by omega, fun e => nf k hk.1 hk.2.2.2 (Or.inr (Or.inr (Or.inl e))), hk.2.1⟩))).trans (HK7.out.mono (fun k hk => ⟨by omega, fun e => nf k hk.1 hk.2.2.2 (Or.inr (Or.inr (Or.inr e))), hk.2.1⟩))).setCell (fun hk => hk.2.1 rfl) _
end
end Go.Proofs.YtlfingcmekifkaaGreat
