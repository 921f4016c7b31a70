import Derived.Test.YtlfingcmekifkaaGreatRt4
namespace Go.Proofs.YtlfingcmekifkaaGreat
open Go.RowKit
section
variable {w : World} {hb wp q nh th : Nat} {g f : Nat → Value} {X : Rv} {T : Tp} {W : Rw}
theorem new6 (w : World) (a b c d e f : Value) (t : TypeId) : ∀ (j : Nat) (z : Value), [a, b, c, d, e, f][j]? = some z → (w.alloc (.cells #[a, b, c, d, e, f] t)).cell? ((⟨w.heap.size, 0, none⟩ : Addr).add j) = some z := by
  intro j z hz
  have hh := heap_alloc_new w (.cells #[a, b, c, d, e, f] t)
  rcases j with _ | _ | _ | _ | _ | _ | j
  all_goals first | (simp at hz; done) | (simp at hz; subst hz; first | (have := cell_of_row _ _ 0 _ _ _ hh; first | exact this | (simp [Addr.add]; done) | simpa [Addr.add] using this) | (have := cell_of_row _ _ 1 _ _ _ hh; first | exact this | (simp [Addr.add]; done) | simpa [Addr.add] using this) | (have := cell_of_row _ _ 2 _ _ _ hh; first | exact this | (simp [Addr.add]; done) | simpa [Addr.add] using this) | (have := cell_of_row _ _ 3 _ _ _ hh; first | exact this | (simp [Addr.add]; done) | simpa [Addr.add] using this) | (have := cell_of_row _ _ 4 _ _ _ hh; first | exact this | (simp [Addr.add]; done) | simpa [Addr.add] using this) | (have := cell_of_row _ _ 5 _ _ _ hh; first | exact this | (simp [Addr.add]; done) | simpa [Addr.add] using this))
set_option maxRecDepth 100000 in
set_option maxHeartbeats 1000000 in
theorem tapeNewIn (k x y : Int) (n : Nat) (hk : 0 ≤ k ∧ k ≤ 3) (h : RtAt w hb wp q nh th g f X T W) (hh : T.halt = false) (hf : T.fresh = true) (hl : T.at_ = T.got.length) (hb1 : T.got.length + 1 ≤ 100000) (hb2 : T.tks.length + 1 ≤ 100000) (hb3 : W.log.length + 1 ≤ 100000) (hin : n < W.mem.words.length) :
    Calls Tryz.prog 121 #[.pointer (some ⟨hb, q, none⟩), .int .i64 k, .int .i64 n, .int .u64 x, .int .u64 y] w (RtP w hb wp q nh th g f X (W.mem.tell k n x) { T with fresh := false, got := T.got ++ [W.mem.tell k n x], tks := T.tks ++ [W.now], at_ := T.at_ + 1 } { W with mem := W.mem.acc k n x y, log := W.log ++ [⟨W.now, th, k, n, W.mem.at n, (W.mem.acc k n x y).at n⟩] }) := by
  obtain ⟨a, ha⟩ : ∃ a : Int, a = (n : Int) := ⟨_, rfl⟩
  have hz0 : W.mem.words[n]? = some (W.mem.at n) := by
    unfold Mm.at
    rw [Int.toNat_natCast, List.getElem?_eq_getElem hin]
    rfl
  have hz2 : (W.mem.acc k n x y).words[n]? = some ((W.mem.acc k n x y).at n) := by
    unfold Mm.at
    rw [Int.toNat_natCast, List.getElem?_eq_getElem (by rw [mm_len]; exact hin)]
    rfl
  have hlen2 : (W.mem.acc k n x y).words.length = W.mem.words.length := mm_len _ _ _ _ _
  obtain ⟨gw0, cw0, hwv0, _, hgwz⟩ := own_some' h.mem.own (by omega)
  have h0 := h
  obtain ⟨t0, t1, t3, t4, t5, t6, t7, x0, x6, x9⟩ := h.cells
  have hz := h.hrow.lt
  have hwz := h.mem.row.lt
  have hwb := h.hw
  have hbg : (T.got.length : Int) ≤ 100000 := by have := h.bg; omega
  have hown := h.got
  obtain ⟨Ag, cg, hgv⟩ := own_slice hown
  rw [hgv] at t3
  have hownw := h.mem.own
  obtain ⟨Aw, cw, hwv⟩ := own_slice hownw
  rw [hwv] at x0
  have fz := h.hrow.frozen (q + 6)
  rw [hh] at t7
  rw [hf] at t6
  have hlt : ¬ (T.at_ : Int) < (T.got.length : Int) := by omega
  have hS0 : RtAt ((w.setCell ⟨hb, q + 6, none⟩ (.bool false)).drewN 1) hb wp q nh th (fun i => if i = q + 6 then .bool false else g i) f X { T with fresh := false } W := (h.cell (T' := { T with fresh := false }) (.bool false) (show 6 < 13 by decide) (by obtain ⟨b0, b1, b2, b3, b4, b5, b6, b7, b8, b9, b10, b11, b12⟩ := h.tp; refine ⟨?_, ?_, ?_, ?_, ?_, ?_, ?_, ?_, ?_, ?_, ?_, ?_, ?_⟩; all_goals first | (rw [if_neg (by omega)]; assumption) | (rw [if_pos (by omega)]; rfl) | (rw [if_pos (by omega)])) rfl rfl h.ba).drewN
  have hk0 : Keep (fun k => k ≠ hb) w ((w.setCell ⟨hb, q + 6, none⟩ (.bool false)).drewN 1) := ((Keep.refl _ w).setCell (by simp) _).drewN 1
  have N := rmAccess k a x y hk hS0.mem
  have HS0 := hide hS0
  have HK0 := hide hk0
  have HH := hide h0
  have HBA := hide h0.ba
  subst ha
  rw [hwv0] at hwv
  cases hwv
  rw [hwv0] at hownw
  have hgn := h.ne gw0 (Or.inl (by rw [hwv0]; rfl))
  have cx : w.cell? ⟨gw0, n, none⟩ = some (.int .u64 (W.mem.at n)) := by
    rw [World.ownsRow.cellAt hownw n (by omega), List.getElem?_map, hz0]
    rfl
  have hal2 : (n : Int) < (W.mem.words.length : Int) := by omega
  have hol : (W.mem.words.length : Int) ≤ 65536 := by have := h.mem.len; omega
  have HIN := hide hin
  clear h h0 hh hf hown hownw hl hS0 hk0 hin hz0
  go_enter Tryz.func121, Tryz.ntmps121
  go_wp2
  refine wp_region_seq (fun Y => Y.cell? ⟨hb, q + 5, none⟩ = some (.int .i64 T.at_) ∧ Y.cell? ⟨hb, q + 3, none⟩ = some (.slice Ag T.got.length cg)) (.take 0 <| .take 1 <| .take 2 <| .take 3 <| .take 4 <| .take 5 <| .take 6 <| .take 7 <| .take 8 <| .take 9 <| .done) (by kernel_rfl) (by kernel_rfl) (by kernel_rfl) (by refine ⟨?_, ?_⟩ <;> go_simp) ?_
  repeat (refine seq_take (v := ?_) rfl (by rfl) ?_ ?_; rotate_left; (focus (intro wS hS; obtain ⟨s0, s1⟩ := hS; go_simp; exact rfl)); simp only [Act.put, List.setIfInBounds_toArray, List.set_cons_zero, List.set_cons_succ])
  refine seq_nil ?_
  go_wp2_with fail
  refine N.mono ?_
  rintro e w2 ⟨rfl, f', hM, hf', hK2, hs2⟩
  have h2 := HS0.out.acc hM hf' hK2
  have HKX2 : Hid (Keep (fun k => k < w.heap.size ∧ k ≠ hb ∧ k ≠ wp ∧ ¬ X.four k) w w2) := hide ((HK0.out.mono (fun k hk => hk.2.1)).trans (hK2.mono (fun k hk => ⟨hk.2.2.1, fun e => hk.2.2.2 (Or.inl e)⟩)))
  generalize W.mem.tell k n x = V at *
  have ho2 := h2.mem.own
  rw [hwv0] at ho2
  have cx2 : w2.cell? ⟨gw0, n, none⟩ = some (.int .u64 ((W.mem.acc k n x y).at n)) := by
    have ho2' : w2.ownsRow 0 46 1 (.slice (some ⟨gw0, 0, none⟩) (W.mem.acc k n x y).words.length cw0) (W.mem.acc k n x y).words.length ((W.mem.acc k n x y).words.map (Value.int .u64)) := by
      rw [show Value.slice (some ⟨gw0, 0, none⟩) (W.mem.acc k n x y).words.length cw0 = Value.slice (some ⟨gw0, 0, none⟩) W.mem.words.length cw0 by rw [hlen2]]
      exact ho2
    rw [World.ownsRow.cellAt ho2' n (by rw [hlen2]; have := HIN.out; omega), List.getElem?_map, hz2]
    rfl
  obtain ⟨u0, u1, u3, u4, u5, u6, u7, y0, y6, y9⟩ := h2.cells
  rw [hwv0] at y0
  have hlg := h2.log
  obtain ⟨Al, cl, hlgv⟩ := own_slice hlg
  rw [hlgv] at y9 hlg
  have hz2b := h2.hrow.lt
  have hwz2 := h2.mem.row.lt
  have hbl : W.log.length ≤ 100000 := h2.bl
  have hl9 : wp < w2.heap.size ∧ X.lg.ownBlock ≠ some wp := ⟨hwz2, fun e => (h2.ne wp (Or.inr (Or.inl e))).2 rfl⟩
  have hl0 : hb < w2.heap.size ∧ X.lg.ownBlock ≠ some hb := ⟨hz2b, fun e => (h2.ne hb (Or.inr (Or.inl e))).1 rfl⟩
  have hlw : gw0 < w2.heap.size ∧ X.lg.ownBlock ≠ some gw0 := ⟨h2.lt4 gw0 (Or.inl (by rw [hwv0]; rfl)), h2.a1 gw0 (by rw [hwv0]; rfl)⟩
  have HT2 := hide h2
  have HF2 := hide hf'
  obtain ⟨jl, hi, hi0, hi1, hi2⟩ := info_parts info_acc
  obtain ⟨z2, hz2e⟩ : ∃ z2, (W.mem.acc k n x y).at n = z2 := ⟨_, rfl⟩
  obtain ⟨z, hze⟩ : ∃ z, W.mem.at n = z := ⟨_, rfl⟩
  rw [hz2e] at cx2
  rw [hze] at cx ⊢
  clear h2 hM hf' hK2 hs2 N t0 t1 t3 t4 t5 t6 t7 x0 x6 x9 fz u3 u4 u5 u6 u7 ho2 cx
  go_wp2
  refine wp_region_seql (fun Y => Y.cell? ⟨hb, q, none⟩ = some (.pointer (some ⟨wp, 0, none⟩)) ∧ Y.cell? ⟨wp, 9, none⟩ = some (.slice Al W.log.length cl) ∧ Y.cell? ⟨wp, 6, none⟩ = some (.int .i64 W.now) ∧ Y.cell? ⟨hb, q + 1, none⟩ = some (.int .i64 th) ∧ Y.cell? ⟨wp, 0, none⟩ = some (.slice (some ⟨gw0, 0, none⟩) W.mem.words.length cw0) ∧ Y.cell? ⟨gw0, n, none⟩ = some (.int .u64 z2)) [41] (.take 0 <| .take 1 <| .take 2 <| .take 3 <| .take 4 <| .take 5 <| .take 6 <| .take 7 <| .take 8 <| .take 9 <| .take 10 <| .take 11 <| .take 12 <| .take 13 <| .take 14 <| .take 15 <| .take 16 <| .take 17 <| .take 18 <| .take 19 <| .take 20 <| .take 21 <| .take 22 <| .take 23 <| .take 24 <| .take 25 <| .take 26 <| .take 27 <| .take 28 <| .take 29 <| .take 30 <| .take 31 <| .take 32 <| .take 33 <| .take 34 <| .take 35 <| .take 36 <| .run 37 <| .run 38 <| .take 39 <| .take 40 <| .run 41 <| .done) (by kernel_rfl) (by kernel_rfl) (by kernel_rfl) (by refine ⟨?_, ?_, ?_, ?_, ?_, ?_⟩ <;> go_simp) ?_
  iterate 37 (refine seql_take (v := ?_) rfl (by rfl) ?_ ?_; rotate_left; (focus (intro wS hS; obtain ⟨s0, s1, s2, s3, s4, s5⟩ := hS; go_simp; exact rfl)); simp only [Act.put, List.setIfInBounds_toArray, List.set_cons_zero, List.set_cons_succ])
  refine seql_run rfl (by rfl) (fun K hK => ?_)
  go_simp
  refine hK _ _ (by refine ⟨?_, ?_, ?_, ?_, ?_, ?_⟩ <;> go_simp) ?_
  clear hK K
  refine seql_run rfl (by rfl) (fun K hK => ?_)
  refine wp_append_own_at _ _ 58 rfl 0 222 jl (.agg #[.int .i64 0, .int .i64 0, .int .i64 0, .int .i64 0, .int .u64 0, .int .u64 0]) 6 48 Tryz.underlying58 hi hi0 hi1 hi2 rfl (by decide) (.slice Al W.log.length cl) _ _ (by rfl) (World.ownsRow.alloc hlg (.cells #[.int .i64 W.now, .int .i64 th, .int .i64 k, .int .i64 n, .int .u64 z, .int .u64 z2] 222)) ⟨w2.heap.size, 0, none⟩ 1 1 [.int .i64 W.now, .int .i64 th, .int .i64 k, .int .i64 n, .int .u64 z, .int .u64 z2] (by first | rfl | (rw [← hze]; rfl)) rfl (new6 _ _ _ _ _ _ _ _) (by simp [Value.oneCell']) (by unfold maxLen; omega) (by omega) (by simp) ?_
  intro v' w5 hown5 hgrow5 hnil5 hloc5
  have hk5 : Keep (fun k => k < w2.heap.size ∧ X.lg.ownBlock ≠ some k) w2 w5 := ((Keep.refl _ _).drew.alloc (fun k hk => hk.1) _).grown hgrow5 (fun k hk => by simp; omega) (fun k hk hh => hh.2 (by rw [hlgv]; exact hk))
  obtain ⟨Av5, cv5, rfl⟩ := own_slice hown5
  have s0 := (hk5.cell (p := ⟨hb, q, none⟩) hl0).trans u0
  have s1 := (hk5.cell (p := ⟨wp, 9, none⟩) hl9).trans y9
  have s2 := (hk5.cell (p := ⟨wp, 6, none⟩) hl9).trans y6
  have s3 := (hk5.cell (p := ⟨hb, q + 1, none⟩) hl0).trans u1
  have s4 := (hk5.cell (p := ⟨wp, 0, none⟩) hl9).trans y0
  have s5 := (hk5.cell (p := ⟨gw0, n, none⟩) hlw).trans cx2
  have s9f := (rowIs_keep HT2.out.mem.row hk5 hl9).frozen 9
  have hwz5 : wp < w5.heap.size := Nat.lt_of_lt_of_le hwz2 hk5.size
  have HK5 := hide hk5
  have HO5 := hide hown5
  have HL5 := hide hloc5
  refine hK _ _ ⟨s0, s1, s2, s3, s4, s5⟩ ?_
  clear hK K hk5 hown5 hgrow5 hnil5 hloc5
  iterate 2 (refine seql_take (v := ?_) rfl (by rfl) ?_ ?_; rotate_left; (focus (intro wS hS; obtain ⟨s0, s1, s2, s3, s4, s5⟩ := hS; go_simp; exact rfl)); simp only [Act.put, List.setIfInBounds_toArray, List.set_cons_zero, List.set_cons_succ])
  refine seql_late rfl rfl (by rfl) (fun K hK => ?_)
  go_simp
  refine hK _ _ ?_
  clear hK K
  refine seql_nil ?_
  have hl5 : ∀ k, (Value.slice Av5 (W.log.length + 1) cv5).ownBlock = some k → X.lg.ownBlock = some k ∨ w2.heap.size ≤ k := fun k hk => by
    rcases HL5.out with e | e
    · exact Or.inl (by rw [hlgv, ← e]; exact hk)
    · rw [e] at hk
      cases hk
      exact Or.inr (by simp)
  have h3 := HT2.out.logd (x := ⟨W.now, th, k, n, z, z2⟩) (v := .slice Av5 (W.log.length + 1) cv5) (by
    show w5.ownsRow 0 222 6 _ (W.log.length + 1) ((W.log ++ [_]).flatMap acEnc)
    rw [List.flatMap_append]
    exact HO5.out) HK5.out hl5 hb3 hz2b hwz2
  obtain ⟨X3, hX3⟩ : ∃ X3 : Rv, X3 = { X with lg := .slice Av5 (W.log.length + 1) cv5 } := ⟨_, rfl⟩
  rw [← hX3] at h3
  have hgv' : X3.gv = .slice Ag T.got.length cg := by rw [hX3]; exact hgv
  have HX3 : Hid (X3.wv = X.wv ∧ X3.pv = X.pv ∧ X3.lv = X.lv ∧ X3.kv = X.kv) := hide (by rw [hX3]; exact ⟨rfl, rfl, rfl, rfl⟩)
  have HF3 : Hid (∀ i, i = 7 ∨ i = 8 → (fun i => if i = 9 then Value.slice Av5 (W.log.length + 1) cv5 else f' i) i = f i) := hide (fun i hi => by
    show (if i = 9 then _ else f' i) = f i
    rw [if_neg (by omega)]
    exact HF2.out i (by omega))
  have HR3 : Hid (∀ k, X3.four k → X.four k ∨ w.heap.size ≤ k) := hide (fun k hk => by
    rw [hX3] at hk
    rcases hk with hk | hk | hk | hk
    · exact Or.inl (Or.inl hk)
    · rcases hl5 k hk with h1 | h1
      · exact Or.inl (Or.inr (Or.inl h1))
      · have := HKX2.out.size
        exact Or.inr (by omega)
    · exact Or.inl (Or.inr (Or.inr (Or.inl hk)))
    · exact Or.inl (Or.inr (Or.inr (Or.inr hk))))
  have HKX : Hid (Keep (fun k => k < w.heap.size ∧ k ≠ hb ∧ k ≠ wp ∧ ¬ X.four k) w (w5.setCell ⟨wp, 9, none⟩ (.slice Av5 (W.log.length + 1) cv5))) := hide ((HKX2.out.trans (HK5.out.mono (fun k hk => ⟨by have := HKX2.out.size; omega, fun e => hk.2.2.2 (Or.inr (Or.inl e))⟩))).setCell (fun hk => hk.2.2.1 rfl) _)
  clear hl5 HO5 HL5 HK5 hX3 s0 s1 s2 s3 s4 s5 s9f hwz5 u0 u1 y0 y6 y9 cx2 hlg
  generalize w5.setCell ⟨wp, 9, none⟩ (.slice Av5 (W.log.length + 1) cv5) = w3 at *
  rw [hze]
  rw [hz2e]
  obtain ⟨u0, u1, u3, u4, u5, u6, u7, y0, y6, y9⟩ := h3.cells
  have hgv3 : X3.gv = .slice Ag T.got.length cg := hgv'
  rw [hgv3] at u3
  have hown3 : w3.ownsRow 0 46 1 (.slice Ag T.got.length cg) T.got.length (T.got.map (Value.int .u64)) := by rw [← hgv3]; exact h3.got
  have HN3 := hide (show hb < w3.heap.size ∧ X3.gv.ownBlock ≠ some hb from ⟨h3.hrow.lt, fun e => (h3.ne hb (Or.inr (Or.inr (Or.inl e)))).1 rfl⟩)
  have hz3 := h3.hrow.lt
  have hwz3 := h3.mem.row.lt
  have HT3 := hide h3
  obtain ⟨j0, hj, hj0, hj1, hj2⟩ := info_parts info_word
  go_wp2_with (at_builtin; (refine wpList_append_own_at _ rfl _ _ 28 rfl 0 46 j0 (.int .u64 0) 1 8 Tryz.underlying28 hj hj0 hj1 hj2 rfl (by decide) (.slice Ag T.got.length cg) T.got.length (T.got.map (Value.int .u64)) rfl (World.ownsRow.alloc hown3 (.cells #[.int .u64 V] 46)) ⟨w3.heap.size, 0, none⟩ 1 1 [.int .u64 V] rfl rfl (new1 _ _ _) (by simp [Value.oneCell']) (by unfold maxLen; omega) (by omega) (by simp) ?_; intro v' w5 hown5 hgrow hnil hloc; have hk5 : Keep (fun k => k < w3.heap.size ∧ X3.gv.ownBlock ≠ some k) w3 w5 := ((Keep.refl _ w3).alloc (fun k hk => hk.1) _).grown hgrow (fun k hk => by simp; omega) (fun k hk hh => hh.2 (by rw [hgv3]; exact hk)); obtain ⟨Av, cv, rfl⟩ := own_slice hown5; have s53 := (hk5.cell (p := ⟨hb, q + 3, none⟩) HN3.out).trans u3; have s5f := (rowIs_keep h3.hrow hk5 HN3.out).frozen (q + 3); have hz5 : hb < w5.heap.size := Nat.lt_of_lt_of_le HN3.out.1 hk5.size; have HK5 := hide hk5; have HO5 := hide hown5; have HL5 := hide hloc; clear hk5 hown5 hgrow hnil hloc u0 u1 u3 u4 u5 u6 u7 y0 y6 y9 hown3 h3))
  have h4 := HT3.out.gotd (v := .slice Av (T.got.length + 1) cv) (x := V) (by
    have hl : (T.got ++ [V]).length = T.got.length + 1 := by simp
    show WRow w5 0 _ (T.got ++ [V])
    unfold WRow
    rw [hl, List.map_append]
    exact HO5.out) HK5.out (fun k hk => by
    rcases HL5.out with e | e
    · exact Or.inl (by rw [hgv3, ← e]; exact hk)
    · rw [e] at hk
      cases hk
      exact Or.inr (by simp)) hb1 hz3 hwz3
  have hk4 : Keep (fun k => k < w3.heap.size ∧ X3.gv.ownBlock ≠ some k ∧ k ≠ hb) w3 (w5.setCell ⟨hb, q + 3, none⟩ (.slice Av (T.got.length + 1) cv)) := (HK5.out.mono (fun k hk => ⟨hk.1, hk.2.1⟩)).trans (((Keep.refl (fun k => k ≠ hb) w5).setCell (by simp) _).mono (fun k hk => hk.2.2))
  have hgl4 : ∀ k, (Value.slice Av (T.got.length + 1) cv).ownBlock = some k → X3.gv.ownBlock = some k ∨ w3.heap.size ≤ k := fun k hk => by
    rcases HL5.out with e | e
    · exact Or.inl (by rw [hgv3, ← e]; exact hk)
    · rw [e] at hk
      cases hk
      exact Or.inr (by simp)
  have HK4 := hide hk4
  have HGL4 := hide hgl4
  clear hk4 hgl4 HO5 HL5 s53 s5f hz5
  generalize w5.setCell ⟨hb, q + 3, none⟩ (.slice Av (T.got.length + 1) cv) = w4 at *
  have HT4 := hide h4
  obtain ⟨u0, u1, u3, u4, u5, u6, u7, y0, y6, y9⟩ := h4.cells
  have hownt := h4.tks
  obtain ⟨At, ct, htv⟩ := own_slice hownt
  have htv' : X3.tv = .slice At T.tks.length ct := htv
  rw [htv] at u4
  have hownt4 : w4.ownsRow 0 3 1 (.slice At T.tks.length ct) T.tks.length (T.tks.map (Value.int .i64)) := by rw [← htv]; exact hownt
  have hz4 := h4.hrow.lt
  have hwz4 := h4.mem.row.lt
  have fz4 := h4.hrow.frozen (q + 4)
  have HN4 := hide (show (hb < w4.heap.size ∧ X3.tv.ownBlock ≠ some hb) ∧ (wp < w4.heap.size ∧ X3.tv.ownBlock ≠ some wp) from ⟨⟨hz4, fun e => (h4.ne hb (Or.inr (Or.inr (Or.inr e)))).1 rfl⟩, ⟨hwz4, fun e => (h4.ne wp (Or.inr (Or.inr (Or.inr e)))).2 rfl⟩⟩)
  obtain ⟨j1, hi, hi0, hi1, hi2⟩ := info_parts info_int4
  clear h4 hownt u1 u3 u5 u6 u7 y0 y9
  refine wp_region_seql (fun Y => Y.cell? ⟨hb, q, none⟩ = some (.pointer (some ⟨wp, 0, none⟩)) ∧ Y.cell? ⟨hb, q + 4, none⟩ = some (.slice At T.tks.length ct) ∧ Y.cell? ⟨wp, 6, none⟩ = some (.int .i64 W.now)) [16] (.take 0 <| .take 1 <| .take 2 <| .take 3 <| .take 4 <| .take 5 <| .take 6 <| .take 7 <| .take 8 <| .take 9 <| .take 10 <| .take 11 <| .run 12 <| .run 13 <| .take 14 <| .take 15 <| .run 16 <| .done) (by kernel_rfl) (by kernel_rfl) (by kernel_rfl) (by refine ⟨?_, ?_, ?_⟩ <;> go_simp) ?_
  repeat (refine seql_take (v := ?_) rfl (by rfl) ?_ ?_; rotate_left; (focus (intro wS hS; obtain ⟨s0, s1, s2⟩ := hS; go_simp; exact rfl)); simp only [Act.put, List.setIfInBounds_toArray, List.set_cons_zero, List.set_cons_succ])
  refine seql_run rfl (by rfl) (fun K hK => ?_)
  go_simp
  refine hK _ _ (by refine ⟨?_, ?_, ?_⟩ <;> go_simp) ?_
  clear hK K
  refine seql_run rfl (by rfl) (fun K hK => ?_)
  refine wp_append_own_at _ _ 24 rfl 0 3 j1 (.int .i64 0) 1 8 Tryz.underlying24 hi hi0 hi1 hi2 rfl (by decide) (.slice At T.tks.length ct) _ _ (by rfl) (World.ownsRow.alloc hownt4 (.cells #[.int .i64 W.now] 3)) ⟨w4.heap.size, 0, none⟩ 1 1 [.int .i64 W.now] (by rfl) rfl (new1 _ _ _) (by simp [Value.oneCell']) (by unfold maxLen; omega) (by omega) (by simp) ?_
  intro v' w6 hown6 hgrow6 hnil6 hloc6
  have hk6 : Keep (fun k => k < w4.heap.size ∧ X3.tv.ownBlock ≠ some k) w4 w6 := ((Keep.refl _ _).drew.alloc (fun k hk => hk.1) _).grown hgrow6 (fun k hk => by simp; omega) (fun k hk hh => hh.2 (by rw [htv']; exact hk))
  obtain ⟨Av6, cv6, rfl⟩ := own_slice hown6
  have s60 := (hk6.cell (p := ⟨hb, q, none⟩) HN4.out.1).trans u0
  have s64 := (hk6.cell (p := ⟨hb, q + 4, none⟩) HN4.out.1).trans u4
  have s66 := (hk6.cell (p := ⟨wp, 6, none⟩) HN4.out.2).trans y6
  have s6f := (rowIs_keep HT4.out.hrow hk6 HN4.out.1).frozen (q + 4)
  have hz6 : hb < w6.heap.size := Nat.lt_of_lt_of_le hz4 hk6.size
  have HK6 := hide hk6
  have HO6 := hide hown6
  have HL6 := hide hloc6
  refine hK _ _ ⟨s60, s64, s66⟩ ?_
  clear hK K hk6 hown6 hgrow6 hnil6 hloc6
  repeat (refine seql_take (v := ?_) rfl (by rfl) ?_ ?_; rotate_left; (focus (intro wS hS; obtain ⟨s0, s1, s2⟩ := hS; go_simp; exact rfl)); simp only [Act.put, List.setIfInBounds_toArray, List.set_cons_zero, List.set_cons_succ])
  refine seql_late rfl rfl (by rfl) (fun K hK => ?_)
  go_simp
  refine hK _ _ ?_
  clear hK K
  refine seql_nil ?_
  have h5 := HT4.out.tksd (v := .slice Av6 (T.tks.length + 1) cv6) (x := W.now) (by
    have hl : (T.tks ++ [W.now]).length = T.tks.length + 1 := by simp
    show w6.ownsRow 0 3 1 _ (T.tks ++ [W.now]).length _
    rw [hl, List.map_append]
    exact HO6.out) HK6.out (fun k hk => by
    rcases HL6.out with e | e
    · exact Or.inl (by show X3.tv.ownBlock = _; rw [htv', ← e]; exact hk)
    · rw [e] at hk
      cases hk
      exact Or.inr (by simp)) hb2 hz4 hwz4
  have hk7 : Keep (fun k => k < w4.heap.size ∧ X3.tv.ownBlock ≠ some k ∧ k ≠ hb) w4 (w6.setCell ⟨hb, q + 4, none⟩ (.slice Av6 (T.tks.length + 1) cv6)) := (HK6.out.mono (fun k hk => ⟨hk.1, hk.2.1⟩)).trans (((Keep.refl (fun k => k ≠ hb) w6).setCell (by simp) _).mono (fun k hk => hk.2.2))
  have htl7 : ∀ k, (Value.slice Av6 (T.tks.length + 1) cv6).ownBlock = some k → X3.tv.ownBlock = some k ∨ w4.heap.size ≤ k := fun k hk => by
    rcases HL6.out with e | e
    · exact Or.inl (by rw [htv', ← e]; exact hk)
    · rw [e] at hk
      cases hk
      exact Or.inr (by simp)
  have HK7 := hide hk7
  have HTL7 := hide htl7
  clear hk7 htl7 HO6 HL6 s60 s64 s66 s6f hz6
  generalize w6.setCell ⟨hb, q + 4, none⟩ (.slice Av6 (T.tks.length + 1) cv6) = w7 at *
  have HT5 := hide h5
  have z5 := h5.cells.2.2.2.2.1
  have fz5 := h5.hrow.frozen (q + 5)
  have hz7 := h5.hrow.lt
  have hat5 := HBA.out
  have hw1 : IntKind.i64.wrap ((T.at_ : Int) + 1) = (T.at_ : Int) + 1 := wrap_i64 (by omega) (by omega)
  clear h5
  go_wp2
  go_ret
  have h6 := HT5.out.cell (T' := { T with fresh := false, got := T.got ++ [V], tks := T.tks ++ [W.now], at_ := T.at_ + 1 }) (.int .i64 ((T.at_ : Int) + 1)) (show 5 < 13 by decide) (by obtain ⟨b0, b1, b2, b3, b4, b5, b6, b7, b8, b9, b10, b11, b12⟩ := HT5.out.tp; refine ⟨?_, ?_, ?_, ?_, ?_, ?_, ?_, ?_, ?_, ?_, ?_, ?_, ?_⟩; all_goals first | (rw [if_neg (by omega)]; assumption) | (rw [if_pos (by omega)]; rfl) | (rw [if_pos (by omega)])) rfl rfl (by show T.at_ + 1 ≤ (T.got ++ [V]).length; have := HBA.out; simp; omega)
  refine ⟨rfl, _, _, _, h6, HX3.out.1, HX3.out.2.1, HX3.out.2.2.1, HX3.out.2.2.2, fun i hi => ?_, HF3.out, ?_, ?_⟩
  · show (if i = q + 5 then _ else if i = q + 4 then _ else if i = q + 3 then _ else if i = q + 6 then _ else g i) = g i
    rw [if_neg (by omega), if_neg (by omega), if_neg (by omega), if_neg (by omega)]
  · rintro k (hk | hk | hk | hk)
    · exact HR3.out k (Or.inl hk)
    · exact HR3.out k (Or.inr (Or.inl hk))
    · rcases HGL4.out k hk with h1 | h1
      · exact HR3.out k (Or.inr (Or.inr (Or.inl h1)))
      · have := HKX.out.size
        exact Or.inr (by omega)
    · rcases HTL7.out k hk with h1 | h1
      · exact HR3.out k (Or.inr (Or.inr (Or.inr h1)))
      · have := HKX.out.size
        have := HK4.out.size
        exact Or.inr (by omega)
  · have e1 := HKX.out.size
    have e2 := HK4.out.size
    have nf : ∀ k, k < w.heap.size → ¬ X.four k → ¬ X3.four k := fun k h1 h2 h3 => by
      rcases HR3.out k h3 with h4 | h4
      · exact h2 h4
      · omega
    exact ((HKX.out.trans (HK4.out.mono (fun k hk => ⟨by omega, fun e => nf k hk.1 hk.2.2.2 (Or.inr (Or.inr (Or.inl e))), hk.2.1⟩))).trans (HK7.out.mono (fun k hk => ⟨by omega, fun e => nf k hk.1 hk.2.2.2 (Or.inr (Or.inr (Or.inr e))), hk.2.1⟩))).setCell (fun hk => hk.2.1 rfl) _
end
end Go.Proofs.YtlfingcmekifkaaGreat

namespace Go.Proofs.YtlfingcmekifkaaGreat
open Go.RowKit
section
variable {w : World} {hb wp q nh th : Nat} {g f : Nat → Value} {X : Rv} {T : Tp} {W : Rw}
def RtB (T : Tp) (W : Rw) : Prop := T.got.length + 1 ≤ 100000 ∧ T.tks.length + 1 ≤ 100000 ∧ W.log.length + 1 ≤ 100000
theorem tapeAcc (k a x y : Int) (hk : 0 ≤ k ∧ k ≤ 3) (h : RtAt w hb wp q nh th g f X T W) (hB : T.fresh = true → RtB T W) :
    Calls Tryz.prog 121 #[.pointer (some ⟨hb, q, none⟩), .int .i64 k, .int .i64 a, .int .u64 x, .int .u64 y] w (RtP w hb wp q nh th g f X (T.acc th k a x y W).1 (T.acc th k a x y W).2.1 (T.acc th k a x y W).2.2) := by
  cases hh : T.halt
  · by_cases hl : T.at_ < T.got.length
    · obtain ⟨v, hv⟩ : ∃ v, T.got[T.at_]? = some v := ⟨_, List.getElem?_eq_getElem hl⟩
      have e : T.acc th k a x y W = (v, { T with at_ := T.at_ + 1 }, W) := by
        unfold Tp.acc
        rw [hh, hv]
        simp [hl]
      rw [e]
      exact tapeOld k a x y v h hh hv
    · have hl2 : T.at_ = T.got.length := by have := h.ba; omega
      cases hf : T.fresh
      · have e : T.acc th k a x y W = (0, { T with halt := true }, W) := by
          unfold Tp.acc
          rw [hh, hf]
          simp [hl]
        rw [e]
        exact tapeNo k a x y h hh hf hl2
      · obtain ⟨b1, b2, b3⟩ := hB hf
        have e : T.acc th k a x y W = (W.mem.tell k a x, { T with fresh := false, got := T.got ++ [W.mem.tell k a x], tks := T.tks ++ [W.now], at_ := T.at_ + 1 }, { W with mem := W.mem.acc k a x y, log := W.log1 th k a x y }) := by
          unfold Tp.acc
          rw [hh, hf]
          simp [hl]
        rw [e]
        by_cases hin : W.mem.in a
        · obtain ⟨n, rfl⟩ : ∃ n : Nat, a = n := ⟨a.toNat, by unfold Mm.in at hin; omega⟩
          have hn : n < W.mem.words.length := by unfold Mm.in at hin; omega
          rw [show W.log1 th k n x y = W.log ++ [⟨W.now, th, k, n, W.mem.at n, (W.mem.acc k n x y).at n⟩] from if_pos hin]
          exact tapeNewIn k x y n hk h hh hf hl2 b1 b2 b3 hn
        · rw [show W.log1 th k a x y = W.log from if_neg hin]
          exact tapeNewOut k a x y hk h hh hf hl2 b1 b2 hin
  · have e : T.acc th k a x y W = (0, T, W) := by
      unfold Tp.acc
      rw [hh]
      rfl
    rw [e]
    exact tapeHalt k a x y h hh
def RtQ (w : World) (hb wp q nh th : Nat) (g f : Nat → Value) (X : Rv) (T' : Tp) (W' : Rw) (w' : World) : Prop :=
  ∃ g' f' X', RtAt w' hb wp q nh th g' f' X' T' W' ∧ X'.wv = X.wv ∧ X'.pv = X.pv ∧ X'.lv = X.lv ∧ X'.kv = X.kv ∧ (∀ i, (i < q ∨ q + 13 ≤ i) → g' i = g i) ∧ (∀ i, i = 7 ∨ i = 8 → f' i = f i) ∧
    (∀ k, X'.four k → X.four k ∨ w.heap.size ≤ k) ∧ Keep (fun k => k < w.heap.size ∧ k ≠ hb ∧ k ≠ wp ∧ ¬ X.four k) w w'
set_option maxRecDepth 100000 in
theorem tapeRead (a : Int) (h : RtAt w hb wp q nh th g f X T W) (hB : T.fresh = true → RtB T W) : Calls Tryz.prog 93 #[.pointer (some ⟨hb, q, none⟩), .int .i64 a] w fun e w' => e = .returned (.int .u64 (T.acc th 0 a 0 0 W).1) ∧ RtQ w hb wp q nh th g f X (T.acc th 0 a 0 0 W).2.1 (T.acc th 0 a 0 0 W).2.2 w' := by
  have N := tapeAcc 0 a 0 0 (by decide) h hB
  clear h
  go_enter Tryz.func93, Tryz.ntmps93
  go_wp2_with fail
  refine N.mono ?_
  rintro e w1 ⟨rfl, hQ⟩
  have HQ := hide (show RtQ w hb wp q nh th g f X (T.acc th 0 a 0 0 W).2.1 (T.acc th 0 a 0 0 W).2.2 w1 from hQ)
  clear hQ N
  go_wp2
  go_ret
  exact ⟨rfl, HQ.out⟩
set_option maxRecDepth 100000 in
theorem tapeSwap (a x y : Int) (h : RtAt w hb wp q nh th g f X T W) (hB : T.fresh = true → RtB T W) : Calls Tryz.prog 95 #[.pointer (some ⟨hb, q, none⟩), .int .i64 a, .int .u64 x, .int .u64 y] w fun e w' => e = .returned (.bool (decide ((T.acc th 2 a x y W).1 = 1))) ∧ RtQ w hb wp q nh th g f X (T.acc th 2 a x y W).2.1 (T.acc th 2 a x y W).2.2 w' := by
  have N := tapeAcc 2 a x y (by decide) h hB
  clear h
  have hd : decide ((T.acc th 2 a x y W).1 = 1) = ((T.acc th 2 a x y W).1 == 1) := by
    rw [Bool.eq_iff_iff]
    simp
  rw [hd]
  go_enter Tryz.func95, Tryz.ntmps95
  go_wp2_with fail
  refine N.mono ?_
  rintro e w1 ⟨rfl, hQ⟩
  have HQ := hide (show RtQ w hb wp q nh th g f X (T.acc th 2 a x y W).2.1 (T.acc th 2 a x y W).2.2 w1 from hQ)
  clear hQ N hd
  go_wp2
  go_ret
  exact ⟨rfl, HQ.out⟩
end
end Go.Proofs.YtlfingcmekifkaaGreat
