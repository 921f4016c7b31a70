import Derived.Test.YtlfingcmekifkaaGreatBun24
import Derived.Test.YtlfingcmekifkaaGreatBun8
namespace Go.Proofs.YtlfingcmekifkaaGreat
open Go.RowKit
def prA6 (pe t pc : Nat) (v : Int) (sl : Value) (val : Int) : Array Value := #[.pointer (some ⟨pe, 0, none⟩), .int .i64 t, .int .i64 pc, .int .u64 v, sl, .int .u64 val]
set_option maxRecDepth 100000 in
set_option maxHeartbeats 2000000 in
theorem adRead (pe b pw pm px t pc : Nat) (v val from' : Int) (n : Nat) (sl : Value) (seen : List Int) (m : Mm) (w : World) (hb : w.heap[b]? = some (.cells (prA6 pe t pc v sl val) 258 (0, 0))) (hn : w.cell? ⟨pe, 1, none⟩ = some (.int .i64 n)) (hpw : w.cell? ⟨pw, 0, none⟩ = some (.pointer (some ⟨pm, 0, none⟩))) (hm : MemAt w pm px .nilFunc m) (hs : WRow w 0 sl seen)
    (h1 : b ≠ pm) (h2 : b ≠ px) (h3 : pe ≠ pm) (h4 : pe ≠ px) (_h5 : pe ≠ b) (h6 : pw ≠ pm) (h7 : pw ≠ px) (h8 : ∀ k, sl.ownBlock = some k → k ≠ pm ∧ k ≠ px ∧ k ≠ b ∧ k ≠ pe ∧ k ≠ pw) (h9 : seen.length ≤ 16) (h10 : 0 ≤ from' ∧ from' ≤ 100) :
    Calls Tryz.prog 198 #[.pointer (some ⟨b, 0, none⟩), .pointer (some ⟨pw, 0, none⟩), .int .i64 from'] w fun e w' => ∃ sl', e = .returned (.bool (decide (seen.length + 1 = n))) ∧ w'.heap[b]? = some (.cells (prA6 pe t pc v sl' val) 258 (0, 0)) ∧ WRow w' 0 sl' (seen ++ [m.tell 0 (from' + seen.length) 0]) ∧
      MemAt w' pm px .nilFunc (m.acc 0 (from' + seen.length) 0 0) ∧ (∀ k, sl'.ownBlock = some k → sl.ownBlock = some k ∨ w.heap.size ≤ k) ∧ Keep (fun k => k < w.heap.size ∧ k ≠ b ∧ sl.ownBlock ≠ some k ∧ k ≠ pm ∧ k ≠ px) w w' := by
  obtain ⟨c0, c1, c2, c3, c4, c5, hz⟩ := cells6 hb
  obtain ⟨As, cs, rfl⟩ := own_slice hs
  have N := memRead pm px (from' + seen.length) m w.drew (hm.of_blocks rfl rfl)
  have hsl : (seen.map (Value.int .u64)).length = seen.length := by simp
  have hl' : (seen.length : Int) ≤ 16 := by omega
  obtain ⟨f0, f1⟩ := h10
  have hwr : IntKind.i64.wrap (from' + (seen.length : Int)) = from' + (seen.length : Int) := wrap_i64 (by omega) (by omega)
  have HB := hide hb
  have HM := hide hm
  have HS := hide hs
  obtain ⟨j0, hj, hj0, hj1, hj2⟩ := info_parts info_word
  have hpz : pe < w.heap.size := by
    unfold World.cell? at hn
    by_cases e : pe < w.heap.size
    · exact e
    · simp [Array.getElem?_eq_none (Nat.le_of_not_lt e)] at hn
  have hwz : pw < w.heap.size := by
    unfold World.cell? at hpw
    by_cases e : pw < w.heap.size
    · exact e
    · simp [Array.getElem?_eq_none (Nat.le_of_not_lt e)] at hpw
  have hmz := hm.lt
  clear hb hm hs
  go_enter Tryz.func198, Tryz.ntmps198
  go_wp2
  refine wp_region_seql (fun Y => Y.cell? ⟨b, 4, none⟩ = some (.slice As seen.length cs) ∧ Y.cell? ⟨pw, 0, none⟩ = some (.pointer (some ⟨pm, 0, none⟩))) [21] (.take 0 <| .take 1 <| .take 2 <| .take 3 <| .take 4 <| .take 5 <| .take 6 <| .take 7 <| .take 8 <| .take 9 <| .take 10 <| .take 11 <| .take 12 <| .take 13 <| .take 14 <| .take 15 <| .run 16 <| .run 17 <| .run 18 <| .take 19 <| .take 20 <| .run 21 <| .done) (by kernel_rfl) (by kernel_rfl) (by kernel_rfl) (by refine ⟨?_, ?_⟩ <;> go_simp) ?_
  repeat (refine seql_take (v := ?_) rfl (by rfl) ?_ ?_; rotate_left; (focus (intro wS hS; obtain ⟨s0, s1⟩ := hS; go_simp; exact rfl)); simp only [Act.put, List.setIfInBounds_toArray, List.set_cons_zero, List.set_cons_succ])
  refine seql_run rfl (by rfl) (fun K hK => ?_)
  go_simp
  refine N.mono ?_
  rintro e w1 ⟨rfl, hm1, hk1⟩
  have hkw : Keep (fun k => k ≠ pm ∧ k ≠ px ∧ k < w.heap.size) w w1 := ((Keep.refl _ w).drew).trans hk1
  have s0 : w1.cell? ⟨b, 4, none⟩ = some (.slice As seen.length cs) := (hkw.cell (p := ⟨b, 4, none⟩) ⟨h1, h2, hz⟩).trans c4
  have s1 : w1.cell? ⟨pw, 0, none⟩ = some (.pointer (some ⟨pm, 0, none⟩)) := (hkw.cell (p := ⟨pw, 0, none⟩) ⟨h6, h7, hwz⟩).trans hpw
  have hb1 := (hkw.block b ⟨h1, h2, hz⟩).trans HB.out
  have hs1 := owns_keepV HS.out hkw (fun k hk => ⟨(h8 k hk).1, (h8 k hk).2.1, (HS.out.lt k hk).2⟩)
  have hn1 : w1.cell? ⟨pe, 1, none⟩ = some (.int .i64 n) := (hkw.cell (p := ⟨pe, 1, none⟩) ⟨h3, h4, hpz⟩).trans hn
  have c01 : w1.cell? ⟨b, 0, none⟩ = some (.pointer (some ⟨pe, 0, none⟩)) := (hkw.cell (p := ⟨b, 0, none⟩) ⟨h1, h2, hz⟩).trans c0
  have hf1 := frozen_of_row w1 b 4 _ _ hb1
  have hzw1 : w.heap.size ≤ w1.heap.size := hkw.size
  have hz1 : b < w1.heap.size := Nat.lt_of_lt_of_le hz hzw1
  have hpz1 : pe < w1.heap.size := Nat.lt_of_lt_of_le hpz hzw1
  have hwz1 : pw < w1.heap.size := Nat.lt_of_lt_of_le hwz hzw1
  have HM1 := hide hm1
  have HKW := hide hkw
  have HB1 := hide hb1
  have HS1 := hide hs1
  have hsl1 := fun k hk => (HS.out.lt k hk).2
  refine hK _ _ ⟨s0, s1⟩ ?_
  clear hK K hm1 hk1 N hkw hb1 hs1 c0 c1 c2 c3 c4 c5 hn hpw
  refine seql_run rfl (by rfl) (fun K hK => ?_)
  go_simp
  refine hK _ _ (by refine ⟨?_, ?_⟩ <;> go_simp) ?_
  clear hK K
  refine seql_run rfl (by rfl) (fun K hK => ?_)
  have hown2 := World.ownsRow.alloc HS1.out (.cells #[.int .u64 (m.tell 0 (from' + (seen.length : Int)) 0)] 46)
  refine wp_append_own_at _ _ 28 rfl 0 46 j0 (.int .u64 0) 1 8 Tryz.underlying28 hj hj0 hj1 hj2 rfl (by decide) (.slice As seen.length cs) _ _ (by rfl) hown2 ⟨w1.heap.size, 0, none⟩ 1 1 [.int .u64 (m.tell 0 (from' + (seen.length : Int)) 0)] (by rfl) rfl (by intro j u hu; rcases j with _ | j; (simp at hu; subst hu; go_simp); (simp at hu)) (by simp [Value.oneCell']) (by unfold maxLen; omega) (by omega) (by simp) ?_
  intro v' w5 hown5 hgrow hnil hloc
  have hk5 : Keep (fun k => k < w1.heap.size ∧ (Value.slice As seen.length cs).ownBlock ≠ some k) w1 w5 := ((Keep.refl _ w1).alloc (fun k hk => hk.1) _).grown hgrow (fun k hk => by simp; omega) (fun k hk hh => hh.2 hk)
  have hnb : (Value.slice As seen.length cs).ownBlock ≠ some b := fun e => (h8 b e).2.2.1 rfl
  have hnp : (Value.slice As seen.length cs).ownBlock ≠ some pe := fun e => (h8 pe e).2.2.2.1 rfl
  have hnw : (Value.slice As seen.length cs).ownBlock ≠ some pw := fun e => (h8 pw e).2.2.2.2 rfl
  obtain ⟨Av, cv, rfl⟩ := own_slice hown5
  have t0 : w5.cell? ⟨b, 4, none⟩ = some (.slice As seen.length cs) := (hk5.cell (p := ⟨b, 4, none⟩) ⟨hz1, hnb⟩).trans s0
  have t1 : w5.cell? ⟨pw, 0, none⟩ = some (.pointer (some ⟨pm, 0, none⟩)) := (hk5.cell (p := ⟨pw, 0, none⟩) ⟨hwz1, hnw⟩).trans s1
  have hb5 := (hk5.block b ⟨hz1, hnb⟩).trans HB1.out
  have hf5 := frozen_of_row w5 b 4 _ _ hb5
  have hz15 : w1.heap.size ≤ w5.heap.size := hk5.size
  have hz5 : b < w5.heap.size := Nat.lt_of_lt_of_le hz1 hz15
  have hn5 : w5.cell? ⟨pe, 1, none⟩ = some (.int .i64 n) := (hk5.cell (p := ⟨pe, 1, none⟩) ⟨hpz1, hnp⟩).trans hn1
  have c05 : w5.cell? ⟨b, 0, none⟩ = some (.pointer (some ⟨pe, 0, none⟩)) := (hk5.cell (p := ⟨b, 0, none⟩) ⟨hz1, hnb⟩).trans c01
  have hm5 := HM1.out.of_blocks (hk5.block pm ⟨(HM1.out.lt).1, fun e => (h8 pm e).1 rfl⟩) (hk5.block px ⟨(HM1.out.lt).2, fun e => (h8 px e).2.1 rfl⟩)
  have hvb : ∀ k, (Value.slice Av (seen.length + 1) cv).ownBlock = some k → (Value.slice As seen.length cs).ownBlock = some k ∨ w1.heap.size ≤ k := by
    intro k hk
    rcases hloc with h | h
    · exact Or.inl (h ▸ hk)
    · rw [h] at hk
      cases hk
      exact Or.inr (by simp)
  have hvn : ∀ k, (Value.slice Av (seen.length + 1) cv).ownBlock = some k → k ≠ b := by
    intro k hk e
    rcases hvb k hk with h | h
    · exact hnb (e ▸ h)
    · omega
  have HB5 := hide hb5
  have HM5 := hide hm5
  have HK5 := hide hk5
  have HO5 := hide hown5
  have HVB := hide hvb
  have HVN := hide hvn
  clear s0 s1 hn1 c01 hf1 hb5 hm5 hk5 hown5 hvb hvn hgrow hnil hloc hown2
  refine hK _ _ ⟨t0, t1⟩ ?_
  clear hK K
  repeat (refine seql_take (v := ?_) rfl (by rfl) ?_ ?_; rotate_left; (focus (intro wS hS; obtain ⟨s0, s1⟩ := hS; go_simp; exact rfl)); simp only [Act.put, List.setIfInBounds_toArray, List.set_cons_zero, List.set_cons_succ])
  refine seql_late rfl rfl (by rfl) (fun K hK => ?_)
  go_simp
  refine hK _ _ ?_
  clear hK K
  refine seql_nil ?_
  go_wp2
  go_quiet (fail)
  go_wp2
  go_ret
  have hkS : Keep (fun k => k ≠ b) w5 ((w5.setCell ⟨b, 4, none⟩ (.slice Av (seen.length + 1) cv)).drewN nq) := ((Keep.refl _ w5).setCell (by simp) _).drewN nq
  refine ⟨.slice Av (seen.length + 1) cv, ?_, ?_, ?_, ?_, ?_, ?_⟩
  · have hq : ((seen.length : Int) + 1 == (n : Int)) = decide (seen.length + 1 = n) := by
      rw [Bool.eq_iff_iff]
      simp
      omega
    rw [← hq]
    first | rfl | simp
  · refine (heap_drewN _ _ _).trans ((cells_set HB5.out).trans ?_)
    rfl
  · have := owns_keepV HO5.out hkS HVN.out
    unfold WRow
    simpa using this
  · exact HM5.out.of_blocks (hkS.block _ h1.symm) (hkS.block _ h2.symm)
  · intro k hk
    rcases HVB.out k hk with h | h
    · exact Or.inl h
    · exact Or.inr (Nat.le_trans hzw1 h)
  · exact ((HKW.out.mono (K' := fun k => k < w.heap.size ∧ k ≠ b ∧ (Value.slice As seen.length cs).ownBlock ≠ some k ∧ k ≠ pm ∧ k ≠ px) (fun k hk => ⟨hk.2.2.2.1, hk.2.2.2.2, hk.1⟩)).trans (HK5.out.mono (fun k hk => ⟨Nat.lt_of_lt_of_le hk.1 hzw1, hk.2.2.1⟩))).trans (hkS.mono (fun k hk => hk.2.1))
set_option maxRecDepth 100000 in
theorem adMark (pe b t pc : Nat) (v val : Int) (sl : Value) (seen : List Int) (w : World) (hb : w.heap[b]? = some (.cells (prA6 pe t pc v sl val) 258 (0, 0))) (hs : WRow w 0 sl seen) (h9 : seen.length ≤ 16) (hv0 : 0 ≤ v) (hv1 : v ≤ 2147483648) :
    Calls Tryz.prog 199 #[.pointer (some ⟨b, 0, none⟩)] w fun e w' => e = .returned (.int .u64 (markF v seen)) ∧ w'.heap[b]? = some (.cells (prA6 pe t pc v (.slice none 0 0) val) 258 (0, 0)) ∧ Keep (fun k => k < w.heap.size ∧ k ≠ b) w w' := by
  obtain ⟨c0, c1, c2, c3, c4, c5, hz⟩ := cells6 hb
  obtain ⟨As, cs, rfl⟩ := own_slice hs
  have hf4 := frozen_of_row w b 4 _ _ hb
  have N := adAlone v As seen.length cs seen w.drew (wrow_sl hs (by unfold maxLen; omega)) rfl (by omega)
  have HB := hide hb
  clear hb hs
  unfold markF
  have hq : ∀ x y : Bool, x = y → x = y := fun _ _ h => h
  obtain ⟨a, ha⟩ : ∃ a, aloneF v seen = a := ⟨_, rfl⟩
  rw [ha] at N ⊢
  clear ha
  rcases a with _ | _
  all_goals
    go_enter Tryz.func199, Tryz.ntmps199
    go_wp2
    refine wp_region_seq (fun Y => Y.cell? ⟨b, 3, none⟩ = some (.int .u64 v) ∧ Y.cell? ⟨b, 4, none⟩ = some (.slice As seen.length cs)) (.take 0 <| .take 1 <| .take 2 <| .take 3 <| .take 4 <| .take 5 <| .take 6 <| .take 7 <| .run 8 <| .done) (by kernel_rfl) (by kernel_rfl) (by kernel_rfl) (by refine ⟨?_, ?_⟩ <;> go_simp) ?_
    repeat (refine seq_take (v := ?_) rfl (by rfl) ?_ ?_; rotate_left; (focus (intro wS hS; obtain ⟨s0, s1⟩ := hS; go_simp; exact rfl)); simp only [Act.put, List.setIfInBounds_toArray, List.set_cons_zero, List.set_cons_succ])
    (refine seq_run rfl (by rfl) (fun K hK => ?_); go_simp)
    refine N.mono ?_
    rintro e w1 ⟨rfl, rfl⟩
    refine hK _ _ (by refine ⟨?_, ?_⟩ <;> go_simp) ?_
    clear hK K
    refine seq_nil ?_
    go_wp2
    go_ret
    refine ⟨?_, (cells_set (w := w.drew) HB.out).trans rfl, (Keep.refl _ w).drew.setCell (fun hk => hk.2 rfl) _⟩
    simp
theorem firstF_bound {l : List Int} (h : ∀ x ∈ l, 0 ≤ x ∧ x < 18446744073709551616) : 0 ≤ firstF l ∧ firstF l < 9223372036854775808 := by
  have key : ∀ (l : List Int) (f : Int), (∀ x ∈ l, 0 ≤ x ∧ x < 18446744073709551616) → 0 ≤ f ∧ f < 9223372036854775808 → 0 ≤ l.foldl (fun f m => if m = 0 then f else if m % 2 = 0 then f else if f = 0 then m / 2 else f) f ∧ l.foldl (fun f m => if m = 0 then f else if m % 2 = 0 then f else if f = 0 then m / 2 else f) f < 9223372036854775808 := by
    intro l
    induction l with
    | nil => exact fun f _ h => h
    | cons x l ih =>
      intro f hb hf
      have hx := hb x (by simp)
      refine ih _ (fun y hy => hb y (by simp [hy])) ?_
      dsimp only
      split
      · exact hf
      · split
        · exact hf
        · split
          · omega
          · exact hf
  exact key l 0 h (by omega)
set_option maxRecDepth 100000 in
theorem adEnd (pe b t pc : Nat) (v val : Int) (sl : Value) (seen : List Int) (w : World) (hb : w.heap[b]? = some (.cells (prA6 pe t pc v sl val) 258 (0, 0))) (hs : WRow w 0 sl seen) (h9 : seen.length ≤ 16) (hv0 : 1 ≤ v) (hv1 : v ≤ 2147483648) (hbd : ∀ x ∈ seen, 0 ≤ x ∧ x < 18446744073709551616) :
    Calls Tryz.prog 197 #[.pointer (some ⟨b, 0, none⟩)] w fun e w' => e = .returned (.tuple #[]) ∧ w'.heap[b]? = some (.cells (prA6 pe t pc v sl (endF v seen)) 258 (0, 0)) ∧ Keep (fun k => k < w.heap.size ∧ k ≠ b) w w' := by
  obtain ⟨c0, c1, c2, c3, c4, c5, hz⟩ := cells6 hb
  obtain ⟨As, cs, rfl⟩ := own_slice hs
  have hf5 := frozen_of_row w b 5 _ _ hb
  have N := adVerdict As seen.length cs seen w (wrow_sl hs (by unfold maxLen; omega)) rfl (by omega) hbd
  obtain ⟨f0, f1⟩ := firstF_bound hbd
  have HB := hide hb
  clear hb hs
  unfold endF
  obtain ⟨a, ha⟩ : ∃ a, allF seen = a := ⟨_, rfl⟩
  rw [ha] at N ⊢
  clear ha
  generalize firstF seen = f at N f0 f1 ⊢
  by_cases h0 : 0 < f
  · rw [if_pos h0]
    rcases a with _ | _
    all_goals
      go_enter Tryz.func197, Tryz.ntmps197
      go_wp2_with fail
      refine N.mono ?_
      rintro e w1 ⟨rfl, rfl⟩
      go_wp2
      go_end0
      refine ⟨rfl, ?_, by (repeat' (first | with_reducible exact Keep.refl _ _ | with_reducible refine Keep.drew ?_ | refine Keep.setCell ?_ (fun hk => absurd rfl hk.2) _))⟩
      first
        | (rw [cells_set (cells_set (cells_set HB.out))]; rfl)
        | (rw [cells_set (cells_set HB.out)]; rfl)
  · rw [if_neg h0]
    have h0' : ¬ 0 < f := h0
    go_enter Tryz.func197, Tryz.ntmps197
    go_wp2_with fail
    refine N.mono ?_
    rintro e w1 ⟨rfl, rfl⟩
    go_wp2
    go_end0
    refine ⟨rfl, ?_, by (repeat' (first | with_reducible exact Keep.refl _ _ | with_reducible refine Keep.drew ?_ | refine Keep.setCell ?_ (fun hk => absurd rfl hk.2) _))⟩
    rw [cells_set HB.out]
    rfl
end Go.Proofs.YtlfingcmekifkaaGreat
