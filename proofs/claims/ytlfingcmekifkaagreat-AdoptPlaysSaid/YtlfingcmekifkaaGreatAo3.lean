import Derived.Test.YtlfingcmekifkaaGreatAo2
namespace Go.Proofs.YtlfingcmekifkaaGreat
open Go.RowKit
structure AdS (w : World) (pe b pw pm px t pc n : Nat) (v val : Int) (sl : Value) (seen : List Int) (m : Mm) : Prop where
  blk : w.heap[b]? = some (.cells (prA6 pe t pc v sl val) 258 (0, 0))
  row : WRow w 0 sl seen
  e0 : w.cell? ⟨pe, 0, none⟩ = some (.int .i64 0)
  e1 : w.cell? ⟨pe, 1, none⟩ = some (.int .i64 n)
  ptr : w.cell? ⟨pw, 0, none⟩ = some (.pointer (some ⟨pm, 0, none⟩))
  mem : MemAt w pm px .nilFunc m
  lt : pe < w.heap.size ∧ pw < w.heap.size
  ne : b ≠ pm ∧ b ≠ px ∧ b ≠ pe ∧ b ≠ pw ∧ pe ≠ pm ∧ pe ≠ px ∧ pe ≠ pw ∧ pw ≠ pm ∧ pw ≠ px
  own : ∀ k, sl.ownBlock = some k → k ≠ pm ∧ k ≠ px ∧ k ≠ b ∧ k ≠ pe ∧ k ≠ pw
  n1 : 1 ≤ n ∧ n ≤ 16
  t1 : t < 16
  v1 : 1 ≤ v ∧ v ≤ 2147483648
  bd : ∀ x ∈ seen, 0 ≤ x ∧ x < 18446744073709551616
def AdP (w : World) (pe b pm px t : Nat) (v : Int) (sl : Value) (d : Bool) (pc' : Nat) (seen' : List Int) (val' : Int) (m' : Mm) (e : Ending) (w' : World) : Prop :=
  ∃ sl', e = .returned (.bool d) ∧ w'.heap[b]? = some (.cells (prA6 pe t pc' v sl' val') 258 (0, 0)) ∧ WRow w' 0 sl' seen' ∧ MemAt w' pm px .nilFunc m' ∧ (∀ k, sl'.ownBlock = some k → sl.ownBlock = some k ∨ w.heap.size ≤ k) ∧ sl'.ownBlock ≠ some b ∧ Keep (fun k => k < w.heap.size ∧ k ≠ b ∧ sl.ownBlock ≠ some k ∧ k ≠ pm ∧ k ≠ px) w w'
section
variable {w : World} {pe b pw pm px t n : Nat} {v val : Int} {sl : Value} {seen : List Int} {m : Mm}
set_option maxRecDepth 100000 in
set_option maxHeartbeats 1000000 in
theorem adStep0 (h : AdS w pe b pw pm px t 0 n v val sl seen m) : Calls Tryz.prog 196 #[.pointer (some ⟨b, 0, none⟩), .pointer (some ⟨pw, 0, none⟩)] w (AdP w pe b pm px t v sl false 1 seen val (m.acc 1 t v 0)) := by
  obtain ⟨hb, hs, e0, e1, hp, hm, ⟨ze, zw⟩, ⟨n1, n2, n3, n4, n5, n6, n7, n8, n9⟩, how, ⟨q1, q2⟩, ht, ⟨v0, v1⟩, hbd⟩ := h
  obtain ⟨c0, c1, c2, c3, c4, c5, hz⟩ := cells6 hb
  obtain ⟨As, cs, rfl⟩ := own_slice hs
  have hf2 := frozen_of_row w b 2 _ _ hb
  have ht' : (t : Int) < 16 := by omega
  have hn' : (n : Int) ≤ 16 := by omega
  have hwt : IntKind.i64.wrap (t : Int) = t := wrap_i64 (by omega) (by omega)
  have hwn : IntKind.i64.wrap (n : Int) = n := wrap_i64 (by omega) (by omega)
  have hwnt : IntKind.i64.wrap ((n : Int) + t) = (n : Int) + t := wrap_i64 (by omega) (by omega)
  have HB := hide hb
  have HS := hide hs
  have HM := hide hm
  have HW := hide how
  have HBD := hide hbd
  have N := memWrite pm px t v m w.drew (hm.of_blocks rfl rfl)
  clear hb hs hm how hbd
  go_enter Tryz.func196, Tryz.ntmps196
  go_wp2
  refine wp_region_seq (fun Y => Y.cell? ⟨b, 0, none⟩ = some (.pointer (some ⟨pe, 0, none⟩)) ∧ Y.cell? ⟨b, 1, none⟩ = some (.int .i64 t) ∧ Y.cell? ⟨b, 3, none⟩ = some (.int .u64 v) ∧ Y.cell? ⟨pe, 0, none⟩ = some (.int .i64 0) ∧ Y.cell? ⟨pe, 1, none⟩ = some (.int .i64 n) ∧ Y.cell? ⟨pw, 0, none⟩ = some (.pointer (some ⟨pm, 0, none⟩))) (.take 0 <| .take 1 <| .take 2 <| .take 3 <| .take 4 <| .take 5 <| .take 6 <| .take 7 <| .take 8 <| .take 9 <| .take 10 <| .take 11 <| .take 12 <| .take 13 <| .take 14 <| .take 15 <| .take 16 <| .take 17 <| .take 18 <| .take 19 <| .run 20 <| .done) (by kernel_rfl) (by kernel_rfl) (by kernel_rfl) (by refine ⟨?_, ?_, ?_, ?_, ?_, ?_⟩ <;> go_simp) ?_
  repeat (refine seq_take (v := ?_) rfl (by rfl) ?_ ?_; rotate_left; (focus (intro wS hS; obtain ⟨s0, s1, s2, s3, s4, s5⟩ := hS; go_simp; exact rfl)); simp only [Act.put, List.setIfInBounds_toArray, List.set_cons_zero, List.set_cons_succ])
  (refine seq_run rfl (by rfl) (fun K hK => ?_); go_simp)
  refine N.mono ?_
  rintro e w1 ⟨rfl, hm1, hk1⟩
  have hkw : Keep (fun k => k ≠ pm ∧ k ≠ px ∧ k < w.heap.size) w w1 := ((Keep.refl _ w).drew).trans hk1
  have hb1 := (hkw.block b ⟨n1, n2, hz⟩).trans HB.out
  have hf1 := frozen_of_row w1 b 2 _ _ hb1
  have c21 := cell_of_row w1 b 2 _ _ _ hb1
  have hz1 : b < w1.heap.size := Nat.lt_of_lt_of_le hz hkw.size
  refine hK _ _ ⟨cell_of_row w1 b 0 _ _ _ hb1, cell_of_row w1 b 1 _ _ _ hb1, cell_of_row w1 b 3 _ _ _ hb1, (hkw.cell (p := ⟨pe, 0, none⟩) ⟨n5, n6, ze⟩).trans e0, (hkw.cell (p := ⟨pe, 1, none⟩) ⟨n5, n6, ze⟩).trans e1, (hkw.cell (p := ⟨pw, 0, none⟩) ⟨n8, n9, zw⟩).trans hp⟩ ?_
  have HB1 := hide hb1
  have HM1 := hide hm1
  have HKW := hide hkw
  clear hK K hm1 hk1 N hkw hb1
  refine seq_nil ?_
  go_wp2
  go_ret
  have hkS : Keep (fun k => k ≠ b) w1 (w1.setCell ⟨b, 2, none⟩ (.int .i64 1)) := (Keep.refl _ w1).setCell (by simp) _
  refine ⟨_, rfl, (cells_set HB1.out).trans rfl, owns_keepV (owns_keepV HS.out HKW.out (fun k hk => ⟨(HW.out k hk).1, (HW.out k hk).2.1, (HS.out.lt k hk).2⟩)) hkS (fun k hk => (HW.out k hk).2.2.1), HM1.out.of_blocks (hkS.block _ n1.symm) (hkS.block _ n2.symm), fun k hk => Or.inl hk, fun e => (HW.out b e).2.2.1 rfl, ?_⟩
  exact (HKW.out.mono (fun k hk => ⟨hk.2.2.2.1, hk.2.2.2.2, hk.1⟩)).trans (hkS.mono (fun k hk => hk.2.1))
set_option maxRecDepth 100000 in
set_option maxHeartbeats 1000000 in
theorem adStep1 (h : AdS w pe b pw pm px t 1 n v val sl seen m) (hl : seen.length < n) : Calls Tryz.prog 196 #[.pointer (some ⟨b, 0, none⟩), .pointer (some ⟨pw, 0, none⟩)] w (AdP w pe b pm px t v sl false (if seen.length + 1 = n then 2 else 1) (seen ++ [m.tell 0 (seen.length : Int) 0]) val (m.acc 0 (seen.length : Int) 0 0)) := by
  obtain ⟨hb, hs, e0, e1, hp, hm, ⟨ze, zw⟩, ⟨n1, n2, n3, n4, n5, n6, n7, n8, n9⟩, how, ⟨q1, q2⟩, ht, ⟨v0, v1⟩, hbd⟩ := h
  obtain ⟨c0, c1, c2, c3, c4, c5, hz⟩ := cells6 hb
  obtain ⟨As, cs, rfl⟩ := own_slice hs
  have hf2 := frozen_of_row w b 2 _ _ hb
  have ht' : (t : Int) < 16 := by omega
  have hn' : (n : Int) ≤ 16 := by omega
  have hwt : IntKind.i64.wrap (t : Int) = t := wrap_i64 (by omega) (by omega)
  have hwn : IntKind.i64.wrap (n : Int) = n := wrap_i64 (by omega) (by omega)
  have hwnt : IntKind.i64.wrap ((n : Int) + t) = (n : Int) + t := wrap_i64 (by omega) (by omega)
  have HB := hide hb
  have HS := hide hs
  have HM := hide hm
  have HW := hide how
  have HBD := hide hbd
  have N := adRead pe b pw pm px t 1 v val 0 n _ seen m w hb e1 hp hm hs n1 n2 n5 n6 (fun e => n3 e.symm) n8 n9 (fun k hk => ⟨(how k hk).1, (how k hk).2.1, (how k hk).2.2.1, (how k hk).2.2.2.1, (how k hk).2.2.2.2⟩) (by omega) ⟨Int.le_refl _, by decide⟩
  simp only [Int.zero_add] at N
  clear hb hs hm how hbd
  by_cases hq : seen.length + 1 = n
  · rw [if_pos hq]
    rw [decide_eq_true hq] at N
    clear hq
    go_enter Tryz.func196, Tryz.ntmps196
    go_wp2_with fail
    refine N.mono ?_
    rintro e w1 ⟨sl', rfl, hb1, hs1, hm1, hl1, hk1⟩
    have hf1 := frozen_of_row w1 b 2 _ _ hb1
    have c21 := cell_of_row w1 b 2 _ _ _ hb1
    have hz1 : b < w1.heap.size := Nat.lt_of_lt_of_le hz hk1.size
    have HB1 := hide hb1
    have HM1 := hide hm1
    have HS1 := hide hs1
    have HL1 := hide hl1
    have HK1 := hide hk1
    clear hb1 hm1 hs1 hl1 hk1 N
    go_wp2
    go_ret
    have hnb : sl'.ownBlock ≠ some b := fun e => by rcases HL1.out b e with h | h; exact (HW.out b h).2.2.1 rfl; omega
    have hkS : Keep (fun k => k ≠ b) w1 (w1.setCell ⟨b, 2, none⟩ (.int .i64 2)) := (Keep.refl _ w1).setCell (by simp) _
    exact ⟨sl', rfl, (cells_set HB1.out).trans rfl, owns_keepV HS1.out hkS (fun k hk e => hnb (e ▸ hk)), HM1.out.of_blocks (hkS.block _ n1.symm) (hkS.block _ n2.symm), HL1.out, hnb, HK1.out.trans (hkS.mono (fun k hk => hk.2.1))⟩
  · rw [if_neg hq]
    rw [decide_eq_false hq] at N
    clear hq
    go_enter Tryz.func196, Tryz.ntmps196
    go_wp2_with fail
    refine N.mono ?_
    rintro e w1 ⟨sl', rfl, hb1, hs1, hm1, hl1, hk1⟩
    have HB1 := hide hb1
    have HM1 := hide hm1
    have HS1 := hide hs1
    have HL1 := hide hl1
    have HK1 := hide hk1
    clear hb1 hm1 hs1 hl1 hk1 N
    go_wp2
    go_ret
    have hnb : sl'.ownBlock ≠ some b := fun e => by rcases HL1.out b e with h | h; exact (HW.out b h).2.2.1 rfl; omega
    exact ⟨sl', rfl, HB1.out, HS1.out, HM1.out, HL1.out, hnb, HK1.out⟩
set_option maxRecDepth 100000 in
set_option maxHeartbeats 1000000 in
theorem adStep2 (h : AdS w pe b pw pm px t 2 n v val sl seen m) (hl : seen.length ≤ n) : Calls Tryz.prog 196 #[.pointer (some ⟨b, 0, none⟩), .pointer (some ⟨pw, 0, none⟩)] w (AdP w pe b pm px t v sl false 3 [] val (m.acc 1 ((n : Int) + t) (markF v seen) 0)) := by
  obtain ⟨hb, hs, e0, e1, hp, hm, ⟨ze, zw⟩, ⟨n1, n2, n3, n4, n5, n6, n7, n8, n9⟩, how, ⟨q1, q2⟩, ht, ⟨v0, v1⟩, hbd⟩ := h
  obtain ⟨c0, c1, c2, c3, c4, c5, hz⟩ := cells6 hb
  obtain ⟨As, cs, rfl⟩ := own_slice hs
  have hf2 := frozen_of_row w b 2 _ _ hb
  have ht' : (t : Int) < 16 := by omega
  have hn' : (n : Int) ≤ 16 := by omega
  have hwt : IntKind.i64.wrap (t : Int) = t := wrap_i64 (by omega) (by omega)
  have hwn : IntKind.i64.wrap (n : Int) = n := wrap_i64 (by omega) (by omega)
  have hwnt : IntKind.i64.wrap ((n : Int) + t) = (n : Int) + t := wrap_i64 (by omega) (by omega)
  have HB := hide hb
  have HS := hide hs
  have HM := hide hm
  have HW := hide how
  have HBD := hide hbd
  have N := adMark pe b t 2 v val _ seen w.drew hb hs (by omega) (by omega) (by omega)
  clear hb hs hm how hbd
  generalize markF v seen = X at N ⊢
  go_enter Tryz.func196, Tryz.ntmps196
  go_wp2
  refine wp_region_seq (fun Y => Y.cell? ⟨b, 0, none⟩ = some (.pointer (some ⟨pe, 0, none⟩)) ∧ Y.cell? ⟨b, 1, none⟩ = some (.int .i64 t) ∧ Y.cell? ⟨b, 3, none⟩ = some (.int .u64 v) ∧ Y.cell? ⟨pe, 0, none⟩ = some (.int .i64 0) ∧ Y.cell? ⟨pe, 1, none⟩ = some (.int .i64 n) ∧ Y.cell? ⟨pw, 0, none⟩ = some (.pointer (some ⟨pm, 0, none⟩))) (.take 0 <| .take 1 <| .take 2 <| .take 3 <| .take 4 <| .take 5 <| .take 6 <| .take 7 <| .take 8 <| .take 9 <| .take 10 <| .take 11 <| .take 12 <| .take 13 <| .take 14 <| .take 15 <| .take 16 <| .take 17 <| .take 18 <| .take 19 <| .take 20 <| .take 21 <| .take 22 <| .take 23 <| .take 24 <| .run 25 <| .run 26 <| .done) (by kernel_rfl) (by kernel_rfl) (by kernel_rfl) (by refine ⟨?_, ?_, ?_, ?_, ?_, ?_⟩ <;> go_simp) ?_
  repeat (refine seq_take (v := ?_) rfl (by rfl) ?_ ?_; rotate_left; (focus (intro wS hS; obtain ⟨s0, s1, s2, s3, s4, s5⟩ := hS; go_simp; exact rfl)); simp only [Act.put, List.setIfInBounds_toArray, List.set_cons_zero, List.set_cons_succ])
  (refine seq_run rfl (by rfl) (fun K hK => ?_); go_simp)
  refine N.mono ?_
  rintro e w1 ⟨rfl, hb1, hk1⟩
  have hkw : Keep (fun k => k < w.heap.size ∧ k ≠ b) w w1 := ((Keep.refl _ w).drew).trans hk1
  have s3 := (hkw.cell (p := ⟨pe, 0, none⟩) ⟨ze, fun e => n3 e.symm⟩).trans e0
  have s4 := (hkw.cell (p := ⟨pe, 1, none⟩) ⟨ze, fun e => n3 e.symm⟩).trans e1
  have s5 := (hkw.cell (p := ⟨pw, 0, none⟩) ⟨zw, fun e => n4 e.symm⟩).trans hp
  have hml := HM.out.lt
  have hm1 := HM.out.of_blocks (hkw.block pm ⟨hml.1, fun e => n1 e.symm⟩) (hkw.block px ⟨hml.2, fun e => n2 e.symm⟩)
  have zw1 : w.heap.size ≤ w1.heap.size := hkw.size
  refine hK _ _ ⟨cell_of_row w1 b 0 _ _ _ hb1, cell_of_row w1 b 1 _ _ _ hb1, cell_of_row w1 b 3 _ _ _ hb1, s3, s4, s5⟩ ?_
  clear hK K N hk1
  have N2 := memWrite pm px ((n : Int) + t) X m w1 hm1
  have HB1 := hide hb1
  have HKW := hide hkw
  clear hb1 hkw
  (refine seq_run rfl (by rfl) (fun K hK => ?_); go_simp)
  refine N2.mono ?_
  rintro e w2 ⟨rfl, hm2, hk2⟩
  have hz1 : b < w1.heap.size := Nat.lt_of_lt_of_le hz zw1
  have hb2 := (hk2.block b ⟨n1, n2, hz1⟩).trans HB1.out
  have hf2' := frozen_of_row w2 b 2 _ _ hb2
  have c22 := cell_of_row w2 b 2 _ _ _ hb2
  have hz2 : b < w2.heap.size := Nat.lt_of_lt_of_le hz1 hk2.size
  refine hK _ _ ⟨cell_of_row w2 b 0 _ _ _ hb2, cell_of_row w2 b 1 _ _ _ hb2, cell_of_row w2 b 3 _ _ _ hb2, (hk2.cell (p := ⟨pe, 0, none⟩) ⟨n5, n6, Nat.lt_of_lt_of_le ze zw1⟩).trans s3, (hk2.cell (p := ⟨pe, 1, none⟩) ⟨n5, n6, Nat.lt_of_lt_of_le ze zw1⟩).trans s4, (hk2.cell (p := ⟨pw, 0, none⟩) ⟨n8, n9, Nat.lt_of_lt_of_le zw zw1⟩).trans s5⟩ ?_
  have HB2 := hide hb2
  have HM2 := hide hm2
  have HK2 := hide hk2
  clear hK K N2 hb2 hm2 hk2 s3 s4 s5 hm1
  refine seq_nil ?_
  go_wp2
  go_ret
  have hkS : Keep (fun k => k ≠ b) w2 (w2.setCell ⟨b, 2, none⟩ (.int .i64 3)) := (Keep.refl _ w2).setCell (by simp) _
  refine ⟨.slice none 0 0, rfl, (cells_set HB2.out).trans rfl, World.ownsRow_nil _ _ _ _, HM2.out.of_blocks (hkS.block _ n1.symm) (hkS.block _ n2.symm), (fun k hk => by cases hk), (fun e => by cases e), ?_⟩
  exact ((HKW.out.mono (K' := fun k => k < w.heap.size ∧ k ≠ b ∧ (Value.slice As seen.length cs).ownBlock ≠ some k ∧ k ≠ pm ∧ k ≠ px) (fun k hk => ⟨hk.1, hk.2.1⟩)).trans (HK2.out.mono (fun k hk => ⟨hk.2.2.2.1, hk.2.2.2.2, Nat.lt_of_lt_of_le hk.1 zw1⟩))).trans (hkS.mono (fun k hk => hk.2.1))
set_option maxRecDepth 100000 in
set_option maxHeartbeats 1000000 in
theorem adStep3 (h : AdS w pe b pw pm px t 3 n v val sl seen m) (hl : seen.length < n) (hx : 0 ≤ m.tell 0 ((n : Int) + seen.length) 0 ∧ m.tell 0 ((n : Int) + seen.length) 0 < 18446744073709551616) : Calls Tryz.prog 196 #[.pointer (some ⟨b, 0, none⟩), .pointer (some ⟨pw, 0, none⟩)] w (AdP w pe b pm px t v sl (decide (seen.length + 1 = n)) 3 (seen ++ [m.tell 0 ((n : Int) + seen.length) 0]) (if seen.length + 1 = n then endF v (seen ++ [m.tell 0 ((n : Int) + seen.length) 0]) else val) (m.acc 0 ((n : Int) + seen.length) 0 0)) := by
  obtain ⟨hb, hs, e0, e1, hp, hm, ⟨ze, zw⟩, ⟨n1, n2, n3, n4, n5, n6, n7, n8, n9⟩, how, ⟨q1, q2⟩, ht, ⟨v0, v1⟩, hbd⟩ := h
  obtain ⟨c0, c1, c2, c3, c4, c5, hz⟩ := cells6 hb
  obtain ⟨As, cs, rfl⟩ := own_slice hs
  have hf2 := frozen_of_row w b 2 _ _ hb
  have ht' : (t : Int) < 16 := by omega
  have hn' : (n : Int) ≤ 16 := by omega
  have hwt : IntKind.i64.wrap (t : Int) = t := wrap_i64 (by omega) (by omega)
  have hwn : IntKind.i64.wrap (n : Int) = n := wrap_i64 (by omega) (by omega)
  have hwnt : IntKind.i64.wrap ((n : Int) + t) = (n : Int) + t := wrap_i64 (by omega) (by omega)
  have HB := hide hb
  have HS := hide hs
  have HM := hide hm
  have HW := hide how
  have HBD := hide hbd
  have N := adRead pe b pw pm px t 3 v val n n _ seen m w.drew hb e1 hp (hm.of_blocks rfl rfl) hs n1 n2 n5 n6 (fun e => n3 e.symm) n8 n9 (fun k hk => ⟨(how k hk).1, (how k hk).2.1, (how k hk).2.2.1, (how k hk).2.2.2.1, (how k hk).2.2.2.2⟩) (by omega) ⟨by omega, by omega⟩
  have hbd' : ∀ x ∈ seen ++ [m.tell 0 ((n : Int) + seen.length) 0], 0 ≤ x ∧ x < 18446744073709551616 := by
    intro x hx'
    rcases List.mem_append.1 hx' with h | h
    · exact hbd x h
    · rw [List.mem_singleton.1 h]
      exact hx
  clear hb hs hm how hbd hx
  have HBE := hide hbd'
  clear hbd'
  generalize m.tell 0 ((n : Int) + seen.length) 0 = X at N HBE ⊢
  by_cases hq : seen.length + 1 = n
  · rw [if_pos hq]
    rw [decide_eq_true hq] at N ⊢
    clear hq
    go_enter Tryz.func196, Tryz.ntmps196
    go_wp2
    refine wp_region_seq (fun Y => Y.cell? ⟨b, 0, none⟩ = some (.pointer (some ⟨pe, 0, none⟩)) ∧ Y.cell? ⟨b, 1, none⟩ = some (.int .i64 t) ∧ Y.cell? ⟨b, 3, none⟩ = some (.int .u64 v) ∧ Y.cell? ⟨pe, 0, none⟩ = some (.int .i64 0) ∧ Y.cell? ⟨pe, 1, none⟩ = some (.int .i64 n) ∧ Y.cell? ⟨pw, 0, none⟩ = some (.pointer (some ⟨pm, 0, none⟩))) (.take 0 <| .take 1 <| .take 2 <| .take 3 <| .take 4 <| .take 5 <| .take 6 <| .take 7 <| .take 8 <| .take 9 <| .take 10 <| .take 11 <| .take 12 <| .take 13 <| .take 14 <| .take 15 <| .take 16 <| .run 17 <| .done) (by kernel_rfl) (by kernel_rfl) (by kernel_rfl) (by refine ⟨?_, ?_, ?_, ?_, ?_, ?_⟩ <;> go_simp) ?_
    repeat (refine seq_take (v := ?_) rfl (by rfl) ?_ ?_; rotate_left; (focus (intro wS hS; obtain ⟨s0, s1, s2, s3, s4, s5⟩ := hS; go_simp; exact rfl)); simp only [Act.put, List.setIfInBounds_toArray, List.set_cons_zero, List.set_cons_succ])
    (refine seq_run rfl (by rfl) (fun K hK => ?_); go_simp)
    refine N.mono ?_
    rintro e w1 ⟨sl', rfl, hb1, hs1, hm1, hl1, hk1⟩
    have hnb : sl'.ownBlock ≠ some b := fun e => by
      rcases hl1 b e with h | h
      · exact (HW.out b h).2.2.1 rfl
      · have : w.heap.size ≤ b := h
        omega
    have hkw : Keep (fun k => k < w.heap.size ∧ k ≠ b ∧ (Value.slice As seen.length cs).ownBlock ≠ some k ∧ k ≠ pm ∧ k ≠ px) w w1 := ((Keep.refl _ w).drew).trans hk1
    have hz1 : b < w1.heap.size := Nat.lt_of_lt_of_le hz hkw.size
    refine hK _ _ ⟨cell_of_row w1 b 0 _ _ _ hb1, cell_of_row w1 b 1 _ _ _ hb1, cell_of_row w1 b 3 _ _ _ hb1, (hkw.cell (p := ⟨pe, 0, none⟩) ⟨ze, fun e => n3 e.symm, fun e => (HW.out pe e).2.2.2.1 rfl, n5, n6⟩).trans e0, (hkw.cell (p := ⟨pe, 1, none⟩) ⟨ze, fun e => n3 e.symm, fun e => (HW.out pe e).2.2.2.1 rfl, n5, n6⟩).trans e1, (hkw.cell (p := ⟨pw, 0, none⟩) ⟨zw, fun e => n4 e.symm, fun e => (HW.out pw e).2.2.2.2 rfl, n8, n9⟩).trans hp⟩ ?_
    have HB1 := hide hb1
    have HM1 := hide hm1
    have HS1 := hide hs1
    have HL1 := hide (show ∀ k, sl'.ownBlock = some k → (Value.slice As seen.length cs).ownBlock = some k ∨ w.heap.size ≤ k from hl1)
    have HK1 := hide hkw
    clear hK K hb1 hm1 hs1 hl1 hk1 hkw N
    refine seq_nil ?_
    have N2 := adEnd pe b t 3 v val sl' _ w1 HB1.out HS1.out (by simp; omega) (by omega) (by omega) HBE.out
    go_wp2_with fail
    refine N2.mono ?_
    rintro e w2 ⟨rfl, hb2, hk2⟩
    have HB2 := hide hb2
    have HK2 := hide hk2
    clear hb2 hk2 N2
    go_wp2
    go_ret
    have hml := HM1.out.lt
    exact ⟨sl', rfl, HB2.out, owns_keepV HS1.out HK2.out (fun k hk => ⟨(HS1.out.lt k hk).2, fun e => hnb (e ▸ hk)⟩), HM1.out.of_blocks (HK2.out.block _ ⟨hml.1, fun e => n1 e.symm⟩) (HK2.out.block _ ⟨hml.2, fun e => n2 e.symm⟩), HL1.out, hnb, HK1.out.trans (HK2.out.mono (fun k hk => ⟨Nat.lt_of_lt_of_le hk.1 HK1.out.size, hk.2.1⟩))⟩
  · rw [if_neg hq]
    rw [decide_eq_false hq] at N ⊢
    clear hq
    go_enter Tryz.func196, Tryz.ntmps196
    go_wp2
    refine wp_region_seq (fun Y => Y.cell? ⟨b, 0, none⟩ = some (.pointer (some ⟨pe, 0, none⟩)) ∧ Y.cell? ⟨b, 1, none⟩ = some (.int .i64 t) ∧ Y.cell? ⟨b, 3, none⟩ = some (.int .u64 v) ∧ Y.cell? ⟨pe, 0, none⟩ = some (.int .i64 0) ∧ Y.cell? ⟨pe, 1, none⟩ = some (.int .i64 n) ∧ Y.cell? ⟨pw, 0, none⟩ = some (.pointer (some ⟨pm, 0, none⟩))) (.take 0 <| .take 1 <| .take 2 <| .take 3 <| .take 4 <| .take 5 <| .take 6 <| .take 7 <| .take 8 <| .take 9 <| .take 10 <| .take 11 <| .take 12 <| .take 13 <| .take 14 <| .take 15 <| .take 16 <| .run 17 <| .done) (by kernel_rfl) (by kernel_rfl) (by kernel_rfl) (by refine ⟨?_, ?_, ?_, ?_, ?_, ?_⟩ <;> go_simp) ?_
    repeat (refine seq_take (v := ?_) rfl (by rfl) ?_ ?_; rotate_left; (focus (intro wS hS; obtain ⟨s0, s1, s2, s3, s4, s5⟩ := hS; go_simp; exact rfl)); simp only [Act.put, List.setIfInBounds_toArray, List.set_cons_zero, List.set_cons_succ])
    (refine seq_run rfl (by rfl) (fun K hK => ?_); go_simp)
    refine N.mono ?_
    rintro e w1 ⟨sl', rfl, hb1, hs1, hm1, hl1, hk1⟩
    have hnb : sl'.ownBlock ≠ some b := fun e => by
      rcases hl1 b e with h | h
      · exact (HW.out b h).2.2.1 rfl
      · have : w.heap.size ≤ b := h
        omega
    have hkw : Keep (fun k => k < w.heap.size ∧ k ≠ b ∧ (Value.slice As seen.length cs).ownBlock ≠ some k ∧ k ≠ pm ∧ k ≠ px) w w1 := ((Keep.refl _ w).drew).trans hk1
    have hz1 : b < w1.heap.size := Nat.lt_of_lt_of_le hz hkw.size
    refine hK _ _ ⟨cell_of_row w1 b 0 _ _ _ hb1, cell_of_row w1 b 1 _ _ _ hb1, cell_of_row w1 b 3 _ _ _ hb1, (hkw.cell (p := ⟨pe, 0, none⟩) ⟨ze, fun e => n3 e.symm, fun e => (HW.out pe e).2.2.2.1 rfl, n5, n6⟩).trans e0, (hkw.cell (p := ⟨pe, 1, none⟩) ⟨ze, fun e => n3 e.symm, fun e => (HW.out pe e).2.2.2.1 rfl, n5, n6⟩).trans e1, (hkw.cell (p := ⟨pw, 0, none⟩) ⟨zw, fun e => n4 e.symm, fun e => (HW.out pw e).2.2.2.2 rfl, n8, n9⟩).trans hp⟩ ?_
    have HB1 := hide hb1
    have HM1 := hide hm1
    have HS1 := hide hs1
    have HL1 := hide (show ∀ k, sl'.ownBlock = some k → (Value.slice As seen.length cs).ownBlock = some k ∨ w.heap.size ≤ k from hl1)
    have HK1 := hide hkw
    clear hK K hb1 hm1 hs1 hl1 hk1 hkw N
    refine seq_nil ?_
    go_wp2
    go_ret
    exact ⟨sl', rfl, HB1.out, HS1.out, HM1.out, HL1.out, hnb, HK1.out⟩
end
end Go.Proofs.YtlfingcmekifkaaGreat
