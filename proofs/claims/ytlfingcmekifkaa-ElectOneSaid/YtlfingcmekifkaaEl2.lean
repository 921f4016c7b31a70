/- An election (package elect): a thread's step. -/
import Derived.Test.YtlfingcmekifkaaEl1
namespace Go.Proofs.Ytlfingcmekifkaa
open Go.RowKit

def stA (pe t : Nat) (v : Int) (l : Bool) : Array Value := #[.pointer (some ⟨pe, 0, none⟩), .int .i64 t, .int .i64 v, .bool l]
/-- What a step needs of memory. -/
structure ElS (w : World) (pe b pw pm px t : Nat) (v : Int) (l : Bool) (m : Mm) : Prop where
  blk : w.heap[b]? = some (.cells (stA pe t v l) 202 (0, 0))
  e0 : w.cell? ⟨pe, 0, none⟩ = some (.int .i64 0)
  ptr : w.cell? ⟨pw, 0, none⟩ = some (.pointer (some ⟨pm, 0, none⟩))
  mem : MemAt w pm px .nilFunc m
  lt : pe < w.heap.size ∧ pw < w.heap.size
  ne : b ≠ pm ∧ b ≠ px ∧ b ≠ pe ∧ b ≠ pw ∧ pe ≠ pm ∧ pe ≠ px ∧ pe ≠ pw ∧ pw ≠ pm ∧ pw ≠ px
  t1 : t < 16
  v1 : 0 ≤ v ∧ v ≤ 16
/-- What it leaves. -/
def ElP (w : World) (pe b pm px t : Nat) (d : Bool) (v' : Int) (l' : Bool) (m' : Mm) (e : Ending) (w' : World) : Prop :=
  e = .returned (.bool d) ∧ w'.heap[b]? = some (.cells (stA pe t v' l') 202 (0, 0)) ∧ MemAt w' pm px .nilFunc m' ∧ Keep (fun k => k < w.heap.size ∧ k ≠ b ∧ k ≠ pm ∧ k ≠ px) w w'
section
variable {w : World} {pe b pw pm px t : Nat} {v : Int} {l : Bool} {m : Mm}
set_option maxRecDepth 100000 in
set_option maxHeartbeats 1000000 in
theorem elStep0 (h : ElS w pe b pw pm px t 0 l m) : Calls Try.prog 137 #[.pointer (some ⟨b, 0, none⟩), .pointer (some ⟨pw, 0, none⟩)] w (ElP w pe b pm px t true 0 true m) := by
  obtain ⟨v, hv⟩ : ∃ v : Int, v = 0 := ⟨_, rfl⟩
  obtain ⟨hb, e0, hp, hm, ⟨ze, zw⟩, ⟨n1, n2, n3, n4, n5, n6, n7, n8, n9⟩, ht, ⟨v0, v1⟩⟩ := h
  obtain ⟨c0, c1, c2, c3, hz⟩ := cells4 hb
  have hf2 := frozen_of_row w b 2 _ _ hb
  have hf3 := frozen_of_row w b 3 _ _ hb
  have ht' : (t : Int) < 16 := by omega
  have HB := hide hb
  have HM := hide hm
  clear hb hm
  go_enter Try.func137, Try.ntmps137
  go_wp2
  refine wp_region_seq (fun Y => Y.cell? ⟨b, 2, none⟩ = some (.int .i64 0)) (.take 0 <| .take 1 <| .take 2 <| .take 3 <| .take 4 <| .take 5 <| .take 6 <| .take 7 <| .take 8 <| .take 9 <| .take 10 <| .take 11 <| .take 12 <| .take 13 <| .take 14 <| .take 15 <| .take 16 <| .take 17 <| .take 18 <| .take 19 <| .take 20 <| .take 21 <| .take 22 <| .take 23 <| .take 24 <| .take 25 <| .take 26 <| .take 27 <| .take 28 <| .run 29 <| .take 30 <| .take 31 <| .done) (by kernel_rfl) (by kernel_rfl) (by kernel_rfl) (by go_simp) ?_
  repeat (first | (refine seq_skip rfl (by rfl) ?_; simp only [Act.put, List.setIfInBounds_toArray, List.set_cons_zero, List.set_cons_succ]) | (refine seq_take (v := ?_) rfl (by rfl) ?_ ?_; rotate_left; (focus (intro wS hS; go_simp; exact rfl)); simp only [Act.put, List.setIfInBounds_toArray, List.set_cons_zero, List.set_cons_succ]) | (refine seq_pass rfl (by rfl) (by go_simp) ?_; simp only [Act.put, List.setIfInBounds_toArray, List.set_cons_zero, List.set_cons_succ]))
  refine seq_nil ?_
  go_wp2
  go_ret
  have hkS : Keep (fun k => k ≠ b) w ((w.setCell ⟨b, 2, none⟩ (.int .i64 0)).setCell ⟨b, 3, none⟩ (.bool true)).drew := (((Keep.refl _ w).setCell (by simp) _).setCell (by simp) _).drew
  refine ⟨rfl, (cells_set (w := w.setCell ⟨b, 2, none⟩ (.int .i64 0)) (cells_set HB.out)).trans rfl, HM.out.of_blocks (hkS.block _ n1.symm) (hkS.block _ n2.symm), hkS.mono (fun k hk => hk.2.1)⟩
set_option maxRecDepth 100000 in
set_option maxHeartbeats 1000000 in
theorem elStepNo (h : ElS w pe b pw pm px t v l m) (hv : 1 ≤ v) (ht : m.tell 2 (v - 1) 0 ≠ 1) : Calls Try.prog 137 #[.pointer (some ⟨b, 0, none⟩), .pointer (some ⟨pw, 0, none⟩)] w (ElP w pe b pm px t true v l (m.acc 2 (v - 1) 0 ((t : Int) + 1))) := by
  have htl := ht
  obtain ⟨hb, e0, hp, hm, ⟨ze, zw⟩, ⟨n1, n2, n3, n4, n5, n6, n7, n8, n9⟩, ht, ⟨v0, v1⟩⟩ := h
  obtain ⟨c0, c1, c2, c3, hz⟩ := cells4 hb
  have hf2 := frozen_of_row w b 2 _ _ hb
  have hf3 := frozen_of_row w b 3 _ _ hb
  have ht' : (t : Int) < 16 := by omega
  have HB := hide hb
  have HM := hide hm
  have N := memSwap pm px (v - 1) 0 ((t : Int) + 1) m w.drew (hm.of_blocks rfl rfl)
  rw [decide_eq_false htl] at N
  have d0 : decide (1 ≤ v) = true := by simpa using hv
  have hw1 : IntKind.i64.wrap (v - 1) = v - 1 := wrap_i64 (by omega) (by omega)
  have hw2 : IntKind.i64.wrap v = v := wrap_i64 (by omega) (by omega)
  have hw3 : IntKind.u64.wrap (t : Int) = t := by rw [IntKind.wrap_u64]; omega
  have hw4 : IntKind.u64.wrap ((t : Int) + 1) = (t : Int) + 1 := by rw [IntKind.wrap_u64]; omega
  clear hb hm htl
  go_enter Try.func137, Try.ntmps137
  go_wp2
  refine wp_region_seq (fun Y => Y.cell? ⟨b, 0, none⟩ = some (.pointer (some ⟨pe, 0, none⟩)) ∧ Y.cell? ⟨b, 1, none⟩ = some (.int .i64 t) ∧ Y.cell? ⟨b, 2, none⟩ = some (.int .i64 v) ∧ Y.cell? ⟨pe, 0, none⟩ = some (.int .i64 0) ∧ Y.cell? ⟨pw, 0, none⟩ = some (.pointer (some ⟨pm, 0, none⟩))) (.take 0 <| .take 1 <| .take 2 <| .take 3 <| .take 4 <| .take 5 <| .take 6 <| .take 7 <| .take 8 <| .take 9 <| .take 10 <| .take 11 <| .take 12 <| .take 13 <| .take 14 <| .take 15 <| .take 16 <| .take 17 <| .take 18 <| .take 19 <| .take 20 <| .take 21 <| .take 22 <| .take 23 <| .take 24 <| .take 25 <| .take 26 <| .take 27 <| .take 28 <| .run 29 <| .take 30 <| .take 31 <| .done) (by kernel_rfl) (by kernel_rfl) (by kernel_rfl) (by refine ⟨?_, ?_, ?_, ?_, ?_⟩ <;> go_simp) ?_
  repeat (refine seq_take (v := ?_) rfl (by rfl) ?_ ?_; rotate_left; (focus (intro wS hS; obtain ⟨s0, s1, s2, s3, s4⟩ := hS; go_simp; exact rfl)); simp only [Act.put, List.setIfInBounds_toArray, List.set_cons_zero, List.set_cons_succ])
  (refine seq_run rfl (by rfl) (fun K hK => ?_); go_simp)
  refine N.mono ?_
  rintro e w1 ⟨d, rfl, rfl, hm1, hk1⟩
  have hkw : Keep (fun k => k ≠ pm ∧ k ≠ px ∧ k < w.heap.size) w w1 := ((Keep.refl _ w).drew).trans hk1
  have hb1 := (hkw.block b ⟨n1, n2, hz⟩).trans HB.out
  have c21 : w1.cell? ⟨b, 2, none⟩ = some (.int .i64 v) := cell_of_row w1 b 2 _ _ _ hb1
  have c31 : w1.cell? ⟨b, 3, none⟩ = some (.bool l) := cell_of_row w1 b 3 _ _ _ hb1
  have hf21 := frozen_of_row w1 b 2 _ _ hb1
  have hf31 := frozen_of_row w1 b 3 _ _ hb1
  have hz1 : b < w1.heap.size := Nat.lt_of_lt_of_le hz hkw.size
  refine hK _ _ ⟨cell_of_row w1 b 0 _ _ _ hb1, cell_of_row w1 b 1 _ _ _ hb1, c21, (hkw.cell (p := ⟨pe, 0, none⟩) ⟨n5, n6, ze⟩).trans e0, (hkw.cell (p := ⟨pw, 0, none⟩) ⟨n8, n9, zw⟩).trans hp⟩ ?_
  have HB1 := hide hb1
  have HM1 := hide hm1
  have HKW := hide hkw
  clear hK K hb1 hm1 hk1 hkw N
  repeat (refine seq_take (v := ?_) rfl (by rfl) ?_ ?_; rotate_left; (focus (intro wS hS; obtain ⟨s0, s1, s2, s3, s4⟩ := hS; go_simp; exact rfl)); simp only [Act.put, List.setIfInBounds_toArray, List.set_cons_zero, List.set_cons_succ])
  refine seq_nil ?_
  go_wp2
  go_ret
  exact ⟨rfl, HB1.out, HM1.out, HKW.out.mono (fun k hk => ⟨hk.2.2.1, hk.2.2.2, hk.1⟩)⟩
set_option maxRecDepth 100000 in
set_option maxHeartbeats 1000000 in
theorem elStepYes (h : ElS w pe b pw pm px t v l m) (hv : 1 ≤ v) (ht : m.tell 2 (v - 1) 0 = 1) : Calls Try.prog 137 #[.pointer (some ⟨b, 0, none⟩), .pointer (some ⟨pw, 0, none⟩)] w (ElP w pe b pm px t (decide (v / 2 < 1)) (v / 2) (decide (v / 2 < 1)) (m.acc 2 (v - 1) 0 ((t : Int) + 1))) := by
  have htl := ht
  obtain ⟨hb, e0, hp, hm, ⟨ze, zw⟩, ⟨n1, n2, n3, n4, n5, n6, n7, n8, n9⟩, ht, ⟨v0, v1⟩⟩ := h
  obtain ⟨c0, c1, c2, c3, hz⟩ := cells4 hb
  have hf2 := frozen_of_row w b 2 _ _ hb
  have hf3 := frozen_of_row w b 3 _ _ hb
  have ht' : (t : Int) < 16 := by omega
  have HB := hide hb
  have HM := hide hm
  have N := memSwap pm px (v - 1) 0 ((t : Int) + 1) m w.drew (hm.of_blocks rfl rfl)
  rw [decide_eq_true htl] at N
  have d0 : decide (1 ≤ v) = true := by simpa using hv
  have hw1 : IntKind.i64.wrap (v - 1) = v - 1 := wrap_i64 (by omega) (by omega)
  have hw2 : IntKind.i64.wrap v = v := wrap_i64 (by omega) (by omega)
  have hw3 : IntKind.u64.wrap (t : Int) = t := by rw [IntKind.wrap_u64]; omega
  have hw4 : IntKind.u64.wrap ((t : Int) + 1) = (t : Int) + 1 := by rw [IntKind.wrap_u64]; omega
  have hq : Int.tdiv v 2 = v / 2 := Int.tdiv_eq_ediv_of_nonneg v0
  have hw5 : IntKind.i64.wrap (v / 2) = v / 2 := wrap_i64 (by omega) (by omega)
  clear hb hm htl
  go_enter Try.func137, Try.ntmps137
  go_wp2
  refine wp_region_seq (fun Y => Y.cell? ⟨b, 0, none⟩ = some (.pointer (some ⟨pe, 0, none⟩)) ∧ Y.cell? ⟨b, 1, none⟩ = some (.int .i64 t) ∧ Y.cell? ⟨b, 2, none⟩ = some (.int .i64 v) ∧ Y.cell? ⟨pe, 0, none⟩ = some (.int .i64 0) ∧ Y.cell? ⟨pw, 0, none⟩ = some (.pointer (some ⟨pm, 0, none⟩))) (.take 0 <| .take 1 <| .take 2 <| .take 3 <| .take 4 <| .take 5 <| .take 6 <| .take 7 <| .take 8 <| .take 9 <| .take 10 <| .take 11 <| .take 12 <| .take 13 <| .take 14 <| .take 15 <| .take 16 <| .take 17 <| .take 18 <| .take 19 <| .take 20 <| .take 21 <| .take 22 <| .take 23 <| .take 24 <| .take 25 <| .take 26 <| .take 27 <| .take 28 <| .run 29 <| .take 30 <| .take 31 <| .done) (by kernel_rfl) (by kernel_rfl) (by kernel_rfl) (by refine ⟨?_, ?_, ?_, ?_, ?_⟩ <;> go_simp) ?_
  repeat (refine seq_take (v := ?_) rfl (by rfl) ?_ ?_; rotate_left; (focus (intro wS hS; obtain ⟨s0, s1, s2, s3, s4⟩ := hS; go_simp; exact rfl)); simp only [Act.put, List.setIfInBounds_toArray, List.set_cons_zero, List.set_cons_succ])
  (refine seq_run rfl (by rfl) (fun K hK => ?_); go_simp)
  refine N.mono ?_
  rintro e w1 ⟨d, rfl, rfl, hm1, hk1⟩
  have hkw : Keep (fun k => k ≠ pm ∧ k ≠ px ∧ k < w.heap.size) w w1 := ((Keep.refl _ w).drew).trans hk1
  have hb1 := (hkw.block b ⟨n1, n2, hz⟩).trans HB.out
  have c21 : w1.cell? ⟨b, 2, none⟩ = some (.int .i64 v) := cell_of_row w1 b 2 _ _ _ hb1
  have c31 : w1.cell? ⟨b, 3, none⟩ = some (.bool l) := cell_of_row w1 b 3 _ _ _ hb1
  have hf21 := frozen_of_row w1 b 2 _ _ hb1
  have hf31 := frozen_of_row w1 b 3 _ _ hb1
  have hz1 : b < w1.heap.size := Nat.lt_of_lt_of_le hz hkw.size
  refine hK _ _ ⟨cell_of_row w1 b 0 _ _ _ hb1, cell_of_row w1 b 1 _ _ _ hb1, c21, (hkw.cell (p := ⟨pe, 0, none⟩) ⟨n5, n6, ze⟩).trans e0, (hkw.cell (p := ⟨pw, 0, none⟩) ⟨n8, n9, zw⟩).trans hp⟩ ?_
  have HB1 := hide hb1
  have HM1 := hide hm1
  have HKW := hide hkw
  clear hK K hb1 hm1 hk1 hkw N
  repeat (refine seq_take (v := ?_) rfl (by rfl) ?_ ?_; rotate_left; (focus (intro wS hS; obtain ⟨s0, s1, s2, s3, s4⟩ := hS; go_simp; exact rfl)); simp only [Act.put, List.setIfInBounds_toArray, List.set_cons_zero, List.set_cons_succ])
  refine seq_nil ?_
  go_wp2
  go_ret
  have hkS : Keep (fun k => k ≠ b) w1 ((w1.setCell ⟨b, 2, none⟩ (.int .i64 (v / 2))).setCell ⟨b, 3, none⟩ (.bool (decide (v / 2 < 1)))) := ((Keep.refl _ w1).setCell (by simp) _).setCell (by simp) _
  refine ⟨rfl, (cells_set (cells_set HB1.out)).trans rfl, HM1.out.of_blocks (hkS.block _ n1.symm) (hkS.block _ n2.symm), (HKW.out.mono (fun k hk => ⟨hk.2.2.1, hk.2.2.2, hk.1⟩)).trans (hkS.mono (fun k hk => hk.2.1))⟩
end
end Go.Proofs.Ytlfingcmekifkaa
