import Derived.Test.YtlfingcmekifkaaGreatBun24
namespace Go.Proofs.YtlfingcmekifkaaGreat
open Go.RowKit
structure SpS (w : World) (pe b pw pm px t pc r c : Nat) (f : Nat → Value) (m : Mm) : Prop where
  blk : w.heap[b]? = some (.cells (tkA pe t pc (nameN r c)) 255 (0, 0))
  obj : w.rowIs pe 114 17 f
  f0 : f 0 = .int .i64 0
  has : ∃ x : Bool, f (1 + t) = .bool x
  ptr : w.cell? ⟨pw, 0, none⟩ = some (.pointer (some ⟨pm, 0, none⟩))
  mem : MemAt w pm px .nilFunc m
  lt : pe < w.heap.size ∧ pw < w.heap.size
  ne : b ≠ pm ∧ b ≠ px ∧ b ≠ pe ∧ b ≠ pw ∧ pe ≠ pm ∧ pe ≠ px ∧ pe ≠ pw ∧ pw ≠ pm ∧ pw ≠ px
  t1 : t < 16
  rc : r + c ≤ 1900000
def SpP (w : World) (pe b pm px t : Nat) (d : Bool) (pc' : Nat) (nm' : Int) (m' : Mm) (e : Ending) (w' : World) : Prop :=
  e = .returned (.bool d) ∧ w'.heap[b]? = some (.cells (tkA pe t pc' nm') 255 (0, 0)) ∧ MemAt w' pm px .nilFunc m' ∧ Keep (fun k => k < w.heap.size ∧ k ≠ b ∧ k ≠ pm ∧ k ≠ px) w w'
section
variable {w : World} {pe b pw pm px t r c : Nat} {f : Nat → Value} {m : Mm}
set_option maxRecDepth 100000 in
set_option maxHeartbeats 1000000 in
theorem spStep0 (h : SpS w pe b pw pm px t 0 r c f m) : Calls Tryz.prog 187 #[.pointer (some ⟨b, 0, none⟩), .pointer (some ⟨pw, 0, none⟩)] w (SpP w pe b pm px t false 1 (nameN r c) (m.acc 1 (2 * nameN r c : Nat) (t + 1) 0)) := by
  obtain ⟨hb, hf, f0, ⟨hx, fx⟩, hp, hm, ⟨ze, zw⟩, ⟨n1, n2, n3, n4, n5, n6, n7, n8, n9⟩, ht, hrc⟩ := h
  obtain ⟨c0, c1, c2, c3, hz⟩ := cells4 hb
  have e0 : w.cell? ⟨pe, 0, none⟩ = some (.int .i64 0) := by rw [← f0]; exact hf.cell (i := 0) (by omega)
  have hf2 := frozen_of_row w b 2 _ _ hb
  have hf3 := frozen_of_row w b 3 _ _ hb
  have hw3 : IntKind.u64.wrap (t : Int) = t := by rw [IntKind.wrap_u64]; omega
  have hw4 : IntKind.u64.wrap ((t : Int) + 1) = (t : Int) + 1 := by rw [IntKind.wrap_u64]; omega
  have ht' : (t : Int) < 16 := by omega
  have hnl := name_le (r := r) (c := c) (by omega)
  have hwn : IntKind.i64.wrap (2 * (nameN r c : Int) + 1) = 2 * (nameN r c : Int) + 1 := wrap_i64 (by omega) (by omega)
  have hcast : ((2 * nameN r c : Nat) : Int) = 2 * (nameN r c : Int) := by omega
  have HB := hide hb
  have HM := hide hm
  have HF := hide hf
  have HRC := hide hrc
  rw [hcast]
  have N1 := spLastW w.drew (show w.drew.heap[b]? = _ from hb) (show w.drew.cell? ⟨pe, 0, none⟩ = _ from e0) ⟨by omega, hnl⟩
  have N := memWrite pm px (2 * (nameN r c : Int)) ((t : Int) + 1) m w.drew.drew (hm.of_blocks rfl rfl)
  clear hb hm hf hcast
  go_enter Tryz.func187, Tryz.ntmps187
  go_wp2
  refine wp_region_seq (fun Y => Y.cell? ⟨pw, 0, none⟩ = some (.pointer (some ⟨pm, 0, none⟩))) (.take 0 <| .take 1 <| .take 2 <| .take 3 <| .take 4 <| .take 6 <| .run 5 <| .run 7 <| .done) (by kernel_rfl) (by kernel_rfl) (by kernel_rfl) (by go_simp) ?_
  repeat (refine seq_take (v := ?_) rfl (by rfl) ?_ ?_; rotate_left; (focus (intro wS hS; go_simp; exact rfl)); simp only [Act.put, List.setIfInBounds_toArray, List.set_cons_zero, List.set_cons_succ])
  (refine seq_run rfl (by rfl) (fun K hK => ?_); go_simp)
  refine N1.mono ?_
  rintro e w0 ⟨rfl, rfl⟩
  refine hK _ _ (by go_simp) ?_
  clear hK K N1
  repeat (refine seq_take (v := ?_) rfl (by rfl) ?_ ?_; rotate_left; (focus (intro wS hS; go_simp; exact rfl)); simp only [Act.put, List.setIfInBounds_toArray, List.set_cons_zero, List.set_cons_succ])
  (refine seq_run rfl (by rfl) (fun K hK => ?_); go_simp)
  refine N.mono ?_
  rintro e w1 ⟨rfl, hm1, hk1⟩
  have hkw : Keep (fun k => k ≠ pm ∧ k ≠ px ∧ k < w.heap.size) w w1 := (((Keep.refl _ w).drew).drew).trans hk1
  have hb1 := (hkw.block b ⟨n1, n2, hz⟩).trans HB.out
  have hf1 := frozen_of_row w1 b 2 _ _ hb1
  have c21 : w1.cell? ⟨b, 2, none⟩ = some (.int .i64 0) := cell_of_row w1 b 2 _ _ _ hb1
  have hz1 : b < w1.heap.size := Nat.lt_of_lt_of_le hz hkw.size
  refine hK _ _ ((hkw.cell (p := ⟨pw, 0, none⟩) ⟨n8, n9, zw⟩).trans hp) ?_
  have HB1 := hide hb1
  have HM1 := hide hm1
  have HKW := hide hkw
  clear hK K hm1 hk1 N hkw hb1
  refine seq_nil ?_
  go_wp2
  go_ret
  have hkS : Keep (fun k => k ≠ b) w1 (w1.setCell ⟨b, 2, none⟩ (.int .i64 1)) := (Keep.refl _ w1).setCell (by simp) _
  exact ⟨rfl, (cells_set HB1.out).trans rfl, HM1.out.of_blocks (hkS.block _ n1.symm) (hkS.block _ n2.symm), (HKW.out.mono (fun k hk => ⟨hk.2.2.1, hk.2.2.2, hk.1⟩)).trans (hkS.mono (fun k hk => hk.2.1))⟩
set_option maxRecDepth 100000 in
set_option maxHeartbeats 1000000 in
theorem spStep1r (h : SpS w pe b pw pm px t 1 r c f m) (hv : m.tell 0 ((2 * nameN r c : Nat) + 1) 0 ≠ 0) : Calls Tryz.prog 187 #[.pointer (some ⟨b, 0, none⟩), .pointer (some ⟨pw, 0, none⟩)] w (SpP w pe b pm px t false 0 (nameN r (c + 1)) (m.acc 0 ((2 * nameN r c : Nat) + 1) 0 0)) := by
  obtain ⟨hb, hf, f0, ⟨hx, fx⟩, hp, hm, ⟨ze, zw⟩, ⟨n1, n2, n3, n4, n5, n6, n7, n8, n9⟩, ht, hrc⟩ := h
  obtain ⟨c0, c1, c2, c3, hz⟩ := cells4 hb
  have e0 : w.cell? ⟨pe, 0, none⟩ = some (.int .i64 0) := by rw [← f0]; exact hf.cell (i := 0) (by omega)
  have hf2 := frozen_of_row w b 2 _ _ hb
  have hf3 := frozen_of_row w b 3 _ _ hb
  have hw3 : IntKind.u64.wrap (t : Int) = t := by rw [IntKind.wrap_u64]; omega
  have hw4 : IntKind.u64.wrap ((t : Int) + 1) = (t : Int) + 1 := by rw [IntKind.wrap_u64]; omega
  have ht' : (t : Int) < 16 := by omega
  have hnl := name_le (r := r) (c := c) (by omega)
  have hwn : IntKind.i64.wrap (2 * (nameN r c : Int) + 1) = 2 * (nameN r c : Int) + 1 := wrap_i64 (by omega) (by omega)
  have hcast : ((2 * nameN r c : Nat) : Int) = 2 * (nameN r c : Int) := by omega
  have HB := hide hb
  have HM := hide hm
  have HF := hide hf
  have HRC := hide hrc
  rw [hcast] at hv ⊢
  have d0 : (m.tell 0 (2 * (nameN r c : Int) + 1) 0 != 0) = true := by simpa using hv
  have hkb : Keep (fun k => k ≠ b) w (w.setCell ⟨b, 2, none⟩ (.int .i64 2)) := (Keep.refl _ w).setCell (by simp) _
  have hb' : (w.setCell ⟨b, 2, none⟩ (.int .i64 2)).heap[b]? = some (.cells (tkA pe t 2 (nameN r c)) 255 (0, 0)) := (cells_set HB.out).trans rfl
  have N1 := spLastW (pe := pe) (w.setCell ⟨b, 2, none⟩ (.int .i64 2)).drew (show (w.setCell ⟨b, 2, none⟩ (.int .i64 2)).drew.heap[b]? = _ from hb') (by have := (hkb.cell (p := ⟨pe, 0, none⟩) n3.symm).trans e0; exact this) ⟨by omega, hnl⟩
  have N := memRead pm px (2 * (nameN r c : Int) + 1) m (w.setCell ⟨b, 2, none⟩ (.int .i64 2)).drew.drew ((hm.of_blocks (hkb.block _ n1.symm) (hkb.block _ n2.symm)).of_blocks rfl rfl)
  have HB' := hide hb'
  have HKB := hide hkb
  clear hb hm hf hcast hb' hkb
  go_enter Tryz.func187, Tryz.ntmps187
  go_wp2
  refine wp_region_seq (fun Y => Y.cell? ⟨pw, 0, none⟩ = some (.pointer (some ⟨pm, 0, none⟩))) (.take 0 <| .take 1 <| .take 2 <| .take 3 <| .take 4 <| .run 5 <| .take 6 <| .run 7 <| .take 8 <| .done) (by kernel_rfl) (by kernel_rfl) (by kernel_rfl) (by go_simp) ?_
  repeat (refine seq_take (v := ?_) rfl (by rfl) ?_ ?_; rotate_left; (focus (intro wS hS; go_simp; exact rfl)); simp only [Act.put, List.setIfInBounds_toArray, List.set_cons_zero, List.set_cons_succ])
  (refine seq_run rfl (by rfl) (fun K hK => ?_); go_simp)
  refine N1.mono ?_
  rintro e w0 ⟨rfl, rfl⟩
  refine hK _ _ (by go_simp) ?_
  clear hK K N1
  repeat (refine seq_take (v := ?_) rfl (by rfl) ?_ ?_; rotate_left; (focus (intro wS hS; go_simp; exact rfl)); simp only [Act.put, List.setIfInBounds_toArray, List.set_cons_zero, List.set_cons_succ])
  (refine seq_run rfl (by rfl) (fun K hK => ?_); go_simp)
  refine N.mono ?_
  rintro e w1 ⟨rfl, hm1, hk1⟩
  have hkw : Keep (fun k => k ≠ b ∧ k ≠ pm ∧ k ≠ px ∧ k < w.heap.size) w w1 := (((HKB.out.mono (fun k hk => hk.1)).drew).drew).trans (hk1.mono (fun k hk => ⟨hk.2.1, hk.2.2.1, by simpa using hk.2.2.2⟩))
  have hb1 := (hk1.block b ⟨n1, n2, by simpa using hz⟩).trans HB'.out
  have hz1 : b < w1.heap.size := Nat.lt_of_lt_of_le hz hkw.size
  refine hK _ _ ((hkw.cell (p := ⟨pw, 0, none⟩) ⟨n4.symm, n8, n9, zw⟩).trans hp) ?_
  have HB1 := hide hb1
  have HM1 := hide hm1
  have HKW := hide hkw
  clear hK K hm1 hk1 N hkw hb1
  repeat (refine seq_take (v := ?_) rfl (by rfl) ?_ ?_; rotate_left; (focus (intro wS hS; go_simp; exact rfl)); simp only [Act.put, List.setIfInBounds_toArray, List.set_cons_zero, List.set_cons_succ])
  refine seq_nil ?_
  have N2 := spMoveW r c 0 1 w1 HB1.out HRC.out ⟨by decide, by decide⟩
  go_wp2_with fail
  refine N2.mono ?_
  rintro e w2 ⟨rfl, hb2, hk2⟩
  have HB2 := hide hb2
  have HK2 := hide hk2
  clear hb2 hk2 N2
  go_wp2
  go_ret
  have hml := HM1.out.lt
  exact ⟨rfl, HB2.out, HM1.out.of_blocks (HK2.out.block _ ⟨hml.1, n1.symm⟩) (HK2.out.block _ ⟨hml.2, n2.symm⟩), (HKW.out.mono (fun k hk => ⟨hk.2.1, hk.2.2.1, hk.2.2.2, hk.1⟩)).trans (HK2.out.mono (fun k hk => ⟨Nat.lt_of_lt_of_le hk.1 HKW.out.size, hk.2.1⟩))⟩
set_option maxRecDepth 100000 in
set_option maxHeartbeats 1000000 in
theorem spStep1s (h : SpS w pe b pw pm px t 1 r c f m) (hv : m.tell 0 ((2 * nameN r c : Nat) + 1) 0 = 0) : Calls Tryz.prog 187 #[.pointer (some ⟨b, 0, none⟩), .pointer (some ⟨pw, 0, none⟩)] w (SpP w pe b pm px t false 2 (nameN r c) (m.acc 0 ((2 * nameN r c : Nat) + 1) 0 0)) := by
  obtain ⟨hb, hf, f0, ⟨hx, fx⟩, hp, hm, ⟨ze, zw⟩, ⟨n1, n2, n3, n4, n5, n6, n7, n8, n9⟩, ht, hrc⟩ := h
  obtain ⟨c0, c1, c2, c3, hz⟩ := cells4 hb
  have e0 : w.cell? ⟨pe, 0, none⟩ = some (.int .i64 0) := by rw [← f0]; exact hf.cell (i := 0) (by omega)
  have hf2 := frozen_of_row w b 2 _ _ hb
  have hf3 := frozen_of_row w b 3 _ _ hb
  have hw3 : IntKind.u64.wrap (t : Int) = t := by rw [IntKind.wrap_u64]; omega
  have hw4 : IntKind.u64.wrap ((t : Int) + 1) = (t : Int) + 1 := by rw [IntKind.wrap_u64]; omega
  have ht' : (t : Int) < 16 := by omega
  have hnl := name_le (r := r) (c := c) (by omega)
  have hwn : IntKind.i64.wrap (2 * (nameN r c : Int) + 1) = 2 * (nameN r c : Int) + 1 := wrap_i64 (by omega) (by omega)
  have hcast : ((2 * nameN r c : Nat) : Int) = 2 * (nameN r c : Int) := by omega
  have HB := hide hb
  have HM := hide hm
  have HF := hide hf
  have HRC := hide hrc
  rw [hcast] at hv ⊢
  have d0 : (m.tell 0 (2 * (nameN r c : Int) + 1) 0 != 0) = false := by simpa using hv
  have hkb : Keep (fun k => k ≠ b) w (w.setCell ⟨b, 2, none⟩ (.int .i64 2)) := (Keep.refl _ w).setCell (by simp) _
  have hb' : (w.setCell ⟨b, 2, none⟩ (.int .i64 2)).heap[b]? = some (.cells (tkA pe t 2 (nameN r c)) 255 (0, 0)) := (cells_set HB.out).trans rfl
  have N1 := spLastW (pe := pe) (w.setCell ⟨b, 2, none⟩ (.int .i64 2)).drew (show (w.setCell ⟨b, 2, none⟩ (.int .i64 2)).drew.heap[b]? = _ from hb') (by have := (hkb.cell (p := ⟨pe, 0, none⟩) n3.symm).trans e0; exact this) ⟨by omega, hnl⟩
  have N := memRead pm px (2 * (nameN r c : Int) + 1) m (w.setCell ⟨b, 2, none⟩ (.int .i64 2)).drew.drew ((hm.of_blocks (hkb.block _ n1.symm) (hkb.block _ n2.symm)).of_blocks rfl rfl)
  have HB' := hide hb'
  have HKB := hide hkb
  clear hb hm hf hcast hb' hkb
  go_enter Tryz.func187, Tryz.ntmps187
  go_wp2
  refine wp_region_seq (fun Y => Y.cell? ⟨pw, 0, none⟩ = some (.pointer (some ⟨pm, 0, none⟩))) (.take 0 <| .take 1 <| .take 2 <| .take 3 <| .take 4 <| .run 5 <| .take 6 <| .run 7 <| .take 8 <| .done) (by kernel_rfl) (by kernel_rfl) (by kernel_rfl) (by go_simp) ?_
  repeat (refine seq_take (v := ?_) rfl (by rfl) ?_ ?_; rotate_left; (focus (intro wS hS; go_simp; exact rfl)); simp only [Act.put, List.setIfInBounds_toArray, List.set_cons_zero, List.set_cons_succ])
  (refine seq_run rfl (by rfl) (fun K hK => ?_); go_simp)
  refine N1.mono ?_
  rintro e w0 ⟨rfl, rfl⟩
  refine hK _ _ (by go_simp) ?_
  clear hK K N1
  repeat (refine seq_take (v := ?_) rfl (by rfl) ?_ ?_; rotate_left; (focus (intro wS hS; go_simp; exact rfl)); simp only [Act.put, List.setIfInBounds_toArray, List.set_cons_zero, List.set_cons_succ])
  (refine seq_run rfl (by rfl) (fun K hK => ?_); go_simp)
  refine N.mono ?_
  rintro e w1 ⟨rfl, hm1, hk1⟩
  have hkw : Keep (fun k => k ≠ b ∧ k ≠ pm ∧ k ≠ px ∧ k < w.heap.size) w w1 := (((HKB.out.mono (fun k hk => hk.1)).drew).drew).trans (hk1.mono (fun k hk => ⟨hk.2.1, hk.2.2.1, by simpa using hk.2.2.2⟩))
  have hb1 := (hk1.block b ⟨n1, n2, by simpa using hz⟩).trans HB'.out
  have hz1 : b < w1.heap.size := Nat.lt_of_lt_of_le hz hkw.size
  refine hK _ _ ((hkw.cell (p := ⟨pw, 0, none⟩) ⟨n4.symm, n8, n9, zw⟩).trans hp) ?_
  have HB1 := hide hb1
  have HM1 := hide hm1
  have HKW := hide hkw
  clear hK K hm1 hk1 N hkw hb1
  repeat (refine seq_take (v := ?_) rfl (by rfl) ?_ ?_; rotate_left; (focus (intro wS hS; go_simp; exact rfl)); simp only [Act.put, List.setIfInBounds_toArray, List.set_cons_zero, List.set_cons_succ])
  refine seq_nil ?_
  go_wp2
  go_ret
  exact ⟨rfl, HB1.out, HM1.out, HKW.out.mono (fun k hk => ⟨hk.2.1, hk.2.2.1, hk.2.2.2, hk.1⟩)⟩
set_option maxRecDepth 100000 in
set_option maxHeartbeats 1000000 in
theorem spStep2 (h : SpS w pe b pw pm px t 2 r c f m) : Calls Tryz.prog 187 #[.pointer (some ⟨b, 0, none⟩), .pointer (some ⟨pw, 0, none⟩)] w (SpP w pe b pm px t false 3 (nameN r c) (m.acc 1 ((2 * nameN r c : Nat) + 1) 1 0)) := by
  obtain ⟨hb, hf, f0, ⟨hx, fx⟩, hp, hm, ⟨ze, zw⟩, ⟨n1, n2, n3, n4, n5, n6, n7, n8, n9⟩, ht, hrc⟩ := h
  obtain ⟨c0, c1, c2, c3, hz⟩ := cells4 hb
  have e0 : w.cell? ⟨pe, 0, none⟩ = some (.int .i64 0) := by rw [← f0]; exact hf.cell (i := 0) (by omega)
  have hf2 := frozen_of_row w b 2 _ _ hb
  have hf3 := frozen_of_row w b 3 _ _ hb
  have hw3 : IntKind.u64.wrap (t : Int) = t := by rw [IntKind.wrap_u64]; omega
  have hw4 : IntKind.u64.wrap ((t : Int) + 1) = (t : Int) + 1 := by rw [IntKind.wrap_u64]; omega
  have ht' : (t : Int) < 16 := by omega
  have hnl := name_le (r := r) (c := c) (by omega)
  have hwn : IntKind.i64.wrap (2 * (nameN r c : Int) + 1) = 2 * (nameN r c : Int) + 1 := wrap_i64 (by omega) (by omega)
  have hcast : ((2 * nameN r c : Nat) : Int) = 2 * (nameN r c : Int) := by omega
  have HB := hide hb
  have HM := hide hm
  have HF := hide hf
  have HRC := hide hrc
  rw [hcast]
  have N1 := spLastW w.drew (show w.drew.heap[b]? = _ from hb) (show w.drew.cell? ⟨pe, 0, none⟩ = _ from e0) ⟨by omega, hnl⟩
  have N := memWrite pm px (2 * (nameN r c : Int) + 1) 1 m w.drew.drew (hm.of_blocks rfl rfl)
  clear hb hm hf hcast
  go_enter Tryz.func187, Tryz.ntmps187
  go_wp2
  refine wp_region_seq (fun Y => Y.cell? ⟨pw, 0, none⟩ = some (.pointer (some ⟨pm, 0, none⟩))) (.take 0 <| .take 1 <| .take 2 <| .take 3 <| .take 4 <| .run 5 <| .take 6 <| .run 7 <| .done) (by kernel_rfl) (by kernel_rfl) (by kernel_rfl) (by go_simp) ?_
  repeat (refine seq_take (v := ?_) rfl (by rfl) ?_ ?_; rotate_left; (focus (intro wS hS; go_simp; exact rfl)); simp only [Act.put, List.setIfInBounds_toArray, List.set_cons_zero, List.set_cons_succ])
  (refine seq_run rfl (by rfl) (fun K hK => ?_); go_simp)
  refine N1.mono ?_
  rintro e w0 ⟨rfl, rfl⟩
  refine hK _ _ (by go_simp) ?_
  clear hK K N1
  repeat (refine seq_take (v := ?_) rfl (by rfl) ?_ ?_; rotate_left; (focus (intro wS hS; go_simp; exact rfl)); simp only [Act.put, List.setIfInBounds_toArray, List.set_cons_zero, List.set_cons_succ])
  (refine seq_run rfl (by rfl) (fun K hK => ?_); go_simp)
  refine N.mono ?_
  rintro e w1 ⟨rfl, hm1, hk1⟩
  have hkw : Keep (fun k => k ≠ pm ∧ k ≠ px ∧ k < w.heap.size) w w1 := (((Keep.refl _ w).drew).drew).trans hk1
  have hb1 := (hkw.block b ⟨n1, n2, hz⟩).trans HB.out
  have hf1 := frozen_of_row w1 b 2 _ _ hb1
  have c21 : w1.cell? ⟨b, 2, none⟩ = some (.int .i64 2) := cell_of_row w1 b 2 _ _ _ hb1
  have hz1 : b < w1.heap.size := Nat.lt_of_lt_of_le hz hkw.size
  refine hK _ _ ((hkw.cell (p := ⟨pw, 0, none⟩) ⟨n8, n9, zw⟩).trans hp) ?_
  have HB1 := hide hb1
  have HM1 := hide hm1
  have HKW := hide hkw
  clear hK K hm1 hk1 N hkw hb1
  refine seq_nil ?_
  go_wp2
  go_ret
  have hkS : Keep (fun k => k ≠ b) w1 (w1.setCell ⟨b, 2, none⟩ (.int .i64 3)) := (Keep.refl _ w1).setCell (by simp) _
  exact ⟨rfl, (cells_set HB1.out).trans rfl, HM1.out.of_blocks (hkS.block _ n1.symm) (hkS.block _ n2.symm), (HKW.out.mono (fun k hk => ⟨hk.2.2.1, hk.2.2.2, hk.1⟩)).trans (hkS.mono (fun k hk => hk.2.1))⟩
set_option maxRecDepth 100000 in
set_option maxHeartbeats 1000000 in
theorem spStep3d (h : SpS w pe b pw pm px t 3 r c f m) (hv : m.tell 0 (2 * nameN r c : Nat) 0 ≠ t + 1) : Calls Tryz.prog 187 #[.pointer (some ⟨b, 0, none⟩), .pointer (some ⟨pw, 0, none⟩)] w (SpP w pe b pm px t false 0 (nameN (r + 1) c) (m.acc 0 (2 * nameN r c : Nat) 0 0)) := by
  obtain ⟨hb, hf, f0, ⟨hx, fx⟩, hp, hm, ⟨ze, zw⟩, ⟨n1, n2, n3, n4, n5, n6, n7, n8, n9⟩, ht, hrc⟩ := h
  obtain ⟨c0, c1, c2, c3, hz⟩ := cells4 hb
  have e0 : w.cell? ⟨pe, 0, none⟩ = some (.int .i64 0) := by rw [← f0]; exact hf.cell (i := 0) (by omega)
  have hf2 := frozen_of_row w b 2 _ _ hb
  have hf3 := frozen_of_row w b 3 _ _ hb
  have hw3 : IntKind.u64.wrap (t : Int) = t := by rw [IntKind.wrap_u64]; omega
  have hw4 : IntKind.u64.wrap ((t : Int) + 1) = (t : Int) + 1 := by rw [IntKind.wrap_u64]; omega
  have ht' : (t : Int) < 16 := by omega
  have hnl := name_le (r := r) (c := c) (by omega)
  have hwn : IntKind.i64.wrap (2 * (nameN r c : Int) + 1) = 2 * (nameN r c : Int) + 1 := wrap_i64 (by omega) (by omega)
  have hcast : ((2 * nameN r c : Nat) : Int) = 2 * (nameN r c : Int) := by omega
  have HB := hide hb
  have HM := hide hm
  have HF := hide hf
  have HRC := hide hrc
  rw [hcast] at hv ⊢
  have d0 : (m.tell 0 (2 * (nameN r c : Int)) 0 == (t : Int) + 1) = false := by simpa using hv
  have N1 := spLastW w.drew (show w.drew.heap[b]? = _ from hb) (show w.drew.cell? ⟨pe, 0, none⟩ = _ from e0) ⟨by omega, hnl⟩
  have N := memRead pm px (2 * (nameN r c : Int)) m w.drew.drew (hm.of_blocks rfl rfl)
  clear hb hm hf hcast
  go_enter Tryz.func187, Tryz.ntmps187
  go_wp2
  refine wp_region_seq (fun Y => Y.cell? ⟨pw, 0, none⟩ = some (.pointer (some ⟨pm, 0, none⟩))) (.take 0 <| .take 1 <| .take 2 <| .take 3 <| .take 4 <| .take 7 <| .run 5 <| .run 6 <| .take 8 <| .done) (by kernel_rfl) (by kernel_rfl) (by kernel_rfl) (by go_simp) ?_
  repeat (refine seq_take (v := ?_) rfl (by rfl) ?_ ?_; rotate_left; (focus (intro wS hS; go_simp; exact rfl)); simp only [Act.put, List.setIfInBounds_toArray, List.set_cons_zero, List.set_cons_succ])
  (refine seq_run rfl (by rfl) (fun K hK => ?_); go_simp)
  refine N1.mono ?_
  rintro e w0 ⟨rfl, rfl⟩
  refine hK _ _ (by go_simp) ?_
  clear hK K N1
  repeat (refine seq_take (v := ?_) rfl (by rfl) ?_ ?_; rotate_left; (focus (intro wS hS; go_simp; exact rfl)); simp only [Act.put, List.setIfInBounds_toArray, List.set_cons_zero, List.set_cons_succ])
  (refine seq_run rfl (by rfl) (fun K hK => ?_); go_simp)
  refine N.mono ?_
  rintro e w1 ⟨rfl, hm1, hk1⟩
  have hkw : Keep (fun k => k ≠ pm ∧ k ≠ px ∧ k < w.heap.size) w w1 := (((Keep.refl _ w).drew).drew).trans hk1
  have hb1 := (hkw.block b ⟨n1, n2, hz⟩).trans HB.out
  have c01 : w1.cell? ⟨b, 0, none⟩ = some (.pointer (some ⟨pe, 0, none⟩)) := cell_of_row w1 b 0 _ _ _ hb1
  have c11 : w1.cell? ⟨b, 1, none⟩ = some (.int .i64 t) := cell_of_row w1 b 1 _ _ _ hb1
  have hz1 : b < w1.heap.size := Nat.lt_of_lt_of_le hz hkw.size
  have he1 : w1.rowIs pe 114 17 f := rowIs_keep HF.out hkw ⟨n5, n6, ze⟩
  refine hK _ _ ((hkw.cell (p := ⟨pw, 0, none⟩) ⟨n8, n9, zw⟩).trans hp) ?_
  have HB1 := hide hb1
  have HM1 := hide hm1
  have HKW := hide hkw
  have HE1 := hide he1
  clear hK K hm1 hk1 N hkw hb1 he1
  repeat (refine seq_take (v := ?_) rfl (by rfl) ?_ ?_; rotate_left; (focus (intro wS hS; go_simp; exact rfl)); simp only [Act.put, List.setIfInBounds_toArray, List.set_cons_zero, List.set_cons_succ])
  refine seq_nil ?_
  have N2 := spMoveW r c 1 0 w1 HB1.out HRC.out ⟨by decide, by decide⟩
  go_wp2_with fail
  refine N2.mono ?_
  rintro e w2 ⟨rfl, hb2, hk2⟩
  have HB2 := hide hb2
  have HK2 := hide hk2
  clear hb2 hk2 N2
  go_wp2
  go_ret
  have hml := HM1.out.lt
  exact ⟨rfl, HB2.out, HM1.out.of_blocks (HK2.out.block _ ⟨hml.1, n1.symm⟩) (HK2.out.block _ ⟨hml.2, n2.symm⟩), (HKW.out.mono (fun k hk => ⟨hk.2.2.1, hk.2.2.2, hk.1⟩)).trans (HK2.out.mono (fun k hk => ⟨Nat.lt_of_lt_of_le hk.1 HKW.out.size, hk.2.1⟩))⟩
set_option maxRecDepth 100000 in
set_option maxHeartbeats 1000000 in
theorem spStep3y (h : SpS w pe b pw pm px t 3 r c f m) (hv : m.tell 0 (2 * nameN r c : Nat) 0 = t + 1) : Calls Tryz.prog 187 #[.pointer (some ⟨b, 0, none⟩), .pointer (some ⟨pw, 0, none⟩)] w fun e w' =>
    e = .returned (.bool true) ∧ w'.heap[b]? = some (.cells (tkA pe t 3 (nameN r c)) 255 (0, 0)) ∧ w'.rowIs pe 114 17 (fun i => if i = 1 + t then .bool true else f i) ∧ MemAt w' pm px .nilFunc (m.acc 0 (2 * nameN r c : Nat) 0 0) ∧ Keep (fun k => k < w.heap.size ∧ k ≠ b ∧ k ≠ pe ∧ k ≠ pm ∧ k ≠ px) w w' := by
  obtain ⟨hb, hf, f0, ⟨hx, fx⟩, hp, hm, ⟨ze, zw⟩, ⟨n1, n2, n3, n4, n5, n6, n7, n8, n9⟩, ht, hrc⟩ := h
  obtain ⟨c0, c1, c2, c3, hz⟩ := cells4 hb
  have e0 : w.cell? ⟨pe, 0, none⟩ = some (.int .i64 0) := by rw [← f0]; exact hf.cell (i := 0) (by omega)
  have hf2 := frozen_of_row w b 2 _ _ hb
  have hf3 := frozen_of_row w b 3 _ _ hb
  have hw3 : IntKind.u64.wrap (t : Int) = t := by rw [IntKind.wrap_u64]; omega
  have hw4 : IntKind.u64.wrap ((t : Int) + 1) = (t : Int) + 1 := by rw [IntKind.wrap_u64]; omega
  have ht' : (t : Int) < 16 := by omega
  have hnl := name_le (r := r) (c := c) (by omega)
  have hwn : IntKind.i64.wrap (2 * (nameN r c : Int) + 1) = 2 * (nameN r c : Int) + 1 := wrap_i64 (by omega) (by omega)
  have hcast : ((2 * nameN r c : Nat) : Int) = 2 * (nameN r c : Int) := by omega
  have HB := hide hb
  have HM := hide hm
  have HF := hide hf
  have HRC := hide hrc
  rw [hcast] at hv ⊢
  have d0 : (m.tell 0 (2 * (nameN r c : Int)) 0 == (t : Int) + 1) = true := by simpa using hv
  have N1 := spLastW w.drew (show w.drew.heap[b]? = _ from hb) (show w.drew.cell? ⟨pe, 0, none⟩ = _ from e0) ⟨by omega, hnl⟩
  have N := memRead pm px (2 * (nameN r c : Int)) m w.drew.drew (hm.of_blocks rfl rfl)
  clear hb hm hf hcast
  go_enter Tryz.func187, Tryz.ntmps187
  go_wp2
  refine wp_region_seq (fun Y => Y.cell? ⟨pw, 0, none⟩ = some (.pointer (some ⟨pm, 0, none⟩))) (.take 0 <| .take 1 <| .take 2 <| .take 3 <| .take 4 <| .take 7 <| .run 5 <| .run 6 <| .take 8 <| .done) (by kernel_rfl) (by kernel_rfl) (by kernel_rfl) (by go_simp) ?_
  repeat (refine seq_take (v := ?_) rfl (by rfl) ?_ ?_; rotate_left; (focus (intro wS hS; go_simp; exact rfl)); simp only [Act.put, List.setIfInBounds_toArray, List.set_cons_zero, List.set_cons_succ])
  (refine seq_run rfl (by rfl) (fun K hK => ?_); go_simp)
  refine N1.mono ?_
  rintro e w0 ⟨rfl, rfl⟩
  refine hK _ _ (by go_simp) ?_
  clear hK K N1
  repeat (refine seq_take (v := ?_) rfl (by rfl) ?_ ?_; rotate_left; (focus (intro wS hS; go_simp; exact rfl)); simp only [Act.put, List.setIfInBounds_toArray, List.set_cons_zero, List.set_cons_succ])
  (refine seq_run rfl (by rfl) (fun K hK => ?_); go_simp)
  refine N.mono ?_
  rintro e w1 ⟨rfl, hm1, hk1⟩
  have hkw : Keep (fun k => k ≠ pm ∧ k ≠ px ∧ k < w.heap.size) w w1 := (((Keep.refl _ w).drew).drew).trans hk1
  have hb1 := (hkw.block b ⟨n1, n2, hz⟩).trans HB.out
  have c01 : w1.cell? ⟨b, 0, none⟩ = some (.pointer (some ⟨pe, 0, none⟩)) := cell_of_row w1 b 0 _ _ _ hb1
  have c11 : w1.cell? ⟨b, 1, none⟩ = some (.int .i64 t) := cell_of_row w1 b 1 _ _ _ hb1
  have hz1 : b < w1.heap.size := Nat.lt_of_lt_of_le hz hkw.size
  have he1 : w1.rowIs pe 114 17 f := rowIs_keep HF.out hkw ⟨n5, n6, ze⟩
  refine hK _ _ ((hkw.cell (p := ⟨pw, 0, none⟩) ⟨n8, n9, zw⟩).trans hp) ?_
  have HB1 := hide hb1
  have HM1 := hide hm1
  have HKW := hide hkw
  have HE1 := hide he1
  clear hK K hm1 hk1 N hkw hb1 he1
  repeat (refine seq_take (v := ?_) rfl (by rfl) ?_ ?_; rotate_left; (focus (intro wS hS; go_simp; exact rfl)); simp only [Act.put, List.setIfInBounds_toArray, List.set_cons_zero, List.set_cons_succ])
  refine seq_nil ?_
  have cf := HE1.out.frozen (1 + t)
  have ce := HE1.out.cell (i := 1 + t) (by omega)
  rw [fx] at ce
  have hze := HE1.out.lt
  go_wp2
  refine wp_region_seq (fun Y => Y.cell? ⟨b, 0, none⟩ = some (.pointer (some ⟨pe, 0, none⟩)) ∧ Y.cell? ⟨b, 1, none⟩ = some (.int .i64 t)) (.take 0 <| .take 1 <| .take 2 <| .take 3 <| .take 4 <| .take 5 <| .take 6 <| .take 7 <| .take 8 <| .take 9 <| .take 10 <| .run 11 <| .done) (by kernel_rfl) (by kernel_rfl) (by kernel_rfl) (by refine ⟨?_, ?_⟩ <;> go_simp) ?_
  repeat (refine seq_take (v := ?_) rfl (by rfl) ?_ ?_; rotate_left; (focus (intro wS hS; obtain ⟨s0, s1⟩ := hS; go_simp; exact rfl)); simp only [Act.put, List.setIfInBounds_toArray, List.set_cons_zero, List.set_cons_succ])
  (refine seq_run rfl (by rfl) (fun K hK => ?_); go_simp)
  refine hK _ _ (by refine ⟨?_, ?_⟩ <;> go_simp) ?_
  clear hK K
  refine seq_nil ?_
  go_wp2
  go_ret
  have hkS : Keep (fun k => k ≠ pe) w1 (w1.drew.setCell ⟨pe, 1 + t, none⟩ (.bool true)) := ((Keep.refl _ w1).drew).setCell (by simp) _
  refine ⟨rfl, (hkS.block _ n3).trans HB1.out, ?_, HM1.out.of_blocks (hkS.block _ n5.symm) (hkS.block _ n6.symm), (HKW.out.mono (fun k hk => ⟨hk.2.2.2.1, hk.2.2.2.2, hk.1⟩)).trans (hkS.mono (fun k hk => hk.2.2.1))⟩
  exact HE1.out.drew.set (1 + t) (.bool true)
end
end Go.Proofs.YtlfingcmekifkaaGreat
