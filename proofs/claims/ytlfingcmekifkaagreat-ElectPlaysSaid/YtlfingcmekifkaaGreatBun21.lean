import Derived.Test.YtlfingcmekifkaaGreatBun20
namespace Go.Proofs.YtlfingcmekifkaaGreat
open Go.RowKit
def stA (pe t : Nat) (v : Int) (l : Bool) : Array Value := #[.pointer (some ⟨pe, 0, none⟩), .int .i64 t, .int .i64 v, .bool l]
structure ElS (w : World) (pe b pw pm px t : Nat) (v : Int) (l : Bool) (m : Mm) : Prop where
  blk : w.heap[b]? = some (.cells (stA pe t v l) 279 (0, 0))
  e0 : w.cell? ⟨pe, 0, none⟩ = some (.int .i64 0)
  ptr : w.cell? ⟨pw, 0, none⟩ = some (.pointer (some ⟨pm, 0, none⟩))
  mem : MemAt w pm px .nilFunc m
  lt : pe < w.heap.size ∧ pw < w.heap.size
  ne : b ≠ pm ∧ b ≠ px ∧ b ≠ pe ∧ b ≠ pw ∧ pe ≠ pm ∧ pe ≠ px ∧ pe ≠ pw ∧ pw ≠ pm ∧ pw ≠ px
  t1 : t < 16
  v1 : 0 ≤ v ∧ v ≤ 16
def ElP (w : World) (pe b pm px t : Nat) (d : Bool) (v' : Int) (l' : Bool) (m' : Mm) (e : Ending) (w' : World) : Prop :=
  e = .returned (.bool d) ∧ w'.heap[b]? = some (.cells (stA pe t v' l') 279 (0, 0)) ∧ MemAt w' pm px .nilFunc m' ∧ Keep (fun k => k < w.heap.size ∧ k ≠ b ∧ k ≠ pm ∧ k ≠ px) w w'
section
variable {w : World} {pe b pw pm px t : Nat} {v : Int} {l : Bool} {m : Mm}
set_option maxRecDepth 100000 in
set_option maxHeartbeats 1000000 in
theorem elStep0 (h : ElS w pe b pw pm px t 0 l m) : Calls Tryz.prog 218 #[.pointer (some ⟨b, 0, none⟩), .pointer (some ⟨pw, 0, none⟩)] w (ElP w pe b pm px t true 0 true m) := by
  obtain ⟨v, hv⟩ : ∃ v : Int, v = 0 := ⟨_, rfl⟩
  obtain ⟨hb, e0, hp, hm, ⟨ze, zw⟩, ⟨n1, n2, n3, n4, n5, n6, n7, n8, n9⟩, ht, ⟨v0, v1⟩⟩ := h
  obtain ⟨c0, c1, c2, c3, hz⟩ := cells4 hb
  have hf2 := frozen_of_row w b 2 _ _ hb
  have hf3 := frozen_of_row w b 3 _ _ hb
  have ht' : (t : Int) < 16 := by omega
  have HB := hide hb
  have HM := hide hm
  clear hb hm
  go_enter Tryz.func218, Tryz.ntmps218
  go_wp2
  refine wp_region_seq (fun Y => Y.cell? ⟨b, 2, none⟩ = some (.int .i64 0)) (.take 0 <| .take 1 <| .take 2 <| .take 3 <| .take 4 <| .take 5 <| .take 6 <| .take 7 <| .take 8 <| .take 9 <| .take 10 <| .take 11 <| .take 12 <| .take 13 <| .take 14 <| .take 15 <| .take 16 <| .take 17 <| .take 18 <| .take 19 <| .take 20 <| .take 21 <| .take 22 <| .take 23 <| .take 24 <| .take 25 <| .take 26 <| .take 27 <| .take 28 <| .run 29 <| .take 30 <| .take 31 <| .done) (by kernel_rfl) (by kernel_rfl) (by kernel_rfl) (by go_simp) ?_
  repeat (first | (refine seq_skip rfl (by rfl) ?_; simp only [Act.put, List.setIfInBounds_toArray, List.set_cons_zero, List.set_cons_succ]) | (refine seq_take (v := ?_) rfl (by rfl) ?_ ?_; rotate_left; (focus (intro wS hS; go_simp; exact rfl)); simp only [Act.put, List.setIfInBounds_toArray, List.set_cons_zero, List.set_cons_succ]) | (refine seq_pass rfl (by rfl) (by go_simp) ?_; simp only [Act.put, List.setIfInBounds_toArray, List.set_cons_zero, List.set_cons_succ]))
  refine seq_nil ?_
  go_wp2
  go_ret
  have hkS : Keep (fun k => k ≠ b) w ((w.setCell ⟨b, 2, none⟩ (.int .i64 0)).setCell ⟨b, 3, none⟩ (.bool true)).drew := (((Keep.refl _ w).setCell (by simp) _).setCell (by simp) _).drew
  refine ⟨rfl, (cells_set (w := w.setCell ⟨b, 2, none⟩ (.int .i64 0)) (cells_set HB.out)).trans rfl, HM.out.of_blocks (hkS.block _ n1.symm) (hkS.block _ n2.symm), hkS.mono (fun k hk => hk.2.1)⟩
set_option maxRecDepth 100000 in
set_option maxHeartbeats 1000000 in
theorem elStepNo (h : ElS w pe b pw pm px t v l m) (hv : 1 ≤ v) (ht : m.tell 2 (v - 1) 0 ≠ 1) : Calls Tryz.prog 218 #[.pointer (some ⟨b, 0, none⟩), .pointer (some ⟨pw, 0, none⟩)] w (ElP w pe b pm px t true v l (m.acc 2 (v - 1) 0 ((t : Int) + 1))) := by
  have htl := ht
  obtain ⟨hb, e0, hp, hm, ⟨ze, zw⟩, ⟨n1, n2, n3, n4, n5, n6, n7, n8, n9⟩, ht, ⟨v0, v1⟩⟩ := h
  obtain ⟨c0, c1, c2, c3, hz⟩ := cells4 hb
  have hf2 := frozen_of_row w b 2 _ _ hb
  have hf3 := frozen_of_row w b 3 _ _ hb
  have ht' : (t : Int) < 16 := by omega
  have HB := hide hb
  have HM := hide hm
  have N := memSwap pm px (v - 1) 0 ((t : Int) + 1) m w.drew (hm.of_blocks rfl rfl)
  rw [decide_eq_false htl] at N
  have d0 : decide (1 ≤ v) = true := by simpa using hv
  have hw1 : IntKind.i64.wrap (v - 1) = v - 1 := wrap_i64 (by omega) (by omega)
  have hw2 : IntKind.i64.wrap v = v := wrap_i64 (by omega) (by omega)
  have hw3 : IntKind.u64.wrap (t : Int) = t := by rw [IntKind.wrap_u64]; omega
  have hw4 : IntKind.u64.wrap ((t : Int) + 1) = (t : Int) + 1 := by rw [IntKind.wrap_u64]; omega
  clear hb hm htl
  go_enter Tryz.func218, Tryz.ntmps218
  go_wp2
  refine wp_region_seq (fun Y => Y.cell? ⟨b, 0, none⟩ = some (.pointer (some ⟨pe, 0, none⟩)) ∧ Y.cell? ⟨b, 1, none⟩ = some (.int .i64 t) ∧ Y.cell? ⟨b, 2, none⟩ = some (.int .i64 v) ∧ Y.cell? ⟨pe, 0, none⟩ = some (.int .i64 0) ∧ Y.cell? ⟨pw, 0, none⟩ = some (.pointer (some ⟨pm, 0, none⟩))) (.take 0 <| .take 1 <| .take 2 <| .take 3 <| .take 4 <| .take 5 <| .take 6 <| .take 7 <| .take 8 <| .take 9 <| .take 10 <| .take 11 <| .take 12 <| .take 13 <| .take 14 <| .take 15 <| .take 16 <| .take 17 <| .take 18 <| .take 19 <| .take 20 <| .take 21 <| .take 22 <| .take 23 <| .take 24 <| .take 25 <| .take 26 <| .take 27 <| .take 28 <| .run 29 <| .take 30 <| .take 31 <| .done) (by kernel_rfl) (by kernel_rfl) (by kernel_rfl) (by refine ⟨?_, ?_, ?_, ?_, ?_⟩ <;> go_simp) ?_
  repeat (refine seq_take (v := ?_) rfl (by rfl) ?_ ?_; rotate_left; (focus (intro wS hS; obtain ⟨s0, s1, s2, s3, s4⟩ := hS; go_simp; exact rfl)); simp only [Act.put, List.setIfInBounds_toArray, List.set_cons_zero, List.set_cons_succ])
  (refine seq_run rfl (by rfl) (fun K hK => ?_); go_simp)
  refine N.mono ?_
  rintro e w1 ⟨d, rfl, rfl, hm1, hk1⟩
  have hkw : Keep (fun k => k ≠ pm ∧ k ≠ px ∧ k < w.heap.size) w w1 := ((Keep.refl _ w).drew).trans hk1
  have hb1 := (hkw.block b ⟨n1, n2, hz⟩).trans HB.out
  have c21 : w1.cell? ⟨b, 2, none⟩ = some (.int .i64 v) := cell_of_row w1 b 2 _ _ _ hb1
  have c31 : w1.cell? ⟨b, 3, none⟩ = some (.bool l) := cell_of_row w1 b 3 _ _ _ hb1
  have hf21 := frozen_of_row w1 b 2 _ _ hb1
  have hf31 := frozen_of_row w1 b 3 _ _ hb1
  have hz1 : b < w1.heap.size := Nat.lt_of_lt_of_le hz hkw.size
  refine hK _ _ ⟨cell_of_row w1 b 0 _ _ _ hb1, cell_of_row w1 b 1 _ _ _ hb1, c21, (hkw.cell (p := ⟨pe, 0, none⟩) ⟨n5, n6, ze⟩).trans e0, (hkw.cell (p := ⟨pw, 0, none⟩) ⟨n8, n9, zw⟩).trans hp⟩ ?_
  have HB1 := hide hb1
  have HM1 := hide hm1
  have HKW := hide hkw
  clear hK K hb1 hm1 hk1 hkw N
  repeat (refine seq_take (v := ?_) rfl (by rfl) ?_ ?_; rotate_left; (focus (intro wS hS; obtain ⟨s0, s1, s2, s3, s4⟩ := hS; go_simp; exact rfl)); simp only [Act.put, List.setIfInBounds_toArray, List.set_cons_zero, List.set_cons_succ])
  refine seq_nil ?_
  go_wp2
  go_ret
  exact ⟨rfl, HB1.out, HM1.out, HKW.out.mono (fun k hk => ⟨hk.2.2.1, hk.2.2.2, hk.1⟩)⟩
set_option maxRecDepth 100000 in
set_option maxHeartbeats 1000000 in
theorem elStepYes (h : ElS w pe b pw pm px t v l m) (hv : 1 ≤ v) (ht : m.tell 2 (v - 1) 0 = 1) : Calls Tryz.prog 218 #[.pointer (some ⟨b, 0, none⟩), .pointer (some ⟨pw, 0, none⟩)] w (ElP w pe b pm px t (decide (v / 2 < 1)) (v / 2) (decide (v / 2 < 1)) (m.acc 2 (v - 1) 0 ((t : Int) + 1))) := by
  have htl := ht
  obtain ⟨hb, e0, hp, hm, ⟨ze, zw⟩, ⟨n1, n2, n3, n4, n5, n6, n7, n8, n9⟩, ht, ⟨v0, v1⟩⟩ := h
  obtain ⟨c0, c1, c2, c3, hz⟩ := cells4 hb
  have hf2 := frozen_of_row w b 2 _ _ hb
  have hf3 := frozen_of_row w b 3 _ _ hb
  have ht' : (t : Int) < 16 := by omega
  have HB := hide hb
  have HM := hide hm
  have N := memSwap pm px (v - 1) 0 ((t : Int) + 1) m w.drew (hm.of_blocks rfl rfl)
  rw [decide_eq_true htl] at N
  have d0 : decide (1 ≤ v) = true := by simpa using hv
  have hw1 : IntKind.i64.wrap (v - 1) = v - 1 := wrap_i64 (by omega) (by omega)
  have hw2 : IntKind.i64.wrap v = v := wrap_i64 (by omega) (by omega)
  have hw3 : IntKind.u64.wrap (t : Int) = t := by rw [IntKind.wrap_u64]; omega
  have hw4 : IntKind.u64.wrap ((t : Int) + 1) = (t : Int) + 1 := by rw [IntKind.wrap_u64]; omega
  have hq : Int.tdiv v 2 = v / 2 := Int.tdiv_eq_ediv_of_nonneg v0
  have hw5 : IntKind.i64.wrap (v / 2) = v / 2 := wrap_i64 (by omega) (by omega)
  clear hb hm htl
  go_enter Tryz.func218, Tryz.ntmps218
  go_wp2
  refine wp_region_seq (fun Y => Y.cell? ⟨b, 0, none⟩ = some (.pointer (some ⟨pe, 0, none⟩)) ∧ Y.cell? ⟨b, 1, none⟩ = some (.int .i64 t) ∧ Y.cell? ⟨b, 2, none⟩ = some (.int .i64 v) ∧ Y.cell? ⟨pe, 0, none⟩ = some (.int .i64 0) ∧ Y.cell? ⟨pw, 0, none⟩ = some (.pointer (some ⟨pm, 0, none⟩))) (.take 0 <| .take 1 <| .take 2 <| .take 3 <| .take 4 <| .take 5 <| .take 6 <| .take 7 <| .take 8 <| .take 9 <| .take 10 <| .take 11 <| .take 12 <| .take 13 <| .take 14 <| .take 15 <| .take 16 <| .take 17 <| .take 18 <| .take 19 <| .take 20 <| .take 21 <| .take 22 <| .take 23 <| .take 24 <| .take 25 <| .take 26 <| .take 27 <| .take 28 <| .run 29 <| .take 30 <| .take 31 <| .done) (by kernel_rfl) (by kernel_rfl) (by kernel_rfl) (by refine ⟨?_, ?_, ?_, ?_, ?_⟩ <;> go_simp) ?_
  repeat (refine seq_take (v := ?_) rfl (by rfl) ?_ ?_; rotate_left; (focus (intro wS hS; obtain ⟨s0, s1, s2, s3, s4⟩ := hS; go_simp; exact rfl)); simp only [Act.put, List.setIfInBounds_toArray, List.set_cons_zero, List.set_cons_succ])
  (refine seq_run rfl (by rfl) (fun K hK => ?_); go_simp)
  refine N.mono ?_
  rintro e w1 ⟨d, rfl, rfl, hm1, hk1⟩
  have hkw : Keep (fun k => k ≠ pm ∧ k ≠ px ∧ k < w.heap.size) w w1 := ((Keep.refl _ w).drew).trans hk1
  have hb1 := (hkw.block b ⟨n1, n2, hz⟩).trans HB.out
  have c21 : w1.cell? ⟨b, 2, none⟩ = some (.int .i64 v) := cell_of_row w1 b 2 _ _ _ hb1
  have c31 : w1.cell? ⟨b, 3, none⟩ = some (.bool l) := cell_of_row w1 b 3 _ _ _ hb1
  have hf21 := frozen_of_row w1 b 2 _ _ hb1
  have hf31 := frozen_of_row w1 b 3 _ _ hb1
  have hz1 : b < w1.heap.size := Nat.lt_of_lt_of_le hz hkw.size
  refine hK _ _ ⟨cell_of_row w1 b 0 _ _ _ hb1, cell_of_row w1 b 1 _ _ _ hb1, c21, (hkw.cell (p := ⟨pe, 0, none⟩) ⟨n5, n6, ze⟩).trans e0, (hkw.cell (p := ⟨pw, 0, none⟩) ⟨n8, n9, zw⟩).trans hp⟩ ?_
  have HB1 := hide hb1
  have HM1 := hide hm1
  have HKW := hide hkw
  clear hK K hb1 hm1 hk1 hkw N
  repeat (refine seq_take (v := ?_) rfl (by rfl) ?_ ?_; rotate_left; (focus (intro wS hS; obtain ⟨s0, s1, s2, s3, s4⟩ := hS; go_simp; exact rfl)); simp only [Act.put, List.setIfInBounds_toArray, List.set_cons_zero, List.set_cons_succ])
  refine seq_nil ?_
  go_wp2
  go_ret
  have hkS : Keep (fun k => k ≠ b) w1 ((w1.setCell ⟨b, 2, none⟩ (.int .i64 (v / 2))).setCell ⟨b, 3, none⟩ (.bool (decide (v / 2 < 1)))) := ((Keep.refl _ w1).setCell (by simp) _).setCell (by simp) _
  refine ⟨rfl, (cells_set (cells_set HB1.out)).trans rfl, HM1.out.of_blocks (hkS.block _ n1.symm) (hkS.block _ n2.symm), (HKW.out.mono (fun k hk => ⟨hk.2.2.1, hk.2.2.2, hk.1⟩)).trans (hkS.mono (fun k hk => hk.2.1))⟩
end
end Go.Proofs.YtlfingcmekifkaaGreat

namespace Go.Proofs.YtlfingcmekifkaaGreat
open Go.RowKit
def elOB (pe : Nat) (w : World) (F : Nat → Prop) (o : El) : Prop := (∀ k, F k ↔ k = pe) ∧ ∃ f : Nat → Value, w.rowIs pe 123 18 f ∧ f 0 = .int .i64 0 ∧ f 1 = .int .i64 o.leaves ∧ ∀ t, t < 16 → f (2 + t) = .bool (o.stood t)
def elPr (pe : Nat) (w : World) (F : Nat → Prop) (v : Value) (t : Nat) (vv : Int) (l : Bool) : Prop := ∃ b, v = .iface 277 (.pointer (some ⟨b, 0, none⟩)) ∧ w.heap[b]? = some (.cells (stA pe t vv l) 279 (0, 0)) ∧ ∀ k, F k ↔ k = b
def elML (pe : Nat) (w : World) (F : Nat → Prop) (v : Value) : EM → Prop
  | .no e => NoAt w F v e
  | .stand t vv l => elPr pe w F v t vv l
def elAL (pe : Nat) (w : World) (F : Nat → Prop) (v : Value) : EM → Prop
  | .no e => NoAl w F v e
  | .stand t vv l => elPr pe w F v t vv l
theorem elOB_keep {pe : Nat} {w w' : World} {F S : Nat → Prop} {o : El} (h : elOB pe w F o) (hk : Keep S w w') (hS : ∀ k, F k → S k) : elOB pe w' F o := by
  obtain ⟨h1, f, h2, h3⟩ := h
  exact ⟨h1, f, rowIs_keep h2 hk (hS pe ((h1 pe).2 rfl)), h3⟩
theorem elPr_keep {pe : Nat} {w w' : World} {F S : Nat → Prop} {v : Value} {t : Nat} {vv : Int} {l : Bool} (h : elPr pe w F v t vv l) (hk : Keep S w w') (hS : ∀ k, F k → S k) : elPr pe w' F v t vv l := by
  obtain ⟨b, h1, h2, h4⟩ := h
  exact ⟨b, h1, (hk.block b (hS b ((h4 b).2 rfl))).trans h2, h4⟩
theorem elPr_lt {pe : Nat} {w : World} {F : Nat → Prop} {v : Value} {t : Nat} {vv : Int} {l : Bool} (h : elPr pe w F v t vv l) : ∀ k, F k → k < w.heap.size := by
  obtain ⟨b, h1, h2, h4⟩ := h
  intro k hk
  rw [(h4 k).1 hk]
  exact (Array.getElem?_eq_some_iff.1 h2).1
theorem elLate (v : Value) : LateNo (.iface 277 v) := fun w => run_typeAssert_lacksB Tryz.underlying167 (by kernel_rfl) (by kernel_rfl) _ _ w
def elStartQ (pe : Nat) (w : World) (Fo : Nat → Prop) (r : El × EM) (e : Ending) (w' : World) : Prop :=
  ∃ Fo' Fm' u, e = .returned u ∧ elOB pe w' Fo' r.1 ∧ elML pe w' Fm' u r.2 ∧ (∀ k, Fo' k → Fo k ∨ w.heap.size ≤ k) ∧ (∀ k, Fm' k → Fo k ∨ w.heap.size ≤ k) ∧ (∀ k, Fo' k → ¬ Fm' k) ∧ Keep (fun k => k < w.heap.size ∧ ¬ Fo k) w w'
theorem elStartQ_no {pe : Nat} {w w1 w2 : World} {Fo : Nat → Prop} {o : El} {e : Int} {b b1 : Nat} (hO : elOB pe w Fo o) (hb1 : Below w.heap.size w w1) (hn : OnceNo w2 b b1 e) (h1 : w1.heap.size ≤ b) (h2 : w1.heap.size ≤ b1) (hb2 : Below w1.heap.size w1 w2) : elStartQ pe w Fo (o, .no e) (.returned (onceV b)) w2 := by
  have hz := hb1.size
  have hk : Keep (fun k => k < w.heap.size) w w2 := (Keep.of_below hb1 (fun k hk => hk)).trans (Keep.of_below hb2 (fun k hk => by omega))
  have hF : ∀ k, Fo k → k < w.heap.size := fun k hk => by
    obtain ⟨a1, f, a2, _⟩ := hO
    rw [(a1 k).1 hk]
    exact a2.lt
  refine ⟨Fo, fun k => k = b ∨ k = b1, onceV b, rfl, elOB_keep hO hk hF, noAt_made hn, fun k hk => Or.inl hk, fun k hk => Or.inr ?_, fun k hk hm => ?_, hk.mono (fun k hk => hk.1)⟩
  · rcases hk with rfl | rfl <;> omega
  · have := hF k hk
    rcases hm with rfl | rfl <;> omega
set_option maxRecDepth 100000 in
set_option maxHeartbeats 1000000 in
theorem elStartW {pe : Nat} {w : World} {Fo : Nat → Prop} {o : El} {t : Nat} {c : Cl} (hO : elOB pe w Fo o) (hl : 1 ≤ o.leaves ∧ o.leaves ≤ 16) (ht : t < 16) (hobj : c.obj = 0) (pw : Nat) :
    Calls Tryz.prog 179 #[.pointer (some ⟨pe, 0, none⟩), .pointer (some ⟨pw, 0, none⟩), .int .i64 t, clV c] w (elStartQ pe w Fo (elStart o t c)) := by
  obtain ⟨hF, f, hf, f0, f1, f2⟩ := hO
  have hO : elOB pe w Fo o := ⟨hF, f, hf, f0, f1, f2⟩
  have c1 := hf.cell (i := 1) (by omega)
  have c2 := hf.cell (i := 2 + t) (by omega)
  rw [f1] at c1
  rw [f2 t ht] at c2
  have cf := hf.frozen (2 + t)
  have hz := hf.lt
  have ht' : (t : Int) < 16 := by omega
  obtain ⟨l0, l1⟩ := hl
  have hb1 : Below w.heap.size w (w.alloc (.cells #[.int .i64 c.thread, .int .i64 c.obj, .int .i64 c.kind, .int .u64 c.a, .int .u64 c.b, .int .u64 c.c] 48)) := (Below.refl _ w).alloc (Nat.le_refl _) _
  have HO := hide hO
  have HB1 := hide hb1
  have HF := hide hf
  have HF0 := hide f0
  have HF1 := hide f1
  have HF2 := hide f2
  have HFF := hide hF
  unfold clV elStart
  rw [if_neg (by omega)]
  clear hobj hO hb1 hf f0 f1 f2 hF
  by_cases hk : c.kind = 0
  · rw [if_neg (by omega)]
    have d0 : (c.kind != 0) = false := by simpa using hk
    rcases hh : o.stood t with _ | _
    · rw [hh] at c2
      rw [if_neg (by decide)]
      have hw1 : IntKind.i64.wrap (o.leaves + (t : Int)) = o.leaves + (t : Int) := wrap_i64 (by omega) (by omega)
      have hq : Int.tdiv (o.leaves + (t : Int)) 2 = (o.leaves + (t : Int)) / 2 := Int.tdiv_eq_ediv_of_nonneg (by omega)
      have hw2 : IntKind.i64.wrap ((o.leaves + (t : Int)) / 2) = (o.leaves + (t : Int)) / 2 := wrap_i64 (by omega) (by omega)
      clear hk
      go_enter Tryz.func179, Tryz.ntmps179
      go_wp2
      go_ret
      have hpF : Fo pe := (HFF.out pe).2 rfl
      have hkw : Keep (fun k => k < w.heap.size ∧ ¬ Fo k) w (((w.setCell ⟨pe, 2 + t, none⟩ (.bool true)).alloc (.cells #[.int .i64 c.thread, .int .i64 c.obj, .int .i64 c.kind, .int .u64 c.a, .int .u64 c.b, .int .u64 c.c] 48)).alloc (.cells (stA pe t ((o.leaves + (t : Int)) / 2) false) 279)) := (((Keep.refl _ w).setCell (fun hk => hk.2 hpF) _).alloc (fun k hk => by simpa using hk.1) _).alloc (fun k hk => by simp; omega) _
      refine ⟨Fo, fun k => k = w.heap.size + 1, _, rfl, ⟨HFF.out, _, ((HF.out.set (2 + t) (.bool true)).alloc _).alloc _, ?_, ?_, fun s hs => ?_⟩, ⟨w.heap.size + 1, rfl, ?_, fun k => Iff.rfl⟩, fun k hk => Or.inl hk, fun k hk => Or.inr (by omega), fun k hk hm => ?_, hkw⟩
      · show (if 0 = 2 + t then _ else f 0) = _
        rw [if_neg (by omega)]; exact HF0.out
      · show (if 1 = 2 + t then _ else f 1) = _
        rw [if_neg (by omega)]; exact HF1.out
      · show (if 2 + s = 2 + t then _ else f (2 + s)) = Value.bool (upd o.stood t true s)
        by_cases e : s = t
        · subst e
          rw [if_pos rfl, upd_same]
        · rw [if_neg (by omega), upd_other e]
          exact HF2.out s hs
      · have e1 : ((w.setCell ⟨pe, 2 + t, none⟩ (.bool true)).alloc (.cells #[.int .i64 c.thread, .int .i64 c.obj, .int .i64 c.kind, .int .u64 c.a, .int .u64 c.b, .int .u64 c.c] 48)).heap.size = w.heap.size + 1 := by simp
        rw [← e1]
        exact heap_alloc_new _ _
      · have := (HFF.out k).1 hk
        omega
    · rw [hh] at c2
      rw [if_pos rfl]
      have N := refuseMake 8 (w.alloc (.cells #[.int .i64 c.thread, .int .i64 c.obj, .int .i64 c.kind, .int .u64 c.a, .int .u64 c.b, .int .u64 c.c] 48))
      clear hk
      go_enter Tryz.func179, Tryz.ntmps179
      go_wp2_with fail
      refine N.mono ?_
      rintro e w1 ⟨b, b1, rfl, hno, z1, z2, hb2⟩
      have HNO := hide hno
      have HB2 := hide hb2
      clear hno hb2 N
      unfold onceV
      go_wp2
      go_ret
      exact elStartQ_no HO.out HB1.out HNO.out z1 z2 HB2.out
  · rw [if_pos hk]
    have d0 : (c.kind != 0) = true := by simpa using hk
    have N := refuseMake 9 (w.alloc (.cells #[.int .i64 c.thread, .int .i64 c.obj, .int .i64 c.kind, .int .u64 c.a, .int .u64 c.b, .int .u64 c.c] 48))
    clear hk
    go_enter Tryz.func179, Tryz.ntmps179
    go_wp2_with fail
    refine N.mono ?_
    rintro e w1 ⟨b, b1, rfl, hno, z1, z2, hb2⟩
    have HNO := hide hno
    have HB2 := hide hb2
    clear hno hb2 N
    unfold onceV
    go_wp2
    go_ret
    exact elStartQ_no HO.out HB1.out HNO.out z1 z2 HB2.out
def elMok (t : Nat) : EM → Prop
  | .no _ => True
  | .stand t' v _ => t' = t ∧ t < 16 ∧ 0 ≤ v ∧ v ≤ 16
def elGood (n : Int) (o : El) (_lw : Lw) (hs : Nat → Option EM) : Prop := o.leaves = n ∧ (1 ≤ n ∧ n ≤ 16) ∧ ∀ t m, hs t = some m → elMok t m
def elTh (pe : Nat) (n : Int) : Th EM El := ⟨elG, [.iface 71 (.pointer (some ⟨pe, 0, none⟩))], elOB pe, elML pe, elAL pe, elGood n, elGood n⟩
theorem elGood_step {n : Int} {o : El} {lw : Lw} {hs : Nat → Option EM} {t : Nat} {m : EM} (hg : elGood n o lw hs) (hm : hs t = some m) : elGood n (elStep o lw m).1 (elStep o lw m).2.1 (upd hs t (if (elStep o lw m).2.2.2 then none else some (elStep o lw m).2.2.1)) := by
  obtain ⟨g1, g2, g4⟩ := hg
  have hk := g4 t m hm
  have key : ∀ (r : Option EM), (∀ m', r = some m' → elMok t m') → ∀ s m', upd hs t r s = some m' → elMok s m' := by
    intro r hr s m' h
    by_cases e : s = t
    · subst e
      rw [upd_same] at h
      exact hr m' h
    · rw [upd_other e] at h
      exact g4 s m' h
  cases m with
  | no e => exact ⟨g1, g2, key _ (fun m' h => by cases h)⟩
  | stand t' v l =>
    obtain ⟨k1, k2, k3, k4⟩ := hk
    have ho : (elStep o lw (.stand t' v l)).1 = o := by
      unfold elStep
      simp only
      split
      · rfl
      · split <;> rfl
    refine ⟨by rw [ho]; exact g1, g2, key _ (fun m' h => ?_)⟩
    unfold elStep at h
    simp only at h
    split at h
    · split at h
      · cases h
      · cases h
        exact ⟨k1, k2, by omega, by omega⟩
    · split at h
      · cases h
      · split at h
        · cases h
        · cases h
          exact ⟨k1, k2, by omega, by omega⟩
end Go.Proofs.YtlfingcmekifkaaGreat
