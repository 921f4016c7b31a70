/- A lattice's scans (package snap): a collect is held against the one ahead. -/
import Derived.Test.YtlfingcmekifkaaLw4
namespace Go.Proofs.Ytlfingcmekifkaa
open Go.RowKit

set_option maxRecDepth 100000 in
set_option maxHeartbeats 4000000 in
theorem scHeld1 {w : World} {bs ps pw n : Nat} {lv : Value} {s : Sc} (h : ScAt w bs ps lv s) (hn : w.cell? ⟨ps, 1, none⟩ = some (.int .i64 (n : Int))) (hp : ps < w.heap.size ∧ ps ≠ bs ∧ lv.ownBlock ≠ some ps) (hn16 : n ≤ 16) (hzero : ∀ i, n ≤ i → s.old i = 0 ∧ s.now i = 0) (hr1 : 1 ≤ s.rounds ∧ s.rounds ≤ 1000000) (hl : s.list = []) (he : eqN n s = true) :
    Calls Try.prog 129 #[.pointer (some ⟨bs, 0, none⟩), .pointer (some ⟨pw, 0, none⟩)] w fun e w' => e = .returned (.tuple #[]) ∧ ScQ w bs ps lv (Sc.pass n { s with at_ := 0, rounds := s.rounds + 1, pc := 1, moment := s.last }) w' := by
  obtain ⟨f0, hrow0, hf0⟩ := h.row
  have c2 := hrow0.cell (i := 2) (by omega)
  have c3 := hrow0.cell (i := 3) (by omega)
  rw [hf0.rounds] at c3
  have g2 := hrow0.frozen 2
  have g3 := hrow0.frozen 3
  have zb := hrow0.lt
  have h1 := (h.set (s' := { s with at_ := 0 }) 2 (.int .i64 0) rfl (fun f hf => by obtain ⟨b0, b1, b2, b3, b4, b5, b6, b7, b8, b9, b10⟩ := hf; refine ⟨?_, ?_, ?_, ?_, fun i hi => ?_, fun i hi => ?_, ?_, fun i hi => ?_, ?_, ?_, ?_⟩; all_goals first | (rw [if_neg (by omega)]; first | assumption | exact b4 i hi | exact b5 i hi | exact b7 i hi) | (rw [if_pos (by omega)]; rfl) | (rw [if_pos (by omega)]))).set (s' := { s with at_ := 0, rounds := s.rounds + 1 }) 3 (.int .i64 ((s.rounds : Int) + 1)) rfl (fun f hf => by obtain ⟨b0, b1, b2, b3, b4, b5, b6, b7, b8, b9, b10⟩ := hf; refine ⟨?_, ?_, ?_, ?_, fun i hi => ?_, fun i hi => ?_, ?_, fun i hi => ?_, ?_, ?_, ?_⟩; all_goals first | (rw [if_neg (by omega)]; first | assumption | exact b4 i hi | exact b5 i hi | exact b7 i hi) | (rw [if_pos (by omega)]; push_cast; rfl) | (rw [if_pos (by omega)]))
  obtain ⟨w1, hw1⟩ : ∃ X, X = (w.setCell ⟨bs, 2, none⟩ (.int .i64 0)).setCell ⟨bs, 3, none⟩ (.int .i64 ((s.rounds : Int) + 1)) := ⟨_, rfl⟩
  rw [← hw1] at h1
  have hK1 : Keep (fun k => k < w.heap.size ∧ k ≠ bs) w w1 := by rw [hw1]; exact ((Keep.refl _ w).setCell (fun hh => hh.2 rfl) _).setCell (fun hh => hh.2 rfl) _
  obtain ⟨f, hrow, hf⟩ := h1.row
  have kr : IntKind.i64.wrap ((s.rounds : Int) + 1) = (s.rounds : Int) + 1 := wrap_i64 (by omega) (by omega)
  obtain ⟨R, hR⟩ : ∃ R : Int, (s.rounds : Int) + 1 = R := ⟨_, rfl⟩
  have dR : (R == 1) = false := by simp; omega
  have e3 := hrow.cell (i := 3) (by omega)
  have e6 := hrow.cell (i := 36) (by omega)
  rw [hf.rounds] at e3
  rw [hf.last] at e6
  have e3 : w1.cell? ⟨bs, 3, none⟩ = some (.int .i64 R) := by rw [e3, ← hR]; rfl
  have e6 : w1.cell? ⟨bs, 36, none⟩ = some (.int .i64 s.last) := e6
  have HEQ : ∀ wS : World, (Op.equalIn 10000 197 (.agg #[.int .u64 (s.old 0), .int .u64 (s.old 1), .int .u64 (s.old 2), .int .u64 (s.old 3), .int .u64 (s.old 4), .int .u64 (s.old 5), .int .u64 (s.old 6), .int .u64 (s.old 7), .int .u64 (s.old 8), .int .u64 (s.old 9), .int .u64 (s.old 10), .int .u64 (s.old 11), .int .u64 (s.old 12), .int .u64 (s.old 13), .int .u64 (s.old 14), .int .u64 (s.old 15)]) (.agg #[.int .u64 (s.now 0), .int .u64 (s.now 1), .int .u64 (s.now 2), .int .u64 (s.now 3), .int .u64 (s.now 4), .int .u64 (s.now 5), .int .u64 (s.now 6), .int .u64 (s.now 7), .int .u64 (s.now 8), .int .u64 (s.now 9), .int .u64 (s.now 10), .int .u64 (s.now 11), .int .u64 (s.now 12), .int .u64 (s.now 13), .int .u64 (s.now 14), .int .u64 (s.now 15)])).run Try.prog wS = .ok (eqN n s) wS := fun wS => by rw [← row16_eq hn16 hzero]; exact eq_cells s.old s.now wS
  have HW1 := hide hw1
  have HROW := hide hrow
  have HF := hide hf
  have HK1 := hide hK1
  have HS1 := hide h1
  have HRR := hide hR
  rw [he] at HEQ
  obtain ⟨hpz, hpb, hpl⟩ := hp
  have hn1 := (hK1.cell (p := ⟨ps, 1, none⟩) ⟨hpz, hpb⟩).trans hn
  have d1 := hrow.cell (i := 1) (by omega)
  have d55 := hrow.cell (i := 55) (by omega)
  have q1 := hrow.frozen 1
  have q55 := hrow.frozen 55
  have zb1 := hrow.lt
  have hS2 := (h1.set (s' := { s with at_ := 0, rounds := s.rounds + 1, pc := 1 }) 1 (.int .i64 1) rfl (fun f hf => by obtain ⟨b0, b1, b2, b3, b4, b5, b6, b7, b8, b9, b10⟩ := hf; refine ⟨?_, ?_, ?_, ?_, fun i hi => ?_, fun i hi => ?_, ?_, fun i hi => ?_, ?_, ?_, ?_⟩; all_goals first | (rw [if_neg (by omega)]; first | assumption | exact b4 i hi | exact b5 i hi | exact b7 i hi) | (rw [if_pos (by omega)]; rfl) | (rw [if_pos (by omega)]))).set (s' := { s with at_ := 0, rounds := s.rounds + 1, pc := 1, moment := s.last }) 55 (.int .i64 s.last) rfl (fun f hf => by obtain ⟨b0, b1, b2, b3, b4, b5, b6, b7, b8, b9, b10⟩ := hf; refine ⟨?_, ?_, ?_, ?_, fun i hi => ?_, fun i hi => ?_, ?_, fun i hi => ?_, ?_, ?_, ?_⟩; all_goals first | (rw [if_neg (by omega)]; first | assumption | exact b4 i hi | exact b5 i hi | exact b7 i hi) | (rw [if_pos (by omega)]; rfl) | (rw [if_pos (by omega)]))
  have hk2 : Keep (fun k => k ≠ bs) w1 ((w1.setCell ⟨bs, 1, none⟩ (.int .i64 1)).setCell ⟨bs, 55, none⟩ (.int .i64 s.last)).drew := (((Keep.refl _ w1).setCell (by simp) _).setCell (by simp) _).drew
  replace hS2 := hS2.keep ((Keep.refl (fun _ => True) _).drew) trivial (fun _ _ => trivial)
  obtain ⟨w9, hw9⟩ : ∃ X, X = ((w1.setCell ⟨bs, 1, none⟩ (.int .i64 1)).setCell ⟨bs, 55, none⟩ (.int .i64 s.last)).drew := ⟨_, rfl⟩
  rw [← hw9] at hS2 hk2
  have HW9 := hide hw9
  have hn9 := (hk2.cell (p := ⟨ps, 1, none⟩) hpb).trans hn1
  have N := scPass (n := n) hS2 hn9 ⟨Nat.lt_of_lt_of_le (Nat.lt_of_lt_of_le hpz hK1.size) hk2.size, hpb, hpl⟩ hn16 (Nat.zero_le _) (by show s.list.length = 0; rw [hl]; rfl)
  have HNN := hide N
  clear hn9 N hw9
  have HK2 := hide hk2
  have HS2 := hide hS2
  have HN1 := hide hn1
  have HPS := hide (show ps < w1.heap.size ∧ ps ≠ bs ∧ lv.ownBlock ≠ some ps from ⟨Nat.lt_of_lt_of_le hpz hK1.size, hpb, hpl⟩)
  have HL := hide hl
  clear h hf0 hrow0 h1 hK1 hrow hf hw1 hn he hl hS2 hk2 hn1 hpz hpb hpl hzero hR
  go_enter Try.func129, Try.ntmps129
  go_upto_region 6 with fail
  rw [← HW1.out]
  clear HW1 c2 c3 g2 g3 zb
  go_wp2
  refine wp_region_seq (fun Y => ∃ f : Nat → Value, Y.rowIs bs 199 56 f ∧ (∀ i, i < 16 → f (20 + i) = .int .u64 (s.now i)) ∧ ∀ i, i < 16 → f (4 + i) = .int .u64 (s.old i)) (.take 0 <| .take 1 <| .take 2 <| .take 3 <| .take 4 <| .take 5 <| .take 6 <| .take 7 <| .take 8 <| .take 9 <| .done) (by kernel_rfl) (by kernel_rfl) (by kernel_rfl) (by exact ⟨f, HROW.out, HF.out.now, HF.out.old⟩) ?_
  iterate 3 (refine seq_take (v := ?_) rfl (by rfl) ?_ ?_; rotate_left; (focus (intro wS hS; go_simp; exact rfl)); simp only [Act.put, List.setIfInBounds_toArray, List.set_cons_zero, List.set_cons_succ])
  (refine seq_take (v := ?_) rfl (by rfl) ?_ ?_; rotate_left; (focus (intro wS hS; obtain ⟨f, hr, hf, hf2⟩ := hS; have n0 : wS.cell? ⟨bs, 20, none⟩ = some (.int .u64 (s.now 0)) := (hr.cell (i := 20) (by omega)).trans (congrArg some (hf 0 (by omega))); have n1 : wS.cell? ⟨bs, 21, none⟩ = some (.int .u64 (s.now 1)) := (hr.cell (i := 21) (by omega)).trans (congrArg some (hf 1 (by omega))); have n2 : wS.cell? ⟨bs, 22, none⟩ = some (.int .u64 (s.now 2)) := (hr.cell (i := 22) (by omega)).trans (congrArg some (hf 2 (by omega))); have n3 : wS.cell? ⟨bs, 23, none⟩ = some (.int .u64 (s.now 3)) := (hr.cell (i := 23) (by omega)).trans (congrArg some (hf 3 (by omega))); have n4 : wS.cell? ⟨bs, 24, none⟩ = some (.int .u64 (s.now 4)) := (hr.cell (i := 24) (by omega)).trans (congrArg some (hf 4 (by omega))); have n5 : wS.cell? ⟨bs, 25, none⟩ = some (.int .u64 (s.now 5)) := (hr.cell (i := 25) (by omega)).trans (congrArg some (hf 5 (by omega))); have n6 : wS.cell? ⟨bs, 26, none⟩ = some (.int .u64 (s.now 6)) := (hr.cell (i := 26) (by omega)).trans (congrArg some (hf 6 (by omega))); have n7 : wS.cell? ⟨bs, 27, none⟩ = some (.int .u64 (s.now 7)) := (hr.cell (i := 27) (by omega)).trans (congrArg some (hf 7 (by omega))); have n8 : wS.cell? ⟨bs, 28, none⟩ = some (.int .u64 (s.now 8)) := (hr.cell (i := 28) (by omega)).trans (congrArg some (hf 8 (by omega))); have n9 : wS.cell? ⟨bs, 29, none⟩ = some (.int .u64 (s.now 9)) := (hr.cell (i := 29) (by omega)).trans (congrArg some (hf 9 (by omega))); have n10 : wS.cell? ⟨bs, 30, none⟩ = some (.int .u64 (s.now 10)) := (hr.cell (i := 30) (by omega)).trans (congrArg some (hf 10 (by omega))); have n11 : wS.cell? ⟨bs, 31, none⟩ = some (.int .u64 (s.now 11)) := (hr.cell (i := 31) (by omega)).trans (congrArg some (hf 11 (by omega))); have n12 : wS.cell? ⟨bs, 32, none⟩ = some (.int .u64 (s.now 12)) := (hr.cell (i := 32) (by omega)).trans (congrArg some (hf 12 (by omega))); have n13 : wS.cell? ⟨bs, 33, none⟩ = some (.int .u64 (s.now 13)) := (hr.cell (i := 33) (by omega)).trans (congrArg some (hf 13 (by omega))); have n14 : wS.cell? ⟨bs, 34, none⟩ = some (.int .u64 (s.now 14)) := (hr.cell (i := 34) (by omega)).trans (congrArg some (hf 14 (by omega))); have n15 : wS.cell? ⟨bs, 35, none⟩ = some (.int .u64 (s.now 15)) := (hr.cell (i := 35) (by omega)).trans (congrArg some (hf 15 (by omega))); have o0 : wS.cell? ⟨bs, 4, none⟩ = some (.int .u64 (s.old 0)) := (hr.cell (i := 4) (by omega)).trans (congrArg some (hf2 0 (by omega))); have o1 : wS.cell? ⟨bs, 5, none⟩ = some (.int .u64 (s.old 1)) := (hr.cell (i := 5) (by omega)).trans (congrArg some (hf2 1 (by omega))); have o2 : wS.cell? ⟨bs, 6, none⟩ = some (.int .u64 (s.old 2)) := (hr.cell (i := 6) (by omega)).trans (congrArg some (hf2 2 (by omega))); have o3 : wS.cell? ⟨bs, 7, none⟩ = some (.int .u64 (s.old 3)) := (hr.cell (i := 7) (by omega)).trans (congrArg some (hf2 3 (by omega))); have o4 : wS.cell? ⟨bs, 8, none⟩ = some (.int .u64 (s.old 4)) := (hr.cell (i := 8) (by omega)).trans (congrArg some (hf2 4 (by omega))); have o5 : wS.cell? ⟨bs, 9, none⟩ = some (.int .u64 (s.old 5)) := (hr.cell (i := 9) (by omega)).trans (congrArg some (hf2 5 (by omega))); have o6 : wS.cell? ⟨bs, 10, none⟩ = some (.int .u64 (s.old 6)) := (hr.cell (i := 10) (by omega)).trans (congrArg some (hf2 6 (by omega))); have o7 : wS.cell? ⟨bs, 11, none⟩ = some (.int .u64 (s.old 7)) := (hr.cell (i := 11) (by omega)).trans (congrArg some (hf2 7 (by omega))); have o8 : wS.cell? ⟨bs, 12, none⟩ = some (.int .u64 (s.old 8)) := (hr.cell (i := 12) (by omega)).trans (congrArg some (hf2 8 (by omega))); have o9 : wS.cell? ⟨bs, 13, none⟩ = some (.int .u64 (s.old 9)) := (hr.cell (i := 13) (by omega)).trans (congrArg some (hf2 9 (by omega))); have o10 : wS.cell? ⟨bs, 14, none⟩ = some (.int .u64 (s.old 10)) := (hr.cell (i := 14) (by omega)).trans (congrArg some (hf2 10 (by omega))); have o11 : wS.cell? ⟨bs, 15, none⟩ = some (.int .u64 (s.old 11)) := (hr.cell (i := 15) (by omega)).trans (congrArg some (hf2 11 (by omega))); have o12 : wS.cell? ⟨bs, 16, none⟩ = some (.int .u64 (s.old 12)) := (hr.cell (i := 16) (by omega)).trans (congrArg some (hf2 12 (by omega))); have o13 : wS.cell? ⟨bs, 17, none⟩ = some (.int .u64 (s.old 13)) := (hr.cell (i := 17) (by omega)).trans (congrArg some (hf2 13 (by omega))); have o14 : wS.cell? ⟨bs, 18, none⟩ = some (.int .u64 (s.old 14)) := (hr.cell (i := 18) (by omega)).trans (congrArg some (hf2 14 (by omega))); have o15 : wS.cell? ⟨bs, 19, none⟩ = some (.int .u64 (s.old 15)) := (hr.cell (i := 19) (by omega)).trans (congrArg some (hf2 15 (by omega))); go_simp; exact rfl)); simp only [Act.put, List.setIfInBounds_toArray, List.set_cons_zero, List.set_cons_succ])
  iterate 3 (refine seq_take (v := ?_) rfl (by rfl) ?_ ?_; rotate_left; (focus (intro wS hS; go_simp; exact rfl)); simp only [Act.put, List.setIfInBounds_toArray, List.set_cons_zero, List.set_cons_succ])
  (refine seq_take (v := ?_) rfl (by rfl) ?_ ?_; rotate_left; (focus (intro wS hS; obtain ⟨f, hr, hf, hf2⟩ := hS; have n0 : wS.cell? ⟨bs, 20, none⟩ = some (.int .u64 (s.now 0)) := (hr.cell (i := 20) (by omega)).trans (congrArg some (hf 0 (by omega))); have n1 : wS.cell? ⟨bs, 21, none⟩ = some (.int .u64 (s.now 1)) := (hr.cell (i := 21) (by omega)).trans (congrArg some (hf 1 (by omega))); have n2 : wS.cell? ⟨bs, 22, none⟩ = some (.int .u64 (s.now 2)) := (hr.cell (i := 22) (by omega)).trans (congrArg some (hf 2 (by omega))); have n3 : wS.cell? ⟨bs, 23, none⟩ = some (.int .u64 (s.now 3)) := (hr.cell (i := 23) (by omega)).trans (congrArg some (hf 3 (by omega))); have n4 : wS.cell? ⟨bs, 24, none⟩ = some (.int .u64 (s.now 4)) := (hr.cell (i := 24) (by omega)).trans (congrArg some (hf 4 (by omega))); have n5 : wS.cell? ⟨bs, 25, none⟩ = some (.int .u64 (s.now 5)) := (hr.cell (i := 25) (by omega)).trans (congrArg some (hf 5 (by omega))); have n6 : wS.cell? ⟨bs, 26, none⟩ = some (.int .u64 (s.now 6)) := (hr.cell (i := 26) (by omega)).trans (congrArg some (hf 6 (by omega))); have n7 : wS.cell? ⟨bs, 27, none⟩ = some (.int .u64 (s.now 7)) := (hr.cell (i := 27) (by omega)).trans (congrArg some (hf 7 (by omega))); have n8 : wS.cell? ⟨bs, 28, none⟩ = some (.int .u64 (s.now 8)) := (hr.cell (i := 28) (by omega)).trans (congrArg some (hf 8 (by omega))); have n9 : wS.cell? ⟨bs, 29, none⟩ = some (.int .u64 (s.now 9)) := (hr.cell (i := 29) (by omega)).trans (congrArg some (hf 9 (by omega))); have n10 : wS.cell? ⟨bs, 30, none⟩ = some (.int .u64 (s.now 10)) := (hr.cell (i := 30) (by omega)).trans (congrArg some (hf 10 (by omega))); have n11 : wS.cell? ⟨bs, 31, none⟩ = some (.int .u64 (s.now 11)) := (hr.cell (i := 31) (by omega)).trans (congrArg some (hf 11 (by omega))); have n12 : wS.cell? ⟨bs, 32, none⟩ = some (.int .u64 (s.now 12)) := (hr.cell (i := 32) (by omega)).trans (congrArg some (hf 12 (by omega))); have n13 : wS.cell? ⟨bs, 33, none⟩ = some (.int .u64 (s.now 13)) := (hr.cell (i := 33) (by omega)).trans (congrArg some (hf 13 (by omega))); have n14 : wS.cell? ⟨bs, 34, none⟩ = some (.int .u64 (s.now 14)) := (hr.cell (i := 34) (by omega)).trans (congrArg some (hf 14 (by omega))); have n15 : wS.cell? ⟨bs, 35, none⟩ = some (.int .u64 (s.now 15)) := (hr.cell (i := 35) (by omega)).trans (congrArg some (hf 15 (by omega))); have o0 : wS.cell? ⟨bs, 4, none⟩ = some (.int .u64 (s.old 0)) := (hr.cell (i := 4) (by omega)).trans (congrArg some (hf2 0 (by omega))); have o1 : wS.cell? ⟨bs, 5, none⟩ = some (.int .u64 (s.old 1)) := (hr.cell (i := 5) (by omega)).trans (congrArg some (hf2 1 (by omega))); have o2 : wS.cell? ⟨bs, 6, none⟩ = some (.int .u64 (s.old 2)) := (hr.cell (i := 6) (by omega)).trans (congrArg some (hf2 2 (by omega))); have o3 : wS.cell? ⟨bs, 7, none⟩ = some (.int .u64 (s.old 3)) := (hr.cell (i := 7) (by omega)).trans (congrArg some (hf2 3 (by omega))); have o4 : wS.cell? ⟨bs, 8, none⟩ = some (.int .u64 (s.old 4)) := (hr.cell (i := 8) (by omega)).trans (congrArg some (hf2 4 (by omega))); have o5 : wS.cell? ⟨bs, 9, none⟩ = some (.int .u64 (s.old 5)) := (hr.cell (i := 9) (by omega)).trans (congrArg some (hf2 5 (by omega))); have o6 : wS.cell? ⟨bs, 10, none⟩ = some (.int .u64 (s.old 6)) := (hr.cell (i := 10) (by omega)).trans (congrArg some (hf2 6 (by omega))); have o7 : wS.cell? ⟨bs, 11, none⟩ = some (.int .u64 (s.old 7)) := (hr.cell (i := 11) (by omega)).trans (congrArg some (hf2 7 (by omega))); have o8 : wS.cell? ⟨bs, 12, none⟩ = some (.int .u64 (s.old 8)) := (hr.cell (i := 12) (by omega)).trans (congrArg some (hf2 8 (by omega))); have o9 : wS.cell? ⟨bs, 13, none⟩ = some (.int .u64 (s.old 9)) := (hr.cell (i := 13) (by omega)).trans (congrArg some (hf2 9 (by omega))); have o10 : wS.cell? ⟨bs, 14, none⟩ = some (.int .u64 (s.old 10)) := (hr.cell (i := 14) (by omega)).trans (congrArg some (hf2 10 (by omega))); have o11 : wS.cell? ⟨bs, 15, none⟩ = some (.int .u64 (s.old 11)) := (hr.cell (i := 15) (by omega)).trans (congrArg some (hf2 11 (by omega))); have o12 : wS.cell? ⟨bs, 16, none⟩ = some (.int .u64 (s.old 12)) := (hr.cell (i := 16) (by omega)).trans (congrArg some (hf2 12 (by omega))); have o13 : wS.cell? ⟨bs, 17, none⟩ = some (.int .u64 (s.old 13)) := (hr.cell (i := 17) (by omega)).trans (congrArg some (hf2 13 (by omega))); have o14 : wS.cell? ⟨bs, 18, none⟩ = some (.int .u64 (s.old 14)) := (hr.cell (i := 18) (by omega)).trans (congrArg some (hf2 14 (by omega))); have o15 : wS.cell? ⟨bs, 19, none⟩ = some (.int .u64 (s.old 15)) := (hr.cell (i := 19) (by omega)).trans (congrArg some (hf2 15 (by omega))); go_simp; exact rfl)); simp only [Act.put, List.setIfInBounds_toArray, List.set_cons_zero, List.set_cons_succ])
  (refine seq_take (v := ?_) rfl (by rfl) ?_ ?_; rotate_left; (focus (intro wS hS; go_simp; exact rfl)); simp only [Act.put, List.setIfInBounds_toArray, List.set_cons_zero, List.set_cons_succ])
  (refine seq_take (v := ?_) rfl (by rfl) ?_ ?_; rotate_left; (focus (intro wS hS; go_simp; exact rfl)); simp only [Act.put, List.setIfInBounds_toArray, List.set_cons_zero, List.set_cons_succ])
  refine seq_nil ?_
  clear HEQ
  go_upto_region 9 with fail
  rw [← HW9.out]
  clear HW9 d1 d55 q1 q55
  go_wp2_with fail
  refine HNN.out.mono ?_
  rintro e w8 ⟨rfl, hQ⟩
  have HQ := hide hQ
  clear hQ HNN
  go_wp2
  ((try simp only [Exit.inBlock, Exit.then]); refine bodyPost_ret (results_none rfl _ _ _) rfl ?_)
  exact ⟨rfl, ScQ.trans (fun k hk => Or.inl hk) ((HK1.out.mono (fun k hk => ⟨hk.1, hk.2.1⟩)).trans (HK2.out.mono (fun k hk => hk.2.1))) HQ.out⟩
end Go.Proofs.Ytlfingcmekifkaa
