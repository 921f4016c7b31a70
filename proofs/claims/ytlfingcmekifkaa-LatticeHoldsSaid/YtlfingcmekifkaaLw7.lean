/- A lattice's scans (package snap): a collect is held against the one ahead, differs, and nobody is found. -/
import Derived.Test.YtlfingcmekifkaaLw5
namespace Go.Proofs.Ytlfingcmekifkaa
open Go.RowKit

set_option maxRecDepth 100000 in
set_option maxHeartbeats 4000000 in
theorem scHeld3 {w : World} {bs ps pw n : Nat} {lv : Value} {s : Sc} {N : Int} (h : ScAt w bs ps lv s) (hn : w.cell? ⟨ps, 1, none⟩ = some (.int .i64 (n : Int))) (hp : ps < w.heap.size ∧ ps ≠ bs) (hn16 : n ≤ 16) (hzero : ∀ i, n ≤ i → s.old i = 0 ∧ s.now i = 0) (hr1 : 1 ≤ s.rounds ∧ s.rounds ≤ 1000000) (he : eqN n s = false) (hf2 : fndN n s = none)
    (hN : w.cell? ⟨pw, 1, none⟩ = some (.int .i64 N)) (hpw : pw < w.heap.size ∧ pw ≠ bs) :
    Calls Try.prog 129 #[.pointer (some ⟨bs, 0, none⟩), .pointer (some ⟨pw, 0, none⟩)] w fun e w' => e = .returned (.tuple #[]) ∧ ScAt w' bs ps lv { s with at_ := 0, rounds := s.rounds + 1, diff := markN n s, old := s.now, last := N } ∧ Keep (fun k => k < w.heap.size ∧ k ≠ bs) w w' := by
  obtain ⟨f0, hrow0, hf0⟩ := h.row
  have c2 := hrow0.cell (i := 2) (by omega)
  have c3 := hrow0.cell (i := 3) (by omega)
  rw [hf0.rounds] at c3
  have g2 := hrow0.frozen 2
  have g3 := hrow0.frozen 3
  have zb := hrow0.lt
  have h1 := (h.set (s' := { s with at_ := 0 }) 2 (.int .i64 0) rfl (fun f hf => by obtain ⟨b0, b1, b2, b3, b4, b5, b6, b7, b8, b9, b10⟩ := hf; refine ⟨?_, ?_, ?_, ?_, fun i hi => ?_, fun i hi => ?_, ?_, fun i hi => ?_, ?_, ?_, ?_⟩; all_goals first | (rw [if_neg (by omega)]; first | assumption | exact b4 i hi | exact b5 i hi | exact b7 i hi) | (rw [if_pos (by omega)]; rfl) | (rw [if_pos (by omega)]))).set (s' := { s with at_ := 0, rounds := s.rounds + 1 }) 3 (.int .i64 ((s.rounds : Int) + 1)) rfl (fun f hf => by obtain ⟨b0, b1, b2, b3, b4, b5, b6, b7, b8, b9, b10⟩ := hf; refine ⟨?_, ?_, ?_, ?_, fun i hi => ?_, fun i hi => ?_, ?_, fun i hi => ?_, ?_, ?_, ?_⟩; all_goals first | (rw [if_neg (by omega)]; first | assumption | exact b4 i hi | exact b5 i hi | exact b7 i hi) | (rw [if_pos (by omega)]; push_cast; rfl) | (rw [if_pos (by omega)]))
  obtain ⟨w1, hw1⟩ : ∃ X, X = (w.setCell ⟨bs, 2, none⟩ (.int .i64 0)).setCell ⟨bs, 3, none⟩ (.int .i64 ((s.rounds : Int) + 1)) := ⟨_, rfl⟩
  rw [← hw1] at h1
  have hK1 : Keep (fun k => k < w.heap.size ∧ k ≠ bs) w w1 := by rw [hw1]; exact ((Keep.refl _ w).setCell (fun hh => hh.2 rfl) _).setCell (fun hh => hh.2 rfl) _
  obtain ⟨f, hrow, hf⟩ := h1.row
  have kr : IntKind.i64.wrap ((s.rounds : Int) + 1) = (s.rounds : Int) + 1 := wrap_i64 (by omega) (by omega)
  obtain ⟨R, hR⟩ : ∃ R : Int, (s.rounds : Int) + 1 = R := ⟨_, rfl⟩
  have dR : (R == 1) = false := by simp; omega
  have e3 := hrow.cell (i := 3) (by omega)
  have e6 := hrow.cell (i := 36) (by omega)
  rw [hf.rounds] at e3
  rw [hf.last] at e6
  have e3 : w1.cell? ⟨bs, 3, none⟩ = some (.int .i64 R) := by rw [e3, ← hR]; rfl
  have e6 : w1.cell? ⟨bs, 36, none⟩ = some (.int .i64 s.last) := e6
  have HEQ : ∀ wS : World, (Op.equalIn 10000 197 (.agg #[.int .u64 (s.old 0), .int .u64 (s.old 1), .int .u64 (s.old 2), .int .u64 (s.old 3), .int .u64 (s.old 4), .int .u64 (s.old 5), .int .u64 (s.old 6), .int .u64 (s.old 7), .int .u64 (s.old 8), .int .u64 (s.old 9), .int .u64 (s.old 10), .int .u64 (s.old 11), .int .u64 (s.old 12), .int .u64 (s.old 13), .int .u64 (s.old 14), .int .u64 (s.old 15)]) (.agg #[.int .u64 (s.now 0), .int .u64 (s.now 1), .int .u64 (s.now 2), .int .u64 (s.now 3), .int .u64 (s.now 4), .int .u64 (s.now 5), .int .u64 (s.now 6), .int .u64 (s.now 7), .int .u64 (s.now 8), .int .u64 (s.now 9), .int .u64 (s.now 10), .int .u64 (s.now 11), .int .u64 (s.now 12), .int .u64 (s.now 13), .int .u64 (s.now 14), .int .u64 (s.now 15)])).run Try.prog wS = .ok (eqN n s) wS := fun wS => by rw [← row16_eq hn16 hzero]; exact eq_cells s.old s.now wS
  have HW1 := hide hw1
  have HROW := hide hrow
  have HF := hide hf
  have HK1 := hide hK1
  have HS1 := hide h1
  have HRR := hide hR
  rw [he] at HEQ
  obtain ⟨hpz, hpb⟩ := hp
  obtain ⟨hwz, hwb⟩ := hpw
  have hpb2 : ¬ bs = pw := fun e => hwb e.symm
  have hdr : Keep (fun _ => True) w1 w1.drew := (Keep.refl (fun _ => True) w1).drew
  have hn1 : w1.drew.cell? ⟨ps, 1, none⟩ = some (.int .i64 (n : Int)) := (hK1.cell (p := ⟨ps, 1, none⟩) ⟨hpz, hpb⟩).trans hn
  have ND := scDiffers (n := n) (h1.keep hdr trivial (fun _ _ => trivial)) hn1 ⟨Nat.lt_of_lt_of_le hpz hK1.size, hpb⟩ hn16
  rw [show difV n { s with at_ := 0, rounds := s.rounds + 1 } = (0, false, markN n s) from by show difV n s = _; unfold difV; rw [hf2]] at ND
  dsimp only at ND
  have HND := hide ND
  have HN := hide hN
  clear h hf0 hrow0 h1 hK1 hrow hf hw1 hn he hn1 hpz hpb hzero hR ND hdr hN
  go_enter Try.func129, Try.ntmps129
  go_upto_region 6 with fail
  rw [← HW1.out]
  clear HW1 c2 c3 g2 g3 zb
  go_wp2
  refine wp_region_seq (fun Y => ∃ f : Nat → Value, Y.rowIs bs 199 56 f ∧ (∀ i, i < 16 → f (20 + i) = .int .u64 (s.now i)) ∧ ∀ i, i < 16 → f (4 + i) = .int .u64 (s.old i)) (.take 0 <| .take 1 <| .take 2 <| .take 3 <| .take 4 <| .take 5 <| .take 6 <| .take 7 <| .take 8 <| .take 9 <| .done) (by kernel_rfl) (by kernel_rfl) (by kernel_rfl) (by exact ⟨f, HROW.out, HF.out.now, HF.out.old⟩) ?_
  iterate 3 (refine seq_take (v := ?_) rfl (by rfl) ?_ ?_; rotate_left; (focus (intro wS hS; go_simp; exact rfl)); simp only [Act.put, List.setIfInBounds_toArray, List.set_cons_zero, List.set_cons_succ])
  (refine seq_take (v := ?_) rfl (by rfl) ?_ ?_; rotate_left; (focus (intro wS hS; obtain ⟨f, hr, hf, hf2⟩ := hS; have n0 : wS.cell? ⟨bs, 20, none⟩ = some (.int .u64 (s.now 0)) := (hr.cell (i := 20) (by omega)).trans (congrArg some (hf 0 (by omega))); have n1 : wS.cell? ⟨bs, 21, none⟩ = some (.int .u64 (s.now 1)) := (hr.cell (i := 21) (by omega)).trans (congrArg some (hf 1 (by omega))); have n2 : wS.cell? ⟨bs, 22, none⟩ = some (.int .u64 (s.now 2)) := (hr.cell (i := 22) (by omega)).trans (congrArg some (hf 2 (by omega))); have n3 : wS.cell? ⟨bs, 23, none⟩ = some (.int .u64 (s.now 3)) := (hr.cell (i := 23) (by omega)).trans (congrArg some (hf 3 (by omega))); have n4 : wS.cell? ⟨bs, 24, none⟩ = some (.int .u64 (s.now 4)) := (hr.cell (i := 24) (by omega)).trans (congrArg some (hf 4 (by omega))); have n5 : wS.cell? ⟨bs, 25, none⟩ = some (.int .u64 (s.now 5)) := (hr.cell (i := 25) (by omega)).trans (congrArg some (hf 5 (by omega))); have n6 : wS.cell? ⟨bs, 26, none⟩ = some (.int .u64 (s.now 6)) := (hr.cell (i := 26) (by omega)).trans (congrArg some (hf 6 (by omega))); have n7 : wS.cell? ⟨bs, 27, none⟩ = some (.int .u64 (s.now 7)) := (hr.cell (i := 27) (by omega)).trans (congrArg some (hf 7 (by omega))); have n8 : wS.cell? ⟨bs, 28, none⟩ = some (.int .u64 (s.now 8)) := (hr.cell (i := 28) (by omega)).trans (congrArg some (hf 8 (by omega))); have n9 : wS.cell? ⟨bs, 29, none⟩ = some (.int .u64 (s.now 9)) := (hr.cell (i := 29) (by omega)).trans (congrArg some (hf 9 (by omega))); have n10 : wS.cell? ⟨bs, 30, none⟩ = some (.int .u64 (s.now 10)) := (hr.cell (i := 30) (by omega)).trans (congrArg some (hf 10 (by omega))); have n11 : wS.cell? ⟨bs, 31, none⟩ = some (.int .u64 (s.now 11)) := (hr.cell (i := 31) (by omega)).trans (congrArg some (hf 11 (by omega))); have n12 : wS.cell? ⟨bs, 32, none⟩ = some (.int .u64 (s.now 12)) := (hr.cell (i := 32) (by omega)).trans (congrArg some (hf 12 (by omega))); have n13 : wS.cell? ⟨bs, 33, none⟩ = some (.int .u64 (s.now 13)) := (hr.cell (i := 33) (by omega)).trans (congrArg some (hf 13 (by omega))); have n14 : wS.cell? ⟨bs, 34, none⟩ = some (.int .u64 (s.now 14)) := (hr.cell (i := 34) (by omega)).trans (congrArg some (hf 14 (by omega))); have n15 : wS.cell? ⟨bs, 35, none⟩ = some (.int .u64 (s.now 15)) := (hr.cell (i := 35) (by omega)).trans (congrArg some (hf 15 (by omega))); have o0 : wS.cell? ⟨bs, 4, none⟩ = some (.int .u64 (s.old 0)) := (hr.cell (i := 4) (by omega)).trans (congrArg some (hf2 0 (by omega))); have o1 : wS.cell? ⟨bs, 5, none⟩ = some (.int .u64 (s.old 1)) := (hr.cell (i := 5) (by omega)).trans (congrArg some (hf2 1 (by omega))); have o2 : wS.cell? ⟨bs, 6, none⟩ = some (.int .u64 (s.old 2)) := (hr.cell (i := 6) (by omega)).trans (congrArg some (hf2 2 (by omega))); have o3 : wS.cell? ⟨bs, 7, none⟩ = some (.int .u64 (s.old 3)) := (hr.cell (i := 7) (by omega)).trans (congrArg some (hf2 3 (by omega))); have o4 : wS.cell? ⟨bs, 8, none⟩ = some (.int .u64 (s.old 4)) := (hr.cell (i := 8) (by omega)).trans (congrArg some (hf2 4 (by omega))); have o5 : wS.cell? ⟨bs, 9, none⟩ = some (.int .u64 (s.old 5)) := (hr.cell (i := 9) (by omega)).trans (congrArg some (hf2 5 (by omega))); have o6 : wS.cell? ⟨bs, 10, none⟩ = some (.int .u64 (s.old 6)) := (hr.cell (i := 10) (by omega)).trans (congrArg some (hf2 6 (by omega))); have o7 : wS.cell? ⟨bs, 11, none⟩ = some (.int .u64 (s.old 7)) := (hr.cell (i := 11) (by omega)).trans (congrArg some (hf2 7 (by omega))); have o8 : wS.cell? ⟨bs, 12, none⟩ = some (.int .u64 (s.old 8)) := (hr.cell (i := 12) (by omega)).trans (congrArg some (hf2 8 (by omega))); have o9 : wS.cell? ⟨bs, 13, none⟩ = some (.int .u64 (s.old 9)) := (hr.cell (i := 13) (by omega)).trans (congrArg some (hf2 9 (by omega))); have o10 : wS.cell? ⟨bs, 14, none⟩ = some (.int .u64 (s.old 10)) := (hr.cell (i := 14) (by omega)).trans (congrArg some (hf2 10 (by omega))); have o11 : wS.cell? ⟨bs, 15, none⟩ = some (.int .u64 (s.old 11)) := (hr.cell (i := 15) (by omega)).trans (congrArg some (hf2 11 (by omega))); have o12 : wS.cell? ⟨bs, 16, none⟩ = some (.int .u64 (s.old 12)) := (hr.cell (i := 16) (by omega)).trans (congrArg some (hf2 12 (by omega))); have o13 : wS.cell? ⟨bs, 17, none⟩ = some (.int .u64 (s.old 13)) := (hr.cell (i := 17) (by omega)).trans (congrArg some (hf2 13 (by omega))); have o14 : wS.cell? ⟨bs, 18, none⟩ = some (.int .u64 (s.old 14)) := (hr.cell (i := 18) (by omega)).trans (congrArg some (hf2 14 (by omega))); have o15 : wS.cell? ⟨bs, 19, none⟩ = some (.int .u64 (s.old 15)) := (hr.cell (i := 19) (by omega)).trans (congrArg some (hf2 15 (by omega))); go_simp; exact rfl)); simp only [Act.put, List.setIfInBounds_toArray, List.set_cons_zero, List.set_cons_succ])
  iterate 3 (refine seq_take (v := ?_) rfl (by rfl) ?_ ?_; rotate_left; (focus (intro wS hS; go_simp; exact rfl)); simp only [Act.put, List.setIfInBounds_toArray, List.set_cons_zero, List.set_cons_succ])
  (refine seq_take (v := ?_) rfl (by rfl) ?_ ?_; rotate_left; (focus (intro wS hS; obtain ⟨f, hr, hf, hf2⟩ := hS; have n0 : wS.cell? ⟨bs, 20, none⟩ = some (.int .u64 (s.now 0)) := (hr.cell (i := 20) (by omega)).trans (congrArg some (hf 0 (by omega))); have n1 : wS.cell? ⟨bs, 21, none⟩ = some (.int .u64 (s.now 1)) := (hr.cell (i := 21) (by omega)).trans (congrArg some (hf 1 (by omega))); have n2 : wS.cell? ⟨bs, 22, none⟩ = some (.int .u64 (s.now 2)) := (hr.cell (i := 22) (by omega)).trans (congrArg some (hf 2 (by omega))); have n3 : wS.cell? ⟨bs, 23, none⟩ = some (.int .u64 (s.now 3)) := (hr.cell (i := 23) (by omega)).trans (congrArg some (hf 3 (by omega))); have n4 : wS.cell? ⟨bs, 24, none⟩ = some (.int .u64 (s.now 4)) := (hr.cell (i := 24) (by omega)).trans (congrArg some (hf 4 (by omega))); have n5 : wS.cell? ⟨bs, 25, none⟩ = some (.int .u64 (s.now 5)) := (hr.cell (i := 25) (by omega)).trans (congrArg some (hf 5 (by omega))); have n6 : wS.cell? ⟨bs, 26, none⟩ = some (.int .u64 (s.now 6)) := (hr.cell (i := 26) (by omega)).trans (congrArg some (hf 6 (by omega))); have n7 : wS.cell? ⟨bs, 27, none⟩ = some (.int .u64 (s.now 7)) := (hr.cell (i := 27) (by omega)).trans (congrArg some (hf 7 (by omega))); have n8 : wS.cell? ⟨bs, 28, none⟩ = some (.int .u64 (s.now 8)) := (hr.cell (i := 28) (by omega)).trans (congrArg some (hf 8 (by omega))); have n9 : wS.cell? ⟨bs, 29, none⟩ = some (.int .u64 (s.now 9)) := (hr.cell (i := 29) (by omega)).trans (congrArg some (hf 9 (by omega))); have n10 : wS.cell? ⟨bs, 30, none⟩ = some (.int .u64 (s.now 10)) := (hr.cell (i := 30) (by omega)).trans (congrArg some (hf 10 (by omega))); have n11 : wS.cell? ⟨bs, 31, none⟩ = some (.int .u64 (s.now 11)) := (hr.cell (i := 31) (by omega)).trans (congrArg some (hf 11 (by omega))); have n12 : wS.cell? ⟨bs, 32, none⟩ = some (.int .u64 (s.now 12)) := (hr.cell (i := 32) (by omega)).trans (congrArg some (hf 12 (by omega))); have n13 : wS.cell? ⟨bs, 33, none⟩ = some (.int .u64 (s.now 13)) := (hr.cell (i := 33) (by omega)).trans (congrArg some (hf 13 (by omega))); have n14 : wS.cell? ⟨bs, 34, none⟩ = some (.int .u64 (s.now 14)) := (hr.cell (i := 34) (by omega)).trans (congrArg some (hf 14 (by omega))); have n15 : wS.cell? ⟨bs, 35, none⟩ = some (.int .u64 (s.now 15)) := (hr.cell (i := 35) (by omega)).trans (congrArg some (hf 15 (by omega))); have o0 : wS.cell? ⟨bs, 4, none⟩ = some (.int .u64 (s.old 0)) := (hr.cell (i := 4) (by omega)).trans (congrArg some (hf2 0 (by omega))); have o1 : wS.cell? ⟨bs, 5, none⟩ = some (.int .u64 (s.old 1)) := (hr.cell (i := 5) (by omega)).trans (congrArg some (hf2 1 (by omega))); have o2 : wS.cell? ⟨bs, 6, none⟩ = some (.int .u64 (s.old 2)) := (hr.cell (i := 6) (by omega)).trans (congrArg some (hf2 2 (by omega))); have o3 : wS.cell? ⟨bs, 7, none⟩ = some (.int .u64 (s.old 3)) := (hr.cell (i := 7) (by omega)).trans (congrArg some (hf2 3 (by omega))); have o4 : wS.cell? ⟨bs, 8, none⟩ = some (.int .u64 (s.old 4)) := (hr.cell (i := 8) (by omega)).trans (congrArg some (hf2 4 (by omega))); have o5 : wS.cell? ⟨bs, 9, none⟩ = some (.int .u64 (s.old 5)) := (hr.cell (i := 9) (by omega)).trans (congrArg some (hf2 5 (by omega))); have o6 : wS.cell? ⟨bs, 10, none⟩ = some (.int .u64 (s.old 6)) := (hr.cell (i := 10) (by omega)).trans (congrArg some (hf2 6 (by omega))); have o7 : wS.cell? ⟨bs, 11, none⟩ = some (.int .u64 (s.old 7)) := (hr.cell (i := 11) (by omega)).trans (congrArg some (hf2 7 (by omega))); have o8 : wS.cell? ⟨bs, 12, none⟩ = some (.int .u64 (s.old 8)) := (hr.cell (i := 12) (by omega)).trans (congrArg some (hf2 8 (by omega))); have o9 : wS.cell? ⟨bs, 13, none⟩ = some (.int .u64 (s.old 9)) := (hr.cell (i := 13) (by omega)).trans (congrArg some (hf2 9 (by omega))); have o10 : wS.cell? ⟨bs, 14, none⟩ = some (.int .u64 (s.old 10)) := (hr.cell (i := 14) (by omega)).trans (congrArg some (hf2 10 (by omega))); have o11 : wS.cell? ⟨bs, 15, none⟩ = some (.int .u64 (s.old 11)) := (hr.cell (i := 15) (by omega)).trans (congrArg some (hf2 11 (by omega))); have o12 : wS.cell? ⟨bs, 16, none⟩ = some (.int .u64 (s.old 12)) := (hr.cell (i := 16) (by omega)).trans (congrArg some (hf2 12 (by omega))); have o13 : wS.cell? ⟨bs, 17, none⟩ = some (.int .u64 (s.old 13)) := (hr.cell (i := 17) (by omega)).trans (congrArg some (hf2 13 (by omega))); have o14 : wS.cell? ⟨bs, 18, none⟩ = some (.int .u64 (s.old 14)) := (hr.cell (i := 18) (by omega)).trans (congrArg some (hf2 14 (by omega))); have o15 : wS.cell? ⟨bs, 19, none⟩ = some (.int .u64 (s.old 15)) := (hr.cell (i := 19) (by omega)).trans (congrArg some (hf2 15 (by omega))); go_simp; exact rfl)); simp only [Act.put, List.setIfInBounds_toArray, List.set_cons_zero, List.set_cons_succ])
  (refine seq_take (v := ?_) rfl (by rfl) ?_ ?_; rotate_left; (focus (intro wS hS; go_simp; exact rfl)); simp only [Act.put, List.setIfInBounds_toArray, List.set_cons_zero, List.set_cons_succ])
  (refine seq_take (v := ?_) rfl (by rfl) ?_ ?_; rotate_left; (focus (intro wS hS; go_simp; exact rfl)); simp only [Act.put, List.setIfInBounds_toArray, List.set_cons_zero, List.set_cons_succ])
  refine seq_nil ?_
  clear HEQ
  go_upto_region 2 with fail
  go_wp2_with fail
  refine HND.out.mono ?_
  rintro e w3 ⟨rfl, hS3, hk3⟩
  have HS3 := hide hS3
  have HK3 := hide hk3
  clear hS3 hk3 HND
  obtain ⟨f, hrow, hf3⟩ := HS3.out.row
  have hnw : ∀ i, i < 16 → f (20 + i) = .int .u64 (s.now i) := hf3.now
  have eN : w3.cell? ⟨pw, 1, none⟩ = some (.int .i64 N) := ((HK1.out.drew.trans (HK3.out.mono (fun k hk => ⟨Nat.lt_of_lt_of_le hk.1 HK1.out.size, hk.2⟩))).cell (p := ⟨pw, 1, none⟩) ⟨hwz, hwb⟩).trans HN.out
  replace HF := hide hf3
  have zp3 : pw < w3.heap.size := Nat.lt_of_lt_of_le (Nat.lt_of_lt_of_le hwz HK1.out.size) HK3.out.size
  have zb3 := hrow.lt
  have HROW3 := hide hrow
  have HNW := hide hnw
  replace hpb := hwb
  clear hrow hnw hf3 HROW HS1 HRR
  go_upto_region 10 with fail
  have hrow := HROW3.out
  have hnw := HNW.out
  refine wp_region_seq (fun Y => (∃ f : Nat → Value, Y.rowIs bs 199 56 f ∧ ∀ i, i < 16 → f (20 + i) = .int .u64 (s.now i)) ∧ Y.cell? ⟨pw, 1, none⟩ = some (.int .i64 N)) (.take 0 <| .take 1 <| .take 2 <| .take 3 <| .take 4 <| .take 5 <| .take 6 <| .take 7 <| .take 8 <| .take 9 <| .take 10 <| .take 11 <| .run 12 <| .take 13 <| .take 14 <| .run 15 <| .done) (by kernel_rfl) (by kernel_rfl) (by kernel_rfl) (by refine ⟨⟨_, hrow, hnw⟩, ?_⟩; go_simp) ?_
  iterate 5 (refine seq_take (v := ?_) rfl (by rfl) ?_ ?_; rotate_left; (focus (intro wS hS; go_simp; exact rfl)); simp only [Act.put, List.setIfInBounds_toArray, List.set_cons_zero, List.set_cons_succ])
  (refine seq_take (v := ?_) rfl (by rfl) ?_ ?_; rotate_left; (focus (intro wS hS; obtain ⟨⟨f, hr, hf⟩, sN⟩ := hS; have n0 : wS.cell? ⟨bs, 20, none⟩ = some (.int .u64 (s.now 0)) := (hr.cell (i := 20) (by omega)).trans (congrArg some (hf 0 (by omega))); have n1 : wS.cell? ⟨bs, 21, none⟩ = some (.int .u64 (s.now 1)) := (hr.cell (i := 21) (by omega)).trans (congrArg some (hf 1 (by omega))); have n2 : wS.cell? ⟨bs, 22, none⟩ = some (.int .u64 (s.now 2)) := (hr.cell (i := 22) (by omega)).trans (congrArg some (hf 2 (by omega))); have n3 : wS.cell? ⟨bs, 23, none⟩ = some (.int .u64 (s.now 3)) := (hr.cell (i := 23) (by omega)).trans (congrArg some (hf 3 (by omega))); have n4 : wS.cell? ⟨bs, 24, none⟩ = some (.int .u64 (s.now 4)) := (hr.cell (i := 24) (by omega)).trans (congrArg some (hf 4 (by omega))); have n5 : wS.cell? ⟨bs, 25, none⟩ = some (.int .u64 (s.now 5)) := (hr.cell (i := 25) (by omega)).trans (congrArg some (hf 5 (by omega))); have n6 : wS.cell? ⟨bs, 26, none⟩ = some (.int .u64 (s.now 6)) := (hr.cell (i := 26) (by omega)).trans (congrArg some (hf 6 (by omega))); have n7 : wS.cell? ⟨bs, 27, none⟩ = some (.int .u64 (s.now 7)) := (hr.cell (i := 27) (by omega)).trans (congrArg some (hf 7 (by omega))); have n8 : wS.cell? ⟨bs, 28, none⟩ = some (.int .u64 (s.now 8)) := (hr.cell (i := 28) (by omega)).trans (congrArg some (hf 8 (by omega))); have n9 : wS.cell? ⟨bs, 29, none⟩ = some (.int .u64 (s.now 9)) := (hr.cell (i := 29) (by omega)).trans (congrArg some (hf 9 (by omega))); have n10 : wS.cell? ⟨bs, 30, none⟩ = some (.int .u64 (s.now 10)) := (hr.cell (i := 30) (by omega)).trans (congrArg some (hf 10 (by omega))); have n11 : wS.cell? ⟨bs, 31, none⟩ = some (.int .u64 (s.now 11)) := (hr.cell (i := 31) (by omega)).trans (congrArg some (hf 11 (by omega))); have n12 : wS.cell? ⟨bs, 32, none⟩ = some (.int .u64 (s.now 12)) := (hr.cell (i := 32) (by omega)).trans (congrArg some (hf 12 (by omega))); have n13 : wS.cell? ⟨bs, 33, none⟩ = some (.int .u64 (s.now 13)) := (hr.cell (i := 33) (by omega)).trans (congrArg some (hf 13 (by omega))); have n14 : wS.cell? ⟨bs, 34, none⟩ = some (.int .u64 (s.now 14)) := (hr.cell (i := 34) (by omega)).trans (congrArg some (hf 14 (by omega))); have n15 : wS.cell? ⟨bs, 35, none⟩ = some (.int .u64 (s.now 15)) := (hr.cell (i := 35) (by omega)).trans (congrArg some (hf 15 (by omega))); go_simp; exact rfl)); simp only [Act.put, List.setIfInBounds_toArray, List.set_cons_zero, List.set_cons_succ])
  iterate 3 (refine seq_take (v := ?_) rfl (by rfl) ?_ ?_; rotate_left; (focus (intro wS hS; go_simp; exact rfl)); simp only [Act.put, List.setIfInBounds_toArray, List.set_cons_zero, List.set_cons_succ])
  (refine seq_take (v := ?_) rfl (by rfl) ?_ ?_; rotate_left; (focus (intro wS hS; obtain ⟨⟨f, hr, hf⟩, sN⟩ := hS; have n0 : wS.cell? ⟨bs, 20, none⟩ = some (.int .u64 (s.now 0)) := (hr.cell (i := 20) (by omega)).trans (congrArg some (hf 0 (by omega))); have n1 : wS.cell? ⟨bs, 21, none⟩ = some (.int .u64 (s.now 1)) := (hr.cell (i := 21) (by omega)).trans (congrArg some (hf 1 (by omega))); have n2 : wS.cell? ⟨bs, 22, none⟩ = some (.int .u64 (s.now 2)) := (hr.cell (i := 22) (by omega)).trans (congrArg some (hf 2 (by omega))); have n3 : wS.cell? ⟨bs, 23, none⟩ = some (.int .u64 (s.now 3)) := (hr.cell (i := 23) (by omega)).trans (congrArg some (hf 3 (by omega))); have n4 : wS.cell? ⟨bs, 24, none⟩ = some (.int .u64 (s.now 4)) := (hr.cell (i := 24) (by omega)).trans (congrArg some (hf 4 (by omega))); have n5 : wS.cell? ⟨bs, 25, none⟩ = some (.int .u64 (s.now 5)) := (hr.cell (i := 25) (by omega)).trans (congrArg some (hf 5 (by omega))); have n6 : wS.cell? ⟨bs, 26, none⟩ = some (.int .u64 (s.now 6)) := (hr.cell (i := 26) (by omega)).trans (congrArg some (hf 6 (by omega))); have n7 : wS.cell? ⟨bs, 27, none⟩ = some (.int .u64 (s.now 7)) := (hr.cell (i := 27) (by omega)).trans (congrArg some (hf 7 (by omega))); have n8 : wS.cell? ⟨bs, 28, none⟩ = some (.int .u64 (s.now 8)) := (hr.cell (i := 28) (by omega)).trans (congrArg some (hf 8 (by omega))); have n9 : wS.cell? ⟨bs, 29, none⟩ = some (.int .u64 (s.now 9)) := (hr.cell (i := 29) (by omega)).trans (congrArg some (hf 9 (by omega))); have n10 : wS.cell? ⟨bs, 30, none⟩ = some (.int .u64 (s.now 10)) := (hr.cell (i := 30) (by omega)).trans (congrArg some (hf 10 (by omega))); have n11 : wS.cell? ⟨bs, 31, none⟩ = some (.int .u64 (s.now 11)) := (hr.cell (i := 31) (by omega)).trans (congrArg some (hf 11 (by omega))); have n12 : wS.cell? ⟨bs, 32, none⟩ = some (.int .u64 (s.now 12)) := (hr.cell (i := 32) (by omega)).trans (congrArg some (hf 12 (by omega))); have n13 : wS.cell? ⟨bs, 33, none⟩ = some (.int .u64 (s.now 13)) := (hr.cell (i := 33) (by omega)).trans (congrArg some (hf 13 (by omega))); have n14 : wS.cell? ⟨bs, 34, none⟩ = some (.int .u64 (s.now 14)) := (hr.cell (i := 34) (by omega)).trans (congrArg some (hf 14 (by omega))); have n15 : wS.cell? ⟨bs, 35, none⟩ = some (.int .u64 (s.now 15)) := (hr.cell (i := 35) (by omega)).trans (congrArg some (hf 15 (by omega))); go_simp; exact rfl)); simp only [Act.put, List.setIfInBounds_toArray, List.set_cons_zero, List.set_cons_succ])
  iterate 2 (refine seq_take (v := ?_) rfl (by rfl) ?_ ?_; rotate_left; (focus (intro wS hS; go_simp; exact rfl)); simp only [Act.put, List.setIfInBounds_toArray, List.set_cons_zero, List.set_cons_succ])
  refine seq_run rfl (by rfl) (fun K hK => ?_)
  have hrd : (w3.drew).rowIs bs 199 56 f := hrow
  refine wp_store_mid 197 (.tmp 77) (.tmp 71) rfl bs 4 ([.int .u64 (s.now 0), .int .u64 (s.now 1), .int .u64 (s.now 2), .int .u64 (s.now 3), .int .u64 (s.now 4), .int .u64 (s.now 5), .int .u64 (s.now 6), .int .u64 (s.now 7), .int .u64 (s.now 8), .int .u64 (s.now 9), .int .u64 (s.now 10), .int .u64 (s.now 11), .int .u64 (s.now 12), .int .u64 (s.now 13), .int .u64 (s.now 14), .int .u64 (s.now 15)] : List Value).toArray (by rfl) (by rfl) (fun j hj => ⟨by rw [hrd.cell (by have : j < 16 := hj; omega)]; rfl, hrd.frozen _⟩) (by kernel_rfl) (by kernel_rfl) ?_
  obtain ⟨f2, hr2, hf2⟩ := copy_row hrd HF.out
  obtain ⟨w2, hw2⟩ : ∃ X, X = (w3.drew).setCells bs 4 (nwL s) := ⟨_, rfl⟩
  have eN2 : w2.cell? ⟨pw, 1, none⟩ = some (.int .i64 N) := by
    rw [hw2, World.cell?_setCells_out bs _ _ _ _ (fun h1 _ => absurd h1 hpb)]
    exact eN
  have hk2 : Keep (fun k => k ≠ bs) w3 w2 := by rw [hw2]; exact keep_setCells (by simp) _ _ ((Keep.refl _ w3).drew)
  refine hK _ _ (show (∃ f : Nat → Value, World.rowIs ((w3.drew).setCells bs 4 (nwL s)) bs 199 56 f ∧ ∀ i, i < 16 → f (20 + i) = .int .u64 (s.now i)) ∧ World.cell? ((w3.drew).setCells bs 4 (nwL s)) ⟨pw, 1, none⟩ = some (.int .i64 N) from ⟨⟨f2, hr2, hf2.now⟩, by rw [← hw2]; exact eN2⟩) ?_
  clear hK K
  dsimp only [Act.put]
  rw [show (w3.drew).setCells bs 4 ([.int .u64 (s.now 0), .int .u64 (s.now 1), .int .u64 (s.now 2), .int .u64 (s.now 3), .int .u64 (s.now 4), .int .u64 (s.now 5), .int .u64 (s.now 6), .int .u64 (s.now 7), .int .u64 (s.now 8), .int .u64 (s.now 9), .int .u64 (s.now 10), .int .u64 (s.now 11), .int .u64 (s.now 12), .int .u64 (s.now 13), .int .u64 (s.now 14), .int .u64 (s.now 15)] : List Value) = w2 from hw2.symm]
  replace hr2 : w2.rowIs bs 199 56 f2 := by rw [hw2]; exact hr2
  have c36 := hr2.cell (i := 36) (by omega)
  have g36 := hr2.frozen 36
  have zb2 := hr2.lt
  have HR2 := hide hr2
  have HF2 := hide hf2
  have HK2 := hide hk2
  clear hr2 hf2 hk2 hw2 hrd hrow hnw
  iterate 2 (refine seq_take (v := ?_) rfl (by rfl) ?_ ?_; rotate_left; (focus (intro wS hS; go_simp; exact rfl)); simp only [Act.put, List.setIfInBounds_toArray, List.set_cons_zero, List.set_cons_succ])
  (refine seq_run rfl (by rfl) (fun K hK => ?_); go_simp)
  refine hK _ _ ?_ ?_
  · refine ⟨⟨_, HR2.out.set 36 _, fun i hi => ?_⟩, ?_⟩
    · show (if 20 + i = 36 then _ else f2 (20 + i)) = _
      rw [if_neg (by omega)]
      exact HF2.out.now i hi
    · go_simp
  clear hK K
  refine seq_nil ?_
  have hS4 := (ScAt.mk (s := { s with at_ := 0, rounds := s.rounds + 1, diff := markN n s, old := s.now }) ⟨f2, HR2.out, HF2.out⟩ (owns_keepV HS3.out.lst HK2.out (fun k hk e => HS3.out.ne (e ▸ hk))) HS3.out.ne).set (s' := { s with at_ := 0, rounds := s.rounds + 1, diff := markN n s, old := s.now, last := N }) 36 (.int .i64 N) rfl (fun f hf => by obtain ⟨b0, b1, b2, b3, b4, b5, b6, b7, b8, b9, b10⟩ := hf; refine ⟨?_, ?_, ?_, ?_, fun i hi => ?_, fun i hi => ?_, ?_, fun i hi => ?_, ?_, ?_, ?_⟩; all_goals first | (rw [if_neg (by omega)]; first | assumption | exact b4 i hi | exact b5 i hi | exact b7 i hi) | (rw [if_pos (by omega)]; rfl) | (rw [if_pos (by omega)]))
  have hK4 := ((HK1.out.drew.trans (HK3.out.mono (fun k hk => ⟨Nat.lt_of_lt_of_le hk.1 HK1.out.size, hk.2⟩))).trans (HK2.out.mono fun k hk => hk.2)).setCell (p := ⟨bs, 36, none⟩) (fun hh => hh.2 rfl) (.int .i64 N)
  have HS4 := hide hS4
  have HK4 := hide hK4
  clear hS4 hK4
  go_wp2
  go_end0
  exact ⟨rfl, HS4.out, HK4.out⟩
end Go.Proofs.Ytlfingcmekifkaa
