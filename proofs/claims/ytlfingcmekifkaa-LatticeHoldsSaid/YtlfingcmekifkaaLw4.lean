/- A lattice's scans (package snap): a collect is whole (held). -/
import Derived.Test.YtlfingcmekifkaaBun13
namespace Go.Proofs.Ytlfingcmekifkaa
open Go.RowKit

theorem zero_ints (w : World) : (zeroValue 24).run Try.prog w = .ok (.slice none 0 0) w := by kernel_rfl
set_option maxRecDepth 100000 in
theorem trace_any (pw pt : Nat) (a : Int) (m : Int → Option Value) (w : World) (h1 : w.cell? ⟨pw, 34, none⟩ = some (.map (some pt))) (h2 : IMap w pt .i64 m) :
    Calls Try.prog 131 #[.pointer (some ⟨pw, 0, none⟩), .int .i64 a] w fun e w' => e = .returned ((m a).getD (.slice none 0 0)) ∧ w' = w := by
  have H2 := hide h2
  clear h2
  go_enter Try.func131, Try.ntmps131
  go_wp2_with (at_lookup; refine wpList_lookup_imap _ rfl _ _ _ rfl 3 24 .i64 Try.underlying95 Try.underlying3 (.slice none 0 0) (zero_ints _) pt m rfl H2.out a rfl ?_)
  go_ret
  exact ⟨rfl, rfl⟩
def nwL (s : Sc) : List Value := [.int .u64 (s.now 0), .int .u64 (s.now 1), .int .u64 (s.now 2), .int .u64 (s.now 3), .int .u64 (s.now 4), .int .u64 (s.now 5), .int .u64 (s.now 6), .int .u64 (s.now 7), .int .u64 (s.now 8), .int .u64 (s.now 9), .int .u64 (s.now 10), .int .u64 (s.now 11), .int .u64 (s.now 12), .int .u64 (s.now 13), .int .u64 (s.now 14), .int .u64 (s.now 15)]
theorem nwL_get (s : Sc) (u : Value) : ∀ i, i < 16 → ((nwL s)[i]?).getD u = .int .u64 (s.now i)
  | 0, _ => rfl
  | 1, _ => rfl
  | 2, _ => rfl
  | 3, _ => rfl
  | 4, _ => rfl
  | 5, _ => rfl
  | 6, _ => rfl
  | 7, _ => rfl
  | 8, _ => rfl
  | 9, _ => rfl
  | 10, _ => rfl
  | 11, _ => rfl
  | 12, _ => rfl
  | 13, _ => rfl
  | 14, _ => rfl
  | 15, _ => rfl
  | j + 16, h => absurd h (by omega)
theorem copy_row {w : World} {bs ps : Nat} {lv : Value} {s : Sc} {f : Nat → Value} (hr : w.rowIs bs 199 56 f) (hf : ScF f ps lv s) : ∃ f', (w.setCells bs 4 (nwL s)).rowIs bs 199 56 f' ∧ ScF f' ps lv { s with old := s.now } := by
  have h := rowIs_setCells (nwL s) 4 hr
  have hl : (nwL s).length = 16 := rfl
  rw [hl] at h
  refine ⟨_, h, ?_⟩
  obtain ⟨b0, b1, b2, b3, b4, b5, b6, b7, b8, b9, b10⟩ := hf
  refine ⟨?_, ?_, ?_, ?_, fun i hi => ?_, fun i hi => ?_, ?_, fun i hi => ?_, ?_, ?_, ?_⟩
  all_goals first | (rw [if_neg (by omega)]; first | assumption | exact b5 i hi | exact b7 i hi) | skip
  rw [if_pos (by omega), show 4 + i - 4 = i by omega]
  exact nwL_get s _ i hi
set_option maxRecDepth 100000 in
set_option maxHeartbeats 2000000 in
theorem scHeld0 {w : World} {bs ps pw : Nat} {lv : Value} {s : Sc} {N : Int} (h : ScAt w bs ps lv s) (hN : w.cell? ⟨pw, 1, none⟩ = some (.int .i64 N)) (hp : pw < w.heap.size ∧ pw ≠ bs) (hr0 : s.rounds = 0) :
    Calls Try.prog 129 #[.pointer (some ⟨bs, 0, none⟩), .pointer (some ⟨pw, 0, none⟩)] w fun e w' => e = .returned (.tuple #[]) ∧ ScAt w' bs ps lv { s with at_ := 0, rounds := 1, old := s.now, last := N } ∧ Keep (fun k => k < w.heap.size ∧ k ≠ bs) w w' := by
  obtain ⟨hpz, hpb⟩ := hp
  have hpb2 : ¬ bs = pw := fun e => hpb e.symm
  obtain ⟨f0, hrow0, hf0⟩ := h.row
  have c2 := hrow0.cell (i := 2) (by omega)
  have c3 := hrow0.cell (i := 3) (by omega)
  rw [hf0.rounds, hr0] at c3
  have g2 := hrow0.frozen 2
  have g3 := hrow0.frozen 3
  have zb := hrow0.lt
  have h1 := (h.set (s' := { s with at_ := 0 }) 2 (.int .i64 0) rfl (fun f hf => by obtain ⟨b0, b1, b2, b3, b4, b5, b6, b7, b8, b9, b10⟩ := hf; refine ⟨?_, ?_, ?_, ?_, fun i hi => ?_, fun i hi => ?_, ?_, fun i hi => ?_, ?_, ?_, ?_⟩; all_goals first | (rw [if_neg (by omega)]; first | assumption | exact b4 i hi | exact b5 i hi | exact b7 i hi) | (rw [if_pos (by omega)]; rfl) | (rw [if_pos (by omega)]))).set (s' := { s with at_ := 0, rounds := 1 }) 3 (.int .i64 1) rfl (fun f hf => by obtain ⟨b0, b1, b2, b3, b4, b5, b6, b7, b8, b9, b10⟩ := hf; refine ⟨?_, ?_, ?_, ?_, fun i hi => ?_, fun i hi => ?_, ?_, fun i hi => ?_, ?_, ?_, ?_⟩; all_goals first | (rw [if_neg (by omega)]; first | assumption | exact b4 i hi | exact b5 i hi | exact b7 i hi) | (rw [if_pos (by omega)]; rfl) | (rw [if_pos (by omega)]))
  obtain ⟨w1, hw1⟩ : ∃ X, X = (w.setCell ⟨bs, 2, none⟩ (.int .i64 0)).setCell ⟨bs, 3, none⟩ (.int .i64 1) := ⟨_, rfl⟩
  rw [← hw1] at h1
  have hK1 : Keep (fun k => k < w.heap.size ∧ k ≠ bs) w w1 := by rw [hw1]; exact ((Keep.refl _ w).setCell (fun hh => hh.2 rfl) _).setCell (fun hh => hh.2 rfl) _
  obtain ⟨f, hrow, hf⟩ := h1.row
  have hnw : ∀ i, i < 16 → f (20 + i) = .int .u64 (s.now i) := hf.now
  have e3 := hrow.cell (i := 3) (by omega)
  rw [hf.rounds] at e3
  have eN := (hK1.cell (p := ⟨pw, 1, none⟩) ⟨hpz, hpb⟩).trans hN
  have zp1 := Nat.lt_of_lt_of_le hpz hK1.size
  have zb1 := hrow.lt
  have HW1 := hide hw1
  have HR := hide hrow
  have HNW := hide hnw
  have HF := hide hf
  have HK1 := hide hK1
  have HS1 := hide h1
  clear h hw1 hK1 h1 hf hrow hnw hf0 hrow0
  go_enter Try.func129, Try.ntmps129
  go_upto_region 6 with fail
  rw [← HW1.out]
  clear HW1 c2 c3 g2 g3 hN zb
  go_wp2
  have hrow := HR.out
  have hnw := HNW.out
  refine wp_region_seq (fun Y => (∃ f : Nat → Value, Y.rowIs bs 199 56 f ∧ ∀ i, i < 16 → f (20 + i) = .int .u64 (s.now i)) ∧ Y.cell? ⟨pw, 1, none⟩ = some (.int .i64 N)) (.take 0 <| .take 1 <| .take 2 <| .take 3 <| .take 4 <| .take 5 <| .take 6 <| .take 7 <| .take 8 <| .take 9 <| .take 10 <| .take 11 <| .run 12 <| .take 13 <| .take 14 <| .run 15 <| .done) (by kernel_rfl) (by kernel_rfl) (by kernel_rfl) (by refine ⟨⟨_, hrow, hnw⟩, ?_⟩; go_simp) ?_
  iterate 5 (refine seq_take (v := ?_) rfl (by rfl) ?_ ?_; rotate_left; (focus (intro wS hS; go_simp; exact rfl)); simp only [Act.put, List.setIfInBounds_toArray, List.set_cons_zero, List.set_cons_succ])
  (refine seq_take (v := ?_) rfl (by rfl) ?_ ?_; rotate_left; (focus (intro wS hS; obtain ⟨⟨f, hr, hf⟩, sN⟩ := hS; have n0 : wS.cell? ⟨bs, 20, none⟩ = some (.int .u64 (s.now 0)) := (hr.cell (i := 20) (by omega)).trans (congrArg some (hf 0 (by omega))); have n1 : wS.cell? ⟨bs, 21, none⟩ = some (.int .u64 (s.now 1)) := (hr.cell (i := 21) (by omega)).trans (congrArg some (hf 1 (by omega))); have n2 : wS.cell? ⟨bs, 22, none⟩ = some (.int .u64 (s.now 2)) := (hr.cell (i := 22) (by omega)).trans (congrArg some (hf 2 (by omega))); have n3 : wS.cell? ⟨bs, 23, none⟩ = some (.int .u64 (s.now 3)) := (hr.cell (i := 23) (by omega)).trans (congrArg some (hf 3 (by omega))); have n4 : wS.cell? ⟨bs, 24, none⟩ = some (.int .u64 (s.now 4)) := (hr.cell (i := 24) (by omega)).trans (congrArg some (hf 4 (by omega))); have n5 : wS.cell? ⟨bs, 25, none⟩ = some (.int .u64 (s.now 5)) := (hr.cell (i := 25) (by omega)).trans (congrArg some (hf 5 (by omega))); have n6 : wS.cell? ⟨bs, 26, none⟩ = some (.int .u64 (s.now 6)) := (hr.cell (i := 26) (by omega)).trans (congrArg some (hf 6 (by omega))); have n7 : wS.cell? ⟨bs, 27, none⟩ = some (.int .u64 (s.now 7)) := (hr.cell (i := 27) (by omega)).trans (congrArg some (hf 7 (by omega))); have n8 : wS.cell? ⟨bs, 28, none⟩ = some (.int .u64 (s.now 8)) := (hr.cell (i := 28) (by omega)).trans (congrArg some (hf 8 (by omega))); have n9 : wS.cell? ⟨bs, 29, none⟩ = some (.int .u64 (s.now 9)) := (hr.cell (i := 29) (by omega)).trans (congrArg some (hf 9 (by omega))); have n10 : wS.cell? ⟨bs, 30, none⟩ = some (.int .u64 (s.now 10)) := (hr.cell (i := 30) (by omega)).trans (congrArg some (hf 10 (by omega))); have n11 : wS.cell? ⟨bs, 31, none⟩ = some (.int .u64 (s.now 11)) := (hr.cell (i := 31) (by omega)).trans (congrArg some (hf 11 (by omega))); have n12 : wS.cell? ⟨bs, 32, none⟩ = some (.int .u64 (s.now 12)) := (hr.cell (i := 32) (by omega)).trans (congrArg some (hf 12 (by omega))); have n13 : wS.cell? ⟨bs, 33, none⟩ = some (.int .u64 (s.now 13)) := (hr.cell (i := 33) (by omega)).trans (congrArg some (hf 13 (by omega))); have n14 : wS.cell? ⟨bs, 34, none⟩ = some (.int .u64 (s.now 14)) := (hr.cell (i := 34) (by omega)).trans (congrArg some (hf 14 (by omega))); have n15 : wS.cell? ⟨bs, 35, none⟩ = some (.int .u64 (s.now 15)) := (hr.cell (i := 35) (by omega)).trans (congrArg some (hf 15 (by omega))); go_simp; exact rfl)); simp only [Act.put, List.setIfInBounds_toArray, List.set_cons_zero, List.set_cons_succ])
  iterate 3 (refine seq_take (v := ?_) rfl (by rfl) ?_ ?_; rotate_left; (focus (intro wS hS; go_simp; exact rfl)); simp only [Act.put, List.setIfInBounds_toArray, List.set_cons_zero, List.set_cons_succ])
  (refine seq_take (v := ?_) rfl (by rfl) ?_ ?_; rotate_left; (focus (intro wS hS; obtain ⟨⟨f, hr, hf⟩, sN⟩ := hS; have n0 : wS.cell? ⟨bs, 20, none⟩ = some (.int .u64 (s.now 0)) := (hr.cell (i := 20) (by omega)).trans (congrArg some (hf 0 (by omega))); have n1 : wS.cell? ⟨bs, 21, none⟩ = some (.int .u64 (s.now 1)) := (hr.cell (i := 21) (by omega)).trans (congrArg some (hf 1 (by omega))); have n2 : wS.cell? ⟨bs, 22, none⟩ = some (.int .u64 (s.now 2)) := (hr.cell (i := 22) (by omega)).trans (congrArg some (hf 2 (by omega))); have n3 : wS.cell? ⟨bs, 23, none⟩ = some (.int .u64 (s.now 3)) := (hr.cell (i := 23) (by omega)).trans (congrArg some (hf 3 (by omega))); have n4 : wS.cell? ⟨bs, 24, none⟩ = some (.int .u64 (s.now 4)) := (hr.cell (i := 24) (by omega)).trans (congrArg some (hf 4 (by omega))); have n5 : wS.cell? ⟨bs, 25, none⟩ = some (.int .u64 (s.now 5)) := (hr.cell (i := 25) (by omega)).trans (congrArg some (hf 5 (by omega))); have n6 : wS.cell? ⟨bs, 26, none⟩ = some (.int .u64 (s.now 6)) := (hr.cell (i := 26) (by omega)).trans (congrArg some (hf 6 (by omega))); have n7 : wS.cell? ⟨bs, 27, none⟩ = some (.int .u64 (s.now 7)) := (hr.cell (i := 27) (by omega)).trans (congrArg some (hf 7 (by omega))); have n8 : wS.cell? ⟨bs, 28, none⟩ = some (.int .u64 (s.now 8)) := (hr.cell (i := 28) (by omega)).trans (congrArg some (hf 8 (by omega))); have n9 : wS.cell? ⟨bs, 29, none⟩ = some (.int .u64 (s.now 9)) := (hr.cell (i := 29) (by omega)).trans (congrArg some (hf 9 (by omega))); have n10 : wS.cell? ⟨bs, 30, none⟩ = some (.int .u64 (s.now 10)) := (hr.cell (i := 30) (by omega)).trans (congrArg some (hf 10 (by omega))); have n11 : wS.cell? ⟨bs, 31, none⟩ = some (.int .u64 (s.now 11)) := (hr.cell (i := 31) (by omega)).trans (congrArg some (hf 11 (by omega))); have n12 : wS.cell? ⟨bs, 32, none⟩ = some (.int .u64 (s.now 12)) := (hr.cell (i := 32) (by omega)).trans (congrArg some (hf 12 (by omega))); have n13 : wS.cell? ⟨bs, 33, none⟩ = some (.int .u64 (s.now 13)) := (hr.cell (i := 33) (by omega)).trans (congrArg some (hf 13 (by omega))); have n14 : wS.cell? ⟨bs, 34, none⟩ = some (.int .u64 (s.now 14)) := (hr.cell (i := 34) (by omega)).trans (congrArg some (hf 14 (by omega))); have n15 : wS.cell? ⟨bs, 35, none⟩ = some (.int .u64 (s.now 15)) := (hr.cell (i := 35) (by omega)).trans (congrArg some (hf 15 (by omega))); go_simp; exact rfl)); simp only [Act.put, List.setIfInBounds_toArray, List.set_cons_zero, List.set_cons_succ])
  iterate 2 (refine seq_take (v := ?_) rfl (by rfl) ?_ ?_; rotate_left; (focus (intro wS hS; go_simp; exact rfl)); simp only [Act.put, List.setIfInBounds_toArray, List.set_cons_zero, List.set_cons_succ])
  refine seq_run rfl (by rfl) (fun K hK => ?_)
  have hrd : (w1.drew).rowIs bs 199 56 f := hrow
  refine wp_store_mid 197 (.tmp 77) (.tmp 71) rfl bs 4 ([.int .u64 (s.now 0), .int .u64 (s.now 1), .int .u64 (s.now 2), .int .u64 (s.now 3), .int .u64 (s.now 4), .int .u64 (s.now 5), .int .u64 (s.now 6), .int .u64 (s.now 7), .int .u64 (s.now 8), .int .u64 (s.now 9), .int .u64 (s.now 10), .int .u64 (s.now 11), .int .u64 (s.now 12), .int .u64 (s.now 13), .int .u64 (s.now 14), .int .u64 (s.now 15)] : List Value).toArray (by rfl) (by rfl) (fun j hj => ⟨by rw [hrd.cell (by have : j < 16 := hj; omega)]; rfl, hrd.frozen _⟩) (by kernel_rfl) (by kernel_rfl) ?_
  obtain ⟨f2, hr2, hf2⟩ := copy_row hrd HF.out
  obtain ⟨w2, hw2⟩ : ∃ X, X = (w1.drew).setCells bs 4 (nwL s) := ⟨_, rfl⟩
  have eN2 : w2.cell? ⟨pw, 1, none⟩ = some (.int .i64 N) := by
    rw [hw2, World.cell?_setCells_out bs _ _ _ _ (fun h1 _ => absurd h1 hpb)]
    exact eN
  have hk2 : Keep (fun k => k ≠ bs) w1 w2 := by rw [hw2]; exact keep_setCells (by simp) _ _ ((Keep.refl _ w1).drew)
  refine hK _ _ (show (∃ f : Nat → Value, World.rowIs ((w1.drew).setCells bs 4 (nwL s)) bs 199 56 f ∧ ∀ i, i < 16 → f (20 + i) = .int .u64 (s.now i)) ∧ World.cell? ((w1.drew).setCells bs 4 (nwL s)) ⟨pw, 1, none⟩ = some (.int .i64 N) from ⟨⟨f2, hr2, hf2.now⟩, by rw [← hw2]; exact eN2⟩) ?_
  clear hK K
  dsimp only [Act.put]
  rw [show (w1.drew).setCells bs 4 ([.int .u64 (s.now 0), .int .u64 (s.now 1), .int .u64 (s.now 2), .int .u64 (s.now 3), .int .u64 (s.now 4), .int .u64 (s.now 5), .int .u64 (s.now 6), .int .u64 (s.now 7), .int .u64 (s.now 8), .int .u64 (s.now 9), .int .u64 (s.now 10), .int .u64 (s.now 11), .int .u64 (s.now 12), .int .u64 (s.now 13), .int .u64 (s.now 14), .int .u64 (s.now 15)] : List Value) = w2 from hw2.symm]
  replace hr2 : w2.rowIs bs 199 56 f2 := by rw [hw2]; exact hr2
  have c36 := hr2.cell (i := 36) (by omega)
  have g36 := hr2.frozen 36
  have zb2 := hr2.lt
  have HR2 := hide hr2
  have HF2 := hide hf2
  have HK2 := hide hk2
  clear hr2 hf2 hk2 hw2 hrd hrow hnw
  iterate 2 (refine seq_take (v := ?_) rfl (by rfl) ?_ ?_; rotate_left; (focus (intro wS hS; go_simp; exact rfl)); simp only [Act.put, List.setIfInBounds_toArray, List.set_cons_zero, List.set_cons_succ])
  (refine seq_run rfl (by rfl) (fun K hK => ?_); go_simp)
  refine hK _ _ ?_ ?_
  · refine ⟨⟨_, HR2.out.set 36 _, fun i hi => ?_⟩, ?_⟩
    · show (if 20 + i = 36 then _ else f2 (20 + i)) = _
      rw [if_neg (by omega)]
      exact HF2.out.now i hi
    · go_simp
  clear hK K
  refine seq_nil ?_
  have hS3 := (ScAt.mk (s := { s with at_ := 0, rounds := 1, old := s.now }) ⟨f2, HR2.out, HF2.out⟩ (owns_keepV HS1.out.lst HK2.out (fun k hk e => HS1.out.ne (e ▸ hk))) HS1.out.ne).set (s' := { s with at_ := 0, rounds := 1, old := s.now, last := N }) 36 (.int .i64 N) rfl (fun f hf => by obtain ⟨b0, b1, b2, b3, b4, b5, b6, b7, b8, b9, b10⟩ := hf; refine ⟨?_, ?_, ?_, ?_, fun i hi => ?_, fun i hi => ?_, ?_, fun i hi => ?_, ?_, ?_, ?_⟩; all_goals first | (rw [if_neg (by omega)]; first | assumption | exact b4 i hi | exact b5 i hi | exact b7 i hi) | (rw [if_pos (by omega)]; rfl) | (rw [if_pos (by omega)]))
  have hK3 := (HK1.out.trans (HK2.out.mono fun k hk => hk.2)).setCell (p := ⟨bs, 36, none⟩) (fun hh => hh.2 rfl) (.int .i64 N)
  have HS3 := hide hS3
  have HK3 := hide hK3
  clear hS3 hK3
  go_wp2
  go_end0
  exact ⟨rfl, HS3.out, HK3.out⟩
end Go.Proofs.Ytlfingcmekifkaa
