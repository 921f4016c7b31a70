/- A lattice's updates (package snap): update.Step when it publishes its record. -/
/- A lattice (package lattice): a giver's step, when its update is done. -/
import Derived.Test.YtlfingcmekifkaaBun18
import Derived.Test.YtlfingcmekifkaaBun17
namespace Go.Proofs.Ytlfingcmekifkaa
open Go.RowKit

/-- What a writer's last step leaves. -/
def UlQ (w : World) (bu ps t r u : Nat) (M : Int) (g : Nat → Value) (mp : Int → Option Value) (ad : Adr) (m' : Mm) (e : Ending) (w' : World) : Prop :=
  e = .returned (.bool true) ∧ (∃ v', IMap w' ad.pt .i64 (fun x => if x = (r : Int) then some v' else mp x) ∧ IOwn w' w.heap.size v' 1 [M]) ∧ MemAt w' ad.pm ad.px .nilFunc m' ∧
    w'.rowIs ps 122 19 (fun i => if i = 3 + t then .int .i64 ((u : Int) + 1) else g i) ∧ Keep (fun k => k < w.heap.size ∧ k ≠ bu ∧ k ≠ ps ∧ k ≠ ad.pt ∧ k ≠ ad.pm ∧ k ≠ ad.px) w w'
set_option maxRecDepth 100000 in
set_option maxHeartbeats 4000000 in
theorem upStep3 {w : World} {bu bs ps n t r u a : Nat} {v M : Int} {ad : Adr} {Mu : Nat → Prop} {lw : Lw} {g : Nat → Value} {mp : Int → Option Value} (hW : WL w ad Mu lw) (hb : w.heap[bu]? = some (.cells (upA bs t r a v true) 194 (0, 0))) (h34 : w.cell? ⟨ad.pw, 34, none⟩ = some (.map (some ad.pt))) (hmp : IMap w ad.pt .i64 mp) (hg : w.rowIs ps 122 19 g) (g0 : g 0 = .int .i64 0) (g1 : g 1 = .int .i64 (n : Int)) (gt : g (3 + t) = .int .i64 (u : Int)) (b0 : w.cell? ⟨bs, 0, none⟩ = some (.pointer (some ⟨ps, 0, none⟩))) (b55 : w.cell? ⟨bs, 55, none⟩ = some (.int .i64 M)) (zb : bs < w.heap.size)
    (hne : bu ≠ bs ∧ bu ≠ ad.pw ∧ bu ≠ ad.pm ∧ bu ≠ ad.px ∧ bu ≠ ad.pt ∧ bu ≠ ps) (hnb : bs ≠ ad.pm ∧ bs ≠ ad.px ∧ bs ≠ ad.pt ∧ bs ≠ ps) (hnp : ps ≠ ad.pm ∧ ps ≠ ad.px ∧ ps ≠ ad.pt ∧ ps ≠ ad.pw) (ha : n < a) (han : a ≤ 100) (ht : t < 16) (hu : u ≤ 100000) (hr : r ≤ 100000) :
    Calls Try.prog 133 #[.pointer (some ⟨bu, 0, none⟩), .pointer (some ⟨ad.pw, 0, none⟩)] w (UlQ w bu ps t r u M g mp ad (lw.mem.acc 1 (t : Int) (r : Int) 0)) := by
  have cw := hW.ptr
  obtain ⟨r1, r2, r3, r4, r5, r6⟩ := hne
  obtain ⟨q1, q2, q3, q4⟩ := hnb
  obtain ⟨p1, p2, p3, p4⟩ := hnp
  unfold upA at hb
  obtain ⟨c0, c1, c2, c3, c4, c5, zr⟩ := cells6 hb
  have f3 := frozen_of_row w bu 3 _ _ hb
  have zw := hW.lt.1
  have zt := hW.lt.2.2.2
  obtain ⟨n1, n2, n3, n4, n5, n6⟩ := hW.ne
  have g1c := hg.cell (i := 1) (by omega)
  rw [g1] at g1c
  have zp := hg.lt
  have m1 : ¬ ad.pw = bu := fun e => r2 e.symm
  have m3 : ¬ bs = bu := fun e => r1 e.symm
  have m4 : ¬ ps = bu := fun e => r6 e.symm
  have d0 : ((a : Int) == 0) = false := by rw [beq_eq_false_iff_ne]; omega
  have d0' : ¬ (a : Int) = 0 := by omega
  have d1 : decide ((a : Int) ≤ (n : Int)) = false := by rw [decide_eq_false_iff_not]; omega
  have d1' : ¬ (a : Int) ≤ (n : Int) := by omega
  have k1 : IntKind.i64.wrap ((a : Int) + 1) = (a : Int) + 1 := wrap_i64 (by omega) (by omega)
  have k2 : IntKind.i64.wrap (0 + (t : Int)) = (t : Int) := by rw [Int.zero_add]; exact wrap_i64 (by omega) (by omega)
  have k2' : IntKind.i64.wrap (t : Int) = (t : Int) := wrap_i64 (by omega) (by omega)
  have k3 : IntKind.u64.wrap (r : Int) = (r : Int) := by rw [IntKind.wrap_u64]; omega
  have k4 : IntKind.i64.wrap ((u : Int) + 1) = (u : Int) + 1 := wrap_i64 (by omega) (by omega)
  obtain ⟨wA, hA⟩ : ∃ X, X = ((w.setCell ⟨bu, 3, none⟩ (.int .i64 ((a : Int) + 1))).alloc (.cells #[.int .i64 M] 3)).drew := ⟨_, rfl⟩
  have hkA : Keep (fun k => k < w.heap.size ∧ k ≠ bu) w wA := by rw [hA]; exact (((Keep.refl _ w).setCell (fun hh => hh.2 rfl) _).alloc (fun k hk => by simpa using hk.1) _).drew
  have hgA : wA.heap[w.heap.size]? = some (.cells #[.int .i64 M] 3 (0, 0)) := by
    rw [hA]
    have := heap_alloc_new (w.setCell ⟨bu, 3, none⟩ (.int .i64 ((a : Int) + 1))) (.cells #[.int .i64 M] 3)
    rw [show (w.setCell ⟨bu, 3, none⟩ (.int .i64 ((a : Int) + 1))).heap.size = w.heap.size from by simp] at this
    exact this
  have hslA : SlI wA (.slice (some ⟨w.heap.size, 0, none⟩) 1 1) [M] := sl_of_owns (kk := .i64) (base := 0) (xs := [M]) ⟨rfl, Or.inr ⟨_, 1, _, rfl, Nat.zero_le _, hgA, Nat.le_refl _, by unfold maxLen; decide, rfl, rfl⟩⟩ (by unfold maxLen; simp)
  have hbA : wA.heap[bu]? = some (.cells (upA bs t r (a + 1) v true) 194 (0, 0)) := by
    rw [hA]
    refine (heap_alloc_old _ _ (by simpa using zr)).trans ((cells_set hb).trans ?_)
    unfold upA
    push_cast
    rfl
  have zA := hkA.size
  have hmA := hmp.of_block (hkA.block _ ⟨zt, Ne.symm r5⟩)
  have NN := noteW (V := (r : Int)) (l := [M]) ((hkA.cell (p := ⟨ad.pw, 34, none⟩) ⟨zw, m1⟩).trans h34) hmA hslA (by simp) (Nat.lt_of_lt_of_le zw zA) n3
  have HNN := hide NN
  have HA := hide hA
  have HKA := hide hkA
  have HBA := hide hbA
  have HW := hide hW
  have HB := hide hb
  have HMP := hide hmp
  have HG := hide hg
  have HG0 := hide g0
  have HGT := hide gt
  clear hW hb hmp hg g0 g1 gt ha han hr hu NN hA hkA hgA hslA hbA hmA
  go_enter Try.func133, Try.ntmps133
  go_upto_region 6 with fail
  refine wp_region_seq (fun Y => Y.cell? ⟨bu, 2, none⟩ = some (.int .i64 (r : Int)) ∧ Y.cell? ⟨bu, 0, none⟩ = some (.pointer (some ⟨bs, 0, none⟩)) ∧ Y.cell? ⟨bs, 55, none⟩ = some (.int .i64 M)) (.take 0 <| .take 1 <| .take 2 <| .take 3 <| .take 4 <| .take 5 <| .take 6 <| .take 7 <| .take 8 <| .take 9 <| .take 10 <| .take 11 <| .run 12 <| .run 13 <| .done) (by kernel_rfl) (by kernel_rfl) (by kernel_rfl) (by refine ⟨?_, ?_, ?_⟩ <;> go_simp) ?_
  iterate 12 (refine seq_take (v := ?_) rfl (by rfl) ?_ ?_; rotate_left; (focus (intro wS hS; obtain ⟨s0, s1, s2⟩ := hS; go_simp; exact rfl)); simp only [Act.put, List.setIfInBounds_toArray, List.set_cons_zero, List.set_cons_succ])
  (refine seq_run rfl (by rfl) (fun K hK => ?_); go_simp)
  refine hK _ _ (by refine ⟨?_, ?_, ?_⟩ <;> go_simp) ?_
  clear hK K
  (refine seq_run rfl (by rfl) (fun K hK => ?_); go_simp)
  rw [← HA.out]
  refine HNN.out.mono ?_
  rintro e w2 ⟨rfl, v', hm2, ho2, hk2⟩
  have hb2 := (hk2.block bu ⟨Nat.lt_of_lt_of_le zr zA, r5⟩).trans HBA.out
  have hkk : Keep (fun k => k < w.heap.size ∧ k ≠ bu ∧ k ≠ ad.pt) w w2 := (HKA.out.mono (fun k hk => ⟨hk.1, hk.2.1⟩)).trans (hk2.mono (fun k hk => ⟨Nat.lt_of_lt_of_le hk.1 zA, hk.2.2⟩))
  unfold upA at hb2
  obtain ⟨d0c, d1c, d2c, d3c, d4c, d5c, zr2⟩ := cells6 hb2
  have x55 := (hkk.cell (p := ⟨bs, 55, none⟩) ⟨zb, m3, q3⟩).trans b55
  have x0 := (hkk.cell (p := ⟨bs, 0, none⟩) ⟨zb, m3, q3⟩).trans b0
  refine hK _ _ ⟨d2c, d0c, x55⟩ ?_
  clear hK K
  refine seq_nil ?_
  have hg2 := rowIs_keep HG.out hkk ⟨zp, m4, p3⟩
  have y0 := hg2.cell (i := 0) (by omega)
  rw [HG0.out] at y0
  have yt := hg2.cell (i := 3 + t) (by omega)
  rw [HGT.out] at yt
  have xw := (hkk.cell (p := ⟨ad.pw, 0, none⟩) ⟨zw, m1, n3⟩).trans cw
  have zw2 := Nat.lt_of_lt_of_le zw hkk.size
  have zb2 := Nat.lt_of_lt_of_le zb hkk.size
  have zp2 := hg2.lt
  have zpm := HW.out.lt
  have hM2 : MemAt w2 ad.pm ad.px .nilFunc lw.mem := HW.out.mem.of_blocks (hkk.block _ ⟨zpm.2.1, Ne.symm r3, Ne.symm n4⟩) (hkk.block _ ⟨zpm.2.2.1, Ne.symm r4, Ne.symm n5⟩)
  have N3 := memWrite ad.pm ad.px (t : Int) (r : Int) lw.mem w2.drew (hM2.of_blocks rfl rfl)
  have HN3 := hide N3
  have HM2 := hide hm2
  have HO2 := hide ho2
  have HKK := hide hkk
  have HB2 := hide hb2
  have HG2 := hide hg2
  clear hm2 ho2 hk2 hkk hb2 hg2 N3 hM2 HNN c0 c1 c2 c3 c4 c5 f3 h34 g1c b0 b55 cw
  go_upto_region 7 with fail
  refine wp_region_seq (fun Y => Y.cell? ⟨ad.pw, 0, none⟩ = some (.pointer (some ⟨ad.pm, 0, none⟩)) ∧ Y.cell? ⟨bu, 0, none⟩ = some (.pointer (some ⟨bs, 0, none⟩)) ∧ Y.cell? ⟨bs, 0, none⟩ = some (.pointer (some ⟨ps, 0, none⟩)) ∧ Y.cell? ⟨ps, 0, none⟩ = some (.int .i64 0) ∧ Y.cell? ⟨bu, 1, none⟩ = some (.int .i64 (t : Int)) ∧ Y.cell? ⟨bu, 2, none⟩ = some (.int .i64 (r : Int))) (.take 0 <| .take 1 <| .take 2 <| .take 3 <| .take 4 <| .take 5 <| .take 6 <| .take 7 <| .take 8 <| .take 9 <| .take 10 <| .take 11 <| .take 12 <| .take 13 <| .take 14 <| .take 15 <| .take 16 <| .take 17 <| .take 18 <| .take 19 <| .take 20 <| .take 21 <| .take 22 <| .take 23 <| .run 24 <| .done) (by kernel_rfl) (by kernel_rfl) (by kernel_rfl) (by refine ⟨?_, ?_, ?_, ?_, ?_, ?_⟩ <;> go_simp) ?_
  iterate 24 (refine seq_take (v := ?_) rfl (by rfl) ?_ ?_; rotate_left; (focus (intro wS hS; obtain ⟨s0, s1, s2, s3, s4, s5⟩ := hS; go_simp; exact rfl)); simp only [Act.put, List.setIfInBounds_toArray, List.set_cons_zero, List.set_cons_succ])
  (refine seq_run rfl (by rfl) (fun K hK => ?_); go_simp)
  refine HN3.out.mono ?_
  rintro e w3 ⟨rfl, hm3, hk3⟩
  have hk3' : Keep (fun k => k ≠ ad.pm ∧ k ≠ ad.px ∧ k < w2.heap.size) w2 w3 := ((Keep.refl _ w2).drew).trans hk3
  have hb3 := (hk3'.block bu ⟨r3, r4, zr2⟩).trans HB2.out
  obtain ⟨e0c, e1c, e2c, e3c, e4c, e5c, zr3⟩ := cells6 hb3
  have hg3 := rowIs_keep HG2.out hk3' ⟨p1, p2, zp2⟩
  have v0 := hg3.cell (i := 0) (by omega)
  rw [HG0.out] at v0
  have vt := hg3.cell (i := 3 + t) (by omega)
  rw [HGT.out] at vt
  have u0 := (hk3'.cell (p := ⟨bs, 0, none⟩) ⟨q1, q2, zb2⟩).trans x0
  refine hK _ _ ⟨(hk3'.cell (p := ⟨ad.pw, 0, none⟩) ⟨n1, n2, zw2⟩).trans xw, e0c, u0, v0, e1c, e2c⟩ ?_
  clear hK K
  refine seq_nil ?_
  have ft := hg3.frozen (3 + t)
  have zp3 := hg3.lt
  have zb3 := Nat.lt_of_lt_of_le zb2 hk3'.size
  have ht' : (t : Int) < 16 := by omega
  have HM3 := hide hm3
  have HK3 := hide hk3'
  have HG3 := hide hg3
  clear hm3 hk3 hk3' hb3 hg3 HN3 d0c d1c d2c d3c d4c d5c x55 x0 y0 yt xw v0 e3c e4c e5c
  go_upto_region 8 with fail
  refine wp_region_seql (fun Y => Y.cell? ⟨bu, 0, none⟩ = some (.pointer (some ⟨bs, 0, none⟩)) ∧ Y.cell? ⟨bs, 0, none⟩ = some (.pointer (some ⟨ps, 0, none⟩)) ∧ Y.cell? ⟨bu, 1, none⟩ = some (.int .i64 (t : Int)) ∧ Y.cell? ⟨ps, 3 + t, none⟩ = some (.int .i64 (u : Int))) [19] (.take 0 <| .take 1 <| .take 2 <| .take 3 <| .take 4 <| .take 5 <| .take 6 <| .take 7 <| .take 8 <| .take 9 <| .take 10 <| .take 11 <| .take 12 <| .take 13 <| .take 14 <| .take 15 <| .take 16 <| .take 17 <| .take 18 <| .run 19 <| .done) (by kernel_rfl) (by kernel_rfl) (by kernel_rfl) (by refine ⟨?_, ?_, ?_, ?_⟩ <;> go_simp) ?_
  iterate 19 (refine seql_take (v := ?_) rfl (by rfl) ?_ ?_; rotate_left; (focus (intro wS hS; obtain ⟨s0, s1, s2, s3⟩ := hS; go_simp; exact rfl)); simp only [Act.put, List.setIfInBounds_toArray, List.set_cons_zero, List.set_cons_succ])
  refine seql_late rfl rfl (by rfl) (fun K hK => ?_)
  go_simp
  refine hK _ _ ?_
  clear hK K
  refine seql_nil ?_
  go_wp2
  go_ret
  have hk4 : Keep (fun k => k ≠ ps) w3 ((w3.setCell ⟨ps, 3 + t, none⟩ (.int .i64 ((u : Int) + 1))).drew) := ((Keep.refl _ w3).setCell (by simp) _).drew
  have z2 := HKK.out.size
  refine ⟨rfl, ⟨v', (HM2.out.of_block (HK3.out.block _ ⟨n4, n5, HM2.out.lt⟩)).of_block (hk4.block _ (Ne.symm p3)), ?_⟩, HM3.out.of_blocks (hk4.block _ (Ne.symm p1)) (hk4.block _ (Ne.symm p2)), HG3.out.set _ _, (HKK.out.mono (fun k hk => ⟨hk.1, hk.2.1, hk.2.2.2.1⟩)).trans ((HK3.out.mono (fun k hk => ⟨hk.2.2.2.2.1, hk.2.2.2.2.2, Nat.lt_of_lt_of_le hk.1 z2⟩)).trans (hk4.mono (fun k hk => hk.2.2.1)))⟩
  refine owns_base (owns_keepV (owns_keepV HO2.out HK3.out (fun k hk => ?_)) hk4 (fun k hk => ?_)) zA
  · have h := HO2.out.lt k hk
    have h1 : wA.heap.size ≤ k := h.1
    exact ⟨by omega, by omega, h.2⟩
  · have h := HO2.out.lt k hk
    have h1 : wA.heap.size ≤ k := h.1
    show k ≠ ps
    omega
end Go.Proofs.Ytlfingcmekifkaa

namespace Go.Proofs.Ytlfingcmekifkaa
open Go.RowKit

/-- What is left when a giver's update is done: it tells from now on. -/
def GuQ (w : World) (bg bu pe ps t r u : Nat) (v M : Int) (f g : Nat → Value) (mp : Int → Option Value) (ad : Adr) (m' : Mm) (e : Ending) (w' : World) : Prop :=
  e = .returned (.bool false) ∧ (∃ bt br bs v', (w.heap.size ≤ bt ∧ w.heap.size ≤ br ∧ w.heap.size ≤ bs) ∧ GtAt w' bg bt br bs pe ps (.slice none 0 0) t v Sc.new 0 ∧ IMap w' ad.pt .i64 (fun x => if x = (r : Int) then some v' else mp x) ∧ IOwn w' w.heap.size v' 1 [M] ∧ ∀ k, v'.ownBlock = some k → k ≠ bt ∧ k ≠ br ∧ k ≠ bs) ∧ MemAt w' ad.pm ad.px .nilFunc m' ∧
    w'.rowIs pe 92 17 (fun i => if i = 1 + t then .int .u64 v else f i) ∧ w'.rowIs ps 122 19 (fun i => if i = 3 + t then .int .i64 ((u : Int) + 1) else g i) ∧ Keep (fun k => k < w.heap.size ∧ k ≠ bg ∧ k ≠ bu ∧ k ≠ pe ∧ k ≠ ps ∧ k ≠ ad.pt ∧ k ≠ ad.pm ∧ k ≠ ad.px) w w'
set_option maxRecDepth 100000 in
set_option maxHeartbeats 4000000 in
theorem gvStepU {w : World} {bg bu pe ps t r u : Nat} {v M : Int} {f g : Nat → Value} {mp : Int → Option Value} {ad : Adr} {m' : Mm} (hb : w.heap[bg]? = some (.cells (gvA pe (.iface 192 (.pointer (some ⟨bu, 0, none⟩))) t v 0 false) 184 (0, 0))) (hc : Calls Try.prog 133 #[.pointer (some ⟨bu, 0, none⟩), .pointer (some ⟨ad.pw, 0, none⟩)] w (UlQ w bu ps t r u M g mp ad m'))
    (hf : w.rowIs pe 92 17 f) (f0 : f 0 = .pointer (some ⟨ps, 0, none⟩)) (ht : t < 16) (hne : bg ≠ bu ∧ bg ≠ pe ∧ bg ≠ ps ∧ bg ≠ ad.pt ∧ bg ≠ ad.pm ∧ bg ≠ ad.px) (hpe : pe ≠ bu ∧ pe ≠ ps ∧ pe ≠ ad.pt ∧ pe ≠ ad.pm ∧ pe ≠ ad.px) :
    Calls Try.prog 122 #[.pointer (some ⟨bg, 0, none⟩), .pointer (some ⟨ad.pw, 0, none⟩)] w (GuQ w bg bu pe ps t r u v M f g mp ad m') := by
  have HB := hide hb
  unfold gvA at hb
  have c1 := cell_of_row w bg 1 _ _ _ hb
  have zb := heap_lt hb
  have HC := hide hc
  have HF := hide hf
  have HF0 := hide f0
  have zp := hf.lt
  obtain ⟨n1, n2, n3, n4, n5, n6⟩ := hne
  obtain ⟨p1, p2, p3, p4, p5⟩ := hpe
  have ht' : (t : Int) < 16 := by omega
  have m1 : ¬ pe = bg := fun e => n2 e.symm
  clear hb hc hf f0
  go_enter Try.func122, Try.ntmps122
  go_wp2_with fail
  refine upon_disp1 (upDispStep bu) (by kernel_rfl) HC.out ?_
  rintro e w1 ⟨rfl, ⟨v', hi1, ho1⟩, hm1, hg1, hk1⟩
  refine ⟨_, rfl, ?_⟩
  simp only [Act.put, List.setIfInBounds_toArray, List.set_cons_zero, List.set_cons_succ]
  have hb1 := (hk1.block bg ⟨zb, n1, n3, n4, n5, n6⟩).trans HB.out
  have hf1 := rowIs_keep HF.out hk1 ⟨zp, p1, p2, p3, p4, p5⟩
  have HB1 := hide hb1
  unfold gvA at hb1
  have d1 := cell_of_row w1 bg 1 _ _ _ hb1
  have d5 := cell_of_row w1 bg 5 _ _ _ hb1
  have zb1 := heap_lt hb1
  have HI1 := hide hi1
  have HO1 := hide ho1
  have HM1 := hide hm1
  have HG1 := hide hg1
  have HK1 := hide hk1
  have HF1 := hide hf1
  clear hi1 ho1 hm1 hg1 hk1 hf1 hb1 c1 HC
  go_wp2_with fail
  refine upon_disp0 (upDispAnswer bu) (by kernel_rfl) (upAnswerW bu w1) ?_
  rintro e w2 ⟨rfl, hbl⟩
  refine ⟨_, rfl, ?_⟩
  simp only [Act.put, List.setIfInBounds_toArray, List.set_cons_zero, List.set_cons_succ]
  unfold laV
  have hb2 := (hbl.block bg zb1).trans HB1.out
  have hf2 := rowIs_keep HF1.out (Keep.of_below (K := fun k => k < w1.heap.size) hbl (fun k hk => hk)) HF1.out.lt
  have HB2 := hide hb2
  unfold gvA at hb2
  obtain ⟨b0, b1, b2, b3, b4, b5, zb2⟩ := cells6 hb2
  have g1 := frozen_of_row w2 bg 1 _ _ hb2
  have g5 := frozen_of_row w2 bg 5 _ _ hb2
  have x0 := hf2.cell (i := 0) (by omega)
  rw [HF0.out] at x0
  have xt := hf2.cell (i := 1 + t) (by omega)
  have ft := hf2.frozen (1 + t)
  have zp2 := hf2.lt
  have HF2 := hide hf2
  have HBL := hide hbl
  clear hb2 hf2 hbl d1 d5
  go_upto_region 9 with fail
  refine wp_region_seql (fun Y => Y.cell? ⟨bg, 0, none⟩ = some (.pointer (some ⟨pe, 0, none⟩)) ∧ Y.cell? ⟨bg, 2, none⟩ = some (.int .i64 (t : Int)) ∧ Y.cell? ⟨bg, 3, none⟩ = some (.int .u64 v)) [15] (.take 0 <| .take 1 <| .take 2 <| .take 3 <| .take 4 <| .take 5 <| .take 6 <| .take 7 <| .take 8 <| .take 9 <| .take 10 <| .take 11 <| .take 12 <| .take 13 <| .take 14 <| .run 15 <| .done) (by kernel_rfl) (by kernel_rfl) (by kernel_rfl) (by refine ⟨?_, ?_, ?_⟩ <;> go_simp) ?_
  iterate 15 (refine seql_take (v := ?_) rfl (by rfl) ?_ ?_; rotate_left; (focus (intro wS hS; obtain ⟨s0, s1, s2⟩ := hS; go_simp; exact rfl)); simp only [Act.put, List.setIfInBounds_toArray, List.set_cons_zero, List.set_cons_succ])
  refine seql_late rfl rfl (by rfl) (fun K hK => ?_)
  go_simp
  refine hK _ _ ?_
  clear hK K
  refine seql_nil ?_
  go_upto_region 10 with fail
  obtain ⟨w3, hw3⟩ : ∃ X, X = ((w2.setCell ⟨pe, 1 + t, none⟩ (.int .u64 v)).alloc (.cells #[.int .i64 0, .int .u64 0, .slice none 0 0] 39)).drew := ⟨_, rfl⟩
  rw [← hw3]
  have hk3 : Keep (fun k => k < w2.heap.size ∧ k ≠ pe) w2 w3 := by rw [hw3]; exact (((Keep.refl _ w2).setCell (fun hh => hh.2 rfl) _).alloc (fun k hk => by simpa using hk.1) _).drew
  have hf3 : w3.rowIs pe 92 17 (fun i => if i = 1 + t then .int .u64 v else f i) := by rw [hw3]; exact ((HF2.out.set (1 + t) (.int .u64 v)).alloc _).drew
  have hb3 := (hk3.block bg ⟨zb2, n2⟩).trans HB2.out
  have HB3 := hide hb3
  unfold gvA at hb3
  obtain ⟨a0, a1, a2, a3, a4, a5, zb3⟩ := cells6 hb3
  have y0 := hf3.cell (i := 0) (by omega)
  rw [if_neg (by omega), HF0.out] at y0
  have zp3 := hf3.lt
  have NS := laScan (pw := ad.pw) (t := t) (w := w3.drew) y0
  have HNS := hide NS
  have HK3 := hide hk3
  have HF3 := hide hf3
  clear NS hk3 hf3 hb3 hw3 b0 b1 b2 b3 b4 b5 g1 g5 x0 xt ft
  refine wp_region_seql (fun Y => Y.cell? ⟨bg, 0, none⟩ = some (.pointer (some ⟨pe, 0, none⟩)) ∧ Y.cell? ⟨bg, 2, none⟩ = some (.int .i64 (t : Int)) ∧ True) [14] (.take 0 <| .take 1 <| .take 2 <| .take 3 <| .take 4 <| .take 5 <| .take 6 <| .take 7 <| .take 8 <| .take 9 <| .run 10 <| .run 11 <| .take 12 <| .take 13 <| .run 14 <| .done) (by kernel_rfl) (by kernel_rfl) (by kernel_rfl) (by refine ⟨?_, ?_, trivial⟩ <;> go_simp) ?_
  iterate 10 (refine seql_take (v := ?_) rfl (by rfl) ?_ ?_; rotate_left; (focus (intro wS hS; obtain ⟨s0, s1, s2⟩ := hS; go_simp; exact rfl)); simp only [Act.put, List.setIfInBounds_toArray, List.set_cons_zero, List.set_cons_succ])
  refine seql_run rfl (by rfl) (fun K hK => ?_)
  go_simp
  refine HNS.out.mono ?_
  rintro e w4 ⟨rfl, hT4, hb4⟩
  have hz3 : w3.drew.heap.size = w3.heap.size := rfl
  rw [hz3] at hT4 hb4 ⊢
  have hb34 := (hb4.block bg zb3).trans HB3.out
  have HB4 := hide hb34
  unfold gvA at hb34
  obtain ⟨e0, e1, e2, e3, e4, e5, zb4⟩ := cells6 hb34
  have j1 := frozen_of_row w4 bg 1 _ _ hb34
  have j5 := frozen_of_row w4 bg 5 _ _ hb34
  refine hK _ _ ⟨e0, e2, trivial⟩ ?_
  have HT4 := hide hT4
  have HBL4 := hide hb4
  clear hK K hT4 hb4 hb34 HNS a0 a1 a2 a3 a4 a5
  refine seql_run rfl (by rfl) (fun K hK => ?_)
  go_simp
  refine hK _ _ ⟨e0, e2, trivial⟩ ?_
  clear hK K
  iterate 2 (refine seql_take (v := ?_) rfl (by rfl) ?_ ?_; rotate_left; (focus (intro wS hS; obtain ⟨s0, s1, s2⟩ := hS; go_simp; exact rfl)); simp only [Act.put, List.setIfInBounds_toArray, List.set_cons_zero, List.set_cons_succ])
  refine seql_late rfl rfl (by rfl) (fun K hK => ?_)
  go_simp
  refine hK _ _ ?_
  clear hK K
  refine seql_nil ?_
  go_wp2
  go_ret
  have z1 := HK1.out.size
  have z2 := HBL.out.size
  have z3 := HK3.out.size
  have z4 := HBL4.out.size
  have hk45 : Keep (fun k => k ≠ bg) w4 ((w4.setCell ⟨bg, 1, none⟩ (tlV (w3.heap.size + 3))).setCell ⟨bg, 5, none⟩ (.bool true)) := ((Keep.refl _ w4).setCell (by simp) _).setCell (by simp) _
  have hk35 : Keep (fun k => k < w3.heap.size ∧ k ≠ bg) w3 _ := (((Keep.refl _ w3).drew).trans (Keep.of_below (K := fun k => k < w3.heap.size ∧ k ≠ bg) HBL4.out (fun k hk => hk.1))).trans (hk45.mono (fun k hk => hk.2))
  have hk15 : Keep (fun k => k < w1.heap.size ∧ k ≠ pe ∧ k ≠ bg) w1 _ := ((Keep.of_below (K := fun k => k < w1.heap.size ∧ k ≠ pe ∧ k ≠ bg) HBL.out (fun k hk => hk.1)).trans (HK3.out.mono (fun k hk => ⟨Nat.lt_of_lt_of_le hk.1 z2, hk.2.1⟩))).trans (hk35.mono (fun k hk => ⟨Nat.lt_of_lt_of_le hk.1 (Nat.le_trans z2 z3), hk.2.2⟩))
  have zm := HM1.out.lt
  refine ⟨rfl, ⟨w3.heap.size + 3, w3.heap.size + 2, w3.heap.size + 1, v', by omega, ⟨(cells_set (cells_set HB4.out)).trans rfl, HT4.out.keep hk45 (fun k hk e => ?_), by omega, by omega, by omega, by simp [Value.ownBlock]⟩, HI1.out.of_block (hk15.block _ ⟨HI1.out.lt, Ne.symm p3, Ne.symm n4⟩), owns_keepV HO1.out hk15 (fun k hk => ?_), fun k hk => by have h := (HO1.out.lt k hk).2; omega⟩, HM1.out.of_blocks (hk15.block _ ⟨zm.1, Ne.symm p4, Ne.symm n5⟩) (hk15.block _ ⟨zm.2, Ne.symm p5, Ne.symm n6⟩), rowIs_keep HF3.out hk35 ⟨zp3, m1⟩, rowIs_keep HG1.out hk15 ⟨HG1.out.lt, Ne.symm p2, Ne.symm n3⟩, (HK1.out.mono (fun k hk => ⟨hk.1, hk.2.2.1, hk.2.2.2.2⟩)).trans (hk15.mono (fun k hk => ⟨Nat.lt_of_lt_of_le hk.1 z1, hk.2.2.2.1, hk.2.1⟩))⟩
  · rcases hk with h | h | h | h
    · omega
    · omega
    · omega
    · cases h
  · have h := HO1.out.lt k hk
    have h1 : w.heap.size ≤ k := h.1
    exact ⟨h.2, by omega, by omega⟩
end Go.Proofs.Ytlfingcmekifkaa
