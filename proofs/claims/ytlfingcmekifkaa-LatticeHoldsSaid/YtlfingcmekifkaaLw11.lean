/- A lattice's scans (package snap): Scan, a word of the values (pc 1) and of a borrowed list (pc 2). Printed by gen_lw10.py. -/
import Derived.Test.YtlfingcmekifkaaLw9
namespace Go.Proofs.Ytlfingcmekifkaa
open Go.RowKit

set_option maxRecDepth 100000 in
set_option maxHeartbeats 4000000 in
theorem scScan2 {w : World} {bs ps n a : Nat} {lv : Value} {s : Sc} {ad : Adr} {Mu : Nat → Prop} {lw : Lw} {x X : Int} (h : ScS w bs ps n lv s ad Mu lw) (hpc : s.pc = 2) (ha : s.at_ = a) (han : a + 1 < n) (hn : n ≤ 16) (hll : s.list.length = a) (hx3 : s.from_ = x) (hxb : 0 ≤ x ∧ x ≤ 9223372036854775700) (hX0 : lw.mem.tell 0 (x + 1 + (a : Int)) 0 = X) :
    Calls Try.prog 128 #[.pointer (some ⟨bs, 0, none⟩), .pointer (some ⟨ad.pw, 0, none⟩)] w (ScP w bs ps lv (s.push X) ad (lw.mem.acc 0 (x + 1 + (a : Int)) 0 0)) := by
  have hd : ((a : Int) + 1 == (n : Int)) = false := by simp; omega
  have HPC := hide hpc
  obtain ⟨A, cp, rfl⟩ := own_slice h.sc.lst
  rw [hll] at h ⊢
  have hown : w.ownsRow 0 37 1 (.slice A a cp) a (s.list.map (Value.int .u64)) := by have := h.sc.lst; unfold WRow at this; rwa [hll] at this
  obtain ⟨iI, hii, hz0, hz1, hz2⟩ := info_parts info_word
  obtain ⟨f0, hrow0, hf0⟩ := h.sc.row
  have c0 := hrow0.cell (i := 0) (by omega)
  have c1 := hrow0.cell (i := 1) (by omega)
  have c2 := hrow0.cell (i := 2) (by omega)
  have c54 := hrow0.cell (i := 54) (by omega)
  have c3 := hrow0.cell (i := 53) (by omega)
  rw [hf0.p] at c0
  rw [hf0.pc, hpc] at c1
  replace c1 : w.cell? ⟨bs, 1, none⟩ = some (.int .i64 2) := c1
  rw [hf0.at_, ha] at c2
  rw [hf0.list] at c54
  rw [hf0.from_, hx3] at c3
  have g2 := hrow0.frozen 2
  have g54 := hrow0.frozen 54
  have zb := hrow0.lt
  obtain ⟨fw, fw1, fw2, fw3, fw4, fw5⟩ := h.wl.cells
  have cw : w.cell? ⟨ad.pw, 0, none⟩ = some (.pointer (some ⟨ad.pm, 0, none⟩)) := by rw [fw1.cell (by omega), fw2]
  have zw := fw1.lt
  have zp := h.pz
  have hzm := h.wl.mem.lt
  obtain ⟨nb1, nb2, nb3, nb4, nb5⟩ := h.nb
  obtain ⟨np1, np2, np3, np4⟩ := h.np
  have mb1 : ¬ bs = ps := nb5
  have mb2 : ¬ ps = bs := fun e => nb5 e.symm
  have mb3 : ¬ bs = ad.pw := nb1
  have mb4 : ¬ ad.pw = bs := fun e => nb1 e.symm
  have kB : IntKind.i64.wrap ((a : Int) + 1) = (a : Int) + 1 := wrap_i64 (by omega) (by omega)
  have kX : IntKind.i64.wrap x = x := wrap_i64 (by omega) (by omega)
  have ha' : (a : Int) < 16 := by omega
  have kY : IntKind.i64.wrap (x + 1) = x + 1 := wrap_i64 (by omega) (by omega)
  have kZ : IntKind.i64.wrap (x + 1 + (a : Int)) = x + 1 + (a : Int) := wrap_i64 (by omega) (by omega)
  have N := memRead ad.pm ad.px (x + 1 + (a : Int)) lw.mem w.drew (h.wl.mem.of_blocks rfl rfl)
  rw [hX0] at N
  have hwn := h.wl.ne
  have HWN := hide hwn
  have HH := hide h
  have HA := hide ha
  have HN := hide N
  have HOWN := hide hown
  have HLL := hide hll
  have HX3 := hide hx3
  have HX0 := hide hX0
  have hnl := h.nl
  have HNL := hide hnl
  clear h hf0 hrow0 fw1 fw2 fw3 fw4 fw5 N ha hpc hwn hown hll hx3 hX0 hnl
  go_enter Try.func128, Try.ntmps128
  go_upto_region 12 with fail
  refine wp_region_seql (fun Y => Y.cell? ⟨bs, 54, none⟩ = some (.slice A a cp) ∧ Y.cell? ⟨ad.pw, 0, none⟩ = some (.pointer (some ⟨ad.pm, 0, none⟩)) ∧ Y.cell? ⟨bs, 2, none⟩ = some (.int .i64 (a : Int)) ∧ Y.cell? ⟨bs, 53, none⟩ = some (.int .u64 x)) [25] (.take 0 <| .take 1 <| .take 2 <| .take 3 <| .take 4 <| .take 5 <| .take 6 <| .take 7 <| .take 8 <| .take 9 <| .take 10 <| .take 11 <| .take 12 <| .take 13 <| .take 14 <| .take 15 <| .take 16 <| .take 17 <| .take 18 <| .take 19 <| .run 20 <| .run 21 <| .run 22 <| .take 23 <| .take 24 <| .run 25 <| .done) (by kernel_rfl) (by kernel_rfl) (by kernel_rfl) (by refine ⟨?_, ?_, ?_, ?_⟩ <;> go_simp) ?_
  repeat (refine seql_take (v := ?_) rfl (by rfl) ?_ ?_; rotate_left; (focus (intro wS hS; obtain ⟨s0, s1, s2, s3⟩ := hS; go_simp; exact rfl)); simp only [Act.put, List.setIfInBounds_toArray, List.set_cons_zero, List.set_cons_succ])
  refine seql_run rfl (by rfl) (fun K hK => ?_)
  go_simp
  refine HN.out.mono ?_
  rintro e w1 ⟨rfl, hm1, hk1⟩
  have hS1 : ScAt w1 bs ps (.slice A a cp) s := (HH.out.sc.keep ((Keep.refl (fun _ => True) w).drew) trivial (fun _ _ => trivial)).keep hk1 ⟨nb2, nb3, zb⟩ (fun k hk => ⟨(HNL.out k hk).2.1, (HNL.out k hk).2.2.1, (HH.out.sc.lst.lt k hk).2⟩)
  have hs1 := owns_keepV HOWN.out (((Keep.refl (fun _ => True) w).drew.mono (fun _ _ => trivial)).trans hk1) (fun k hk => ⟨(HNL.out k hk).2.1, (HNL.out k hk).2.2.1, (HOWN.out.lt k hk).2⟩)
  obtain ⟨f1, hrow1, hf1⟩ := hS1.row
  have d54 : w1.cell? ⟨bs, 54, none⟩ = some (.slice A a cp) := by rw [hrow1.cell (i := 54) (by omega), hf1.list]
  have d2 : w1.cell? ⟨bs, 2, none⟩ = some (.int .i64 (a : Int)) := by rw [hrow1.cell (i := 2) (by omega), hf1.at_, HA.out]
  have d3 : w1.cell? ⟨bs, 53, none⟩ = some (.int .u64 x) := by rw [hrow1.cell (i := 53) (by omega), hf1.from_, HX3.out]
  have zb1 := hrow1.lt
  have hzw1 : w.heap.size ≤ w1.heap.size := hk1.size
  have zw1 := Nat.lt_of_lt_of_le zw hzw1
  have zp1 := Nat.lt_of_lt_of_le zp hzw1
  have dw : w1.cell? ⟨ad.pw, 0, none⟩ = some (.pointer (some ⟨ad.pm, 0, none⟩)) := (hk1.cell (p := ⟨ad.pw, 0, none⟩) ⟨HWN.out.1, HWN.out.2.1, zw⟩).trans cw
  have dn : w1.cell? ⟨ps, 1, none⟩ = some (.int .i64 (n : Int)) := (hk1.cell (p := ⟨ps, 1, none⟩) ⟨np2, np3, zp⟩).trans HH.out.n_
  refine hK _ _ ⟨d54, dw, d2, d3⟩ ?_
  have HK1 := hide hk1
  have HM1 := hide hm1
  have HS1 := hide hs1
  have HR1 := hide hrow1
  have HF1 := hide hf1
  have HDN := hide dn
  clear hK K hk1 hm1 hS1 hs1 hrow1 hf1 c0 c1 c2 c3 c54 g2 g54 zb cw HN dn
  refine seql_run rfl (by rfl) (fun K hK => ?_)
  go_simp
  refine hK _ _ (by refine ⟨?_, ?_, ?_, ?_⟩ <;> go_simp) ?_
  clear hK K
  refine seql_run rfl (by rfl) (fun K hK => ?_)
  have hown2 := World.ownsRow.alloc HS1.out (.cells #[.int .u64 X] 37)
  refine wp_append_own_at _ _ 28 rfl 0 37 iI (.int .u64 0) 1 8 Try.underlying28 hii hz0 hz1 hz2 rfl (by decide) (.slice A a cp) _ _ (by rfl) hown2 ⟨w1.heap.size, 0, none⟩ 1 1 [.int .u64 X] (by rfl) rfl (by intro j u hu; rcases j with _ | j; (simp at hu; subst hu; go_simp); (simp at hu)) (by simp [Value.oneCell']) (by unfold maxLen; omega) (by omega) (by simp) ?_
  intro v' w5 hown5 hgrow hnil hloc
  have hk5 : Keep (fun k => k < w1.heap.size ∧ (Value.slice A a cp).ownBlock ≠ some k) w1 w5 := ((Keep.refl _ w1).alloc (fun k hk => hk.1) _).grown hgrow (fun k hk => by simp; omega) (fun k hk hh => hh.2 hk)
  have hnb : (Value.slice A a cp).ownBlock ≠ some bs := HH.out.sc.ne
  have hnp : (Value.slice A a cp).ownBlock ≠ some ps := fun e => (HNL.out ps e).2.2.2.2 rfl
  have hnw : (Value.slice A a cp).ownBlock ≠ some ad.pw := fun e => (HNL.out ad.pw e).1 rfl
  obtain ⟨Av, cv, rfl⟩ := own_slice hown5
  have t0 : w5.cell? ⟨bs, 54, none⟩ = some (.slice A a cp) := (hk5.cell (p := ⟨bs, 54, none⟩) ⟨zb1, hnb⟩).trans d54
  have t1 : w5.cell? ⟨ad.pw, 0, none⟩ = some (.pointer (some ⟨ad.pm, 0, none⟩)) := (hk5.cell (p := ⟨ad.pw, 0, none⟩) ⟨zw1, hnw⟩).trans dw
  have t2 : w5.cell? ⟨bs, 2, none⟩ = some (.int .i64 (a : Int)) := (hk5.cell (p := ⟨bs, 2, none⟩) ⟨zb1, hnb⟩).trans d2
  have t3 : w5.cell? ⟨bs, 53, none⟩ = some (.int .u64 x) := (hk5.cell (p := ⟨bs, 53, none⟩) ⟨zb1, hnb⟩).trans d3
  have hr5 := rowIs_keep HR1.out hk5 ⟨zb1, hnb⟩
  have e54 := hr5.frozen 54
  have e2 := hr5.frozen 2
  have zb5 := hr5.lt
  have hn5 : w5.cell? ⟨ps, 1, none⟩ = some (.int .i64 (n : Int)) := (hk5.cell (p := ⟨ps, 1, none⟩) ⟨zp1, hnp⟩).trans HDN.out
  have hm5 := HM1.out.of_blocks (hk5.block ad.pm ⟨(HM1.out.lt).1, fun e => (HNL.out ad.pm e).2.1 rfl⟩) (hk5.block ad.px ⟨(HM1.out.lt).2, fun e => (HNL.out ad.px e).2.2.1 rfl⟩)
  have hvb : ∀ k, (Value.slice Av (a + 1) cv).ownBlock = some k → (Value.slice A a cp).ownBlock = some k ∨ w1.heap.size ≤ k := by
    intro k hk
    rcases hloc with h | h
    · exact Or.inl (h ▸ hk)
    · rw [h] at hk
      cases hk
      exact Or.inr (by simp)
  have hvn : (Value.slice Av (a + 1) cv).ownBlock ≠ some bs := by
    intro e
    rcases hvb bs e with h | h
    · exact hnb h
    · omega
  have hw7 : WRow w5 0 (.slice Av (a + 1) cv) (s.list ++ [X]) := by
    have hl9 : (s.list ++ [X]).length = a + 1 := by have := HLL.out; simp; omega
    unfold WRow
    rw [hl9, List.map_append]
    exact hown5
  have hS8 := (ScAt.push hr5 HF1.out hw7 hvn).at_ (a + 1)
  rw [show ((a + 1 : Nat) : Int) = (a : Int) + 1 from by push_cast; rfl] at hS8
  have hkS : Keep (fun k => k < w.heap.size ∧ k ≠ bs ∧ (Value.slice A a cp).ownBlock ≠ some k ∧ k ≠ ad.pm ∧ k ≠ ad.px) w ((w5.setCell ⟨bs, 54, none⟩ (.slice Av (a + 1) cv)).setCell ⟨bs, 2, none⟩ (.int .i64 ((a : Int) + 1))) :=
    (((((Keep.refl (fun _ => True) w).drew.mono (fun _ _ => trivial)).trans (HK1.out.mono (fun k hk => ⟨hk.2.2.2.1, hk.2.2.2.2, hk.1⟩))).trans (hk5.mono (fun k hk => ⟨Nat.lt_of_lt_of_le hk.1 hzw1, hk.2.2.1⟩))).setCell (fun hh => hh.2.1 rfl) _).setCell (fun hh => hh.2.1 rfl) _
  have hk58 : Keep (fun k => k ≠ bs) w5 ((w5.setCell ⟨bs, 54, none⟩ (.slice Av (a + 1) cv)).setCell ⟨bs, 2, none⟩ (.int .i64 ((a : Int) + 1))) := ((Keep.refl _ w5).setCell (by simp) _).setCell (by simp) _
  have hn8 := (hk58.cell (p := ⟨ps, 1, none⟩) mb2).trans hn5
  have hm8 := hm5.of_blocks (hk58.block _ (Ne.symm nb2)) (hk58.block _ (Ne.symm nb3))
  have hO8 : ∀ k, (Value.slice Av (a + 1) cv).ownBlock = some k → (Value.slice A a cp).ownBlock = some k ∨ w.heap.size ≤ k := fun k hk => by
    rcases hvb k hk with h | h
    · exact Or.inl h
    · exact Or.inr (by omega)
  have HS8 := hide hS8
  have HK8 := hide hkS
  have HN8 := hide hn8
  have HM8 := hide hm8
  have HO8 := hide hO8
  clear d54 dw d2 d3 hm5 hk5 hown5 hvb hvn hgrow hnil hloc hown2 hn5 hw7 hS8 hkS hk58 hn8 hm8 hO8 hr5 HR1 HF1
  refine hK _ _ ⟨t0, t1, t2, t3⟩ ?_
  clear hK K
  repeat (refine seql_take (v := ?_) rfl (by rfl) ?_ ?_; rotate_left; (focus (intro wS hS; obtain ⟨s0, s1, s2, s3⟩ := hS; go_simp; exact rfl)); simp only [Act.put, List.setIfInBounds_toArray, List.set_cons_zero, List.set_cons_succ])
  refine seql_late rfl rfl (by rfl) (fun K hK => ?_)
  go_simp
  refine hK _ _ ?_
  clear hK K
  refine seql_nil ?_
  obtain ⟨w8, hw8⟩ : ∃ W, W = (w5.setCell ⟨bs, 54, none⟩ (.slice Av (a + 1) cv)).setCell ⟨bs, 2, none⟩ (.int .i64 ((a : Int) + 1)) := ⟨_, rfl⟩
  rw [← hw8] at HS8 HK8 HN8 HM8
  have hS9 : ScAt w8 bs ps (.slice Av (a + 1) cv) (s.push X) := by have := HS8.out; unfold Sc.push; rw [HA.out]; exact this
  have HS9 := hide hS9
  obtain ⟨f8, hrow8, hf8⟩ := hS9.row
  have hp8 : (s.push X).pc = 2 := HPC.out
  have d0 := hrow8.cell (i := 0) (by omega)
  have d1 := hrow8.cell (i := 1) (by omega)
  have d2 := hrow8.cell (i := 2) (by omega)
  rw [hf8.p] at d0
  rw [hf8.pc, hp8] at d1
  replace d1 : w8.cell? ⟨bs, 1, none⟩ = some (.int .i64 2) := d1
  rw [hf8.at_, show (((s.push X).at_ : Nat) : Int) = (a : Int) + 1 from by show ((s.at_ + 1 : Nat) : Int) = _; rw [HA.out]; push_cast; rfl] at d2
  have e1 := hrow8.frozen 1
  have zb8 := hrow8.lt
  have dn8 := HN8.out
  have zp8 : ps < w8.heap.size := Nat.lt_of_lt_of_le zp HK8.out.size
  have HW8 := hide hw8
  clear hw8 hS9 hrow8 hf8 hp8
  go_upto_region 14 with fail
  rw [← HW8.out]
  clear HW8 t0 t1 t2 t3 e54 e2 zb5
  refine wp_region_seq (fun Y => Y.cell? ⟨bs, 0, none⟩ = some (.pointer (some ⟨ps, 0, none⟩)) ∧ Y.cell? ⟨bs, 2, none⟩ = some (.int .i64 ((a : Int) + 1)) ∧ Y.cell? ⟨ps, 1, none⟩ = some (.int .i64 (n : Int)) ∧ True) (.take 0 <| .take 1 <| .take 2 <| .take 3 <| .take 4 <| .take 5 <| .take 6 <| .take 7 <| .take 8 <| .take 9 <| .take 10 <| .take 11 <| .done) (by kernel_rfl) (by kernel_rfl) (by kernel_rfl) (by refine ⟨?_, ?_, ?_, trivial⟩ <;> go_simp) ?_
  iterate 12 (refine seq_take (v := ?_) rfl (by rfl) ?_ ?_; rotate_left; (focus (intro wS hS; obtain ⟨s0, s1, s2, s3⟩ := hS; go_simp; exact rfl)); simp only [Act.put, List.setIfInBounds_toArray, List.set_cons_zero, List.set_cons_succ])
  refine seq_nil ?_
  go_wp2
  go_ret
  refine ⟨?_, ⟨_, HS9.out.keep ((Keep.refl (fun _ => True) w8).drew) trivial (fun _ _ => trivial), HO8.out⟩, HM8.out.of_blocks rfl rfl, HK8.out.drew⟩
  show _ = Ending.returned (.bool (decide (s.pc = 3)))
  rw [HPC.out]
  rfl
set_option maxRecDepth 100000 in
set_option maxHeartbeats 4000000 in
theorem scScan2h {w : World} {bs ps n a : Nat} {lv : Value} {s : Sc} {ad : Adr} {Mu : Nat → Prop} {lw : Lw} {x X : Int} (h : ScS w bs ps n lv s ad Mu lw) (hpc : s.pc = 2) (ha : s.at_ = a) (han : a + 1 = n) (hn : n ≤ 16) (hll : s.list.length = a) (hx3 : s.from_ = x) (hxb : 0 ≤ x ∧ x ≤ 9223372036854775700) (hX0 : lw.mem.tell 0 (x + 1 + (a : Int)) 0 = X) :
    Calls Try.prog 128 #[.pointer (some ⟨bs, 0, none⟩), .pointer (some ⟨ad.pw, 0, none⟩)] w (ScP w bs ps lv { s.push X with pc := 3 } ad (lw.mem.acc 0 (x + 1 + (a : Int)) 0 0)) := by
  have hd : ((a : Int) + 1 == (n : Int)) = true := by simp; omega
  have HPC := hide hpc
  obtain ⟨han1, han2⟩ : a + 1 ≤ n ∧ n ≤ a + 1 := by omega
  clear han
  obtain ⟨A, cp, rfl⟩ := own_slice h.sc.lst
  rw [hll] at h ⊢
  have hown : w.ownsRow 0 37 1 (.slice A a cp) a (s.list.map (Value.int .u64)) := by have := h.sc.lst; unfold WRow at this; rwa [hll] at this
  obtain ⟨iI, hii, hz0, hz1, hz2⟩ := info_parts info_word
  obtain ⟨f0, hrow0, hf0⟩ := h.sc.row
  have c0 := hrow0.cell (i := 0) (by omega)
  have c1 := hrow0.cell (i := 1) (by omega)
  have c2 := hrow0.cell (i := 2) (by omega)
  have c54 := hrow0.cell (i := 54) (by omega)
  have c3 := hrow0.cell (i := 53) (by omega)
  rw [hf0.p] at c0
  rw [hf0.pc, hpc] at c1
  replace c1 : w.cell? ⟨bs, 1, none⟩ = some (.int .i64 2) := c1
  rw [hf0.at_, ha] at c2
  rw [hf0.list] at c54
  rw [hf0.from_, hx3] at c3
  have g2 := hrow0.frozen 2
  have g54 := hrow0.frozen 54
  have zb := hrow0.lt
  obtain ⟨fw, fw1, fw2, fw3, fw4, fw5⟩ := h.wl.cells
  have cw : w.cell? ⟨ad.pw, 0, none⟩ = some (.pointer (some ⟨ad.pm, 0, none⟩)) := by rw [fw1.cell (by omega), fw2]
  have zw := fw1.lt
  have zp := h.pz
  have hzm := h.wl.mem.lt
  obtain ⟨nb1, nb2, nb3, nb4, nb5⟩ := h.nb
  obtain ⟨np1, np2, np3, np4⟩ := h.np
  have mb1 : ¬ bs = ps := nb5
  have mb2 : ¬ ps = bs := fun e => nb5 e.symm
  have mb3 : ¬ bs = ad.pw := nb1
  have mb4 : ¬ ad.pw = bs := fun e => nb1 e.symm
  have kB : IntKind.i64.wrap ((a : Int) + 1) = (a : Int) + 1 := wrap_i64 (by omega) (by omega)
  have kX : IntKind.i64.wrap x = x := wrap_i64 (by omega) (by omega)
  have ha' : (a : Int) < 16 := by omega
  have kY : IntKind.i64.wrap (x + 1) = x + 1 := wrap_i64 (by omega) (by omega)
  have kZ : IntKind.i64.wrap (x + 1 + (a : Int)) = x + 1 + (a : Int) := wrap_i64 (by omega) (by omega)
  have N := memRead ad.pm ad.px (x + 1 + (a : Int)) lw.mem w.drew (h.wl.mem.of_blocks rfl rfl)
  rw [hX0] at N
  have hwn := h.wl.ne
  have HWN := hide hwn
  have HH := hide h
  have HA := hide ha
  have HN := hide N
  have HOWN := hide hown
  have HLL := hide hll
  have HX3 := hide hx3
  have HX0 := hide hX0
  have hnl := h.nl
  have HNL := hide hnl
  clear h hf0 hrow0 fw1 fw2 fw3 fw4 fw5 N ha hpc hwn hown hll hx3 hX0 hnl
  go_enter Try.func128, Try.ntmps128
  go_upto_region 12 with fail
  refine wp_region_seql (fun Y => Y.cell? ⟨bs, 54, none⟩ = some (.slice A a cp) ∧ Y.cell? ⟨ad.pw, 0, none⟩ = some (.pointer (some ⟨ad.pm, 0, none⟩)) ∧ Y.cell? ⟨bs, 2, none⟩ = some (.int .i64 (a : Int)) ∧ Y.cell? ⟨bs, 53, none⟩ = some (.int .u64 x)) [25] (.take 0 <| .take 1 <| .take 2 <| .take 3 <| .take 4 <| .take 5 <| .take 6 <| .take 7 <| .take 8 <| .take 9 <| .take 10 <| .take 11 <| .take 12 <| .take 13 <| .take 14 <| .take 15 <| .take 16 <| .take 17 <| .take 18 <| .take 19 <| .run 20 <| .run 21 <| .run 22 <| .take 23 <| .take 24 <| .run 25 <| .done) (by kernel_rfl) (by kernel_rfl) (by kernel_rfl) (by refine ⟨?_, ?_, ?_, ?_⟩ <;> go_simp) ?_
  repeat (refine seql_take (v := ?_) rfl (by rfl) ?_ ?_; rotate_left; (focus (intro wS hS; obtain ⟨s0, s1, s2, s3⟩ := hS; go_simp; exact rfl)); simp only [Act.put, List.setIfInBounds_toArray, List.set_cons_zero, List.set_cons_succ])
  refine seql_run rfl (by rfl) (fun K hK => ?_)
  go_simp
  refine HN.out.mono ?_
  rintro e w1 ⟨rfl, hm1, hk1⟩
  have hS1 : ScAt w1 bs ps (.slice A a cp) s := (HH.out.sc.keep ((Keep.refl (fun _ => True) w).drew) trivial (fun _ _ => trivial)).keep hk1 ⟨nb2, nb3, zb⟩ (fun k hk => ⟨(HNL.out k hk).2.1, (HNL.out k hk).2.2.1, (HH.out.sc.lst.lt k hk).2⟩)
  have hs1 := owns_keepV HOWN.out (((Keep.refl (fun _ => True) w).drew.mono (fun _ _ => trivial)).trans hk1) (fun k hk => ⟨(HNL.out k hk).2.1, (HNL.out k hk).2.2.1, (HOWN.out.lt k hk).2⟩)
  obtain ⟨f1, hrow1, hf1⟩ := hS1.row
  have d54 : w1.cell? ⟨bs, 54, none⟩ = some (.slice A a cp) := by rw [hrow1.cell (i := 54) (by omega), hf1.list]
  have d2 : w1.cell? ⟨bs, 2, none⟩ = some (.int .i64 (a : Int)) := by rw [hrow1.cell (i := 2) (by omega), hf1.at_, HA.out]
  have d3 : w1.cell? ⟨bs, 53, none⟩ = some (.int .u64 x) := by rw [hrow1.cell (i := 53) (by omega), hf1.from_, HX3.out]
  have zb1 := hrow1.lt
  have hzw1 : w.heap.size ≤ w1.heap.size := hk1.size
  have zw1 := Nat.lt_of_lt_of_le zw hzw1
  have zp1 := Nat.lt_of_lt_of_le zp hzw1
  have dw : w1.cell? ⟨ad.pw, 0, none⟩ = some (.pointer (some ⟨ad.pm, 0, none⟩)) := (hk1.cell (p := ⟨ad.pw, 0, none⟩) ⟨HWN.out.1, HWN.out.2.1, zw⟩).trans cw
  have dn : w1.cell? ⟨ps, 1, none⟩ = some (.int .i64 (n : Int)) := (hk1.cell (p := ⟨ps, 1, none⟩) ⟨np2, np3, zp⟩).trans HH.out.n_
  refine hK _ _ ⟨d54, dw, d2, d3⟩ ?_
  have HK1 := hide hk1
  have HM1 := hide hm1
  have HS1 := hide hs1
  have HR1 := hide hrow1
  have HF1 := hide hf1
  have HDN := hide dn
  clear hK K hk1 hm1 hS1 hs1 hrow1 hf1 c0 c1 c2 c3 c54 g2 g54 zb cw HN dn
  refine seql_run rfl (by rfl) (fun K hK => ?_)
  go_simp
  refine hK _ _ (by refine ⟨?_, ?_, ?_, ?_⟩ <;> go_simp) ?_
  clear hK K
  refine seql_run rfl (by rfl) (fun K hK => ?_)
  have hown2 := World.ownsRow.alloc HS1.out (.cells #[.int .u64 X] 37)
  refine wp_append_own_at _ _ 28 rfl 0 37 iI (.int .u64 0) 1 8 Try.underlying28 hii hz0 hz1 hz2 rfl (by decide) (.slice A a cp) _ _ (by rfl) hown2 ⟨w1.heap.size, 0, none⟩ 1 1 [.int .u64 X] (by rfl) rfl (by intro j u hu; rcases j with _ | j; (simp at hu; subst hu; go_simp); (simp at hu)) (by simp [Value.oneCell']) (by unfold maxLen; omega) (by omega) (by simp) ?_
  intro v' w5 hown5 hgrow hnil hloc
  have hk5 : Keep (fun k => k < w1.heap.size ∧ (Value.slice A a cp).ownBlock ≠ some k) w1 w5 := ((Keep.refl _ w1).alloc (fun k hk => hk.1) _).grown hgrow (fun k hk => by simp; omega) (fun k hk hh => hh.2 hk)
  have hnb : (Value.slice A a cp).ownBlock ≠ some bs := HH.out.sc.ne
  have hnp : (Value.slice A a cp).ownBlock ≠ some ps := fun e => (HNL.out ps e).2.2.2.2 rfl
  have hnw : (Value.slice A a cp).ownBlock ≠ some ad.pw := fun e => (HNL.out ad.pw e).1 rfl
  obtain ⟨Av, cv, rfl⟩ := own_slice hown5
  have t0 : w5.cell? ⟨bs, 54, none⟩ = some (.slice A a cp) := (hk5.cell (p := ⟨bs, 54, none⟩) ⟨zb1, hnb⟩).trans d54
  have t1 : w5.cell? ⟨ad.pw, 0, none⟩ = some (.pointer (some ⟨ad.pm, 0, none⟩)) := (hk5.cell (p := ⟨ad.pw, 0, none⟩) ⟨zw1, hnw⟩).trans dw
  have t2 : w5.cell? ⟨bs, 2, none⟩ = some (.int .i64 (a : Int)) := (hk5.cell (p := ⟨bs, 2, none⟩) ⟨zb1, hnb⟩).trans d2
  have t3 : w5.cell? ⟨bs, 53, none⟩ = some (.int .u64 x) := (hk5.cell (p := ⟨bs, 53, none⟩) ⟨zb1, hnb⟩).trans d3
  have hr5 := rowIs_keep HR1.out hk5 ⟨zb1, hnb⟩
  have e54 := hr5.frozen 54
  have e2 := hr5.frozen 2
  have zb5 := hr5.lt
  have hn5 : w5.cell? ⟨ps, 1, none⟩ = some (.int .i64 (n : Int)) := (hk5.cell (p := ⟨ps, 1, none⟩) ⟨zp1, hnp⟩).trans HDN.out
  have hm5 := HM1.out.of_blocks (hk5.block ad.pm ⟨(HM1.out.lt).1, fun e => (HNL.out ad.pm e).2.1 rfl⟩) (hk5.block ad.px ⟨(HM1.out.lt).2, fun e => (HNL.out ad.px e).2.2.1 rfl⟩)
  have hvb : ∀ k, (Value.slice Av (a + 1) cv).ownBlock = some k → (Value.slice A a cp).ownBlock = some k ∨ w1.heap.size ≤ k := by
    intro k hk
    rcases hloc with h | h
    · exact Or.inl (h ▸ hk)
    · rw [h] at hk
      cases hk
      exact Or.inr (by simp)
  have hvn : (Value.slice Av (a + 1) cv).ownBlock ≠ some bs := by
    intro e
    rcases hvb bs e with h | h
    · exact hnb h
    · omega
  have hw7 : WRow w5 0 (.slice Av (a + 1) cv) (s.list ++ [X]) := by
    have hl9 : (s.list ++ [X]).length = a + 1 := by have := HLL.out; simp; omega
    unfold WRow
    rw [hl9, List.map_append]
    exact hown5
  have hS8 := (ScAt.push hr5 HF1.out hw7 hvn).at_ (a + 1)
  rw [show ((a + 1 : Nat) : Int) = (a : Int) + 1 from by push_cast; rfl] at hS8
  have hkS : Keep (fun k => k < w.heap.size ∧ k ≠ bs ∧ (Value.slice A a cp).ownBlock ≠ some k ∧ k ≠ ad.pm ∧ k ≠ ad.px) w ((w5.setCell ⟨bs, 54, none⟩ (.slice Av (a + 1) cv)).setCell ⟨bs, 2, none⟩ (.int .i64 ((a : Int) + 1))) :=
    (((((Keep.refl (fun _ => True) w).drew.mono (fun _ _ => trivial)).trans (HK1.out.mono (fun k hk => ⟨hk.2.2.2.1, hk.2.2.2.2, hk.1⟩))).trans (hk5.mono (fun k hk => ⟨Nat.lt_of_lt_of_le hk.1 hzw1, hk.2.2.1⟩))).setCell (fun hh => hh.2.1 rfl) _).setCell (fun hh => hh.2.1 rfl) _
  have hk58 : Keep (fun k => k ≠ bs) w5 ((w5.setCell ⟨bs, 54, none⟩ (.slice Av (a + 1) cv)).setCell ⟨bs, 2, none⟩ (.int .i64 ((a : Int) + 1))) := ((Keep.refl _ w5).setCell (by simp) _).setCell (by simp) _
  have hn8 := (hk58.cell (p := ⟨ps, 1, none⟩) mb2).trans hn5
  have hm8 := hm5.of_blocks (hk58.block _ (Ne.symm nb2)) (hk58.block _ (Ne.symm nb3))
  have hO8 : ∀ k, (Value.slice Av (a + 1) cv).ownBlock = some k → (Value.slice A a cp).ownBlock = some k ∨ w.heap.size ≤ k := fun k hk => by
    rcases hvb k hk with h | h
    · exact Or.inl h
    · exact Or.inr (by omega)
  have HS8 := hide hS8
  have HK8 := hide hkS
  have HN8 := hide hn8
  have HM8 := hide hm8
  have HO8 := hide hO8
  clear d54 dw d2 d3 hm5 hk5 hown5 hvb hvn hgrow hnil hloc hown2 hn5 hw7 hS8 hkS hk58 hn8 hm8 hO8 hr5 HR1 HF1
  refine hK _ _ ⟨t0, t1, t2, t3⟩ ?_
  clear hK K
  repeat (refine seql_take (v := ?_) rfl (by rfl) ?_ ?_; rotate_left; (focus (intro wS hS; obtain ⟨s0, s1, s2, s3⟩ := hS; go_simp; exact rfl)); simp only [Act.put, List.setIfInBounds_toArray, List.set_cons_zero, List.set_cons_succ])
  refine seql_late rfl rfl (by rfl) (fun K hK => ?_)
  go_simp
  refine hK _ _ ?_
  clear hK K
  refine seql_nil ?_
  obtain ⟨w8, hw8⟩ : ∃ W, W = (w5.setCell ⟨bs, 54, none⟩ (.slice Av (a + 1) cv)).setCell ⟨bs, 2, none⟩ (.int .i64 ((a : Int) + 1)) := ⟨_, rfl⟩
  rw [← hw8] at HS8 HK8 HN8 HM8
  have hS9 : ScAt w8 bs ps (.slice Av (a + 1) cv) (s.push X) := by have := HS8.out; unfold Sc.push; rw [HA.out]; exact this
  have HS9 := hide hS9
  obtain ⟨f8, hrow8, hf8⟩ := hS9.row
  have hp8 : (s.push X).pc = 2 := HPC.out
  have d0 := hrow8.cell (i := 0) (by omega)
  have d1 := hrow8.cell (i := 1) (by omega)
  have d2 := hrow8.cell (i := 2) (by omega)
  rw [hf8.p] at d0
  rw [hf8.pc, hp8] at d1
  replace d1 : w8.cell? ⟨bs, 1, none⟩ = some (.int .i64 2) := d1
  rw [hf8.at_, show (((s.push X).at_ : Nat) : Int) = (a : Int) + 1 from by show ((s.at_ + 1 : Nat) : Int) = _; rw [HA.out]; push_cast; rfl] at d2
  have e1 := hrow8.frozen 1
  have zb8 := hrow8.lt
  have dn8 := HN8.out
  have zp8 : ps < w8.heap.size := Nat.lt_of_lt_of_le zp HK8.out.size
  have HW8 := hide hw8
  clear hw8 hS9 hrow8 hf8 hp8
  go_upto_region 14 with fail
  rw [← HW8.out]
  clear HW8 t0 t1 t2 t3 e54 e2 zb5
  refine wp_region_seq (fun Y => Y.cell? ⟨bs, 0, none⟩ = some (.pointer (some ⟨ps, 0, none⟩)) ∧ Y.cell? ⟨bs, 2, none⟩ = some (.int .i64 ((a : Int) + 1)) ∧ Y.cell? ⟨ps, 1, none⟩ = some (.int .i64 (n : Int)) ∧ True) (.take 0 <| .take 1 <| .take 2 <| .take 3 <| .take 4 <| .take 5 <| .take 6 <| .take 7 <| .take 8 <| .take 9 <| .take 10 <| .take 11 <| .done) (by kernel_rfl) (by kernel_rfl) (by kernel_rfl) (by refine ⟨?_, ?_, ?_, trivial⟩ <;> go_simp) ?_
  iterate 12 (refine seq_take (v := ?_) rfl (by rfl) ?_ ?_; rotate_left; (focus (intro wS hS; obtain ⟨s0, s1, s2, s3⟩ := hS; go_simp; exact rfl)); simp only [Act.put, List.setIfInBounds_toArray, List.set_cons_zero, List.set_cons_succ])
  refine seq_nil ?_
  go_wp2
  go_ret
  have hk9 : Keep (fun k => k ≠ bs) w8 (w8.drew.setCell ⟨bs, 1, none⟩ (.int .i64 3)) := ((Keep.refl _ w8).drew).setCell (by simp) _
  refine ⟨rfl, ⟨_, (HS9.out.keep ((Keep.refl (fun _ => True) w8).drew) trivial (fun _ _ => trivial)).set (s' := { s.push X with pc := 3 }) 1 (.int .i64 3) rfl (fun f hf => by obtain ⟨b0, b1, b2, b3, b4, b5, b6, b7, b8, b9, b10⟩ := hf; refine ⟨?_, ?_, ?_, ?_, fun i hi => ?_, fun i hi => ?_, ?_, fun i hi => ?_, ?_, ?_, ?_⟩; all_goals first | (rw [if_neg (by omega)]; first | assumption | exact b4 i hi | exact b5 i hi | exact b7 i hi) | (rw [if_pos (by omega)]; rfl) | (rw [if_pos (by omega)])), HO8.out⟩, HM8.out.of_blocks (hk9.block _ (Ne.symm nb2)) (hk9.block _ (Ne.symm nb3)), HK8.out.drew.setCell (fun hh => hh.2.1 rfl) _⟩
end Go.Proofs.Ytlfingcmekifkaa
