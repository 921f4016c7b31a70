/- A lattice's scans (package snap): Scan, a read of a collect. -/
import Derived.Test.YtlfingcmekifkaaLw8
import Derived.Test.YtlfingcmekifkaaBun11
namespace Go.Proofs.Ytlfingcmekifkaa
open Go.RowKit

/-- A scan where it steps. -/
structure ScS (w : World) (bs ps n : Nat) (lv : Value) (s : Sc) (ad : Adr) (Mu : Nat → Prop) (lw : Lw) : Prop where
  sc : ScAt w bs ps lv s
  wl : WL w ad Mu lw
  four : ∀ k, ad.four k → Mu k
  mub : Mu bs
  mul : ∀ k, lv.ownBlock = some k → Mu k
  nb : bs ≠ ad.pw ∧ bs ≠ ad.pm ∧ bs ≠ ad.px ∧ bs ≠ ad.pt ∧ bs ≠ ps
  nl : ∀ k, lv.ownBlock = some k → k ≠ ad.pw ∧ k ≠ ad.pm ∧ k ≠ ad.px ∧ k ≠ ad.pt ∧ k ≠ ps
  np : ps ≠ ad.pw ∧ ps ≠ ad.pm ∧ ps ≠ ad.px ∧ ps ≠ ad.pt
  pz : ps < w.heap.size
  base : w.cell? ⟨ps, 0, none⟩ = some (.int .i64 0)
  n_ : w.cell? ⟨ps, 1, none⟩ = some (.int .i64 (n : Int))
  n16 : n ≤ 16
/-- What a scan's step leaves. -/
def ScP (w : World) (bs ps : Nat) (lv : Value) (s' : Sc) (ad : Adr) (m' : Mm) (e : Ending) (w' : World) : Prop :=
  e = .returned (.bool (decide (s'.pc = 3))) ∧ (∃ lv', ScAt w' bs ps lv' s' ∧ ∀ k, lv'.ownBlock = some k → lv.ownBlock = some k ∨ w.heap.size ≤ k) ∧ MemAt w' ad.pm ad.px .nilFunc m' ∧ Keep (fun k => k < w.heap.size ∧ k ≠ bs ∧ lv.ownBlock ≠ some k ∧ k ≠ ad.pm ∧ k ≠ ad.px) w w'
theorem ScAt.read {w : World} {bs ps : Nat} {lv : Value} {s : Sc} (h : ScAt w bs ps lv s) (x : Int) (ha : s.at_ < 16) : ScAt ((w.setCell ⟨bs, 20 + s.at_, none⟩ (.int .u64 x)).setCell ⟨bs, 2, none⟩ (.int .i64 ((s.at_ : Int) + 1))) bs ps lv (s.read x) := by
  refine (h.set (s' := { s with now := upd s.now s.at_ x }) (20 + s.at_) (.int .u64 x) rfl (fun f hf => ?_)).set (s' := s.read x) 2 (.int .i64 ((s.at_ : Int) + 1)) rfl (fun f hf => ?_)
  · obtain ⟨b0, b1, b2, b3, b4, b5, b6, b7, b8, b9, b10⟩ := hf
    refine ⟨?_, ?_, ?_, ?_, fun i hi => ?_, fun i hi => ?_, ?_, fun i hi => ?_, ?_, ?_, ?_⟩
    · rw [if_neg (by omega)]; exact b0
    · rw [if_neg (by omega)]; exact b1
    · rw [if_neg (by omega)]; exact b2
    · rw [if_neg (by omega)]; exact b3
    · rw [if_neg (by omega)]; exact b4 i hi
    · by_cases e : i = s.at_
      · rw [if_pos (by omega)]
        show _ = Value.int .u64 (upd s.now s.at_ x i)
        unfold upd
        rw [if_pos e]
      · rw [if_neg (by omega)]
        show _ = Value.int .u64 (upd s.now s.at_ x i)
        unfold upd
        rw [if_neg e]
        exact b5 i hi
    · rw [if_neg (by omega)]; exact b6
    · rw [if_neg (by omega)]; exact b7 i hi
    · rw [if_neg (by omega)]; exact b8
    · rw [if_neg (by omega)]; exact b9
    · rw [if_neg (by omega)]; exact b10
  · obtain ⟨b0, b1, b2, b3, b4, b5, b6, b7, b8, b9, b10⟩ := hf
    refine ⟨?_, ?_, ?_, ?_, fun i hi => ?_, fun i hi => ?_, ?_, fun i hi => ?_, ?_, ?_, ?_⟩
    · rw [if_neg (by omega)]; exact b0
    · rw [if_neg (by omega)]; exact b1
    · rw [if_pos rfl]; show _ = Value.int .i64 ((s.at_ + 1 : Nat) : Int); push_cast; rfl
    · rw [if_neg (by omega)]; exact b3
    · rw [if_neg (by omega)]; exact b4 i hi
    · rw [if_neg (by omega)]; exact b5 i hi
    · rw [if_neg (by omega)]; exact b6
    · rw [if_neg (by omega)]; exact b7 i hi
    · rw [if_neg (by omega)]; exact b8
    · rw [if_neg (by omega)]; exact b9
    · rw [if_neg (by omega)]; exact b10
set_option maxRecDepth 100000 in
set_option maxHeartbeats 4000000 in
theorem scScan0 {w : World} {bs ps n a : Nat} {lv : Value} {s : Sc} {ad : Adr} {Mu : Nat → Prop} {lw : Lw} (h : ScS w bs ps n lv s ad Mu lw) (hpc : s.pc = 0) (ha : s.at_ = a) (han : a + 1 < n) (hn : n ≤ 16) :
    Calls Try.prog 128 #[.pointer (some ⟨bs, 0, none⟩), .pointer (some ⟨ad.pw, 0, none⟩)] w (ScP w bs ps lv (s.read (lw.mem.tell 0 (a : Int) 0)) ad (lw.mem.acc 0 (a : Int) 0 0)) := by
  have hd : ((a : Int) + 1 == (n : Int)) = false := by simp; omega
  obtain ⟨f0, hrow0, hf0⟩ := h.sc.row
  have c0 := hrow0.cell (i := 0) (by omega)
  have c1 := hrow0.cell (i := 1) (by omega)
  have c2 := hrow0.cell (i := 2) (by omega)
  rw [hf0.p] at c0
  rw [hf0.pc, hpc] at c1
  replace c1 : w.cell? ⟨bs, 1, none⟩ = some (.int .i64 0) := c1
  rw [hf0.at_, ha] at c2
  have c20 := hrow0.cell (i := 20 + a) (by omega)
  have g2 := hrow0.frozen 2
  have g20 := hrow0.frozen (20 + a)
  have zb := hrow0.lt
  obtain ⟨fw, fw1, fw2, fw3, fw4, fw5⟩ := h.wl.cells
  have cw : w.cell? ⟨ad.pw, 0, none⟩ = some (.pointer (some ⟨ad.pm, 0, none⟩)) := by rw [fw1.cell (by omega), fw2]
  have zw := fw1.lt
  have cp := h.base
  have zp := h.pz
  have hzm := h.wl.mem.lt
  obtain ⟨nb1, nb2, nb3, nb4, nb5⟩ := h.nb
  obtain ⟨np1, np2, np3, np4⟩ := h.np
  have mb1 : ¬ bs = ps := nb5
  have mb2 : ¬ ps = bs := fun e => nb5 e.symm
  have mb3 : ¬ bs = ad.pw := nb1
  have mb4 : ¬ ad.pw = bs := fun e => nb1 e.symm
  have kA : IntKind.i64.wrap (a : Int) = (a : Int) := wrap_i64 (by omega) (by omega)
  have kB : IntKind.i64.wrap ((a : Int) + 1) = (a : Int) + 1 := wrap_i64 (by omega) (by omega)
  have ha' : (a : Int) < 16 := by omega
  have N := memRead ad.pm ad.px (a : Int) lw.mem w.drew (h.wl.mem.of_blocks rfl rfl)
  have hwn := h.wl.ne
  have HWN := hide hwn
  have x1 : ¬ 20 + a = 2 := by omega
  have x2 : ¬ 2 = 20 + a := by omega
  have x3 : ¬ 20 + a = 0 := by omega
  have x4 : ¬ 0 = 20 + a := by omega
  have HH := hide h
  have HA := hide ha
  have HPC := hide hpc
  have HN := hide N
  clear h hf0 hrow0 fw1 fw2 fw3 fw4 fw5 N ha hpc hwn
  go_enter Try.func128, Try.ntmps128
  go_upto_region 3 with fail
  refine wp_region_seq (fun Y => Y.cell? ⟨bs, 0, none⟩ = some (.pointer (some ⟨ps, 0, none⟩)) ∧ Y.cell? ⟨bs, 2, none⟩ = some (.int .i64 (a : Int)) ∧ Y.cell? ⟨ad.pw, 0, none⟩ = some (.pointer (some ⟨ad.pm, 0, none⟩)) ∧ Y.cell? ⟨ps, 0, none⟩ = some (.int .i64 0)) (.take 0 <| .take 1 <| .take 2 <| .take 3 <| .take 4 <| .take 5 <| .take 6 <| .take 7 <| .take 8 <| .take 9 <| .take 10 <| .take 11 <| .take 12 <| .take 13 <| .take 14 <| .take 15 <| .take 16 <| .take 17 <| .take 18 <| .take 19 <| .take 20 <| .take 22 <| .take 23 <| .run 21 <| .take 24 <| .run 25 <| .done) (by kernel_rfl) (by kernel_rfl) (by kernel_rfl) (by refine ⟨?_, ?_, ?_, ?_⟩ <;> go_simp) ?_
  iterate 23 (refine seq_take (v := ?_) rfl (by rfl) ?_ ?_; rotate_left; (focus (intro wS hS; obtain ⟨s0, s1, s2, s3⟩ := hS; go_simp; exact rfl)); simp only [Act.put, List.setIfInBounds_toArray, List.set_cons_zero, List.set_cons_succ])
  (refine seq_run rfl (by rfl) (fun K hK => ?_); go_simp)
  refine HN.out.mono ?_
  rintro e w1 ⟨rfl, hm1, hk1⟩
  have hS1 : ScAt w1 bs ps lv s := (HH.out.sc.keep ((Keep.refl (fun _ => True) w).drew) trivial (fun _ _ => trivial)).keep hk1 ⟨nb2, nb3, zb⟩ (fun k hk => ⟨(HH.out.nl k hk).2.1, (HH.out.nl k hk).2.2.1, (HH.out.sc.lst.lt k hk).2⟩)
  obtain ⟨f1, hrow1, hf1⟩ := hS1.row
  have d0 := hrow1.cell (i := 0) (by omega)
  have d2 := hrow1.cell (i := 2) (by omega)
  rw [hf1.p] at d0
  rw [hf1.at_, HA.out] at d2
  have d20 := hrow1.cell (i := 20 + a) (by omega)
  have e2 := hrow1.frozen 2
  have e20 := hrow1.frozen (20 + a)
  have zb1 := hrow1.lt
  have dw : w1.cell? ⟨ad.pw, 0, none⟩ = some (.pointer (some ⟨ad.pm, 0, none⟩)) := (hk1.cell (p := ⟨ad.pw, 0, none⟩) ⟨HWN.out.1, HWN.out.2.1, zw⟩).trans cw
  have dp : w1.cell? ⟨ps, 0, none⟩ = some (.int .i64 0) := (hk1.cell (p := ⟨ps, 0, none⟩) ⟨np2, np3, zp⟩).trans cp
  have dn : w1.cell? ⟨ps, 1, none⟩ = some (.int .i64 (n : Int)) := (hk1.cell (p := ⟨ps, 1, none⟩) ⟨np2, np3, zp⟩).trans HH.out.n_
  refine hK _ _ ⟨d0, d2, dw, dp⟩ ?_
  obtain ⟨x, hx⟩ : ∃ x, lw.mem.tell 0 (a : Int) 0 = x := ⟨_, rfl⟩
  rw [hx]
  have HX := hide hx
  have HK1 := hide hk1
  have HM1 := hide hm1
  have HS1 := hide hS1
  clear hK K hk1 hm1 hS1 hrow1 hf1 c0 c1 c2 c20 g2 g20 zb cw cp hx HN
  (refine seq_take (v := ?_) rfl (by rfl) ?_ ?_; rotate_left; (focus (intro wS hS; obtain ⟨s0, s1, s2, s3⟩ := hS; go_simp; exact rfl)); simp only [Act.put, List.setIfInBounds_toArray, List.set_cons_zero, List.set_cons_succ])
  (refine seq_run rfl (by rfl) (fun K hK => ?_); go_simp)
  refine hK _ _ (by refine ⟨?_, ?_, ?_, ?_⟩ <;> go_simp) ?_
  clear hK K
  refine seq_nil ?_
  go_upto_region 5 with fail
  obtain ⟨w5, hw5⟩ : ∃ X, X = (w1.setCell ⟨bs, 20 + a, none⟩ (.int .u64 x)).setCell ⟨bs, 2, none⟩ (.int .i64 ((a : Int) + 1)) := ⟨_, rfl⟩
  rw [← hw5]
  have hS5 : ScAt w5 bs ps lv (s.read x) := by
    have := HS1.out.read x (by rw [HA.out]; omega)
    rw [HA.out] at this
    rw [hw5]
    exact this
  have hk5 : Keep (fun k => k ≠ bs) w1 w5 := by rw [hw5]; exact ((Keep.refl _ w1).setCell (by simp) _).setCell (by simp) _
  have hn5 : w5.cell? ⟨ps, 1, none⟩ = some (.int .i64 (n : Int)) := (hk5.cell (p := ⟨ps, 1, none⟩) mb2).trans dn
  have hm5 : MemAt w5 ad.pm ad.px .nilFunc (lw.mem.acc 0 (a : Int) 0 0) := HM1.out.of_blocks (hk5.block _ (Ne.symm nb2)) (hk5.block _ (Ne.symm nb3))
  have hkw : Keep (fun k => k < w.heap.size ∧ k ≠ bs ∧ lv.ownBlock ≠ some k ∧ k ≠ ad.pm ∧ k ≠ ad.px) w w5 := (((Keep.refl (fun _ => True) w).drew.mono (fun _ _ => trivial)).trans (HK1.out.mono (fun k hk => ⟨hk.2.2.2.1, hk.2.2.2.2, hk.1⟩))).trans (hk5.mono (fun k hk => hk.2.1))
  clear d0 d2 d20 e2 e20 zb1 dw dp dn hk5 hw5
  obtain ⟨f5, hrow5, hf5⟩ := hS5.row
  have d0 := hrow5.cell (i := 0) (by omega)
  have d1 := hrow5.cell (i := 1) (by omega)
  have d2 := hrow5.cell (i := 2) (by omega)
  rw [hf5.p] at d0
  rw [hf5.pc, show (s.read x).pc = 0 from HPC.out] at d1
  replace d1 : w5.cell? ⟨bs, 1, none⟩ = some (.int .i64 0) := d1
  rw [hf5.at_, show (((s.read x).at_ : Nat) : Int) = (a : Int) + 1 from by show ((s.at_ + 1 : Nat) : Int) = _; rw [HA.out]; push_cast; rfl] at d2
  have zb5 := hrow5.lt
  have HS5 := hide hS5
  have HM5 := hide hm5
  have HKW := hide hkw
  clear hS5 hm5 hkw hrow5 hf5
  refine wp_region_seq (fun Y => Y.cell? ⟨bs, 0, none⟩ = some (.pointer (some ⟨ps, 0, none⟩)) ∧ Y.cell? ⟨bs, 2, none⟩ = some (.int .i64 ((a : Int) + 1)) ∧ Y.cell? ⟨ps, 1, none⟩ = some (.int .i64 (n : Int)) ∧ True) (.take 0 <| .take 1 <| .take 2 <| .take 3 <| .take 4 <| .take 5 <| .take 6 <| .take 7 <| .take 8 <| .take 9 <| .take 10 <| .take 11 <| .done) (by kernel_rfl) (by kernel_rfl) (by kernel_rfl) (by refine ⟨?_, ?_, ?_, trivial⟩ <;> go_simp) ?_
  iterate 12 (refine seq_take (v := ?_) rfl (by rfl) ?_ ?_; rotate_left; (focus (intro wS hS; obtain ⟨s0, s1, s2, s3⟩ := hS; go_simp; exact rfl)); simp only [Act.put, List.setIfInBounds_toArray, List.set_cons_zero, List.set_cons_succ])
  refine seq_nil ?_
  go_wp2
  go_ret
  rw [HX.out]
  refine ⟨?_, ⟨lv, HS5.out.keep ((Keep.refl (fun _ => True) w5).drew) trivial (fun _ _ => trivial), fun k hk => .inl hk⟩, HM5.out.of_blocks rfl rfl, HKW.out.drew⟩
  show _ = Ending.returned (.bool (decide (s.pc = 3)))
  rw [HPC.out]
  rfl
theorem three_eq (q : Nat) : (((q : Nat) : Int) == 3) = decide (q = 3) := by
  by_cases h : q = 3
  · subst h; rfl
  · have : ¬ (q : Int) = 3 := by omega
    simp [h, this]
set_option maxRecDepth 100000 in
set_option maxHeartbeats 4000000 in
theorem scScan0h {w : World} {bs ps n a : Nat} {lv : Value} {s : Sc} {ad : Adr} {Mu : Nat → Prop} {lw : Lw} {X : Int} (h : ScS w bs ps n lv s ad Mu lw) (hpc : s.pc = 0) (ha : s.at_ = a) (han : a + 1 = n) (hn : n ≤ 16) (hx0 : lw.mem.tell 0 (a : Int) 0 = X) (hzero : ∀ i, n ≤ i → s.old i = 0 ∧ s.now i = 0) (hr : s.rounds ≤ 1000000) (hl : s.list = []) (htr : ∀ t, fndN n (s.read X) = some t → 0 ≤ (s.read X).now t ∧ (s.read X).now t ≤ 9223372036854775807 ∧ lw.traces ((s.read X).now t) ≠ []) :
    Calls Try.prog 128 #[.pointer (some ⟨bs, 0, none⟩), .pointer (some ⟨ad.pw, 0, none⟩)] w (ScP w bs ps lv ((s.read X).held n lw.now lw.traces) ad (lw.mem.acc 0 (a : Int) 0 0)) := by
  have hd : ((a : Int) + 1 == (n : Int)) = true := by simp; omega
  have HHL := hide (show (∀ i, n ≤ i → (s.read X).old i = 0 ∧ (s.read X).now i = 0) ∧ s.rounds ≤ 1000000 ∧ s.list = [] from ⟨fun i hi => ⟨(hzero i hi).1, by show upd s.now s.at_ X i = 0; unfold upd; rw [if_neg (by omega)]; exact (hzero i hi).2⟩, hr, hl⟩)
  have HTR := hide htr
  have HX0 := hide hx0
  clear hzero hr hl htr hx0
  obtain ⟨PC, hPQ⟩ : ∃ p, ((s.read X).held n lw.now lw.traces).pc = p := ⟨_, rfl⟩
  have HPQ0 := hide hPQ
  clear hPQ
  obtain ⟨f0, hrow0, hf0⟩ := h.sc.row
  have c0 := hrow0.cell (i := 0) (by omega)
  have c1 := hrow0.cell (i := 1) (by omega)
  have c2 := hrow0.cell (i := 2) (by omega)
  rw [hf0.p] at c0
  rw [hf0.pc, hpc] at c1
  replace c1 : w.cell? ⟨bs, 1, none⟩ = some (.int .i64 0) := c1
  rw [hf0.at_, ha] at c2
  have c20 := hrow0.cell (i := 20 + a) (by omega)
  have g2 := hrow0.frozen 2
  have g20 := hrow0.frozen (20 + a)
  have zb := hrow0.lt
  obtain ⟨fw, fw1, fw2, fw3, fw4, fw5⟩ := h.wl.cells
  have cw : w.cell? ⟨ad.pw, 0, none⟩ = some (.pointer (some ⟨ad.pm, 0, none⟩)) := by rw [fw1.cell (by omega), fw2]
  have zw := fw1.lt
  have cp := h.base
  have zp := h.pz
  have hzm := h.wl.mem.lt
  obtain ⟨nb1, nb2, nb3, nb4, nb5⟩ := h.nb
  obtain ⟨np1, np2, np3, np4⟩ := h.np
  have mb1 : ¬ bs = ps := nb5
  have mb2 : ¬ ps = bs := fun e => nb5 e.symm
  have mb3 : ¬ bs = ad.pw := nb1
  have mb4 : ¬ ad.pw = bs := fun e => nb1 e.symm
  have kA : IntKind.i64.wrap (a : Int) = (a : Int) := wrap_i64 (by omega) (by omega)
  have kB : IntKind.i64.wrap ((a : Int) + 1) = (a : Int) + 1 := wrap_i64 (by omega) (by omega)
  have ha' : (a : Int) < 16 := by omega
  have N := memRead ad.pm ad.px (a : Int) lw.mem w.drew (h.wl.mem.of_blocks rfl rfl)
  have hwn := h.wl.ne
  have HWN := hide hwn
  have x1 : ¬ 20 + a = 2 := by omega
  have x2 : ¬ 2 = 20 + a := by omega
  have x3 : ¬ 20 + a = 0 := by omega
  have x4 : ¬ 0 = 20 + a := by omega
  have HH := hide h
  have HA := hide ha
  have HPC := hide hpc
  have HN := hide N
  clear h hf0 hrow0 fw1 fw2 fw3 fw4 fw5 N ha hpc hwn
  go_enter Try.func128, Try.ntmps128
  go_upto_region 3 with fail
  refine wp_region_seq (fun Y => Y.cell? ⟨bs, 0, none⟩ = some (.pointer (some ⟨ps, 0, none⟩)) ∧ Y.cell? ⟨bs, 2, none⟩ = some (.int .i64 (a : Int)) ∧ Y.cell? ⟨ad.pw, 0, none⟩ = some (.pointer (some ⟨ad.pm, 0, none⟩)) ∧ Y.cell? ⟨ps, 0, none⟩ = some (.int .i64 0)) (.take 0 <| .take 1 <| .take 2 <| .take 3 <| .take 4 <| .take 5 <| .take 6 <| .take 7 <| .take 8 <| .take 9 <| .take 10 <| .take 11 <| .take 12 <| .take 13 <| .take 14 <| .take 15 <| .take 16 <| .take 17 <| .take 18 <| .take 19 <| .take 20 <| .take 22 <| .take 23 <| .run 21 <| .take 24 <| .run 25 <| .done) (by kernel_rfl) (by kernel_rfl) (by kernel_rfl) (by refine ⟨?_, ?_, ?_, ?_⟩ <;> go_simp) ?_
  iterate 23 (refine seq_take (v := ?_) rfl (by rfl) ?_ ?_; rotate_left; (focus (intro wS hS; obtain ⟨s0, s1, s2, s3⟩ := hS; go_simp; exact rfl)); simp only [Act.put, List.setIfInBounds_toArray, List.set_cons_zero, List.set_cons_succ])
  (refine seq_run rfl (by rfl) (fun K hK => ?_); go_simp)
  refine HN.out.mono ?_
  rintro e w1 ⟨rfl, hm1, hk1⟩
  have hS1 : ScAt w1 bs ps lv s := (HH.out.sc.keep ((Keep.refl (fun _ => True) w).drew) trivial (fun _ _ => trivial)).keep hk1 ⟨nb2, nb3, zb⟩ (fun k hk => ⟨(HH.out.nl k hk).2.1, (HH.out.nl k hk).2.2.1, (HH.out.sc.lst.lt k hk).2⟩)
  obtain ⟨f1, hrow1, hf1⟩ := hS1.row
  have d0 := hrow1.cell (i := 0) (by omega)
  have d2 := hrow1.cell (i := 2) (by omega)
  rw [hf1.p] at d0
  rw [hf1.at_, HA.out] at d2
  have d20 := hrow1.cell (i := 20 + a) (by omega)
  have e2 := hrow1.frozen 2
  have e20 := hrow1.frozen (20 + a)
  have zb1 := hrow1.lt
  have dw : w1.cell? ⟨ad.pw, 0, none⟩ = some (.pointer (some ⟨ad.pm, 0, none⟩)) := (hk1.cell (p := ⟨ad.pw, 0, none⟩) ⟨HWN.out.1, HWN.out.2.1, zw⟩).trans cw
  have dp : w1.cell? ⟨ps, 0, none⟩ = some (.int .i64 0) := (hk1.cell (p := ⟨ps, 0, none⟩) ⟨np2, np3, zp⟩).trans cp
  have dn : w1.cell? ⟨ps, 1, none⟩ = some (.int .i64 (n : Int)) := (hk1.cell (p := ⟨ps, 1, none⟩) ⟨np2, np3, zp⟩).trans HH.out.n_
  refine hK _ _ ⟨d0, d2, dw, dp⟩ ?_
  obtain ⟨x, hx⟩ : ∃ x, lw.mem.tell 0 (a : Int) 0 = x := ⟨_, rfl⟩
  rw [hx]
  have HX := hide hx
  have HK1 := hide hk1
  have HM1 := hide hm1
  have HS1 := hide hS1
  clear hK K hk1 hm1 hS1 hrow1 hf1 c0 c1 c2 c20 g2 g20 zb cw cp hx HN
  (refine seq_take (v := ?_) rfl (by rfl) ?_ ?_; rotate_left; (focus (intro wS hS; obtain ⟨s0, s1, s2, s3⟩ := hS; go_simp; exact rfl)); simp only [Act.put, List.setIfInBounds_toArray, List.set_cons_zero, List.set_cons_succ])
  (refine seq_run rfl (by rfl) (fun K hK => ?_); go_simp)
  refine hK _ _ (by refine ⟨?_, ?_, ?_, ?_⟩ <;> go_simp) ?_
  clear hK K
  refine seq_nil ?_
  go_upto_region 5 with fail
  obtain ⟨w5, hw5⟩ : ∃ X, X = (w1.setCell ⟨bs, 20 + a, none⟩ (.int .u64 x)).setCell ⟨bs, 2, none⟩ (.int .i64 ((a : Int) + 1)) := ⟨_, rfl⟩
  rw [← hw5]
  have hS5 : ScAt w5 bs ps lv (s.read x) := by
    have := HS1.out.read x (by rw [HA.out]; omega)
    rw [HA.out] at this
    rw [hw5]
    exact this
  have hk5 : Keep (fun k => k ≠ bs) w1 w5 := by rw [hw5]; exact ((Keep.refl _ w1).setCell (by simp) _).setCell (by simp) _
  have hn5 : w5.cell? ⟨ps, 1, none⟩ = some (.int .i64 (n : Int)) := (hk5.cell (p := ⟨ps, 1, none⟩) mb2).trans dn
  have hm5 : MemAt w5 ad.pm ad.px .nilFunc (lw.mem.acc 0 (a : Int) 0 0) := HM1.out.of_blocks (hk5.block _ (Ne.symm nb2)) (hk5.block _ (Ne.symm nb3))
  have hkw : Keep (fun k => k < w.heap.size ∧ k ≠ bs ∧ lv.ownBlock ≠ some k ∧ k ≠ ad.pm ∧ k ≠ ad.px) w w5 := (((Keep.refl (fun _ => True) w).drew.mono (fun _ _ => trivial)).trans (HK1.out.mono (fun k hk => ⟨hk.2.2.2.1, hk.2.2.2.2, hk.1⟩))).trans (hk5.mono (fun k hk => hk.2.1))
  clear d0 d2 d20 e2 e20 zb1 dw dp dn hk5 hw5
  obtain ⟨f5, hrow5, hf5⟩ := hS5.row
  have d0 := hrow5.cell (i := 0) (by omega)
  have d1 := hrow5.cell (i := 1) (by omega)
  have d2 := hrow5.cell (i := 2) (by omega)
  rw [hf5.p] at d0
  rw [hf5.pc, show (s.read x).pc = 0 from HPC.out] at d1
  replace d1 : w5.cell? ⟨bs, 1, none⟩ = some (.int .i64 0) := d1
  rw [hf5.at_, show (((s.read x).at_ : Nat) : Int) = (a : Int) + 1 from by show ((s.at_ + 1 : Nat) : Int) = _; rw [HA.out]; push_cast; rfl] at d2
  have zb5 := hrow5.lt
  have HS5 := hide hS5
  have HM5 := hide hm5
  have HKW := hide hkw
  clear hS5 hm5 hkw hrow5 hf5
  refine wp_region_seq (fun Y => Y.cell? ⟨bs, 0, none⟩ = some (.pointer (some ⟨ps, 0, none⟩)) ∧ Y.cell? ⟨bs, 2, none⟩ = some (.int .i64 ((a : Int) + 1)) ∧ Y.cell? ⟨ps, 1, none⟩ = some (.int .i64 (n : Int)) ∧ True) (.take 0 <| .take 1 <| .take 2 <| .take 3 <| .take 4 <| .take 5 <| .take 6 <| .take 7 <| .take 8 <| .take 9 <| .take 10 <| .take 11 <| .done) (by kernel_rfl) (by kernel_rfl) (by kernel_rfl) (by refine ⟨?_, ?_, ?_, trivial⟩ <;> go_simp) ?_
  iterate 12 (refine seq_take (v := ?_) rfl (by rfl) ?_ ?_; rotate_left; (focus (intro wS hS; obtain ⟨s0, s1, s2, s3⟩ := hS; go_simp; exact rfl)); simp only [Act.put, List.setIfInBounds_toArray, List.set_cons_zero, List.set_cons_succ])
  refine seq_nil ?_
  have hxx : X = x := HX0.out.symm.trans HX.out
  subst hxx
  have hwl : WL w5.drew ad Mu { lw with mem := lw.mem.acc 0 (a : Int) 0 0 } := HH.out.wl.memTo2 (S := fun k => k < w.heap.size ∧ k ≠ bs ∧ lv.ownBlock ≠ some k ∧ k ≠ ad.pm ∧ k ≠ ad.px) (HM5.out.of_blocks rfl rfl) HKW.out.drew (fun k hk hm => ⟨hk, fun e => hm (e ▸ HH.out.mub), fun e => hm (HH.out.mul k e), fun e => hm (HH.out.four k (Or.inr (Or.inl e))), fun e => hm (HH.out.four k (Or.inr (Or.inr (Or.inl e))))⟩) ⟨⟨zw, mb4, fun e => (HH.out.nl _ e).1 rfl, HWN.out.1, HWN.out.2.1⟩, ⟨HH.out.wl.lt.2.2.2, Ne.symm nb4, fun e => (HH.out.nl _ e).2.2.2.1 rfl, HWN.out.2.2.2.1, HWN.out.2.2.2.2.1⟩⟩ (fun _ _ h => h)
  have NH := scHeld (n := n) (HS5.out.keep ((Keep.refl (fun _ => True) w5).drew) trivial (fun _ _ => trivial)) hwl HH.out.mub ⟨Ne.symm nb1, Ne.symm nb4⟩ (show w5.drew.cell? ⟨ps, 1, none⟩ = _ from hn5) ⟨Nat.lt_of_lt_of_le zp HKW.out.size, mb2, fun e => (HH.out.nl _ e).2.2.2.2 rfl⟩ hn HHL.out.1 HHL.out.2.1 HHL.out.2.2 HTR.out
  have HNH := hide NH
  have hPQ := HPQ0.out
  clear NH hwl hn5
  go_wp2_with fail
  refine HNH.out.mono ?_
  clear HNH
  rintro e w6 ⟨rfl, lv6, hS6, hO6, hk6⟩
  obtain ⟨f6, hrow6, hf6⟩ := hS6.row
  have y1 := hrow6.cell (i := 1) (by omega)
  rw [hf6.pc, hPQ] at y1
  have zb6 := hrow6.lt
  have HS6 := hide hS6
  have HO6 := hide hO6
  have HK6 := hide hk6
  have HPQ := hide hPQ
  clear hS6 hO6 hk6 hrow6 hf6 hPQ
  go_wp2
  go_ret
  refine ⟨?_, ⟨lv6, HS6.out, fun k hk => ?_⟩, ?_, ?_⟩
  · show Ending.returned (.bool ((PC : Int) == 3)) = _
    rw [HPQ.out, three_eq]
  · rcases HO6.out k hk with h | h
    · exact Or.inl h
    · exact Or.inr (Nat.le_trans HKW.out.size h)
  · exact HM5.out.of_blocks (HK6.out.block _ ⟨HM5.out.lt.1, Ne.symm nb2, fun e => (HH.out.nl _ e).2.1 rfl⟩) (HK6.out.block _ ⟨HM5.out.lt.2, Ne.symm nb3, fun e => (HH.out.nl _ e).2.2.1 rfl⟩)
  · exact HKW.out.drew.trans (HK6.out.mono (fun k hk => ⟨Nat.lt_of_lt_of_le hk.1 HKW.out.size, hk.2.1, hk.2.2.1⟩))
end Go.Proofs.Ytlfingcmekifkaa
