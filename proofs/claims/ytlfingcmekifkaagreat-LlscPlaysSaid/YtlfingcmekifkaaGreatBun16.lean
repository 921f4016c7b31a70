import Derived.Test.YtlfingcmekifkaaGreatBun15
namespace Go.Proofs.YtlfingcmekifkaaGreat
open Go.RowKit
def spEnc (s : Int × Int × Int) : List Value := [.int .i64 s.1, .int .i64 s.2.1, .int .i64 s.2.2]
abbrev SlSp := Sl spEnc 3
theorem sp_cells {w : World} {b p : Nat} {s : Int × Int × Int} (h : CellsAt w b p (spEnc s)) : w.cell? ⟨b, p, none⟩ = some (.int .i64 s.1) ∧ w.cell? ⟨b, p + 1, none⟩ = some (.int .i64 s.2.1) ∧ w.cell? ⟨b, p + 2, none⟩ = some (.int .i64 s.2.2) := ⟨h 0 _ rfl, h 1 _ rfl, h 2 _ rfl⟩
def PlainDo (D : Dof) (n : Nat) (sps : List (Int × Int × Int)) (bases : List Int) : Prop := ∀ {w : World} {hb wp q nh th : Nat} {g f : Nat → Value} {X : Rv} {T : Tp} {W : Rw} {Mu : Nat → Prop} (c : Cl) (sp : Int × Int × Int) (b : Int), 0 ≤ c.obj → sps[c.obj.toNat]? = some sp → bases[c.obj.toNat]? = some b → DoAt w hb wp q nh th g f X T W Mu → th < 16 → (T.fresh = true → RtB T W) → ClB c → TBd T W → T.priv.length ≤ 1000000 →
  Calls Tryz.prog 61 #[.pointer (some ⟨hb, q, none⟩), .int .i64 n, .int .i64 b, spV sp.1 sp.2.1 sp.2.2, clV c] w fun e w' => e = .returned (.tuple #[]) ∧ DoR w hb wp q nh th g f X Mu (D th c T W).1 (D th c T W).2 w'
theorem againW_size (w : World) (hb q : Nat) : (againW w hb q).heap.size = w.heap.size := by simp [againW]
theorem again_keep (w : World) (hb q : Nat) : Keep (fun k => k ≠ hb) w (againW w hb q) := by
  unfold againW
  exact (((((((Keep.refl _ w).setCell (by simp) _).setCell (by simp) _).setCell (by simp) _).setCell (by simp) _).setCell (by simp) _).setCell (by simp) _).setCell (by simp) _
section
variable {w w1 : World} {hb wp q nh th : Nat} {g f : Nat → Value} {X : Rv} {T T' : Tp} {W : Rw} {Mu : Nat → Prop}
theorem DoR.ofAgain {g' : Nat → Value} {X' : Rv} {T2 : Tp} {W2 : Rw} {w2 : World} (hg : ∀ i, (i < q ∨ q + 13 ≤ i) → g' i = g i) (hX : X'.wv = X.wv ∧ X'.lg = X.lg ∧ X'.gv = X.gv ∧ X'.tv = X.tv) (h : DoR (againW w hb q) hb wp q nh th g' f X' Mu T2 W2 w2) : DoR w hb wp q nh th g f X Mu T2 W2 w2 := by
  obtain ⟨g1, f1, X1, h1, h2, h3, h4, h5, h6⟩ := h
  have e4 : ∀ k, X'.four k ↔ X.four k := fun k => by unfold Rv.four; rw [hX.1, hX.2.1, hX.2.2.1, hX.2.2.2]
  rw [againW_size] at h5 h6
  exact ⟨g1, f1, X1, h1, h2.trans hX.1, fun i hi => (h3 i hi).trans (hg i hi), h4, fun k hk => (h5 k hk).imp (e4 k).1 id, ((again_keep w hb q).mono (fun k hk => hk.2.1)).trans (h6.mono (fun k hk => ⟨hk.1, hk.2.1, hk.2.2.1, fun e => hk.2.2.2 ((e4 k).1 e)⟩))⟩
end
set_option maxRecDepth 100000 in
set_option maxHeartbeats 4000000 in
theorem plainStep {w : World} {hb wp p nh th n no : Nat} {g f : Nat → Value} {X : Rv} {T : Tp} {W : Rw} {Mu : Nat → Prop} {D : Dof} {sps : List (Int × Int × Int)} {bases : List Int} {As Ab : Option Addr} {cs cb ob oo cO : Nat} {ow : Nat → List Int} (c : Cl) (HD : PlainDo D n sps bases) (h : DoAt w hb wp (p + 2) nh th g f X T W Mu) (hnh : p + 16 ≤ nh) (hth : th < 16) (hB : RtB T W) (hcb : ClB c) (htb : (∀ x ∈ T.got, Wd x) ∧ (∀ k, ∀ x ∈ ow k, Wd x) ∧ ∀ x ∈ W.mem.words, Wd x)
    (hown : g (p + 15) = .slice (some ⟨ob, oo, none⟩) no cO) (hob : ob < w.heap.size ∧ ob ≠ hb ∧ no ≤ 1000) (hlist : ∀ k, k < no → (ow k).length ≤ 1000000 ∧ ∃ v, w.cell? ⟨ob, oo + k, none⟩ = some v ∧ LstIs w Mu v (ow k))
    (hsp : SlSp w (.slice As no cs) sps) (hs1 : sps.length = no) (hs2 : ∀ a, As = some a → a.block ≠ hb) (hbs : SlI w (.slice Ab no cb) bases) (hb1 : bases.length = no) (hb2 : ∀ a, Ab = some a → a.block ≠ hb) :
    Calls Tryz.prog 45 #[.pointer (some ⟨hb, p, none⟩), .int .i64 n, .slice As no cs, .slice Ab no cb, clV c] w fun e w' => e = .returned (.tuple #[]) ∧ DoR w hb wp (p + 2) nh th g f X Mu (runT D no th c ow T W).1 (runT D no th c ow T W).2 w' := by
  have HCB := hide hcb
  have HTB := hide htb
  clear hcb htb
  obtain ⟨g', hA, hg'⟩ := h.again
  have hz := h.at_.hrow.lt
  have q0 := h.at_.hrow.frozen (p + 7)
  have q1 := h.at_.hrow.frozen (p + 8)
  have q2 := h.at_.hrow.frozen (p + 9)
  have q3 := h.at_.hrow.frozen (p + 11)
  have q4 := h.at_.hrow.frozen (p + 12)
  have q5 := h.at_.hrow.frozen (p + 13)
  have q6 := h.at_.hrow.frozen (p + 14)
  have r0 := h.at_.hrow.cell (i := p + 7) (by omega)
  have r1 := h.at_.hrow.cell (i := p + 8) (by omega)
  have r2 := h.at_.hrow.cell (i := p + 9) (by omega)
  have r3 := h.at_.hrow.cell (i := p + 11) (by omega)
  have r4 := h.at_.hrow.cell (i := p + 12) (by omega)
  have r5 := h.at_.hrow.cell (i := p + 13) (by omega)
  have r6 := h.at_.hrow.cell (i := p + 14) (by omega)
  have hkA : Keep (fun k => k < w.heap.size ∧ k ≠ hb) w ((againW w hb (p + 2)).alloc (.cells #[.int .i64 c.thread, .int .i64 c.obj, .int .i64 c.kind, .int .u64 c.a, .int .u64 c.b, .int .u64 c.c] 48)) := ((again_keep w hb (p + 2)).mono (fun k hk => hk.2)).alloc (fun k hk => by rw [againW_size]; exact hk.1) _
  have hbA : Below (againW w hb (p + 2)).heap.size (againW w hb (p + 2)) ((againW w hb (p + 2)).alloc (.cells #[.int .i64 c.thread, .int .i64 c.obj, .int .i64 c.kind, .int .u64 c.a, .int .u64 c.b, .int .u64 c.c] 48)) := (Below.refl _ _).alloc (Nat.le_refl _) _
  have hAA := hA.grow hbA
  have hszA : (((againW w hb (p + 2)).alloc (.cells #[.int .i64 c.thread, .int .i64 c.obj, .int .i64 c.kind, .int .u64 c.a, .int .u64 c.b, .int .u64 c.c] 48))).heap.size = w.heap.size + 1 := by simp [againW_size]
  have o15 : (((againW w hb (p + 2)).alloc (.cells #[.int .i64 c.thread, .int .i64 c.obj, .int .i64 c.kind, .int .u64 c.a, .int .u64 c.b, .int .u64 c.c] 48))).cell? ⟨hb, p + 15, none⟩ = some (.slice (some ⟨ob, oo, none⟩) no cO) := by
    rw [← hown, ← hg' (p + 15) (Or.inr (by omega))]
    exact hAA.at_.hrow.cell (by omega)
  have k0 : (((againW w hb (p + 2)).alloc (.cells #[.int .i64 c.thread, .int .i64 c.obj, .int .i64 c.kind, .int .u64 c.a, .int .u64 c.b, .int .u64 c.c] 48))).cell? ⟨w.heap.size, 0, none⟩ = some (.int .i64 c.thread) := by rw [← againW_size w hb (p + 2)]; go_simp
  have k1 : (((againW w hb (p + 2)).alloc (.cells #[.int .i64 c.thread, .int .i64 c.obj, .int .i64 c.kind, .int .u64 c.a, .int .u64 c.b, .int .u64 c.c] 48))).cell? ⟨w.heap.size, 1, none⟩ = some (.int .i64 c.obj) := by rw [← againW_size w hb (p + 2)]; go_simp
  have k2 : (((againW w hb (p + 2)).alloc (.cells #[.int .i64 c.thread, .int .i64 c.obj, .int .i64 c.kind, .int .u64 c.a, .int .u64 c.b, .int .u64 c.c] 48))).cell? ⟨w.heap.size, 2, none⟩ = some (.int .i64 c.kind) := by rw [← againW_size w hb (p + 2)]; go_simp
  have k3 : (((againW w hb (p + 2)).alloc (.cells #[.int .i64 c.thread, .int .i64 c.obj, .int .i64 c.kind, .int .u64 c.a, .int .u64 c.b, .int .u64 c.c] 48))).cell? ⟨w.heap.size, 3, none⟩ = some (.int .u64 c.a) := by rw [← againW_size w hb (p + 2)]; go_simp
  have k4 : (((againW w hb (p + 2)).alloc (.cells #[.int .i64 c.thread, .int .i64 c.obj, .int .i64 c.kind, .int .u64 c.a, .int .u64 c.b, .int .u64 c.c] 48))).cell? ⟨w.heap.size, 4, none⟩ = some (.int .u64 c.b) := by rw [← againW_size w hb (p + 2)]; go_simp
  have k5 : (((againW w hb (p + 2)).alloc (.cells #[.int .i64 c.thread, .int .i64 c.obj, .int .i64 c.kind, .int .u64 c.a, .int .u64 c.b, .int .u64 c.c] 48))).cell? ⟨w.heap.size, 5, none⟩ = some (.int .u64 c.c) := by rw [← againW_size w hb (p + 2)]; go_simp
  have HAA := hide hAA
  have HG := hide hg'
  have HKA := hide hkA
  have HH := hide h
  have hwa : (((((((w.setCell ⟨hb, p + 7, none⟩ (.int .i64 0)).setCell ⟨hb, p + 8, none⟩ (.bool true)).setCell ⟨hb, p + 9, none⟩ (.bool false)).setCell ⟨hb, p + 11, none⟩ (.int .i64 0)).setCell ⟨hb, p + 12, none⟩ (.int .u64 0)).setCell ⟨hb, p + 13, none⟩ (.slice none 0 0)).setCell ⟨hb, p + 14, none⟩ (.slice none 0 0)).alloc (.cells #[.int .i64 c.thread, .int .i64 c.obj, .int .i64 c.kind, .int .u64 c.a, .int .u64 c.b, .int .u64 c.c] 48) = ((againW w hb (p + 2)).alloc (.cells #[.int .i64 c.thread, .int .i64 c.obj, .int .i64 c.kind, .int .u64 c.a, .int .u64 c.b, .int .u64 c.c] 48)) := rfl
  have HWA := hide hwa
  obtain ⟨FIN, hFIN⟩ : ∃ FIN, runT D no th c ow T W = FIN := ⟨_, rfl⟩
  rw [hFIN]
  have HFIN := hide hFIN
  unfold clV
  have HBA := hide hbA
  clear hA hAA hg' hkA h hown hwa hbA hFIN
  go_enter Tryz.func45, Tryz.ntmps45
  go_upto_region 9 with fail
  rw [HWA.out]
  generalize hWA : ((againW w hb (p + 2)).alloc (.cells #[.int .i64 c.thread, .int .i64 c.obj, .int .i64 c.kind, .int .u64 c.a, .int .u64 c.b, .int .u64 c.c] 48)) = wA at *
  clear HWA hWA q0 q1 q2 q3 q4 q5 q6 r0 r1 r2 r3 r4 r5 r6
  have fA9 := HAA.out.at_.hrow.frozen (p + 11)
  have cA9 := HAA.out.at_.hrow.cell (i := p + 11) (by omega)
  rw [show p + 11 = p + 2 + 9 from rfl, HAA.out.at_.tp.err] at cA9
  have hzA := HAA.out.at_.hrow.lt
  have HT : Hid (T.got.length + 1 ≤ 100000 ∧ T.tks.length + 1 ≤ 100000 ∧ W.log.length + 1 ≤ 100000) := hide hB
  by_cases hin : 0 ≤ c.obj ∧ c.obj < no
  · have d0 : decide (c.obj < 0) = false := by simp; omega
    have d1 : decide ((no : Int) ≤ c.obj) = false := by simp; omega
    obtain ⟨k, hk⟩ : ∃ k : Nat, c.obj = k := ⟨c.obj.toNat, by omega⟩
    have hkn : k < no := by omega
    obtain ⟨hl, v, hv, hL⟩ := hlist k hkn
    have hvA := (HKA.out.cell (p := ⟨ob, oo + k, none⟩) ⟨hob.1, hob.2.1⟩).trans hv
    have hLA := hL.keep HKA.out (fun j j1 j2 => ⟨j1, fun e => by subst e; exact j2 HH.out.mu.1⟩) (fun _ _ h => h)
    obtain ⟨Av, cv, rfl, hSA, hMA⟩ := hLA
    have HF : Hid (D th c { T.again with priv := ow k } W = FIN) := hide (by rw [← HFIN.out]; unfold runT; rw [if_pos hin, hk]; rfl)
    have HSA := hide hSA
    have HMA := hide hMA
    have HLL := hide hl
    clear hlist hl hv hL hSA hMA
    go_wp2_with fail
    refine wp_region_seq (fun Y => Y.cell? ⟨hb, p + 15, none⟩ = some (.slice (some ⟨ob, oo, none⟩) no cO) ∧ Y.cell? ⟨w.heap.size, 1, none⟩ = some (.int .i64 c.obj) ∧ Y.cell? ⟨ob, oo + k, none⟩ = some (.slice Av (ow k).length cv)) (.take 0 <| .take 2 <| .take 3 <| .take 4 <| .take 5 <| .take 6 <| .take 7 <| .take 8 <| .take 9 <| .run 1 <| .run 10 <| .take 11 <| .take 12 <| .run 13 <| .done) (by kernel_rfl) (by kernel_rfl) (by kernel_rfl) (by refine ⟨?_, ?_, ?_⟩ <;> go_simp) ?_
    iterate 9 (refine seq_take (v := ?_) rfl (by rfl) ?_ ?_; rotate_left; (focus (intro wS hS; obtain ⟨s0, s1, s2⟩ := hS; go_simp; exact rfl)); simp only [Act.put, List.setIfInBounds_toArray, List.set_cons_zero, List.set_cons_succ])
    refine seq_run rfl (by rfl) (fun K hK => ?_)
    go_simp
    refine hK _ _ (by refine ⟨?_, ?_, ?_⟩ <;> go_simp) ?_
    clear hK K
    refine seq_run rfl (by rfl) (fun K hK => ?_)
    obtain ⟨i0, hi, hz0, hz1, hz2⟩ := info_parts info_word
    refine wp_append_sl (kk := .u64) _ _ 28 rfl wA.heap.size 46 i0 (.int .u64 0) 8 Tryz.underlying28 hi hz0 hz1 hz2 rfl (.slice (some ⟨w.heap.size + 1, 0, none⟩) 0 0) 0 [] (by rfl) (by rw [← hszA]; exact World.ownsRow.drew (World.ownsRow_made wA #[] 0 (Nat.le_refl _) (Nat.zero_le _) rfl)) Av _ cv (ow k) (by rfl) (HSA.out.below (((Below.refl _ _).alloc (Nat.le_refl _) _).drew) (Nat.le_refl _)) (by have := HLL.out; unfold maxLen; omega) (by have := HLL.out; omega) (by simp) ?_
    intro v7 w7 hown7 hgrow7 _
    have hB7 : Below wA.heap.size wA w7 := Below.grown (row := some (w.heap.size + 1)) (((Below.refl _ wA).alloc (Nat.le_refl _) _).drew) hgrow7 (by simp) (fun k hk => by have := Option.some.inj (show some (w.heap.size + 1) = some k from hk); omega)
    obtain ⟨A7, c7, rfl⟩ := own_slice hown7
    have hown8 : w7.ownsRow wA.heap.size 46 1 (.slice A7 (0 + (ow k).length) c7) (ow k).length ((ow k).map (Value.int .u64)) := by
      have := hown7
      rw [List.nil_append] at this
      rw [show (ow k).length = 0 + (ow k).length by omega]
      simpa using this
    have hn0 : 0 + (ow k).length = (ow k).length := Nat.zero_add _
    rw [hn0] at hown8 ⊢
    have hl7 : LstIs w7 (fun j => j < wA.heap.size) (.slice A7 (ow k).length c7) (ow k) := ⟨A7, c7, rfl, wrow_sl (l := ow k) hown8 (by have := HLL.out; unfold maxLen; omega), fun a ha => by
      have := World.ownsRow.lt hown8 a.block (by subst ha; rfl)
      exact ⟨by omega, this.2⟩⟩
    have hP := HAA.out.prv hB7 _ hl7
    have at7 := HAA.out.grow hB7
    have f78 := at7.at_.hrow.frozen (p + 10)
    have c78 := at7.at_.hrow.cell (i := p + 10) (by omega)
    rw [show p + 10 = p + 2 + 8 from rfl, at7.at_.tp.priv] at c78
    have hz7 := at7.at_.hrow.lt
    have s70 := (hB7.cell (p := ⟨hb, p + 15, none⟩) hzA).trans o15
    have s71 := (hB7.cell (p := ⟨w.heap.size, 1, none⟩) (by rw [hszA]; exact Nat.lt_succ_self _)).trans k1
    have s72 := (hB7.cell (p := ⟨ob, oo + k, none⟩) (by rw [hszA]; have := hob.1; exact Nat.lt_succ_of_lt this)).trans hvA
    have HP := hide hP
    have HB7 := hide hB7
    refine hK _ _ ⟨s70, s71, s72⟩ ?_
    clear hK K hP hB7 at7 hown7 hown8 hl7 hgrow7 hn0
    iterate 2 (refine seq_take (v := ?_) rfl (by rfl) ?_ ?_; rotate_left; (focus (intro wS hS; obtain ⟨s0, s1, s2⟩ := hS; go_simp; exact rfl)); simp only [Act.put, List.setIfInBounds_toArray, List.set_cons_zero, List.set_cons_succ])
    refine seq_run rfl (by rfl) (fun K hK => ?_)
    go_simp
    refine hK _ _ (by refine ⟨?_, ?_, ?_⟩ <;> go_simp) ?_
    clear hK K
    refine seq_nil ?_
    obtain ⟨sp, hsk⟩ : ∃ sp, sps[k]? = some sp := ⟨_, List.getElem?_eq_getElem (by omega)⟩
    obtain ⟨b, hbk⟩ : ∃ b, bases[k]? = some b := ⟨_, List.getElem?_eq_getElem (by omega)⟩
    obtain ⟨_, _, e1, _, _, h31⟩ := hsp
    injection e1 with e1a e1b e1c
    subst e1a
    obtain ⟨b1, o1, rfl, hz1', hc1⟩ := h31 k sp hsk
    obtain ⟨_, _, e2, _, _, h32⟩ := hbs
    injection e2 with e2a e2b e2c
    subst e2a
    obtain ⟨b2, o2, rfl, hz2', hc2⟩ := h32 k b hbk
    obtain ⟨x0, x1, x2⟩ := sp_cells hc1
    have y0 := nt_cell hc2
    have nb1 : b1 ≠ hb := hs2 _ rfl
    have nb2 : b2 ≠ hb := hb2 _ rfl
    rw [Nat.mul_one] at y0
    have hk78 : Keep (fun j => j < wA.heap.size ∧ j ≠ hb) wA (w7.setCell ⟨hb, p + 2 + 8, none⟩ (.slice A7 (ow k).length c7)) := ((Keep.of_below (K := fun j => j < wA.heap.size) HB7.out (fun k hk => hk)).mono (fun j hj => hj.1)).setCell (fun hh => hh.2 rfl) _
    have hk08 : Keep (fun j => j < w.heap.size ∧ j ≠ hb) w (w7.setCell ⟨hb, p + 2 + 8, none⟩ (.slice A7 (ow k).length c7)) := HKA.out.trans (hk78.mono (fun j hj => ⟨by rw [hszA]; exact Nat.lt_succ_of_lt hj.1, hj.2⟩))
    generalize w7.setCell ⟨hb, p + 2 + 8, none⟩ (.slice A7 (ow k).length c7) = w8 at *
    replace x0 := (hk08.cell (p := ⟨b1, o1 + k * 3, none⟩) ⟨hz1', nb1⟩).trans x0
    replace x1 := (hk08.cell (p := ⟨b1, o1 + k * 3 + 1, none⟩) ⟨hz1', nb1⟩).trans x1
    replace x2 := (hk08.cell (p := ⟨b1, o1 + k * 3 + 2, none⟩) ⟨hz1', nb1⟩).trans x2
    replace y0 := (hk08.cell (p := ⟨b2, o2 + k, none⟩) ⟨hz2', nb2⟩).trans y0
    have hwn : w.heap.size ≠ hb := by omega
    have hwl : w.heap.size < wA.heap.size := by omega
    replace k0 := (hk78.cell (p := ⟨w.heap.size, 0, none⟩) ⟨hwl, hwn⟩).trans k0
    replace k1 := (hk78.cell (p := ⟨w.heap.size, 1, none⟩) ⟨hwl, hwn⟩).trans k1
    replace k2 := (hk78.cell (p := ⟨w.heap.size, 2, none⟩) ⟨hwl, hwn⟩).trans k2
    replace k3 := (hk78.cell (p := ⟨w.heap.size, 3, none⟩) ⟨hwl, hwn⟩).trans k3
    replace k4 := (hk78.cell (p := ⟨w.heap.size, 4, none⟩) ⟨hwl, hwn⟩).trans k4
    replace k5 := (hk78.cell (p := ⟨w.heap.size, 5, none⟩) ⟨hwl, hwn⟩).trans k5
    obtain ⟨g1, f1, X1, hat8, hop⟩ := HP.out.open
    have N : ∀ wz, Below w8.heap.size w8 wz → Calls Tryz.prog 61 #[.pointer (some ⟨hb, p + 2, none⟩), .int .i64 n, .int .i64 b, spV sp.1 sp.2.1 sp.2.2, clV c] wz fun e w' => e = .returned (.tuple #[]) ∧ DoR wA hb wp (p + 2) nh th g' f ⟨X.wv, X.lg, X.gv, X.tv, X.pv, .slice none 0 0, .slice none 0 0⟩ Mu FIN.1 FIN.2 w' := fun wz hwz => by
      have hkt : c.obj.toNat = k := by omega
      refine (HD c sp b hin.1 (by rw [hkt]; exact hsk) (by rw [hkt]; exact hbk) (hat8.grow hwz) hth (fun _ => hB) HCB.out ⟨HTB.out.1, HTB.out.2.1 k, HTB.out.2.2⟩ HLL.out).mono ?_
      rintro e w' ⟨h1, h2⟩
      have e3 : runT D no th c ow T W = D th c { T.again with priv := ow k } W := by unfold runT; rw [if_pos hin, hkt]
      have e4 : D th c { T.again with priv := ow k } W = FIN := by rw [← e3]; exact HFIN.out
      rw [e4] at h2
      exact ⟨h1, hop _ _ _ (h2.since hwz)⟩
    have HN := hide N
    clear N hop hat8 hk78 hk08 hc1 hc2 h31 h32 e1b e1c e2b e2c hs1 hb1 hs2 hb2 hsk hbk hi hz0 hz1 hz2 hszA hwl hwn s70 s71 s72 hvA o15 c78 f78 hz7 cA9 fA9
    go_wp2_with fail
    refine wp_region_seql (fun Y => Y.cell? ⟨w.heap.size, 0, none⟩ = some (.int .i64 c.thread) ∧ Y.cell? ⟨w.heap.size, 1, none⟩ = some (.int .i64 k) ∧ Y.cell? ⟨w.heap.size, 2, none⟩ = some (.int .i64 c.kind) ∧ Y.cell? ⟨w.heap.size, 3, none⟩ = some (.int .u64 c.a) ∧ Y.cell? ⟨w.heap.size, 4, none⟩ = some (.int .u64 c.b) ∧ Y.cell? ⟨w.heap.size, 5, none⟩ = some (.int .u64 c.c) ∧ Y.cell? ⟨b2, o2 + k, none⟩ = some (.int .i64 b) ∧ Y.cell? ⟨b1, o1 + k * 3, none⟩ = some (.int .i64 sp.1) ∧ Y.cell? ⟨b1, o1 + k * 3 + 1, none⟩ = some (.int .i64 sp.2.1) ∧ Y.cell? ⟨b1, o1 + k * 3 + 2, none⟩ = some (.int .i64 sp.2.2)) [13] (.take 0 <| .take 1 <| .take 2 <| .take 3 <| .take 4 <| .take 5 <| .take 6 <| .take 7 <| .take 8 <| .take 9 <| .take 10 <| .take 11 <| .take 12 <| .run 13 <| .done) (by kernel_rfl) (by kernel_rfl) (by kernel_rfl) (by refine ⟨?_, ?_, ?_, ?_, ?_, ?_, ?_, ?_, ?_, ?_⟩ <;> go_simp) ?_
    iterate 13 (refine seql_take (v := ?_) rfl (by rfl) ?_ ?_; rotate_left; (focus (intro wS hS; obtain ⟨s0, s1, s2, s3, s4, s5, s6, s7, s8, s9⟩ := hS; go_simp; exact rfl)); simp only [Act.put, List.setIfInBounds_toArray, List.set_cons_zero, List.set_cons_succ])
    refine seql_late rfl rfl (by rfl) (fun K hK => ?_)
    go_simp
    have N1 := HN.out w8.drew ((Below.refl _ _).drew)
    have N0 := HN.out w8 (Below.refl _ _)
    unfold spV clV at N0 N1
    rw [hk] at N0 N1
    first | refine N0.mono ?_ | refine N1.mono ?_
    rintro e w9 ⟨rfl, hD9⟩
    have HD9 := hide ((hD9.since HBA.out).ofAgain HG.out ⟨rfl, rfl, rfl, rfl⟩)
    refine hK _ _ ?_
    clear hK K hD9 HN N0 N1
    refine seql_nil ?_
    go_wp2
    go_end0
    exact ⟨rfl, HD9.out⟩
  · obtain rfl : FIN = ({ T.again with err := 12 }, W) := by rw [← HFIN.out]; unfold runT; rw [if_neg hin]
    have hD : DoR wA hb wp (p + 2) nh th g' f ⟨X.wv, X.lg, X.gv, X.tv, X.pv, .slice none 0 0, .slice none 0 0⟩ Mu { T.again with err := 12 } W (wA.setCell ⟨hb, p + 2 + 9, none⟩ (.int .i64 12)) := HAA.out.start.num (.int .i64 12) (show 9 < 13 by decide) (fun g X ht => by obtain ⟨b0, b1, b2, b3, b4, b5, b6, b7, b8, b9, b10, b11, b12⟩ := ht; refine ⟨?_, ?_, ?_, ?_, ?_, ?_, ?_, ?_, ?_, ?_, ?_, ?_, ?_⟩; all_goals first | (rw [if_neg (by omega)]; assumption) | (rw [if_pos (by omega)]; rfl) | (rw [if_pos (by omega)])) rfl rfl rfl ⟨rfl, rfl, rfl⟩
    have HDD := hide ((hD.since HBA.out).ofAgain HG.out ⟨rfl, rfl, rfl, rfl⟩)
    clear hD hlist
    rcases (by omega : c.obj < 0 ∨ (0 ≤ c.obj ∧ (no : Int) ≤ c.obj)) with h0 | ⟨h0, h1⟩
    · have d0 : decide (c.obj < 0) = true := by simpa using h0
      clear hin h0
      go_wp2
      ((try simp only [Exit.inBlock, Exit.then]); refine bodyPost_ret (results_none rfl _ _ _) rfl ?_)
      exact ⟨rfl, HDD.out⟩
    · have d0 : decide (c.obj < 0) = false := by simp; omega
      have d1 : decide ((no : Int) ≤ c.obj) = true := by simpa using h1
      clear hin h0 h1
      go_wp2
      ((try simp only [Exit.inBlock, Exit.then]); refine bodyPost_ret (results_none rfl _ _ _) rfl ?_)
      exact ⟨rfl, HDD.out⟩
end Go.Proofs.YtlfingcmekifkaaGreat

namespace Go.Proofs.YtlfingcmekifkaaGreat
open Go.RowKit
def newTape (wp : Nat) (th now : Int) : List Value := [.pointer (some ⟨wp, 0, none⟩), .int .i64 th, .int .i64 now, .slice none 0 0, .slice none 0 0, .int .i64 0, .bool false, .bool false, .slice none 0 0, .int .i64 0, .int .u64 0, .slice none 0 0, .slice none 0 0]
def beginW (w : World) (hb wp p mb mo th : Nat) (now ev : Int) : World := (((w.setCell ⟨hb, p, none⟩ (.bool true)).setCell ⟨hb, p + 1, none⟩ (.int .i64 ev)).setCells hb (p + 2) (newTape wp th now)).setCell ⟨mb, mo + th, none⟩ (.slice none 0 0)
theorem zero_tape (w : World) : (zeroValue 100).run Tryz.prog w = .ok (.agg #[.pointer none, .int .i64 0, .int .i64 0, .slice none 0 0, .slice none 0 0, .int .i64 0, .bool false, .bool false, .slice none 0 0, .int .i64 0, .int .u64 0, .slice none 0 0, .slice none 0 0]) w := by kernel_rfl
set_option maxRecDepth 100000 in
set_option maxHeartbeats 400000 in
theorem plainBegin {w : World} {hb wp p nh th n mb mo cm : Nat} {g f : Nat → Value} {now ev : Int} (hr : w.rowIs hb 102 nh g) (hnh : p + 16 ≤ nh) (hf : w.rowIs wp 95 10 f) (h6 : f 6 = .int .i64 now) (h7 : f 7 = .slice (some ⟨mb, mo, none⟩) n cm) (hth : th < n) (hm : ∃ v, w.cell? ⟨mb, mo + th, none⟩ = some v) (hmf : w.frozen? ⟨mb, mo + th, none⟩ = false) (hne : hb ≠ wp ∧ mb ≠ hb ∧ mb ≠ wp) :
    Calls Tryz.prog 44 #[.pointer (some ⟨hb, p, none⟩), .pointer (some ⟨wp, 0, none⟩), .int .i64 th, .int .i64 ev] w fun e w' => e = .returned (.tuple #[]) ∧ w' = beginW w hb wp p mb mo th now ev := by
  obtain ⟨v0, hm⟩ := hm
  obtain ⟨n1, n2, n3⟩ := hne
  have q0 := hr.frozen p
  have q1 := hr.frozen (p + 1)
  have r0 := hr.cell (i := p) (by omega)
  have r1 := hr.cell (i := p + 1) (by omega)
  have a6 := hf.cell (i := 6) (by decide)
  have a7 := hf.cell (i := 7) (by decide)
  rw [h6] at a6
  rw [h7] at a7
  have hz := hr.lt
  have hzw := hf.lt
  have hrow2 := (hr.set p (.bool true)).set (p + 1) (.int .i64 ev)
  have hth2 : (((w.setCell ⟨hb, p, none⟩ (.bool true)).setCell ⟨hb, p + 1, none⟩ (.int .i64 ev))).there hb (p + 2) 13 := fun j hj => ⟨by rw [show p + 2 + j = p + 2 + j from rfl, hrow2.cell (by omega)]; rfl, hrow2.frozen _⟩
  have b6 : ((((w.setCell ⟨hb, p, none⟩ (.bool true)).setCell ⟨hb, p + 1, none⟩ (.int .i64 ev))).setCells hb (p + 2) (newTape wp th now)).cell? ⟨wp, 6, none⟩ = some (.int .i64 now) := by
    rw [World.cell?_setCells_out hb _ _ _ _ (fun h1 _ => absurd h1.symm n1)]
    go_simp
  have b7 : ((((w.setCell ⟨hb, p, none⟩ (.bool true)).setCell ⟨hb, p + 1, none⟩ (.int .i64 ev))).setCells hb (p + 2) (newTape wp th now)).cell? ⟨wp, 7, none⟩ = some (.slice (some ⟨mb, mo, none⟩) n cm) := by
    rw [World.cell?_setCells_out hb _ _ _ _ (fun h1 _ => absurd h1.symm n1)]
    go_simp
  have hth' : (th : Int) < (n : Int) := by omega
  have HT := hide hth2
  clear hr hf hrow2 hth2 h6 h7
  go_enter Tryz.func44, Tryz.ntmps44
  go_upto_region 2 with fail
  obtain ⟨W2, hW2⟩ : ∃ W2, W2 = ((w.setCell ⟨hb, p, none⟩ (.bool true)).setCell ⟨hb, p + 1, none⟩ (.int .i64 ev)) := ⟨_, rfl⟩
  rw [← hW2]
  have a6' : W2.cell? ⟨wp, 6, none⟩ = some (.int .i64 now) := by rw [hW2]; go_simp
  have HT2 : Hid (W2.there hb (p + 2) 13) := hide (by rw [hW2]; exact HT.out)
  have hz2 : hb < W2.heap.size := by rw [hW2]; simpa using hz
  have HM2 : Hid (∀ W3 : World, W3 = W2.setCells hb (p + 2) (newTape wp th now) → W3.cell? ⟨wp, 7, none⟩ = some (.slice (some ⟨mb, mo, none⟩) n cm) ∧ W3.cell? ⟨mb, mo + th, none⟩ = some v0 ∧ W3.frozen? ⟨mb, mo + th, none⟩ = false) := hide (fun W3 h3 => by
    rw [h3, hW2]
    refine ⟨b7, ?_, ?_⟩
    · rw [World.cell?_setCells_out hb _ _ _ _ (fun h1 _ => absurd h1 n2)]
      go_simp
    · rw [World.frozen?_setCells]
      go_simp)
  have HF : Hid (beginW w hb wp p mb mo th now ev = (W2.setCells hb (p + 2) (newTape wp th now)).setCell ⟨mb, mo + th, none⟩ (.slice none 0 0)) := hide (by rw [hW2]; rfl)
  clear hW2 b6 b7 r0 r1 q0 q1 a6 a7 HT
  have hzt := zero_tape
  go_upto_region 3 with (refine wpList_store_mid rfl 100 (.tmp 24) (.tmp 22) rfl hb (p + 2) #[.pointer (some ⟨wp, 0, none⟩), .int .i64 (th : Int), .int .i64 now, .slice none 0 0, .slice none 0 0, .int .i64 0, .bool false, .bool false, .slice none 0 0, .int .i64 0, .int .u64 0, .slice none 0 0, .slice none 0 0] (by rfl) (by rfl) HT2.out (by kernel_rfl) (by kernel_rfl) ?_)
  obtain ⟨W3, hW3⟩ : ∃ W3, W3 = W2.setCells hb (p + 2) (newTape wp th now) := ⟨_, rfl⟩
  obtain ⟨b7, hmc, hmf3⟩ := HM2.out W3 hW3
  unfold newTape at hW3
  rw [← hW3]
  have HF2 : Hid (W3.setCell ⟨mb, mo + th, none⟩ (.slice none 0 0) = beginW w hb wp p mb mo th now ev) := hide (by rw [hW3]; exact HF.out.symm)
  clear hW3 HT2 a6' hm hmf hzt
  go_wp2
  refine bodyPost_end (results_none rfl _ _ _) rfl ?_
  exact ⟨rfl, HF2.out⟩
end Go.Proofs.YtlfingcmekifkaaGreat
