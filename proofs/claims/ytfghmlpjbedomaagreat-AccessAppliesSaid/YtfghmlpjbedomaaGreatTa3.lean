/- A tally whose accesses are told: its second step. -/
import Derived.Test.YtfghmlpjbedomaaGreatTa2
import Derived.Laws.CopyOwn
namespace Go.Proofs.YtfghmlpjbedomaaGreat
open Go.RowKit

def taLw (lw : Lw) (t : Nat) (vv : Int) : Lw := { lw with mem := lw.mem.acc 1 t (taUp vv) 0, traces := fun a => if a = 0 then lw.traces 0 ++ [lw.now] else lw.traces a }
set_option maxRecDepth 100000 in
set_option maxHeartbeats 4000000 in
theorem taStep1W {w : World} {b t ob tb qb pp B : Nat} {vv : Int} {ad : Adr} {Mu : Nat → Prop} {lw : Lw} {v : Value} {l : List Ac} (hW : WL w ad Mu lw) (hhk : ad.hk = hookV tb qb) (hb : w.heap[b]? = some (.cells (cntA t vv true) 286 (0, 0))) (hne : ¬ ad.four b) (hr : AcRow w ob B v l) (hh : HookAt w ob tb qb pp ad.pw lw.now t) (hB : B ≤ w.heap.size) (hl : l.length ≤ 2000000) (hlow : tb < B ∧ qb < B ∧ pp < B ∧ ad.pw < B) (hap : HkAp w ad.pm ad.px ob tb qb pp ad.pw v) (hbo : b ≠ ob ∧ v.ownBlock ≠ some b) (ht : t < lw.mem.words.length) (ht2 : t < 2)
    (hnow : 0 ≤ lw.now ∧ lw.now ≤ 1048576) (htr : ((lw.traces 0).length : Int) + 1 ≤ lw.now) (h4 : ∀ k, ad.four k → Mu k) (hMo : Mu ob) (hMv : ∀ k, v.ownBlock = some k → Mu k) (hMz : ∀ k, Mu k → k < w.heap.size) :
    Calls Tryz.prog 233 #[.pointer (some ⟨b, 0, none⟩), .pointer (some ⟨ad.pw, 0, none⟩)] w fun e w' => e = .returned (.bool true) ∧ w'.heap[b]? = some (.cells (cntA t vv true) 286 (0, 0)) ∧ ∃ v1, AcRow w' ob B v1 (l ++ [⟨lw.now, t, 1, t, lw.mem.at t, taUp vv⟩]) ∧ (v1.ownBlock = v.ownBlock ∨ ∃ b, v1.ownBlock = some b ∧ w.heap.size ≤ b) ∧ WL w' ad (fun k => Mu k ∨ v1.ownBlock = some k) (taLw lw t vv) ∧ Keep (fun k => k < w.heap.size ∧ ¬ ad.four k ∧ k ≠ ob ∧ v.ownBlock ≠ some k) w w' := by
  obtain ⟨n1, n2, n3, n4⟩ : b ≠ ad.pw ∧ b ≠ ad.pm ∧ b ≠ ad.px ∧ b ≠ ad.pt := ⟨fun e => hne (Or.inl e), fun e => hne (Or.inr (Or.inl e)), fun e => hne (Or.inr (Or.inr (Or.inl e))), fun e => hne (Or.inr (Or.inr (Or.inr e)))⟩
  have HB := hide hb
  have hz := (Array.getElem?_eq_some_iff.1 hb).1
  have c0 : w.cell? ⟨b, 0, none⟩ = some (.int .i64 0) := cell_of_row _ _ 0 _ _ _ hb
  have c2 : w.cell? ⟨b, 2, none⟩ = some (.int .i64 (t : Int)) := cell_of_row _ _ 2 _ _ _ hb
  have c3 : w.cell? ⟨b, 3, none⟩ = some (.int .u64 vv) := cell_of_row _ _ 3 _ _ _ hb
  have c4 : w.cell? ⟨b, 4, none⟩ = some (.bool true) := cell_of_row _ _ 4 _ _ _ hb
  have cw := hW.ptr
  obtain ⟨zw1, zw2, zw3, zw4⟩ := hW.lt
  obtain ⟨q1, q2, q3, q4, q5, q6⟩ := hW.ne
  have hm := hW.mem
  rw [hhk] at hm
  have kd : Keep (fun _ => True) w w.drew := (Keep.refl _ w).drew
  have N := memWriteH (w := w.drew) (taUp vv) (hm.of_blocks rfl rfl) ht (hr.keep kd trivial (fun _ _ => trivial)) (hh.keep kd trivial trivial trivial trivial) hB hl hlow ⟨hap.m, hap.x⟩
  have k0 : IntKind.i64.wrap (t : Int) = (t : Int) := wrap_i64 (by omega) (by omega)
  have k1 : IntKind.u64.wrap (vv + 1) = taUp vv := by rw [IntKind.wrap_u64]; rfl
  obtain ⟨mp, mp1, mp2⟩ := hW.notes
  have hptob : ad.pt ≠ ob := by
    rintro e
    obtain ⟨_, ⟨_, _, h5, _⟩, _⟩ := hW.notes
    have h6 := hr.box
    rw [← e, h5] at h6
    cases h6
  have hrow : ∀ k, v.ownBlock = some k → k ≠ ad.pt ∧ k ≠ ad.pw := fun k hk => by
    obtain ⟨c, hc⟩ := hr.type hk
    refine ⟨?_, fun e => by have := (World.ownsRow.lt hr.row _ hk).1; omega⟩
    rintro rfl
    obtain ⟨_, ⟨_, _, h5, _⟩, _⟩ := hW.notes
    rw [hc] at h5
    cases h5
  have hbv := hbo.2
  have hob := hbo.1
  have hwo : ad.pw ≠ ob := by
    intro e
    have c1 : w.cell? ⟨ob, 1, none⟩ = none := cell_of_row _ _ 1 _ _ _ hr.box
    rw [← e, hh.w1] at c1
    cases c1
  have hKI : ∃ A c, (mp 0).getD (.slice none 0 0) = .slice A (lw.traces 0).length c ∧ SlI w (.slice A (lw.traces 0).length c) (lw.traces 0) ∧ ∀ a : Addr, A = some a → ¬ Mu a.block ∧ a.block < w.heap.size := by
    rcases mp2 0 with ⟨h1, h2⟩ | ⟨v0, h1, A, c, h2, _, h3, h4⟩
    · rw [h1, h2]
      refine ⟨none, 0, rfl, ?_, fun a ha => by cases ha⟩
      obtain ⟨A, c, e, _, h3, _⟩ := KeyIs.nil w Mu
      cases e
      exact h3
    · rw [h1]
      exact ⟨A, c, h2, h3, h4⟩
  obtain ⟨A0, cc0, hV0, hS0, hA0⟩ := hKI
  obtain ⟨tr, htr0⟩ : ∃ tr, lw.traces 0 = tr := ⟨_, rfl⟩
  rw [htr0] at hV0 hS0 htr
  obtain ⟨f, f1, f2, f3, f4, f5⟩ := hW.cells
  have x1 := f1.cell (i := 1) (by omega)
  have x34 := f1.cell (i := 34) (by omega)
  rw [f3] at x1
  rw [f4] at x34
  have HF := hide (And.intro f2 (And.intro f3 (And.intro f4 f5)))
  have HF1 := hide f1
  have HN := hide N
  have HHK := hide hhk
  have HW := hide hW
  have HR := hide hr
  have HS0 := hide hS0
  have HA0 := hide hA0
  have HMP := hide mp2
  have HMP1 := hide mp1
  have HMv := hide hMv
  have HMz := hide hMz
  have H4 := hide h4
  have HROW := hide hrow
  have HTR := hide htr0
  have HAP := hide hap
  clear N hW hb hr hh hap hm hhk hbo hS0 hA0 mp1 mp2 hMv hMz h4 hrow htr0 f1 f2 f3 f4 f5
  go_enter Tryz.func233, Tryz.ntmps233
  go_upto_region 5 with fail
  refine wp_region_seq (fun Y => Y.cell? ⟨ad.pw, 0, none⟩ = some (.pointer (some ⟨ad.pm, 0, none⟩)) ∧ Y.cell? ⟨b, 0, none⟩ = some (.int .i64 0) ∧ Y.cell? ⟨b, 2, none⟩ = some (.int .i64 (t : Int)) ∧ Y.cell? ⟨b, 3, none⟩ = some (.int .u64 vv)) (.take 0 <| .take 1 <| .take 2 <| .take 3 <| .take 4 <| .take 5 <| .take 6 <| .take 7 <| .take 8 <| .take 9 <| .take 10 <| .take 11 <| .take 12 <| .take 13 <| .take 14 <| .take 15 <| .take 16 <| .take 17 <| .take 18 <| .run 19 <| .done) (by kernel_rfl) (by kernel_rfl) (by kernel_rfl) (by refine ⟨?_, ?_, ?_, ?_⟩ <;> go_simp) ?_
  iterate 19 (refine seq_take (v := ?_) rfl (by rfl) ?_ ?_; rotate_left; (focus (intro wS hS; obtain ⟨s0, s1, s2, s3⟩ := hS; go_simp; exact rfl)); simp only [Act.put, List.setIfInBounds_toArray, List.set_cons_zero, List.set_cons_succ])
  (refine seq_run rfl (by rfl) (fun K hK => ?_); go_simp)
  refine HN.out.mono ?_
  rintro e w1 ⟨rfl, hm1, v1, hr1, hv1, hk1⟩
  have hk1' : Keep (fun k => k < w.heap.size ∧ k ≠ ad.pm ∧ k ≠ ad.px ∧ k ≠ ob ∧ v.ownBlock ≠ some k) w w1 := ((Keep.refl _ w).drew).trans hk1
  have hb1 := (hk1'.block b ⟨hz, n2, n3, hob, hbv⟩).trans HB.out
  have HB1 := hide hb1
  have d0 : w1.cell? ⟨b, 0, none⟩ = some (.int .i64 0) := cell_of_row _ _ 0 _ _ _ hb1
  have d2 : w1.cell? ⟨b, 2, none⟩ = some (.int .i64 (t : Int)) := cell_of_row _ _ 2 _ _ _ hb1
  have d3 : w1.cell? ⟨b, 3, none⟩ = some (.int .u64 vv) := cell_of_row _ _ 3 _ _ _ hb1
  have hSw : ad.pw < w.heap.size ∧ ad.pw ≠ ad.pm ∧ ad.pw ≠ ad.px ∧ ad.pw ≠ ob ∧ v.ownBlock ≠ some ad.pw := ⟨zw1, q1, q2, hwo, fun e => (HROW.out _ e).2 rfl⟩
  have hSt : ad.pt < w.heap.size ∧ ad.pt ≠ ad.pm ∧ ad.pt ≠ ad.px ∧ ad.pt ≠ ob ∧ v.ownBlock ≠ some ad.pt := ⟨zw4, q4, q5, hptob, fun e => (HROW.out _ e).1 rfl⟩
  have dw := (hk1'.cell (p := ⟨ad.pw, 0, none⟩) hSw).trans cw
  have dw1 := (hk1'.cell (p := ⟨ad.pw, 1, none⟩) hSw).trans x1
  have dw34 := (hk1'.cell (p := ⟨ad.pw, 34, none⟩) hSw).trans x34
  refine hK _ _ ⟨dw, d0, d2, d3⟩ ?_
  have hmp1 := HMP1.out.of_block (hk1'.block _ hSt)
  have NT := traceN ad.pw ad.pt 0 mp w1 dw34 hmp1
  rw [hV0] at NT
  have hsA : ∀ a : Addr, A0 = some a → a.block < w.heap.size ∧ a.block ≠ ad.pm ∧ a.block ≠ ad.px ∧ a.block ≠ ob ∧ v.ownBlock ≠ some a.block := fun a ha => by
    obtain ⟨g1, g2⟩ := HA0.out a ha
    exact ⟨g2, fun e => g1 (H4.out _ (Or.inr (Or.inl e))), fun e => g1 (H4.out _ (Or.inr (Or.inr (Or.inl e)))), fun e => g1 (e ▸ hMo), fun e => g1 (HMv.out _ e)⟩
  have hS1 := sl_keepG HS0.out hk1' (fun a ha _ => hsA a ha)
  have hz1 := (Array.getElem?_eq_some_iff.1 hb1).1
  have zt1 : ad.pw < w1.heap.size := by have := hk1'.size; omega
  have HM1 := hide hm1
  have HK1 := hide hk1'
  have HR1 := hide hr1
  have HV1 := hide hv1
  have HNT := hide NT
  have HS1 := hide hS1
  have HMP2 := hide hmp1
  clear hK K hm1 hk1 hk1' hb1 HN c0 c2 c3 c4 cw hr1 hv1 NT hS1 hmp1 x1 x34
  refine seq_nil ?_
  go_wp2_with fail
  refine HNT.out.mono ?_
  rintro e w2 ⟨rfl, rfl⟩
  have e0 : ((tr.length : Int) + 1) = ((tr.length + 1 : Nat) : Int) := by push_cast; rfl
  have kl : IntKind.i64.wrap ((tr.length : Int) + 1) = (tr.length : Int) + 1 := wrap_i64 (by omega) (by omega)
  obtain ⟨ZR, hZR⟩ : ∃ ZR, ZR = (List.replicate (tr.length + 1) (Value.int .i64 0)).toArray := ⟨_, rfl⟩
  have hmk : ∀ W, (Instr.makeSlice 22 (.int .i64 ((tr.length : Int) + 1)) (.int .i64 ((tr.length : Int) + 1))).run Tryz.prog W = .ok (.slice (some ⟨W.heap.size, 0, none⟩) (tr.length + 1) (tr.length + 1)) (W.alloc (.cells ZR 3)) := by
    intro W
    have := run_make_row' (P := Tryz.prog) 22 3 (.int .i64 0) 8 Tryz.underlying22 info_int rfl .i64 .i64 (tr.length + 1) (by omega) (by omega) W
    rw [e0, this]
    have e1 : madeCells #[Value.int .i64 0] (tr.length + 1) = (List.replicate (tr.length + 1) (Value.int .i64 0)).toArray := by
      apply Array.ext'
      rw [toList_madeCells_one]
    rw [e1, hZR]
  clear e0
  obtain ⟨cs, hcs⟩ : ∃ cs, cs = tr.map (Value.int .i64) := ⟨_, rfl⟩
  have hcl : cs.length = tr.length := by rw [hcs]; simp
  have hoc : ∀ u ∈ cs, u.oneCell' = true := by rw [hcs]; exact ints_oneCell .i64 tr
  have hz2 : ad.pw < w2.heap.size := zt1
  have hpos : 0 < tr.length → ∃ a : Addr, A0 = some a ∧ ∀ j u, cs[j]? = some u → (w2.alloc (.cells ZR 3)).cell? (a.add j) = some u := by
    intro hp
    obtain ⟨A', c', e, g1, g2, g3⟩ := HS1.out
    cases e
    obtain ⟨b0, o0, e', hb0, hc0⟩ := g3 0 _ (List.getElem?_eq_getElem hp)
    refine ⟨_, e', fun j u hu => ?_⟩
    rw [hcs, List.getElem?_map] at hu
    rcases hx : tr[j]? with _ | x
    · rw [hx] at hu; cases hu
    · rw [hx] at hu
      cases hu
      obtain ⟨b1, o1, e1, hb1', hc1⟩ := g3 j x hx
      rw [e'] at e1
      cases e1
      have := nt_cell hc1
      rw [Addr.add_lit]
      simp only [Nat.mul_one] at this
      exact (World.cell?_of_block (a := ⟨b0, o0 + j, none⟩) (Below.heap_alloc _ _ _ hb0)).trans this
  have HZR := hide hZR
  clear hZR
  have HCS := hide hcs
  have HCL := hide hcl
  have HOC := hide hoc
  have HPOS := hide hpos
  clear HNT hcs hcl hoc hpos
  go_wp2_with (first | (with_reducible refine wpList_copy_splice rfl (.tmp 64) (.tmp 65) 22 22 rfl 3 Tryz.underlying22 (by kernel_rfl) (some ⟨w2.heap.size, 0, none⟩) A0 (tr.length + 1) (tr.length + 1) tr.length cc0 rfl rfl w2.heap.size 0 (List.replicate (tr.length + 1) (Value.int .i64 0)) 3 (by rw [← HZR.out]; exact heap_alloc_new w2 _) cs (by rw [HCL.out]; simp) (fun h => ⟨rfl, HPOS.out (by have := HCL.out; omega)⟩) (by rw [HCL.out, List.length_replicate]; omega) HOC.out w2.heap.size w2 ((Below.refl _ w2).alloc (Nat.le_refl _) _) (Nat.le_refl _) ?_; intro w3 HG3 hB3; have hg3 : w3.heap[w2.heap.size]? = some (.cells (cs ++ [Value.int .i64 0]).toArray 3 (0, 0)) := (by have h := HG3.out; have e : splice (List.replicate (tr.length + 1) (Value.int .i64 0)) 0 cs = cs ++ [Value.int .i64 0] := (by unfold splice; rw [Nat.zero_add, HCL.out, List.drop_replicate, show tr.length + 1 - tr.length = 1 by omega]; simp); rw [e] at h; exact h); have g3c : w3.cell? ⟨w2.heap.size, tr.length, none⟩ = some (.int .i64 0) := (by rw [cell_of_row _ _ _ _ _ _ hg3, List.getElem?_toArray, List.getElem?_append_right (by rw [HCL.out]; exact Nat.le_refl _), HCL.out]; simp); have g3f := frozen_of_row w3 w2.heap.size tr.length _ _ hg3; have g3w : w3.cell? ⟨ad.pw, 1, none⟩ = some (.int .i64 lw.now) := ((Keep.of_below (K := fun k => k < w2.heap.size) hB3 (fun k h => h)).cell (p := ⟨ad.pw, 1, none⟩) hz2).trans dw1; have d03 := ((Keep.of_below (K := fun k => k < w2.heap.size) hB3 (fun k h => h)).cell (p := ⟨b, 0, none⟩) hz1).trans d0; have z3 : w2.heap.size < w3.heap.size := (Array.getElem?_eq_some_iff.1 hg3).1) | fail)
  obtain ⟨W4, hW4⟩ : ∃ W4, W4 = w3.setCell ⟨w2.heap.size, tr.length, none⟩ (.int .i64 lw.now) := ⟨_, rfl⟩
  rw [← hW4]
  have hz4 : W4.heap.size = w3.heap.size := by rw [hW4]; simp
  have hg4 : W4.heap[w2.heap.size]? = some (.cells ((tr ++ [lw.now]).map (Value.int .i64)).toArray 3 (0, 0)) := by
    rw [hW4, cells_set hg3]
    have e1 : (cs ++ [Value.int .i64 0]).set tr.length (.int .i64 lw.now) = (tr ++ [lw.now]).map (Value.int .i64) := by
      rw [List.set_append_right _ _ (by rw [HCL.out]; exact Nat.le_refl _), HCL.out, Nat.sub_self, HCS.out, List.map_append]
      rfl
    rw [List.setIfInBounds_toArray, e1]
  have hs4 : SlI W4 (.slice (some ⟨w2.heap.size, 0, none⟩) (tr.length + 1) (tr.length + 1)) (tr ++ [lw.now]) := by
    have h2 := Sl.of_block (enc := ntEnc .i64) (sz := 1) (xs := tr ++ [lw.now]) (c := tr.length + 1) hg4 (by simp) (by unfold maxLen; omega) (fun i x hx j u hu => by
      rcases j with _ | j
      · simp [ntEnc] at hu
        subst hu
        rw [← Array.getElem?_toList, List.toList_toArray, List.getElem?_map, Nat.mul_one, Nat.add_zero, hx]
        rfl
      · simp [ntEnc] at hu)
    rw [List.length_append, List.length_singleton] at h2
    exact h2
  have k24 : Keep (fun k => k < w2.heap.size) w2 W4 := by
    rw [hW4]
    exact (Keep.of_below (K := fun k => k < w2.heap.size) hB3 (fun k h => h)).setCell (by simp) _
  have hzt : ad.pt < w2.heap.size := HMP2.out.lt
  have hz24 := k24.size
  have NN := noteN (V := 0) ((k24.cell (p := ⟨ad.pw, 34, none⟩) hz2).trans dw34) (HMP2.out.of_block (k24.block _ hzt)) hs4 (by rw [List.length_append, List.length_singleton]; omega) (by omega) q3
  have HNN := hide NN
  have HK24 := hide k24
  clear hW4 hg3 g3c g3f g3w d03 HG3 hB3 hg4 hs4 k24 NN HCS HCL HOC HPOS HZR d0 d2 d3 dw dw1 dw34 hmk kl
  refine HNN.out.mono ?_
  rintro e w5 ⟨rfl, v', hm5, ho5, hk5⟩
  have HM5 := hide hm5
  have HO5 := hide ho5
  have HK5 := hide hk5
  clear HNN hm5 ho5 hk5
  go_wp2
  go_ret
  have z12 := HK1.out.size
  have k15 : Keep (fun k => k < w2.heap.size ∧ k ≠ ad.pt) w2 w5 := (HK24.out.mono (fun k hk => hk.1)).trans (HK5.out.mono (fun k hk => ⟨by omega, hk.2⟩))
  have k05 : Keep (fun k => k < w.heap.size ∧ k ≠ ad.pm ∧ k ≠ ad.px ∧ k ≠ ob ∧ v.ownBlock ≠ some k ∧ k ≠ ad.pt) w w5 := (HK1.out.mono (fun k hk => ⟨hk.1, hk.2.1, hk.2.2.1, hk.2.2.2.1, hk.2.2.2.2.1⟩)).trans (k15.mono (fun k hk => ⟨by omega, hk.2.2.2.2.2⟩))
  have hv1z : ∀ k, v1.ownBlock = some k → k < w2.heap.size := fun k hk => (World.ownsRow.lt HR1.out.row k hk).2
  have hv1t : ∀ k, v1.ownBlock = some k → k ≠ ad.pt := by
    rintro k hk rfl
    obtain ⟨c, hc⟩ := HR1.out.type hk
    obtain ⟨_, _, h5, _⟩ := HMP2.out
    rw [hc] at h5
    cases h5
  have hobz := (Array.getElem?_eq_some_iff.1 HR1.out.box).1
  have hSk : ∀ k, k < w.heap.size → ¬ Mu k → (k < w.heap.size ∧ k ≠ ad.pm ∧ k ≠ ad.px ∧ k ≠ ob ∧ v.ownBlock ≠ some k ∧ k ≠ ad.pt) := fun k h1 h2 => ⟨h1, fun e => h2 (H4.out k (Or.inr (Or.inl e))), fun e => h2 (H4.out k (Or.inr (Or.inr (Or.inl e)))), fun e => h2 (e ▸ hMo), fun e => h2 (HMv.out k e), fun e => h2 (H4.out k (Or.inr (Or.inr (Or.inr e))))⟩
  have hMk : ∀ k, k < w.heap.size → (Mu k ∨ v1.ownBlock = some k) → Mu k := by
    intro k hk hm
    rcases hm with hm | hm
    · exact hm
    · rcases HV1.out with h1 | ⟨b', h1, h2⟩
      · exact HMv.out k (h1 ▸ hm)
      · rw [h1] at hm
        cases hm
        have h2' : w.heap.size ≤ k := h2
        omega
  obtain ⟨hf0, hf1, hf4, hf5⟩ := HF.out
  refine ⟨rfl, (k05.block b ⟨hz, n2, n3, hob, hbv, n4⟩).trans HB.out, v1, HR1.out.keep k15 ⟨hobz, Ne.symm hptob⟩ (fun k hk => ⟨hv1z k hk, hv1t k hk⟩), HV1.out, ⟨?_, ⟨f, rowIs_keep HF1.out k05 ⟨zw1, q1, q2, hwo, fun e => (HROW.out _ e).2 rfl, q3⟩, hf0, hf1, hf4, fun s hs => ⟨(hf5 s hs).1, (hf5 s hs).2.keep k05 hSk hMk⟩⟩, ⟨_, HM5.out, fun a => ?_⟩⟩, k05.mono (fun k hk => ⟨hk.1, fun e => hk.2.1 (Or.inr (Or.inl e)), fun e => hk.2.1 (Or.inr (Or.inr (Or.inl e))), hk.2.2.1, hk.2.2.2, fun e => hk.2.1 (Or.inr (Or.inr (Or.inr e)))⟩)⟩
  · rw [HHK.out]
    have hzm := HM1.out.lt
    exact HM1.out.of_blocks (k15.block _ ⟨hzm.1, q4.symm⟩) (k15.block _ ⟨hzm.2, q5.symm⟩)
  · by_cases ha : a = 0
    · subst ha
      refine Or.inr ⟨v', if_pos rfl, ?_⟩
      have ho := HO5.out
      obtain ⟨A, c, rfl⟩ := own_slice ho
      have htl : (taLw lw t vv).traces 0 = tr ++ [lw.now] := by
        rw [← HTR.out]
        simp [taLw]
      rw [htl]
      refine ⟨A, c, rfl, ?_, sl_of_owns (kk := .i64) ho (by rw [List.length_append, List.length_singleton]; unfold maxLen; omega), fun a' ha' => ?_⟩
      · constructor
        · intro h
          subst h
          rcases ho.2 with ⟨_, h⟩ | ⟨_, _, _, h, _⟩
          · simp at h
          · cases h
        · intro h
          simp at h
      · subst ha'
        have hl := ho.lt a'.block rfl
        refine ⟨fun hm => ?_, hl.2⟩
        rcases hm with hm | hm
        · have := HMz.out _ hm; have := hl.1; omega
        · have := hv1z _ hm; have := hl.1; omega
    · have htl : (taLw lw t vv).traces a = lw.traces a := by simp [taLw, ha]
      rw [htl]
      rcases HMP.out a with ⟨h1, h2⟩ | ⟨x, h1, h2⟩
      · exact Or.inl ⟨(if_neg ha).trans h1, h2⟩
      · exact Or.inr ⟨x, (if_neg ha).trans h1, h2.keep k05 hSk hMk⟩
end Go.Proofs.YtfghmlpjbedomaaGreat
