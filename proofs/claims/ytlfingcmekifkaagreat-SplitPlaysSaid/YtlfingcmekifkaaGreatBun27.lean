import Derived.Test.YtlfingcmekifkaaGreatBun12
import Derived.Test.YtlfingcmekifkaaGreatBun18
import Derived.Test.YtlfingcmekifkaaGreatBun17
import Derived.Test.YtlfingcmekifkaaGreatBun14
namespace Go.Proofs.YtlfingcmekifkaaGreat
open Go.RowKit
def muT (T : Tp) : Nat := (T.got.length - T.at_) + b1 T.fresh
theorem acc_mu {t : Nat} {k a x y : Int} {T : Tp} {W : Rw} (hba : T.at_ ≤ T.got.length) : (T.acc t k a x y W).2.1.at_ ≤ (T.acc t k a x y W).2.1.got.length ∧ (T.halt = true → (T.acc t k a x y W).2.1.halt = true) ∧ ((T.acc t k a x y W).2.1.halt = false → muT (T.acc t k a x y W).2.1 + 1 ≤ muT T) := by
  unfold Tp.acc muT
  split
  · rename_i h
    exact ⟨hba, fun _ => h, fun h2 => by rw [h] at h2; cases h2⟩
  · rename_i h
    split
    · rename_i h1
      exact ⟨h1, fun e => absurd e h, fun _ => by show T.got.length - (T.at_ + 1) + b1 T.fresh + 1 ≤ _; omega⟩
    · rename_i h1
      split
      · rename_i h2
        refine ⟨by show T.at_ + 1 ≤ (T.got ++ [_]).length; simp; omega, fun e => absurd e h, fun _ => ?_⟩
        show (T.got ++ [_]).length - (T.at_ + 1) + b1 false + 1 ≤ _
        rw [h2]
        simp [b1]
      · exact ⟨hba, fun _ => rfl, fun e => by cases e⟩
theorem DoR.ba {w w' : World} {hb wp q nh th : Nat} {g f : Nat → Value} {X : Rv} {T1 : Tp} {W1 : Rw} {Mu : Nat → Prop} (h : DoR w hb wp q nh th g f X Mu T1 W1 w') : T1.at_ ≤ T1.got.length := by
  obtain ⟨_, _, _, h1, _⟩ := h
  exact h1.at_.ba
theorem RtAt.four_eq {w : World} {hb wp q nh th : Nat} {g f g' f' : Nat → Value} {X X' : Rv} {T T' : Tp} {W W' : Rw} (h : RtAt w hb wp q nh th g f X T W) (h' : RtAt w hb wp q nh th g' f' X' T' W') {k : Nat} (hk : X'.four k) : X.four k := by
  obtain ⟨_, _, t3, t4, _, _, _, x0, _, x9⟩ := h.cells
  obtain ⟨_, _, u3, u4, _, _, _, y0, _, y9⟩ := h'.cells
  rw [t3] at u3
  rw [t4] at u4
  rw [x0] at y0
  rw [x9] at y9
  unfold Rv.four at hk ⊢
  rw [Option.some.inj u3, Option.some.inj u4, Option.some.inj y0, Option.some.inj y9]
  exact hk
theorem DoR.prvNew {w w' : World} {hb wp q nh th : Nat} {g f : Nat → Value} {X : Rv} {T1 : Tp} {W1 : Rw} {Mu : Nat → Prop} (h : DoR w hb wp q nh th g f X Mu T1 W1 w') {l : List Int} {v : Value} {w2 : World} (hb2 : Below w'.heap.size w' w2) (hv2 : LstIs w2 (fun k => k < w'.heap.size) v l) : DoR w hb wp q nh th g f X Mu { T1 with priv := l } W1 (w2.setCell ⟨hb, q + 8, none⟩ v) := by
  obtain ⟨g1, f1, X1, h1, _⟩ := id h
  refine (h.grow hb2).prv v ?_
  obtain ⟨A, c, e, h2, h3⟩ := hv2
  refine ⟨A, c, e, h2, fun a ha => ⟨fun hh => (h3 a ha).1 ?_, (h3 a ha).2⟩⟩
  have hz : w.heap.size ≤ w'.heap.size := by
    obtain ⟨_, _, _, _, _, _, _, _, h6⟩ := h
    exact h6.size
  rcases hh with hh | hh | ⟨g2, f2, X2, hh, h4⟩
  · exact Nat.lt_of_lt_of_le hh hz
  · exact h1.lt _ (Or.inl hh)
  · have hk := Keep.of_below (K := fun k => k < w'.heap.size) hb2 (fun k hk => hk)
    have h5 := h1.at_.keep hk h1.at_.hrow.lt h1.at_.mem.row.lt h1.at_.lt4
    exact h1.at_.lt4 _ (h5.four_eq hh h4)
theorem tri_dbl (d : Nat) : 2 * tri d = d * (d + 1) := by
  induction d with
  | zero => rfl
  | succ d ih =>
    show 2 * (tri d + (d + 1)) = _
    rw [Nat.mul_add, ih, show d + 1 + 1 = d + 2 from rfl, Nat.add_mul, Nat.mul_add d d 2, Nat.mul_add d d 1]
    omega
set_option maxRecDepth 100000 in
set_option maxHeartbeats 4000000 in
theorem spDoW {w : World} {hb wp q nh th : Nat} {g f : Nat → Value} {X : Rv} {T : Tp} {W : Rw} {Mu : Nat → Prop} (c : Cl) (h : DoAt w hb wp q nh th g f X T W Mu) (hth : th < 16) (hB : T.fresh = true → RtB T W) :
    Calls Tryz.prog 83 #[.pointer (some ⟨hb, q, none⟩), .int .i64 0, clV c] w fun e w' => e = .returned (.tuple #[]) ∧ DoR w hb wp q nh th g f X Mu (spDo th c T W).1 (spDo th c T W).2 w' := by
  have hr0 := h.start.grow (w2 := w.alloc (.cells #[.int .i64 c.thread, .int .i64 c.obj, .int .i64 c.kind, .int .u64 c.a, .int .u64 c.b, .int .u64 c.c] 48)) ((Below.refl _ w).alloc (Nat.le_refl _) _)
  have hq := h.at_.qn
  have hz := h.at_.hrow.lt
  have f9 := h.at_.hrow.frozen (q + 9)
  have c9 := h.at_.hrow.cell (i := q + 9) (by omega)
  rw [h.at_.tp.err] at c9
  have c8 := h.at_.hrow.cell (i := q + 8) (by omega)
  rw [h.at_.tp.priv] at c8
  have c1 := h.at_.cells.2.1
  obtain ⟨Ap, cp, hpv, hps, hpb⟩ := h.pr
  rw [hpv] at c8
  have HR0 := hide hr0
  have HH := hide h
  unfold spDo clV
  by_cases hk : c.kind = 0
  · rw [if_neg (by omega)]
    have dk : (c.kind != 0) = false := by simpa using hk
    by_cases hp : T.priv = []
    · rw [if_neg (by simpa using hp)]
      rw [hp] at c8
      simp only [List.length_nil] at c8
      obtain ⟨FIN, hFIN⟩ : ∃ FIN, spLoop th (T.got.length + 4) 0 0 T W = FIN := ⟨_, rfl⟩
      rw [hFIN]
      have HFIN := hide hFIN
      have HB0 : Hid (T.fresh = true → RtB T W) := hide hB
      have HG := hide (show T.got.length + 4 ≤ 100004 ∧ muT T + 1 ≤ T.got.length + 4 from ⟨by have := h.at_.bg; omega, by unfold muT b1; have := h.at_.ba; split <;> omega⟩)
      have ku : IntKind.u64.wrap (th : Int) = th := by rw [IntKind.wrap_u64]; omega
      have ku2 : IntKind.u64.wrap ((th : Int) + 1) = th + 1 := by rw [IntKind.wrap_u64]; omega
      clear hr0 h hk hp hpv hps hpb hB hFIN
      go_enter Tryz.func83, Tryz.ntmps83
      go_wp2_with fail
      clear c9 c8 f9
      go_loopw [6, 7] (fun v6 v7 wr => ∃ (fuel r c' : Nat) (T1 : Tp) (W1 : Rw), v6 = .int .i64 (r : Int) ∧ v7 = .int .i64 (c' : Int) ∧ r + c' + fuel ≤ 100004 ∧ Hid (DoR w hb wp q nh th g f X Mu T1 W1 wr) ∧ Hid (spLoop th fuel r c' T1 W1 = FIN) ∧ Hid (T1.fresh = true → RtB T1 W1) ∧ Hid (T1.halt = false → muT T1 + 1 ≤ fuel)) (fun v6 v7 _ => 100005 - (intOf v6 + intOf v7).toNat)
      case atStart => exact ⟨T.got.length + 4, 0, 0, T, W, rfl, rfl, by have := HG.out; omega, HR0, HFIN, HB0, hide (fun _ => HG.out.2)⟩
      case round =>
        obtain ⟨fuel, r, c', T1, W1, rfl, rfl, hrc, HD, HF, HB, HM⟩ := hrel
        obtain ⟨g1, f1, X1, hR1, hQ0⟩ := HD.out.acc (T2 := T1) (W2 := W1) ⟨rfl, rfl, rfl⟩
        have c7 := hR1.hrow.cell (i := q + 7) (by omega)
        rw [hR1.tp.halt] at c7
        clear hQ0
        by_cases hh : T1.halt = true
        · rw [hh] at c7
          have hF := HF.out
          rw [spLoop_stop hh] at hF
          have HFF := hide hF
          clear hh hF hR1 HF HB HM hrc
          go_wp2
          go_end0
          refine ⟨rfl, ?_⟩
          rw [← HFF.out]
          exact HD.out
        · have hh' : T1.halt = false := by simpa using hh
          rw [hh'] at c7
          have hmu := HM.out hh'
          obtain ⟨fu, rfl⟩ : ∃ fu, fuel = fu + 1 := ⟨fuel - 1, by omega⟩
          obtain ⟨S, hS⟩ : ∃ S, nameN r c' = S := ⟨_, rfl⟩
          obtain ⟨Dd, hDd⟩ : ∃ Dd, r + c' = Dd := ⟨_, rfl⟩
          have hSt : S = tri Dd + r := by rw [← hS, ← hDd]; rfl
          have htt := tri_dbl Dd
          have hDb : Dd ≤ 100004 := by omega
          have hP : Dd * (Dd + 1) ≤ 100004 * 100005 := Nat.mul_le_mul hDb (by omega)
          have htri : tri Dd ≤ 10000000000 := by omega
          have hPi : (Dd : Int) * ((Dd : Int) + 1) = ((2 * tri Dd : Nat) : Int) := by rw [htt]; push_cast; rfl
          have k1 : IntKind.i64.wrap ((r : Int) + (c' : Int)) = (Dd : Int) := by rw [← hDd]; exact (wrap_i64 (by omega) (by omega)).trans (by push_cast; rfl)
          have k2 : IntKind.i64.wrap ((Dd : Int) + 1) = (Dd : Int) + 1 := wrap_i64 (by omega) (by omega)
          have k3 : IntKind.i64.wrap ((Dd : Int) * ((Dd : Int) + 1)) = (Dd : Int) * ((Dd : Int) + 1) := wrap_i64 (by rw [hPi]; omega) (by rw [hPi]; omega)
          have k4 : Int.tdiv ((Dd : Int) * ((Dd : Int) + 1)) 2 = (tri Dd : Int) := by rw [hPi, Int.tdiv_eq_ediv_of_nonneg (by omega)]; omega
          have k5 : IntKind.i64.wrap (tri Dd : Int) = (tri Dd : Int) := wrap_i64 (by omega) (by omega)
          have k6 : IntKind.i64.wrap ((tri Dd : Int) + (r : Int)) = (S : Int) := by rw [hSt]; exact (wrap_i64 (by omega) (by omega)).trans (by push_cast; rfl)
          have k7 : IntKind.i64.wrap (2 * (S : Int)) = 2 * (S : Int) := wrap_i64 (by omega) (by omega)
          have k8 : IntKind.i64.wrap (0 + 2 * (S : Int)) = 2 * (S : Int) := by rw [Int.zero_add]; exact k7
          have k9 : IntKind.i64.wrap (2 * (S : Int) + 1) = 2 * (S : Int) + 1 := wrap_i64 (by omega) (by omega)
          have k10 : IntKind.i64.wrap ((r : Int) + 1) = (r : Int) + 1 := wrap_i64 (by omega) (by omega)
          have k11 : IntKind.i64.wrap ((c' : Int) + 1) = (c' : Int) + 1 := wrap_i64 (by omega) (by omega)
          have k12 : IntKind.u64.wrap (S : Int) = (S : Int) := by rw [IntKind.wrap_u64]; omega
          have eS : ((2 * S : Nat) : Int) = 2 * (S : Int) := by push_cast; rfl
          obtain ⟨a, TA, WA, hA⟩ : ∃ a t w, T1.acc th 1 (2 * (S : Int)) (th + 1) 0 W1 = (a, t, w) := ⟨_, _, _, rfl⟩
          obtain ⟨b, TB, WB, hBB⟩ : ∃ a t w, TA.acc th 0 (2 * (S : Int) + 1) 0 0 WA = (a, t, w) := ⟨_, _, _, rfl⟩
          obtain ⟨kk, TC, WC, hC⟩ : ∃ a t w, TB.acc th 1 (2 * (S : Int) + 1) 1 0 WB = (a, t, w) := ⟨_, _, _, rfl⟩
          obtain ⟨ee, TE, WE, hEE⟩ : ∃ a t w, TC.acc th 0 (2 * (S : Int)) 0 0 WC = (a, t, w) := ⟨_, _, _, rfl⟩
          have hF := HF.out
          have rA := acc_reads th 1 (2 * (S : Int)) (th + 1) 0 T1 W1
          have bA := acc_rtb (t := th) (k := 1) (a := 2 * (S : Int)) (x := th + 1) (y := 0) HB.out
          have mA := acc_mu (t := th) (k := 1) (a := 2 * (S : Int)) (x := th + 1) (y := 0) (W := W1) HD.out.ba
          rw [hA] at rA bA mA
          dsimp only at rA bA mA
          have rB := acc_reads th 0 (2 * (S : Int) + 1) 0 0 TA WA
          have bB := acc_rtb (t := th) (k := 0) (a := 2 * (S : Int) + 1) (x := 0) (y := 0) bA
          have mB := acc_mu (t := th) (k := 0) (a := 2 * (S : Int) + 1) (x := 0) (y := 0) (W := WA) mA.1
          rw [hBB] at rB bB mB
          dsimp only at rB bB mB
          have rC := acc_reads th 1 (2 * (S : Int) + 1) 1 0 TB WB
          have bC := acc_rtb (t := th) (k := 1) (a := 2 * (S : Int) + 1) (x := 1) (y := 0) bB
          have mC := acc_mu (t := th) (k := 1) (a := 2 * (S : Int) + 1) (x := 1) (y := 0) (W := WB) mB.1
          rw [hC] at rC bC mC
          dsimp only at rC bC mC
          have rE := acc_reads th 0 (2 * (S : Int)) 0 0 TC WC
          have bE := acc_rtb (t := th) (k := 0) (a := 2 * (S : Int)) (x := 0) (y := 0) bC
          have mE := acc_mu (t := th) (k := 0) (a := 2 * (S : Int)) (x := 0) (y := 0) (W := WC) mC.1
          rw [hEE] at rE bE mE
          dsimp only at rE bE mE
          have hmB : TB.halt = false → muT TB + 1 ≤ fu := fun e => by
            have h1 := mB.2.2 e
            have h2 : TA.halt = false := by
              rcases hx : TA.halt with _ | _
              · rfl
              · rw [mB.2.1 hx] at e; cases e
            have h3 := mA.2.2 h2
            omega
          have hmE : TE.halt = false → muT TE + 1 ≤ fu := fun e => by
            have h1 := mE.2.2 e
            have h2 : TC.halt = false := by
              rcases hx : TC.halt with _ | _
              · rfl
              · rw [mE.2.1 hx] at e; cases e
            have h3 := mC.2.2 h2
            have h4 : TB.halt = false := by
              rcases hx : TB.halt with _ | _
              · rfl
              · rw [mC.2.1 hx] at h2; cases h2
            have := hmB h4
            omega
          have pA : T1.acc th 1 (2 * nameN r c' : Nat) (th + 1) 0 W1 = (a, TA, WA) := by rw [hS, eS]; exact hA
          have pB : TA.acc th 0 ((2 * nameN r c' : Nat) + 1) 0 0 WA = (b, TB, WB) := by rw [hS, eS]; exact hBB
          have pC : TB.acc th 1 ((2 * nameN r c' : Nat) + 1) 1 0 WB = (kk, TC, WC) := by rw [hS, eS]; exact hC
          have pE : TC.acc th 0 (2 * nameN r c' : Nat) 0 0 WC = (ee, TE, WE) := by rw [hS, eS]; exact hEE
          have N1 := tapeWrite (2 * (S : Int)) (th + 1) hR1 HB.out
          rw [hA] at N1
          dsimp only at N1
          have HF1 := hide hF
          have HPA := hide pA
          have HPB := hide pB
          have HPC := hide pC
          have HPE := hide pE
          have HhB := hide hBB
          have HhC := hide hC
          have HhE := hide hEE
          have HmB := hide hmB
          have HmE := hide hmE
          have HbA := hide bA
          have HbB := hide bB
          have HbC := hide bC
          have HbE := hide bE
          have HrA := hide rA
          have HrB := hide rB
          have HrC := hide rC
          have HrE := hide rE
          have Hhh := hide hh'
          have HS := hide hS
          have HRC := hide hrc
          obtain ⟨g1, f1, X1, hR1', hQ1⟩ := HD.out.acc (T2 := TA) (W2 := WA) rA
          have N1 := tapeWrite (2 * (S : Int)) (th + 1) hR1' HB.out
          rw [hA] at N1
          dsimp only at N1
          have HQ1 := hide hQ1
          clear hF pA pB pC pE hBB hC hEE hmB hmE bA bB bC bE rA rB rC rE mA mB mC mE hR1 hR1' HD HF HB HM hA hh hh' hmu hSt htt hDb hP htri hPi eS hS hDd hrc hQ1
          go_wp2_with fail
          refine N1.mono ?_
          rintro e w5 ⟨rfl, hq5⟩
          have HDA := hide (HQ1.out _ hq5)
          clear hq5 HQ1 N1 c7
          obtain ⟨g1, f1, X1, hR2, hQ2⟩ := HDA.out.acc (T2 := TB) (W2 := WB) HrB.out
          have N2 := tapeRead (2 * (S : Int) + 1) hR2 HbA.out
          rw [HhB.out] at N2
          dsimp only at N2
          have HQ2 := hide hQ2
          clear hR2 hQ2 HDA
          go_wp2_with fail
          refine N2.mono ?_
          rintro e w6 ⟨rfl, hq6⟩
          have HDB := hide (HQ2.out _ hq6)
          clear hq6 HQ2 N2
          by_cases hb0 : b = 0
          · subst hb0
            obtain ⟨g1, f1, X1, hR3, hQ3⟩ := HDB.out.acc (T2 := TC) (W2 := WC) HrC.out
            have N3 := tapeWrite (2 * (S : Int) + 1) 1 hR3 HbB.out
            rw [HhC.out] at N3
            dsimp only at N3
            have HQ3 := hide hQ3
            clear hR3 hQ3 HDB
            go_wp2_with fail
            refine N3.mono ?_
            rintro e w7 ⟨rfl, hq7⟩
            have HDC := hide (HQ3.out _ hq7)
            clear hq7 HQ3 N3
            obtain ⟨g1, f1, X1, hR4, hQ4⟩ := HDC.out.acc (T2 := TE) (W2 := WE) HrE.out
            have N4 := tapeRead (2 * (S : Int)) hR4 HbC.out
            rw [HhE.out] at N4
            dsimp only at N4
            have HQ4 := hide hQ4
            clear hR4 hQ4 HDC
            go_wp2_with fail
            refine N4.mono ?_
            rintro e w8 ⟨rfl, hq8⟩
            have HDE := hide (HQ4.out _ hq8)
            clear hq8 HQ4 N4
            by_cases he : ee = th + 1
            · subst he
              have hX := (spLoop_take Hhh.out HPA.out HPB.out HPC.out HPE.out (f := fu)).symm.trans HF1.out
              rw [HS.out] at hX
              have HX := hide hX
              obtain ⟨g1, f1, X1, hR5, -⟩ := HDE.out.acc (T2 := TE) (W2 := WE) ⟨rfl, rfl, rfl⟩
              have c10 := hR5.hrow.cell (i := q + 10) (by omega)
              rw [hR5.tp.val] at c10
              have c8 := hR5.hrow.cell (i := q + 8) (by omega)
              have f10 := hR5.hrow.frozen (q + 10)
              have f8 := hR5.hrow.frozen (q + 8)
              have hz8 := hR5.hrow.lt
              have h10 := HDE.out.num (T2 := { TE with val := (S : Int) }) (.int .u64 (S : Int)) (show 10 < 13 by decide) (fun g X ht => by obtain ⟨b0, b1, b2, b3, b4, b5, b6, b7, b8, b9, b10, b11, b12⟩ := ht; refine ⟨?_, ?_, ?_, ?_, ?_, ?_, ?_, ?_, ?_, ?_, ?_, ?_, ?_⟩; all_goals first | (rw [if_neg (by omega)]; assumption) | (rw [if_pos (by omega)]; rfl) | (rw [if_pos (by omega)])) rfl rfl rfl ⟨rfl, rfl, rfl⟩
              obtain ⟨w9, hw9⟩ : ∃ x, x = w8.setCell ⟨hb, q + 10, none⟩ (.int .u64 (S : Int)) := ⟨_, rfl⟩
              rw [← hw9] at h10
              have hz9 : w9.heap.size = w8.heap.size := by rw [hw9]; simp
              have h8 := h10.prvNew (l := [1]) (v := .slice (some ⟨w8.heap.size, 0, none⟩) 1 1) (w2 := w9.alloc (.cells #[.int .u64 1] 46)) ((Below.refl _ _).alloc (Nat.le_refl _) _) (by
                refine ⟨some ⟨w8.heap.size, 0, none⟩, 1, rfl, ?_, ?_⟩
                · have hn := heap_alloc_new w9 (.cells #[.int .u64 1] 46)
                  rw [hz9] at hn
                  refine Sl.of_block (enc := ntEnc .u64) (sz := 1) (xs := [1]) hn (Nat.le_refl _) (by unfold maxLen; decide) (fun k x hk j u hu => ?_)
                  rcases k with _ | k
                  · simp at hk
                    subst hk
                    rcases j with _ | j
                    · simpa [ntEnc] using hu
                    · simp [ntEnc] at hu
                  · simp at hk
                · intro a ha
                  cases ha
                  exact ⟨by show ¬ w8.heap.size < w9.heap.size; omega, by show w8.heap.size < (w9.alloc _).heap.size; simp; omega⟩)
              rw [World.setCell_alloc_past _ _ _ _ (show hb < w9.heap.size by omega), hw9] at h8
              have H8 := hide h8
              clear hX hR5 h10 hw9 hz9 h8
              go_wp2
              ((try simp only [Exit.inBlock, Exit.then]); refine bodyPost_ret (results_none rfl _ _ _) rfl ?_)
              refine ⟨rfl, ?_⟩
              rw [← HX.out]
              exact H8.out
            · have de : (ee == (th : Int) + 1) = false := by simpa using he
              have HX := hide ((spLoop_down Hhh.out HPA.out HPB.out HPC.out HPE.out he).symm.trans HF1.out)
              clear he
              go_wp2
              go_roundw
              case rel => exact ⟨fu, r + 1, c', TE, WE, by first | rfl | (push_cast; rfl), rfl, by have := HRC.out; omega, HDE, HX, HbE, HmE⟩
              case measure => first | (simp [intOf]; done) | (simp [intOf]; have := HRC.out; omega)
          · have db : (b != 0) = true := by simpa using hb0
            have HX := hide ((spLoop_right Hhh.out HPA.out HPB.out hb0).symm.trans HF1.out)
            clear hb0
            go_wp2
            go_roundw
            case rel => exact ⟨fu, r, c' + 1, TB, WB, rfl, by first | rfl | (push_cast; rfl), by have := HRC.out; omega, HDB, HX, HbB, HmB⟩
            case measure => first | (simp [intOf]; done) | (simp [intOf]; have := HRC.out; omega)
    · rw [if_pos hp]
      have hpl : (0 : Int) < (T.priv.length : Int) := by
        have := List.length_pos_iff.2 hp
        omega
      clear hr0 h hk hp hpv hps hpb
      go_enter Tryz.func83, Tryz.ntmps83
      go_wp2
      ((try simp only [Exit.inBlock, Exit.then]); refine bodyPost_ret (results_none rfl _ _ _) rfl ?_)
      refine ⟨rfl, ?_⟩
      have := HR0.out.num (T2 := { T with err := 8 }) (.int .i64 8) (show 9 < 13 by decide) (fun g X ht => by obtain ⟨b0, b1, b2, b3, b4, b5, b6, b7, b8, b9, b10, b11, b12⟩ := ht; refine ⟨?_, ?_, ?_, ?_, ?_, ?_, ?_, ?_, ?_, ?_, ?_, ?_, ?_⟩; all_goals first | (rw [if_neg (by omega)]; assumption) | (rw [if_pos (by omega)]; rfl) | (rw [if_pos (by omega)])) rfl rfl rfl ⟨rfl, rfl, rfl⟩
      rw [World.setCell_alloc_past _ _ _ _ hz] at this
      exact this
  · rw [if_pos hk]
    have dk : (c.kind != 0) = true := by simpa using hk
    clear hr0 h hk hpv hps hpb
    go_enter Tryz.func83, Tryz.ntmps83
    go_wp2
    ((try simp only [Exit.inBlock, Exit.then]); refine bodyPost_ret (results_none rfl _ _ _) rfl ?_)
    refine ⟨rfl, ?_⟩
    have := HR0.out.num (T2 := { T with err := 9 }) (.int .i64 9) (show 9 < 13 by decide) (fun g X ht => by obtain ⟨b0, b1, b2, b3, b4, b5, b6, b7, b8, b9, b10, b11, b12⟩ := ht; refine ⟨?_, ?_, ?_, ?_, ?_, ?_, ?_, ?_, ?_, ?_, ?_, ?_, ?_⟩; all_goals first | (rw [if_neg (by omega)]; assumption) | (rw [if_pos (by omega)]; rfl) | (rw [if_pos (by omega)])) rfl rfl rfl ⟨rfl, rfl, rfl⟩
    rw [World.setCell_alloc_past _ _ _ _ hz] at this
    exact this
end Go.Proofs.YtlfingcmekifkaaGreat

namespace Go.Proofs.YtlfingcmekifkaaGreat
open Go.RowKit
set_option maxRecDepth 100000 in
set_option maxHeartbeats 2000000 in
theorem plainDoSp {w : World} {hb wp q nh th n : Nat} {g f : Nat → Value} {X : Rv} {T : Tp} {W : Rw} {Mu : Nat → Prop} (c : Cl) (sp sq : Int) (h : DoAt w hb wp q nh th g f X T W Mu) (hth : th < 16) (hB : T.fresh = true → RtB T W) :
    Calls Tryz.prog 61 #[.pointer (some ⟨hb, q, none⟩), .int .i64 n, .int .i64 0, spV 14 sp sq, clV c] w fun e w' => e = .returned (.tuple #[]) ∧ DoR w hb wp q nh th g f X Mu (spDo th c T W).1 (spDo th c T W).2 w' := by
  have hb2 : Below w.heap.size w ((w.alloc (.cells #[.int .i64 14, .int .i64 sp, .int .i64 sq] 39)).alloc (.cells #[.int .i64 c.thread, .int .i64 c.obj, .int .i64 c.kind, .int .u64 c.a, .int .u64 c.b, .int .u64 c.c] 48)) := ((Below.refl _ w).alloc (Nat.le_refl _) _).alloc (by simp) _
  have N := spDoW c (h.grow hb2) hth hB
  have HB := hide hb2
  obtain ⟨TT, hTT⟩ : ∃ TT, spDo th c T W = TT := ⟨_, rfl⟩
  rw [hTT] at N ⊢
  clear h hb2 hB hTT
  unfold clV at N ⊢
  unfold spV
  go_enter Tryz.func61, Tryz.ntmps61
  go_wp2_with fail
  refine N.mono ?_
  rintro e w1 ⟨rfl, hD⟩
  have HD := hide hD
  clear hD N
  go_wp2
  go_end0
  exact ⟨rfl, HD.out.since HB.out⟩
theorem plainDo_sp (n : Nat) (sp sq : Int) : PlainDo spDo n [(14, sp, sq)] [0] := by
  intro w hb wp q nh th g f X T W Mu c s b h0 h1 h2 h ht hB _ _ _
  rcases hc : c.obj.toNat with _ | k
  · rw [hc] at h1 h2
    cases h1
    cases h2
    exact plainDoSp c sp sq h ht hB
  · rw [hc] at h1
    cases h1
end Go.Proofs.YtlfingcmekifkaaGreat
