import Derived.Test.YtlfingcmekifkaaGreatBun28
import Derived.Test.YtlfingcmekifkaaGreatBun24
import Derived.Test.YtlfingcmekifkaaGreatBun21
import Derived.Test.YtlfingcmekifkaaGreatBun15
namespace Go.Proofs.YtlfingcmekifkaaGreat
open Go.RowKit
theorem firstF_bd {l : List Int} (h : ∀ x ∈ l, Wd x) : 0 ≤ firstF l ∧ firstF l ≤ 9223372036854775808 := by
  have key : ∀ (l : List Int), (∀ x ∈ l, Wd x) → ∀ f : Int, (0 ≤ f ∧ f ≤ 9223372036854775808) → 0 ≤ l.foldl (fun f m => if m = 0 then f else if m % 2 = 0 then f else if f = 0 then m / 2 else f) f ∧ l.foldl (fun f m => if m = 0 then f else if m % 2 = 0 then f else if f = 0 then m / 2 else f) f ≤ 9223372036854775808 := by
    intro l
    induction l with
    | nil => exact fun _ f hf => hf
    | cons x l ih =>
      intro h f hf
      rw [List.foldl_cons]
      refine ih (fun y hy => h y (List.mem_cons_of_mem _ hy)) _ ?_
      have hx := h x (List.mem_cons_self ..)
      unfold Wd at hx
      repeat' split
      all_goals omega
  exact key l h 0 ⟨Int.le_refl _, by decide⟩
set_option maxRecDepth 100000 in
set_option maxHeartbeats 4000000 in
theorem adDoW {w : World} {hb wp q nh th n : Nat} {g f : Nat → Value} {X : Rv} {T : Tp} {W : Rw} {Mu : Nat → Prop} (c : Cl) (hn : 1 ≤ n ∧ n ≤ 16) (h : DoAt w hb wp q nh th g f X T W Mu) (hth : th < 16) (hB : T.fresh = true → RtB T W) (hcb : ClB c) (htb : TBd T W) :
    Calls Tryz.prog 84 #[.pointer (some ⟨hb, q, none⟩), .int .i64 (n : Int), .int .i64 0, clV c] w fun e w' => e = .returned (.tuple #[]) ∧ DoR w hb wp q nh th g f X Mu (adDo n th c T W).1 (adDo n th c T W).2 w' := by
  have hr0 := h.start.grow (w2 := w.alloc (.cells #[.int .i64 c.thread, .int .i64 c.obj, .int .i64 c.kind, .int .u64 c.a, .int .u64 c.b, .int .u64 c.c] 48)) ((Below.refl _ w).alloc (Nat.le_refl _) _)
  have hq := h.at_.qn
  have hz := h.at_.hrow.lt
  have f9 := h.at_.hrow.frozen (q + 9)
  have c9 := h.at_.hrow.cell (i := q + 9) (by omega)
  rw [h.at_.tp.err] at c9
  have c8 := h.at_.hrow.cell (i := q + 8) (by omega)
  rw [h.at_.tp.priv] at c8
  have f8 := h.at_.hrow.frozen (q + 8)
  have c1 := h.at_.cells.2.1
  obtain ⟨Ap, cp, hpv, hps, hpb⟩ := h.pr
  rw [hpv] at c8
  have HR0 := hide hr0
  have HH := hide h
  have HCB := hide hcb
  have HTB := hide htb
  obtain ⟨FIN, hFIN⟩ : ∃ FIN, adDo n th c T W = FIN := ⟨_, rfl⟩
  rw [hFIN]
  unfold clV
  by_cases hk : c.kind = 0
  · have dk : (c.kind != 0) = false := by simpa using hk
    by_cases ha : 2147483648 ≤ c.a
    · have dga : decide (2147483648 ≤ c.a) = true := by simpa using ha
      have HF : Hid (({ T with err := 10 }, W) = FIN) := hide (by rw [← hFIN]; unfold adDo; rw [if_neg (by omega), if_pos ha])
      clear hr0 h hk hpv hps hpb hFIN hcb htb hB
      go_enter Tryz.func84, Tryz.ntmps84
      go_wp2
      ((try simp only [Exit.inBlock, Exit.then]); refine bodyPost_ret (results_none rfl _ _ _) rfl ?_)
      refine ⟨rfl, ?_⟩
      rw [← HF.out]
      have := HR0.out.num (T2 := { T with err := 10 }) (.int .i64 10) (show 9 < 13 by decide) (fun g X ht => by obtain ⟨b0, b1, b2, b3, b4, b5, b6, b7, b8, b9, b10, b11, b12⟩ := ht; refine ⟨?_, ?_, ?_, ?_, ?_, ?_, ?_, ?_, ?_, ?_, ?_, ?_, ?_⟩; all_goals first | (rw [if_neg (by omega)]; assumption) | (rw [if_pos (by omega)]; rfl) | (rw [if_pos (by omega)])) rfl rfl rfl ⟨rfl, rfl, rfl⟩
      rw [World.setCell_alloc_past _ _ _ _ hz] at this
      exact this
    · have dga : decide (2147483648 ≤ c.a) = false := by simp; omega
      by_cases hp : T.priv = []
      · rw [hp] at c8
        simp only [List.length_nil] at c8
        have hbs : (w.alloc (.cells #[.int .i64 c.thread, .int .i64 c.obj, .int .i64 c.kind, .int .u64 c.a, .int .u64 c.b, .int .u64 c.c] 48)).heap.size = w.heap.size + 1 := by simp
        have hon : ((w.alloc (.cells #[.int .i64 c.thread, .int .i64 c.obj, .int .i64 c.kind, .int .u64 c.a, .int .u64 c.b, .int .u64 c.c] 48)).alloc (.cells #[.int .u64 1] 46)).heap[w.heap.size + 1]? = some (.cells #[.int .u64 1] 46 (0, 0)) := by
          have := heap_alloc_new (w.alloc (.cells #[.int .i64 c.thread, .int .i64 c.obj, .int .i64 c.kind, .int .u64 c.a, .int .u64 c.b, .int .u64 c.c] 48)) (.cells #[.int .u64 1] 46)
          rwa [hbs] at this
        have hls : ∀ Mv : Nat → Prop, ¬ Mv (w.heap.size + 1) → LstIs ((w.alloc (.cells #[.int .i64 c.thread, .int .i64 c.obj, .int .i64 c.kind, .int .u64 c.a, .int .u64 c.b, .int .u64 c.c] 48)).alloc (.cells #[.int .u64 1] 46)) Mv (.slice (some ⟨w.heap.size + 1, 0, none⟩) 1 1) [1] := fun Mv hMv => by
          refine ⟨some ⟨w.heap.size + 1, 0, none⟩, 1, rfl, ?_, fun a ha => ?_⟩
          · refine Sl.of_block (enc := ntEnc .u64) (sz := 1) (xs := [1]) hon (Nat.le_refl _) (by unfold maxLen; decide) (fun k x hk j u hu => ?_)
            rcases k with _ | k
            · simp at hk
              subst hk
              rcases j with _ | j
              · simpa [ntEnc] using hu
              · simp [ntEnc] at hu
            · simp at hk
          · cases ha
            exact ⟨hMv, (Array.getElem?_eq_some_iff.1 hon).1⟩
        have hbo : Below (w.alloc (.cells #[.int .i64 c.thread, .int .i64 c.obj, .int .i64 c.kind, .int .u64 c.a, .int .u64 c.b, .int .u64 c.c] 48)).heap.size (w.alloc (.cells #[.int .i64 c.thread, .int .i64 c.obj, .int .i64 c.kind, .int .u64 c.a, .int .u64 c.b, .int .u64 c.c] 48)) ((w.alloc (.cells #[.int .i64 c.thread, .int .i64 c.obj, .int .i64 c.kind, .int .u64 c.a, .int .u64 c.b, .int .u64 c.c] 48)).alloc (.cells #[.int .u64 1] 46)) := (Below.refl _ _).alloc (Nat.le_refl _) _
        have hD1 := hr0.prvNew (l := [1]) (v := (.slice (some ⟨w.heap.size + 1, 0, none⟩) 1 1)) hbo (hls _ (by rw [hbs]; omega))
        have hA1 := (h.grow (((Below.refl _ w).alloc (Nat.le_refl _) (.cells #[.int .i64 c.thread, .int .i64 c.obj, .int .i64 c.kind, .int .u64 c.a, .int .u64 c.b, .int .u64 c.c] 48)).alloc (by simp) (.cells #[.int .u64 1] 46))).set (j := 8) (T' := { T with priv := [1] }) (.slice (some ⟨w.heap.size + 1, 0, none⟩) 1 1) (.slice (some ⟨w.heap.size + 1, 0, none⟩) 1 1) X.lv X.kv (by decide) (fun g ht => by obtain ⟨b0, b1, b2, b3, b4, b5, b6, b7, b8, b9, b10, b11, b12⟩ := ht; refine ⟨?_, ?_, ?_, ?_, ?_, ?_, ?_, ?_, ?_, ?_, ?_, ?_, ?_⟩; all_goals first | (rw [if_neg (by omega)]; assumption) | (rw [if_pos (by omega)]; rfl) | (rw [if_pos (by omega)])) rfl rfl h.at_.ba (hls _ (fun e => by have := h.lt _ e; omega)) ((h.grow (((Below.refl _ w).alloc (Nat.le_refl _) (.cells #[.int .i64 c.thread, .int .i64 c.obj, .int .i64 c.kind, .int .u64 c.a, .int .u64 c.b, .int .u64 c.c] 48)).alloc (by simp) (.cells #[.int .u64 1] 46))).li) ((h.grow (((Below.refl _ w).alloc (Nat.le_refl _) (.cells #[.int .i64 c.thread, .int .i64 c.obj, .int .i64 c.kind, .int .u64 c.a, .int .u64 c.b, .int .u64 c.c] 48)).alloc (by simp) (.cells #[.int .u64 1] 46))).ky)
        rw [World.setCell_alloc_past _ _ _ _ (by rw [hbs]; omega), World.setCell_alloc_past _ _ _ _ hz] at hD1 hA1
        obtain ⟨W1, hW1⟩ : ∃ X, X = (((w.setCell ⟨hb, q + 8, none⟩ (.slice (some ⟨w.heap.size + 1, 0, none⟩) 1 1)).alloc (.cells #[.int .i64 c.thread, .int .i64 c.obj, .int .i64 c.kind, .int .u64 c.a, .int .u64 c.b, .int .u64 c.c] 48)).alloc (.cells #[.int .u64 1] 46)) := ⟨_, rfl⟩
        rw [← hW1] at hD1 hA1
        obtain ⟨g1, f1, X1, hO1, hcl⟩ := hD1.open
        have hnf : ¬ X1.four w.heap.size := fun e => by
          have h1 := hA1.at_.four_eq hO1.at_ e
          have h2 := h.at_.lt4 _ h1
          omega
        have hca : W1.cell? ⟨w.heap.size, 3, none⟩ = some (.int .u64 c.a) := by
          rw [hW1]
          have hs8 : (w.setCell ⟨hb, q + 8, none⟩ (.slice (some ⟨w.heap.size + 1, 0, none⟩) 1 1)).heap.size = w.heap.size := by simp
          rw [← hs8]
          go_simp
        have hz1 : w.heap.size < W1.heap.size := by rw [hW1]; simp; omega
        have hnb : w.heap.size ≠ hb := by omega
        have hnw : w.heap.size ≠ wp := by have := h.at_.mem.row.lt; omega
        obtain ⟨v, hv⟩ : ∃ v, c.a + 1 = v := ⟨_, rfl⟩
        have hv1 : 1 ≤ v ∧ v ≤ 2147483648 := by have := hcb.1; omega
        obtain ⟨a, TA, WA, hA⟩ : ∃ a t w, ({ T with priv := [1] } : Tp).acc th 1 (th : Int) v 0 W = (a, t, w) := ⟨_, _, _, rfl⟩
        obtain ⟨L, TB, WB, hBq⟩ : ∃ a t w, colT th 0 n TA WA = (a, t, w) := ⟨_, _, _, rfl⟩
        obtain ⟨kk, TC, WC, hC⟩ : ∃ a t w, TB.acc th 1 ((n : Int) + th) (markF v L) 0 WB = (a, t, w) := ⟨_, _, _, rfl⟩
        obtain ⟨M, TD, WD, hDq⟩ : ∃ a t w, colT th n n TC WC = (a, t, w) := ⟨_, _, _, rfl⟩
        have rA := acc_reads th 1 (th : Int) v 0 { T with priv := [1] } W
        have bA := acc_rtb (t := th) (k := 1) (a := (th : Int)) (x := v) (y := 0) (T := { T with priv := [1] }) (W := W) hB
        have tA := (acc_wd (t := th) (k := 1) (a := (th : Int)) (x := v) (y := 0) (T := { T with priv := [1] }) (W := W) htb.one ⟨by omega, by omega⟩ wd0).1
        rw [hA] at rA bA tA
        dsimp only at rA bA tA
        have bB := colT_rtb (t := th) (b := 0) bA n
        obtain ⟨tB, wL⟩ := colT_bd (t := th) (b := 0) tA n
        rw [hBq] at bB tB wL
        dsimp only at bB tB wL
        have hmk := markF_wd L (v := v) ⟨by omega, hv1.2⟩
        have rC := acc_reads th 1 ((n : Int) + th) (markF v L) 0 TB WB
        have bC := acc_rtb (t := th) (k := 1) (a := (n : Int) + th) (x := markF v L) (y := 0) bB
        have tC := (acc_wd (t := th) (k := 1) (a := (n : Int) + th) (x := markF v L) (y := 0) tB hmk wd0).1
        rw [hC] at rC bC tC
        dsimp only at rC bC tC
        obtain ⟨tD, wM⟩ := colT_bd (t := th) (b := (n : Int)) tC n
        rw [hDq] at tD wM
        dsimp only at tD wM
        have HF : Hid (({ TD with val := endF v M }, WD) = FIN) := hide (by
          rw [← hFIN, ← hv]
          subst hv
          exact (adDo_go hk ha hp hA hBq hC hDq).symm)
        have HCL := hide hcl
        have HBo := hide hB
        have k1 : IntKind.u64.wrap (c.a + 1) = v := by rw [hv, IntKind.wrap_u64]; omega
        have k2 : IntKind.u64.wrap (2 * v) = 2 * v := by rw [IntKind.wrap_u64]; omega
        have k3 : IntKind.u64.wrap (2 * v + 1) = 2 * v + 1 := by rw [IntKind.wrap_u64]; omega
        have k4 : IntKind.i64.wrap (0 + (th : Int)) = (th : Int) := (wrap_i64 (by omega) (by omega)).trans (by omega)
        have k5 : IntKind.i64.wrap ((n : Int) + (th : Int)) = (n : Int) + (th : Int) := wrap_i64 (by omega) (by omega)
        have k6 : IntKind.i64.wrap (0 + (n : Int)) = (n : Int) := (wrap_i64 (by omega) (by omega)).trans (by omega)
        have k7 : IntKind.u64.wrap (2 * c.a) = 2 * c.a := by rw [IntKind.wrap_u64]; have := hcb.1; omega
        have hn' := hn.2
        have hS1 := hO1.start
        obtain ⟨g2, f2, X2, hR1, hQ1⟩ := hS1.acc (T2 := TA) (W2 := WA) rA
        have N1 := tapeWrite (th : Int) v hR1 hB
        rw [hA] at N1
        dsimp only at N1
        have c11 := hR1.cells.2.1
        have HQ1 := hide hQ1
        have HV1 := hide hv1
        have HbA := hide bA
        have HbB := hide bB
        have HbC := hide bC
        have HrC := hide rC
        have HwL := hide wL
        have HwM := hide wM
        have HB2 := hide hBq
        have HC2 := hide hC
        have HD2 := hide hDq
        have HW1 := hide hW1
        have HN := hide hn
        have HCA := hide hca
        have HNF := hide hnf
        have HV := hide hv
        clear hr0 h hk ha hp hpv hps hpb hB hcb htb hFIN hbs hon hls hbo hD1 hA1 hW1 hO1 hcl hnf hca hv hv1 hA hBq hC hDq rA bA tA bB tB wL hmk rC bC tC tD wM hS1 hR1 hQ1 hn
        go_enter Tryz.func84, Tryz.ntmps84
        go_upto_region 9 with fail
        rw [← HW1.out]
        clear c8 f8 c9 f9 HW1
        go_wp2_with fail
        refine N1.mono ?_
        rintro e w5 ⟨rfl, hq5⟩
        have HD5 := hide (HQ1.out _ hq5)
        clear hq5 HQ1 N1 c1 c11
        have N2 := colW (n := n) 0 HD5.out ⟨HN.out.2, by omega⟩ HbA.out
        rw [show ((0 : Nat) : Int) = 0 from rfl, HB2.out] at N2
        dsimp only at N2
        have HN2 := hide N2
        clear N2
        go_wp2_with fail
        refine HN2.out.mono ?_
        rintro e w6 ⟨A1, c1, rfl, hl1, hw6, -, hD6⟩
        have HS1 := hide (wrow_sl hw6 (owns_max hw6))
        have HL1 := hide hl1
        have HD6 := hide hD6
        clear hl1 hw6 hD6 HN2
        go_upto_region 12 with fail
        go_wp2_with fail
        go_loopw [62, 10] (fun i m wr => ∃ k : Nat, k ≤ n ∧ i = .int .i64 (k : Int) ∧ m = .int .u64 (markF v (L.take k)) ∧ wr = w6) (fun i _ _ => n - (intOf i).toNat)
        case atStart => exact ⟨0, Nat.zero_le _, rfl, rfl, rfl⟩
        case round =>
          obtain ⟨k, hkn, rfl, rfl, hW⟩ := hrel
          subst hW
          by_cases hlt : k < n
          · obtain ⟨x, hx⟩ : ∃ x, L[k]? = some x := ⟨_, List.getElem?_eq_getElem (by rw [HL1.out]; exact hlt)⟩
            obtain ⟨A', c', e, g1, g2, g3⟩ := HS1.out
            obtain ⟨bb, oo, e', hbb, hcc⟩ := g3 k x hx
            rw [HL1.out] at e
            cases e
            cases e'
            have ce := nt_cell hcc
            simp only [Nat.mul_one] at ce
            have hkk : (k : Int) < (n : Int) := by omega
            have HSN := hide (take_snoc hx)
            clear g3 hcc g1 g2 hx
            by_cases hxx : x = v ∨ x = 0
            · have hM : markF v (L.take (k + 1)) = markF v (L.take k) := by
                unfold markF
                rw [HSN.out, aloneF_snoc, decide_eq_true (show x = 0 ∨ x = v by omega), Bool.and_true]
              have HM := hide hM
              clear hM
              generalize markF v (L.take k) = mk at HM ⊢
              rcases hxx with rfl | rfl
              · have d0 : (x != x) = false := by simp
                go_wp2
                go_roundw
                case rel => exact ⟨k + 1, by omega, by go_num, by rw [HM.out], by trivial⟩
                case measure => first | (simp [intOf]; done) | (simp [intOf]; omega)
              · have d0 : ((0 : Int) != v) = true := by have := HV1.out; simp; omega
                go_wp2
                go_roundw
                case rel => exact ⟨k + 1, by omega, by go_num, by rw [HM.out], by trivial⟩
                case measure => first | (simp [intOf]; done) | (simp [intOf]; omega)
            · have hM : markF v (L.take (k + 1)) = 2 * v := by
                unfold markF
                rw [HSN.out, aloneF_snoc, decide_eq_false (show ¬ (x = 0 ∨ x = v) by omega), Bool.and_false]
                simp
              have HM := hide hM
              clear hM
              have d0 : (x != v) = true := by simp; omega
              have d1 : (x != 0) = true := by simp; omega
              generalize markF v (L.take k) = mk at HM ⊢
              clear hxx
              go_wp2
              go_roundw
              case rel => exact ⟨k + 1, by omega, by go_num, by rw [HM.out], by trivial⟩
              case measure => first | (simp [intOf]; done) | (simp [intOf]; omega)
          · obtain rfl : k = n := by omega
            rw [List.take_of_length_le (by rw [HL1.out]; exact Nat.le_refl _)]
            obtain ⟨g2, f2, X2, hR6, hQ6⟩ := HD6.out.acc (T2 := TC) (W2 := WC) HrC.out
            have c16 := hR6.cells.2.1
            have N3 := tapeWrite ((k : Int) + (th : Int)) (markF v L) hR6 HbB.out
            rw [HC2.out] at N3
            dsimp only at N3
            have HQ6 := hide hQ6
            generalize markF v L = mk at N3 HC2 ⊢
            clear hR6 hQ6 hlt HS1
            go_wp2_with fail
            refine N3.mono ?_
            rintro e w7 ⟨rfl, hq7⟩
            have HD7 := hide (HQ6.out _ hq7)
            clear hq7 HQ6 N3 c16
            have N4 := colW (n := k) k HD7.out ⟨HN.out.2, HN.out.2⟩ HbC.out
            rw [HD2.out] at N4
            dsimp only at N4
            have HN4 := hide N4
            clear N4
            go_wp2_with fail
            refine HN4.out.mono ?_
            rintro e w8 ⟨A2, c2, rfl, hl2, hw8, -, hD8⟩
            have HS2 := hide (wrow_sl hw8 (owns_max hw8))
            have HL2 := hide hl2
            have HD8 := hide hD8
            clear hl2 hw8 hD8 HN4
            go_wp2_with fail
            go_loopw [100, 13, 14] (fun i f a wr => ∃ j : Nat, j ≤ k ∧ i = .int .i64 (j : Int) ∧ f = .int .u64 (firstF (M.take j)) ∧ a = .bool (!allF (M.take j)) ∧ wr = w8) (fun i _ _ _ => k - (intOf i).toNat)
            case atStart => exact ⟨0, Nat.zero_le _, rfl, rfl, rfl, rfl⟩
            case round =>
              obtain ⟨j, hjn, rfl, rfl, rfl, hW⟩ := hrel
              subst hW
              by_cases hlt : j < k
              · obtain ⟨x, hx⟩ : ∃ x, M[j]? = some x := ⟨_, List.getElem?_eq_getElem (by rw [HL2.out]; exact hlt)⟩
                obtain ⟨A', c', e, g1, g2, g3⟩ := HS2.out
                obtain ⟨bb, oo, e', hbb, hcc⟩ := g3 j x hx
                rw [HL2.out] at e
                cases e
                cases e'
                have ce := nt_cell hcc
                simp only [Nat.mul_one] at ce
                have hkk : (j : Int) < (k : Int) := by omega
                obtain ⟨x0, x1⟩ := HwM.out x (List.mem_of_getElem? hx)
                have hsn := take_snoc hx
                have HF1 : firstF (M.take (j + 1)) = if x = 0 then firstF (M.take j) else if x % 2 = 0 then firstF (M.take j) else if firstF (M.take j) = 0 then x / 2 else firstF (M.take j) := by rw [hsn, firstF_snoc]
                have HA1 : allF (M.take (j + 1)) = (allF (M.take j) && decide (x = 0 ∨ x % 2 ≠ 0)) := by rw [hsn, allF_snoc]
                have HF1 := hide HF1
                have HA1 := hide HA1
                clear g3 hcc g1 g2 hx hsn
                generalize firstF (M.take j) = f at HF1 ⊢
                generalize allF (M.take j) = a at HA1 ⊢
                have hr : Int.tmod x 2 = x % 2 := Int.tmod_eq_emod_of_nonneg x0
                have hq2 : Int.tdiv x 2 = x / 2 := Int.tdiv_eq_ediv_of_nonneg x0
                by_cases h0 : x = 0
                · subst h0
                  cases a
                  all_goals (
                    go_wp2
                    go_roundw
                    case rel => exact ⟨j + 1, by omega, by go_num, by rw [HF1.out]; simp, by rw [HA1.out]; simp, by trivial⟩
                    case measure => first | (simp [intOf]; done) | (simp [intOf]; omega))
                · have d0 : (x != 0) = true := by simpa using h0
                  by_cases h2 : x % 2 = 0
                  · have hr2 : Int.tmod x 2 = 0 := hr.trans h2
                    cases a
                    all_goals (
                      go_wp2
                      go_roundw
                      case rel => exact ⟨j + 1, by omega, by go_num, by rw [HF1.out, if_neg h0, if_pos h2], by rw [HA1.out]; simp [h0, h2], by trivial⟩
                      case measure => first | (simp [intOf]; done) | (simp [intOf]; omega))
                  · have h21 : x % 2 = 1 := by omega
                    have hr2 : Int.tmod x 2 = 1 := hr.trans h21
                    by_cases h3 : f = 0
                    · subst h3
                      cases a
                      all_goals (
                        go_wp2
                        go_roundw
                        case rel => exact ⟨j + 1, by omega, by go_num, by rw [HF1.out, if_neg h0, if_neg h2, if_pos rfl], by rw [HA1.out]; simp [h0, h2], by trivial⟩
                        case measure => first | (simp [intOf]; done) | (simp [intOf]; omega))
                    · have d3 : (f == 0) = false := by simpa using h3
                      cases a
                      all_goals (
                        go_wp2
                        go_roundw
                        case rel => exact ⟨j + 1, by omega, by go_num, by rw [HF1.out, if_neg h0, if_neg h2, if_neg h3], by rw [HA1.out]; simp [h0, h2], by trivial⟩
                        case measure => first | (simp [intOf]; done) | (simp [intOf]; omega))
              · obtain rfl : j = k := by omega
                rw [List.take_of_length_le (by rw [HL2.out]; exact Nat.le_refl _)]
                have hfb := firstF_bd HwM.out
                have hFF := HF.out
                unfold endF at hFF
                have HFF := hide hFF
                have hD8 := HD8.out
                obtain ⟨g3, f3, X3, hR8, -⟩ := HD8.out.acc (T2 := TD) (W2 := WD) ⟨rfl, rfl, rfl⟩
                have c10 := hR8.hrow.cell (i := q + 10) (by omega)
                rw [hR8.tp.val] at c10
                have f10 := hR8.hrow.frozen (q + 10)
                have hz8 := hR8.hrow.lt
                have hca : wr.cell? ⟨w.heap.size, 3, none⟩ = some (.int .u64 c.a) := by
                  obtain ⟨_, _, _, _, _, _, _, _, h6⟩ := HD8.out
                  exact (h6.cell (p := ⟨w.heap.size, 3, none⟩) ⟨hz1, hnb, hnw, HNF.out⟩).trans HCA.out
                have hz18 : w.heap.size < wr.heap.size := by
                  obtain ⟨_, _, _, _, _, _, _, _, h6⟩ := HD8.out
                  exact Nat.lt_of_lt_of_le hz1 h6.size
                have HV2 := HV.out
                have hva : 2 * c.a = 2 * (v - 1) := by omega
                have h10 := HD8.out.num (T2 := { TD with val := 2 * (v - 1) }) (.int .u64 (2 * (v - 1))) (show 10 < 13 by decide) (fun g X ht => by obtain ⟨b0, b1, b2, b3, b4, b5, b6, b7, b8, b9, b10, b11, b12⟩ := ht; refine ⟨?_, ?_, ?_, ?_, ?_, ?_, ?_, ?_, ?_, ?_, ?_, ?_, ?_⟩; all_goals first | (rw [if_neg (by omega)]; assumption) | (rw [if_pos (by omega)]; rfl) | (rw [if_pos (by omega)])) rfl rfl rfl ⟨rfl, rfl, rfl⟩
                rw [← hva] at h10
                have H10 := hide h10
                clear hR8 hD8 h10 hFF HF HS2 hlt HV2
                generalize firstF M = ff at hfb HFF ⊢
                generalize allF M = aa at HFF ⊢
                by_cases hf0 : ff = 0
                · subst hf0
                  have hX := HFF.out
                  rw [if_neg (by omega), ← hva] at hX
                  have HX := hide hX
                  clear hX HFF hva
                  go_wp2
                  go_end0
                  refine ⟨rfl, HCL.out _ _ _ ?_⟩
                  rw [← HX.out]
                  exact H10.out
                · have df : (ff != 0) = true := by simpa using hf0
                  have k8 : IntKind.u64.wrap (ff - 1) = ff - 1 := by rw [IntKind.wrap_u64]; omega
                  have k9 : IntKind.u64.wrap (2 * (ff - 1)) = 2 * (ff - 1) := by rw [IntKind.wrap_u64]; omega
                  have k10 : IntKind.u64.wrap (2 * (ff - 1) + 1) = 2 * (ff - 1) + 1 := by rw [IntKind.wrap_u64]; omega
                  have h11 := H10.out.num (T2 := { TD with val := 2 * (ff - 1) }) (.int .u64 (2 * (ff - 1))) (show 10 < 13 by decide) (fun g X ht => by obtain ⟨b0, b1, b2, b3, b4, b5, b6, b7, b8, b9, b10, b11, b12⟩ := ht; refine ⟨?_, ?_, ?_, ?_, ?_, ?_, ?_, ?_, ?_, ?_, ?_, ?_, ?_⟩; all_goals first | (rw [if_neg (by omega)]; assumption) | (rw [if_pos (by omega)]; rfl) | (rw [if_pos (by omega)])) rfl rfl rfl ⟨rfl, rfl, rfl⟩
                  have H11 := hide h11
                  have hX := HFF.out
                  rw [if_pos (by omega)] at hX
                  have HX := hide hX
                  clear hX HFF hva h11
                  cases aa
                  · go_wp2
                    go_end0
                    refine ⟨rfl, HCL.out _ _ _ ?_⟩
                    rw [← HX.out]
                    have := H11.out
                    simpa using this
                  · have h12 := H11.out.num (T2 := { TD with val := 2 * (ff - 1) + 1 }) (.int .u64 (2 * (ff - 1) + 1)) (show 10 < 13 by decide) (fun g X ht => by obtain ⟨b0, b1, b2, b3, b4, b5, b6, b7, b8, b9, b10, b11, b12⟩ := ht; refine ⟨?_, ?_, ?_, ?_, ?_, ?_, ?_, ?_, ?_, ?_, ?_, ?_, ?_⟩; all_goals first | (rw [if_neg (by omega)]; assumption) | (rw [if_pos (by omega)]; rfl) | (rw [if_pos (by omega)])) rfl rfl rfl ⟨rfl, rfl, rfl⟩
                    have H12 := hide h12
                    clear h12
                    go_wp2
                    go_end0
                    refine ⟨rfl, HCL.out _ _ _ ?_⟩
                    rw [← HX.out]
                    have := H12.out
                    simpa using this
      · have hpl : (0 : Int) < (T.priv.length : Int) := by
          have := List.length_pos_iff.2 hp
          omega
        have HF : Hid (({ T with err := 8 }, W) = FIN) := hide (by rw [← hFIN]; unfold adDo; rw [if_neg (by omega), if_neg ha, if_pos hp])
        clear hr0 h hk hp hpv hps hpb hFIN hcb htb hB ha
        go_enter Tryz.func84, Tryz.ntmps84
        go_wp2
        ((try simp only [Exit.inBlock, Exit.then]); refine bodyPost_ret (results_none rfl _ _ _) rfl ?_)
        refine ⟨rfl, ?_⟩
        rw [← HF.out]
        have := HR0.out.num (T2 := { T with err := 8 }) (.int .i64 8) (show 9 < 13 by decide) (fun g X ht => by obtain ⟨b0, b1, b2, b3, b4, b5, b6, b7, b8, b9, b10, b11, b12⟩ := ht; refine ⟨?_, ?_, ?_, ?_, ?_, ?_, ?_, ?_, ?_, ?_, ?_, ?_, ?_⟩; all_goals first | (rw [if_neg (by omega)]; assumption) | (rw [if_pos (by omega)]; rfl) | (rw [if_pos (by omega)])) rfl rfl rfl ⟨rfl, rfl, rfl⟩
        rw [World.setCell_alloc_past _ _ _ _ hz] at this
        exact this
  · have dk : (c.kind != 0) = true := by simpa using hk
    have HF : Hid (({ T with err := 9 }, W) = FIN) := hide (by rw [← hFIN]; unfold adDo; rw [if_pos hk])
    clear hr0 h hk hpv hps hpb hFIN hcb htb hB
    go_enter Tryz.func84, Tryz.ntmps84
    go_wp2
    ((try simp only [Exit.inBlock, Exit.then]); refine bodyPost_ret (results_none rfl _ _ _) rfl ?_)
    refine ⟨rfl, ?_⟩
    rw [← HF.out]
    have := HR0.out.num (T2 := { T with err := 9 }) (.int .i64 9) (show 9 < 13 by decide) (fun g X ht => by obtain ⟨b0, b1, b2, b3, b4, b5, b6, b7, b8, b9, b10, b11, b12⟩ := ht; refine ⟨?_, ?_, ?_, ?_, ?_, ?_, ?_, ?_, ?_, ?_, ?_, ?_, ?_⟩; all_goals first | (rw [if_neg (by omega)]; assumption) | (rw [if_pos (by omega)]; rfl) | (rw [if_pos (by omega)])) rfl rfl rfl ⟨rfl, rfl, rfl⟩
    rw [World.setCell_alloc_past _ _ _ _ hz] at this
    exact this
end Go.Proofs.YtlfingcmekifkaaGreat

namespace Go.Proofs.YtlfingcmekifkaaGreat
open Go.RowKit
set_option maxRecDepth 100000 in
set_option maxHeartbeats 2000000 in
theorem plainDoAd {w : World} {hb wp q nh th n : Nat} {g f : Nat → Value} {X : Rv} {T : Tp} {W : Rw} {Mu : Nat → Prop} (c : Cl) (sp sq : Int) (h : DoAt w hb wp q nh th g f X T W Mu) (hth : th < 16) (hB : T.fresh = true → RtB T W) (hn : 1 ≤ n ∧ n ≤ 16) (hcb : ClB c) (htb : TBd T W) :
    Calls Tryz.prog 61 #[.pointer (some ⟨hb, q, none⟩), .int .i64 n, .int .i64 0, spV 15 sp sq, clV c] w fun e w' => e = .returned (.tuple #[]) ∧ DoR w hb wp q nh th g f X Mu (adDo n th c T W).1 (adDo n th c T W).2 w' := by
  have hb2 : Below w.heap.size w ((w.alloc (.cells #[.int .i64 15, .int .i64 sp, .int .i64 sq] 39)).alloc (.cells #[.int .i64 c.thread, .int .i64 c.obj, .int .i64 c.kind, .int .u64 c.a, .int .u64 c.b, .int .u64 c.c] 48)) := ((Below.refl _ w).alloc (Nat.le_refl _) _).alloc (by simp) _
  have N := adDoW c hn (h.grow hb2) hth hB hcb htb
  have HB := hide hb2
  obtain ⟨TT, hTT⟩ : ∃ TT, adDo n th c T W = TT := ⟨_, rfl⟩
  rw [hTT] at N ⊢
  clear h hb2 hB hTT hn hcb htb
  unfold clV at N ⊢
  unfold spV
  go_enter Tryz.func61, Tryz.ntmps61
  go_wp2_with fail
  refine N.mono ?_
  rintro e w1 ⟨rfl, hD⟩
  have HD := hide hD
  clear hD N
  go_wp2
  go_end0
  exact ⟨rfl, HD.out.since HB.out⟩
theorem plainDo_ad (n : Nat) (hn : 1 ≤ n ∧ n ≤ 16) (sp sq : Int) : PlainDo (adDo n) n [(15, sp, sq)] [0] := by
  intro w hb wp q nh th g f X T W Mu c s b h0 h1 h2 h ht hB hcb htb _
  rcases hc : c.obj.toNat with _ | k
  · rw [hc] at h1 h2
    cases h1
    cases h2
    exact plainDoAd c sp sq h ht hB hn hcb htb
  · rw [hc] at h1
    cases h1
end Go.Proofs.YtlfingcmekifkaaGreat
