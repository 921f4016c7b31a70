import Derived.Test.YtlfingcmekifkaaGreatBun11
import Derived.Test.YtlfingcmekifkaaGreatBun12
import Derived.Test.YtlfingcmekifkaaGreatEl0
import Derived.Test.YtlfingcmekifkaaGreatBun4
namespace Go.Proofs.YtlfingcmekifkaaGreat
open Go.RowKit
theorem acc_rtb {t : Nat} {k a x y : Int} {T : Tp} {W : Rw} (h : T.fresh = true → RtB T W) : (T.acc t k a x y W).2.1.fresh = true → RtB (T.acc t k a x y W).2.1 (T.acc t k a x y W).2.2 := by
  unfold Tp.acc
  split
  · exact h
  · split
    · exact h
    · split
      · intro hh; cases hh
      · exact h
theorem acc_reads (t : Nat) (k a x y : Int) (T : Tp) (W : Rw) : (T.acc t k a x y W).2.1.priv = T.priv ∧ (T.acc t k a x y W).2.1.list = T.list ∧ (T.acc t k a x y W).2.1.key = T.key := by
  unfold Tp.acc
  split
  · exact ⟨rfl, rfl, rfl⟩
  · split
    · exact ⟨rfl, rfl, rfl⟩
    · split <;> exact ⟨rfl, rfl, rfl⟩
theorem DoAt.prv {w w1 : World} {hb wp q nh th : Nat} {g f : Nat → Value} {X : Rv} {T : Tp} {W : Rw} {Mu : Nat → Prop} {l : List Int} (h : DoAt w hb wp q nh th g f X T W Mu) (hb' : Below w.heap.size w w1) (v : Value) (hv : LstIs w1 (fun k => k < w.heap.size) v l) : DoR w hb wp q nh th g f X Mu { T with priv := l } W (w1.setCell ⟨hb, q + 8, none⟩ v) := by
  have hk0 := Keep.of_below (K := fun k => k < w.heap.size) hb' (fun k hk => hk)
  have h1 := h.at_.keep hk0 h.at_.hrow.lt h.at_.mem.row.lt h.at_.lt4
  have hz := h.at_.hrow.lt
  have hk : Keep (fun k => k ≠ hb) w1 (w1.setCell ⟨hb, q + 8, none⟩ v) := (Keep.refl _ w1).setCell (by simp) _
  have hkk : Keep (fun k => k < w.heap.size ∧ k ≠ hb) w (w1.setCell ⟨hb, q + 8, none⟩ v) := (hk0.mono (fun k hk => hk.1)).setCell (fun hh => hh.2 rfl) _
  have hS : ∀ k, k < w.heap.size → ¬ Mu k → k < w.heap.size ∧ k ≠ hb := fun k k1 k2 => ⟨k1, fun e => by subst e; exact k2 h.mu.1⟩
  have hM : ∀ k, k < w.heap.size → (Mu k ∨ X.four k) → Mu k := fun k _ hk => by
    rcases hk with hk | hk
    · exact hk
    · exact h.mu.2.2 k hk
  have hL : ∀ k, (Mu k ∨ X.four k) → k < w.heap.size := fun k hk => by
    rcases hk with hk | hk
    · exact h.lt k hk
    · exact h.at_.lt4 k hk
  refine ⟨_, f, ⟨X.wv, X.lg, X.gv, X.tv, v, X.lv, X.kv⟩, ⟨h1.cellX (T' := { T with priv := l }) v v X.lv X.kv (show 8 < 13 by decide) ?_ rfl rfl h1.ba, ?_, ?_, ?_, ⟨Or.inl h.mu.1, Or.inl h.mu.2.1, fun k hk => Or.inr hk⟩, fun k hk => Nat.lt_of_lt_of_le (hL k hk) hkk.size⟩, rfl, fun i hi => ?_, fun _ _ => rfl, fun k hk => Or.inl hk, hkk.mono (fun k hk => ⟨hk.1, hk.2.1⟩)⟩
  · obtain ⟨b0, b1, b2, b3, b4, b5, b6, b7, b8, b9, b10, b11, b12⟩ := h1.tp
    refine ⟨?_, ?_, ?_, ?_, ?_, ?_, ?_, ?_, ?_, ?_, ?_, ?_, ?_⟩
    all_goals first | (rw [if_neg (by omega)]; assumption) | (rw [if_pos (by omega)]; rfl) | (rw [if_pos (by omega)])
  · exact hv.keep hk (fun k _ k2 e => k2 (by rw [e]; exact hz)) (fun k _ k2 => hL k k2)
  · exact h.li.keep hkk hS hM
  · exact h.ky.keep hkk hS hM
  · show (if i = q + 8 then v else g i) = g i
    rw [if_neg (by omega)]
set_option maxRecDepth 100000 in
set_option maxHeartbeats 2000000 in
theorem elDoW {w : World} {hb wp q nh th n : Nat} {g f : Nat → Value} {X : Rv} {T : Tp} {W : Rw} {Mu : Nat → Prop} (c : Cl) (h : DoAt w hb wp q nh th g f X T W Mu) (hn : 1 ≤ n ∧ n ≤ 16) (hth : th < 16) (hB : T.fresh = true → RtB T W) :
    Calls Tryz.prog 86 #[.pointer (some ⟨hb, q, none⟩), .int .i64 n, .int .i64 0, clV c] w fun e w' => e = .returned (.tuple #[]) ∧ DoR w hb wp q nh th g f X Mu (elDo (pw2 (dep n)) th c T W).1 (elDo (pw2 (dep n)) th c T W).2 w' := by
  have hr0 := h.start.grow (w2 := w.alloc (.cells #[.int .i64 c.thread, .int .i64 c.obj, .int .i64 c.kind, .int .u64 c.a, .int .u64 c.b, .int .u64 c.c] 48)) ((Below.refl _ w).alloc (Nat.le_refl _) _)
  have hq := h.at_.qn
  have hz := h.at_.hrow.lt
  have f9 := h.at_.hrow.frozen (q + 9)
  have f8 := h.at_.hrow.frozen (q + 8)
  have c9 := h.at_.hrow.cell (i := q + 9) (by omega)
  rw [h.at_.tp.err] at c9
  have c8 := h.at_.hrow.cell (i := q + 8) (by omega)
  rw [h.at_.tp.priv] at c8
  have c1 := h.at_.cells.2.1
  obtain ⟨Ap, cp, hpv, hps, hpb⟩ := h.pr
  rw [hpv] at c8
  have HR0 := hide hr0
  have HH := hide h
  unfold elDo clV
  by_cases hk : c.kind = 0
  · rw [if_neg (by omega)]
    have dk : (c.kind != 0) = false := by simpa using hk
    by_cases hp : T.priv = []
    · rw [if_neg (by simpa using hp)]
      rw [hp] at c8
      simp only [List.length_nil] at c8
      obtain ⟨D, hD⟩ : ∃ D, dep n = D := ⟨_, rfl⟩
      have N := leaves11W n hn
      rw [hD] at N ⊢
      have hd4 : D ≤ 4 := by rw [← hD]; exact dep_le n
      obtain ⟨L, hL⟩ : ∃ L, pw2 D = L := ⟨_, rfl⟩
      have hLb : 1 ≤ L ∧ L ≤ 16 := by rw [← hL]; exact pw2_bd D
      rw [hL] at N ⊢
      have hw1 : IntKind.i64.wrap (L + (th : Int)) = L + (th : Int) := wrap_i64 (by omega) (by omega)
      have hqd : Int.tdiv (L + (th : Int)) 2 = (L + (th : Int)) / 2 := Int.tdiv_eq_ediv_of_nonneg (by omega)
      have hw2 : IntKind.i64.wrap ((L + (th : Int)) / 2) = (L + (th : Int)) / 2 := wrap_i64 (by omega) (by omega)
      have HN := hide N
      obtain ⟨FIN, hFIN⟩ : ∃ FIN, elLoop th 5 ((L + (th : Int)) / 2) { T with priv := [1] } W = FIN := ⟨_, rfl⟩
      rw [hFIN]
      have HFIN := hide hFIN
      have HPR : Hid (DoR w hb wp q nh th g f X Mu { T with priv := [1] } W (((w.alloc (.cells #[.int .i64 c.thread, .int .i64 c.obj, .int .i64 c.kind, .int .u64 c.a, .int .u64 c.b, .int .u64 c.c] 48)).alloc (.cells #[.int .u64 1] 46)).setCell ⟨hb, q + 8, none⟩ (.slice (some ⟨w.heap.size + 1, 0, none⟩) 1 1))) := hide (h.prv (w1 := (w.alloc (.cells #[.int .i64 c.thread, .int .i64 c.obj, .int .i64 c.kind, .int .u64 c.a, .int .u64 c.b, .int .u64 c.c] 48)).alloc (.cells #[.int .u64 1] 46)) (((Below.refl _ w).alloc (Nat.le_refl _) _).alloc (by simp) _) (.slice (some ⟨w.heap.size + 1, 0, none⟩) 1 1) (by
        refine ⟨some ⟨w.heap.size + 1, 0, none⟩, 1, rfl, ?_, ?_⟩
        · refine ⟨_, 1, rfl, ?_, by unfold maxLen; decide, fun k x hx => ?_⟩
          · exact Nat.le_refl _
          · rcases k with _ | k
            · cases hx
              refine ⟨w.heap.size + 1, 0, rfl, by simp, fun j u hj => ?_⟩
              rcases j with _ | j
              · cases hj
                go_simp
              · cases hj
            · cases hx
        · intro a ha
          cases ha
          exact ⟨by show ¬ w.heap.size + 1 < w.heap.size; omega, by simp⟩))
      rw [World.setCell_alloc_past _ _ _ _ (show hb < (w.alloc (.cells #[.int .i64 c.thread, .int .i64 c.obj, .int .i64 c.kind, .int .u64 c.a, .int .u64 c.b, .int .u64 c.c] 48)).heap.size by simp; omega), World.setCell_alloc_past _ _ _ _ hz] at HPR
      clear hr0 h hk hp hpv hps hpb N hD hFIN
      go_enter Tryz.func86, Tryz.ntmps86
      go_wp2_with fail
      refine wp_region_seq (fun Y => Y.cell? ⟨hb, q + 1, none⟩ = some (.int .i64 (th : Int))) (.take 0 <| .take 2 <| .take 3 <| .take 4 <| .take 5 <| .run 1 <| .take 6 <| .take 7 <| .take 8 <| .done) (by kernel_rfl) (by kernel_rfl) (by kernel_rfl) (by go_simp) ?_
      iterate 5 (refine seq_take (v := ?_) rfl (by rfl) ?_ ?_; rotate_left; (focus (intro wS hS; go_simp; exact rfl)); simp only [Act.put, List.setIfInBounds_toArray, List.set_cons_zero, List.set_cons_succ])
      refine seq_run rfl (by rfl) (fun K hK => ?_)
      go_simp
      refine (HN.out _).mono ?_
      rintro e w3 ⟨rfl, rfl⟩
      refine hK _ _ (by go_simp) ?_
      clear hK K
      iterate 3 (refine seq_take (v := ?_) rfl (by rfl) ?_ ?_; rotate_left; (focus (intro wS hS; go_simp; exact rfl)); simp only [Act.put, List.setIfInBounds_toArray, List.set_cons_zero, List.set_cons_succ])
      refine seq_nil ?_
      clear HN HR0 HH c8 c9 c1 f8 f9
      generalize ((w.setCell ⟨hb, q + 8, none⟩ (.slice (some ⟨w.heap.size + 1, 0, none⟩) 1 1)).alloc (.cells #[.int .i64 c.thread, .int .i64 c.obj, .int .i64 c.kind, .int .u64 c.a, .int .u64 c.b, .int .u64 c.c] 48)).alloc (.cells #[.int .u64 1] 46) = wL at *
      have HV0 := hide (show (0 : Int) ≤ (L + (th : Int)) / 2 ∧ (L + (th : Int)) / 2 ≤ 15 by omega)
      generalize (L + (th : Int)) / 2 = V0 at *
      have HB0 : Hid (T.fresh = true → RtB T W) := hide hB
      clear hB hw1 hw2 hqd hL
      go_wp2_with fail
      go_loopw [8] (fun v wr => ∃ (fuel : Nat) (V : Int) (T1 : Tp) (W1 : Rw), v = .int .i64 V ∧ 0 ≤ V ∧ V ≤ 15 ∧ V < 2 ^ fuel ∧ Hid (DoR w hb wp q nh th g f X Mu T1 W1 wr) ∧ Hid (elLoop th fuel V T1 W1 = FIN) ∧ Hid (T1.fresh = true → RtB T1 W1)) (fun v _ => (intOf v).toNat)
      case atStart => exact ⟨5, V0, { T with priv := [1] }, W, rfl, HV0.out.1, HV0.out.2, by have := HV0.out.2; omega, hide (HPR.out.grow (Below.refl _ _).drew), HFIN, HB0⟩
      case round =>
        obtain ⟨fuel, V, T1, W1, rfl, hv0, hv1, hvf, HD, HF, HB⟩ := hrel
        by_cases h1 : 1 ≤ V
        · obtain ⟨fu, rfl⟩ : ∃ fu, fuel = fu + 1 := ⟨fuel - 1, by rcases fuel with _ | fuel; simp at hvf; omega; omega⟩
          have hvf2 : V / 2 < 2 ^ fu := by rw [Int.pow_succ] at hvf; omega
          obtain ⟨ok, tt, ww, hacc⟩ : ∃ ok tt ww, T1.acc th 2 (V - 1) 0 (th + 1) W1 = (ok, tt, ww) := ⟨_, _, _, rfl⟩
          have hF := HF.out
          rw [elLoop_succ, if_neg (by omega), hacc] at hF
          have har := acc_reads th 2 (V - 1) 0 (th + 1) T1 W1
          have hab := acc_rtb (t := th) (k := 2) (a := V - 1) (x := 0) (y := th + 1) HB.out
          rw [hacc] at har hab
          dsimp only at hF har hab
          obtain ⟨g1, f1, X1, hR1, hQ1⟩ := HD.out.acc (T2 := tt) (W2 := ww) har
          have N1 := tapeSwap (V - 1) 0 (th + 1) hR1 HB.out
          rw [hacc] at N1
          have c1 := hR1.cells.2.1
          have ha : IntKind.i64.wrap (V - 1) = V - 1 := wrap_i64 (by omega) (by omega)
          have hb1 : IntKind.i64.wrap V = V := wrap_i64 (by omega) (by omega)
          have hc1 : IntKind.u64.wrap (th : Int) = th := by rw [IntKind.wrap_u64]; omega
          have hc2 : IntKind.u64.wrap ((th : Int) + 1) = th + 1 := by rw [IntKind.wrap_u64]; omega
          have hq1 : Int.tdiv V 2 = V / 2 := Int.tdiv_eq_ediv_of_nonneg hv0
          have hq2 : IntKind.i64.wrap (V / 2) = V / 2 := wrap_i64 (by omega) (by omega)
          have HQ1 := hide hQ1
          have HFF := hide hF
          have HAB := hide hab
          clear hQ1 hF hab har hacc hR1 HD HF HB hvf
          dsimp only at N1
          go_wp2_with fail
          refine N1.mono ?_
          rintro e w5 ⟨rfl, hq5⟩
          have HD5 := hide (HQ1.out _ hq5)
          clear hq5 HQ1 N1
          by_cases hok : ok = 1
          · have dk1 : decide (ok = 1) = true := by simpa using hok
            have hF := HFF.out
            rw [if_pos hok] at hF
            have HF5 := hide hF
            rw [dk1]
            clear HFF hF hok dk1
            go_wp2
            go_roundw
            case rel => exact ⟨fu, V / 2, tt, ww, rfl, by omega, by omega, hvf2, HD5, HF5, HAB⟩
            case measure => first | (simp [intOf]; done) | (simp [intOf]; omega)
          · have dk1 : decide (ok = 1) = false := by simpa using hok
            have hF := HFF.out
            rw [if_neg hok] at hF
            rw [dk1]
            clear HFF hok dk1
            go_wp2
            ((try simp only [Exit.inBlock, Exit.then]); refine bodyPost_ret (results_none rfl _ _ _) rfl ?_)
            refine ⟨rfl, ?_⟩
            rw [← hF]
            exact HD5.out
        · have hF : ({ T1 with val := 1 }, W1) = FIN := by
            rw [← HF.out]
            rcases fuel with _ | fuel
            · rfl
            · rw [elLoop_succ, if_pos (by omega)]
          obtain ⟨g1, f1, X1, hR1, -⟩ := HD.out.acc (T2 := T1) (W2 := W1) ⟨rfl, rfl, rfl⟩
          have f10 := hR1.hrow.frozen (q + 10)
          have c10 := hR1.hrow.cell (i := q + 10) (by have := hR1.qn; omega)
          rw [hR1.tp.val] at c10
          have hz1 := hR1.hrow.lt
          have HFF := hide hF
          clear hF hR1 HF HB hvf
          go_wp2
          go_end0
          refine ⟨rfl, ?_⟩
          rw [← HFF.out]
          exact HD.out.num (T2 := { T1 with val := 1 }) (.int .u64 1) (show 10 < 13 by decide) (fun g X ht => by obtain ⟨b0, b1, b2, b3, b4, b5, b6, b7, b8, b9, b10, b11, b12⟩ := ht; refine ⟨?_, ?_, ?_, ?_, ?_, ?_, ?_, ?_, ?_, ?_, ?_, ?_, ?_⟩; all_goals first | (rw [if_neg (by omega)]; assumption) | (rw [if_pos (by omega)]; rfl) | (rw [if_pos (by omega)])) rfl rfl rfl ⟨rfl, rfl, rfl⟩
    · rw [if_pos hp]
      have hpl : (0 : Int) < (T.priv.length : Int) := by
        have := List.length_pos_iff.2 hp
        omega
      clear hr0 h hk hp hpv hps hpb
      go_enter Tryz.func86, Tryz.ntmps86
      go_wp2
      ((try simp only [Exit.inBlock, Exit.then]); refine bodyPost_ret (results_none rfl _ _ _) rfl ?_)
      refine ⟨rfl, ?_⟩
      have := HR0.out.num (T2 := { T with err := 8 }) (.int .i64 8) (show 9 < 13 by decide) (fun g X ht => by obtain ⟨b0, b1, b2, b3, b4, b5, b6, b7, b8, b9, b10, b11, b12⟩ := ht; refine ⟨?_, ?_, ?_, ?_, ?_, ?_, ?_, ?_, ?_, ?_, ?_, ?_, ?_⟩; all_goals first | (rw [if_neg (by omega)]; assumption) | (rw [if_pos (by omega)]; rfl) | (rw [if_pos (by omega)])) rfl rfl rfl ⟨rfl, rfl, rfl⟩
      rw [World.setCell_alloc_past _ _ _ _ hz] at this
      exact this
  · rw [if_pos hk]
    have dk : (c.kind != 0) = true := by simpa using hk
    clear hr0 h hk hpv hps hpb
    go_enter Tryz.func86, Tryz.ntmps86
    go_wp2
    ((try simp only [Exit.inBlock, Exit.then]); refine bodyPost_ret (results_none rfl _ _ _) rfl ?_)
    refine ⟨rfl, ?_⟩
    have := HR0.out.num (T2 := { T with err := 9 }) (.int .i64 9) (show 9 < 13 by decide) (fun g X ht => by obtain ⟨b0, b1, b2, b3, b4, b5, b6, b7, b8, b9, b10, b11, b12⟩ := ht; refine ⟨?_, ?_, ?_, ?_, ?_, ?_, ?_, ?_, ?_, ?_, ?_, ?_, ?_⟩; all_goals first | (rw [if_neg (by omega)]; assumption) | (rw [if_pos (by omega)]; rfl) | (rw [if_pos (by omega)])) rfl rfl rfl ⟨rfl, rfl, rfl⟩
    rw [World.setCell_alloc_past _ _ _ _ hz] at this
    exact this
end Go.Proofs.YtlfingcmekifkaaGreat

namespace Go.Proofs.YtlfingcmekifkaaGreat
open Go.RowKit
set_option maxRecDepth 100000 in
set_option maxHeartbeats 2000000 in
theorem refWrong05 (n : Int) (A : Option Addr) (m c : Nat) (cs : List Cl) (w : World) (h : SlCl w (.slice A m c) cs) (hm : cs.length = m) :
    Calls Tryz.prog 59 #[.int .i64 n, .slice A m c] w fun e w' => e = .returned (.int .i64 (wrongE n cs)) ∧ w' = w := by
  have hle : m ≤ maxLen := by obtain ⟨_, _, e, h1, h2, _⟩ := h; cases e; omega
  have hm63 : (m : Int) ≤ 9223372036854775807 := by unfold maxLen at hle; omega
  have HH := hide h
  have HM := hide hm
  by_cases hn : 1 ≤ n ∧ n ≤ 16
  · have n0 : decide (n < 1) = false := by simp; omega
    have n1 : decide (16 < n) = false := by simp; omega
    by_cases h8 : 1000 < m
    · have hE : wrongE n cs = 3 := by unfold wrongE; rw [if_neg (by omega), if_pos (by omega)]
      have h8' : (1000 : Int) < (m : Int) := by omega
      rw [hE]
      clear h hm hn hE
      go_enter Tryz.func59, Tryz.ntmps59
      go_wp2
      go_ret
      exact ⟨rfl, rfl⟩
    · have h8' : ¬ (1000 : Int) < (m : Int) := by omega
      have HN := hide hn
      obtain ⟨E, hE⟩ : ∃ E, wrongE n cs = E := ⟨_, rfl⟩
      have HE := hide hE
      rw [hE]
      clear h hm hn hE
      go_enter Tryz.func59, Tryz.ntmps59
      go_wp2
      go_loopw [17] (fun i wr => ∃ k : Nat, k ≤ m ∧ i = .int .i64 k ∧ Hid (∀ (j : Nat) (x : Cl), j < k → cs[j]? = some x → 0 ≤ x.thread ∧ x.thread < n) ∧ wr = w) (fun i _ => m - (intOf i).toNat)
      case atStart => exact ⟨0, Nat.zero_le _, rfl, hide (fun j x hj => by omega), rfl⟩
      case round =>
        obtain ⟨k, hk, rfl, hOk, rfl⟩ := hrel
        by_cases hlt : k < m
        · obtain ⟨x, hxk⟩ : ∃ x, cs[k]? = some x := ⟨_, List.getElem?_eq_getElem (by have := HM.out; omega)⟩
          obtain ⟨A', c', e, _, _, h3⟩ := HH.out
          obtain ⟨b, oo, e', hb, hc⟩ := h3 k x hxk
          rw [HM.out] at e
          cases e
          cases e'
          obtain ⟨c0, c1, c2, c3, c4, c5⟩ := cl_cells hc
          have HK := hide hxk
          clear h3 hc hxk
          rcases (by omega : x.thread < 0 ∨ (0 ≤ x.thread ∧ n ≤ x.thread) ∨ (0 ≤ x.thread ∧ x.thread < n)) with ht | ⟨ht, ht'⟩ | ⟨ht, ht'⟩
          · have d0 : decide (x.thread < 0) = true := by simpa using ht
            have hE1 : Hid (1 = E) := hide (by rw [← HE.out]; unfold wrongE; rw [if_neg (by have := HN.out; omega), if_neg (by have := HM.out; omega), if_neg (not_all HK.out (Or.inl ht))])
            go_wp2
            go_ret
            exact ⟨by rw [← hE1.out]; rfl, rfl⟩
          · have d0 : decide (x.thread < 0) = false := by simpa using ht
            have d1 : decide (n ≤ x.thread) = true := by simpa using ht'
            have hE1 : Hid (1 = E) := hide (by rw [← HE.out]; unfold wrongE; rw [if_neg (by have := HN.out; omega), if_neg (by have := HM.out; omega), if_neg (not_all HK.out (Or.inr ht'))])
            go_wp2
            go_ret
            exact ⟨by rw [← hE1.out]; rfl, rfl⟩
          · have d0 : decide (x.thread < 0) = false := by simpa using ht
            have d1 : decide (n ≤ x.thread) = false := by simpa using ht'
            have hok1 : Hid (∀ (j : Nat) (y : Cl), j < k + 1 → cs[j]? = some y → 0 ≤ y.thread ∧ y.thread < n) := by
              intro j y hj hy
              by_cases e : j = k
              · subst e
                rw [HK.out] at hy
                cases hy
                exact ⟨ht, ht'⟩
              · exact hOk.out j y (by omega) hy
            go_wp2
            go_roundw
            case rel => exact ⟨k + 1, by omega, by go_num, hok1, trivial⟩
            case measure => first | (simp [intOf]; done) | (simp [intOf]; omega)
        · obtain rfl : k = m := by omega
          have hE1 : Hid (0 = E) := hide (by rw [← HE.out]; unfold wrongE; rw [if_neg (by have := HN.out; omega), if_neg (by have := HM.out; omega), if_pos (all_take (fun j x hx => hOk.out j x (by have := (List.getElem?_eq_some_iff.1 hx).1; have := HM.out; omega) hx))])
          go_wp2
          go_ret
          exact ⟨by rw [← hE1.out]; rfl, rfl⟩
  · have hE : wrongE n cs = 1 := by unfold wrongE; rw [if_pos hn]
    rw [hE]
    rcases (by omega : n < 1 ∨ 1 ≤ n ∧ 16 < n) with h0 | ⟨h0, h1⟩
    · have n0 : decide (n < 1) = true := by simp; omega
      clear h hm hn hE
      go_enter Tryz.func59, Tryz.ntmps59
      go_wp2
      go_ret
      exact ⟨rfl, rfl⟩
    · have n0 : decide (n < 1) = false := by simp; omega
      have n1 : decide (16 < n) = true := by simp; omega
      clear h hm hn hE
      go_enter Tryz.func59, Tryz.ntmps59
      go_wp2
      go_ret
      exact ⟨rfl, rfl⟩
end Go.Proofs.YtlfingcmekifkaaGreat
