import Derived.Test.YtmiimpmfkjcjlaaGreatBun11
import Derived.Test.YtmiimpmfkjcjlaaGreatBun6
namespace Go.Proofs.YtmiimpmfkjcjlaaGreat
open Go.RowKit
def CmpV (cf : Int → Int → Int) (K gf B g : Nat) (w0 : World) : Prop :=
  ∀ W, Below g w0 W → ∀ x y : Nat, x < K → y < K → Calls Tryz.prog gf #[.int .i64 x, .int .i64 y, .pointer (some ⟨B, 0, none⟩)] W fun e w' => e = .returned (.int .i64 (cf x y)) ∧ ∃ m, w' = W.drewN m
abbrev cmpF (B : Nat) : Value := .func (.func 159) #[] #[.pointer (some ⟨B, 0, none⟩)]
def Vd (K n : Nat) (d : Nat → Int) : Prop := ∀ k, k < n → ∃ x : Nat, d k = (x : Int) ∧ x < K
theorem Vd.same {K n a b : Nat} {d e : Nat → Int} (h : Vd K n d) (hs : SameOn d e a b) (hb : b ≤ n) : Vd K n e := by
  intro k hk
  by_cases hr : k < a ∨ b ≤ k
  · rw [hs.1 k hr]; exact h k hk
  · obtain ⟨k', h1, h2, h3⟩ := (hs.2 (e k)).1 ⟨k, by omega, by omega, rfl⟩
    rw [← h3]
    exact h k' (by omega)
theorem rise_ins {cf : Int → Int → Int} {d e : Nat → Int} {a b i : Nat} (hinc : ∀ p q, a ≤ p → p < q → q < b → d p < d q) (h : MPost cf d e a i) (hib : i < b) : ∀ k, a ≤ k → k < i → e k < e i := by
  intro k hk hki
  obtain ⟨k', h1, h2, h3⟩ := (h.1.2 (e k)).1 ⟨k, hk, hki, rfl⟩
  rw [← h3, h.1.1 i (Or.inr (Nat.le_refl _))]
  exact hinc k' i h1 h2 hib
def IPost (cf : Int → Int → Int) (g N : Nat) (d : Nat → Int) (a b : Nat) (w : World) (e : Ending) (w' : World) : Prop := ∃ d', SPost g N d' w e w' ∧ MPost cf d d' a b
set_option maxRecDepth 100000 in
set_option maxHeartbeats 4000000 in
theorem insertion_any {cf : Int → Int → Int} (H : CmpOk cf) (g N K B a b : Nat) (d : Nat → Int) (w : World) (hd : DAt w g N d) (hv : Vd K N d) (hinc : ∀ p q, a ≤ p → p < q → q < b → d p < d q) (hC : CmpV cf K 159 B g w) (hb : b ≤ N) (ha : a ≤ N) (hN : N ≤ 1000000) :
    Calls Tryz.prog 208 #[.slice (some ⟨g, 0, none⟩) N N, .int .i64 a, .int .i64 b, cmpF B] w (IPost cf g N d a b w) := by
  have he : ∀ args w, (callFunc 159 args).run Tryz.prog w = .ok (.enter 159 args) w := enter_of Tryz.func159 (by kernel_rfl) (by kernel_rfl)
  have HD := hide hd
  have HV := hide hv
  have HI := hide hinc
  have HC := hide hC
  have e1 : IntKind.i64.wrap ((a : Int) + 1) = (a : Int) + 1 := IntWalk.i64_in _ (by omega)
  clear hd hv hinc hC
  go_enter Tryz.func208, Tryz.ntmps208
  go_wp2
  go_loopw [8, 9] (fun x _ wr => ∃ (i : Nat) (e : Nat → Int), a + 1 ≤ i ∧ i ≤ N + 1 ∧ x = .int .i64 i ∧ Hid ((i = a + 1 ∧ e = d) ∨ (i ≤ b ∧ MPost cf d e a i)) ∧ Hid (DAt wr g N e) ∧ Hid (Below g w wr)) (fun x _ _ => b - (intOf x).toNat)
  case atStart => exact ⟨a + 1, d, by omega, by omega, by go_num, hide (Or.inl ⟨rfl, rfl⟩), HD, hide (Below.refl _ _)⟩
  case round =>
    obtain ⟨i, e, hai, hiN, rfl, hm, hD, hB⟩ := hrel
    by_cases l1 : i < b
    · have d1 : decide ((i : Int) < (b : Int)) = true := by simp; omega
      have d2 : decide (i < b) = true := by simp; omega
      have HM : Hid (MPost cf d e a i) := hide (by
        rcases hm.out with ⟨h1, h2⟩ | ⟨_, h2⟩
        · rw [h2, h1]; exact MPost.triv (fun p q h1 h2 h3 => by omega)
        · exact h2)
      have HR := hide (rise_ins HI.out HM.out l1)
      have HVe : Hid (Vd K N e) := hide (HV.out.same HM.out.1 (by omega))
      obtain ⟨wo, rfl⟩ : ∃ wo : World, wo = wr := ⟨_, rfl⟩
      obtain ⟨xi, hxi, hxiK⟩ := HVe.out i (by omega)
      have HXI := hide hxi
      clear hm hxi
      go_wp2
      go_loopw [9] (fun y wr => ∃ j : Nat, a ≤ j ∧ j ≤ i ∧ y = .int .i64 j ∧ Hid (∀ k, j ≤ k → k < i → Lt cf (e i) (e k)) ∧ Hid (DAt wr g N (rot e j i (i + 1))) ∧ Hid (Below g w wr)) (fun y _ => (intOf y).toNat)
      case atStart => exact ⟨i, by omega, Nat.le_refl _, rfl, hide (fun k h1 h2 => by omega), hide (by rw [rot_none (by omega) (Or.inl rfl)]; exact hD.out), hB⟩
      case round =>
        obtain ⟨j, haj, hji, rfl, hl, hDj, hBj⟩ := hrel
        by_cases l2 : a < j
        · obtain ⟨p, rfl⟩ : ∃ p, j = p + 1 := ⟨j - 1, by omega⟩
          have b1 : decide ((a : Int) < (p : Int) + 1) = true := by simp; omega
          have b2 : decide (a < p + 1) = true := by simp; omega
          obtain ⟨xj, hxj, hxjK⟩ := HVe.out p (by omega)
          have r1 : rot e (p + 1) i (i + 1) (p + 1) = (xi : Int) := by rw [rot_fst (by omega) (by omega), show p + 1 + (i - (p + 1)) = i from by omega]; exact HXI.out
          have r2 : rot e (p + 1) i (i + 1) p = (xj : Int) := by rw [rot_lo (by omega)]; exact hxj
          have c1 := hDj.out.cell (p + 1) (by omega)
          have c2 := hDj.out.cell p (by omega)
          have f1 := hDj.out.free (p + 1) (by omega)
          have f2 := hDj.out.free p (by omega)
          rw [r1] at c1
          rw [r2] at c2
          have k1 : IntKind.i64.wrap (p : Int) = (p : Int) := IntWalk.i64_in _ (by omega)
          have k2 : IntKind.i64.wrap ((p : Int) + 1 - 1) = (p : Int) := (IntWalk.i64_in _ (by omega)).trans (by omega)
          have t1 : ((p : Int) + 1).toNat = p + 1 := by omega
          have q1 : (0 : Int) ≤ (p : Int) := by omega
          have q2 : (p : Int) < (N : Int) := by omega
          have q3 : (0 : Int) ≤ (p : Int) + 1 := by omega
          have q4 : (p : Int) + 1 < (N : Int) := by omega
          have q5 : p + 1 < N := by omega
          have q6 : p < N := by omega
          have N1 := fun W h => HC.out W h xi xj hxiK hxjK
          have HCF : Hid (cf (e i) (e p) = cf xi xj) := hide (by rw [HXI.out, hxj])
          generalize cf xi xj = z at N1 HCF
          have HXJ := hide hxj
          clear hxj r1 r2
          go_wp2_with fail
          refine wp_region_seq (fun Y => Y.cell? ⟨g, p + 1, none⟩ = some (.int .i64 xi) ∧ Y.cell? ⟨g, p, none⟩ = some (.int .i64 xj)) (.take 0 <| .take 1 <| .take 2 <| .take 3 <| .take 4 <| .take 5 <| .take 6 <| .take 7 <| .take 8 <| .take 9 <| .take 10 <| .take 11 <| .take 12 <| .take 13 <| .run 14 <| .take 15 <| .take 16 <| .done) (by kernel_rfl) (by kernel_rfl) (by kernel_rfl) ⟨c1, c2⟩ ?_
          repeat (first | (refine seq_take (v := ?_) rfl (by rfl) ?_ ?_; rotate_left; (focus (intro wS hS; have s0 := hS.1; have s1 := hS.2; go_simp; exact rfl)); simp only [Act.put, sqA, sqB, sqC]) | (refine seq_skip rfl (by rfl) ?_; simp only [Act.put, sqA, sqB, sqC]))
          refine seq_run rfl (by rfl) (fun K hK => ?_)
          go_simp
          refine (N1 _ (by have hq := hBj.out; (repeat' (first | with_reducible (first | assumption | exact Below.refl _ _ | refine Below.drew ?_ | refine below_drewN ?_ _ | refine Below.alloc ?_ ?_ _ | refine Below.setCell ?_ ?_ _) | omega | (simp; done) | (simp; omega))))).mono ?_
          rintro e1 w1 ⟨rfl, m, rfl⟩
          refine hK _ _ ⟨by simpa using c1, by simpa using c2⟩ ?_
          clear hK K N1
          repeat (first | (refine seq_take (v := ?_) rfl (by rfl) ?_ ?_; rotate_left; (focus (intro wS hS; have s0 := hS.1; have s1 := hS.2; go_simp; exact rfl)); simp only [Act.put, sqA, sqB, sqC]) | (refine seq_skip rfl (by rfl) ?_; simp only [Act.put, sqA, sqB, sqC]))
          refine seq_nil ?_
          obtain ⟨W1, hW1⟩ : ∃ W1, W1 = wr.drew.drewN m := ⟨_, rfl⟩
          have HDW : Hid (DAt W1 g N (rot e (p + 1) i (i + 1)) ∧ Below g w W1) := hide (by
            rw [hW1]
            refine ⟨hDj.out.drew.drewN m, ?_⟩
            have hq := hBj.out
            (repeat' (first | with_reducible (first | assumption | exact Below.refl _ _ | refine Below.drew ?_ | refine below_drewN ?_ _ | refine Below.alloc ?_ ?_ _ | refine Below.setCell ?_ ?_ _) | omega | (simp; done) | (simp; omega))))
          rw [← hW1]
          clear hW1 hDj hBj c1 c2 f1 f2
          by_cases hz : z < 0
          · have z1 : decide (z < 0) = true := by simp; omega
            have c1 := HDW.out.1.cell (p + 1) (by omega)
            have c2 := HDW.out.1.cell p (by omega)
            have f1 := HDW.out.1.free (p + 1) (by omega)
            have f2 := HDW.out.1.free p (by omega)
            have HS : Hid (∀ X : World, X = (W1.setCell ⟨g, p + 1, none⟩ (.int .i64 (rot e (p + 1) i (i + 1) p))).setCell ⟨g, p, none⟩ (.int .i64 (rot e (p + 1) i (i + 1) (p + 1))) → DAt X.drew g N (rot e p i (i + 1)) ∧ Below g w X.drew) := hide (fun X hX => by
              subst hX
              refine ⟨by rw [← rot_down (d := e) (j := p) (i := i) (by omega)]; exact (HDW.out.1.swap (by omega) (by omega)).drew, ?_⟩
              have hq := HDW.out.2
              (repeat' (first | with_reducible (first | assumption | exact Below.refl _ _ | refine Below.drew ?_ | refine below_drewN ?_ _ | refine Below.alloc ?_ ?_ _ | refine Below.setCell ?_ ?_ _) | omega | (simp; done) | (simp; omega))))
            have HL : Hid (∀ k, p ≤ k → k < i → Lt cf (e i) (e k)) := hide (fun k h1 h2 => by
              by_cases hkp : k = p
              · subst hkp; exact Or.inl (by rw [HCF.out]; exact hz)
              · exact hl.out k (by omega) h2)
            clear hl HCF hz
            rw [z1]
            clear z1
            generalize rot e (p + 1) i (i + 1) p = y1 at c2 HS
            generalize rot e (p + 1) i (i + 1) (p + 1) = y2 at c1 HS
            go_wp2_with fail
            refine wp_region_seqm (fun Y => Y.cell? ⟨g, p + 1, none⟩ = some (.int .i64 y2) ∧ Y.cell? ⟨g, p, none⟩ = some (.int .i64 y1)) [15, 17] [0, 1, 2, 3, 4, 5, 6, 7, 8, 10, 11, 12, 14, 16] (.take 0 <| .take 1 <| .take 2 <| .take 3 <| .take 4 <| .take 5 <| .take 6 <| .take 7 <| .take 8 <| .take 9 <| .take 10 <| .take 11 <| .take 12 <| .take 13 <| .take 14 <| .run 15 <| .take 16 <| .run 17 <| .done) (by kernel_rfl) (by kernel_rfl) (by kernel_rfl) ⟨by simpa using c1, by simpa using c2⟩ ?_
            repeat (first | (refine seqm_take (v := ?_) rfl rfl (by rfl) ?_ ?_; rotate_left; (focus (intro wS hS; have s0 := hS.1; have s1 := hS.2; go_simp; exact rfl)); simp only [Act.put, sqA, sqB, sqC]) | (refine seqm_pure (v := ?_) rfl rfl (by rfl) ?_ ?_; rotate_left; (focus (intro wS; go_simp; exact rfl)); simp only [Act.put, sqA, sqB, sqC]))
            (refine seqm_late rfl rfl (by rfl) (fun K hK => ?_); go_simp; refine hK _ _ ?_; clear hK K)
            repeat (first | (refine seqm_take (v := ?_) rfl rfl (by rfl) ?_ ?_; rotate_left; (focus (intro wS hS; have s0 := hS.1; have s1 := hS.2; go_simp; exact rfl)); simp only [Act.put, sqA, sqB, sqC]) | (refine seqm_pure (v := ?_) rfl rfl (by rfl) ?_ ?_; rotate_left; (focus (intro wS; go_simp; exact rfl)); simp only [Act.put, sqA, sqB, sqC]))
            (refine seqm_late rfl rfl (by rfl) (fun K hK => ?_); go_simp; refine hK _ _ ?_; clear hK K)
            refine seqm_nil ?_
            go_wp2
            go_roundw
            case rel => exact ⟨p, by omega, by omega, by go_num, HL, hide (HS.out _ rfl).1, hide (HS.out _ rfl).2⟩
            case measure => simp [intOf] <;> omega
          · have z1 : decide (z < 0) = false := by simp; omega
            have HP : Hid (MPost cf d (rot e (p + 1) i (i + 1)) a (i + 1)) := hide (by
              refine (fun h => ⟨HM.out.1.wide (Nat.le_refl _) (by omega) (by omega) |>.trans h.1, h.2⟩ : MPost cf e _ a (i + 1) → _) (ins_done H HM.out.2 (by omega) hji hl.out (Or.inr ?_))
              exact (Lt.cross H (fun _ => HR.out p (by omega) (by omega))).2 (by rw [HCF.out]; exact hz))
            clear hl HCF hz
            rw [z1]
            clear z1
            go_wp2
            go_roundw
            case rel => exact ⟨i + 1, _, by omega, by omega, by go_num, hide (Or.inr ⟨by omega, HP.out⟩), hide HDW.out.1, hide HDW.out.2⟩
            case measure => simp [intOf] <;> omega
        · obtain rfl : a = j := by omega
          have b1 : decide ((a : Int) < (a : Int)) = false := by simp
          have HP : Hid (MPost cf d (rot e a i (i + 1)) a (i + 1)) := hide ((fun h => ⟨HM.out.1.wide (Nat.le_refl _) (by omega) (by omega) |>.trans h.1, h.2⟩ : MPost cf e _ a (i + 1) → _) (ins_done H HM.out.2 (by omega) hji hl.out (Or.inl rfl)))
          clear hl
          go_wp2_with fail
          refine wp_region_seq (fun _ => True) (.take 0 <| .take 1 <| .take 2 <| .take 3 <| .take 4 <| .take 5 <| .take 6 <| .take 7 <| .take 8 <| .take 9 <| .take 10 <| .take 11 <| .take 12 <| .take 13 <| .run 14 <| .take 15 <| .take 16 <| .done) (by kernel_rfl) (by kernel_rfl) (by kernel_rfl) trivial ?_
          repeat (first | (refine seq_take (v := ?_) rfl (by rfl) ?_ ?_; rotate_left; (focus (intro wS hS; go_simp; exact rfl)); simp only [Act.put, sqA, sqB, sqC]) | (refine seq_skip rfl (by rfl) ?_; simp only [Act.put, sqA, sqB, sqC]) | (refine seq_pass rfl (by rfl) trivial ?_; simp only [Act.put, sqA, sqB, sqC]))
          refine seq_nil ?_
          have HDW : Hid (DAt wr.drew g N (rot e a i (i + 1)) ∧ Below g w wr.drew) := hide (by
            refine ⟨hDj.out.drew, ?_⟩
            have hq := hBj.out
            (repeat' (first | with_reducible (first | assumption | exact Below.refl _ _ | refine Below.drew ?_ | refine below_drewN ?_ _ | refine Below.alloc ?_ ?_ _ | refine Below.setCell ?_ ?_ _) | omega | (simp; done) | (simp; omega))))
          generalize wr.drew = W1 at HDW ⊢
          clear hDj hBj
          go_wp2
          go_roundw
          case rel => exact ⟨i + 1, _, by omega, by omega, by go_num, hide (Or.inr ⟨by omega, HP.out⟩), hide HDW.out.1, hide HDW.out.2⟩
          case measure => simp [intOf] <;> omega
    · have d1 : decide ((i : Int) < (b : Int)) = false := by simp; omega
      have d2 : decide (i < b) = false := by simp; omega
      have HM : Hid (MPost cf d e a b) := hide (by
        rcases hm.out with ⟨h1, h2⟩ | ⟨h1, h2⟩
        · rw [h2]; exact MPost.triv (fun p q h1 h2 h3 => by omega)
        · rw [show b = i from by omega]; exact h2)
      go_wp2
      ((try simp only [Exit.inBlock, Exit.then]); refine bodyPost_ret (results_none rfl _ _ _) rfl ?_)
      exact ⟨e, ⟨⟨_, rfl⟩, hD.out, hB.out⟩, HM.out⟩
end Go.Proofs.YtmiimpmfkjcjlaaGreat

namespace Go.Proofs.YtmiimpmfkjcjlaaGreat
open Go.RowKit
set_option maxRecDepth 100000 in
set_option maxHeartbeats 4000000 in
theorem sym_first {cf : Int → Int → Int} (H : CmpOk cf) (g N K B a b : Nat) (d : Nat → Int) (w : World) (hd : DAt w g N d) (hv : Vd K N d) (hM : MPre cf d a (a + 1) b) (hab : a + 1 < b) (hC : CmpV cf K 159 B g w) (hb : b ≤ N) (hN : N ≤ 1000000) :
    Calls Tryz.prog 209 #[.slice (some ⟨g, 0, none⟩) N N, .int .i64 a, (.int .i64 ((a : Int) + 1)), .int .i64 b, cmpF B] w (IPost cf g N d a b w) := by
  have he : ∀ args w, (callFunc 159 args).run Tryz.prog w = .ok (.enter 159 args) w := enter_of Tryz.func159 (by kernel_rfl) (by kernel_rfl)
  have HD := hide hd
  have HV := hide hv
  have HM := hide hM
  have HC := hide hC
  have e1 : IntKind.i64.wrap ((a : Int) + 1 - (a : Int)) = 1 := (IntWalk.i64_in _ (by omega)).trans (by omega)
  have e2 : IntKind.i64.wrap 1 = 1 := IntWalk.i64_in _ (by omega)
  clear hd hv hM hC
  go_enter Tryz.func209, Tryz.ntmps209
  go_wp2
  go_loopw [10, 11] (fun x y wr => ∃ (i j : Nat), a + 1 ≤ i ∧ i ≤ j ∧ j ≤ b ∧ x = .int .i64 i ∧ y = .int .i64 j ∧ Hid ((i = a + 1 ∨ cf (d (i - 1)) (d a) < 0) ∧ (j = b ∨ 0 ≤ cf (d j) (d a))) ∧ Hid (DAt wr g N d) ∧ Hid (Below g w wr)) (fun x y _ => (intOf y).toNat - (intOf x).toNat)
  case atStart => exact ⟨a + 1, b, by omega, by omega, by omega, by go_num, rfl, hide ⟨Or.inl rfl, Or.inl rfl⟩, HD, hide (Below.refl _ _)⟩
  case round =>
    obtain ⟨i, j, hai, hij, hjb, rfl, rfl, hs, hD, hB⟩ := hrel
    by_cases l1 : i < j
    · have d1 : decide ((i : Int) < (j : Int)) = true := by simp; omega
      have d2 : decide (i < j) = true := by simp; omega
      have k1 : IntKind.i64.wrap ((i : Int) + (j : Int)) = (i : Int) + (j : Int) := IntWalk.i64_in _ (by omega)
      have k2 : IntKind.u64.wrap ((i : Int) + (j : Int)) = (i : Int) + (j : Int) := IntWalk.u64_in _ (by omega)
      go_wp2_with fail
      have Q : ((i : Int) + (j : Int)) / 2 = (((i + j) / 2 : Nat) : Int) := by omega
      rw [Q]
      obtain ⟨h, hhe⟩ : ∃ h, (i + j) / 2 = h := ⟨_, rfl⟩
      have hh1 : i ≤ h := by omega
      have hh2 : h < j := by omega
      rw [hhe]
      obtain ⟨xh, hxh, hxhK⟩ := HV.out h (by omega)
      obtain ⟨xa, hxa, hxaK⟩ := HV.out a (by omega)
      have c1 := hD.out.cell h (by omega)
      have c2 := hD.out.cell a (by omega)
      rw [hxh] at c1
      rw [hxa] at c2
      have q1 : (0 : Int) ≤ (h : Int) := by omega
      have q2 : (h : Int) < (N : Int) := by omega
      have q3 : (0 : Int) ≤ (a : Int) := by omega
      have q4 : (a : Int) < (N : Int) := by omega
      have q5 : h < N := by omega
      have q6 : a < N := by omega
      have k3 : IntKind.i64.wrap ((h : Int) + 1) = (h : Int) + 1 := IntWalk.i64_in _ (by omega)
      have N1 := fun W h => HC.out W h xh xa hxhK hxaK
      have HCF : Hid (cf (d h) (d a) = cf xh xa) := hide (by rw [hxh, hxa])
      generalize cf xh xa = z at N1 HCF
      clear hxh hxa Q hhe
      refine wp_region_seq (fun Y => Y.cell? ⟨g, h, none⟩ = some (.int .i64 xh) ∧ Y.cell? ⟨g, a, none⟩ = some (.int .i64 xa)) (.take 0 <| .take 1 <| .take 2 <| .take 3 <| .take 4 <| .take 5 <| .take 6 <| .take 7 <| .take 8 <| .run 9 <| .take 10 <| .done) (by kernel_rfl) (by kernel_rfl) (by kernel_rfl) ⟨c1, c2⟩ ?_
      repeat (first | (refine seq_take (v := ?_) rfl (by rfl) ?_ ?_; rotate_left; (focus (intro wS hS; have s0 := hS.1; have s1 := hS.2; go_simp; exact rfl)); simp only [Act.put, sqA, sqB, sqC]) | (refine seq_skip rfl (by rfl) ?_; simp only [Act.put, sqA, sqB, sqC]))
      refine seq_run rfl (by rfl) (fun K hK => ?_)
      go_simp
      refine (N1 _ (by have hq := hB.out; (repeat' (first | with_reducible (first | assumption | exact Below.refl _ _ | refine Below.drew ?_ | refine below_drewN ?_ _ | refine Below.alloc ?_ ?_ _ | refine Below.setCell ?_ ?_ _) | omega | (simp; done) | (simp; omega))))).mono ?_
      rintro e1 w1 ⟨rfl, m, rfl⟩
      refine hK _ _ ⟨by simpa using c1, by simpa using c2⟩ ?_
      clear hK K N1
      repeat (first | (refine seq_take (v := ?_) rfl (by rfl) ?_ ?_; rotate_left; (focus (intro wS hS; have s0 := hS.1; have s1 := hS.2; go_simp; exact rfl)); simp only [Act.put, sqA, sqB, sqC]) | (refine seq_skip rfl (by rfl) ?_; simp only [Act.put, sqA, sqB, sqC]))
      refine seq_nil ?_
      obtain ⟨W1, hW1⟩ : ∃ W1, W1 = wr.drew.drewN m := ⟨_, rfl⟩
      have HDW : Hid (DAt W1 g N d ∧ Below g w W1) := hide (by
        rw [hW1]
        refine ⟨hD.out.drew.drewN m, ?_⟩
        have hq := hB.out
        (repeat' (first | with_reducible (first | assumption | exact Below.refl _ _ | refine Below.drew ?_ | refine below_drewN ?_ _ | refine Below.alloc ?_ ?_ _ | refine Below.setCell ?_ ?_ _) | omega | (simp; done) | (simp; omega))))
      rw [← hW1]
      clear hW1 hD hB c1 c2
      by_cases hz : z < 0
      · have z1 : decide (z < 0) = true := by simp; omega
        have HS : Hid ((h + 1 = a + 1 ∨ cf (d (h + 1 - 1)) (d a) < 0) ∧ (j = b ∨ 0 ≤ cf (d j) (d a))) := hide ⟨Or.inr (by rw [Nat.add_sub_cancel, HCF.out]; exact hz), hs.out.2⟩
        clear HCF hz hs
        rw [z1]
        clear z1
        go_wp2
        go_roundw
        case rel => exact ⟨h + 1, j, by omega, by omega, by omega, by go_num, rfl, HS, hide HDW.out.1, hide HDW.out.2⟩
        case measure => simp [intOf] <;> omega
      · have z1 : decide (z < 0) = false := by simp; omega
        have HS : Hid ((i = a + 1 ∨ cf (d (i - 1)) (d a) < 0) ∧ (h = b ∨ 0 ≤ cf (d h) (d a))) := hide ⟨hs.out.1, Or.inr (by rw [HCF.out]; omega)⟩
        clear HCF hz hs
        rw [z1]
        clear z1
        go_wp2
        go_roundw
        case rel => exact ⟨i, h, by omega, by omega, by omega, rfl, rfl, HS, hide HDW.out.1, hide HDW.out.2⟩
        case measure => simp [intOf] <;> omega
    · obtain rfl : i = j := by omega
      have d1 : decide ((i : Int) < (i : Int)) = false := by simp
      obtain ⟨q, rfl⟩ : ∃ q, i = q + 1 := ⟨i - 1, by omega⟩
      have HP : Hid (MPost cf d (rot d a (a + 1) (q + 1)) a b) := hide (ins_first H HM.out (by omega) (by omega) hs.out.1 (hs.out.2.imp id (fun h => by omega)))
      have k2 : IntKind.i64.wrap ((q : Int) + 1 - 1) = (q : Int) := (IntWalk.i64_in _ (by omega)).trans (by omega)
      have k3 : IntKind.i64.wrap (q : Int) = (q : Int) := IntWalk.i64_in _ (by omega)
      obtain ⟨wo, rfl⟩ : ∃ wo : World, wo = wr := ⟨_, rfl⟩
      clear hs
      rw [show ((q + 1 : Nat) : Int) = (q : Int) + 1 from by omega]
      go_wp2
      go_loopw [13] (fun y wr => ∃ k : Nat, a ≤ k ∧ k ≤ q ∧ y = .int .i64 k ∧ Hid (DAt wr g N (rot d a (a + 1) (k + 1))) ∧ Hid (Below g w wr)) (fun y _ => q - (intOf y).toNat)
      case atStart => exact ⟨a, Nat.le_refl _, by omega, rfl, hide (by rw [rot_none (by omega) (Or.inr rfl)]; exact hD.out), hB⟩
      case round =>
        obtain ⟨k, hak, hkq, rfl, hDk, hBk⟩ := hrel
        by_cases l2 : k < q
        · have d3 : decide ((k : Int) < (q : Int)) = true := by simp; omega
          have d4 : decide (k < q) = true := by simp; omega
          have c1 := hDk.out.cell k (by omega)
          have c2 := hDk.out.cell (k + 1) (by omega)
          have f1 := hDk.out.free k (by omega)
          have f2 := hDk.out.free (k + 1) (by omega)
          have k4 : IntKind.i64.wrap ((k : Int) + 1) = (k : Int) + 1 := IntWalk.i64_in _ (by omega)
          have t1 : ((k : Int) + 1).toNat = k + 1 := by omega
          have q1 : (0 : Int) ≤ (k : Int) := by omega
          have q2 : (k : Int) < (N : Int) := by omega
          have q3 : (0 : Int) ≤ (k : Int) + 1 := by omega
          have q4 : (k : Int) + 1 < (N : Int) := by omega
          have q5 : k < N := by omega
          have q6 : k + 1 < N := by omega
          have HS : Hid (∀ X : World, X = (wr.setCell ⟨g, k, none⟩ (.int .i64 (rot d a (a + 1) (k + 1) (k + 1)))).setCell ⟨g, k + 1, none⟩ (.int .i64 (rot d a (a + 1) (k + 1) k)) → DAt X.drew g N (rot d a (a + 1) (k + 2)) ∧ Below g w X.drew) := hide (fun X hX => by
            subst hX
            refine ⟨by rw [← rot_up hak]; exact (hDk.out.swap (by omega) (by omega)).drew, ?_⟩
            have hq := hBk.out
            (repeat' (first | with_reducible (first | assumption | exact Below.refl _ _ | refine Below.drew ?_ | refine below_drewN ?_ _ | refine Below.alloc ?_ ?_ _ | refine Below.setCell ?_ ?_ _) | omega | (simp; done) | (simp; omega))))
          generalize rot d a (a + 1) (k + 1) k = y1 at c1 HS
          generalize rot d a (a + 1) (k + 1) (k + 1) = y2 at c2 HS
          clear hDk hBk
          go_wp2_with fail
          refine wp_region_seqm (fun Y => Y.cell? ⟨g, k, none⟩ = some (.int .i64 y1) ∧ Y.cell? ⟨g, k + 1, none⟩ = some (.int .i64 y2)) [15, 17] [0, 1, 2, 3, 4, 5, 6, 7, 8, 10, 11, 12, 14, 16] (.take 0 <| .take 1 <| .take 2 <| .take 3 <| .take 4 <| .take 5 <| .take 6 <| .take 7 <| .take 8 <| .take 9 <| .take 10 <| .take 11 <| .take 12 <| .take 13 <| .take 14 <| .run 15 <| .take 16 <| .run 17 <| .done) (by kernel_rfl) (by kernel_rfl) (by kernel_rfl) ⟨by simpa using c1, by simpa using c2⟩ ?_
          repeat (first | (refine seqm_take (v := ?_) rfl rfl (by rfl) ?_ ?_; rotate_left; (focus (intro wS hS; have s0 := hS.1; have s1 := hS.2; go_simp; exact rfl)); simp only [Act.put, sqA, sqB, sqC]) | (refine seqm_pure (v := ?_) rfl rfl (by rfl) ?_ ?_; rotate_left; (focus (intro wS; go_simp; exact rfl)); simp only [Act.put, sqA, sqB, sqC]))
          (refine seqm_late rfl rfl (by rfl) (fun K hK => ?_); go_simp; refine hK _ _ ?_; clear hK K)
          repeat (first | (refine seqm_take (v := ?_) rfl rfl (by rfl) ?_ ?_; rotate_left; (focus (intro wS hS; have s0 := hS.1; have s1 := hS.2; go_simp; exact rfl)); simp only [Act.put, sqA, sqB, sqC]) | (refine seqm_pure (v := ?_) rfl rfl (by rfl) ?_ ?_; rotate_left; (focus (intro wS; go_simp; exact rfl)); simp only [Act.put, sqA, sqB, sqC]))
          (refine seqm_late rfl rfl (by rfl) (fun K hK => ?_); go_simp; refine hK _ _ ?_; clear hK K)
          refine seqm_nil ?_
          go_wp2
          go_roundw
          case rel => exact ⟨k + 1, by omega, by omega, by go_num, hide (HS.out _ rfl).1, hide (HS.out _ rfl).2⟩
          case measure => simp [intOf] <;> omega
        · obtain rfl : k = q := by omega
          have d3 : decide ((k : Int) < (k : Int)) = false := by simp
          go_wp2
          ((try simp only [Exit.inBlock, Exit.then]); refine bodyPost_ret (results_none rfl _ _ _) rfl ?_)
          exact ⟨_, ⟨⟨_, rfl⟩, hDk.out, hBk.out⟩, HP.out⟩
end Go.Proofs.YtmiimpmfkjcjlaaGreat

namespace Go.Proofs.YtmiimpmfkjcjlaaGreat
open Go.RowKit
set_option maxRecDepth 100000 in
set_option maxHeartbeats 4000000 in
theorem sym_last {cf : Int → Int → Int} (H : CmpOk cf) (g N K B a m : Nat) (d : Nat → Int) (w : World) (hd : DAt w g N d) (hv : Vd K N d) (hM : MPre cf d a m (m + 1)) (ham : a + 1 < m) (hC : CmpV cf K 159 B g w) (hb : m + 1 ≤ N) (hN : N ≤ 1000000) :
    Calls Tryz.prog 209 #[.slice (some ⟨g, 0, none⟩) N N, .int .i64 a, .int .i64 m, (.int .i64 ((m : Int) + 1)), cmpF B] w (IPost cf g N d a (m + 1) w) := by
  have he : ∀ args w, (callFunc 159 args).run Tryz.prog w = .ok (.enter 159 args) w := enter_of Tryz.func159 (by kernel_rfl) (by kernel_rfl)
  have HD := hide hd
  have HV := hide hv
  have HM := hide hM
  have HC := hide hC
  have e1 : IntKind.i64.wrap ((m : Int) + 1 - (m : Int)) = 1 := (IntWalk.i64_in _ (by omega)).trans (by omega)
  have e0 : IntKind.i64.wrap ((m : Int) - (a : Int)) = (m : Int) - (a : Int) := IntWalk.i64_in _ (by omega)
  have x0 : ((m : Int) - (a : Int) == 1) = false := by simp; omega
  have e2 : IntKind.i64.wrap 1 = 1 := IntWalk.i64_in _ (by omega)
  clear hd hv hM hC
  go_enter Tryz.func209, Tryz.ntmps209
  go_wp2
  go_loopw [14, 15] (fun x y wr => ∃ (i j : Nat), a ≤ i ∧ i ≤ j ∧ j ≤ m ∧ x = .int .i64 i ∧ y = .int .i64 j ∧ Hid ((i = a ∨ 0 ≤ cf (d m) (d (i - 1))) ∧ (j = m ∨ cf (d m) (d j) < 0)) ∧ Hid (DAt wr g N d) ∧ Hid (Below g w wr)) (fun x y _ => (intOf y).toNat - (intOf x).toNat)
  case atStart => exact ⟨a, m, by omega, by omega, by omega, rfl, rfl, hide ⟨Or.inl rfl, Or.inl rfl⟩, HD, hide (Below.refl _ _)⟩
  case round =>
    obtain ⟨i, j, hai, hij, hjb, rfl, rfl, hs, hD, hB⟩ := hrel
    by_cases l1 : i < j
    · have d1 : decide ((i : Int) < (j : Int)) = true := by simp; omega
      have d2 : decide (i < j) = true := by simp; omega
      have k1 : IntKind.i64.wrap ((i : Int) + (j : Int)) = (i : Int) + (j : Int) := IntWalk.i64_in _ (by omega)
      have k2 : IntKind.u64.wrap ((i : Int) + (j : Int)) = (i : Int) + (j : Int) := IntWalk.u64_in _ (by omega)
      go_wp2_with fail
      have Q : ((i : Int) + (j : Int)) / 2 = (((i + j) / 2 : Nat) : Int) := by omega
      rw [Q]
      obtain ⟨h, hhe⟩ : ∃ h, (i + j) / 2 = h := ⟨_, rfl⟩
      have hh1 : i ≤ h := by omega
      have hh2 : h < j := by omega
      rw [hhe]
      obtain ⟨xh, hxh, hxhK⟩ := HV.out h (by omega)
      obtain ⟨xa, hxa, hxaK⟩ := HV.out m (by omega)
      have c1 := hD.out.cell h (by omega)
      have c2 := hD.out.cell m (by omega)
      rw [hxh] at c1
      rw [hxa] at c2
      have q1 : (0 : Int) ≤ (h : Int) := by omega
      have q2 : (h : Int) < (N : Int) := by omega
      have q3 : (0 : Int) ≤ (m : Int) := by omega
      have q4 : (m : Int) < (N : Int) := by omega
      have q5 : h < N := by omega
      have q6 : m < N := by omega
      have k3 : IntKind.i64.wrap ((h : Int) + 1) = (h : Int) + 1 := IntWalk.i64_in _ (by omega)
      have N1 := fun W h => HC.out W h xa xh hxaK hxhK
      have HCF : Hid (cf (d m) (d h) = cf xa xh) := hide (by rw [hxh, hxa])
      generalize cf xa xh = z at N1 HCF
      clear hxh hxa Q hhe
      refine wp_region_seq (fun Y => Y.cell? ⟨g, h, none⟩ = some (.int .i64 xh) ∧ Y.cell? ⟨g, m, none⟩ = some (.int .i64 xa)) (.take 0 <| .take 1 <| .take 2 <| .take 3 <| .take 4 <| .take 5 <| .take 6 <| .take 7 <| .take 8 <| .run 9 <| .take 10 <| .take 11 <| .done) (by kernel_rfl) (by kernel_rfl) (by kernel_rfl) ⟨c1, c2⟩ ?_
      repeat (first | (refine seq_take (v := ?_) rfl (by rfl) ?_ ?_; rotate_left; (focus (intro wS hS; have s0 := hS.1; have s1 := hS.2; go_simp; exact rfl)); simp only [Act.put, sqA, sqB, sqC]) | (refine seq_skip rfl (by rfl) ?_; simp only [Act.put, sqA, sqB, sqC]))
      refine seq_run rfl (by rfl) (fun K hK => ?_)
      go_simp
      refine (N1 _ (by have hq := hB.out; (repeat' (first | with_reducible (first | assumption | exact Below.refl _ _ | refine Below.drew ?_ | refine below_drewN ?_ _ | refine Below.alloc ?_ ?_ _ | refine Below.setCell ?_ ?_ _) | omega | (simp; done) | (simp; omega))))).mono ?_
      rintro e1 w1 ⟨rfl, mm, rfl⟩
      refine hK _ _ ⟨by simpa using c1, by simpa using c2⟩ ?_
      clear hK K N1
      repeat (first | (refine seq_take (v := ?_) rfl (by rfl) ?_ ?_; rotate_left; (focus (intro wS hS; have s0 := hS.1; have s1 := hS.2; go_simp; exact rfl)); simp only [Act.put, sqA, sqB, sqC]) | (refine seq_skip rfl (by rfl) ?_; simp only [Act.put, sqA, sqB, sqC]))
      refine seq_nil ?_
      obtain ⟨W1, hW1⟩ : ∃ W1, W1 = wr.drew.drewN mm := ⟨_, rfl⟩
      have HDW : Hid (DAt W1 g N d ∧ Below g w W1) := hide (by
        rw [hW1]
        refine ⟨hD.out.drew.drewN mm, ?_⟩
        have hq := hB.out
        (repeat' (first | with_reducible (first | assumption | exact Below.refl _ _ | refine Below.drew ?_ | refine below_drewN ?_ _ | refine Below.alloc ?_ ?_ _ | refine Below.setCell ?_ ?_ _) | omega | (simp; done) | (simp; omega))))
      rw [← hW1]
      clear hW1 hD hB c1 c2
      by_cases hz : z < 0
      · have z1 : decide (z < 0) = true := by simp; omega
        have HS : Hid ((i = a ∨ 0 ≤ cf (d m) (d (i - 1))) ∧ (h = m ∨ cf (d m) (d h) < 0)) := hide ⟨hs.out.1, Or.inr (by rw [HCF.out]; exact hz)⟩
        clear HCF hz hs
        rw [z1]
        clear z1
        go_wp2
        go_roundw
        case rel => exact ⟨i, h, by omega, by omega, by omega, rfl, rfl, HS, hide HDW.out.1, hide HDW.out.2⟩
        case measure => simp [intOf] <;> omega
      · have z1 : decide (z < 0) = false := by simp; omega
        have HS : Hid ((h + 1 = a ∨ 0 ≤ cf (d m) (d (h + 1 - 1))) ∧ (j = m ∨ cf (d m) (d j) < 0)) := hide ⟨Or.inr (by rw [Nat.add_sub_cancel, HCF.out]; omega), hs.out.2⟩
        clear HCF hz hs
        rw [z1]
        clear z1
        go_wp2
        go_roundw
        case rel => exact ⟨h + 1, j, by omega, by omega, by omega, by go_num, rfl, HS, hide HDW.out.1, hide HDW.out.2⟩
        case measure => simp [intOf] <;> omega
    · obtain rfl : i = j := by omega
      have d1 : decide ((i : Int) < (i : Int)) = false := by simp
      have HP : Hid (MPost cf d (rot d i m (m + 1)) a (m + 1)) := hide (ins_last H HM.out (by omega) (by omega) (hs.out.1.imp id (fun h => by omega)) hs.out.2)
      obtain ⟨wo, rfl⟩ : ∃ wo : World, wo = wr := ⟨_, rfl⟩
      clear hs
      go_wp2
      go_loopw [17] (fun y wr => ∃ k : Nat, i ≤ k ∧ k ≤ m ∧ y = .int .i64 k ∧ Hid (DAt wr g N (rot d k m (m + 1))) ∧ Hid (Below g w wr)) (fun y _ => (intOf y).toNat)
      case atStart => exact ⟨m, by omega, Nat.le_refl _, rfl, hide (by rw [rot_none (by omega) (Or.inl rfl)]; exact hD.out), hB⟩
      case round =>
        obtain ⟨k, hak, hkq, rfl, hDk, hBk⟩ := hrel
        by_cases l2 : i < k
        · obtain ⟨p, rfl⟩ : ∃ p, k = p + 1 := ⟨k - 1, by omega⟩
          have d3 : decide ((i : Int) < (p : Int) + 1) = true := by simp; omega
          have d4 : decide (i < p + 1) = true := by simp; omega
          have c1 := hDk.out.cell (p + 1) (by omega)
          have c2 := hDk.out.cell p (by omega)
          have f1 := hDk.out.free (p + 1) (by omega)
          have f2 := hDk.out.free p (by omega)
          have k1 : IntKind.i64.wrap (p : Int) = (p : Int) := IntWalk.i64_in _ (by omega)
          have k2 : IntKind.i64.wrap ((p : Int) + 1 - 1) = (p : Int) := (IntWalk.i64_in _ (by omega)).trans (by omega)
          have t1 : ((p : Int) + 1).toNat = p + 1 := by omega
          have q1 : (0 : Int) ≤ (p : Int) := by omega
          have q2 : (p : Int) < (N : Int) := by omega
          have q3 : (0 : Int) ≤ (p : Int) + 1 := by omega
          have q4 : (p : Int) + 1 < (N : Int) := by omega
          have q5 : p < N := by omega
          have q6 : p + 1 < N := by omega
          have HS : Hid (∀ X : World, X = (wr.setCell ⟨g, p + 1, none⟩ (.int .i64 (rot d (p + 1) m (m + 1) p))).setCell ⟨g, p, none⟩ (.int .i64 (rot d (p + 1) m (m + 1) (p + 1))) → DAt X.drew g N (rot d p m (m + 1)) ∧ Below g w X.drew) := hide (fun X hX => by
            subst hX
            refine ⟨by rw [← rot_down (d := d) (j := p) (i := m) (by omega)]; exact (hDk.out.swap (by omega) (by omega)).drew, ?_⟩
            have hq := hBk.out
            (repeat' (first | with_reducible (first | assumption | exact Below.refl _ _ | refine Below.drew ?_ | refine below_drewN ?_ _ | refine Below.alloc ?_ ?_ _ | refine Below.setCell ?_ ?_ _) | omega | (simp; done) | (simp; omega))))
          generalize rot d (p + 1) m (m + 1) p = y1 at c2 HS
          generalize rot d (p + 1) m (m + 1) (p + 1) = y2 at c1 HS
          clear hDk hBk
          go_wp2_with fail
          refine wp_region_seqm (fun Y => Y.cell? ⟨g, p + 1, none⟩ = some (.int .i64 y2) ∧ Y.cell? ⟨g, p, none⟩ = some (.int .i64 y1)) [15, 17] [0, 1, 2, 3, 4, 5, 6, 7, 8, 10, 11, 12, 14, 16] (.take 0 <| .take 1 <| .take 2 <| .take 3 <| .take 4 <| .take 5 <| .take 6 <| .take 7 <| .take 8 <| .take 9 <| .take 10 <| .take 11 <| .take 12 <| .take 13 <| .take 14 <| .run 15 <| .take 16 <| .run 17 <| .done) (by kernel_rfl) (by kernel_rfl) (by kernel_rfl) ⟨by simpa using c1, by simpa using c2⟩ ?_
          repeat (first | (refine seqm_take (v := ?_) rfl rfl (by rfl) ?_ ?_; rotate_left; (focus (intro wS hS; have s0 := hS.1; have s1 := hS.2; go_simp; exact rfl)); simp only [Act.put, sqA, sqB, sqC]) | (refine seqm_pure (v := ?_) rfl rfl (by rfl) ?_ ?_; rotate_left; (focus (intro wS; go_simp; exact rfl)); simp only [Act.put, sqA, sqB, sqC]))
          (refine seqm_late rfl rfl (by rfl) (fun K hK => ?_); go_simp; refine hK _ _ ?_; clear hK K)
          repeat (first | (refine seqm_take (v := ?_) rfl rfl (by rfl) ?_ ?_; rotate_left; (focus (intro wS hS; have s0 := hS.1; have s1 := hS.2; go_simp; exact rfl)); simp only [Act.put, sqA, sqB, sqC]) | (refine seqm_pure (v := ?_) rfl rfl (by rfl) ?_ ?_; rotate_left; (focus (intro wS; go_simp; exact rfl)); simp only [Act.put, sqA, sqB, sqC]))
          (refine seqm_late rfl rfl (by rfl) (fun K hK => ?_); go_simp; refine hK _ _ ?_; clear hK K)
          refine seqm_nil ?_
          go_wp2
          go_roundw
          case rel => exact ⟨p, by omega, by omega, by go_num, hide (HS.out _ rfl).1, hide (HS.out _ rfl).2⟩
          case measure => simp [intOf] <;> omega
        · obtain rfl : k = i := by omega
          have d3 : decide ((k : Int) < (k : Int)) = false := by simp
          go_wp2
          ((try simp only [Exit.inBlock, Exit.then]); refine bodyPost_ret (results_none rfl _ _ _) rfl ?_)
          exact ⟨_, ⟨⟨_, rfl⟩, hDk.out, hBk.out⟩, HP.out⟩
end Go.Proofs.YtmiimpmfkjcjlaaGreat
