import Derived.Test.YtmiimpmfkjcjlaaGreatBun12
import Derived.Deep.DeepCutAuto
namespace Go.Proofs.YtmiimpmfkjcjlaaGreat
open Go.RowKit
set_option maxRecDepth 100000 in
set_option maxHeartbeats 4000000 in
theorem sym_last {cf : Int → Int → Int} (H : CmpOk cf) (g N K B a m : Nat) (d : Nat → Int) (w : World) (hd : DAt w g N d) (hv : Vd K N d) (hM : MPre cf d a m (m + 1)) (ham : a + 1 < m) (hC : CmpV cf K 159 B g w) (hb : m + 1 ≤ N) (hN : N ≤ 1000000) :
    Calls Tryz.prog 209 #[.slice (some ⟨g, 0, none⟩) N N, .int .i64 a, .int .i64 m, (.int .i64 ((m : Int) + 1)), cmpF B] w (IPost cf g N d a (m + 1) w) := by
  have he : ∀ args w, (callFunc 159 args).run Tryz.prog w = .ok (.enter 159 args) w := enter_of Tryz.func159 (by kernel_rfl) (by kernel_rfl)
  have HD := hide hd
  have HV := hide hv
  have HM := hide hM
  have HC := hide hC
  have e1 : IntKind.i64.wrap ((m : Int) + 1 - (m : Int)) = 1 := (IntWalk.i64_in _ (by omega)).trans (by omega)
  have e0 : IntKind.i64.wrap ((m : Int) - (a : Int)) = (m : Int) - (a : Int) := IntWalk.i64_in _ (by omega)
  have x0 : ((m : Int) - (a : Int) == 1) = false := by simp; omega
  have e2 : IntKind.i64.wrap 1 = 1 := IntWalk.i64_in _ (by omega)
  clear hd hv hM hC
  go_enter Tryz.func209, Tryz.ntmps209
  go_wp2
  go_loopw [14, 15] (fun x y wr => ∃ (i j : Nat), a ≤ i ∧ i ≤ j ∧ j ≤ m ∧ x = .int .i64 i ∧ y = .int .i64 j ∧ Hid ((i = a ∨ 0 ≤ cf (d m) (d (i - 1))) ∧ (j = m ∨ cf (d m) (d j) < 0)) ∧ Hid (DAt wr g N d) ∧ Hid (Below g w wr)) (fun x y _ => (intOf y).toNat - (intOf x).toNat)
  case atStart => exact ⟨a, m, by omega, by omega, by omega, rfl, rfl, hide ⟨Or.inl rfl, Or.inl rfl⟩, HD, hide (Below.refl _ _)⟩
  case round =>
    obtain ⟨i, j, hai, hij, hjb, rfl, rfl, hs, hD, hB⟩ := hrel
    by_cases l1 : i < j
    · have d1 : decide ((i : Int) < (j : Int)) = true := by simp; omega
      have d2 : decide (i < j) = true := by simp; omega
      have k1 : IntKind.i64.wrap ((i : Int) + (j : Int)) = (i : Int) + (j : Int) := IntWalk.i64_in _ (by omega)
      have k2 : IntKind.u64.wrap ((i : Int) + (j : Int)) = (i : Int) + (j : Int) := IntWalk.u64_in _ (by omega)
      go_wp2_with fail
      have Q : ((i : Int) + (j : Int)) / 2 = (((i + j) / 2 : Nat) : Int) := by omega
      rw [Q]
      obtain ⟨h, hhe⟩ : ∃ h, (i + j) / 2 = h := ⟨_, rfl⟩
      have hh1 : i ≤ h := by omega
      have hh2 : h < j := by omega
      rw [hhe]
      obtain ⟨xh, hxh, hxhK⟩ := HV.out h (by omega)
      obtain ⟨xa, hxa, hxaK⟩ := HV.out m (by omega)
      have c1 := hD.out.cell h (by omega)
      have c2 := hD.out.cell m (by omega)
      rw [hxh] at c1
      rw [hxa] at c2
      have q1 : (0 : Int) ≤ (h : Int) := by omega
      have q2 : (h : Int) < (N : Int) := by omega
      have q3 : (0 : Int) ≤ (m : Int) := by omega
      have q4 : (m : Int) < (N : Int) := by omega
      have q5 : h < N := by omega
      have q6 : m < N := by omega
      have k3 : IntKind.i64.wrap ((h : Int) + 1) = (h : Int) + 1 := IntWalk.i64_in _ (by omega)
      have N1 := fun W h => HC.out W h xa xh hxaK hxhK
      have HCF : Hid (cf (d m) (d h) = cf xa xh) := hide (by rw [hxh, hxa])
      generalize cf xa xh = z at N1 HCF
      clear hxh hxa Q hhe
      refine wp_region_seq (fun Y => Y.cell? ⟨g, h, none⟩ = some (.int .i64 xh) ∧ Y.cell? ⟨g, m, none⟩ = some (.int .i64 xa)) (.take 0 <| .take 1 <| .take 2 <| .take 3 <| .take 4 <| .take 5 <| .take 6 <| .take 7 <| .take 8 <| .run 9 <| .take 10 <| .take 11 <| .done) (by kernel_rfl) (by kernel_rfl) (by kernel_rfl) ⟨c1, c2⟩ ?_
      repeat (first | (refine seq_take (v := ?_) rfl (by rfl) ?_ ?_; rotate_left; (focus (intro wS hS; have s0 := hS.1; have s1 := hS.2; go_simp; exact rfl)); simp only [Act.put, List.setIfInBounds_toArray, List.set_cons_zero, List.set_cons_succ]) | (refine seq_skip rfl (by rfl) ?_; simp only [Act.put, List.setIfInBounds_toArray, List.set_cons_zero, List.set_cons_succ]))
      refine seq_run rfl (by rfl) (fun K hK => ?_)
      go_simp
      refine (N1 _ (by have hq := hB.out; (repeat' (first | with_reducible assumption | with_reducible exact Below.refl _ _ | with_reducible refine Below.drew ?_ | with_reducible refine below_drewN ?_ _ | with_reducible refine Below.alloc ?_ ?_ _ | with_reducible refine Below.setCell ?_ ?_ _ | omega | (simp; done) | (simp; omega))))).mono ?_
      rintro e1 w1 ⟨rfl, mm, rfl⟩
      refine hK _ _ ⟨by simpa using c1, by simpa using c2⟩ ?_
      clear hK K N1
      repeat (first | (refine seq_take (v := ?_) rfl (by rfl) ?_ ?_; rotate_left; (focus (intro wS hS; have s0 := hS.1; have s1 := hS.2; go_simp; exact rfl)); simp only [Act.put, List.setIfInBounds_toArray, List.set_cons_zero, List.set_cons_succ]) | (refine seq_skip rfl (by rfl) ?_; simp only [Act.put, List.setIfInBounds_toArray, List.set_cons_zero, List.set_cons_succ]))
      refine seq_nil ?_
      obtain ⟨W1, hW1⟩ : ∃ W1, W1 = wr.drew.drewN mm := ⟨_, rfl⟩
      have HDW : Hid (DAt W1 g N d ∧ Below g w W1) := hide (by
        rw [hW1]
        refine ⟨hD.out.drew.drewN mm, ?_⟩
        have hq := hB.out
        (repeat' (first | with_reducible assumption | with_reducible exact Below.refl _ _ | with_reducible refine Below.drew ?_ | with_reducible refine below_drewN ?_ _ | with_reducible refine Below.alloc ?_ ?_ _ | with_reducible refine Below.setCell ?_ ?_ _ | omega | (simp; done) | (simp; omega))))
      rw [← hW1]
      clear hW1 hD hB c1 c2
      by_cases hz : z < 0
      · have z1 : decide (z < 0) = true := by simp; omega
        have HS : Hid ((i = a ∨ 0 ≤ cf (d m) (d (i - 1))) ∧ (h = m ∨ cf (d m) (d h) < 0)) := hide ⟨hs.out.1, Or.inr (by rw [HCF.out]; exact hz)⟩
        clear HCF hz hs
        rw [z1]
        clear z1
        go_wp2
        go_roundw
        case rel => exact ⟨i, h, by omega, by omega, by omega, rfl, rfl, HS, hide HDW.out.1, hide HDW.out.2⟩
        case measure => first | (simp [intOf]; done) | (simp [intOf]; omega)
      · have z1 : decide (z < 0) = false := by simp; omega
        have HS : Hid ((h + 1 = a ∨ 0 ≤ cf (d m) (d (h + 1 - 1))) ∧ (j = m ∨ cf (d m) (d j) < 0)) := hide ⟨Or.inr (by rw [Nat.add_sub_cancel, HCF.out]; omega), hs.out.2⟩
        clear HCF hz hs
        rw [z1]
        clear z1
        go_wp2
        go_roundw
        case rel => exact ⟨h + 1, j, by omega, by omega, by omega, by go_num, rfl, HS, hide HDW.out.1, hide HDW.out.2⟩
        case measure => first | (simp [intOf]; done) | (simp [intOf]; omega)
    · obtain rfl : i = j := by omega
      have d1 : decide ((i : Int) < (i : Int)) = false := by simp
      have HP : Hid (MPost cf d (rot d i m (m + 1)) a (m + 1)) := hide (ins_last H HM.out (by omega) (by omega) (hs.out.1.imp id (fun h => by omega)) hs.out.2)
      obtain ⟨wo, rfl⟩ : ∃ wo : World, wo = wr := ⟨_, rfl⟩
      clear hs
      go_wp2
      go_loopw [17] (fun y wr => ∃ k : Nat, i ≤ k ∧ k ≤ m ∧ y = .int .i64 k ∧ Hid (DAt wr g N (rot d k m (m + 1))) ∧ Hid (Below g w wr)) (fun y _ => (intOf y).toNat)
      case atStart => exact ⟨m, by omega, Nat.le_refl _, rfl, hide (by rw [rot_none (by omega) (Or.inl rfl)]; exact hD.out), hB⟩
      case round =>
        obtain ⟨k, hak, hkq, rfl, hDk, hBk⟩ := hrel
        by_cases l2 : i < k
        · obtain ⟨p, rfl⟩ : ∃ p, k = p + 1 := ⟨k - 1, by omega⟩
          have d3 : decide ((i : Int) < (p : Int) + 1) = true := by simp; omega
          have d4 : decide (i < p + 1) = true := by simp; omega
          have c1 := hDk.out.cell (p + 1) (by omega)
          have c2 := hDk.out.cell p (by omega)
          have f1 := hDk.out.free (p + 1) (by omega)
          have f2 := hDk.out.free p (by omega)
          have k1 : IntKind.i64.wrap (p : Int) = (p : Int) := IntWalk.i64_in _ (by omega)
          have k2 : IntKind.i64.wrap ((p : Int) + 1 - 1) = (p : Int) := (IntWalk.i64_in _ (by omega)).trans (by omega)
          have t1 : ((p : Int) + 1).toNat = p + 1 := by omega
          have q1 : (0 : Int) ≤ (p : Int) := by omega
          have q2 : (p : Int) < (N : Int) := by omega
          have q3 : (0 : Int) ≤ (p : Int) + 1 := by omega
          have q4 : (p : Int) + 1 < (N : Int) := by omega
          have q5 : p < N := by omega
          have q6 : p + 1 < N := by omega
          have HS : Hid (∀ X : World, X = (wr.setCell ⟨g, p + 1, none⟩ (.int .i64 (rot d (p + 1) m (m + 1) p))).setCell ⟨g, p, none⟩ (.int .i64 (rot d (p + 1) m (m + 1) (p + 1))) → DAt X.drew g N (rot d p m (m + 1)) ∧ Below g w X.drew) := hide (fun X hX => by
            subst hX
            refine ⟨by rw [← rot_down (d := d) (j := p) (i := m) (by omega)]; exact (hDk.out.swap (by omega) (by omega)).drew, ?_⟩
            have hq := hBk.out
            (repeat' (first | with_reducible assumption | with_reducible exact Below.refl _ _ | with_reducible refine Below.drew ?_ | with_reducible refine below_drewN ?_ _ | with_reducible refine Below.alloc ?_ ?_ _ | with_reducible refine Below.setCell ?_ ?_ _ | omega | (simp; done) | (simp; omega))))
          generalize rot d (p + 1) m (m + 1) p = y1 at c2 HS
          generalize rot d (p + 1) m (m + 1) (p + 1) = y2 at c1 HS
          clear hDk hBk
          go_wp2_with fail
          refine wp_region_seqm (fun Y => Y.cell? ⟨g, p + 1, none⟩ = some (.int .i64 y2) ∧ Y.cell? ⟨g, p, none⟩ = some (.int .i64 y1)) [15, 17] [0, 1, 2, 3, 4, 5, 6, 7, 8, 10, 11, 12, 14, 16] (.take 0 <| .take 1 <| .take 2 <| .take 3 <| .take 4 <| .take 5 <| .take 6 <| .take 7 <| .take 8 <| .take 9 <| .take 10 <| .take 11 <| .take 12 <| .take 13 <| .take 14 <| .run 15 <| .take 16 <| .run 17 <| .done) (by kernel_rfl) (by kernel_rfl) (by kernel_rfl) ⟨by simpa using c1, by simpa using c2⟩ ?_
          repeat (first | (refine seqm_take (v := ?_) rfl rfl (by rfl) ?_ ?_; rotate_left; (focus (intro wS hS; have s0 := hS.1; have s1 := hS.2; go_simp; exact rfl)); simp only [Act.put, List.setIfInBounds_toArray, List.set_cons_zero, List.set_cons_succ]) | (refine seqm_pure (v := ?_) rfl rfl (by rfl) ?_ ?_; rotate_left; (focus (intro wS; go_simp; exact rfl)); simp only [Act.put, List.setIfInBounds_toArray, List.set_cons_zero, List.set_cons_succ]))
          (refine seqm_late rfl rfl (by rfl) (fun K hK => ?_); go_simp; refine hK _ _ ?_; clear hK K)
          repeat (first | (refine seqm_take (v := ?_) rfl rfl (by rfl) ?_ ?_; rotate_left; (focus (intro wS hS; have s0 := hS.1; have s1 := hS.2; go_simp; exact rfl)); simp only [Act.put, List.setIfInBounds_toArray, List.set_cons_zero, List.set_cons_succ]) | (refine seqm_pure (v := ?_) rfl rfl (by rfl) ?_ ?_; rotate_left; (focus (intro wS; go_simp; exact rfl)); simp only [Act.put, List.setIfInBounds_toArray, List.set_cons_zero, List.set_cons_succ]))
          (refine seqm_late rfl rfl (by rfl) (fun K hK => ?_); go_simp; refine hK _ _ ?_; clear hK K)
          refine seqm_nil ?_
          go_wp2
          go_roundw
          case rel => exact ⟨p, by omega, by omega, by go_num, hide (HS.out _ rfl).1, hide (HS.out _ rfl).2⟩
          case measure => first | (simp [intOf]; done) | (simp [intOf]; omega)
        · obtain rfl : k = i := by omega
          have d3 : decide ((k : Int) < (k : Int)) = false := by simp
          go_wp2
          ((try simp only [Exit.inBlock, Exit.then]); refine bodyPost_ret (results_none rfl _ _ _) rfl ?_)
          exact ⟨_, ⟨⟨_, rfl⟩, hDk.out, hBk.out⟩, HP.out⟩
end Go.Proofs.YtmiimpmfkjcjlaaGreat

namespace Go.Proofs.YtmiimpmfkjcjlaaGreat
open Go.RowKit
theorem CmpV.later {cf : Int → Int → Int} {K gf B g : Nat} {w w' : World} (h : CmpV cf K gf B g w) (hb : Below g w w') : CmpV cf K gf B g w' := fun X hX => h X (hb.trans hX)
theorem MPost.into {cf : Int → Int → Int} {d e f : Nat → Int} {a b : Nat} (h : SameOn d e a b) (hp : MPost cf e f a b) : MPost cf d f a b := ⟨h.trans hp.1, hp.2⟩
set_option maxRecDepth 100000 in
set_option maxHeartbeats 16000000 in
theorem sym_any {cf : Int → Int → Int} (H : CmpOk cf) (g N K B : Nat) (hN : N ≤ 1000000) : ∀ (n a m b : Nat) (d : Nat → Int) (w : World), b - a ≤ n → DAt w g N d → Vd K N d → MPre cf d a m b → a < m → m < b → CmpV cf K 159 B g w → b ≤ N →
    Calls Tryz.prog 209 #[.slice (some ⟨g, 0, none⟩) N N, .int .i64 a, .int .i64 m, .int .i64 b, cmpF B] w (IPost cf g N d a b w) := by
  intro n
  induction n with
  | zero => intro a m b d w h; omega
  | succ n ih =>
    intro a m b d w hn hd hv hM ham hmb hC hb
    by_cases hf : m = a + 1
    · subst hf
      exact sym_first H g N K B a b d w hd hv hM hmb hC hb hN
    by_cases hl : b = m + 1
    · subst hl
      exact sym_last H g N K B a m d w hd hv hM (by omega) hC hb hN
    have he : ∀ args w, (callFunc 159 args).run Tryz.prog w = .ok (.enter 159 args) w := enter_of Tryz.func159 (by kernel_rfl) (by kernel_rfl)
    have HD := hide hd
    have HV := hide hv
    have HM := hide hM
    have HC := hide hC
    have HIH := hide ih
    have e0 : IntKind.i64.wrap ((m : Int) - (a : Int)) = (m : Int) - (a : Int) := IntWalk.i64_in _ (by omega)
    have x0 : ((m : Int) - (a : Int) == 1) = false := by simp; omega
    have e1 : IntKind.i64.wrap ((b : Int) - (m : Int)) = (b : Int) - (m : Int) := IntWalk.i64_in _ (by omega)
    have x1 : ((b : Int) - (m : Int) == 1) = false := by simp; omega
    obtain ⟨mid, hmid⟩ : ∃ mid, (a + b) / 2 = mid := ⟨_, rfl⟩
    have Q : ((a : Int) + (b : Int)) / 2 = (mid : Int) := by omega
    have e2 : IntKind.i64.wrap ((a : Int) + (b : Int)) = (a : Int) + (b : Int) := IntWalk.i64_in _ (by omega)
    obtain ⟨nn, hnn⟩ : ∃ nn, mid + m = nn := ⟨_, rfl⟩
    have e3 : IntKind.i64.wrap ((mid : Int) + (m : Int)) = (nn : Int) := (IntWalk.i64_in _ (by omega)).trans (by omega)
    obtain ⟨p, hp, hp'⟩ : ∃ p, nn ≤ p + 1 ∧ p + 1 ≤ nn := ⟨nn - 1, by omega, by omega⟩
    have e4 : IntKind.i64.wrap ((nn : Int) - 1) = (p : Int) := (IntWalk.i64_in _ (by omega)).trans (by omega)
    clear hd hv hM hC ih
    have hlh : ∃ lo hi : Nat, Hid (lo = a ∨ lo + b = nn) ∧ Hid (hi = m ∨ hi = mid) ∧ a ≤ lo ∧ lo ≤ hi ∧ hi ≤ m ∧ hi ≤ mid ∧ nn ≤ lo + b ∧ Hid ((mid < m → lo + b = nn ∧ hi = mid) ∧ (¬ mid < m → lo = a ∧ hi = m)) := by
      by_cases h : mid < m
      · exact ⟨nn - b, mid, hide (Or.inr (by omega)), hide (Or.inr rfl), by omega, by omega, by omega, Nat.le_refl _, by omega, hide ⟨fun _ => ⟨by omega, rfl⟩, fun h' => absurd h h'⟩⟩
      · exact ⟨a, m, hide (Or.inl rfl), hide (Or.inl rfl), Nat.le_refl _, by omega, Nat.le_refl _, by omega, by omega, hide ⟨fun h' => absurd h' h, fun _ => ⟨rfl, rfl⟩⟩⟩
    obtain ⟨lo, hi, HLO, HHI, hl1, hl2, hl3, hl4, hl5, HLH⟩ := hlh
    go_enter Tryz.func209, Tryz.ntmps209
    go_upto_if 140 with fail
    go_cut [20, 21] (fun x y wx => x = .int .i64 lo ∧ y = .int .i64 hi ∧ Hid (DAt wx g N d ∧ Below g w wx))
    case first =>
      by_cases hmm : mid < m
      · have e5 : IntKind.i64.wrap ((nn : Int) - (b : Int)) = (lo : Int) := (IntWalk.i64_in _ (by have := (HLH.out.1 hmm).1; omega)).trans (by have := (HLH.out.1 hmm).1; omega)
        obtain rfl : hi = mid := (HLH.out.1 hmm).2
        have d8 : decide ((hi : Int) < (m : Int)) = true := by simp; omega
        have d9 : decide (hi < m) = true := by simp; omega
        go_wp2
        go_meet
        exact ⟨rfl, rfl, hide ⟨HD.out, Below.refl _ _⟩⟩
      · obtain rfl : lo = a := (HLH.out.2 hmm).1
        obtain rfl : hi = m := (HLH.out.2 hmm).2
        have d8 : decide ((mid : Int) < (hi : Int)) = false := by simp; omega
        have d9 : decide (mid < hi) = false := by simp; omega
        go_wp2
        go_meet
        exact ⟨rfl, rfl, hide ⟨HD.out, Below.refl _ _⟩⟩
    case rest =>
      obtain ⟨rfl, rfl, hDBc⟩ := hcut
      obtain ⟨X0, rfl⟩ : ∃ X, X = wc := ⟨_, rfl⟩
      go_wp2
      go_loopw [20, 21] (fun x y wr => ∃ (s r : Nat), lo ≤ s ∧ s ≤ r ∧ r ≤ hi ∧ x = .int .i64 s ∧ y = .int .i64 r ∧ Hid ((s = lo ∨ 0 ≤ cf (d (nn - s)) (d (s - 1))) ∧ (r = hi ∨ cf (d (p - r)) (d r) < 0)) ∧ Hid (DAt wr g N d) ∧ Hid (Below g w wr)) (fun x y _ => (intOf y).toNat - (intOf x).toNat)
      case atStart => exact ⟨lo, hi, Nat.le_refl _, hl2, Nat.le_refl _, rfl, rfl, hide ⟨Or.inl rfl, Or.inl rfl⟩, hide hDBc.out.1, hide hDBc.out.2⟩
      case round =>
        obtain ⟨s, r, hls, hsr, hrh, rfl, rfl, hs, hD, hB⟩ := hrel
        by_cases l1 : s < r
        · have d1 : decide ((s : Int) < (r : Int)) = true := by simp; omega
          have d2 : decide (s < r) = true := by simp; omega
          have k1 : IntKind.i64.wrap ((s : Int) + (r : Int)) = (s : Int) + (r : Int) := IntWalk.i64_in _ (by omega)
          obtain ⟨h, hhe⟩ : ∃ h, (s + r) / 2 = h := ⟨_, rfl⟩
          have Q2 : ((s : Int) + (r : Int)) / 2 = (h : Int) := by omega
          have hh1 : s ≤ h := by omega
          have hh2 : h < r := by omega
          obtain ⟨u, hu⟩ : ∃ u, p - h = u := ⟨_, rfl⟩
          have hup : u + h = p := by omega
          have k2 : IntKind.i64.wrap ((p : Int) - (h : Int)) = (u : Int) := (IntWalk.i64_in _ (by omega)).trans (by omega)
          obtain ⟨xh, hxh, hxhK⟩ := HV.out h (by omega)
          obtain ⟨xu, hxu, hxuK⟩ := HV.out u (by omega)
          have c1 := hD.out.cell h (by omega)
          have c2 := hD.out.cell u (by omega)
          rw [hxh] at c1
          rw [hxu] at c2
          have q1 : (0 : Int) ≤ (h : Int) := by omega
          have q2 : (h : Int) < (N : Int) := by omega
          have q3 : (0 : Int) ≤ (u : Int) := by omega
          have q4 : (u : Int) < (N : Int) := by omega
          have q5 : h < N := by omega
          have q6 : u < N := by omega
          have k3 : IntKind.i64.wrap ((h : Int) + 1) = (h : Int) + 1 := IntWalk.i64_in _ (by omega)
          have N1 := fun W h => HC.out W h xu xh hxuK hxhK
          have HCF : Hid (cf (d u) (d h) = cf xu xh) := hide (by rw [hxh, hxu])
          generalize cf xu xh = zz at N1 HCF
          clear hxh hxu
          go_wp2_with fail
          refine wp_region_seq (fun Y => Y.cell? ⟨g, h, none⟩ = some (.int .i64 xh) ∧ Y.cell? ⟨g, u, none⟩ = some (.int .i64 xu)) (.take 0 <| .take 1 <| .take 2 <| .take 3 <| .take 4 <| .take 5 <| .take 6 <| .take 7 <| .take 8 <| .take 9 <| .take 10 <| .run 11 <| .take 12 <| .take 13 <| .done) (by kernel_rfl) (by kernel_rfl) (by kernel_rfl) ⟨c1, c2⟩ ?_
          repeat (first | (refine seq_take (v := ?_) rfl (by rfl) ?_ ?_; rotate_left; (focus (intro wS hS; have s0 := hS.1; have s1 := hS.2; go_simp; exact rfl)); simp only [Act.put, List.setIfInBounds_toArray, List.set_cons_zero, List.set_cons_succ]) | (refine seq_skip rfl (by rfl) ?_; simp only [Act.put, List.setIfInBounds_toArray, List.set_cons_zero, List.set_cons_succ]))
          refine seq_run rfl (by rfl) (fun K hK => ?_)
          go_simp
          refine (N1 _ (by have hq := hB.out; (repeat' (first | with_reducible assumption | with_reducible exact Below.refl _ _ | with_reducible refine Below.drew ?_ | with_reducible refine below_drewN ?_ _ | with_reducible refine Below.alloc ?_ ?_ _ | with_reducible refine Below.setCell ?_ ?_ _ | omega | (simp; done) | (simp; omega))))).mono ?_
          rintro e1 w1 ⟨rfl, mm, rfl⟩
          refine hK _ _ ⟨by simpa using c1, by simpa using c2⟩ ?_
          clear hK K N1
          repeat (first | (refine seq_take (v := ?_) rfl (by rfl) ?_ ?_; rotate_left; (focus (intro wS hS; have s0 := hS.1; have s1 := hS.2; go_simp; exact rfl)); simp only [Act.put, List.setIfInBounds_toArray, List.set_cons_zero, List.set_cons_succ]) | (refine seq_skip rfl (by rfl) ?_; simp only [Act.put, List.setIfInBounds_toArray, List.set_cons_zero, List.set_cons_succ]))
          refine seq_nil ?_
          obtain ⟨W1, hW1⟩ : ∃ W1, W1 = wr.drew.drewN mm := ⟨_, rfl⟩
          have HDW : Hid (DAt W1 g N d ∧ Below g w W1) := hide (by
            rw [hW1]
            refine ⟨hD.out.drew.drewN mm, ?_⟩
            have hq := hB.out
            (repeat' (first | with_reducible assumption | with_reducible exact Below.refl _ _ | with_reducible refine Below.drew ?_ | with_reducible refine below_drewN ?_ _ | with_reducible refine Below.alloc ?_ ?_ _ | with_reducible refine Below.setCell ?_ ?_ _ | omega | (simp; done) | (simp; omega))))
          rw [← hW1]
          clear hW1 hD hB c1 c2
          by_cases hz : zz < 0
          · have z1 : decide (zz < 0) = true := by simp; omega
            have HS : Hid ((s = lo ∨ 0 ≤ cf (d (nn - s)) (d (s - 1))) ∧ (h = hi ∨ cf (d (p - h)) (d h) < 0)) := hide ⟨hs.out.1, Or.inr (by rw [hu, HCF.out]; exact hz)⟩
            clear HCF hz hs
            rw [z1]
            clear z1
            go_wp2
            go_roundw
            case rel => exact ⟨s, h, by omega, by omega, by omega, rfl, rfl, HS, hide HDW.out.1, hide HDW.out.2⟩
            case measure => first | (simp [intOf]; done) | (simp [intOf]; omega)
          · have z1 : decide (zz < 0) = false := by simp; omega
            have HS : Hid ((h + 1 = lo ∨ 0 ≤ cf (d (nn - (h + 1))) (d (h + 1 - 1))) ∧ (r = hi ∨ cf (d (p - r)) (d r) < 0)) := hide ⟨Or.inr (by rw [Nat.add_sub_cancel, show nn - (h + 1) = u from by omega, HCF.out]; omega), hs.out.2⟩
            clear HCF hz hs
            rw [z1]
            clear z1
            go_wp2
            go_roundw
            case rel => exact ⟨h + 1, r, by omega, by omega, by omega, by go_num, rfl, HS, hide HDW.out.1, hide HDW.out.2⟩
            case measure => first | (simp [intOf]; done) | (simp [intOf]; omega)
        · obtain rfl : s = r := by omega
          have d1 : decide ((s : Int) < (s : Int)) = false := by simp
          obtain ⟨z, hz⟩ : ∃ z, nn - s = z := ⟨_, rfl⟩
          have hzs : z + s = nn := by omega
          have k5 : IntKind.i64.wrap ((nn : Int) - (s : Int)) = (z : Int) := (IntWalk.i64_in _ (by omega)).trans (by omega)
          have zf1 : a ≤ s := by omega
          have zf2 : s ≤ m := by omega
          have zf3 : m ≤ z := by omega
          have zf4 : z ≤ b := by omega
          have zf5 : s + (z - m) = mid := by omega
          have b1' : s = a ∨ z = b ∨ ¬ cf (d z) (d (s - 1)) < 0 := hs.out.1.elim (fun h => HLO.out.elim (fun h' => Or.inl (by omega)) (fun h' => Or.inr (Or.inl (by omega)))) (fun h => by rw [hz] at h; exact Or.inr (Or.inr (by omega)))
          have b2' : s = m ∨ z = m ∨ cf (d (z - 1)) (d s) < 0 := hs.out.2.elim (fun h => HHI.out.elim (fun h' => Or.inl (by omega)) (fun h' => Or.inr (Or.inl (by omega)))) (fun h => by rw [show p - s = z - 1 from by omega] at h; exact Or.inr (Or.inr h))
          have HCUT := hide (sym_cut H HM.out zf1 zf2 zf3 zf4 zf5 b1' b2')
          clear b1' b2'
          have HMA := hide HCUT.out.1
          have HMB := hide HCUT.out.2.1
          have HLT := hide HCUT.out.2.2.1
          have HSO := hide HCUT.out.2.2.2
          have HVR : Hid (Vd K N (rot d s m z)) := hide (HV.out.same HSO.out (by omega))
          clear HCUT hs hz
          go_upto_region 39 with fail
          go_cut [185] (fun v wx => v = .bool (decide (s < m) && decide (m < z)) ∧ Hid (DAt wx g N d ∧ Below g w wx))
          case first =>
            as_aux_lemma =>
              have HDB := hide (And.intro hD.out hB.out)
              by_cases u1 : s < m
              · have g1 : decide ((s : Int) < (m : Int)) = true := by simp; omega
                have g2 : decide (s < m) = true := by simp; omega
                by_cases u2 : m < z
                · have g3 : decide ((m : Int) < (z : Int)) = true := by simp; omega
                  have g4 : decide (m < z) = true := by simp; omega
                  go_wp2
                  go_meet
                  exact ⟨by rw [g2, g4]; rfl, HDB⟩
                · have g3 : decide ((m : Int) < (z : Int)) = false := by simp; omega
                  have g4 : decide (m < z) = false := by simp; omega
                  go_wp2
                  go_meet
                  exact ⟨by rw [g2, g4]; rfl, HDB⟩
              · have g1 : decide ((s : Int) < (m : Int)) = false := by simp; omega
                have g2 : decide (s < m) = false := by simp; omega
                go_wp2
                go_meet
                exact ⟨by rw [g2]; rfl, HDB⟩
          case rest =>
            obtain ⟨rfl, hDB⟩ := hcut
            obtain ⟨X1, rfl⟩ : ∃ X, X = wc := ⟨_, rfl⟩
            obtain ⟨c1, hc1⟩ : ∃ c, (decide (s < m) && decide (m < z)) = c := ⟨_, rfl⟩
            rw [hc1]
            have HC1 := hide hc1
            clear hc1 hD hB
            go_upto_if 185 with fail
            go_cut [] (fun wx => Hid (DAt wx g N (rot d s m z) ∧ Below g w wx))
            case first =>
              as_aux_lemma =>
                cases c1
                · have HX : Hid (DAt X1 g N (rot d s m z) ∧ Below g w X1) := hide (by
                    have h := HC1.out
                    refine ⟨?_, hDB.out.2⟩
                    rw [rot_none ⟨zf2, zf3⟩ ?_]
                    · exact hDB.out.1
                    · rcases Nat.lt_or_ge s m with h1 | h1
                      · rcases Nat.lt_or_ge m z with h2 | h2
                        · simp [h1, h2] at h
                        · exact Or.inr (by omega)
                      · exact Or.inl (by omega))
                  go_wp2
                  go_meet
                  exact HX
                · have hu : s < m ∧ m < z := by have h := HC1.out; simpa using h
                  have N3 := fun W h => rotate_any g N s m z (cmpF B) d W h hu.1 hu.2 (by omega) hN
                  clear hu
                  go_wp2_with fail
                  refine (N3 _ hDB.out.1).mono ?_
                  rintro e3 w3 ⟨⟨v3, rfl⟩, hd3, hb3⟩
                  have HX : Hid (DAt w3 g N (rot d s m z) ∧ Below g w w3) := hide ⟨hd3, hDB.out.2.trans (hb3.mono (Nat.le_refl _))⟩
                  clear hd3 hb3 N3
                  go_wp2
                  go_meet
                  exact HX
            case rest =>
              have HX := hcut
              obtain ⟨X2, rfl⟩ : ∃ X, X = wc := ⟨_, rfl⟩
              clear hcut hDB HC1
              go_upto_region 41 with fail
              go_cut [199] (fun v wx => v = .bool (decide (a < s) && decide (s < mid)) ∧ Hid (DAt wx g N (rot d s m z) ∧ Below g w wx))
              case first =>
                as_aux_lemma =>
                  by_cases u1 : a < s
                  · have g1 : decide ((a : Int) < (s : Int)) = true := by simp; omega
                    have g2 : decide (a < s) = true := by simp; omega
                    by_cases u2 : s < mid
                    · have g3 : decide ((s : Int) < (mid : Int)) = true := by simp; omega
                      have g4 : decide (s < mid) = true := by simp; omega
                      go_wp2
                      go_meet
                      exact ⟨by rw [g2, g4]; rfl, HX⟩
                    · have g3 : decide ((s : Int) < (mid : Int)) = false := by simp; omega
                      have g4 : decide (s < mid) = false := by simp; omega
                      go_wp2
                      go_meet
                      exact ⟨by rw [g2, g4]; rfl, HX⟩
                  · have g1 : decide ((a : Int) < (s : Int)) = false := by simp; omega
                    have g2 : decide (a < s) = false := by simp; omega
                    go_wp2
                    go_meet
                    exact ⟨by rw [g2]; rfl, HX⟩
              case rest =>
                obtain ⟨rfl, hX3⟩ := hcut
                obtain ⟨X3, rfl⟩ : ∃ X, X = wc := ⟨_, rfl⟩
                obtain ⟨c2, hc2⟩ : ∃ c, (decide (a < s) && decide (s < mid)) = c := ⟨_, rfl⟩
                rw [hc2]
                have HC2 := hide hc2
                clear hc2 HX
                go_upto_if 199 with fail
                go_cut [] (fun wx => Hid (∃ f1, DAt wx g N f1 ∧ Below g w wx ∧ MPost cf (rot d s m z) f1 a mid))
                case first =>
                  as_aux_lemma =>
                    cases c2
                    · have H1 : Hid (∃ f1, DAt X3 g N f1 ∧ Below g w X3 ∧ MPost cf (rot d s m z) f1 a mid) := hide (by
                        have h := HC2.out
                        refine ⟨_, hX3.out.1, hX3.out.2, MPost.triv (MPre.triv HMA.out ?_)⟩
                        rcases Nat.lt_or_ge a s with h1 | h1
                        · rcases Nat.lt_or_ge s mid with h2 | h2
                          · simp [h1, h2] at h
                          · exact Or.inr h2
                        · exact Or.inl h1)
                      go_wp2
                      go_meet
                      exact H1
                    · have hu : a < s ∧ s < mid := by have h := HC2.out; simpa using h
                      have N4 := fun W h1 h2 => HIH.out a s mid (rot d s m z) W (by omega) h1 HVR.out HMA.out hu.1 hu.2 h2 (by omega)
                      clear hu
                      go_wp2_with fail
                      refine (N4 _ hX3.out.1 (HC.out.later hX3.out.2)).mono ?_
                      rintro e4 w4 ⟨f1, ⟨⟨v4, rfl⟩, hd4, hb4⟩, hp4⟩
                      have H1 : Hid (∃ f1, DAt w4 g N f1 ∧ Below g w w4 ∧ MPost cf (rot d s m z) f1 a mid) := hide ⟨f1, hd4, hX3.out.2.trans hb4, hp4⟩
                      clear hd4 hb4 hp4 N4
                      go_wp2
                      go_meet
                      exact H1
                case rest =>
                  obtain ⟨f1, hX4⟩ := hcut.out
                  have HX4 := hide hX4
                  obtain ⟨X4, rfl⟩ : ∃ X, X = wc := ⟨_, rfl⟩
                  clear hcut hX4 hX3 HC2
                  have HM2 : Hid (MPre cf f1 mid z b) := hide (HMB.out.of_eq (fun k h1 h2 => HX4.out.2.2.1.1 k (Or.inr h1)))
                  go_upto_region 43 with fail
                  go_cut [213] (fun v wx => v = .bool (decide (mid < z) && decide (z < b)) ∧ Hid (DAt wx g N f1 ∧ Below g w wx ∧ MPost cf (rot d s m z) f1 a mid))
                  case first =>
                    as_aux_lemma =>
                      by_cases u1 : mid < z
                      · have g1 : decide ((mid : Int) < (z : Int)) = true := by simp; omega
                        have g2 : decide (mid < z) = true := by simp; omega
                        by_cases u2 : z < b
                        · have g3 : decide ((z : Int) < (b : Int)) = true := by simp; omega
                          have g4 : decide (z < b) = true := by simp; omega
                          go_wp2
                          go_meet
                          exact ⟨by rw [g2, g4]; rfl, HX4⟩
                        · have g3 : decide ((z : Int) < (b : Int)) = false := by simp; omega
                          have g4 : decide (z < b) = false := by simp; omega
                          go_wp2
                          go_meet
                          exact ⟨by rw [g2, g4]; rfl, HX4⟩
                      · have g1 : decide ((mid : Int) < (z : Int)) = false := by simp; omega
                        have g2 : decide (mid < z) = false := by simp; omega
                        go_wp2
                        go_meet
                        exact ⟨by rw [g2]; rfl, HX4⟩
                  case rest =>
                    as_aux_lemma =>
                      obtain ⟨rfl, hX5⟩ := hcut
                      obtain ⟨X5, rfl⟩ : ∃ X, X = wc := ⟨_, rfl⟩
                      obtain ⟨c3, hc3⟩ : ∃ c, (decide (mid < z) && decide (z < b)) = c := ⟨_, rfl⟩
                      rw [hc3]
                      have HC3 := hide hc3
                      clear hc3 HX4
                      cases c3
                      · have HF : Hid (IPost cf g N d a b w (.returned (.tuple #[])) X5) := hide (by
                          have h := HC3.out
                          refine ⟨f1, ⟨⟨_, rfl⟩, hX5.out.1, hX5.out.2.1⟩, MPost.into HSO.out (sym_join (by omega) (by omega) HLT.out hX5.out.2.2 (MPost.triv (MPre.triv HM2.out ?_)))⟩
                          rcases Nat.lt_or_ge mid z with h1 | h1
                          · rcases Nat.lt_or_ge z b with h2 | h2
                            · simp [h1, h2] at h
                            · exact Or.inr h2
                          · exact Or.inl h1)
                        go_wp2
                        ((try simp only [Exit.inBlock, Exit.then]); refine bodyPost_ret (results_none rfl _ _ _) rfl ?_)
                        exact HF
                      · have hu : mid < z ∧ z < b := by have h := HC3.out; simpa using h
                        have N5 := fun W h1 h2 => HIH.out mid z b f1 W (by omega) h1 (HVR.out.same hX5.out.2.2.1 (by omega)) HM2.out hu.1 hu.2 h2 (by omega)
                        clear hu
                        go_wp2_with fail
                        refine (N5 _ hX5.out.1 (HC.out.later hX5.out.2.1)).mono ?_
                        rintro e5 w5 ⟨f5, ⟨⟨v5, rfl⟩, hd5, hb5⟩, hp5⟩
                        have HF : Hid (IPost cf g N d a b w (.returned (.tuple #[])) w5) := hide ⟨f5, ⟨⟨_, rfl⟩, hd5, hX5.out.2.1.trans hb5⟩, MPost.into HSO.out (sym_join (by omega) (by omega) HLT.out hX5.out.2.2 hp5)⟩
                        clear hd5 hb5 hp5 N5
                        go_wp2
                        ((try simp only [Exit.inBlock, Exit.then]); refine bodyPost_ret (results_none rfl _ _ _) rfl ?_)
                        exact HF
end Go.Proofs.YtmiimpmfkjcjlaaGreat
