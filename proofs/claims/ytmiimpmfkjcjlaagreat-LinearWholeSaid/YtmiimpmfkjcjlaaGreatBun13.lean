import Derived.Test.YtmiimpmfkjcjlaaGreatBun12
import Derived.Deep.DeepCutAuto
import Derived.Test.YtmiimpmfkjcjlaaGreatBun1
import Derived.Test.YtmiimpmfkjcjlaaGreatBun5
import Derived.Deep.OwnRows
namespace Go.Proofs.YtmiimpmfkjcjlaaGreat
open Go.RowKit
theorem CmpV.later {cf : Int → Int → Int} {K gf B g : Nat} {w w' : World} (h : CmpV cf K gf B g w) (hb : Below g w w') : CmpV cf K gf B g w' := fun X hX => h X (hb.trans hX)
theorem MPost.into {cf : Int → Int → Int} {d e f : Nat → Int} {a b : Nat} (h : SameOn d e a b) (hp : MPost cf e f a b) : MPost cf d f a b := ⟨h.trans hp.1, hp.2⟩
set_option maxRecDepth 100000 in
set_option maxHeartbeats 16000000 in
theorem sym_any {cf : Int → Int → Int} (H : CmpOk cf) (g N K B : Nat) (hN : N ≤ 1000000) : ∀ (n a m b : Nat) (d : Nat → Int) (w : World), b - a ≤ n → DAt w g N d → Vd K N d → MPre cf d a m b → a < m → m < b → CmpV cf K 159 B g w → b ≤ N →
    Calls Tryz.prog 209 #[.slice (some ⟨g, 0, none⟩) N N, .int .i64 a, .int .i64 m, .int .i64 b, cmpF B] w (IPost cf g N d a b w) := by
  intro n
  induction n with
  | zero => intro a m b d w h; omega
  | succ n ih =>
    intro a m b d w hn hd hv hM ham hmb hC hb
    by_cases hf : m = a + 1
    · subst hf
      exact sym_first H g N K B a b d w hd hv hM hmb hC hb hN
    by_cases hl : b = m + 1
    · subst hl
      exact sym_last H g N K B a m d w hd hv hM (by omega) hC hb hN
    have he : ∀ args w, (callFunc 159 args).run Tryz.prog w = .ok (.enter 159 args) w := enter_of Tryz.func159 (by kernel_rfl) (by kernel_rfl)
    have HD := hide hd
    have HV := hide hv
    have HM := hide hM
    have HC := hide hC
    have HIH := hide ih
    have e0 : IntKind.i64.wrap ((m : Int) - (a : Int)) = (m : Int) - (a : Int) := IntWalk.i64_in _ (by omega)
    have x0 : ((m : Int) - (a : Int) == 1) = false := by simp; omega
    have e1 : IntKind.i64.wrap ((b : Int) - (m : Int)) = (b : Int) - (m : Int) := IntWalk.i64_in _ (by omega)
    have x1 : ((b : Int) - (m : Int) == 1) = false := by simp; omega
    obtain ⟨mid, hmid⟩ : ∃ mid, (a + b) / 2 = mid := ⟨_, rfl⟩
    have Q : ((a : Int) + (b : Int)) / 2 = (mid : Int) := by omega
    have e2 : IntKind.i64.wrap ((a : Int) + (b : Int)) = (a : Int) + (b : Int) := IntWalk.i64_in _ (by omega)
    obtain ⟨nn, hnn⟩ : ∃ nn, mid + m = nn := ⟨_, rfl⟩
    have e3 : IntKind.i64.wrap ((mid : Int) + (m : Int)) = (nn : Int) := (IntWalk.i64_in _ (by omega)).trans (by omega)
    obtain ⟨p, hp, hp'⟩ : ∃ p, nn ≤ p + 1 ∧ p + 1 ≤ nn := ⟨nn - 1, by omega, by omega⟩
    have e4 : IntKind.i64.wrap ((nn : Int) - 1) = (p : Int) := (IntWalk.i64_in _ (by omega)).trans (by omega)
    clear hd hv hM hC ih
    have hlh : ∃ lo hi : Nat, Hid (lo = a ∨ lo + b = nn) ∧ Hid (hi = m ∨ hi = mid) ∧ a ≤ lo ∧ lo ≤ hi ∧ hi ≤ m ∧ hi ≤ mid ∧ nn ≤ lo + b ∧ Hid ((mid < m → lo + b = nn ∧ hi = mid) ∧ (¬ mid < m → lo = a ∧ hi = m)) := by
      by_cases h : mid < m
      · exact ⟨nn - b, mid, hide (Or.inr (by omega)), hide (Or.inr rfl), by omega, by omega, by omega, Nat.le_refl _, by omega, hide ⟨fun _ => ⟨by omega, rfl⟩, fun h' => absurd h h'⟩⟩
      · exact ⟨a, m, hide (Or.inl rfl), hide (Or.inl rfl), Nat.le_refl _, by omega, Nat.le_refl _, by omega, by omega, hide ⟨fun h' => absurd h' h, fun _ => ⟨rfl, rfl⟩⟩⟩
    obtain ⟨lo, hi, HLO, HHI, hl1, hl2, hl3, hl4, hl5, HLH⟩ := hlh
    go_enter Tryz.func209, Tryz.ntmps209
    go_upto_if 140 with fail
    go_cut [20, 21] (fun x y wx => x = .int .i64 lo ∧ y = .int .i64 hi ∧ Hid (DAt wx g N d ∧ Below g w wx))
    case first =>
      by_cases hmm : mid < m
      · have e5 : IntKind.i64.wrap ((nn : Int) - (b : Int)) = (lo : Int) := (IntWalk.i64_in _ (by have := (HLH.out.1 hmm).1; omega)).trans (by have := (HLH.out.1 hmm).1; omega)
        obtain rfl : hi = mid := (HLH.out.1 hmm).2
        have d8 : decide ((hi : Int) < (m : Int)) = true := by simp; omega
        have d9 : decide (hi < m) = true := by simp; omega
        go_wp2
        go_meet
        exact ⟨rfl, rfl, hide ⟨HD.out, Below.refl _ _⟩⟩
      · obtain rfl : lo = a := (HLH.out.2 hmm).1
        obtain rfl : hi = m := (HLH.out.2 hmm).2
        have d8 : decide ((mid : Int) < (hi : Int)) = false := by simp; omega
        have d9 : decide (mid < hi) = false := by simp; omega
        go_wp2
        go_meet
        exact ⟨rfl, rfl, hide ⟨HD.out, Below.refl _ _⟩⟩
    case rest =>
      obtain ⟨rfl, rfl, hDBc⟩ := hcut
      obtain ⟨X0, rfl⟩ : ∃ X, X = wc := ⟨_, rfl⟩
      go_wp2
      go_loopw [20, 21] (fun x y wr => ∃ (s r : Nat), lo ≤ s ∧ s ≤ r ∧ r ≤ hi ∧ x = .int .i64 s ∧ y = .int .i64 r ∧ Hid ((s = lo ∨ 0 ≤ cf (d (nn - s)) (d (s - 1))) ∧ (r = hi ∨ cf (d (p - r)) (d r) < 0)) ∧ Hid (DAt wr g N d) ∧ Hid (Below g w wr)) (fun x y _ => (intOf y).toNat - (intOf x).toNat)
      case atStart => exact ⟨lo, hi, Nat.le_refl _, hl2, Nat.le_refl _, rfl, rfl, hide ⟨Or.inl rfl, Or.inl rfl⟩, hide hDBc.out.1, hide hDBc.out.2⟩
      case round =>
        obtain ⟨s, r, hls, hsr, hrh, rfl, rfl, hs, hD, hB⟩ := hrel
        by_cases l1 : s < r
        · have d1 : decide ((s : Int) < (r : Int)) = true := by simp; omega
          have d2 : decide (s < r) = true := by simp; omega
          have k1 : IntKind.i64.wrap ((s : Int) + (r : Int)) = (s : Int) + (r : Int) := IntWalk.i64_in _ (by omega)
          obtain ⟨h, hhe⟩ : ∃ h, (s + r) / 2 = h := ⟨_, rfl⟩
          have Q2 : ((s : Int) + (r : Int)) / 2 = (h : Int) := by omega
          have hh1 : s ≤ h := by omega
          have hh2 : h < r := by omega
          obtain ⟨u, hu⟩ : ∃ u, p - h = u := ⟨_, rfl⟩
          have hup : u + h = p := by omega
          have k2 : IntKind.i64.wrap ((p : Int) - (h : Int)) = (u : Int) := (IntWalk.i64_in _ (by omega)).trans (by omega)
          obtain ⟨xh, hxh, hxhK⟩ := HV.out h (by omega)
          obtain ⟨xu, hxu, hxuK⟩ := HV.out u (by omega)
          have c1 := hD.out.cell h (by omega)
          have c2 := hD.out.cell u (by omega)
          rw [hxh] at c1
          rw [hxu] at c2
          have q1 : (0 : Int) ≤ (h : Int) := by omega
          have q2 : (h : Int) < (N : Int) := by omega
          have q3 : (0 : Int) ≤ (u : Int) := by omega
          have q4 : (u : Int) < (N : Int) := by omega
          have q5 : h < N := by omega
          have q6 : u < N := by omega
          have k3 : IntKind.i64.wrap ((h : Int) + 1) = (h : Int) + 1 := IntWalk.i64_in _ (by omega)
          have N1 := fun W h => HC.out W h xu xh hxuK hxhK
          have HCF : Hid (cf (d u) (d h) = cf xu xh) := hide (by rw [hxh, hxu])
          generalize cf xu xh = zz at N1 HCF
          clear hxh hxu
          go_wp2_with fail
          refine wp_region_seq (fun Y => Y.cell? ⟨g, h, none⟩ = some (.int .i64 xh) ∧ Y.cell? ⟨g, u, none⟩ = some (.int .i64 xu)) (.take 0 <| .take 1 <| .take 2 <| .take 3 <| .take 4 <| .take 5 <| .take 6 <| .take 7 <| .take 8 <| .take 9 <| .take 10 <| .run 11 <| .take 12 <| .take 13 <| .done) (by kernel_rfl) (by kernel_rfl) (by kernel_rfl) ⟨c1, c2⟩ ?_
          repeat (first | (refine seq_take (v := ?_) rfl (by rfl) ?_ ?_; rotate_left; (focus (intro wS hS; have s0 := hS.1; have s1 := hS.2; go_simp; exact rfl)); simp only [Act.put, sqA, sqB, sqC]) | (refine seq_skip rfl (by rfl) ?_; simp only [Act.put, sqA, sqB, sqC]))
          refine seq_run rfl (by rfl) (fun K hK => ?_)
          go_simp
          refine (N1 _ (by have hq := hB.out; (repeat' (first | with_reducible (first | assumption | exact Below.refl _ _ | refine Below.drew ?_ | refine below_drewN ?_ _ | refine Below.alloc ?_ ?_ _ | refine Below.setCell ?_ ?_ _) | omega | (simp; done) | (simp; omega))))).mono ?_
          rintro e1 w1 ⟨rfl, mm, rfl⟩
          refine hK _ _ ⟨by simpa using c1, by simpa using c2⟩ ?_
          clear hK K N1
          repeat (first | (refine seq_take (v := ?_) rfl (by rfl) ?_ ?_; rotate_left; (focus (intro wS hS; have s0 := hS.1; have s1 := hS.2; go_simp; exact rfl)); simp only [Act.put, sqA, sqB, sqC]) | (refine seq_skip rfl (by rfl) ?_; simp only [Act.put, sqA, sqB, sqC]))
          refine seq_nil ?_
          obtain ⟨W1, hW1⟩ : ∃ W1, W1 = wr.drew.drewN mm := ⟨_, rfl⟩
          have HDW : Hid (DAt W1 g N d ∧ Below g w W1) := hide (by
            rw [hW1]
            refine ⟨hD.out.drew.drewN mm, ?_⟩
            have hq := hB.out
            (repeat' (first | with_reducible (first | assumption | exact Below.refl _ _ | refine Below.drew ?_ | refine below_drewN ?_ _ | refine Below.alloc ?_ ?_ _ | refine Below.setCell ?_ ?_ _) | omega | (simp; done) | (simp; omega))))
          rw [← hW1]
          clear hW1 hD hB c1 c2
          by_cases hz : zz < 0
          · have z1 : decide (zz < 0) = true := by simp; omega
            have HS : Hid ((s = lo ∨ 0 ≤ cf (d (nn - s)) (d (s - 1))) ∧ (h = hi ∨ cf (d (p - h)) (d h) < 0)) := hide ⟨hs.out.1, Or.inr (by rw [hu, HCF.out]; exact hz)⟩
            clear HCF hz hs
            rw [z1]
            clear z1
            go_wp2
            go_roundw
            case rel => exact ⟨s, h, by omega, by omega, by omega, rfl, rfl, HS, hide HDW.out.1, hide HDW.out.2⟩
            case measure => simp [intOf] <;> omega
          · have z1 : decide (zz < 0) = false := by simp; omega
            have HS : Hid ((h + 1 = lo ∨ 0 ≤ cf (d (nn - (h + 1))) (d (h + 1 - 1))) ∧ (r = hi ∨ cf (d (p - r)) (d r) < 0)) := hide ⟨Or.inr (by rw [Nat.add_sub_cancel, show nn - (h + 1) = u from by omega, HCF.out]; omega), hs.out.2⟩
            clear HCF hz hs
            rw [z1]
            clear z1
            go_wp2
            go_roundw
            case rel => exact ⟨h + 1, r, by omega, by omega, by omega, by go_num, rfl, HS, hide HDW.out.1, hide HDW.out.2⟩
            case measure => simp [intOf] <;> omega
        · obtain rfl : s = r := by omega
          have d1 : decide ((s : Int) < (s : Int)) = false := by simp
          obtain ⟨z, hz⟩ : ∃ z, nn - s = z := ⟨_, rfl⟩
          have hzs : z + s = nn := by omega
          have k5 : IntKind.i64.wrap ((nn : Int) - (s : Int)) = (z : Int) := (IntWalk.i64_in _ (by omega)).trans (by omega)
          have zf1 : a ≤ s := by omega
          have zf2 : s ≤ m := by omega
          have zf3 : m ≤ z := by omega
          have zf4 : z ≤ b := by omega
          have zf5 : s + (z - m) = mid := by omega
          have b1' : s = a ∨ z = b ∨ ¬ cf (d z) (d (s - 1)) < 0 := hs.out.1.elim (fun h => HLO.out.elim (fun h' => Or.inl (by omega)) (fun h' => Or.inr (Or.inl (by omega)))) (fun h => by rw [hz] at h; exact Or.inr (Or.inr (by omega)))
          have b2' : s = m ∨ z = m ∨ cf (d (z - 1)) (d s) < 0 := hs.out.2.elim (fun h => HHI.out.elim (fun h' => Or.inl (by omega)) (fun h' => Or.inr (Or.inl (by omega)))) (fun h => by rw [show p - s = z - 1 from by omega] at h; exact Or.inr (Or.inr h))
          have HCUT := hide (sym_cut H HM.out zf1 zf2 zf3 zf4 zf5 b1' b2')
          clear b1' b2'
          have HMA := hide HCUT.out.1
          have HMB := hide HCUT.out.2.1
          have HLT := hide HCUT.out.2.2.1
          have HSO := hide HCUT.out.2.2.2
          have HVR : Hid (Vd K N (rot d s m z)) := hide (HV.out.same HSO.out (by omega))
          clear HCUT hs hz
          go_upto_region 39 with fail
          go_cut [185] (fun v wx => v = .bool (decide (s < m) && decide (m < z)) ∧ Hid (DAt wx g N d ∧ Below g w wx))
          case first =>
            as_aux_lemma =>
              have HDB := hide (And.intro hD.out hB.out)
              by_cases u1 : s < m
              · have g1 : decide ((s : Int) < (m : Int)) = true := by simp; omega
                have g2 : decide (s < m) = true := by simp; omega
                by_cases u2 : m < z
                · have g3 : decide ((m : Int) < (z : Int)) = true := by simp; omega
                  have g4 : decide (m < z) = true := by simp; omega
                  go_wp2
                  go_meet
                  exact ⟨by rw [g2, g4]; rfl, HDB⟩
                · have g3 : decide ((m : Int) < (z : Int)) = false := by simp; omega
                  have g4 : decide (m < z) = false := by simp; omega
                  go_wp2
                  go_meet
                  exact ⟨by rw [g2, g4]; rfl, HDB⟩
              · have g1 : decide ((s : Int) < (m : Int)) = false := by simp; omega
                have g2 : decide (s < m) = false := by simp; omega
                go_wp2
                go_meet
                exact ⟨by rw [g2]; rfl, HDB⟩
          case rest =>
            obtain ⟨rfl, hDB⟩ := hcut
            obtain ⟨X1, rfl⟩ : ∃ X, X = wc := ⟨_, rfl⟩
            obtain ⟨c1, hc1⟩ : ∃ c, (decide (s < m) && decide (m < z)) = c := ⟨_, rfl⟩
            rw [hc1]
            have HC1 := hide hc1
            clear hc1 hD hB
            go_upto_if 185 with fail
            go_cut [] (fun wx => Hid (DAt wx g N (rot d s m z) ∧ Below g w wx))
            case first =>
              as_aux_lemma =>
                cases c1
                · have HX : Hid (DAt X1 g N (rot d s m z) ∧ Below g w X1) := hide (by
                    have h := HC1.out
                    refine ⟨?_, hDB.out.2⟩
                    rw [rot_none ⟨zf2, zf3⟩ ?_]
                    · exact hDB.out.1
                    · rcases Nat.lt_or_ge s m with h1 | h1
                      · rcases Nat.lt_or_ge m z with h2 | h2
                        · simp [h1, h2] at h
                        · exact Or.inr (by omega)
                      · exact Or.inl (by omega))
                  go_wp2
                  go_meet
                  exact HX
                · have hu : s < m ∧ m < z := by have h := HC1.out; simpa using h
                  have N3 := fun W h => rotate_any g N s m z (cmpF B) d W h hu.1 hu.2 (by omega) hN
                  clear hu
                  go_wp2_with fail
                  refine (N3 _ hDB.out.1).mono ?_
                  rintro e3 w3 ⟨⟨v3, rfl⟩, hd3, hb3⟩
                  have HX : Hid (DAt w3 g N (rot d s m z) ∧ Below g w w3) := hide ⟨hd3, hDB.out.2.trans (hb3.mono (Nat.le_refl _))⟩
                  clear hd3 hb3 N3
                  go_wp2
                  go_meet
                  exact HX
            case rest =>
              have HX := hcut
              obtain ⟨X2, rfl⟩ : ∃ X, X = wc := ⟨_, rfl⟩
              clear hcut hDB HC1
              go_upto_region 41 with fail
              go_cut [199] (fun v wx => v = .bool (decide (a < s) && decide (s < mid)) ∧ Hid (DAt wx g N (rot d s m z) ∧ Below g w wx))
              case first =>
                as_aux_lemma =>
                  by_cases u1 : a < s
                  · have g1 : decide ((a : Int) < (s : Int)) = true := by simp; omega
                    have g2 : decide (a < s) = true := by simp; omega
                    by_cases u2 : s < mid
                    · have g3 : decide ((s : Int) < (mid : Int)) = true := by simp; omega
                      have g4 : decide (s < mid) = true := by simp; omega
                      go_wp2
                      go_meet
                      exact ⟨by rw [g2, g4]; rfl, HX⟩
                    · have g3 : decide ((s : Int) < (mid : Int)) = false := by simp; omega
                      have g4 : decide (s < mid) = false := by simp; omega
                      go_wp2
                      go_meet
                      exact ⟨by rw [g2, g4]; rfl, HX⟩
                  · have g1 : decide ((a : Int) < (s : Int)) = false := by simp; omega
                    have g2 : decide (a < s) = false := by simp; omega
                    go_wp2
                    go_meet
                    exact ⟨by rw [g2]; rfl, HX⟩
              case rest =>
                obtain ⟨rfl, hX3⟩ := hcut
                obtain ⟨X3, rfl⟩ : ∃ X, X = wc := ⟨_, rfl⟩
                obtain ⟨c2, hc2⟩ : ∃ c, (decide (a < s) && decide (s < mid)) = c := ⟨_, rfl⟩
                rw [hc2]
                have HC2 := hide hc2
                clear hc2 HX
                go_upto_if 199 with fail
                go_cut [] (fun wx => Hid (∃ f1, DAt wx g N f1 ∧ Below g w wx ∧ MPost cf (rot d s m z) f1 a mid))
                case first =>
                  as_aux_lemma =>
                    cases c2
                    · have H1 : Hid (∃ f1, DAt X3 g N f1 ∧ Below g w X3 ∧ MPost cf (rot d s m z) f1 a mid) := hide (by
                        have h := HC2.out
                        refine ⟨_, hX3.out.1, hX3.out.2, MPost.triv (MPre.triv HMA.out ?_)⟩
                        rcases Nat.lt_or_ge a s with h1 | h1
                        · rcases Nat.lt_or_ge s mid with h2 | h2
                          · simp [h1, h2] at h
                          · exact Or.inr h2
                        · exact Or.inl h1)
                      go_wp2
                      go_meet
                      exact H1
                    · have hu : a < s ∧ s < mid := by have h := HC2.out; simpa using h
                      have N4 := fun W h1 h2 => HIH.out a s mid (rot d s m z) W (by omega) h1 HVR.out HMA.out hu.1 hu.2 h2 (by omega)
                      clear hu
                      go_wp2_with fail
                      refine (N4 _ hX3.out.1 (HC.out.later hX3.out.2)).mono ?_
                      rintro e4 w4 ⟨f1, ⟨⟨v4, rfl⟩, hd4, hb4⟩, hp4⟩
                      have H1 : Hid (∃ f1, DAt w4 g N f1 ∧ Below g w w4 ∧ MPost cf (rot d s m z) f1 a mid) := hide ⟨f1, hd4, hX3.out.2.trans hb4, hp4⟩
                      clear hd4 hb4 hp4 N4
                      go_wp2
                      go_meet
                      exact H1
                case rest =>
                  obtain ⟨f1, hX4⟩ := hcut.out
                  have HX4 := hide hX4
                  obtain ⟨X4, rfl⟩ : ∃ X, X = wc := ⟨_, rfl⟩
                  clear hcut hX4 hX3 HC2
                  have HM2 : Hid (MPre cf f1 mid z b) := hide (HMB.out.of_eq (fun k h1 h2 => HX4.out.2.2.1.1 k (Or.inr h1)))
                  go_upto_region 43 with fail
                  go_cut [213] (fun v wx => v = .bool (decide (mid < z) && decide (z < b)) ∧ Hid (DAt wx g N f1 ∧ Below g w wx ∧ MPost cf (rot d s m z) f1 a mid))
                  case first =>
                    as_aux_lemma =>
                      by_cases u1 : mid < z
                      · have g1 : decide ((mid : Int) < (z : Int)) = true := by simp; omega
                        have g2 : decide (mid < z) = true := by simp; omega
                        by_cases u2 : z < b
                        · have g3 : decide ((z : Int) < (b : Int)) = true := by simp; omega
                          have g4 : decide (z < b) = true := by simp; omega
                          go_wp2
                          go_meet
                          exact ⟨by rw [g2, g4]; rfl, HX4⟩
                        · have g3 : decide ((z : Int) < (b : Int)) = false := by simp; omega
                          have g4 : decide (z < b) = false := by simp; omega
                          go_wp2
                          go_meet
                          exact ⟨by rw [g2, g4]; rfl, HX4⟩
                      · have g1 : decide ((mid : Int) < (z : Int)) = false := by simp; omega
                        have g2 : decide (mid < z) = false := by simp; omega
                        go_wp2
                        go_meet
                        exact ⟨by rw [g2]; rfl, HX4⟩
                  case rest =>
                    as_aux_lemma =>
                      obtain ⟨rfl, hX5⟩ := hcut
                      obtain ⟨X5, rfl⟩ : ∃ X, X = wc := ⟨_, rfl⟩
                      obtain ⟨c3, hc3⟩ : ∃ c, (decide (mid < z) && decide (z < b)) = c := ⟨_, rfl⟩
                      rw [hc3]
                      have HC3 := hide hc3
                      clear hc3 HX4
                      cases c3
                      · have HF : Hid (IPost cf g N d a b w (.returned (.tuple #[])) X5) := hide (by
                          have h := HC3.out
                          refine ⟨f1, ⟨⟨_, rfl⟩, hX5.out.1, hX5.out.2.1⟩, MPost.into HSO.out (sym_join (by omega) (by omega) HLT.out hX5.out.2.2 (MPost.triv (MPre.triv HM2.out ?_)))⟩
                          rcases Nat.lt_or_ge mid z with h1 | h1
                          · rcases Nat.lt_or_ge z b with h2 | h2
                            · simp [h1, h2] at h
                            · exact Or.inr h2
                          · exact Or.inl h1)
                        go_wp2
                        ((try simp only [Exit.inBlock, Exit.then]); refine bodyPost_ret (results_none rfl _ _ _) rfl ?_)
                        exact HF
                      · have hu : mid < z ∧ z < b := by have h := HC3.out; simpa using h
                        have N5 := fun W h1 h2 => HIH.out mid z b f1 W (by omega) h1 (HVR.out.same hX5.out.2.2.1 (by omega)) HM2.out hu.1 hu.2 h2 (by omega)
                        clear hu
                        go_wp2_with fail
                        refine (N5 _ hX5.out.1 (HC.out.later hX5.out.2.1)).mono ?_
                        rintro e5 w5 ⟨f5, ⟨⟨v5, rfl⟩, hd5, hb5⟩, hp5⟩
                        have HF : Hid (IPost cf g N d a b w (.returned (.tuple #[])) w5) := hide ⟨f5, ⟨⟨_, rfl⟩, hd5, hX5.out.2.1.trans hb5⟩, MPost.into HSO.out (sym_join (by omega) (by omega) HLT.out hX5.out.2.2 hp5)⟩
                        clear hd5 hb5 hp5 N5
                        go_wp2
                        ((try simp only [Exit.inBlock, Exit.then]); refine bodyPost_ret (results_none rfl _ _ _) rfl ?_)
                        exact HF
end Go.Proofs.YtmiimpmfkjcjlaaGreat

namespace Go.Proofs.YtmiimpmfkjcjlaaGreat
open Go.RowKit
def StabPost (cf : Int → Int → Int) (g N : Nat) (d : Nat → Int) (w : World) (e : Ending) (w' : World) : Prop := ∃ d', SPost g N d' w e w' ∧ OrdOn cf d' 0 N ∧ SameOn d d' 0 N
set_option maxRecDepth 100000 in
set_option maxHeartbeats 4000000 in
theorem stable_any {cf : Int → Int → Int} (H : CmpOk cf) (g N K B : Nat) (d : Nat → Int) (w : World) (hd : DAt w g N d) (hv : Vd K N d) (hid : ∀ k, k < N → d k = (k : Int)) (hC : CmpV cf K 159 B g w) (hN : N ≤ 1000000) :
    Calls Tryz.prog 203 #[.slice (some ⟨g, 0, none⟩) N N, .int .i64 N, cmpF B] w (StabPost cf g N d w) := by
  have HD := hide hd
  have HV := hide hv
  have HI := hide hid
  have HC := hide hC
  clear hd hv hid hC
  go_enter Tryz.func203, Tryz.ntmps203
  go_wp2
  go_loopw [7, 8] (fun x y wr => ∃ (a b Q : Nat) (e : Nat → Int), a ≤ N ∧ b ≤ N + 20 ∧ Hid (a = Q * 20 ∧ b = a + 20) ∧ x = .int .i64 a ∧ y = .int .i64 b ∧ Hid (Pass cf d d e N 20 Q) ∧ Hid (DAt wr g N e) ∧ Hid (Below g w wr)) (fun x _ _ => N - (intOf x).toNat)
  case atStart => exact ⟨0, 20, 0, d, by omega, by omega, hide ⟨by omega, by omega⟩, rfl, rfl, hide (Pass.start (InBlk.id 20 HI.out) (SameOn.refl _ _ _)), HD, hide (Below.refl _ _)⟩
  case round =>
    obtain ⟨a, b, Q, e, ha, hb, hab, rfl, rfl, hP, hD, hB⟩ := hrel
    by_cases l1 : b ≤ N
    · have d1 : decide ((b : Int) ≤ (N : Int)) = true := by simp; omega
      have d2 : decide (b ≤ N) = true := by simp; omega
      have k1 : IntKind.i64.wrap ((b : Int) + 20) = (b : Int) + 20 := IntWalk.i64_in _ (by omega)
      have hinc : ∀ p q, a ≤ p → p < q → q < b → e p < e q := fun p q h1 h2 h3 => by
        have := hab.out
        rw [hP.out.old p (by omega), hP.out.old q (by omega), HI.out p (by omega), HI.out q (by omega)]
        omega
      have N1 := fun W h h2 => insertion_any H g N K B a b e W h (HV.out.same hP.out.same (by omega)) hinc h2 l1 ha hN
      clear hinc
      go_wp2_with fail
      refine (N1 _ hD.out (HC.out.later hB.out)).mono ?_
      rintro e1 w1 ⟨f, ⟨⟨v1, rfl⟩, hd1, hb1⟩, hp1⟩
      have HD1 := hide hd1
      have HB1 := hide (hB.out.trans hb1)
      have HP1 : Hid (Pass cf d d f N 20 (Q + 1)) := hide (by
        have h := hab.out
        refine hP.out.step (by omega) ?_
        rw [← h.1, ← h.2]
        exact hp1)
      have hba : a < b := by have := hab.out; omega
      have HQ : Hid (b = (Q + 1) * 20) := hide (by have := hab.out; omega)
      clear hd1 hb1 hp1 N1 hab
      go_wp2
      go_roundw
      case rel => exact ⟨b, b + 20, Q + 1, f, l1, by omega, hide ⟨HQ.out, rfl⟩, rfl, by go_num, HP1, HD1, HB1⟩
      case measure => simp [intOf] <;> omega
    · have d1 : decide ((b : Int) ≤ (N : Int)) = false := by simp; omega
      have d2 : decide (b ≤ N) = false := by simp; omega
      have hinc : ∀ p q, a ≤ p → p < q → q < N → e p < e q := fun p q h1 h2 h3 => by
        have := hab.out
        rw [hP.out.old p (by omega), hP.out.old q (by omega), HI.out p (by omega), HI.out q (by omega)]
        omega
      have N1 := fun W h h2 => insertion_any H g N K B a N e W h (HV.out.same hP.out.same (Nat.le_refl _)) hinc h2 (Nat.le_refl _) ha hN
      clear hinc
      go_wp2_with fail
      refine (N1 _ hD.out (HC.out.later hB.out)).mono ?_
      rintro e1 w1 ⟨f, ⟨⟨v1, rfl⟩, hd1, hb1⟩, hp1⟩
      have HD1 := hide hd1
      have HB1 := hide (hB.out.trans hb1)
      have HK : Hid (Blks cf d f N 20) := hide (by
        have h := hab.out
        refine hP.out.fin (by omega) (by omega) ?_
        rw [← h.1]
        exact hp1)
      clear hd1 hb1 hp1 N1 hab hP hD hB d1 d2
      go_wp2
      go_loopw [6] (fun x wr => ∃ (s : Nat) (e : Nat → Int), 20 ≤ s ∧ s ≤ 2000000 ∧ x = .int .i64 s ∧ Hid (Blks cf d e N s) ∧ Hid (DAt wr g N e) ∧ Hid (Below g w wr)) (fun x _ => N - (intOf x).toNat)
      case atStart => exact ⟨20, f, by omega, by omega, rfl, HK, HD1, HB1⟩
      case round =>
        obtain ⟨s, e, hs, hs2, rfl, hK, hD, hB⟩ := hrel
        by_cases l2 : s < N
        · have d1 : decide ((s : Int) < (N : Int)) = true := by simp; omega
          have d2 : decide (s < N) = true := by simp; omega
          obtain ⟨S2, hS2⟩ : ∃ S2, 2 * s = S2 := ⟨_, rfl⟩
          have HS2 := hide hS2
          have k2 : IntKind.i64.wrap (2 * (s : Int)) = (S2 : Int) := (IntWalk.i64_in _ (by omega)).trans (by omega)
          have k3 : IntKind.i64.wrap ((s : Int) * 2) = (S2 : Int) := (IntWalk.i64_in _ (by omega)).trans (by omega)
          obtain ⟨wo, rfl⟩ : ∃ wo : World, wo = wr := ⟨_, rfl⟩
          have hS2s : s < S2 := by omega
          have hS2m : S2 ≤ 2000000 := by omega
          clear hS2
          go_wp2
          go_loopw [7, 8] (fun x y wr => ∃ (a b Q : Nat) (f : Nat → Int), a ≤ N ∧ b ≤ N + S2 ∧ Hid (a = Q * (2 * s) ∧ b = a + 2 * s) ∧ x = .int .i64 a ∧ y = .int .i64 b ∧ Hid (Pass cf d e f N (2 * s) Q) ∧ Hid (DAt wr g N f) ∧ Hid (Below g w wr)) (fun x _ _ => N - (intOf x).toNat)
          case atStart => exact ⟨0, S2, 0, e, by omega, by omega, hide ⟨by omega, by have := HS2.out; omega⟩, rfl, rfl, hide (Pass.start hK.out.blk.double hK.out.same), hD, hB⟩
          case round =>
            obtain ⟨a, b, Q, f, ha, hb, hab, rfl, rfl, hP, hDf, hBf⟩ := hrel
            obtain ⟨m, hm⟩ : ∃ m, a + s = m := ⟨_, rfl⟩
            have k4 : IntKind.i64.wrap ((a : Int) + (s : Int)) = (m : Int) := (IntWalk.i64_in _ (by omega)).trans (by omega)
            have ham : a < m := by omega
            have HM := hide hm
            clear hm
            by_cases l3 : b ≤ N
            · have d3 : decide ((b : Int) ≤ (N : Int)) = true := by simp; omega
              have d4 : decide (b ≤ N) = true := by simp; omega
              have hmb : m < b := by have := HM.out; have := hab.out; omega
              have HPre : Hid (MPre cf f a m b) := hide (by
                have h := hab.out
                have h2 := HM.out
                have := hP.out.pre hK.out (b := b) (by omega) l3 (by omega)
                rw [← h.1, h2] at this
                exact this)
              have k5 : IntKind.i64.wrap ((b : Int) + (S2 : Int)) = (b : Int) + (S2 : Int) := IntWalk.i64_in _ (by omega)
              have N1 := fun W h h2 => sym_any H g N K B hN (b - a) a m b f W (Nat.le_refl _) h (HV.out.same hP.out.same (Nat.le_refl _)) HPre.out ham hmb h2 l3
              go_wp2_with fail
              refine (N1 _ hDf.out (HC.out.later hBf.out)).mono ?_
              rintro e1 w1 ⟨f1, ⟨⟨v1, rfl⟩, hd1, hb1⟩, hp1⟩
              have HD1 := hide hd1
              have HB1 := hide (hBf.out.trans hb1)
              have HP1 : Hid (Pass cf d e f1 N (2 * s) (Q + 1)) := hide (by
                have h := hab.out
                refine hP.out.step (by omega) ?_
                rw [← h.1, ← h.2]
                exact hp1)
              have hba : a < b := by omega
              have HQ : Hid (b = (Q + 1) * (2 * s)) := hide (by have := hab.out; rw [Nat.add_mul, Nat.one_mul]; omega)
              clear hd1 hb1 hp1 N1 hab HPre
              go_wp2
              go_roundw
              case rel => exact ⟨b, b + S2, Q + 1, f1, l3, by omega, hide ⟨HQ.out, by have := HS2.out; omega⟩, rfl, by go_num, HP1, HD1, HB1⟩
              case measure => simp [intOf] <;> omega
            · have d3 : decide ((b : Int) ≤ (N : Int)) = false := by simp; omega
              have d4 : decide (b ≤ N) = false := by simp; omega
              by_cases l4 : m < N
              · have d5 : decide ((m : Int) < (N : Int)) = true := by simp; omega
                have d6 : decide (m < N) = true := by simp; omega
                have HPre : Hid (MPre cf f a m N) := hide (by
                  have h := hab.out
                  have h2 := HM.out
                  have := hP.out.pre hK.out (b := N) (by omega) (Nat.le_refl _) (by omega)
                  rw [← h.1, h2] at this
                  exact this)
                have N1 := fun W h h2 => sym_any H g N K B hN (N - a) a m N f W (Nat.le_refl _) h (HV.out.same hP.out.same (Nat.le_refl _)) HPre.out ham l4 h2 (Nat.le_refl _)
                go_wp2_with fail
                refine (N1 _ hDf.out (HC.out.later hBf.out)).mono ?_
                rintro e1 w1 ⟨f1, ⟨⟨v1, rfl⟩, hd1, hb1⟩, hp1⟩
                have HD1 := hide hd1
                have HB1 := hide (hBf.out.trans hb1)
                have HK1 : Hid (Blks cf d f1 N S2) := hide (by
                  have h := hab.out
                  rw [← HS2.out]
                  refine hP.out.fin (by omega) (by omega) ?_
                  rw [← h.1]
                  exact hp1)
                clear hd1 hb1 hp1 N1 hab HPre
                go_wp2
                go_roundw
                case rel => exact ⟨S2, f1, by omega, hS2m, rfl, HK1, HD1, HB1⟩
                case measure => simp [intOf] <;> omega
              · have d5 : decide ((m : Int) < (N : Int)) = false := by simp; omega
                have d6 : decide (m < N) = false := by simp; omega
                have HK1 : Hid (Blks cf d f N S2) := hide (by
                  have h := hab.out
                  have h2 := HM.out
                  rw [← HS2.out]
                  refine hP.out.fin (by omega) (by omega) (hP.out.rest hK.out (by omega)))
                clear hab
                go_wp2
                go_roundw
                case rel => exact ⟨S2, f, by omega, hS2m, rfl, HK1, hDf, hBf⟩
                case measure => simp [intOf] <;> omega
        · have d1 : decide ((s : Int) < (N : Int)) = false := by simp; omega
          have d2 : decide (s < N) = false := by simp; omega
          have HF : Hid (StabPost cf g N d w (.returned (.tuple #[])) wr) := hide ⟨e, ⟨⟨_, rfl⟩, hD.out, hB.out⟩, hK.out.whole (by omega), hK.out.same⟩
          go_wp2
          ((try simp only [Exit.inBlock, Exit.then]); refine bodyPost_ret (results_none rfl _ _ _) rfl ?_)
          exact HF
end Go.Proofs.YtmiimpmfkjcjlaaGreat

namespace Go.Proofs.YtmiimpmfkjcjlaaGreat
open Go.RowKit
theorem owns_base {w : World} {base base' : Nat} {e : TypeId} {sz : Nat} {v : Value} {n : Nat} {xs : List Value} (h : w.ownsRow base e sz v n xs) (hb : base' ≤ base) : w.ownsRow base' e sz v n xs := by
  obtain ⟨h1, h2 | ⟨g, cap, cur, e1, e2, e3⟩⟩ := h
  · exact ⟨h1, Or.inl h2⟩
  · exact ⟨h1, Or.inr ⟨g, cap, cur, e1, Nat.le_trans hb e2, e3⟩⟩
theorem own_slice {w : World} {base : Nat} {e : TypeId} {sz : Nat} {v : Value} {n : Nat} {xs : List Value} (h : w.ownsRow base e sz v n xs) : ∃ A cap, v = .slice A n cap := by
  obtain ⟨_, ⟨e, h0⟩ | ⟨g, cap, cur, e, _⟩⟩ := h
  · exact ⟨none, 0, by rw [e, h0]⟩
  · exact ⟨_, cap, e⟩
theorem owns_keepB {S : Nat → Prop} {w w' : World} {base : Nat} {e : TypeId} {sz : Nat} {v : Value} {n : Nat} {xs : List Value} (h : w.ownsRow base e sz v n xs) (hk : Keep S w w') (hS : ∀ j, base ≤ j → j < w.heap.size → S j) : w'.ownsRow base e sz v n xs := by
  obtain ⟨h1, h2 | ⟨g, cap, cur, e1, e2, e3, e4⟩⟩ := h
  · exact ⟨h1, Or.inl h2⟩
  · exact ⟨h1, Or.inr ⟨g, cap, cur, e1, e2, (hk.block g (hS g e2 (Array.getElem?_eq_some_iff.1 e3).1)).trans e3, e4⟩⟩
theorem cells_set {w : World} {b i : Nat} {cs : Array Value} {t : TypeId} {u : Value} (h : w.heap[b]? = some (.cells cs t (0, 0))) : (w.setCell ⟨b, i, none⟩ u).heap[b]? = some (.cells (cs.setIfInBounds i u) t (0, 0)) := by
  simp [World.setCell, Array.getElem?_modify, h]
theorem wrap_i64 {x : Int} (h1 : -9223372036854775808 ≤ x) (h2 : x ≤ 9223372036854775807) : IntKind.i64.wrap x = x := by
  rw [IntKind.wrap_i64]; omega
theorem flat_en {α : Type} {en : α → List Value} {sz : Nat} (hl : ∀ x, (en x).length = sz) {l : List α} {k : Nat} {x : α} (h : l[k]? = some x) (j : Nat) (u : Value) (hu : (en x)[j]? = some u) : (l.flatMap en)[k * sz + j]? = some u := by
  induction l generalizing k with
  | nil => simp at h
  | cons y l ih =>
    have hj : j < sz := by have := (List.getElem?_eq_some_iff.1 hu).1; rwa [hl] at this
    rw [List.flatMap_cons]
    rcases k with _ | k
    · simp at h
      subst h
      rw [List.getElem?_append_left (by rw [hl]; omega)]
      simpa using hu
    · rw [List.getElem?_append_right (by rw [hl, Nat.succ_mul]; omega)]
      have e : (k + 1) * sz + j - (en y).length = k * sz + j := by rw [hl, Nat.succ_mul]; omega
      rw [e]
      exact ih (by simpa using h)
theorem sl_of_owns_en {α : Type} {en : α → List Value} {sz : Nat} (hl : ∀ x, (en x).length = sz) {w : World} {base : Nat} {e : TypeId} {v : Value} {l : List α} (h : w.ownsRow base e sz v l.length (l.flatMap en)) (_hm : l.length ≤ maxLen) : Sl en sz w v l := by
  rcases h.2 with ⟨rfl, h0⟩ | ⟨g, cap, cur, rfl, _, hg, hnc, hcm, _, htake⟩
  · have : l = [] := List.eq_nil_of_length_eq_zero h0
    subst this
    exact ⟨none, 0, rfl, Nat.le_refl _, Nat.zero_le _, fun k x hx => by simp at hx⟩
  · refine ⟨_, cap, rfl, hnc, hcm, fun k x hx => ⟨g, 0, rfl, (Array.getElem?_eq_some_iff.1 hg).1, fun j u hu => ?_⟩⟩
    have hk := (List.getElem?_eq_some_iff.1 hx).1
    have h1 := flat_en hl hx j u hu
    rw [← htake, List.getElem?_take] at h1
    split at h1
    · rw [cell_of_row w g _ cur e (0, 0) hg]
      rw [show 0 + k * sz + j = k * sz + j by omega]
      simpa using h1
    · cases h1
theorem sl_take {α : Type} {en : α → List Value} {sz : Nat} {w : World} {A : Option Addr} {n c k : Nat} {xs : List α} (h : Sl en sz w (.slice A n c) xs) (hk : k ≤ xs.length) : Sl en sz w (.slice A k c) (xs.take k) := by
  obtain ⟨A', c', e, h1, h2, h3⟩ := h
  cases e
  refine ⟨_, _, by rw [List.length_take, Nat.min_eq_left hk], by rw [List.length_take]; omega, h2, fun j x hx => h3 j x ?_⟩
  rw [List.getElem?_take] at hx
  split at hx
  · exact hx
  · cases hx
theorem sl_drop {α : Type} {en : α → List Value} {sz : Nat} {w : World} {A : Option Addr} {n c k : Nat} {xs : List α} (h : Sl en sz w (.slice A n c) xs) (hk : k ≤ n) : ∃ X, sliced A k n c sz = X ∧ Sl en sz w X (xs.drop k) := by
  obtain ⟨A', c', e, h1, h2, h3⟩ := h
  cases e
  refine ⟨_, rfl, ?_⟩
  unfold sliced
  refine ⟨_, _, by rw [List.length_drop], by rw [List.length_drop]; omega, by omega, fun j x hx => ?_⟩
  rw [List.getElem?_drop] at hx
  obtain ⟨b, o, rfl, hb, hc⟩ := h3 _ _ hx
  have hlt := (List.getElem?_eq_some_iff.1 hx).1
  rw [if_neg (by omega)]
  refine ⟨b, o + k * sz, ?_, hb, ?_⟩
  · simp [Addr.add]
  · rw [show o + k * sz + j * sz = o + (k + j) * sz by rw [Nat.add_mul]; omega]
    exact hc
end Go.Proofs.YtmiimpmfkjcjlaaGreat
