/- TableLays: for every input the law returns true, and the input reads as it did. -/
import Derived.Test.YtdilnfnakhhhaaaGreatRowSp
import Derived.Test.YtdilnfnakhhhaaaGreatTb15
import Derived.Test.YtdilnfnakhhhaaaGreatCmp
import Derived.Deep.QuietTactic
import Derived.BigQuiet
namespace Go.Proofs.YtdilnfnakhhhaaaGreat
open Go.ChangeShapes Go.WideShapes Go.ChangeAt Go.RowKit

theorem lit_of {α : Type} {enc : α → List Value} {sz : Nat} {w : World} {v : Value} {xs : List α} (h : Sl enc sz w v xs) : ∃ A c, v = .slice A xs.length c := by
  obtain ⟨A, c, e, _⟩ := h
  exact ⟨A, c, e⟩

set_option maxRecDepth 100000 in
set_option maxHeartbeats 4000000 in
theorem lays_no (n : Int) (A : Option Addr) (m c : Nat) (l : List Sp) (w : World) (h : SlSp w (.slice A m c) l) (hm : l.length = m) (hE : ¬ layE n l = 0) :
    Calls Tryz.prog 3 #[.int .i64 n, .slice A m c] w fun e w' => e = .returned (.bool true) ∧ Below w.heap.size w w' := by
  have N0 := fun W h => tlay_any n A m c l W h hm
  have N1 := fun W h => twords_any n A m c l W h hm
  have N2 := fun W h => refLay_any n A m c l W h hm
  unfold LayPost at N0
  unfold WordsPost at N1
  have h1 : layL n l = [] := by unfold layL; rw [if_neg hE]
  have h2 : layEnd n l = 0 := by unfold layEnd; rw [if_neg hE]
  have h3 : wordsL n l = [] := by unfold wordsL; rw [if_neg hE]
  rw [h1, h2] at N0
  rw [h3] at N1
  generalize layE n l = E at *
  have he : (E != 0) = true := by simpa using hE
  clear hE h1 h2 h3 hm
  go_enter Tryz.func3, Tryz.ntmps3
  go_wp2_with fail
  refine (N0 _ h).mono ?_
  rintro e w1 ⟨u, rfl, hs1, hb1⟩
  obtain ⟨A1, c1, rfl⟩ := lit_of hs1
  go_wp2_with fail
  refine (N1 _ (h.below hb1 (Nat.le_refl _))).mono ?_
  rintro e w2 ⟨v, rfl, hs2, hb2⟩
  obtain ⟨A2, c2, rfl⟩ := lit_of hs2
  have hB2 := hb1.trans (hb2.mono hb1.size)
  go_wp2_with fail
  refine (N2 _ (h.below hB2 (Nat.le_refl _))).mono ?_
  rintro e w3 ⟨rfl, hb3⟩
  have hB3 := hB2.trans (hb3.mono hB2.size)
  clear hb1 hb2 hb3 hB2
  go_wp2_with fail
  refine (pair_any _).mono ?_
  rintro e w4 ⟨rfl, hb4⟩
  go_wp2
  go_ret
  exact ⟨ret_bool (by first | rfl | (simp; done)), hB3.trans (hb4.mono hB3.size)⟩

set_option maxRecDepth 100000 in
set_option maxHeartbeats 4000000 in
theorem lays_yes (n : Int) (A : Option Addr) (m c : Nat) (l : List Sp) (w : World) (h : SlSp w (.slice A m c) l) (hm : l.length = m) (hE : layE n l = 0) :
    Calls Tryz.prog 3 #[.int .i64 n, .slice A m c] w fun e w' => e = .returned (.bool true) ∧ Below w.heap.size w w' := by
  have hL := laid_of hE
  have hm8 : m ≤ 8 := by rw [← hm]; exact hL.len
  obtain ⟨N, hN⟩ : ∃ N : Nat, (sizesT n l).sum = N := ⟨(sizesT n l).sum.toNat, by have := psum_nonneg hL.nonneg (sizesT n l).length; rw [psum_all] at this; omega⟩
  have hN1 : N ≤ 65536 := by have := hL.sum; omega
  have N0 := fun W h => tlay_any n A m c l W h hm
  have N1 := fun W h => twords_any n A m c l W h hm
  have N2 := fun W h => refLay_any n A m c l W h hm
  have N3 := fun W h => bases_any n A m c l W h hm hm8 hL.n1 hL.n2 hL.ok
  have N4 := fun Au cu W h hu => refWords_any n A Au m c cu N l W h hm hL hN hu
  unfold LayPost at N0
  unfold WordsPost at N1
  unfold RegPost at N3
  have g1 : regE (sizesT n l) = 0 := by unfold regE; rw [if_pos hL.sum]
  have g2 : regEnd (sizesT n l) = N := by unfold regEnd; rw [if_pos hL.sum, hN]
  have g3 : regL (sizesT n l) = begins (sizesT n l) m := by unfold regL; rw [if_pos hL.sum]; simp [sizesT, hm]
  have g4 : wordsL n l = wf n l N m := by unfold wordsL; rw [if_pos hE, hL.fin, hN, Int.toNat_natCast, hm]
  rw [hE, hL.fin, hL.beg, hN, hm] at N0
  rw [hE, g4] at N1
  rw [hE] at N2
  rw [g1, g2, g3] at N3
  have HL := hide hL
  have HN := hide hN
  have HM := hide hm
  have HH := hide h
  have NS := fun s W => refSize_any n s W
  have hm0 : (m : Int) ≤ 8 := by omega
  have hbl := begins_length (sizesT n l) m
  have HBL := hide hbl
  clear g1 g2 g3 g4 hE hL hN hm hbl
  go_enter Tryz.func3, Tryz.ntmps3
  go_wp2_with fail
  refine (N0 _ h).mono ?_
  rintro e w1 ⟨u, rfl, hs1, hb1⟩
  obtain ⟨A1, c1, rfl⟩ := lit_of hs1
  rw [HBL.out] at hs1 ⊢
  go_wp2_with fail
  refine (N1 _ (h.below hb1 (Nat.le_refl _))).mono ?_
  rintro e w2 ⟨v, rfl, hs2, hb2⟩
  have hB2 := hb1.trans (hb2.mono hb1.size)
  have hs1a := hs1.below hb2 (Nat.le_refl _)
  go_wp2_with fail
  refine (N2 _ (h.below hB2 (Nat.le_refl _))).mono ?_
  rintro e w3 ⟨rfl, hb3⟩
  have hB3 := hB2.trans (hb3.mono hB2.size)
  have hs1b := hs1a.below hb3 (Nat.le_refl _)
  have hs2b := hs2.below hb3 (Nat.le_refl _)
  go_wp2_with fail
  refine (N3 _ (h.below hB3 (Nat.le_refl _))).mono ?_
  rintro e w4 ⟨u4, rfl, hs4, hb4⟩
  have hB4 := hB3.trans (hb4.mono hB3.size)
  have hs1c := hs1b.below hb4 (Nat.le_refl _)
  have hs2c := hs2b.below hb4 (Nat.le_refl _)
  obtain ⟨A4, c4, rfl⟩ := lit_of hs4
  rw [HBL.out] at hs4 ⊢
  clear hb1 hb2 hb3 hb4 hB2 hB3 hs1 hs1a hs1b hs2 hs2b
  have hnn : ((N : Int) != (N : Int)) = false := by simp
  go_wp2_with fail
  refine (ints_any _ _ _ _ _ hs1c hs4).mono ?_
  rintro e w5 ⟨rfl, nd, rfl⟩
  rw [decide_eq_true (rfl : begins (sizesT n l) m = begins (sizesT n l) m)]
  have hB5 := below_drewN hB4 nd
  go_wp2_with fail
  refine (N4 A4 c4 _ (h.below hB5 (Nat.le_refl _)) (show SlI (w4.drewN nd) _ _ from hs4)).mono ?_
  rintro e w6 ⟨v6, rfl, hs6, hb6⟩
  have hB6 := hB5.trans (hb6.mono hB5.size)
  have hs1d := (show SlI (w4.drewN nd) _ _ from hs1c).below hb6 (Nat.le_refl _)
  have hs2d := (show SlW (w4.drewN nd) _ _ from hs2c).below hb6 (Nat.le_refl _)
  clear hB4 hB5 hb6 hs1c hs2c hs4
  go_wp2_with fail
  refine (same_any _ _ _ _ _ hs2d hs6).mono ?_
  rintro e w7 ⟨rfl, nd', rfl⟩
  rw [decide_eq_true (rfl : wf n l N m = wf n l N m)]
  have HB7 := hide (below_drewN hB6 nd')
  have HS1 := hide (show SlI (w6.drewN nd') (.slice A1 m c1) _ from hs1d)
  clear hB6 hs1d hs2d hs6 N0 N1 N2 N3 N4
  obtain ⟨w7, hw7⟩ : ∃ w7 : World, w6.drewN nd' = w7 := ⟨_, rfl⟩
  rw [hw7] at HB7 HS1 ⊢
  clear hw7
  go_wp2
  go_loopw [96] (fun i wr => ∃ (k : Nat), k ≤ m ∧ i = .int .i64 k ∧ Hid (Below w7.heap.size w7 wr)) (fun i _ => m - (intOf i).toNat)
  case atStart => exact ⟨0, Nat.zero_le _, rfl, hide (Below.refl _ _)⟩
  case round =>
    obtain ⟨k, hk, rfl, hB⟩ := hrel
    have hBw : Below w.heap.size w wr := HB7.out.trans (hB.out.mono HB7.out.size)
    by_cases hlt : k < m
    · obtain ⟨s, hsk⟩ : ∃ s, l[k]? = some s := ⟨_, List.getElem?_eq_getElem (by have := HM.out; omega)⟩
      obtain ⟨A', c', e, _, _, h3⟩ := HH.out
      obtain ⟨b, oo, e', hb0, hc0⟩ := h3 k s hsk
      rw [HM.out] at e
      cases e
      cases e'
      obtain ⟨d0, d1, d2⟩ := spec_cells (hc0.of_block (hBw.block b hb0))
      have hb : b < wr.heap.size := Nat.lt_of_lt_of_le hb0 hBw.size
      have q0 : (0 : Int) ≤ (k : Int) := by omega
      have q1 : (k : Int) < (m : Int) := by omega
      have hsE := HL.out.ok s (List.mem_of_getElem? hsk)
      have hV : sizeV n s = sizeT n s.kind s.p s.q := by unfold sizeV; rw [if_pos hsE]
      have NS1 := fun W => NS s W
      rw [hV, hsE] at NS1
      have hps := psum_succ (sizesT_get (n := n) hsk)
      have hroom := HL.out.room hsk
      rw [HN.out] at hroom
      obtain ⟨E0, hE0⟩ : ∃ E0, psum (sizesT n l) k = E0 := ⟨_, rfl⟩
      have hbd := sizeT_bd hsE
      generalize sizeT n s.kind s.p s.q = x at *
      rw [hE0] at hps hroom
      obtain ⟨A5, c5, e5, _, _, hu3⟩ := HS1.out
      rw [HBL.out] at e5
      cases e5
      obtain ⟨bu, ou, eu, hbu, hcu⟩ := hu3 k E0 (by rw [begins_get _ _ _ hlt, hE0])
      cases eu
      have hsz := hB.out.size
      have hw1 : IntKind.i64.wrap ((k : Int) + 1) = (k : Int) + 1 := IntWalk.i64_in _ (by omega)
      have hw2 : IntKind.i64.wrap (E0 + x) = E0 + x := IntWalk.i64_in _ (by omega)
      have hw3 : ((k : Int) + 1).toNat = k + 1 := by omega
      have hw4 : 0 ≤ (k : Int) + 1 := by omega
      have HW1 := hide hw1
      have HW2 := hide hw2
      have HW3 := hide hw3
      clear hsE hV hw1 hw2 hw3 hc0 h3 hsk
      by_cases hlast : k + 1 < m
      · have hps' := hps
        obtain ⟨bu', ou', eu, hbu', hcu'⟩ := hu3 (k + 1) (E0 + x) (by rw [begins_get _ _ _ hlast, hps'])
        cases eu
        have e1 : decide (k + 1 < m) = true := by simpa using hlast
        have e2 : decide ((k : Int) + 1 < (m : Int)) = true := by simp; omega
        have e3 : ((k : Int) + 1 == (m : Int)) = false := by simp; omega
        have q2 : (k : Int) + 1 < (m : Int) := by omega
        clear hu3 hps hps' hE0
        go_wp2_with fail
        refine (NS1 _).mono ?_
        rintro e w8 ⟨rfl, hb8⟩
        have hb78 := hB.out.trans (hb8.mono hsz)
        have x0 := nt_cell (hcu.of_block (hb78.block bu hbu))
        have x1 := nt_cell (hcu'.of_block (hb78.block bu hbu))
        simp only [Nat.mul_one] at x0 x1
        have hz8 : bu < w8.heap.size := Nat.lt_of_lt_of_le hbu hb78.size
        have HB8 := hide hb78
        clear hb8 hb78 hcu hcu' d0 d1 d2 hBw
        go_wp2
        have hw1 := HW1.out
        have hw2 := HW2.out
        have hw3 := HW3.out
        go_quiet (fail)
        clear hw1 hw2 hw3
        go_wp2
        go_roundw
        case rel => exact ⟨k + 1, by omega, by go_num, hide (below_drewN HB8.out _)⟩
        case measure => first | (simp [intOf]; done) | (simp [intOf]; omega)
      · obtain hkm : k + 1 = m := by omega
        have hEN : E0 + x = N := by
          have h1 := HN.out
          rw [← psum_all, show (sizesT n l).length = k + 1 by simp [sizesT, HM.out, hkm], hps] at h1
          exact h1
        have HEN := hide hEN
        have e1 : decide (k + 1 < m) = false := by simp; omega
        have e2 : decide ((k : Int) + 1 < (m : Int)) = false := by simp; omega
        have e3 : ((k : Int) + 1 == (m : Int)) = true := by simp; omega
        have e4 : (E0 + x != (N : Int)) = false := by simp [hEN]
        clear hu3 hps hE0 hEN hkm
        go_wp2_with fail
        refine (NS1 _).mono ?_
        rintro e w8 ⟨rfl, hb8⟩
        have hb78 := hB.out.trans (hb8.mono hsz)
        have x0 := nt_cell (hcu.of_block (hb78.block bu hbu))
        simp only [Nat.mul_one] at x0
        have hz8 : bu < w8.heap.size := Nat.lt_of_lt_of_le hbu hb78.size
        have HB8 := hide hb78
        clear hb8 hb78 hcu d0 d1 d2 hBw
        go_wp2
        have hw1 := HW1.out
        have hw2 := HW2.out
        have hw3 := HW3.out
        go_quiet (fail)
        clear hw1 hw2 hw3
        go_wp2
        go_roundw
        case rel => exact ⟨k + 1, by omega, by go_num, hide (below_drewN HB8.out _)⟩
        case measure => first | (simp [intOf]; done) | (simp [intOf]; omega)
    · clear NS
      go_wp2_with fail
      refine (pair_any _).mono ?_
      rintro e w9 ⟨rfl, hb9⟩
      go_wp2
      go_ret
      exact ⟨rfl, hBw.trans (hb9.mono hBw.size)⟩

theorem law_lays (n : Int) (A : Option Addr) (m c : Nat) (l : List Sp) (w : World) (h : SlSp w (.slice A m c) l) (hm : l.length = m) :
    Calls Tryz.prog 3 #[.int .i64 n, .slice A m c] w fun e w' => e = .returned (.bool true) ∧ Below w.heap.size w w' := by
  by_cases hE : layE n l = 0
  · exact lays_yes n A m c l w h hm hE
  · exact lays_no n A m c l w h hm hE

set_option maxRecDepth 100000 in
theorem tableLays_lifted (os : Os) (started : os.Started) (H : Type) (enc : TypeId × Value → H) :
    ReturnsInHanded {} Tryz.checked os 3 .any (Rows.tableLaysSpec.pre6 enc Tryz.prog Tryz.f3 Rows.tableLaysRow.domain false) (Rows.tableLaysSpec.post enc Tryz.prog Tryz.f3 false true false false) := by
  refine returnsInHanded_of_change (C := Tryz.checked) Tryz.own started (by kernel_rfl) Tryz.func3
    (ChangeSpec.witness6 (enc := enc) (C := Tryz.checked) false ⟨#[], #[.int .i64 0, .slice none 0 0], []⟩ 8 (by kernel_rfl) (by kernel_rfl) (by kernel_rfl) (by kernel_rfl)) ?_
  intro W base args ds gs before hval0 hW hcnd _
  have hval : ∀ (j : Nat) t v, Tryz.f3.params[j]? = some t → args[j]? = some v → Value.okWide Tryz.prog W .any base t v := hval0
  have hW' := hW
  obtain ⟨p, q, hA0, hV, rfl, hfz, hnd⟩ := hW
  have hA : DataW.TrodAll enc Tryz.prog W 0 (fun _ => true) true Tryz.f3.params.toList args.toList ds p := hA0
  have hA1 := hA
  rw [Tryz.params3] at hA hval
  obtain ⟨v0, v1, d0, d1, p0, p1, rfl, rfl, rfl, h0, h1⟩ := trodAll_two hA
  obtain ⟨rfl, rfl⟩ := trodVars_none hV
  obtain ⟨n, rfl, hw0⟩ := read_int (hval 0 _ v0 rfl rfl) h0
  obtain ⟨l, hs1, hw1, hl1⟩ := read_specs (hval 1 _ v1 rfl rfl) h1
  simp only [List.append_nil] at hW'
  have hs1' := hs1
  obtain ⟨A1, c1, rfl, _, _, _⟩ := hs1'
  refine (law_lays n A1 _ c1 l W hs1 rfl).mono fun e W' ⟨he, hb⟩ => ?_
  subst he
  exact ⟨_, rfl, law_post rfl rfl hW' hA1 rfl rfl rfl (by rw [Tryz.params3]; intro t ht; simp only [List.mem_cons, List.not_mem_nil, or_false] at ht; rcases ht with rfl | rfl <;> exact ⟨by kernel_rfl, of_decide_eq_true (by kernel_rfl)⟩) hb⟩

theorem tableLays_holds : Rows.TableLaysSaid :=
  OpenClaim.holds_of_wide 3 Tryz.f3 rfl rfl rfl rfl rfl rfl rfl ⟨rfl, rfl, rfl, rfl, rfl⟩ rfl rfl rfl rfl rfl (by kernel_rfl) Tryz.func3 (by kernel_rfl)
    (of_decide_eq_true (by kernel_rfl)) (by unfold Func.isWrapper; first | (rw [if_pos (by decide +kernel)]; kernel_rfl) | (rw [if_neg (by decide +kernel)]; exact ⟨rfl, rfl⟩))
    (fun os started H enc _ => tableLays_lifted os started H enc)
#print axioms tableLays_holds
end Go.Proofs.YtdilnfnakhhhaaaGreat
