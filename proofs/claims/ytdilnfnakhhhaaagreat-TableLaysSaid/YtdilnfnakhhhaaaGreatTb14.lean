/- Objects side by side: the reference's Bases and Lay. -/
import Derived.Test.YtdilnfnakhhhaaaGreatTb13
namespace Go.Proofs.YtdilnfnakhhhaaaGreat
open Go.RowKit

set_option maxRecDepth 100000 in
set_option maxHeartbeats 2000000 in
theorem bases_any (n : Int) (A : Option Addr) (m c : Nat) (l : List Sp) (w : World) (h : SlSp w (.slice A m c) l) (hm : l.length = m) (hm8 : m ≤ 8) (hn1 : 1 ≤ n) (hn2 : n ≤ 16) (hok : ∀ s ∈ l, sizeE n s = 0) :
    Calls Tryz.prog 10 #[.int .i64 n, .slice A m c] w (RegPost (sizesT n l) w) := by
  have hZ : Hid (∀ x ∈ sizesT n l, 0 ≤ x) := by
    intro x hx
    obtain ⟨s, hs, rfl⟩ := List.mem_map.1 hx
    have := sizeT_bd (hok s hs)
    omega
  have hM := hide hm
  have HH := hide h
  have HOK := hide hok
  have hlen : Hid ((sizesT n l).length = m) := by show _ = _; simp [sizesT, hm]
  obtain ⟨j0, hj, hj0, hj1, hj2⟩ := info_parts info_int
  clear hm h hok
  go_enter Tryz.func10, Tryz.ntmps10
  go_wp2
  go_loopw [7, 8, 9, 14] (fun out en lg i wr => ∃ (k : Nat) (E : Int) (b : Bool) (ys : List Int), k ≤ m ∧ en = .int .i64 E ∧ lg = .bool b ∧ i = .int .i64 k ∧ 0 ≤ E ∧ E ≤ 65536 ∧ Hid (b = false → psum (sizesT n l) k = E ∧ ys = begins (sizesT n l) k) ∧ Hid (b = true → 65536 < (sizesT n l).sum) ∧ Hid (IOwn wr w.heap.size out k ys) ∧ Hid (Below w.heap.size w wr)) (fun _ _ _ i _ => m - (intOf i).toNat)
  case atStart => exact ⟨0, 0, false, [], Nat.zero_le _, rfl, rfl, rfl, by decide, by decide, hide (fun _ => ⟨psum_zero _, rfl⟩), hide (fun h => by cases h), hide (World.ownsRow_nil _ _ _ _), hide (Below.refl _ _)⟩
  case round =>
    obtain ⟨k, E, lg, ys, hk, rfl, rfl, rfl, hE0, hE1, hF, hT, hown, hB⟩ := hrel
    by_cases hlt : k < m
    · obtain ⟨s, hsk⟩ : ∃ s, l[k]? = some s := ⟨_, List.getElem?_eq_getElem (by have := hM.out; omega)⟩
      obtain ⟨A', c', e, _, _, h3⟩ := HH.out.below hB.out (Nat.le_refl _)
      obtain ⟨b, oo, e', hb, hc⟩ := h3 k s hsk
      rw [hM.out] at e
      cases e
      cases e'
      obtain ⟨c0, c1, c2⟩ := spec_cells hc
      have hsE := HOK.out s (List.mem_of_getElem? hsk)
      obtain ⟨_, hkk, hr⟩ := sizeE_zero hsE
      have hbd := sizeT_bd hsE
      have NS1 := fun W => psize_any n s hn1 hn2 hkk.1 hkk.2 W
      rw [if_pos hr] at NS1
      have hps := psum_succ (sizesT_get (n := n) hsk)
      generalize sizeT n s.kind s.p s.q = x at *
      have HPS := hide hps
      have q0 : (0 : Int) ≤ (k : Int) := by omega
      have q1 : (k : Int) < (m : Int) := by omega
      have d0 : decide (x < 0) = false := by simp; omega
      have hmono := psum_mono hZ.out (show k + 1 ≤ (sizesT n l).length by rw [hlen.out]; omega)
      have HMO := hide hmono
      clear h3 hsk hc hsE hkk hr hps hmono
      go_wp2_with fail
      refine (NS1 _).mono ?_
      rintro e w2 ⟨rfl, hb2⟩
      have hB2 := hB.out.trans (hb2.mono hB.out.size)
      have hown' := World.ownsRow.kept hown.out (grown_of_below hb2 none) (by by_cases hh : Value.ownBlock u7 = none; (exact Or.inl hh); exact Or.inr hh)
      have hsz2 := hB2.size
      clear hb2 hown hB
      by_cases hbig : x ≤ 65536 - E
      · have d1 : decide (65536 - E < x) = false := by simp; omega
        have HT' : Hid (lg = false → psum (sizesT n l) (k + 1) = E + x ∧ ys ++ [E] = begins (sizesT n l) (k + 1)) := by
          intro hlg
          obtain ⟨a1, a2⟩ := hF.out hlg
          exact ⟨by rw [HPS.out, a1], by rw [begins_succ, a2, a1]⟩
        go_wp2_with (at_builtin; refine wpList_append_own_at _ rfl _ _ 23 rfl w.heap.size 3 j0 (.int .i64 0) 1 8 Tryz.underlying23 hj hj0 hj1 hj2 rfl (by decide) _ k _ rfl (hown'.alloc _) ⟨w2.heap.size, 0, none⟩ 1 1 [.int .i64 E] rfl rfl (new_one _ _ _) (by simp [Value.oneCell']) (by unfold maxLen; omega) (by omega) (by simp; omega) ?_; intro v5 w5 hown5 hgrow _ _; have HO : Hid (IOwn w5 w.heap.size v5 (k + 1) (ys ++ [E])) := hide (by unfold IOwn; rw [List.map_append]; exact hown5); have HB := hide ((hB2.alloc hsz2 _).grown hgrow (by simp; omega) (fun j hj => (hown'.lt j hj).1)); clear hown5 hgrow hown' hB2)
        go_roundw
        case rel => exact ⟨k + 1, E + x, lg, ys ++ [E], by omega, rfl, rfl, by go_num, by omega, by omega, HT', hT, HO, HB⟩
        case measure => first | (simp [intOf]; done) | (simp [intOf]; omega)
      · have d1 : decide (65536 - E < x) = true := by simp; omega
        have HT' : Hid (65536 < (sizesT n l).sum) := by
          show 65536 < (sizesT n l).sum
          by_cases hlg : lg = true
          · exact hT.out hlg
          · have a1 := (hF.out (by simpa using hlg)).1
            have a2 := HMO.out
            rw [psum_all, HPS.out, a1] at a2
            omega
        go_wp2_with (at_builtin; refine wpList_append_own_at _ rfl _ _ 23 rfl w.heap.size 3 j0 (.int .i64 0) 1 8 Tryz.underlying23 hj hj0 hj1 hj2 rfl (by decide) _ k _ rfl (hown'.alloc _) ⟨w2.heap.size, 0, none⟩ 1 1 [.int .i64 E] rfl rfl (new_one _ _ _) (by simp [Value.oneCell']) (by unfold maxLen; omega) (by omega) (by simp; omega) ?_; intro v5 w5 hown5 hgrow _ _; have HO : Hid (IOwn w5 w.heap.size v5 (k + 1) (ys ++ [E])) := hide (by unfold IOwn; rw [List.map_append]; exact hown5); have HB := hide ((hB2.alloc hsz2 _).grown hgrow (by simp; omega) (fun j hj => (hown'.lt j hj).1)); clear hown5 hgrow hown' hB2)
        go_roundw
        case rel => exact ⟨k + 1, E, true, ys ++ [E], by omega, by first | rfl | go_num, rfl, by go_num, by omega, by omega, hide (fun h => by cases h), hide (fun _ => HT'.out), HO, HB⟩
        case measure => first | (simp [intOf]; done) | (simp [intOf]; omega)
    · obtain rfl : k = m := by omega
      cases lg
      · obtain ⟨a1, a2⟩ := hF.out rfl
        have HA1 := hide a1
        subst a2
        clear a1
        go_wp2
        go_ret3
        have hs : (sizesT n l).sum = E := by rw [← psum_all, hlen.out]; exact HA1.out
        exact regPost_ok (by omega) hs (by rw [hlen.out]; exact hown.out) (by rw [hlen.out]; unfold maxLen; omega) hB.out
      · have ht := hT.out rfl
        go_wp2
        go_ret3
        exact regPost_no (by omega) hB.out

set_option maxRecDepth 100000 in
set_option maxHeartbeats 2000000 in
theorem refLay_any (n : Int) (A : Option Addr) (m c : Nat) (l : List Sp) (w : World) (h : SlSp w (.slice A m c) l) (hm : l.length = m) :
    Calls Tryz.prog 8 #[.int .i64 n, .slice A m c] w fun e w' => e = .returned (.int .i64 (layE n l)) ∧ Below w.heap.size w w' := by
  have hle : m ≤ maxLen := by obtain ⟨_, _, e, h1, h2, _⟩ := h; cases e; omega
  by_cases hn : 1 ≤ n ∧ n ≤ 16
  · have n0 : decide (n < 1) = false := by simp; omega
    have n1 : decide (16 < n) = false := by simp; omega
    by_cases h8 : 8 < m
    · have hE : Hid (layE n l = 3) := by show _ = _; unfold layE; rw [if_neg (by omega), if_pos (by omega)]
      have h8' : (8 : Int) < (m : Int) := by omega
      clear hm hn hle
      go_enter Tryz.func8, Tryz.ntmps8
      go_wp2
      go_ret
      exact ⟨ret_int hE.out.symm, by (repeat' (first | exact Below.refl _ _ | assumption | refine Below.drew ?_ | refine below_drewN ?_ _ | refine Below.alloc ?_ (by simp <;> omega) _ | refine Below.setCell ?_ (by simp <;> omega) _))⟩
    · have h8' : ¬ (8 : Int) < (m : Int) := by omega
      have hm0 : (m : Int) ≤ 8 := by omega
      have hM := hide hm
      have HH := hide h
      have HN := hide hn
      have NS := fun s W => refSize_any n s W
      clear hm hn hle h
      go_enter Tryz.func8, Tryz.ntmps8
      go_wp2
      go_loopw [22] (fun i wr => ∃ (k : Nat), k ≤ m ∧ i = .int .i64 k ∧ Hid (firstE n l = firstE n (l.drop k)) ∧ Hid (Below w.heap.size w wr)) (fun i _ => m - (intOf i).toNat)
      case atStart => exact ⟨0, Nat.zero_le _, rfl, hide rfl, hide (Below.refl _ _)⟩
      case round =>
        obtain ⟨k, hk, rfl, hF, hB⟩ := hrel
        by_cases hlt : k < m
        · obtain ⟨s, hsk⟩ : ∃ s, l[k]? = some s := ⟨_, List.getElem?_eq_getElem (by have := hM.out; omega)⟩
          obtain ⟨A', c', e, _, _, h3⟩ := HH.out.below hB.out (Nat.le_refl _)
          obtain ⟨b, oo, e', hb, hc⟩ := h3 k s hsk
          rw [hM.out] at e
          cases e
          cases e'
          obtain ⟨c0, c1, c2⟩ := spec_cells hc
          have q0 : (0 : Int) ≤ (k : Int) := by omega
          have q1 : (k : Int) < (m : Int) := by omega
          have hstep := firstE_step (n := n) hsk
          have NS1 := fun W => NS s W
          generalize sizeV n s = V at NS1
          clear h3 hsk hc
          by_cases hE : sizeE n s = 0
          · rw [if_pos hE] at hstep
            rw [hE] at NS1
            have HF := hide hstep
            clear hstep hE
            go_wp2_with fail
            refine (NS1 _).mono ?_
            rintro e w2 ⟨rfl, hb2⟩
            have HB2 := hide (hB.out.trans (hb2.mono hB.out.size))
            clear hb2
            go_wp2
            go_roundw
            case rel => exact ⟨k + 1, by omega, by go_num, hide (by rw [hF.out, HF.out]), HB2⟩
            case measure => first | (simp [intOf]; done) | (simp [intOf]; omega)
          · rw [if_neg hE] at hstep
            obtain ⟨E, hEE⟩ : ∃ E, sizeE n s = E := ⟨_, rfl⟩
            rw [hEE] at NS1 hE hstep
            have HL : Hid (layE n l = E) := by
              have hn := HN.out
              have hf := hF.out
              show _ = _
              unfold layE
              rw [if_neg (by omega), if_neg (by have := hM.out; omega), hf, hstep, if_neg hE]
            have he : (E != 0) = true := by simpa using hE
            clear hEE hstep
            go_wp2_with fail
            refine (NS1 _).mono ?_
            rintro e w2 ⟨rfl, hb2⟩
            go_wp2
            go_ret
            exact ⟨ret_int HL.out.symm, hB.out.trans (hb2.mono hB.out.size)⟩
        · obtain rfl : k = m := by omega
          have h0 : firstE n l = 0 := by rw [hF.out, ← hM.out, List.drop_length]; rfl
          have NB := fun W h => bases_any n A k c l W h hM.out (by omega) HN.out.1 HN.out.2 (firstE_all h0)
          have HL : Hid (layE n l = regE (sizesT n l)) := by
            have hn := HN.out
            show _ = _
            unfold layE
            rw [if_neg (by omega), if_neg (by have := hM.out; omega), if_pos h0]
          unfold RegPost at NB
          have hHH := HH.out.below hB.out (Nat.le_refl _)
          generalize regE (sizesT n l) = E at *
          generalize regEnd (sizesT n l) = EN at *
          generalize regL (sizesT n l) = RL at *
          clear h0
          go_wp2_with fail
          refine (NB _ hHH).mono ?_
          rintro e w2 ⟨u, rfl, hs2, hb2⟩
          go_wp2
          go_ret
          exact ⟨ret_int HL.out.symm, hB.out.trans (hb2.mono hB.out.size)⟩
  · have hE : Hid (layE n l = 1) := by show _ = _; unfold layE; rw [if_pos hn]
    rcases (by omega : n < 1 ∨ 1 ≤ n ∧ 16 < n) with h0 | ⟨h0, h1⟩
    · have n0 : decide (n < 1) = true := by simp; omega
      clear hm hn hle
      go_enter Tryz.func8, Tryz.ntmps8
      go_wp2
      go_ret
      exact ⟨ret_int hE.out.symm, by (repeat' (first | exact Below.refl _ _ | assumption | refine Below.drew ?_ | refine below_drewN ?_ _ | refine Below.alloc ?_ (by simp <;> omega) _ | refine Below.setCell ?_ (by simp <;> omega) _))⟩
    · have n0 : decide (n < 1) = false := by simp; omega
      have n1 : decide (16 < n) = true := by simp; omega
      clear hm hn hle
      go_enter Tryz.func8, Tryz.ntmps8
      go_wp2
      go_ret
      exact ⟨ret_int hE.out.symm, by (repeat' (first | exact Below.refl _ _ | assumption | refine Below.drew ?_ | refine below_drewN ?_ _ | refine Below.alloc ?_ (by simp <;> omega) _ | refine Below.setCell ?_ (by simp <;> omega) _))⟩
end Go.Proofs.YtdilnfnakhhhaaaGreat
