/- How many steps operations make at most (package bound): All; the known case. -/
import Derived.Test.YtdilnfnakhhhaaaGreatTb8
namespace Go.Proofs.YtdilnfnakhhhaaaGreat
open Go.RowKit

theorem if_lt_max (a b : Int) : (if a < b then b else a) = max a b := by
  by_cases h : a < b
  · rw [if_pos h]; omega
  · rw [if_neg h]; omega

def AllPost (n : Int) (l : List Sp) (w : World) (e : Ending) (w' : World) : Prop :=
  e = .returned (.tuple #[.int .i64 (if firstE n l = 0 then allV n l 1 else 0), .int .i64 (firstE n l)]) ∧ Below w.heap.size w w'

set_option maxRecDepth 100000 in
set_option maxHeartbeats 4000000 in
theorem all_any (n : Int) (A : Option Addr) (m c : Nat) (l : List Sp) (w : World) (h : SlSp w (.slice A m c) l) (hm : l.length = m) :
    Calls Tryz.prog 19 #[.int .i64 n, .slice A m c] w (AllPost n l w) := by
  have hle : m ≤ maxLen := by obtain ⟨_, _, e, h1, h2, _⟩ := h; cases e; omega
  have hle' : (m : Int) ≤ 9223372036854775807 := by unfold maxLen at hle; omega
  have hM := hide hm
  have HH := hide h
  have NS := fun s W => tsize_any n s W
  have NK := fun s W => tkinds_any s W
  have HBM := hide (fun s kd h1 h2 h3 W => bmost_any n s kd h1 h2 h3 W)
  clear hm hle h
  go_enter Tryz.func19, Tryz.ntmps19
  go_wp2
  go_loopw [6, 14] (fun out i wr => ∃ (k : Nat) (o : Int), k ≤ m ∧ i = .int .i64 k ∧ out = .int .i64 o ∧ 1 ≤ o ∧ o ≤ 1000000 ∧ Hid (firstE n l = firstE n (l.drop k)) ∧ Hid (allV n l 1 = allV n (l.drop k) o) ∧ Hid (Below w.heap.size w wr)) (fun _ i _ => m - (intOf i).toNat)
  case atStart => exact ⟨0, 1, Nat.zero_le _, rfl, rfl, by decide, by decide, hide rfl, hide rfl, hide (Below.refl _ _)⟩
  case round =>
    obtain ⟨wo, rfl⟩ : ∃ wo : World, wo = wr := ⟨_, rfl⟩
    obtain ⟨k, o, hk, rfl, rfl, ho1, ho2, hF, hA, hB⟩ := hrel
    by_cases hlt : k < m
    · obtain ⟨s, hsk⟩ : ∃ s, l[k]? = some s := ⟨_, List.getElem?_eq_getElem (by have := hM.out; omega)⟩
      obtain ⟨A', c', e, _, _, h3⟩ := HH.out.below hB.out (Nat.le_refl _)
      obtain ⟨b, oo, e', hb, hc⟩ := h3 k s hsk
      rw [hM.out] at e
      cases e
      cases e'
      obtain ⟨c0, c1, c2⟩ := spec_cells hc
      have hstep := firstE_step (n := n) hsk
      have hstA := allV_step (n := n) (o := o) hsk
      have hsz := hB.out.size
      clear h3 hc hsk
      have NS1 := fun W => NS s W
      generalize hV : sizeV n s = V at NS1
      by_cases hE : sizeE n s = 0
      · rw [if_pos hE] at hstep
        rw [hE] at NS1
        have NK1 := fun W => NK s W
        have hacts := actsT_bd s.kind s.p
        obtain ⟨K, hK⟩ : ∃ K : Nat, actsT s.kind s.p = K := ⟨(actsT s.kind s.p).toNat, by omega⟩
        rw [hK] at NK1
        have hKb : (K : Int) ≤ 4 := by omega
        have hK0 : (0 : Int) ≤ (K : Int) := by omega
        have HF := hide hstep
        have HA : Hid (allV n (l.drop k) o = allV n (l.drop (k + 1)) (kmax n s o K)) := by show _ = _; rw [hstA, hK]; rfl
        have HE := hide hE
        have HK := hide hK
        have NB := fun (kd : Nat) (h : kd < K) W => HBM.out s kd hE (by omega) (by rw [hK]; omega) W
        have HNB := hide NB
        have hkb := fun j (h : j ≤ K) => kmax_bd (o := o) hE ⟨ho1, ho2⟩ j (by rw [hK]; omega)
        have HKB := hide hkb
        clear hstep hstA hE hV hacts hK NB hkb
        go_wp2_with fail
        refine (NS1 _).mono ?_
        rintro e w2 ⟨rfl, hb2⟩
        have hB2 : Below w.heap.size w w2 := (hB.out.alloc hsz _).trans (hb2.mono (by simp; omega))
        have hT2 := (hb2.block wo.heap.size (by simp)).trans (heap_alloc_new _ _)
        obtain ⟨y0, y1, y2, _, _, _, yz⟩ := cells3 hT2
        clear hb2
        go_wp2_with fail
        refine (NK1 _).mono ?_
        rintro e w3 ⟨rfl, hb3⟩
        have hB3 : Below w.heap.size w w3 := hB2.trans (hb3.mono hB2.size)
        have hT3 := (hb3.block wo.heap.size yz).trans hT2
        have hz3 : wo.heap.size < w3.heap.size := Nat.lt_of_lt_of_le yz hb3.size
        clear hb3 y0 y1 y2 yz hT2 hB2 c0 c1 c2
        have HT3 := hide hT3
        have HB3 := hide hB3
        clear hT3 hB3
        go_wp2
        go_loopw [6, 29] (fun out i wi => ∃ (j : Nat), j ≤ K ∧ i = .int .i64 j ∧ out = .int .i64 (kmax n s o j) ∧ Hid (Below w3.heap.size w3 wi)) (fun _ i _ => K - (intOf i).toNat)
        case atStart => exact ⟨0, Nat.zero_le _, rfl, rfl, hide (Below.refl _ _)⟩
        case round =>
          obtain ⟨j, hj, rfl, rfl, hBi⟩ := hrel
          obtain ⟨y0, y1, y2, _, _, _, yz⟩ := cells3 ((hBi.out.block wo.heap.size hz3).trans HT3.out)
          have hki := HKB.out j hj
          by_cases hjk : j < K
          · have NB1 := fun W => HNB.out j hjk W
            have hkn : kmax n s o (j + 1) = max (kmax n s o j) (mostT n s j) := rfl
            have HN := hide hkn
            clear hkn
            go_wp2_with fail
            refine (NB1 _).mono ?_
            rintro e w4 ⟨rfl, hb4⟩
            have hB4 := hBi.out.trans (hb4.mono hBi.out.size)
            clear hb4
            go_wp2
            go_roundw
            case rel => exact ⟨j + 1, by omega, by go_num, by rw [HN.out]; exact congrArg (Value.int .i64) (if_lt_max _ _), hide hB4⟩
            case measure => first | (simp [intOf]; done) | (simp [intOf]; omega)
          · obtain rfl : j = K := by omega
            have hbnd := HKB.out j (Nat.le_refl _)
            go_wp2
            go_roundw
            case rel => exact ⟨k + 1, kmax n s o j, by omega, by go_num, rfl, hbnd.1, hbnd.2, hide (by rw [hF.out, HF.out]), hide (by rw [hA.out, HA.out]), hide (HB3.out.trans (hBi.out.mono HB3.out.size))⟩
            case measure => first | (simp [intOf]; done) | (simp [intOf]; omega)
      · rw [if_neg hE] at hstep
        obtain ⟨E, hEE⟩ : ∃ E, sizeE n s = E := ⟨_, rfl⟩
        rw [hEE] at NS1 hE hstep
        have HL : Hid (firstE n l = E) := by show _ = _; rw [hF.out, hstep]
        have he : (E != 0) = true := by simpa using hE
        clear hEE hstep hV hstA
        go_wp2_with fail
        refine (NS1 _).mono ?_
        rintro e w2 ⟨rfl, hb2⟩
        have hB2 : Below w.heap.size w w2 := (hB.out.alloc hsz _).trans (hb2.mono (by simp; omega))
        go_wp2
        go_ret2
        refine ⟨?_, hB2⟩
        rw [HL.out, if_neg hE]
        rfl
    · obtain rfl : k = m := by omega
      have h0 : firstE n l = 0 := by rw [hF.out, ← hM.out, List.drop_length]; rfl
      have hv : allV n l 1 = o := by rw [hA.out, ← hM.out, List.drop_length]; rfl
      have H0 := hide h0
      have HV := hide hv
      clear h0 hv
      go_wp2
      go_ret2
      refine ⟨?_, hB.out⟩
      rw [H0.out, if_pos rfl, HV.out]
      rfl

theorem sl_one_spec (w : World) (t : TypeId) (a : Sp) : SlSp (w.alloc (.cells #[.int .i64 a.kind, .int .i64 a.p, .int .i64 a.q] t)) (.slice (some ⟨w.heap.size, 0, none⟩) 1 1) [a] := by
  refine Sl.of_block (xs := [a]) (heap_alloc_new _ _) (Nat.le_refl 1) (by decide) ?_
  intro k x hx j u hu
  rcases k with _ | k
  · cases hx; rcases j with _ | _ | _ | j <;> first | exact hu | cases hu
  · cases hx

theorem known24_facts : mostV 2 ⟨8, 3, 1⟩ 0 = 756 ∧ mostE 2 ⟨8, 3, 1⟩ 0 = 0 ∧ firstE 3 [⟨2, 0, 0⟩] = 0 ∧ allV 3 [⟨2, 0, 0⟩] 1 = 3 := by decide
set_option maxRecDepth 100000 in
set_option maxHeartbeats 2000000 in
theorem known24 (w : World) : Calls Tryz.prog 16 #[] w fun e w' => e = .returned (.bool true) ∧ Below w.heap.size w w' := by
  have N0 := fun W => most_any 2 ⟨8, 3, 1⟩ 0 W
  have N1 := fun g W h => all_any 3 (some ⟨g, 0, none⟩) 1 1 [⟨2, 0, 0⟩] W h rfl
  unfold AllPost at N1
  rw [known24_facts.1, known24_facts.2.1] at N0
  rw [known24_facts.2.2.1, known24_facts.2.2.2] at N1
  go_enter Tryz.func16, Tryz.ntmps16
  go_wp2_with fail
  refine (N0 _).mono ?_
  rintro e w1 ⟨rfl, hb1⟩
  go_wp2_with fail
  refine (N1 _ _ (sl_one_spec w1 _ _)).mono ?_
  rintro e w2 ⟨rfl, hb2⟩
  have hB : Below w.heap.size w w2 := (hb1.alloc hb1.size _).trans (hb2.mono (by have := hb1.size; simp; omega))
  go_wp2
  go_ret
  exact ⟨rfl, hB⟩
end Go.Proofs.YtdilnfnakhhhaaaGreat
