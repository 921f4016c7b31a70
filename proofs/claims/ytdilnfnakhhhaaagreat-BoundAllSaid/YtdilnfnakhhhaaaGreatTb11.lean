/- How many steps operations make at most: the reference's All. -/
import Derived.Test.YtdilnfnakhhhaaaGreatTb10
namespace Go.Proofs.YtdilnfnakhhhaaaGreat
open Go.RowKit

set_option maxRecDepth 100000 in
set_option maxHeartbeats 4000000 in
theorem refAll_any (n : Int) (A : Option Addr) (m c : Nat) (l : List Sp) (w : World) (h : SlSp w (.slice A m c) l) (hm : l.length = m) (h0 : firstE n l = 0) :
    Calls Tryz.prog 20 #[.int .i64 n, .slice A m c] w fun e w' => e = .returned (.int .i64 (allV n l 1)) ∧ Below w.heap.size w w' := by
  have hle : m ≤ maxLen := by obtain ⟨_, _, e, h1, h2, _⟩ := h; cases e; omega
  have hle' : (m : Int) ≤ 9223372036854775807 := by unfold maxLen at hle; omega
  have hM := hide hm
  have HH := hide h
  have HE0 := hide (firstE_all h0)
  have NK := fun s W => refTKinds_any s W
  have HBM := hide (fun s kd h1 h2 h3 W => refMost_any n s kd h1 h2 h3 W)
  clear hm hle h h0
  go_enter Tryz.func20, Tryz.ntmps20
  go_wp2
  go_loopw [5, 10] (fun out i wr => ∃ (k : Nat) (o : Int), k ≤ m ∧ i = .int .i64 k ∧ out = .int .i64 o ∧ 1 ≤ o ∧ o ≤ 1000000 ∧ Hid (allV n l 1 = allV n (l.drop k) o) ∧ Hid (Below w.heap.size w wr)) (fun _ i _ => m - (intOf i).toNat)
  case atStart => exact ⟨0, 1, Nat.zero_le _, rfl, rfl, by decide, by decide, hide rfl, hide (Below.refl _ _)⟩
  case round =>
    obtain ⟨k, o, hk, rfl, rfl, ho1, ho2, hA, hB⟩ := hrel
    obtain ⟨wo, rfl⟩ : ∃ wo : World, wo = wr := ⟨_, rfl⟩
    by_cases hlt : k < m
    · obtain ⟨s, hsk⟩ : ∃ s, l[k]? = some s := ⟨_, List.getElem?_eq_getElem (by have := hM.out; omega)⟩
      have hE : sizeE n s = 0 := HE0.out s (List.mem_of_getElem? hsk)
      have h3w := HH.out
      obtain ⟨A', c', e, _, _, h3⟩ := h3w
      obtain ⟨b, oo, e', hb0, hc0⟩ := h3 k s hsk
      rw [hM.out] at e
      cases e
      cases e'
      have hc := hc0.of_block (hB.out.block b hb0)
      have hb : b < wo.heap.size := Nat.lt_of_lt_of_le hb0 hB.out.size
      obtain ⟨c0, c1, c2⟩ := spec_cells hc
      have hstA := allV_step (n := n) (o := o) hsk
      have NK1 := fun W => NK s W
      have hacts := actsT_bd s.kind s.p
      obtain ⟨K, hK⟩ : ∃ K : Nat, actsT s.kind s.p = K := ⟨(actsT s.kind s.p).toNat, by omega⟩
      rw [hK] at NK1
      have hKb : (K : Int) ≤ 4 := by omega
      have hK0 : (0 : Int) ≤ (K : Int) := by omega
      have q0 : (0 : Int) ≤ (k : Int) := by omega
      have q1 : (k : Int) < (m : Int) := by omega
      have HA : Hid (allV n (l.drop k) o = allV n (l.drop (k + 1)) (kmax n s o K)) := by show _ = _; rw [hstA, hK]; rfl
      have NB := fun (kd : Nat) (h : kd < K) W => HBM.out s kd hE (by omega) (by rw [hK]; omega) W
      have HNB := hide NB
      have hkb := fun j (h : j ≤ K) => kmax_bd (o := o) hE ⟨ho1, ho2⟩ j (by rw [hK]; omega)
      have HKB := hide hkb
      have HC := hide hc
      clear hstA hE hacts hK NB hkb h3 hsk hc hc0
      go_wp2_with fail
      refine (NK1 _).mono ?_
      rintro e w3 ⟨rfl, hb3⟩
      have HB3 := hide hb3
      have hz3 : b < w3.heap.size := Nat.lt_of_lt_of_le hb hb3.size
      clear c0 c1 c2 hb3
      go_wp2
      go_loopw [5, 18] (fun out i wi => ∃ (j : Nat), j ≤ K ∧ i = .int .i64 j ∧ out = .int .i64 (kmax n s o j) ∧ Hid (Below w3.heap.size w3 wi)) (fun _ i _ => K - (intOf i).toNat)
      case atStart => exact ⟨0, Nat.zero_le _, rfl, rfl, hide (Below.refl _ _)⟩
      case round =>
        obtain ⟨j, hj, rfl, rfl, hBi⟩ := hrel
        obtain ⟨c0, c1, c2⟩ := spec_cells ((HC.out.of_block (HB3.out.block b hb)).of_block (hBi.out.block b hz3))
        have hbz : b < wr.heap.size := Nat.lt_of_lt_of_le hz3 hBi.out.size
        have hki := HKB.out j hj
        by_cases hjk : j < K
        · have NB1 := fun W => HNB.out j hjk W
          have hkn : kmax n s o (j + 1) = max (kmax n s o j) (mostT n s j) := rfl
          have HN := hide hkn
          clear hkn
          go_wp2_with fail
          refine (NB1 _).mono ?_
          rintro e w4 ⟨rfl, hb4⟩
          have hB4 := hBi.out.trans (hb4.mono hBi.out.size)
          clear hb4
          go_wp2
          go_roundw
          case rel => exact ⟨j + 1, by omega, by go_num, by rw [HN.out]; exact congrArg (Value.int .i64) (if_lt_max _ _), hide hB4⟩
          case measure => first | (simp [intOf]; done) | (simp [intOf]; omega)
        · obtain rfl : j = K := by omega
          have hbnd := HKB.out j (Nat.le_refl _)
          go_wp2
          go_roundw
          case rel => exact ⟨k + 1, kmax n s o j, by omega, by go_num, rfl, hbnd.1, hbnd.2, hide (by rw [hA.out, HA.out]), hide ((hB.out.trans (HB3.out.mono hB.out.size)).trans (hBi.out.mono (Nat.le_trans hB.out.size HB3.out.size)))⟩
          case measure => first | (simp [intOf]; done) | (simp [intOf]; omega)
    · obtain rfl : k = m := by omega
      have hv : allV n l 1 = o := by rw [hA.out, ← hM.out, List.drop_length]; rfl
      have HV := hide hv
      clear hv
      go_wp2
      go_ret
      exact ⟨ret_int HV.out.symm, hB.out⟩
end Go.Proofs.YtdilnfnakhhhaaaGreat
