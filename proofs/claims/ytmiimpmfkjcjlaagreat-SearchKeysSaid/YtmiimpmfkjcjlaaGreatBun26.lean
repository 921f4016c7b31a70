import Derived.Test.YtmiimpmfkjcjlaaGreatBun11
import Derived.Test.YtmiimpmfkjcjlaaGreatBun9
import Derived.Test.YtmiimpmfkjcjlaaGreatBun12
import Derived.Test.YtmiimpmfkjcjlaaGreatBun14
import Derived.Test.YtmiimpmfkjcjlaaGreatBun24
import Derived.Test.YtmiimpmfkjcjlaaGreatBun22
namespace Go.Proofs.YtmiimpmfkjcjlaaGreat
open Go.RowKit
theorem sizesT_get {n : Int} {l : List Sp} {k : Nat} {s : Sp} (h : l[k]? = some s) : (sizesT n l)[k]? = some (sizeT n s.kind s.p s.q) := by unfold sizesT; rw [List.getElem?_map, h]; rfl
set_option maxRecDepth 100000 in
set_option maxHeartbeats 2000000 in
theorem bases_any (n : Int) (A : Option Addr) (m c : Nat) (l : List Sp) (w : World) (h : SlSp w (.slice A m c) l) (hm : l.length = m) (hm8 : m ≤ 8) (hn1 : 1 ≤ n) (hn2 : n ≤ 16) (hok : ∀ s ∈ l, sizeE n s = 0) :
    Calls Tryz.prog 64 #[.int .i64 n, .slice A m c] w (RegPost (sizesT n l) w) := by
  have hZ : Hid (∀ x ∈ sizesT n l, 0 ≤ x) := by
    intro x hx
    obtain ⟨s, hs, rfl⟩ := List.mem_map.1 hx
    have := sizeT_bd (hok s hs)
    omega
  have hM := hide hm
  have HH := hide h
  have HOK := hide hok
  have hlen : Hid ((sizesT n l).length = m) := by show _ = _; simp [sizesT, hm]
  obtain ⟨j0, hj, hj0, hj1, hj2⟩ := info_parts info_int
  clear hm h hok
  go_enter Tryz.func64, Tryz.ntmps64
  go_wp2
  go_loopw [7, 8, 9, 14] (fun out en lg i wr => ∃ (k : Nat) (E : Int) (b : Bool) (ys : List Int), k ≤ m ∧ en = .int .i64 E ∧ lg = .bool b ∧ i = .int .i64 k ∧ 0 ≤ E ∧ E ≤ 65536 ∧ Hid (b = false → psum (sizesT n l) k = E ∧ ys = begins (sizesT n l) k) ∧ Hid (b = true → 65536 < (sizesT n l).sum) ∧ Hid (IOwn wr w.heap.size out k ys) ∧ Hid (Below w.heap.size w wr)) (fun _ _ _ i _ => m - (intOf i).toNat)
  case atStart => exact ⟨0, 0, false, [], Nat.zero_le _, rfl, rfl, rfl, by decide, by decide, hide (fun _ => ⟨psum_zero _, rfl⟩), hide (fun h => by cases h), hide (World.ownsRow_nil _ _ _ _), hide (Below.refl _ _)⟩
  case round =>
    obtain ⟨k, E, lg, ys, hk, rfl, rfl, rfl, hE0, hE1, hF, hT, hown, hB⟩ := hrel
    by_cases hlt : k < m
    · obtain ⟨s, hsk⟩ : ∃ s, l[k]? = some s := ⟨_, List.getElem?_eq_getElem (by have := hM.out; omega)⟩
      obtain ⟨A', c', e, _, _, h3⟩ := HH.out.below hB.out (Nat.le_refl _)
      obtain ⟨b, oo, e', hb, hc⟩ := h3 k s hsk
      rw [hM.out] at e
      cases e
      cases e'
      obtain ⟨c0, c1, c2⟩ := spec_cells hc
      have hsE := HOK.out s (List.mem_of_getElem? hsk)
      obtain ⟨_, hkk, hr⟩ := sizeE_zero hsE
      have hbd := sizeT_bd hsE
      have NS1 := fun W => psize_any n s hn1 hn2 hkk.1 hkk.2 W
      rw [if_pos hr] at NS1
      have hps := psum_succ (sizesT_get (n := n) hsk)
      generalize sizeT n s.kind s.p s.q = x at *
      have HPS := hide hps
      have q0 : (0 : Int) ≤ (k : Int) := by omega
      have q1 : (k : Int) < (m : Int) := by omega
      have d0 : decide (x < 0) = false := by simp; omega
      have hmono := psum_mono hZ.out (show k + 1 ≤ (sizesT n l).length by rw [hlen.out]; omega)
      have HMO := hide hmono
      clear h3 hsk hc hsE hkk hr hps hmono
      go_wp2_with fail
      refine (NS1 _).mono ?_
      rintro e w2 ⟨rfl, hb2⟩
      have hB2 := hB.out.trans (hb2.mono hB.out.size)
      have hown' := World.ownsRow.kept hown.out (grown_of_below hb2 none) (by by_cases hh : Value.ownBlock u7 = none; (exact Or.inl hh); exact Or.inr hh)
      have hsz2 := hB2.size
      clear hb2 hown hB
      by_cases hbig : x ≤ 65536 - E
      · have d1 : decide (65536 - E < x) = false := by simp; omega
        have HT' : Hid (lg = false → psum (sizesT n l) (k + 1) = E + x ∧ ys ++ [E] = begins (sizesT n l) (k + 1)) := by
          intro hlg
          obtain ⟨a1, a2⟩ := hF.out hlg
          exact ⟨by rw [HPS.out, a1], by rw [begins_succ, a2, a1]⟩
        go_wp2_with (at_builtin; refine wpList_append_own_at _ rfl _ _ 42 rfl w.heap.size 3 j0 (.int .i64 0) 1 8 Tryz.underlying42 hj hj0 hj1 hj2 rfl (by decide) _ k _ rfl (hown'.alloc _) ⟨w2.heap.size, 0, none⟩ 1 1 [.int .i64 E] rfl rfl (new_one _ _ _) (by simp [Value.oneCell']) (by unfold maxLen; omega) (by omega) (by simp; omega) ?_; intro v5 w5 hown5 hgrow _ _; have HO : Hid (IOwn w5 w.heap.size v5 (k + 1) (ys ++ [E])) := hide (by unfold IOwn; rw [List.map_append]; exact hown5); have HB := hide ((hB2.alloc hsz2 _).grown hgrow (by simp; omega) (fun j hj => (hown'.lt j hj).1)); clear hown5 hgrow hown' hB2)
        go_roundw
        case rel => exact ⟨k + 1, E + x, lg, ys ++ [E], by omega, rfl, rfl, by go_num, by omega, by omega, HT', hT, HO, HB⟩
        case measure => first | (simp [intOf]; done) | (simp [intOf]; omega)
      · have d1 : decide (65536 - E < x) = true := by simp; omega
        have HT' : Hid (65536 < (sizesT n l).sum) := by
          show 65536 < (sizesT n l).sum
          by_cases hlg : lg = true
          · exact hT.out hlg
          · have a1 := (hF.out (by simpa using hlg)).1
            have a2 := HMO.out
            rw [psum_all, HPS.out, a1] at a2
            omega
        go_wp2_with (at_builtin; refine wpList_append_own_at _ rfl _ _ 42 rfl w.heap.size 3 j0 (.int .i64 0) 1 8 Tryz.underlying42 hj hj0 hj1 hj2 rfl (by decide) _ k _ rfl (hown'.alloc _) ⟨w2.heap.size, 0, none⟩ 1 1 [.int .i64 E] rfl rfl (new_one _ _ _) (by simp [Value.oneCell']) (by unfold maxLen; omega) (by omega) (by simp; omega) ?_; intro v5 w5 hown5 hgrow _ _; have HO : Hid (IOwn w5 w.heap.size v5 (k + 1) (ys ++ [E])) := hide (by unfold IOwn; rw [List.map_append]; exact hown5); have HB := hide ((hB2.alloc hsz2 _).grown hgrow (by simp; omega) (fun j hj => (hown'.lt j hj).1)); clear hown5 hgrow hown' hB2)
        go_roundw
        case rel => exact ⟨k + 1, E, true, ys ++ [E], by omega, by first | rfl | go_num, rfl, by go_num, by omega, by omega, hide (fun h => by cases h), hide (fun _ => HT'.out), HO, HB⟩
        case measure => first | (simp [intOf]; done) | (simp [intOf]; omega)
    · obtain rfl : k = m := by omega
      cases lg
      · obtain ⟨a1, a2⟩ := hF.out rfl
        have HA1 := hide a1
        subst a2
        clear a1
        go_wp2
        go_ret3
        have hs : (sizesT n l).sum = E := by rw [← psum_all, hlen.out]; exact HA1.out
        exact regPost_ok (by omega) hs (by rw [hlen.out]; exact hown.out) (by rw [hlen.out]; unfold maxLen; omega) hB.out
      · have ht := hT.out rfl
        go_wp2
        go_ret3
        exact regPost_no (by omega) hB.out
set_option maxRecDepth 100000 in
set_option maxHeartbeats 2000000 in
theorem refLay_any (n : Int) (A : Option Addr) (m c : Nat) (l : List Sp) (w : World) (h : SlSp w (.slice A m c) l) (hm : l.length = m) :
    Calls Tryz.prog 31 #[.int .i64 n, .slice A m c] w fun e w' => e = .returned (.int .i64 (layE n l)) ∧ Below w.heap.size w w' := by
  have hle : m ≤ maxLen := by obtain ⟨_, _, e, h1, h2, _⟩ := h; cases e; omega
  by_cases hn : 1 ≤ n ∧ n ≤ 16
  · have n0 : decide (n < 1) = false := by simp; omega
    have n1 : decide (16 < n) = false := by simp; omega
    by_cases h8 : 8 < m
    · have hE : Hid (layE n l = 3) := by show _ = _; unfold layE; rw [if_neg (by omega), if_pos (by omega)]
      have h8' : (8 : Int) < (m : Int) := by omega
      clear hm hn hle
      go_enter Tryz.func31, Tryz.ntmps31
      go_wp2
      go_ret
      exact ⟨ret_int hE.out.symm, by (repeat' (first | exact Below.refl _ _ | assumption | refine Below.drew ?_ | refine below_drewN ?_ _ | refine Below.alloc ?_ (by simp <;> omega) _ | refine Below.setCell ?_ (by simp <;> omega) _))⟩
    · have h8' : ¬ (8 : Int) < (m : Int) := by omega
      have hm0 : (m : Int) ≤ 8 := by omega
      have hM := hide hm
      have HH := hide h
      have HN := hide hn
      have NS := fun s W => refSize_any n s W
      clear hm hn hle h
      go_enter Tryz.func31, Tryz.ntmps31
      go_wp2
      go_loopw [22] (fun i wr => ∃ (k : Nat), k ≤ m ∧ i = .int .i64 k ∧ Hid (firstE n l = firstE n (l.drop k)) ∧ Hid (Below w.heap.size w wr)) (fun i _ => m - (intOf i).toNat)
      case atStart => exact ⟨0, Nat.zero_le _, rfl, hide rfl, hide (Below.refl _ _)⟩
      case round =>
        obtain ⟨k, hk, rfl, hF, hB⟩ := hrel
        by_cases hlt : k < m
        · obtain ⟨s, hsk⟩ : ∃ s, l[k]? = some s := ⟨_, List.getElem?_eq_getElem (by have := hM.out; omega)⟩
          obtain ⟨A', c', e, _, _, h3⟩ := HH.out.below hB.out (Nat.le_refl _)
          obtain ⟨b, oo, e', hb, hc⟩ := h3 k s hsk
          rw [hM.out] at e
          cases e
          cases e'
          obtain ⟨c0, c1, c2⟩ := spec_cells hc
          have q0 : (0 : Int) ≤ (k : Int) := by omega
          have q1 : (k : Int) < (m : Int) := by omega
          have hstep := firstE_step (n := n) hsk
          have NS1 := fun W => NS s W
          generalize sizeV n s = V at NS1
          clear h3 hsk hc
          by_cases hE : sizeE n s = 0
          · rw [if_pos hE] at hstep
            rw [hE] at NS1
            have HF := hide hstep
            clear hstep hE
            go_wp2_with fail
            refine (NS1 _).mono ?_
            rintro e w2 ⟨rfl, hb2⟩
            have HB2 := hide (hB.out.trans (hb2.mono hB.out.size))
            clear hb2
            go_wp2
            go_roundw
            case rel => exact ⟨k + 1, by omega, by go_num, hide (by rw [hF.out, HF.out]), HB2⟩
            case measure => first | (simp [intOf]; done) | (simp [intOf]; omega)
          · rw [if_neg hE] at hstep
            obtain ⟨E, hEE⟩ : ∃ E, sizeE n s = E := ⟨_, rfl⟩
            rw [hEE] at NS1 hE hstep
            have HL : Hid (layE n l = E) := by
              have hn := HN.out
              have hf := hF.out
              show _ = _
              unfold layE
              rw [if_neg (by omega), if_neg (by have := hM.out; omega), hf, hstep, if_neg hE]
            have he : (E != 0) = true := by simpa using hE
            clear hEE hstep
            go_wp2_with fail
            refine (NS1 _).mono ?_
            rintro e w2 ⟨rfl, hb2⟩
            go_wp2
            go_ret
            exact ⟨ret_int HL.out.symm, hB.out.trans (hb2.mono hB.out.size)⟩
        · obtain rfl : k = m := by omega
          have h0 : firstE n l = 0 := by rw [hF.out, ← hM.out, List.drop_length]; rfl
          have NB := fun W h => bases_any n A k c l W h hM.out (by omega) HN.out.1 HN.out.2 (firstE_all h0)
          have HL : Hid (layE n l = regE (sizesT n l)) := by
            have hn := HN.out
            show _ = _
            unfold layE
            rw [if_neg (by omega), if_neg (by have := hM.out; omega), if_pos h0]
          unfold RegPost at NB
          have hHH := HH.out.below hB.out (Nat.le_refl _)
          generalize regE (sizesT n l) = E at *
          generalize regEnd (sizesT n l) = EN at *
          generalize regL (sizesT n l) = RL at *
          clear h0
          go_wp2_with fail
          refine (NB _ hHH).mono ?_
          rintro e w2 ⟨u, rfl, hs2, hb2⟩
          go_wp2
          go_ret
          exact ⟨ret_int HL.out.symm, hB.out.trans (hb2.mono hB.out.size)⟩
  · have hE : Hid (layE n l = 1) := by show _ = _; unfold layE; rw [if_pos hn]
    rcases (by omega : n < 1 ∨ 1 ≤ n ∧ 16 < n) with h0 | ⟨h0, h1⟩
    · have n0 : decide (n < 1) = true := by simp; omega
      clear hm hn hle
      go_enter Tryz.func31, Tryz.ntmps31
      go_wp2
      go_ret
      exact ⟨ret_int hE.out.symm, by (repeat' (first | exact Below.refl _ _ | assumption | refine Below.drew ?_ | refine below_drewN ?_ _ | refine Below.alloc ?_ (by simp <;> omega) _ | refine Below.setCell ?_ (by simp <;> omega) _))⟩
    · have n0 : decide (n < 1) = false := by simp; omega
      have n1 : decide (16 < n) = true := by simp; omega
      clear hm hn hle
      go_enter Tryz.func31, Tryz.ntmps31
      go_wp2
      go_ret
      exact ⟨ret_int hE.out.symm, by (repeat' (first | exact Below.refl _ _ | assumption | refine Below.drew ?_ | refine below_drewN ?_ _ | refine Below.alloc ?_ (by simp <;> omega) _ | refine Below.setCell ?_ (by simp <;> omega) _))⟩
end Go.Proofs.YtmiimpmfkjcjlaaGreat

namespace Go.Proofs.YtmiimpmfkjcjlaaGreat
open Go.RowKit
set_option maxRecDepth 100000 in
set_option maxHeartbeats 2000000 in
theorem events43 (n : Int) (As A Ap Ae : Option Addr) (ms cS m c mp cp me ce : Nat) (w : World) (hs : ms ≤ maxLen) (hm : m ≤ maxLen) (hp : mp ≤ maxLen) (he : me ≤ maxLen) :
    Calls Tryz.prog 23 #[.agg #[.int .i64 n, .slice As ms cS, .slice A m c, .slice Ap mp cp], .slice Ae me ce] w fun e w' => e = .returned (.bool (largeB ms m mp || (decide (6 < me) && decide (me ≤ 50)))) ∧ Below w.heap.size w w' := by
  have he63 : (me : Int) ≤ 9223372036854775807 := by unfold maxLen at he; omega
  have N0 := fun W => large_any n As A Ap ms cS m c mp cp W hs hm hp
  generalize largeB ms m mp = R at *
  cases R
  · by_cases h1 : 6 < me
    · have d0 : decide ((6 : Int) < (me : Int)) = true := by simp; omega
      have e0 : decide (6 < me) = true := by simp; omega
      by_cases h2 : me ≤ 50
      · have d1 : decide ((me : Int) ≤ 50) = true := by simp; omega
        have e1 : decide (me ≤ 50) = true := by simp; omega
        rw [e0, e1]
        clear h1 h2 e0 e1
        go_enter Tryz.func23, Tryz.ntmps23
        go_wp2_with fail
        refine (N0 _).mono ?_
        rintro e w1 ⟨rfl, hb1⟩
        have hB1 : Below w.heap.size w w1 := ((Below.refl _ _).alloc (Nat.le_refl _) _).trans (hb1.mono (by simp))
        go_wp2
        go_ret
        exact ⟨ret_bool (by simp), hB1⟩
      · have d1 : decide ((me : Int) ≤ 50) = false := by simp; omega
        have e1 : decide (me ≤ 50) = false := by simp; omega
        rw [e0, e1]
        clear h1 h2 e0 e1
        go_enter Tryz.func23, Tryz.ntmps23
        go_wp2_with fail
        refine (N0 _).mono ?_
        rintro e w1 ⟨rfl, hb1⟩
        have hB1 : Below w.heap.size w w1 := ((Below.refl _ _).alloc (Nat.le_refl _) _).trans (hb1.mono (by simp))
        go_wp2
        go_ret
        exact ⟨ret_bool (by simp), hB1⟩
    · have d0 : decide ((6 : Int) < (me : Int)) = false := by simp; omega
      have e0 : decide (6 < me) = false := by simp; omega
      rw [e0]
      clear h1 e0
      go_enter Tryz.func23, Tryz.ntmps23
      go_wp2_with fail
      refine (N0 _).mono ?_
      rintro e w1 ⟨rfl, hb1⟩
      have hB1 : Below w.heap.size w w1 := ((Below.refl _ _).alloc (Nat.le_refl _) _).trans (hb1.mono (by simp))
      go_wp2
      go_ret
      exact ⟨ret_bool (by simp), hB1⟩
  · rw [Bool.true_or]
    go_enter Tryz.func23, Tryz.ntmps23
    go_wp2_with fail
    refine (N0 _).mono ?_
    rintro e w1 ⟨rfl, hb1⟩
    have hB1 : Below w.heap.size w w1 := ((Below.refl _ _).alloc (Nat.le_refl _) _).trans (hb1.mono (by simp))
    go_wp2
    go_ret
    exact ⟨ret_bool (by simp), hB1⟩
set_option maxRecDepth 100000 in
set_option maxHeartbeats 4000000 in
theorem r43wrong (n : Int) (S C P L : Value) (specs : List Sp) (calls : List Cl) (es : List Ev) (w : World) (hs : SlSp w S specs) (hc : SlCl w C calls) (hes : SlEv w L es) (hP : ∃ a b c, P = .slice a b c) :
    Calls Tryz.prog 26 #[.agg #[.int .i64 n, S, C, P], L] w fun e w' => e = .returned (.int .i64 (srchE n specs calls es)) ∧ Below w.heap.size w w' := by
  obtain ⟨Pa, Pb, Pc, rfl⟩ := hP
  obtain ⟨Ae, ce, rfl, ge1, ge2, ge3⟩ := id hes
  obtain ⟨As, cs, rfl, gs1, gs2, gs3⟩ := id hs
  obtain ⟨Ac, cc, rfl, gc1, gc2, gc3⟩ := id hc
  have hlen : (es.length : Int) ≤ 9223372036854775807 := by unfold maxLen at ge2; omega
  have hcl63 : (calls.length : Int) ≤ 9223372036854775807 := by unfold maxLen at gc2; omega
  have NL := fun W (h : SlSp W (.slice As specs.length cs) specs) => refLay_any n As specs.length cs specs W h rfl
  obtain ⟨LE, hLE⟩ : ∃ LE, layE n specs = LE := ⟨_, rfl⟩
  rw [hLE] at NL
  have HLE := hide hLE
  clear hLE
  have HNL := hide NL
  have HS := hide hs
  obtain ⟨E, hE⟩ : ∃ E, srchE n specs calls es = E := ⟨_, rfl⟩
  rw [hE]
  have HE := hide hE
  clear NL hs hes hc hE gs3
  go_enter Tryz.func26, Tryz.ntmps26
  go_wp2_with fail
  refine (HNL.out _ (HS.out.alloc _)).mono ?_
  rintro e1 X ⟨rfl, hb1⟩
  have hBW : Below w.heap.size w X := ((Below.refl _ _).alloc (Nat.le_refl _) _).trans (hb1.mono (by simp))
  obtain ⟨a0, a1, a2, a3, bz⟩ := cells4 (show X.heap[w.heap.size]? = some (.cells #[.int .i64 n, .slice As specs.length cs, .slice Ac calls.length cc, .slice Pa Pb Pc] 44 (0, 0)) from (hb1.block w.heap.size (by simp)).trans (World.alloc_heap_new w _))
  have HBW := hide hBW
  clear hBW hb1 a1 a3
  by_cases h0 : LE = 0
  · have d0 : (LE != 0) = false := by simp [h0]
    have d0' : (LE == 0) = true := by simp [h0]
    by_cases h6 : 6 < es.length
    · have d6 : decide ((6 : Int) < (es.length : Int)) = true := by simp; omega
      have hr : Hid (3 = E) := hide (by rw [← HE.out]; unfold srchE; rw [HLE.out, if_neg (by simp [h0]), if_pos h6])
      clear h6 h0
      go_wp2
      go_ret
      exact ⟨ret_int hr.out, HBW.out⟩
    · have d6 : decide ((6 : Int) < (es.length : Int)) = false := by simp; omega
      have HNE : Hid (E = if es.all (okEv n calls) = true then 0 else 5) := hide (by rw [← HE.out]; unfold srchE; rw [HLE.out, if_neg (by simp [h0]), if_neg h6])
      clear h6 h0
      go_wp2
      have a0w := a0
      have a2w := a2
      go_loopw [20] (fun i wr => ∃ k : Nat, k ≤ es.length ∧ i = .int .i64 k ∧ Hid (∀ (j : Nat) (e : Ev), j < k → es[j]? = some e → okEv n calls e = true) ∧ Hid (Below X.heap.size X wr)) (fun i _ => es.length - (intOf i).toNat)
      case atStart => exact ⟨0, Nat.zero_le _, rfl, hide (fun j e hj => by omega), hide (Below.refl _ _)⟩
      case round =>
        obtain ⟨k, hk, rfl, hok, hB⟩ := hrel
        have hzr := hB.out.size
        by_cases hlt : k < es.length
        · obtain ⟨e, he⟩ : ∃ e, es[k]? = some e := ⟨_, List.getElem?_eq_getElem hlt⟩
          obtain ⟨g, o, rfl, hg, hce⟩ := ge3 k e he
          have hBr : Below w.heap.size w wr := HBW.out.trans (hB.out.mono HBW.out.size)
          have u0 := (ev_cells (hce.of_block (w' := wr) (hBr.block g hg))).1
          have q0 : (0 : Int) ≤ (k : Int) := by omega
          have q1 : (k : Int) < (es.length : Int) := by omega
          have gz : g < wr.heap.size := Nat.lt_of_lt_of_le hg hBr.size
          replace a0 := (hB.out.cell (p := ⟨w.heap.size, 0, none⟩) bz).trans a0w
          replace a2 := (hB.out.cell (p := ⟨w.heap.size, 2, none⟩) bz).trans a2w
          replace bz : w.heap.size < wr.heap.size := Nat.lt_of_lt_of_le bz hzr
          have HBR := hide hBr
          clear hce hBr a0w a2w
          by_cases c0 : e.call < 0
          · have g0 : decide (e.call < 0) = true := by simpa using c0
            have hbad : okEv n calls e = false := by
              rcases h : okEv n calls e with _ | _
              · rfl
              · have := (okEv_iff.1 h).1; omega
            clear c0
            have hr : Hid (5 = E) := hide (by rw [HNE.out, okEv_no he hbad]; simp)
            clear he hbad
            go_wp2_with fail
            refine wp_region_seq (Below wr.heap.size wr) (.take 0 <| .take 1 <| .take 2 <| .take 3 <| .take 4 <| .take 5 <| .take 6 <| .take 7 <| .take 8 <| .take 9 <| .take 10 <| .take 11 <| .take 12 <| .take 13 <| .take 14 <| .take 15 <| .take 16 <| .take 17 <| .take 18 <| .take 19 <| .take 20 <| .take 21 <| .take 22 <| .take 23 <| .take 24 <| .take 25 <| .take 26 <| .take 27 <| .take 28 <| .take 29 <| .take 30 <| .take 31 <| .take 32 <| .take 33 <| .take 34 <| .take 35 <| .take 36 <| .take 37 <| .take 38 <| .take 39 <| .take 40 <| .take 41 <| .take 42 <| .take 43 <| .take 44 <| .done) (by kernel_rfl) (by kernel_rfl) (by kernel_rfl) (by (repeat' (first | with_reducible assumption | with_reducible exact Below.refl _ _ | with_reducible refine Below.drew ?_ | with_reducible refine below_drewN ?_ _ | with_reducible refine Below.alloc ?_ ?_ _ | with_reducible refine Below.setCell ?_ ?_ _ | omega | (simp; done) | (simp; omega)))) ?_
            iterate 45 (first | (refine seq_take (v := ?_) rfl (by rfl) ?_ ?_; rotate_left; (focus (intro wS hS; have z2 := (hS.cell (p := ⟨w.heap.size, 2, none⟩) bz).trans a2; have y0 := (hS.cell (p := ⟨g, o + k * 8, none⟩) gz).trans u0; go_simp; exact rfl)); simp only [Act.put, List.setIfInBounds_toArray, List.set_cons_zero, List.set_cons_succ]) | (refine seq_skip rfl (by rfl) ?_; simp only [Act.put, List.setIfInBounds_toArray, List.set_cons_zero, List.set_cons_succ]))
            refine seq_nil ?_
            go_wp2
            go_ret
            refine ⟨ret_int hr.out, HBW.out.trans (Below.mono (B := X.heap.size) ?_ HBW.out.size)⟩
            have hq := hB.out
            (repeat' (first | with_reducible assumption | with_reducible exact Below.refl _ _ | with_reducible refine Below.drew ?_ | with_reducible refine below_drewN ?_ _ | with_reducible refine Below.alloc ?_ ?_ _ | with_reducible refine Below.setCell ?_ ?_ _ | omega | (simp; done) | (simp; omega)))
          · have g0 : decide (e.call < 0) = false := by simpa using c0
            by_cases c1 : (calls.length : Int) ≤ e.call
            · have g1 : decide ((calls.length : Int) ≤ e.call) = true := by simpa using c1
              have hbad : okEv n calls e = false := by
                rcases h : okEv n calls e with _ | _
                · rfl
                · have := (okEv_iff.1 h).1; omega
              clear c0 c1
              have hr : Hid (5 = E) := hide (by rw [HNE.out, okEv_no he hbad]; simp)
              clear he hbad
              go_wp2_with fail
              refine wp_region_seq (Below wr.heap.size wr) (.take 0 <| .take 1 <| .take 2 <| .take 3 <| .take 4 <| .take 5 <| .take 6 <| .take 7 <| .take 8 <| .take 9 <| .take 10 <| .take 11 <| .take 12 <| .take 13 <| .take 14 <| .take 15 <| .take 16 <| .take 17 <| .take 18 <| .take 19 <| .take 20 <| .take 21 <| .take 22 <| .take 23 <| .take 24 <| .take 25 <| .take 26 <| .take 27 <| .take 28 <| .take 29 <| .take 30 <| .take 31 <| .take 32 <| .take 33 <| .take 34 <| .take 35 <| .take 36 <| .take 37 <| .take 38 <| .take 39 <| .take 40 <| .take 41 <| .take 42 <| .take 43 <| .take 44 <| .done) (by kernel_rfl) (by kernel_rfl) (by kernel_rfl) (by (repeat' (first | with_reducible assumption | with_reducible exact Below.refl _ _ | with_reducible refine Below.drew ?_ | with_reducible refine below_drewN ?_ _ | with_reducible refine Below.alloc ?_ ?_ _ | with_reducible refine Below.setCell ?_ ?_ _ | omega | (simp; done) | (simp; omega)))) ?_
              iterate 45 (first | (refine seq_take (v := ?_) rfl (by rfl) ?_ ?_; rotate_left; (focus (intro wS hS; have z2 := (hS.cell (p := ⟨w.heap.size, 2, none⟩) bz).trans a2; have y0 := (hS.cell (p := ⟨g, o + k * 8, none⟩) gz).trans u0; go_simp; exact rfl)); simp only [Act.put, List.setIfInBounds_toArray, List.set_cons_zero, List.set_cons_succ]) | (refine seq_skip rfl (by rfl) ?_; simp only [Act.put, List.setIfInBounds_toArray, List.set_cons_zero, List.set_cons_succ]))
              refine seq_nil ?_
              go_wp2
              go_ret
              refine ⟨ret_int hr.out, HBW.out.trans (Below.mono (B := X.heap.size) ?_ HBW.out.size)⟩
              have hq := hB.out
              (repeat' (first | with_reducible assumption | with_reducible exact Below.refl _ _ | with_reducible refine Below.drew ?_ | with_reducible refine below_drewN ?_ _ | with_reducible refine Below.alloc ?_ ?_ _ | with_reducible refine Below.setCell ?_ ?_ _ | omega | (simp; done) | (simp; omega)))
            · have g1 : decide ((calls.length : Int) ≤ e.call) = false := by simpa using c1
              obtain ⟨i2, hi2⟩ := Int.eq_ofNat_of_zero_le (show 0 ≤ e.call by omega)
              obtain ⟨c, hc⟩ : ∃ c, calls[i2]? = some c := ⟨_, List.getElem?_eq_getElem (by omega)⟩
              obtain ⟨gc, oc, rfl, gcz0, hcc⟩ := gc3 i2 c hc
              have x0 := (cl_cells (hcc.of_block (w' := wr) (HBR.out.block gc gcz0))).1
              have gcz : gc < wr.heap.size := Nat.lt_of_lt_of_le gcz0 HBR.out.size
              have hct : e.call.toNat = i2 := by omega
              rw [hi2] at u0 g0 g1
              have q2 : (0 : Int) ≤ (i2 : Int) := by omega
              have g1n : decide (calls.length ≤ i2) = false := by simp; omega
              have q3 : (i2 : Int) < (calls.length : Int) := by omega
              have hbd : ∀ (h : ¬ (0 ≤ c.thread ∧ c.thread < n)), okEv n calls e = false := fun h => by
                rcases hk : okEv n calls e with _ | _
                · rfl
                · exact absurd ((okEv_iff.1 hk).2 c (by rw [hct]; exact hc)) h
              have hgd : ∀ (h : 0 ≤ c.thread ∧ c.thread < n), okEv n calls e = true := fun h => okEv_iff.2 ⟨by omega, fun c' hc' => by rw [hct, hc] at hc'; cases hc'; exact h⟩
              clear hcc c0 c1 hct hc
              by_cases t0 : c.thread < 0
              · have g2 : decide (c.thread < 0) = true := by simpa using t0
                have hbad := hbd (by omega)
                clear t0 hbd hgd hi2
                have hr : Hid (5 = E) := hide (by rw [HNE.out, okEv_no he hbad]; simp)
                clear he hbad
                go_wp2_with fail
                refine wp_region_seq (Below wr.heap.size wr) (.take 0 <| .take 1 <| .take 2 <| .take 3 <| .take 4 <| .take 5 <| .take 6 <| .take 7 <| .take 8 <| .take 9 <| .take 10 <| .take 11 <| .take 12 <| .take 13 <| .take 14 <| .take 15 <| .take 16 <| .take 17 <| .take 18 <| .take 19 <| .take 20 <| .take 21 <| .take 22 <| .take 23 <| .take 24 <| .take 25 <| .take 26 <| .take 27 <| .take 28 <| .take 29 <| .take 30 <| .take 31 <| .take 32 <| .take 33 <| .take 34 <| .take 35 <| .take 36 <| .take 37 <| .take 38 <| .take 39 <| .take 40 <| .take 41 <| .take 42 <| .take 43 <| .take 44 <| .done) (by kernel_rfl) (by kernel_rfl) (by kernel_rfl) (by (repeat' (first | with_reducible assumption | with_reducible exact Below.refl _ _ | with_reducible refine Below.drew ?_ | with_reducible refine below_drewN ?_ _ | with_reducible refine Below.alloc ?_ ?_ _ | with_reducible refine Below.setCell ?_ ?_ _ | omega | (simp; done) | (simp; omega)))) ?_
                iterate 45 (first | (refine seq_take (v := ?_) rfl (by rfl) ?_ ?_; rotate_left; (focus (intro wS hS; have z0 := (hS.cell (p := ⟨w.heap.size, 0, none⟩) bz).trans a0; have z2 := (hS.cell (p := ⟨w.heap.size, 2, none⟩) bz).trans a2; have y0 := (hS.cell (p := ⟨g, o + k * 8, none⟩) gz).trans u0; have k0 := (hS.cell (p := ⟨gc, oc + i2 * 6, none⟩) gcz).trans x0; go_simp; exact rfl)); simp only [Act.put, List.setIfInBounds_toArray, List.set_cons_zero, List.set_cons_succ]) | (refine seq_skip rfl (by rfl) ?_; simp only [Act.put, List.setIfInBounds_toArray, List.set_cons_zero, List.set_cons_succ]))
                refine seq_nil ?_
                go_wp2
                go_ret
                refine ⟨ret_int hr.out, HBW.out.trans (Below.mono (B := X.heap.size) ?_ HBW.out.size)⟩
                have hq := hB.out
                (repeat' (first | with_reducible assumption | with_reducible exact Below.refl _ _ | with_reducible refine Below.drew ?_ | with_reducible refine below_drewN ?_ _ | with_reducible refine Below.alloc ?_ ?_ _ | with_reducible refine Below.setCell ?_ ?_ _ | omega | (simp; done) | (simp; omega)))
              · have g2 : decide (c.thread < 0) = false := by simpa using t0
                by_cases t1 : n ≤ c.thread
                · have g3 : decide (n ≤ c.thread) = true := by simpa using t1
                  have hbad := hbd (by omega)
                  clear t0 t1 hbd hgd hi2
                  have hr : Hid (5 = E) := hide (by rw [HNE.out, okEv_no he hbad]; simp)
                  clear he hbad
                  go_wp2_with fail
                  refine wp_region_seq (Below wr.heap.size wr) (.take 0 <| .take 1 <| .take 2 <| .take 3 <| .take 4 <| .take 5 <| .take 6 <| .take 7 <| .take 8 <| .take 9 <| .take 10 <| .take 11 <| .take 12 <| .take 13 <| .take 14 <| .take 15 <| .take 16 <| .take 17 <| .take 18 <| .take 19 <| .take 20 <| .take 21 <| .take 22 <| .take 23 <| .take 24 <| .take 25 <| .take 26 <| .take 27 <| .take 28 <| .take 29 <| .take 30 <| .take 31 <| .take 32 <| .take 33 <| .take 34 <| .take 35 <| .take 36 <| .take 37 <| .take 38 <| .take 39 <| .take 40 <| .take 41 <| .take 42 <| .take 43 <| .take 44 <| .done) (by kernel_rfl) (by kernel_rfl) (by kernel_rfl) (by (repeat' (first | with_reducible assumption | with_reducible exact Below.refl _ _ | with_reducible refine Below.drew ?_ | with_reducible refine below_drewN ?_ _ | with_reducible refine Below.alloc ?_ ?_ _ | with_reducible refine Below.setCell ?_ ?_ _ | omega | (simp; done) | (simp; omega)))) ?_
                  iterate 45 (first | (refine seq_take (v := ?_) rfl (by rfl) ?_ ?_; rotate_left; (focus (intro wS hS; have z0 := (hS.cell (p := ⟨w.heap.size, 0, none⟩) bz).trans a0; have z2 := (hS.cell (p := ⟨w.heap.size, 2, none⟩) bz).trans a2; have y0 := (hS.cell (p := ⟨g, o + k * 8, none⟩) gz).trans u0; have k0 := (hS.cell (p := ⟨gc, oc + i2 * 6, none⟩) gcz).trans x0; go_simp; exact rfl)); simp only [Act.put, List.setIfInBounds_toArray, List.set_cons_zero, List.set_cons_succ]) | (refine seq_skip rfl (by rfl) ?_; simp only [Act.put, List.setIfInBounds_toArray, List.set_cons_zero, List.set_cons_succ]))
                  refine seq_nil ?_
                  go_wp2
                  go_ret
                  refine ⟨ret_int hr.out, HBW.out.trans (Below.mono (B := X.heap.size) ?_ HBW.out.size)⟩
                  have hq := hB.out
                  (repeat' (first | with_reducible assumption | with_reducible exact Below.refl _ _ | with_reducible refine Below.drew ?_ | with_reducible refine below_drewN ?_ _ | with_reducible refine Below.alloc ?_ ?_ _ | with_reducible refine Below.setCell ?_ ?_ _ | omega | (simp; done) | (simp; omega)))
                · have g3 : decide (n ≤ c.thread) = false := by simpa using t1
                  have hgood := hgd (by omega)
                  have HOK : Hid (∀ (j : Nat) (e : Ev), j < k + 1 → es[j]? = some e → okEv n calls e = true) := hide (fun j e' hj he' => by
                    by_cases hjk : j = k
                    · subst hjk
                      rw [he] at he'
                      cases he'
                      exact hgood
                    · exact hok.out j e' (by omega) he')
                  clear t0 t1 hbd hgd hi2 he hgood
                  go_wp2_with fail
                  refine wp_region_seq (Below wr.heap.size wr) (.take 0 <| .take 1 <| .take 2 <| .take 3 <| .take 4 <| .take 5 <| .take 6 <| .take 7 <| .take 8 <| .take 9 <| .take 10 <| .take 11 <| .take 12 <| .take 13 <| .take 14 <| .take 15 <| .take 16 <| .take 17 <| .take 18 <| .take 19 <| .take 20 <| .take 21 <| .take 22 <| .take 23 <| .take 24 <| .take 25 <| .take 26 <| .take 27 <| .take 28 <| .take 29 <| .take 30 <| .take 31 <| .take 32 <| .take 33 <| .take 34 <| .take 35 <| .take 36 <| .take 37 <| .take 38 <| .take 39 <| .take 40 <| .take 41 <| .take 42 <| .take 43 <| .take 44 <| .done) (by kernel_rfl) (by kernel_rfl) (by kernel_rfl) (by (repeat' (first | with_reducible assumption | with_reducible exact Below.refl _ _ | with_reducible refine Below.drew ?_ | with_reducible refine below_drewN ?_ _ | with_reducible refine Below.alloc ?_ ?_ _ | with_reducible refine Below.setCell ?_ ?_ _ | omega | (simp; done) | (simp; omega)))) ?_
                  iterate 45 (first | (refine seq_take (v := ?_) rfl (by rfl) ?_ ?_; rotate_left; (focus (intro wS hS; have z0 := (hS.cell (p := ⟨w.heap.size, 0, none⟩) bz).trans a0; have z2 := (hS.cell (p := ⟨w.heap.size, 2, none⟩) bz).trans a2; have y0 := (hS.cell (p := ⟨g, o + k * 8, none⟩) gz).trans u0; have k0 := (hS.cell (p := ⟨gc, oc + i2 * 6, none⟩) gcz).trans x0; go_simp; exact rfl)); simp only [Act.put, List.setIfInBounds_toArray, List.set_cons_zero, List.set_cons_succ]) | (refine seq_skip rfl (by rfl) ?_; simp only [Act.put, List.setIfInBounds_toArray, List.set_cons_zero, List.set_cons_succ]))
                  refine seq_nil ?_
                  go_wp2
                  go_roundw
                  case rel =>
                    refine ⟨k + 1, by omega, by go_num, HOK, hide ?_⟩
                    have hq := hB.out
                    (repeat' (first | with_reducible assumption | with_reducible exact Below.refl _ _ | with_reducible refine Below.drew ?_ | with_reducible refine below_drewN ?_ _ | with_reducible refine Below.alloc ?_ ?_ _ | with_reducible refine Below.setCell ?_ ?_ _ | omega | (simp; done) | (simp; omega)))
                  case measure => first | (simp [intOf]; done) | (simp [intOf]; omega)
        · have hr : Hid (0 = E) := hide (by rw [HNE.out, okEv_all (fun j e hj he => hok.out j e (by omega) he)]; simp)
          have d9 : decide ((k : Int) < (es.length : Int)) = false := by simp; omega
          have d8 : decide (k < es.length) = false := by simp; omega
          have hle : es.length ≤ k := by omega
          clear ge3
          go_wp2
          go_ret
          exact ⟨ret_int hr.out, HBW.out.trans (hB.out.mono HBW.out.size)⟩
  · have d0 : (LE != 0) = true := by simp [h0]
    have d0' : (LE == 0) = false := by simp [h0]
    have hr : Hid (LE = E) := hide (by rw [← HE.out]; unfold srchE; rw [HLE.out, if_pos h0])
    clear h0
    go_wp2
    go_ret
    exact ⟨ret_int hr.out, HBW.out⟩
end Go.Proofs.YtmiimpmfkjcjlaaGreat
