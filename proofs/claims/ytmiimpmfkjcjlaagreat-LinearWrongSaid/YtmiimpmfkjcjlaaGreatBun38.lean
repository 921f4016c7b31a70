import Derived.Test.YtmiimpmfkjcjlaaGreatBun16
import Derived.Test.YtmiimpmfkjcjlaaGreatBun9
import Derived.Test.YtmiimpmfkjcjlaaGreatBun14
import Derived.Test.YtmiimpmfkjcjlaaGreatBun10
import Derived.Test.YtmiimpmfkjcjlaaGreatBun37
import Derived.Test.YtmiimpmfkjcjlaaGreatBun32
import Derived.Test.YtmiimpmfkjcjlaaGreatChecked
import Derived.Test.YtmiimpmfkjcjlaaGreatRows
import Derived.Test.YtmiimpmfkjcjlaaGreatBun1
import Derived.Deep.Slices
import Derived.Deep.Fields
import Derived.ChangeSame
import Derived.OpenShut
import Derived.ProofKit
import Derived.Test.YtmiimpmfkjcjlaaGreatBun2
namespace Go.Proofs.YtmiimpmfkjcjlaaGreat
open Go.RowKit
theorem sizesT_get {n : Int} {l : List Sp} {k : Nat} {s : Sp} (h : l[k]? = some s) : (sizesT n l)[k]? = some (sizeT n s.kind s.p s.q) := by unfold sizesT; rw [List.getElem?_map, h]; rfl
set_option maxRecDepth 100000 in
set_option maxHeartbeats 2000000 in
theorem bases_any (n : Int) (A : Option Addr) (m c : Nat) (l : List Sp) (w : World) (h : SlSp w (.slice A m c) l) (hm : l.length = m) (hm8 : m ≤ 8) (hn1 : 1 ≤ n) (hn2 : n ≤ 16) (hok : ∀ s ∈ l, sizeE n s = 0) :
    Calls Tryz.prog 64 #[.int .i64 n, .slice A m c] w (RegPost (sizesT n l) w) := by
  have hZ : Hid (∀ x ∈ sizesT n l, 0 ≤ x) := by
    intro x hx
    obtain ⟨s, hs, rfl⟩ := List.mem_map.1 hx
    have := sizeT_bd (hok s hs)
    omega
  have hM := hide hm
  have HH := hide h
  have HOK := hide hok
  have hlen : Hid ((sizesT n l).length = m) := by show _ = _; simp [sizesT, hm]
  obtain ⟨j0, hj, hj0, hj1, hj2⟩ := info_parts info_int
  clear hm h hok
  go_enter Tryz.func64, Tryz.ntmps64
  go_wp2
  go_loopw [7, 8, 9, 14] (fun out en lg i wr => ∃ (k : Nat) (E : Int) (b : Bool) (ys : List Int), k ≤ m ∧ en = .int .i64 E ∧ lg = .bool b ∧ i = .int .i64 k ∧ 0 ≤ E ∧ E ≤ 65536 ∧ Hid (b = false → psum (sizesT n l) k = E ∧ ys = begins (sizesT n l) k) ∧ Hid (b = true → 65536 < (sizesT n l).sum) ∧ Hid (IOwn wr w.heap.size out k ys) ∧ Hid (Below w.heap.size w wr)) (fun _ _ _ i _ => m - (intOf i).toNat)
  case atStart => exact ⟨0, 0, false, [], Nat.zero_le _, rfl, rfl, rfl, by decide, by decide, hide (fun _ => ⟨psum_zero _, rfl⟩), hide (fun h => by cases h), hide (World.ownsRow_nil _ _ _ _), hide (Below.refl _ _)⟩
  case round =>
    obtain ⟨k, E, lg, ys, hk, rfl, rfl, rfl, hE0, hE1, hF, hT, hown, hB⟩ := hrel
    by_cases hlt : k < m
    · obtain ⟨s, hsk⟩ : ∃ s, l[k]? = some s := ⟨_, List.getElem?_eq_getElem (by have := hM.out; omega)⟩
      obtain ⟨A', c', e, _, _, h3⟩ := HH.out.below hB.out (Nat.le_refl _)
      obtain ⟨b, oo, e', hb, hc⟩ := h3 k s hsk
      rw [hM.out] at e
      cases e
      cases e'
      obtain ⟨c0, c1, c2⟩ := spec_cells hc
      have hsE := HOK.out s (List.mem_of_getElem? hsk)
      obtain ⟨_, hkk, hr⟩ := sizeE_zero hsE
      have hbd := sizeT_bd hsE
      have NS1 := fun W => psize_any n s hn1 hn2 hkk.1 hkk.2 W
      rw [if_pos hr] at NS1
      have hps := psum_succ (sizesT_get (n := n) hsk)
      generalize sizeT n s.kind s.p s.q = x at *
      have HPS := hide hps
      have q0 : (0 : Int) ≤ (k : Int) := by omega
      have q1 : (k : Int) < (m : Int) := by omega
      have d0 : decide (x < 0) = false := by simp; omega
      have hmono := psum_mono hZ.out (show k + 1 ≤ (sizesT n l).length by rw [hlen.out]; omega)
      have HMO := hide hmono
      clear h3 hsk hc hsE hkk hr hps hmono
      go_wp2_with fail
      refine (NS1 _).mono ?_
      rintro e w2 ⟨rfl, hb2⟩
      have hB2 := hB.out.trans (hb2.mono hB.out.size)
      have hown' := World.ownsRow.kept hown.out (grown_of_below hb2 none) (by by_cases hh : Value.ownBlock u7 = none; (exact Or.inl hh); exact Or.inr hh)
      have hsz2 := hB2.size
      clear hb2 hown hB
      by_cases hbig : x ≤ 65536 - E
      · have d1 : decide (65536 - E < x) = false := by simp; omega
        have HT' : Hid (lg = false → psum (sizesT n l) (k + 1) = E + x ∧ ys ++ [E] = begins (sizesT n l) (k + 1)) := by
          intro hlg
          obtain ⟨a1, a2⟩ := hF.out hlg
          exact ⟨by rw [HPS.out, a1], by rw [begins_succ, a2, a1]⟩
        go_wp2_with (at_builtin; refine wpList_append_own_at _ rfl _ _ 42 rfl w.heap.size 3 j0 (.int .i64 0) 1 8 Tryz.underlying42 hj hj0 hj1 hj2 rfl (by decide) _ k _ rfl (hown'.alloc _) ⟨w2.heap.size, 0, none⟩ 1 1 [.int .i64 E] rfl rfl (new_one _ _ _) (by simp [Value.oneCell']) (by unfold maxLen; omega) (by omega) (by simp; omega) ?_; intro v5 w5 hown5 hgrow _ _; have HO : Hid (IOwn w5 w.heap.size v5 (k + 1) (ys ++ [E])) := hide (by unfold IOwn; rw [List.map_append]; exact hown5); have HB := hide ((hB2.alloc hsz2 _).grown hgrow (by simp; omega) (fun j hj => (hown'.lt j hj).1)); clear hown5 hgrow hown' hB2)
        go_roundw
        case rel => exact ⟨k + 1, E + x, lg, ys ++ [E], by omega, rfl, rfl, by go_num, by omega, by omega, HT', hT, HO, HB⟩
        case measure => first | (simp [intOf]; done) | (simp [intOf]; omega)
      · have d1 : decide (65536 - E < x) = true := by simp; omega
        have HT' : Hid (65536 < (sizesT n l).sum) := by
          show 65536 < (sizesT n l).sum
          by_cases hlg : lg = true
          · exact hT.out hlg
          · have a1 := (hF.out (by simpa using hlg)).1
            have a2 := HMO.out
            rw [psum_all, HPS.out, a1] at a2
            omega
        go_wp2_with (at_builtin; refine wpList_append_own_at _ rfl _ _ 42 rfl w.heap.size 3 j0 (.int .i64 0) 1 8 Tryz.underlying42 hj hj0 hj1 hj2 rfl (by decide) _ k _ rfl (hown'.alloc _) ⟨w2.heap.size, 0, none⟩ 1 1 [.int .i64 E] rfl rfl (new_one _ _ _) (by simp [Value.oneCell']) (by unfold maxLen; omega) (by omega) (by simp; omega) ?_; intro v5 w5 hown5 hgrow _ _; have HO : Hid (IOwn w5 w.heap.size v5 (k + 1) (ys ++ [E])) := hide (by unfold IOwn; rw [List.map_append]; exact hown5); have HB := hide ((hB2.alloc hsz2 _).grown hgrow (by simp; omega) (fun j hj => (hown'.lt j hj).1)); clear hown5 hgrow hown' hB2)
        go_roundw
        case rel => exact ⟨k + 1, E, true, ys ++ [E], by omega, by first | rfl | go_num, rfl, by go_num, by omega, by omega, hide (fun h => by cases h), hide (fun _ => HT'.out), HO, HB⟩
        case measure => first | (simp [intOf]; done) | (simp [intOf]; omega)
    · obtain rfl : k = m := by omega
      cases lg
      · obtain ⟨a1, a2⟩ := hF.out rfl
        have HA1 := hide a1
        subst a2
        clear a1
        go_wp2
        go_ret3
        have hs : (sizesT n l).sum = E := by rw [← psum_all, hlen.out]; exact HA1.out
        exact regPost_ok (by omega) hs (by rw [hlen.out]; exact hown.out) (by rw [hlen.out]; unfold maxLen; omega) hB.out
      · have ht := hT.out rfl
        go_wp2
        go_ret3
        exact regPost_no (by omega) hB.out
set_option maxRecDepth 100000 in
set_option maxHeartbeats 2000000 in
theorem refLay_any (n : Int) (A : Option Addr) (m c : Nat) (l : List Sp) (w : World) (h : SlSp w (.slice A m c) l) (hm : l.length = m) :
    Calls Tryz.prog 31 #[.int .i64 n, .slice A m c] w fun e w' => e = .returned (.int .i64 (layE n l)) ∧ Below w.heap.size w w' := by
  have hle : m ≤ maxLen := by obtain ⟨_, _, e, h1, h2, _⟩ := h; cases e; omega
  by_cases hn : 1 ≤ n ∧ n ≤ 16
  · have n0 : decide (n < 1) = false := by simp; omega
    have n1 : decide (16 < n) = false := by simp; omega
    by_cases h8 : 8 < m
    · have hE : Hid (layE n l = 3) := by show _ = _; unfold layE; rw [if_neg (by omega), if_pos (by omega)]
      have h8' : (8 : Int) < (m : Int) := by omega
      clear hm hn hle
      go_enter Tryz.func31, Tryz.ntmps31
      go_wp2
      go_ret
      exact ⟨ret_int hE.out.symm, by (repeat' (first | exact Below.refl _ _ | assumption | refine Below.drew ?_ | refine below_drewN ?_ _ | refine Below.alloc ?_ (by simp <;> omega) _ | refine Below.setCell ?_ (by simp <;> omega) _))⟩
    · have h8' : ¬ (8 : Int) < (m : Int) := by omega
      have hm0 : (m : Int) ≤ 8 := by omega
      have hM := hide hm
      have HH := hide h
      have HN := hide hn
      have NS := fun s W => refSize_any n s W
      clear hm hn hle h
      go_enter Tryz.func31, Tryz.ntmps31
      go_wp2
      go_loopw [22] (fun i wr => ∃ (k : Nat), k ≤ m ∧ i = .int .i64 k ∧ Hid (firstE n l = firstE n (l.drop k)) ∧ Hid (Below w.heap.size w wr)) (fun i _ => m - (intOf i).toNat)
      case atStart => exact ⟨0, Nat.zero_le _, rfl, hide rfl, hide (Below.refl _ _)⟩
      case round =>
        obtain ⟨k, hk, rfl, hF, hB⟩ := hrel
        by_cases hlt : k < m
        · obtain ⟨s, hsk⟩ : ∃ s, l[k]? = some s := ⟨_, List.getElem?_eq_getElem (by have := hM.out; omega)⟩
          obtain ⟨A', c', e, _, _, h3⟩ := HH.out.below hB.out (Nat.le_refl _)
          obtain ⟨b, oo, e', hb, hc⟩ := h3 k s hsk
          rw [hM.out] at e
          cases e
          cases e'
          obtain ⟨c0, c1, c2⟩ := spec_cells hc
          have q0 : (0 : Int) ≤ (k : Int) := by omega
          have q1 : (k : Int) < (m : Int) := by omega
          have hstep := firstE_step (n := n) hsk
          have NS1 := fun W => NS s W
          generalize sizeV n s = V at NS1
          clear h3 hsk hc
          by_cases hE : sizeE n s = 0
          · rw [if_pos hE] at hstep
            rw [hE] at NS1
            have HF := hide hstep
            clear hstep hE
            go_wp2_with fail
            refine (NS1 _).mono ?_
            rintro e w2 ⟨rfl, hb2⟩
            have HB2 := hide (hB.out.trans (hb2.mono hB.out.size))
            clear hb2
            go_wp2
            go_roundw
            case rel => exact ⟨k + 1, by omega, by go_num, hide (by rw [hF.out, HF.out]), HB2⟩
            case measure => first | (simp [intOf]; done) | (simp [intOf]; omega)
          · rw [if_neg hE] at hstep
            obtain ⟨E, hEE⟩ : ∃ E, sizeE n s = E := ⟨_, rfl⟩
            rw [hEE] at NS1 hE hstep
            have HL : Hid (layE n l = E) := by
              have hn := HN.out
              have hf := hF.out
              show _ = _
              unfold layE
              rw [if_neg (by omega), if_neg (by have := hM.out; omega), hf, hstep, if_neg hE]
            have he : (E != 0) = true := by simpa using hE
            clear hEE hstep
            go_wp2_with fail
            refine (NS1 _).mono ?_
            rintro e w2 ⟨rfl, hb2⟩
            go_wp2
            go_ret
            exact ⟨ret_int HL.out.symm, hB.out.trans (hb2.mono hB.out.size)⟩
        · obtain rfl : k = m := by omega
          have h0 : firstE n l = 0 := by rw [hF.out, ← hM.out, List.drop_length]; rfl
          have NB := fun W h => bases_any n A k c l W h hM.out (by omega) HN.out.1 HN.out.2 (firstE_all h0)
          have HL : Hid (layE n l = regE (sizesT n l)) := by
            have hn := HN.out
            show _ = _
            unfold layE
            rw [if_neg (by omega), if_neg (by have := hM.out; omega), if_pos h0]
          unfold RegPost at NB
          have hHH := HH.out.below hB.out (Nat.le_refl _)
          generalize regE (sizesT n l) = E at *
          generalize regEnd (sizesT n l) = EN at *
          generalize regL (sizesT n l) = RL at *
          clear h0
          go_wp2_with fail
          refine (NB _ hHH).mono ?_
          rintro e w2 ⟨u, rfl, hs2, hb2⟩
          go_wp2
          go_ret
          exact ⟨ret_int HL.out.symm, hB.out.trans (hb2.mono hB.out.size)⟩
  · have hE : Hid (layE n l = 1) := by show _ = _; unfold layE; rw [if_pos hn]
    rcases (by omega : n < 1 ∨ 1 ≤ n ∧ 16 < n) with h0 | ⟨h0, h1⟩
    · have n0 : decide (n < 1) = true := by simp; omega
      clear hm hn hle
      go_enter Tryz.func31, Tryz.ntmps31
      go_wp2
      go_ret
      exact ⟨ret_int hE.out.symm, by (repeat' (first | exact Below.refl _ _ | assumption | refine Below.drew ?_ | refine below_drewN ?_ _ | refine Below.alloc ?_ (by simp <;> omega) _ | refine Below.setCell ?_ (by simp <;> omega) _))⟩
    · have n0 : decide (n < 1) = false := by simp; omega
      have n1 : decide (16 < n) = true := by simp; omega
      clear hm hn hle
      go_enter Tryz.func31, Tryz.ntmps31
      go_wp2
      go_ret
      exact ⟨ret_int hE.out.symm, by (repeat' (first | exact Below.refl _ _ | assumption | refine Below.drew ?_ | refine below_drewN ?_ _ | refine Below.alloc ?_ (by simp <;> omega) _ | refine Below.setCell ?_ (by simp <;> omega) _))⟩
end Go.Proofs.YtmiimpmfkjcjlaaGreat

namespace Go.Proofs.YtmiimpmfkjcjlaaGreat
open Go.RowKit
set_option maxRecDepth 100000 in
set_option maxHeartbeats 2000000 in
theorem many28 (n ticks : Int) (As A Ap : Option Addr) (ms cS m c mp cp : Nat) (L : Value) (es : List Ev) (w : World) (hs : ms ≤ maxLen) (hm : m ≤ maxLen) (hp : mp ≤ maxLen) (h : SlEv w L es) :
    Calls Tryz.prog 28 #[.agg #[.int .i64 n, .slice As ms cS, .slice A m c, .slice Ap mp cp, L, .int .i64 ticks]] w fun e w' => ∃ B : Bool, e = .returned (.bool B) ∧ (B = false → es.length ≤ 100) ∧ Below w.heap.size w w' := by
  obtain ⟨Ae, ce, rfl, g1, g2, g3⟩ := h
  have he63 : (es.length : Int) ≤ 9223372036854775807 := by unfold maxLen at g2; omega
  have N0 := fun W => large_any n As A Ap ms cS m c mp cp W hs hm hp
  generalize largeB ms m mp = R at *
  obtain ⟨W1, hW1⟩ : ∃ W, W = w.alloc (.cells #[.int .i64 n, .slice As ms cS, .slice A m c, .slice Ap mp cp, .slice Ae es.length ce, .int .i64 ticks] 73) := ⟨_, rfl⟩
  have HB1 : Hid (Below w.heap.size w W1) := hide (by rw [hW1]; exact (Below.refl _ _).alloc (Nat.le_refl _) _)
  have r4 : W1.cell? ⟨w.heap.size, 4, none⟩ = some (.slice Ae es.length ce) := by rw [hW1]; exact cell_of_row _ _ 4 _ _ _ (heap_alloc_new _ _)
  have rz : w.heap.size < W1.heap.size := by rw [hW1]; simp
  go_enter Tryz.func28, Tryz.ntmps28
  go_wp2_with fail
  rw [← hW1]
  clear hW1
  refine (N0 _).mono ?_
  rintro e w2 ⟨rfl, hb2⟩
  have HB2 := hide (HB1.out.trans (hb2.mono HB1.out.size))
  replace r4 := (hb2.cell (p := ⟨w.heap.size, 4, none⟩) rz).trans r4
  replace rz : w.heap.size < w2.heap.size := Nat.lt_of_lt_of_le rz hb2.size
  clear hb2 N0
  cases R
  · by_cases h1 : 100 < es.length
    · have d0 : decide ((100 : Int) < (es.length : Int)) = true := by simp; omega
      have d1 : decide (100 < es.length) = true := by simp; omega
      clear h1
      go_wp2
      go_ret
      exact ⟨true, rfl, (fun h => by cases h), HB2.out⟩
    · have d0 : decide ((100 : Int) < (es.length : Int)) = false := by simp; omega
      have d1 : decide (100 < es.length) = false := by simp; omega
      have H1 := hide h1
      clear h1
      go_wp2
      go_loopw [16] (fun i wr => ∃ k : Nat, k ≤ es.length ∧ i = .int .i64 k ∧ wr = w2) (fun i _ => es.length - (intOf i).toNat)
      case atStart => exact ⟨0, Nat.zero_le _, rfl, rfl⟩
      case round =>
        obtain ⟨k, hk, rfl, rfl⟩ := hrel
        by_cases hlt : k < es.length
        · obtain ⟨e, he⟩ : ∃ e, es[k]? = some e := ⟨_, List.getElem?_eq_getElem hlt⟩
          obtain ⟨g, o, rfl, hg, hce⟩ := g3 k e he
          have u7 := (ev_cells (hce.of_block (w' := wr) (HB2.out.block g hg))).2.2.2.2.2.2.2
          have q0 : (0 : Int) ≤ (k : Int) := by omega
          have q1 : (k : Int) < (es.length : Int) := by omega
          clear he hce
          by_cases hk1 : 100 < e.kN
          · have d2 : decide ((100 : Int) < (e.kN : Int)) = true := by simp; omega
            have d3 : decide (100 < e.kN) = true := by simp; omega
            clear hk1
            go_wp2
            go_ret
            exact ⟨true, rfl, (fun h => by cases h), HB2.out⟩
          · have d2 : decide ((100 : Int) < (e.kN : Int)) = false := by simp; omega
            have d3 : decide (100 < e.kN) = false := by simp; omega
            clear hk1
            go_wp2
            go_roundw
            case rel => exact ⟨k + 1, by omega, by go_num, trivial⟩
            case measure => first | (simp [intOf]; done) | (simp [intOf]; omega)
        · have d9 : decide ((k : Int) < (es.length : Int)) = false := by simp; omega
          have d8 : decide (k < es.length) = false := by simp; omega
          go_wp2
          go_ret
          exact ⟨false, rfl, fun _ => by have := H1.out; omega, HB2.out⟩
  · go_wp2
    go_ret
    exact ⟨true, rfl, (fun h => by cases h), HB2.out⟩
end Go.Proofs.YtmiimpmfkjcjlaaGreat

namespace Go.Proofs.YtmiimpmfkjcjlaaGreat
open Go.RowKit
structure L28 (W : World) (n : Int) (S C P L : Value) (specs : List Sp) (calls : List Cl) (es : List Ev) (ls ky : Nat → List Int) : Prop where
  ctx : PwCtx W S C L specs calls es ls ky
  pk : ∃ a b c, P = .slice a b c ∧ b ≤ maxLen
  word : ∀ c ∈ calls, U64 c.a ∧ U64 c.b ∧ U64 c.c
  wf : ∀ e ∈ es, EvWf e
  kw : ∀ (k : Nat) (e : Ev), es[k]? = some e → ∀ x ∈ ky k, (Lit.int .i64 x).wf = true
set_option maxRecDepth 100000 in
set_option maxHeartbeats 4000000 in
theorem law28w (n ticks : Int) (S C P L : Value) (specs : List Sp) (calls : List Cl) (es : List Ev) (ls ky : Nat → List Int) (w : World) (h : L28 w n S C P L specs calls es ls ky) :
    Calls Tryz.prog 6 #[.agg #[.int .i64 n, S, C, P, L, .int .i64 ticks]] w fun e w' => e = .returned (.bool true) ∧ Below w.heap.size w w' := by
  obtain ⟨Pa, Pb, Pc, rfl, hPb⟩ := h.pk
  obtain ⟨Ae, ce, rfl, ge1, ge2, ge3⟩ := id h.ctx.key.evs
  obtain ⟨As, cs, rfl, gs1, gs2, gs3⟩ := id h.ctx.specs
  obtain ⟨Ac, cc, rfl, gc1, gc2, gc3⟩ := id h.ctx.calls
  have NM := fun W (hW : SlEv W (.slice Ae es.length ce) es) => many28 n ticks As Ac Pa specs.length cs calls.length cc Pb Pc (.slice Ae es.length ce) es W (by omega) (by omega) hPb hW
  have NT := fun W => twice_any W
  have HX := hide h
  obtain ⟨W1, hW1⟩ : ∃ W, W = w.alloc (.cells #[.int .i64 n, .slice As specs.length cs, .slice Ac calls.length cc, .slice Pa Pb Pc, .slice Ae es.length ce, .int .i64 ticks] 73) := ⟨_, rfl⟩
  have HB1 : Hid (Below w.heap.size w W1) := hide (by rw [hW1]; exact (Below.refl _ _).alloc (Nat.le_refl _) _)
  have r0 : W1.cell? ⟨w.heap.size, 0, none⟩ = some (.int .i64 n) := by rw [hW1]; exact cell_of_row _ _ 0 _ _ _ (heap_alloc_new _ _)
  have r1 : W1.cell? ⟨w.heap.size, 1, none⟩ = some (.slice As specs.length cs) := by rw [hW1]; exact cell_of_row _ _ 1 _ _ _ (heap_alloc_new _ _)
  have r2 : W1.cell? ⟨w.heap.size, 2, none⟩ = some (.slice Ac calls.length cc) := by rw [hW1]; exact cell_of_row _ _ 2 _ _ _ (heap_alloc_new _ _)
  have r3 : W1.cell? ⟨w.heap.size, 3, none⟩ = some (.slice Pa Pb Pc) := by rw [hW1]; exact cell_of_row _ _ 3 _ _ _ (heap_alloc_new _ _)
  have r4 : W1.cell? ⟨w.heap.size, 4, none⟩ = some (.slice Ae es.length ce) := by rw [hW1]; exact cell_of_row _ _ 4 _ _ _ (heap_alloc_new _ _)
  have r5 : W1.cell? ⟨w.heap.size, 5, none⟩ = some (.int .i64 ticks) := by rw [hW1]; exact cell_of_row _ _ 5 _ _ _ (heap_alloc_new _ _)
  have rz : w.heap.size < W1.heap.size := by rw [hW1]; simp
  clear h ge3 gs3 gc3 hPb
  go_enter Tryz.func6, Tryz.ntmps6
  go_wp2_with fail
  rw [← hW1]
  clear hW1
  refine (NM _ (HX.out.ctx.key.evs.below HB1.out (Nat.le_refl _))).mono ?_
  rintro e w2 ⟨B, rfl, hBe, hb2⟩
  have HB2 := hide (HB1.out.trans (hb2.mono HB1.out.size))
  replace r0 := (hb2.cell (p := ⟨w.heap.size, 0, none⟩) rz).trans r0
  replace r1 := (hb2.cell (p := ⟨w.heap.size, 1, none⟩) rz).trans r1
  replace r2 := (hb2.cell (p := ⟨w.heap.size, 2, none⟩) rz).trans r2
  replace r3 := (hb2.cell (p := ⟨w.heap.size, 3, none⟩) rz).trans r3
  replace r4 := (hb2.cell (p := ⟨w.heap.size, 4, none⟩) rz).trans r4
  replace r5 := (hb2.cell (p := ⟨w.heap.size, 5, none⟩) rz).trans r5
  replace rz : w.heap.size < w2.heap.size := Nat.lt_of_lt_of_le rz hb2.size
  clear hb2 NM
  cases B
  · have hm : es.length ≤ 100 := hBe rfl
    have NW := fun W (hW : Below w.heap.size w W) => linWrong_any n (.slice As specs.length cs) (.slice Ac calls.length cc) (.slice Ae es.length ce) specs calls es ls ky W (HX.out.ctx.below hW) (by omega) HX.out.word
    have NL := fun W (hW : Below w.heap.size w W) => refLay_any n As specs.length cs specs W (HX.out.ctx.specs.below hW (Nat.le_refl _)) rfl
    have NP := fun (hl : layE n specs = 0) W (hW : Below w.heap.size w W) => pwrong_any n (.slice As specs.length cs) (.slice Ac calls.length cc) (.slice Ae es.length ce) specs calls es ls ky W (HX.out.ctx.below hW) hl (by omega) HX.out.word
    have HNW := hide NW
    have HNL := hide NL
    have HNP := hide NP
    clear NW NL NP hBe hm
    obtain ⟨W3, hW3⟩ : ∃ W, W = w2.alloc (.cells #[.int .i64 n, .slice As specs.length cs, .slice Ac calls.length cc, .slice Pa Pb Pc] 44) := ⟨_, rfl⟩
    have HB3 : Hid (Below w.heap.size w W3) := hide (by rw [hW3]; exact HB2.out.alloc HB2.out.size _)
    obtain ⟨a0, a1, a2, a3, az⟩ := cells4 (show W3.heap[w2.heap.size]? = some (.cells #[.int .i64 n, .slice As specs.length cs, .slice Ac calls.length cc, .slice Pa Pb Pc] 44 (0, 0)) from by rw [hW3]; exact heap_alloc_new _ _)
    have q4 : W3.cell? ⟨w.heap.size, 4, none⟩ = some (.slice Ae es.length ce) := by
      have hb : Below w2.heap.size w2 W3 := by rw [hW3]; exact (Below.refl _ _).alloc (Nat.le_refl _) _
      exact (hb.cell (p := ⟨w.heap.size, 4, none⟩) rz).trans r4
    have qz : w.heap.size < W3.heap.size := by omega
    go_wp2_with fail
    rw [← hW3]
    clear hW3 r0 r1 r2 r3 r4 r5
    refine (HNW.out _ HB3.out).mono ?_
    rintro e4 w4 ⟨hb4, hR⟩
    have HB4 := hide (HB3.out.trans (hb4.mono HB3.out.size))
    replace a0 := (hb4.cell (p := ⟨w2.heap.size, 0, none⟩) az).trans a0
    replace a1 := (hb4.cell (p := ⟨w2.heap.size, 1, none⟩) az).trans a1
    replace a2 := (hb4.cell (p := ⟨w2.heap.size, 2, none⟩) az).trans a2
    replace q4 := (hb4.cell (p := ⟨w.heap.size, 4, none⟩) qz).trans q4
    replace az : w2.heap.size < w4.heap.size := Nat.lt_of_lt_of_le az hb4.size
    replace qz : w.heap.size < w4.heap.size := Nat.lt_of_lt_of_le qz hb4.size
    clear hb4 HNW
    rcases hR with ⟨h1, rfl⟩ | ⟨h1, h2, rfl⟩ | ⟨h1, h2, LL, h3, rfl⟩
    · have g0 : (layE n specs != 0) = true := by simpa using h1
      have g1 : (layE n specs == 0) = false := by simpa using h1
      generalize layE n specs = LE at *
      clear h1
      go_wp2_with fail
      refine (HNL.out _ HB4.out).mono ?_
      rintro e5 w5 ⟨rfl, hb5⟩
      have HB5 := hide (HB4.out.trans (hb5.mono HB4.out.size))
      clear hb5
      go_wp2_with fail
      refine (NT _).mono ?_
      rintro e9 w9 ⟨rfl, hb9⟩
      have HB9 := hide hb9
      clear hb9 NT
      go_wp2
      go_ret
      exact ⟨rfl, HB5.out.trans (HB9.out.mono HB5.out.size)⟩
    · have HNP2 := hide (HNP.out h1)
      rw [h1] at HNL
      have hb := (badEv_iff (n := n) (calls := calls) HX.out.ctx.key).2 h2
      have HBad := hide hb
      clear h1 h2 hb HNP
      go_wp2_with fail
      refine (HNL.out _ HB4.out).mono ?_
      rintro e5 w5 ⟨rfl, hb5⟩
      have HB5 := hide (HB4.out.trans (hb5.mono HB4.out.size))
      replace a0 := (hb5.cell (p := ⟨w2.heap.size, 0, none⟩) az).trans a0
      replace a1 := (hb5.cell (p := ⟨w2.heap.size, 1, none⟩) az).trans a1
      replace a2 := (hb5.cell (p := ⟨w2.heap.size, 2, none⟩) az).trans a2
      replace q4 := (hb5.cell (p := ⟨w.heap.size, 4, none⟩) qz).trans q4
      clear hb5 HNL
      go_wp2_with fail
      refine (HNP2.out _ HB5.out).mono ?_
      rintro e6 w6 ⟨r, rfl, hr, hb6⟩
      have HB6 := hide (HB5.out.trans (hb6.mono HB5.out.size))
      obtain rfl : r = -2 := by
        rcases hr with ⟨_, h⟩ | ⟨h, _⟩
        · exact h
        · exact absurd HBad.out h
      clear hb6 hr HNP2 a0 a1 a2 q4
      go_wp2_with fail
      refine (NT _).mono ?_
      rintro e9 w9 ⟨rfl, hb9⟩
      have HB9 := hide hb9
      clear hb9 NT
      go_wp2
      go_ret
      exact ⟨rfl, HB6.out.trans (HB9.out.mono HB6.out.size)⟩
    · have HNP2 := hide (HNP.out h1)
      rw [h1] at HNL
      have hnb : ¬ BadEv n calls es ky := fun hb => by have := (badEv_iff (n := n) (calls := calls) HX.out.ctx.key).1 hb; rw [h2] at this; cases this
      obtain ⟨RR, hRR⟩ : ∃ RR, wrongI (runL n specs calls es ls LL (specs.map (newM n))) = RR := ⟨_, rfl⟩
      have hge : -1 ≤ RR := by rw [← hRR]; unfold wrongI; split <;> omega
      have g0 : (RR == -2) = false := by rw [beq_eq_false_iff_ne]; omega
      have HONE : Hid (∀ r, PWrong n specs calls es ls ky r → r = RR) := hide (fun r hr => by
        rcases hr with ⟨h, _⟩ | ⟨_, L', h4, h5⟩
        · exact absurd h hnb
        · rw [h5, IsOrd.one h4 h3, hRR])
      rw [hRR]
      clear h1 h2 h3 hRR hnb HNP hge
      go_wp2_with fail
      refine (HNL.out _ HB4.out).mono ?_
      rintro e5 w5 ⟨rfl, hb5⟩
      have HB5 := hide (HB4.out.trans (hb5.mono HB4.out.size))
      replace a0 := (hb5.cell (p := ⟨w2.heap.size, 0, none⟩) az).trans a0
      replace a1 := (hb5.cell (p := ⟨w2.heap.size, 1, none⟩) az).trans a1
      replace a2 := (hb5.cell (p := ⟨w2.heap.size, 2, none⟩) az).trans a2
      replace q4 := (hb5.cell (p := ⟨w.heap.size, 4, none⟩) qz).trans q4
      clear hb5 HNL
      go_wp2_with fail
      refine (HNP2.out _ HB5.out).mono ?_
      rintro e6 w6 ⟨r, rfl, hr, hb6⟩
      have HB6 := hide (HB5.out.trans (hb6.mono HB5.out.size))
      obtain rfl : r = RR := HONE.out r hr
      clear hb6 hr HNP2 a0 a1 a2 q4
      go_wp2_with fail
      refine (NT _).mono ?_
      rintro e9 w9 ⟨rfl, hb9⟩
      have HB9 := hide hb9
      clear hb9 NT
      go_wp2
      go_ret
      exact ⟨rfl, HB6.out.trans (HB9.out.mono HB6.out.size)⟩
  · clear hBe
    go_wp2_with fail
    refine (NT _).mono ?_
    rintro e9 w9 ⟨rfl, hb9⟩
    have HB9 := hide hb9
    clear hb9 NT
    go_wp2
    go_ret
    exact ⟨rfl, HB2.out.trans (HB9.out.mono HB2.out.size)⟩
end Go.Proofs.YtmiimpmfkjcjlaaGreat

namespace Go.Proofs.YtmiimpmfkjcjlaaGreat
open Go.ChangeShapes Go.WideShapes Go.ChangeAt Go.RowKit Go.Deep
theorem Tryz.own : ownKnob Tryz.prog.godebug = none := by kernel_rfl
theorem Tryz.laidOut : laidOutB Tryz.prog = true := by kernel_rfl
section
variable {H : Type} {enc : TypeId × Value → H} {P : Program}
theorem post_of_below {f : Func} {s : ChangeSpec} {apart fresh handsOn again : Bool} {W W' : World} {args : Array Value} {v : Value} {ds gs : List (DataW H)} {before pa pv : List MemPlace}
    (hW : DataW.Whole enc P f.params.toList s.vars apart W args.toList ds gs before)
    (hres : ∀ (b : Nat) (sp : Nat → Bool) (hd : Bool), DataW.TrodAll enc P W' b sp hd f.resultTypes.toList (v.resultList f.resultTypes.size) (s.fn H (ds ++ gs)).results [])
    (hargs : ∀ sp : Nat → Bool, (∀ p ∈ before, sp p.block = true) → DataW.TrodAll enc P W' 0 sp true f.params.toList args.toList (s.fn H (ds ++ gs)).args pa)
    (hvars : ∀ sp : Nat → Bool, (∀ p ∈ before, sp p.block = true) → DataW.TrodVars enc P W' sp s.vars (s.fn H (ds ++ gs)).vars pv)
    (hps : before = pa ++ pv) (hb : Below W.heap.size W W')
    (hok : ∀ (j : Nat) (t : TypeId) (r : Value), f.resultTypes[j]? = some t → (v.resultList f.resultTypes.size)[j]? = some r → Value.okWide P W' .any 0 t r) :
    s.post enc P f apart fresh handsOn again W args v W' := by
  have hlt : ∀ p ∈ before, p.block < W.heap.size := fun p hp => hW.lt p hp
  have hold : ∀ p ∈ before, (fun b => decide (b < W.heap.size)) p.block = true := fun p hp => by simpa using hlt p hp
  refine ⟨ds, gs, before, [], pa, pv, hW, hres _ _ _, hargs _ hold, hvars _ hold, World.keptBut_mono (fun p hp => ⟨hp, ?_⟩) (hb.frame (· ∈ before)), fun _ => ?_⟩
  · rw [hps, List.mem_append] at hp
    exact Or.inr hp
  · obtain ⟨_, _, _, _, _, hz, hn⟩ := hW
    refine ⟨hok, _, _, ([] ++ pa) ++ pv, ⟨[] ++ pa, pv, trodAll_append (hargs _ (fun _ _ => rfl)) (hres _ _ _), hvars _ (fun _ _ => rfl), rfl, ?_, ?_⟩, ?_⟩
    · intro b off hp
      have hin : MemPlace.cell b off ∈ before := by rw [hps]; simpa using hp
      rw [hb.frozen (hlt _ hin)]
      exact hz b off hin
    · intro ha
      have := hn ha
      rw [hps] at this
      simpa using this
    · intro p hp _
      rw [hps]
      simpa using hp
theorem trodAll_stays (hl : laidOutB P = true) {W W' : World} (hb : Below W.heap.size W W') {sp : Nat → Bool} : ∀ {ts : List TypeId} {vs : List Value} {ds : List (DataW H)} {ps : List MemPlace},
    (∀ t ∈ ts, P.readableRec t = true ∧ t < P.types.size) → DataW.TrodAll enc P W 0 (fun _ => true) true ts vs ds ps → (∀ p ∈ ps, p.block < W.heap.size) → (∀ p ∈ ps, sp p.block = true) →
    DataW.TrodAll enc P W' 0 sp true ts vs ds ps
  | [], [], [], _, _, h, _, _ => h
  | t :: ts, v :: vs, d :: ds, ps, ht, h, hlt, hs => by
    obtain ⟨p, q, h1, h2, rfl⟩ := h
    obtain ⟨hr, hrow⟩ := ht t (by simp)
    exact ⟨p, q, WideElems.Trod_stays hl hr hrow h1 (fun x hx => hb.same (hlt x (by simp [hx]))) (fun x hx => hs x (by simp [hx])), trodAll_stays hl hb (fun t h => ht t (by simp [h])) h2 (fun p h => hlt p (by simp [h])) (fun p h => hs p (by simp [h])), rfl⟩
theorem read_slv {α : Type} (en : α → List Value) (sz : Nat) (good : α → Prop) {W : World} {t e : TypeId} {v : Value} {d : DataW H} {p : List MemPlace} (ht : P.underlying t = some (.slice e)) (hC : P.cellsOf e = sz)
    (hel : ∀ (n : Nat) (cs : List Value) (x : DataW H × List MemPlace), cs.length = sz → DataW.trod enc P W 0 (fun _ => true) true n e cs = some x → ∃ a, cs = en a ∧ good a)
    (hv : ∃ a0 len0 cap0, v = .slice a0 len0 cap0) (h : DataW.Trod enc P W 0 (fun _ => true) true t v d p) (hsz : 0 < sz) : ∃ xs : List α, Sl en sz W v xs ∧ (∀ x ∈ xs, good x) ∧ xs.length ≤ maxLen := by
  obtain ⟨a0, len0, cap0, rfl⟩ := hv
  obtain ⟨fuel, hf⟩ := h
  rcases open_slice ht hf with ⟨hcs, _⟩ | ⟨a, len, cap, m, n, D, Pl, hcs, _, hlc, hcm, hm, _, hi⟩
  · simp only [Value.cells] at hcs
    cases hcs
    exact ⟨[], ⟨none, 0, rfl, Nat.le_refl _, Nat.zero_le _, fun k x hx => by simp at hx⟩, by simp, Nat.zero_le _⟩
  · simp only [Value.cells] at hcs
    cases hcs
    simp only [if_true] at hm
    subst hm
    have hel' : ∀ i, i < len0 → ∃ x : α, (∀ j u, (en x)[j]? = some u → W.cell? ((a.add (i * sz)).add j) = some u) ∧ good x ∧ (en x).length = sz := by
      intro i him
      obtain ⟨cs', hc, ht'⟩ := hi i (by omega)
      rw [hC] at hc
      obtain ⟨_, hcl, hat⟩ := World.cells?_some hc
      obtain ⟨x, rfl, hg⟩ := hel n cs' _ hcl ht'
      refine ⟨x, fun j u hu => ?_, hg, hcl⟩
      have hj : j < (en x).length := (List.getElem?_eq_some_iff.1 hu).1
      exact (hat j (by omega)).trans hu
    have hx : ∃ xs : List α, xs.length = len0 ∧ ∀ (i : Nat) (x : α), xs[i]? = some x → (∀ j u, (en x)[j]? = some u → W.cell? ((a.add (i * sz)).add j) = some u) ∧ good x ∧ (en x).length = sz := by
      clear hi hf
      have : ∀ k, k ≤ len0 → ∃ xs : List α, xs.length = k ∧ ∀ (i : Nat) (x : α), xs[i]? = some x → (∀ j u, (en x)[j]? = some u → W.cell? ((a.add (i * sz)).add j) = some u) ∧ good x ∧ (en x).length = sz := by
        intro k
        induction k with
        | zero => intro _; exact ⟨[], rfl, by simp⟩
        | succ k ih =>
          intro hk
          obtain ⟨xs, hl, hxs⟩ := ih (by omega)
          obtain ⟨x, hx⟩ := hel' k (by omega)
          refine ⟨xs ++ [x], by simp [hl], fun i y hy => ?_⟩
          rw [List.getElem?_append] at hy
          split at hy
          · exact hxs i y hy
          · rename_i hge
            have hik : i = k := by
              have := (List.getElem?_eq_some_iff.1 hy).1
              simp at this; omega
            subst hik
            rw [hl] at hy; simp at hy; subst hy; exact hx
      exact this len0 (Nat.le_refl _)
    obtain ⟨xs, hl, hxs⟩ := hx
    refine ⟨xs, ⟨some a, m, by rw [hl], by omega, hcm, fun k x hk => ?_⟩, fun x hx => ?_, by omega⟩
    · obtain ⟨h1, _, h2⟩ := hxs k x hk
      have h0 : 0 < xs.length := by have := (List.getElem?_eq_some_iff.1 hk).1; omega
      obtain ⟨y, hy⟩ : ∃ y, xs[0]? = some y := ⟨_, List.getElem?_eq_getElem h0⟩
      obtain ⟨g1, _, g2⟩ := hxs 0 y hy
      have hu : ∃ u, (en y)[0]? = some u := ⟨_, List.getElem?_eq_getElem (by omega)⟩
      obtain ⟨u, hu⟩ := hu
      have hcell : W.cell? a = some u := by have := g1 0 u hu; simpa [Addr.add] using this
      have hspot : a.spot = none := by
        unfold World.cell? at hcell
        split at hcell
        · split at hcell
          · cases hcell
          · rename_i hs; simpa using hs
        · cases hcell
      have hblk := World.block_lt_of_cell? W a hcell
      obtain ⟨b, o, sp⟩ := a
      simp only at hspot
      subst hspot
      refine ⟨b, o, rfl, hblk, fun j u hu => ?_⟩
      have := h1 j u hu
      rw [← this]
      congr 1
      unfold Addr.add
      by_cases e1 : k * sz = 0 <;> by_cases e2 : j = 0 <;> simp [e1, e2, Nat.add_assoc]
    · obtain ⟨i, hi, rfl⟩ := List.getElem_of_mem hx
      exact (hxs i _ (List.getElem?_eq_getElem hi)).2.1
end
theorem c_int : Tryz.prog.cellsOf 3 = 1 := by kernel_rfl
theorem c_u64 : Tryz.prog.cellsOf 25 = 1 := by kernel_rfl
section
variable {H : Type} {enc : TypeId × Value → H} {W : World} {r : Reach} {b0 : Nat} {v : Value} {d : DataW H} {p : List MemPlace}
end
set_option maxRecDepth 100000 in
theorem law_post {H : Type} {enc : TypeId × Value → H} {f : Func} {s : ChangeSpec} {apart : Bool} {W W' : World} {args : Array Value} {ds : List (DataW H)} {before : List MemPlace}
    (hr : f.resultTypes = #[4]) (hvars : s.vars = []) (hW : DataW.Whole enc Tryz.prog f.params.toList s.vars apart W args.toList ds [] before)
    (hA : DataW.TrodAll enc Tryz.prog W 0 (fun _ => true) true f.params.toList args.toList ds before)
    (hres : (s.fn H (ds ++ [])).results = [.lit (.bool true)]) (hargs : (s.fn H (ds ++ [])).args = ds) (hv : (s.fn H (ds ++ [])).vars = [])
    (hts : ∀ t ∈ f.params.toList, Tryz.prog.readableRec t = true ∧ t < Tryz.prog.types.size) (hb : Below W.heap.size W W') :
    s.post enc Tryz.prog f apart true false false W args (.bool true) W' := by
  have hlt : ∀ p ∈ before, p.block < W.heap.size := fun p hp => hW.lt p hp
  refine post_of_below (pa := before) (pv := []) hW (fun b sp hd => ?_) (fun sp hsp => ?_) (fun sp hsp => ?_) (by simp) hb ?_
  · rw [hres, hr]
    exact trodAll_mk1 (shut_bool Tryz.underlying4 true)
  · rw [hargs]
    exact trodAll_stays Tryz.laidOut hb hts hA hlt hsp
  · rw [hv, hvars]; rfl
  · exact ok_one hr rfl (okWide_bool_mk Tryz.underlying4 true)
end Go.Proofs.YtmiimpmfkjcjlaaGreat

namespace Go.Proofs.YtmiimpmfkjcjlaaGreat
open Go.ChangeShapes Go.WideShapes Go.ChangeAt Go.RowKit Go.Deep
def SpWf (s : Sp) : Prop := (Lit.int .i64 s.kind).wf = true ∧ (Lit.int .i64 s.p).wf = true ∧ (Lit.int .i64 s.q).wf = true
theorem c_spec : Tryz.prog.cellsOf 23 = 3 := by kernel_rfl
section
variable {H : Type} {enc : TypeId × Value → H} {W : World}
theorem read_spec (n : Nat) (cs : List Value) (x : DataW H × List MemPlace) (hl : cs.length = 3) (h : DataW.trod enc Tryz.prog W 0 (fun _ => true) true n 23 cs = some x) : ∃ s : Sp, cs = spEnc s ∧ SpWf s := by
  match cs, hl with
  | [v0, v1, v2], _ =>
    obtain ⟨xs, m, _, _, _, hxl, hf⟩ := DataW.trod_struct Tryz.underlying23 h
    match xs, hxl with
    | [x0, x1, x2], _ =>
      have g0 : DataW.trod enc Tryz.prog W 0 (fun _ => true) true m 3 (List.take (Tryz.prog.cellsOf 3) (List.drop 0 [v0, v1, v2])) = some x0 := hf 0 _ rfl
      have g1 : DataW.trod enc Tryz.prog W 0 (fun _ => true) true m 3 (List.take (Tryz.prog.cellsOf 3) (List.drop 1 [v0, v1, v2])) = some x1 := hf 1 _ rfl
      have g2 : DataW.trod enc Tryz.prog W 0 (fun _ => true) true m 3 (List.take (Tryz.prog.cellsOf 3) (List.drop 2 [v0, v1, v2])) = some x2 := hf 2 _ rfl
      simp only [c_int] at g0 g1 g2
      obtain ⟨a0, e0, _, w0⟩ := DataW.trod_int Tryz.underlying3 g0
      obtain ⟨a1, e1, _, w1⟩ := DataW.trod_int Tryz.underlying3 g1
      obtain ⟨a2, e2, _, w2⟩ := DataW.trod_int Tryz.underlying3 g2
      cases e0; cases e1; cases e2
      exact ⟨⟨a0, a1, a2⟩, rfl, w0, w1, w2⟩
end
section
variable {H : Type} {enc : TypeId × Value → H} {W : World} {r : Reach} {b0 : Nat} {v : Value} {d : DataW H} {p : List MemPlace}
end
end Go.Proofs.YtmiimpmfkjcjlaaGreat
