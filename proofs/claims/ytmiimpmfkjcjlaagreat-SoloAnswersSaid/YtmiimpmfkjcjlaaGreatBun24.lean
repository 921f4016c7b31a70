/- Operations that are done whole (package solo): Last. -/
/- Objects side by side: the reference's Bases and Lay. -/
import Derived.Test.YtmiimpmfkjcjlaaGreatBun23
import Derived.Test.YtmiimpmfkjcjlaaGreatBun11
import Derived.Test.YtmiimpmfkjcjlaaGreatBun12
import Derived.Test.YtmiimpmfkjcjlaaGreatBun13
namespace Go.Proofs.YtmiimpmfkjcjlaaGreat
open Go.RowKit
attribute [local go_sem] run_store_fn run_store_nilfn

set_option maxRecDepth 100000 in
set_option maxHeartbeats 2000000 in
theorem slast_any (n obj : Int) (As Ac : Option Addr) (ms cs mc cc : Nat) (specs : List Sp) (calls : List Cl) (w : World) (hs : SlSp w (.slice As ms cs) specs) (hms : specs.length = ms) (hc : SlCl w (.slice Ac mc cc) calls) (hmc : calls.length = mc) (hu : ∀ c ∈ calls, U64 c.a ∧ U64 c.b ∧ U64 c.c) :
    Calls Tryz.prog 19 #[.int .i64 n, .slice As ms cs, .slice Ac mc cc, .int .i64 obj] w (LastPost n specs calls obj w) := by
  have N0 := sbegin_any n As Ac ms cs mc cc specs calls w hs hms hc hmc
  unfold BeginPost at N0
  have HC := hide hc
  have HS := hide hs
  have HMC := hide hmc
  have HMS := hide hms
  by_cases h0 : soloE n specs calls = 0
  · obtain ⟨hl8, hok, hl1000, hth⟩ := soloE_parts h0
    have HE := hide h0
    have HCL : Hid (∀ c ∈ calls, ClOk n c) := hide (fun c hc => ⟨(hth c hc).1, (hth c hc).2, hu c hc⟩)
    have HRUN : Hid (∀ k, k ≤ calls.length → SoOk n specs k (soRun n specs (calls.take k))) := hide (soOk_run hok HCL.out)
    rw [h0] at N0
    simp only [ne_eq, not_true_eq_false, false_and, false_or, true_and] at N0
    have hmc1 : (mc : Int) ≤ 1000 := by omega
    have hms1 : (ms : Int) ≤ 8 := by omega
    have HL8 := hide hl8
    have HL1 := hide hl1000
    have hms' := hms
    clear h0 hs hc hms hmc hok hl8 hl1000 hth hu
    by_cases ho : 0 ≤ obj ∧ obj < specs.length
    · obtain ⟨o, hoo⟩ := Int.eq_ofNat_of_zero_le ho.1
      subst hoo
      have d0 : decide ((o : Int) < 0) = false := by simp
      have d1 : decide ((ms : Int) ≤ (o : Int)) = false := by simp; omega
      have d2 : decide (ms ≤ o) = false := by simp; omega
      have hol : o < specs.length := by omega
      have HOL := hide hol
      have HO := hide ho
      clear ho hol hms'
      go_enter Tryz.func19, Tryz.ntmps19
      go_wp2_with fail
      refine N0.mono ?_
      rintro e w1 ⟨b, mb, v, ps0, rfl, hb0, hmb0, hSo, hSt, hps, hM, hb1⟩
      have HSo := hide hSo
      have HSt := hide hSt
      have HPS := hide hps
      have HM := hide hM
      have HB1 := hide hb1
      clear hSo hSt hps hM hb1 N0
      go_wp2
      go_loopw [36] (fun i wr => ∃ k : Nat, k ≤ mc ∧ i = .int .i64 k ∧ ∃ ps, Hid (SoAt wr b n (.slice As ms cs) v mb) ∧ Hid (StRow wr w.heap.size v ps) ∧ Hid (ps.map Prod.fst = (soRun n specs (calls.take k)).1.1) ∧ Hid (IMap wr mb .i64 (lastMap (soRun n specs (calls.take k)).1.2)) ∧ Hid (Below w.heap.size w wr)) (fun i _ => mc - (intOf i).toNat)
      case atStart =>
        refine ⟨0, Nat.zero_le _, rfl, ps0, HSo, HSt, HPS, hide ?_, HB1⟩
        have : lastMap (soRun n specs (calls.take 0)).1.2 = fun _ => none := by
          funext o
          unfold lastMap
          show (if 0 ≤ o then (match (specs.map fun _ => (-1 : Int))[o.toNat]? with | some t => if t = -1 then none else _ | none => none) else none) = none
          rw [List.getElem?_map]
          rcases specs[o.toNat]? with _ | s <;> simp
        rw [this]
        exact HM.out
      case round =>
        obtain ⟨k, hk, rfl, ps, hSo, hSt, hPs, hM, hB⟩ := hrel
        by_cases hlt : k < mc
        · have hcl := HC.out.below hB.out (Nat.le_refl _)
          obtain ⟨c, hc⟩ : ∃ c, calls[k]? = some c := ⟨_, List.getElem?_eq_getElem (by have := HMC.out; omega)⟩
          obtain ⟨A', c', e', _, _, h3⟩ := hcl
          obtain ⟨bc, oc, hA, hbc, hcc⟩ := h3 k c hc
          cases e'
          subst hA
          obtain ⟨x0, x1, x2, x3, x4, x5⟩ := cl_cells hcc
          have q0 : (0 : Int) ≤ (k : Int) := by omega
          have q1 : (k : Int) < (calls.length : Int) := by have := HMC.out; omega
          have hzr := hB.out.size
          have HCK := hide hc
          have HCO := hide (HCL.out c (List.mem_of_getElem? hc))
          clear h3 hcc hc
          have hk1 : k ≤ 1000 := by have := HL1.out; have := HMC.out; omega
          have ND := hide (fun W (g1 : SoAt W b n (.slice As ms cs) v mb) (g2 : StRow W w.heap.size v ps) (g3 : SlSp W (.slice As ms cs) specs) (g4 : IMap W mb .i64 (lastMap (soRun n specs (calls.take k)).1.2)) => sdo_any n As ms cs b mb w.heap.size k v specs ps (soRun n specs (calls.take k)) c W g1 g2 g3 HMS.out g4 hPs.out (HRUN.out k (by have := HMC.out; omega)) hk1 HCO.out (by have := HL8.out; have := HMS.out; omega))
          have hSoW : SoAt (wr.alloc (.cells #[.int .i64 c.thread, .int .i64 c.obj, .int .i64 c.kind, .int .u64 c.a, .int .u64 c.b, .int .u64 c.c] 27)) b n (.slice As ms cs) v mb := (heap_alloc_old _ _ (Array.getElem?_eq_some_iff.1 hSo.out).1).trans hSo.out
          have hStW := ob_below hSt.out ((Below.refl _ wr).alloc (Nat.le_refl _) (.cells #[.int .i64 c.thread, .int .i64 c.obj, .int .i64 c.kind, .int .u64 c.a, .int .u64 c.b, .int .u64 c.c] 27))
          have hMW := hM.out.alloc (.cells #[.int .i64 c.thread, .int .i64 c.obj, .int .i64 c.kind, .int .u64 c.a, .int .u64 c.b, .int .u64 c.c] 27)
          have hSpW := (HS.out.below hB.out (Nat.le_refl _)).alloc (.cells #[.int .i64 c.thread, .int .i64 c.obj, .int .i64 c.kind, .int .u64 c.a, .int .u64 c.b, .int .u64 c.c] 27)
          have NW := ND.out _ hSoW hStW hSpW hMW
          obtain ⟨D, hD⟩ : ∃ D, soDo n specs (soRun n specs (calls.take k)).1.1 (soRun n specs (calls.take k)).1.2 c = D := ⟨_, rfl⟩
          rw [hD] at NW
          have HRS : Hid ((soRun n specs (calls.take (k + 1))).1 = D.1) := hide (by rw [soRun_succ HCK.out]; unfold soStep; rw [hD])
          obtain ⟨D1, E, V, R3⟩ := D
          unfold DoPost at NW
          simp only [] at NW
          have HNW := hide NW
          have HMB := hide hmb0
          have HSW := hide hStW
          clear hSoW hStW hMW hSpW ND NW hD
          go_wp2_with fail
          (with_reducible refine HNW.out.mono ?_)
          rintro e w2 ⟨L, ps2, rfl, hsl2, htw2, hSo2, hSt2, hps2, hM2, hk2⟩
          have HSo2 := hide hSo2
          have HSt2 := hide hSt2
          have HPs2 := hide hps2
          have HM2 := hide hM2
          have hvl := fun j (e : some j = v.ownBlock) => (HSW.out.1.lt j e.symm).1
          have HB2 : Hid (Below w.heap.size w w2) := hide (hB.out.trans ((Below.mono (B := wr.heap.size) ((Below.refl _ _).alloc (Nat.le_refl _) _) hzr).trans (hk2.below (fun j hj => ⟨by simp; omega, fun e => by have := hvl j e; omega, by have := HMB.out; omega⟩))))
          clear hsl2 htw2 hSo2 hSt2 hps2 hM2 hk2 hvl
          go_wp2
          go_roundw
          case rel =>
            refine ⟨k + 1, by omega, by go_num, ps2, HSo2, HSt2, hide (by rw [HRS.out]; exact HPs2.out), hide (by rw [HRS.out]; exact HM2.out), HB2⟩
          case measure => first | (simp [intOf]; done) | (simp [intOf]; omega)
        · have hkk : k = mc := by omega
          have hkt : calls.take k = calls := List.take_of_length_le (by have := HMC.out; omega)
          rw [hkt] at hPs
          have HKK := hide hkk
          clear hkk hlt hkt
          have d9 : decide ((k : Int) < (mc : Int)) = false := by have := HKK.out; simp; omega
          have d8 : decide (k < mc) = false := by have := HKK.out; simp; omega
          have hkl : calls.take k = calls := List.take_of_length_le (by have := HMC.out; have := HKK.out; omega)
          have hlen : ps.length = specs.length := by
            have h := congrArg List.length hPs.out
            have h2 := (HRUN.out calls.length (Nat.le_refl _)).l1
            rw [List.take_length] at h2
            rw [List.length_map] at h
            omega
          obtain ⟨p, hp⟩ : ∃ p, ps[o]? = some p := ⟨_, List.getElem?_eq_getElem (by have := HOL.out; omega)⟩
          obtain ⟨gr, rcap, rfl, _, hgr, _, hcr, hsl, _⟩ := ob_get stEn_len hSt.out hp
          have hrow := hcr 0 _ rfl
          simp only [Nat.mul_one, Nat.add_zero] at hrow
          obtain ⟨a0, a1, a2, a3, bz⟩ := cells4 hSo.out
          have q3 : o < ps.length := by have := HOL.out; omega
          have q4 : (o : Int) < (ps.length : Int) := by have := HOL.out; omega
          have HP := hide hp
          have HSL := hide hsl
          have HX : Hid ((soRun n specs calls).1.1[o]? = some p.1) := hide (by rw [← hPs.out, List.getElem?_map, hp]; rfl)
          clear hkl hlen hp hsl hcr
          go_wp2
          go_ret2
          refine Or.inr (Or.inr ⟨HE.out, _, p.1, rfl, HSL.out, ?_, HO.out, hB.out⟩)
          rw [Int.toNat_natCast]
          exact HX.out
    · have HNO := hide ho
      have hko : decide (obj < 0) = true ∨ (decide (obj < 0) = false ∧ decide ((ms : Int) ≤ obj) = true) := by
        by_cases h : obj < 0
        · exact Or.inl (by simpa using h)
        · refine Or.inr ⟨by simpa using h, ?_⟩
          simp
          omega
      clear ho hms'
      rcases hko with d0 | ⟨d0, d1⟩
      all_goals
        go_enter Tryz.func19, Tryz.ntmps19
        go_wp2_with fail
        refine N0.mono ?_
        rintro e w1 ⟨b, mb, v, ps0, rfl, hb0, hmb0, hSo, hSt, hps, hM, hb1⟩
        have HSo := hide hSo
        have HSt := hide hSt
        have HPS := hide hps
        have HM := hide hM
        have HB1 := hide hb1
        clear hSo hSt hps hM hb1 N0
        go_wp2
        go_ret2
        exact Or.inr (Or.inl ⟨HE.out, HNO.out, rfl, HB1.out⟩)
  · have HNE := hide h0
    simp only [h0, false_and, or_false, ne_eq, not_false_eq_true, true_and] at N0
    obtain ⟨E, hE⟩ : ∃ E, soloE n specs calls = E := ⟨_, rfl⟩
    rw [hE] at N0 h0
    have HE := hide hE
    have d0 : (E != 0) = true := by simpa using h0
    clear hE h0 hs hc hms hmc hu
    go_enter Tryz.func19, Tryz.ntmps19
    go_wp2_with fail
    refine N0.mono ?_
    rintro e w1 ⟨rfl, hb1⟩
    have HB1 := hide hb1
    clear hb1 N0
    go_wp2
    go_ret2
    refine Or.inl ⟨HNE.out, ?_, HB1.out⟩
    rw [HE.out]
    rfl
end Go.Proofs.YtmiimpmfkjcjlaaGreat

namespace Go.Proofs.YtmiimpmfkjcjlaaGreat
open Go.RowKit

theorem sizesT_get {n : Int} {l : List Sp} {k : Nat} {s : Sp} (h : l[k]? = some s) : (sizesT n l)[k]? = some (sizeT n s.kind s.p s.q) := by unfold sizesT; rw [List.getElem?_map, h]; rfl

set_option maxRecDepth 100000 in
set_option maxHeartbeats 2000000 in
theorem bases_any (n : Int) (A : Option Addr) (m c : Nat) (l : List Sp) (w : World) (h : SlSp w (.slice A m c) l) (hm : l.length = m) (hm8 : m ≤ 8) (hn1 : 1 ≤ n) (hn2 : n ≤ 16) (hok : ∀ s ∈ l, sizeE n s = 0) :
    Calls Tryz.prog 64 #[.int .i64 n, .slice A m c] w (RegPost (sizesT n l) w) := by
  have hZ : Hid (∀ x ∈ sizesT n l, 0 ≤ x) := by
    intro x hx
    obtain ⟨s, hs, rfl⟩ := List.mem_map.1 hx
    have := sizeT_bd (hok s hs)
    omega
  have hM := hide hm
  have HH := hide h
  have HOK := hide hok
  have hlen : Hid ((sizesT n l).length = m) := by show _ = _; simp [sizesT, hm]
  obtain ⟨j0, hj, hj0, hj1, hj2⟩ := info_parts info_int
  clear hm h hok
  go_enter Tryz.func64, Tryz.ntmps64
  go_wp2
  go_loopw [7, 8, 9, 14] (fun out en lg i wr => ∃ (k : Nat) (E : Int) (b : Bool) (ys : List Int), k ≤ m ∧ en = .int .i64 E ∧ lg = .bool b ∧ i = .int .i64 k ∧ 0 ≤ E ∧ E ≤ 65536 ∧ Hid (b = false → psum (sizesT n l) k = E ∧ ys = begins (sizesT n l) k) ∧ Hid (b = true → 65536 < (sizesT n l).sum) ∧ Hid (IOwn wr w.heap.size out k ys) ∧ Hid (Below w.heap.size w wr)) (fun _ _ _ i _ => m - (intOf i).toNat)
  case atStart => exact ⟨0, 0, false, [], Nat.zero_le _, rfl, rfl, rfl, by decide, by decide, hide (fun _ => ⟨psum_zero _, rfl⟩), hide (fun h => by cases h), hide (World.ownsRow_nil _ _ _ _), hide (Below.refl _ _)⟩
  case round =>
    obtain ⟨k, E, lg, ys, hk, rfl, rfl, rfl, hE0, hE1, hF, hT, hown, hB⟩ := hrel
    by_cases hlt : k < m
    · obtain ⟨s, hsk⟩ : ∃ s, l[k]? = some s := ⟨_, List.getElem?_eq_getElem (by have := hM.out; omega)⟩
      obtain ⟨A', c', e, _, _, h3⟩ := HH.out.below hB.out (Nat.le_refl _)
      obtain ⟨b, oo, e', hb, hc⟩ := h3 k s hsk
      rw [hM.out] at e
      cases e
      cases e'
      obtain ⟨c0, c1, c2⟩ := spec_cells hc
      have hsE := HOK.out s (List.mem_of_getElem? hsk)
      obtain ⟨_, hkk, hr⟩ := sizeE_zero hsE
      have hbd := sizeT_bd hsE
      have NS1 := fun W => psize_any n s hn1 hn2 hkk.1 hkk.2 W
      rw [if_pos hr] at NS1
      have hps := psum_succ (sizesT_get (n := n) hsk)
      generalize sizeT n s.kind s.p s.q = x at *
      have HPS := hide hps
      have q0 : (0 : Int) ≤ (k : Int) := by omega
      have q1 : (k : Int) < (m : Int) := by omega
      have d0 : decide (x < 0) = false := by simp; omega
      have hmono := psum_mono hZ.out (show k + 1 ≤ (sizesT n l).length by rw [hlen.out]; omega)
      have HMO := hide hmono
      clear h3 hsk hc hsE hkk hr hps hmono
      go_wp2_with fail
      refine (NS1 _).mono ?_
      rintro e w2 ⟨rfl, hb2⟩
      have hB2 := hB.out.trans (hb2.mono hB.out.size)
      have hown' := World.ownsRow.kept hown.out (grown_of_below hb2 none) (by by_cases hh : Value.ownBlock u7 = none; (exact Or.inl hh); exact Or.inr hh)
      have hsz2 := hB2.size
      clear hb2 hown hB
      by_cases hbig : x ≤ 65536 - E
      · have d1 : decide (65536 - E < x) = false := by simp; omega
        have HT' : Hid (lg = false → psum (sizesT n l) (k + 1) = E + x ∧ ys ++ [E] = begins (sizesT n l) (k + 1)) := by
          intro hlg
          obtain ⟨a1, a2⟩ := hF.out hlg
          exact ⟨by rw [HPS.out, a1], by rw [begins_succ, a2, a1]⟩
        go_wp2_with (at_builtin; refine wpList_append_own_at _ rfl _ _ 42 rfl w.heap.size 3 j0 (.int .i64 0) 1 8 Tryz.underlying42 hj hj0 hj1 hj2 rfl (by decide) _ k _ rfl (hown'.alloc _) ⟨w2.heap.size, 0, none⟩ 1 1 [.int .i64 E] rfl rfl (new_one _ _ _) (by simp [Value.oneCell']) (by unfold maxLen; omega) (by omega) (by simp; omega) ?_; intro v5 w5 hown5 hgrow _ _; have HO : Hid (IOwn w5 w.heap.size v5 (k + 1) (ys ++ [E])) := hide (by unfold IOwn; rw [List.map_append]; exact hown5); have HB := hide ((hB2.alloc hsz2 _).grown hgrow (by simp; omega) (fun j hj => (hown'.lt j hj).1)); clear hown5 hgrow hown' hB2)
        go_roundw
        case rel => exact ⟨k + 1, E + x, lg, ys ++ [E], by omega, rfl, rfl, by go_num, by omega, by omega, HT', hT, HO, HB⟩
        case measure => first | (simp [intOf]; done) | (simp [intOf]; omega)
      · have d1 : decide (65536 - E < x) = true := by simp; omega
        have HT' : Hid (65536 < (sizesT n l).sum) := by
          show 65536 < (sizesT n l).sum
          by_cases hlg : lg = true
          · exact hT.out hlg
          · have a1 := (hF.out (by simpa using hlg)).1
            have a2 := HMO.out
            rw [psum_all, HPS.out, a1] at a2
            omega
        go_wp2_with (at_builtin; refine wpList_append_own_at _ rfl _ _ 42 rfl w.heap.size 3 j0 (.int .i64 0) 1 8 Tryz.underlying42 hj hj0 hj1 hj2 rfl (by decide) _ k _ rfl (hown'.alloc _) ⟨w2.heap.size, 0, none⟩ 1 1 [.int .i64 E] rfl rfl (new_one _ _ _) (by simp [Value.oneCell']) (by unfold maxLen; omega) (by omega) (by simp; omega) ?_; intro v5 w5 hown5 hgrow _ _; have HO : Hid (IOwn w5 w.heap.size v5 (k + 1) (ys ++ [E])) := hide (by unfold IOwn; rw [List.map_append]; exact hown5); have HB := hide ((hB2.alloc hsz2 _).grown hgrow (by simp; omega) (fun j hj => (hown'.lt j hj).1)); clear hown5 hgrow hown' hB2)
        go_roundw
        case rel => exact ⟨k + 1, E, true, ys ++ [E], by omega, by first | rfl | go_num, rfl, by go_num, by omega, by omega, hide (fun h => by cases h), hide (fun _ => HT'.out), HO, HB⟩
        case measure => first | (simp [intOf]; done) | (simp [intOf]; omega)
    · obtain rfl : k = m := by omega
      cases lg
      · obtain ⟨a1, a2⟩ := hF.out rfl
        have HA1 := hide a1
        subst a2
        clear a1
        go_wp2
        go_ret3
        have hs : (sizesT n l).sum = E := by rw [← psum_all, hlen.out]; exact HA1.out
        exact regPost_ok (by omega) hs (by rw [hlen.out]; exact hown.out) (by rw [hlen.out]; unfold maxLen; omega) hB.out
      · have ht := hT.out rfl
        go_wp2
        go_ret3
        exact regPost_no (by omega) hB.out

set_option maxRecDepth 100000 in
set_option maxHeartbeats 2000000 in
theorem refLay_any (n : Int) (A : Option Addr) (m c : Nat) (l : List Sp) (w : World) (h : SlSp w (.slice A m c) l) (hm : l.length = m) :
    Calls Tryz.prog 31 #[.int .i64 n, .slice A m c] w fun e w' => e = .returned (.int .i64 (layE n l)) ∧ Below w.heap.size w w' := by
  have hle : m ≤ maxLen := by obtain ⟨_, _, e, h1, h2, _⟩ := h; cases e; omega
  by_cases hn : 1 ≤ n ∧ n ≤ 16
  · have n0 : decide (n < 1) = false := by simp; omega
    have n1 : decide (16 < n) = false := by simp; omega
    by_cases h8 : 8 < m
    · have hE : Hid (layE n l = 3) := by show _ = _; unfold layE; rw [if_neg (by omega), if_pos (by omega)]
      have h8' : (8 : Int) < (m : Int) := by omega
      clear hm hn hle
      go_enter Tryz.func31, Tryz.ntmps31
      go_wp2
      go_ret
      exact ⟨ret_int hE.out.symm, by (repeat' (first | exact Below.refl _ _ | assumption | refine Below.drew ?_ | refine below_drewN ?_ _ | refine Below.alloc ?_ (by simp <;> omega) _ | refine Below.setCell ?_ (by simp <;> omega) _))⟩
    · have h8' : ¬ (8 : Int) < (m : Int) := by omega
      have hm0 : (m : Int) ≤ 8 := by omega
      have hM := hide hm
      have HH := hide h
      have HN := hide hn
      have NS := fun s W => refSize_any n s W
      clear hm hn hle h
      go_enter Tryz.func31, Tryz.ntmps31
      go_wp2
      go_loopw [22] (fun i wr => ∃ (k : Nat), k ≤ m ∧ i = .int .i64 k ∧ Hid (firstE n l = firstE n (l.drop k)) ∧ Hid (Below w.heap.size w wr)) (fun i _ => m - (intOf i).toNat)
      case atStart => exact ⟨0, Nat.zero_le _, rfl, hide rfl, hide (Below.refl _ _)⟩
      case round =>
        obtain ⟨k, hk, rfl, hF, hB⟩ := hrel
        by_cases hlt : k < m
        · obtain ⟨s, hsk⟩ : ∃ s, l[k]? = some s := ⟨_, List.getElem?_eq_getElem (by have := hM.out; omega)⟩
          obtain ⟨A', c', e, _, _, h3⟩ := HH.out.below hB.out (Nat.le_refl _)
          obtain ⟨b, oo, e', hb, hc⟩ := h3 k s hsk
          rw [hM.out] at e
          cases e
          cases e'
          obtain ⟨c0, c1, c2⟩ := spec_cells hc
          have q0 : (0 : Int) ≤ (k : Int) := by omega
          have q1 : (k : Int) < (m : Int) := by omega
          have hstep := firstE_step (n := n) hsk
          have NS1 := fun W => NS s W
          generalize sizeV n s = V at NS1
          clear h3 hsk hc
          by_cases hE : sizeE n s = 0
          · rw [if_pos hE] at hstep
            rw [hE] at NS1
            have HF := hide hstep
            clear hstep hE
            go_wp2_with fail
            refine (NS1 _).mono ?_
            rintro e w2 ⟨rfl, hb2⟩
            have HB2 := hide (hB.out.trans (hb2.mono hB.out.size))
            clear hb2
            go_wp2
            go_roundw
            case rel => exact ⟨k + 1, by omega, by go_num, hide (by rw [hF.out, HF.out]), HB2⟩
            case measure => first | (simp [intOf]; done) | (simp [intOf]; omega)
          · rw [if_neg hE] at hstep
            obtain ⟨E, hEE⟩ : ∃ E, sizeE n s = E := ⟨_, rfl⟩
            rw [hEE] at NS1 hE hstep
            have HL : Hid (layE n l = E) := by
              have hn := HN.out
              have hf := hF.out
              show _ = _
              unfold layE
              rw [if_neg (by omega), if_neg (by have := hM.out; omega), hf, hstep, if_neg hE]
            have he : (E != 0) = true := by simpa using hE
            clear hEE hstep
            go_wp2_with fail
            refine (NS1 _).mono ?_
            rintro e w2 ⟨rfl, hb2⟩
            go_wp2
            go_ret
            exact ⟨ret_int HL.out.symm, hB.out.trans (hb2.mono hB.out.size)⟩
        · obtain rfl : k = m := by omega
          have h0 : firstE n l = 0 := by rw [hF.out, ← hM.out, List.drop_length]; rfl
          have NB := fun W h => bases_any n A k c l W h hM.out (by omega) HN.out.1 HN.out.2 (firstE_all h0)
          have HL : Hid (layE n l = regE (sizesT n l)) := by
            have hn := HN.out
            show _ = _
            unfold layE
            rw [if_neg (by omega), if_neg (by have := hM.out; omega), if_pos h0]
          unfold RegPost at NB
          have hHH := HH.out.below hB.out (Nat.le_refl _)
          generalize regE (sizesT n l) = E at *
          generalize regEnd (sizesT n l) = EN at *
          generalize regL (sizesT n l) = RL at *
          clear h0
          go_wp2_with fail
          refine (NB _ hHH).mono ?_
          rintro e w2 ⟨u, rfl, hs2, hb2⟩
          go_wp2
          go_ret
          exact ⟨ret_int HL.out.symm, hB.out.trans (hb2.mono hB.out.size)⟩
  · have hE : Hid (layE n l = 1) := by show _ = _; unfold layE; rw [if_pos hn]
    rcases (by omega : n < 1 ∨ 1 ≤ n ∧ 16 < n) with h0 | ⟨h0, h1⟩
    · have n0 : decide (n < 1) = true := by simp; omega
      clear hm hn hle
      go_enter Tryz.func31, Tryz.ntmps31
      go_wp2
      go_ret
      exact ⟨ret_int hE.out.symm, by (repeat' (first | exact Below.refl _ _ | assumption | refine Below.drew ?_ | refine below_drewN ?_ _ | refine Below.alloc ?_ (by simp <;> omega) _ | refine Below.setCell ?_ (by simp <;> omega) _))⟩
    · have n0 : decide (n < 1) = false := by simp; omega
      have n1 : decide (16 < n) = true := by simp; omega
      clear hm hn hle
      go_enter Tryz.func31, Tryz.ntmps31
      go_wp2
      go_ret
      exact ⟨ret_int hE.out.symm, by (repeat' (first | exact Below.refl _ _ | assumption | refine Below.drew ?_ | refine below_drewN ?_ _ | refine Below.alloc ?_ (by simp <;> omega) _ | refine Below.setCell ?_ (by simp <;> omega) _))⟩
end Go.Proofs.YtmiimpmfkjcjlaaGreat
