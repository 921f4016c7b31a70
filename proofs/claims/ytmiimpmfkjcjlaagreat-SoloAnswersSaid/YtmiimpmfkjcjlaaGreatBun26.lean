/- Operations that are done whole: the law's own example (law 29: place). -/
/- SoloAnswers: the law's walk. -/
import Derived.Test.YtmiimpmfkjcjlaaGreatSo13
namespace Go.Proofs.YtmiimpmfkjcjlaaGreat
open Go.RowKit
attribute [local go_sem] run_store_fn run_store_nilfn

def plS : List Sp := [⟨8, 1, 1⟩]
def plC : List Cl := [⟨0, 0, 0, 5, 0, 0⟩, ⟨0, 0, 0, 6, 0, 0⟩, ⟨0, 0, 1, 0, 0, 0⟩, ⟨0, 0, 0, 7, 0, 0⟩]
def plC1 : List Cl := [⟨0, 0, 0, 5, 0, 0⟩]
theorem pl_E : soloE 1 plS plC = 0 := by decide
theorem pl_E1 : soloE 1 plS plC1 = 0 := by decide
theorem pl_run : (soRun 1 plS plC).2 = [⟨0, 0, []⟩, ⟨6, 0, []⟩, ⟨0, 5, []⟩, ⟨6, 0, []⟩] := by rfl
theorem pl_run1 : (soRun 1 plS plC1).1.1[(0 : Int).toNat]? = some [0, 5] := by rfl
theorem pl_u (l : List Cl) (h : l = plC ∨ l = plC1) : ∀ c ∈ l, U64 c.a ∧ U64 c.b ∧ U64 c.c := by
  rcases h with rfl | rfl
  · intro c hc
    simp [plC] at hc
    rcases hc with rfl | rfl | rfl | rfl <;> exact ⟨⟨by decide, by decide⟩, ⟨by decide, by decide⟩, ⟨by decide, by decide⟩⟩
  · intro c hc
    simp [plC1] at hc
    subst hc
    exact ⟨⟨by decide, by decide⟩, ⟨by decide, by decide⟩, ⟨by decide, by decide⟩⟩
abbrev plO : Obj := .cells #[.int .i64 8, .int .i64 1, .int .i64 1] 23
abbrev plP : Obj := .cells #[.int .i64 0, .int .i64 0, .int .i64 0, .int .u64 5, .int .u64 0, .int .u64 0, .int .i64 0, .int .i64 0, .int .i64 0, .int .u64 6, .int .u64 0, .int .u64 0, .int .i64 0, .int .i64 0, .int .i64 1, .int .u64 0, .int .u64 0, .int .u64 0, .int .i64 0, .int .i64 0, .int .i64 0, .int .u64 7, .int .u64 0, .int .u64 0] 27
abbrev plW (w : World) : World := (w.alloc plO).alloc plP
theorem pl_specs (w : World) : SlSp (plW w) (.slice (some ⟨w.heap.size, 0, none⟩) 1 1) plS := by
  have hb : (plW w).heap[w.heap.size]? = some plO := (heap_alloc_old _ _ (by simp)).trans (heap_alloc_new _ _)
  refine Sl.of_block (xs := plS) hb (Nat.le_refl 1) (by unfold maxLen; omega) ?_
  intro k x hx j u hu
  rcases k with _ | k <;> first | (cases hx; rcases j with _ | _ | _ | j <;> first | exact hu | cases hu) | cases hx
theorem pl_block (w : World) : (plW w).heap[w.heap.size + 1]? = some plP := by
  have h := heap_alloc_new (w.alloc plO) plP
  simpa using h
theorem pl_calls (w : World) : SlCl (plW w) (.slice (some ⟨w.heap.size + 1, 0, none⟩) 4 4) plC := by
  refine Sl.of_block (xs := plC) (pl_block w) (Nat.le_refl 4) (by unfold maxLen; omega) ?_
  intro k x hx j u hu
  rcases k with _ | _ | _ | _ | k <;> first | (cases hx; rcases j with _ | _ | _ | _ | _ | _ | j <;> first | exact hu | cases hu) | cases hx
theorem pl_calls1 (w : World) : SlCl (plW w) (.slice (some ⟨w.heap.size + 1, 0, none⟩) 1 4) plC1 := by
  refine Sl.of_block (xs := plC1) (pl_block w) (by decide) (by unfold maxLen; omega) ?_
  intro k x hx j u hu
  rcases k with _ | k <;> first | (cases hx; rcases j with _ | _ | _ | _ | _ | _ | j <;> first | exact hu | cases hu) | cases hx

/-- What stands at place k of a row of answers. -/
theorem an_get {w : World} {B : Nat} {v : Value} {an : List AnP} {l : List An} {k : Nat} {a : An} (h : AnRow w B v an) (hl : an.map Prod.fst = l) (hk : l[k]? = some a) :
    ∃ g cap A c, v = .slice (some ⟨g, 0, none⟩) l.length cap ∧ g < w.heap.size ∧ w.cell? ⟨g, k * 3, none⟩ = some (.int .i64 a.err) ∧ w.cell? ⟨g, k * 3 + 1, none⟩ = some (.int .u64 a.val) ∧ w.cell? ⟨g, k * 3 + 2, none⟩ = some (.slice A a.list.length c) ∧ SlW w (.slice A a.list.length c) a.list := by
  subst hl
  rw [List.getElem?_map] at hk
  rcases hp : an[k]? with _ | p
  · rw [hp] at hk; cases hk
  · rw [hp] at hk
    have : p.1 = a := Option.some.inj hk
    subst this
    obtain ⟨g, cap, hv, _, hg, _, hc, hs, _⟩ := ob_get anEn_len h hp
    refine ⟨g, cap, p.2.1, p.2.2, by rw [List.length_map]; exact hv, hg, hc 0 _ rfl, hc 1 _ rfl, hc 2 _ rfl, hs⟩
set_option maxRecDepth 100000 in
set_option maxHeartbeats 2000000 in
theorem place_any (w : World) : Calls Tryz.prog 17 #[] w fun e w' => e = .returned (.bool true) ∧ Below w.heap.size w w' := by
  have N0 := sanswers_any 1 (some ⟨w.heap.size, 0, none⟩) (some ⟨w.heap.size + 1, 0, none⟩) 1 1 4 4 plS plC (plW w) (pl_specs w) rfl (pl_calls w) rfl (pl_u _ (Or.inl rfl))
  have N1 := fun W h1 h2 => slast_any 1 0 (some ⟨w.heap.size, 0, none⟩) (some ⟨w.heap.size + 1, 0, none⟩) 1 1 1 4 plS plC1 W h1 rfl h2 rfl (pl_u _ (Or.inr rfl))
  have N2 := fun v1 v2 W h1 h2 => same_any v1 v2 [0, 5] [0, 5] W h1 h2
  unfold AnsPost at N0
  unfold LastPost at N1
  rw [pl_E, pl_run] at N0
  rw [pl_E1, pl_run1] at N1
  simp only [ne_eq, not_true_eq_false, false_and, false_or, true_and] at N0 N1
  have HW := hide (show Below w.heap.size w (plW w) from ((Below.refl _ _).alloc (Nat.le_refl _) _).alloc (by simp) _)
  have HS := hide (pl_specs w)
  have HC := hide (pl_calls1 w)
  have hzw : (plW w).heap.size = w.heap.size + 2 := by simp
  go_enter Tryz.func17, Tryz.ntmps17
  go_wp2_with fail
  refine N0.mono ?_
  rintro e w1 ⟨v, an, rfl, hAn, hal, hb1⟩
  obtain ⟨g, cap, A0, c0, rfl, hg, k00, k01, k02, _⟩ := an_get hAn hal (k := 0) rfl
  obtain ⟨g', cap', A1, c1, e1, _, k10, k11, k12, _⟩ := an_get hAn hal (k := 1) rfl
  cases e1
  obtain ⟨g', cap', A2, c2, e2, _, k20, k21, k22, _⟩ := an_get hAn hal (k := 2) rfl
  cases e2
  obtain ⟨g', cap', A3, c3, e3, _, k30, k31, k32, _⟩ := an_get hAn hal (k := 3) rfl
  cases e3
  have hz1 := hb1.size
  have HB1 := hide hb1
  have HS1 := hide (HS.out.below hb1 (Nat.le_refl _))
  have HC1 := hide (HC.out.below hb1 (Nat.le_refl _))
  clear hAn hal hb1 N0
  simp only [List.length_cons, List.length_nil] at k00 k01 k10 k11 k20 k21 k30 k31 ⊢
  go_wp2_with fail
  refine (N1 _ HS1.out HC1.out).mono ?_
  rintro e w2 (⟨h, _⟩ | ⟨x, xs, rfl, hx, hxe, _, hb2⟩)
  · exact absurd (by decide) h
  · cases hxe
    obtain ⟨xA, xc, rfl, _⟩ := id hx
    have m0 := (hb2.cell (p := ⟨g, 0 * 3, none⟩) hg).trans k00
    have m1 := (hb2.cell (p := ⟨g, 1 * 3, none⟩) hg).trans k10
    have m2 := (hb2.cell (p := ⟨g, 2 * 3 + 1, none⟩) hg).trans k21
    have m3 := (hb2.cell (p := ⟨g, 3 * 3, none⟩) hg).trans k30
    simp only [Nat.zero_mul, Nat.one_mul, Nat.reduceMul, Nat.reduceAdd] at m0 m1 m2 m3
    have hg2 : g < w2.heap.size := by have := hb2.size; omega
    have HX := hide hx
    have HB2 : Hid (Below w.heap.size w w2) := hide (HW.out.trans ((HB1.out.mono (by omega)).trans (hb2.mono (by omega))))
    clear k00 k01 k02 k10 k11 k12 k20 k21 k22 k30 k31 k32 hb2 hx N1
    simp only [List.length_cons, List.length_nil] at HX ⊢
    go_wp2_with fail
    refine (N2 _ _ _ (HX.out.alloc _) ?_).mono ?_
    · refine Sl.of_block (xs := [0, 5]) (heap_alloc_new _ _) (Nat.le_refl 2) (by unfold maxLen; omega) ?_
      intro k x hx j u hu
      rcases k with _ | _ | k <;> first | (cases hx; rcases j with _ | j <;> first | exact hu | cases hu) | cases hx
    rintro e w3 ⟨rfl, n3, rfl⟩
    go_wp2
    go_ret
    refine ⟨ret_bool (by simp), ?_⟩
    have hq := HB2.out
    have hq2 := hq.size
    (repeat' (first | with_reducible assumption | with_reducible exact Below.refl _ _ | with_reducible refine Below.drew ?_ | with_reducible refine below_drewN ?_ _ | with_reducible refine Below.alloc ?_ ?_ _ | with_reducible refine Below.setCell ?_ ?_ _ | omega | (simp; done) | (simp; omega)))
end Go.Proofs.YtmiimpmfkjcjlaaGreat

namespace Go.Proofs.YtmiimpmfkjcjlaaGreat
open Go.RowKit
attribute [local go_sem] run_store_fn run_store_nilfn

abbrev scO (n : Int) (S C : Value) : Obj := .cells #[.int .i64 n, S, C, .slice none 0 0] 44
theorem an_len {w : World} {B : Nat} {v : Value} {an : List AnP} {l : List An} (h : AnRow w B v an) (hl : an.map Prod.fst = l) : ∃ A c, v = .slice A l.length c := by
  obtain ⟨A, c, rfl, _⟩ := ob_len anEn_len h
  exact ⟨A, c, by rw [← hl, List.length_map]⟩
theorem soE_len {n : Int} {specs : List Sp} {calls : List Cl} (h : soloE n specs calls = 0) : (soRun n specs calls).2.length ≤ 1000 := by
  obtain ⟨h1, h2, h3, h4⟩ := soloE_parts h
  have key : ∀ l : List Cl, ∀ X : SoX, (l.foldl (soStep n specs) X).2.length = X.2.length + l.length := by
    intro l
    induction l with
    | nil => intro X; rfl
    | cons c l ih =>
      intro X
      rw [List.foldl_cons, ih]
      simp [soStep]
      omega
  unfold soRun
  rw [key]
  simp [soBegin]
  exact h3
set_option maxRecDepth 100000 in
set_option maxHeartbeats 4000000 in
theorem law_solo (n obj : Int) (As Ac Ap : Option Addr) (ms cs mc cc mp cp : Nat) (specs : List Sp) (calls : List Cl) (w : World) (hs : SlSp w (.slice As ms cs) specs) (hms : specs.length = ms) (hc : SlCl w (.slice Ac mc cc) calls) (hmc : calls.length = mc) (hu : ∀ c ∈ calls, U64 c.a ∧ U64 c.b ∧ U64 c.c) :
    Calls Tryz.prog 4 #[.agg #[.int .i64 n, .slice As ms cs, .slice Ac mc cc, .slice Ap mp cp], .int .i64 obj] w fun e w' => e = .returned (.bool true) ∧ Below w.heap.size w w' := by
  have hmsx : ms ≤ maxLen := by obtain ⟨_, _, e, h1, h2, _⟩ := hs; cases e; omega
  have hmcx : mc ≤ maxLen := by obtain ⟨_, _, e, h1, h2, _⟩ := hc; cases e; omega
  have N0 := fun W => large_any n As Ac none ms cs mc cc 0 0 W hmsx hmcx (Nat.zero_le _)
  have NP := hide (fun W => place_any W)
  have NA := hide (fun W h1 h2 => sanswers_any n As Ac ms cs mc cc specs calls W h1 hms h2 hmc hu)
  have NL := hide (fun W h1 h2 => slast_any n obj As Ac ms cs mc cc specs calls W h1 hms h2 hmc hu)
  have NW := hide (fun W h1 h2 => rwrong29_any n As Ac ms cs mc cc specs calls W h1 hms h2 hmc)
  have ND := hide (fun W h1 h2 h0 => rdo_any n As Ac ms cs mc cc specs calls W h1 hms h2 hmc hu h0)
  have HS := hide hs
  have HC := hide hc
  have HMS := hide hms
  have hm63 : (ms : Int) ≤ 9223372036854775807 := by unfold maxLen at hmsx; omega
  clear hs hc hms hmc hu hmsx hmcx
  by_cases hL : largeB ms mc 0 = true
  · rw [hL] at N0
    clear hL
    go_enter Tryz.func4, Tryz.ntmps4
    go_wp2_with fail
    refine (N0 _).mono ?_
    rintro e w1 ⟨rfl, hb1⟩
    have HB1 : Hid (Below w.heap.size w w1) := hide (Below.trans (by (repeat' (first | with_reducible assumption | with_reducible exact Below.refl _ _ | with_reducible refine Below.drew ?_ | with_reducible refine below_drewN ?_ _ | with_reducible refine Below.alloc ?_ ?_ _ | with_reducible refine Below.setCell ?_ ?_ _ | omega | (simp; done) | (simp; omega)))) (hb1.mono (by simp)))
    clear hb1 N0
    go_wp2_with fail
    refine (NP.out _).mono ?_
    rintro e w2 ⟨rfl, hb2⟩
    go_wp2
    go_ret
    exact ⟨rfl, HB1.out.trans (hb2.mono HB1.out.size)⟩
  · have hL' : largeB ms mc 0 = false := by simpa using hL
    rw [hL'] at N0
    clear hL hL'
    by_cases hE : soloE n specs calls = 0
    · have NA' := NA.out
      have NL' := NL.out
      unfold AnsPost at NA'
      unfold LastPost at NL'
      simp only [hE, ne_eq, not_true_eq_false, true_and, false_and, false_or] at NA' NL'
      have NW' := NW.out
      rw [hE] at NW'
      have ND' := hide (fun W h1 h2 => ND.out W h1 h2 hE)
      have HNA := hide NA'
      have HNL := hide NL'
      have HNW := hide NW'
      have HSR := hide (soE_len hE (n := n) (specs := specs) (calls := calls))
      obtain ⟨AL, hAL⟩ : ∃ AL, (soRun n specs calls).2 = AL := ⟨_, rfl⟩
      have HAL := hide hAL
      clear NA NL NW ND hE NA' NL' NW' hAL
      go_enter Tryz.func4, Tryz.ntmps4
      go_wp2_with fail
      refine (N0 _).mono ?_
      rintro e w1 ⟨rfl, hb1⟩
      have HSC : Hid (w1.heap[w.heap.size]? = some (scO n (.slice As ms cs) (.slice Ac mc cc))) := hide ((hb1.block _ (by simp)).trans (heap_alloc_new _ _))
      have HB1 : Hid (Below w.heap.size w w1) := hide (Below.trans (by (repeat' (first | with_reducible assumption | with_reducible exact Below.refl _ _ | with_reducible refine Below.drew ?_ | with_reducible refine below_drewN ?_ _ | with_reducible refine Below.alloc ?_ ?_ _ | with_reducible refine Below.setCell ?_ ?_ _ | omega | (simp; done) | (simp; omega)))) (hb1.mono (by simp)))
      obtain ⟨k0, k1, k2, k3, kz⟩ := cells4 HSC.out
      clear hb1 N0
      go_wp2_with fail
      refine (HNA.out _ (HS.out.below HB1.out (Nat.le_refl _)) (HC.out.below HB1.out (Nat.le_refl _))).mono ?_
      rintro e w2 ⟨v1, an, rfl, hAn, hal, hb2⟩
      have HSC := hide ((hb2.block _ kz).trans HSC.out)
      have HB2 := hide (HB1.out.trans (hb2.mono HB1.out.size))
      rw [HAL.out] at hal
      obtain ⟨a1, b1, rfl⟩ := an_len hAn hal
      have HAN := hide (show AnRow w2 w.heap.size _ an from ob_mono hAn HB1.out.size)
      have HALN := hide hal
      clear hb2 k0 k1 k2 k3 kz hAn hal
      obtain ⟨k0, k1, k2, k3, kz⟩ := cells4 HSC.out
      go_wp2_with fail
      refine (HNL.out _ (HS.out.below HB2.out (Nat.le_refl _)) (HC.out.below HB2.out (Nat.le_refl _))).mono ?_
      intro e w3 hlast
      have hlast' : ∃ (v2 : Value) (x : List Int) (f : Int), e = .returned (.tuple #[v2, .int .i64 f]) ∧ SlW w3 v2 x ∧ (((0 ≤ obj ∧ obj < specs.length) ∧ f = 0 ∧ (soRun n specs calls).1.1[obj.toNat]? = some x) ∨ (¬ (0 ≤ obj ∧ obj < specs.length) ∧ f = 12 ∧ x = [])) ∧ Below w2.heap.size w2 w3 := by
        rcases hlast with ⟨h1, h2, h3⟩ | ⟨v2, x, h1, h2, h3, h4, h5⟩
        · exact ⟨_, [], 12, h2, slw_none _, Or.inr ⟨h1, rfl, rfl⟩, h3⟩
        · exact ⟨v2, x, 0, h1, h2, Or.inl ⟨h4, rfl, h3⟩, h5⟩
      clear hlast
      obtain ⟨v2, x, f, rfl, hx, hcase, hb3⟩ := hlast'
      have HSC := hide ((hb3.block _ kz).trans HSC.out)
      have HB3 := hide (HB2.out.trans (hb3.mono HB2.out.size))
      have HAN3 := hide (ob_below HAN.out hb3)
      obtain ⟨a2, b2, rfl, _⟩ := id hx
      have HX := hide hx
      have HCASE := hide hcase
      clear hb3 k0 k1 k2 k3 kz hx hcase
      obtain ⟨k0, k1, k2, k3, kz⟩ := cells4 HSC.out
      go_wp2_with fail
      refine (HNW.out _ (HS.out.below HB3.out (Nat.le_refl _)) (HC.out.below HB3.out (Nat.le_refl _))).mono ?_
      rintro e w4 ⟨rfl, hb4⟩
      have HSC := hide ((hb4.block _ kz).trans HSC.out)
      have HB4 := hide (HB3.out.trans (hb4.mono HB3.out.size))
      have HAN4 := hide (ob_below HAN3.out hb4)
      have HX4 := hide (HX.out.below hb4 (Nat.le_refl _))
      clear hb4 k0 k1 k2 k3 kz
      obtain ⟨k0, k1, k2, k3, kz⟩ := cells4 HSC.out
      go_wp2_with fail
      refine (ND'.out _ (HS.out.below HB4.out (Nat.le_refl _)) (HC.out.below HB4.out (Nat.le_refl _))).mono ?_
      rintro e w5 ⟨va, vs, an2, ps, rfl, hAn2, hal2, hSt, hps, hb5⟩
      rw [HAL.out] at hal2
      obtain ⟨a3, b3, rfl⟩ := an_len hAn2 hal2
      obtain ⟨a4, b4, rfl, _⟩ := ob_len stEn_len hSt
      have HSC := hide ((hb5.block _ kz).trans HSC.out)
      have HB5 := hide (HB4.out.trans (hb5.mono HB4.out.size))
      have HAN5 := hide (ob_below HAN4.out hb5)
      have HX5 := hide (HX4.out.below hb5 (Nat.le_refl _))
      have HAN2 := hide hAn2
      have HAL2 := hide hal2
      have HST := hide hSt
      have HPS := hide hps
      have hz5 := hb5.size
      clear hb5 k0 k1 k2 k3 kz hAn2 hal2 hSt hps
      obtain ⟨k0, k1, k2, k3, kz⟩ := cells4 HSC.out
      have hall : AL.length = an.length := by have := HALN.out; rw [← this, List.length_map]
      have halm : AL.length ≤ 1000 := by have := HSR.out; rw [HAL.out] at this; exact this
      have halI : (AL.length : Int) ≤ 1000 := by omega
      have dl : ((AL.length : Int) != (AL.length : Int)) = false := by simp
      clear hall
      go_wp2
      obtain ⟨w6, hw6⟩ : ∃ w6, w6 = w5.alloc (.cells #[.slice a3 AL.length b3, .slice a4 ps.length b4] 53) := ⟨_, rfl⟩
      rw [← hw6]
      have hb6 : Below w5.heap.size w5 w6 := by rw [hw6]; exact (Below.refl _ _).alloc (Nat.le_refl _) _
      have HDN : Hid (w6.heap[w5.heap.size]? = some (.cells #[.slice a3 AL.length b3, .slice a4 ps.length b4] 53 (0, 0))) := hide (by rw [hw6]; exact heap_alloc_new _ _)
      have HB6 := hide (HB5.out.trans (hb6.mono HB5.out.size))
      have HSC6 := hide ((hb6.block _ kz).trans HSC.out)
      have HAN6 := hide (ob_below HAN5.out hb6)
      have HAN26 := hide (ob_below HAN2.out hb6)
      have HST6 := hide (ob_below HST.out hb6)
      have HX6 := hide (HX5.out.below hb6 (Nat.le_refl _))
      have hz6 := hb6.size
      clear hw6 hb6 k0 k1 k2 k3 kz
      go_loopw [86] (fun i wr => ∃ k : Nat, k ≤ AL.length ∧ i = .int .i64 k ∧ Hid (Below w6.heap.size w6 wr)) (fun i _ => AL.length - (intOf i).toNat)
      case atStart => exact ⟨0, Nat.zero_le _, rfl, hide (Below.refl _ _)⟩
      case round =>
        obtain ⟨k, hk, rfl, hB⟩ := hrel
        have hzr := hB.out.size
        have HDR := hide ((hB.out.block _ (Array.getElem?_eq_some_iff.1 HDN.out).1).trans HDN.out)
        have d0 : wr.cell? ⟨w5.heap.size, 0, none⟩ = some (.slice a3 AL.length b3) := cell_of_row _ _ 0 _ _ _ HDR.out
        have dz := (Array.getElem?_eq_some_iff.1 HDR.out).1
        by_cases hlt : k < AL.length
        · obtain ⟨a, ha⟩ : ∃ a, AL[k]? = some a := ⟨_, List.getElem?_eq_getElem hlt⟩
          obtain ⟨g1, cap1, A1, c1, e1, gz1, x0, x1, x2, hs1⟩ := an_get (ob_below HAN6.out hB.out) HALN.out ha
          cases e1
          obtain ⟨g2, cap2, A2, c2, e2, gz2, x3, x4, x5, hs2⟩ := an_get (ob_below HAN26.out hB.out) HAL2.out ha
          cases e2
          have q0 : (0 : Int) ≤ (k : Int) := by omega
          have q1 : (k : Int) < (AL.length : Int) := by omega
          have HS1 := hide hs1
          have HS2 := hide hs2
          clear ha hs1 hs2
          go_wp2_with fail
          refine wp_region_seq (Below wr.heap.size wr) (.take 0 <| .take 1 <| .take 2 <| .take 3 <| .take 4 <| .take 5 <| .take 6 <| .take 7 <| .take 8 <| .run 9 <| .take 10 <| .done) (by kernel_rfl) (by kernel_rfl) (by kernel_rfl) (by (repeat' (first | with_reducible assumption | with_reducible exact Below.refl _ _ | with_reducible refine Below.drew ?_ | with_reducible refine below_drewN ?_ _ | with_reducible refine Below.alloc ?_ ?_ _ | with_reducible refine Below.setCell ?_ ?_ _ | omega | (simp; done) | (simp; omega)))) ?_
          repeat (refine seq_take (v := ?_) rfl (by rfl) ?_ ?_; rotate_left; (focus (intro wS hS; have y0 := (hS.cell (p := ⟨w5.heap.size, 0, none⟩) dz).trans d0; have z0 := (hS.cell (p := ⟨g1, k * 3, none⟩) gz1).trans x0; have z1 := (hS.cell (p := ⟨g1, k * 3 + 1, none⟩) gz1).trans x1; have z2 := (hS.cell (p := ⟨g1, k * 3 + 2, none⟩) gz1).trans x2; have z3 := (hS.cell (p := ⟨g2, k * 3, none⟩) gz2).trans x3; have z4 := (hS.cell (p := ⟨g2, k * 3 + 1, none⟩) gz2).trans x4; have z5 := (hS.cell (p := ⟨g2, k * 3 + 2, none⟩) gz2).trans x5; go_simp; exact rfl)); simp only [Act.put, List.setIfInBounds_toArray, List.set_cons_zero, List.set_cons_succ])
          refine seq_run rfl (by rfl) (fun K hK => ?_)
          go_simp
          refine (answer_self a.err a.val A1 A2 a.list.length c1 a.list.length c2 a.list wr.drew (show SlW wr.drew _ _ from HS1.out) (show SlW wr.drew _ _ from HS2.out)).mono ?_
          rintro e w7 ⟨rfl, hb7⟩
          have hB7 : Below wr.heap.size wr w7 := (Below.refl _ _).drew.trans (hb7.mono (by simp))
          refine hK _ _ hB7 ?_
          clear hK K
          repeat (refine seq_take (v := ?_) rfl (by rfl) ?_ ?_; rotate_left; (focus (intro wS hS; have y0 := (hS.cell (p := ⟨w5.heap.size, 0, none⟩) dz).trans d0; have z0 := (hS.cell (p := ⟨g1, k * 3, none⟩) gz1).trans x0; have z1 := (hS.cell (p := ⟨g1, k * 3 + 1, none⟩) gz1).trans x1; have z2 := (hS.cell (p := ⟨g1, k * 3 + 2, none⟩) gz1).trans x2; have z3 := (hS.cell (p := ⟨g2, k * 3, none⟩) gz2).trans x3; have z4 := (hS.cell (p := ⟨g2, k * 3 + 1, none⟩) gz2).trans x4; have z5 := (hS.cell (p := ⟨g2, k * 3 + 2, none⟩) gz2).trans x5; go_simp; exact rfl)); simp only [Act.put, List.setIfInBounds_toArray, List.set_cons_zero, List.set_cons_succ])
          refine seq_nil ?_
          go_wp2
          go_roundw
          case rel => exact ⟨k + 1, by omega, by go_num, hide (hB.out.trans (hB7.mono hzr))⟩
          case measure => first | (simp [intOf]; done) | (simp [intOf]; omega)
        · have d9 : decide ((k : Int) < (AL.length : Int)) = false := by simp; omega
          have d8 : decide (k < AL.length) = false := by simp; omega
          have HSC := hide ((hB.out.block _ (Array.getElem?_eq_some_iff.1 HSC6.out).1).trans HSC6.out)
          have HBR := hide (HB6.out.trans (hB.out.mono HB6.out.size))
          have HXR := hide (HX6.out.below hB.out (Nat.le_refl _))
          have HSTR := hide (ob_below HST6.out hB.out)
          have d1 : wr.cell? ⟨w5.heap.size, 1, none⟩ = some (.slice a4 ps.length b4) := cell_of_row _ _ 1 _ _ _ HDR.out
          obtain ⟨k0, k1, k2, k3, kz⟩ := cells4 HSC.out
          clear hlt
          rcases HCASE.out with ⟨ho, rfl, hxs⟩ | ⟨ho, rfl, rfl⟩
          · obtain ⟨o, rfl⟩ := Int.eq_ofNat_of_zero_le ho.1
            rw [Int.toNat_natCast, ← HPS.out, List.getElem?_map] at hxs
            obtain ⟨p, hp⟩ : ∃ p, ps[o]? = some p := by
              rcases h : ps[o]? with _ | p
              · rw [h] at hxs; cases hxs
              · exact ⟨p, rfl⟩
            rw [hp] at hxs
            have hpx : p.1 = x := Option.some.inj hxs
            obtain ⟨gr, rcap, hv, _, hgr, _, hcr, hsl, _⟩ := ob_get stEn_len HSTR.out hp
            cases hv
            have r0 := hcr 0 _ rfl
            simp only [Nat.mul_one, Nat.add_zero] at r0
            obtain ⟨st, pA, pc⟩ := p
            simp only at hpx
            subst hpx
            have hol := (List.getElem?_eq_some_iff.1 hp).1
            have q0 : (0 : Int) ≤ (o : Int) := by omega
            have q1 : (o : Int) < (ps.length : Int) := by omega
            have e0 : decide ((ms : Int) ≤ (o : Int)) = false := by have := HMS.out; simp; omega
            have e1 : decide (ms ≤ o) = false := by have := HMS.out; simp; omega
            have HSL := hide hsl
            clear ho hxs hp hcr hsl hol
            go_wp2_with fail
            refine (same_any _ _ st st _ HXR.out HSL.out).mono ?_
            rintro e w7 ⟨rfl, n7, rfl⟩
            go_wp2_with fail
            refine (NP.out _).mono ?_
            rintro e w8 ⟨rfl, hb8⟩
            go_wp2
            go_ret
            exact ⟨ret_bool (by simp), HBR.out.trans ((below_drewN (Below.refl _ _) n7).trans (hb8.mono HBR.out.size))⟩
          · have hko : decide (obj < 0) = true ∨ (decide (obj < 0) = false ∧ decide ((ms : Int) ≤ obj) = true) := by
              by_cases h : obj < 0
              · exact Or.inl (by simpa using h)
              · refine Or.inr ⟨by simpa using h, ?_⟩
                have := HMS.out
                simp
                omega
            clear ho
            rcases hko with e0 | ⟨e0, e1⟩
            all_goals
              go_wp2_with fail
              refine (NP.out _).mono ?_
              rintro e w8 ⟨rfl, hb8⟩
              go_wp2
              go_ret
              exact ⟨ret_bool (by simp), HBR.out.trans (hb8.mono HBR.out.size)⟩
    · have NA' := NA.out
      have NL' := NL.out
      unfold AnsPost at NA'
      unfold LastPost at NL'
      simp only [hE, ne_eq, not_false_eq_true, true_and, false_and, or_false] at NA' NL'
      obtain ⟨E, hEE⟩ : ∃ E, soloE n specs calls = E := ⟨_, rfl⟩
      have NW' := NW.out
      rw [hEE] at NA' NL' NW' hE
      have d0 : (E != 0) = true := by simpa using hE
      have d1 : (E == E) = true := by simp
      have HNA := hide NA'
      have HNL := hide NL'
      have HNW := hide NW'
      clear NA NL NW ND hEE hE NA' NL' NW'
      go_enter Tryz.func4, Tryz.ntmps4
      go_wp2_with fail
      refine (N0 _).mono ?_
      rintro e w1 ⟨rfl, hb1⟩
      have HSC : Hid (w1.heap[w.heap.size]? = some (scO n (.slice As ms cs) (.slice Ac mc cc))) := hide ((hb1.block _ (by simp)).trans (heap_alloc_new _ _))
      have HB1 : Hid (Below w.heap.size w w1) := hide (Below.trans (by (repeat' (first | with_reducible assumption | with_reducible exact Below.refl _ _ | with_reducible refine Below.drew ?_ | with_reducible refine below_drewN ?_ _ | with_reducible refine Below.alloc ?_ ?_ _ | with_reducible refine Below.setCell ?_ ?_ _ | omega | (simp; done) | (simp; omega)))) (hb1.mono (by simp)))
      obtain ⟨k0, k1, k2, k3, kz⟩ := cells4 HSC.out
      clear hb1 N0
      go_wp2_with fail
      refine (HNA.out _ (HS.out.below HB1.out (Nat.le_refl _)) (HC.out.below HB1.out (Nat.le_refl _))).mono ?_
      rintro e w2 ⟨rfl, hb2⟩
      have HSC := hide ((hb2.block _ kz).trans HSC.out)
      have HB2 := hide (HB1.out.trans (hb2.mono HB1.out.size))
      clear hb2 k0 k1 k2 k3 kz
      obtain ⟨k0, k1, k2, k3, kz⟩ := cells4 HSC.out
      go_wp2_with fail
      refine (HNL.out _ (HS.out.below HB2.out (Nat.le_refl _)) (HC.out.below HB2.out (Nat.le_refl _))).mono ?_
      rintro e w3 ⟨rfl, hb3⟩
      have HSC := hide ((hb3.block _ kz).trans HSC.out)
      have HB3 := hide (HB2.out.trans (hb3.mono HB2.out.size))
      clear hb3 k0 k1 k2 k3 kz
      obtain ⟨k0, k1, k2, k3, kz⟩ := cells4 HSC.out
      go_wp2_with fail
      refine (HNW.out _ (HS.out.below HB3.out (Nat.le_refl _)) (HC.out.below HB3.out (Nat.le_refl _))).mono ?_
      rintro e w4 ⟨rfl, hb4⟩
      have HSC := hide ((hb4.block _ kz).trans HSC.out)
      have HB4 := hide (HB3.out.trans (hb4.mono HB3.out.size))
      clear hb4 k0 k1 k2 k3 kz
      go_wp2_with fail
      refine (NP.out _).mono ?_
      rintro e w5 ⟨rfl, hb5⟩
      go_wp2
      go_ret
      exact ⟨ret_bool (by simp), HB4.out.trans (hb5.mono HB4.out.size)⟩
end Go.Proofs.YtmiimpmfkjcjlaaGreat
