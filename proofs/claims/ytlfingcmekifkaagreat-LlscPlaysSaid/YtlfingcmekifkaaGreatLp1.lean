import Derived.Test.YtlfingcmekifkaaGreatBun22
import Derived.Test.YtlfingcmekifkaaGreatBun23
import Derived.Test.YtlfingcmekifkaaGreatBun25
import Derived.Test.YtlfingcmekifkaaGreatBun26
import Derived.Test.YtlfingcmekifkaaGreatRt23
namespace Go.Proofs.YtlfingcmekifkaaGreat
open Go.RowKit
theorem chkL_cases (n z : Int) (cs : List Cl) (np : Nat) : (chkE n cs np ≠ 0 ∧ chkL n z cs np = chkE n cs np) ∨ (chkE n cs np = 0 ∧ (z < 1 ∨ 64 < z) ∧ chkL n z cs np = 10) ∨ (chkE n cs np = 0 ∧ 1 ≤ z ∧ z ≤ 64 ∧ chkL n z cs np = 0) := by
  unfold chkL
  by_cases h1 : chkE n cs np ≠ 0
  · exact Or.inl ⟨h1, if_pos h1⟩
  · rw [if_neg h1]
    have h1' : chkE n cs np = 0 := Decidable.not_not.1 h1
    by_cases h2 : z < 1 ∨ 64 < z
    · exact Or.inr (Or.inl ⟨h1', h2, if_pos h2⟩)
    · exact Or.inr (Or.inr ⟨h1', by omega, by omega, if_neg h2⟩)
theorem llPlainPlay {nn : Nat} {z0 : Int} {As : Option Addr} {cs0 : Nat} {A : Option Addr} {m c : Nat} {cs : List Cl} {Ap : Option Addr} {np cp : Nat} {picks : List Int} {w : World} (hz : 1 ≤ z0 ∧ z0 ≤ 64) (hsp : SlSp w (.slice As 1 cs0) [(13, z0, 0)]) (h : SlCl w (.slice A m c) cs) (hm : cs.length = m) (hp : SlI w (.slice Ap np cp) picks) (hpl : picks.length = np) (hcu : ∀ c ∈ cs, ClU c) (hE : chkE nn cs np = 0) :
    Calls Tryz.prog 11 #[.int .i64 (nn : Int), .slice As 1 cs0, .slice A m c, .slice Ap np cp] w (RPlayPost ((llPlay z0 cs picks).ends llG) (llPlay z0 cs picks).lw.mem (llPlay z0 cs picks).lw.now (llPlay z0 cs picks).idle w) := by
  obtain ⟨Pn, rfl⟩ : ∃ Pn : Nat, z0 = Pn := ⟨z0.toNat, by omega⟩
  have hP : 1 ≤ Pn ∧ Pn ≤ 64 := by omega
  obtain ⟨hn, hcl, hnp, hth⟩ := chk_calls hE
  have hPi : 1 ≤ (Pn : Int) ∧ (Pn : Int) ≤ 64 := by omega
  have S := sim_ends (A := llA (Pn : Int)) (ll_alike hPi) llG_still (fun _ _ _ => rfl) (n := nn) (by omega) (cs := cs) (fun c hc => ⟨hth c hc, hcu c hc⟩) (List.replicate Pn 0) ⟨(Pn : Int), fun _ _ => none⟩ (fun t => ⟨rfl, Nat.zero_le _, fun i _ => rfl⟩) picks
  have L := plainLog (w := w.alloc zeroRep) (plainDo_ll nn hP 0) (ll_small hPi.2) (ll_pln (Pn : Int)) (size := Pn) (fun W => size13 nn (Pn : Int) 0 hPi W) (by omega) ⟨by show (13 : Int) ≠ 8; decide, by show (13 : Int) ≠ 4; decide⟩ (hsp.alloc _) (h.alloc _) hm (hp.alloc _) hpl hcu hE
  obtain ⟨s1, s2, s3, s4⟩ := S
  unfold llPlay
  rw [Int.toNat_natCast, s1, s2, s3, s4]
  exact plainPlay L
set_option maxRecDepth 100000 in
set_option maxHeartbeats 4000000 in
theorem llscPlaysW (n z0 : Int) (A : Option Addr) (m c : Nat) (cs : List Cl) (Ap : Option Addr) (np cp : Nat) (picks : List Int) (w : World) (h0 : SlCl w (.slice A m c) cs) (hm : cs.length = m) (hp0 : SlI w (.slice Ap np cp) picks) (hpl : picks.length = np) (hcu : ∀ c ∈ cs, ClU c) :
    Calls Tryz.prog 3 #[.agg #[.int .i64 n, .int .i64 z0], .slice A m c, .slice Ap np cp] w fun e w' => e = .returned (.bool true) ∧ Below w.heap.size w w' := by
  obtain ⟨wq, hwq⟩ : ∃ X, X = w.alloc (.cells #[.int .i64 n, .int .i64 z0] 22) := ⟨_, rfl⟩
  have y0 : wq.cell? ⟨w.heap.size, 0, none⟩ = some (.int .i64 n) := by rw [hwq]; go_simp
  have y1 : wq.cell? ⟨w.heap.size, 1, none⟩ = some (.int .i64 z0) := by rw [hwq]; go_simp
  have zq : w.heap.size < wq.heap.size := by rw [hwq]; simp
  have h : SlCl wq (.slice A m c) cs := by rw [hwq]; exact h0.alloc _
  have hp : SlI wq (.slice Ap np cp) picks := by rw [hwq]; exact hp0.alloc _
  have HQ := hide (show Below w.heap.size w wq by rw [hwq]; exact (Below.refl _ _).alloc (Nat.le_refl _) _)
  have HWQ := hide hwq
  clear hwq h0 hp0
  have N0 := many_any A Ap m c np cp wq (by obtain ⟨_, _, e, h1, h2, _⟩ := h; cases e; omega) (by obtain ⟨_, _, e, h1, h2, _⟩ := hp; cases e; omega)
  rcases hb : manyB m np with _ | _
  · rw [hb] at N0
    have N := fun (W : World) (hW : Below wq.heap.size wq W) => llscPlay n z0 A m c cs Ap np cp picks W (h.below hW (Nat.le_refl _)) hm (hp.below hW (Nat.le_refl _)) hpl hcu
    rcases chkL_cases n z0 cs picks.length with ⟨hE, hL⟩ | ⟨hE, hz, hL⟩ | ⟨hE, hz1, hz2, hL⟩
    · obtain ⟨E, hEE⟩ : ∃ E, chkE n cs picks.length = E := ⟨_, rfl⟩
      rw [hL, hEE] at N
      rw [hEE] at hE
      have hEn : chkE n cs np = E := by rw [← hpl]; exact hEE
      have d0 : (E == 0) = false := by simpa using hE
      have NB := fun (W : World) (hW : Below wq.heap.size wq W) (As : Option Addr) (_ : SlSp W (.slice As 1 1) [(13, z0, 0)]) => plainPlayOf (As := As) (ns := 1) (cs0 := 1) (Ap := Ap) (cp := cp) (plainLogBad (w := W.alloc zeroRep) ((h.below hW (Nat.le_refl _)).alloc _) hm hEn hE)
      have HNB := hide NB
      have HN := hide N
      have HE0 := hide hE
      clear hE hL hEE hb h hp hcu N NB hEn
      go_enter Tryz.func3, Tryz.ntmps3
      go_upto_region 1 with fail
      rw [← HWQ.out]
      clear HWQ
      go_wp2_with fail
      refine N0.mono ?_
      rintro e w0 ⟨rfl, rfl⟩
      go_wp2_with fail
      refine (HN.out _ (Below.refl _ _)).mono ?_
      rintro e w1 (⟨_, rfl, hb1⟩ | ⟨h, _⟩)
      rotate_left
      · exact absurd h HE0.out
      have HB1 := hide hb1
      clear hb1 N0
      replace y0 := (HB1.out.cell (p := ⟨w.heap.size, 0, none⟩) zq).trans y0
      replace y1 := (HB1.out.cell (p := ⟨w.heap.size, 1, none⟩) zq).trans y1
      have zq1 := Nat.lt_of_lt_of_le zq HB1.out.size
      unfold zeroV
      go_wp2_with fail
      obtain ⟨W2, hW2⟩ : ∃ x, x = (w1.alloc (.cells #[.slice none 0 0, .slice none 0 0, .int .i64 0, .int .i64 0, .int .i64 0, .int .i64 0, .int .i64 0, .int .i64 0, .int .i64 0] 32)).alloc (.cells #[.int .i64 13, .int .i64 z0, .int .i64 0] 39) := ⟨_, rfl⟩
      rw [← hW2]
      have ha : W2.heap[w1.heap.size]? = some (.cells #[.slice none 0 0, .slice none 0 0, .int .i64 0, .int .i64 0, .int .i64 0, .int .i64 0, .int .i64 0, .int .i64 0, .int .i64 0] 32 (0, 0)) := by
        rw [hW2]
        exact (Below.heap_alloc _ _ _ (by simp)).trans (heap_alloc_new _ _)
      have hb02 : Below w0.heap.size w0 W2 := by rw [hW2]; exact (HB1.out.alloc HB1.out.size _).alloc (by have := HB1.out.size; simp; omega) _
      have hsp : SlSp W2 (.slice (some ⟨w1.heap.size + 1, 0, none⟩) 1 1) [(13, z0, 0)] := by
        have hx : W2.heap[w1.heap.size + 1]? = some (.cells #[.int .i64 13, .int .i64 z0, .int .i64 0] 39 (0, 0)) := by
          rw [hW2]
          have := heap_alloc_new (w1.alloc (.cells #[.slice none 0 0, .slice none 0 0, .int .i64 0, .int .i64 0, .int .i64 0, .int .i64 0, .int .i64 0, .int .i64 0, .int .i64 0] 32)) (.cells #[.int .i64 13, .int .i64 z0, .int .i64 0] 39)
          simpa using this
        refine Sl.of_block (enc := spEnc) (sz := 3) (xs := [(13, z0, 0)]) hx (Nat.le_refl _) (by unfold maxLen; decide) (fun k x hk j u hu => ?_)
        rcases k with _ | k
        · simp at hk
          subst hk
          simpa [spEnc] using hu
        · simp at hk
      refine (HNB.out W2 hb02 _ hsp).mono ?_
      rintro e w3 ⟨rfl, hb3⟩
      have ha4 := (hb3.block _ (Array.getElem?_eq_some_iff.1 ha).1).trans ha
      have a0 := cell_of_row _ _ 0 _ _ _ ha4
      have a1 := cell_of_row _ _ 1 _ _ _ ha4
      have a2 := cell_of_row _ _ 2 _ _ _ ha4
      have a3 := cell_of_row _ _ 3 _ _ _ ha4
      have a4 := cell_of_row _ _ 4 _ _ _ ha4
      have a5 := cell_of_row _ _ 5 _ _ _ ha4
      have a6 := cell_of_row _ _ 6 _ _ _ ha4
      have a7 := cell_of_row _ _ 7 _ _ _ ha4
      have a8 := cell_of_row _ _ 8 _ _ _ ha4
      simp at a0 a1 a2 a3 a4 a5 a6 a7 a8
      have za := (Array.getElem?_eq_some_iff.1 ha4).1
      have hb03 : Below w0.heap.size w0 w3 := hb02.trans (hb3.mono hb02.size)
      have HB03 := hide hb03
      have HA4 := hide ha4
      have NS := same_zero
      clear hb03 hb3 ha ha4 hb02 hW2 hsp
      unfold zeroV at NS ⊢
      go_wp2_with fail
      refine (NS _).mono ?_
      rintro e w8 ⟨rfl, hb8⟩
      have HB8 := hide ((HB03.out.alloc HB03.out.size _).trans (hb8.mono (by have := HB03.out.size; simp; omega)))
      have h38 := ((Below.refl _ w3).alloc (Nat.le_refl _) _).trans (hb8.mono (by simp))
      have ha4 := (h38.block _ (Array.getElem?_eq_some_iff.1 HA4.out).1).trans HA4.out
      clear a0 a1 a2 a3 a4 a5 a6 a7 a8 za
      have a0 := cell_of_row _ _ 0 _ _ _ ha4
      have a1 := cell_of_row _ _ 1 _ _ _ ha4
      have a2 := cell_of_row _ _ 2 _ _ _ ha4
      have a3 := cell_of_row _ _ 3 _ _ _ ha4
      have a4 := cell_of_row _ _ 4 _ _ _ ha4
      have a5 := cell_of_row _ _ 5 _ _ _ ha4
      have a6 := cell_of_row _ _ 6 _ _ _ ha4
      have a7 := cell_of_row _ _ 7 _ _ _ ha4
      have a8 := cell_of_row _ _ 8 _ _ _ ha4
      simp at a0 a1 a2 a3 a4 a5 a6 a7 a8
      have za := (Array.getElem?_eq_some_iff.1 ha4).1
      clear hb8 NS h38 HA4 ha4
      go_wp2_with fail
      refine (most_zero _ _).mono ?_
      rintro e wM ⟨rfl, hbM⟩
      have HB8 := hide (HB8.out.trans (hbM.mono HB8.out.size))
      clear hbM
      go_wp2_with fail
      refine (llAgainW _).mono ?_
      rintro e w9 ⟨rfl, hb9⟩
      have HB9 := hide hb9
      clear hb9
      go_wp2
      go_ret
      exact ⟨rfl, HQ.out.trans ((HB8.out.trans (HB9.out.mono HB8.out.size)).mono HQ.out.size)⟩
    · rw [hL] at N
      have hEn : chkE n cs np = 0 := by rw [← hpl]; exact hE
      have NB := fun (W : World) (hW : Below wq.heap.size wq W) (As : Option Addr) (hsp : SlSp W (.slice As 1 1) [(13, z0, 0)]) => plainPlayOf (As := As) (ns := 1) (cs0 := 1) (Ap := Ap) (cp := cp) (plainLogNot (w := W.alloc zeroRep) (sp := (13, z0, 0)) (fun W => size13bad n z0 0 hz W) (hsp.alloc _) ((h.below hW (Nat.le_refl _)).alloc _) hm hEn)
      have HNB := hide NB
      have HN := hide N
      have HE0 : Hid ((10 : Int) ≠ 0) := hide (by decide)
      clear hE hL hb h hp hcu N NB hEn hz
      go_enter Tryz.func3, Tryz.ntmps3
      go_upto_region 1 with fail
      rw [← HWQ.out]
      clear HWQ
      go_wp2_with fail
      refine N0.mono ?_
      rintro e w0 ⟨rfl, rfl⟩
      go_wp2_with fail
      refine (HN.out _ (Below.refl _ _)).mono ?_
      rintro e w1 (⟨_, rfl, hb1⟩ | ⟨h, _⟩)
      rotate_left
      · exact absurd h HE0.out
      have HB1 := hide hb1
      clear hb1 N0
      replace y0 := (HB1.out.cell (p := ⟨w.heap.size, 0, none⟩) zq).trans y0
      replace y1 := (HB1.out.cell (p := ⟨w.heap.size, 1, none⟩) zq).trans y1
      have zq1 := Nat.lt_of_lt_of_le zq HB1.out.size
      unfold zeroV
      go_wp2_with fail
      obtain ⟨W2, hW2⟩ : ∃ x, x = (w1.alloc (.cells #[.slice none 0 0, .slice none 0 0, .int .i64 0, .int .i64 0, .int .i64 0, .int .i64 0, .int .i64 0, .int .i64 0, .int .i64 0] 32)).alloc (.cells #[.int .i64 13, .int .i64 z0, .int .i64 0] 39) := ⟨_, rfl⟩
      rw [← hW2]
      have ha : W2.heap[w1.heap.size]? = some (.cells #[.slice none 0 0, .slice none 0 0, .int .i64 0, .int .i64 0, .int .i64 0, .int .i64 0, .int .i64 0, .int .i64 0, .int .i64 0] 32 (0, 0)) := by
        rw [hW2]
        exact (Below.heap_alloc _ _ _ (by simp)).trans (heap_alloc_new _ _)
      have hb02 : Below w0.heap.size w0 W2 := by rw [hW2]; exact (HB1.out.alloc HB1.out.size _).alloc (by have := HB1.out.size; simp; omega) _
      have hsp : SlSp W2 (.slice (some ⟨w1.heap.size + 1, 0, none⟩) 1 1) [(13, z0, 0)] := by
        have hx : W2.heap[w1.heap.size + 1]? = some (.cells #[.int .i64 13, .int .i64 z0, .int .i64 0] 39 (0, 0)) := by
          rw [hW2]
          have := heap_alloc_new (w1.alloc (.cells #[.slice none 0 0, .slice none 0 0, .int .i64 0, .int .i64 0, .int .i64 0, .int .i64 0, .int .i64 0, .int .i64 0, .int .i64 0] 32)) (.cells #[.int .i64 13, .int .i64 z0, .int .i64 0] 39)
          simpa using this
        refine Sl.of_block (enc := spEnc) (sz := 3) (xs := [(13, z0, 0)]) hx (Nat.le_refl _) (by unfold maxLen; decide) (fun k x hk j u hu => ?_)
        rcases k with _ | k
        · simp at hk
          subst hk
          simpa [spEnc] using hu
        · simp at hk
      refine (HNB.out W2 hb02 _ hsp).mono ?_
      rintro e w3 ⟨rfl, hb3⟩
      have ha4 := (hb3.block _ (Array.getElem?_eq_some_iff.1 ha).1).trans ha
      have a0 := cell_of_row _ _ 0 _ _ _ ha4
      have a1 := cell_of_row _ _ 1 _ _ _ ha4
      have a2 := cell_of_row _ _ 2 _ _ _ ha4
      have a3 := cell_of_row _ _ 3 _ _ _ ha4
      have a4 := cell_of_row _ _ 4 _ _ _ ha4
      have a5 := cell_of_row _ _ 5 _ _ _ ha4
      have a6 := cell_of_row _ _ 6 _ _ _ ha4
      have a7 := cell_of_row _ _ 7 _ _ _ ha4
      have a8 := cell_of_row _ _ 8 _ _ _ ha4
      simp at a0 a1 a2 a3 a4 a5 a6 a7 a8
      have za := (Array.getElem?_eq_some_iff.1 ha4).1
      have hb03 : Below w0.heap.size w0 w3 := hb02.trans (hb3.mono hb02.size)
      have HB03 := hide hb03
      have HA4 := hide ha4
      have NS := same_zero
      clear hb03 hb3 ha ha4 hb02 hW2 hsp
      unfold zeroV at NS ⊢
      go_wp2_with fail
      refine (NS _).mono ?_
      rintro e w8 ⟨rfl, hb8⟩
      have HB8 := hide ((HB03.out.alloc HB03.out.size _).trans (hb8.mono (by have := HB03.out.size; simp; omega)))
      have h38 := ((Below.refl _ w3).alloc (Nat.le_refl _) _).trans (hb8.mono (by simp))
      have ha4 := (h38.block _ (Array.getElem?_eq_some_iff.1 HA4.out).1).trans HA4.out
      clear a0 a1 a2 a3 a4 a5 a6 a7 a8 za
      have a0 := cell_of_row _ _ 0 _ _ _ ha4
      have a1 := cell_of_row _ _ 1 _ _ _ ha4
      have a2 := cell_of_row _ _ 2 _ _ _ ha4
      have a3 := cell_of_row _ _ 3 _ _ _ ha4
      have a4 := cell_of_row _ _ 4 _ _ _ ha4
      have a5 := cell_of_row _ _ 5 _ _ _ ha4
      have a6 := cell_of_row _ _ 6 _ _ _ ha4
      have a7 := cell_of_row _ _ 7 _ _ _ ha4
      have a8 := cell_of_row _ _ 8 _ _ _ ha4
      simp at a0 a1 a2 a3 a4 a5 a6 a7 a8
      have za := (Array.getElem?_eq_some_iff.1 ha4).1
      clear hb8 NS h38 HA4 ha4
      go_wp2_with fail
      refine (most_zero _ _).mono ?_
      rintro e wM ⟨rfl, hbM⟩
      have HB8 := hide (HB8.out.trans (hbM.mono HB8.out.size))
      clear hbM
      go_wp2_with fail
      refine (llAgainW _).mono ?_
      rintro e w9 ⟨rfl, hb9⟩
      have HB9 := hide hb9
      clear hb9
      go_wp2
      go_ret
      exact ⟨rfl, HQ.out.trans ((HB8.out.trans (HB9.out.mono HB8.out.size)).mono HQ.out.size)⟩
    · rw [hL] at N
      have hEn : chkE n cs np = 0 := by rw [← hpl]; exact hE
      obtain ⟨hn, _⟩ := chk_calls hE
      obtain ⟨nn, rfl⟩ : ∃ nn : Nat, n = nn := ⟨n.toNat, by omega⟩
      have NP := fun (W : World) (hW : Below wq.heap.size wq W) (As : Option Addr) (hsp : SlSp W (.slice As 1 1) [(13, z0, 0)]) => llPlainPlay ⟨hz1, hz2⟩ hsp (h.below hW (Nat.le_refl _)) hm (hp.below hW (Nat.le_refl _)) hpl hcu hEn
      have ST := steps_le ll_stle (by decide) cs (List.replicate z0.toNat 0) ⟨z0, fun _ _ => none⟩ trivial picks
      rw [show ((Ps.new (List.replicate z0.toNat 0) ⟨z0, fun _ _ => none⟩ cs.length : Ps (Lo × An) Ll).play llG cs picks).ends llG = (llPlay z0 cs picks).ends llG from rfl] at ST
      generalize (llPlay z0 cs picks).ends llG = es at N NP ST
      generalize (llPlay z0 cs picks).lw.mem = mm at N NP
      generalize (llPlay z0 cs picks).lw.now = now at N NP
      generalize (llPlay z0 cs picks).idle = idle at N NP
      have HN := hide N
      have HNP := hide NP
      have HST := hide ST
      clear hE hL hb h hp hcu N NP hEn ST
      go_enter Tryz.func3, Tryz.ntmps3
      go_upto_region 1 with fail
      rw [← HWQ.out]
      clear HWQ
      go_wp2_with fail
      refine N0.mono ?_
      rintro e w0 ⟨rfl, rfl⟩
      go_wp2_with fail
      refine (HN.out _ (Below.refl _ _)).mono ?_
      rintro e w1 (⟨h, _⟩ | ⟨_, ev, B, Mu, g, c1, rfl, hev, hB, hwr, hb1⟩)
      · exact absurd rfl h
      obtain ⟨Ae, ce, rfl, -⟩ := evs_len hev
      have HEV := hide hev
      have HWR := hide hwr
      have HB1 := hide hb1
      clear hev hwr hb1 hB N0
      replace y0 := (HB1.out.cell (p := ⟨w.heap.size, 0, none⟩) zq).trans y0
      replace y1 := (HB1.out.cell (p := ⟨w.heap.size, 1, none⟩) zq).trans y1
      have zq1 := Nat.lt_of_lt_of_le zq HB1.out.size
      unfold repV
      go_wp2_with fail
      obtain ⟨W2, hW2⟩ : ∃ x, x = (w1.alloc (.cells #[.slice Ae es.length ce, .slice (some ⟨g, 0, none⟩) mm.words.length c1, .int .i64 (wrap64 mm.rd), .int .i64 (wrap64 mm.wr), .int .i64 (wrap64 mm.sw), .int .i64 (wrap64 mm.ad), .int .i64 (wrap64 mm.ft), .int .i64 now, .int .i64 idle] 32)).alloc (.cells #[.int .i64 13, .int .i64 z0, .int .i64 0] 39) := ⟨_, rfl⟩
      rw [← hW2]
      have hsp : SlSp W2 (.slice (some ⟨w1.heap.size + 1, 0, none⟩) 1 1) [(13, z0, 0)] := by
        have hx : W2.heap[w1.heap.size + 1]? = some (.cells #[.int .i64 13, .int .i64 z0, .int .i64 0] 39 (0, 0)) := by
          rw [hW2]
          have := heap_alloc_new (w1.alloc (.cells #[.slice Ae es.length ce, .slice (some ⟨g, 0, none⟩) mm.words.length c1, .int .i64 (wrap64 mm.rd), .int .i64 (wrap64 mm.wr), .int .i64 (wrap64 mm.sw), .int .i64 (wrap64 mm.ad), .int .i64 (wrap64 mm.ft), .int .i64 now, .int .i64 idle] 32)) (.cells #[.int .i64 13, .int .i64 z0, .int .i64 0] 39)
          simpa using this
        refine Sl.of_block (enc := spEnc) (sz := 3) (xs := [(13, z0, 0)]) hx (Nat.le_refl _) (by unfold maxLen; decide) (fun k x hk j u hu => ?_)
        rcases k with _ | k
        · simp at hk
          subst hk
          simpa [spEnc] using hu
        · simp at hk
      have ha : W2.heap[w1.heap.size]? = some (.cells #[.slice Ae es.length ce, .slice (some ⟨g, 0, none⟩) mm.words.length c1, .int .i64 (wrap64 mm.rd), .int .i64 (wrap64 mm.wr), .int .i64 (wrap64 mm.sw), .int .i64 (wrap64 mm.ad), .int .i64 (wrap64 mm.ft), .int .i64 now, .int .i64 idle] 32 (0, 0)) := by
        rw [hW2]
        exact (Below.heap_alloc _ _ _ (by simp)).trans (heap_alloc_new _ _)
      have hb2 : Below w1.heap.size w1 W2 := by rw [hW2]; exact ((Below.refl _ _).alloc (Nat.le_refl _) _).alloc (by simp) _
      have hb02 := HB1.out.trans (hb2.mono HB1.out.size)
      refine (HNP.out W2 hb02 _ hsp).mono ?_
      rintro e w3 ⟨ev2, B2, Mu2, Aw, nw, cw, rfl, hev2, hw2, hb3⟩
      obtain ⟨A2, c2, rfl, -⟩ := evs_len hev2
      have ha4 := (hb3.block _ (Array.getElem?_eq_some_iff.1 ha).1).trans ha
      have a0 := cell_of_row _ _ 0 _ _ _ ha4
      have a1 := cell_of_row _ _ 1 _ _ _ ha4
      have a2 := cell_of_row _ _ 2 _ _ _ ha4
      have a3 := cell_of_row _ _ 3 _ _ _ ha4
      have a4 := cell_of_row _ _ 4 _ _ _ ha4
      have a5 := cell_of_row _ _ 5 _ _ _ ha4
      have a6 := cell_of_row _ _ 6 _ _ _ ha4
      have a7 := cell_of_row _ _ 7 _ _ _ ha4
      have a8 := cell_of_row _ _ 8 _ _ _ ha4
      simp at a0 a1 a2 a3 a4 a5 a6 a7 a8
      have za := (Array.getElem?_eq_some_iff.1 ha4).1
      have hb13 : Below w1.heap.size w1 w3 := hb2.trans (hb3.mono hb2.size)
      have hb03 : Below w0.heap.size w0 w3 := HB1.out.trans (hb13.mono HB1.out.size)
      have NS := fun (W : World) (hW : Below w3.heap.size w3 W) => same_self (.slice Ae es.length ce) (.slice A2 es.length c2) B B2 Mu Mu2 es (some ⟨g, 0, none⟩) Aw mm.words.length c1 nw cw mm.words mm now idle W ((HEV.out.below hb13).below hW) (hev2.below hW) (((wrow_sl HWR.out (owns_max HWR.out)).below hb13 (Nat.le_refl _)).below hW (Nat.le_refl _)) (hw2.below hW (Nat.le_refl _))
      have HNS := hide NS
      have HB03 := hide hb03
      have HB13 := hide hb13
      have HA4 := hide ha4
      clear NS hb03 hb13 hev2 hw2 hb3 ha ha4 hsp hb2 hb02 hW2
      unfold repV at HNS ⊢
      go_wp2_with fail
      refine (HNS.out _ ((Below.refl _ _).alloc (Nat.le_refl _) _)).mono ?_
      rintro e w8 ⟨rfl, hb8⟩
      have HB8 := hide ((HB03.out.alloc HB03.out.size _).trans (hb8.mono (by have := HB03.out.size; simp; omega)))
      have h38 := ((Below.refl _ w3).alloc (Nat.le_refl _) _).trans (hb8.mono (by simp))
      have h18 := HB13.out.trans (h38.mono HB13.out.size)
      have HE8 := hide (HEV.out.below h18)
      have ha4 := (h38.block _ (Array.getElem?_eq_some_iff.1 HA4.out).1).trans HA4.out
      clear a0 a1 a2 a3 a4 a5 a6 a7 a8 za
      have a0 := cell_of_row _ _ 0 _ _ _ ha4
      have a1 := cell_of_row _ _ 1 _ _ _ ha4
      have a2 := cell_of_row _ _ 2 _ _ _ ha4
      have a3 := cell_of_row _ _ 3 _ _ _ ha4
      have a4 := cell_of_row _ _ 4 _ _ _ ha4
      have a5 := cell_of_row _ _ 5 _ _ _ ha4
      have a6 := cell_of_row _ _ 6 _ _ _ ha4
      have a7 := cell_of_row _ _ 7 _ _ _ ha4
      have a8 := cell_of_row _ _ 8 _ _ _ ha4
      simp at a0 a1 a2 a3 a4 a5 a6 a7 a8
      have za := (Array.getElem?_eq_some_iff.1 ha4).1
      clear hb8 HNS h18 h38 HB13 HA4 ha4
      go_wp2_with fail
      refine Calls.mono (most_le (.slice Ae es.length ce) B Mu es (some ⟨g, 0, none⟩) mm.words.length c1 mm now idle _ w8 HE8.out ?_) ?_
      · intro e he
        have := HST.out e he
        omega
      rintro e wM ⟨rfl, hbM⟩
      have HB8 := hide (HB8.out.trans (hbM.mono HB8.out.size))
      clear hbM HE8
      go_wp2_with fail
      refine (llAgainW _).mono ?_
      rintro e w9 ⟨rfl, hb9⟩
      have HB9 := hide hb9
      clear hb9
      go_wp2
      go_ret
      exact ⟨rfl, HQ.out.trans ((HB8.out.trans (HB9.out.mono HB8.out.size)).mono HQ.out.size)⟩
  · rw [hb] at N0
    clear hb h hp hcu
    go_enter Tryz.func3, Tryz.ntmps3
    go_upto_region 1 with fail
    rw [← HWQ.out]
    clear HWQ
    go_wp2_with fail
    refine N0.mono ?_
    rintro e w0 ⟨rfl, rfl⟩
    go_wp2_with fail
    refine (llAgainW _).mono ?_
    rintro e w9 ⟨rfl, hb9⟩
    have HB9 := hide hb9
    clear hb9
    go_wp2
    go_ret
    exact ⟨rfl, HQ.out.trans (HB9.out.mono HQ.out.size)⟩
end Go.Proofs.YtlfingcmekifkaaGreat
