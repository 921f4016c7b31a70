import Derived.Test.YtlfingcmekifkaaGreatBun23
import Derived.Test.YtlfingcmekifkaaGreatBun24
import Derived.Test.YtlfingcmekifkaaGreatBun28
import Derived.Test.YtlfingcmekifkaaGreatBun29
import Derived.Test.YtlfingcmekifkaaGreatBun30
import Derived.Test.YtlfingcmekifkaaGreatRt23
import Derived.Test.YtlfingcmekifkaaGreatChecked
import Derived.Test.YtlfingcmekifkaaGreatRows
import Derived.Test.YtlfingcmekifkaaGreatBun1
import Derived.Deep.Slices
import Derived.Deep.Fields
import Derived.ChangeSame
import Derived.OpenShut
import Derived.ProofKit
namespace Go.Proofs.YtlfingcmekifkaaGreat
open Go.RowKit
theorem adPlainPlay {nn : Nat} {As : Option Addr} {cs0 : Nat} {A : Option Addr} {m c : Nat} {cs : List Cl} {Ap : Option Addr} {np cp : Nat} {picks : List Int} {w : World} (hsp : SlSp w (.slice As 1 cs0) [(15, 0, 0)]) (h : SlCl w (.slice A m c) cs) (hm : cs.length = m) (hp : SlI w (.slice Ap np cp) picks) (hpl : picks.length = np) (hcu : ∀ c ∈ cs, ClU c) (hE : chkE nn cs np = 0) :
    Calls Tryz.prog 11 #[.int .i64 (nn : Int), .slice As 1 cs0, .slice A m c, .slice Ap np cp] w (RPlayPost ((adPlay nn cs picks).ends adG) (adPlay nn cs picks).lw.mem (adPlay nn cs picks).lw.now (adPlay nn cs picks).idle w) := by
  obtain ⟨hn, hcl, hnp, hth⟩ := chk_calls hE
  have hn' : 1 ≤ nn ∧ nn ≤ 16 := by omega
  have S := sim_ends (A := adA nn) (ad_alike hn'.1) adG_still (fun _ _ _ => rfl) (n := nn) (by omega) (cs := cs) (fun c hc => ⟨hth c hc, hcu c hc⟩) (List.replicate (2 * nn) 0) ⟨nn, fun _ => false⟩ (fun t => ⟨rfl, by show false = true ↔ ([] : List Int) ≠ []; simp⟩) picks
  have hs : ((2 * nn : Nat) : Int) = 2 * (nn : Int) := by push_cast; rfl
  have L := plainLog (w := w.alloc zeroRep) (plainDo_ad nn hn' 0 0) (ad_small nn) (ad_pln nn) (size := 2 * nn) (fun W => by rw [hs]; exact size15 nn 0 0 hn' W) (by omega) ⟨by decide, by decide⟩ (hsp.alloc _) (h.alloc _) hm (hp.alloc _) hpl hcu hE
  obtain ⟨s1, s2, s3, s4⟩ := S
  unfold adPlay
  rw [s1, s2, s3, s4]
  exact plainPlay L
set_option maxRecDepth 100000 in
set_option maxHeartbeats 4000000 in
theorem adoptPlaysW (n : Int) (A : Option Addr) (m c : Nat) (cs : List Cl) (Ap : Option Addr) (np cp : Nat) (picks : List Int) (w : World) (h : SlCl w (.slice A m c) cs) (hm : cs.length = m) (hp : SlI w (.slice Ap np cp) picks) (hpl : picks.length = np) (hcu : ∀ c ∈ cs, ClU c) :
    Calls Tryz.prog 5 #[.int .i64 n, .slice A m c, .slice Ap np cp] w fun e w' => e = .returned (.bool true) ∧ Below w.heap.size w w' := by
  have N0 := many_any A Ap m c np cp w (by obtain ⟨_, _, e, h1, h2, _⟩ := h; cases e; omega) (by obtain ⟨_, _, e, h1, h2, _⟩ := hp; cases e; omega)
  rcases hb : manyB m np with _ | _
  · rw [hb] at N0
    have N := fun (W : World) (hW : Below w.heap.size w W) => adoptPlay n A m c cs Ap np cp picks W (h.below hW (Nat.le_refl _)) hm (hp.below hW (Nat.le_refl _)) hpl hcu
    obtain ⟨E, hE⟩ : ∃ E, chkE n cs picks.length = E := ⟨_, rfl⟩
    rw [hE] at N
    have hEn : chkE n cs np = E := by rw [← hpl]; exact hE
    by_cases h0 : E = 0
    · subst h0
      obtain ⟨hn, _⟩ := chk_calls hE
      obtain ⟨nn, rfl⟩ : ∃ nn : Nat, n = nn := ⟨n.toNat, by omega⟩
      rw [Int.toNat_natCast] at N
      have hn1 : 1 ≤ nn := by omega
      have hn16 : nn ≤ 16 := by omega
      have k1 : IntKind.i64.wrap (2 * (nn : Int)) = 2 * (nn : Int) := wrap_i64 (by omega) (by omega)
      have k2 : IntKind.i64.wrap (2 * (nn : Int) + 2) = 2 * (nn : Int) + 2 := wrap_i64 (by omega) (by omega)
      have NP := fun (W : World) (hW : Below w.heap.size w W) (As : Option Addr) (hsp : SlSp W (.slice As 1 1) [(15, 0, 0)]) => adPlainPlay hsp (h.below hW (Nat.le_refl _)) hm (hp.below hW (Nat.le_refl _)) hpl hcu hEn
      have ST := steps_le (ad_stle hn1) (by omega) cs (List.replicate (2 * nn) 0) ⟨nn, fun _ => false⟩ rfl picks
      rw [show ((Ps.new (List.replicate (2 * nn) 0) ⟨nn, fun _ => false⟩ cs.length : Ps AM Ad).play adG cs picks).ends adG = (adPlay nn cs picks).ends adG from rfl] at ST
      generalize (adPlay nn cs picks).ends adG = es at N NP ST
      generalize (adPlay nn cs picks).lw.mem = mm at N NP
      generalize (adPlay nn cs picks).lw.now = now at N NP
      generalize (adPlay nn cs picks).idle = idle at N NP
      have HN := hide N
      have HNP := hide NP
      have HST := hide ST
      clear hE hb h hp hcu N NP hEn ST
      go_enter Tryz.func5, Tryz.ntmps5
      go_wp2_with fail
      refine N0.mono ?_
      rintro e w0 ⟨rfl, rfl⟩
      go_wp2_with fail
      refine (HN.out _ (Below.refl _ _)).mono ?_
      rintro e w1 (⟨h, _⟩ | ⟨_, ev, B, Mu, g, c1, rfl, hev, hB, hwr, hb1⟩)
      · exact absurd rfl h
      obtain ⟨Ae, ce, rfl, -⟩ := evs_len hev
      have HEV := hide hev
      have HWR := hide hwr
      have HB1 := hide hb1
      clear hev hwr hb1 hB N0
      unfold repV
      go_wp2_with fail
      obtain ⟨W2, hW2⟩ : ∃ x, x = (w1.alloc (.cells #[.slice Ae es.length ce, .slice (some ⟨g, 0, none⟩) mm.words.length c1, .int .i64 (wrap64 mm.rd), .int .i64 (wrap64 mm.wr), .int .i64 (wrap64 mm.sw), .int .i64 (wrap64 mm.ad), .int .i64 (wrap64 mm.ft), .int .i64 now, .int .i64 idle] 32)).alloc (.cells #[.int .i64 15, .int .i64 0, .int .i64 0] 39) := ⟨_, rfl⟩
      rw [← hW2]
      have hsp : SlSp W2 (.slice (some ⟨w1.heap.size + 1, 0, none⟩) 1 1) [(15, 0, 0)] := by
        have hx : W2.heap[w1.heap.size + 1]? = some (.cells #[.int .i64 15, .int .i64 0, .int .i64 0] 39 (0, 0)) := by
          rw [hW2]
          have := heap_alloc_new (w1.alloc (.cells #[.slice Ae es.length ce, .slice (some ⟨g, 0, none⟩) mm.words.length c1, .int .i64 (wrap64 mm.rd), .int .i64 (wrap64 mm.wr), .int .i64 (wrap64 mm.sw), .int .i64 (wrap64 mm.ad), .int .i64 (wrap64 mm.ft), .int .i64 now, .int .i64 idle] 32)) (.cells #[.int .i64 15, .int .i64 0, .int .i64 0] 39)
          simpa using this
        refine Sl.of_block (enc := spEnc) (sz := 3) (xs := [(15, 0, 0)]) hx (Nat.le_refl _) (by unfold maxLen; decide) (fun k x hk j u hu => ?_)
        rcases k with _ | k
        · simp at hk
          subst hk
          simpa [spEnc] using hu
        · simp at hk
      have ha : W2.heap[w1.heap.size]? = some (.cells #[.slice Ae es.length ce, .slice (some ⟨g, 0, none⟩) mm.words.length c1, .int .i64 (wrap64 mm.rd), .int .i64 (wrap64 mm.wr), .int .i64 (wrap64 mm.sw), .int .i64 (wrap64 mm.ad), .int .i64 (wrap64 mm.ft), .int .i64 now, .int .i64 idle] 32 (0, 0)) := by
        rw [hW2]
        exact (Below.heap_alloc _ _ _ (by simp)).trans (heap_alloc_new _ _)
      have hb2 : Below w1.heap.size w1 W2 := by rw [hW2]; exact ((Below.refl _ _).alloc (Nat.le_refl _) _).alloc (by simp) _
      have hb02 := HB1.out.trans (hb2.mono HB1.out.size)
      refine (HNP.out W2 hb02 _ hsp).mono ?_
      rintro e w3 ⟨ev2, B2, Mu2, Aw, nw, cw, rfl, hev2, hw2, hb3⟩
      obtain ⟨A2, c2, rfl, -⟩ := evs_len hev2
      have ha4 := (hb3.block _ (Array.getElem?_eq_some_iff.1 ha).1).trans ha
      have a0 := cell_of_row _ _ 0 _ _ _ ha4
      have a1 := cell_of_row _ _ 1 _ _ _ ha4
      have a2 := cell_of_row _ _ 2 _ _ _ ha4
      have a3 := cell_of_row _ _ 3 _ _ _ ha4
      have a4 := cell_of_row _ _ 4 _ _ _ ha4
      have a5 := cell_of_row _ _ 5 _ _ _ ha4
      have a6 := cell_of_row _ _ 6 _ _ _ ha4
      have a7 := cell_of_row _ _ 7 _ _ _ ha4
      have a8 := cell_of_row _ _ 8 _ _ _ ha4
      simp at a0 a1 a2 a3 a4 a5 a6 a7 a8
      have za := (Array.getElem?_eq_some_iff.1 ha4).1
      have hb13 : Below w1.heap.size w1 w3 := hb2.trans (hb3.mono hb2.size)
      have hb03 : Below w0.heap.size w0 w3 := HB1.out.trans (hb13.mono HB1.out.size)
      have NS := fun (W : World) (hW : Below w3.heap.size w3 W) => same_self (.slice Ae es.length ce) (.slice A2 es.length c2) B B2 Mu Mu2 es (some ⟨g, 0, none⟩) Aw mm.words.length c1 nw cw mm.words mm now idle W ((HEV.out.below hb13).below hW) (hev2.below hW) (((wrow_sl HWR.out (owns_max HWR.out)).below hb13 (Nat.le_refl _)).below hW (Nat.le_refl _)) (hw2.below hW (Nat.le_refl _))
      have HNS := hide NS
      have HB03 := hide hb03
      have HB13 := hide hb13
      have HA4 := hide ha4
      clear NS hb03 hb13 hev2 hw2 hb3 ha ha4 hsp hb2 hb02 hW2
      unfold repV at HNS ⊢
      go_wp2_with fail
      refine (HNS.out _ ((Below.refl _ _).alloc (Nat.le_refl _) _)).mono ?_
      rintro e w8 ⟨rfl, hb8⟩
      have HB8 := hide ((HB03.out.alloc HB03.out.size _).trans (hb8.mono (by have := HB03.out.size; simp; omega)))
      have h38 := ((Below.refl _ w3).alloc (Nat.le_refl _) _).trans (hb8.mono (by simp))
      have h18 := HB13.out.trans (h38.mono HB13.out.size)
      have HE8 := hide (HEV.out.below h18)
      have ha4 := (h38.block _ (Array.getElem?_eq_some_iff.1 HA4.out).1).trans HA4.out
      clear a0 a1 a2 a3 a4 a5 a6 a7 a8 za
      have a0 := cell_of_row _ _ 0 _ _ _ ha4
      have a1 := cell_of_row _ _ 1 _ _ _ ha4
      have a2 := cell_of_row _ _ 2 _ _ _ ha4
      have a3 := cell_of_row _ _ 3 _ _ _ ha4
      have a4 := cell_of_row _ _ 4 _ _ _ ha4
      have a5 := cell_of_row _ _ 5 _ _ _ ha4
      have a6 := cell_of_row _ _ 6 _ _ _ ha4
      have a7 := cell_of_row _ _ 7 _ _ _ ha4
      have a8 := cell_of_row _ _ 8 _ _ _ ha4
      simp at a0 a1 a2 a3 a4 a5 a6 a7 a8
      have za := (Array.getElem?_eq_some_iff.1 ha4).1
      clear hb8 HNS h18 h38 HB13 HA4 ha4
      go_wp2_with fail
      refine Calls.mono (most_le (.slice Ae es.length ce) B Mu es (some ⟨g, 0, none⟩) mm.words.length c1 mm now idle _ w8 HE8.out ?_) ?_
      · intro e he
        have := HST.out e he
        omega
      rintro e wM ⟨rfl, hbM⟩
      have HB8 := hide (HB8.out.trans (hbM.mono HB8.out.size))
      clear hbM HE8
      go_wp2_with fail
      refine (lateW _).mono ?_
      rintro e w9 ⟨rfl, hb9⟩
      have HB9 := hide hb9
      clear hb9
      go_wp2
      go_ret
      exact ⟨rfl, HB8.out.trans (HB9.out.mono HB8.out.size)⟩
    · have d0 : (E == 0) = false := by simpa using h0
      have NB := fun (W : World) (hW : Below w.heap.size w W) (As : Option Addr) => plainPlayOf (As := As) (ns := 1) (cs0 := 1) (Ap := Ap) (cp := cp) (plainLogBad (w := W.alloc zeroRep) ((h.below hW (Nat.le_refl _)).alloc _) hm hEn h0)
      have HNB := hide NB
      have HN := hide N
      have HE0 := hide h0
      clear hE hb h hp hcu N NB hEn h0
      by_cases hmx : wrap64 (wrap64 (2 * n) + 2) ≤ 1
      · go_enter Tryz.func5, Tryz.ntmps5
        go_wp2_with fail
        refine N0.mono ?_
        rintro e w0 ⟨rfl, rfl⟩
        go_wp2_with fail
        refine (HN.out _ (Below.refl _ _)).mono ?_
        rintro e w1 (⟨_, rfl, hb1⟩ | ⟨h, _⟩)
        rotate_left
        · exact absurd h HE0.out
        have HB1 := hide hb1
        clear hb1 N0
        unfold zeroV
        go_wp2_with fail
        obtain ⟨W2, hW2⟩ : ∃ x, x = (w1.alloc (.cells #[.slice none 0 0, .slice none 0 0, .int .i64 0, .int .i64 0, .int .i64 0, .int .i64 0, .int .i64 0, .int .i64 0, .int .i64 0] 32)).alloc (.cells #[.int .i64 15, .int .i64 0, .int .i64 0] 39) := ⟨_, rfl⟩
        rw [← hW2]
        have ha : W2.heap[w1.heap.size]? = some (.cells #[.slice none 0 0, .slice none 0 0, .int .i64 0, .int .i64 0, .int .i64 0, .int .i64 0, .int .i64 0, .int .i64 0, .int .i64 0] 32 (0, 0)) := by
          rw [hW2]
          exact (Below.heap_alloc _ _ _ (by simp)).trans (heap_alloc_new _ _)
        have hb02 : Below w0.heap.size w0 W2 := by rw [hW2]; exact (HB1.out.alloc HB1.out.size _).alloc (by have := HB1.out.size; simp; omega) _
        refine (HNB.out W2 hb02 _).mono ?_
        rintro e w3 ⟨rfl, hb3⟩
        have ha4 := (hb3.block _ (Array.getElem?_eq_some_iff.1 ha).1).trans ha
        have a0 := cell_of_row _ _ 0 _ _ _ ha4
        have a1 := cell_of_row _ _ 1 _ _ _ ha4
        have a2 := cell_of_row _ _ 2 _ _ _ ha4
        have a3 := cell_of_row _ _ 3 _ _ _ ha4
        have a4 := cell_of_row _ _ 4 _ _ _ ha4
        have a5 := cell_of_row _ _ 5 _ _ _ ha4
        have a6 := cell_of_row _ _ 6 _ _ _ ha4
        have a7 := cell_of_row _ _ 7 _ _ _ ha4
        have a8 := cell_of_row _ _ 8 _ _ _ ha4
        simp at a0 a1 a2 a3 a4 a5 a6 a7 a8
        have za := (Array.getElem?_eq_some_iff.1 ha4).1
        have hb03 : Below w0.heap.size w0 w3 := hb02.trans (hb3.mono hb02.size)
        have HB03 := hide hb03
        have HA4 := hide ha4
        have NS := same_zero
        clear hb03 hb3 ha ha4 hb02 hW2
        unfold zeroV at NS ⊢
        go_wp2_with fail
        refine (NS _).mono ?_
        rintro e w8 ⟨rfl, hb8⟩
        have HB8 := hide ((HB03.out.alloc HB03.out.size _).trans (hb8.mono (by have := HB03.out.size; simp; omega)))
        have h38 := ((Below.refl _ w3).alloc (Nat.le_refl _) _).trans (hb8.mono (by simp))
        have ha4 := (h38.block _ (Array.getElem?_eq_some_iff.1 HA4.out).1).trans HA4.out
        clear a0 a1 a2 a3 a4 a5 a6 a7 a8 za
        have a0 := cell_of_row _ _ 0 _ _ _ ha4
        have a1 := cell_of_row _ _ 1 _ _ _ ha4
        have a2 := cell_of_row _ _ 2 _ _ _ ha4
        have a3 := cell_of_row _ _ 3 _ _ _ ha4
        have a4 := cell_of_row _ _ 4 _ _ _ ha4
        have a5 := cell_of_row _ _ 5 _ _ _ ha4
        have a6 := cell_of_row _ _ 6 _ _ _ ha4
        have a7 := cell_of_row _ _ 7 _ _ _ ha4
        have a8 := cell_of_row _ _ 8 _ _ _ ha4
        simp at a0 a1 a2 a3 a4 a5 a6 a7 a8
        have za := (Array.getElem?_eq_some_iff.1 ha4).1
        clear hb8 NS h38 HA4 ha4
        go_wp2_with fail
        refine (most_zero _ _).mono ?_
        rintro e wM ⟨rfl, hbM⟩
        have HB8 := hide (HB8.out.trans (hbM.mono HB8.out.size))
        clear hbM
        go_wp2_with fail
        refine (lateW _).mono ?_
        rintro e w9 ⟨rfl, hb9⟩
        have HB9 := hide hb9
        clear hb9
        go_wp2
        go_ret
        exact ⟨rfl, HB8.out.trans (HB9.out.mono HB8.out.size)⟩
      · go_enter Tryz.func5, Tryz.ntmps5
        go_wp2_with fail
        refine N0.mono ?_
        rintro e w0 ⟨rfl, rfl⟩
        go_wp2_with fail
        refine (HN.out _ (Below.refl _ _)).mono ?_
        rintro e w1 (⟨_, rfl, hb1⟩ | ⟨h, _⟩)
        rotate_left
        · exact absurd h HE0.out
        have HB1 := hide hb1
        clear hb1 N0
        unfold zeroV
        go_wp2_with fail
        obtain ⟨W2, hW2⟩ : ∃ x, x = (w1.alloc (.cells #[.slice none 0 0, .slice none 0 0, .int .i64 0, .int .i64 0, .int .i64 0, .int .i64 0, .int .i64 0, .int .i64 0, .int .i64 0] 32)).alloc (.cells #[.int .i64 15, .int .i64 0, .int .i64 0] 39) := ⟨_, rfl⟩
        rw [← hW2]
        have ha : W2.heap[w1.heap.size]? = some (.cells #[.slice none 0 0, .slice none 0 0, .int .i64 0, .int .i64 0, .int .i64 0, .int .i64 0, .int .i64 0, .int .i64 0, .int .i64 0] 32 (0, 0)) := by
          rw [hW2]
          exact (Below.heap_alloc _ _ _ (by simp)).trans (heap_alloc_new _ _)
        have hb02 : Below w0.heap.size w0 W2 := by rw [hW2]; exact (HB1.out.alloc HB1.out.size _).alloc (by have := HB1.out.size; simp; omega) _
        refine (HNB.out W2 hb02 _).mono ?_
        rintro e w3 ⟨rfl, hb3⟩
        have ha4 := (hb3.block _ (Array.getElem?_eq_some_iff.1 ha).1).trans ha
        have a0 := cell_of_row _ _ 0 _ _ _ ha4
        have a1 := cell_of_row _ _ 1 _ _ _ ha4
        have a2 := cell_of_row _ _ 2 _ _ _ ha4
        have a3 := cell_of_row _ _ 3 _ _ _ ha4
        have a4 := cell_of_row _ _ 4 _ _ _ ha4
        have a5 := cell_of_row _ _ 5 _ _ _ ha4
        have a6 := cell_of_row _ _ 6 _ _ _ ha4
        have a7 := cell_of_row _ _ 7 _ _ _ ha4
        have a8 := cell_of_row _ _ 8 _ _ _ ha4
        simp at a0 a1 a2 a3 a4 a5 a6 a7 a8
        have za := (Array.getElem?_eq_some_iff.1 ha4).1
        have hb03 : Below w0.heap.size w0 w3 := hb02.trans (hb3.mono hb02.size)
        have HB03 := hide hb03
        have HA4 := hide ha4
        have NS := same_zero
        clear hb03 hb3 ha ha4 hb02 hW2
        unfold zeroV at NS ⊢
        go_wp2_with fail
        refine (NS _).mono ?_
        rintro e w8 ⟨rfl, hb8⟩
        have HB8 := hide ((HB03.out.alloc HB03.out.size _).trans (hb8.mono (by have := HB03.out.size; simp; omega)))
        have h38 := ((Below.refl _ w3).alloc (Nat.le_refl _) _).trans (hb8.mono (by simp))
        have ha4 := (h38.block _ (Array.getElem?_eq_some_iff.1 HA4.out).1).trans HA4.out
        clear a0 a1 a2 a3 a4 a5 a6 a7 a8 za
        have a0 := cell_of_row _ _ 0 _ _ _ ha4
        have a1 := cell_of_row _ _ 1 _ _ _ ha4
        have a2 := cell_of_row _ _ 2 _ _ _ ha4
        have a3 := cell_of_row _ _ 3 _ _ _ ha4
        have a4 := cell_of_row _ _ 4 _ _ _ ha4
        have a5 := cell_of_row _ _ 5 _ _ _ ha4
        have a6 := cell_of_row _ _ 6 _ _ _ ha4
        have a7 := cell_of_row _ _ 7 _ _ _ ha4
        have a8 := cell_of_row _ _ 8 _ _ _ ha4
        simp at a0 a1 a2 a3 a4 a5 a6 a7 a8
        have za := (Array.getElem?_eq_some_iff.1 ha4).1
        clear hb8 NS h38 HA4 ha4
        go_wp2_with fail
        refine (most_zero _ _).mono ?_
        rintro e wM ⟨rfl, hbM⟩
        have HB8 := hide (HB8.out.trans (hbM.mono HB8.out.size))
        clear hbM
        go_wp2_with fail
        refine (lateW _).mono ?_
        rintro e w9 ⟨rfl, hb9⟩
        have HB9 := hide hb9
        clear hb9
        go_wp2
        go_ret
        exact ⟨rfl, HB8.out.trans (HB9.out.mono HB8.out.size)⟩
  · rw [hb] at N0
    clear hb h hp hcu
    go_enter Tryz.func5, Tryz.ntmps5
    go_wp2_with fail
    refine N0.mono ?_
    rintro e w0 ⟨rfl, rfl⟩
    go_wp2_with fail
    refine (lateW _).mono ?_
    rintro e w9 ⟨rfl, hb9⟩
    have HB9 := hide hb9
    clear hb9
    go_wp2
    go_ret
    exact ⟨rfl, HB9.out⟩
end Go.Proofs.YtlfingcmekifkaaGreat

namespace Go.Proofs.YtlfingcmekifkaaGreat
open Go.ChangeShapes Go.WideShapes Go.ChangeAt Go.RowKit Go.Deep
theorem Tryz.own : ownKnob Tryz.prog.godebug = none := by kernel_rfl
theorem Tryz.laidOut : laidOutB Tryz.prog = true := by kernel_rfl
section
variable {H : Type} {enc : TypeId × Value → H} {P : Program}
theorem post_of_below {f : Func} {s : ChangeSpec} {apart fresh handsOn again : Bool} {W W' : World} {args : Array Value} {v : Value} {ds gs : List (DataW H)} {before pa pv : List MemPlace}
    (hW : DataW.Whole enc P f.params.toList s.vars apart W args.toList ds gs before)
    (hres : ∀ (b : Nat) (sp : Nat → Bool) (hd : Bool), DataW.TrodAll enc P W' b sp hd f.resultTypes.toList (v.resultList f.resultTypes.size) (s.fn H (ds ++ gs)).results [])
    (hargs : ∀ sp : Nat → Bool, (∀ p ∈ before, sp p.block = true) → DataW.TrodAll enc P W' 0 sp true f.params.toList args.toList (s.fn H (ds ++ gs)).args pa)
    (hvars : ∀ sp : Nat → Bool, (∀ p ∈ before, sp p.block = true) → DataW.TrodVars enc P W' sp s.vars (s.fn H (ds ++ gs)).vars pv)
    (hps : before = pa ++ pv) (hb : Below W.heap.size W W')
    (hok : ∀ (j : Nat) (t : TypeId) (r : Value), f.resultTypes[j]? = some t → (v.resultList f.resultTypes.size)[j]? = some r → Value.okWide P W' .any 0 t r) :
    s.post enc P f apart fresh handsOn again W args v W' := by
  have hlt : ∀ p ∈ before, p.block < W.heap.size := fun p hp => hW.lt p hp
  have hold : ∀ p ∈ before, (fun b => decide (b < W.heap.size)) p.block = true := fun p hp => by simpa using hlt p hp
  refine ⟨ds, gs, before, [], pa, pv, hW, hres _ _ _, hargs _ hold, hvars _ hold, World.keptBut_mono (fun p hp => ⟨hp, ?_⟩) (hb.frame (· ∈ before)), fun _ => ?_⟩
  · rw [hps, List.mem_append] at hp
    exact Or.inr hp
  · obtain ⟨_, _, _, _, _, hz, hn⟩ := hW
    refine ⟨hok, _, _, ([] ++ pa) ++ pv, ⟨[] ++ pa, pv, trodAll_append (hargs _ (fun _ _ => rfl)) (hres _ _ _), hvars _ (fun _ _ => rfl), rfl, ?_, ?_⟩, ?_⟩
    · intro b off hp
      have hin : MemPlace.cell b off ∈ before := by rw [hps]; simpa using hp
      rw [hb.frozen (hlt _ hin)]
      exact hz b off hin
    · intro ha
      have := hn ha
      rw [hps] at this
      simpa using this
    · intro p hp _
      rw [hps]
      simpa using hp
theorem trodAll_stays (hl : laidOutB P = true) {W W' : World} (hb : Below W.heap.size W W') {sp : Nat → Bool} : ∀ {ts : List TypeId} {vs : List Value} {ds : List (DataW H)} {ps : List MemPlace},
    (∀ t ∈ ts, P.readableRec t = true ∧ t < P.types.size) → DataW.TrodAll enc P W 0 (fun _ => true) true ts vs ds ps → (∀ p ∈ ps, p.block < W.heap.size) → (∀ p ∈ ps, sp p.block = true) →
    DataW.TrodAll enc P W' 0 sp true ts vs ds ps
  | [], [], [], _, _, h, _, _ => h
  | t :: ts, v :: vs, d :: ds, ps, ht, h, hlt, hs => by
    obtain ⟨p, q, h1, h2, rfl⟩ := h
    obtain ⟨hr, hrow⟩ := ht t (by simp)
    exact ⟨p, q, WideElems.Trod_stays hl hr hrow h1 (fun x hx => hb.same (hlt x (by simp [hx]))) (fun x hx => hs x (by simp [hx])), trodAll_stays hl hb (fun t h => ht t (by simp [h])) h2 (fun p h => hlt p (by simp [h])) (fun p h => hs p (by simp [h])), rfl⟩
theorem read_slv {α : Type} (en : α → List Value) (sz : Nat) (good : α → Prop) {W : World} {t e : TypeId} {v : Value} {d : DataW H} {p : List MemPlace} (ht : P.underlying t = some (.slice e)) (hC : P.cellsOf e = sz)
    (hel : ∀ (n : Nat) (cs : List Value) (x : DataW H × List MemPlace), cs.length = sz → DataW.trod enc P W 0 (fun _ => true) true n e cs = some x → ∃ a, cs = en a ∧ good a)
    (hv : ∃ a0 len0 cap0, v = .slice a0 len0 cap0) (h : DataW.Trod enc P W 0 (fun _ => true) true t v d p) (hsz : 0 < sz) : ∃ xs : List α, Sl en sz W v xs ∧ (∀ x ∈ xs, good x) ∧ xs.length ≤ maxLen := by
  obtain ⟨a0, len0, cap0, rfl⟩ := hv
  obtain ⟨fuel, hf⟩ := h
  rcases open_slice ht hf with ⟨hcs, _⟩ | ⟨a, len, cap, m, n, D, Pl, hcs, _, hlc, hcm, hm, _, hi⟩
  · simp only [Value.cells] at hcs
    cases hcs
    exact ⟨[], ⟨none, 0, rfl, Nat.le_refl _, Nat.zero_le _, fun k x hx => by simp at hx⟩, by simp, Nat.zero_le _⟩
  · simp only [Value.cells] at hcs
    cases hcs
    simp only [if_true] at hm
    subst hm
    have hel' : ∀ i, i < len0 → ∃ x : α, (∀ j u, (en x)[j]? = some u → W.cell? ((a.add (i * sz)).add j) = some u) ∧ good x ∧ (en x).length = sz := by
      intro i him
      obtain ⟨cs', hc, ht'⟩ := hi i (by omega)
      rw [hC] at hc
      obtain ⟨_, hcl, hat⟩ := World.cells?_some hc
      obtain ⟨x, rfl, hg⟩ := hel n cs' _ hcl ht'
      refine ⟨x, fun j u hu => ?_, hg, hcl⟩
      have hj : j < (en x).length := (List.getElem?_eq_some_iff.1 hu).1
      exact (hat j (by omega)).trans hu
    have hx : ∃ xs : List α, xs.length = len0 ∧ ∀ (i : Nat) (x : α), xs[i]? = some x → (∀ j u, (en x)[j]? = some u → W.cell? ((a.add (i * sz)).add j) = some u) ∧ good x ∧ (en x).length = sz := by
      clear hi hf
      have : ∀ k, k ≤ len0 → ∃ xs : List α, xs.length = k ∧ ∀ (i : Nat) (x : α), xs[i]? = some x → (∀ j u, (en x)[j]? = some u → W.cell? ((a.add (i * sz)).add j) = some u) ∧ good x ∧ (en x).length = sz := by
        intro k
        induction k with
        | zero => intro _; exact ⟨[], rfl, by simp⟩
        | succ k ih =>
          intro hk
          obtain ⟨xs, hl, hxs⟩ := ih (by omega)
          obtain ⟨x, hx⟩ := hel' k (by omega)
          refine ⟨xs ++ [x], by simp [hl], fun i y hy => ?_⟩
          rw [List.getElem?_append] at hy
          split at hy
          · exact hxs i y hy
          · rename_i hge
            have hik : i = k := by
              have := (List.getElem?_eq_some_iff.1 hy).1
              simp at this; omega
            subst hik
            rw [hl] at hy; simp at hy; subst hy; exact hx
      exact this len0 (Nat.le_refl _)
    obtain ⟨xs, hl, hxs⟩ := hx
    refine ⟨xs, ⟨some a, m, by rw [hl], by omega, hcm, fun k x hk => ?_⟩, fun x hx => ?_, by omega⟩
    · obtain ⟨h1, _, h2⟩ := hxs k x hk
      have h0 : 0 < xs.length := by have := (List.getElem?_eq_some_iff.1 hk).1; omega
      obtain ⟨y, hy⟩ : ∃ y, xs[0]? = some y := ⟨_, List.getElem?_eq_getElem h0⟩
      obtain ⟨g1, _, g2⟩ := hxs 0 y hy
      have hu : ∃ u, (en y)[0]? = some u := ⟨_, List.getElem?_eq_getElem (by omega)⟩
      obtain ⟨u, hu⟩ := hu
      have hcell : W.cell? a = some u := by have := g1 0 u hu; simpa [Addr.add] using this
      have hspot : a.spot = none := by
        unfold World.cell? at hcell
        split at hcell
        · split at hcell
          · cases hcell
          · rename_i hs; simpa using hs
        · cases hcell
      have hblk := World.block_lt_of_cell? W a hcell
      obtain ⟨b, o, sp⟩ := a
      simp only at hspot
      subst hspot
      refine ⟨b, o, rfl, hblk, fun j u hu => ?_⟩
      have := h1 j u hu
      rw [← this]
      congr 1
      unfold Addr.add
      by_cases e1 : k * sz = 0 <;> by_cases e2 : j = 0 <;> simp [e1, e2, Nat.add_assoc]
    · obtain ⟨i, hi, rfl⟩ := List.getElem_of_mem hx
      exact (hxs i _ (List.getElem?_eq_getElem hi)).2.1
theorem read_sl {α : Type} (en : α → List Value) (sz : Nat) (good : α → Prop) {W : World} {t e : TypeId} {v : Value} {d : DataW H} {p : List MemPlace} (ht : P.underlying t = some (.slice e)) (hC : P.cellsOf e = sz)
    (hel : ∀ (n : Nat) (cs : List Value) (x : DataW H × List MemPlace), cs.length = sz → DataW.trod enc P W 0 (fun _ => true) true n e cs = some x → ∃ a, cs = en a ∧ good a)
    {r : Reach} {b0 : Nat} (hv : Value.okWide P W r b0 t v) (h : DataW.Trod enc P W 0 (fun _ => true) true t v d p) (hsz : 0 < sz) : ∃ xs : List α, Sl en sz W v xs ∧ (∀ x ∈ xs, good x) ∧ xs.length ≤ maxLen :=
  read_slv en sz good ht hC hel (by obtain ⟨a, b, c, rfl⟩ := okWide_slice ht hv; exact ⟨_, _, _, rfl⟩) h hsz
end
theorem c_int : Tryz.prog.cellsOf 3 = 1 := by kernel_rfl
theorem c_u64 : Tryz.prog.cellsOf 46 = 1 := by kernel_rfl
section
variable {H : Type} {enc : TypeId × Value → H} {W : World} {r : Reach} {b0 : Nat} {v : Value} {d : DataW H} {p : List MemPlace}
set_option maxRecDepth 100000 in
theorem read_int (hv : Value.okWide Tryz.prog W r b0 3 v) (h : DataW.Trod enc Tryz.prog W 0 (fun _ => true) true 3 v d p) : ∃ n : Int, v = .int .i64 n ∧ (Lit.int .i64 n).wf = true := by
  obtain ⟨n, rfl⟩ := okWide_int Tryz.underlying3 hv
  obtain ⟨fuel, hf⟩ := h
  obtain ⟨a, e, _, w⟩ := DataW.trod_int Tryz.underlying3 hf
  simp [Value.cells] at e
  subst e
  exact ⟨_, rfl, w⟩
set_option maxRecDepth 100000 in
theorem read_ints (hv : Value.okWide Tryz.prog W r b0 24 v) (h : DataW.Trod enc Tryz.prog W 0 (fun _ => true) true 24 v d p) : ∃ xs : List Int, SlI W v xs ∧ (∀ x ∈ xs, (Lit.int .i64 x).wf = true) ∧ xs.length ≤ maxLen :=
  read_sl (ntEnc .i64) 1 (fun x => (Lit.int .i64 x).wf = true) Tryz.underlying24 c_int (fun n cs x _ hx => by obtain ⟨a, e, _, w⟩ := DataW.trod_int Tryz.underlying3 hx; exact ⟨a, e, w⟩) hv h (by decide)
end
set_option maxRecDepth 100000 in
theorem law_post {H : Type} {enc : TypeId × Value → H} {f : Func} {s : ChangeSpec} {apart : Bool} {W W' : World} {args : Array Value} {ds : List (DataW H)} {before : List MemPlace}
    (hr : f.resultTypes = #[4]) (hvars : s.vars = []) (hW : DataW.Whole enc Tryz.prog f.params.toList s.vars apart W args.toList ds [] before)
    (hA : DataW.TrodAll enc Tryz.prog W 0 (fun _ => true) true f.params.toList args.toList ds before)
    (hres : (s.fn H (ds ++ [])).results = [.lit (.bool true)]) (hargs : (s.fn H (ds ++ [])).args = ds) (hv : (s.fn H (ds ++ [])).vars = [])
    (hts : ∀ t ∈ f.params.toList, Tryz.prog.readableRec t = true ∧ t < Tryz.prog.types.size) (hb : Below W.heap.size W W') :
    s.post enc Tryz.prog f apart true false false W args (.bool true) W' := by
  have hlt : ∀ p ∈ before, p.block < W.heap.size := fun p hp => hW.lt p hp
  refine post_of_below (pa := before) (pv := []) hW (fun b sp hd => ?_) (fun sp hsp => ?_) (fun sp hsp => ?_) (by simp) hb ?_
  · rw [hres, hr]
    exact trodAll_mk1 (shut_bool Tryz.underlying4 true)
  · rw [hargs]
    exact trodAll_stays Tryz.laidOut hb hts hA hlt hsp
  · rw [hv, hvars]; rfl
  · exact ok_one hr rfl (okWide_bool_mk Tryz.underlying4 true)
end Go.Proofs.YtlfingcmekifkaaGreat
