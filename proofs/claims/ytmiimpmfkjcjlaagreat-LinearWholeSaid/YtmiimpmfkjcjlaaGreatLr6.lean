import Derived.Test.YtmiimpmfkjcjlaaGreatBun31
import Derived.Test.YtmiimpmfkjcjlaaGreatLr5
import Derived.Test.YtmiimpmfkjcjlaaGreatBun33
namespace Go.Proofs.YtmiimpmfkjcjlaaGreat
open Go.RowKit
def okEk (n : Int) (calls : List Cl) (ky : Nat → List Int) (k : Nat) (e : Ev) : Bool := okEv n calls e && (decide (e.resp = 0) || !(decide (ky k = [])))
def BadEv (n : Int) (calls : List Cl) (es : List Ev) (ky : Nat → List Int) : Prop := ∃ (k : Nat) (e : Ev), es[k]? = some e ∧ okEk n calls ky k e = false
def wrongI (r : Option Nat) : Int := match r with | none => -1 | some i => (i : Int)
def PWrong (n : Int) (specs : List Sp) (calls : List Cl) (es : List Ev) (ls ky : Nat → List Int) (r : Int) : Prop :=
  (BadEv n calls es ky ∧ r = -2) ∨ (¬ BadEv n calls es ky ∧ ∃ L, IsOrd ky es.length L ∧ r = wrongI (runL n specs calls es ls L (specs.map (newM n))))
structure PwCtx (w : World) (S C L : Value) (specs : List Sp) (calls : List Cl) (es : List Ev) (ls ky : Nat → List Int) : Prop where
  specs : SlSp w S specs
  calls : SlCl w C calls
  key : EvKey w L es ky
  lst : ∀ (k : Nat) (e : Ev), es[k]? = some e → SlW w (.slice e.lA e.lN e.lC) (ls k)
theorem PwCtx.below {w w' : World} {S C L : Value} {specs : List Sp} {calls : List Cl} {es : List Ev} {ls ky : Nat → List Int} (h : PwCtx w S C L specs calls es ls ky) (hb : Below w.heap.size w w') : PwCtx w' S C L specs calls es ls ky :=
  ⟨h.specs.below hb (Nat.le_refl _), h.calls.below hb (Nat.le_refl _), h.key.below hb, fun k e he => (h.lst k e he).below hb (Nat.le_refl _)⟩
theorem runL_cons {n : Int} {specs : List Sp} {calls : List Cl} {es : List Ev} {ls : Nat → List Int} {i : Nat} {r : List Nat} {sts : List (List Int)} : runL n specs calls es ls (i :: r) sts = if (stepL n specs calls es ls sts i).2 = true then runL n specs calls es ls r (stepL n specs calls es ls sts i).1 else some i := rfl
theorem own_setU {w : World} {B n b j : Nat} {T T' : TypeId} {sz : Nat} {v u : Value} {xs : List Value} {cs : Array Value} {fr : Nat × Nat} (h : w.ownsRow B T sz v n xs) (hb : w.heap[b]? = some (.cells cs T' fr)) (hne : T' ≠ T) : (w.setCell ⟨b, j, none⟩ u).ownsRow B T sz v n xs := by
  have hn := own_ne h hb hne
  obtain ⟨h1, h2 | ⟨g, cap, cur, rfl, e2, e3, e4⟩⟩ := h
  · exact ⟨h1, Or.inl h2⟩
  · exact ⟨h1, Or.inr ⟨g, cap, cur, rfl, e2, (Below.heap_setCell _ _ _ _ (fun e => hn (congrArg some e.symm))).trans e3, e4⟩⟩
theorem sl_setT {w : World} {b j : Nat} {T' : TypeId} {u v : Value} {l : List Int} {cs : Array Value} {fr : Nat × Nat} (h : SlW w v l) (ht : Tw w v) (hb : w.heap[b]? = some (.cells cs T' fr)) (hne : T' ≠ 25) : SlW (w.setCell ⟨b, j, none⟩ u) v l ∧ Tw (w.setCell ⟨b, j, none⟩ u) v ∧ ∃ cs', (w.setCell ⟨b, j, none⟩ u).heap[b]? = some (.cells cs' T' fr) := by
  have hk : Keep (fun k => k ≠ b) w (w.setCell ⟨b, j, none⟩ u) := (Keep.refl _ _).setCell (by simp) _
  have hS : ∀ j cs fr, w.heap[j]? = some (.cells cs 25 fr) → j ≠ b := fun j cs' fr' hj e => by
    rw [e, hb] at hj
    exact hne (by injection hj with h; injection h)
  exact ⟨sl_keepT h ht hk hS, ht.keep hk hS, by simp [World.setCell, Array.getElem?_modify, hb]⟩
theorem cells8w {w : World} {g : Nat} {x0 x1 x2 x3 x4 x5 x6 x7 : Value} {t : TypeId} (h : w.heap[g]? = some (.cells #[x0, x1, x2, x3, x4, x5, x6, x7] t (0, 0))) :
    w.cell? ⟨g, 0, none⟩ = some x0 ∧ w.cell? ⟨g, 1, none⟩ = some x1 ∧ w.cell? ⟨g, 2, none⟩ = some x2 ∧ w.cell? ⟨g, 3, none⟩ = some x3 ∧ w.cell? ⟨g, 4, none⟩ = some x4 ∧ w.cell? ⟨g, 5, none⟩ = some x5 ∧ w.cell? ⟨g, 6, none⟩ = some x6 ∧ w.cell? ⟨g, 7, none⟩ = some x7 ∧ g < w.heap.size := cells8e h
theorem iown_ord {w : World} {B : Nat} {v : Value} {L : List Nat} (h : IOwn w B v L.length (ordI L)) (hm : L.length ≤ maxLen) : SlI w v (ordI L) := by
  have hl : (ordI L).length = L.length := by simp
  have h' : w.ownsRow B 3 1 v (ordI L).length ((ordI L).map (Value.int .i64)) := by rw [hl]; exact h
  exact sl_of_owns h' (by rw [hl]; exact hm)
set_option maxRecDepth 100000 in
set_option maxHeartbeats 8000000 in
theorem pwrong_any (n : Int) (S C L : Value) (specs : List Sp) (calls : List Cl) (es : List Ev) (ls ky : Nat → List Int) (w : World) (h : PwCtx w S C L specs calls es ls ky) (hlay : layE n specs = 0) (hm : es.length ≤ 1000) (hw : ∀ c ∈ calls, U64 c.a ∧ U64 c.b ∧ U64 c.c) :
    Calls Tryz.prog 32 #[.int .i64 n, S, C, L] w fun e w' => ∃ r : Int, e = .returned (.int .i64 r) ∧ PWrong n specs calls es ls ky r ∧ Below w.heap.size w w' := by
  obtain ⟨Ae, ce, rfl, ge1, ge2, ge3⟩ := id h.key.evs
  obtain ⟨As, cs, rfl, gs1, gs2, gs3⟩ := id h.specs
  obtain ⟨Ac, cc, rfl, gc1, gc2, gc3⟩ := id h.calls
  have hlen : (es.length : Int) ≤ 1000 := by omega
  have hcl63 : (calls.length : Int) ≤ 9223372036854775807 := by unfold maxLen at gc2; omega
  obtain ⟨hs8, hok⟩ := layE_specs hlay
  have hs63 : (specs.length : Int) ≤ 8 := by omega
  have hn16 : specs.length = 0 ∨ (1 ≤ n ∧ n ≤ 16) := by
    rcases specs with _ | ⟨s, t⟩
    · exact Or.inl rfl
    · exact Or.inr (sizeE_zero (hok s (by simp))).1
  have HX := hide h
  have HOK := hide hok
  have HM := hide hm
  have HW := hide hw
  have HG := hide gs3
  have HGC := hide gc3
  clear h hok hlay hm hw gs3 gc3
  go_enter Tryz.func32, Tryz.ntmps32
  go_wp2
  go_loopw [23] (fun i wr => ∃ k : Nat, k ≤ specs.length ∧ i = .int .i64 k ∧ Hid (Below w.heap.size w wr)) (fun i _ => specs.length - (intOf i).toNat)
  case atStart => exact ⟨0, Nat.zero_le _, rfl, hide (Below.refl _ _)⟩
  case round =>
    obtain ⟨k, hk, rfl, hB⟩ := hrel
    by_cases hlt : k < specs.length
    ·
      obtain ⟨sp, hsp⟩ : ∃ sp, specs[k]? = some sp := ⟨_, List.getElem?_eq_getElem hlt⟩
      obtain ⟨gs, os, rfl, hgs, hcs⟩ := HG.out k sp hsp
      obtain ⟨s0, s1, s2⟩ := spec_cells (hcs.of_block (w' := wr) (hB.out.block gs hgs))
      have hz := HOK.out sp (List.mem_of_getElem? hsp)
      obtain ⟨⟨z1, z2⟩, ⟨z3, z4⟩, z5⟩ := sizeE_zero hz
      have hbd := sizeT_bd hz
      obtain ⟨V, hV⟩ : ∃ V, sizeT n sp.kind sp.p sp.q = V := ⟨_, rfl⟩
      have NS := psize_any n sp z1 z2 z3 z4 wr
      rw [z5, if_pos rfl, hV] at NS
      rw [hV] at hbd
      have HNS := hide NS
      have q0 : (0 : Int) ≤ (k : Int) := by omega
      have q1 : (k : Int) < (specs.length : Int) := by omega
      have d0 : decide (n < 1) = false := by simp; omega
      have d1 : decide (16 < n) = false := by simp; omega
      have d2 : decide (V < 0) = false := by simp; omega
      clear hsp hcs hz z1 z2 z3 z4 z5 hbd hV NS
      go_wp2_with fail
      unfold spV at HNS
      refine HNS.out.mono ?_
      rintro e1 w1 ⟨rfl, hb1⟩
      have HB1 := hide (hB.out.trans (hb1.mono hB.out.size))
      clear hb1 HNS
      go_wp2
      go_roundw
      case rel => exact ⟨k + 1, by omega, by go_num, HB1⟩
      case measure => simp [intOf] <;> omega
    · have d9 : decide ((k : Int) < (specs.length : Int)) = false := by simp; omega
      have d8 : decide (k < specs.length) = false := by simp; omega
      go_wp2
      go_loopw [44] (fun i wr => ∃ k : Nat, k ≤ es.length ∧ i = .int .i64 k ∧ Hid (∀ (j : Nat) (e : Ev), j < k → es[j]? = some e → okEk n calls ky j e = true) ∧ Hid (Below w.heap.size w wr)) (fun i _ => es.length - (intOf i).toNat)
      case atStart => exact ⟨0, Nat.zero_le _, rfl, hide (fun j e hj => by omega), hB⟩
      case round =>
        clear d9 d8 hlt
        obtain ⟨k, hk, rfl, hoke, hB⟩ := hrel
        by_cases hlt : k < es.length
        ·
          obtain ⟨e, he⟩ : ∃ e, es[k]? = some e := ⟨_, List.getElem?_eq_getElem hlt⟩
          obtain ⟨g, o, rfl, hg, hce⟩ := ge3 k e he
          obtain ⟨u0, u1, u2, u3, u4, u5, u6, u7⟩ := ev_cells (hce.of_block (w' := wr) (hB.out.block g hg))
          have hky := HX.out.key.key k e he
          have hkN : e.kN = (ky k).length := by obtain ⟨_, _, e1, _⟩ := hky; injection e1
          have q0 : (0 : Int) ≤ (k : Int) := by omega
          have q1 : (k : Int) < (es.length : Int) := by omega
          by_cases c0 : e.call < 0
          · have g0 : decide (e.call < 0) = true := by simpa using c0
            have hbad : okEk n calls ky k e = false := by
              unfold okEk
              rcases h : okEv n calls e with _ | _
              · rfl
              · have := (okEv_iff.1 h).1; omega
            clear c0
            have hr : Hid (PWrong n specs calls es ls ky (-2)) := hide (Or.inl ⟨⟨k, e, he, hbad⟩, rfl⟩)
            clear he hbad hky hkN hce
            go_wp2
            go_ret
            exact ⟨_, rfl, hr.out, hB.out⟩
          · have g0 : decide (e.call < 0) = false := by simpa using c0
            by_cases c1 : (calls.length : Int) ≤ e.call
            · have g1 : decide ((calls.length : Int) ≤ e.call) = true := by simpa using c1
              have hbad : okEk n calls ky k e = false := by
                unfold okEk
                rcases h : okEv n calls e with _ | _
                · rfl
                · have := (okEv_iff.1 h).1; omega
              clear c0 c1
              have hr : Hid (PWrong n specs calls es ls ky (-2)) := hide (Or.inl ⟨⟨k, e, he, hbad⟩, rfl⟩)
              clear he hbad hky hkN hce
              go_wp2
              go_ret
              exact ⟨_, rfl, hr.out, hB.out⟩
            · obtain ⟨i2, hi2⟩ := Int.eq_ofNat_of_zero_le (show 0 ≤ e.call by omega)
              have g1 : decide ((calls.length : Int) ≤ (i2 : Int)) = false := by simp; omega
              have g1n : decide (calls.length ≤ i2) = false := by simp; omega
              have g0' : decide ((i2 : Int) < 0) = false := by simp
              obtain ⟨c, hc⟩ : ∃ c, calls[i2]? = some c := ⟨_, List.getElem?_eq_getElem (by omega)⟩
              obtain ⟨gc, oc, rfl, gcz0, hcc⟩ := HGC.out i2 c hc
              have x0 := (cl_cells (hcc.of_block (w' := wr) (hB.out.block gc gcz0))).1
              have hct : e.call.toNat = i2 := by omega
              have q2 : (0 : Int) ≤ (i2 : Int) := by omega
              have q3 : (i2 : Int) < (calls.length : Int) := by omega
              have hbd : ∀ (h : ¬ (0 ≤ c.thread ∧ c.thread < n)), okEk n calls ky k e = false := fun h => by
                unfold okEk
                rcases hk : okEv n calls e with _ | _
                · rfl
                · exact absurd ((okEv_iff.1 hk).2 c (by rw [hct]; exact hc)) h
              have hgd : ∀ (h : 0 ≤ c.thread ∧ c.thread < n), okEv n calls e = true := fun h => okEv_iff.2 ⟨by omega, fun c' hc' => by rw [hct, hc] at hc'; cases hc'; exact h⟩
              rw [hi2] at u0
              clear hcc c0 c1 g0 hct hc hi2
              by_cases r0 : e.resp = 0
              · have f1 : (e.resp == 0) = true := by simp [r0]
                have f2 : (e.resp != 0) = false := by simp [r0]
                by_cases t0 : c.thread < 0
                · have g2 : decide (c.thread < 0) = true := by simpa using t0
                  have hbad := hbd (by omega)
                  clear t0 hbd hgd r0
                  have hr : Hid (PWrong n specs calls es ls ky (-2)) := hide (Or.inl ⟨⟨k, e, he, hbad⟩, rfl⟩)
                  clear he hbad hky hkN hce
                  go_wp2
                  go_ret
                  exact ⟨_, rfl, hr.out, hB.out⟩
                · have g2 : decide (c.thread < 0) = false := by simpa using t0
                  by_cases t1 : n ≤ c.thread
                  · have g3 : decide (n ≤ c.thread) = true := by simpa using t1
                    have hbad := hbd (by omega)
                    clear t0 t1 hbd hgd r0
                    have hr : Hid (PWrong n specs calls es ls ky (-2)) := hide (Or.inl ⟨⟨k, e, he, hbad⟩, rfl⟩)
                    clear he hbad hky hkN hce
                    go_wp2
                    go_ret
                    exact ⟨_, rfl, hr.out, hB.out⟩
                  · have g3 : decide (n ≤ c.thread) = false := by simpa using t1
                    have hgood : okEk n calls ky k e = true := by unfold okEk; rw [hgd (by omega), r0]; rfl
                    have HOK2 : Hid (∀ (j : Nat) (e : Ev), j < k + 1 → es[j]? = some e → okEk n calls ky j e = true) := hide (fun j e' hj he' => by
                      by_cases hjk : j = k
                      · subst hjk
                        rw [he] at he'
                        cases he'
                        exact hgood
                      · exact hoke.out j e' (by omega) he')
                    clear t0 t1 hbd hgd r0 he hgood hky hkN hce
                    go_wp2
                    go_roundw
                    case rel => exact ⟨k + 1, by omega, by go_num, HOK2, hB⟩
                    case measure => simp [intOf] <;> omega
              · have f1 : (e.resp == 0) = false := by simp [r0]
                have f2 : (e.resp != 0) = true := by simp [r0]
                by_cases k0 : ky k = []
                · have f3 : ((e.kN : Int) == 0) = true := by rw [hkN, k0]; rfl
                  have f3' : (e.kN == 0) = true := by rw [hkN, k0]; rfl
                  have hbad : okEk n calls ky k e = false := by unfold okEk; rw [decide_eq_false r0, k0]; simp
                  clear hbd hgd r0 k0
                  have hr : Hid (PWrong n specs calls es ls ky (-2)) := hide (Or.inl ⟨⟨k, e, he, hbad⟩, rfl⟩)
                  clear he hbad hky hkN hce
                  go_wp2
                  go_ret
                  exact ⟨_, rfl, hr.out, hB.out⟩
                · have hne : e.kN ≠ 0 := fun h0 => k0 (List.length_eq_zero_iff.1 (by omega))
                  have f3 : ((e.kN : Int) == 0) = false := by rw [beq_eq_false_iff_ne]; omega
                  have f3' : (e.kN == 0) = false := by rw [beq_eq_false_iff_ne]; omega
                  by_cases t0 : c.thread < 0
                  · have g2 : decide (c.thread < 0) = true := by simpa using t0
                    have hbad := hbd (by omega)
                    clear t0 hbd hgd r0 k0 hne
                    have hr : Hid (PWrong n specs calls es ls ky (-2)) := hide (Or.inl ⟨⟨k, e, he, hbad⟩, rfl⟩)
                    clear he hbad hky hkN hce
                    go_wp2
                    go_ret
                    exact ⟨_, rfl, hr.out, hB.out⟩
                  · have g2 : decide (c.thread < 0) = false := by simpa using t0
                    by_cases t1 : n ≤ c.thread
                    · have g3 : decide (n ≤ c.thread) = true := by simpa using t1
                      have hbad := hbd (by omega)
                      clear t0 t1 hbd hgd r0 k0 hne
                      have hr : Hid (PWrong n specs calls es ls ky (-2)) := hide (Or.inl ⟨⟨k, e, he, hbad⟩, rfl⟩)
                      clear he hbad hky hkN hce
                      go_wp2
                      go_ret
                      exact ⟨_, rfl, hr.out, hB.out⟩
                    · have g3 : decide (n ≤ c.thread) = false := by simpa using t1
                      have hgood : okEk n calls ky k e = true := by unfold okEk; rw [hgd (by omega), decide_eq_false k0]; simp
                      clear k0 hne
                      have HOK2 : Hid (∀ (j : Nat) (e : Ev), j < k + 1 → es[j]? = some e → okEk n calls ky j e = true) := hide (fun j e' hj he' => by
                        by_cases hjk : j = k
                        · subst hjk
                          rw [he] at he'
                          cases he'
                          exact hgood
                        · exact hoke.out j e' (by omega) he')
                      clear t0 t1 hbd hgd r0 he hgood hky hkN hce
                      go_wp2
                      go_roundw
                      case rel => exact ⟨k + 1, by omega, by go_num, HOK2, hB⟩
                      case measure => simp [intOf] <;> omega
        · have hnb : ¬ BadEv n calls es ky := fun ⟨j, e, he, hb⟩ => by
            have := hoke.out j e (by have := (List.getElem?_eq_some_iff.1 he).1; omega) he
            rw [hb] at this
            cases this
          have HNB := hide hnb
          have d9 : decide ((k : Int) < (es.length : Int)) = false := by simp; omega
          have d8 : decide (k < es.length) = false := by simp; omega
          clear hnb hoke
          go_wp2
          go_loopw [106, 11] (fun i u wr => ∃ k : Nat, k ≤ specs.length ∧ i = .int .i64 k ∧ ∃ ps, Hid (StRow wr w.heap.size u ps) ∧ Hid (ps.map Prod.fst = (specs.take k).map (newM n)) ∧ Hid (Below w.heap.size w wr)) (fun i _ _ => specs.length - (intOf i).toNat)
          case atStart => exact ⟨0, Nat.zero_le _, rfl, [], hide (ob_nil _ _), hide rfl, hB⟩
          case round =>
            clear d9 d8 hlt
            obtain ⟨k, hk, rfl, ps, hSt, hPs, hB⟩ := hrel
            obtain ⟨vA, vc, rfl, _⟩ := ob_len stEn_len hSt.out
            have hzr := hB.out.size
            by_cases hlt : k < specs.length
            ·
              obtain ⟨sp, hsp⟩ : ∃ sp, specs[k]? = some sp := ⟨_, List.getElem?_eq_getElem hlt⟩
              obtain ⟨gs, os, rfl, hgs, hcs⟩ := HG.out k sp hsp
              obtain ⟨s0, s1, s2⟩ := spec_cells (hcs.of_block (w' := wr) (hB.out.block gs hgs))
              have q0 : (0 : Int) ≤ (k : Int) := by omega
              have q1 : (k : Int) < (specs.length : Int) := by omega
              have hE0 := HOK.out sp (List.mem_of_getElem? hsp)
              have NN := fun W => refNew27 n sp W hE0
              unfold RNewPost spV at NN
              have HSPK := hide hsp
              obtain ⟨ANS, hANS⟩ : ∃ X, newM n sp = X := ⟨_, rfl⟩
              have hnl := newM_len n sp hE0
              rw [hANS] at NN hnl
              have HANS := hide hANS
              have hplen : ps.length = k := by
                have h := congrArg List.length hPs.out
                simp at h
                omega
              have HPL := hide hplen
              clear hcs hsp hE0 hANS hplen
              go_wp2_with fail
              refine (NN _).mono ?_
              rintro e w2 ⟨u, rfl, hO2, hb2⟩
              obtain ⟨A2, c2, rfl⟩ := own_slice hO2
              have HSt2 := hide (ob_below hSt.out hb2)
              have HSl2 := hide (wrow_sl (show WRow w2 _ _ ANS from hO2) (by unfold maxLen; omega))
              have HTw2 := hide (tw_own hO2)
              have HBX := hide (hB.out.trans (hb2.mono (by omega)))
              have hz2 := hb2.size
              clear hb2 hO2 NN s0 s1 s2
              go_wp2_with (at_builtin; refine wpList_ob_push rfl _ _ rfl info_slw Tryz.underlying51 rfl (by decide) (by decide) (by decide) HSt2.out rfl rfl rfl (ANS, A2, c2) rfl rfl (by simp [stEn, Value.oneCell']) HSl2.out HTw2.out (by have := HPL.out; omega) (by omega) ?_; intro v5 w5 hSt5 hk5; have HSt5 := hide hSt5; have HB5 : Hid (Below w.heap.size w w5) := hide (HBX.out.trans (hk5.below (fun k hk => ⟨by omega, fun e => by have := (HSt2.out.1.lt k e.symm).1; omega⟩))); clear hSt5 hk5)
              go_roundw
              case rel =>
                refine ⟨k + 1, by omega, by go_num, ps ++ [(ANS, A2, c2)], HSt5, hide ?_, HB5⟩
                rw [List.map_append, hPs.out, List.take_add_one, HSPK.out]
                simp [HANS.out]
              case measure => simp [intOf] <;> omega
            · have d9 : decide ((k : Int) < (specs.length : Int)) = false := by simp; omega
              have d8 : decide (k < specs.length) = false := by simp; omega
              have hps0 : ps.map Prod.fst = specs.map (newM n) := by rw [hPs.out, List.take_of_length_le (by omega)]
              have hpl : ps.length = specs.length := by have := congrArg List.length hps0; simpa using this
              rw [hpl] at hSt ⊢
              have HP0 := hide hps0
              have HPO := hide (porder_any (.slice Ae es.length ce) es ky wr (HX.out.key.below hB.out) (by have := HM.out; omega))
              clear hps0 hpl hPs
              go_wp2_with fail
              refine HPO.out.mono ?_
              rintro e1 w1 ⟨v1, L, rfl, hO1, hL1, hb1⟩
              obtain ⟨OA, oc, rfl⟩ := own_slice hO1
              have HL := hide hL1
              have hlL := ord_len hL1
              have HO1 := hide (owns_base hO1 hzr)
              have HB1 := hide (hB.out.trans (hb1.mono hzr))
              have HS1 := hide (ob_below hSt.out hb1)
              have hL63 : (L.length : Int) ≤ 1000 := by omega
              clear hO1 hL1 hb1 HPO
              go_wp2
              go_loopw [123] (fun i wr => ∃ k : Nat, k ≤ L.length ∧ i = .int .i64 k ∧ ∃ ps, ps.length = specs.length ∧ Hid (StRow wr w.heap.size (.slice vA specs.length vc) ps) ∧ Hid (StOk n specs (ps.map Prod.fst) (80 + 2 * k)) ∧ Hid (runL n specs calls es ls L (specs.map (newM n)) = runL n specs calls es ls (L.drop k) (ps.map Prod.fst)) ∧ Hid (IOwn wr w.heap.size (.slice OA L.length oc) L.length (ordI L)) ∧ Hid (Below w.heap.size w wr)) (fun i _ => L.length - (intOf i).toNat)
              case atStart => exact ⟨0, Nat.zero_le _, rfl, ps, by have := congrArg List.length HP0.out; simpa using this, HS1, hide (by rw [HP0.out]; exact StOk.new HOK.out), hide (by rw [HP0.out]; rfl), HO1, HB1⟩
              case round =>
                clear d9 d8 hlt
                obtain ⟨k, hk, rfl, ps, hpl, hSt, hSO, hRun, hO, hB⟩ := hrel
                have hzr := hB.out.size
                by_cases hlt : k < L.length
                ·
                  obtain ⟨x, hx⟩ : ∃ x, L[k]? = some x := ⟨_, List.getElem?_eq_getElem hlt⟩
                  have hxm := (HL.out.2 x).1 (List.mem_of_getElem? hx)
                  obtain ⟨e, he⟩ : ∃ e, es[x]? = some e := ⟨_, List.getElem?_eq_getElem hxm.1⟩
                  have hov : okEv n calls e = true := by
                    rcases h : okEk n calls ky x e with _ | _
                    · exact absurd ⟨x, e, he, h⟩ HNB.out
                    · unfold okEk at h
                      rw [Bool.and_eq_true] at h
                      exact h.1
                  obtain ⟨⟨h0, h1⟩, hth⟩ := okEv_iff.1 hov
                  obtain ⟨i2, hi2⟩ := Int.eq_ofNat_of_zero_le h0
                  obtain ⟨c, hc⟩ : ∃ c, calls[i2]? = some c := ⟨_, List.getElem?_eq_getElem (by omega)⟩
                  have hct : calls[e.call.toNat]? = some c := by rw [show e.call.toNat = i2 by omega]; exact hc
                  obtain ⟨ht0, ht1⟩ := hth c hct
                  obtain ⟨ua, ub, uc⟩ := HW.out c (List.mem_of_getElem? hc)
                  have hlst := (HX.out.lst x e he).below hB.out (Nat.le_refl _)
                  obtain ⟨ge, oe, rfl, hge, hce⟩ := ge3 x e he
                  obtain ⟨u0, u1, u2, u3, u4, u5, u6, u7⟩ := ev_cells (hce.of_block (w' := wr) (hB.out.block ge hge))
                  obtain ⟨gc, oc', rfl, gcz0, hcc⟩ := HGC.out i2 c hc
                  obtain ⟨x0, x1, x2, x3, x4, x5⟩ := cl_cells (hcc.of_block (w' := wr) (hB.out.block gc gcz0))
                  have hosl := iown_ord hO.out (by unfold maxLen; omega)
                  obtain ⟨_, _, e1, _, _, ho3⟩ := hosl
                  injection e1 with e1a e1b e1c
                  obtain ⟨og, oo, rfl, hog, hcg⟩ := ho3 k (x : Int) (by simp [ordI, hx])
                  subst e1a
                  have ro := nt_cell hcg
                  simp only [Nat.mul_one] at ro
                  rw [hi2] at u0
                  have hdrop : L.drop k = x :: L.drop (k + 1) := by
                    obtain ⟨k8, k9⟩ := List.getElem?_eq_some_iff.1 hx
                    rw [List.drop_eq_getElem_cons k8, k9]
                  have hrun := hRun.out
                  rw [hdrop, runL_cons, stepL_eq he hct] at hrun
                  have HRUN := hide hrun
                  have hstp := (hSO.out.step (ls := ls) (es := es) (by omega) ⟨fun j e' he' => by
                      rcases h : okEk n calls ky j e' with _ | _
                      · exact absurd ⟨j, e', he', h⟩ HNB.out
                      · unfold okEk at h
                        rw [Bool.and_eq_true] at h
                        exact (okEv_iff.1 h.1).1, fun j e' c' he' hc' => by
                      rcases h : okEk n calls ky j e' with _ | _
                      · exact absurd ⟨j, e', he', h⟩ HNB.out
                      · unfold okEk at h
                        rw [Bool.and_eq_true] at h
                        exact (okEv_iff.1 h.1).2 c' hc', HW.out⟩ x)
                  rw [stepL_eq he hct] at hstp
                  have HSTP := hide hstp
                  have q0 : (0 : Int) ≤ (k : Int) := by omega
                  have q1 : (k : Int) < (L.length : Int) := by omega
                  have q2 : (0 : Int) ≤ (x : Int) := by omega
                  have q3 : (x : Int) < (es.length : Int) := by omega
                  have q4 : (0 : Int) ≤ (i2 : Int) := by omega
                  have q5 : (i2 : Int) < (calls.length : Int) := by omega
                  have HLST := hide hlst
                  have HPL := hide hpl
                  have gcz : gc < wr.heap.size := Nat.lt_of_lt_of_le gcz0 hzr
                  have gez : ge < wr.heap.size := Nat.lt_of_lt_of_le hge hzr
                  have hend : Hid ((stepC n specs (ps.map Prod.fst) e (ls x) c).2 = false → PWrong n specs calls es ls ky (x : Int)) := hide (fun h => Or.inr ⟨HNB.out, L, HL.out, by rw [HRUN.out, h]; rfl⟩)
                  clear hov h0 h1 hth hc hct hlst hce hcc ho3 hcg hdrop hrun hstp hi2 he hx e1b e1c hpl
                  go_upto_region 27 with fail
                  obtain ⟨X, hX⟩ : ∃ X, X = (wr.alloc (.cells #[.int .i64 (i2 : Int), .int .i64 e.inv, .int .i64 e.resp, .int .i64 e.steps, .int .i64 e.err, .int .u64 e.val, .slice e.lA e.lN e.lC, .slice e.kA e.kN e.kC] 62)).alloc (.cells #[.int .i64 c.thread, .int .i64 c.obj, .int .i64 c.kind, .int .u64 c.a, .int .u64 c.b, .int .u64 c.c] 27) := ⟨_, rfl⟩
                  rw [← hX]
                  have hBX : Below wr.heap.size wr X := by rw [hX]; exact ((Below.refl _ _).alloc (Nat.le_refl _) _).alloc (by simp) _
                  have hzX : X.heap.size = wr.heap.size + 2 := by rw [hX]; simp
                  obtain ⟨e0, e1, e2, e3, e4, e5, e6, e7, ez⟩ := cells8w (show X.heap[wr.heap.size]? = _ from by rw [hX]; exact (heap_alloc_old _ _ (by simp)).trans (heap_alloc_new _ _))
                  obtain ⟨c0, c1, c2, c3, c4, c5, cz⟩ := cells6 (show X.heap[wr.heap.size + 1]? = some (.cells #[.int .i64 c.thread, .int .i64 c.obj, .int .i64 c.kind, .int .u64 c.a, .int .u64 c.b, .int .u64 c.c] 27 (0, 0)) from by
                    rw [hX]
                    have h := heap_alloc_new (wr.alloc (.cells #[.int .i64 (i2 : Int), .int .i64 e.inv, .int .i64 e.resp, .int .i64 e.steps, .int .i64 e.err, .int .u64 e.val, .slice e.lA e.lN e.lC, .slice e.kA e.kN e.kC] 62)) (.cells #[.int .i64 c.thread, .int .i64 c.obj, .int .i64 c.kind, .int .u64 c.a, .int .u64 c.b, .int .u64 c.c] 27)
                    simpa using h)
                  have HBX := hide hBX
                  have HBW : Hid (Below w.heap.size w X) := hide (hB.out.trans (hBX.mono hzr))
                  have HSX := hide (ob_below hSt.out hBX)
                  have HOX : Hid (IOwn X w.heap.size (.slice (some ⟨og, oo, none⟩) L.length oc) L.length (ordI L)) := hide (owns_keepB hO.out (Keep.of_below (K := fun j => j < wr.heap.size) hBX (fun _ h => h)) (fun j _ hl => hl))
                  replace ro := (hBX.cell (p := ⟨og, oo + k, none⟩) hog).trans ro
                  have ogz : og < X.heap.size := by omega
                  have hzl : wr.heap.size + 2 ≤ X.heap.size := by omega
                  clear hzX
                  clear hX hBX u0 u1 u2 u3 u4 u5 u6 u7 x0 x1 x2 x3 x4 x5
                  by_cases ho : 0 ≤ c.obj ∧ c.obj < specs.length
                  ·
                    obtain ⟨o, hco⟩ := Int.eq_ofNat_of_zero_le ho.1
                    obtain ⟨s, hs⟩ : ∃ s, specs[o]? = some s := ⟨_, List.getElem?_eq_getElem (by omega)⟩
                    obtain ⟨p, hp⟩ : ∃ p, ps[o]? = some p := ⟨_, List.getElem?_eq_getElem (by have := HPL.out; omega)⟩
                    have hxo : (ps.map Prod.fst)[o]? = some p.1 := by rw [List.getElem?_map, hp]; rfl
                    obtain ⟨g1, g2, g3⟩ := hSO.out.ok o s p.1 hs hxo
                    obtain ⟨gs, os, rfl, gsz0, hcs⟩ := HG.out o s hs
                    obtain ⟨s0, s1, s2⟩ := spec_cells hcs
                    replace s0 := (HBW.out.cell (p := ⟨gs, os + o * 3, none⟩) gsz0).trans s0
                    replace s1 := (HBW.out.cell (p := ⟨gs, os + o * 3 + 1, none⟩) gsz0).trans s1
                    replace s2 := (HBW.out.cell (p := ⟨gs, os + o * 3 + 2, none⟩) gsz0).trans s2
                    have gsz : gs < X.heap.size := Nat.lt_of_lt_of_le gsz0 HBW.out.size
                    obtain ⟨gv, vcap, hv, hBg, gvz, ⟨vcs, hvb⟩, hcv, hsl, htw⟩ := ob_get stEn_len HSX.out hp
                    injection hv with hv1 hv2 hv3
                    subst hv1
                    have r0 := hcv 0 _ rfl
                    simp only [Nat.mul_one, Nat.add_zero] at r0
                    have hfz := HSX.out.1
                    rw [HPL.out] at hfz
                    have fr := World.ownsRow.frozenAt hfz o
                    clear hfz
                    obtain ⟨st, pA, pc⟩ := p
                    simp only at hxo g1 g2 g3 r0 hsl htw
                    rw [hco] at c1
                    have q6 : (0 : Int) ≤ (o : Int) := by omega
                    have q7 : (o : Int) < (specs.length : Int) := by omega
                    have q8 : o < specs.length := by omega
                    have d0 : decide ((o : Int) < 0) = false := by simp
                    have d1 : decide ((specs.length : Int) ≤ (o : Int)) = false := by simp; omega
                    have d2 : decide (specs.length ≤ o) = false := by simp; omega
                    have HSL := hide hsl
                    have HTW := hide htw
                    have HVB := hide hvb
                    have HBG := hide hBg
                    by_cases hr : e.resp = 0
                    · have f1 : (e.resp == 0) = true := by simp [hr]
                      have f2 : (e.resp != 0) = false := by simp [hr]
                      have hst2 := stepC_in0 (n := n) (sts := ps.map Prod.fst) (e := e) (c := c) (l := ls x) hco hs hxo hr
                      have NA := fun W (h : SlW W (.slice pA st.length pc) st) => rapply_any n s c pA st.length pc st W h (by omega) g1 ht0 ht1 ua ub g2
                      unfold RPost spV clV at NA
                      obtain ⟨RR, hRR⟩ : ∃ RR, applyM n s st c = RR := ⟨_, rfl⟩
                      rw [hRR] at NA hst2
                      rw [hco] at NA
                      obtain ⟨R1, E, V, R3⟩ := RR
                      simp only at NA hst2
                      have HNA := hide NA
                      have HS2 := hide hst2
                      clear hst2 NA hRR hr hco ho hs hp hxo g1 g2 g3 hcs hcv hsl htw hvb hBg hv2 hv3 ht0 ht1 ua ub uc
                      go_upto_region 31 with fail
                      go_cut [17] (fun v wx => ∃ A5 c5', v = .slice A5 R1.length c5' ∧ Hid (SlW wx (.slice A5 R1.length c5') R1) ∧ Hid (Tw wx (.slice A5 R1.length c5')) ∧ Hid (Below X.heap.size X wx))
                      case first =>
                        refine wp_region_seq (Below X.heap.size X) (.take 0 <| .take 1 <| .take 2 <| .take 3 <| .take 4 <| .take 5 <| .take 6 <| .take 7 <| .take 8 <| .take 9 <| .take 10 <| .take 11 <| .fork 12 (.take 13 <| .take 14 <| .take 15 <| .run 16 <| .take 17 <| .run 18 <| .done) 16 (.run 12 <| .take 13 <| .take 14 <| .take 15 <| .take 17 <| .run 18 <| .done)) (by kernel_rfl) (by kernel_rfl) (by kernel_rfl) (by (repeat' (first | with_reducible (first | assumption | exact Below.refl _ _ | refine Below.drew ?_ | refine below_drewN ?_ _ | refine Below.alloc ?_ ?_ _ | refine Below.setCell ?_ ?_ _) | omega | (simp; done) | (simp; omega)))) ?_
                        iterate 12 (refine seq_take (v := ?_) rfl (by rfl) ?_ ?_; rotate_left; (focus (intro wS hS; have y0 := (hS.cell (p := ⟨wr.heap.size + 1, 0, none⟩) cz).trans c0; have y1 := (hS.cell (p := ⟨wr.heap.size + 1, 1, none⟩) cz).trans c1; have y2 := (hS.cell (p := ⟨wr.heap.size + 1, 2, none⟩) cz).trans c2; have y3 := (hS.cell (p := ⟨wr.heap.size + 1, 3, none⟩) cz).trans c3; have y4 := (hS.cell (p := ⟨wr.heap.size + 1, 4, none⟩) cz).trans c4; have y5 := (hS.cell (p := ⟨wr.heap.size + 1, 5, none⟩) cz).trans c5; have k0 := (hS.cell (p := ⟨gs, os + o * 3, none⟩) gsz).trans s0; have k1 := (hS.cell (p := ⟨gs, os + o * 3 + 1, none⟩) gsz).trans s1; have k2 := (hS.cell (p := ⟨gs, os + o * 3 + 2, none⟩) gsz).trans s2; have m0 := (hS.cell (p := ⟨gv, o, none⟩) gvz).trans r0; have m4 := (hS.cell (p := ⟨wr.heap.size, 4, none⟩) ez).trans e4; have m5 := (hS.cell (p := ⟨wr.heap.size, 5, none⟩) ez).trans e5; have m6 := (hS.cell (p := ⟨wr.heap.size, 6, none⟩) ez).trans e6; go_simp; exact rfl)); simp only [Act.put, sqA, sqB, sqC])
                        refine seq_fork ?_ ?_
                        · refine seq_run rfl (by rfl) (fun K hK => ?_)
                          go_simp
                          (with_reducible refine (HNA.out _ ?_).mono ?_)
                          · exact HSL.out.below (by (repeat' (first | with_reducible (first | assumption | exact Below.refl _ _ | refine Below.drew ?_ | refine below_drewN ?_ _ | refine Below.alloc ?_ ?_ _ | refine Below.setCell ?_ ?_ _) | omega | (simp; done) | (simp; omega)))) (Nat.le_refl _)
                          rintro e9 w3 ⟨v5, L5, rfl, hO5, hL5, hb3, ht5, ht6⟩
                          obtain ⟨A5, c5', rfl, _⟩ := id hO5
                          obtain ⟨A6, c6, rfl, _⟩ := id hL5
                          have hB3 : Below X.heap.size X w3 := Below.trans (by (repeat' (first | with_reducible (first | assumption | exact Below.refl _ _ | refine Below.drew ?_ | refine below_drewN ?_ _ | refine Below.alloc ?_ ?_ _ | refine Below.setCell ?_ ?_ _) | omega | (simp; done) | (simp; omega)))) (hb3.mono (by simp))
                          have hz3 := hB3.size
                          refine hK _ _ hB3 ?_
                          clear hK K
                          iterate 3 (refine seq_take (v := ?_) rfl (by rfl) ?_ ?_; rotate_left; (focus (intro wS hS; have y0 := (hS.cell (p := ⟨wr.heap.size + 1, 0, none⟩) cz).trans c0; have y1 := (hS.cell (p := ⟨wr.heap.size + 1, 1, none⟩) cz).trans c1; have y2 := (hS.cell (p := ⟨wr.heap.size + 1, 2, none⟩) cz).trans c2; have y3 := (hS.cell (p := ⟨wr.heap.size + 1, 3, none⟩) cz).trans c3; have y4 := (hS.cell (p := ⟨wr.heap.size + 1, 4, none⟩) cz).trans c4; have y5 := (hS.cell (p := ⟨wr.heap.size + 1, 5, none⟩) cz).trans c5; have k0 := (hS.cell (p := ⟨gs, os + o * 3, none⟩) gsz).trans s0; have k1 := (hS.cell (p := ⟨gs, os + o * 3 + 1, none⟩) gsz).trans s1; have k2 := (hS.cell (p := ⟨gs, os + o * 3 + 2, none⟩) gsz).trans s2; have m0 := (hS.cell (p := ⟨gv, o, none⟩) gvz).trans r0; have m4 := (hS.cell (p := ⟨wr.heap.size, 4, none⟩) ez).trans e4; have m5 := (hS.cell (p := ⟨wr.heap.size, 5, none⟩) ez).trans e5; have m6 := (hS.cell (p := ⟨wr.heap.size, 6, none⟩) ez).trans e6; go_simp; exact rfl)); simp only [Act.put, sqA, sqB, sqC])
                          refine seq_run rfl (by rfl) (fun K hK => ?_)
                          go_simp
                          refine hK _ _ (by (repeat' (first | with_reducible (first | assumption | exact Below.refl _ _ | refine Below.drew ?_ | refine below_drewN ?_ _ | refine Below.alloc ?_ ?_ _ | refine Below.setCell ?_ ?_ _) | omega | (simp; done) | (simp; omega)))) ?_
                          clear hK K
                          (refine seq_take (v := ?_) rfl (by rfl) ?_ ?_; rotate_left; (focus (intro wS hS; have y0 := (hS.cell (p := ⟨wr.heap.size + 1, 0, none⟩) cz).trans c0; have y1 := (hS.cell (p := ⟨wr.heap.size + 1, 1, none⟩) cz).trans c1; have y2 := (hS.cell (p := ⟨wr.heap.size + 1, 2, none⟩) cz).trans c2; have y3 := (hS.cell (p := ⟨wr.heap.size + 1, 3, none⟩) cz).trans c3; have y4 := (hS.cell (p := ⟨wr.heap.size + 1, 4, none⟩) cz).trans c4; have y5 := (hS.cell (p := ⟨wr.heap.size + 1, 5, none⟩) cz).trans c5; have k0 := (hS.cell (p := ⟨gs, os + o * 3, none⟩) gsz).trans s0; have k1 := (hS.cell (p := ⟨gs, os + o * 3 + 1, none⟩) gsz).trans s1; have k2 := (hS.cell (p := ⟨gs, os + o * 3 + 2, none⟩) gsz).trans s2; have m0 := (hS.cell (p := ⟨gv, o, none⟩) gvz).trans r0; have m4 := (hS.cell (p := ⟨wr.heap.size, 4, none⟩) ez).trans e4; have m5 := (hS.cell (p := ⟨wr.heap.size, 5, none⟩) ez).trans e5; have m6 := (hS.cell (p := ⟨wr.heap.size, 6, none⟩) ez).trans e6; go_simp; exact rfl)); simp only [Act.put, sqA, sqB, sqC])
                          refine seq_run rfl (by rfl) (fun K hK => ?_)
                          go_simp
                          refine hK _ _ (by (repeat' (first | with_reducible (first | assumption | exact Below.refl _ _ | refine Below.drew ?_ | refine below_drewN ?_ _ | refine Below.alloc ?_ ?_ _ | refine Below.setCell ?_ ?_ _) | omega | (simp; done) | (simp; omega)))) ?_
                          clear hK K
                          refine seq_nil ?_
                          go_wp2
                          go_meet
                          exact ⟨A5, c5', rfl, hide (hO5.alloc _), hide (tw_below ht5 ((Below.refl _ _).alloc (Nat.le_refl _) _)), hide (by (repeat' (first | with_reducible (first | assumption | exact Below.refl _ _ | refine Below.drew ?_ | refine below_drewN ?_ _ | refine Below.alloc ?_ ?_ _ | refine Below.setCell ?_ ?_ _) | omega | (simp; done) | (simp; omega))))⟩
                        · refine seq_run rfl (by rfl) (fun K hK => ?_)
                          go_simp
                          refine hK _ _ (by (repeat' (first | with_reducible (first | assumption | exact Below.refl _ _ | refine Below.drew ?_ | refine below_drewN ?_ _ | refine Below.alloc ?_ ?_ _ | refine Below.setCell ?_ ?_ _) | omega | (simp; done) | (simp; omega)))) ?_
                          clear hK K
                          refine seq_run rfl (by rfl) (fun K hK => ?_)
                          go_simp
                          (with_reducible refine (HNA.out _ ?_).mono ?_)
                          · exact HSL.out.below (by (repeat' (first | with_reducible (first | assumption | exact Below.refl _ _ | refine Below.drew ?_ | refine below_drewN ?_ _ | refine Below.alloc ?_ ?_ _ | refine Below.setCell ?_ ?_ _) | omega | (simp; done) | (simp; omega)))) (Nat.le_refl _)
                          rintro e9 w3 ⟨v5, L5, rfl, hO5, hL5, hb3, ht5, ht6⟩
                          obtain ⟨A5, c5', rfl, _⟩ := id hO5
                          obtain ⟨A6, c6, rfl, _⟩ := id hL5
                          have hB3 : Below X.heap.size X w3 := Below.trans (by (repeat' (first | with_reducible (first | assumption | exact Below.refl _ _ | refine Below.drew ?_ | refine below_drewN ?_ _ | refine Below.alloc ?_ ?_ _ | refine Below.setCell ?_ ?_ _) | omega | (simp; done) | (simp; omega)))) (hb3.mono (by simp))
                          have hz3 := hb3.size
                          simp at hz3
                          have hD3 := (hb3.block X.heap.size (by simp)).trans (heap_alloc_new _ _)
                          obtain ⟨_, _, _, f6, f7, f8, _⟩ := cells3 hD3
                          have HD3 := hide hD3
                          have HO5 := hide hO5
                          have HT5 := hide ht5
                          refine hK _ _ hB3 ?_
                          clear hK K hD3 hb3 hO5 ht5
                          iterate 4 (refine seq_take (v := ?_) rfl (by rfl) ?_ ?_; rotate_left; (focus (intro wS hS; have y0 := (hS.cell (p := ⟨wr.heap.size + 1, 0, none⟩) cz).trans c0; have y1 := (hS.cell (p := ⟨wr.heap.size + 1, 1, none⟩) cz).trans c1; have y2 := (hS.cell (p := ⟨wr.heap.size + 1, 2, none⟩) cz).trans c2; have y3 := (hS.cell (p := ⟨wr.heap.size + 1, 3, none⟩) cz).trans c3; have y4 := (hS.cell (p := ⟨wr.heap.size + 1, 4, none⟩) cz).trans c4; have y5 := (hS.cell (p := ⟨wr.heap.size + 1, 5, none⟩) cz).trans c5; have k0 := (hS.cell (p := ⟨gs, os + o * 3, none⟩) gsz).trans s0; have k1 := (hS.cell (p := ⟨gs, os + o * 3 + 1, none⟩) gsz).trans s1; have k2 := (hS.cell (p := ⟨gs, os + o * 3 + 2, none⟩) gsz).trans s2; have m0 := (hS.cell (p := ⟨gv, o, none⟩) gvz).trans r0; have m4 := (hS.cell (p := ⟨wr.heap.size, 4, none⟩) ez).trans e4; have m5 := (hS.cell (p := ⟨wr.heap.size, 5, none⟩) ez).trans e5; have m6 := (hS.cell (p := ⟨wr.heap.size, 6, none⟩) ez).trans e6; go_simp; exact rfl)); simp only [Act.put, sqA, sqB, sqC])
                          refine seq_run rfl (by rfl) (fun K hK => ?_)
                          go_simp
                          refine hK _ _ (by (repeat' (first | with_reducible (first | assumption | exact Below.refl _ _ | refine Below.drew ?_ | refine below_drewN ?_ _ | refine Below.alloc ?_ ?_ _ | refine Below.setCell ?_ ?_ _) | omega | (simp; done) | (simp; omega)))) ?_
                          clear hK K
                          refine seq_nil ?_
                          go_wp2
                          go_meet
                          obtain ⟨k1, k2, _, k3⟩ := sl_setT (j := 0) (u := .int .i64 E) HO5.out HT5.out HD3.out (by decide)
                          obtain ⟨k4, k5, _, k6⟩ := sl_setT (j := 1) (u := .int .u64 V) k1 k2 k3 (by decide)
                          obtain ⟨k7, k8, _⟩ := sl_setT (j := 2) (u := .slice A6 R3.length c6) k4 k5 k6 (by decide)
                          exact ⟨A5, c5', rfl, hide k7, hide k8, hide (by (repeat' (first | with_reducible (first | assumption | exact Below.refl _ _ | refine Below.drew ?_ | refine below_drewN ?_ _ | refine Below.alloc ?_ ?_ _ | refine Below.setCell ?_ ?_ _) | omega | (simp; done) | (simp; omega))))⟩
                      obtain ⟨A5, c5', rfl, HO5, HT5, HBY⟩ := hcut
                      obtain ⟨Y, rfl⟩ : ∃ Y, Y = wc := ⟨_, rfl⟩
                      replace c1 := (HBY.out.cell (p := ⟨wr.heap.size + 1, 1, none⟩) cz).trans c1
                      replace r0 := (HBY.out.cell (p := ⟨gv, o, none⟩) gvz).trans r0
                      replace fr := (HBY.out.frozen (p := ⟨gv, o, none⟩) gvz).trans fr
                      replace ro := (HBY.out.cell (p := ⟨og, oo + k, none⟩) ogz).trans ro
                      have czy : wr.heap.size + 1 < Y.heap.size := Nat.lt_of_lt_of_le cz HBY.out.size
                      have gvy : gv < Y.heap.size := Nat.lt_of_lt_of_le gvz HBY.out.size
                      clear c0 c2 c3 c4 c5 e0 e1 e2 e3 e4 e5 e6 e7 s0 s1 s2
                      go_wp2
                      go_roundw
                      case rel =>
                        have h9 := ob_below HSX.out HBY.out
                        rw [← HPL.out] at h9
                        have h8 := st_set (k := o) (p := (R1, A5, c5')) h9 HO5.out HT5.out rfl
                        have hvb2 := (HBY.out.block gv gvz).trans HVB.out
                        refine ⟨k + 1, by omega, by go_num, ps.set o (R1, A5, c5'), by rw [List.length_set]; exact HPL.out, hide ?_, hide ?_, hide ?_, hide ?_, hide ?_⟩
                        · rw [← HPL.out]
                          exact h8
                        · have h := HSTP.out
                          rw [HS2.out] at h
                          rw [List.map_set]
                          exact h
                        · rw [HRUN.out, HS2.out, if_pos rfl, List.map_set]
                        · exact own_setU (owns_keepB HOX.out (Keep.of_below (K := fun j => j < X.heap.size) HBY.out (fun _ h => h)) (fun j _ hl => hl)) hvb2 (by decide)
                        · exact (HBW.out.trans (HBY.out.mono HBW.out.size)).setCell (by have := HBG.out; exact this) _
                      case measure => simp [intOf] <;> omega
                    · have f1 : (e.resp == 0) = false := by simp [hr]
                      have f2 : (e.resp != 0) = true := by simp [hr]
                      have hne := hr
                      have hst2 := stepC_in1 (n := n) (sts := ps.map Prod.fst) (e := e) (c := c) (l := ls x) hco hs hxo hr
                      have NA := fun W (h : SlW W (.slice pA st.length pc) st) (ht : Tw W (.slice pA st.length pc)) (h2 : SlW W (.slice e.lA e.lN e.lC) (ls x)) => rlegal_any n s c ⟨e.err, e.val, ls x⟩ pA e.lA st.length pc e.lN e.lC st W h ht (by omega) g1 ht0 ht1 ua ub g2 h2
                      unfold RLegPost spV clV at NA
                      obtain ⟨RR, hRR⟩ : ∃ RR, legalM n s st c ⟨e.err, e.val, ls x⟩ = RR := ⟨_, rfl⟩
                      rw [hRR] at NA hst2
                      rw [hco] at NA
                      obtain ⟨R1, ok⟩ := RR
                      simp only at NA hst2
                      have HNA := hide NA
                      have HS2 := hide hst2
                      clear hst2 NA hRR hr hco ho hs hp hxo g1 g2 g3 hcs hcv hsl htw hvb hBg hv2 hv3 ht0 ht1 ua ub uc
                      go_wp2_with fail
                      refine wp_region_seq (Below X.heap.size X) (.take 0 <| .take 1 <| .take 2 <| .take 3 <| .take 4 <| .take 5 <| .take 6 <| .take 7 <| .take 8 <| .take 9 <| .take 10 <| .take 11 <| .take 12 <| .take 13 <| .run 14 <| .take 15 <| .take 16 <| .take 17 <| .take 18 <| .take 19 <| .done) (by kernel_rfl) (by kernel_rfl) (by kernel_rfl) (by (repeat' (first | with_reducible (first | assumption | exact Below.refl _ _ | refine Below.drew ?_ | refine below_drewN ?_ _ | refine Below.alloc ?_ ?_ _ | refine Below.setCell ?_ ?_ _) | omega | (simp; done) | (simp; omega)))) ?_
                      iterate 14 (refine seq_take (v := ?_) rfl (by rfl) ?_ ?_; rotate_left; (focus (intro wS hS; have y0 := (hS.cell (p := ⟨wr.heap.size + 1, 0, none⟩) cz).trans c0; have y1 := (hS.cell (p := ⟨wr.heap.size + 1, 1, none⟩) cz).trans c1; have y2 := (hS.cell (p := ⟨wr.heap.size + 1, 2, none⟩) cz).trans c2; have y3 := (hS.cell (p := ⟨wr.heap.size + 1, 3, none⟩) cz).trans c3; have y4 := (hS.cell (p := ⟨wr.heap.size + 1, 4, none⟩) cz).trans c4; have y5 := (hS.cell (p := ⟨wr.heap.size + 1, 5, none⟩) cz).trans c5; have k0 := (hS.cell (p := ⟨gs, os + o * 3, none⟩) gsz).trans s0; have k1 := (hS.cell (p := ⟨gs, os + o * 3 + 1, none⟩) gsz).trans s1; have k2 := (hS.cell (p := ⟨gs, os + o * 3 + 2, none⟩) gsz).trans s2; have m0 := (hS.cell (p := ⟨gv, o, none⟩) gvz).trans r0; have m4 := (hS.cell (p := ⟨wr.heap.size, 4, none⟩) ez).trans e4; have m5 := (hS.cell (p := ⟨wr.heap.size, 5, none⟩) ez).trans e5; have m6 := (hS.cell (p := ⟨wr.heap.size, 6, none⟩) ez).trans e6; go_simp; exact rfl)); simp only [Act.put, sqA, sqB, sqC])
                      refine seq_run rfl (by rfl) (fun K hK => ?_)
                      go_simp
                      (with_reducible refine (HNA.out _ ?_ ?_ ?_).mono ?_)
                      · exact HSL.out.below (by (repeat' (first | with_reducible (first | assumption | exact Below.refl _ _ | refine Below.drew ?_ | refine below_drewN ?_ _ | refine Below.alloc ?_ ?_ _ | refine Below.setCell ?_ ?_ _) | omega | (simp; done) | (simp; omega)))) (Nat.le_refl _)
                      · exact tw_below HTW.out (by (repeat' (first | with_reducible (first | assumption | exact Below.refl _ _ | refine Below.drew ?_ | refine below_drewN ?_ _ | refine Below.alloc ?_ ?_ _ | refine Below.setCell ?_ ?_ _) | omega | (simp; done) | (simp; omega))))
                      · exact HLST.out.below (by have hq := HBX.out; (repeat' (first | with_reducible (first | assumption | exact Below.refl _ _ | refine Below.drew ?_ | refine below_drewN ?_ _ | refine Below.alloc ?_ ?_ _ | refine Below.setCell ?_ ?_ _) | omega | (simp; done) | (simp; omega)))) (Nat.le_refl _)
                      rintro e9 Y ⟨v5, rfl, hok5, ⟨A5, k5, c5', rfl⟩, hb3⟩
                      have hB3 : Below X.heap.size X Y := Below.trans (by (repeat' (first | with_reducible (first | assumption | exact Below.refl _ _ | refine Below.drew ?_ | refine below_drewN ?_ _ | refine Below.alloc ?_ ?_ _ | refine Below.setCell ?_ ?_ _) | omega | (simp; done) | (simp; omega)))) (hb3.mono (by simp))
                      refine hK _ _ hB3 ?_
                      have HBY := hide hB3
                      clear hK K hb3
                      iterate 5 (refine seq_take (v := ?_) rfl (by rfl) ?_ ?_; rotate_left; (focus (intro wS hS; have y0 := (hS.cell (p := ⟨wr.heap.size + 1, 0, none⟩) cz).trans c0; have y1 := (hS.cell (p := ⟨wr.heap.size + 1, 1, none⟩) cz).trans c1; have y2 := (hS.cell (p := ⟨wr.heap.size + 1, 2, none⟩) cz).trans c2; have y3 := (hS.cell (p := ⟨wr.heap.size + 1, 3, none⟩) cz).trans c3; have y4 := (hS.cell (p := ⟨wr.heap.size + 1, 4, none⟩) cz).trans c4; have y5 := (hS.cell (p := ⟨wr.heap.size + 1, 5, none⟩) cz).trans c5; have k0 := (hS.cell (p := ⟨gs, os + o * 3, none⟩) gsz).trans s0; have k1 := (hS.cell (p := ⟨gs, os + o * 3 + 1, none⟩) gsz).trans s1; have k2 := (hS.cell (p := ⟨gs, os + o * 3 + 2, none⟩) gsz).trans s2; have m0 := (hS.cell (p := ⟨gv, o, none⟩) gvz).trans r0; have m4 := (hS.cell (p := ⟨wr.heap.size, 4, none⟩) ez).trans e4; have m5 := (hS.cell (p := ⟨wr.heap.size, 5, none⟩) ez).trans e5; have m6 := (hS.cell (p := ⟨wr.heap.size, 6, none⟩) ez).trans e6; go_simp; exact rfl)); simp only [Act.put, sqA, sqB, sqC])
                      refine seq_nil ?_
                      clear hB3
                      replace c1 := (HBY.out.cell (p := ⟨wr.heap.size + 1, 1, none⟩) cz).trans c1
                      replace r0 := (HBY.out.cell (p := ⟨gv, o, none⟩) gvz).trans r0
                      replace fr := (HBY.out.frozen (p := ⟨gv, o, none⟩) gvz).trans fr
                      replace ro := (HBY.out.cell (p := ⟨og, oo + k, none⟩) ogz).trans ro
                      have czy : wr.heap.size + 1 < Y.heap.size := Nat.lt_of_lt_of_le cz HBY.out.size
                      have gvy : gv < Y.heap.size := Nat.lt_of_lt_of_le gvz HBY.out.size
                      clear c0 c2 c3 c4 c5 e0 e1 e2 e3 e4 e5 e6 e7 s0 s1 s2
                      rcases ok with _ | _
                      · clear hok5
                        go_wp2
                        go_ret
                        exact ⟨_, rfl, hend.out (by rw [HS2.out]), HBW.out.trans (HBY.out.mono HBW.out.size)⟩
                      · obtain ⟨hO5, ht5⟩ := hok5 rfl
                        obtain ⟨_, _, e9, _⟩ := id hO5
                        injection e9 with e9a e9b e9c
                        subst e9b
                        have HO5 := hide hO5
                        have HT5 := hide ht5
                        clear hO5 ht5 hok5 e9a e9c
                        go_wp2
                        go_roundw
                        case rel =>
                          have h9 := ob_below HSX.out HBY.out
                          rw [← HPL.out] at h9
                          have h8 := st_set (k := o) (p := (R1, A5, c5')) h9 HO5.out HT5.out rfl
                          have hvb2 := (HBY.out.block gv gvz).trans HVB.out
                          refine ⟨k + 1, by omega, by go_num, ps.set o (R1, A5, c5'), by rw [List.length_set]; exact HPL.out, hide ?_, hide ?_, hide ?_, hide ?_, hide ?_⟩
                          · rw [← HPL.out]
                            exact h8
                          · have h := HSTP.out
                            rw [HS2.out] at h
                            rw [List.map_set]
                            exact h
                          · rw [HRUN.out, HS2.out, if_pos rfl, List.map_set]
                          · exact own_setU (owns_keepB HOX.out (Keep.of_below (K := fun j => j < X.heap.size) HBY.out (fun _ h => h)) (fun j _ hl => hl)) hvb2 (by decide)
                          · exact (HBW.out.trans (HBY.out.mono HBW.out.size)).setCell (by have := HBG.out; exact this) _
                        case measure => simp [intOf] <;> omega
                  · have hso := stepC_out (n := n) (sts := ps.map Prod.fst) (e := e) (c := c) (l := ls x) ho
                    have HSO2 := hide hso
                    have hko : (decide (c.obj < 0) = true) ∨ (decide (c.obj < 0) = false ∧ decide ((specs.length : Int) ≤ c.obj) = true) := by
                      by_cases h : c.obj < 0
                      · exact Or.inl (by simpa using h)
                      · refine Or.inr ⟨by simpa using h, ?_⟩
                        simp
                        omega
                    clear hso ho
                    by_cases hr : e.resp = 0
                    · have f1 : (e.resp == 0) = true := by simp [hr]
                      have f2 : (e.resp != 0) = false := by simp [hr]
                      have hst2 : stepC n specs (ps.map Prod.fst) e (ls x) c = (ps.map Prod.fst, true) := by rw [HSO2.out, hr]; rfl
                      have HS2 := hide hst2
                      clear hr hst2
                      rcases hko with d0 | ⟨d0, d1⟩
                      all_goals
                        go_wp2
                        go_roundw
                        case rel =>
                          refine ⟨k + 1, by omega, by go_num, ps, HPL.out, hide ?_, hide ?_, hide ?_, hide ?_, hide ?_⟩
                          · first | exact HSX.out | exact ob_below HSX.out (by (repeat' (first | with_reducible (first | assumption | exact Below.refl _ _ | refine Below.drew ?_ | refine below_drewN ?_ _ | refine Below.alloc ?_ ?_ _ | refine Below.setCell ?_ ?_ _) | omega | (simp; done) | (simp; omega))))
                          · have h := HSTP.out; rw [HS2.out] at h; exact h
                          · rw [HRUN.out, HS2.out, if_pos rfl]
                          · exact HOX.out
                          · have hq := HBW.out
                            (repeat' (first | with_reducible (first | assumption | exact Below.refl _ _ | refine Below.drew ?_ | refine below_drewN ?_ _ | refine Below.alloc ?_ ?_ _ | refine Below.setCell ?_ ?_ _) | omega | (simp; done) | (simp; omega)))
                        case measure => simp [intOf] <;> omega
                    · have f1 : (e.resp == 0) = false := by simp [hr]
                      have f2 : (e.resp != 0) = true := by simp [hr]
                      have hne := hr
                      have NA := answer_any ⟨e.err, e.val, ls x⟩ (anE 12) e.lA none e.lN e.lC 0 0 X (HLST.out.below HBX.out (Nat.le_refl _)) (slw_none _)
                      have hans : stepC n specs (ps.map Prod.fst) e (ls x) c = (ps.map Prod.fst, ansEq ⟨e.err, e.val, ls x⟩ (anE 12)) := by rw [HSO2.out, decide_eq_false hr]; rfl
                      obtain ⟨Q, hQ⟩ : ∃ Q, ansEq ⟨e.err, e.val, ls x⟩ (anE 12) = Q := ⟨_, rfl⟩
                      rw [hQ] at NA hans
                      simp only [anE] at NA
                      have HS2 := hide hans
                      have HNA := hide NA
                      clear hr hans hQ NA
                      rcases Q with _ | _
                      all_goals rcases hko with d0 | ⟨d0, d1⟩
                      all_goals
                        go_wp2_with fail
                        refine HNA.out.mono ?_
                        rintro e9 w9 ⟨rfl, hb9⟩
                        have HB9 := hide hb9
                        replace ro := (hb9.cell (p := ⟨og, oo + k, none⟩) ogz).trans ro
                        clear hb9
                        go_wp2
                      iterate 2
                        · go_ret
                          exact ⟨_, rfl, hend.out (by rw [HS2.out]), HBW.out.trans (HB9.out.mono HBW.out.size)⟩
                      all_goals
                        go_roundw
                        case rel =>
                          refine ⟨k + 1, by omega, by go_num, ps, HPL.out, hide (ob_below HSX.out HB9.out), hide ?_, hide ?_, hide ?_, hide (HBW.out.trans (HB9.out.mono HBW.out.size))⟩
                          · have h := HSTP.out; rw [HS2.out] at h; exact h
                          · rw [HRUN.out, HS2.out, if_pos rfl]
                          · exact owns_keepB HOX.out (Keep.of_below (K := fun j => j < X.heap.size) HB9.out (fun _ h => h)) (fun j _ hl => hl)
                        case measure => simp [intOf] <;> omega
                · have d9 : decide ((k : Int) < (L.length : Int)) = false := by simp; omega
                  have d8 : decide (k < L.length) = false := by simp; omega
                  have hr : Hid (PWrong n specs calls es ls ky (-1)) := hide (Or.inr ⟨HNB.out, L, HL.out, by rw [hRun.out, List.drop_of_length_le (by omega)]; rfl⟩)
                  go_wp2
                  go_ret
                  exact ⟨_, rfl, hr.out, hB.out⟩
end Go.Proofs.YtmiimpmfkjcjlaaGreat
