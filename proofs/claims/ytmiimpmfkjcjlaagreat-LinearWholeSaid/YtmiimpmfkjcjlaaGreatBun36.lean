import Derived.Test.YtmiimpmfkjcjlaaGreatBun35
import Derived.Test.YtmiimpmfkjcjlaaGreatBun32
import Derived.Test.YtmiimpmfkjcjlaaGreatBun10
import Derived.Test.YtmiimpmfkjcjlaaGreatBun30
import Derived.Test.YtmiimpmfkjcjlaaGreatLr4
namespace Go.Proofs.YtmiimpmfkjcjlaaGreat
open Go.RowKit
def LWPost (n : Int) (specs : List Sp) (calls : List Cl) (es : List Ev) (ls ky : Nat → List Int) (w : World) (e : Ending) (w' : World) : Prop :=
  Below w.heap.size w w' ∧ ((layE n specs ≠ 0 ∧ e = .returned (.tuple #[.int .i64 (-1), .int .i64 (layE n specs)])) ∨
    (layE n specs = 0 ∧ es.all (okR n calls) = false ∧ e = .returned (.tuple #[.int .i64 (-1), .int .i64 5])) ∨
    (layE n specs = 0 ∧ es.all (okR n calls) = true ∧ ∃ L, IsOrd ky es.length L ∧ e = .returned (.tuple #[.int .i64 (wrongI (runL n specs calls es ls L (specs.map (newM n)))), .int .i64 0])))
theorem lwst_model {W0 W W' : World} {Bt b : Nat} {n : Int} {S V V' : Value} {ps : List StP} {p : StP} (h : LwSt W0 W Bt b n S V ps) (hb0 : W0.heap.size ≤ b) (h5 : StRow W' W0.heap.size V' (ps ++ [p])) (hk : Keep (fun j => j < W.heap.size ∧ some j ≠ V.ownBlock) W W') : LwSt W0 (W'.setCell ⟨b, 2, none⟩ V') Bt b n S V' (ps ++ [p]) := by
  have hat := h.at_
  have htb := h.tb
  have h1 : MdAt W' b n S V := (hk.block b ⟨(Array.getElem?_eq_some_iff.1 hat).1, own_ne h.st.1 hat (by decide)⟩).trans hat
  have h2 := (hk.block Bt ⟨(Array.getElem?_eq_some_iff.1 htb).1, own_ne h.st.1 htb (by decide)⟩).trans htb
  have hne : Bt ≠ b := by
    intro e
    rw [e] at h2
    unfold MdAt at h1
    rw [h1] at h2
    cases h2
  refine ⟨?_, ?_, ob_setOther h5 h1 (by decide) (by decide), ?_⟩
  · have := cells_set (i := 2) (u := V') h1
    exact this
  · exact (Below.heap_setCell _ _ _ _ (fun e => hne e)).trans h2
  · exact (h.bel.trans (hk.below (fun k hk => ⟨Nat.lt_of_lt_of_le hk h.bel.size, fun e => by have := (h.st.1.lt k e.symm).1; omega⟩))).setCell hb0 _
set_option maxRecDepth 100000 in
set_option maxHeartbeats 4000000 in
theorem linWrong_any (n : Int) (S C L : Value) (specs : List Sp) (calls : List Cl) (es : List Ev) (ls ky : Nat → List Int) (w : World) (h : PwCtx w S C L specs calls es ls ky) (hm : es.length ≤ 1000) (hw : ∀ c ∈ calls, U64 c.a ∧ U64 c.b ∧ U64 c.c) :
    Calls Tryz.prog 30 #[.int .i64 n, S, C, L] w (LWPost n specs calls es ls ky w) := by
  obtain ⟨Ae, ce, rfl, ge1, ge2, ge3⟩ := id h.key.evs
  obtain ⟨As, cs, rfl, gs1, gs2, gs3⟩ := id h.specs
  obtain ⟨Ac, cc, rfl, gc1, gc2, gc3⟩ := id h.calls
  have NL := fun W (hW : Below w.heap.size w W) => tlay_any n As specs.length cs specs W (h.specs.below hW (Nat.le_refl _)) rfl
  unfold LayPost at NL
  have hcl63 : (calls.length : Int) ≤ 9223372036854775807 := by unfold maxLen at gc2; omega
  have hsl63 : (specs.length : Int) ≤ 9223372036854775807 := by unfold maxLen at gs2; omega
  obtain ⟨LE, hLE⟩ : ∃ LE, layE n specs = LE := ⟨_, rfl⟩
  rw [hLE] at NL
  have HNL := hide NL
  have HH := hide h
  have HLE := hide hLE
  have HW := hide hw
  obtain ⟨W3, hW3⟩ : ∃ W, W = ((w.alloc (.cells #[.int .i64 n] 3)).alloc (.cells #[.slice Ac calls.length cc] 41)).alloc (.cells #[.slice Ae es.length ce] 59) := ⟨_, rfl⟩
  have HB3 : Hid (Below w.heap.size w W3) := hide (by rw [hW3]; exact (((Below.refl _ _).alloc (Nat.le_refl _) _).alloc (by simp) _).alloc (by simp; omega) _)
  have b0 : W3.cell? ⟨w.heap.size, 0, none⟩ = some (.int .i64 n) := cell_of_row W3 w.heap.size 0 #[.int .i64 n] 3 (0, 0) (by rw [hW3]; exact (heap_alloc_old _ _ (by simp; omega)).trans ((heap_alloc_old _ _ (by simp)).trans (heap_alloc_new _ _)))
  have b1 : W3.cell? ⟨w.heap.size + 1, 0, none⟩ = some (.slice Ac calls.length cc) := cell_of_row W3 (w.heap.size + 1) 0 #[.slice Ac calls.length cc] 41 (0, 0) (by rw [hW3]; refine (heap_alloc_old _ _ (by simp)).trans ?_; have := heap_alloc_new (w.alloc (.cells #[.int .i64 n] 3)) (.cells #[.slice Ac calls.length cc] 41); simpa using this)
  have b2 : W3.cell? ⟨w.heap.size + 2, 0, none⟩ = some (.slice Ae es.length ce) := cell_of_row W3 (w.heap.size + 2) 0 #[.slice Ae es.length ce] 59 (0, 0) (by rw [hW3]; have := heap_alloc_new ((w.alloc (.cells #[.int .i64 n] 3)).alloc (.cells #[.slice Ac calls.length cc] 41)) (.cells #[.slice Ae es.length ce] 59); simpa using this)
  have hz3 : w.heap.size + 2 < W3.heap.size := by rw [hW3]; simp
  clear h hLE NL hw ge3 gc3
  go_enter Tryz.func30, Tryz.ntmps30
  go_wp2_with fail
  rw [← hW3]
  clear hW3
  refine (HNL.out W3 HB3.out).mono ?_
  rintro e1 W4 ⟨u, rfl, _, hb4⟩
  have HB4 := hide hb4
  clear hb4
  have hz4 := HB4.out.size
  by_cases hE0 : LE = 0
  · subst hE0
    have hC4 : BadCtx W4 w.heap.size (w.heap.size + 1) n (.slice Ac calls.length cc) calls := ⟨(HB4.out.cell (p := ⟨w.heap.size, 0, none⟩) (by show w.heap.size < _; omega)).trans b0, (HB4.out.cell (p := ⟨w.heap.size + 1, 0, none⟩) (by show w.heap.size + 1 < _; omega)).trans b1, by omega, by omega, HH.out.calls.below (HB3.out.trans (HB4.out.mono (by omega))) (Nat.le_refl _)⟩
    have NC := containsBad_any w.heap.size (w.heap.size + 1) n (.slice Ac calls.length cc) (.slice Ae es.length ce) calls es W4 hC4 (HH.out.key.evs.below (HB3.out.trans (HB4.out.mono (by omega))) (Nat.le_refl _))
    replace b0 := (HB4.out.cell (p := ⟨w.heap.size, 0, none⟩) (by show w.heap.size < _; omega)).trans b0
    replace b1 := (HB4.out.cell (p := ⟨w.heap.size + 1, 0, none⟩) (by show w.heap.size + 1 < _; omega)).trans b1
    replace b2 := (HB4.out.cell (p := ⟨w.heap.size + 2, 0, none⟩) (by show w.heap.size + 2 < _; omega)).trans b2
    obtain ⟨OK, hOK⟩ : ∃ OK, es.all (okR n calls) = OK := ⟨_, rfl⟩
    rw [hOK] at NC
    have HOK := hide hOK
    clear hC4 hOK
    go_wp2_with fail
    refine NC.mono ?_
    rintro e2 W5 ⟨rfl, hb5⟩
    have HB5 := hide hb5
    have hz5 := hb5.size
    replace b0 := (hb5.cell (p := ⟨w.heap.size, 0, none⟩) (by show w.heap.size < _; omega)).trans b0
    replace b1 := (hb5.cell (p := ⟨w.heap.size + 1, 0, none⟩) (by show w.heap.size + 1 < _; omega)).trans b1
    replace b2 := (hb5.cell (p := ⟨w.heap.size + 2, 0, none⟩) (by show w.heap.size + 2 < _; omega)).trans b2
    have HBW : Hid (Below w.heap.size w W5) := hide (HB3.out.trans ((HB4.out.trans (hb5.mono hz4)).mono (by omega)))
    clear hb5 NC
    cases OK
    · go_wp2
      go_ret2
      exact ⟨HBW.out, Or.inr (Or.inl ⟨HLE.out, HOK.out, rfl⟩)⟩
    · go_upto_region 6 with fail
      go_cut [13] (fun v wx => v = .pointer (some ⟨W5.heap.size + 1, 0, none⟩) ∧ Hid (LwSt W5 wx (W5.heap.size + 1) W5.heap.size n (.slice As specs.length cs) (.slice none 0 0) []))
      case first =>
        go_wp2
        go_meet
        refine ⟨rfl, hide ⟨?_, ?_, ob_nil _ _, ?_⟩⟩
        · exact (heap_alloc_old _ _ (by simp)).trans (heap_alloc_new _ _)
        · have := heap_alloc_new (W5.alloc (.cells #[.int .i64 n, .slice As specs.length cs, .slice none 0 0] 116)) (.cells #[.pointer (some ⟨W5.heap.size, 0, none⟩)] 114)
          simpa using this
        · exact ((Below.refl _ _).alloc (Nat.le_refl _) _).alloc (by simp) _
      case rest =>
        obtain ⟨rfl, hDB⟩ := hcut
        obtain ⟨W6, rfl⟩ : ∃ X, X = wc := ⟨_, rfl⟩
        have hz6 := hDB.out.bel.size
        have hW56 := hDB.out.bel
        replace b0 := (hW56.cell (p := ⟨w.heap.size, 0, none⟩) (by show w.heap.size < _; omega)).trans b0
        replace b2 := (hW56.cell (p := ⟨w.heap.size + 2, 0, none⟩) (by show w.heap.size + 2 < _; omega)).trans b2
        have HCT : Hid (LwCtx W5 (w.heap.size + 1) (w.heap.size + 2) (.slice As specs.length cs) (.slice Ac calls.length cc) (.slice Ae es.length ce) specs calls es ls) := hide ⟨b1, (hW56.cell (p := ⟨w.heap.size + 2, 0, none⟩) (by show w.heap.size + 2 < _; omega)).symm.trans b2, by omega, by omega, HH.out.specs.below HBW.out (Nat.le_refl _), HH.out.calls.below HBW.out (Nat.le_refl _), HH.out.key.evs.below HBW.out (Nat.le_refl _), fun k e he => (HH.out.lst k e he).below HBW.out (Nat.le_refl _)⟩
        have hSP := layE_specs HLE.out
        have hm8 := hSP.1
        have HSP := hide hSP.2
        clear hW56 hSP b1
        go_wp2
        go_loopw [39] (fun i wr => ∃ (k : Nat) (ps : List StP) (V : Value), k ≤ specs.length ∧ i = .int .i64 k ∧ Hid (LwSt W5 wr (W5.heap.size + 1) W5.heap.size n (.slice As specs.length cs) V ps) ∧ Hid (ps.map Prod.fst = (specs.take k).map (newM n)) ∧ Hid (Below W6.heap.size W6 wr ∨ True) ∧ Hid (wr.cell? ⟨w.heap.size, 0, none⟩ = some (.int .i64 n) ∧ wr.cell? ⟨w.heap.size + 2, 0, none⟩ = some (.slice Ae es.length ce))) (fun i _ => specs.length - (intOf i).toNat)
        case atStart => exact ⟨0, [], .slice none 0 0, Nat.zero_le _, rfl, hDB, hide rfl, hide (Or.inr trivial), hide ⟨b0, b2⟩⟩
        case round =>
          obtain ⟨k, ps, V, hk, rfl, hSt, hPs, _, hbb⟩ := hrel
          obtain ⟨vA, vc, rfl, _⟩ := ob_len stEn_len hSt.out.st
          have hzr := hSt.out.bel.size
          clear b0 b2
          obtain ⟨b0, b2⟩ := hbb.out
          by_cases hlt : k < specs.length
          · obtain ⟨sp, hsp⟩ : ∃ sp, specs[k]? = some sp := ⟨_, List.getElem?_eq_getElem hlt⟩
            obtain ⟨gs, os, rfl, hgs, hcc⟩ := gs3 k sp hsp
            have hwr : Below w.heap.size w wr := HBW.out.trans (hSt.out.bel.mono (by omega))
            obtain ⟨x0, x1, x2⟩ := spec_cells (hcc.of_block (w' := wr) (hwr.block gs hgs))
            have q0 : (0 : Int) ≤ (k : Int) := by omega
            have q1 : (k : Int) < (specs.length : Int) := by omega
            have hE0 := HSP.out sp (List.mem_of_getElem? hsp)
            have NN := fun W => modelNew n sp W
            unfold NewMPost spV at NN
            rw [hE0] at NN
            simp only [ne_eq, not_true_eq_false, false_and, false_or, true_and] at NN
            have hnl := newM_len n sp hE0
            have hplen : ps.length = k := by
              have h := congrArg List.length hPs.out
              simp at h
              omega
            have HPL := hide hplen
            have HANS : Hid (specs.take (k + 1) = specs.take k ++ [sp]) := hide (by rw [List.take_add_one, hsp]; rfl)
            obtain ⟨NM, hNM⟩ : ∃ X, newM n sp = X := ⟨_, rfl⟩
            rw [hNM] at NN hnl
            have HNM := hide hNM
            have HNN := hide NN
            have wz : w.heap.size < wr.heap.size := by omega
            clear hcc hsp hE0 hplen hNM NN hwr gs3
            obtain ⟨W, hW⟩ : ∃ W, W = wr.alloc (.cells #[.int .i64 sp.kind, .int .i64 sp.p, .int .i64 sp.q] 23) := ⟨_, rfl⟩
            have hBW : Below wr.heap.size wr W := by rw [hW]; exact (Below.refl _ _).alloc (Nat.le_refl _) _
            go_wp2_with fail
            rw [← hW]
            clear hW x0 x1 x2
            refine (HNN.out _).mono ?_
            rintro e w2 ⟨u, rfl, hO2, hb2⟩
            obtain ⟨A2, c2, rfl⟩ := own_slice hO2
            have hB2 : Below wr.heap.size wr w2 := hBW.trans (hb2.mono hBW.size)
            have hS2 : LwSt W5 w2 (W5.heap.size + 1) W5.heap.size n _ (.slice vA ps.length vc) ps := hSt.out.keep (ob_below hSt.out.st hB2) (hB2.block _ (Array.getElem?_eq_some_iff.1 hSt.out.at_).1) (Keep.of_below hB2 (fun j h => h.1))
            have hz2 := hB2.size
            have t0 : w2.cell? ⟨W5.heap.size + 1, 0, none⟩ = some (.pointer (some ⟨W5.heap.size, 0, none⟩)) := cell_of_row _ _ 0 _ _ _ hS2.tb
            have v2 : w2.cell? ⟨W5.heap.size, 2, none⟩ = some (.slice vA ps.length vc) := cell_of_row _ _ 2 _ _ _ hS2.at_
            have f2 : w2.frozen? ⟨W5.heap.size, 2, none⟩ = false := frozen_of_row _ _ 2 _ _ hS2.at_
            have HS2 : Hid (∀ W' : World, W'.heap[W5.heap.size]? = w2.heap[W5.heap.size]? → W'.heap[W5.heap.size + 1]? = w2.heap[W5.heap.size + 1]? → W'.cell? ⟨W5.heap.size + 1, 0, none⟩ = some (.pointer (some ⟨W5.heap.size, 0, none⟩)) ∧ W'.cell? ⟨W5.heap.size, 2, none⟩ = some (.slice vA ps.length vc) ∧ W'.frozen? ⟨W5.heap.size, 2, none⟩ = false) := hide (fun W' e1 e2 =>
              ⟨(World.cell?_of_block (a := ⟨W5.heap.size + 1, 0, none⟩) e2).trans t0, (World.cell?_of_block (a := ⟨W5.heap.size, 2, none⟩) e1).trans v2, (World.frozen?_of_block (a := ⟨W5.heap.size, 2, none⟩) e1).trans f2⟩)
            have HL2 := hide hS2
            have HO2 := hide hO2
            have p0 := (hB2.cell (p := ⟨w.heap.size, 0, none⟩) (by show w.heap.size < _; omega)).trans b0
            have p2 := (hB2.cell (p := ⟨w.heap.size + 2, 0, none⟩) (by show w.heap.size + 2 < _; omega)).trans b2
            have HP2 := hide (And.intro p0 p2)
            have hw2b : W5.heap.size + 1 < w2.heap.size := by have := (Array.getElem?_eq_some_iff.1 hS2.tb).1; exact this
            clear hb2 hB2 hS2 hO2 b0 b2 hBW p0 p2 HNN
            go_wp2_with fail
            refine wp_region_seql (fun wS => wS.cell? ⟨W5.heap.size + 1, 0, none⟩ = some (.pointer (some ⟨W5.heap.size, 0, none⟩)) ∧ wS.cell? ⟨W5.heap.size, 2, none⟩ = some (.slice vA ps.length vc) ∧ wS.frozen? ⟨W5.heap.size, 2, none⟩ = false) [10] (.take 0 <| .take 1 <| .take 2 <| .take 3 <| .take 4 <| .take 5 <| .run 6 <| .run 7 <| .take 8 <| .take 9 <| .run 10 <| .done) (by kernel_rfl) (by kernel_rfl) (by kernel_rfl) ⟨t0, v2, f2⟩ ?_
            iterate 6 (refine seql_take (v := ?_) rfl (by rfl) ?_ ?_; rotate_left; (focus (intro wS hS; have z0 := hS.1; have z1 := hS.2; go_simp; exact rfl)); simp only [Act.put, sqA, sqB, sqC])
            refine seql_run rfl (by rfl) (fun K hK => ?_)
            go_simp
            refine hK _ _ (HS2.out _ (heap_alloc_old _ _ (by show W5.heap.size < w2.heap.size; omega)) (heap_alloc_old _ _ (by show W5.heap.size + 1 < w2.heap.size; omega))) ?_
            clear hK K t0 v2 f2
            refine seql_run rfl (by rfl) (fun K hK => ?_)
            refine wp_ob_push _ _ rfl info_slw Tryz.underlying51 rfl (by decide) (by decide) (by decide) (show StRow w2.drew _ _ ps from HL2.out.st) rfl rfl rfl (NM, A2, c2) rfl rfl (by simp [stEn, Value.oneCell']) (show SlW w2.drew _ _ from wrow_sl (show WRow w2 _ _ NM from HO2.out) (by show NM.length ≤ _; unfold maxLen; omega)) (show Tw w2.drew _ from tw_own HO2.out) (by have := HPL.out; omega) (by show W5.heap.size ≤ w2.heap.size; omega) ?_
            intro v5 w5 hSt5 hk5'
            have hk5 : Keep (fun j => j < w2.heap.size ∧ some j ≠ (Value.slice vA ps.length vc).ownBlock) w2 w5 := (Keep.refl _ w2).drew.trans hk5'
            clear hk5'
            have ho5 := hk5.block W5.heap.size ⟨by omega, own_ne HL2.out.st.1 HL2.out.at_ (by decide)⟩
            have hg5 := hk5.block (W5.heap.size + 1) ⟨by omega, own_ne HL2.out.st.1 HL2.out.tb (by decide)⟩
            refine hK _ _ (HS2.out _ ho5 hg5) ?_
            clear hK K
            obtain ⟨t5, v5', f5⟩ := HS2.out _ ho5 hg5
            obtain ⟨vA5, vc5, rfl, _⟩ := ob_len stEn_len hSt5
            have HL5 := hide (lwst_model HL2.out (Nat.le_refl _) hSt5 hk5)
            have HP5 : Hid ((w5.setCell ⟨W5.heap.size, 2, none⟩ (.slice vA5 (ps ++ [(NM, A2, c2)]).length vc5)).cell? ⟨w.heap.size, 0, none⟩ = some (.int .i64 n) ∧ (w5.setCell ⟨W5.heap.size, 2, none⟩ (.slice vA5 (ps ++ [(NM, A2, c2)]).length vc5)).cell? ⟨w.heap.size + 2, 0, none⟩ = some (.slice Ae es.length ce)) := hide (by
              have c0 := (World.cell?_of_block (a := ⟨w.heap.size, 0, none⟩) (hk5.block w.heap.size ⟨by omega, fun e => by have := (HL2.out.st.1.lt _ e.symm).1; omega⟩)).trans HP2.out.1
              have c2 := (World.cell?_of_block (a := ⟨w.heap.size + 2, 0, none⟩) (hk5.block (w.heap.size + 2) ⟨by omega, fun e => by have := (HL2.out.st.1.lt _ e.symm).1; omega⟩)).trans HP2.out.2
              refine ⟨?_, ?_⟩
              · rw [World.cell?_setCell_other (h := fun e => by have e2 := congrArg Addr.block e; simp at e2; omega)]
                exact c0
              · rw [World.cell?_setCell_other (h := fun e => by have e2 := congrArg Addr.block e; simp at e2; omega)]
                exact c2)
            clear hSt5 hk5 ho5 hg5
            iterate 2 (refine seql_take (v := ?_) rfl (by rfl) ?_ ?_; rotate_left; (focus (intro wS hS; have z0 := hS.1; have z1 := hS.2; go_simp; exact rfl)); simp only [Act.put, sqA, sqB, sqC])
            refine seql_late rfl rfl (by rfl) (fun K hK => ?_)
            go_simp
            refine hK _ _ ?_
            clear hK K
            refine seql_nil ?_
            have hd5 := HL5.out
            have hp5 := HP5.out
            rw [List.length_append] at hd5 hp5
            simp only [List.length_cons, List.length_nil, Nat.zero_add] at hd5 hp5
            obtain ⟨W7, hW7⟩ : ∃ W, W = w5.setCell ⟨W5.heap.size, 2, none⟩ (.slice vA5 (ps.length + 1) vc5) := ⟨_, rfl⟩
            rw [← hW7] at hd5 hp5 ⊢
            have HL7 := hide hd5
            have HP7 := hide hp5
            clear hd5 hp5 hW7 HL5 HP5 t5 v5' f5
            go_wp2
            go_roundw
            case rel => exact ⟨k + 1, ps ++ [(NM, A2, c2)], _, by omega, by go_num, HL7, hide (by rw [List.map_append, hPs.out, HANS.out, List.map_append]; simp [HNM.out]), hide (Or.inr trivial), HP7⟩
            case measure => simp [intOf] <;> omega
          · have d1 : decide ((k : Int) < (specs.length : Int)) = false := by simp; omega
            have d2 : decide (k < specs.length) = false := by simp; omega
            have hwr : Below w.heap.size w wr := HBW.out.trans (hSt.out.bel.mono (by omega))
            have N1 := linOrder_any (.slice Ae es.length ce) es ky wr (HH.out.key.below hwr) (by omega)
            have HWR := hide hwr
            have HPS : Hid (ps.map Prod.fst = specs.map (newM n)) := hide (by rw [hPs.out, List.take_of_length_le (by omega)])
            have hEv : EvsOk n calls es := evsOk_of (by
              have h := HOK.out
              rw [List.all_eq_true] at h ⊢
              intro e he
              have := h e he
              unfold okR at this
              simp only [Bool.and_eq_true] at this
              exact this.1) HW.out
            have HEV := hide hEv
            have hStOk : StOk n specs (ps.map Prod.fst) 80 := by rw [HPS.out]; exact StOk.new HSP.out
            have HSO := hide hStOk
            have hm8' : specs.length ≤ 1000 := by omega
            clear hwr hPs hEv hStOk gs3 b0
            go_wp2_with fail
            refine N1.mono ?_
            rintro e6 W7 ⟨A7, c7, L, rfl, hL7, hO7, hb7, hA7⟩
            have hS7 : LwSt W5 W7 (W5.heap.size + 1) W5.heap.size n _ (.slice vA ps.length vc) ps := hSt.out.keep (ob_below hSt.out.st hb7) (hb7.block _ (Array.getElem?_eq_some_iff.1 hSt.out.at_).1) (Keep.of_below hb7 (fun j h => h.1))
            have N2 := lindex_any W5 W7 (W5.heap.size + 1) (w.heap.size + 1) (w.heap.size + 2) W5.heap.size A7 c7 n _ (.slice vA ps.length vc) (.slice Ac calls.length cc) (.slice Ae es.length ce) specs calls es ls ps L HCT.out hS7 hL7 (fun a ha e => by have h1 := hA7 a ha; have h2 := (hSt.out.st.1.lt _ e.symm).2; omega) (fun x hx => ((hO7.2 x).1 hx).1) HEV.out HSO.out (Nat.le_trans (ord_len hO7) hm) hm8'
            rw [HPS.out] at N2
            have HL7 := hide hL7
            have HO7 := hide hO7
            have HB7 := hide hb7
            have HA7 := hide hA7
            have hzA := hb7.size
            have HV : Hid (∀ j, (Value.slice vA ps.length vc).ownBlock = some j → W5.heap.size ≤ j ∧ j < wr.heap.size) := hide (fun j hj => hSt.out.st.1.lt j hj)
            obtain ⟨hna, hnb⟩ : L.length ≤ c7 ∧ c7 ≤ maxLen := by obtain ⟨A9, c9, e9, f1, f2, _⟩ := hL7; injection e9 with _ e2 e3; rw [e3]; rw [← e2] at f1; exact ⟨f1, f2⟩
            unfold maxLen at hnb
            clear hL7 hO7 hb7 hA7 hS7 N1 hSt b2
            go_wp2_with fail
            refine N2.mono ?_
            rintro e8 W8 ⟨hk8, hR⟩
            have HB8 : Hid (Below w.heap.size w W8) := hide ((HWR.out.trans (HB7.out.mono HWR.out.size)).trans (hk8.below (fun j hj => ⟨by have := HWR.out.size; omega, fun e => by have := (HV.out j e.symm).1; omega⟩)))
            have HK8 := hide hk8
            clear hk8 N2
            rcases hR with ⟨rfl, hr⟩ | ⟨kk, i, rfl, hki, hr⟩
            · have HF : Hid (LWPost n specs calls es ls ky w (.returned (.tuple #[.int .i64 (-1), .int .i64 0])) W8) := hide ⟨HB8.out, Or.inr (Or.inr ⟨HLE.out, HOK.out, L, HO7.out, by rw [hr]; rfl⟩)⟩
              clear hr
              go_wp2
              go_ret2
              exact HF.out
            · have HF : Hid (LWPost n specs calls es ls ky w (.returned (.tuple #[.int .i64 (i : Int), .int .i64 0])) W8) := hide ⟨HB8.out, Or.inr (Or.inr ⟨HLE.out, HOK.out, L, HO7.out, by rw [hr]; rfl⟩)⟩
              obtain ⟨gl, ol, rfl, hgl, cx⟩ := sln_at HL7.out hki
              replace cx := (HK8.out.cell (p := ⟨gl, ol + kk, none⟩) ⟨hgl, fun e => by have h1 : wr.heap.size ≤ gl := HA7.out ⟨gl, ol, none⟩ rfl; have h2 : gl < wr.heap.size := (HV.out _ e.symm).2; omega⟩).trans cx
              have d3 : decide ((kk : Int) < 0) = false := by simp
              have q0 : (0 : Int) ≤ (kk : Int) := by omega
              have q1 : (kk : Int) < (L.length : Int) := by have := (List.getElem?_eq_some_iff.1 hki).1; omega
              clear hr hki
              go_wp2
              go_ret2
              exact HF.out
  · have g0 : (LE != 0) = true := by simpa using hE0
    have HF : Hid (LWPost n specs calls es ls ky w (.returned (.tuple #[.int .i64 (-1), .int .i64 LE])) W4) := hide ⟨HB3.out.trans (HB4.out.mono (by omega)), Or.inl ⟨by rw [HLE.out]; exact hE0, by rw [HLE.out]⟩⟩
    go_wp2
    go_ret2
    exact HF.out
end Go.Proofs.YtmiimpmfkjcjlaaGreat

namespace Go.Proofs.YtmiimpmfkjcjlaaGreat
open Go.RowKit
def withinR (k : List Int) (inv resp : Int) : Bool :=
  match k with
  | [] => false
  | x :: _ => decide (0 ≤ x) && (decide (inv ≤ Int.tdiv x 2) && (decide (resp = 0) || decide (Int.tdiv x 2 + Int.tmod x 2 ≤ resp)))
def okIn (_es : List Ev) (ky : Nat → List Int) (ticks : Int) (k : Nat) (e : Ev) : Bool := decide (ky k = []) || withinR (ky k) e.inv (if e.resp = 0 then ticks else e.resp)
set_option maxRecDepth 100000 in
set_option maxHeartbeats 1000000 in
theorem rwithin_any (v : Value) (k : List Int) (inv resp : Int) (w : World) (h : SlI w v k) (hk : ∀ x ∈ k, (Lit.int .i64 x).wf = true) :
    Calls Tryz.prog 54 #[v, .int .i64 inv, .int .i64 resp] w fun e w' => e = .returned (.bool (withinR k inv resp)) ∧ ∃ m, w' = w.drewN m := by
  obtain ⟨A, cap, rfl, h1, h2, h3⟩ := h
  obtain ⟨R, hR⟩ : ∃ R, withinR k inv resp = R := ⟨_, rfl⟩
  rw [hR]
  have HR := hide hR
  clear hR
  rcases k with _ | ⟨x, t⟩
  · have HF : Hid (false = R) := hide (by rw [← HR.out]; rfl)
    clear h3
    go_enter Tryz.func54, Tryz.ntmps54
    go_wp2
    go_ret
    exact ⟨ret_bool HF.out, 0, rfl⟩
  · obtain ⟨b, o, rfl, hb, hc⟩ := h3 0 x rfl
    have c1 := nt_cell hc
    simp only [Nat.zero_mul, Nat.add_zero] at c1
    obtain ⟨b1, b2⟩ := bounds_i64 (hk x (by simp))
    have hl0 : ((((x :: t).length : Nat) : Int) == 0) = false := by rw [beq_eq_false_iff_ne]; simp; omega
    have hl1 : (0 : Int) < (((x :: t).length : Nat) : Int) := by simp <;> omega
    have hl2 : 0 < (x :: t).length := by simp
    have hl3 : (((x :: t).length : Nat) == 0) = false := by simp
    obtain ⟨n, hn⟩ : ∃ n, (x :: t).length = n := ⟨_, rfl⟩
    rw [hn] at hl0 hl1 hl2 hl3 ⊢
    clear h3 hc hn h1
    by_cases x0 : x < 0
    · have d0 : decide (x < 0) = true := by simpa using x0
      have HF : Hid (false = R) := hide (by rw [← HR.out]; show false = (decide (0 ≤ x) && _); rw [decide_eq_false (show ¬ 0 ≤ x by omega)]; rfl)
      clear x0
      go_enter Tryz.func54, Tryz.ntmps54
      go_wp2
      go_ret
      exact ⟨ret_bool HF.out, 0, rfl⟩
    · have d0 : decide (x < 0) = false := by simpa using x0
      obtain ⟨D, hD⟩ : ∃ D, Int.tdiv x 2 = D := ⟨_, rfl⟩
      obtain ⟨M, hM⟩ : ∃ M, Int.tmod x 2 = M := ⟨_, rfl⟩
      have e1 : x = 2 * D + M := by rw [← hD, ← hM]; have := Int.mul_tdiv_add_tmod x 2; omega
      have e2 : 0 ≤ M ∧ M < 2 := by rw [← hM]; exact ⟨Int.tmod_nonneg _ (by omega), by have := Int.tmod_lt_of_pos x (show (0 : Int) < 2 by decide); omega⟩
      have e3 : 0 ≤ D ∧ D ≤ 4611686018427387904 := by omega
      have wD : IntKind.i64.wrap D = D := by rw [IntKind.wrap_i64]; omega
      have wM : IntKind.i64.wrap M = M := by rw [IntKind.wrap_i64]; omega
      have HR2 : Hid ((decide (inv ≤ D) && (decide (resp = 0) || decide (D + M ≤ resp))) = R) := hide (by
        rw [← HR.out]
        show _ = (decide (0 ≤ x) && (decide (inv ≤ Int.tdiv x 2) && (decide (resp = 0) || decide (Int.tdiv x 2 + Int.tmod x 2 ≤ resp))))
        rw [hD, hM, decide_eq_true (show 0 ≤ x by omega)]
        rfl)
      have HD := hide hD
      have HM := hide hM
      have hx2 : (x.tdiv 2) = D := hD
      have hx3 : (x.tmod 2) = M := hM
      clear hD hM e1 x0
      by_cases i1 : inv ≤ D
      · have f1 : decide (inv ≤ D) = true := by simpa using i1
        by_cases r1 : resp = 0
        · have f2 : (resp == 0) = true := by simpa using r1
          have HF : Hid (true = R) := hide (by rw [← HR2.out, f1, decide_eq_true r1]; rfl)
          clear i1 r1
          by_cases m1 : M = 1
          · subst m1
            have g0 : ((1 : Int) == 1) = true := rfl
            have wD1 : IntKind.i64.wrap (D + 1) = D + 1 := by rw [IntKind.wrap_i64]; omega
            go_enter Tryz.func54, Tryz.ntmps54
            go_wp2
            go_quiet (fail)
            go_wp2
            go_ret
            exact ⟨ret_bool (by first | exact HF.out | (rw [← HF.out]; simp; done)), _, rfl⟩
          · have g0 : (M == 1) = false := by simpa using m1
            have m0 : M = 0 := by omega
            have HF2 := HF.out
            try rw [m0, Int.add_zero] at HF2
            have HF3 := hide HF2
            clear HF2 m0 e2 m1
            go_enter Tryz.func54, Tryz.ntmps54
            go_wp2
            go_quiet (fail)
            go_wp2
            go_ret
            exact ⟨ret_bool (by first | exact HF3.out | (rw [← HF3.out]; simp; done)), _, rfl⟩
        · have f2 : (resp == 0) = false := by simpa using r1
          have HF : Hid (decide (D + M ≤ resp) = R) := hide (by rw [← HR2.out, f1, decide_eq_false r1]; rfl)
          clear i1 r1
          by_cases m1 : M = 1
          · subst m1
            have g0 : ((1 : Int) == 1) = true := rfl
            have wD1 : IntKind.i64.wrap (D + 1) = D + 1 := by rw [IntKind.wrap_i64]; omega
            go_enter Tryz.func54, Tryz.ntmps54
            go_wp2
            go_quiet (fail)
            go_wp2
            go_ret
            exact ⟨ret_bool (by first | exact HF.out | (rw [← HF.out]; simp; done)), _, rfl⟩
          · have g0 : (M == 1) = false := by simpa using m1
            have m0 : M = 0 := by omega
            have HF2 := HF.out
            try rw [m0, Int.add_zero] at HF2
            have HF3 := hide HF2
            clear HF2 m0 e2 m1
            go_enter Tryz.func54, Tryz.ntmps54
            go_wp2
            go_quiet (fail)
            go_wp2
            go_ret
            exact ⟨ret_bool (by first | exact HF3.out | (rw [← HF3.out]; simp; done)), _, rfl⟩
      · have f1 : decide (inv ≤ D) = false := by simpa using i1
        have HF : Hid (false = R) := hide (by rw [← HR2.out, f1]; rfl)
        clear i1
        by_cases m1 : M = 1
        · subst m1
          have g0 : ((1 : Int) == 1) = true := rfl
          have wD1 : IntKind.i64.wrap (D + 1) = D + 1 := by rw [IntKind.wrap_i64]; omega
          go_enter Tryz.func54, Tryz.ntmps54
          go_wp2
          go_quiet (fail)
          go_wp2
          go_ret
          exact ⟨ret_bool (by first | exact HF.out | (rw [← HF.out]; simp; done)), _, rfl⟩
        · have g0 : (M == 1) = false := by simpa using m1
          have m0 : M = 0 := by omega
          have HF2 := HF.out
          try rw [m0, Int.add_zero] at HF2
          have HF3 := hide HF2
          clear HF2 m0 e2 m1
          go_enter Tryz.func54, Tryz.ntmps54
          go_wp2
          go_quiet (fail)
          go_wp2
          go_ret
          exact ⟨ret_bool (by first | exact HF3.out | (rw [← HF3.out]; simp; done)), _, rfl⟩
end Go.Proofs.YtmiimpmfkjcjlaaGreat

namespace Go.Proofs.YtmiimpmfkjcjlaaGreat
open Go.RowKit
set_option maxRecDepth 100000 in
set_option maxHeartbeats 1000000 in
theorem kwithin_any (v : Value) (k : List Int) (inv resp : Int) (w : World) (h : SlI w v k) (hk : ∀ x ∈ k, (Lit.int .i64 x).wf = true) :
    Calls Tryz.prog 68 #[v, .int .i64 inv, .int .i64 resp] w fun e w' => e = .returned (.bool (withinR k inv resp)) ∧ ∃ m, w' = w.drewN m := by
  obtain ⟨A, cap, rfl, h1, h2, h3⟩ := h
  obtain ⟨R, hR⟩ : ∃ R, withinR k inv resp = R := ⟨_, rfl⟩
  rw [hR]
  have HR := hide hR
  clear hR
  rcases k with _ | ⟨x, t⟩
  · have HF : Hid (false = R) := hide (by rw [← HR.out]; rfl)
    clear h3
    go_enter Tryz.func68, Tryz.ntmps68
    go_wp2
    go_ret
    exact ⟨ret_bool HF.out, 0, rfl⟩
  · obtain ⟨b, o, rfl, hb, hc⟩ := h3 0 x rfl
    have c1 := nt_cell hc
    simp only [Nat.zero_mul, Nat.add_zero] at c1
    obtain ⟨b1, b2⟩ := bounds_i64 (hk x (by simp))
    have hl0 : ((((x :: t).length : Nat) : Int) == 0) = false := by rw [beq_eq_false_iff_ne]; simp; omega
    have hl1 : (0 : Int) < (((x :: t).length : Nat) : Int) := by simp <;> omega
    have hl2 : 0 < (x :: t).length := by simp
    have hl3 : (((x :: t).length : Nat) == 0) = false := by simp
    obtain ⟨n, hn⟩ : ∃ n, (x :: t).length = n := ⟨_, rfl⟩
    rw [hn] at hl0 hl1 hl2 hl3 ⊢
    clear h3 hc hn h1
    by_cases x0 : x < 0
    · have d0 : decide (x < 0) = true := by simpa using x0
      have HF : Hid (false = R) := hide (by rw [← HR.out]; show false = (decide (0 ≤ x) && _); rw [decide_eq_false (show ¬ 0 ≤ x by omega)]; rfl)
      clear x0
      go_enter Tryz.func68, Tryz.ntmps68
      go_wp2
      go_ret
      exact ⟨ret_bool HF.out, 0, rfl⟩
    · have d0 : decide (x < 0) = false := by simpa using x0
      obtain ⟨D, hD⟩ : ∃ D, Int.tdiv x 2 = D := ⟨_, rfl⟩
      obtain ⟨M, hM⟩ : ∃ M, Int.tmod x 2 = M := ⟨_, rfl⟩
      have e1 : x = 2 * D + M := by rw [← hD, ← hM]; have := Int.mul_tdiv_add_tmod x 2; omega
      have e2 : 0 ≤ M ∧ M < 2 := by rw [← hM]; exact ⟨Int.tmod_nonneg _ (by omega), by have := Int.tmod_lt_of_pos x (show (0 : Int) < 2 by decide); omega⟩
      have e3 : 0 ≤ D ∧ D ≤ 4611686018427387904 := by omega
      have wD : IntKind.i64.wrap D = D := by rw [IntKind.wrap_i64]; omega
      have wM : IntKind.i64.wrap M = M := by rw [IntKind.wrap_i64]; omega
      have wDM : IntKind.i64.wrap (D + M) = D + M := by rw [IntKind.wrap_i64]; omega
      have HR2 : Hid ((decide (inv ≤ D) && (decide (resp = 0) || decide (D + M ≤ resp))) = R) := hide (by
        rw [← HR.out]
        show _ = (decide (0 ≤ x) && (decide (inv ≤ Int.tdiv x 2) && (decide (resp = 0) || decide (Int.tdiv x 2 + Int.tmod x 2 ≤ resp))))
        rw [hD, hM, decide_eq_true (show 0 ≤ x by omega)]
        rfl)
      have hx2 : (x.tdiv 2) = D := hD
      have hx3 : (x.tmod 2) = M := hM
      clear hD hM e1 x0
      by_cases i1 : inv ≤ D
      · have f1 : decide (D < inv) = false := by simp; omega
        by_cases r1 : resp = 0
        · have f2 : (resp == 0) = true := by simpa using r1
          have HF : Hid (true = R) := hide (by rw [← HR2.out, decide_eq_true i1, decide_eq_true r1]; rfl)
          clear i1 r1
          go_enter Tryz.func68, Tryz.ntmps68
          go_wp2
          go_quiet (fail)
          go_wp2
          go_ret
          exact ⟨ret_bool (by first | exact HF.out | (rw [← HF.out]; simp; done)), _, rfl⟩
        · have f2 : (resp == 0) = false := by simpa using r1
          have HF : Hid (decide (D + M ≤ resp) = R) := hide (by rw [← HR2.out, decide_eq_true i1, decide_eq_false r1]; rfl)
          clear i1 r1
          go_enter Tryz.func68, Tryz.ntmps68
          go_wp2
          go_quiet (fail)
          go_wp2
          go_ret
          exact ⟨ret_bool (by first | exact HF.out | (rw [← HF.out]; simp; done)), _, rfl⟩
      · have f1 : decide (D < inv) = true := by simp; omega
        have HF : Hid (false = R) := hide (by rw [← HR2.out, decide_eq_false i1]; rfl)
        clear i1
        go_enter Tryz.func68, Tryz.ntmps68
        go_wp2
        go_ret
        exact ⟨ret_bool HF.out, 0, rfl⟩
end Go.Proofs.YtmiimpmfkjcjlaaGreat
