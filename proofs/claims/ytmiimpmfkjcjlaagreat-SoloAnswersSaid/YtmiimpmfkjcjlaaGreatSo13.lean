/- The reference of package solo (roundelayref29): Do: the objects at first. -/
import Derived.Test.YtmiimpmfkjcjlaaGreatBun25
namespace Go.Proofs.YtmiimpmfkjcjlaaGreat
open Go.RowKit
attribute [local go_sem] run_store_fn run_store_nilfn

theorem made_zeroI (W : World) (B N g : Nat) (hg : g = W.heap.size) (hB : B ≤ W.heap.size) (hN : N ≤ maxLen) : IOwn (W.alloc (.cells (madeCells #[.int .i64 0] N) 3)) B (.slice (some ⟨g, 0, none⟩) N N) N (List.replicate N 0) := by
  subst hg
  have := World.ownsRow_lit (base := B) (e := 3) (size := 1) W (madeCells #[.int .i64 0] N) N hB hN (by simp [madeCells])
  have hl : (madeCells #[Value.int .i64 0] N).toList = List.replicate N (.int .i64 0) := by
    unfold madeCells
    apply List.ext_getElem?
    intro i
    simp [List.getElem?_replicate]
    by_cases h : i < N
    · simp [h, Nat.mod_one]
    · simp [h]
  rw [hl] at this
  show World.ownsRow _ _ _ _ _ _ _
  rw [List.map_replicate]
  exact this
/-- The numbers as they are laid: at first -1. -/
def firstL (m k : Nat) : List Int := List.replicate k (-1) ++ List.replicate (m - k) 0
theorem firstL_len {m k : Nat} (h : k ≤ m) : (firstL m k).length = m := by unfold firstL; simp; omega
theorem firstL_set {m k : Nat} (h : k < m) : (firstL m k).set k (-1) = firstL m (k + 1) := by
  unfold firstL
  rw [List.set_append, if_neg (by simp), List.length_replicate, Nat.sub_self, show m - k = (m - (k + 1)) + 1 by omega, List.replicate_succ, List.set_cons_zero, List.replicate_succ', List.append_assoc]
  rfl
theorem firstL_zero (m : Nat) : firstL m 0 = List.replicate m 0 := by unfold firstL; simp
theorem firstL_all (m : Nat) : firstL m m = List.replicate m (-1) := by unfold firstL; simp

def RDoPost (n : Int) (specs : List Sp) (calls : List Cl) (w : World) (e : Ending) (w' : World) : Prop :=
  ∃ va vs an ps, e = .returned (.agg #[va, vs]) ∧ AnRow w' w.heap.size va an ∧ an.map Prod.fst = (soRun n specs calls).2 ∧ StRow w' w.heap.size vs ps ∧ ps.map Prod.fst = (soRun n specs calls).1.1 ∧ Below w.heap.size w w'
set_option maxRecDepth 100000 in
set_option maxHeartbeats 2000000 in
theorem rdo_any (n : Int) (As Ac : Option Addr) (ms cs mc cc : Nat) (specs : List Sp) (calls : List Cl) (w : World) (hs : SlSp w (.slice As ms cs) specs) (hms : specs.length = ms) (hc : SlCl w (.slice Ac mc cc) calls) (hmc : calls.length = mc) (hu : ∀ c ∈ calls, U64 c.a ∧ U64 c.b ∧ U64 c.c) (h0 : soloE n specs calls = 0) :
    Calls Tryz.prog 21 #[.int .i64 n, .slice As ms cs, .slice Ac mc cc] w (RDoPost n specs calls w) := by
  obtain ⟨hl8, hok, hl1000, hth⟩ := soloE_parts h0
  have HC := hide hc
  have HS := hide hs
  have HMC := hide hmc
  have HMS := hide hms
  have HCL : Hid (∀ c ∈ calls, ClOk n c) := hide (fun c hc => ⟨(hth c hc).1, (hth c hc).2, hu c hc⟩)
  have HRUN : Hid (∀ k, k ≤ calls.length → SoOk n specs k (soRun n specs (calls.take k))) := hide (soOk_run hok HCL.out)
  have HOKS := hide hok
  have hmc1 : (mc : Int) ≤ 1000 := by omega
  have hms1 : (ms : Int) ≤ 8 := by omega
  have HL8 := hide hl8
  have HL1 := hide hl1000
  have hmk := run_make_row' (P := Tryz.prog) 42 3 (.int .i64 0) 8 Tryz.underlying42 info_int rfl .i64 .i64 ms (by omega) (by omega) ((w.alloc (.cells #[.slice none 0 0, .slice none 0 0] 53)).alloc (.cells #[.slice none 0 0, .slice none 0 0] 53))
  clear hs hc hms hmc hok hl8 hl1000 hth hu h0
  go_enter Tryz.func21, Tryz.ntmps21
  go_wp2
  clear hmk
  go_loopw [22] (fun i wr => ∃ k : Nat, k ≤ ms ∧ i = .int .i64 k ∧ ∃ vs ps, Hid (RDo wr w.heap.size (.slice none 0 0) vs [] ps (.slice (some ⟨w.heap.size + 2, 0, none⟩) ms ms) (firstL ms k)) ∧ Hid (ps.map Prod.fst = (specs.take k).map (newM n)) ∧ Hid (Below w.heap.size w wr)) (fun i _ => ms - (intOf i).toNat)
  case atStart =>
    refine ⟨0, Nat.zero_le _, rfl, .slice none 0 0, [], hide ⟨?_, ?_, ob_nil _ _, ob_nil _ _, ?_⟩, hide rfl, hide (by (repeat' (first | with_reducible assumption | with_reducible exact Below.refl _ _ | with_reducible refine Below.drew ?_ | with_reducible refine below_drewN ?_ _ | with_reducible refine Below.alloc ?_ ?_ _ | with_reducible refine Below.setCell ?_ ?_ _ | omega | (simp; done) | (simp; omega))))⟩
    · exact (heap_alloc_old _ _ (by simp; omega)).trans ((heap_alloc_old _ _ (by simp)).trans (heap_alloc_new w _))
    · have h := heap_alloc_new (w.alloc (.cells #[.slice none 0 0, .slice none 0 0] 53)) (.cells #[.slice none 0 0, .slice none 0 0] 53)
      exact (heap_alloc_old _ _ (by simp)).trans (by simpa using h)
    · rw [firstL_zero, List.length_replicate]
      exact made_zeroI _ _ ms _ (by simp) (by simp; omega) (by unfold maxLen; omega)
  case round =>
    obtain ⟨k, hk, rfl, vs, ps, hD, hPs, hB⟩ := hrel
    obtain ⟨vA, vc, rfl, _⟩ := ob_len stEn_len hD.out.st
    by_cases hlt : k < ms
    · have hsl := HS.out.below hB.out (Nat.le_refl _)
      obtain ⟨sp, hsp⟩ : ∃ sp, specs[k]? = some sp := ⟨_, List.getElem?_eq_getElem (by have := HMS.out; omega)⟩
      obtain ⟨A', c', e', _, _, h3⟩ := hsl
      obtain ⟨gs, os, hA, hgs, hcc⟩ := h3 k sp hsp
      cases e'
      subst hA
      obtain ⟨x0, x1, x2⟩ := spec_cells hcc
      have q0 : (0 : Int) ≤ (k : Int) := by omega
      have q1 : (k : Int) < (specs.length : Int) := by have := HMS.out; omega
      have hzr := hB.out.size
      have hgs0 : gs < w.heap.size := by
        obtain ⟨_, _, e2, _, _, g3⟩ := HS.out
        obtain ⟨b2, o2, hA2, hb2, _⟩ := g3 k sp hsp
        cases e2
        cases hA2
        exact hb2
      have hE0 := HOKS.out sp (List.mem_of_getElem? hsp)
      have NN := fun W => refNew27 n sp W hE0
      unfold RNewPost at NN
      have hnl := newM_len n sp hE0
      have HANS : Hid (specs.take (k + 1) = specs.take k ++ [sp]) := hide (by rw [List.take_add_one, hsp]; rfl)
      have hplen : ps.length = k := by
        have h := congrArg List.length hPs.out
        have := HMS.out
        simp at h
        omega
      obtain ⟨NM, hNM⟩ : ∃ X, newM n sp = X := ⟨_, rfl⟩
      rw [hNM] at NN hnl
      have HNM := hide hNM
      have HPL := hide hplen
      have hgo := (Array.getElem?_eq_some_iff.1 hD.out.out).1
      have a1 := cell_of_row _ _ 1 _ _ _ hD.out.out
      have fo := frozen_of_row _ _ 1 _ _ hD.out.out
      have HNN := hide NN
      clear h3 hcc hsp hE0 hplen hNM NN
      go_wp2_with fail
      refine wp_region_seql (fun wS => wS.cell? ⟨w.heap.size + 1, 1, none⟩ = some (.slice vA ps.length vc) ∧ wS.frozen? ⟨w.heap.size + 1, 1, none⟩ = false ∧ wS.cell? ⟨gs, os + k * 3, none⟩ = some (.int .i64 sp.kind) ∧ wS.cell? ⟨gs, os + k * 3 + 1, none⟩ = some (.int .i64 sp.p) ∧ wS.cell? ⟨gs, os + k * 3 + 2, none⟩ = some (.int .i64 sp.q)) [11] (.take 0 <| .take 1 <| .take 2 <| .take 3 <| .take 4 <| .take 5 <| .take 6 <| .run 7 <| .run 8 <| .run 9 <| .take 10 <| .run 11 <| .done) (by kernel_rfl) (by kernel_rfl) (by kernel_rfl) ⟨a1, fo, x0, x1, x2⟩ ?_
      repeat (refine seql_take (v := ?_) rfl (by rfl) ?_ ?_; rotate_left; (focus (intro wS hS; obtain ⟨z1, z2, z3, z4, z5⟩ := hS; go_simp; exact rfl)); simp only [Act.put, List.setIfInBounds_toArray, List.set_cons_zero, List.set_cons_succ])
      refine seql_run rfl (by rfl) (fun K hK => ?_)
      go_simp
      (with_reducible refine (HNN.out _).mono ?_)
      rintro e w2 ⟨u, rfl, hO2, hb2⟩
      obtain ⟨A2, c2, rfl⟩ := own_slice hO2
      have hB2 : Below wr.heap.size wr w2 := (Below.refl _ _).drew.trans (hb2.mono (by simp))
      have hD2 := hD.out.below hB2
      have HS2 : Hid (∀ W' : World, W'.heap[w.heap.size + 1]? = w2.heap[w.heap.size + 1]? → W'.heap[gs]? = w2.heap[gs]? → W'.cell? ⟨w.heap.size + 1, 1, none⟩ = some (.slice vA ps.length vc) ∧ W'.frozen? ⟨w.heap.size + 1, 1, none⟩ = false ∧ W'.cell? ⟨gs, os + k * 3, none⟩ = some (.int .i64 sp.kind) ∧ W'.cell? ⟨gs, os + k * 3 + 1, none⟩ = some (.int .i64 sp.p) ∧ W'.cell? ⟨gs, os + k * 3 + 2, none⟩ = some (.int .i64 sp.q)) := hide (fun W' e1 e2 =>
        ⟨(World.cell?_of_block (a := ⟨w.heap.size + 1, 1, none⟩) e1).trans ((hB2.cell (p := ⟨w.heap.size + 1, 1, none⟩) hgo).trans a1), (World.frozen?_of_block (a := ⟨w.heap.size + 1, 1, none⟩) e1).trans ((hB2.frozen (p := ⟨w.heap.size + 1, 1, none⟩) hgo).trans fo), (World.cell?_of_block (a := ⟨gs, os + k * 3, none⟩) e2).trans ((hB2.cell (p := ⟨gs, os + k * 3, none⟩) hgs).trans x0), (World.cell?_of_block (a := ⟨gs, os + k * 3 + 1, none⟩) e2).trans ((hB2.cell (p := ⟨gs, os + k * 3 + 1, none⟩) hgs).trans x1), (World.cell?_of_block (a := ⟨gs, os + k * 3 + 2, none⟩) e2).trans ((hB2.cell (p := ⟨gs, os + k * 3 + 2, none⟩) hgs).trans x2)⟩)
      have hz2 := hB2.size
      have HD2 := hide hD2
      have HBX : Hid (Below w.heap.size w w2) := hide (hB.out.trans (hB2.mono hzr))
      have HO2 := hide hO2
      clear a1 fo x0 x1 x2 hD2 hb2 hO2
      refine hK _ _ (HS2.out _ rfl rfl) ?_
      clear hK K
      repeat (refine seql_take (v := ?_) rfl (by rfl) ?_ ?_; rotate_left; (focus (intro wS hS; obtain ⟨z1, z2, z3, z4, z5⟩ := hS; go_simp; exact rfl)); simp only [Act.put, List.setIfInBounds_toArray, List.set_cons_zero, List.set_cons_succ])
      refine seql_run rfl (by rfl) (fun K hK => ?_)
      go_simp
      refine hK _ _ (HS2.out _ (heap_alloc_old _ _ (by omega)) (heap_alloc_old _ _ (by omega))) ?_
      clear hK K
      refine seql_run rfl (by rfl) (fun K hK => ?_)
      refine wp_ob_push _ _ rfl info_slw Tryz.underlying51 rfl (by decide) (by decide) (by decide) HD2.out.st rfl rfl rfl (NM, A2, c2) rfl rfl (by simp [stEn, Value.oneCell']) (wown_sl HO2.out) (tw_own HO2.out) (by have := HPL.out; omega) (by omega) ?_
      intro v5 w5 hSt5 hk5
      have ho5 := hk5.block (w.heap.size + 1) ⟨by omega, own_ne HD2.out.st.1 HD2.out.out (by decide)⟩
      have hg5 := hk5.block gs ⟨by omega, fun e => by have := (HD2.out.st.1.lt gs e.symm).1; omega⟩
      refine hK _ _ (HS2.out _ ho5 hg5) ?_
      clear hK K
      obtain ⟨a1, fo, _⟩ := HS2.out _ ho5 hg5
      obtain ⟨vA5, vc5, rfl, _⟩ := ob_len stEn_len hSt5
      have HD5 := hide (HD2.out.pushS hSt5 hk5)
      have HB5 : Hid (Below w.heap.size w w5) := hide (HBX.out.trans (hk5.below (fun j hj => ⟨by have := HBX.out.size; omega, fun e => by have := (HD2.out.st.1.lt j e.symm).1; omega⟩)))
      have hz5 := hk5.size
      clear hSt5 hk5 ho5 hg5
      repeat (refine seql_take (v := ?_) rfl (by rfl) ?_ ?_; rotate_left; (focus (intro wS hS; go_simp; exact rfl)); simp only [Act.put, List.setIfInBounds_toArray, List.set_cons_zero, List.set_cons_succ])
      refine seql_late rfl rfl (by rfl) (fun K hK => ?_)
      go_simp
      refine hK _ _ ?_
      clear hK K
      refine seql_nil ?_
      have hd5 := HD5.out
      rw [List.length_append] at hd5
      simp only [List.length_cons, List.length_nil, Nat.zero_add] at hd5
      obtain ⟨W6, hW6⟩ : ∃ W6, W6 = w5.setCell ⟨w.heap.size + 1, 1, none⟩ (.slice vA5 (ps.length + 1) vc5) := ⟨_, rfl⟩
      rw [← hW6] at hd5 ⊢
      have HB6 : Hid (Below w.heap.size w W6) := hide (by rw [hW6]; have hq := HB5.out; (repeat' (first | with_reducible assumption | with_reducible exact Below.refl _ _ | with_reducible refine Below.drew ?_ | with_reducible refine below_drewN ?_ _ | with_reducible refine Below.alloc ?_ ?_ _ | with_reducible refine Below.setCell ?_ ?_ _ | omega | (simp; done) | (simp; omega))))
      have hfl : (firstL specs.length k).length = specs.length := firstL_len hk
      obtain ⟨y, hy⟩ : ∃ y, (firstL specs.length k)[k]? = some y := ⟨_, List.getElem?_eq_getElem (by omega)⟩
      obtain ⟨l0, lf, lz, _⟩ := hd5.cellL hy
      have HD6 := hide (hd5.setL (k := k) (t := -1) hfl.symm)
      have q2 : k < specs.length := hlt
      have q3 : (k : Int) < (specs.length : Int) := by omega
      clear hd5 hW6 HD5 HB5 a1 fo hfl hy
      go_wp2
      go_roundw
      case rel =>
        refine ⟨k + 1, by omega, by go_num, _, ps ++ [(NM, A2, c2)], hide (by rw [← firstL_set q2]; exact HD6.out), hide (by rw [List.map_append, hPs.out, HANS.out, List.map_append]; simp [HNM.out]), hide ?_⟩
        have hq := HB6.out
        (repeat' (first | with_reducible assumption | with_reducible exact Below.refl _ _ | with_reducible refine Below.drew ?_ | with_reducible refine below_drewN ?_ _ | with_reducible refine Below.alloc ?_ ?_ _ | with_reducible refine Below.setCell ?_ ?_ _ | omega | (simp; done) | (simp; omega)))
      case measure => first | (simp [intOf]; done) | (simp [intOf]; omega)
    · have hkk : k = ms := by omega
      have hps0 : ps.map Prod.fst = (soRun n specs (calls.take 0)).1.1 := by
        rw [hPs.out, List.take_of_length_le (by have := HMS.out; omega)]
        rfl
      have hl0 : (firstL ms k) = ((soRun n specs (calls.take 0)).1.2.map IntKind.i64.wrap) := by
        rw [hkk, firstL_all, soRun_zero]
        show _ = (specs.map fun _ => (-1 : Int)).map IntKind.i64.wrap
        have := HMS.out
        rw [List.map_map]
        apply List.ext_getElem?
        intro i
        rw [List.getElem?_replicate, List.getElem?_map]
        by_cases hi : i < ms
        · rw [if_pos hi, List.getElem?_eq_getElem (by omega)]
          rfl
        · rw [if_neg hi, List.getElem?_eq_none (by omega)]
          rfl
      have hd0 := hD.out
      rw [hl0] at hd0
      have HD0 := hide hd0
      have HPS0 := hide hps0
      have d9 : decide ((k : Int) < (ms : Int)) = false := by simp; omega
      have d8 : decide (k < ms) = false := by simp; omega
      obtain ⟨w1, rfl⟩ : ∃ w1, w1 = wr := ⟨_, rfl⟩
      have HB0 := hB
      clear hkk hd0 hps0 hl0 hD hPs hlt hB
      go_wp2
      go_loopw [42] (fun i wr => ∃ k : Nat, k ≤ mc ∧ i = .int .i64 k ∧ ∃ va vs an ps, Hid (RDo wr w.heap.size va vs an ps (.slice (some ⟨w.heap.size + 2, 0, none⟩) ms ms) ((soRun n specs (calls.take k)).1.2.map IntKind.i64.wrap)) ∧ Hid (ps.map Prod.fst = (soRun n specs (calls.take k)).1.1) ∧ Hid (an.map Prod.fst = (soRun n specs (calls.take k)).2) ∧ Hid (Below w.heap.size w wr)) (fun i _ => mc - (intOf i).toNat)
      case atStart => exact ⟨0, Nat.zero_le _, rfl, _, _, [], ps, HD0, HPS0, hide rfl, HB0⟩
      case round =>
        obtain ⟨k, hk, rfl, va, vs, an, ps, hD, hPs, hAn, hB⟩ := hrel
        obtain ⟨vA, vc, rfl, _⟩ := ob_len stEn_len hD.out.st
        obtain ⟨oA, oc', rfl, _⟩ := ob_len anEn_len hD.out.an
        by_cases hlt : k < mc
        · have hcl := HC.out.below hB.out (Nat.le_refl _)
          obtain ⟨c, hc⟩ : ∃ c, calls[k]? = some c := ⟨_, List.getElem?_eq_getElem (by have := HMC.out; omega)⟩
          obtain ⟨A', c', e', _, _, h3⟩ := hcl
          obtain ⟨bc, oc, hA, hbc, hcc⟩ := h3 k c hc
          cases e'
          subst hA
          obtain ⟨x0, x1, x2, x3, x4, x5⟩ := cl_cells hcc
          have q0 : (0 : Int) ≤ (k : Int) := by omega
          have q1 : (k : Int) < (calls.length : Int) := by have := HMC.out; omega
          have hzr := hB.out.size
          have HCK := hide hc
          have HCO := hide (HCL.out c (List.mem_of_getElem? hc))
          clear h3 hcc hc
          obtain ⟨W, hW⟩ : ∃ W, W = wr.alloc (.cells #[.int .i64 c.thread, .int .i64 c.obj, .int .i64 c.kind, .int .u64 c.a, .int .u64 c.b, .int .u64 c.c] 27) := ⟨_, rfl⟩
          have hBW : Below wr.heap.size wr W := by rw [hW]; exact (Below.refl _ _).alloc (Nat.le_refl _) _
          have HCW : Hid (W.heap[wr.heap.size]? = some (.cells #[.int .i64 c.thread, .int .i64 c.obj, .int .i64 c.kind, .int .u64 c.a, .int .u64 c.b, .int .u64 c.c] 27 (0, 0))) := hide (by rw [hW]; exact heap_alloc_new _ _)
          have HDW := hide (hD.out.below hBW)
          have HBW : Hid (Below w.heap.size w W) := hide (hB.out.trans (hBW.mono hzr))
          have hal : an.length = k := by
            have h := congrArg List.length hAn.out
            rw [List.length_map, (HRUN.out k (by have := HMC.out; omega)).l3] at h
            exact h
          have HAL := hide hal
          clear hal
          by_cases ho : 0 ≤ c.obj ∧ c.obj < specs.length
          · obtain ⟨o, hco⟩ := Int.eq_ofNat_of_zero_le ho.1
            have hX := HRUN.out k (by have := HMC.out; omega)
            have hpl : ps.length = specs.length := by have := hX.l1; rw [← hPs.out] at this; simpa using this
            have hll := hX.l2
            obtain ⟨s, hsp⟩ : ∃ s, specs[o]? = some s := ⟨_, List.getElem?_eq_getElem (by omega)⟩
            obtain ⟨p, hp⟩ : ∃ p, ps[o]? = some p := ⟨_, List.getElem?_eq_getElem (by omega)⟩
            obtain ⟨t, ht⟩ : ∃ t, (soRun n specs (calls.take k)).1.2[o]? = some t := ⟨_, List.getElem?_eq_getElem (by omega)⟩
            have hxp : (soRun n specs (calls.take k)).1.1[o]? = some p.1 := by rw [← hPs.out, List.getElem?_map, hp]; rfl
            obtain ⟨g1, g2, g3⟩ := hX.st o p.1 s hxp hsp
            have htu := hX.lt t (List.mem_of_getElem? ht)
            obtain ⟨gr, rcap, hv, hBr, hgr, hcur, hcr, hsl, htw⟩ := ob_get stEn_len HDW.out.st hp
            cases hv
            have r0 := hcr 0 _ rfl
            simp only [Nat.mul_one, Nat.add_zero] at r0
            obtain ⟨st, pA, pc⟩ := p
            simp only at g1 g2 g3 hxp
            obtain ⟨_, _, e2, _, _, g4⟩ := HS.out
            obtain ⟨gs, os, hA2, hgs, hcc2⟩ := g4 o s hsp
            cases e2
            subst hA2
            obtain ⟨s0, s1, s2⟩ := spec_cells hcc2
            replace s0 := (HBW.out.cell (p := ⟨gs, os + o * 3, none⟩) hgs).trans s0
            replace s1 := (HBW.out.cell (p := ⟨gs, os + o * 3 + 1, none⟩) hgs).trans s1
            replace s2 := (HBW.out.cell (p := ⟨gs, os + o * 3 + 2, none⟩) hgs).trans s2
            have NA := fun W' (h : SlW W' (.slice pA st.length pc) st) => rapply_any n s c pA st.length pc st W' h (by omega) g1 HCO.out.1 HCO.out.2.1 HCO.out.2.2.1 HCO.out.2.2.2.1 g2
            have HEV : Hid (s.kind = 8 → st.length % 2 = 0) := hide (fun h8 => by
              unfold rightM at g1
              simp only [Bool.and_eq_true, decide_eq_true_eq] at g1
              have := g1.2
              unfold shapeM at this
              rw [if_neg (by omega), if_pos h8] at this
              simpa using this)
            have HRNE := hide (fun (h8 : s.kind = 8) (hE : (applyM n s st c).2.err = 0) (hk : c.kind = 1) => show ∃ y, st[0]? = some y from by
              rcases st with _ | ⟨y, l⟩
              · exfalso
                unfold applyM at hE
                rw [if_neg (by rw [g1]; have := HCO.out; simp; exact ⟨this.1, this.2.1⟩), if_neg (by rw [h8, hk]; show ¬ ¬ ((0 : Int) ≤ 1 ∧ (1 : Int) < 2); decide)] at hE
                unfold actM at hE
                rw [if_neg (by omega), if_neg (by omega), if_neg (by omega), if_neg (by omega), if_neg (by omega), if_neg (by omega), if_neg (by omega), if_pos h8] at hE
                unfold queueM at hE
                rw [if_neg (by omega), if_neg (by omega), if_pos (show ([] : List Int).length = 0 from rfl)] at hE
                cases hE
              · exact ⟨y, rfl⟩)
            have hn100 : c.thread < 100 := by have := HCO.out.2.1; unfold rightM at g1; simp only [Bool.and_eq_true, decide_eq_true_eq] at g1; have := (sizeE_zero g1.1).1; omega
            have hth0 : 0 ≤ c.thread := HCO.out.1
            have NOWN := hide (fun W' (h : SlW W' (.slice pA st.length pc) st) (he : st.length % 2 = 0) => rown_any c.thread pA st.length pc st W' h rfl (by omega) he hth0 hn100)
            have hown : ((ownN st c.thread : Nat) : Int) ≤ 10000 := by
              have := own_le st c.thread (st.length / 2)
              unfold ownN
              omega
            have hrun := soRun_succ (n := n) (specs := specs) HCK.out
            unfold soStep at hrun
            rw [soDo_in hco hsp hxp ht] at hrun
            have HU := hide g2
            obtain ⟨R, hRR⟩ : ∃ R, applyM n s st c = R := ⟨_, rfl⟩
            unfold RPost clV at NA
            rw [hco] at NA
            rw [hRR] at NA HRNE hrun
            obtain ⟨R1, E, V, R3⟩ := R
            simp only [] at NA HRNE hrun
            obtain ⟨RES, hRES⟩ : ∃ RES, (if s.kind = 8 ∧ E = 0 ∧ c.kind = 0 ∧ s.p ≤ (ownN st c.thread : Nat) + (if t = c.thread then 1 else 0) then (((soRun n specs (calls.take k)).1.1, (soRun n specs (calls.take k)).1.2), anE 6) else
              if s.kind = 8 ∧ E = 0 ∧ c.kind = 1 then (((soRun n specs (calls.take k)).1.1.set o R1, (soRun n specs (calls.take k)).1.2.set o (at0 st 0)), (⟨E, V, R3⟩ : An)) else (((soRun n specs (calls.take k)).1.1.set o R1, (soRun n specs (calls.take k)).1.2), ⟨E, V, R3⟩)) = RES := ⟨_, rfl⟩
            rw [hRES] at hrun
            have HRS := hide hrun
            have HRES := hide hRES
            have HNA := hide NA
            have HSL := hide hsl
            have HTU := hide htu
            have HCOB := hide hco
            have HLT := hide (show (((soRun n specs (calls.take k)).1.2.map IntKind.i64.wrap))[o]? = some (IntKind.i64.wrap t) from by rw [List.getElem?_map, ht]; rfl)
            have HLL := hide (show ((soRun n specs (calls.take k)).1.2.map IntKind.i64.wrap).length = specs.length by rw [List.length_map]; exact hll)
            have hzW := hBW.size
            obtain ⟨c0, c1, c2, c3, c4, c5, cz⟩ := cells6 HCW.out
            have oz := HDW.out.lt
            have a1 : W.cell? ⟨w.heap.size + 1, 1, none⟩ = some (.slice (some ⟨gr, 0, none⟩) ps.length vc) := cell_of_row _ _ 1 _ _ _ HDW.out.out
            have gz := hgr
            have sz : gs < W.heap.size := by have := HBW.out.size; omega
            have p0 : (0 : Int) ≤ (o : Int) := by omega
            have p1 : (o : Int) < (ps.length : Int) := by omega
            have p2 : (o : Int) < (specs.length : Int) := by omega
            have p3 : o < ps.length := by omega
            have p4 : o < specs.length := by omega
            have d0 : decide (specs.length ≤ o) = false := by simp; omega
            have d1 : decide ((specs.length : Int) ≤ (o : Int)) = false := by simp; omega
            have c1o : W.cell? ⟨wr.heap.size, 1, none⟩ = some (.int .i64 (o : Int)) := by rw [← hco]; exact c1
            have e0 : decide (c.obj < 0) = false := by simp; omega
            have e1 : decide ((specs.length : Int) ≤ c.obj) = false := by simp; omega
            have HBWW := hide hBW
            have HHI := hide (show w.heap.size ≤ gr from hBr)
            clear hpl hll hsp hp ht hxp g1 g2 g3 htu hcur hcr hsl htw g4 hcc2 NA hrun hRES hRR hX hco ho hgs hBr hBW hgr
            go_wp2_with fail
            rw [← hW]
            clear hW
            go_upto_region 17 with fail
            go_cut [12, 13] (fun v12 v13 wx => v12 = .pointer (some ⟨W.heap.size, 0, none⟩) ∧ v13 = .slice pA st.length pc ∧ Hid (wx.heap[W.heap.size]? = some (.cells #[.int .i64 s.kind, .int .i64 s.p, .int .i64 s.q] 23 (0, 0))) ∧ Hid (Below W.heap.size W wx))
            case first =>
              refine wp_region_seq (Below W.heap.size W) (.take 0 <| .take 1 <| .take 2 <| .take 3 <| .take 4 <| .take 5 <| .take 6 <| .take 7 <| .take 8 <| .take 9 <| .take 10 <| .run 11 <| .run 12 <| .take 13 <| .done) (by kernel_rfl) (by kernel_rfl) (by kernel_rfl) (by (repeat' (first | with_reducible assumption | with_reducible exact Below.refl _ _ | with_reducible refine Below.drew ?_ | with_reducible refine below_drewN ?_ _ | with_reducible refine Below.alloc ?_ ?_ _ | with_reducible refine Below.setCell ?_ ?_ _ | omega | (simp; done) | (simp; omega)))) ?_
              repeat (refine seq_take (v := ?_) rfl (by rfl) ?_ ?_; rotate_left; (focus (intro wS hS; have z1 := (hS.cell (p := ⟨w.heap.size + 1, 1, none⟩) oz).trans a1; have y1 := (hS.cell (p := ⟨wr.heap.size, 1, none⟩) cz).trans c1o; have k0 := (hS.cell (p := ⟨gr, o, none⟩) gz).trans r0; have k1 := (hS.cell (p := ⟨gs, os + o * 3, none⟩) sz).trans s0; have k2 := (hS.cell (p := ⟨gs, os + o * 3 + 1, none⟩) sz).trans s1; have k3 := (hS.cell (p := ⟨gs, os + o * 3 + 2, none⟩) sz).trans s2; go_simp; exact rfl)); simp only [Act.put, List.setIfInBounds_toArray, List.set_cons_zero, List.set_cons_succ])
              refine seq_run rfl (by rfl) (fun K hK => ?_)
              go_simp
              refine hK _ _ (by (repeat' (first | with_reducible assumption | with_reducible exact Below.refl _ _ | with_reducible refine Below.drew ?_ | with_reducible refine below_drewN ?_ _ | with_reducible refine Below.alloc ?_ ?_ _ | with_reducible refine Below.setCell ?_ ?_ _ | omega | (simp; done) | (simp; omega)))) ?_
              clear hK K
              refine seq_run rfl (by rfl) (fun K hK => ?_)
              go_simp
              refine hK _ _ (by (repeat' (first | with_reducible assumption | with_reducible exact Below.refl _ _ | with_reducible refine Below.drew ?_ | with_reducible refine below_drewN ?_ _ | with_reducible refine Below.alloc ?_ ?_ _ | with_reducible refine Below.setCell ?_ ?_ _ | omega | (simp; done) | (simp; omega)))) ?_
              clear hK K
              repeat (refine seq_take (v := ?_) rfl (by rfl) ?_ ?_; rotate_left; (focus (intro wS hS; have z1 := (hS.cell (p := ⟨w.heap.size + 1, 1, none⟩) oz).trans a1; have y1 := (hS.cell (p := ⟨wr.heap.size, 1, none⟩) cz).trans c1o; have k0 := (hS.cell (p := ⟨gr, o, none⟩) gz).trans r0; have k1 := (hS.cell (p := ⟨gs, os + o * 3, none⟩) sz).trans s0; have k2 := (hS.cell (p := ⟨gs, os + o * 3 + 1, none⟩) sz).trans s1; have k3 := (hS.cell (p := ⟨gs, os + o * 3 + 2, none⟩) sz).trans s2; go_simp; exact rfl)); simp only [Act.put, List.setIfInBounds_toArray, List.set_cons_zero, List.set_cons_succ])
              refine seq_nil ?_
              go_wp2
              go_meet
              exact ⟨rfl, rfl, hide (heap_alloc_new _ _), hide (by (repeat' (first | with_reducible assumption | with_reducible exact Below.refl _ _ | with_reducible refine Below.drew ?_ | with_reducible refine below_drewN ?_ _ | with_reducible refine Below.alloc ?_ ?_ _ | with_reducible refine Below.setCell ?_ ?_ _ | omega | (simp; done) | (simp; omega))))⟩
            case rest =>
              obtain ⟨rfl, rfl, HSX, HBX⟩ := hcut
              obtain ⟨X, rfl⟩ : ∃ X, X = wc := ⟨_, rfl⟩
              have hzx := HBX.out.size
              have HDX := hide (HDW.out.below HBX.out)
              have HCX := hide ((HBX.out.block _ cz).trans HCW.out)
              have HSLX := hide (HSL.out.below HBX.out (Nat.le_refl _))
              have HBXX : Hid (Below w.heap.size w X) := hide (HBW.out.trans (HBX.out.mono HBW.out.size))
              have hgrX : gr < X.heap.size := by omega
              have r0X := (HBX.out.cell (p := ⟨gr, o, none⟩) gz).trans r0
              have hxb := HBXX.out.size
              have hbw := HBW.out.size
              clear c0 c1 c2 c3 c4 c5 c1o s0 s1 s2 a1 r0 gz sz
              obtain ⟨c0, c1, c2, c3, c4, c5, cz'⟩ := cells6 HCX.out
              rw [HCOB.out] at c1
              obtain ⟨s0, s1, s2, _, _, _, xz⟩ := cells3 HSX.out
              have hres := HRES.out
              by_cases h8 : s.kind = 8
              · have e8 : (s.kind == 8) = true := by simpa using h8
                have H8 := hide h8
                by_cases hk0 : c.kind = 0
                · have ek0 : (c.kind == 0) = true := by simpa using hk0
                  have ek1 : (c.kind == 1) = false := by simp; omega
                  by_cases hE : E = 0
                  · have eE : (E == 0) = true := by simpa using hE
                    have htw : t = c.thread ↔ IntKind.i64.wrap t = c.thread := by
                      rw [IntKind.wrap_i64]
                      rcases HTU.out with h | ⟨h, h'⟩ <;> omega
                    by_cases htt : t = c.thread
                    · have ett : (IntKind.i64.wrap t == c.thread) = true := by simpa using htw.1 htt
                      rw [if_pos htt] at hres
                      by_cases hF : s.p ≤ (ownN st c.thread : Nat) + 1
                      · rw [if_pos ⟨h8, hE, hk0, hF⟩] at hres
                        have eF : decide (s.p ≤ (ownN st c.thread : Nat) + 1) = true := by simpa using hF
                        subst hres
                        clear HRES h8 hk0 hE htw htt hF
                        go_wp2_with fail
                        (with_reducible refine (HNA.out _ HSLX.out).mono ?_)
                        rintro e w3 ⟨v5, L5, rfl, hs5, hL5, hb3, ht5, ht6⟩
                        obtain ⟨A5, c5', rfl, _⟩ := id hs5
                        obtain ⟨A6, c6, rfl, _⟩ := id hL5
                        have hz3 := hb3.size
                        have HB3 := hide hb3
                        have HS5 := hide hs5
                        have HL5 := hide hL5
                        have HT5 := hide ht5
                        have HT6 := hide ht6
                        have HD3 := hide (HDX.out.below hb3)
                        have HBW3 : Hid (Below w.heap.size w w3) := hide (HBXX.out.trans (hb3.mono hxb))
                        have HC3 := hide ((hb3.block _ cz').trans HCX.out)
                        have HSP3 := hide ((hb3.block _ xz).trans HSX.out)
                        have HSL3 := hide (HSLX.out.below hb3 (Nat.le_refl _))
                        have r0 := (hb3.cell (p := ⟨gr, o, none⟩) hgrX).trans r0X
                        clear c0 c1 c2 c3 c4 c5 s0 s1 s2 hs5 hL5 hb3 ht5 ht6 r0X HNA
                        obtain ⟨c0, c1, c2, c3, c4, c5, cz⟩ := cells6 HC3.out
                        rw [HCOB.out] at c1
                        obtain ⟨s0, s1, s2, _, _, _, sz⟩ := cells3 HSP3.out
                        have fr : w3.frozen? ⟨gr, o, none⟩ = false := World.ownsRow.frozenAt HD3.out.st.1 o
                        have gz : gr < w3.heap.size := by omega
                        have a0 : w3.cell? ⟨w.heap.size + 1, 0, none⟩ = some (.slice oA an.length oc') := cell_of_row _ _ 0 _ _ _ HD3.out.out
                        have a1 : w3.cell? ⟨w.heap.size + 1, 1, none⟩ = some (.slice (some ⟨gr, 0, none⟩) ps.length vc) := cell_of_row _ _ 1 _ _ _ HD3.out.out
                        have oz3 := HD3.out.lt
                        obtain ⟨l0, lf, lz, _⟩ := HD3.out.cellL HLT.out
                        have hg3 : gr ≠ w3.heap.size := by omega
                        have hg4 : ¬ w3.heap.size = gr := by omega
                        obtain ⟨curS, hcurS⟩ : ∃ cur, w3.heap[gr]? = some (.cells cur 24 (0, 0)) := by
                          rcases HD3.out.st.1.2 with ⟨e, _⟩ | ⟨g', cap', cur, e, _, hg, _⟩
                          · cases e
                          · cases e; exact ⟨_, hg⟩
                        have hg5 : gr ≠ w.heap.size + 1 := by intro e; have := HD3.out.out; rw [← e, hcurS] at this; cases this
                        have hg6 : ¬ w.heap.size + 1 = gr := fun e => hg5 e.symm
                        have hg7 : ¬ wr.heap.size = gr := by intro e; have := HC3.out; rw [e, hcurS] at this; cases this
                        have hg8 : ¬ W.heap.size = gr := by intro e; have := HSP3.out; rw [e, hcurS] at this; cases this
                        have HDT := hide (HD3.out.below ((Below.refl _ w3).alloc (Nat.le_refl _) (.cells #[.int .i64 E, .int .u64 V, .slice A6 R3.length c6] 57)))
                        have HCUR := hide hcurS
                        clear hcurS
                        go_wp2_with fail
                        (with_reducible refine (NOWN.out _ (HSL3.out.alloc _) (HEV.out H8.out)).mono ?_)
                        rintro e w4 ⟨rfl, rfl⟩
                        have hbT : Below w3.heap.size w3 (w3.alloc (.cells #[.int .i64 E, .int .u64 V, .slice A6 R3.length c6] 57)) := (Below.refl _ _).alloc (Nat.le_refl _) _
                        have l0T := (hbT.cell (p := ⟨w.heap.size + 2, o, none⟩) lz).trans l0
                        have c0T := (hbT.cell (p := ⟨wr.heap.size, 0, none⟩) cz).trans c0
                        have c1T := (hbT.cell (p := ⟨wr.heap.size, 1, none⟩) cz).trans c1
                        have lzT : w.heap.size + 2 < (w3.alloc (.cells #[.int .i64 E, .int .u64 V, .slice A6 R3.length c6] 57)).heap.size := by simp; omega
                        have czT : wr.heap.size < (w3.alloc (.cells #[.int .i64 E, .int .u64 V, .slice A6 R3.length c6] 57)).heap.size := by simp; omega
                        have HBT := hide hbT
                        clear hbT
                        go_wp2_with fail
                        refine wp_region_seq (Below (w3.alloc (.cells #[.int .i64 E, .int .u64 V, .slice A6 R3.length c6] 57)).heap.size (w3.alloc (.cells #[.int .i64 E, .int .u64 V, .slice A6 R3.length c6] 57))) (.take 0 <| .take 1 <| .take 2 <| .take 3 <| .take 4 <| .take 5 <| .take 6 <| .take 7 <| .done) (by kernel_rfl) (by kernel_rfl) (by kernel_rfl) (by (repeat' (first | with_reducible assumption | with_reducible exact Below.refl _ _ | with_reducible refine Below.drew ?_ | with_reducible refine below_drewN ?_ _ | with_reducible refine Below.alloc ?_ ?_ _ | with_reducible refine Below.setCell ?_ ?_ _ | omega | (simp; done) | (simp; omega)))) ?_
                        repeat (refine seq_take (v := ?_) rfl (by rfl) ?_ ?_; rotate_left; (focus (intro wS hS; have y0 := (hS.cell (p := ⟨wr.heap.size, 0, none⟩) czT).trans c0T; have y1 := (hS.cell (p := ⟨wr.heap.size, 1, none⟩) czT).trans c1T; have z1 := (hS.cell (p := ⟨w.heap.size + 2, o, none⟩) lzT).trans l0T; go_simp; exact rfl)); simp only [Act.put, List.setIfInBounds_toArray, List.set_cons_zero, List.set_cons_succ])
                        refine seq_nil ?_
                        clear l0T c0T c1T lzT czT
                        have HDZ := hide (HD3.out.below HBT.out)
                        have HBZ : Hid (Below w.heap.size w (w3.alloc (.cells #[.int .i64 E, .int .u64 V, .slice A6 R3.length c6] 57))) := hide (by have hq := HBW3.out; (repeat' (first | with_reducible assumption | with_reducible exact Below.refl _ _ | with_reducible refine Below.drew ?_ | with_reducible refine below_drewN ?_ _ | with_reducible refine Below.alloc ?_ ?_ _ | with_reducible refine Below.setCell ?_ ?_ _ | omega | (simp; done) | (simp; omega))))
                        go_wp2_with (at_builtin; go_loud (refine wpList_ob_pushD rfl _ _ rfl info_ans Tryz.underlying46 rfl (by decide) (by decide) (by decide) HDZ.out.an rfl rfl (by first | rfl | (simp; done)) (⟨6, 0, []⟩, none, 0) rfl rfl (by simp [anEn, Value.oneCell']) (slw_none _) (tw_none _ _ _) (by have := HAL.out; omega) (by have := HBZ.out.size; omega) ?_; intro v5 w5 hAn5 hk5; have ho5 := (hk5.block (w.heap.size + 1) ⟨HDZ.out.lt, own_ne HDZ.out.an.1 HDZ.out.out (by decide)⟩).trans HDZ.out.out; have y0 : w5.cell? ⟨w.heap.size + 1, 0, none⟩ = some (.slice oA an.length oc') := cell_of_row _ _ 0 _ _ _ ho5; have yf := frozen_of_row w5 (w.heap.size + 1) 0 _ _ ho5; have HD5 := hide (HDZ.out.pushA hAn5 hk5); have HB5 : Hid (Below w.heap.size w w5) := hide (HBZ.out.trans (hk5.below (fun j hj => ⟨by have := HBZ.out.size; omega, fun e => by have := (HDZ.out.an.1.lt j e.symm).1; omega⟩))); obtain ⟨vA5, vc5, rfl, _⟩ := ob_len anEn_len hAn5; clear hAn5 hk5 ho5))
                        go_roundw
                        case rel =>
                          refine ⟨k + 1, by omega, by go_num, _, _, an ++ [(⟨6, 0, []⟩, none, 0)], ps, hide (by rw [HRS.out]; have h := HD5.out; rw [List.length_append] at h; exact h), hide (by rw [HRS.out]; exact hPs.out), hide (by rw [HRS.out, List.map_append, hAn.out]; rfl), hide ?_⟩
                          have hq := HB5.out
                          (repeat' (first | with_reducible assumption | with_reducible exact Below.refl _ _ | with_reducible refine Below.drew ?_ | with_reducible refine below_drewN ?_ _ | with_reducible refine Below.alloc ?_ ?_ _ | with_reducible refine Below.setCell ?_ ?_ _ | omega | (simp; done) | (simp; omega)))
                        case measure => first | (simp [intOf]; done) | (simp [intOf]; omega)
                      · rw [if_neg (fun h => hF h.2.2.2), if_neg (fun h => by omega)] at hres
                        have eF : decide (s.p ≤ (ownN st c.thread : Nat) + 1) = false := by simpa using hF
                        subst hres
                        clear HRES h8 hk0 hE htw htt hF
                        go_wp2_with fail
                        (with_reducible refine (HNA.out _ HSLX.out).mono ?_)
                        rintro e w3 ⟨v5, L5, rfl, hs5, hL5, hb3, ht5, ht6⟩
                        obtain ⟨A5, c5', rfl, _⟩ := id hs5
                        obtain ⟨A6, c6, rfl, _⟩ := id hL5
                        have hz3 := hb3.size
                        have HB3 := hide hb3
                        have HS5 := hide hs5
                        have HL5 := hide hL5
                        have HT5 := hide ht5
                        have HT6 := hide ht6
                        have HD3 := hide (HDX.out.below hb3)
                        have HBW3 : Hid (Below w.heap.size w w3) := hide (HBXX.out.trans (hb3.mono hxb))
                        have HC3 := hide ((hb3.block _ cz').trans HCX.out)
                        have HSP3 := hide ((hb3.block _ xz).trans HSX.out)
                        have HSL3 := hide (HSLX.out.below hb3 (Nat.le_refl _))
                        have r0 := (hb3.cell (p := ⟨gr, o, none⟩) hgrX).trans r0X
                        clear c0 c1 c2 c3 c4 c5 s0 s1 s2 hs5 hL5 hb3 ht5 ht6 r0X HNA
                        obtain ⟨c0, c1, c2, c3, c4, c5, cz⟩ := cells6 HC3.out
                        rw [HCOB.out] at c1
                        obtain ⟨s0, s1, s2, _, _, _, sz⟩ := cells3 HSP3.out
                        have fr : w3.frozen? ⟨gr, o, none⟩ = false := World.ownsRow.frozenAt HD3.out.st.1 o
                        have gz : gr < w3.heap.size := by omega
                        have a0 : w3.cell? ⟨w.heap.size + 1, 0, none⟩ = some (.slice oA an.length oc') := cell_of_row _ _ 0 _ _ _ HD3.out.out
                        have a1 : w3.cell? ⟨w.heap.size + 1, 1, none⟩ = some (.slice (some ⟨gr, 0, none⟩) ps.length vc) := cell_of_row _ _ 1 _ _ _ HD3.out.out
                        have oz3 := HD3.out.lt
                        obtain ⟨l0, lf, lz, _⟩ := HD3.out.cellL HLT.out
                        have hg3 : gr ≠ w3.heap.size := by omega
                        have hg4 : ¬ w3.heap.size = gr := by omega
                        obtain ⟨curS, hcurS⟩ : ∃ cur, w3.heap[gr]? = some (.cells cur 24 (0, 0)) := by
                          rcases HD3.out.st.1.2 with ⟨e, _⟩ | ⟨g', cap', cur, e, _, hg, _⟩
                          · cases e
                          · cases e; exact ⟨_, hg⟩
                        have hg5 : gr ≠ w.heap.size + 1 := by intro e; have := HD3.out.out; rw [← e, hcurS] at this; cases this
                        have hg6 : ¬ w.heap.size + 1 = gr := fun e => hg5 e.symm
                        have hg7 : ¬ wr.heap.size = gr := by intro e; have := HC3.out; rw [e, hcurS] at this; cases this
                        have hg8 : ¬ W.heap.size = gr := by intro e; have := HSP3.out; rw [e, hcurS] at this; cases this
                        have HDT := hide (HD3.out.below ((Below.refl _ w3).alloc (Nat.le_refl _) (.cells #[.int .i64 E, .int .u64 V, .slice A6 R3.length c6] 57)))
                        have HCUR := hide hcurS
                        clear hcurS
                        go_wp2_with fail
                        (with_reducible refine (NOWN.out _ (HSL3.out.alloc _) (HEV.out H8.out)).mono ?_)
                        rintro e w4 ⟨rfl, rfl⟩
                        have hbT : Below w3.heap.size w3 (w3.alloc (.cells #[.int .i64 E, .int .u64 V, .slice A6 R3.length c6] 57)) := (Below.refl _ _).alloc (Nat.le_refl _) _
                        have l0T := (hbT.cell (p := ⟨w.heap.size + 2, o, none⟩) lz).trans l0
                        have c0T := (hbT.cell (p := ⟨wr.heap.size, 0, none⟩) cz).trans c0
                        have c1T := (hbT.cell (p := ⟨wr.heap.size, 1, none⟩) cz).trans c1
                        have lzT : w.heap.size + 2 < (w3.alloc (.cells #[.int .i64 E, .int .u64 V, .slice A6 R3.length c6] 57)).heap.size := by simp; omega
                        have czT : wr.heap.size < (w3.alloc (.cells #[.int .i64 E, .int .u64 V, .slice A6 R3.length c6] 57)).heap.size := by simp; omega
                        have HBT := hide hbT
                        clear hbT
                        go_wp2_with fail
                        refine wp_region_seq (Below (w3.alloc (.cells #[.int .i64 E, .int .u64 V, .slice A6 R3.length c6] 57)).heap.size (w3.alloc (.cells #[.int .i64 E, .int .u64 V, .slice A6 R3.length c6] 57))) (.take 0 <| .take 1 <| .take 2 <| .take 3 <| .take 4 <| .take 5 <| .take 6 <| .take 7 <| .done) (by kernel_rfl) (by kernel_rfl) (by kernel_rfl) (by (repeat' (first | with_reducible assumption | with_reducible exact Below.refl _ _ | with_reducible refine Below.drew ?_ | with_reducible refine below_drewN ?_ _ | with_reducible refine Below.alloc ?_ ?_ _ | with_reducible refine Below.setCell ?_ ?_ _ | omega | (simp; done) | (simp; omega)))) ?_
                        repeat (refine seq_take (v := ?_) rfl (by rfl) ?_ ?_; rotate_left; (focus (intro wS hS; have y0 := (hS.cell (p := ⟨wr.heap.size, 0, none⟩) czT).trans c0T; have y1 := (hS.cell (p := ⟨wr.heap.size, 1, none⟩) czT).trans c1T; have z1 := (hS.cell (p := ⟨w.heap.size + 2, o, none⟩) lzT).trans l0T; go_simp; exact rfl)); simp only [Act.put, List.setIfInBounds_toArray, List.set_cons_zero, List.set_cons_succ])
                        refine seq_nil ?_
                        clear l0T c0T c1T lzT czT
                        have hkS : Keep (fun j => j ≠ gr) w3 (w3.setCell ⟨gr, o, none⟩ (.slice A5 R1.length c5')) := (Keep.refl _ _).setCell (by simp) _
                        have hSS : ∀ j cs fr, w3.heap[j]? = some (.cells cs 25 fr) → j ≠ gr := by
                          intro j cs fr hj e
                          rw [e, HCUR.out] at hj
                          cases hj
                        have hbA : Below (w3.setCell ⟨gr, o, none⟩ (.slice A5 R1.length c5')).heap.size (w3.setCell ⟨gr, o, none⟩ (.slice A5 R1.length c5')) ((w3.setCell ⟨gr, o, none⟩ (.slice A5 R1.length c5')).alloc (.cells #[.int .i64 E, .int .u64 V, .slice A6 R3.length c6] 57)) := (Below.refl _ _).alloc (Nat.le_refl _) _
                        have HDZ := hide ((HD3.out.setS (k := o) (p := (R1, A5, c5')) HS5.out HT5.out).below hbA)
                        have HSP := hide ((sl_keepT HL5.out HT6.out hkS hSS).alloc (.cells #[.int .i64 E, .int .u64 V, .slice A6 R3.length c6] 57))
                        have HTP := hide (tw_below (HT6.out.keep hkS hSS) hbA)
                        have HBZ : Hid (Below w.heap.size w ((w3.setCell ⟨gr, o, none⟩ (.slice A5 R1.length c5')).alloc (.cells #[.int .i64 E, .int .u64 V, .slice A6 R3.length c6] 57))) := hide (by have hq := HBW3.out; have hq2 := HHI.out; (repeat' (first | with_reducible assumption | with_reducible exact Below.refl _ _ | with_reducible refine Below.drew ?_ | with_reducible refine below_drewN ?_ _ | with_reducible refine Below.alloc ?_ ?_ _ | with_reducible refine Below.setCell ?_ ?_ _ | omega | (simp; done) | (simp; omega))))
                        clear hkS hSS hbA
                        go_wp2_with (at_builtin; go_loud (refine wpList_ob_pushD rfl _ _ rfl info_ans Tryz.underlying46 rfl (by decide) (by decide) (by decide) HDZ.out.an rfl rfl (by first | rfl | (simp; done)) (⟨E, V, R3⟩, A6, c6) rfl rfl (by simp [anEn, Value.oneCell']) HSP.out HTP.out (by have := HAL.out; omega) (by have := HBZ.out.size; omega) ?_; intro v5 w5 hAn5 hk5; have ho5 := (hk5.block (w.heap.size + 1) ⟨HDZ.out.lt, own_ne HDZ.out.an.1 HDZ.out.out (by decide)⟩).trans HDZ.out.out; have y0 : w5.cell? ⟨w.heap.size + 1, 0, none⟩ = some (.slice oA an.length oc') := cell_of_row _ _ 0 _ _ _ ho5; have yf := frozen_of_row w5 (w.heap.size + 1) 0 _ _ ho5; have HD5 := hide (HDZ.out.pushA hAn5 hk5); have HB5 : Hid (Below w.heap.size w w5) := hide (HBZ.out.trans (hk5.below (fun j hj => ⟨by have := HBZ.out.size; omega, fun e => by have := (HDZ.out.an.1.lt j e.symm).1; omega⟩))); obtain ⟨vA5, vc5, rfl, _⟩ := ob_len anEn_len hAn5; clear hAn5 hk5 ho5))
                        go_roundw
                        case rel =>
                          refine ⟨k + 1, by omega, by go_num, _, _, an ++ [(⟨E, V, R3⟩, A6, c6)], ps.set o (R1, A5, c5'), hide (by rw [HRS.out]; have h := HD5.out; rw [List.length_append] at h; exact h), hide (by rw [HRS.out, List.map_set, hPs.out]), hide (by rw [HRS.out, List.map_append, hAn.out]; rfl), hide ?_⟩
                          have hq := HB5.out
                          (repeat' (first | with_reducible assumption | with_reducible exact Below.refl _ _ | with_reducible refine Below.drew ?_ | with_reducible refine below_drewN ?_ _ | with_reducible refine Below.alloc ?_ ?_ _ | with_reducible refine Below.setCell ?_ ?_ _ | omega | (simp; done) | (simp; omega)))
                        case measure => first | (simp [intOf]; done) | (simp [intOf]; omega)
                    · have ett : (IntKind.i64.wrap t == c.thread) = false := by simp; exact fun h => htt (htw.2 h)
                      rw [if_neg htt, Int.add_zero] at hres
                      by_cases hF : s.p ≤ (ownN st c.thread : Nat)
                      · rw [if_pos ⟨h8, hE, hk0, hF⟩] at hres
                        have eF : decide (s.p ≤ (ownN st c.thread : Nat)) = true := by simpa using hF
                        subst hres
                        clear HRES h8 hk0 hE htw htt hF
                        go_wp2_with fail
                        (with_reducible refine (HNA.out _ HSLX.out).mono ?_)
                        rintro e w3 ⟨v5, L5, rfl, hs5, hL5, hb3, ht5, ht6⟩
                        obtain ⟨A5, c5', rfl, _⟩ := id hs5
                        obtain ⟨A6, c6, rfl, _⟩ := id hL5
                        have hz3 := hb3.size
                        have HB3 := hide hb3
                        have HS5 := hide hs5
                        have HL5 := hide hL5
                        have HT5 := hide ht5
                        have HT6 := hide ht6
                        have HD3 := hide (HDX.out.below hb3)
                        have HBW3 : Hid (Below w.heap.size w w3) := hide (HBXX.out.trans (hb3.mono hxb))
                        have HC3 := hide ((hb3.block _ cz').trans HCX.out)
                        have HSP3 := hide ((hb3.block _ xz).trans HSX.out)
                        have HSL3 := hide (HSLX.out.below hb3 (Nat.le_refl _))
                        have r0 := (hb3.cell (p := ⟨gr, o, none⟩) hgrX).trans r0X
                        clear c0 c1 c2 c3 c4 c5 s0 s1 s2 hs5 hL5 hb3 ht5 ht6 r0X HNA
                        obtain ⟨c0, c1, c2, c3, c4, c5, cz⟩ := cells6 HC3.out
                        rw [HCOB.out] at c1
                        obtain ⟨s0, s1, s2, _, _, _, sz⟩ := cells3 HSP3.out
                        have fr : w3.frozen? ⟨gr, o, none⟩ = false := World.ownsRow.frozenAt HD3.out.st.1 o
                        have gz : gr < w3.heap.size := by omega
                        have a0 : w3.cell? ⟨w.heap.size + 1, 0, none⟩ = some (.slice oA an.length oc') := cell_of_row _ _ 0 _ _ _ HD3.out.out
                        have a1 : w3.cell? ⟨w.heap.size + 1, 1, none⟩ = some (.slice (some ⟨gr, 0, none⟩) ps.length vc) := cell_of_row _ _ 1 _ _ _ HD3.out.out
                        have oz3 := HD3.out.lt
                        obtain ⟨l0, lf, lz, _⟩ := HD3.out.cellL HLT.out
                        have hg3 : gr ≠ w3.heap.size := by omega
                        have hg4 : ¬ w3.heap.size = gr := by omega
                        obtain ⟨curS, hcurS⟩ : ∃ cur, w3.heap[gr]? = some (.cells cur 24 (0, 0)) := by
                          rcases HD3.out.st.1.2 with ⟨e, _⟩ | ⟨g', cap', cur, e, _, hg, _⟩
                          · cases e
                          · cases e; exact ⟨_, hg⟩
                        have hg5 : gr ≠ w.heap.size + 1 := by intro e; have := HD3.out.out; rw [← e, hcurS] at this; cases this
                        have hg6 : ¬ w.heap.size + 1 = gr := fun e => hg5 e.symm
                        have hg7 : ¬ wr.heap.size = gr := by intro e; have := HC3.out; rw [e, hcurS] at this; cases this
                        have hg8 : ¬ W.heap.size = gr := by intro e; have := HSP3.out; rw [e, hcurS] at this; cases this
                        have HDT := hide (HD3.out.below ((Below.refl _ w3).alloc (Nat.le_refl _) (.cells #[.int .i64 E, .int .u64 V, .slice A6 R3.length c6] 57)))
                        have HCUR := hide hcurS
                        clear hcurS
                        go_wp2_with fail
                        (with_reducible refine (NOWN.out _ (HSL3.out.alloc _) (HEV.out H8.out)).mono ?_)
                        rintro e w4 ⟨rfl, rfl⟩
                        have hbT : Below w3.heap.size w3 (w3.alloc (.cells #[.int .i64 E, .int .u64 V, .slice A6 R3.length c6] 57)) := (Below.refl _ _).alloc (Nat.le_refl _) _
                        have l0T := (hbT.cell (p := ⟨w.heap.size + 2, o, none⟩) lz).trans l0
                        have c0T := (hbT.cell (p := ⟨wr.heap.size, 0, none⟩) cz).trans c0
                        have c1T := (hbT.cell (p := ⟨wr.heap.size, 1, none⟩) cz).trans c1
                        have lzT : w.heap.size + 2 < (w3.alloc (.cells #[.int .i64 E, .int .u64 V, .slice A6 R3.length c6] 57)).heap.size := by simp; omega
                        have czT : wr.heap.size < (w3.alloc (.cells #[.int .i64 E, .int .u64 V, .slice A6 R3.length c6] 57)).heap.size := by simp; omega
                        have HBT := hide hbT
                        clear hbT
                        go_wp2_with fail
                        refine wp_region_seq (Below (w3.alloc (.cells #[.int .i64 E, .int .u64 V, .slice A6 R3.length c6] 57)).heap.size (w3.alloc (.cells #[.int .i64 E, .int .u64 V, .slice A6 R3.length c6] 57))) (.take 0 <| .take 1 <| .take 2 <| .take 3 <| .take 4 <| .take 5 <| .take 6 <| .take 7 <| .done) (by kernel_rfl) (by kernel_rfl) (by kernel_rfl) (by (repeat' (first | with_reducible assumption | with_reducible exact Below.refl _ _ | with_reducible refine Below.drew ?_ | with_reducible refine below_drewN ?_ _ | with_reducible refine Below.alloc ?_ ?_ _ | with_reducible refine Below.setCell ?_ ?_ _ | omega | (simp; done) | (simp; omega)))) ?_
                        repeat (refine seq_take (v := ?_) rfl (by rfl) ?_ ?_; rotate_left; (focus (intro wS hS; have y0 := (hS.cell (p := ⟨wr.heap.size, 0, none⟩) czT).trans c0T; have y1 := (hS.cell (p := ⟨wr.heap.size, 1, none⟩) czT).trans c1T; have z1 := (hS.cell (p := ⟨w.heap.size + 2, o, none⟩) lzT).trans l0T; go_simp; exact rfl)); simp only [Act.put, List.setIfInBounds_toArray, List.set_cons_zero, List.set_cons_succ])
                        refine seq_nil ?_
                        clear l0T c0T c1T lzT czT
                        have HDZ := hide (HD3.out.below HBT.out)
                        have HBZ : Hid (Below w.heap.size w (w3.alloc (.cells #[.int .i64 E, .int .u64 V, .slice A6 R3.length c6] 57))) := hide (by have hq := HBW3.out; (repeat' (first | with_reducible assumption | with_reducible exact Below.refl _ _ | with_reducible refine Below.drew ?_ | with_reducible refine below_drewN ?_ _ | with_reducible refine Below.alloc ?_ ?_ _ | with_reducible refine Below.setCell ?_ ?_ _ | omega | (simp; done) | (simp; omega))))
                        go_wp2_with (at_builtin; go_loud (refine wpList_ob_pushD rfl _ _ rfl info_ans Tryz.underlying46 rfl (by decide) (by decide) (by decide) HDZ.out.an rfl rfl (by first | rfl | (simp; done)) (⟨6, 0, []⟩, none, 0) rfl rfl (by simp [anEn, Value.oneCell']) (slw_none _) (tw_none _ _ _) (by have := HAL.out; omega) (by have := HBZ.out.size; omega) ?_; intro v5 w5 hAn5 hk5; have ho5 := (hk5.block (w.heap.size + 1) ⟨HDZ.out.lt, own_ne HDZ.out.an.1 HDZ.out.out (by decide)⟩).trans HDZ.out.out; have y0 : w5.cell? ⟨w.heap.size + 1, 0, none⟩ = some (.slice oA an.length oc') := cell_of_row _ _ 0 _ _ _ ho5; have yf := frozen_of_row w5 (w.heap.size + 1) 0 _ _ ho5; have HD5 := hide (HDZ.out.pushA hAn5 hk5); have HB5 : Hid (Below w.heap.size w w5) := hide (HBZ.out.trans (hk5.below (fun j hj => ⟨by have := HBZ.out.size; omega, fun e => by have := (HDZ.out.an.1.lt j e.symm).1; omega⟩))); obtain ⟨vA5, vc5, rfl, _⟩ := ob_len anEn_len hAn5; clear hAn5 hk5 ho5))
                        go_roundw
                        case rel =>
                          refine ⟨k + 1, by omega, by go_num, _, _, an ++ [(⟨6, 0, []⟩, none, 0)], ps, hide (by rw [HRS.out]; have h := HD5.out; rw [List.length_append] at h; exact h), hide (by rw [HRS.out]; exact hPs.out), hide (by rw [HRS.out, List.map_append, hAn.out]; rfl), hide ?_⟩
                          have hq := HB5.out
                          (repeat' (first | with_reducible assumption | with_reducible exact Below.refl _ _ | with_reducible refine Below.drew ?_ | with_reducible refine below_drewN ?_ _ | with_reducible refine Below.alloc ?_ ?_ _ | with_reducible refine Below.setCell ?_ ?_ _ | omega | (simp; done) | (simp; omega)))
                        case measure => first | (simp [intOf]; done) | (simp [intOf]; omega)
                      · rw [if_neg (fun h => hF h.2.2.2), if_neg (fun h => by omega)] at hres
                        have eF : decide (s.p ≤ (ownN st c.thread : Nat)) = false := by simpa using hF
                        subst hres
                        clear HRES h8 hk0 hE htw htt hF
                        go_wp2_with fail
                        (with_reducible refine (HNA.out _ HSLX.out).mono ?_)
                        rintro e w3 ⟨v5, L5, rfl, hs5, hL5, hb3, ht5, ht6⟩
                        obtain ⟨A5, c5', rfl, _⟩ := id hs5
                        obtain ⟨A6, c6, rfl, _⟩ := id hL5
                        have hz3 := hb3.size
                        have HB3 := hide hb3
                        have HS5 := hide hs5
                        have HL5 := hide hL5
                        have HT5 := hide ht5
                        have HT6 := hide ht6
                        have HD3 := hide (HDX.out.below hb3)
                        have HBW3 : Hid (Below w.heap.size w w3) := hide (HBXX.out.trans (hb3.mono hxb))
                        have HC3 := hide ((hb3.block _ cz').trans HCX.out)
                        have HSP3 := hide ((hb3.block _ xz).trans HSX.out)
                        have HSL3 := hide (HSLX.out.below hb3 (Nat.le_refl _))
                        have r0 := (hb3.cell (p := ⟨gr, o, none⟩) hgrX).trans r0X
                        clear c0 c1 c2 c3 c4 c5 s0 s1 s2 hs5 hL5 hb3 ht5 ht6 r0X HNA
                        obtain ⟨c0, c1, c2, c3, c4, c5, cz⟩ := cells6 HC3.out
                        rw [HCOB.out] at c1
                        obtain ⟨s0, s1, s2, _, _, _, sz⟩ := cells3 HSP3.out
                        have fr : w3.frozen? ⟨gr, o, none⟩ = false := World.ownsRow.frozenAt HD3.out.st.1 o
                        have gz : gr < w3.heap.size := by omega
                        have a0 : w3.cell? ⟨w.heap.size + 1, 0, none⟩ = some (.slice oA an.length oc') := cell_of_row _ _ 0 _ _ _ HD3.out.out
                        have a1 : w3.cell? ⟨w.heap.size + 1, 1, none⟩ = some (.slice (some ⟨gr, 0, none⟩) ps.length vc) := cell_of_row _ _ 1 _ _ _ HD3.out.out
                        have oz3 := HD3.out.lt
                        obtain ⟨l0, lf, lz, _⟩ := HD3.out.cellL HLT.out
                        have hg3 : gr ≠ w3.heap.size := by omega
                        have hg4 : ¬ w3.heap.size = gr := by omega
                        obtain ⟨curS, hcurS⟩ : ∃ cur, w3.heap[gr]? = some (.cells cur 24 (0, 0)) := by
                          rcases HD3.out.st.1.2 with ⟨e, _⟩ | ⟨g', cap', cur, e, _, hg, _⟩
                          · cases e
                          · cases e; exact ⟨_, hg⟩
                        have hg5 : gr ≠ w.heap.size + 1 := by intro e; have := HD3.out.out; rw [← e, hcurS] at this; cases this
                        have hg6 : ¬ w.heap.size + 1 = gr := fun e => hg5 e.symm
                        have hg7 : ¬ wr.heap.size = gr := by intro e; have := HC3.out; rw [e, hcurS] at this; cases this
                        have hg8 : ¬ W.heap.size = gr := by intro e; have := HSP3.out; rw [e, hcurS] at this; cases this
                        have HDT := hide (HD3.out.below ((Below.refl _ w3).alloc (Nat.le_refl _) (.cells #[.int .i64 E, .int .u64 V, .slice A6 R3.length c6] 57)))
                        have HCUR := hide hcurS
                        clear hcurS
                        go_wp2_with fail
                        (with_reducible refine (NOWN.out _ (HSL3.out.alloc _) (HEV.out H8.out)).mono ?_)
                        rintro e w4 ⟨rfl, rfl⟩
                        have hbT : Below w3.heap.size w3 (w3.alloc (.cells #[.int .i64 E, .int .u64 V, .slice A6 R3.length c6] 57)) := (Below.refl _ _).alloc (Nat.le_refl _) _
                        have l0T := (hbT.cell (p := ⟨w.heap.size + 2, o, none⟩) lz).trans l0
                        have c0T := (hbT.cell (p := ⟨wr.heap.size, 0, none⟩) cz).trans c0
                        have c1T := (hbT.cell (p := ⟨wr.heap.size, 1, none⟩) cz).trans c1
                        have lzT : w.heap.size + 2 < (w3.alloc (.cells #[.int .i64 E, .int .u64 V, .slice A6 R3.length c6] 57)).heap.size := by simp; omega
                        have czT : wr.heap.size < (w3.alloc (.cells #[.int .i64 E, .int .u64 V, .slice A6 R3.length c6] 57)).heap.size := by simp; omega
                        have HBT := hide hbT
                        clear hbT
                        go_wp2_with fail
                        refine wp_region_seq (Below (w3.alloc (.cells #[.int .i64 E, .int .u64 V, .slice A6 R3.length c6] 57)).heap.size (w3.alloc (.cells #[.int .i64 E, .int .u64 V, .slice A6 R3.length c6] 57))) (.take 0 <| .take 1 <| .take 2 <| .take 3 <| .take 4 <| .take 5 <| .take 6 <| .take 7 <| .done) (by kernel_rfl) (by kernel_rfl) (by kernel_rfl) (by (repeat' (first | with_reducible assumption | with_reducible exact Below.refl _ _ | with_reducible refine Below.drew ?_ | with_reducible refine below_drewN ?_ _ | with_reducible refine Below.alloc ?_ ?_ _ | with_reducible refine Below.setCell ?_ ?_ _ | omega | (simp; done) | (simp; omega)))) ?_
                        repeat (refine seq_take (v := ?_) rfl (by rfl) ?_ ?_; rotate_left; (focus (intro wS hS; have y0 := (hS.cell (p := ⟨wr.heap.size, 0, none⟩) czT).trans c0T; have y1 := (hS.cell (p := ⟨wr.heap.size, 1, none⟩) czT).trans c1T; have z1 := (hS.cell (p := ⟨w.heap.size + 2, o, none⟩) lzT).trans l0T; go_simp; exact rfl)); simp only [Act.put, List.setIfInBounds_toArray, List.set_cons_zero, List.set_cons_succ])
                        refine seq_nil ?_
                        clear l0T c0T c1T lzT czT
                        have hkS : Keep (fun j => j ≠ gr) w3 (w3.setCell ⟨gr, o, none⟩ (.slice A5 R1.length c5')) := (Keep.refl _ _).setCell (by simp) _
                        have hSS : ∀ j cs fr, w3.heap[j]? = some (.cells cs 25 fr) → j ≠ gr := by
                          intro j cs fr hj e
                          rw [e, HCUR.out] at hj
                          cases hj
                        have hbA : Below (w3.setCell ⟨gr, o, none⟩ (.slice A5 R1.length c5')).heap.size (w3.setCell ⟨gr, o, none⟩ (.slice A5 R1.length c5')) ((w3.setCell ⟨gr, o, none⟩ (.slice A5 R1.length c5')).alloc (.cells #[.int .i64 E, .int .u64 V, .slice A6 R3.length c6] 57)) := (Below.refl _ _).alloc (Nat.le_refl _) _
                        have HDZ := hide ((HD3.out.setS (k := o) (p := (R1, A5, c5')) HS5.out HT5.out).below hbA)
                        have HSP := hide ((sl_keepT HL5.out HT6.out hkS hSS).alloc (.cells #[.int .i64 E, .int .u64 V, .slice A6 R3.length c6] 57))
                        have HTP := hide (tw_below (HT6.out.keep hkS hSS) hbA)
                        have HBZ : Hid (Below w.heap.size w ((w3.setCell ⟨gr, o, none⟩ (.slice A5 R1.length c5')).alloc (.cells #[.int .i64 E, .int .u64 V, .slice A6 R3.length c6] 57))) := hide (by have hq := HBW3.out; have hq2 := HHI.out; (repeat' (first | with_reducible assumption | with_reducible exact Below.refl _ _ | with_reducible refine Below.drew ?_ | with_reducible refine below_drewN ?_ _ | with_reducible refine Below.alloc ?_ ?_ _ | with_reducible refine Below.setCell ?_ ?_ _ | omega | (simp; done) | (simp; omega))))
                        clear hkS hSS hbA
                        go_wp2_with (at_builtin; go_loud (refine wpList_ob_pushD rfl _ _ rfl info_ans Tryz.underlying46 rfl (by decide) (by decide) (by decide) HDZ.out.an rfl rfl (by first | rfl | (simp; done)) (⟨E, V, R3⟩, A6, c6) rfl rfl (by simp [anEn, Value.oneCell']) HSP.out HTP.out (by have := HAL.out; omega) (by have := HBZ.out.size; omega) ?_; intro v5 w5 hAn5 hk5; have ho5 := (hk5.block (w.heap.size + 1) ⟨HDZ.out.lt, own_ne HDZ.out.an.1 HDZ.out.out (by decide)⟩).trans HDZ.out.out; have y0 : w5.cell? ⟨w.heap.size + 1, 0, none⟩ = some (.slice oA an.length oc') := cell_of_row _ _ 0 _ _ _ ho5; have yf := frozen_of_row w5 (w.heap.size + 1) 0 _ _ ho5; have HD5 := hide (HDZ.out.pushA hAn5 hk5); have HB5 : Hid (Below w.heap.size w w5) := hide (HBZ.out.trans (hk5.below (fun j hj => ⟨by have := HBZ.out.size; omega, fun e => by have := (HDZ.out.an.1.lt j e.symm).1; omega⟩))); obtain ⟨vA5, vc5, rfl, _⟩ := ob_len anEn_len hAn5; clear hAn5 hk5 ho5))
                        go_roundw
                        case rel =>
                          refine ⟨k + 1, by omega, by go_num, _, _, an ++ [(⟨E, V, R3⟩, A6, c6)], ps.set o (R1, A5, c5'), hide (by rw [HRS.out]; have h := HD5.out; rw [List.length_append] at h; exact h), hide (by rw [HRS.out, List.map_set, hPs.out]), hide (by rw [HRS.out, List.map_append, hAn.out]; rfl), hide ?_⟩
                          have hq := HB5.out
                          (repeat' (first | with_reducible assumption | with_reducible exact Below.refl _ _ | with_reducible refine Below.drew ?_ | with_reducible refine below_drewN ?_ _ | with_reducible refine Below.alloc ?_ ?_ _ | with_reducible refine Below.setCell ?_ ?_ _ | omega | (simp; done) | (simp; omega)))
                        case measure => first | (simp [intOf]; done) | (simp [intOf]; omega)
                  · have eE : (E == 0) = false := by simpa using hE
                    rw [if_neg (fun h => hE h.2.1), if_neg (fun h => hE h.2.1)] at hres
                    subst hres
                    clear HRES h8 hk0 hE H8
                    go_wp2_with fail
                    (with_reducible refine (HNA.out _ HSLX.out).mono ?_)
                    rintro e w3 ⟨v5, L5, rfl, hs5, hL5, hb3, ht5, ht6⟩
                    obtain ⟨A5, c5', rfl, _⟩ := id hs5
                    obtain ⟨A6, c6, rfl, _⟩ := id hL5
                    have hz3 := hb3.size
                    have HB3 := hide hb3
                    have HS5 := hide hs5
                    have HL5 := hide hL5
                    have HT5 := hide ht5
                    have HT6 := hide ht6
                    have HD3 := hide (HDX.out.below hb3)
                    have HBW3 : Hid (Below w.heap.size w w3) := hide (HBXX.out.trans (hb3.mono hxb))
                    have HC3 := hide ((hb3.block _ cz').trans HCX.out)
                    have HSP3 := hide ((hb3.block _ xz).trans HSX.out)
                    have HSL3 := hide (HSLX.out.below hb3 (Nat.le_refl _))
                    have r0 := (hb3.cell (p := ⟨gr, o, none⟩) hgrX).trans r0X
                    clear c0 c1 c2 c3 c4 c5 s0 s1 s2 hs5 hL5 hb3 ht5 ht6 r0X HNA
                    obtain ⟨c0, c1, c2, c3, c4, c5, cz⟩ := cells6 HC3.out
                    rw [HCOB.out] at c1
                    obtain ⟨s0, s1, s2, _, _, _, sz⟩ := cells3 HSP3.out
                    have fr : w3.frozen? ⟨gr, o, none⟩ = false := World.ownsRow.frozenAt HD3.out.st.1 o
                    have gz : gr < w3.heap.size := by omega
                    have a0 : w3.cell? ⟨w.heap.size + 1, 0, none⟩ = some (.slice oA an.length oc') := cell_of_row _ _ 0 _ _ _ HD3.out.out
                    have a1 : w3.cell? ⟨w.heap.size + 1, 1, none⟩ = some (.slice (some ⟨gr, 0, none⟩) ps.length vc) := cell_of_row _ _ 1 _ _ _ HD3.out.out
                    have oz3 := HD3.out.lt
                    obtain ⟨l0, lf, lz, _⟩ := HD3.out.cellL HLT.out
                    have hg3 : gr ≠ w3.heap.size := by omega
                    have hg4 : ¬ w3.heap.size = gr := by omega
                    obtain ⟨curS, hcurS⟩ : ∃ cur, w3.heap[gr]? = some (.cells cur 24 (0, 0)) := by
                      rcases HD3.out.st.1.2 with ⟨e, _⟩ | ⟨g', cap', cur, e, _, hg, _⟩
                      · cases e
                      · cases e; exact ⟨_, hg⟩
                    have hg5 : gr ≠ w.heap.size + 1 := by intro e; have := HD3.out.out; rw [← e, hcurS] at this; cases this
                    have hg6 : ¬ w.heap.size + 1 = gr := fun e => hg5 e.symm
                    have hg7 : ¬ wr.heap.size = gr := by intro e; have := HC3.out; rw [e, hcurS] at this; cases this
                    have hg8 : ¬ W.heap.size = gr := by intro e; have := HSP3.out; rw [e, hcurS] at this; cases this
                    have HDT := hide (HD3.out.below ((Below.refl _ w3).alloc (Nat.le_refl _) (.cells #[.int .i64 E, .int .u64 V, .slice A6 R3.length c6] 57)))
                    have HCUR := hide hcurS
                    clear hcurS
                    have hkS : Keep (fun j => j ≠ gr) w3 (w3.setCell ⟨gr, o, none⟩ (.slice A5 R1.length c5')) := (Keep.refl _ _).setCell (by simp) _
                    have hSS : ∀ j cs fr, w3.heap[j]? = some (.cells cs 25 fr) → j ≠ gr := by
                      intro j cs fr hj e
                      rw [e, HCUR.out] at hj
                      cases hj
                    have hbA : Below (w3.setCell ⟨gr, o, none⟩ (.slice A5 R1.length c5')).heap.size (w3.setCell ⟨gr, o, none⟩ (.slice A5 R1.length c5')) ((w3.setCell ⟨gr, o, none⟩ (.slice A5 R1.length c5')).alloc (.cells #[.int .i64 E, .int .u64 V, .slice A6 R3.length c6] 57)) := (Below.refl _ _).alloc (Nat.le_refl _) _
                    have HDZ := hide ((HD3.out.setS (k := o) (p := (R1, A5, c5')) HS5.out HT5.out).below hbA)
                    have HSP := hide ((sl_keepT HL5.out HT6.out hkS hSS).alloc (.cells #[.int .i64 E, .int .u64 V, .slice A6 R3.length c6] 57))
                    have HTP := hide (tw_below (HT6.out.keep hkS hSS) hbA)
                    have HBZ : Hid (Below w.heap.size w ((w3.setCell ⟨gr, o, none⟩ (.slice A5 R1.length c5')).alloc (.cells #[.int .i64 E, .int .u64 V, .slice A6 R3.length c6] 57))) := hide (by have hq := HBW3.out; have hq2 := HHI.out; (repeat' (first | with_reducible assumption | with_reducible exact Below.refl _ _ | with_reducible refine Below.drew ?_ | with_reducible refine below_drewN ?_ _ | with_reducible refine Below.alloc ?_ ?_ _ | with_reducible refine Below.setCell ?_ ?_ _ | omega | (simp; done) | (simp; omega))))
                    clear hkS hSS hbA
                    go_wp2_with (at_builtin; go_loud (refine wpList_ob_push rfl _ _ rfl info_ans Tryz.underlying46 rfl (by decide) (by decide) (by decide) HDZ.out.an rfl rfl (by first | rfl | (simp; done)) (⟨E, V, R3⟩, A6, c6) rfl rfl (by simp [anEn, Value.oneCell']) HSP.out HTP.out (by have := HAL.out; omega) (by have := HBZ.out.size; omega) ?_; intro v5 w5 hAn5 hk5; have ho5 := (hk5.block (w.heap.size + 1) ⟨HDZ.out.lt, own_ne HDZ.out.an.1 HDZ.out.out (by decide)⟩).trans HDZ.out.out; have y0 : w5.cell? ⟨w.heap.size + 1, 0, none⟩ = some (.slice oA an.length oc') := cell_of_row _ _ 0 _ _ _ ho5; have yf := frozen_of_row w5 (w.heap.size + 1) 0 _ _ ho5; have HD5 := hide (HDZ.out.pushA hAn5 hk5); have HB5 : Hid (Below w.heap.size w w5) := hide (HBZ.out.trans (hk5.below (fun j hj => ⟨by have := HBZ.out.size; omega, fun e => by have := (HDZ.out.an.1.lt j e.symm).1; omega⟩))); obtain ⟨vA5, vc5, rfl, _⟩ := ob_len anEn_len hAn5; clear hAn5 hk5 ho5))
                    go_roundw
                    case rel =>
                      refine ⟨k + 1, by omega, by go_num, _, _, an ++ [(⟨E, V, R3⟩, A6, c6)], ps.set o (R1, A5, c5'), hide (by rw [HRS.out]; have h := HD5.out; rw [List.length_append] at h; exact h), hide (by rw [HRS.out, List.map_set, hPs.out]), hide (by rw [HRS.out, List.map_append, hAn.out]; rfl), hide ?_⟩
                      have hq := HB5.out
                      (repeat' (first | with_reducible assumption | with_reducible exact Below.refl _ _ | with_reducible refine Below.drew ?_ | with_reducible refine below_drewN ?_ _ | with_reducible refine Below.alloc ?_ ?_ _ | with_reducible refine Below.setCell ?_ ?_ _ | omega | (simp; done) | (simp; omega)))
                    case measure => first | (simp [intOf]; done) | (simp [intOf]; omega)
                · have ek0 : (c.kind == 0) = false := by simpa using hk0
                  by_cases hk1 : c.kind = 1
                  · have ek1 : (c.kind == 1) = true := by simpa using hk1
                    by_cases hE : E = 0
                    · have eE : (E == 0) = true := by simpa using hE
                      rw [if_neg (fun h => hk0 h.2.2.1), if_pos ⟨h8, hE, hk1⟩] at hres
                      obtain ⟨y, hy⟩ := HRNE.out h8 hE hk1
                      have hyu := HU.out y (List.mem_of_getElem? hy)
                      have hat : at0 st 0 = y := by unfold at0; rw [hy]; rfl
                      rw [hat] at hres
                      subst hres
                      obtain ⟨xb, xo, rfl, xc, xbz⟩ := sl_at HSLX.out 0 y hy
                      simp only [Nat.add_zero] at xc
                      have hstn : 0 < st.length := (List.getElem?_eq_some_iff.1 hy).1
                      have hstl : (0 : Int) < (st.length : Int) := by omega
                      have HYU := hide hyu
                      clear HRES h8 hk0 hk1 hE H8 hy hyu hat
                      go_wp2_with fail
                      (with_reducible refine (HNA.out _ HSLX.out).mono ?_)
                      rintro e w3 ⟨v5, L5, rfl, hs5, hL5, hb3, ht5, ht6⟩
                      obtain ⟨A5, c5', rfl, _⟩ := id hs5
                      obtain ⟨A6, c6, rfl, _⟩ := id hL5
                      have hz3 := hb3.size
                      have HB3 := hide hb3
                      have HS5 := hide hs5
                      have HL5 := hide hL5
                      have HT5 := hide ht5
                      have HT6 := hide ht6
                      have HD3 := hide (HDX.out.below hb3)
                      have HBW3 : Hid (Below w.heap.size w w3) := hide (HBXX.out.trans (hb3.mono hxb))
                      have HC3 := hide ((hb3.block _ cz').trans HCX.out)
                      have HSP3 := hide ((hb3.block _ xz).trans HSX.out)
                      have HSL3 := hide (HSLX.out.below hb3 (Nat.le_refl _))
                      have r0 := (hb3.cell (p := ⟨gr, o, none⟩) hgrX).trans r0X
                      clear c0 c1 c2 c3 c4 c5 s0 s1 s2 hs5 hL5 hb3 ht5 ht6 r0X HNA
                      obtain ⟨c0, c1, c2, c3, c4, c5, cz⟩ := cells6 HC3.out
                      rw [HCOB.out] at c1
                      obtain ⟨s0, s1, s2, _, _, _, sz⟩ := cells3 HSP3.out
                      have fr : w3.frozen? ⟨gr, o, none⟩ = false := World.ownsRow.frozenAt HD3.out.st.1 o
                      have gz : gr < w3.heap.size := by omega
                      have a0 : w3.cell? ⟨w.heap.size + 1, 0, none⟩ = some (.slice oA an.length oc') := cell_of_row _ _ 0 _ _ _ HD3.out.out
                      have a1 : w3.cell? ⟨w.heap.size + 1, 1, none⟩ = some (.slice (some ⟨gr, 0, none⟩) ps.length vc) := cell_of_row _ _ 1 _ _ _ HD3.out.out
                      have oz3 := HD3.out.lt
                      obtain ⟨l0, lf, lz, _⟩ := HD3.out.cellL HLT.out
                      have hg3 : gr ≠ w3.heap.size := by omega
                      have hg4 : ¬ w3.heap.size = gr := by omega
                      obtain ⟨curS, hcurS⟩ : ∃ cur, w3.heap[gr]? = some (.cells cur 24 (0, 0)) := by
                        rcases HD3.out.st.1.2 with ⟨e, _⟩ | ⟨g', cap', cur, e, _, hg, _⟩
                        · cases e
                        · cases e; exact ⟨_, hg⟩
                      have hg5 : gr ≠ w.heap.size + 1 := by intro e; have := HD3.out.out; rw [← e, hcurS] at this; cases this
                      have hg6 : ¬ w.heap.size + 1 = gr := fun e => hg5 e.symm
                      have hg7 : ¬ wr.heap.size = gr := by intro e; have := HC3.out; rw [e, hcurS] at this; cases this
                      have hg8 : ¬ W.heap.size = gr := by intro e; have := HSP3.out; rw [e, hcurS] at this; cases this
                      have HDT := hide (HD3.out.below ((Below.refl _ w3).alloc (Nat.le_refl _) (.cells #[.int .i64 E, .int .u64 V, .slice A6 R3.length c6] 57)))
                      have HCUR := hide hcurS
                      clear hcurS
                      have xc3 := (HB3.out.cell (p := ⟨xb, xo, none⟩) xbz).trans xc
                      have xbz3 : xb < w3.heap.size := by omega
                      have hbT : Below w3.heap.size w3 (w3.alloc (.cells #[.int .i64 E, .int .u64 V, .slice A6 R3.length c6] 57)) := (Below.refl _ _).alloc (Nat.le_refl _) _
                      have l0T := (hbT.cell (p := ⟨w.heap.size + 2, o, none⟩) lz).trans l0
                      have lfT := (hbT.frozen (p := ⟨w.heap.size + 2, o, none⟩) lz).trans lf
                      have c1T := (hbT.cell (p := ⟨wr.heap.size, 1, none⟩) cz).trans c1
                      have xcT := (hbT.cell (p := ⟨xb, xo, none⟩) xbz3).trans xc3
                      have xbT : xb < (w3.alloc (.cells #[.int .i64 E, .int .u64 V, .slice A6 R3.length c6] 57)).heap.size := by simp; omega
                      have czT : wr.heap.size < (w3.alloc (.cells #[.int .i64 E, .int .u64 V, .slice A6 R3.length c6] 57)).heap.size := by simp; omega
                      clear hbT xc xbz
                      go_wp2_with fail
                      refine wp_region_seql (Below (w3.alloc (.cells #[.int .i64 E, .int .u64 V, .slice A6 R3.length c6] 57)).heap.size (w3.alloc (.cells #[.int .i64 E, .int .u64 V, .slice A6 R3.length c6] 57))) [8] (.take 0 <| .take 1 <| .take 2 <| .take 3 <| .take 4 <| .take 5 <| .take 6 <| .take 7 <| .run 8 <| .done) (by kernel_rfl) (by kernel_rfl) (by kernel_rfl) (by (repeat' (first | with_reducible assumption | with_reducible exact Below.refl _ _ | with_reducible refine Below.drew ?_ | with_reducible refine below_drewN ?_ _ | with_reducible refine Below.alloc ?_ ?_ _ | with_reducible refine Below.setCell ?_ ?_ _ | omega | (simp; done) | (simp; omega)))) ?_
                      repeat (refine seql_take (v := ?_) rfl (by rfl) ?_ ?_; rotate_left; (focus (intro wS hS; have y1 := (hS.cell (p := ⟨wr.heap.size, 1, none⟩) czT).trans c1T; have z1 := (hS.cell (p := ⟨xb, xo, none⟩) xbT).trans xcT; go_simp; exact rfl)); simp only [Act.put, List.setIfInBounds_toArray, List.set_cons_zero, List.set_cons_succ])
                      refine seql_late rfl rfl (by rfl) (fun K hK => ?_)
                      go_simp
                      refine hK _ _ ?_
                      clear hK K
                      refine seql_nil ?_
                      obtain ⟨w4, hw4⟩ : ∃ w4, w4 = w3.setCell ⟨w.heap.size + 1 + 1, o, none⟩ (.int .i64 (IntKind.i64.wrap y)) := ⟨_, rfl⟩
                      rw [← hw4]
                      have hk4 : Keep (fun j => j ≠ w.heap.size + 2) w3 w4 := by rw [hw4]; exact (Keep.refl _ _).setCell (by simp) _
                      have hlw : w.heap.size + 2 < wr.heap.size := (hD.out.last.lt _ rfl).2
                      have hz4 : w3.heap.size = w4.heap.size := by rw [hw4]; simp [World.setCell]
                      obtain ⟨curL, hcurL⟩ := HD3.out.lastT
                      have hgl : gr ≠ w.heap.size + 2 := by intro e; have := HCUR.out; rw [e, hcurL] at this; cases this
                      have hSW : ∀ j cs fr, w3.heap[j]? = some (.cells cs 25 fr) → j ≠ w.heap.size + 2 := by
                        intro j cs fr hj e
                        rw [e, hcurL] at hj
                        cases hj
                      have HD4 := hide (show RDo w4 w.heap.size (.slice oA an.length oc') (.slice (some ⟨gr, 0, none⟩) ps.length vc) an ps (.slice (some ⟨w.heap.size + 2, 0, none⟩) specs.length specs.length) (((soRun n specs (calls.take k)).1.2.set o y).map IntKind.i64.wrap) from by
                        rw [hw4, List.map_set]
                        exact HD3.out.setL HLL.out.symm)
                      replace HS5 := hide (sl_keepT HS5.out HT5.out hk4 hSW)
                      replace HL5 := hide (sl_keepT HL5.out HT6.out hk4 hSW)
                      replace HT5 := hide (HT5.out.keep hk4 hSW)
                      replace HT6 := hide (HT6.out.keep hk4 hSW)
                      replace HCUR := hide ((hk4.block _ hgl).trans HCUR.out)
                      replace HBW3 := hide (HBW3.out.trans (hk4.below (fun j hj => by omega)))
                      replace r0 := (hk4.cell (p := ⟨gr, o, none⟩) hgl).trans r0
                      replace fr : w4.frozen? ⟨gr, o, none⟩ = false := World.ownsRow.frozenAt HD4.out.st.1 o
                      replace a0 : w4.cell? ⟨w.heap.size + 1, 0, none⟩ = some (.slice oA an.length oc') := cell_of_row _ _ 0 _ _ _ HD4.out.out
                      replace a1 : w4.cell? ⟨w.heap.size + 1, 1, none⟩ = some (.slice (some ⟨gr, 0, none⟩) ps.length vc) := cell_of_row _ _ 1 _ _ _ HD4.out.out
                      replace c1 := (hk4.cell (p := ⟨wr.heap.size, 1, none⟩) (by show wr.heap.size ≠ _; omega)).trans c1
                      have HD3 := HD4
                      replace gz : gr < w4.heap.size := by omega
                      replace oz3 : w.heap.size + 1 < w4.heap.size := by omega
                      replace cz : wr.heap.size < w4.heap.size := by omega
                      replace hg3 : gr ≠ w4.heap.size := by omega
                      replace hg4 : ¬ w4.heap.size = gr := by omega
                      clear hw4 hk4 hcurL hSW l0T lfT c1T xcT xbT czT xc3 xbz3 c0 c2 c3 c4 c5 s0 s1 s2 l0 lf lz sz
                      have hkS : Keep (fun j => j ≠ gr) w4 (w4.setCell ⟨gr, o, none⟩ (.slice A5 R1.length c5')) := (Keep.refl _ _).setCell (by simp) _
                      have hSS : ∀ j cs fr, w4.heap[j]? = some (.cells cs 25 fr) → j ≠ gr := by
                        intro j cs fr hj e
                        rw [e, HCUR.out] at hj
                        cases hj
                      have hbA : Below (w4.setCell ⟨gr, o, none⟩ (.slice A5 R1.length c5')).heap.size (w4.setCell ⟨gr, o, none⟩ (.slice A5 R1.length c5')) ((w4.setCell ⟨gr, o, none⟩ (.slice A5 R1.length c5')).alloc (.cells #[.int .i64 E, .int .u64 V, .slice A6 R3.length c6] 57)) := (Below.refl _ _).alloc (Nat.le_refl _) _
                      have HDZ := hide ((HD3.out.setS (k := o) (p := (R1, A5, c5')) HS5.out HT5.out).below hbA)
                      have HSP := hide ((sl_keepT HL5.out HT6.out hkS hSS).alloc (.cells #[.int .i64 E, .int .u64 V, .slice A6 R3.length c6] 57))
                      have HTP := hide (tw_below (HT6.out.keep hkS hSS) hbA)
                      have HBZ : Hid (Below w.heap.size w ((w4.setCell ⟨gr, o, none⟩ (.slice A5 R1.length c5')).alloc (.cells #[.int .i64 E, .int .u64 V, .slice A6 R3.length c6] 57))) := hide (by have hq := HBW3.out; have hq2 := HHI.out; (repeat' (first | with_reducible assumption | with_reducible exact Below.refl _ _ | with_reducible refine Below.drew ?_ | with_reducible refine below_drewN ?_ _ | with_reducible refine Below.alloc ?_ ?_ _ | with_reducible refine Below.setCell ?_ ?_ _ | omega | (simp; done) | (simp; omega))))
                      clear hkS hSS hbA
                      go_wp2_with (at_builtin; go_loud (refine wpList_ob_pushD rfl _ _ rfl info_ans Tryz.underlying46 rfl (by decide) (by decide) (by decide) HDZ.out.an rfl rfl (by first | rfl | (simp; done)) (⟨E, V, R3⟩, A6, c6) rfl rfl (by simp [anEn, Value.oneCell']) HSP.out HTP.out (by have := HAL.out; omega) (by have := HBZ.out.size; omega) ?_; intro v5 w5 hAn5 hk5; have ho5 := (hk5.block (w.heap.size + 1) ⟨HDZ.out.lt, own_ne HDZ.out.an.1 HDZ.out.out (by decide)⟩).trans HDZ.out.out; have y0 : w5.cell? ⟨w.heap.size + 1, 0, none⟩ = some (.slice oA an.length oc') := cell_of_row _ _ 0 _ _ _ ho5; have yf := frozen_of_row w5 (w.heap.size + 1) 0 _ _ ho5; have HD5 := hide (HDZ.out.pushA hAn5 hk5); have HB5 : Hid (Below w.heap.size w w5) := hide (HBZ.out.trans (hk5.below (fun j hj => ⟨by have := HBZ.out.size; omega, fun e => by have := (HDZ.out.an.1.lt j e.symm).1; omega⟩))); obtain ⟨vA5, vc5, rfl, _⟩ := ob_len anEn_len hAn5; clear hAn5 hk5 ho5))
                      go_roundw
                      case rel =>
                        refine ⟨k + 1, by omega, by go_num, _, _, an ++ [(⟨E, V, R3⟩, A6, c6)], ps.set o (R1, A5, c5'), hide (by rw [HRS.out]; have h := HD5.out; rw [List.length_append] at h; exact h), hide (by rw [HRS.out, List.map_set, hPs.out]), hide (by rw [HRS.out, List.map_append, hAn.out]; rfl), hide ?_⟩
                        have hq := HB5.out
                        (repeat' (first | with_reducible assumption | with_reducible exact Below.refl _ _ | with_reducible refine Below.drew ?_ | with_reducible refine below_drewN ?_ _ | with_reducible refine Below.alloc ?_ ?_ _ | with_reducible refine Below.setCell ?_ ?_ _ | omega | (simp; done) | (simp; omega)))
                      case measure => first | (simp [intOf]; done) | (simp [intOf]; omega)
                    · have eE : (E == 0) = false := by simpa using hE
                      rw [if_neg (fun h => hE h.2.1), if_neg (fun h => hE h.2.1)] at hres
                      subst hres
                      clear HRES h8 hk0 hk1 hE H8
                      go_wp2_with fail
                      (with_reducible refine (HNA.out _ HSLX.out).mono ?_)
                      rintro e w3 ⟨v5, L5, rfl, hs5, hL5, hb3, ht5, ht6⟩
                      obtain ⟨A5, c5', rfl, _⟩ := id hs5
                      obtain ⟨A6, c6, rfl, _⟩ := id hL5
                      have hz3 := hb3.size
                      have HB3 := hide hb3
                      have HS5 := hide hs5
                      have HL5 := hide hL5
                      have HT5 := hide ht5
                      have HT6 := hide ht6
                      have HD3 := hide (HDX.out.below hb3)
                      have HBW3 : Hid (Below w.heap.size w w3) := hide (HBXX.out.trans (hb3.mono hxb))
                      have HC3 := hide ((hb3.block _ cz').trans HCX.out)
                      have HSP3 := hide ((hb3.block _ xz).trans HSX.out)
                      have HSL3 := hide (HSLX.out.below hb3 (Nat.le_refl _))
                      have r0 := (hb3.cell (p := ⟨gr, o, none⟩) hgrX).trans r0X
                      clear c0 c1 c2 c3 c4 c5 s0 s1 s2 hs5 hL5 hb3 ht5 ht6 r0X HNA
                      obtain ⟨c0, c1, c2, c3, c4, c5, cz⟩ := cells6 HC3.out
                      rw [HCOB.out] at c1
                      obtain ⟨s0, s1, s2, _, _, _, sz⟩ := cells3 HSP3.out
                      have fr : w3.frozen? ⟨gr, o, none⟩ = false := World.ownsRow.frozenAt HD3.out.st.1 o
                      have gz : gr < w3.heap.size := by omega
                      have a0 : w3.cell? ⟨w.heap.size + 1, 0, none⟩ = some (.slice oA an.length oc') := cell_of_row _ _ 0 _ _ _ HD3.out.out
                      have a1 : w3.cell? ⟨w.heap.size + 1, 1, none⟩ = some (.slice (some ⟨gr, 0, none⟩) ps.length vc) := cell_of_row _ _ 1 _ _ _ HD3.out.out
                      have oz3 := HD3.out.lt
                      obtain ⟨l0, lf, lz, _⟩ := HD3.out.cellL HLT.out
                      have hg3 : gr ≠ w3.heap.size := by omega
                      have hg4 : ¬ w3.heap.size = gr := by omega
                      obtain ⟨curS, hcurS⟩ : ∃ cur, w3.heap[gr]? = some (.cells cur 24 (0, 0)) := by
                        rcases HD3.out.st.1.2 with ⟨e, _⟩ | ⟨g', cap', cur, e, _, hg, _⟩
                        · cases e
                        · cases e; exact ⟨_, hg⟩
                      have hg5 : gr ≠ w.heap.size + 1 := by intro e; have := HD3.out.out; rw [← e, hcurS] at this; cases this
                      have hg6 : ¬ w.heap.size + 1 = gr := fun e => hg5 e.symm
                      have hg7 : ¬ wr.heap.size = gr := by intro e; have := HC3.out; rw [e, hcurS] at this; cases this
                      have hg8 : ¬ W.heap.size = gr := by intro e; have := HSP3.out; rw [e, hcurS] at this; cases this
                      have HDT := hide (HD3.out.below ((Below.refl _ w3).alloc (Nat.le_refl _) (.cells #[.int .i64 E, .int .u64 V, .slice A6 R3.length c6] 57)))
                      have HCUR := hide hcurS
                      clear hcurS
                      have hkS : Keep (fun j => j ≠ gr) w3 (w3.setCell ⟨gr, o, none⟩ (.slice A5 R1.length c5')) := (Keep.refl _ _).setCell (by simp) _
                      have hSS : ∀ j cs fr, w3.heap[j]? = some (.cells cs 25 fr) → j ≠ gr := by
                        intro j cs fr hj e
                        rw [e, HCUR.out] at hj
                        cases hj
                      have hbA : Below (w3.setCell ⟨gr, o, none⟩ (.slice A5 R1.length c5')).heap.size (w3.setCell ⟨gr, o, none⟩ (.slice A5 R1.length c5')) ((w3.setCell ⟨gr, o, none⟩ (.slice A5 R1.length c5')).alloc (.cells #[.int .i64 E, .int .u64 V, .slice A6 R3.length c6] 57)) := (Below.refl _ _).alloc (Nat.le_refl _) _
                      have HDZ := hide ((HD3.out.setS (k := o) (p := (R1, A5, c5')) HS5.out HT5.out).below hbA)
                      have HSP := hide ((sl_keepT HL5.out HT6.out hkS hSS).alloc (.cells #[.int .i64 E, .int .u64 V, .slice A6 R3.length c6] 57))
                      have HTP := hide (tw_below (HT6.out.keep hkS hSS) hbA)
                      have HBZ : Hid (Below w.heap.size w ((w3.setCell ⟨gr, o, none⟩ (.slice A5 R1.length c5')).alloc (.cells #[.int .i64 E, .int .u64 V, .slice A6 R3.length c6] 57))) := hide (by have hq := HBW3.out; have hq2 := HHI.out; (repeat' (first | with_reducible assumption | with_reducible exact Below.refl _ _ | with_reducible refine Below.drew ?_ | with_reducible refine below_drewN ?_ _ | with_reducible refine Below.alloc ?_ ?_ _ | with_reducible refine Below.setCell ?_ ?_ _ | omega | (simp; done) | (simp; omega))))
                      clear hkS hSS hbA
                      go_wp2_with (at_builtin; go_loud (refine wpList_ob_push rfl _ _ rfl info_ans Tryz.underlying46 rfl (by decide) (by decide) (by decide) HDZ.out.an rfl rfl (by first | rfl | (simp; done)) (⟨E, V, R3⟩, A6, c6) rfl rfl (by simp [anEn, Value.oneCell']) HSP.out HTP.out (by have := HAL.out; omega) (by have := HBZ.out.size; omega) ?_; intro v5 w5 hAn5 hk5; have ho5 := (hk5.block (w.heap.size + 1) ⟨HDZ.out.lt, own_ne HDZ.out.an.1 HDZ.out.out (by decide)⟩).trans HDZ.out.out; have y0 : w5.cell? ⟨w.heap.size + 1, 0, none⟩ = some (.slice oA an.length oc') := cell_of_row _ _ 0 _ _ _ ho5; have yf := frozen_of_row w5 (w.heap.size + 1) 0 _ _ ho5; have HD5 := hide (HDZ.out.pushA hAn5 hk5); have HB5 : Hid (Below w.heap.size w w5) := hide (HBZ.out.trans (hk5.below (fun j hj => ⟨by have := HBZ.out.size; omega, fun e => by have := (HDZ.out.an.1.lt j e.symm).1; omega⟩))); obtain ⟨vA5, vc5, rfl, _⟩ := ob_len anEn_len hAn5; clear hAn5 hk5 ho5))
                      go_roundw
                      case rel =>
                        refine ⟨k + 1, by omega, by go_num, _, _, an ++ [(⟨E, V, R3⟩, A6, c6)], ps.set o (R1, A5, c5'), hide (by rw [HRS.out]; have h := HD5.out; rw [List.length_append] at h; exact h), hide (by rw [HRS.out, List.map_set, hPs.out]), hide (by rw [HRS.out, List.map_append, hAn.out]; rfl), hide ?_⟩
                        have hq := HB5.out
                        (repeat' (first | with_reducible assumption | with_reducible exact Below.refl _ _ | with_reducible refine Below.drew ?_ | with_reducible refine below_drewN ?_ _ | with_reducible refine Below.alloc ?_ ?_ _ | with_reducible refine Below.setCell ?_ ?_ _ | omega | (simp; done) | (simp; omega)))
                      case measure => first | (simp [intOf]; done) | (simp [intOf]; omega)
                  · have ek1 : (c.kind == 1) = false := by simpa using hk1
                    rw [if_neg (fun h => hk0 h.2.2.1), if_neg (fun h => hk1 h.2.2)] at hres
                    subst hres
                    clear HRES h8 hk0 hk1 H8
                    go_wp2_with fail
                    (with_reducible refine (HNA.out _ HSLX.out).mono ?_)
                    rintro e w3 ⟨v5, L5, rfl, hs5, hL5, hb3, ht5, ht6⟩
                    obtain ⟨A5, c5', rfl, _⟩ := id hs5
                    obtain ⟨A6, c6, rfl, _⟩ := id hL5
                    have hz3 := hb3.size
                    have HB3 := hide hb3
                    have HS5 := hide hs5
                    have HL5 := hide hL5
                    have HT5 := hide ht5
                    have HT6 := hide ht6
                    have HD3 := hide (HDX.out.below hb3)
                    have HBW3 : Hid (Below w.heap.size w w3) := hide (HBXX.out.trans (hb3.mono hxb))
                    have HC3 := hide ((hb3.block _ cz').trans HCX.out)
                    have HSP3 := hide ((hb3.block _ xz).trans HSX.out)
                    have HSL3 := hide (HSLX.out.below hb3 (Nat.le_refl _))
                    have r0 := (hb3.cell (p := ⟨gr, o, none⟩) hgrX).trans r0X
                    clear c0 c1 c2 c3 c4 c5 s0 s1 s2 hs5 hL5 hb3 ht5 ht6 r0X HNA
                    obtain ⟨c0, c1, c2, c3, c4, c5, cz⟩ := cells6 HC3.out
                    rw [HCOB.out] at c1
                    obtain ⟨s0, s1, s2, _, _, _, sz⟩ := cells3 HSP3.out
                    have fr : w3.frozen? ⟨gr, o, none⟩ = false := World.ownsRow.frozenAt HD3.out.st.1 o
                    have gz : gr < w3.heap.size := by omega
                    have a0 : w3.cell? ⟨w.heap.size + 1, 0, none⟩ = some (.slice oA an.length oc') := cell_of_row _ _ 0 _ _ _ HD3.out.out
                    have a1 : w3.cell? ⟨w.heap.size + 1, 1, none⟩ = some (.slice (some ⟨gr, 0, none⟩) ps.length vc) := cell_of_row _ _ 1 _ _ _ HD3.out.out
                    have oz3 := HD3.out.lt
                    obtain ⟨l0, lf, lz, _⟩ := HD3.out.cellL HLT.out
                    have hg3 : gr ≠ w3.heap.size := by omega
                    have hg4 : ¬ w3.heap.size = gr := by omega
                    obtain ⟨curS, hcurS⟩ : ∃ cur, w3.heap[gr]? = some (.cells cur 24 (0, 0)) := by
                      rcases HD3.out.st.1.2 with ⟨e, _⟩ | ⟨g', cap', cur, e, _, hg, _⟩
                      · cases e
                      · cases e; exact ⟨_, hg⟩
                    have hg5 : gr ≠ w.heap.size + 1 := by intro e; have := HD3.out.out; rw [← e, hcurS] at this; cases this
                    have hg6 : ¬ w.heap.size + 1 = gr := fun e => hg5 e.symm
                    have hg7 : ¬ wr.heap.size = gr := by intro e; have := HC3.out; rw [e, hcurS] at this; cases this
                    have hg8 : ¬ W.heap.size = gr := by intro e; have := HSP3.out; rw [e, hcurS] at this; cases this
                    have HDT := hide (HD3.out.below ((Below.refl _ w3).alloc (Nat.le_refl _) (.cells #[.int .i64 E, .int .u64 V, .slice A6 R3.length c6] 57)))
                    have HCUR := hide hcurS
                    clear hcurS
                    have hkS : Keep (fun j => j ≠ gr) w3 (w3.setCell ⟨gr, o, none⟩ (.slice A5 R1.length c5')) := (Keep.refl _ _).setCell (by simp) _
                    have hSS : ∀ j cs fr, w3.heap[j]? = some (.cells cs 25 fr) → j ≠ gr := by
                      intro j cs fr hj e
                      rw [e, HCUR.out] at hj
                      cases hj
                    have hbA : Below (w3.setCell ⟨gr, o, none⟩ (.slice A5 R1.length c5')).heap.size (w3.setCell ⟨gr, o, none⟩ (.slice A5 R1.length c5')) ((w3.setCell ⟨gr, o, none⟩ (.slice A5 R1.length c5')).alloc (.cells #[.int .i64 E, .int .u64 V, .slice A6 R3.length c6] 57)) := (Below.refl _ _).alloc (Nat.le_refl _) _
                    have HDZ := hide ((HD3.out.setS (k := o) (p := (R1, A5, c5')) HS5.out HT5.out).below hbA)
                    have HSP := hide ((sl_keepT HL5.out HT6.out hkS hSS).alloc (.cells #[.int .i64 E, .int .u64 V, .slice A6 R3.length c6] 57))
                    have HTP := hide (tw_below (HT6.out.keep hkS hSS) hbA)
                    have HBZ : Hid (Below w.heap.size w ((w3.setCell ⟨gr, o, none⟩ (.slice A5 R1.length c5')).alloc (.cells #[.int .i64 E, .int .u64 V, .slice A6 R3.length c6] 57))) := hide (by have hq := HBW3.out; have hq2 := HHI.out; (repeat' (first | with_reducible assumption | with_reducible exact Below.refl _ _ | with_reducible refine Below.drew ?_ | with_reducible refine below_drewN ?_ _ | with_reducible refine Below.alloc ?_ ?_ _ | with_reducible refine Below.setCell ?_ ?_ _ | omega | (simp; done) | (simp; omega))))
                    clear hkS hSS hbA
                    go_wp2_with (at_builtin; go_loud (refine wpList_ob_push rfl _ _ rfl info_ans Tryz.underlying46 rfl (by decide) (by decide) (by decide) HDZ.out.an rfl rfl (by first | rfl | (simp; done)) (⟨E, V, R3⟩, A6, c6) rfl rfl (by simp [anEn, Value.oneCell']) HSP.out HTP.out (by have := HAL.out; omega) (by have := HBZ.out.size; omega) ?_; intro v5 w5 hAn5 hk5; have ho5 := (hk5.block (w.heap.size + 1) ⟨HDZ.out.lt, own_ne HDZ.out.an.1 HDZ.out.out (by decide)⟩).trans HDZ.out.out; have y0 : w5.cell? ⟨w.heap.size + 1, 0, none⟩ = some (.slice oA an.length oc') := cell_of_row _ _ 0 _ _ _ ho5; have yf := frozen_of_row w5 (w.heap.size + 1) 0 _ _ ho5; have HD5 := hide (HDZ.out.pushA hAn5 hk5); have HB5 : Hid (Below w.heap.size w w5) := hide (HBZ.out.trans (hk5.below (fun j hj => ⟨by have := HBZ.out.size; omega, fun e => by have := (HDZ.out.an.1.lt j e.symm).1; omega⟩))); obtain ⟨vA5, vc5, rfl, _⟩ := ob_len anEn_len hAn5; clear hAn5 hk5 ho5))
                    go_roundw
                    case rel =>
                      refine ⟨k + 1, by omega, by go_num, _, _, an ++ [(⟨E, V, R3⟩, A6, c6)], ps.set o (R1, A5, c5'), hide (by rw [HRS.out]; have h := HD5.out; rw [List.length_append] at h; exact h), hide (by rw [HRS.out, List.map_set, hPs.out]), hide (by rw [HRS.out, List.map_append, hAn.out]; rfl), hide ?_⟩
                      have hq := HB5.out
                      (repeat' (first | with_reducible assumption | with_reducible exact Below.refl _ _ | with_reducible refine Below.drew ?_ | with_reducible refine below_drewN ?_ _ | with_reducible refine Below.alloc ?_ ?_ _ | with_reducible refine Below.setCell ?_ ?_ _ | omega | (simp; done) | (simp; omega)))
                    case measure => first | (simp [intOf]; done) | (simp [intOf]; omega)
              · rw [if_neg (fun h => h8 h.1), if_neg (fun h => h8 h.1)] at hres
                have e8 : (s.kind == 8) = false := by simpa using h8
                subst hres
                clear HRES h8
                go_wp2_with fail
                (with_reducible refine (HNA.out _ HSLX.out).mono ?_)
                rintro e w3 ⟨v5, L5, rfl, hs5, hL5, hb3, ht5, ht6⟩
                obtain ⟨A5, c5', rfl, _⟩ := id hs5
                obtain ⟨A6, c6, rfl, _⟩ := id hL5
                have hz3 := hb3.size
                have HB3 := hide hb3
                have HS5 := hide hs5
                have HL5 := hide hL5
                have HT5 := hide ht5
                have HT6 := hide ht6
                have HD3 := hide (HDX.out.below hb3)
                have HBW3 : Hid (Below w.heap.size w w3) := hide (HBXX.out.trans (hb3.mono hxb))
                have HC3 := hide ((hb3.block _ cz').trans HCX.out)
                have HSP3 := hide ((hb3.block _ xz).trans HSX.out)
                have HSL3 := hide (HSLX.out.below hb3 (Nat.le_refl _))
                have r0 := (hb3.cell (p := ⟨gr, o, none⟩) hgrX).trans r0X
                clear c0 c1 c2 c3 c4 c5 s0 s1 s2 hs5 hL5 hb3 ht5 ht6 r0X HNA
                obtain ⟨c0, c1, c2, c3, c4, c5, cz⟩ := cells6 HC3.out
                rw [HCOB.out] at c1
                obtain ⟨s0, s1, s2, _, _, _, sz⟩ := cells3 HSP3.out
                have fr : w3.frozen? ⟨gr, o, none⟩ = false := World.ownsRow.frozenAt HD3.out.st.1 o
                have gz : gr < w3.heap.size := by omega
                have a0 : w3.cell? ⟨w.heap.size + 1, 0, none⟩ = some (.slice oA an.length oc') := cell_of_row _ _ 0 _ _ _ HD3.out.out
                have a1 : w3.cell? ⟨w.heap.size + 1, 1, none⟩ = some (.slice (some ⟨gr, 0, none⟩) ps.length vc) := cell_of_row _ _ 1 _ _ _ HD3.out.out
                have oz3 := HD3.out.lt
                obtain ⟨l0, lf, lz, _⟩ := HD3.out.cellL HLT.out
                have hg3 : gr ≠ w3.heap.size := by omega
                have hg4 : ¬ w3.heap.size = gr := by omega
                obtain ⟨curS, hcurS⟩ : ∃ cur, w3.heap[gr]? = some (.cells cur 24 (0, 0)) := by
                  rcases HD3.out.st.1.2 with ⟨e, _⟩ | ⟨g', cap', cur, e, _, hg, _⟩
                  · cases e
                  · cases e; exact ⟨_, hg⟩
                have hg5 : gr ≠ w.heap.size + 1 := by intro e; have := HD3.out.out; rw [← e, hcurS] at this; cases this
                have hg6 : ¬ w.heap.size + 1 = gr := fun e => hg5 e.symm
                have hg7 : ¬ wr.heap.size = gr := by intro e; have := HC3.out; rw [e, hcurS] at this; cases this
                have hg8 : ¬ W.heap.size = gr := by intro e; have := HSP3.out; rw [e, hcurS] at this; cases this
                have HDT := hide (HD3.out.below ((Below.refl _ w3).alloc (Nat.le_refl _) (.cells #[.int .i64 E, .int .u64 V, .slice A6 R3.length c6] 57)))
                have HCUR := hide hcurS
                clear hcurS
                have hkS : Keep (fun j => j ≠ gr) w3 (w3.setCell ⟨gr, o, none⟩ (.slice A5 R1.length c5')) := (Keep.refl _ _).setCell (by simp) _
                have hSS : ∀ j cs fr, w3.heap[j]? = some (.cells cs 25 fr) → j ≠ gr := by
                  intro j cs fr hj e
                  rw [e, HCUR.out] at hj
                  cases hj
                have hbA : Below (w3.setCell ⟨gr, o, none⟩ (.slice A5 R1.length c5')).heap.size (w3.setCell ⟨gr, o, none⟩ (.slice A5 R1.length c5')) ((w3.setCell ⟨gr, o, none⟩ (.slice A5 R1.length c5')).alloc (.cells #[.int .i64 E, .int .u64 V, .slice A6 R3.length c6] 57)) := (Below.refl _ _).alloc (Nat.le_refl _) _
                have HDZ := hide ((HD3.out.setS (k := o) (p := (R1, A5, c5')) HS5.out HT5.out).below hbA)
                have HSP := hide ((sl_keepT HL5.out HT6.out hkS hSS).alloc (.cells #[.int .i64 E, .int .u64 V, .slice A6 R3.length c6] 57))
                have HTP := hide (tw_below (HT6.out.keep hkS hSS) hbA)
                have HBZ : Hid (Below w.heap.size w ((w3.setCell ⟨gr, o, none⟩ (.slice A5 R1.length c5')).alloc (.cells #[.int .i64 E, .int .u64 V, .slice A6 R3.length c6] 57))) := hide (by have hq := HBW3.out; have hq2 := HHI.out; (repeat' (first | with_reducible assumption | with_reducible exact Below.refl _ _ | with_reducible refine Below.drew ?_ | with_reducible refine below_drewN ?_ _ | with_reducible refine Below.alloc ?_ ?_ _ | with_reducible refine Below.setCell ?_ ?_ _ | omega | (simp; done) | (simp; omega))))
                clear hkS hSS hbA
                go_wp2_with (at_builtin; go_loud (refine wpList_ob_push rfl _ _ rfl info_ans Tryz.underlying46 rfl (by decide) (by decide) (by decide) HDZ.out.an rfl rfl (by first | rfl | (simp; done)) (⟨E, V, R3⟩, A6, c6) rfl rfl (by simp [anEn, Value.oneCell']) HSP.out HTP.out (by have := HAL.out; omega) (by have := HBZ.out.size; omega) ?_; intro v5 w5 hAn5 hk5; have ho5 := (hk5.block (w.heap.size + 1) ⟨HDZ.out.lt, own_ne HDZ.out.an.1 HDZ.out.out (by decide)⟩).trans HDZ.out.out; have y0 : w5.cell? ⟨w.heap.size + 1, 0, none⟩ = some (.slice oA an.length oc') := cell_of_row _ _ 0 _ _ _ ho5; have yf := frozen_of_row w5 (w.heap.size + 1) 0 _ _ ho5; have HD5 := hide (HDZ.out.pushA hAn5 hk5); have HB5 : Hid (Below w.heap.size w w5) := hide (HBZ.out.trans (hk5.below (fun j hj => ⟨by have := HBZ.out.size; omega, fun e => by have := (HDZ.out.an.1.lt j e.symm).1; omega⟩))); obtain ⟨vA5, vc5, rfl, _⟩ := ob_len anEn_len hAn5; clear hAn5 hk5 ho5))
                go_roundw
                case rel =>
                  refine ⟨k + 1, by omega, by go_num, _, _, an ++ [(⟨E, V, R3⟩, A6, c6)], ps.set o (R1, A5, c5'), hide (by rw [HRS.out]; have h := HD5.out; rw [List.length_append] at h; exact h), hide (by rw [HRS.out, List.map_set, hPs.out]), hide (by rw [HRS.out, List.map_append, hAn.out]; rfl), hide ?_⟩
                  have hq := HB5.out
                  (repeat' (first | with_reducible assumption | with_reducible exact Below.refl _ _ | with_reducible refine Below.drew ?_ | with_reducible refine below_drewN ?_ _ | with_reducible refine Below.alloc ?_ ?_ _ | with_reducible refine Below.setCell ?_ ?_ _ | omega | (simp; done) | (simp; omega)))
                case measure => first | (simp [intOf]; done) | (simp [intOf]; omega)
          · have HRS : Hid (soRun n specs (calls.take (k + 1)) = ((soRun n specs (calls.take k)).1, (soRun n specs (calls.take k)).2 ++ [anE 12])) := hide (by rw [soRun_succ HCK.out]; unfold soStep; rw [soDo_out ho])
            have hko : decide (c.obj < 0) = true ∨ (decide (c.obj < 0) = false ∧ decide ((ms : Int) ≤ c.obj) = true) := by
              by_cases h : c.obj < 0
              · exact Or.inl (by simpa using h)
              · refine Or.inr ⟨by simpa using h, ?_⟩
                have := HMS.out
                simp
                omega
            have a0 : wr.cell? ⟨w.heap.size + 1, 0, none⟩ = some (.slice oA an.length oc') := cell_of_row _ _ 0 _ _ _ hD.out.out
            have hgo := hD.out.lt
            have HDZ := HDW
            have HBZ := HBW
            subst hW
            clear ho hBW HCW HDW HBW
            rcases hko with d0 | ⟨d0, d1⟩
            all_goals
              go_wp2_with (at_builtin; refine wpList_ob_push rfl _ _ rfl info_ans Tryz.underlying46 rfl (by decide) (by decide) (by decide) HDZ.out.an rfl rfl (by first | rfl | (simp; done)) (⟨12, 0, []⟩, none, 0) rfl rfl (by simp [anEn, Value.oneCell']) (slw_none _) (tw_none _ _ _) (by have := HAL.out; omega) (by have := HBZ.out.size; omega) ?_; intro v5 w5 hAn5 hk5; have ho5 := (hk5.block (w.heap.size + 1) ⟨HDZ.out.lt, own_ne HDZ.out.an.1 HDZ.out.out (by decide)⟩).trans HDZ.out.out; have y0 : w5.cell? ⟨w.heap.size + 1, 0, none⟩ = some (.slice oA an.length oc') := cell_of_row _ _ 0 _ _ _ ho5; have yf := frozen_of_row w5 (w.heap.size + 1) 0 _ _ ho5; have HD5 := hide (HDZ.out.pushA hAn5 hk5); have HB5 : Hid (Below w.heap.size w w5) := hide (HBZ.out.trans (hk5.below (fun j hj => ⟨by have := HBZ.out.size; omega, fun e => by have := (HDZ.out.an.1.lt j e.symm).1; omega⟩))); obtain ⟨vA5, vc5, rfl, _⟩ := ob_len anEn_len hAn5; clear hAn5 hk5 ho5)
              go_roundw
              case rel =>
                refine ⟨k + 1, by omega, by go_num, _, _, an ++ [(⟨12, 0, []⟩, none, 0)], ps, hide (by rw [HRS.out]; have h := HD5.out; rw [List.length_append] at h; exact h), hide (by rw [HRS.out]; exact hPs.out), hide (by rw [HRS.out, List.map_append, hAn.out]; rfl), hide ?_⟩
                have hq := HB5.out
                (repeat' (first | with_reducible assumption | with_reducible exact Below.refl _ _ | with_reducible refine Below.drew ?_ | with_reducible refine below_drewN ?_ _ | with_reducible refine Below.alloc ?_ ?_ _ | with_reducible refine Below.setCell ?_ ?_ _ | omega | (simp; done) | (simp; omega)))
              case measure => first | (simp [intOf]; done) | (simp [intOf]; omega)
        · have hkk : k = mc := by omega
          have hkt : calls.take k = calls := List.take_of_length_le (by have := HMC.out; omega)
          rw [hkt] at hPs hAn
          have HKK := hide hkk
          clear hkk hlt hkt
          have d9 : decide ((k : Int) < (mc : Int)) = false := by have := HKK.out; simp; omega
          have d8 : decide (k < mc) = false := by have := HKK.out; simp; omega
          have hres := hD.out.res
          have a0 : wr.cell? ⟨w.heap.size + 1, 0, none⟩ = some (.slice oA an.length oc') := cell_of_row _ _ 0 _ _ _ hD.out.out
          have a1 : wr.cell? ⟨w.heap.size + 1, 1, none⟩ = some (.slice vA ps.length vc) := cell_of_row _ _ 1 _ _ _ hD.out.out
          have b0 : wr.cell? ⟨w.heap.size, 0, none⟩ = some (.slice none 0 0) := cell_of_row _ _ 0 _ _ _ hres
          have b1 : wr.cell? ⟨w.heap.size, 1, none⟩ = some (.slice none 0 0) := cell_of_row _ _ 1 _ _ _ hres
          have f0 := frozen_of_row _ _ 0 _ _ hres
          have f1 := frozen_of_row _ _ 1 _ _ hres
          have HRS := hide hres
          clear hres
          go_wp2
          refine bodyPost_ret (v := .agg #[.slice oA an.length oc', .slice vA ps.length vc]) (by simp [results, Tryz.results21, go_sem, *]) rfl ?_
          obtain ⟨_, t1⟩ := setT (j := 0) (u := .slice oA an.length oc') HRS.out
          refine ⟨_, _, an, ps, rfl, ob_setOther (ob_setOther hD.out.an HRS.out (by decide) (by decide)) t1 (by decide) (by decide), hAn.out, ob_setOther (ob_setOther hD.out.st HRS.out (by decide) (by decide)) t1 (by decide) (by decide), hPs.out, ?_⟩
          have hq := hB.out
          (repeat' (first | with_reducible assumption | with_reducible exact Below.refl _ _ | with_reducible refine Below.drew ?_ | with_reducible refine below_drewN ?_ _ | with_reducible refine Below.alloc ?_ ?_ _ | with_reducible refine Below.setCell ?_ ?_ _ | omega | (simp; done) | (simp; omega)))
end Go.Proofs.YtmiimpmfkjcjlaaGreat
