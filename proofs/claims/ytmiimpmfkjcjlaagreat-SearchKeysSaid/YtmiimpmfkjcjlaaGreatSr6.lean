import Derived.RangeFuncNested
import Derived.RangeFuncBound
import Derived.RangeFuncCalls
import Derived.RangeFuncLeaves
import Derived.RangeFuncBox
import Derived.RangeFuncWrites
import Derived.Shelf.Abstract
import Derived.Shelf.RegionOpen
import Derived.WalkKit
import Derived.OwnWalkIn
import Derived.TacticsInMore
import Derived.LoopNIn
import Derived.LoopIn
import Derived.Test.YtmiimpmfkjcjlaaGreatSr5
import Derived.Test.YtmiimpmfkjcjlaaGreatBun14
namespace Go.Proofs.YtmiimpmfkjcjlaaGreat
open Go.RowKit Go.Shelf
attribute [local go_sem] Oper.semAt_some
abbrev OrdV := (Option Addr × Nat × Nat) × List Nat
def ordEnc (x : OrdV) : Array Value := #[.slice x.1.1 x.1.2.1 x.1.2.2]
def ordPm (x : OrdV) (W : World) : Prop := SlI W (.slice x.1.1 x.1.2.1 x.1.2.2) (ordI x.2)
def fromV (Bs By Bf : Nat) : Value := .func (.func 93) #[] #[.pointer (some ⟨Bs, 0, none⟩), .pointer (some ⟨By, 0, none⟩), .pointer (some ⟨Bf, 0, none⟩)]
structure FrCtx (r : Option Nat) (W : World) (b : Nat) (n : Int) (S C L : Value) (specs : List Sp) (calls : List Cl) (es : List Ev) (ls : Nat → List Int) (Bs By Bf l : Nat) : Prop where
  ctx : SsCtx W b n S C L specs calls es ls
  s : W.cell? ⟨Bs, 0, none⟩ = some (.pointer (some ⟨b, 0, none⟩))
  y : W.cell? ⟨By, 0, none⟩ = some (.func (.yield l) #[] #[])
  f : W.cell? ⟨Bf, 0, none⟩ = some (fromV Bs By Bf)
  num : IsNum r W
  nb : some b ≠ r ∧ some Bs ≠ r ∧ some By ≠ r ∧ some Bf ≠ r
  nS : NotAt r S ∧ NotAt r C ∧ NotAt r L
  nl : ∀ (k : Nat) (e : Ev), es[k]? = some e → NotAt r (.slice e.lA e.lN e.lC)
theorem FrCtx.keep {r : Option Nat} {W W' : World} {b : Nat} {n : Int} {S C L : Value} {specs : List Sp} {calls : List Cl} {es : List Ev} {ls : Nat → List Int} {Bs By Bf l : Nat} (h : FrCtx r W b n S C L specs calls es ls Bs By Bf l) (hk : KeepX r W W') : FrCtx r W' b n S C L specs calls es ls Bs By Bf l :=
  ⟨⟨(hk.block b _ h.nb.1 h.ctx.at_ rfl).trans h.ctx.at_, hk.sl h.nS.1 h.ctx.specs, hk.sl h.nS.2.1 h.ctx.calls, hk.sl h.nS.2.2 h.ctx.evs, fun k e he => hk.sl (h.nl k e he) (h.ctx.lst k e he)⟩, hk.cell h.nb.2.1 h.s, hk.cell h.nb.2.2.1 h.y, hk.cell h.nb.2.2.2 h.f, h.num.keep hk, h.nb, h.nS, h.nl⟩
theorem FrCtx.keepC {r : Option Nat} {W W' : World} {b : Nat} {n : Int} {S C L : Value} {specs : List Sp} {calls : List Cl} {es : List Ev} {ls : Nat → List Int} {Bs By Bf l : Nat} (h : FrCtx r W b n S C L specs calls es ls Bs By Bf l) (hk : KeepC W W') : FrCtx r W' b n S C L specs calls es ls Bs By Bf l := h.keep (hk.x r)
def FromPost (r : Option Nat) (n : Int) (specs : List Sp) (calls : List Cl) (es : List Ev) (ls : Nat → List Int) (J Jx : List OrdV → World → Prop) (f : Nat) (Lo : List Nat) (sts : List (List Int)) (pre : List OrdV) (W : World) (e : Ending) (W' : World) : Prop :=
  (e = .returned (.bool true) ∧ ∃ ys, J (pre ++ ys) W' ∧ ys.map Prod.snd = allS n specs calls es ls f Lo sts ∧ KeepX r W W') ∨ (e = .returned (.bool false) ∧ ∃ ys, ys ≠ [] ∧ Jx (pre ++ ys) W' ∧ ys.map Prod.snd <+: allS n specs calls es ls f Lo sts)
def FromOk (r : Option Nat) (b : Nat) (n : Int) (S C L : Value) (specs : List Sp) (calls : List Cl) (es : List Ev) (ls : Nat → List Int) (Bs By Bf l N : Nat) (J Jx : List OrdV → World → Prop) (f : Nat) : Prop :=
  ∀ (Lo : List Nat) (ps : List StP) (v mv : Value) (B : Nat) (pre : List OrdV) (W : World), Lo.length + f = es.length → Lo.Nodup → (∀ x ∈ Lo, x < es.length) → SlI W v (ordI Lo) → NotAt r v → StRow W B mv ps → B ≤ W.heap.size → StOk n specs (ps.map Prod.fst) (80 + 2 * Lo.length) →
    FrCtx r W b n S C L specs calls es ls Bs By Bf l → J pre W → pre.length + (allS n specs calls es ls f Lo (ps.map Prod.fst)).length ≤ N →
    Calls Tryz.prog 93 #[v, mv, .pointer (some ⟨Bs, 0, none⟩), .pointer (some ⟨By, 0, none⟩), .pointer (some ⟨Bf, 0, none⟩)] W (FromPost r n specs calls es ls J Jx f Lo (ps.map Prod.fst) pre W)
set_option maxRecDepth 100000 in
set_option maxHeartbeats 4000000 in
theorem from_step (r : Option Nat) (nd : Nat) (hnd1 : 1 ≤ nd) (b : Nat) (n : Int) (S C L : Value) (specs : List Sp) (calls : List Cl) (es : List Ev) (ls : Nat → List Int) (Bs By Bf l N B0 : Nat) (J Jx : List OrdV → World → Prop) (hJ : AbidesFrom B0 J) (hE : EvsOk n calls es) (hm6 : es.length ≤ 100) (hs8 : specs.length ≤ 8)
    (hY : ∀ pre x W1, J pre W1 → pre.length < N → ordPm x W1 → YieldAt Fence.wide (nd - 1) Tryz.prog l (ordEnc x) W1 fun e W' => (e = .returned (.bool true) ∧ J (pre ++ [x]) W' ∧ KeepX r W1 W') ∨ (e = .returned (.bool false) ∧ Jx (pre ++ [x]) W'))
    (f : Nat) (IH : ∀ f', f = f' + 1 → FromOk r b n S C L specs calls es ls Bs By Bf l N J Jx f') : FromOk r b n S C L specs calls es ls Bs By Bf l N J Jx f := by
  intro Lo ps v mv B pre W hlen hnd hlt hv hnv hst hBW hok hfc hJ0 hN
  obtain ⟨Ae, ce, rfl, ge1, ge2, ge3⟩ := id hfc.ctx.evs
  obtain ⟨a0, a1, a2, a3, bz⟩ := cells4 hfc.ctx.at_
  obtain ⟨LA, lc, rfl, _⟩ := id hv
  have hll : (ordI Lo).length = Lo.length := by simp
  rw [hll] at hv hnv ⊢
  have HNV := hide hnv
  obtain ⟨vA, vc, rfl, _⟩ := ob_len stEn_len hst
  have HM6 := hide hm6
  have HLEN := hide hlen
  have HV := hide hv
  have HST := hide hst
  have HFC := hide hfc
  have HBW := hide hBW
  have HN := hide hN
  have HE := hide hE
  have HOKS := hide hok
  have HND := hide hnd
  have HLT := hide hlt
  have HS8 := hide hs8
  have hes63 : (es.length : Int) ≤ 100 := by omega
  have cs := hfc.s
  have cy := hfc.y
  have cf := hfc.f
  have N0 := swhole_any b n S C (.slice Ae es.length ce) (.slice LA Lo.length lc) es Lo W hfc.ctx.at_ hfc.ctx.evs hv
  clear hll hlen hnd hlt hv hnv hst hBW hok hfc hN hE hm6 ge3 hs8
  refine (callsIn_wide (n := nd)).1 ?_
  refine callsIn_of_wp Tryz.func93 rfl trivial ?_ rfl
  simp only [Tryz.ntmps93, List.size_toArray, List.length_cons, List.length_nil, Nat.reduceAdd, Nat.reduceSub, Array.replicate_succ, Array.replicate_zero, List.push_toArray, List.append_toArray, List.nil_append, List.cons_append]
  gi_wp2
  rcases hwb : wholeB es Lo with _ | _
  · rw [hwb] at N0
    refine ⟨trivial, (callsIn_wide.2 N0).mono ?_⟩
    rintro e1 wS ⟨rfl, hb1⟩
    clear N0
    have hfc1 := HFC.out.keepC (KeepC.of_below hb1)
    have HJS : Hid (J (pre ++ []) wS) := hide (by rw [List.append_nil]; exact hJ _ _ _ none hJ0 (grown_of_below hb1 none) (fun _ e => by cases e))
    have HKS : Hid (KeepX r W wS) := hide ((KeepC.of_below hb1).x r)
    have c1 := hfc1.s
    obtain ⟨_, _, _, a3', _⟩ := cells4 hfc1.ctx.at_
    obtain ⟨ys0, hy0⟩ : ∃ ys0 : List OrdV, ys0 = [] := ⟨_, rfl⟩
    have HYS : Hid (ys0.map Prod.snd = if wholeB es Lo = true then [Lo] else []) := hide (by rw [hwb, hy0]; simp)
    rw [← hy0] at HJS
    clear hwb hb1 hfc1 hJ0 hy0
    gi_wp2
    refine ⟨fun _ h => (by cases h), ?_⟩
    gi_wp2
    gi_loopw [25] (fun i wr => ∃ k : Nat, k ≤ es.length ∧ i = .int .i64 k ∧ ∃ ys, Hid (J (pre ++ ys) wr) ∧ Hid (ys.map Prod.snd = (if wholeB es Lo = true then [Lo] else []) ++ (List.range k).flatMap (tryS n specs calls es ls f Lo (ps.map Prod.fst))) ∧ Hid (KeepX r W wr)) (fun i _ => es.length - (intOf i).toNat)
    case atStart => exact ⟨0, Nat.zero_le _, rfl, ys0, HJS, hide (by rw [HYS.out]; simp), HKS⟩
    case round =>
      obtain ⟨k, hk, rfl, ys, hJy, hiff, hkc⟩ := hrel
      have hfr := HFC.out.keep hkc.out
      have cs := hfr.s
      have cy := hfr.y
      have cf := hfr.f
      have hvr := hkc.out.sl HNV.out HV.out
      have hstr := hkc.out.st HFC.out.num HST.out
      have hzr := hkc.out.size
      by_cases hlt : k < es.length
      · have NF := sfree_any b n S C (.slice Ae es.length ce) (.slice LA Lo.length lc) es Lo k wr hfr.ctx.at_ hfr.ctx.evs hvr
        have HSTR := hide hstr
        have HFR0 := hide hfr
        have q0 : (0 : Int) ≤ (k : Int) := by omega
        have q1 : (k : Int) < (es.length : Int) := by omega
        clear hfr hvr hstr
        rcases hfb : freeB es Lo k with _ | _
        · have HFB := hide hfb
          rw [hfb] at NF
          clear hfb
          gi_wp2
          refine ⟨trivial, (callsIn_wide.2 NF).mono ?_⟩
          rintro e3 w3 ⟨rfl, hb3⟩
          clear NF
          have HB3 := hide hb3
          clear hb3
          gi_wp2
          go_roundw
          case rel => exact ⟨k + 1, by omega, by simp, ys, hide (hJ _ _ _ none hJy.out (grown_of_below HB3.out none) (fun _ e => by cases e)), hide (by rw [flat_succ, tryS_no (Or.inl HFB.out), List.append_nil]; exact hiff.out), hide (hkc.out.trans ((KeepC.of_below HB3.out).x r))⟩
          case measure => first | (simp [intOf]; done) | (simp [intOf]; omega)
        · have HFR := hide hfb
          rw [hfb] at NF
          have hni := (freeB_iff.1 hfb).1
          have HND2 := hide (show (Lo ++ [k]).Nodup by
            rw [List.nodup_append]
            refine ⟨HND.out, by simp, fun a ha b hb => ?_⟩
            simp at hb
            subst hb
            exact fun e => hni (e ▸ ha))
          have HLT2 := hide (show ∀ x ∈ Lo ++ [k], x < es.length from fun x hx => by
            rcases List.mem_append.1 hx with h | h
            · exact HLT.out x h
            · simp at h; omega)
          obtain ⟨f', hf'⟩ : ∃ f', f = f' + 1 := by
            rcases f with _ | f'
            · exact absurd (nodup_all HND.out HLT.out (by have := HLEN.out; omega) hlt) hni
            · exact ⟨f', rfl⟩
          subst hf'
          clear hfb hni
          gi_wp2
          refine ⟨trivial, (callsIn_wide.2 NF).mono ?_⟩
          rintro e3 w3 ⟨rfl, hb3⟩
          clear NF
          have hfr3 := HFR0.out.keepC (KeepC.of_below hb3)
          have ND := sdo_any b B k (80 + 2 * Lo.length) n S C (.slice Ae es.length ce) (.slice vA ps.length vc) specs calls es ls ps w3 hfr3.ctx ((KeepC.of_below hb3).st HSTR.out) (by have := HBW.out; have := hb3.size; omega) HE.out hlt HOKS.out (by have := HM6.out; have := HLEN.out; omega) (by have := HS8.out; omega)
          replace cs := hfr3.s
          replace cy := hfr3.y
          replace cf := hfr3.f
          have HFR3 := hide hfr3
          have HB3 := hide hb3
          clear hfr3 hb3
          gi_wp2
          refine ⟨trivial, (callsIn_wide.2 ND).mono ?_⟩
          rintro e4 w2 ⟨v2, ps2, rfl, hst2, hps2, hb2⟩
          clear ND
          have HB2 : Hid (Below wr.heap.size wr w2) := hide (HB3.out.trans (hb2.mono HB3.out.size))
          have HFC2 := hide (HFR0.out.keepC (KeepC.of_below HB2.out))
          have HKC2 := hide (hkc.out.trans ((KeepC.of_below HB2.out).x r))
          have HST2 := hide hst2
          have HPS2 := hide hps2
          have HJ2 := hide (hJ _ _ _ none hJy.out (grown_of_below HB2.out none) (fun _ e => by cases e))
          have HV2 := hide (HKC2.out.sl HNV.out HV.out)
          have HOK2 : Hid (StOk n specs (ps2.map Prod.fst) (80 + 2 * (Lo ++ [k]).length)) := hide (by
            rw [hps2]
            have := HOKS.out.step (ls := ls) (by omega) HE.out k
            rw [show 80 + 2 * (Lo ++ [k]).length = 80 + 2 * Lo.length + 2 by simp; omega]
            exact this)
          obtain ⟨v2A, v2c, rfl, _⟩ := ob_len stEn_len hst2
          replace cs := HFC2.out.s
          replace cy := HFC2.out.y
          replace cf := HFC2.out.f
          have hSF := hide cf
          rcases hkb : (stepL n specs calls es ls (ps.map Prod.fst) k).2 with _ | _
          · have HKB := hide hkb
            clear hkb hst2 hps2 hb2
            gi_wp2
            refine wpIn_wide.2 ?_
            refine wp_region_seql (fun Y => Y.cell? ⟨Bf, 0, none⟩ = some (fromV Bs By Bf)) [9, 10, 11] (.take 0 <| .take 1 <| .take 2 <| .take 3 <| .take 5 <| .take 8 <| .fork 4 (.run 6 <| .run 7 <| .run 9 <| .run 10 <| .run 11 <| .done) 6 (.run 4 <| .run 7 <| .run 9 <| .run 10 <| .run 11 <| .done)) (by kernel_rfl) (by kernel_rfl) (by kernel_rfl) hSF.out ?_
            iterate 6 (first | (refine seql_take (v := ?_) rfl (by rfl) ?_ ?_; rotate_left; (focus (intro wS hS; go_simp; exact rfl)); simp only [Act.put, List.setIfInBounds_toArray, List.set_cons_zero, List.set_cons_succ]) | (refine seql_skip rfl (by rfl) ?_; simp only [Act.put, List.setIfInBounds_toArray, List.set_cons_zero, List.set_cons_succ]))
            refine seql_fork ?_ ?_
            all_goals
              iterate 5 (refine seql_pass rfl (by rfl) (fun _ => by assumption) ?_; simp only [Act.put, List.setIfInBounds_toArray, List.set_cons_zero, List.set_cons_succ])
              refine seql_late rfl rfl (by rfl) (fun K hK => ?_)
              go_simp
              refine hK _ _ ?_
              clear hK K
              refine seql_nil ?_
              gi_wp2
              go_roundw
              case rel => exact ⟨k + 1, by omega, by simp, ys, hide (hJ _ _ _ none HJ2.out (grown_of_below ((Below.refl _ _).drew) none) (fun _ e => by cases e)), hide (by rw [flat_succ, tryS_no (Or.inr HKB.out), List.append_nil]; exact hiff.out), hide (HKC2.out.trans ((KeepC.of_below ((Below.refl _ _).drew)).x r))⟩
              case measure => first | (simp [intOf]; done) | (simp [intOf]; omega)
          · have HOKB := hide hkb
            have HCNT : Hid (ys.length + (allS n specs calls es ls f' (Lo ++ [k]) (stepL n specs calls es ls (ps.map Prod.fst) k).1).length ≤ (allS n specs calls es ls (f' + 1) Lo (ps.map Prod.fst)).length) := hide (by
              have h1 := (allS_part (n := n) (specs := specs) (calls := calls) (es := es) (ls := ls) (f := f' + 1) (L := Lo) (sts := ps.map Prod.fst) (k := k + 1) (by omega)).length_le
              have h2 := congrArg List.length hiff.out
              rw [flat_succ, tryS_go HFR.out HOKB.out] at h1
              simp only [List.length_append, List.length_map] at h1 h2
              omega)
            clear hkb hst2 hps2 hb2
            obtain ⟨i0, hi, hz0, hz1, hz2⟩ := info_parts info_int
            gi_wp2
            refine wpIn_wide.2 ?_
            refine wp_region_seql (fun Y => Y.cell? ⟨Bf, 0, none⟩ = some (fromV Bs By Bf)) [9, 10, 11] (.take 0 <| .take 1 <| .take 2 <| .take 3 <| .take 5 <| .take 8 <| .fork 4 (.run 6 <| .run 7 <| .run 9 <| .run 10 <| .run 11 <| .done) 6 (.run 4 <| .run 7 <| .run 9 <| .run 10 <| .run 11 <| .done)) (by kernel_rfl) (by kernel_rfl) (by kernel_rfl) hSF.out ?_
            iterate 6 (refine seql_take (v := ?_) rfl (by rfl) ?_ ?_; rotate_left; (focus (intro wS hS; go_simp; exact rfl)); simp only [Act.put, List.setIfInBounds_toArray, List.set_cons_zero, List.set_cons_succ])
            refine seql_fork ?_ ?_
            · refine seql_run rfl (by rfl) (fun K hK => ?_)
              go_simp
              refine (iclone_any _ (ordI Lo) w2.drew HV2.out (by have := HM6.out; have := HLEN.out; simp; omega)).mono ?_
              rintro e6 w6 ⟨vN, rfl, hown6, hb6⟩
              have hb26 : Below w2.heap.size w2 w6 := (Below.refl _ _).drew.trans hb6
              refine hK _ _ ((KeepC.of_below hb26).cell hSF.out) ?_
              clear hK K
              refine seql_run rfl (by rfl) (fun K hK => ?_)
              go_simp
              refine hK _ _ (((KeepC.of_below hb26).trans (KeepC.of_below ((Below.refl _ _).alloc (Nat.le_refl _) _))).cell hSF.out) ?_
              clear hK K
              have HBN : Hid (Below w2.heap.size w2 (w6.alloc (.cells #[.int .i64 (k : Int)] 3))) := hide (hb26.alloc hb26.size _)
              have HOW : Hid (∀ j, vN.ownBlock = some j → w2.heap.size ≤ j) := hide (fun j hj => (hown6.lt j hj).1)
              refine seql_run rfl (by rfl) (fun K hK => ?_)
              refine wp_append_own_at _ _ 42 rfl w2.heap.size 3 i0 (.int .i64 0) 1 8 Tryz.underlying42 hi hz0 hz1 hz2 rfl (by decide) vN (ordI Lo).length ((ordI Lo).map (Value.int .i64)) rfl (World.ownsRow.alloc hown6 _) ⟨w6.heap.size, 0, none⟩ 1 1 [.int .i64 (k : Int)] rfl rfl (cell_one_new _ _ _) (by simp [Value.oneCell']) (by have := HM6.out; have := HLEN.out; simp [maxLen]; omega) (by have := HM6.out; have := HLEN.out; simp; omega) (by have := hb26.size; simp; omega) ?_
              intro v7 w7 hown7 hgrow7 _ _
              have hB7 : Below w2.heap.size w2 w7 := Below.grown (row := vN.ownBlock) HBN.out hgrow7 HBN.out.size (fun j hj => HOW.out j hj)
              obtain ⟨A7, c7, rfl⟩ := own_slice hown7
              have HOW7 : Hid (∀ j, (Value.slice A7 (Lo.length + 1) c7).ownBlock = some j → w2.heap.size ≤ j) := hide (fun j hj => by have h := hown7.lt j; simp at h; exact (h hj).1)
              have hsl7 : SlI w7 (.slice A7 (Lo.length + 1) c7) (ordI (Lo ++ [k])) := by
                have h := sl_of_owns (kk := .i64) (xs := ordI (Lo ++ [k])) (by simpa [ordI] using hown7) (by have := HM6.out; have := HLEN.out; simp [maxLen]; omega)
                simpa using h
              have hcb7 := KeepC.of_below hB7
              refine hK _ _ (hcb7.cell hSF.out) ?_
              clear hK K
              refine seql_late rfl rfl (by rfl) (fun K hK => ?_)
              go_simp
              have HIH := IH f' rfl (Lo ++ [k]) ps2 (.slice A7 (Lo.length + 1) c7) _ B (pre ++ ys) w7 (by simp; have := HLEN.out; omega) HND2.out HLT2.out hsl7 (notAt_ge (B := w2.heap.size) HFC2.out.num.lt HOW7.out ⟨_, _, _, rfl⟩) (hcb7.st HST2.out) (by have := HB2.out.size; have := hB7.size; have := HBW.out; omega) HOK2.out ((HFC2.out).keepC hcb7) (hJ _ _ _ none HJ2.out (grown_of_below hB7 none) (fun _ e => by cases e)) (by have := HN.out; have := HCNT.out; rw [HPS2.out, List.length_append]; omega)
              unfold fromV at *
              clear hsl7 hown7 hgrow7
              refine HIH.mono ?_
              rintro e5 w5 (⟨rfl, zs, hJ5, hiff5, hk5⟩ | ⟨rfl, zs, hne5, hJ5, hs5⟩)
              · have HK5 := hide (HKC2.out.trans ((hcb7.x r).trans hk5))
                refine hK _ _ ?_
                clear hK K hk5 hcb7 HIH
                refine seql_late rfl rfl (by rfl) (fun K hK => ?_)
                go_simp
                refine hK _ _ ?_
                clear hK K
                refine seql_late rfl rfl (by rfl) (fun K hK => ?_)
                go_simp
                refine hK _ _ ?_
                clear hK K
                refine seql_nil ?_
                gi_wp2
                go_roundw
                case rel =>
                  refine ⟨k + 1, by omega, by simp, ys ++ zs, hide ?_, hide ?_, HK5⟩
                  · rw [← List.append_assoc]; exact hJ5
                  · rw [List.map_append, hiff.out, hiff5, flat_succ, tryS_go HFR.out HOKB.out, HPS2.out, List.append_assoc]
                case measure => first | (simp [intOf]; done) | (simp [intOf]; omega)
              · refine hK _ _ ?_
                clear hK K hcb7 HIH
                refine seql_late rfl rfl (by rfl) (fun K hK => ?_)
                go_simp
                refine hK _ _ ?_
                clear hK K
                refine seql_late rfl rfl (by rfl) (fun K hK => ?_)
                go_simp
                refine hK _ _ ?_
                clear hK K
                refine seql_nil ?_
                gi_wp2
                refine bodyPost_ret (results_tmp rfl _ _ _) rfl ?_
                refine Or.inr ⟨rfl, ys ++ zs, by simp [hne5], by rw [← List.append_assoc]; exact hJ5, ?_⟩
                refine List.IsPrefix.trans ?_ (allS_part (k := k + 1) (by omega))
                rw [List.map_append, hiff.out, flat_succ, tryS_go HFR.out HOKB.out, ← HPS2.out, ← List.append_assoc]
                rw [List.prefix_append_right_inj]
                exact hs5
            · refine seql_run rfl (by rfl) (fun K hK => ?_)
              go_simp
              refine hK _ _ ((KeepC.of_below (((Below.refl w2.heap.size w2).drew).alloc (Nat.le_refl _) _)).cell hSF.out) ?_
              clear hK K
              refine seql_run rfl (by rfl) (fun K hK => ?_)
              go_simp
              have hba : Below w2.heap.size w2 (w2.drew.alloc (.cells #[.int .i64 (k : Int)] 3)) := ((Below.refl w2.heap.size w2).drew).alloc (Nat.le_refl _) _
              refine (iclone_any _ (ordI Lo) _ (HV2.out.below hba (Nat.le_refl _)) (by have := HM6.out; have := HLEN.out; simp; omega)).mono ?_
              rintro e6 w6 ⟨vN, rfl, hown6, hb6⟩
              have hb26 : Below w2.heap.size w2 w6 := hba.trans (hb6.mono (by simp))
              have hnew : w6.cell? ⟨w2.heap.size, 0, none⟩ = some (.int .i64 (k : Int)) := (hb6.cell (p := ⟨w2.heap.size, 0, none⟩) (by simp)).trans (cell_one_new _ _ _ 0 _ rfl)
              refine hK _ _ ((KeepC.of_below hb26).cell hSF.out) ?_
              clear hK K
              have HBN : Hid (Below w2.heap.size w2 w6) := hide hb26
              have HOW : Hid (∀ j, vN.ownBlock = some j → w2.heap.size ≤ j) := hide (fun j hj => by have := (hown6.lt j hj).1; simp at this; omega)
              refine seql_run rfl (by rfl) (fun K hK => ?_)
              refine wp_append_own_at _ _ 42 rfl w2.heap.size 3 i0 (.int .i64 0) 1 8 Tryz.underlying42 hi hz0 hz1 hz2 rfl (by decide) vN (ordI Lo).length ((ordI Lo).map (Value.int .i64)) rfl (owns_base hown6 (by simp)) ⟨w2.heap.size, 0, none⟩ 1 1 [.int .i64 (k : Int)] rfl rfl (fun j u hu => by rcases j with _ | j; (cases hu; exact hnew); (cases hu)) (by simp [Value.oneCell']) (by have := HM6.out; have := HLEN.out; simp [maxLen]; omega) (by have := HM6.out; have := HLEN.out; simp; omega) (by have := hb26.size; omega) ?_
              intro v7 w7 hown7 hgrow7 _ _
              have hB7 : Below w2.heap.size w2 w7 := Below.grown (row := vN.ownBlock) HBN.out hgrow7 HBN.out.size (fun j hj => HOW.out j hj)
              obtain ⟨A7, c7, rfl⟩ := own_slice hown7
              have HOW7 : Hid (∀ j, (Value.slice A7 (Lo.length + 1) c7).ownBlock = some j → w2.heap.size ≤ j) := hide (fun j hj => by have h := hown7.lt j; simp at h; exact (h hj).1)
              have hsl7 : SlI w7 (.slice A7 (Lo.length + 1) c7) (ordI (Lo ++ [k])) := by
                have h := sl_of_owns (kk := .i64) (xs := ordI (Lo ++ [k])) (by simpa [ordI] using hown7) (by have := HM6.out; have := HLEN.out; simp [maxLen]; omega)
                simpa using h
              have hcb7 := KeepC.of_below hB7
              refine hK _ _ (hcb7.cell hSF.out) ?_
              clear hK K
              refine seql_late rfl rfl (by rfl) (fun K hK => ?_)
              go_simp
              have HIH := IH f' rfl (Lo ++ [k]) ps2 (.slice A7 (Lo.length + 1) c7) _ B (pre ++ ys) w7 (by simp; have := HLEN.out; omega) HND2.out HLT2.out hsl7 (notAt_ge (B := w2.heap.size) HFC2.out.num.lt HOW7.out ⟨_, _, _, rfl⟩) (hcb7.st HST2.out) (by have := HB2.out.size; have := hB7.size; have := HBW.out; omega) HOK2.out ((HFC2.out).keepC hcb7) (hJ _ _ _ none HJ2.out (grown_of_below hB7 none) (fun _ e => by cases e)) (by have := HN.out; have := HCNT.out; rw [HPS2.out, List.length_append]; omega)
              unfold fromV at *
              clear hsl7 hown7 hgrow7
              refine HIH.mono ?_
              rintro e5 w5 (⟨rfl, zs, hJ5, hiff5, hk5⟩ | ⟨rfl, zs, hne5, hJ5, hs5⟩)
              · have HK5 := hide (HKC2.out.trans ((hcb7.x r).trans hk5))
                refine hK _ _ ?_
                clear hK K hk5 hcb7 HIH
                refine seql_late rfl rfl (by rfl) (fun K hK => ?_)
                go_simp
                refine hK _ _ ?_
                clear hK K
                refine seql_late rfl rfl (by rfl) (fun K hK => ?_)
                go_simp
                refine hK _ _ ?_
                clear hK K
                refine seql_nil ?_
                gi_wp2
                go_roundw
                case rel =>
                  refine ⟨k + 1, by omega, by simp, ys ++ zs, hide ?_, hide ?_, HK5⟩
                  · rw [← List.append_assoc]; exact hJ5
                  · rw [List.map_append, hiff.out, hiff5, flat_succ, tryS_go HFR.out HOKB.out, HPS2.out, List.append_assoc]
                case measure => first | (simp [intOf]; done) | (simp [intOf]; omega)
              · refine hK _ _ ?_
                clear hK K hcb7 HIH
                refine seql_late rfl rfl (by rfl) (fun K hK => ?_)
                go_simp
                refine hK _ _ ?_
                clear hK K
                refine seql_late rfl rfl (by rfl) (fun K hK => ?_)
                go_simp
                refine hK _ _ ?_
                clear hK K
                refine seql_nil ?_
                gi_wp2
                refine bodyPost_ret (results_tmp rfl _ _ _) rfl ?_
                refine Or.inr ⟨rfl, ys ++ zs, by simp [hne5], by rw [← List.append_assoc]; exact hJ5, ?_⟩
                refine List.IsPrefix.trans ?_ (allS_part (k := k + 1) (by omega))
                rw [List.map_append, hiff.out, flat_succ, tryS_go HFR.out HOKB.out, ← HPS2.out, ← List.append_assoc]
                rw [List.prefix_append_right_inj]
                exact hs5
      · have d9 : decide ((k : Int) < (es.length : Int)) = false := by simp; omega
        have hkk : k = es.length := by omega
        clear hlt
        gi_wp2
        refine bodyPost_ret (results_tmp rfl _ _ _) rfl ?_
        exact Or.inl ⟨rfl, ys, hJy.out, by rw [hiff.out, allS_eq, hkk], hkc.out⟩
  · rw [hwb] at N0
    refine ⟨trivial, (callsIn_wide.2 N0).mono ?_⟩
    rintro e1 w1 ⟨rfl, hb1⟩
    clear N0
    have hfc1 := HFC.out.keepC (KeepC.of_below hb1)
    have c1 := hfc1.s
    have c2 := hfc1.y
    have HFC1 := hide hfc1
    have HB1 := hide hb1
    obtain ⟨fn, tmps, assign, body, hy, hR⟩ := hY pre ((LA, Lo.length, lc), Lo) w1 (hJ _ _ _ none hJ0 (grown_of_below hb1 none) (fun _ e => by cases e)) (by have := HN.out; have h1 := (allS_part (n := n) (specs := specs) (calls := calls) (es := es) (ls := ls) (f := f) (L := Lo) (sts := ps.map Prod.fst) (k := 0) (Nat.zero_le _)).length_le; rw [if_pos hwb] at h1; simp at h1; omega) ((KeepC.of_below hb1).sl HV.out)
    unfold ordEnc at hy
    have HWB := hide hwb
    clear hwb hb1 hfc1 hJ0
    gi_wp2
    refine hR.mono ?_
    rintro e2 wS (⟨rfl, hJ3, hk3⟩ | ⟨rfl, hJx3⟩)
    · have HJS : Hid (J (pre ++ [((LA, Lo.length, lc), Lo)]) wS) := hide hJ3
      have HKS : Hid (KeepX r W wS) := hide (((KeepC.of_below HB1.out).x r).trans hk3)
      have hfc3 := HFC1.out.keep hk3
      have c3 := hfc3.s
      obtain ⟨_, _, _, a3', _⟩ := cells4 hfc3.ctx.at_
      obtain ⟨ys0, hy0⟩ : ∃ ys0 : List OrdV, ys0 = [((LA, Lo.length, lc), Lo)] := ⟨_, rfl⟩
      have HYS : Hid (ys0.map Prod.snd = if wholeB es Lo = true then [Lo] else []) := hide (by rw [HWB.out, hy0]; simp)
      rw [← hy0] at HJS
      clear hJ3 hk3 hy hR hfc3 hy0
      gi_wp2
      gi_loopw [25] (fun i wr => ∃ k : Nat, k ≤ es.length ∧ i = .int .i64 k ∧ ∃ ys, Hid (J (pre ++ ys) wr) ∧ Hid (ys.map Prod.snd = (if wholeB es Lo = true then [Lo] else []) ++ (List.range k).flatMap (tryS n specs calls es ls f Lo (ps.map Prod.fst))) ∧ Hid (KeepX r W wr)) (fun i _ => es.length - (intOf i).toNat)
      case atStart => exact ⟨0, Nat.zero_le _, rfl, ys0, HJS, hide (by rw [HYS.out]; simp), HKS⟩
      case round =>
        obtain ⟨k, hk, rfl, ys, hJy, hiff, hkc⟩ := hrel
        have hfr := HFC.out.keep hkc.out
        have cs := hfr.s
        have cy := hfr.y
        have cf := hfr.f
        have hvr := hkc.out.sl HNV.out HV.out
        have hstr := hkc.out.st HFC.out.num HST.out
        have hzr := hkc.out.size
        by_cases hlt : k < es.length
        · have NF := sfree_any b n S C (.slice Ae es.length ce) (.slice LA Lo.length lc) es Lo k wr hfr.ctx.at_ hfr.ctx.evs hvr
          have HSTR := hide hstr
          have HFR0 := hide hfr
          have q0 : (0 : Int) ≤ (k : Int) := by omega
          have q1 : (k : Int) < (es.length : Int) := by omega
          clear hfr hvr hstr
          rcases hfb : freeB es Lo k with _ | _
          · have HFB := hide hfb
            rw [hfb] at NF
            clear hfb
            gi_wp2
            refine ⟨trivial, (callsIn_wide.2 NF).mono ?_⟩
            rintro e3 w3 ⟨rfl, hb3⟩
            clear NF
            have HB3 := hide hb3
            clear hb3
            gi_wp2
            go_roundw
            case rel => exact ⟨k + 1, by omega, by simp, ys, hide (hJ _ _ _ none hJy.out (grown_of_below HB3.out none) (fun _ e => by cases e)), hide (by rw [flat_succ, tryS_no (Or.inl HFB.out), List.append_nil]; exact hiff.out), hide (hkc.out.trans ((KeepC.of_below HB3.out).x r))⟩
            case measure => first | (simp [intOf]; done) | (simp [intOf]; omega)
          · have HFR := hide hfb
            rw [hfb] at NF
            have hni := (freeB_iff.1 hfb).1
            have HND2 := hide (show (Lo ++ [k]).Nodup by
              rw [List.nodup_append]
              refine ⟨HND.out, by simp, fun a ha b hb => ?_⟩
              simp at hb
              subst hb
              exact fun e => hni (e ▸ ha))
            have HLT2 := hide (show ∀ x ∈ Lo ++ [k], x < es.length from fun x hx => by
              rcases List.mem_append.1 hx with h | h
              · exact HLT.out x h
              · simp at h; omega)
            obtain ⟨f', hf'⟩ : ∃ f', f = f' + 1 := by
              rcases f with _ | f'
              · exact absurd (nodup_all HND.out HLT.out (by have := HLEN.out; omega) hlt) hni
              · exact ⟨f', rfl⟩
            subst hf'
            clear hfb hni
            gi_wp2
            refine ⟨trivial, (callsIn_wide.2 NF).mono ?_⟩
            rintro e3 w3 ⟨rfl, hb3⟩
            clear NF
            have hfr3 := HFR0.out.keepC (KeepC.of_below hb3)
            have ND := sdo_any b B k (80 + 2 * Lo.length) n S C (.slice Ae es.length ce) (.slice vA ps.length vc) specs calls es ls ps w3 hfr3.ctx ((KeepC.of_below hb3).st HSTR.out) (by have := HBW.out; have := hb3.size; omega) HE.out hlt HOKS.out (by have := HM6.out; have := HLEN.out; omega) (by have := HS8.out; omega)
            replace cs := hfr3.s
            replace cy := hfr3.y
            replace cf := hfr3.f
            have HFR3 := hide hfr3
            have HB3 := hide hb3
            clear hfr3 hb3
            gi_wp2
            refine ⟨trivial, (callsIn_wide.2 ND).mono ?_⟩
            rintro e4 w2 ⟨v2, ps2, rfl, hst2, hps2, hb2⟩
            clear ND
            have HB2 : Hid (Below wr.heap.size wr w2) := hide (HB3.out.trans (hb2.mono HB3.out.size))
            have HFC2 := hide (HFR0.out.keepC (KeepC.of_below HB2.out))
            have HKC2 := hide (hkc.out.trans ((KeepC.of_below HB2.out).x r))
            have HST2 := hide hst2
            have HPS2 := hide hps2
            have HJ2 := hide (hJ _ _ _ none hJy.out (grown_of_below HB2.out none) (fun _ e => by cases e))
            have HV2 := hide (HKC2.out.sl HNV.out HV.out)
            have HOK2 : Hid (StOk n specs (ps2.map Prod.fst) (80 + 2 * (Lo ++ [k]).length)) := hide (by
              rw [hps2]
              have := HOKS.out.step (ls := ls) (by omega) HE.out k
              rw [show 80 + 2 * (Lo ++ [k]).length = 80 + 2 * Lo.length + 2 by simp; omega]
              exact this)
            obtain ⟨v2A, v2c, rfl, _⟩ := ob_len stEn_len hst2
            replace cs := HFC2.out.s
            replace cy := HFC2.out.y
            replace cf := HFC2.out.f
            have hSF := hide cf
            rcases hkb : (stepL n specs calls es ls (ps.map Prod.fst) k).2 with _ | _
            · have HKB := hide hkb
              clear hkb hst2 hps2 hb2
              gi_wp2
              refine wpIn_wide.2 ?_
              refine wp_region_seql (fun Y => Y.cell? ⟨Bf, 0, none⟩ = some (fromV Bs By Bf)) [9, 10, 11] (.take 0 <| .take 1 <| .take 2 <| .take 3 <| .take 5 <| .take 8 <| .fork 4 (.run 6 <| .run 7 <| .run 9 <| .run 10 <| .run 11 <| .done) 6 (.run 4 <| .run 7 <| .run 9 <| .run 10 <| .run 11 <| .done)) (by kernel_rfl) (by kernel_rfl) (by kernel_rfl) hSF.out ?_
              iterate 6 (first | (refine seql_take (v := ?_) rfl (by rfl) ?_ ?_; rotate_left; (focus (intro wS hS; go_simp; exact rfl)); simp only [Act.put, List.setIfInBounds_toArray, List.set_cons_zero, List.set_cons_succ]) | (refine seql_skip rfl (by rfl) ?_; simp only [Act.put, List.setIfInBounds_toArray, List.set_cons_zero, List.set_cons_succ]))
              refine seql_fork ?_ ?_
              all_goals
                iterate 5 (refine seql_pass rfl (by rfl) (fun _ => by assumption) ?_; simp only [Act.put, List.setIfInBounds_toArray, List.set_cons_zero, List.set_cons_succ])
                refine seql_late rfl rfl (by rfl) (fun K hK => ?_)
                go_simp
                refine hK _ _ ?_
                clear hK K
                refine seql_nil ?_
                gi_wp2
                go_roundw
                case rel => exact ⟨k + 1, by omega, by simp, ys, hide (hJ _ _ _ none HJ2.out (grown_of_below ((Below.refl _ _).drew) none) (fun _ e => by cases e)), hide (by rw [flat_succ, tryS_no (Or.inr HKB.out), List.append_nil]; exact hiff.out), hide (HKC2.out.trans ((KeepC.of_below ((Below.refl _ _).drew)).x r))⟩
                case measure => first | (simp [intOf]; done) | (simp [intOf]; omega)
            · have HOKB := hide hkb
              have HCNT : Hid (ys.length + (allS n specs calls es ls f' (Lo ++ [k]) (stepL n specs calls es ls (ps.map Prod.fst) k).1).length ≤ (allS n specs calls es ls (f' + 1) Lo (ps.map Prod.fst)).length) := hide (by
                have h1 := (allS_part (n := n) (specs := specs) (calls := calls) (es := es) (ls := ls) (f := f' + 1) (L := Lo) (sts := ps.map Prod.fst) (k := k + 1) (by omega)).length_le
                have h2 := congrArg List.length hiff.out
                rw [flat_succ, tryS_go HFR.out HOKB.out] at h1
                simp only [List.length_append, List.length_map] at h1 h2
                omega)
              clear hkb hst2 hps2 hb2
              obtain ⟨i0, hi, hz0, hz1, hz2⟩ := info_parts info_int
              gi_wp2
              refine wpIn_wide.2 ?_
              refine wp_region_seql (fun Y => Y.cell? ⟨Bf, 0, none⟩ = some (fromV Bs By Bf)) [9, 10, 11] (.take 0 <| .take 1 <| .take 2 <| .take 3 <| .take 5 <| .take 8 <| .fork 4 (.run 6 <| .run 7 <| .run 9 <| .run 10 <| .run 11 <| .done) 6 (.run 4 <| .run 7 <| .run 9 <| .run 10 <| .run 11 <| .done)) (by kernel_rfl) (by kernel_rfl) (by kernel_rfl) hSF.out ?_
              iterate 6 (refine seql_take (v := ?_) rfl (by rfl) ?_ ?_; rotate_left; (focus (intro wS hS; go_simp; exact rfl)); simp only [Act.put, List.setIfInBounds_toArray, List.set_cons_zero, List.set_cons_succ])
              refine seql_fork ?_ ?_
              · refine seql_run rfl (by rfl) (fun K hK => ?_)
                go_simp
                refine (iclone_any _ (ordI Lo) w2.drew HV2.out (by have := HM6.out; have := HLEN.out; simp; omega)).mono ?_
                rintro e6 w6 ⟨vN, rfl, hown6, hb6⟩
                have hb26 : Below w2.heap.size w2 w6 := (Below.refl _ _).drew.trans hb6
                refine hK _ _ ((KeepC.of_below hb26).cell hSF.out) ?_
                clear hK K
                refine seql_run rfl (by rfl) (fun K hK => ?_)
                go_simp
                refine hK _ _ (((KeepC.of_below hb26).trans (KeepC.of_below ((Below.refl _ _).alloc (Nat.le_refl _) _))).cell hSF.out) ?_
                clear hK K
                have HBN : Hid (Below w2.heap.size w2 (w6.alloc (.cells #[.int .i64 (k : Int)] 3))) := hide (hb26.alloc hb26.size _)
                have HOW : Hid (∀ j, vN.ownBlock = some j → w2.heap.size ≤ j) := hide (fun j hj => (hown6.lt j hj).1)
                refine seql_run rfl (by rfl) (fun K hK => ?_)
                refine wp_append_own_at _ _ 42 rfl w2.heap.size 3 i0 (.int .i64 0) 1 8 Tryz.underlying42 hi hz0 hz1 hz2 rfl (by decide) vN (ordI Lo).length ((ordI Lo).map (Value.int .i64)) rfl (World.ownsRow.alloc hown6 _) ⟨w6.heap.size, 0, none⟩ 1 1 [.int .i64 (k : Int)] rfl rfl (cell_one_new _ _ _) (by simp [Value.oneCell']) (by have := HM6.out; have := HLEN.out; simp [maxLen]; omega) (by have := HM6.out; have := HLEN.out; simp; omega) (by have := hb26.size; simp; omega) ?_
                intro v7 w7 hown7 hgrow7 _ _
                have hB7 : Below w2.heap.size w2 w7 := Below.grown (row := vN.ownBlock) HBN.out hgrow7 HBN.out.size (fun j hj => HOW.out j hj)
                obtain ⟨A7, c7, rfl⟩ := own_slice hown7
                have HOW7 : Hid (∀ j, (Value.slice A7 (Lo.length + 1) c7).ownBlock = some j → w2.heap.size ≤ j) := hide (fun j hj => by have h := hown7.lt j; simp at h; exact (h hj).1)
                have hsl7 : SlI w7 (.slice A7 (Lo.length + 1) c7) (ordI (Lo ++ [k])) := by
                  have h := sl_of_owns (kk := .i64) (xs := ordI (Lo ++ [k])) (by simpa [ordI] using hown7) (by have := HM6.out; have := HLEN.out; simp [maxLen]; omega)
                  simpa using h
                have hcb7 := KeepC.of_below hB7
                refine hK _ _ (hcb7.cell hSF.out) ?_
                clear hK K
                refine seql_late rfl rfl (by rfl) (fun K hK => ?_)
                go_simp
                have HIH := IH f' rfl (Lo ++ [k]) ps2 (.slice A7 (Lo.length + 1) c7) _ B (pre ++ ys) w7 (by simp; have := HLEN.out; omega) HND2.out HLT2.out hsl7 (notAt_ge (B := w2.heap.size) HFC2.out.num.lt HOW7.out ⟨_, _, _, rfl⟩) (hcb7.st HST2.out) (by have := HB2.out.size; have := hB7.size; have := HBW.out; omega) HOK2.out ((HFC2.out).keepC hcb7) (hJ _ _ _ none HJ2.out (grown_of_below hB7 none) (fun _ e => by cases e)) (by have := HN.out; have := HCNT.out; rw [HPS2.out, List.length_append]; omega)
                unfold fromV at *
                clear hsl7 hown7 hgrow7
                refine HIH.mono ?_
                rintro e5 w5 (⟨rfl, zs, hJ5, hiff5, hk5⟩ | ⟨rfl, zs, hne5, hJ5, hs5⟩)
                · have HK5 := hide (HKC2.out.trans ((hcb7.x r).trans hk5))
                  refine hK _ _ ?_
                  clear hK K hk5 hcb7 HIH
                  refine seql_late rfl rfl (by rfl) (fun K hK => ?_)
                  go_simp
                  refine hK _ _ ?_
                  clear hK K
                  refine seql_late rfl rfl (by rfl) (fun K hK => ?_)
                  go_simp
                  refine hK _ _ ?_
                  clear hK K
                  refine seql_nil ?_
                  gi_wp2
                  go_roundw
                  case rel =>
                    refine ⟨k + 1, by omega, by simp, ys ++ zs, hide ?_, hide ?_, HK5⟩
                    · rw [← List.append_assoc]; exact hJ5
                    · rw [List.map_append, hiff.out, hiff5, flat_succ, tryS_go HFR.out HOKB.out, HPS2.out, List.append_assoc]
                  case measure => first | (simp [intOf]; done) | (simp [intOf]; omega)
                · refine hK _ _ ?_
                  clear hK K hcb7 HIH
                  refine seql_late rfl rfl (by rfl) (fun K hK => ?_)
                  go_simp
                  refine hK _ _ ?_
                  clear hK K
                  refine seql_late rfl rfl (by rfl) (fun K hK => ?_)
                  go_simp
                  refine hK _ _ ?_
                  clear hK K
                  refine seql_nil ?_
                  gi_wp2
                  refine bodyPost_ret (results_tmp rfl _ _ _) rfl ?_
                  refine Or.inr ⟨rfl, ys ++ zs, by simp [hne5], by rw [← List.append_assoc]; exact hJ5, ?_⟩
                  refine List.IsPrefix.trans ?_ (allS_part (k := k + 1) (by omega))
                  rw [List.map_append, hiff.out, flat_succ, tryS_go HFR.out HOKB.out, ← HPS2.out, ← List.append_assoc]
                  rw [List.prefix_append_right_inj]
                  exact hs5
              · refine seql_run rfl (by rfl) (fun K hK => ?_)
                go_simp
                refine hK _ _ ((KeepC.of_below (((Below.refl w2.heap.size w2).drew).alloc (Nat.le_refl _) _)).cell hSF.out) ?_
                clear hK K
                refine seql_run rfl (by rfl) (fun K hK => ?_)
                go_simp
                have hba : Below w2.heap.size w2 (w2.drew.alloc (.cells #[.int .i64 (k : Int)] 3)) := ((Below.refl w2.heap.size w2).drew).alloc (Nat.le_refl _) _
                refine (iclone_any _ (ordI Lo) _ (HV2.out.below hba (Nat.le_refl _)) (by have := HM6.out; have := HLEN.out; simp; omega)).mono ?_
                rintro e6 w6 ⟨vN, rfl, hown6, hb6⟩
                have hb26 : Below w2.heap.size w2 w6 := hba.trans (hb6.mono (by simp))
                have hnew : w6.cell? ⟨w2.heap.size, 0, none⟩ = some (.int .i64 (k : Int)) := (hb6.cell (p := ⟨w2.heap.size, 0, none⟩) (by simp)).trans (cell_one_new _ _ _ 0 _ rfl)
                refine hK _ _ ((KeepC.of_below hb26).cell hSF.out) ?_
                clear hK K
                have HBN : Hid (Below w2.heap.size w2 w6) := hide hb26
                have HOW : Hid (∀ j, vN.ownBlock = some j → w2.heap.size ≤ j) := hide (fun j hj => by have := (hown6.lt j hj).1; simp at this; omega)
                refine seql_run rfl (by rfl) (fun K hK => ?_)
                refine wp_append_own_at _ _ 42 rfl w2.heap.size 3 i0 (.int .i64 0) 1 8 Tryz.underlying42 hi hz0 hz1 hz2 rfl (by decide) vN (ordI Lo).length ((ordI Lo).map (Value.int .i64)) rfl (owns_base hown6 (by simp)) ⟨w2.heap.size, 0, none⟩ 1 1 [.int .i64 (k : Int)] rfl rfl (fun j u hu => by rcases j with _ | j; (cases hu; exact hnew); (cases hu)) (by simp [Value.oneCell']) (by have := HM6.out; have := HLEN.out; simp [maxLen]; omega) (by have := HM6.out; have := HLEN.out; simp; omega) (by have := hb26.size; omega) ?_
                intro v7 w7 hown7 hgrow7 _ _
                have hB7 : Below w2.heap.size w2 w7 := Below.grown (row := vN.ownBlock) HBN.out hgrow7 HBN.out.size (fun j hj => HOW.out j hj)
                obtain ⟨A7, c7, rfl⟩ := own_slice hown7
                have HOW7 : Hid (∀ j, (Value.slice A7 (Lo.length + 1) c7).ownBlock = some j → w2.heap.size ≤ j) := hide (fun j hj => by have h := hown7.lt j; simp at h; exact (h hj).1)
                have hsl7 : SlI w7 (.slice A7 (Lo.length + 1) c7) (ordI (Lo ++ [k])) := by
                  have h := sl_of_owns (kk := .i64) (xs := ordI (Lo ++ [k])) (by simpa [ordI] using hown7) (by have := HM6.out; have := HLEN.out; simp [maxLen]; omega)
                  simpa using h
                have hcb7 := KeepC.of_below hB7
                refine hK _ _ (hcb7.cell hSF.out) ?_
                clear hK K
                refine seql_late rfl rfl (by rfl) (fun K hK => ?_)
                go_simp
                have HIH := IH f' rfl (Lo ++ [k]) ps2 (.slice A7 (Lo.length + 1) c7) _ B (pre ++ ys) w7 (by simp; have := HLEN.out; omega) HND2.out HLT2.out hsl7 (notAt_ge (B := w2.heap.size) HFC2.out.num.lt HOW7.out ⟨_, _, _, rfl⟩) (hcb7.st HST2.out) (by have := HB2.out.size; have := hB7.size; have := HBW.out; omega) HOK2.out ((HFC2.out).keepC hcb7) (hJ _ _ _ none HJ2.out (grown_of_below hB7 none) (fun _ e => by cases e)) (by have := HN.out; have := HCNT.out; rw [HPS2.out, List.length_append]; omega)
                unfold fromV at *
                clear hsl7 hown7 hgrow7
                refine HIH.mono ?_
                rintro e5 w5 (⟨rfl, zs, hJ5, hiff5, hk5⟩ | ⟨rfl, zs, hne5, hJ5, hs5⟩)
                · have HK5 := hide (HKC2.out.trans ((hcb7.x r).trans hk5))
                  refine hK _ _ ?_
                  clear hK K hk5 hcb7 HIH
                  refine seql_late rfl rfl (by rfl) (fun K hK => ?_)
                  go_simp
                  refine hK _ _ ?_
                  clear hK K
                  refine seql_late rfl rfl (by rfl) (fun K hK => ?_)
                  go_simp
                  refine hK _ _ ?_
                  clear hK K
                  refine seql_nil ?_
                  gi_wp2
                  go_roundw
                  case rel =>
                    refine ⟨k + 1, by omega, by simp, ys ++ zs, hide ?_, hide ?_, HK5⟩
                    · rw [← List.append_assoc]; exact hJ5
                    · rw [List.map_append, hiff.out, hiff5, flat_succ, tryS_go HFR.out HOKB.out, HPS2.out, List.append_assoc]
                  case measure => first | (simp [intOf]; done) | (simp [intOf]; omega)
                · refine hK _ _ ?_
                  clear hK K hcb7 HIH
                  refine seql_late rfl rfl (by rfl) (fun K hK => ?_)
                  go_simp
                  refine hK _ _ ?_
                  clear hK K
                  refine seql_late rfl rfl (by rfl) (fun K hK => ?_)
                  go_simp
                  refine hK _ _ ?_
                  clear hK K
                  refine seql_nil ?_
                  gi_wp2
                  refine bodyPost_ret (results_tmp rfl _ _ _) rfl ?_
                  refine Or.inr ⟨rfl, ys ++ zs, by simp [hne5], by rw [← List.append_assoc]; exact hJ5, ?_⟩
                  refine List.IsPrefix.trans ?_ (allS_part (k := k + 1) (by omega))
                  rw [List.map_append, hiff.out, flat_succ, tryS_go HFR.out HOKB.out, ← HPS2.out, ← List.append_assoc]
                  rw [List.prefix_append_right_inj]
                  exact hs5
        · have d9 : decide ((k : Int) < (es.length : Int)) = false := by simp; omega
          have hkk : k = es.length := by omega
          clear hlt
          gi_wp2
          refine bodyPost_ret (results_tmp rfl _ _ _) rfl ?_
          exact Or.inl ⟨rfl, ys, hJy.out, by rw [hiff.out, allS_eq, hkk], hkc.out⟩
    · gi_wp2
      refine bodyPost_ret (results_tmp rfl _ _ _) rfl ?_
      refine Or.inr ⟨rfl, _, by simp, hJx3, ?_⟩
      have h1 := allS_part (n := n) (specs := specs) (calls := calls) (es := es) (ls := ls) (f := f) (L := Lo) (sts := ps.map Prod.fst) (k := 0) (Nat.zero_le _)
      rw [if_pos HWB.out] at h1
      simpa using h1
end Go.Proofs.YtmiimpmfkjcjlaaGreat
