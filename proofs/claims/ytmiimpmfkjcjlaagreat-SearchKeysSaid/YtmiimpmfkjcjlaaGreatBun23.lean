import Derived.Test.YtmiimpmfkjcjlaaGreatBun9
import Derived.Test.YtmiimpmfkjcjlaaGreatBun22
import Derived.Test.YtmiimpmfkjcjlaaGreatBun18
namespace Go.Proofs.YtmiimpmfkjcjlaaGreat
open Go.RowKit
set_option maxRecDepth 100000 in
set_option maxHeartbeats 1000000 in
theorem iclone_any (v : Value) (xs : List Int) (w : World) (h : SlI w v xs) (hb : xs.length ≤ 1000000) :
    Calls Tryz.prog 97 #[v] w fun e w' => ∃ v', e = .returned v' ∧ IOwn w' w.heap.size v' xs.length xs ∧ Below w.heap.size w w' := by
  obtain ⟨A, cap, rfl, h1, h2, h3⟩ := h
  obtain ⟨i0, hi, hz0, hz1, hz2⟩ := info_parts info_int
  have q32 : ∀ (w : World) (a : Option Addr) (n c n' c' : Nat), (binOp .eql 42 (.slice a n c) (.slice none n' c')).run Tryz.prog w = .ok (.bool a.isNone) w := fun w a n c n' c' => Lib.run_eql_slice_nil w _ _ a n c n' c' Tryz.underlying42
  rcases A with _ | a
  · have hx : xs = [] := by
      rcases xs with _ | ⟨x, xs⟩
      · rfl
      · obtain ⟨b, o, hA, _⟩ := h3 0 x rfl
        cases hA
    subst hx
    clear h3
    go_enter Tryz.func97, Tryz.ntmps97
    go_wp2
    go_ret
    exact ⟨_, rfl, World.ownsRow_nil _ _ _ _, by (repeat' (first | exact Below.refl _ _ | assumption | refine Below.drew ?_ | refine below_drewN ?_ _ | refine Below.alloc ?_ (by simp <;> omega) _ | refine Below.setCell ?_ (by simp <;> omega) _))⟩
  · have hnews : ∀ j u, (xs.map (Value.int .i64))[j]? = some u → (w.alloc (.cells #[] 3)).cell? (a.add j) = some u := by
      intro j u hu
      rw [List.getElem?_map] at hu
      rcases hx : xs[j]? with _ | x
      · rw [hx] at hu; cases hu
      · rw [hx] at hu
        obtain ⟨b, o, hA, hbw, hc⟩ := h3 j x hx
        cases hA
        cases hu
        have := nt_cell hc
        rw [Addr.add_lit]
        simp only [Nat.mul_one] at this
        exact Lib.cell?_alloc_some _ this
    clear h3
    go_enter Tryz.func97, Tryz.ntmps97
    go_wp2_with (first
      | (at_builtin; refine wpList_append_own_at _ rfl _ _ 42 rfl w.heap.size 3 i0 (.int .i64 0) 1 8 Tryz.underlying42 hi hz0 hz1 hz2 rfl (by decide) _ _ _ rfl (World.ownsRow_made w #[] 0 (Nat.le_refl _) (Nat.zero_le _) rfl) a xs.length cap (xs.map (Value.int .i64)) rfl (by simp) hnews (ints_oneCell .i64 xs) (by unfold maxLen; omega) (by omega) (by simp) ?_; intro v' w5 hown' hgrow hnil hloc)
      | go_in)
    go_ret
    exact ⟨_, rfl, by simpa using hown', ((Below.refl _ w).alloc (Nat.le_refl _) _).grown hgrow (by simp) (by intro k hk; cases hk; exact Nat.le_refl _)⟩
theorem st_one (ps : List StP) : ∀ u ∈ ps.flatMap stEn, u.oneCell' = true := by
  intro u hu
  rw [st_flat] at hu
  obtain ⟨p, _, rfl⟩ := List.mem_map.1 hu
  rfl
theorem st_base {w : World} {B B' : Nat} {v : Value} {ps : List StP} {n : Nat} (h : w.ownsRow B 24 1 v n (ps.flatMap stEn)) (hn : n = ps.length) (hb : B' ≤ B) (h2 : ∀ p ∈ ps, SlW w (.slice p.2.1 p.1.length p.2.2) p.1 ∧ Tw w (.slice p.2.1 p.1.length p.2.2)) : StRow w B' v ps := by
  subst hn
  exact ⟨owns_base h hb, h2⟩
set_option maxRecDepth 100000 in
set_option maxHeartbeats 1000000 in
theorem stclone_any (v : Value) (B : Nat) (ps : List StP) (w : World) (h : StRow w B v ps) (hb : ps.length ≤ 1000) :
    Calls Tryz.prog 157 #[v] w fun e w' => ∃ v', e = .returned v' ∧ StRow w' w.heap.size v' ps ∧ Below w.heap.size w w' := by
  obtain ⟨i0, hi, hz0, hz1, hz2⟩ := info_parts info_slw
  have q32 : ∀ (w : World) (a : Option Addr) (n c n' c' : Nat), (binOp .eql 51 (.slice a n c) (.slice none n' c')).run Tryz.prog w = .ok (.bool a.isNone) w := fun w a n c n' c' => Lib.run_eql_slice_nil w _ _ a n c n' c' Tryz.underlying51
  have HH := hide h
  rcases h.1.2 with ⟨rfl, hp⟩ | ⟨g, cap, cur, rfl, hB, hg, hnc, hcm, hcs, htake⟩
  · have hx : ps = [] := List.length_eq_zero_iff.1 hp
    subst hx
    go_enter Tryz.func157, Tryz.ntmps157
    go_wp2
    go_ret
    exact ⟨_, rfl, ob_nil _ _, by (repeat' (first | exact Below.refl _ _ | assumption | refine Below.drew ?_ | refine below_drewN ?_ _ | refine Below.alloc ?_ (by simp <;> omega) _ | refine Below.setCell ?_ (by simp <;> omega) _))⟩
  · have hnews : ∀ j u, (ps.flatMap stEn)[j]? = some u → (w.alloc (.cells #[] 24)).cell? ((⟨g, 0, none⟩ : Addr).add j) = some u := by
      intro j u hu
      rw [st_flat, List.getElem?_map] at hu
      rcases hx : ps[j]? with _ | p
      · rw [hx] at hu; cases hu
      · rw [hx] at hu
        cases hu
        obtain ⟨g', cap', e, _, _, _, hc, _⟩ := ob_get stEn_len HH.out hx
        cases e
        have := hc 0 _ rfl
        rw [Addr.add_lit]
        simp only [Nat.mul_one, Nat.add_zero] at this
        exact Lib.cell?_alloc_some _ (by simpa using this)
    have hone := st_one ps
    have hlen : (ps.flatMap stEn).length = ps.length * 1 := by rw [st_flat]; simp
    clear htake hcs hg h
    go_enter Tryz.func157, Tryz.ntmps157
    go_wp2_with (first
      | (at_builtin; refine wpList_append_own_at _ rfl _ _ 51 rfl w.heap.size 24 i0 (.slice none 0 0) 1 24 Tryz.underlying51 hi hz0 hz1 hz2 rfl (by decide) _ _ _ rfl (World.ownsRow_made w #[] 0 (Nat.le_refl _) (Nat.zero_le _) rfl) ⟨g, 0, none⟩ ps.length cap (ps.flatMap stEn) rfl hlen hnews hone (by unfold maxLen; omega) (by omega) (by simp) ?_; intro v' w5 hown' hgrow hnil hloc)
      | go_in)
    go_ret
    have hbb : Below w.heap.size w w5 := ((Below.refl _ w).alloc (Nat.le_refl _) _).grown hgrow (by simp) (by intro k hk; cases hk; exact Nat.le_refl _)
    exact ⟨_, rfl, st_base (n := 0 + ps.length) (by simpa using hown') (by omega) (Nat.le_refl _) (ob_below HH.out hbb).2, hbb⟩
theorem applyM_list (n : Int) (s : Sp) (st : List Int) (c : Cl) : (applyM n s st c).2.list.length ≤ st.length := by
  have hE : ∀ e, (anE e).list.length ≤ st.length := fun e => Nat.zero_le _
  have hV : ∀ e, (anV e).list.length ≤ st.length := fun e => Nat.zero_le _
  unfold applyM
  split
  · exact hE _
  split
  · exact hE _
  unfold actM
  repeat' split
  · unfold cellM
    repeat' split
    all_goals first | exact hE _ | exact hV _
  · unfold consM
    repeat' split
    all_goals first | exact hE _ | exact hV _
  · unfold numM
    repeat' split
    all_goals first | exact hE _ | exact hV _
  · unfold maxM
    repeat' split
    all_goals first | exact hE _ | exact hV _
  · unfold partsM
    repeat' split
    all_goals first | exact hE _ | exact hV _ | (simp; omega)
  · unfold partsM
    repeat' split
    all_goals first | exact hE _ | exact hV _ | (simp; omega)
  · unfold sharedM
    repeat' split
    all_goals first | exact hE _ | exact hV _ | (simp; done)
  · unfold queueM
    repeat' split
    all_goals first | exact hE _ | exact hV _
  · unfold pinM
    repeat' split
    all_goals first | exact hE _ | exact hV _ | exact Nat.le_refl _
structure StOk (n : Int) (specs : List Sp) (sts : List (List Int)) (M : Nat) : Prop where
  len : sts.length = specs.length
  ok : ∀ (o : Nat) (s : Sp) (x : List Int), specs[o]? = some s → sts[o]? = some x → rightM n s x = true ∧ (∀ z ∈ x, U64 z) ∧ x.length ≤ M
theorem StOk.mono {n : Int} {specs : List Sp} {sts : List (List Int)} {M M' : Nat} (h : StOk n specs sts M) (hM : M ≤ M') : StOk n specs sts M' :=
  ⟨h.len, fun o s x hs hx => by obtain ⟨h1, h2, h3⟩ := h.ok o s x hs hx; exact ⟨h1, h2, by omega⟩⟩
theorem StOk.set {n : Int} {specs : List Sp} {sts : List (List Int)} {M M' o : Nat} {s : Sp} {y : List Int} (h : StOk n specs sts M) (hM : M ≤ M') (hs : specs[o]? = some s) (h1 : rightM n s y = true) (h2 : ∀ z ∈ y, U64 z) (h3 : y.length ≤ M') : StOk n specs (sts.set o y) M' := by
  refine ⟨by rw [List.length_set]; exact h.len, fun o' s' x hs' hx => ?_⟩
  by_cases ho : o' = o
  · subst ho
    rw [hs] at hs'
    cases hs'
    have hlt : o' < sts.length := by rw [h.len]; exact (List.getElem?_eq_some_iff.1 hs).1
    rw [List.getElem?_set_self hlt] at hx
    cases hx
    exact ⟨h1, h2, h3⟩
  · rw [List.getElem?_set_ne (fun e => ho e.symm)] at hx
    exact (h.mono hM).ok o' s' x hs' hx
theorem StOk.new {n : Int} {specs : List Sp} (h : ∀ s ∈ specs, sizeE n s = 0) : StOk n specs (specs.map (newM n)) 80 := by
  refine ⟨by simp, fun o s x hs hx => ?_⟩
  rw [List.getElem?_map, hs] at hx
  cases hx
  have h0 := h s (List.mem_of_getElem? hs)
  exact ⟨rightM_newM n s h0, u64_new, newM_len n s h0⟩
structure EvsOk (n : Int) (calls : List Cl) (es : List Ev) : Prop where
  call : ∀ (k : Nat) (e : Ev), es[k]? = some e → 0 ≤ e.call ∧ e.call < calls.length
  thread : ∀ (k : Nat) (e : Ev) (c : Cl), es[k]? = some e → calls[e.call.toNat]? = some c → 0 ≤ c.thread ∧ c.thread < n
  word : ∀ c ∈ calls, U64 c.a ∧ U64 c.b ∧ U64 c.c
theorem legalM_ok {n : Int} {s : Sp} {st : List Int} {c : Cl} (a : An) (hR : rightM n s st = true) (hu : ∀ z ∈ st, U64 z) (ha : U64 c.a) (hb : U64 c.b) (hc : U64 c.c) (ht0 : 0 ≤ c.thread) (ht1 : c.thread < n) :
    rightM n s (legalM n s st c a).1 = true ∧ (∀ z ∈ (legalM n s st c a).1, U64 z) ∧ (legalM n s st c a).1.length ≤ max 80 (st.length + 2) := by
  unfold legalM
  split
  · exact applyM_ok hR hu ha hb hc ht0 ht1
  · exact ⟨hR, hu, by simp only; omega⟩
section
variable {n : Int} {specs : List Sp} {calls : List Cl} {es : List Ev} {ls : Nat → List Int} {sts : List (List Int)} {M i : Nat} {e : Ev} {c : Cl}
theorem stepL_eq (he : es[i]? = some e) (hc : calls[e.call.toNat]? = some c) : stepL n specs calls es ls sts i = stepC n specs sts e (ls i) c := by
  unfold stepL
  rw [he]
  simp only [hc]
theorem stepC_out {l : List Int} (ho : ¬ (0 ≤ c.obj ∧ c.obj < specs.length)) : stepC n specs sts e l c = (sts, decide (e.resp = 0) || (decide (e.err = 12) && (decide (e.val = 0) && decide (l = [])))) := by
  unfold stepC
  rw [if_pos ho]
theorem stepC_in0 {l : List Int} {o : Nat} {s : Sp} {x : List Int} (ho : c.obj = (o : Int)) (hs : specs[o]? = some s) (hx : sts[o]? = some x) (hr : e.resp = 0) : stepC n specs sts e l c = (sts.set o (applyM n s x c).1, true) := by
  have := (List.getElem?_eq_some_iff.1 hs).1
  unfold stepC
  rw [if_neg (by omega), if_pos hr, ho]
  simp only [Int.toNat_natCast, hs, hx, Option.getD_some]
theorem stepC_in1 {l : List Int} {o : Nat} {s : Sp} {x : List Int} (ho : c.obj = (o : Int)) (hs : specs[o]? = some s) (hx : sts[o]? = some x) (hr : e.resp ≠ 0) : stepC n specs sts e l c = (sts.set o (legalM n s x c ⟨e.err, e.val, l⟩).1, (legalM n s x c ⟨e.err, e.val, l⟩).2) := by
  have := (List.getElem?_eq_some_iff.1 hs).1
  unfold stepC
  rw [if_neg (by omega), if_neg hr, ho]
  simp only [Int.toNat_natCast, hs, hx, Option.getD_some]
theorem StOk.step (h : StOk n specs sts M) (hM : 80 ≤ M) (hE : EvsOk n calls es) (i : Nat) : StOk n specs (stepL n specs calls es ls sts i).1 (M + 2) := by
  unfold stepL
  split
  · exact h.mono (by omega)
  · rename_i e he
    split
    · exact h.mono (by omega)
    · rename_i c hc
      obtain ⟨t0, t1⟩ := hE.thread i e c he hc
      obtain ⟨ua, ub, uc⟩ := hE.word c (List.mem_of_getElem? hc)
      by_cases ho : 0 ≤ c.obj ∧ c.obj < specs.length
      · obtain ⟨o, hco⟩ := Int.eq_ofNat_of_zero_le ho.1
        obtain ⟨s, hs⟩ : ∃ s, specs[o]? = some s := ⟨_, List.getElem?_eq_getElem (by omega)⟩
        obtain ⟨x, hx⟩ : ∃ x, sts[o]? = some x := ⟨_, List.getElem?_eq_getElem (by rw [h.len]; omega)⟩
        obtain ⟨g1, g2, g3⟩ := h.ok o s x hs hx
        by_cases hr : e.resp = 0
        · rw [stepC_in0 hco hs hx hr]
          obtain ⟨k1, k2, k3⟩ := applyM_ok g1 g2 ua ub uc t0 t1
          exact h.set (by omega) hs k1 k2 (by omega)
        · rw [stepC_in1 hco hs hx hr]
          obtain ⟨k1, k2, k3⟩ := legalM_ok ⟨e.err, e.val, ls i⟩ g1 g2 ua ub uc t0 t1
          exact h.set (by omega) hs k1 k2 (by omega)
      · rw [stepC_out ho]
        exact h.mono (by omega)
end
end Go.Proofs.YtmiimpmfkjcjlaaGreat

namespace Go.Proofs.YtmiimpmfkjcjlaaGreat
open Go.RowKit
structure SsCtx (w : World) (b : Nat) (n : Int) (S C L : Value) (specs : List Sp) (calls : List Cl) (es : List Ev) (ls : Nat → List Int) : Prop where
  at_ : SsAt w b n S C L
  specs : SlSp w S specs
  calls : SlCl w C calls
  evs : SlEv w L es
  lst : ∀ (k : Nat) (e : Ev), es[k]? = some e → SlW w (.slice e.lA e.lN e.lC) (ls k)
theorem SsCtx.below {w w' : World} {b : Nat} {n : Int} {S C L : Value} {specs : List Sp} {calls : List Cl} {es : List Ev} {ls : Nat → List Int} (h : SsCtx w b n S C L specs calls es ls) (hb : Below w.heap.size w w') : SsCtx w' b n S C L specs calls es ls :=
  ⟨h.at_.below hb, h.specs.below hb (Nat.le_refl _), h.calls.below hb (Nat.le_refl _), h.evs.below hb (Nat.le_refl _), fun k e he => (h.lst k e he).below hb (Nat.le_refl _)⟩
def SdPost (B : Nat) (R : List (List Int) × Bool) (w : World) (e : Ending) (w' : World) : Prop :=
  ∃ v ps, e = .returned (.tuple #[v, .bool R.2]) ∧ StRow w' B v ps ∧ ps.map Prod.fst = R.1 ∧ Below w.heap.size w w'
theorem cells8e {w : World} {g : Nat} {x0 x1 x2 x3 x4 x5 x6 x7 : Value} {t : TypeId} (h : w.heap[g]? = some (.cells #[x0, x1, x2, x3, x4, x5, x6, x7] t (0, 0))) :
    w.cell? ⟨g, 0, none⟩ = some x0 ∧ w.cell? ⟨g, 1, none⟩ = some x1 ∧ w.cell? ⟨g, 2, none⟩ = some x2 ∧ w.cell? ⟨g, 3, none⟩ = some x3 ∧ w.cell? ⟨g, 4, none⟩ = some x4 ∧ w.cell? ⟨g, 5, none⟩ = some x5 ∧ w.cell? ⟨g, 6, none⟩ = some x6 ∧ w.cell? ⟨g, 7, none⟩ = some x7 ∧ g < w.heap.size :=
  ⟨cell_of_row _ _ 0 _ _ _ h, cell_of_row _ _ 1 _ _ _ h, cell_of_row _ _ 2 _ _ _ h, cell_of_row _ _ 3 _ _ _ h, cell_of_row _ _ 4 _ _ _ h, cell_of_row _ _ 5 _ _ _ h, cell_of_row _ _ 6 _ _ _ h, cell_of_row _ _ 7 _ _ _ h, (Array.getElem?_eq_some_iff.1 h).1⟩
set_option maxRecDepth 100000 in
set_option maxHeartbeats 4000000 in
theorem sdo_out (b B i : Nat) (n : Int) (S C L v : Value) (specs : List Sp) (calls : List Cl) (es : List Ev) (ls : Nat → List Int) (ps : List StP) (e : Ev) (c : Cl) (w : World) (hX : SsCtx w b n S C L specs calls es ls) (hSt : StRow w B v ps) (hE : EvsOk n calls es) (he : es[i]? = some e) (hc : calls[e.call.toNat]? = some c) (ho : ¬ (0 ≤ c.obj ∧ c.obj < specs.length)) :
    Calls Tryz.prog 96 #[.pointer (some ⟨b, 0, none⟩), v, .int .i64 (i : Int)] w (SdPost B (stepL n specs calls es ls (ps.map Prod.fst) i) w) := by
  rw [stepL_eq he hc, stepC_out ho]
  have hlst := hX.lst i e he
  have hlN : e.lN = (ls i).length := by obtain ⟨_, _, e1, _⟩ := hlst; injection e1
  obtain ⟨Ae, ce, rfl, ge1, ge2, ge3⟩ := id hX.evs
  obtain ⟨As, cs, rfl, gs1, gs2, gs3⟩ := id hX.specs
  obtain ⟨Ac, cc, rfl, gc1, gc2, gc3⟩ := id hX.calls
  obtain ⟨ge, oe, rfl, gez, hce⟩ := ge3 i e he
  obtain ⟨u0, u1, u2, u3, u4, u5, u6, u7⟩ := ev_cells hce
  obtain ⟨hc0, hc1⟩ := hE.call i e he
  obtain ⟨i2, hi2⟩ := Int.eq_ofNat_of_zero_le hc0
  have hci : e.call.toNat = i2 := by omega
  rw [hci] at hc
  obtain ⟨gc, oc, rfl, gcz0, hcc⟩ := gc3 i2 c hc
  obtain ⟨x0, x1, x2, x3, x4, x5⟩ := cl_cells hcc
  obtain ⟨a0, a1, a2, a3, bz0⟩ := cells4 hX.at_
  obtain ⟨vA, vc, rfl, _⟩ := ob_len stEn_len hSt
  have hil := (List.getElem?_eq_some_iff.1 he).1
  have q0 : (0 : Int) ≤ (i : Int) := by omega
  have q1 : (i : Int) < (es.length : Int) := by omega
  have q2 : (0 : Int) ≤ (i2 : Int) := by omega
  have q3 : (i2 : Int) < (calls.length : Int) := by omega
  have HX := hide hX
  have HST := hide hSt
  have HI2 := hide hi2
  have bz1 := bz0
  have gz1 := gcz0
  obtain ⟨R, hR⟩ : ∃ R, (decide (e.resp = 0) || (decide (e.err = 12) && (decide (e.val = 0) && decide (ls i = [])))) = R := ⟨_, rfl⟩
  rw [hR]
  have HR := hide hR
  have HO := hide ho
  have HLN := hide hlN
  have hsl : (specs.length : Int) ≤ 9223372036854775807 := by unfold maxLen at gs2; omega
  clear hX hSt hE he hc hce hcc ge3 gc3 gs3 hi2 hci hR ho hlst hlN hc0 hc1
  go_enter Tryz.func96, Tryz.ntmps96
  go_wp2_with fail
  go_upto_region 2 with fail
  go_cut [9] (fun v9 wx => v9 = .pointer (some ⟨w.heap.size + 1, 0, none⟩) ∧ Hid (Below w.heap.size w wx) ∧ Hid (wx.heap[w.heap.size]? = some (.cells #[.int .i64 e.call, .int .i64 e.inv, .int .i64 e.resp, .int .i64 e.steps, .int .i64 e.err, .int .u64 e.val, .slice e.lA e.lN e.lC, .slice e.kA e.kN e.kC] 62 (0, 0))) ∧ Hid (wx.heap[w.heap.size + 1]? = some (.cells #[.int .i64 c.thread, .int .i64 c.obj, .int .i64 c.kind, .int .u64 c.a, .int .u64 c.b, .int .u64 c.c] 27 (0, 0))))
  case first =>
    obtain ⟨W, hW⟩ : ∃ W, W = w.alloc (.cells #[.int .i64 e.call, .int .i64 e.inv, .int .i64 e.resp, .int .i64 e.steps, .int .i64 e.err, .int .u64 e.val, .slice e.lA e.lN e.lC, .slice e.kA e.kN e.kC] 62) := ⟨_, rfl⟩
    have hBW : Below w.heap.size w W := by rw [hW]; exact (Below.refl _ _).alloc (Nat.le_refl _) _
    have hzW : W.heap.size = w.heap.size + 1 := by rw [hW]; simp
    have HEW : Hid (W.heap[w.heap.size]? = some (.cells #[.int .i64 e.call, .int .i64 e.inv, .int .i64 e.resp, .int .i64 e.steps, .int .i64 e.err, .int .u64 e.val, .slice e.lA e.lN e.lC, .slice e.kA e.kN e.kC] 62 (0, 0))) := hide (by rw [hW]; exact heap_alloc_new _ _)
    obtain ⟨e0, e1, e2, e3, e4, e5, e6, e7, ez⟩ := cells8e HEW.out
    rw [HI2.out] at e0
    replace a2 := (hBW.cell (p := ⟨b, 2, none⟩) bz0).trans a2
    replace x0 := (hBW.cell (p := ⟨gc, oc + i2 * 6, none⟩) gcz0).trans x0
    replace x1 := (hBW.cell (p := ⟨gc, oc + i2 * 6 + 1, none⟩) gcz0).trans x1
    replace x2 := (hBW.cell (p := ⟨gc, oc + i2 * 6 + 2, none⟩) gcz0).trans x2
    replace x3 := (hBW.cell (p := ⟨gc, oc + i2 * 6 + 3, none⟩) gcz0).trans x3
    replace x4 := (hBW.cell (p := ⟨gc, oc + i2 * 6 + 4, none⟩) gcz0).trans x4
    replace x5 := (hBW.cell (p := ⟨gc, oc + i2 * 6 + 5, none⟩) gcz0).trans x5
    have bz : b < W.heap.size := by omega
    have gcz : gc < W.heap.size := by omega
    have HBW := hide hBW
    rw [← hW]
    clear hW hBW
    refine wp_region_seq (Below W.heap.size W) (.take 0 <| .take 1 <| .take 2 <| .take 3 <| .take 4 <| .take 5 <| .take 6 <| .take 7 <| .run 8 <| .run 9 <| .done) (by kernel_rfl) (by kernel_rfl) (by kernel_rfl) (by (repeat' (first | with_reducible assumption | with_reducible exact Below.refl _ _ | with_reducible refine Below.drew ?_ | with_reducible refine below_drewN ?_ _ | with_reducible refine Below.alloc ?_ ?_ _ | with_reducible refine Below.setCell ?_ ?_ _ | omega | (simp; done) | (simp; omega)))) ?_
    iterate 8 (refine seq_take (v := ?_) rfl (by rfl) ?_ ?_; rotate_left; (focus (intro wS hS; have z2 := (hS.cell (p := ⟨b, 2, none⟩) bz).trans a2; have y0 := (hS.cell (p := ⟨w.heap.size, 0, none⟩) ez).trans e0; have k0 := (hS.cell (p := ⟨gc, oc + i2 * 6, none⟩) gcz).trans x0; have k1 := (hS.cell (p := ⟨gc, oc + i2 * 6 + 1, none⟩) gcz).trans x1; have k2 := (hS.cell (p := ⟨gc, oc + i2 * 6 + 2, none⟩) gcz).trans x2; have k3 := (hS.cell (p := ⟨gc, oc + i2 * 6 + 3, none⟩) gcz).trans x3; have k4 := (hS.cell (p := ⟨gc, oc + i2 * 6 + 4, none⟩) gcz).trans x4; have k5 := (hS.cell (p := ⟨gc, oc + i2 * 6 + 5, none⟩) gcz).trans x5; go_simp; exact rfl)); simp only [Act.put, List.setIfInBounds_toArray, List.set_cons_zero, List.set_cons_succ])
    refine seq_run rfl (by rfl) (fun K hK => ?_)
    go_simp
    refine hK _ _ (by (repeat' (first | with_reducible assumption | with_reducible exact Below.refl _ _ | with_reducible refine Below.drew ?_ | with_reducible refine below_drewN ?_ _ | with_reducible refine Below.alloc ?_ ?_ _ | with_reducible refine Below.setCell ?_ ?_ _ | omega | (simp; done) | (simp; omega)))) ?_
    clear hK K
    refine seq_run rfl (by rfl) (fun K hK => ?_)
    go_simp
    refine hK _ _ (by (repeat' (first | with_reducible assumption | with_reducible exact Below.refl _ _ | with_reducible refine Below.drew ?_ | with_reducible refine below_drewN ?_ _ | with_reducible refine Below.alloc ?_ ?_ _ | with_reducible refine Below.setCell ?_ ?_ _ | omega | (simp; done) | (simp; omega)))) ?_
    clear hK K
    refine seq_nil ?_
    go_wp2
    go_meet
    refine ⟨by first | rfl | rw [hzW], hide ?_, hide ?_, hide ?_⟩
    · exact HBW.out.trans (by have hq : Below W.heap.size W W := Below.refl _ _; exact Below.mono (B := W.heap.size) (by (repeat' (first | with_reducible assumption | with_reducible exact Below.refl _ _ | with_reducible refine Below.drew ?_ | with_reducible refine below_drewN ?_ _ | with_reducible refine Below.alloc ?_ ?_ _ | with_reducible refine Below.setCell ?_ ?_ _ | omega | (simp; done) | (simp; omega)))) (by omega))
    · rw [← HEW.out]
      exact (heap_alloc_old _ _ (by show w.heap.size < W.heap.size; omega)).trans rfl
    · rw [← hzW]
      exact heap_alloc_new _ _
  case rest =>
    obtain ⟨rfl, HBX, HEX, HCX⟩ := hcut
    obtain ⟨X, rfl⟩ : ∃ X, X = wc := ⟨_, rfl⟩
    obtain ⟨e0, e1, e2, e3, e4, e5, e6, e7, ez⟩ := cells8e HEX.out
    obtain ⟨c0, c1, c2, c3, c4, c5, cz⟩ := cells6 HCX.out
    rw [HI2.out] at e0
    have hzx := HBX.out.size
    replace a0 := (HBX.out.cell (p := ⟨b, 0, none⟩) bz1).trans a0
    replace a1 := (HBX.out.cell (p := ⟨b, 1, none⟩) bz1).trans a1
    replace a2 := (HBX.out.cell (p := ⟨b, 2, none⟩) bz1).trans a2
    replace a3 := (HBX.out.cell (p := ⟨b, 3, none⟩) bz1).trans a3
    have bz : b < X.heap.size := by omega
    clear x0 x1 x2 x3 x4 x5 u0 u1 u2 u3 u4 u5 u6 u7
    go_upto_region 3 with fail
    go_cut [41] (fun v41 wx => v41 = .bool true ∧ Hid (Below X.heap.size X wx))
    case first =>
      by_cases h0 : c.obj < 0
      · have d0 : decide (c.obj < 0) = true := by simpa using h0
        clear h0
        refine wp_region_seq (Below X.heap.size X) (.take 0 <| .take 1 <| .take 2 <| .take 3 <| .take 4 <| .take 5 <| .take 6 <| .take 7 <| .take 8 <| .take 9 <| .take 10 <| .take 11 <| .take 12 <| .done) (by kernel_rfl) (by kernel_rfl) (by kernel_rfl) (by (repeat' (first | with_reducible assumption | with_reducible exact Below.refl _ _ | with_reducible refine Below.drew ?_ | with_reducible refine below_drewN ?_ _ | with_reducible refine Below.alloc ?_ ?_ _ | with_reducible refine Below.setCell ?_ ?_ _ | omega | (simp; done) | (simp; omega)))) ?_
        repeat (first | (refine seq_take (v := ?_) rfl (by rfl) ?_ ?_; rotate_left; (focus (intro wS hS; have z1 := (hS.cell (p := ⟨b, 1, none⟩) bz).trans a1; have y1 := (hS.cell (p := ⟨w.heap.size + 1, 1, none⟩) cz).trans c1; go_simp; exact rfl)); simp only [Act.put, List.setIfInBounds_toArray, List.set_cons_zero, List.set_cons_succ]) | (refine seq_skip rfl (by rfl) ?_; simp only [Act.put, List.setIfInBounds_toArray, List.set_cons_zero, List.set_cons_succ]))
        refine seq_nil ?_
        go_wp2
        go_meet
        exact ⟨rfl, hide (by (repeat' (first | with_reducible assumption | with_reducible exact Below.refl _ _ | with_reducible refine Below.drew ?_ | with_reducible refine below_drewN ?_ _ | with_reducible refine Below.alloc ?_ ?_ _ | with_reducible refine Below.setCell ?_ ?_ _ | omega | (simp; done) | (simp; omega))))⟩
      · have d0 : decide (c.obj < 0) = false := by simpa using h0
        have d1 : decide ((specs.length : Int) ≤ c.obj) = true := by have := HO.out; simp; omega
        clear h0
        refine wp_region_seq (Below X.heap.size X) (.take 0 <| .take 1 <| .take 2 <| .take 3 <| .take 4 <| .take 5 <| .take 6 <| .take 7 <| .take 8 <| .take 9 <| .take 10 <| .take 11 <| .take 12 <| .done) (by kernel_rfl) (by kernel_rfl) (by kernel_rfl) (by (repeat' (first | with_reducible assumption | with_reducible exact Below.refl _ _ | with_reducible refine Below.drew ?_ | with_reducible refine below_drewN ?_ _ | with_reducible refine Below.alloc ?_ ?_ _ | with_reducible refine Below.setCell ?_ ?_ _ | omega | (simp; done) | (simp; omega)))) ?_
        repeat (first | (refine seq_take (v := ?_) rfl (by rfl) ?_ ?_; rotate_left; (focus (intro wS hS; have z1 := (hS.cell (p := ⟨b, 1, none⟩) bz).trans a1; have y1 := (hS.cell (p := ⟨w.heap.size + 1, 1, none⟩) cz).trans c1; go_simp; exact rfl)); simp only [Act.put, List.setIfInBounds_toArray, List.set_cons_zero, List.set_cons_succ]) | (refine seq_skip rfl (by rfl) ?_; simp only [Act.put, List.setIfInBounds_toArray, List.set_cons_zero, List.set_cons_succ]))
        refine seq_nil ?_
        go_wp2
        go_meet
        exact ⟨rfl, hide (by (repeat' (first | with_reducible assumption | with_reducible exact Below.refl _ _ | with_reducible refine Below.drew ?_ | with_reducible refine below_drewN ?_ _ | with_reducible refine Below.alloc ?_ ?_ _ | with_reducible refine Below.setCell ?_ ?_ _ | omega | (simp; done) | (simp; omega))))⟩
    case rest =>
      obtain ⟨rfl, HBY⟩ := hcut
      obtain ⟨Y, rfl⟩ : ∃ Y, Y = wc := ⟨_, rfl⟩
      have hzy := HBY.out.size
      replace e2 := (HBY.out.cell (p := ⟨w.heap.size, 2, none⟩) ez).trans e2
      replace e4 := (HBY.out.cell (p := ⟨w.heap.size, 4, none⟩) ez).trans e4
      replace e5 := (HBY.out.cell (p := ⟨w.heap.size, 5, none⟩) ez).trans e5
      replace e6 := (HBY.out.cell (p := ⟨w.heap.size, 6, none⟩) ez).trans e6
      replace ez : w.heap.size < Y.heap.size := by omega
      clear a0 a1 a2 a3 c0 c1 c2 c3 c4 c5 e0 e1 e3 e7
      obtain ⟨Z, hZ⟩ : ∃ Z, Z = Y.alloc (.cells #[.int .i64 e.err, .int .u64 e.val, .slice e.lA e.lN e.lC] 57) := ⟨_, rfl⟩
      have hBZ : Below Y.heap.size Y Z := by rw [hZ]; exact (Below.refl _ _).alloc (Nat.le_refl _) _
      have hzz : Z.heap.size = Y.heap.size + 1 := by rw [hZ]; simp
      obtain ⟨n0, n1, n2, _, _, _, az⟩ := cells3 (show Z.heap[Y.heap.size]? = _ from by rw [hZ]; exact heap_alloc_new _ _)
      have e2Y := e2
      have e2 := (hBZ.cell (p := ⟨w.heap.size, 2, none⟩) ez).trans e2Y
      have ez' : w.heap.size < Z.heap.size := by omega
      have HBF : Hid (Below w.heap.size w Z) := hide ((HBX.out.trans (HBY.out.mono (by omega))).trans (hBZ.mono (by omega)))
      have HZ := hide hZ
      go_wp2_with fail
      rw [← hZ]
      clear hZ hBZ e2Y e4 e5 e6
      have hfin : ∀ (X2 : World) (r : Bool), Below Z.heap.size Z X2 → r = R → SdPost B (ps.map Prod.fst, R) w (.returned (.tuple #[.slice vA ps.length vc, .bool r])) X2 := fun X2 r hX2 hr =>
        ⟨_, ps, by rw [hr], ob_below HST.out (HBF.out.trans (hX2.mono HBF.out.size)), rfl, HBF.out.trans (hX2.mono HBF.out.size)⟩
      have HFIN := hide hfin
      clear hfin
      by_cases h1 : e.resp = 0
      · have g1 : (e.resp == 0) = true := by simp [h1]
        have HT : Hid (true = R) := hide (by rw [← HR.out]; simp [h1])
        clear h1
        refine wp_region_seq (Below Z.heap.size Z) (.take 0 <| .take 1 <| .take 2 <| .take 3 <| .take 4 <| .take 5 <| .take 6 <| .take 7 <| .take 8 <| .take 9 <| .take 10 <| .take 11 <| .take 12 <| .take 13 <| .take 14 <| .take 15 <| .take 16 <| .take 17 <| .take 18 <| .take 19 <| .take 20 <| .take 21 <| .done) (by kernel_rfl) (by kernel_rfl) (by kernel_rfl) (by (repeat' (first | with_reducible assumption | with_reducible exact Below.refl _ _ | with_reducible refine Below.drew ?_ | with_reducible refine below_drewN ?_ _ | with_reducible refine Below.alloc ?_ ?_ _ | with_reducible refine Below.setCell ?_ ?_ _ | omega | (simp; done) | (simp; omega)))) ?_
        repeat (first | (refine seq_take (v := ?_) rfl (by rfl) ?_ ?_; rotate_left; (focus (intro wS hS; have y0 := (hS.cell (p := ⟨Y.heap.size, 0, none⟩) az).trans n0; have y1 := (hS.cell (p := ⟨Y.heap.size, 1, none⟩) az).trans n1; have y2 := (hS.cell (p := ⟨Y.heap.size, 2, none⟩) az).trans n2; have y3 := (hS.cell (p := ⟨w.heap.size, 2, none⟩) ez').trans e2; go_simp; exact rfl)); simp only [Act.put, List.setIfInBounds_toArray, List.set_cons_zero, List.set_cons_succ]) | (refine seq_skip rfl (by rfl) ?_; simp only [Act.put, List.setIfInBounds_toArray, List.set_cons_zero, List.set_cons_succ]))
        refine seq_nil ?_
        go_wp2
        go_ret2
        exact HFIN.out _ _ (by (repeat' (first | with_reducible assumption | with_reducible exact Below.refl _ _ | with_reducible refine Below.drew ?_ | with_reducible refine below_drewN ?_ _ | with_reducible refine Below.alloc ?_ ?_ _ | with_reducible refine Below.setCell ?_ ?_ _ | omega | (simp; done) | (simp; omega)))) HT.out
      · have g1 : (e.resp == 0) = false := by simp [h1]
        by_cases h2 : e.err = 12
        · have g2 : (e.err == 12) = true := by simp [h2]
          by_cases h3 : e.val = 0
          · have g3 : (e.val == 0) = true := by simp [h3]
            by_cases h4 : ls i = []
            · have g4 : ((e.lN : Int) == 0) = true := by have := HLN.out; rw [h4] at this; simp at this; simp [this]
              have HT : Hid (true = R) := hide (by rw [← HR.out]; simp [h1, h2, h3, h4])
              clear h1 h2 h3 h4
              refine wp_region_seq (Below Z.heap.size Z) (.take 0 <| .take 1 <| .take 2 <| .take 3 <| .take 4 <| .take 5 <| .take 6 <| .take 7 <| .take 8 <| .take 9 <| .take 10 <| .take 11 <| .take 12 <| .take 13 <| .take 14 <| .take 15 <| .take 16 <| .take 17 <| .take 18 <| .take 19 <| .take 20 <| .take 21 <| .done) (by kernel_rfl) (by kernel_rfl) (by kernel_rfl) (by (repeat' (first | with_reducible assumption | with_reducible exact Below.refl _ _ | with_reducible refine Below.drew ?_ | with_reducible refine below_drewN ?_ _ | with_reducible refine Below.alloc ?_ ?_ _ | with_reducible refine Below.setCell ?_ ?_ _ | omega | (simp; done) | (simp; omega)))) ?_
              repeat (first | (refine seq_take (v := ?_) rfl (by rfl) ?_ ?_; rotate_left; (focus (intro wS hS; have y0 := (hS.cell (p := ⟨Y.heap.size, 0, none⟩) az).trans n0; have y1 := (hS.cell (p := ⟨Y.heap.size, 1, none⟩) az).trans n1; have y2 := (hS.cell (p := ⟨Y.heap.size, 2, none⟩) az).trans n2; have y3 := (hS.cell (p := ⟨w.heap.size, 2, none⟩) ez').trans e2; go_simp; exact rfl)); simp only [Act.put, List.setIfInBounds_toArray, List.set_cons_zero, List.set_cons_succ]) | (refine seq_skip rfl (by rfl) ?_; simp only [Act.put, List.setIfInBounds_toArray, List.set_cons_zero, List.set_cons_succ]))
              refine seq_nil ?_
              go_wp2
              go_ret2
              exact HFIN.out _ _ (by (repeat' (first | with_reducible assumption | with_reducible exact Below.refl _ _ | with_reducible refine Below.drew ?_ | with_reducible refine below_drewN ?_ _ | with_reducible refine Below.alloc ?_ ?_ _ | with_reducible refine Below.setCell ?_ ?_ _ | omega | (simp; done) | (simp; omega)))) HT.out
            · have g4 : ((e.lN : Int) == 0) = false := by have := HLN.out; rw [beq_eq_false_iff_ne]; intro h0; exact h4 (List.length_eq_zero_iff.1 (by omega))
              have HT : Hid (false = R) := hide (by rw [← HR.out]; simp [h1, h4])
              clear h1 h2 h3 h4
              refine wp_region_seq (Below Z.heap.size Z) (.take 0 <| .take 1 <| .take 2 <| .take 3 <| .take 4 <| .take 5 <| .take 6 <| .take 7 <| .take 8 <| .take 9 <| .take 10 <| .take 11 <| .take 12 <| .take 13 <| .take 14 <| .take 15 <| .take 16 <| .take 17 <| .take 18 <| .take 19 <| .take 20 <| .take 21 <| .done) (by kernel_rfl) (by kernel_rfl) (by kernel_rfl) (by (repeat' (first | with_reducible assumption | with_reducible exact Below.refl _ _ | with_reducible refine Below.drew ?_ | with_reducible refine below_drewN ?_ _ | with_reducible refine Below.alloc ?_ ?_ _ | with_reducible refine Below.setCell ?_ ?_ _ | omega | (simp; done) | (simp; omega)))) ?_
              repeat (first | (refine seq_take (v := ?_) rfl (by rfl) ?_ ?_; rotate_left; (focus (intro wS hS; have y0 := (hS.cell (p := ⟨Y.heap.size, 0, none⟩) az).trans n0; have y1 := (hS.cell (p := ⟨Y.heap.size, 1, none⟩) az).trans n1; have y2 := (hS.cell (p := ⟨Y.heap.size, 2, none⟩) az).trans n2; have y3 := (hS.cell (p := ⟨w.heap.size, 2, none⟩) ez').trans e2; go_simp; exact rfl)); simp only [Act.put, List.setIfInBounds_toArray, List.set_cons_zero, List.set_cons_succ]) | (refine seq_skip rfl (by rfl) ?_; simp only [Act.put, List.setIfInBounds_toArray, List.set_cons_zero, List.set_cons_succ]))
              refine seq_nil ?_
              go_wp2
              go_ret2
              exact HFIN.out _ _ (by (repeat' (first | with_reducible assumption | with_reducible exact Below.refl _ _ | with_reducible refine Below.drew ?_ | with_reducible refine below_drewN ?_ _ | with_reducible refine Below.alloc ?_ ?_ _ | with_reducible refine Below.setCell ?_ ?_ _ | omega | (simp; done) | (simp; omega)))) HT.out
          · have g3 : (e.val == 0) = false := by simp [h3]
            have HT : Hid (false = R) := hide (by rw [← HR.out]; simp [h1, h3])
            clear h1 h2 h3
            refine wp_region_seq (Below Z.heap.size Z) (.take 0 <| .take 1 <| .take 2 <| .take 3 <| .take 4 <| .take 5 <| .take 6 <| .take 7 <| .take 8 <| .take 9 <| .take 10 <| .take 11 <| .take 12 <| .take 13 <| .take 14 <| .take 15 <| .take 16 <| .take 17 <| .take 18 <| .take 19 <| .take 20 <| .take 21 <| .done) (by kernel_rfl) (by kernel_rfl) (by kernel_rfl) (by (repeat' (first | with_reducible assumption | with_reducible exact Below.refl _ _ | with_reducible refine Below.drew ?_ | with_reducible refine below_drewN ?_ _ | with_reducible refine Below.alloc ?_ ?_ _ | with_reducible refine Below.setCell ?_ ?_ _ | omega | (simp; done) | (simp; omega)))) ?_
            repeat (first | (refine seq_take (v := ?_) rfl (by rfl) ?_ ?_; rotate_left; (focus (intro wS hS; have y0 := (hS.cell (p := ⟨Y.heap.size, 0, none⟩) az).trans n0; have y1 := (hS.cell (p := ⟨Y.heap.size, 1, none⟩) az).trans n1; have y2 := (hS.cell (p := ⟨Y.heap.size, 2, none⟩) az).trans n2; have y3 := (hS.cell (p := ⟨w.heap.size, 2, none⟩) ez').trans e2; go_simp; exact rfl)); simp only [Act.put, List.setIfInBounds_toArray, List.set_cons_zero, List.set_cons_succ]) | (refine seq_skip rfl (by rfl) ?_; simp only [Act.put, List.setIfInBounds_toArray, List.set_cons_zero, List.set_cons_succ]))
            refine seq_nil ?_
            go_wp2
            go_ret2
            exact HFIN.out _ _ (by (repeat' (first | with_reducible assumption | with_reducible exact Below.refl _ _ | with_reducible refine Below.drew ?_ | with_reducible refine below_drewN ?_ _ | with_reducible refine Below.alloc ?_ ?_ _ | with_reducible refine Below.setCell ?_ ?_ _ | omega | (simp; done) | (simp; omega)))) HT.out
        · have g2 : (e.err == 12) = false := by simp [h2]
          have HT : Hid (false = R) := hide (by rw [← HR.out]; simp [h1, h2])
          clear h1 h2
          refine wp_region_seq (Below Z.heap.size Z) (.take 0 <| .take 1 <| .take 2 <| .take 3 <| .take 4 <| .take 5 <| .take 6 <| .take 7 <| .take 8 <| .take 9 <| .take 10 <| .take 11 <| .take 12 <| .take 13 <| .take 14 <| .take 15 <| .take 16 <| .take 17 <| .take 18 <| .take 19 <| .take 20 <| .take 21 <| .done) (by kernel_rfl) (by kernel_rfl) (by kernel_rfl) (by (repeat' (first | with_reducible assumption | with_reducible exact Below.refl _ _ | with_reducible refine Below.drew ?_ | with_reducible refine below_drewN ?_ _ | with_reducible refine Below.alloc ?_ ?_ _ | with_reducible refine Below.setCell ?_ ?_ _ | omega | (simp; done) | (simp; omega)))) ?_
          repeat (first | (refine seq_take (v := ?_) rfl (by rfl) ?_ ?_; rotate_left; (focus (intro wS hS; have y0 := (hS.cell (p := ⟨Y.heap.size, 0, none⟩) az).trans n0; have y1 := (hS.cell (p := ⟨Y.heap.size, 1, none⟩) az).trans n1; have y2 := (hS.cell (p := ⟨Y.heap.size, 2, none⟩) az).trans n2; have y3 := (hS.cell (p := ⟨w.heap.size, 2, none⟩) ez').trans e2; go_simp; exact rfl)); simp only [Act.put, List.setIfInBounds_toArray, List.set_cons_zero, List.set_cons_succ]) | (refine seq_skip rfl (by rfl) ?_; simp only [Act.put, List.setIfInBounds_toArray, List.set_cons_zero, List.set_cons_succ]))
          refine seq_nil ?_
          go_wp2
          go_ret2
          exact HFIN.out _ _ (by (repeat' (first | with_reducible assumption | with_reducible exact Below.refl _ _ | with_reducible refine Below.drew ?_ | with_reducible refine below_drewN ?_ _ | with_reducible refine Below.alloc ?_ ?_ _ | with_reducible refine Below.setCell ?_ ?_ _ | omega | (simp; done) | (simp; omega)))) HT.out
end Go.Proofs.YtmiimpmfkjcjlaaGreat
