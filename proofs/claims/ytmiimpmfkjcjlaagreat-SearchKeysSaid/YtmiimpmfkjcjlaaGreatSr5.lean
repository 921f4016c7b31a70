import Derived.Test.YtmiimpmfkjcjlaaGreatSr4
import Derived.RangeFuncNested
namespace Go.Proofs.YtmiimpmfkjcjlaaGreat
open Go.RowKit
set_option maxRecDepth 100000 in
set_option maxHeartbeats 2000000 in
theorem smodels_any (b : Nat) (n : Int) (S C L : Value) (specs : List Sp) (w : World) (hA : SsAt w b n S C L) (hs : SlSp w S specs) (hok : ∀ s ∈ specs, sizeE n s = 0) (hm8 : specs.length ≤ 8) :
    Calls Tryz.prog 98 #[.pointer (some ⟨b, 0, none⟩)] w fun e w' => ∃ v ps, e = .returned v ∧ StRow w' w.heap.size v ps ∧ ps.map Prod.fst = specs.map (newM n) ∧ Below w.heap.size w w' := by
  obtain ⟨As, cs, rfl, gs1, gs2, gs3⟩ := id hs
  obtain ⟨a0, a1, a2, a3, bz⟩ := cells4 hA
  have hms63 : (specs.length : Int) ≤ 8 := by omega
  have HOKS := hide hok
  clear hA hok
  go_enter Tryz.func98, Tryz.ntmps98
  go_wp2
  go_loopw [13, 3] (fun i u wr => ∃ k : Nat, k ≤ specs.length ∧ i = .int .i64 k ∧ ∃ ps, Hid (StRow wr w.heap.size u ps) ∧ Hid (ps.map Prod.fst = (specs.take k).map (newM n)) ∧ Hid (Below w.heap.size w wr)) (fun i _ _ => specs.length - (intOf i).toNat)
  case atStart => exact ⟨0, Nat.zero_le _, rfl, [], hide (ob_nil _ _), hide rfl, hide (Below.refl _ _)⟩
  case round =>
    obtain ⟨k, hk, rfl, ps, hSt, hPs, hB⟩ := hrel
    obtain ⟨vA, vc, rfl, _⟩ := ob_len stEn_len hSt.out
    have hzr := hB.out.size
    by_cases hlt : k < specs.length
    · obtain ⟨sp, hsp⟩ : ∃ sp, specs[k]? = some sp := ⟨_, List.getElem?_eq_getElem hlt⟩
      obtain ⟨g, o, rfl, hg, hcc⟩ := gs3 k sp hsp
      obtain ⟨x0, x1, x2⟩ := spec_cells hcc
      replace x0 := (hB.out.cell (p := ⟨g, o + k * 3, none⟩) hg).trans x0
      replace x1 := (hB.out.cell (p := ⟨g, o + k * 3 + 1, none⟩) hg).trans x1
      replace x2 := (hB.out.cell (p := ⟨g, o + k * 3 + 2, none⟩) hg).trans x2
      replace a0 := (hB.out.cell (p := ⟨b, 0, none⟩) bz).trans a0
      have bz' : b < wr.heap.size := by omega
      have q0 : (0 : Int) ≤ (k : Int) := by omega
      have q1 : (k : Int) < (specs.length : Int) := by omega
      have hE0 := HOKS.out sp (List.mem_of_getElem? hsp)
      have NN := fun W => modelNew n sp W
      unfold NewMPost spV at NN
      rw [hE0] at NN
      simp only [ne_eq, not_true_eq_false, false_and, false_or, true_and] at NN
      have HSPK := hide hsp
      obtain ⟨ANS, hANS⟩ : ∃ X, newM n sp = X := ⟨_, rfl⟩
      have hnl := newM_len n sp hE0
      rw [hANS] at NN hnl
      have HANS := hide hANS
      have hplen : ps.length = k := by
        have h := congrArg List.length hPs.out
        simp at h
        omega
      have HPL := hide hplen
      clear gs3 hcc hsp hE0 hANS hplen
      obtain ⟨W, hW⟩ : ∃ W, W = wr.alloc (.cells #[.int .i64 sp.kind, .int .i64 sp.p, .int .i64 sp.q] 23) := ⟨_, rfl⟩
      have hBW : Below wr.heap.size wr W := by rw [hW]; exact (Below.refl _ _).alloc (Nat.le_refl _) _
      obtain ⟨p0, p1, p2, _, _, _, pz⟩ := cells3 (show W.heap[wr.heap.size]? = _ from by rw [hW]; exact heap_alloc_new _ _)
      replace a0 := (hBW.cell (p := ⟨b, 0, none⟩) bz').trans a0
      have bz2 : b < W.heap.size := by omega
      have HBW := hide hBW
      have hzw := hBW.size
      go_wp2_with fail
      rw [← hW]
      clear hW hBW
      refine wp_region_seq (Below W.heap.size W) (.take 0 <| .take 1 <| .take 2 <| .take 3 <| .take 4 <| .run 5 <| .take 6 <| .take 7 <| .take 8 <| .take 9 <| .take 10 <| .done) (by kernel_rfl) (by kernel_rfl) (by kernel_rfl) (by (repeat' (first | with_reducible assumption | with_reducible exact Below.refl _ _ | with_reducible refine Below.drew ?_ | with_reducible refine below_drewN ?_ _ | with_reducible refine Below.alloc ?_ ?_ _ | with_reducible refine Below.setCell ?_ ?_ _ | omega | (simp; done) | (simp; omega)))) ?_
      iterate 5 (refine seq_take (v := ?_) rfl (by rfl) ?_ ?_; rotate_left; (focus (intro wS hS; have z0 := (hS.cell (p := ⟨b, 0, none⟩) bz2).trans a0; have y0 := (hS.cell (p := ⟨wr.heap.size, 0, none⟩) pz).trans p0; have y1 := (hS.cell (p := ⟨wr.heap.size, 1, none⟩) pz).trans p1; have y2 := (hS.cell (p := ⟨wr.heap.size, 2, none⟩) pz).trans p2; go_simp; exact rfl)); simp only [Act.put, List.setIfInBounds_toArray, List.set_cons_zero, List.set_cons_succ])
      refine seq_run rfl (by rfl) (fun K hK => ?_)
      go_simp
      refine (NN _).mono ?_
      rintro e w2 ⟨u, rfl, hO2, hb2⟩
      obtain ⟨A2, c2, rfl⟩ := own_slice hO2
      have hb2' : Below W.heap.size W w2 := (Below.refl _ _).drew.trans (hb2.mono (by simp))
      have hsl2 : SlW w2 (.slice A2 ANS.length c2) ANS := wrow_sl (show WRow w2 _ _ ANS from hO2) (by unfold maxLen; omega)
      have htw2 := tw_own hO2
      refine hK _ _ hb2' ?_
      clear hK K
      iterate 5 (refine seq_take (v := ?_) rfl (by rfl) ?_ ?_; rotate_left; (focus (intro wS hS; have z0 := (hS.cell (p := ⟨b, 0, none⟩) bz2).trans a0; have y0 := (hS.cell (p := ⟨wr.heap.size, 0, none⟩) pz).trans p0; have y1 := (hS.cell (p := ⟨wr.heap.size, 1, none⟩) pz).trans p1; have y2 := (hS.cell (p := ⟨wr.heap.size, 2, none⟩) pz).trans p2; go_simp; exact rfl)); simp only [Act.put, List.setIfInBounds_toArray, List.set_cons_zero, List.set_cons_succ])
      refine seq_nil ?_
      have hbt : Below wr.heap.size wr w2 := HBW.out.trans (hb2'.mono (by omega))
      have HSt2 := hide (ob_below hSt.out hbt)
      have HSl2 := hide hsl2
      have HTw2 := hide htw2
      have HBX := hide (hB.out.trans (hbt.mono (by omega)))
      have hz2 := hbt.size
      clear hb2 hb2' hsl2 htw2 hO2 x0 x1 x2 p0 p1 p2 hbt NN a0 a1 a2 a3
      go_wp2_with (at_builtin; refine wpList_ob_push rfl _ _ rfl info_slw Tryz.underlying51 rfl (by decide) (by decide) (by decide) HSt2.out rfl rfl rfl (ANS, A2, c2) rfl rfl (by simp [stEn, Value.oneCell']) HSl2.out HTw2.out (by have := HPL.out; omega) (by omega) ?_; intro v5 w5 hSt5 hk5; have HSt5 := hide hSt5; have HB5 : Hid (Below w.heap.size w w5) := hide (HBX.out.trans (hk5.below (fun k hk => ⟨by omega, fun e => by have := (HSt2.out.1.lt k e.symm).1; omega⟩))); clear hSt5 hk5)
      go_roundw
      case rel =>
        refine ⟨k + 1, by omega, by go_num, ps ++ [(ANS, A2, c2)], HSt5, hide ?_, HB5⟩
        rw [List.map_append, hPs.out, List.take_add_one, HSPK.out]
        simp [HANS.out]
      case measure => first | (simp [intOf]; done) | (simp [intOf]; omega)
    · have hkk : k = specs.length := by omega
      have HKK := hide hkk
      have d9 : decide ((k : Int) < (specs.length : Int)) = false := by simp; omega
      have d8 : decide (k < specs.length) = false := by simp; omega
      clear hkk hlt a0 a1 a2 a3 gs3
      go_wp2
      go_ret
      exact ⟨_, ps, rfl, hSt.out, by rw [hPs.out, List.take_of_length_le (by have := HKK.out; omega)], hB.out⟩
def KeepC (A B : World) : Prop := B.os = A.os ∧ B.tape = A.tape ∧ B.output = A.output ∧ A.heap.size ≤ B.heap.size ∧ ∀ (j : Nat) (o : Obj), A.heap[j]? = some o → o.isCells = true → B.heap[j]? = A.heap[j]?
theorem KeepC.refl (A : World) : KeepC A A := ⟨rfl, rfl, rfl, Nat.le_refl _, fun _ _ _ _ => rfl⟩
theorem KeepC.trans {A B C : World} (h : KeepC A B) (k : KeepC B C) : KeepC A C :=
  ⟨k.1.trans h.1, k.2.1.trans h.2.1, k.2.2.1.trans h.2.2.1, Nat.le_trans h.2.2.2.1 k.2.2.2.1, fun j o ho hc => (k.2.2.2.2 j o ((h.2.2.2.2 j o ho hc).trans ho) hc).trans (h.2.2.2.2 j o ho hc)⟩
theorem KeepC.of_below {A B : World} (h : Below A.heap.size A B) : KeepC A B := ⟨h.os, h.tape, h.output, h.size, fun j _ ho _ => h.block j (Array.getElem?_eq_some_iff.1 ho).1⟩
theorem KeepC.putObj (W : World) (l : Nat) (o o' : Obj) (h : W.heap[l]? = some o) (hc : o.isCells = false) : KeepC W (W.putObj l o') :=
  have hg := grownBy_putObj' W l o'
  ⟨hg.os, hg.tape, hg.output, hg.size, fun k u hk hu => hg.block k (Array.getElem?_eq_some_iff.1 hk).1 (fun e => by
    cases e
    rw [h] at hk
    cases hk
    rw [hc] at hu
    cases hu)⟩
theorem KeepC.keep {A B : World} (h : KeepC A B) : Keep (fun j => ∃ o : Obj, A.heap[j]? = some o ∧ o.isCells = true) A B := ⟨h.1, h.2.1, h.2.2.1, h.2.2.2.1, fun j ⟨o, ho, hc⟩ => h.2.2.2.2 j o ho hc⟩
theorem KeepC.cell {A B : World} (h : KeepC A B) {p : Addr} {v : Value} (hp : A.cell? p = some v) : B.cell? p = some v := by
  obtain ⟨o, ho, hc⟩ := cells_of_cell hp
  exact (World.cell?_of_block (w := A) (h.2.2.2.2 _ o ho hc)).trans hp
theorem KeepC.sl {α : Type} {enc : α → List Value} {sz : Nat} {A B : World} {v : Value} {xs : List α} (h : KeepC A B) (hs : Sl enc sz A v xs) : Sl enc sz B v xs := by
  obtain ⟨a, c, hv, h1, h2, h3⟩ := hs
  refine ⟨a, c, hv, h1, h2, fun k x hx => ?_⟩
  obtain ⟨b, o, hA, hlt, hc⟩ := h3 k x hx
  exact ⟨b, o, hA, Nat.lt_of_lt_of_le hlt h.2.2.2.1, fun j u hu => h.cell (hc j u hu)⟩
theorem KeepC.st {A B : World} {b : Nat} {v : Value} {ps : List StP} (h : KeepC A B) (hs : StRow A b v ps) : StRow B b v ps := ob_keep hs h.keep (fun _ _ _ _ hj _ => ⟨_, hj, rfl⟩)
theorem KeepC.ctx {w w' : World} {b : Nat} {n : Int} {S C L : Value} {specs : List Sp} {calls : List Cl} {es : List Ev} {ls : Nat → List Int} (hk : KeepC w w') (h : SsCtx w b n S C L specs calls es ls) : SsCtx w' b n S C L specs calls es ls :=
  ⟨(hk.2.2.2.2 b _ h.at_ rfl).trans h.at_, hk.sl h.specs, hk.sl h.calls, hk.sl h.evs, fun k e he => hk.sl (h.lst k e he)⟩
def NotAt (r : Option Nat) (v : Value) : Prop := ∀ A n c, v = .slice A n c → ∀ a : Addr, A = some a → some a.block ≠ r
theorem notAt_nil (r : Option Nat) (n c : Nat) : NotAt r (.slice none n c) := by
  intro A n' c' h a ha
  cases h
  cases ha
theorem notAt_none (v : Value) : NotAt none v := fun _ _ _ _ _ _ e => by cases e
theorem notAt_ge {r : Option Nat} {v : Value} {B : Nat} (hB : ∀ j, r = some j → j < B) (h : ∀ j, v.ownBlock = some j → B ≤ j) (hv : ∃ A n c, v = .slice A n c) : NotAt r v := by
  obtain ⟨A, n, c, rfl⟩ := hv
  intro A' n' c' h' a ha e
  cases h'
  subst ha
  have h1 := hB _ e.symm
  have h2 := h a.block rfl
  omega
structure KeepX (r : Option Nat) (A B : World) : Prop where
  os : B.os = A.os
  tape : B.tape = A.tape
  output : B.output = A.output
  size : A.heap.size ≤ B.heap.size
  block : ∀ (j : Nat) (o : Obj), some j ≠ r → A.heap[j]? = some o → o.isCells = true → B.heap[j]? = A.heap[j]?
  own : ∀ (j : Nat), r = some j → (∃ cs fr, A.heap[j]? = some (.cells cs 3 fr)) → ∃ cs fr, B.heap[j]? = some (.cells cs 3 fr)
theorem KeepC.x {A B : World} (h : KeepC A B) (r : Option Nat) : KeepX r A B := ⟨h.1, h.2.1, h.2.2.1, h.2.2.2.1, fun j o _ ho hc => h.2.2.2.2 j o ho hc, fun j _ ⟨cs, fr, ho⟩ => ⟨cs, fr, (h.2.2.2.2 j _ ho rfl).trans ho⟩⟩
theorem KeepX.refl (r : Option Nat) (A : World) : KeepX r A A := (KeepC.refl A).x r
theorem KeepX.trans {r : Option Nat} {A B C : World} (h : KeepX r A B) (k : KeepX r B C) : KeepX r A C :=
  ⟨k.os.trans h.os, k.tape.trans h.tape, k.output.trans h.output, Nat.le_trans h.size k.size, fun j o hj ho hc => (k.block j o hj ((h.block j o hj ho hc).trans ho) hc).trans (h.block j o hj ho hc), fun j hj hA => k.own j hj (h.own j hj hA)⟩
def IsNum (r : Option Nat) (W : World) : Prop := ∀ j, r = some j → ∃ cs fr, W.heap[j]? = some (.cells cs 3 fr)
theorem IsNum.keep {r : Option Nat} {A B : World} (h : IsNum r A) (k : KeepX r A B) : IsNum r B := fun j hj => k.own j hj (h j hj)
theorem IsNum.lt {r : Option Nat} {A : World} (h : IsNum r A) : ∀ j, r = some j → j < A.heap.size := fun j hj => by
  obtain ⟨cs, fr, ho⟩ := h j hj
  exact (Array.getElem?_eq_some_iff.1 ho).1
theorem KeepX.cell {r : Option Nat} {A B : World} (h : KeepX r A B) {p : Addr} {v : Value} (hr : some p.block ≠ r) (hp : A.cell? p = some v) : B.cell? p = some v := by
  obtain ⟨o, ho, hc⟩ := cells_of_cell hp
  exact (World.cell?_of_block (w := A) (h.block _ o hr ho hc)).trans hp
theorem KeepX.sl {α : Type} {enc : α → List Value} {sz : Nat} {r : Option Nat} {A B : World} {v : Value} {xs : List α} (h : KeepX r A B) (hn : NotAt r v) (hs : Sl enc sz A v xs) : Sl enc sz B v xs := by
  obtain ⟨a, c, hv, h1, h2, h3⟩ := hs
  refine ⟨a, c, hv, h1, h2, fun k x hx => ?_⟩
  obtain ⟨b, o, hA, hlt, hc⟩ := h3 k x hx
  exact ⟨b, o, hA, Nat.lt_of_lt_of_le hlt h.size, fun j u hu => h.cell (p := ⟨b, o + k * sz + j, none⟩) (show some b ≠ r from hn _ _ _ hv _ hA) (hc j u hu)⟩
theorem KeepX.st {r : Option Nat} {A B : World} {b : Nat} {v : Value} {ps : List StP} (h : KeepX r A B) (hi : IsNum r A) (hs : StRow A b v ps) : StRow B b v ps := by
  refine ob_keep (S := fun j => some j ≠ r ∧ ∃ o : Obj, A.heap[j]? = some o ∧ o.isCells = true) hs ⟨h.os, h.tape, h.output, h.size, fun j ⟨hj, o, ho, hc⟩ => h.block j o hj ho hc⟩ ?_
  intro j cs t fr hj ht
  refine ⟨fun e => ?_, _, hj, rfl⟩
  obtain ⟨cs', fr', ho⟩ := hi j e.symm
  rw [hj] at ho
  have h1 : t = 3 := by injection ho with h; injection h
  rcases ht with ht | ⟨ht, _⟩
  · exact absurd (ht.symm.trans h1) (by decide)
  · exact absurd (ht.symm.trans h1) (by decide)
section
variable (n : Int) (specs : List Sp) (calls : List Cl) (es : List Ev) (ls : Nat → List Int)
def allS : Nat → List Nat → List (List Int) → List (List Nat)
  | 0, L, _ => if wholeB es L = true then [L] else []
  | f + 1, L, sts => (if wholeB es L = true then [L] else []) ++ (List.range es.length).flatMap fun i => if freeB es L i = true ∧ (stepL n specs calls es ls sts i).2 = true then allS f (L ++ [i]) (stepL n specs calls es ls sts i).1 else []
def tryS : Nat → List Nat → List (List Int) → Nat → List (List Nat)
  | 0, _, _, _ => []
  | f + 1, L, sts, i => if freeB es L i = true ∧ (stepL n specs calls es ls sts i).2 = true then allS n specs calls es ls f (L ++ [i]) (stepL n specs calls es ls sts i).1 else []
end
theorem flat_nil {m : Nat} {p : Nat → List (List Nat)} (h : ∀ j, j < m → p j = []) : (List.range m).flatMap p = [] := by
  rw [List.flatMap_eq_nil_iff]
  intro x hx
  exact h x (by simpa using hx)
section
variable {n : Int} {specs : List Sp} {calls : List Cl} {es : List Ev} {ls : Nat → List Int} {f i : Nat} {L : List Nat} {sts : List (List Int)}
theorem allS_eq (f : Nat) (L : List Nat) (sts : List (List Int)) : allS n specs calls es ls f L sts = (if wholeB es L = true then [L] else []) ++ (List.range es.length).flatMap (tryS n specs calls es ls f L sts) := by
  cases f with
  | zero =>
    have h := flat_nil (m := es.length) (p := tryS n specs calls es ls 0 L sts) (fun j _ => rfl)
    rw [h, List.append_nil]
    rfl
  | succ f => rfl
theorem tryS_no (h : freeB es L i = false ∨ (stepL n specs calls es ls sts i).2 = false) : tryS n specs calls es ls f L sts i = [] := by
  cases f with
  | zero => rfl
  | succ f =>
    show (if freeB es L i = true ∧ (stepL n specs calls es ls sts i).2 = true then _ else _) = _
    rw [if_neg]
    rintro ⟨h1, h2⟩
    rcases h with h | h
    · rw [h1] at h; cases h
    · rw [h2] at h; cases h
theorem tryS_go (h : freeB es L i = true) (h2 : (stepL n specs calls es ls sts i).2 = true) : tryS n specs calls es ls (f + 1) L sts i = allS n specs calls es ls f (L ++ [i]) (stepL n specs calls es ls sts i).1 := by
  show (if freeB es L i = true ∧ (stepL n specs calls es ls sts i).2 = true then _ else _) = _
  rw [if_pos ⟨h, h2⟩]
theorem allS_part {k : Nat} (hk : k ≤ es.length) : ((if wholeB es L = true then [L] else []) ++ (List.range k).flatMap (tryS n specs calls es ls f L sts)) <+: allS n specs calls es ls f L sts := by
  rw [allS_eq, List.prefix_append_right_inj]
  rw [show es.length = k + (es.length - k) by omega, List.range_add, List.flatMap_append]
  exact List.prefix_append _ _
theorem flat_succ (p : Nat → List (List Nat)) (k : Nat) : (List.range (k + 1)).flatMap p = (List.range k).flatMap p ++ p k := by
  rw [List.range_succ, List.flatMap_append]
  simp
theorem srch_all : ∀ (f : Nat) (L : List Nat) (sts : List (List Int)), srch n specs calls es ls f L sts = true → allS n specs calls es ls f L sts ≠ []
  | 0, L, sts, h, he => by
    unfold srch at h
    unfold allS at he
    rw [if_pos h] at he
    cases he
  | f + 1, L, sts, h, he => by
    unfold srch at h
    unfold allS at he
    rw [List.append_eq_nil_iff] at he
    obtain ⟨h1, h2⟩ := he
    rw [Bool.or_eq_true] at h
    rcases h with h | h
    · rw [if_pos h] at h1
      cases h1
    · rw [List.any_eq_true] at h
      obtain ⟨i, hi, h3⟩ := h
      simp only [Bool.and_eq_true] at h3
      rw [List.flatMap_eq_nil_iff] at h2
      have h4 := h2 i hi
      rw [if_pos ⟨h3.1, h3.2.1⟩] at h4
      exact srch_all f _ _ h3.2.2 h4
end
end Go.Proofs.YtmiimpmfkjcjlaaGreat
