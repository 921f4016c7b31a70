import Derived.Test.YtmiimpmfkjcjlaaGreatBun10
import Derived.Test.YtmiimpmfkjcjlaaGreatBun32
import Derived.Test.YtmiimpmfkjcjlaaGreatBun25
import Derived.RangeFuncNested
import Derived.RangeFuncBound
import Derived.RangeFuncCalls
import Derived.RangeFuncLeaves
import Derived.RangeFuncBox
import Derived.RangeFuncWrites
import Derived.Shelf.Abstract
import Derived.Shelf.RegionOpen
import Derived.WalkKit
import Derived.OwnWalkIn
import Derived.TacticsInMore
import Derived.LoopNIn
import Derived.LoopIn
import Derived.Test.YtmiimpmfkjcjlaaGreatBun11
import Derived.Test.YtmiimpmfkjcjlaaGreatBun1
import Derived.Test.YtmiimpmfkjcjlaaGreatBun17
namespace Go.Proofs.YtmiimpmfkjcjlaaGreat
open Go.RowKit
theorem applyM_list (n : Int) (s : Sp) (st : List Int) (c : Cl) : (applyM n s st c).2.list.length ≤ st.length := by
  have hE : ∀ e, (anE e).list.length ≤ st.length := fun e => Nat.zero_le _
  have hV : ∀ e, (anV e).list.length ≤ st.length := fun e => Nat.zero_le _
  unfold applyM
  split
  · exact hE _
  split
  · exact hE _
  unfold actM
  repeat' split
  · unfold cellM
    repeat' split
    all_goals first | exact hE _ | exact hV _
  · unfold consM
    repeat' split
    all_goals first | exact hE _ | exact hV _
  · unfold numM
    repeat' split
    all_goals first | exact hE _ | exact hV _
  · unfold maxM
    repeat' split
    all_goals first | exact hE _ | exact hV _
  · unfold partsM
    repeat' split
    all_goals first | exact hE _ | exact hV _ | (simp; omega)
  · unfold partsM
    repeat' split
    all_goals first | exact hE _ | exact hV _ | (simp; omega)
  · unfold sharedM
    repeat' split
    all_goals first | exact hE _ | exact hV _ | (simp; done)
  · unfold queueM
    repeat' split
    all_goals first | exact hE _ | exact hV _
  · unfold pinM
    repeat' split
    all_goals first | exact hE _ | exact hV _ | exact Nat.le_refl _
structure StOk (n : Int) (specs : List Sp) (sts : List (List Int)) (M : Nat) : Prop where
  len : sts.length = specs.length
  ok : ∀ (o : Nat) (s : Sp) (x : List Int), specs[o]? = some s → sts[o]? = some x → rightM n s x = true ∧ (∀ z ∈ x, U64 z) ∧ x.length ≤ M
theorem StOk.mono {n : Int} {specs : List Sp} {sts : List (List Int)} {M M' : Nat} (h : StOk n specs sts M) (hM : M ≤ M') : StOk n specs sts M' :=
  ⟨h.len, fun o s x hs hx => by obtain ⟨h1, h2, h3⟩ := h.ok o s x hs hx; exact ⟨h1, h2, by omega⟩⟩
theorem StOk.set {n : Int} {specs : List Sp} {sts : List (List Int)} {M M' o : Nat} {s : Sp} {y : List Int} (h : StOk n specs sts M) (hM : M ≤ M') (hs : specs[o]? = some s) (h1 : rightM n s y = true) (h2 : ∀ z ∈ y, U64 z) (h3 : y.length ≤ M') : StOk n specs (sts.set o y) M' := by
  refine ⟨by rw [List.length_set]; exact h.len, fun o' s' x hs' hx => ?_⟩
  by_cases ho : o' = o
  · subst ho
    rw [hs] at hs'
    cases hs'
    have hlt : o' < sts.length := by rw [h.len]; exact (List.getElem?_eq_some_iff.1 hs).1
    rw [List.getElem?_set_self hlt] at hx
    cases hx
    exact ⟨h1, h2, h3⟩
  · rw [List.getElem?_set_ne (fun e => ho e.symm)] at hx
    exact (h.mono hM).ok o' s' x hs' hx
theorem StOk.new {n : Int} {specs : List Sp} (h : ∀ s ∈ specs, sizeE n s = 0) : StOk n specs (specs.map (newM n)) 80 := by
  refine ⟨by simp, fun o s x hs hx => ?_⟩
  rw [List.getElem?_map, hs] at hx
  cases hx
  have h0 := h s (List.mem_of_getElem? hs)
  exact ⟨rightM_newM n s h0, u64_new, newM_len n s h0⟩
structure EvsOk (n : Int) (calls : List Cl) (es : List Ev) : Prop where
  call : ∀ (k : Nat) (e : Ev), es[k]? = some e → 0 ≤ e.call ∧ e.call < calls.length
  thread : ∀ (k : Nat) (e : Ev) (c : Cl), es[k]? = some e → calls[e.call.toNat]? = some c → 0 ≤ c.thread ∧ c.thread < n
  word : ∀ c ∈ calls, U64 c.a ∧ U64 c.b ∧ U64 c.c
theorem legalM_ok {n : Int} {s : Sp} {st : List Int} {c : Cl} (a : An) (hR : rightM n s st = true) (hu : ∀ z ∈ st, U64 z) (ha : U64 c.a) (hb : U64 c.b) (hc : U64 c.c) (ht0 : 0 ≤ c.thread) (ht1 : c.thread < n) :
    rightM n s (legalM n s st c a).1 = true ∧ (∀ z ∈ (legalM n s st c a).1, U64 z) ∧ (legalM n s st c a).1.length ≤ max 80 (st.length + 2) := by
  unfold legalM
  split
  · exact applyM_ok hR hu ha hb hc ht0 ht1
  · exact ⟨hR, hu, by simp only; omega⟩
section
variable {n : Int} {specs : List Sp} {calls : List Cl} {es : List Ev} {ls : Nat → List Int} {sts : List (List Int)} {M i : Nat} {e : Ev} {c : Cl}
theorem stepL_eq (he : es[i]? = some e) (hc : calls[e.call.toNat]? = some c) : stepL n specs calls es ls sts i = stepC n specs sts e (ls i) c := by
  unfold stepL
  rw [he]
  simp only [hc]
theorem stepC_out {l : List Int} (ho : ¬ (0 ≤ c.obj ∧ c.obj < specs.length)) : stepC n specs sts e l c = (sts, decide (e.resp = 0) || (decide (e.err = 12) && (decide (e.val = 0) && decide (l = [])))) := by
  unfold stepC
  rw [if_pos ho]
theorem stepC_in0 {l : List Int} {o : Nat} {s : Sp} {x : List Int} (ho : c.obj = (o : Int)) (hs : specs[o]? = some s) (hx : sts[o]? = some x) (hr : e.resp = 0) : stepC n specs sts e l c = (sts.set o (applyM n s x c).1, true) := by
  have := (List.getElem?_eq_some_iff.1 hs).1
  unfold stepC
  rw [if_neg (by omega), if_pos hr, ho]
  simp only [Int.toNat_natCast, hs, hx, Option.getD_some]
theorem stepC_in1 {l : List Int} {o : Nat} {s : Sp} {x : List Int} (ho : c.obj = (o : Int)) (hs : specs[o]? = some s) (hx : sts[o]? = some x) (hr : e.resp ≠ 0) : stepC n specs sts e l c = (sts.set o (legalM n s x c ⟨e.err, e.val, l⟩).1, (legalM n s x c ⟨e.err, e.val, l⟩).2) := by
  have := (List.getElem?_eq_some_iff.1 hs).1
  unfold stepC
  rw [if_neg (by omega), if_neg hr, ho]
  simp only [Int.toNat_natCast, hs, hx, Option.getD_some]
theorem StOk.step (h : StOk n specs sts M) (hM : 80 ≤ M) (hE : EvsOk n calls es) (i : Nat) : StOk n specs (stepL n specs calls es ls sts i).1 (M + 2) := by
  unfold stepL
  split
  · exact h.mono (by omega)
  · rename_i e he
    split
    · exact h.mono (by omega)
    · rename_i c hc
      obtain ⟨t0, t1⟩ := hE.thread i e c he hc
      obtain ⟨ua, ub, uc⟩ := hE.word c (List.mem_of_getElem? hc)
      by_cases ho : 0 ≤ c.obj ∧ c.obj < specs.length
      · obtain ⟨o, hco⟩ := Int.eq_ofNat_of_zero_le ho.1
        obtain ⟨s, hs⟩ : ∃ s, specs[o]? = some s := ⟨_, List.getElem?_eq_getElem (by omega)⟩
        obtain ⟨x, hx⟩ : ∃ x, sts[o]? = some x := ⟨_, List.getElem?_eq_getElem (by rw [h.len]; omega)⟩
        obtain ⟨g1, g2, g3⟩ := h.ok o s x hs hx
        by_cases hr : e.resp = 0
        · rw [stepC_in0 hco hs hx hr]
          obtain ⟨k1, k2, k3⟩ := applyM_ok g1 g2 ua ub uc t0 t1
          exact h.set (by omega) hs k1 k2 (by omega)
        · rw [stepC_in1 hco hs hx hr]
          obtain ⟨k1, k2, k3⟩ := legalM_ok ⟨e.err, e.val, ls i⟩ g1 g2 ua ub uc t0 t1
          exact h.set (by omega) hs k1 k2 (by omega)
      · rw [stepC_out ho]
        exact h.mono (by omega)
end
end Go.Proofs.YtmiimpmfkjcjlaaGreat

namespace Go.Proofs.YtmiimpmfkjcjlaaGreat
open Go.RowKit
structure SsCtx (w : World) (b : Nat) (n : Int) (S C L : Value) (specs : List Sp) (calls : List Cl) (es : List Ev) (ls : Nat → List Int) : Prop where
  at_ : SsAt w b n S C L
  specs : SlSp w S specs
  calls : SlCl w C calls
  evs : SlEv w L es
  lst : ∀ (k : Nat) (e : Ev), es[k]? = some e → SlW w (.slice e.lA e.lN e.lC) (ls k)
theorem SsCtx.below {w w' : World} {b : Nat} {n : Int} {S C L : Value} {specs : List Sp} {calls : List Cl} {es : List Ev} {ls : Nat → List Int} (h : SsCtx w b n S C L specs calls es ls) (hb : Below w.heap.size w w') : SsCtx w' b n S C L specs calls es ls :=
  ⟨h.at_.below hb, h.specs.below hb (Nat.le_refl _), h.calls.below hb (Nat.le_refl _), h.evs.below hb (Nat.le_refl _), fun k e he => (h.lst k e he).below hb (Nat.le_refl _)⟩
theorem cells8e {w : World} {g : Nat} {x0 x1 x2 x3 x4 x5 x6 x7 : Value} {t : TypeId} (h : w.heap[g]? = some (.cells #[x0, x1, x2, x3, x4, x5, x6, x7] t (0, 0))) :
    w.cell? ⟨g, 0, none⟩ = some x0 ∧ w.cell? ⟨g, 1, none⟩ = some x1 ∧ w.cell? ⟨g, 2, none⟩ = some x2 ∧ w.cell? ⟨g, 3, none⟩ = some x3 ∧ w.cell? ⟨g, 4, none⟩ = some x4 ∧ w.cell? ⟨g, 5, none⟩ = some x5 ∧ w.cell? ⟨g, 6, none⟩ = some x6 ∧ w.cell? ⟨g, 7, none⟩ = some x7 ∧ g < w.heap.size :=
  ⟨cell_of_row _ _ 0 _ _ _ h, cell_of_row _ _ 1 _ _ _ h, cell_of_row _ _ 2 _ _ _ h, cell_of_row _ _ 3 _ _ _ h, cell_of_row _ _ 4 _ _ _ h, cell_of_row _ _ 5 _ _ _ h, cell_of_row _ _ 6 _ _ _ h, cell_of_row _ _ 7 _ _ _ h, (Array.getElem?_eq_some_iff.1 h).1⟩
end Go.Proofs.YtmiimpmfkjcjlaaGreat

namespace Go.Proofs.YtmiimpmfkjcjlaaGreat
open Go.RowKit
end Go.Proofs.YtmiimpmfkjcjlaaGreat

namespace Go.Proofs.YtmiimpmfkjcjlaaGreat
open Go.RowKit
def KeepC (A B : World) : Prop := B.os = A.os ∧ B.tape = A.tape ∧ B.output = A.output ∧ A.heap.size ≤ B.heap.size ∧ ∀ (j : Nat) (o : Obj), A.heap[j]? = some o → o.isCells = true → B.heap[j]? = A.heap[j]?
theorem KeepC.refl (A : World) : KeepC A A := ⟨rfl, rfl, rfl, Nat.le_refl _, fun _ _ _ _ => rfl⟩
theorem KeepC.trans {A B C : World} (h : KeepC A B) (k : KeepC B C) : KeepC A C :=
  ⟨k.1.trans h.1, k.2.1.trans h.2.1, k.2.2.1.trans h.2.2.1, Nat.le_trans h.2.2.2.1 k.2.2.2.1, fun j o ho hc => (k.2.2.2.2 j o ((h.2.2.2.2 j o ho hc).trans ho) hc).trans (h.2.2.2.2 j o ho hc)⟩
theorem KeepC.of_below {A B : World} (h : Below A.heap.size A B) : KeepC A B := ⟨h.os, h.tape, h.output, h.size, fun j _ ho _ => h.block j (Array.getElem?_eq_some_iff.1 ho).1⟩
theorem KeepC.keep {A B : World} (h : KeepC A B) : Keep (fun j => ∃ o : Obj, A.heap[j]? = some o ∧ o.isCells = true) A B := ⟨h.1, h.2.1, h.2.2.1, h.2.2.2.1, fun j ⟨o, ho, hc⟩ => h.2.2.2.2 j o ho hc⟩
theorem KeepC.cell {A B : World} (h : KeepC A B) {p : Addr} {v : Value} (hp : A.cell? p = some v) : B.cell? p = some v := by
  obtain ⟨o, ho, hc⟩ := cells_of_cell hp
  exact (World.cell?_of_block (w := A) (h.2.2.2.2 _ o ho hc)).trans hp
theorem KeepC.sl {α : Type} {enc : α → List Value} {sz : Nat} {A B : World} {v : Value} {xs : List α} (h : KeepC A B) (hs : Sl enc sz A v xs) : Sl enc sz B v xs := by
  obtain ⟨a, c, hv, h1, h2, h3⟩ := hs
  refine ⟨a, c, hv, h1, h2, fun k x hx => ?_⟩
  obtain ⟨b, o, hA, hlt, hc⟩ := h3 k x hx
  exact ⟨b, o, hA, Nat.lt_of_lt_of_le hlt h.2.2.2.1, fun j u hu => h.cell (hc j u hu)⟩
theorem KeepC.st {A B : World} {b : Nat} {v : Value} {ps : List StP} (h : KeepC A B) (hs : StRow A b v ps) : StRow B b v ps := ob_keep hs h.keep (fun _ _ _ _ hj _ => ⟨_, hj, rfl⟩)
theorem KeepC.ctx {w w' : World} {b : Nat} {n : Int} {S C L : Value} {specs : List Sp} {calls : List Cl} {es : List Ev} {ls : Nat → List Int} (hk : KeepC w w') (h : SsCtx w b n S C L specs calls es ls) : SsCtx w' b n S C L specs calls es ls :=
  ⟨(hk.2.2.2.2 b _ h.at_ rfl).trans h.at_, hk.sl h.specs, hk.sl h.calls, hk.sl h.evs, fun k e he => hk.sl (h.lst k e he)⟩
def NotAt (r : Option Nat) (v : Value) : Prop := ∀ A n c, v = .slice A n c → ∀ a : Addr, A = some a → some a.block ≠ r
structure KeepX (r : Option Nat) (A B : World) : Prop where
  os : B.os = A.os
  tape : B.tape = A.tape
  output : B.output = A.output
  size : A.heap.size ≤ B.heap.size
  block : ∀ (j : Nat) (o : Obj), some j ≠ r → A.heap[j]? = some o → o.isCells = true → B.heap[j]? = A.heap[j]?
  own : ∀ (j : Nat), r = some j → (∃ cs fr, A.heap[j]? = some (.cells cs 3 fr)) → ∃ cs fr, B.heap[j]? = some (.cells cs 3 fr)
theorem KeepC.x {A B : World} (h : KeepC A B) (r : Option Nat) : KeepX r A B := ⟨h.1, h.2.1, h.2.2.1, h.2.2.2.1, fun j o _ ho hc => h.2.2.2.2 j o ho hc, fun j _ ⟨cs, fr, ho⟩ => ⟨cs, fr, (h.2.2.2.2 j _ ho rfl).trans ho⟩⟩
theorem KeepX.refl (r : Option Nat) (A : World) : KeepX r A A := (KeepC.refl A).x r
theorem KeepX.trans {r : Option Nat} {A B C : World} (h : KeepX r A B) (k : KeepX r B C) : KeepX r A C :=
  ⟨k.os.trans h.os, k.tape.trans h.tape, k.output.trans h.output, Nat.le_trans h.size k.size, fun j o hj ho hc => (k.block j o hj ((h.block j o hj ho hc).trans ho) hc).trans (h.block j o hj ho hc), fun j hj hA => k.own j hj (h.own j hj hA)⟩
def IsNum (r : Option Nat) (W : World) : Prop := ∀ j, r = some j → ∃ cs fr, W.heap[j]? = some (.cells cs 3 fr)
theorem IsNum.keep {r : Option Nat} {A B : World} (h : IsNum r A) (k : KeepX r A B) : IsNum r B := fun j hj => k.own j hj (h j hj)
theorem IsNum.lt {r : Option Nat} {A : World} (h : IsNum r A) : ∀ j, r = some j → j < A.heap.size := fun j hj => by
  obtain ⟨cs, fr, ho⟩ := h j hj
  exact (Array.getElem?_eq_some_iff.1 ho).1
theorem KeepX.cell {r : Option Nat} {A B : World} (h : KeepX r A B) {p : Addr} {v : Value} (hr : some p.block ≠ r) (hp : A.cell? p = some v) : B.cell? p = some v := by
  obtain ⟨o, ho, hc⟩ := cells_of_cell hp
  exact (World.cell?_of_block (w := A) (h.block _ o hr ho hc)).trans hp
theorem KeepX.sl {α : Type} {enc : α → List Value} {sz : Nat} {r : Option Nat} {A B : World} {v : Value} {xs : List α} (h : KeepX r A B) (hn : NotAt r v) (hs : Sl enc sz A v xs) : Sl enc sz B v xs := by
  obtain ⟨a, c, hv, h1, h2, h3⟩ := hs
  refine ⟨a, c, hv, h1, h2, fun k x hx => ?_⟩
  obtain ⟨b, o, hA, hlt, hc⟩ := h3 k x hx
  exact ⟨b, o, hA, Nat.lt_of_lt_of_le hlt h.size, fun j u hu => h.cell (p := ⟨b, o + k * sz + j, none⟩) (show some b ≠ r from hn _ _ _ hv _ hA) (hc j u hu)⟩
theorem KeepX.st {r : Option Nat} {A B : World} {b : Nat} {v : Value} {ps : List StP} (h : KeepX r A B) (hi : IsNum r A) (hs : StRow A b v ps) : StRow B b v ps := by
  refine ob_keep (S := fun j => some j ≠ r ∧ ∃ o : Obj, A.heap[j]? = some o ∧ o.isCells = true) hs ⟨h.os, h.tape, h.output, h.size, fun j ⟨hj, o, ho, hc⟩ => h.block j o hj ho hc⟩ ?_
  intro j cs t fr hj ht
  refine ⟨fun e => ?_, _, hj, rfl⟩
  obtain ⟨cs', fr', ho⟩ := hi j e.symm
  rw [hj] at ho
  have h1 : t = 3 := by injection ho with h; injection h
  rcases ht with ht | ⟨ht, _⟩
  · exact absurd (ht.symm.trans h1) (by decide)
  · exact absurd (ht.symm.trans h1) (by decide)
section
variable (n : Int) (specs : List Sp) (calls : List Cl) (es : List Ev) (ls : Nat → List Int)
end
section
variable {n : Int} {specs : List Sp} {calls : List Cl} {es : List Ev} {ls : Nat → List Int} {f i : Nat} {L : List Nat} {sts : List (List Int)}
end
end Go.Proofs.YtmiimpmfkjcjlaaGreat

namespace Go.Proofs.YtmiimpmfkjcjlaaGreat
open Go.RowKit Go.Shelf
attribute [local go_sem] Oper.semAt_some
def fromV (Bs By Bf : Nat) : Value := .func (.func 93) #[] #[.pointer (some ⟨Bs, 0, none⟩), .pointer (some ⟨By, 0, none⟩), .pointer (some ⟨Bf, 0, none⟩)]
structure FrCtx (r : Option Nat) (W : World) (b : Nat) (n : Int) (S C L : Value) (specs : List Sp) (calls : List Cl) (es : List Ev) (ls : Nat → List Int) (Bs By Bf l : Nat) : Prop where
  ctx : SsCtx W b n S C L specs calls es ls
  s : W.cell? ⟨Bs, 0, none⟩ = some (.pointer (some ⟨b, 0, none⟩))
  y : W.cell? ⟨By, 0, none⟩ = some (.func (.yield l) #[] #[])
  f : W.cell? ⟨Bf, 0, none⟩ = some (fromV Bs By Bf)
  num : IsNum r W
  nb : some b ≠ r ∧ some Bs ≠ r ∧ some By ≠ r ∧ some Bf ≠ r
  nS : NotAt r S ∧ NotAt r C ∧ NotAt r L
  nl : ∀ (k : Nat) (e : Ev), es[k]? = some e → NotAt r (.slice e.lA e.lN e.lC)
theorem FrCtx.keep {r : Option Nat} {W W' : World} {b : Nat} {n : Int} {S C L : Value} {specs : List Sp} {calls : List Cl} {es : List Ev} {ls : Nat → List Int} {Bs By Bf l : Nat} (h : FrCtx r W b n S C L specs calls es ls Bs By Bf l) (hk : KeepX r W W') : FrCtx r W' b n S C L specs calls es ls Bs By Bf l :=
  ⟨⟨(hk.block b _ h.nb.1 h.ctx.at_ rfl).trans h.ctx.at_, hk.sl h.nS.1 h.ctx.specs, hk.sl h.nS.2.1 h.ctx.calls, hk.sl h.nS.2.2 h.ctx.evs, fun k e he => hk.sl (h.nl k e he) (h.ctx.lst k e he)⟩, hk.cell h.nb.2.1 h.s, hk.cell h.nb.2.2.1 h.y, hk.cell h.nb.2.2.2 h.f, h.num.keep hk, h.nb, h.nS, h.nl⟩
end Go.Proofs.YtmiimpmfkjcjlaaGreat

namespace Go.Proofs.YtmiimpmfkjcjlaaGreat
open Go Go.RowKit
variable {F : Fence} {n : Nat} {P : Program}
end Go.Proofs.YtmiimpmfkjcjlaaGreat

namespace Go.Proofs.YtmiimpmfkjcjlaaGreat
open Go.RowKit Go.Shelf
section
attribute [local go_sem] Oper.semAt_some run_store_fn run_store_nilfn
end
def okEv (n : Int) (calls : List Cl) (e : Ev) : Bool := decide (0 ≤ e.call) && (decide (e.call < calls.length) && (match calls[e.call.toNat]? with | some c => decide (0 ≤ c.thread) && decide (c.thread < n) | none => false))
theorem okEv_iff {n : Int} {calls : List Cl} {e : Ev} : okEv n calls e = true ↔ (0 ≤ e.call ∧ e.call < calls.length) ∧ ∀ c, calls[e.call.toNat]? = some c → 0 ≤ c.thread ∧ c.thread < n := by
  unfold okEv
  simp only [Bool.and_eq_true, decide_eq_true_eq]
  refine ⟨fun ⟨h1, h2, h3⟩ => ⟨⟨h1, h2⟩, fun c hc => ?_⟩, fun ⟨⟨h1, h2⟩, h3⟩ => ⟨h1, h2, ?_⟩⟩
  · rw [hc] at h3
    simpa using h3
  · obtain ⟨c, hc⟩ : ∃ c, calls[e.call.toNat]? = some c := ⟨_, List.getElem?_eq_getElem (by omega)⟩
    rw [hc]
    simpa using h3 c hc
theorem evsOk_of {n : Int} {calls : List Cl} {es : List Ev} (h : es.all (okEv n calls) = true) (hw : ∀ c ∈ calls, U64 c.a ∧ U64 c.b ∧ U64 c.c) : EvsOk n calls es := by
  rw [List.all_eq_true] at h
  exact ⟨fun k e he => (okEv_iff.1 (h e (List.mem_of_getElem? he))).1, fun k e c he hc => (okEv_iff.1 (h e (List.mem_of_getElem? he))).2 c hc, hw⟩
end Go.Proofs.YtmiimpmfkjcjlaaGreat
