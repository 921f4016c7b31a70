/- A region whose order Go leaves open, walked in one order: what yields one value in every world that meets S is taken as soon as it may come up; what else stands there (calls, allocations, stores) is carried out where it alone may come up. -/
import Derived.Test.YtlfingcmekifkaaBase
import Derived.Deep.RegionHeld3
namespace Go.Proofs.Ytlfingcmekifkaa
open Go.RowKit

/-- An order of a walk: an operation taken first; one that is carried out where it alone may come up; two that may come up both. -/
inductive Plan where
  | done
  | take (i : Nat) (p : Plan)
  | run (i : Nat) (p : Plan)
  | fork (i : Nat) (p : Plan) (j : Nat) (q : Plan)

def Plan.size : Plan → Nat
  | .done => 0
  | .take _ p => p.size + 1
  | .run _ p => p.size + 1
  | .fork _ p _ _ => p.size + 1

def seqChk (ops : Array Oper) : Plan → Array Bool → Bool
  | .done, listed => (Region.ready .any ops listed).isEmpty
  | .take i r, listed => Region.free .any ops listed i && ((Region.ready .any ops listed).contains i && seqChk ops r (listed.setIfInBounds i true))
  | .run i r, listed => (Region.ready .any ops listed == [i]) && seqChk ops r (listed.setIfInBounds i true)
  | .fork i p j q, listed => (Region.ready .any ops listed == [i, j]) && ((p.size == q.size) && (seqChk ops p (listed.setIfInBounds i true) && seqChk ops q (listed.setIfInBounds j true)))

def wpSeq (P : Program) (ops : Array Oper) (Q : Exit → Act → World → Prop) (S : World → Prop) : Plan → Act → World → Prop
  | .done, a, w => Q .normal a w
  | .take i r, a, w => ∃ o v, ops[i]? = some o ∧ YieldsIf P ops S o v a ∧ wpSeq P ops Q S r (a.put o.dst v) w
  | .run i r, a, w => wpOp P ops Q i (fun a' w' => S w' ∧ wpSeq P ops Q S r a' w') a w
  | .fork i p j q, a, w => wpOp P ops Q i (fun a' w' => S w' ∧ wpSeq P ops Q S p a' w') a w ∧ wpOp P ops Q j (fun a' w' => S w' ∧ wpSeq P ops Q S q a' w') a w

theorem wpSeq_sound {P : Program} {ops : Array Oper} {Q : Exit → Act → World → Prop} {S : World → Prop} (hs : Region.noSelect ops = true)
    (hQ : ∀ c d v (a : Act) w, Q (.panic c) (a.put d v) w → Q (.panic c) a w) :
    ∀ (ord : Plan) (listed : Array Bool) (a : Act) (w : World), seqChk ops ord listed = true → S w → wpSeq P ops Q S ord a w → wpAnyH P .any ops Q S ord.size listed a w
  | .done, listed, a, w, hc, _, h => wpAnyH_done (by simpa [seqChk] using hc) h _
  | .take i r, listed, a, w, hc, hS, h => by
    obtain ⟨o, v, ho, hy, h⟩ := h
    simp only [seqChk, Bool.and_eq_true] at hc
    exact wpAnyH_take ho hs hc.1 hc.2.1 (fun c a w => hQ c _ _ a w) hy hS (wpSeq_sound hs hQ r _ _ w hc.2.2 hS h)
  | .run i r, listed, a, w, hc, _, h => by
    simp only [seqChk, Bool.and_eq_true, beq_iff_eq] at hc
    refine wpAnyH_all hc.1 (by simp) ?_
    intro j hj
    obtain rfl : j = i := by simpa using hj
    exact wpOp_mono (fun a' w' h' => ⟨h'.1, wpSeq_sound hs hQ r _ a' w' hc.2 h'.1 h'.2⟩) h
  | .fork i p j q, listed, a, w, hc, _, h => by
    simp only [seqChk, Bool.and_eq_true, beq_iff_eq] at hc
    refine wpAnyH_all hc.1 (by simp) ?_
    intro k hk
    simp only [List.mem_cons, List.not_mem_nil, or_false] at hk
    rcases hk with rfl | rfl
    · exact wpOp_mono (fun a' w' h' => ⟨h'.1, wpSeq_sound hs hQ p _ a' w' hc.2.2.1 h'.1 h'.2⟩) h.1
    · have hsz : q.size = p.size := hc.2.1.symm
      have := wpOp_mono (fun a' w' (h' : S w' ∧ wpSeq P ops Q S q a' w') => (⟨h'.1, wpSeq_sound hs hQ q _ a' w' hc.2.2.2 h'.1 h'.2⟩ : S w' ∧ wpAnyH P .any ops Q S q.size (listed.setIfInBounds k true) a' w')) h.2
      rw [hsz] at this
      exact this

theorem wp_region_seq {P : Program} {l : List Oper} {Q : Exit → Act → World → Prop} {id : Nat} {a : Act} {w : World} (S : World → Prop) (ord : Plan)
    (hm : P.follows .mixedOrders = true) (hs : Region.noSelect l.toArray = true) (hc : (seqChk l.toArray ord (Array.replicate l.toArray.size false) && (ord.size == l.toArray.size)) = true)
    (hS : S w.drew) (h : wpSeq P l.toArray (NoPanic Q) S ord a w.drew) : (Code.region id l.toArray true).wp P Q a w := by
  simp only [Bool.and_eq_true, beq_iff_eq] at hc
  refine wp_region_noPanic (wp_region_held (S := S) hm ?_)
  have := wpSeq_sound (P := P) (Q := NoPanic Q) hs (fun c d v a w h => (h : False).elim) ord (Array.replicate l.toArray.size false) a w.drew hc.1 hS h
  rw [hc.2] at this
  exact this

def nth : List Oper → Nat → Option Oper
  | [], _ => none
  | o :: _, 0 => some o
  | _ :: l, i + 1 => nth l i
theorem nth_eq : ∀ (l : List Oper) (i : Nat), nth l i = l[i]?
  | [], i => by simp [nth]
  | o :: _, 0 => by simp [nth]
  | o :: l, i + 1 => by simp [nth, nth_eq l i]

section
variable {P : Program} {l : List Oper} {Q : Exit → Act → World → Prop} {S : World → Prop} {i : Nat} {r : Plan} {a : Act} {w : World}
theorem nth_arr {o : Oper} (ho : nth l i = some o) : l.toArray[i]? = some o := by rw [List.getElem?_toArray, ← nth_eq]; exact ho
theorem seq_take {o : Oper} {v : Value} (ho : nth l i = some o) (hw : Region.wanted o (yielded l.toArray a.tmps) = true) (hy : ∀ w, S w → (execOp a.eval o).run P w = .ok (.value v) w)
    (h : wpSeq P l.toArray Q S r (a.put o.dst v) w) : wpSeq P l.toArray Q S (.take i r) a w := ⟨o, v, nth_arr ho, Or.inl ⟨hw, hy⟩, h⟩
theorem seq_skip {o : Oper} (ho : nth l i = some o) (hw : Region.wanted o (yielded l.toArray a.tmps) = false) (h : wpSeq P l.toArray Q S r (a.put o.dst undef) w) : wpSeq P l.toArray Q S (.take i r) a w :=
  ⟨o, undef, nth_arr ho, Or.inr ⟨hw, rfl⟩, h⟩
theorem op_pass {K : Act → World → Prop} {o : Oper} (ho : nth l i = some o) (hw : Region.wanted o (yielded l.toArray a.tmps) = false) (hS : S w) (h : K (a.put o.dst undef) w) : wpOp P l.toArray Q i (fun a' w' => S w' ∧ K a' w') a w := by
  unfold wpOp
  rw [nth_arr ho]
  simp only [hw]
  exact ⟨hS, h⟩
theorem op_run {K : Act → World → Prop} {o : Oper} (ho : nth l i = some o) (hw : Region.wanted o (yielded l.toArray a.tmps) = true)
    (h : ∀ K' : Act → World → Prop, (∀ a w, S w → K a w → K' a w) → Oper.wp P o a w K' Q) : wpOp P l.toArray Q i (fun a' w' => S w' ∧ K a' w') a w := by
  unfold wpOp
  rw [nth_arr ho]
  simp only [hw, if_true]
  exact Or.inl (h _ fun a w hS hr => ⟨hS, hr⟩)
theorem seq_pass {o : Oper} (ho : nth l i = some o) (hw : Region.wanted o (yielded l.toArray a.tmps) = false) (hS : S w) (h : wpSeq P l.toArray Q S r (a.put o.dst undef) w) : wpSeq P l.toArray Q S (.run i r) a w :=
  op_pass (K := wpSeq P l.toArray Q S r) ho hw hS h
theorem seq_run {o : Oper} (ho : nth l i = some o) (hw : Region.wanted o (yielded l.toArray a.tmps) = true)
    (h : ∀ K : Act → World → Prop, (∀ a w, S w → wpSeq P l.toArray Q S r a w → K a w) → Oper.wp P o a w K Q) : wpSeq P l.toArray Q S (.run i r) a w :=
  op_run (K := wpSeq P l.toArray Q S r) ho hw h
theorem seq_fork {j : Nat} {q : Plan} (h1 : wpSeq P l.toArray Q S (.run i r) a w) (h2 : wpSeq P l.toArray Q S (.run j q) a w) : wpSeq P l.toArray Q S (.fork i r j q) a w := ⟨h1, h2⟩
theorem seq_nil (h : Q .normal a w) : wpSeq P l.toArray (NoPanic Q) S .done a w := h
end

attribute [irreducible] wpSeq

end Go.Proofs.Ytlfingcmekifkaa
