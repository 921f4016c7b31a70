/- A region whose order Go leaves open, walked in one order: what yields one value in every world that meets S is taken as soon as it may come up; what else stands there (calls, allocations, stores) is carried out where it alone may come up. -/
/- Two lists of numbers held against each other: roundelayplain.Ints, roundelayref02.Same. -/
import Derived.Test.YtfghmlpjbedomaaGreatBase
import Derived.Deep.RegionHeld3
import Derived.Test.YtfghmlpjbedomaaGreatProg
import Derived.Deep.QuietTactic
import Derived.BigQuiet
namespace Go.Proofs.YtfghmlpjbedomaaGreat
open Go.RowKit

/-- An order of a walk: an operation taken first; one that is carried out where it alone may come up; two that may come up both. -/
inductive Plan where
  | done
  | take (i : Nat) (p : Plan)
  | run (i : Nat) (p : Plan)
  | fork (i : Nat) (p : Plan) (j : Nat) (q : Plan)

def Plan.size : Plan → Nat
  | .done => 0
  | .take _ p => p.size + 1
  | .run _ p => p.size + 1
  | .fork _ p _ _ => p.size + 1

def seqChk (ops : Array Oper) : Plan → Array Bool → Bool
  | .done, listed => (Region.ready .any ops listed).isEmpty
  | .take i r, listed => Region.free .any ops listed i && ((Region.ready .any ops listed).contains i && seqChk ops r (listed.setIfInBounds i true))
  | .run i r, listed => (Region.ready .any ops listed == [i]) && seqChk ops r (listed.setIfInBounds i true)
  | .fork i p j q, listed => (Region.ready .any ops listed == [i, j]) && ((p.size == q.size) && (seqChk ops p (listed.setIfInBounds i true) && seqChk ops q (listed.setIfInBounds j true)))

def wpSeq (P : Program) (ops : Array Oper) (Q : Exit → Act → World → Prop) (S : World → Prop) : Plan → Act → World → Prop
  | .done, a, w => Q .normal a w
  | .take i r, a, w => ∃ o v, ops[i]? = some o ∧ YieldsIf P ops S o v a ∧ wpSeq P ops Q S r (a.put o.dst v) w
  | .run i r, a, w => wpOp P ops Q i (fun a' w' => S w' ∧ wpSeq P ops Q S r a' w') a w
  | .fork i p j q, a, w => wpOp P ops Q i (fun a' w' => S w' ∧ wpSeq P ops Q S p a' w') a w ∧ wpOp P ops Q j (fun a' w' => S w' ∧ wpSeq P ops Q S q a' w') a w

theorem wpSeq_sound {P : Program} {ops : Array Oper} {Q : Exit → Act → World → Prop} {S : World → Prop} (hs : Region.noSelect ops = true)
    (hQ : ∀ c d v (a : Act) w, Q (.panic c) (a.put d v) w → Q (.panic c) a w) :
    ∀ (ord : Plan) (listed : Array Bool) (a : Act) (w : World), seqChk ops ord listed = true → S w → wpSeq P ops Q S ord a w → wpAnyH P .any ops Q S ord.size listed a w
  | .done, listed, a, w, hc, _, h => wpAnyH_done (by simpa [seqChk] using hc) h _
  | .take i r, listed, a, w, hc, hS, h => by
    obtain ⟨o, v, ho, hy, h⟩ := h
    simp only [seqChk, Bool.and_eq_true] at hc
    exact wpAnyH_take ho hs hc.1 hc.2.1 (fun c a w => hQ c _ _ a w) hy hS (wpSeq_sound hs hQ r _ _ w hc.2.2 hS h)
  | .run i r, listed, a, w, hc, _, h => by
    simp only [seqChk, Bool.and_eq_true, beq_iff_eq] at hc
    refine wpAnyH_all hc.1 (by simp) ?_
    intro j hj
    obtain rfl : j = i := by simpa using hj
    exact wpOp_mono (fun a' w' h' => ⟨h'.1, wpSeq_sound hs hQ r _ a' w' hc.2 h'.1 h'.2⟩) h
  | .fork i p j q, listed, a, w, hc, _, h => by
    simp only [seqChk, Bool.and_eq_true, beq_iff_eq] at hc
    refine wpAnyH_all hc.1 (by simp) ?_
    intro k hk
    simp only [List.mem_cons, List.not_mem_nil, or_false] at hk
    rcases hk with rfl | rfl
    · exact wpOp_mono (fun a' w' h' => ⟨h'.1, wpSeq_sound hs hQ p _ a' w' hc.2.2.1 h'.1 h'.2⟩) h.1
    · have hsz : q.size = p.size := hc.2.1.symm
      have := wpOp_mono (fun a' w' (h' : S w' ∧ wpSeq P ops Q S q a' w') => (⟨h'.1, wpSeq_sound hs hQ q _ a' w' hc.2.2.2 h'.1 h'.2⟩ : S w' ∧ wpAnyH P .any ops Q S q.size (listed.setIfInBounds k true) a' w')) h.2
      rw [hsz] at this
      exact this

theorem wp_region_seq {P : Program} {l : List Oper} {Q : Exit → Act → World → Prop} {id : Nat} {a : Act} {w : World} (S : World → Prop) (ord : Plan)
    (hm : P.follows .mixedOrders = true) (hs : Region.noSelect l.toArray = true) (hc : (seqChk l.toArray ord (Array.replicate l.toArray.size false) && (ord.size == l.toArray.size)) = true)
    (hS : S w.drew) (h : wpSeq P l.toArray (NoPanic Q) S ord a w.drew) : (Code.region id l.toArray true).wp P Q a w := by
  simp only [Bool.and_eq_true, beq_iff_eq] at hc
  refine wp_region_noPanic (wp_region_held (S := S) hm ?_)
  have := wpSeq_sound (P := P) (Q := NoPanic Q) hs (fun c d v a w h => (h : False).elim) ord (Array.replicate l.toArray.size false) a w.drew hc.1 hS h
  rw [hc.2] at this
  exact this

def nth : List Oper → Nat → Option Oper
  | [], _ => none
  | o :: _, 0 => some o
  | _ :: l, i + 1 => nth l i
theorem nth_eq : ∀ (l : List Oper) (i : Nat), nth l i = l[i]?
  | [], i => by simp [nth]
  | o :: _, 0 => by simp [nth]
  | o :: l, i + 1 => by simp [nth, nth_eq l i]

section
variable {P : Program} {l : List Oper} {Q : Exit → Act → World → Prop} {S : World → Prop} {i : Nat} {r : Plan} {a : Act} {w : World}
theorem nth_arr {o : Oper} (ho : nth l i = some o) : l.toArray[i]? = some o := by rw [List.getElem?_toArray, ← nth_eq]; exact ho
theorem seq_take {o : Oper} {v : Value} (ho : nth l i = some o) (hw : Region.wanted o (yielded l.toArray a.tmps) = true) (hy : ∀ w, S w → (execOp a.eval o).run P w = .ok (.value v) w)
    (h : wpSeq P l.toArray Q S r (a.put o.dst v) w) : wpSeq P l.toArray Q S (.take i r) a w := ⟨o, v, nth_arr ho, Or.inl ⟨hw, hy⟩, h⟩
theorem seq_skip {o : Oper} (ho : nth l i = some o) (hw : Region.wanted o (yielded l.toArray a.tmps) = false) (h : wpSeq P l.toArray Q S r (a.put o.dst undef) w) : wpSeq P l.toArray Q S (.take i r) a w :=
  ⟨o, undef, nth_arr ho, Or.inr ⟨hw, rfl⟩, h⟩
theorem op_pass {K : Act → World → Prop} {o : Oper} (ho : nth l i = some o) (hw : Region.wanted o (yielded l.toArray a.tmps) = false) (hS : S w) (h : K (a.put o.dst undef) w) : wpOp P l.toArray Q i (fun a' w' => S w' ∧ K a' w') a w := by
  unfold wpOp
  rw [nth_arr ho]
  simp only [hw]
  exact ⟨hS, h⟩
theorem op_run {K : Act → World → Prop} {o : Oper} (ho : nth l i = some o) (hw : Region.wanted o (yielded l.toArray a.tmps) = true)
    (h : ∀ K' : Act → World → Prop, (∀ a w, S w → K a w → K' a w) → Oper.wp P o a w K' Q) : wpOp P l.toArray Q i (fun a' w' => S w' ∧ K a' w') a w := by
  unfold wpOp
  rw [nth_arr ho]
  simp only [hw, if_true]
  exact Or.inl (h _ fun a w hS hr => ⟨hS, hr⟩)
theorem seq_pass {o : Oper} (ho : nth l i = some o) (hw : Region.wanted o (yielded l.toArray a.tmps) = false) (hS : S w) (h : wpSeq P l.toArray Q S r (a.put o.dst undef) w) : wpSeq P l.toArray Q S (.run i r) a w :=
  op_pass (K := wpSeq P l.toArray Q S r) ho hw hS h
theorem seq_run {o : Oper} (ho : nth l i = some o) (hw : Region.wanted o (yielded l.toArray a.tmps) = true)
    (h : ∀ K : Act → World → Prop, (∀ a w, S w → wpSeq P l.toArray Q S r a w → K a w) → Oper.wp P o a w K Q) : wpSeq P l.toArray Q S (.run i r) a w :=
  op_run (K := wpSeq P l.toArray Q S r) ho hw h
theorem seq_fork {j : Nat} {q : Plan} (h1 : wpSeq P l.toArray Q S (.run i r) a w) (h2 : wpSeq P l.toArray Q S (.run j q) a w) : wpSeq P l.toArray Q S (.fork i r j q) a w := ⟨h1, h2⟩
theorem seq_nil (h : Q .normal a w) : wpSeq P l.toArray (NoPanic Q) S .done a w := h
end

attribute [irreducible] wpSeq

end Go.Proofs.YtfghmlpjbedomaaGreat

namespace Go.Proofs.YtfghmlpjbedomaaGreat
open Go.RowKit

/-- A row that the call owns reads as a list of numbers. -/
theorem sl_of_owns {w : World} {base : Nat} {e : TypeId} {v : Value} {kk : IntKind} {xs : List Int} (h : w.ownsRow base e 1 v xs.length (xs.map (Value.int kk))) (hm : xs.length ≤ maxLen) : Sl (ntEnc kk) 1 w v xs := by
  rcases h.2 with ⟨rfl, h0⟩ | ⟨g, cap, cur, rfl, _, hg, hnc, hcm, _, htake⟩
  · have : xs = [] := List.eq_nil_of_length_eq_zero h0
    subst this
    exact ⟨none, 0, rfl, Nat.le_refl _, Nat.zero_le _, fun k x hx => by simp at hx⟩
  · refine ⟨_, cap, rfl, hnc, hcm, fun k x hx => ⟨g, 0, rfl, (Array.getElem?_eq_some_iff.1 hg).1, fun j u hu => ?_⟩⟩
    have hk := (List.getElem?_eq_some_iff.1 hx).1
    rcases j with _ | j
    · simp only [ntEnc, List.getElem?_cons_zero, Option.some.injEq] at hu
      subst hu
      rw [cell_of_row w g _ cur e (0, 0) hg]
      have : (cur.toList.take (xs.length * 1))[k]? = some (.int kk x) := by rw [htake]; simp [hx]
      rw [List.getElem?_take] at this
      split at this
      · simpa using this
      · cases this
    · simp [ntEnc] at hu

theorem nt_cell {w : World} {kk : IntKind} {b p : Nat} {n : Int} (h : CellsAt w b p (ntEnc kk n)) : w.cell? ⟨b, p, none⟩ = some (.int kk n) := h 0 _ rfl

theorem list_ext_of {xs ys : List Int} (hl : xs.length = ys.length) (h : ∀ j, j < xs.length → xs[j]? = ys[j]?) : xs = ys := by
  apply List.ext_getElem?
  intro i
  by_cases hi : i < xs.length
  · exact h i hi
  · rw [List.getElem?_eq_none (by omega), List.getElem?_eq_none (by omega)]

set_option maxHeartbeats 1000000 in
theorem same_any (v1 v2 : Value) (xs ys : List Int) (w : World) (h1 : SlW w v1 xs) (h2 : SlW w v2 ys) :
    Calls Tryz.prog 16 #[v1, v2] w fun e w' => e = .returned (.bool (decide (xs = ys))) ∧ ∃ n, w' = w.drewN n := by
  obtain ⟨A, cA, rfl, a1, a2, a3⟩ := h1
  obtain ⟨B, cB, rfl, b1, b2, b3⟩ := h2
  have hlx : (xs.length : Int) ≤ 9223372036854775807 := by unfold maxLen at a2; omega
  by_cases hl : xs.length = ys.length
  · have hl1 : ((xs.length : Int) != (ys.length : Int)) = false := by simp [hl]
    have hl2 : ((xs.length : Int) == (ys.length : Int)) = true := by simp [hl]
    have HL := hide hl
    clear hl
    obtain ⟨R, hR⟩ : ∃ R, decide (xs = ys) = R := ⟨_, rfl⟩
    have HR := hide hR
    rw [hR]
    clear hR
    go_enter Tryz.func16, Tryz.ntmps16
    go_wp2
    go_loopw [13] (fun i wr => ∃ k : Nat, k ≤ xs.length ∧ i = .int .i64 k ∧ Hid (∀ j, j < k → xs[j]? = ys[j]?) ∧ Hid (∃ n, wr = w.drewN n)) (fun i _ => xs.length - (intOf i).toNat)
    case atStart => exact ⟨0, Nat.zero_le _, rfl, hide (fun j hj => by omega), hide ⟨0, rfl⟩⟩
    case round =>
      obtain ⟨k, hk, rfl, hok, hn⟩ := hrel
      obtain ⟨n, rfl⟩ := hn.out
      clear hn
      by_cases hlt : k < xs.length
      · obtain ⟨x, hx⟩ : ∃ x, xs[k]? = some x := ⟨_, List.getElem?_eq_getElem hlt⟩
        obtain ⟨y, hy⟩ : ∃ y, ys[k]? = some y := ⟨_, List.getElem?_eq_getElem (by have := HL.out; omega)⟩
        obtain ⟨b, o, rfl, hb, hc⟩ := a3 k x hx
        obtain ⟨b', o', rfl, hb', hc'⟩ := b3 k y hy
        have c1 := nt_cell hc
        have c2 := nt_cell hc'
        simp only [Nat.mul_one] at c1 c2
        have q0 : (0 : Int) ≤ (k : Int) := by omega
        have q1 : (k : Int) < (xs.length : Int) := by omega
        have q2 : (k : Int) < (ys.length : Int) := by have := HL.out; omega
        clear a3 b3 hc hc'
        by_cases hxy : x = y
        · have e1 : (x == y) = true := by simp [hxy]
          have e2 : (x != y) = false := by simp [hxy]
          have HN := hide (show xs[k]? = ys[k]? by rw [hx, hy, hxy])
          clear hx hy hxy
          go_wp2
          go_quiet (fail)
          go_wp2
          go_roundw
          case rel => exact ⟨k + 1, by omega, by go_num, hide (fun j hj => by by_cases h : j = k; (subst h; exact HN.out); exact hok.out j (by omega)), hide ⟨_, rfl⟩⟩
          case measure => simp [intOf] <;> omega
        · have e1 : (x == y) = false := by simp [hxy]
          have e2 : (x != y) = true := by simp [hxy]
          have HF : Hid (false = R) := by
            show _ = _
            rw [← HR.out, eq_comm, decide_eq_false_iff_not]
            intro he
            subst he
            rw [hx] at hy
            exact hxy (Option.some.inj hy)
          clear hx hy hxy hok
          go_wp2
          go_quiet (fail)
          go_wp2
          go_ret
          exact ⟨ret_bool HF.out, _, World.drewN_drewN _ _ _⟩
      · go_wp2
        go_ret
        refine ⟨ret_bool ?_, n, rfl⟩
        rw [← HR.out, eq_comm, decide_eq_true_eq]
        exact list_ext_of HL.out (fun j hj => hok.out j (by omega))
  · have hl1 : ((xs.length : Int) != (ys.length : Int)) = true := by simp; omega
    have hl2 : ((xs.length : Int) == (ys.length : Int)) = false := by simp; omega
    have HF : Hid (decide (xs = ys) = false) := by show _ = _; simp; intro he; exact hl (by rw [he])
    rw [HF.out]
    clear hl a3 b3
    go_enter Tryz.func16, Tryz.ntmps16
    go_wp2
    go_ret
    exact ⟨rfl, 0, rfl⟩
end Go.Proofs.YtfghmlpjbedomaaGreat
