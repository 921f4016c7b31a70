import Derived.Test.YtlfingcmekifkaaGreatBun23
import Derived.Test.YtlfingcmekifkaaGreatBun1
namespace Go.Proofs.YtlfingcmekifkaaGreat
open Go.RowKit
set_option maxRecDepth 100000 in
set_option maxHeartbeats 2000000 in
theorem most_le (ev : Value) (B : Nat) (Mu : Nat → Prop) (es : List Ep) (Aw : Option Addr) (nw cw : Nat) (mm : Mm) (now idle k : Int) (w : World) (h : EvsAt w B Mu ev es) (hk : ∀ e ∈ es, e.steps ≤ k) :
    Calls Tryz.prog 13 #[repV ev (.slice Aw nw cw) mm now idle, .int .i64 k] w fun e w' => e = .returned (.bool true) ∧ Below w.heap.size w w' := by
  obtain ⟨A, ce, rfl, hl⟩ := evs_len h
  have H := hide h
  have HK := hide hk
  have hel : (es.length : Int) ≤ 9223372036854775807 := by unfold maxLen at hl; omega
  clear h hk hl
  unfold repV
  obtain ⟨w1, hw1⟩ : ∃ w1, w1 = w.alloc (.cells #[.slice A es.length ce, .slice Aw nw cw, .int .i64 (wrap64 mm.rd), .int .i64 (wrap64 mm.wr), .int .i64 (wrap64 mm.sw), .int .i64 (wrap64 mm.ad), .int .i64 (wrap64 mm.ft), .int .i64 now, .int .i64 idle] 32) := ⟨_, rfl⟩
  have a0 : w1.cell? ⟨w.heap.size, 0, none⟩ = some (.slice A es.length ce) := by rw [hw1]; go_simp
  have z0 : w.heap.size < w1.heap.size := by rw [hw1]; simp
  have hb1 : Below w.heap.size w w1 := by rw [hw1]; exact (Below.refl _ _).alloc (Nat.le_refl _) _
  have HB1 := hide hb1
  have HW1 := hide hw1
  clear hb1 hw1
  go_enter Tryz.func13, Tryz.ntmps13
  go_upto_region 1 with fail
  rw [← HW1.out]
  clear HW1
  go_wp2
  go_loopw [9] (fun i wr => ∃ k : Nat, k ≤ es.length ∧ i = .int .i64 (k : Int) ∧ wr = w1) (fun i _ => es.length - (intOf i).toNat)
  case atStart => exact ⟨0, Nat.zero_le _, rfl, rfl⟩
  case round =>
    obtain ⟨j, hjn, rfl, hW⟩ := hrel
    subst hW
    by_cases hlt : j < es.length
    · obtain ⟨e, he⟩ : ∃ e, es[j]? = some e := ⟨_, List.getElem?_eq_getElem hlt⟩
      obtain ⟨g1, rfl, hg1, x, hx, c0, c1, c2, c3, c4, c5, c6, c7⟩ := ev_at (H.out.below HB1.out) he
      have hs := HK.out e (List.mem_of_getElem? he)
      have hlt' : (j : Int) < (es.length : Int) := by omega
      have d0 : decide (k < e.steps) = false := by simp; omega
      clear hx he c0 c1 c2 c4 c5 c6 c7 hs
      go_wp2
      go_roundw
      case rel => exact ⟨j + 1, by omega, by go_num, by trivial⟩
      case measure => first | (simp [intOf]; done) | (simp [intOf]; omega)
    · obtain rfl : es.length = j := by omega
      go_wp2
      go_ret
      exact ⟨rfl, HB1.out⟩
set_option maxRecDepth 100000 in
set_option maxHeartbeats 2000000 in
theorem most_zero (k : Int) (w : World) : Calls Tryz.prog 13 #[zeroV, .int .i64 k] w fun e w' => e = .returned (.bool true) ∧ Below w.heap.size w w' := by
  unfold zeroV
  go_enter Tryz.func13, Tryz.ntmps13
  go_wp2
  go_loopw [9] (fun i wr => i = .int .i64 0 ∧ wr = w.alloc (.cells #[.slice none 0 0, .slice none 0 0, .int .i64 0, .int .i64 0, .int .i64 0, .int .i64 0, .int .i64 0, .int .i64 0, .int .i64 0] 32)) (fun i _ => 0)
  case atStart => exact ⟨rfl, rfl⟩
  case round =>
    obtain ⟨rfl, hW⟩ := hrel
    subst hW
    go_wp2
    go_ret
    exact ⟨rfl, (Below.refl _ _).alloc (Nat.le_refl _) _⟩
end Go.Proofs.YtlfingcmekifkaaGreat

namespace Go.Proofs.YtlfingcmekifkaaGreat
open Go.RowKit
inductive Plan3 where
  | base (p : Plan)
  | take (i : Nat) (p : Plan3)
  | fork (i : Nat) (p : Plan3) (j : Nat) (q : Plan3)
  | fork3 (i : Nat) (p : Plan3) (j : Nat) (q : Plan3) (k : Nat) (r : Plan3)
def Plan3.size : Plan3 → Nat
  | .base p => p.size
  | .take _ p => p.size + 1
  | .fork _ p _ _ => p.size + 1
  | .fork3 _ p _ _ _ _ => p.size + 1
def seqChk3 (ops : Array Oper) : Plan3 → Array Bool → Bool
  | .base p, listed => seqChk ops p listed
  | .take i r, listed => Region.free .any ops listed i && ((Region.ready .any ops listed).contains i && seqChk3 ops r (listed.setIfInBounds i true))
  | .fork i p j q, listed => (Region.ready .any ops listed == [i, j]) && ((p.size == q.size) && (seqChk3 ops p (listed.setIfInBounds i true) && seqChk3 ops q (listed.setIfInBounds j true)))
  | .fork3 i p j q k r, listed => (Region.ready .any ops listed == [i, j, k]) && ((p.size == q.size) && ((p.size == r.size) && (seqChk3 ops p (listed.setIfInBounds i true) && (seqChk3 ops q (listed.setIfInBounds j true) && seqChk3 ops r (listed.setIfInBounds k true)))))
def wpSeq3 (P : Program) (ops : Array Oper) (Q : Exit → Act → World → Prop) (S : World → Prop) : Plan3 → Act → World → Prop
  | .base p, a, w => wpSeq P ops Q S p a w
  | .take i r, a, w => ∃ o v, ops[i]? = some o ∧ YieldsIf P ops S o v a ∧ wpSeq3 P ops Q S r (a.put o.dst v) w
  | .fork i p j q, a, w => wpOp P ops Q i (fun a' w' => S w' ∧ wpSeq3 P ops Q S p a' w') a w ∧ wpOp P ops Q j (fun a' w' => S w' ∧ wpSeq3 P ops Q S q a' w') a w
  | .fork3 i p j q k r, a, w => wpOp P ops Q i (fun a' w' => S w' ∧ wpSeq3 P ops Q S p a' w') a w ∧ wpOp P ops Q j (fun a' w' => S w' ∧ wpSeq3 P ops Q S q a' w') a w ∧ wpOp P ops Q k (fun a' w' => S w' ∧ wpSeq3 P ops Q S r a' w') a w
theorem wpSeq3_sound {P : Program} {ops : Array Oper} {Q : Exit → Act → World → Prop} {S : World → Prop} (hs : Region.noSelect ops = true)
    (hQ : ∀ c d v (a : Act) w, Q (.panic c) (a.put d v) w → Q (.panic c) a w) :
    ∀ (ord : Plan3) (listed : Array Bool) (a : Act) (w : World), seqChk3 ops ord listed = true → S w → wpSeq3 P ops Q S ord a w → wpAnyH P .any ops Q S ord.size listed a w
  | .base p, listed, a, w, hc, hS, h => wpSeq_sound hs hQ p listed a w hc hS h
  | .take i r, listed, a, w, hc, hS, h => by
    obtain ⟨o, v, ho, hy, h⟩ := h
    simp only [seqChk3, Bool.and_eq_true] at hc
    exact wpAnyH_take ho hs hc.1 hc.2.1 (fun c a w => hQ c _ _ a w) hy hS (wpSeq3_sound hs hQ r _ _ w hc.2.2 hS h)
  | .fork i p j q, listed, a, w, hc, _, h => by
    simp only [seqChk3, Bool.and_eq_true, beq_iff_eq] at hc
    refine wpAnyH_all hc.1 (by simp) ?_
    intro k hk
    simp only [List.mem_cons, List.not_mem_nil, or_false] at hk
    rcases hk with rfl | rfl
    · exact wpOp_mono (fun a' w' h' => ⟨h'.1, wpSeq3_sound hs hQ p _ a' w' hc.2.2.1 h'.1 h'.2⟩) h.1
    · have hsz : q.size = p.size := hc.2.1.symm
      have := wpOp_mono (fun a' w' (h' : S w' ∧ wpSeq3 P ops Q S q a' w') => (⟨h'.1, wpSeq3_sound hs hQ q _ a' w' hc.2.2.2 h'.1 h'.2⟩ : S w' ∧ wpAnyH P .any ops Q S q.size (listed.setIfInBounds k true) a' w')) h.2
      rw [hsz] at this
      exact this
  | .fork3 i p j q k r, listed, a, w, hc, _, h => by
    simp only [seqChk3, Bool.and_eq_true, beq_iff_eq] at hc
    refine wpAnyH_all hc.1 (by simp) ?_
    intro l hl
    simp only [List.mem_cons, List.not_mem_nil, or_false] at hl
    rcases hl with rfl | rfl | rfl
    · exact wpOp_mono (fun a' w' h' => ⟨h'.1, wpSeq3_sound hs hQ p _ a' w' hc.2.2.2.1 h'.1 h'.2⟩) h.1
    · have hsz : q.size = p.size := hc.2.1.symm
      have := wpOp_mono (fun a' w' (h' : S w' ∧ wpSeq3 P ops Q S q a' w') => (⟨h'.1, wpSeq3_sound hs hQ q _ a' w' hc.2.2.2.2.1 h'.1 h'.2⟩ : S w' ∧ wpAnyH P .any ops Q S q.size (listed.setIfInBounds l true) a' w')) h.2.1
      rw [hsz] at this
      exact this
    · have hsz : r.size = p.size := hc.2.2.1.symm
      have := wpOp_mono (fun a' w' (h' : S w' ∧ wpSeq3 P ops Q S r a' w') => (⟨h'.1, wpSeq3_sound hs hQ r _ a' w' hc.2.2.2.2.2 h'.1 h'.2⟩ : S w' ∧ wpAnyH P .any ops Q S r.size (listed.setIfInBounds l true) a' w')) h.2.2
      rw [hsz] at this
      exact this
theorem wp_region_seq3 {P : Program} {l : List Oper} {Q : Exit → Act → World → Prop} {id : Nat} {a : Act} {w : World} (S : World → Prop) (ord : Plan3)
    (hm : P.follows .mixedOrders = true) (hs : Region.noSelect l.toArray = true) (hc : (seqChk3 l.toArray ord (Array.replicate l.toArray.size false) && (ord.size == l.toArray.size)) = true)
    (hS : S w.drew) (h : wpSeq3 P l.toArray (NoPanic Q) S ord a w.drew) : (Code.region id l.toArray true).wp P Q a w := by
  simp only [Bool.and_eq_true, beq_iff_eq] at hc
  refine wp_region_noPanic (wp_region_held (S := S) hm ?_)
  have := wpSeq3_sound (P := P) (Q := NoPanic Q) hs (fun c d v a w h => (h : False).elim) ord (Array.replicate l.toArray.size false) a w.drew hc.1 hS h
  rw [hc.2] at this
  exact this
section
variable {P : Program} {l : List Oper} {Q : Exit → Act → World → Prop} {S : World → Prop} {i j k : Nat} {p q r : Plan3} {a : Act} {w : World}
theorem seq3_take {o : Oper} {v : Value} (ho : nth l i = some o) (hw : Region.wanted o (yielded l.toArray a.tmps) = true) (hy : ∀ w, S w → (execOp a.eval o).run P w = .ok (.value v) w)
    (h : wpSeq3 P l.toArray Q S r (a.put o.dst v) w) : wpSeq3 P l.toArray Q S (.take i r) a w := ⟨o, v, nth_arr ho, Or.inl ⟨hw, hy⟩, h⟩
theorem seq3_base {p : Plan} (h : wpSeq P l.toArray Q S p a w) : wpSeq3 P l.toArray Q S (.base p) a w := h
theorem seq3_fork (h1 : wpOp P l.toArray Q i (fun a' w' => S w' ∧ wpSeq3 P l.toArray Q S p a' w') a w) (h2 : wpOp P l.toArray Q j (fun a' w' => S w' ∧ wpSeq3 P l.toArray Q S q a' w') a w) : wpSeq3 P l.toArray Q S (.fork i p j q) a w := ⟨h1, h2⟩
theorem seq3_fork3 (h1 : wpOp P l.toArray Q i (fun a' w' => S w' ∧ wpSeq3 P l.toArray Q S p a' w') a w) (h2 : wpOp P l.toArray Q j (fun a' w' => S w' ∧ wpSeq3 P l.toArray Q S q a' w') a w) (h3 : wpOp P l.toArray Q k (fun a' w' => S w' ∧ wpSeq3 P l.toArray Q S r a' w') a w) : wpSeq3 P l.toArray Q S (.fork3 i p j q k r) a w := ⟨h1, h2, h3⟩
theorem seq3_run {o : Oper} (ho : nth l i = some o) (hw : Region.wanted o (yielded l.toArray a.tmps) = true)
    (h : ∀ K : Act → World → Prop, (∀ a w, S w → wpSeq3 P l.toArray Q S r a w → K a w) → Oper.wp P o a w K Q) : wpOp P l.toArray Q i (fun a' w' => S w' ∧ wpSeq3 P l.toArray Q S r a' w') a w :=
  op_run (K := wpSeq3 P l.toArray Q S r) ho hw h
end
attribute [irreducible] wpSeq3
end Go.Proofs.YtlfingcmekifkaaGreat
