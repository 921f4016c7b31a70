import Derived.Test.YtlfingcmekifkaaGreatBun20
import Derived.Test.YtlfingcmekifkaaGreatRt36
import Derived.Test.YtlfingcmekifkaaGreatBun21
import Derived.Test.YtlfingcmekifkaaGreatBun1
namespace Go.Proofs.YtlfingcmekifkaaGreat
open Go.RowKit
set_option maxRecDepth 100000 in
set_option maxHeartbeats 1000000 in
theorem beside13 (nn : Int) (p q : Int) (hp : 1 ≤ p ∧ p ≤ 64) (w : World) : Calls Tryz.prog 68 #[.int .i64 nn, spV 13 p q] w fun e w' => e = .returned (.int .i64 p) ∧ Below w.heap.size w w' := by
  have d1 : decide (1 ≤ p) = true := by simp; omega
  have d2 : decide (p ≤ 64) = true := by simp; omega
  unfold spV
  go_enter Tryz.func68, Tryz.ntmps68
  go_wp2
  go_ret
  exact ⟨rfl, (Below.refl _ _).alloc (Nat.le_refl _) _⟩
set_option maxRecDepth 100000 in
set_option maxHeartbeats 1000000 in
theorem size13 (nn : Int) (p q : Int) (hp : 1 ≤ p ∧ p ≤ 64) (w : World) : Calls Tryz.prog 60 #[.int .i64 nn, spV 13 p q] w fun e w' => e = .returned (.int .i64 p) ∧ Below w.heap.size w w' := by
  have N := fun W => beside13 nn p q hp W
  have hb : Below w.heap.size w (w.alloc (.cells #[.int .i64 13, .int .i64 p, .int .i64 q] 39)) := (Below.refl _ _).alloc (Nat.le_refl _) _
  unfold spV at N ⊢
  go_enter Tryz.func60, Tryz.ntmps60
  go_wp2_with fail
  refine (N _).mono ?_
  rintro e w1 ⟨rfl, hb1⟩
  have HB := hide (hb.trans (hb1.mono (by simp)))
  clear hb1 hb N
  go_wp2
  go_ret
  exact ⟨rfl, HB.out⟩
end Go.Proofs.YtlfingcmekifkaaGreat

namespace Go.Proofs.YtlfingcmekifkaaGreat
open Go.RowKit
set_option maxRecDepth 100000 in
set_option maxHeartbeats 2000000 in
theorem plainDoLl {w : World} {hb wp q nh th Pn : Nat} {g f : Nat → Value} {X : Rv} {T : Tp} {W : Rw} {Mu : Nat → Prop} (c : Cl) (n sq : Int) (h : DoAt w hb wp q nh th g f X T W Mu) (hth : th < 16) (hB : T.fresh = true → RtB T W) (hP : 1 ≤ Pn ∧ Pn ≤ 64) (hcb : ClB c) (htb : TBd T W) (hpl : T.priv.length ≤ 1000000) :
    Calls Tryz.prog 61 #[.pointer (some ⟨hb, q, none⟩), .int .i64 n, .int .i64 0, spV 13 (Pn : Int) sq, clV c] w fun e w' => e = .returned (.tuple #[]) ∧ DoR w hb wp q nh th g f X Mu (llDo (Pn : Int) th c T W).1 (llDo (Pn : Int) th c T W).2 w' := by
  have hb2 : Below w.heap.size w ((w.alloc (.cells #[.int .i64 13, .int .i64 (Pn : Int), .int .i64 sq] 39)).alloc (.cells #[.int .i64 c.thread, .int .i64 c.obj, .int .i64 c.kind, .int .u64 c.a, .int .u64 c.b, .int .u64 c.c] 48)) := ((Below.refl _ w).alloc (Nat.le_refl _) _).alloc (by simp) _
  have N := llDoW c sq hP (h.grow hb2) hth hB hcb htb hpl
  have HB := hide hb2
  obtain ⟨TT, hTT⟩ : ∃ TT, llDo (Pn : Int) th c T W = TT := ⟨_, rfl⟩
  rw [hTT] at N ⊢
  clear h hb2 hB hTT hP hcb htb hpl
  unfold spV clV at N ⊢
  go_enter Tryz.func61, Tryz.ntmps61
  go_wp2_with fail
  refine N.mono ?_
  rintro e w1 ⟨rfl, hD⟩
  have HD := hide hD
  clear hD N
  go_wp2
  go_end0
  exact ⟨rfl, HD.out.since HB.out⟩
theorem plainDo_ll (n : Nat) {Pn : Nat} (hP : 1 ≤ Pn ∧ Pn ≤ 64) (sq : Int) : PlainDo (llDo (Pn : Int)) n [(13, (Pn : Int), sq)] [0] := by
  intro w hb wp q nh th g f X T W Mu c s b h0 h1 h2 h ht hB hcb htb hpl
  rcases hc : c.obj.toNat with _ | k
  · rw [hc] at h1 h2
    cases h1
    cases h2
    exact plainDoLl c (n : Int) sq h ht hB hP hcb htb hpl
  · rw [hc] at h1
    cases h1
set_option maxRecDepth 100000 in
set_option maxHeartbeats 1000000 in
theorem beside13bad (nn : Int) (p q : Int) (hp : p < 1 ∨ 64 < p) (w : World) : Calls Tryz.prog 68 #[.int .i64 nn, spV 13 p q] w fun e w' => e = .returned (.int .i64 (-1)) ∧ Below w.heap.size w w' := by
  unfold spV
  rcases hp with hp | hp
  · have d1 : decide (1 ≤ p) = false := by simp; omega
    clear hp
    go_enter Tryz.func68, Tryz.ntmps68
    go_wp2
    go_ret
    exact ⟨rfl, (Below.refl _ _).alloc (Nat.le_refl _) _⟩
  · have d1 : decide (1 ≤ p) = true := by simp; omega
    have d2 : decide (p ≤ 64) = false := by simp; omega
    clear hp
    go_enter Tryz.func68, Tryz.ntmps68
    go_wp2
    go_ret
    exact ⟨rfl, (Below.refl _ _).alloc (Nat.le_refl _) _⟩
set_option maxRecDepth 100000 in
set_option maxHeartbeats 1000000 in
theorem size13bad (nn : Int) (p q : Int) (hp : p < 1 ∨ 64 < p) (w : World) : Calls Tryz.prog 60 #[.int .i64 nn, spV 13 p q] w fun e w' => e = .returned (.int .i64 (-1)) ∧ Below w.heap.size w w' := by
  have N := fun W => beside13bad nn p q hp W
  have hb : Below w.heap.size w (w.alloc (.cells #[.int .i64 13, .int .i64 p, .int .i64 q] 39)) := (Below.refl _ _).alloc (Nat.le_refl _) _
  unfold spV at N ⊢
  go_enter Tryz.func60, Tryz.ntmps60
  go_wp2_with fail
  refine (N _).mono ?_
  rintro e w1 ⟨rfl, hb1⟩
  have HB := hide (hb.trans (hb1.mono (by simp)))
  clear hb1 hb N
  go_wp2
  go_ret
  exact ⟨rfl, HB.out⟩
set_option maxRecDepth 100000 in
set_option maxHeartbeats 1000000 in
theorem plainBasesBad {n : Int} {As : Option Addr} {cs : Nat} {sp : Int × Int × Int} {w : World} (hS : ∀ W, Calls Tryz.prog 60 #[.int .i64 n, spV sp.1 sp.2.1 sp.2.2] W fun e w' => e = .returned (.int .i64 (-1)) ∧ Below W.heap.size W w') (h : SlSp w (.slice As 1 cs) [sp]) :
    Calls Tryz.prog 40 #[.int .i64 n, .slice As 1 cs] w fun e w' => e = .returned (.tuple #[.slice none 0 0, .int .i64 0, .int .i64 10]) ∧ Below w.heap.size w w' := by
  obtain ⟨A, c, e, h1, h2, h3⟩ := h
  injection e with e1 e2 e3
  subst e1 e3
  obtain ⟨g, o, rfl, hg, hc⟩ := h3 0 sp rfl
  obtain ⟨x0, x1, x2⟩ := sp_cells hc
  simp only [Nat.zero_mul, Nat.add_zero] at x0 x1 x2
  unfold spV at hS
  clear h3 hc
  have hcs : (cs : Int) ≤ 9223372036854775807 := by unfold maxLen at h2; omega
  clear h1 h2 e2
  go_enter Tryz.func40, Tryz.ntmps40
  go_wp2
  go_loopw [14] (fun k wr => k = .int .i64 0 ∧ wr = w) (fun _ _ => 0)
  case atStart => exact ⟨rfl, rfl⟩
  case round =>
    obtain ⟨rfl, hW⟩ := hrel
    subst hW
    go_wp2_with fail
    refine (hS _).mono ?_
    rintro e w1 ⟨rfl, hb1⟩
    have HB1 := hide hb1
    clear hb1
    go_wp2
    try simp only [Exit.inBlock, Exit.then]
    refine bodyPost_ret (v := .tuple #[.slice none 0 0, .int .i64 0, .int .i64 10]) (by simp [results, Tryz.results40, go_sem]) rfl ?_
    exact ⟨rfl, HB1.out⟩
set_option maxRecDepth 100000 in
set_option maxHeartbeats 2000000 in
theorem plainLogNot {n : Int} {As : Option Addr} {cs0 : Nat} {sp : Int × Int × Int} {A : Option Addr} {m c : Nat} {cs : List Cl} {Ap : Option Addr} {np cp : Nat} {w : World} (hS : ∀ W, Calls Tryz.prog 60 #[.int .i64 n, spV sp.1 sp.2.1 sp.2.2] W fun e w' => e = .returned (.int .i64 (-1)) ∧ Below W.heap.size W w') (hsp : SlSp w (.slice As 1 cs0) [sp])
    (h : SlCl w (.slice A m c) cs) (hm : cs.length = m) (hE : chkE n cs np = 0) :
    Calls Tryz.prog 25 #[.int .i64 n, .slice As 1 cs0, .slice A m c, .slice Ap np cp] w fun e w' => e = .returned (.tuple #[zeroV, .slice none 0 0, .int .i64 10]) ∧ Below w.heap.size w w' := by
  have N0 := plainWrong n A m c cs Ap np cp (w.alloc zeroRep) (h.alloc _) hm
  rw [hE] at N0
  have NB := plainBasesBad hS (hsp.alloc zeroRep)
  have hzr := zero_rep
  unfold zeroRep at N0 NB
  unfold zeroV
  have HB := hide NB
  clear h hm hE hsp hS NB
  go_enter Tryz.func25, Tryz.ntmps25
  go_wp2_with fail
  refine N0.mono ?_
  rintro e w1 ⟨rfl, rfl⟩
  go_wp2_with fail
  refine HB.out.mono ?_
  rintro e w2 ⟨rfl, hb2⟩
  have hr2 : w2.heap[w.heap.size]? = some (.cells #[.slice none 0 0, .slice none 0 0, .int .i64 0, .int .i64 0, .int .i64 0, .int .i64 0, .int .i64 0, .int .i64 0, .int .i64 0] 32 (0, 0)) := (hb2.block _ (by simp)).trans (heap_alloc_new _ _)
  have hth : w2.there w.heap.size 0 ([.slice none 0 0, .slice none 0 0, .int .i64 0, .int .i64 0, .int .i64 0, .int .i64 0, .int .i64 0, .int .i64 0, .int .i64 0] : List Value).length := zero_there hr2 _ rfl
  have HB2 := hide hb2
  have HTH := hide hth
  clear hb2 HB hr2 hth
  go_wp2_with (refine wpList_store_mid rfl 32 (.tmp 8) (.tmp 44) rfl w.heap.size 0 ([.slice none 0 0, .slice none 0 0, .int .i64 0, .int .i64 0, .int .i64 0, .int .i64 0, .int .i64 0, .int .i64 0, .int .i64 0] : List Value).toArray (by rfl) (by rfl) HTH.out (by kernel_rfl) (by kernel_rfl) ?_)
  have hRS := World.rangeAt_setCells_same w2 w.heap.size 0 ([.slice none 0 0, .slice none 0 0, .int .i64 0, .int .i64 0, .int .i64 0, .int .i64 0, .int .i64 0, .int .i64 0, .int .i64 0] : List Value) HTH.out
  have hld := run_loadVar_mid (P := Tryz.prog) (w2.setCells w.heap.size 0 ([.slice none 0 0, .slice none 0 0, .int .i64 0, .int .i64 0, .int .i64 0, .int .i64 0, .int .i64 0, .int .i64 0, .int .i64 0] : List Value)) w.heap.size 0 32 ([.slice none 0 0, .slice none 0 0, .int .i64 0, .int .i64 0, .int .i64 0, .int .i64 0, .int .i64 0, .int .i64 0, .int .i64 0] : List Value) _ hRS Tryz.underlying32 rfl (by kernel_rfl)
  refine bodyPost_ret (v := .tuple #[.agg #[.slice none 0 0, .slice none 0 0, .int .i64 0, .int .i64 0, .int .i64 0, .int .i64 0, .int .i64 0, .int .i64 0, .int .i64 0], .slice none 0 0, .int .i64 10]) (by simp [results, Tryz.results25, hld, asAddr]) rfl ⟨rfl, ?_⟩
  exact (keep_setCells (K := fun k => k < w.heap.size) (by simp) _ _ ((Keep.refl _ w).alloc (fun k hk => hk) _ |>.trans ((Keep.of_below (K := fun k => k < w.heap.size) (HB2.out.mono (by simp)) (fun k hk => hk))))).below (fun k hk => hk)
end Go.Proofs.YtlfingcmekifkaaGreat

namespace Go.Proofs.YtlfingcmekifkaaGreat
open Go.RowKit
inductive Plan3 where
  | base (p : Plan)
  | take (i : Nat) (p : Plan3)
  | fork (i : Nat) (p : Plan3) (j : Nat) (q : Plan3)
  | fork3 (i : Nat) (p : Plan3) (j : Nat) (q : Plan3) (k : Nat) (r : Plan3)
def Plan3.size : Plan3 → Nat
  | .base p => p.size
  | .take _ p => p.size + 1
  | .fork _ p _ _ => p.size + 1
  | .fork3 _ p _ _ _ _ => p.size + 1
def seqChk3 (ops : Array Oper) : Plan3 → Array Bool → Bool
  | .base p, listed => seqChk ops p listed
  | .take i r, listed => Region.free .any ops listed i && ((Region.ready .any ops listed).contains i && seqChk3 ops r (listed.setIfInBounds i true))
  | .fork i p j q, listed => (Region.ready .any ops listed == [i, j]) && ((p.size == q.size) && (seqChk3 ops p (listed.setIfInBounds i true) && seqChk3 ops q (listed.setIfInBounds j true)))
  | .fork3 i p j q k r, listed => (Region.ready .any ops listed == [i, j, k]) && ((p.size == q.size) && ((p.size == r.size) && (seqChk3 ops p (listed.setIfInBounds i true) && (seqChk3 ops q (listed.setIfInBounds j true) && seqChk3 ops r (listed.setIfInBounds k true)))))
def wpSeq3 (P : Program) (ops : Array Oper) (Q : Exit → Act → World → Prop) (S : World → Prop) : Plan3 → Act → World → Prop
  | .base p, a, w => wpSeq P ops Q S p a w
  | .take i r, a, w => ∃ o v, ops[i]? = some o ∧ YieldsIf P ops S o v a ∧ wpSeq3 P ops Q S r (a.put o.dst v) w
  | .fork i p j q, a, w => wpOp P ops Q i (fun a' w' => S w' ∧ wpSeq3 P ops Q S p a' w') a w ∧ wpOp P ops Q j (fun a' w' => S w' ∧ wpSeq3 P ops Q S q a' w') a w
  | .fork3 i p j q k r, a, w => wpOp P ops Q i (fun a' w' => S w' ∧ wpSeq3 P ops Q S p a' w') a w ∧ wpOp P ops Q j (fun a' w' => S w' ∧ wpSeq3 P ops Q S q a' w') a w ∧ wpOp P ops Q k (fun a' w' => S w' ∧ wpSeq3 P ops Q S r a' w') a w
theorem wpSeq3_sound {P : Program} {ops : Array Oper} {Q : Exit → Act → World → Prop} {S : World → Prop} (hs : Region.noSelect ops = true)
    (hQ : ∀ c d v (a : Act) w, Q (.panic c) (a.put d v) w → Q (.panic c) a w) :
    ∀ (ord : Plan3) (listed : Array Bool) (a : Act) (w : World), seqChk3 ops ord listed = true → S w → wpSeq3 P ops Q S ord a w → wpAnyH P .any ops Q S ord.size listed a w
  | .base p, listed, a, w, hc, hS, h => wpSeq_sound hs hQ p listed a w hc hS h
  | .take i r, listed, a, w, hc, hS, h => by
    obtain ⟨o, v, ho, hy, h⟩ := h
    simp only [seqChk3, Bool.and_eq_true] at hc
    exact wpAnyH_take ho hs hc.1 hc.2.1 (fun c a w => hQ c _ _ a w) hy hS (wpSeq3_sound hs hQ r _ _ w hc.2.2 hS h)
  | .fork i p j q, listed, a, w, hc, _, h => by
    simp only [seqChk3, Bool.and_eq_true, beq_iff_eq] at hc
    refine wpAnyH_all hc.1 (by simp) ?_
    intro k hk
    simp only [List.mem_cons, List.not_mem_nil, or_false] at hk
    rcases hk with rfl | rfl
    · exact wpOp_mono (fun a' w' h' => ⟨h'.1, wpSeq3_sound hs hQ p _ a' w' hc.2.2.1 h'.1 h'.2⟩) h.1
    · have hsz : q.size = p.size := hc.2.1.symm
      have := wpOp_mono (fun a' w' (h' : S w' ∧ wpSeq3 P ops Q S q a' w') => (⟨h'.1, wpSeq3_sound hs hQ q _ a' w' hc.2.2.2 h'.1 h'.2⟩ : S w' ∧ wpAnyH P .any ops Q S q.size (listed.setIfInBounds k true) a' w')) h.2
      rw [hsz] at this
      exact this
  | .fork3 i p j q k r, listed, a, w, hc, _, h => by
    simp only [seqChk3, Bool.and_eq_true, beq_iff_eq] at hc
    refine wpAnyH_all hc.1 (by simp) ?_
    intro l hl
    simp only [List.mem_cons, List.not_mem_nil, or_false] at hl
    rcases hl with rfl | rfl | rfl
    · exact wpOp_mono (fun a' w' h' => ⟨h'.1, wpSeq3_sound hs hQ p _ a' w' hc.2.2.2.1 h'.1 h'.2⟩) h.1
    · have hsz : q.size = p.size := hc.2.1.symm
      have := wpOp_mono (fun a' w' (h' : S w' ∧ wpSeq3 P ops Q S q a' w') => (⟨h'.1, wpSeq3_sound hs hQ q _ a' w' hc.2.2.2.2.1 h'.1 h'.2⟩ : S w' ∧ wpAnyH P .any ops Q S q.size (listed.setIfInBounds l true) a' w')) h.2.1
      rw [hsz] at this
      exact this
    · have hsz : r.size = p.size := hc.2.2.1.symm
      have := wpOp_mono (fun a' w' (h' : S w' ∧ wpSeq3 P ops Q S r a' w') => (⟨h'.1, wpSeq3_sound hs hQ r _ a' w' hc.2.2.2.2.2 h'.1 h'.2⟩ : S w' ∧ wpAnyH P .any ops Q S r.size (listed.setIfInBounds l true) a' w')) h.2.2
      rw [hsz] at this
      exact this
theorem wp_region_seq3 {P : Program} {l : List Oper} {Q : Exit → Act → World → Prop} {id : Nat} {a : Act} {w : World} (S : World → Prop) (ord : Plan3)
    (hm : P.follows .mixedOrders = true) (hs : Region.noSelect l.toArray = true) (hc : (seqChk3 l.toArray ord (Array.replicate l.toArray.size false) && (ord.size == l.toArray.size)) = true)
    (hS : S w.drew) (h : wpSeq3 P l.toArray (NoPanic Q) S ord a w.drew) : (Code.region id l.toArray true).wp P Q a w := by
  simp only [Bool.and_eq_true, beq_iff_eq] at hc
  refine wp_region_noPanic (wp_region_held (S := S) hm ?_)
  have := wpSeq3_sound (P := P) (Q := NoPanic Q) hs (fun c d v a w h => (h : False).elim) ord (Array.replicate l.toArray.size false) a w.drew hc.1 hS h
  rw [hc.2] at this
  exact this
section
variable {P : Program} {l : List Oper} {Q : Exit → Act → World → Prop} {S : World → Prop} {i j k : Nat} {p q r : Plan3} {a : Act} {w : World}
theorem seq3_take {o : Oper} {v : Value} (ho : nth l i = some o) (hw : Region.wanted o (yielded l.toArray a.tmps) = true) (hy : ∀ w, S w → (execOp a.eval o).run P w = .ok (.value v) w)
    (h : wpSeq3 P l.toArray Q S r (a.put o.dst v) w) : wpSeq3 P l.toArray Q S (.take i r) a w := ⟨o, v, nth_arr ho, Or.inl ⟨hw, hy⟩, h⟩
theorem seq3_base {p : Plan} (h : wpSeq P l.toArray Q S p a w) : wpSeq3 P l.toArray Q S (.base p) a w := h
theorem seq3_fork (h1 : wpOp P l.toArray Q i (fun a' w' => S w' ∧ wpSeq3 P l.toArray Q S p a' w') a w) (h2 : wpOp P l.toArray Q j (fun a' w' => S w' ∧ wpSeq3 P l.toArray Q S q a' w') a w) : wpSeq3 P l.toArray Q S (.fork i p j q) a w := ⟨h1, h2⟩
theorem seq3_fork3 (h1 : wpOp P l.toArray Q i (fun a' w' => S w' ∧ wpSeq3 P l.toArray Q S p a' w') a w) (h2 : wpOp P l.toArray Q j (fun a' w' => S w' ∧ wpSeq3 P l.toArray Q S q a' w') a w) (h3 : wpOp P l.toArray Q k (fun a' w' => S w' ∧ wpSeq3 P l.toArray Q S r a' w') a w) : wpSeq3 P l.toArray Q S (.fork3 i p j q k r) a w := ⟨h1, h2, h3⟩
theorem seq3_run {o : Oper} (ho : nth l i = some o) (hw : Region.wanted o (yielded l.toArray a.tmps) = true)
    (h : ∀ K : Act → World → Prop, (∀ a w, S w → wpSeq3 P l.toArray Q S r a w → K a w) → Oper.wp P o a w K Q) : wpOp P l.toArray Q i (fun a' w' => S w' ∧ wpSeq3 P l.toArray Q S r a' w') a w :=
  op_run (K := wpSeq3 P l.toArray Q S r) ho hw h
end
attribute [irreducible] wpSeq3
end Go.Proofs.YtlfingcmekifkaaGreat
