/- A lattice's scans: what lies beyond the threads stays zero. No program in sight. -/
/- A lattice's scans (package snap): Scan computes Sc.step. -/
/- A lattice's scans (package snap): a reader's step that does not end (read.Step). -/
import Derived.Test.YtlfingcmekifkaaLt1
import Derived.Test.YtlfingcmekifkaaLw10
import Derived.Test.YtlfingcmekifkaaLw11
namespace Go.Proofs.Ytlfingcmekifkaa

def Sc.Z (n : Nat) (s : Sc) : Prop := ∀ i, n ≤ i → s.old i = 0 ∧ s.now i = 0
theorem passN_same (n : Nat) : ∀ (k : Nat) (s : Sc), (passN n k s).old = s.old ∧ (passN n k s).now = s.now
  | 0, _ => ⟨rfl, rfl⟩
  | k + 1, s => by
    have hu : passN n (k + 1) s = if s.at_ < n ∧ s.now s.at_ = 0 then passN n k { s with list := s.list ++ [0], at_ := s.at_ + 1 } else s := rfl
    rw [hu]
    split
    · exact passN_same n k _
    · exact ⟨rfl, rfl⟩
theorem pass_same (n : Nat) (s : Sc) : (s.pass n).old = s.old ∧ (s.pass n).now = s.now := by
  unfold Sc.pass
  split
  · exact passN_same n n s
  · exact passN_same n n s
theorem Sc.Z.pass {n : Nat} {s : Sc} (h : s.Z n) : (s.pass n).Z n := fun i hi => by
  rw [(pass_same n s).1, (pass_same n s).2]
  exact h i hi
theorem Sc.Z.held {n : Nat} {s : Sc} (h : s.Z n) (now : Int) (tr : Int → List Int) : (s.held n now tr).Z n := by
  unfold Sc.held
  split
  · exact fun i hi => ⟨(h i hi).2, (h i hi).2⟩
  · split
    · exact Sc.Z.pass (fun i hi => h i hi)
    · split
      · exact fun i hi => h i hi
      · exact fun i hi => ⟨(h i hi).2, (h i hi).2⟩
theorem Sc.Z.read {n : Nat} {s : Sc} (h : s.Z n) (ha : s.at_ < n) (x : Int) : (s.read x).Z n := fun i hi => by
  refine ⟨(h i hi).1, ?_⟩
  show upd s.now s.at_ x i = 0
  unfold upd
  rw [if_neg (by omega)]
  exact (h i hi).2
theorem Sc.Z.step {n : Nat} {s : Sc} (h : s.Z n) (ha : s.at_ < n) (w : Lw) : (s.step n w).1.Z n := by
  unfold Sc.step
  dsimp only
  split
  · dsimp only
    split
    · exact (h.read ha _).held _ _
    · exact h.read ha _
  · split
    · exact Sc.Z.pass (fun i hi => h i hi)
    · split
      · dsimp only
        split
        · exact fun i hi => h i hi
        · exact fun i hi => h i hi
      · exact h
theorem Sc.Z.new (n : Nat) : Sc.new.Z n := fun _ _ => ⟨rfl, rfl⟩
/-- What a scan's step needs to hold of it. -/
structure ScB (n : Nat) (lw : Lw) (s : Sc) : Prop where
  pc : s.pc < 3
  at_ : s.at_ < n
  zero : ∀ i, n ≤ i → s.old i = 0 ∧ s.now i = 0
  rounds : s.rounds ≤ 1000000
  nil : s.pc = 0 → s.list = []
  len : s.pc ≠ 0 → s.list.length = s.at_
  now : s.pc = 1 → 0 ≤ s.now s.at_ ∧ s.now s.at_ ≤ 9223372036854775807
  from_ : s.pc = 2 → 0 ≤ s.from_ ∧ s.from_ ≤ 9223372036854775700
  tr : s.pc = 0 → s.at_ + 1 = n → ∀ t, fndN n (s.read (lw.mem.tell 0 (s.at_ : Int) 0)) = some t → 0 ≤ (s.read (lw.mem.tell 0 (s.at_ : Int) 0)).now t ∧ (s.read (lw.mem.tell 0 (s.at_ : Int) 0)).now t ≤ 9223372036854775807 ∧ lw.traces ((s.read (lw.mem.tell 0 (s.at_ : Int) 0)).now t) ≠ []
theorem scB_of {n p : Nat} {g : Gh} {t : Nat} {b N : Int} {s : Sc} {w : Lw} (hn : 1 ≤ n ∧ n ≤ 16) (hp : p ≤ 64) (ht : t < n) (hg : GOk g N) (hm : MemOk n p g N w) (h : ScOk n p g t b N s) (hz : s.Z n) (hpc : s.pc < 3) : ScB n w s := by
  have hb0 : n * p * (n + 1) ≤ 16 * 64 * 17 := Nat.mul_le_mul (Nat.mul_le_mul hn.2 hp) (by omega)
  have rb : ∀ i k, i < n → 1 ≤ k → k ≤ g.H N i → recA n p i (k - 1) ≤ 100000 := fun i k hi h1 hk => by
    have := recA_in (n := n) (p := p) (t := i) (r := k - 1) hi (by have := hm.le i; omega)
    omega
  have cb : ∀ i k, i < n → k ≤ g.H N i → 0 ≤ cellV n p i k ∧ cellV n p i k ≤ 100000 := fun i k hi hk => by
    unfold cellV
    split
    · omega
    · have := rb i k hi (by omega) hk
      omega
  have hin : ∀ i : Nat, i < n → w.mem.tell 0 (i : Int) 0 = cellV n p i (g.H N i) := fun i hi => by
    have hl := hm.len
    unfold Mm.tell
    rw [if_pos (show w.mem.in (i : Int) from ⟨by omega, by omega⟩)]
    exact hm.cell i hi
  obtain ⟨h1, h2, h3⟩ := h
  rcases h3 with c | c | c | c | c
  · obtain ⟨c1, c2, c3, c4, c5, c6⟩ := c
    refine ⟨hpc, c2, hz, by omega, fun _ => c3, fun e => absurd c1 e, fun e => by omega, fun e => by omega, fun _ _ i hf => ?_⟩
    have hq := List.find?_some hf
    simp only [Bool.and_eq_true] at hq
    have hd : s.diff i = true := hq.2
    rw [c5 i] at hd
    cases hd
  · obtain ⟨c1, c2, c3, c4, c5, c6, c7, c8, c9, c10⟩ := c
    have hcd := cntD_lt c6 n ht
    refine ⟨hpc, c2, hz, by omega, fun _ => c3, fun e => absurd c1 e, fun e => by omega, fun e => by omega, fun _ hl i hf => ?_⟩
    have hq := List.find?_some hf
    have hi : i < n := List.mem_range.1 (List.mem_of_find?_eq_some hf)
    simp only [Bool.and_eq_true] at hq
    have hd : s.diff i = true := hq.2
    obtain ⟨k, a1, ⟨τ, a2, a3, a4⟩, a5⟩ := c9 i hi
    obtain ⟨τ2, e1, e2, e3⟩ := a5 hd
    have m1 := hg.mono τ s.last i a3
    have hnow : ∃ k', (s.read (w.mem.tell 0 (s.at_ : Int) 0)).now i = cellV n p i k' ∧ k ≤ k' ∧ k' ≤ g.H N i := by
      show ∃ k', upd s.now s.at_ (w.mem.tell 0 (s.at_ : Int) 0) i = _ ∧ _
      unfold upd
      by_cases e : i = s.at_
      · subst e
        rw [if_pos rfl, hin _ hi]
        exact ⟨_, rfl, by have := hg.mono s.last N s.at_ c8; omega, Nat.le_refl _⟩
      · rw [if_neg e]
        obtain ⟨σ, d1, d2, d3⟩ := c10 i (by omega)
        exact ⟨_, d3, by have := hg.mono s.last σ i (by omega); omega, hg.mono σ N i d2⟩
    obtain ⟨k', n1, n2, n3⟩ := hnow
    rw [n1]
    have hb := cb i k' hi n3
    refine ⟨hb.1, by omega, ?_⟩
    unfold cellV
    rw [if_neg (by omega), hm.trace i k' hi (by omega) n3]
    exact List.cons_ne_nil _ _
  · obtain ⟨c1, c2, c3, c4, c5, c6, c7, c8⟩ := c
    refine ⟨hpc, c2, hz, by omega, fun e => by omega, fun _ => by rw [c7]; simp [Gh.view], fun _ => ?_, fun e => by omega, fun e => by omega⟩
    rw [c8 _ c2]
    have := cb s.at_ (g.H s.moment s.at_) c2 (hg.mono _ _ _ c6)
    omega
  · obtain ⟨c1, c2, c3, c4, c5, c6, a, k, d1, d2, d3, d4, d5⟩ := c
    refine ⟨hpc, c2, hz, by omega, fun e => by omega, fun _ => by rw [c6]; simp [Gh.view], fun e => by omega, fun _ => ?_, fun e => by omega⟩
    rw [d4]
    have := rb a k d1 d2 d3
    omega
  · omega
end Go.Proofs.Ytlfingcmekifkaa

namespace Go.Proofs.Ytlfingcmekifkaa
open Go.RowKit

theorem scScan {w : World} {bs ps n : Nat} {lv : Value} {s : Sc} {ad : Adr} {Mu : Nat → Prop} {lw : Lw} (h : ScS w bs ps n lv s ad Mu lw) (b : ScB n lw s) :
    Calls Try.prog 128 #[.pointer (some ⟨bs, 0, none⟩), .pointer (some ⟨ad.pw, 0, none⟩)] w (ScP w bs ps lv (s.step n lw).1 ad (s.step n lw).2.mem) := by
  have hn := h.n16
  by_cases h0 : s.pc = 0
  · have ha : s.addr = (s.at_ : Int) := by unfold Sc.addr; rw [if_pos h0]
    have hm : (s.step n lw).2.mem = lw.mem.acc 0 (s.at_ : Int) 0 0 := by unfold Sc.step; rw [if_pos h0, ha]
    rw [hm]
    by_cases hl : s.at_ + 1 = n
    · have hs : (s.step n lw).1 = (s.read (lw.mem.tell 0 (s.at_ : Int) 0)).held n lw.now lw.traces := by unfold Sc.step; rw [if_pos h0, if_pos hl, ha]
      rw [hs]
      exact scScan0h h h0 rfl hl hn rfl b.zero b.rounds (b.nil h0) (b.tr h0 hl)
    · have hs : (s.step n lw).1 = s.read (lw.mem.tell 0 (s.at_ : Int) 0) := by unfold Sc.step; rw [if_pos h0, if_neg hl, ha]
      rw [hs]
      exact scScan0 h h0 rfl (by have := b.at_; omega) hn
  · by_cases h1 : s.pc = 1
    · have ha : s.addr = s.now s.at_ := by unfold Sc.addr; rw [if_neg h0, if_pos h1]
      have hm : (s.step n lw).2.mem = lw.mem.acc 0 (s.now s.at_) 0 0 := by unfold Sc.step; rw [if_neg h0, if_pos h1, ha]
      have hs : (s.step n lw).1 = (s.push (lw.mem.tell 0 (s.now s.at_) 0)).pass n := by unfold Sc.step; rw [if_neg h0, if_pos h1, ha]
      rw [hm, hs]
      exact scScan1 h h1 rfl b.at_ hn (b.len h0) rfl (b.now h1) rfl
    · have h2 : s.pc = 2 := by have := b.pc; omega
      have ha : s.addr = s.from_ + 1 + (s.at_ : Int) := by unfold Sc.addr; rw [if_neg h0, if_neg h1]
      have hm : (s.step n lw).2.mem = lw.mem.acc 0 (s.from_ + 1 + (s.at_ : Int)) 0 0 := by unfold Sc.step; rw [if_neg h0, if_neg h1, if_pos h2, ha]
      rw [hm]
      by_cases hl : s.at_ + 1 = n
      · have hs : (s.step n lw).1 = { s.push (lw.mem.tell 0 (s.from_ + 1 + (s.at_ : Int)) 0) with pc := 3 } := by unfold Sc.step; rw [if_neg h0, if_neg h1, if_pos h2, if_pos hl, ha]
        rw [hs]
        exact scScan2h h h2 rfl hl hn (b.len h0) rfl (b.from_ h2) rfl
      · have hs : (s.step n lw).1 = s.push (lw.mem.tell 0 (s.from_ + 1 + (s.at_ : Int)) 0) := by unfold Sc.step; rw [if_neg h0, if_neg h1, if_pos h2, if_neg hl, ha]
        rw [hs]
        exact scScan2 h h2 rfl (by have := b.at_; omega) hn (b.len h0) rfl (b.from_ h2) rfl
end Go.Proofs.Ytlfingcmekifkaa

namespace Go.Proofs.Ytlfingcmekifkaa
open Go.RowKit

set_option maxRecDepth 100000 in
set_option maxHeartbeats 1000000 in
theorem rdStep0 {w : World} {br bs ps n : Nat} {lv kv : Value} {s : Sc} {ad : Adr} {Mu : Nat → Prop} {lw : Lw} (h : ScS w bs ps n lv s ad Mu lw) (b : ScB n lw s) (hb : w.heap[br]? = some (.cells #[.pointer (some ⟨bs, 0, none⟩), kv] 191 (0, 0))) (hp : (s.step n lw).1.pc ≠ 3) :
    Calls Try.prog 126 #[.pointer (some ⟨br, 0, none⟩), .pointer (some ⟨ad.pw, 0, none⟩)] w (ScP w bs ps lv (s.step n lw).1 ad (s.step n lw).2.mem) := by
  have N := scScan h b
  have hd : decide ((s.step n lw).1.pc = 3) = false := by simpa using hp
  have c0 : w.cell? ⟨br, 0, none⟩ = some (.pointer (some ⟨bs, 0, none⟩)) := by unfold World.cell?; rw [hb]; rfl
  have HN := hide N
  have HD := hide hd
  clear N hd h b hb hp
  go_enter Try.func126, Try.ntmps126
  go_wp2_with fail
  refine HN.out.mono ?_
  rintro e w1 ⟨rfl, h1, h2, h3⟩
  rw [HD.out]
  have H1 := hide h1
  have H2 := hide h2
  have H3 := hide h3
  clear h1 h2 h3 HN
  go_wp2
  go_ret
  exact ⟨by rw [HD.out]; rfl, H1.out, H2.out, H3.out⟩
/-- What a reader leaves when its scan is done. -/
def RdQ (w : World) (br bs ps : Nat) (lv : Value) (s' : Sc) (ad : Adr) (m' : Mm) (now : Int) (e : Ending) (w' : World) : Prop :=
  e = .returned (.bool true) ∧ (∃ lv', ScAt w' bs ps lv' s' ∧ ∀ k, lv'.ownBlock = some k → lv.ownBlock = some k ∨ w.heap.size ≤ k) ∧ MemAt w' ad.pm ad.px .nilFunc m' ∧
    (∃ g, w.heap.size ≤ g ∧ w'.heap[br]? = some (.cells #[.pointer (some ⟨bs, 0, none⟩), .slice (some ⟨g, 0, none⟩) 2 2] 191 (0, 0)) ∧ w'.heap[g]? = some (.cells #[.int .i64 (2 * s'.moment), .int .i64 (2 * now)] 3 (0, 0))) ∧
    Keep (fun k => k < w.heap.size ∧ k ≠ br ∧ k ≠ bs ∧ lv.ownBlock ≠ some k ∧ k ≠ ad.pm ∧ k ≠ ad.px) w w'
set_option maxRecDepth 100000 in
set_option maxHeartbeats 2000000 in
theorem rdStep1 {w : World} {br bs ps n : Nat} {lv kv : Value} {s : Sc} {ad : Adr} {Mu : Nat → Prop} {lw : Lw} (h : ScS w bs ps n lv s ad Mu lw) (b : ScB n lw s) (hb : w.heap[br]? = some (.cells #[.pointer (some ⟨bs, 0, none⟩), kv] 191 (0, 0))) (hne : br ≠ bs ∧ br ≠ ad.pw ∧ br ≠ ad.pm ∧ br ≠ ad.px ∧ lv.ownBlock ≠ some br) (hp : (s.step n lw).1.pc = 3) {M N : Int} (hM : (s.step n lw).1.moment = M) (hN : lw.now = N) (hMb : -1000000000 ≤ M ∧ M ≤ 1000000000) (hNb : -1000000000 ≤ N ∧ N ≤ 1000000000) :
    Calls Try.prog 126 #[.pointer (some ⟨br, 0, none⟩), .pointer (some ⟨ad.pw, 0, none⟩)] w (RdQ w br bs ps lv (s.step n lw).1 ad (s.step n lw).2.mem N) := by
  have NS := scScan h b
  have hd : decide ((s.step n lw).1.pc = 3) = true := by simpa using hp
  have c0 : w.cell? ⟨br, 0, none⟩ = some (.pointer (some ⟨bs, 0, none⟩)) := by unfold World.cell?; rw [hb]; rfl
  have zr : br < w.heap.size := by
    by_cases e : br < w.heap.size
    · exact e
    · rw [Array.getElem?_eq_none (Nat.le_of_not_lt e)] at hb; cases hb
  obtain ⟨fw, fw1, fw2, fw3, fw4, fw5⟩ := h.wl.cells
  have cw : w.cell? ⟨ad.pw, 1, none⟩ = some (.int .i64 N) := by rw [fw1.cell (by omega), fw3, hN]
  have zw := fw1.lt
  obtain ⟨r1, r2, r3, r4, r5⟩ := hne
  have hwk : ad.pw ≠ bs ∧ lv.ownBlock ≠ some ad.pw ∧ ad.pw ≠ ad.pm ∧ ad.pw ≠ ad.px := ⟨Ne.symm h.nb.1, fun e => (h.nl _ e).1 rfl, h.wl.ne.1, h.wl.ne.2.1⟩
  have k1 : IntKind.i64.wrap (2 * M) = 2 * M := wrap_i64 (by omega) (by omega)
  have k2 : IntKind.i64.wrap (2 * N) = 2 * N := wrap_i64 (by omega) (by omega)
  have HN := hide NS
  have HD := hide hd
  have HB := hide hb
  have HMM := hide hM
  clear NS hd h b hb hp fw1 fw2 fw3 fw4 fw5 hM hN
  go_enter Try.func126, Try.ntmps126
  go_wp2_with fail
  refine HN.out.mono ?_
  rintro e w1 ⟨rfl, ⟨lv1, hS1, hO1⟩, hm1, hk1⟩
  rw [HD.out]
  obtain ⟨f1, hrow1, hf1⟩ := hS1.row
  have d55 : w1.cell? ⟨bs, 55, none⟩ = some (.int .i64 M) := by rw [hrow1.cell (i := 55) (by omega), hf1.moment, HMM.out]
  have zb1 := hrow1.lt
  have hb1 := (hk1.block br ⟨zr, r1, r5, r3, r4⟩).trans HB.out
  have d0 : w1.cell? ⟨br, 0, none⟩ = some (.pointer (some ⟨bs, 0, none⟩)) := by unfold World.cell?; rw [hb1]; rfl
  have e1 := frozen_of_row w1 br 1 _ _ hb1
  have d1 : w1.cell? ⟨br, 1, none⟩ = some kv := by unfold World.cell?; rw [hb1]; rfl
  have dw := (hk1.cell (p := ⟨ad.pw, 1, none⟩) ⟨zw, hwk.1, hwk.2.1, hwk.2.2.1, hwk.2.2.2⟩).trans cw
  have zr1 := Nat.lt_of_lt_of_le zr hk1.size
  have zw1 := Nat.lt_of_lt_of_le zw hk1.size
  have HS1 := hide hS1
  have HO1 := hide hO1
  have HM1 := hide hm1
  have HK1 := hide hk1
  have HB1 := hide hb1
  clear hS1 hO1 hm1 hk1 hb1 hrow1 hf1 HN c0 cw
  go_wp2
  refine wp_region_seq (fun Y => Y.cell? ⟨br, 0, none⟩ = some (.pointer (some ⟨bs, 0, none⟩)) ∧ Y.cell? ⟨bs, 55, none⟩ = some (.int .i64 M) ∧ Y.cell? ⟨ad.pw, 1, none⟩ = some (.int .i64 N)) (.take 0 <| .take 1 <| .take 2 <| .take 3 <| .take 4 <| .take 5 <| .take 6 <| .take 7 <| .take 8 <| .take 9 <| .take 10 <| .take 11 <| .take 12 <| .take 13 <| .run 14 <| .take 15 <| .take 16 <| .run 17 <| .done) (by kernel_rfl) (by kernel_rfl) (by kernel_rfl) (by refine ⟨?_, ?_, ?_⟩ <;> go_simp) ?_
  iterate 14 (refine seq_take (v := ?_) rfl (by rfl) ?_ ?_; rotate_left; (focus (intro wS hS; obtain ⟨s0, s1, s2⟩ := hS; go_simp; exact rfl)); simp only [Act.put, List.setIfInBounds_toArray, List.set_cons_zero, List.set_cons_succ])
  (refine seq_run rfl (by rfl) (fun K hK => ?_); go_simp)
  refine hK _ _ (by refine ⟨?_, ?_, ?_⟩ <;> go_simp) ?_
  clear hK K
  iterate 2 (refine seq_take (v := ?_) rfl (by rfl) ?_ ?_; rotate_left; (focus (intro wS hS; obtain ⟨s0, s1, s2⟩ := hS; go_simp; exact rfl)); simp only [Act.put, List.setIfInBounds_toArray, List.set_cons_zero, List.set_cons_succ])
  (refine seq_run rfl (by rfl) (fun K hK => ?_); go_simp)
  refine hK _ _ (by refine ⟨?_, ?_, ?_⟩ <;> go_simp) ?_
  clear hK K
  refine seq_nil ?_
  go_wp2
  go_ret
  have hkW : Keep (fun k => k < w1.heap.size ∧ k ≠ br) w1 ((w1.setCell ⟨br, 1, none⟩ (.slice (some ⟨w1.heap.size, 0, none⟩) 2 2)).alloc (.cells #[.int .i64 (2 * M), .int .i64 (2 * N)] 3)).drew := (((Keep.refl _ w1).setCell (fun hh => hh.2 rfl) _).alloc (fun k hk => by simpa using hk.1) _).drew
  refine ⟨rfl, ⟨lv1, HS1.out.keep hkW ⟨zb1, Ne.symm r1⟩ (fun k hk => ⟨(HS1.out.lst.lt k hk).2, fun e => ?_⟩), HO1.out⟩, HM1.out.of_blocks (hkW.block _ ⟨HM1.out.lt.1, Ne.symm r3⟩) (hkW.block _ ⟨HM1.out.lt.2, Ne.symm r4⟩), ⟨w1.heap.size, HK1.out.size, (heap_alloc_old _ _ (by simpa using zr1)).trans ((cells_set HB1.out).trans rfl), ?_⟩, (HK1.out.mono (fun k hk => ⟨hk.1, hk.2.2.1, hk.2.2.2.1, hk.2.2.2.2.1, hk.2.2.2.2.2⟩)).trans (hkW.mono (fun k hk => ⟨Nat.lt_of_lt_of_le hk.1 HK1.out.size, hk.2.1⟩))⟩
  · rcases HO1.out k hk with h | h
    · exact r5 (e ▸ h)
    · omega
  · have h := heap_alloc_new (w1.setCell ⟨br, 1, none⟩ (.slice (some ⟨w1.heap.size, 0, none⟩) 2 2)) (.cells #[.int .i64 (2 * M), .int .i64 (2 * N)] 3)
    rw [show (w1.setCell ⟨br, 1, none⟩ (.slice (some ⟨w1.heap.size, 0, none⟩) 2 2)).heap.size = w1.heap.size from by simp] at h
    rw [HMM.out]
    exact h
end Go.Proofs.Ytlfingcmekifkaa
