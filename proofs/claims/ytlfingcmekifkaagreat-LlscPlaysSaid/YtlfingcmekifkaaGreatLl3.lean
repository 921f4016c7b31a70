import Derived.Test.YtlfingcmekifkaaGreatLl2
namespace Go.Proofs.YtlfingcmekifkaaGreat
open Go.RowKit
structure LlS (pe pw pm px : Nat) (w : World) (F : Nat → Prop) (o : Ll) (f : Nat → Value) (mb : Nat → Option Nat) (m : Mm) : Prop where
  at_ : LlAt pe w F o f mb
  ptr : w.cell? ⟨pw, 0, none⟩ = some (.pointer (some ⟨pm, 0, none⟩))
  mem : MemAt w pm px .nilFunc m
  lt : pw < w.heap.size
  ne : ¬ F pm ∧ ¬ F px ∧ ¬ F pw ∧ pw ≠ pm ∧ pw ≠ px
  w64 : W64 m.words
  bd : ∀ t p x, o.links t p = some x → 0 ≤ x ∧ x < 18446744073709551616
def LlP (pe pm px : Nat) (w : World) (F : Nat → Prop) (o' : Ll) (m' : Mm) (val : Int) (e : Ending) (w' : World) : Prop :=
  e = .returned (.agg #[.int .i64 0, .int .u64 val, .slice none 0 0]) ∧ llOB pe w' (fun k => (F k ∨ w.heap.size ≤ k) ∧ k < w'.heap.size) o' ∧ MemAt w' pm px .nilFunc m' ∧ Keep (fun k => k < w.heap.size ∧ ¬ F k ∧ k ≠ pm ∧ k ≠ px) w w'
theorem LlAt.more {pe : Nat} {w : World} {F F' : Nat → Prop} {o : Ll} {f : Nat → Value} {mb : Nat → Option Nat} (h : LlAt pe w F o f mb) (hF : ∀ k, F k → F' k) (hl : ∀ k, F' k → k < w.heap.size) : LlAt pe w F' o f mb :=
  ⟨hF pe h.own, hl, h.row, h.f0, h.f1, h.fm, h.fno, fun t g ht hg => llMap_keep (S := fun _ => True) (h.fso t g ht hg) (Keep.refl _ _) (fun _ _ => trivial) hF, h.inj⟩
set_option maxRecDepth 100000 in
set_option maxHeartbeats 1000000 in
theorem llLoadW {pe pw pm px : Nat} {w : World} {F : Nat → Prop} {o : Ll} {f : Nat → Value} {mb : Nat → Option Nat} {m : Mm} {t : Nat} {p : Int} (h : LlS pe pw pm px w F o f mb m) (ht : t < 16) (hp : 0 ≤ p ∧ p < 64) :
    Calls Tryz.prog 161 #[.pointer (some ⟨pe, 0, none⟩), .pointer (some ⟨pw, 0, none⟩), .int .i64 t, .int .i64 p] w (LlP pe pm px w F (llLink o t p (some (m.tell 0 p 0))) (m.acc 0 p 0 0) (m.tell 0 p 0 % two32)) := by
  obtain ⟨hO, hp0, hm, hpz, ⟨n1, n2, n3, n4, n5⟩, h64, hbd⟩ := h
  have hr : Int.tmod (m.tell 0 p 0) 4294967296 = m.tell 0 p 0 % 4294967296 := Int.tmod_eq_emod_of_nonneg (tell0_bd h64 p).1
  have hrb : IntKind.u64.wrap (m.tell 0 p 0 % 4294967296) = m.tell 0 p 0 % 4294967296 := by rw [IntKind.wrap_u64]; omega
  have c0 := hO.row.cell (i := 0) (by omega)
  rw [hO.f0] at c0
  have hz := hO.row.lt
  have ht' : (t : Int) < 16 := by omega
  have hml := hm.lt
  have n6 : pe ≠ pm := fun e => n1 (e ▸ hO.own)
  have n7 : pe ≠ px := fun e => n2 (e ▸ hO.own)
  have hwp : IntKind.i64.wrap p = p := wrap_i64 (by omega) (by omega)
  have hlt := hO.lt
  have hmA : MemAt (w.alloc (.cells #[.int .i64 0, .int .u64 0, .slice none 0 0] 50)).drew pm px .nilFunc m := hm.of_blocks (heap_alloc_old _ _ hml.1) (heap_alloc_old _ _ hml.2)
  have NA := memRead pm px p m (w.alloc (.cells #[.int .i64 0, .int .u64 0, .slice none 0 0] 50)).drew hmA
  have hmB : MemAt ((w.alloc (.cells #[.int .i64 0, .int .u64 0, .slice none 0 0] 50)).alloc (.cells #[.int .u64 0] 46)).drew pm px .nilFunc m := hm.of_blocks ((heap_alloc_old _ _ (by simp; omega)).trans (heap_alloc_old _ _ hml.1)) ((heap_alloc_old _ _ (by simp; omega)).trans (heap_alloc_old _ _ hml.2))
  have NB := memRead pm px p m ((w.alloc (.cells #[.int .i64 0, .int .u64 0, .slice none 0 0] 50)).alloc (.cells #[.int .u64 0] 46)).drew hmB
  have qT : ∀ (Y : World) (r : Option Nat), (binOp .eql 81 (.map r) (.map none)).run Tryz.prog Y = .ok (.bool r.isNone) Y := fun Y r => run_eql_map_nil Y _ _ _ r Tryz.underlying81
  have hmk := @run_makeMap Tryz.prog
  have HO := hide hO
  have HNA := hide NA
  have HNB := hide NB
  clear hO hm hbd NA NB hmA hmB
  go_enter Tryz.func161, Tryz.ntmps161
  go_wp2
  refine wp_region_seq (fun Y => Y.cell? ⟨pw, 0, none⟩ = some (.pointer (some ⟨pm, 0, none⟩)) ∧ Y.cell? ⟨pe, 0, none⟩ = some (.int .i64 0)) (.take 0 <| .take 1 <| .take 2 <| .take 3 <| .take 4 <| .take 5 <| .take 6 <| .take 7 <| .take 8 <| .take 9 <| .fork 10 (.run 11 <| .run 12 <| .done) 11 (.run 10 <| .run 12 <| .done)) (by kernel_rfl) (by kernel_rfl) (by kernel_rfl) (by refine ⟨?_, ?_⟩ <;> go_simp) ?_
  repeat (refine seq_take (v := ?_) rfl (by rfl) ?_ ?_; rotate_left; (focus (intro wS hS; obtain ⟨s0, s1⟩ := hS; go_simp; exact rfl)); simp only [Act.put, List.setIfInBounds_toArray, List.set_cons_zero, List.set_cons_succ])
  refine seq_fork ?_ ?_
  · have N := HNA.out
    (refine seq_run rfl (by rfl) (fun K hK => ?_); go_simp)
    refine N.mono ?_
    rintro e w1 ⟨rfl, hm1, hk1⟩
    have hkw : Keep (fun k => k ≠ pm ∧ k ≠ px ∧ k < w.heap.size) w w1 := (((Keep.refl (fun k => k < w.heap.size) w).alloc (fun k hk => hk) _).drew.mono (fun k hk => hk.2.2)).trans (hk1.mono (fun k hk => ⟨hk.1, hk.2.1, by show k < (w.alloc (.cells #[.int .i64 0, .int .u64 0, .slice none 0 0] 50)).heap.size; simp; omega⟩))
    have hAns : w1.heap[w.heap.size]? = some (.cells #[.int .i64 0, .int .u64 0, .slice none 0 0] 50 (0, 0)) := (hk1.block w.heap.size ⟨by omega, by omega, by show w.heap.size < (w.alloc (.cells #[.int .i64 0, .int .u64 0, .slice none 0 0] 50)).heap.size; simp⟩).trans (heap_alloc_new _ _)
    have hz1 : w.heap.size + 1 ≤ w1.heap.size := by have := hk1.size; simpa using this
    have s0 := (hkw.cell (p := ⟨pw, 0, none⟩) ⟨n4, n5, hpz⟩).trans hp0
    have s1 := (hkw.cell (p := ⟨pe, 0, none⟩) ⟨n6, n7, hz⟩).trans c0
    have hpz1 : pw < w1.heap.size := by omega
    have hez1 : pe < w1.heap.size := by omega
    refine hK _ _ ⟨s0, s1⟩ ?_
    clear hK K N
    (refine seq_run rfl (by rfl) (fun K hK => ?_); go_simp)
    refine hK _ _ (by refine ⟨?_, ?_⟩ <;> go_simp) ?_
    clear hK K
    (refine seq_run rfl (by rfl) (fun K hK => ?_); go_simp)
    refine hK _ _ (by refine ⟨?_, ?_⟩ <;> go_simp) ?_
    clear hK K
    refine seq_nil ?_
    have hQ : llBox (w1.alloc (.cells #[.int .u64 (m.tell 0 p 0)] 46)) w1.heap.size (m.tell 0 p 0) := heap_alloc_new _ _
    have hkW : Keep (fun k => k < w.heap.size ∧ k ≠ pm ∧ k ≠ px) w (w1.alloc (.cells #[.int .u64 (m.tell 0 p 0)] 46)) := (hkw.mono (fun k hk => ⟨hk.2.1, hk.2.2, hk.1⟩)).alloc (fun k hk => by omega) _
    have hmW : MemAt (w1.alloc (.cells #[.int .u64 (m.tell 0 p 0)] 46)) pm px .nilFunc (m.acc 0 p 0 0) := hm1.of_blocks (heap_alloc_old _ _ hm1.lt.1) (heap_alloc_old _ _ hm1.lt.2)
    have hA : (w1.alloc (.cells #[.int .u64 (m.tell 0 p 0)] 46)).heap[w.heap.size]? = some (.cells #[.int .i64 0, .int .u64 0, .slice none 0 0] 50 (0, 0)) := (heap_alloc_old _ _ (by omega)).trans hAns
    have hqn : w.heap.size < w1.heap.size := by omega
    clear hm1 hk1 hkw hAns hz1 s0 s1 hpz1 hez1
    generalize w1.alloc (.cells #[.int .u64 (m.tell 0 p 0)] 46) = W at *
    generalize w1.heap.size = q at *
    have HOW : LlAt pe W F o f mb := HO.out.keep hkW (fun k hk => ⟨hlt k hk, fun e => n1 (e ▸ hk), fun e => n2 (e ▸ hk)⟩)
    have c2 := HOW.row.cell (i := 2 + t) (by omega)
    rw [HOW.fm t ht] at c2
    have cf := HOW.row.frozen (2 + t)
    have hzW := HOW.row.lt
    have qz := (Array.getElem?_eq_some_iff.1 hQ).1
    have azW := (Array.getElem?_eq_some_iff.1 hA).1
    have hsW := hkW.size
    have q0 : W.cell? ⟨q, 0, none⟩ = some (.int .u64 (m.tell 0 p 0)) := cell_of_row W q 0 _ _ _ hQ
    obtain ⟨a0, a1, a2, _⟩ := cells3 hA
    have af0 := frozen_of_row W w.heap.size 0 _ _ hA
    have af1 := frozen_of_row W w.heap.size 1 _ _ hA
    have af2 := frozen_of_row W w.heap.size 2 _ _ hA
    have HHW := hide HOW
    have HQ := hide hQ
    have HKW := hide hkW
    have HMW := hide hmW
    have HA := hide hA
    clear HOW hQ hkW hmW hA
    rcases hmb : mb t with _ | g
    · rw [hmb] at c2
      have hmg : IMapD ((W.setCell ⟨pe, 2 + t, none⟩ (.map (some W.heap.size))).alloc (.map #[] 0)) W.heap.size .i64 (fun _ => none) := by
        have := IMapD.new (W.setCell ⟨pe, 2 + t, none⟩ (.map (some W.heap.size))) .i64
        rw [show (W.setCell ⟨pe, 2 + t, none⟩ (.map (some W.heap.size))).heap.size = W.heap.size by simp] at this
        exact this
      have HNQ := hide (show q < W.heap.size ∧ q ≠ pe from ⟨qz, by omega⟩)
      have HNA := hide (show w.heap.size < W.heap.size ∧ w.heap.size ≠ pe from ⟨azW, by omega⟩)
      go_wp2_with (at_mapUpdate; (refine wpList_update_imapD _ rfl _ _ _ _ rfl 3 247 .i64 Tryz.underlying81 Tryz.underlying3 W.heap.size (fun _ => none) rfl hmg p (llPtr q) rfl rfl ?_; intro w4 hm4 hg4 hz4; have hk4 : Keep (fun k => k < W.heap.size ∧ k ≠ pe) W w4 := (((Keep.refl _ W).setCell (fun hk => hk.2 rfl) _).alloc (fun k hk => by simpa using hk.1) _).grown hg4 (fun k hk => by simp; omega) (fun k hk hh => by cases hk; exact Nat.lt_irrefl _ hh.1); have hrow4 : w4.rowIs pe 84 18 (fun i => if i = 2 + t then .map (some W.heap.size) else f i) := ((HHW.out.row.set (2 + t) (.map (some W.heap.size))).alloc _).of_block (hg4.block pe (by simp; omega) (fun e => by cases e; omega)); have q4 : w4.cell? ⟨q, 0, none⟩ = some (.int .u64 (m.tell 0 p 0)) := (hk4.cell (p := ⟨q, 0, none⟩) HNQ.out).trans q0; have hA4 := (hk4.block w.heap.size HNA.out).trans HA.out; obtain ⟨a40, a41, a42, az4⟩ := cells3 hA4; have af40 := frozen_of_row w4 w.heap.size 0 _ _ hA4; have af41 := frozen_of_row w4 w.heap.size 1 _ _ hA4; have af42 := frozen_of_row w4 w.heap.size 2 _ _ hA4; have HA4 := hide hA4; have HM4 := hide hm4; have HK4 := hide hk4; have HR4 := hide hrow4; clear hA4 hm4 hg4 hk4 hrow4 q0 a0 a1 a2 af0 af1 af2 c2 cf hmg))
      refine bodyPost_ret (v := .agg #[.int .i64 0, .int .u64 (m.tell 0 p 0 % 4294967296), .slice none 0 0]) (by simp [results, Tryz.results161, go_sem, *]) rfl ?_
      have hkf : Keep (fun k => k ≠ w.heap.size) w4 (((w4.setCell ⟨w.heap.size, 0, none⟩ (.int .i64 0)).setCell ⟨w.heap.size, 1, none⟩ (.int .u64 (m.tell 0 p 0 % 4294967296))).setCell ⟨w.heap.size, 2, none⟩ (.slice none 0 0)) := (((Keep.refl _ w4).setCell (by simp) _).setCell (by simp) _).setCell (by simp) _
      have hsf := hkf.size
      have hkWf : Keep (fun k => k < w.heap.size ∧ k ≠ pe ∧ k ≠ pm ∧ k ≠ px) w (((w4.setCell ⟨w.heap.size, 0, none⟩ (.int .i64 0)).setCell ⟨w.heap.size, 1, none⟩ (.int .u64 (m.tell 0 p 0 % 4294967296))).setCell ⟨w.heap.size, 2, none⟩ (.slice none 0 0)) := ((HKW.out.mono (fun k hk => ⟨hk.1, hk.2.2.1, hk.2.2.2⟩)).trans (HK4.out.mono (fun k hk => ⟨by omega, hk.2.1⟩))).trans (hkf.mono (fun k hk => by omega))
      have hmf : IMapD (((w4.setCell ⟨w.heap.size, 0, none⟩ (.int .i64 0)).setCell ⟨w.heap.size, 1, none⟩ (.int .u64 (m.tell 0 p 0 % 4294967296))).setCell ⟨w.heap.size, 2, none⟩ (.slice none 0 0)) W.heap.size .i64 (fun y => if y = p then some (llPtr q) else none) := HM4.out.of_block (hkf.block _ (by omega))
      have hqf : llBox (((w4.setCell ⟨w.heap.size, 0, none⟩ (.int .i64 0)).setCell ⟨w.heap.size, 1, none⟩ (.int .u64 (m.tell 0 p 0 % 4294967296))).setCell ⟨w.heap.size, 2, none⟩ (.slice none 0 0)) q (m.tell 0 p 0) := (hkf.block _ (by omega)).trans ((HK4.out.block _ HNQ.out).trans HQ.out)
      have hrf := HR4.out.of_block (hkf.block pe (by omega))
      refine ⟨rfl, ⟨_, _, LlAt.put (mm := fun _ => none) HO.out ht (Or.inr ⟨hmb, fun _ => rfl, by omega⟩) hrf hmf hqf (hkWf.mono (fun k hk => ⟨hlt k hk.1, hk.2.1, fun e => n1 (e ▸ hk.1), fun e => n2 (e ▸ hk.1)⟩)) (fun k => Iff.rfl) (by omega) (by omega)⟩, ?_, hkWf.mono (fun k hk => ⟨hk.1, fun e => hk.2.1 (e ▸ HO.out.own), hk.2.2⟩)⟩
      have hml4 := HMW.out.lt
      exact (HMW.out.of_blocks (HK4.out.block _ ⟨hml4.1, n6.symm⟩) (HK4.out.block _ ⟨hml4.2, n7.symm⟩)).of_blocks (hkf.block _ (by omega)) (hkf.block _ (by omega))
    · rw [hmb] at c2
      obtain ⟨b1, mm, b2, b3⟩ := HHW.out.fso t g ht hmb
      have hmg : IMapD W g .i64 mm := b2
      have HMG := hide hmg
      have hgq : g ≠ q := by
        rintro rfl
        obtain ⟨es, cl, e1, _⟩ := b2
        have := HQ.out
        unfold llBox at this
        rw [e1] at this
        cases this
      have hga : g ≠ w.heap.size := by
        rintro rfl
        obtain ⟨es, cl, e1, _⟩ := b2
        rw [HA.out] at e1
        cases e1
      have hgz := b2.lt
      have hgp : g ≠ pe := by
        rintro rfl
        obtain ⟨cc, hc, _⟩ := HHW.out.row
        obtain ⟨es, cl, e1, _⟩ := b2
        rw [hc] at e1
        cases e1
      clear b2 b3
      have HNQ := hide (show q < W.heap.size ∧ q ≠ g from ⟨qz, hgq.symm⟩)
      have HNA := hide (show w.heap.size < W.heap.size ∧ w.heap.size ≠ g from ⟨azW, hga.symm⟩)
      go_wp2_with (at_mapUpdate; (refine wpList_update_imapD _ rfl _ _ _ _ rfl 3 247 .i64 Tryz.underlying81 Tryz.underlying3 g mm rfl hmg p (llPtr q) rfl rfl ?_; intro w4 hm4 hg4 hz4; have hk4 : Keep (fun k => k < W.heap.size ∧ k ≠ g) W w4 := (Keep.refl _ W).grown hg4 (fun k hk => hk.1) (fun k hk hh => by cases hk; exact hh.2 rfl); have hrow4 : w4.rowIs pe 84 18 (fun i => if i = 2 + t then .map (some g) else f i) := (HHW.out.row.of_block (hg4.block pe hzW (fun e => by cases e; exact hgp rfl))).congr (fun i _ => by by_cases e : i = 2 + t; rw [e, HHW.out.fm t ht, hmb, if_pos rfl]; rw [if_neg e]); have q4 : w4.cell? ⟨q, 0, none⟩ = some (.int .u64 (m.tell 0 p 0)) := (hk4.cell (p := ⟨q, 0, none⟩) HNQ.out).trans q0; have hA4 := (hk4.block w.heap.size HNA.out).trans HA.out; obtain ⟨a40, a41, a42, az4⟩ := cells3 hA4; have af40 := frozen_of_row w4 w.heap.size 0 _ _ hA4; have af41 := frozen_of_row w4 w.heap.size 1 _ _ hA4; have af42 := frozen_of_row w4 w.heap.size 2 _ _ hA4; have HA4 := hide hA4; have HM4 := hide hm4; have HK4 := hide hk4; have HR4 := hide hrow4; clear hA4 hm4 hg4 hk4 hrow4 q0 a0 a1 a2 af0 af1 af2 c2 cf hmg))
      refine bodyPost_ret (v := .agg #[.int .i64 0, .int .u64 (m.tell 0 p 0 % 4294967296), .slice none 0 0]) (by simp [results, Tryz.results161, go_sem, *]) rfl ?_
      have hkf : Keep (fun k => k ≠ w.heap.size) w4 (((w4.setCell ⟨w.heap.size, 0, none⟩ (.int .i64 0)).setCell ⟨w.heap.size, 1, none⟩ (.int .u64 (m.tell 0 p 0 % 4294967296))).setCell ⟨w.heap.size, 2, none⟩ (.slice none 0 0)) := (((Keep.refl _ w4).setCell (by simp) _).setCell (by simp) _).setCell (by simp) _
      have hsf := hkf.size
      have hgw : F g := (HHW.out.fso t g ht hmb).1
      have hkWf : Keep (fun k => k < w.heap.size ∧ k ≠ g ∧ k ≠ pm ∧ k ≠ px) w (((w4.setCell ⟨w.heap.size, 0, none⟩ (.int .i64 0)).setCell ⟨w.heap.size, 1, none⟩ (.int .u64 (m.tell 0 p 0 % 4294967296))).setCell ⟨w.heap.size, 2, none⟩ (.slice none 0 0)) := ((HKW.out.mono (fun k hk => ⟨hk.1, hk.2.2.1, hk.2.2.2⟩)).trans (HK4.out.mono (fun k hk => ⟨by omega, hk.2.1⟩))).trans (hkf.mono (fun k hk => by omega))
      have hgl := hlt g hgw
      have hmf : IMapD (((w4.setCell ⟨w.heap.size, 0, none⟩ (.int .i64 0)).setCell ⟨w.heap.size, 1, none⟩ (.int .u64 (m.tell 0 p 0 % 4294967296))).setCell ⟨w.heap.size, 2, none⟩ (.slice none 0 0)) g .i64 (fun y => if y = p then some (llPtr q) else mm y) := HM4.out.of_block (hkf.block _ (by omega))
      have hqf : llBox (((w4.setCell ⟨w.heap.size, 0, none⟩ (.int .i64 0)).setCell ⟨w.heap.size, 1, none⟩ (.int .u64 (m.tell 0 p 0 % 4294967296))).setCell ⟨w.heap.size, 2, none⟩ (.slice none 0 0)) q (m.tell 0 p 0) := (hkf.block _ (by omega)).trans ((HK4.out.block _ HNQ.out).trans HQ.out)
      have hrf := HR4.out.of_block (hkf.block pe (by omega))
      have hmg0 : IMapD w g .i64 mm := HMG.out.of_block (HKW.out.block g ⟨hgl, fun e => n1 (e ▸ hgw), fun e => n2 (e ▸ hgw)⟩).symm
      refine ⟨rfl, ⟨_, _, LlAt.put (mm := mm) HO.out ht (Or.inl ⟨hmb, hmg0⟩) hrf hmf hqf (hkWf.mono (fun k hk => ⟨hlt k hk.1, hk.2.2, fun e => n1 (e ▸ hk.1), fun e => n2 (e ▸ hk.1)⟩)) (fun k => Iff.rfl) (by omega) hgp⟩, ?_, hkWf.mono (fun k hk => ⟨hk.1, fun e => hk.2.1 (e ▸ hgw), hk.2.2⟩)⟩
      have hml4 := HMW.out.lt
      exact (HMW.out.of_blocks (HK4.out.block _ ⟨hml4.1, fun e => n1 (e ▸ hgw)⟩) (HK4.out.block _ ⟨hml4.2, fun e => n2 (e ▸ hgw)⟩)).of_blocks (hkf.block _ (by omega)) (hkf.block _ (by omega))
  · (refine seq_run rfl (by rfl) (fun K hK => ?_); go_simp)
    refine hK _ _ (by refine ⟨?_, ?_⟩ <;> go_simp) ?_
    clear hK K
    have N := HNB.out
    (refine seq_run rfl (by rfl) (fun K hK => ?_); go_simp)
    refine N.mono ?_
    rintro e w1 ⟨rfl, hm1, hk1⟩
    have hkw : Keep (fun k => k ≠ pm ∧ k ≠ px ∧ k < w.heap.size) w w1 := ((((Keep.refl (fun k => k < w.heap.size) w).alloc (fun k hk => hk) _).alloc (fun k hk => by simp; omega) _).drew.mono (fun k hk => hk.2.2)).trans (hk1.mono (fun k hk => ⟨hk.1, hk.2.1, by show k < ((w.alloc (.cells #[.int .i64 0, .int .u64 0, .slice none 0 0] 50)).alloc (.cells #[.int .u64 0] 46)).heap.size; simp; omega⟩))
    have hAns : w1.heap[w.heap.size]? = some (.cells #[.int .i64 0, .int .u64 0, .slice none 0 0] 50 (0, 0)) := (hk1.block w.heap.size ⟨by omega, by omega, by show w.heap.size < ((w.alloc (.cells #[.int .i64 0, .int .u64 0, .slice none 0 0] 50)).alloc (.cells #[.int .u64 0] 46)).heap.size; simp; omega⟩).trans ((heap_alloc_old _ _ (by simp)).trans (heap_alloc_new _ _))
    have hz1 : w.heap.size + 2 ≤ w1.heap.size := by have := hk1.size; simpa using this
    have s0 := (hkw.cell (p := ⟨pw, 0, none⟩) ⟨n4, n5, hpz⟩).trans hp0
    have s1 := (hkw.cell (p := ⟨pe, 0, none⟩) ⟨n6, n7, hz⟩).trans c0
    have hpz1 : pw < w1.heap.size := by omega
    have hez1 : pe < w1.heap.size := by omega
    refine hK _ _ ⟨s0, s1⟩ ?_
    clear hK K N
    have hQ0 : w1.heap[w.heap.size + 1]? = some (.cells #[.int .u64 0] 46 (0, 0)) := (hk1.block (w.heap.size + 1) ⟨by omega, by omega, by show w.heap.size + 1 < ((w.alloc (.cells #[.int .i64 0, .int .u64 0, .slice none 0 0] 50)).alloc (.cells #[.int .u64 0] 46)).heap.size; simp⟩).trans (by have := heap_alloc_new (w.alloc (.cells #[.int .i64 0, .int .u64 0, .slice none 0 0] 50)) (.cells #[.int .u64 0] 46); rw [show (w.alloc (.cells #[.int .i64 0, .int .u64 0, .slice none 0 0] 50)).heap.size = w.heap.size + 1 by simp] at this; exact this)
    have q0 := cell_of_row w1 (w.heap.size + 1) 0 _ _ _ hQ0
    have qf := frozen_of_row w1 (w.heap.size + 1) 0 _ _ hQ0
    (refine seq_run rfl (by rfl) (fun K hK => ?_); go_simp)
    refine hK _ _ (by refine ⟨?_, ?_⟩ <;> go_simp) ?_
    clear hK K
    refine seq_nil ?_
    have hQ : llBox (w1.setCell ⟨w.heap.size + 1, 0, none⟩ (.int .u64 (m.tell 0 p 0))) (w.heap.size + 1) (m.tell 0 p 0) := cells_set hQ0
    have hkW : Keep (fun k => k < w.heap.size ∧ k ≠ pm ∧ k ≠ px) w (w1.setCell ⟨w.heap.size + 1, 0, none⟩ (.int .u64 (m.tell 0 p 0))) := (hkw.mono (fun k hk => ⟨hk.2.1, hk.2.2, hk.1⟩)).setCell (by simp; omega) _
    have hks : Keep (fun k => k ≠ w.heap.size + 1) w1 (w1.setCell ⟨w.heap.size + 1, 0, none⟩ (.int .u64 (m.tell 0 p 0))) := (Keep.refl _ w1).setCell (by simp) _
    have hmW : MemAt (w1.setCell ⟨w.heap.size + 1, 0, none⟩ (.int .u64 (m.tell 0 p 0))) pm px .nilFunc (m.acc 0 p 0 0) := hm1.of_blocks (hks.block _ (by omega)) (hks.block _ (by omega))
    have hA : (w1.setCell ⟨w.heap.size + 1, 0, none⟩ (.int .u64 (m.tell 0 p 0))).heap[w.heap.size]? = some (.cells #[.int .i64 0, .int .u64 0, .slice none 0 0] 50 (0, 0)) := (hks.block _ (by omega)).trans hAns
    have hqn : w.heap.size < w.heap.size + 1 := by omega
    clear hm1 hk1 hkw hAns hz1 s0 s1 hpz1 hez1 hQ0 q0 qf hks
    generalize w1.setCell ⟨w.heap.size + 1, 0, none⟩ (.int .u64 (m.tell 0 p 0)) = W at *
    generalize w.heap.size + 1 = q at *
    have HOW : LlAt pe W F o f mb := HO.out.keep hkW (fun k hk => ⟨hlt k hk, fun e => n1 (e ▸ hk), fun e => n2 (e ▸ hk)⟩)
    have c2 := HOW.row.cell (i := 2 + t) (by omega)
    rw [HOW.fm t ht] at c2
    have cf := HOW.row.frozen (2 + t)
    have hzW := HOW.row.lt
    have qz := (Array.getElem?_eq_some_iff.1 hQ).1
    have azW := (Array.getElem?_eq_some_iff.1 hA).1
    have hsW := hkW.size
    have q0 : W.cell? ⟨q, 0, none⟩ = some (.int .u64 (m.tell 0 p 0)) := cell_of_row W q 0 _ _ _ hQ
    obtain ⟨a0, a1, a2, _⟩ := cells3 hA
    have af0 := frozen_of_row W w.heap.size 0 _ _ hA
    have af1 := frozen_of_row W w.heap.size 1 _ _ hA
    have af2 := frozen_of_row W w.heap.size 2 _ _ hA
    have HHW := hide HOW
    have HQ := hide hQ
    have HKW := hide hkW
    have HMW := hide hmW
    have HA := hide hA
    clear HOW hQ hkW hmW hA
    rcases hmb : mb t with _ | g
    · rw [hmb] at c2
      have hmg : IMapD ((W.setCell ⟨pe, 2 + t, none⟩ (.map (some W.heap.size))).alloc (.map #[] 0)) W.heap.size .i64 (fun _ => none) := by
        have := IMapD.new (W.setCell ⟨pe, 2 + t, none⟩ (.map (some W.heap.size))) .i64
        rw [show (W.setCell ⟨pe, 2 + t, none⟩ (.map (some W.heap.size))).heap.size = W.heap.size by simp] at this
        exact this
      have HNQ := hide (show q < W.heap.size ∧ q ≠ pe from ⟨qz, by omega⟩)
      have HNA := hide (show w.heap.size < W.heap.size ∧ w.heap.size ≠ pe from ⟨azW, by omega⟩)
      go_wp2_with (at_mapUpdate; (refine wpList_update_imapD _ rfl _ _ _ _ rfl 3 247 .i64 Tryz.underlying81 Tryz.underlying3 W.heap.size (fun _ => none) rfl hmg p (llPtr q) rfl rfl ?_; intro w4 hm4 hg4 hz4; have hk4 : Keep (fun k => k < W.heap.size ∧ k ≠ pe) W w4 := (((Keep.refl _ W).setCell (fun hk => hk.2 rfl) _).alloc (fun k hk => by simpa using hk.1) _).grown hg4 (fun k hk => by simp; omega) (fun k hk hh => by cases hk; exact Nat.lt_irrefl _ hh.1); have hrow4 : w4.rowIs pe 84 18 (fun i => if i = 2 + t then .map (some W.heap.size) else f i) := ((HHW.out.row.set (2 + t) (.map (some W.heap.size))).alloc _).of_block (hg4.block pe (by simp; omega) (fun e => by cases e; omega)); have q4 : w4.cell? ⟨q, 0, none⟩ = some (.int .u64 (m.tell 0 p 0)) := (hk4.cell (p := ⟨q, 0, none⟩) HNQ.out).trans q0; have hA4 := (hk4.block w.heap.size HNA.out).trans HA.out; obtain ⟨a40, a41, a42, az4⟩ := cells3 hA4; have af40 := frozen_of_row w4 w.heap.size 0 _ _ hA4; have af41 := frozen_of_row w4 w.heap.size 1 _ _ hA4; have af42 := frozen_of_row w4 w.heap.size 2 _ _ hA4; have HA4 := hide hA4; have HM4 := hide hm4; have HK4 := hide hk4; have HR4 := hide hrow4; clear hA4 hm4 hg4 hk4 hrow4 q0 a0 a1 a2 af0 af1 af2 c2 cf hmg))
      refine bodyPost_ret (v := .agg #[.int .i64 0, .int .u64 (m.tell 0 p 0 % 4294967296), .slice none 0 0]) (by simp [results, Tryz.results161, go_sem, *]) rfl ?_
      have hkf : Keep (fun k => k ≠ w.heap.size) w4 (((w4.setCell ⟨w.heap.size, 0, none⟩ (.int .i64 0)).setCell ⟨w.heap.size, 1, none⟩ (.int .u64 (m.tell 0 p 0 % 4294967296))).setCell ⟨w.heap.size, 2, none⟩ (.slice none 0 0)) := (((Keep.refl _ w4).setCell (by simp) _).setCell (by simp) _).setCell (by simp) _
      have hsf := hkf.size
      have hkWf : Keep (fun k => k < w.heap.size ∧ k ≠ pe ∧ k ≠ pm ∧ k ≠ px) w (((w4.setCell ⟨w.heap.size, 0, none⟩ (.int .i64 0)).setCell ⟨w.heap.size, 1, none⟩ (.int .u64 (m.tell 0 p 0 % 4294967296))).setCell ⟨w.heap.size, 2, none⟩ (.slice none 0 0)) := ((HKW.out.mono (fun k hk => ⟨hk.1, hk.2.2.1, hk.2.2.2⟩)).trans (HK4.out.mono (fun k hk => ⟨by omega, hk.2.1⟩))).trans (hkf.mono (fun k hk => by omega))
      have hmf : IMapD (((w4.setCell ⟨w.heap.size, 0, none⟩ (.int .i64 0)).setCell ⟨w.heap.size, 1, none⟩ (.int .u64 (m.tell 0 p 0 % 4294967296))).setCell ⟨w.heap.size, 2, none⟩ (.slice none 0 0)) W.heap.size .i64 (fun y => if y = p then some (llPtr q) else none) := HM4.out.of_block (hkf.block _ (by omega))
      have hqf : llBox (((w4.setCell ⟨w.heap.size, 0, none⟩ (.int .i64 0)).setCell ⟨w.heap.size, 1, none⟩ (.int .u64 (m.tell 0 p 0 % 4294967296))).setCell ⟨w.heap.size, 2, none⟩ (.slice none 0 0)) q (m.tell 0 p 0) := (hkf.block _ (by omega)).trans ((HK4.out.block _ HNQ.out).trans HQ.out)
      have hrf := HR4.out.of_block (hkf.block pe (by omega))
      refine ⟨rfl, ⟨_, _, LlAt.put (mm := fun _ => none) HO.out ht (Or.inr ⟨hmb, fun _ => rfl, by omega⟩) hrf hmf hqf (hkWf.mono (fun k hk => ⟨hlt k hk.1, hk.2.1, fun e => n1 (e ▸ hk.1), fun e => n2 (e ▸ hk.1)⟩)) (fun k => Iff.rfl) (by omega) (by omega)⟩, ?_, hkWf.mono (fun k hk => ⟨hk.1, fun e => hk.2.1 (e ▸ HO.out.own), hk.2.2⟩)⟩
      have hml4 := HMW.out.lt
      exact (HMW.out.of_blocks (HK4.out.block _ ⟨hml4.1, n6.symm⟩) (HK4.out.block _ ⟨hml4.2, n7.symm⟩)).of_blocks (hkf.block _ (by omega)) (hkf.block _ (by omega))
    · rw [hmb] at c2
      obtain ⟨b1, mm, b2, b3⟩ := HHW.out.fso t g ht hmb
      have hmg : IMapD W g .i64 mm := b2
      have HMG := hide hmg
      have hgq : g ≠ q := by
        rintro rfl
        obtain ⟨es, cl, e1, _⟩ := b2
        have := HQ.out
        unfold llBox at this
        rw [e1] at this
        cases this
      have hga : g ≠ w.heap.size := by
        rintro rfl
        obtain ⟨es, cl, e1, _⟩ := b2
        rw [HA.out] at e1
        cases e1
      have hgz := b2.lt
      have hgp : g ≠ pe := by
        rintro rfl
        obtain ⟨cc, hc, _⟩ := HHW.out.row
        obtain ⟨es, cl, e1, _⟩ := b2
        rw [hc] at e1
        cases e1
      clear b2 b3
      have HNQ := hide (show q < W.heap.size ∧ q ≠ g from ⟨qz, hgq.symm⟩)
      have HNA := hide (show w.heap.size < W.heap.size ∧ w.heap.size ≠ g from ⟨azW, hga.symm⟩)
      go_wp2_with (at_mapUpdate; (refine wpList_update_imapD _ rfl _ _ _ _ rfl 3 247 .i64 Tryz.underlying81 Tryz.underlying3 g mm rfl hmg p (llPtr q) rfl rfl ?_; intro w4 hm4 hg4 hz4; have hk4 : Keep (fun k => k < W.heap.size ∧ k ≠ g) W w4 := (Keep.refl _ W).grown hg4 (fun k hk => hk.1) (fun k hk hh => by cases hk; exact hh.2 rfl); have hrow4 : w4.rowIs pe 84 18 (fun i => if i = 2 + t then .map (some g) else f i) := (HHW.out.row.of_block (hg4.block pe hzW (fun e => by cases e; exact hgp rfl))).congr (fun i _ => by by_cases e : i = 2 + t; rw [e, HHW.out.fm t ht, hmb, if_pos rfl]; rw [if_neg e]); have q4 : w4.cell? ⟨q, 0, none⟩ = some (.int .u64 (m.tell 0 p 0)) := (hk4.cell (p := ⟨q, 0, none⟩) HNQ.out).trans q0; have hA4 := (hk4.block w.heap.size HNA.out).trans HA.out; obtain ⟨a40, a41, a42, az4⟩ := cells3 hA4; have af40 := frozen_of_row w4 w.heap.size 0 _ _ hA4; have af41 := frozen_of_row w4 w.heap.size 1 _ _ hA4; have af42 := frozen_of_row w4 w.heap.size 2 _ _ hA4; have HA4 := hide hA4; have HM4 := hide hm4; have HK4 := hide hk4; have HR4 := hide hrow4; clear hA4 hm4 hg4 hk4 hrow4 q0 a0 a1 a2 af0 af1 af2 c2 cf hmg))
      refine bodyPost_ret (v := .agg #[.int .i64 0, .int .u64 (m.tell 0 p 0 % 4294967296), .slice none 0 0]) (by simp [results, Tryz.results161, go_sem, *]) rfl ?_
      have hkf : Keep (fun k => k ≠ w.heap.size) w4 (((w4.setCell ⟨w.heap.size, 0, none⟩ (.int .i64 0)).setCell ⟨w.heap.size, 1, none⟩ (.int .u64 (m.tell 0 p 0 % 4294967296))).setCell ⟨w.heap.size, 2, none⟩ (.slice none 0 0)) := (((Keep.refl _ w4).setCell (by simp) _).setCell (by simp) _).setCell (by simp) _
      have hsf := hkf.size
      have hgw : F g := (HHW.out.fso t g ht hmb).1
      have hkWf : Keep (fun k => k < w.heap.size ∧ k ≠ g ∧ k ≠ pm ∧ k ≠ px) w (((w4.setCell ⟨w.heap.size, 0, none⟩ (.int .i64 0)).setCell ⟨w.heap.size, 1, none⟩ (.int .u64 (m.tell 0 p 0 % 4294967296))).setCell ⟨w.heap.size, 2, none⟩ (.slice none 0 0)) := ((HKW.out.mono (fun k hk => ⟨hk.1, hk.2.2.1, hk.2.2.2⟩)).trans (HK4.out.mono (fun k hk => ⟨by omega, hk.2.1⟩))).trans (hkf.mono (fun k hk => by omega))
      have hgl := hlt g hgw
      have hmf : IMapD (((w4.setCell ⟨w.heap.size, 0, none⟩ (.int .i64 0)).setCell ⟨w.heap.size, 1, none⟩ (.int .u64 (m.tell 0 p 0 % 4294967296))).setCell ⟨w.heap.size, 2, none⟩ (.slice none 0 0)) g .i64 (fun y => if y = p then some (llPtr q) else mm y) := HM4.out.of_block (hkf.block _ (by omega))
      have hqf : llBox (((w4.setCell ⟨w.heap.size, 0, none⟩ (.int .i64 0)).setCell ⟨w.heap.size, 1, none⟩ (.int .u64 (m.tell 0 p 0 % 4294967296))).setCell ⟨w.heap.size, 2, none⟩ (.slice none 0 0)) q (m.tell 0 p 0) := (hkf.block _ (by omega)).trans ((HK4.out.block _ HNQ.out).trans HQ.out)
      have hrf := HR4.out.of_block (hkf.block pe (by omega))
      have hmg0 : IMapD w g .i64 mm := HMG.out.of_block (HKW.out.block g ⟨hgl, fun e => n1 (e ▸ hgw), fun e => n2 (e ▸ hgw)⟩).symm
      refine ⟨rfl, ⟨_, _, LlAt.put (mm := mm) HO.out ht (Or.inl ⟨hmb, hmg0⟩) hrf hmf hqf (hkWf.mono (fun k hk => ⟨hlt k hk.1, hk.2.2, fun e => n1 (e ▸ hk.1), fun e => n2 (e ▸ hk.1)⟩)) (fun k => Iff.rfl) (by omega) hgp⟩, ?_, hkWf.mono (fun k hk => ⟨hk.1, fun e => hk.2.1 (e ▸ hgw), hk.2.2⟩)⟩
      have hml4 := HMW.out.lt
      exact (HMW.out.of_blocks (HK4.out.block _ ⟨hml4.1, fun e => n1 (e ▸ hgw)⟩) (HK4.out.block _ ⟨hml4.2, fun e => n2 (e ▸ hgw)⟩)).of_blocks (hkf.block _ (by omega)) (hkf.block _ (by omega))
end Go.Proofs.YtlfingcmekifkaaGreat
