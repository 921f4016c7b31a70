/- Linked words (package llsc): store. -/
import Derived.Test.YtlfingcmekifkaaLl3
namespace Go.Proofs.Ytlfingcmekifkaa
open Go.RowKit

theorem tell2_01 (m : Mm) (a x : Int) : (if decide (m.tell 2 a x = 1) then (1 : Int) else 0) = m.tell 2 a x := by
  by_cases h : m.tell 2 a x = 1
  · rw [decide_eq_true h, if_pos rfl, h]
  · rw [decide_eq_false h, if_neg (by decide)]
    unfold Mm.tell acV at h ⊢
    split
    · rename_i hin
      rw [if_pos hin] at h
      simp only [if_neg (show ¬ (2 : Int) = 0 by decide), if_neg (show ¬ (2 : Int) = 1 by decide), if_pos] at h ⊢
      split
      · rename_i hx
        rw [if_pos hx] at h
        exact absurd rfl h
      · rfl
    · rfl
set_option maxRecDepth 100000 in
set_option maxHeartbeats 1000000 in
theorem llStoreW {pe pw pm px : Nat} {w : World} {F : Nat → Prop} {o : Ll} {f : Nat → Value} {mb : Nat → Option Nat} {m : Mm} {t : Nat} {p x v : Int} (h : LlS pe pw pm px w F o f mb m) (ht : t < 16) (hp : 0 ≤ p ∧ p < 64) (hx : o.links t p = some x) (hv : 0 ≤ v ∧ v < two32) :
    Calls Try.prog 81 #[.pointer (some ⟨pe, 0, none⟩), .pointer (some ⟨pw, 0, none⟩), .int .i64 t, .int .i64 p, .int .u64 v] w (LlP pe pm px w F (llLink o t p none) (m.acc 2 p x (llNext x v)) (m.tell 2 p x)) := by
  obtain ⟨hO, hp0, hm, hpz, ⟨n1, n2, n3, n4, n5⟩, h64, hbd⟩ := h
  have c0 := hO.row.cell (i := 0) (by omega)
  rw [hO.f0] at c0
  have c2 := hO.row.cell (i := 2 + t) (by omega)
  rw [hO.fm t ht] at c2
  have hz := hO.row.lt
  have ht' : (t : Int) < 16 := by omega
  have hml := hm.lt
  have n6 : pe ≠ pm := fun e => n1 (e ▸ hO.own)
  have n7 : pe ≠ px := fun e => n2 (e ▸ hO.own)
  have hwp : IntKind.i64.wrap p = p := wrap_i64 (by omega) (by omega)
  have hlt := hO.lt
  obtain ⟨lv, hlv, hlk0⟩ := hO.look ht p
  rcases hmb : mb t with _ | g
  · rw [hO.fno t ht hmb p] at hx
    cases hx
  obtain ⟨b1, mm, b2, b3⟩ := hO.fso t g ht hmb
  rw [hmb] at c2 hlk0
  rcases hlv with ⟨a1, _⟩ | ⟨x', q, a1, rfl, a4, _⟩
  · rw [a1] at hx
    cases hx
  have hxx : x' = x := by rw [a1] at hx; cases hx; rfl
  subst hxx
  have q0 : w.cell? ⟨q, 0, none⟩ = some (.int .u64 x') := cell_of_row w q 0 _ _ _ a4
  have hqz := (Array.getElem?_eq_some_iff.1 a4).1
  have hgz := b2.lt
  have hgw : g ≠ pw := fun e => n3 (e ▸ b1)
  have hgm : g ≠ pm := fun e => n1 (e ▸ b1)
  have hgx : g ≠ px := fun e => n2 (e ▸ b1)
  have hgp : g ≠ pe := by
    rintro rfl
    obtain ⟨cc, hc, _⟩ := hO.row
    obtain ⟨es, cl, e1, _⟩ := b2
    rw [hc] at e1
    cases e1
  have hmg : IMapD (w.alloc (.cells #[.int .i64 0, .int .u64 0, .slice none 0 0] 39)) g .i64 mm := b2.of_block (heap_alloc_old _ _ hgz)
  have hlk := hlk0 (w.alloc (.cells #[.int .i64 0, .int .u64 0, .slice none 0 0] 39)) (fun k hk => heap_alloc_old _ _ (hlt k hk))
  unfold llPtr at hlk
  obtain ⟨xb0, xb1⟩ := hbd t p x' hx
  have NN := llNextW x' v ⟨xb0, xb1⟩ hv
  have hgF := b1
  have HMB := hide hmb
  have HO := hide hO
  have HM := hide hm
  have HMG := hide b2
  have HNN := hide NN
  have HT := hide (tell2_01 m p x')
  clear hO hm hbd b2 b3 a1 a4 hx hlk0 hmb NN h64
  go_enter Try.func81, Try.ntmps81
  go_wp2_with (at_delete; (refine wpList_delete_imapD _ rfl _ _ 77 3 rfl 168 .i64 Try.underlying77 Try.underlying3 g mm rfl hmg p rfl ?_; intro w4 hm4 hg4 hz4))
  have hk4 : Keep (fun k => k < (w.alloc (.cells #[.int .i64 0, .int .u64 0, .slice none 0 0] 39)).heap.size ∧ k ≠ g) (w.alloc (.cells #[.int .i64 0, .int .u64 0, .slice none 0 0] 39)) w4 := (Keep.refl _ _).grown hg4 (fun k hk => hk.1) (fun k hk hh => by cases hk; exact hh.2 rfl)
  have hkw4 : Keep (fun k => k < w.heap.size ∧ k ≠ g) w w4 := ((Keep.refl (fun k => k < w.heap.size ∧ k ≠ g) w).alloc (fun k hk => hk.1) _).trans (hk4.mono (fun k hk => ⟨by simp; omega, hk.2⟩))
  have s0 : w4.cell? ⟨pw, 0, none⟩ = some (.pointer (some ⟨pm, 0, none⟩)) := (hkw4.cell (p := ⟨pw, 0, none⟩) ⟨hpz, hgw.symm⟩).trans hp0
  have s1 : w4.cell? ⟨pe, 0, none⟩ = some (.int .i64 0) := (hkw4.cell (p := ⟨pe, 0, none⟩) ⟨hz, hgp.symm⟩).trans c0
  have hA4 : w4.heap[w.heap.size]? = some (.cells #[.int .i64 0, .int .u64 0, .slice none 0 0] 39 (0, 0)) := (hk4.block w.heap.size ⟨by simp, by omega⟩).trans (heap_alloc_new _ _)
  have hsz4 : w.heap.size + 1 ≤ w4.heap.size := by have := hk4.size; simpa using this
  have hM4 : MemAt w4.drew pm px .nilFunc m := (HM.out.of_blocks (hkw4.block _ ⟨hml.1, hgm.symm⟩) (hkw4.block _ ⟨hml.2, hgx.symm⟩)).of_blocks rfl rfl
  have HM4 := hide hm4
  have HKW4 := hide hkw4
  have HA4 := hide hA4
  have HMM4 := hide hM4
  clear hm4 hg4 hk4 hkw4 hA4 hM4 hmg c2 hlk q0
  have hmz4 : pw < w4.heap.size := by omega
  have hez4 : pe < w4.heap.size := by omega
  refine wp_region_seq (fun Y => Y.cell? ⟨pw, 0, none⟩ = some (.pointer (some ⟨pm, 0, none⟩)) ∧ Y.cell? ⟨pe, 0, none⟩ = some (.int .i64 0)) (.take 0 <| .take 1 <| .take 2 <| .take 3 <| .take 4 <| .take 5 <| .take 6 <| .take 7 <| .take 8 <| .take 9 <| .take 10 <| .take 11 <| .take 12 <| .run 13 <| .run 14 <| .run 15 <| .run 16 <| .done) (by kernel_rfl) (by kernel_rfl) (by kernel_rfl) (by refine ⟨?_, ?_⟩ <;> go_simp) ?_
  repeat (refine seq_take (v := ?_) rfl (by rfl) ?_ ?_; rotate_left; (focus (intro wS hS; obtain ⟨s0, s1⟩ := hS; go_simp; exact rfl)); simp only [Act.put, List.setIfInBounds_toArray, List.set_cons_zero, List.set_cons_succ])
  (refine seq_run rfl (by rfl) (fun K hK => ?_); go_simp)
  refine (HNN.out _).mono ?_
  rintro e w5 ⟨rfl, rfl⟩
  refine hK _ _ (by refine ⟨?_, ?_⟩ <;> go_simp) ?_
  clear hK K
  have N2 := memSwap pm px p x' (llNext x' v) m w4.drew HMM4.out
  generalize llNext x' v = nx at *
  (refine seq_run rfl (by rfl) (fun K hK => ?_); go_simp)
  refine N2.mono ?_
  rintro e w5 ⟨d, rfl, rfl, hm5, hk5⟩
  have hk5' : Keep (fun k => k ≠ pm ∧ k ≠ px ∧ k < w4.heap.size) w4 w5 := ((Keep.refl _ w4).drew).trans hk5
  have s05 := (hk5'.cell (p := ⟨pw, 0, none⟩) ⟨n4, n5, hmz4⟩).trans s0
  have s15 := (hk5'.cell (p := ⟨pe, 0, none⟩) ⟨n6, n7, hez4⟩).trans s1
  have hA5 := (hk5'.block w.heap.size ⟨by omega, by omega, by omega⟩).trans HA4.out
  have hsz5 := hk5'.size
  refine hK _ _ ⟨s05, s15⟩ ?_
  have HM5 := hide hm5
  have HK5 := hide hk5'
  have HA5 := hide hA5
  clear hK K N2 hk5 hm5 hk5' s0 s1
  have N3 := llYesW (decide (m.tell 2 p x' = 1)) w5
  rw [HT.out] at N3
  (refine seq_run rfl (by rfl) (fun K hK => ?_); go_simp)
  refine N3.mono ?_
  rintro e w6 ⟨rfl, hb6⟩
  have s06 := (hb6.cell (p := ⟨pw, 0, none⟩) (by show pw < w5.heap.size; omega)).trans s05
  have s16 := (hb6.cell (p := ⟨pe, 0, none⟩) (by show pe < w5.heap.size; omega)).trans s15
  have hA6 := (hb6.block w.heap.size (by omega)).trans HA5.out
  obtain ⟨a0, a1, a2, az⟩ := cells3 hA6
  have af0 := frozen_of_row w6 w.heap.size 0 _ _ hA6
  have af1 := frozen_of_row w6 w.heap.size 1 _ _ hA6
  have af2 := frozen_of_row w6 w.heap.size 2 _ _ hA6
  have hsz6 := hb6.size
  refine hK _ _ ⟨s06, s16⟩ ?_
  have HB6 := hide hb6
  have hew : pe ≠ w.heap.size := by omega
  have hpww : pw ≠ w.heap.size := by omega
  have hmz6 : pw < w6.heap.size := by omega
  have hez6 : pe < w6.heap.size := by omega
  clear hK K N3 hb6 s05 s15
  (refine seq_run rfl (by rfl) (fun K hK => ?_); go_simp)
  refine hK _ _ (by refine ⟨?_, ?_⟩ <;> go_simp) ?_
  clear hK K
  refine seq_nil ?_
  go_wp2
  refine bodyPost_ret (v := .agg #[.int .i64 0, .int .u64 (m.tell 2 p x'), .slice none 0 0]) (by simp [results, Try.results81, go_sem, *]) rfl ?_
  have hkf : Keep (fun k => k ≠ w.heap.size) w6 (((w6.setCell ⟨w.heap.size, 0, none⟩ (.int .i64 0)).setCell ⟨w.heap.size, 1, none⟩ (.int .u64 (m.tell 2 p x'))).setCell ⟨w.heap.size, 2, none⟩ (.slice none 0 0)) := (((Keep.refl _ w6).setCell (by simp) _).setCell (by simp) _).setCell (by simp) _
  have hsf := hkf.size
  have hk46 : Keep (fun k => k < w4.heap.size ∧ k ≠ pm ∧ k ≠ px ∧ k ≠ w.heap.size) w4 (((w6.setCell ⟨w.heap.size, 0, none⟩ (.int .i64 0)).setCell ⟨w.heap.size, 1, none⟩ (.int .u64 (m.tell 2 p x'))).setCell ⟨w.heap.size, 2, none⟩ (.slice none 0 0)) := ((HK5.out.mono (fun k hk => ⟨hk.2.1, hk.2.2.1, hk.1⟩)).trans (Keep.of_below HB6.out (fun k hk => by omega))).trans (hkf.mono (fun k hk => hk.2.2.2))
  have hgl := HO.out.lt g hgF
  have hkW : Keep (fun k => k < w.heap.size ∧ k ≠ g ∧ k ≠ pm ∧ k ≠ px) w (((w6.setCell ⟨w.heap.size, 0, none⟩ (.int .i64 0)).setCell ⟨w.heap.size, 1, none⟩ (.int .u64 (m.tell 2 p x'))).setCell ⟨w.heap.size, 2, none⟩ (.slice none 0 0)) := (HKW4.out.mono (fun k hk => ⟨hk.1, hk.2.1⟩)).trans (hk46.mono (fun k hk => ⟨by omega, hk.2.2.1, hk.2.2.2, by omega⟩))
  refine ⟨rfl, ⟨f, mb, (HO.out.del ht HMB.out HMG.out (HM4.out.of_block (hk46.block g ⟨by omega, hgm, hgx, by omega⟩)) (hkW.mono (fun k hk => ⟨hlt k hk.1, hk.2, fun e => n1 (e ▸ hk.1), fun e => n2 (e ▸ hk.1)⟩))).more (fun k hk => ⟨Or.inl hk, Nat.lt_of_lt_of_le (hlt k hk) hkW.size⟩) (fun k hk => hk.2)⟩, ?_, hkW.mono (fun k hk => ⟨hk.1, fun e => hk.2.1 (e ▸ hgF), hk.2.2⟩)⟩
  have hml5 := HM5.out.lt
  exact (HM5.out.of_blocks (HB6.out.block _ hml5.1) (HB6.out.block _ hml5.2)).of_blocks (hkf.block _ (by omega)) (hkf.block _ (by omega))
end Go.Proofs.Ytlfingcmekifkaa
