import Derived.Test.YtlfingcmekifkaaGreatLl3
namespace Go.Proofs.YtlfingcmekifkaaGreat
open Go.RowKit
theorem tell2_01 (m : Mm) (a x : Int) : (if decide (m.tell 2 a x = 1) then (1 : Int) else 0) = m.tell 2 a x := by
  by_cases h : m.tell 2 a x = 1
  · rw [decide_eq_true h, if_pos rfl, h]
  · rw [decide_eq_false h, if_neg (by decide)]
    unfold Mm.tell acV at h ⊢
    split
    · rename_i hin
      rw [if_pos hin] at h
      simp only [if_neg (show ¬ (2 : Int) = 0 by decide), if_neg (show ¬ (2 : Int) = 1 by decide), if_pos] at h ⊢
      split
      · rename_i hx
        rw [if_pos hx] at h
        exact absurd rfl h
      · rfl
    · rfl
set_option maxRecDepth 100000 in
set_option maxHeartbeats 1000000 in
theorem llStoreW {pe pw pm px : Nat} {w : World} {F : Nat → Prop} {o : Ll} {f : Nat → Value} {mb : Nat → Option Nat} {m : Mm} {t : Nat} {p x v : Int} (h : LlS pe pw pm px w F o f mb m) (ht : t < 16) (hp : 0 ≤ p ∧ p < 64) (hx : o.links t p = some x) (hv : 0 ≤ v ∧ v < two32) :
    Calls Tryz.prog 162 #[.pointer (some ⟨pe, 0, none⟩), .pointer (some ⟨pw, 0, none⟩), .int .i64 t, .int .i64 p, .int .u64 v] w (LlP pe pm px w F (llLink o t p none) (m.acc 2 p x (llNext x v)) (m.tell 2 p x)) := by
  obtain ⟨hO, hp0, hm, hpz, ⟨n1, n2, n3, n4, n5⟩, h64, hbd⟩ := h
  have c0 := hO.row.cell (i := 0) (by omega)
  rw [hO.f0] at c0
  have c2 := hO.row.cell (i := 2 + t) (by omega)
  rw [hO.fm t ht] at c2
  have hz := hO.row.lt
  have ht' : (t : Int) < 16 := by omega
  have hml := hm.lt
  have n6 : pe ≠ pm := fun e => n1 (e ▸ hO.own)
  have n7 : pe ≠ px := fun e => n2 (e ▸ hO.own)
  have hwp : IntKind.i64.wrap p = p := wrap_i64 (by omega) (by omega)
  have hlt := hO.lt
  obtain ⟨lv, hlv, hlk0⟩ := hO.look ht p
  rcases hmb : mb t with _ | g
  · rw [hO.fno t ht hmb p] at hx
    cases hx
  obtain ⟨b1, mm, b2, b3⟩ := hO.fso t g ht hmb
  rw [hmb] at c2 hlk0
  rcases hlv with ⟨a1, _⟩ | ⟨x', q, a1, rfl, a4, _⟩
  · rw [a1] at hx
    cases hx
  have hxx : x' = x := by rw [a1] at hx; cases hx; rfl
  subst hxx
  have q0 : w.cell? ⟨q, 0, none⟩ = some (.int .u64 x') := cell_of_row w q 0 _ _ _ a4
  have hqz := (Array.getElem?_eq_some_iff.1 a4).1
  have hgz := b2.lt
  have hgw : g ≠ pw := fun e => n3 (e ▸ b1)
  have hgm : g ≠ pm := fun e => n1 (e ▸ b1)
  have hgx : g ≠ px := fun e => n2 (e ▸ b1)
  have hgp : g ≠ pe := by
    rintro rfl
    obtain ⟨cc, hc, _⟩ := hO.row
    obtain ⟨es, cl, e1, _⟩ := b2
    rw [hc] at e1
    cases e1
  have hmg : IMapD (w.alloc (.cells #[.int .i64 0, .int .u64 0, .slice none 0 0] 50)) g .i64 mm := b2.of_block (heap_alloc_old _ _ hgz)
  have hlk := hlk0 (w.alloc (.cells #[.int .i64 0, .int .u64 0, .slice none 0 0] 50)) (fun k hk => heap_alloc_old _ _ (hlt k hk))
  unfold llPtr at hlk
  obtain ⟨xb0, xb1⟩ := hbd t p x' hx
  have NN := llNextW x' v ⟨xb0, xb1⟩ hv
  have hgF := b1
  have HMB := hide hmb
  have HO := hide hO
  have HM := hide hm
  have HMG := hide b2
  have HNN := hide NN
  have HT := hide (tell2_01 m p x')
  clear hO hm hbd b2 b3 a1 a4 hx hlk0 hmb NN h64
  go_enter Tryz.func162, Tryz.ntmps162
  go_wp2_with (at_delete; (refine wpList_delete_imapD _ rfl _ _ 81 3 rfl 247 .i64 Tryz.underlying81 Tryz.underlying3 g mm rfl hmg p rfl ?_; intro w4 hm4 hg4 hz4))
  have hk4 : Keep (fun k => k < (w.alloc (.cells #[.int .i64 0, .int .u64 0, .slice none 0 0] 50)).heap.size ∧ k ≠ g) (w.alloc (.cells #[.int .i64 0, .int .u64 0, .slice none 0 0] 50)) w4 := (Keep.refl _ _).grown hg4 (fun k hk => hk.1) (fun k hk hh => by cases hk; exact hh.2 rfl)
  have hkw4 : Keep (fun k => k < w.heap.size ∧ k ≠ g) w w4 := ((Keep.refl (fun k => k < w.heap.size ∧ k ≠ g) w).alloc (fun k hk => hk.1) _).trans (hk4.mono (fun k hk => ⟨by simp; omega, hk.2⟩))
  have s0 : w4.cell? ⟨pw, 0, none⟩ = some (.pointer (some ⟨pm, 0, none⟩)) := (hkw4.cell (p := ⟨pw, 0, none⟩) ⟨hpz, hgw.symm⟩).trans hp0
  have s1 : w4.cell? ⟨pe, 0, none⟩ = some (.int .i64 0) := (hkw4.cell (p := ⟨pe, 0, none⟩) ⟨hz, hgp.symm⟩).trans c0
  have hA4 : w4.heap[w.heap.size]? = some (.cells #[.int .i64 0, .int .u64 0, .slice none 0 0] 50 (0, 0)) := (hk4.block w.heap.size ⟨by simp, by omega⟩).trans (heap_alloc_new _ _)
  have hsz4 : w.heap.size + 1 ≤ w4.heap.size := by have := hk4.size; simpa using this
  have hM4 : MemAt w4.drew pm px .nilFunc m := (HM.out.of_blocks (hkw4.block _ ⟨hml.1, hgm.symm⟩) (hkw4.block _ ⟨hml.2, hgx.symm⟩)).of_blocks rfl rfl
  have HM4 := hide hm4
  have HKW4 := hide hkw4
  have HA4 := hide hA4
  have HMM4 := hide hM4
  clear hm4 hg4 hk4 hkw4 hA4 hM4 hmg c2 hlk q0
  have hmz4 : pw < w4.heap.size := by omega
  have hez4 : pe < w4.heap.size := by omega
  refine wp_region_seq (fun Y => Y.cell? ⟨pw, 0, none⟩ = some (.pointer (some ⟨pm, 0, none⟩)) ∧ Y.cell? ⟨pe, 0, none⟩ = some (.int .i64 0)) (.take 0 <| .take 1 <| .take 2 <| .take 3 <| .take 4 <| .take 5 <| .take 6 <| .take 7 <| .take 8 <| .take 9 <| .take 10 <| .take 11 <| .take 12 <| .run 13 <| .run 14 <| .run 15 <| .run 16 <| .done) (by kernel_rfl) (by kernel_rfl) (by kernel_rfl) (by refine ⟨?_, ?_⟩ <;> go_simp) ?_
  repeat (refine seq_take (v := ?_) rfl (by rfl) ?_ ?_; rotate_left; (focus (intro wS hS; obtain ⟨s0, s1⟩ := hS; go_simp; exact rfl)); simp only [Act.put, List.setIfInBounds_toArray, List.set_cons_zero, List.set_cons_succ])
  (refine seq_run rfl (by rfl) (fun K hK => ?_); go_simp)
  refine (HNN.out _).mono ?_
  rintro e w5 ⟨rfl, rfl⟩
  refine hK _ _ (by refine ⟨?_, ?_⟩ <;> go_simp) ?_
  clear hK K
  have N2 := memSwap pm px p x' (llNext x' v) m w4.drew HMM4.out
  generalize llNext x' v = nx at *
  (refine seq_run rfl (by rfl) (fun K hK => ?_); go_simp)
  refine N2.mono ?_
  rintro e w5 ⟨d, rfl, rfl, hm5, hk5⟩
  have hk5' : Keep (fun k => k ≠ pm ∧ k ≠ px ∧ k < w4.heap.size) w4 w5 := ((Keep.refl _ w4).drew).trans hk5
  have s05 := (hk5'.cell (p := ⟨pw, 0, none⟩) ⟨n4, n5, hmz4⟩).trans s0
  have s15 := (hk5'.cell (p := ⟨pe, 0, none⟩) ⟨n6, n7, hez4⟩).trans s1
  have hA5 := (hk5'.block w.heap.size ⟨by omega, by omega, by omega⟩).trans HA4.out
  have hsz5 := hk5'.size
  refine hK _ _ ⟨s05, s15⟩ ?_
  have HM5 := hide hm5
  have HK5 := hide hk5'
  have HA5 := hide hA5
  clear hK K N2 hk5 hm5 hk5' s0 s1
  have N3 := llYesW (decide (m.tell 2 p x' = 1)) w5
  rw [HT.out] at N3
  (refine seq_run rfl (by rfl) (fun K hK => ?_); go_simp)
  refine N3.mono ?_
  rintro e w6 ⟨rfl, hb6⟩
  have s06 := (hb6.cell (p := ⟨pw, 0, none⟩) (by show pw < w5.heap.size; omega)).trans s05
  have s16 := (hb6.cell (p := ⟨pe, 0, none⟩) (by show pe < w5.heap.size; omega)).trans s15
  have hA6 := (hb6.block w.heap.size (by omega)).trans HA5.out
  obtain ⟨a0, a1, a2, az⟩ := cells3 hA6
  have af0 := frozen_of_row w6 w.heap.size 0 _ _ hA6
  have af1 := frozen_of_row w6 w.heap.size 1 _ _ hA6
  have af2 := frozen_of_row w6 w.heap.size 2 _ _ hA6
  have hsz6 := hb6.size
  refine hK _ _ ⟨s06, s16⟩ ?_
  have HB6 := hide hb6
  have hew : pe ≠ w.heap.size := by omega
  have hpww : pw ≠ w.heap.size := by omega
  have hmz6 : pw < w6.heap.size := by omega
  have hez6 : pe < w6.heap.size := by omega
  clear hK K N3 hb6 s05 s15
  (refine seq_run rfl (by rfl) (fun K hK => ?_); go_simp)
  refine hK _ _ (by refine ⟨?_, ?_⟩ <;> go_simp) ?_
  clear hK K
  refine seq_nil ?_
  go_wp2
  refine bodyPost_ret (v := .agg #[.int .i64 0, .int .u64 (m.tell 2 p x'), .slice none 0 0]) (by simp [results, Tryz.results162, go_sem, *]) rfl ?_
  have hkf : Keep (fun k => k ≠ w.heap.size) w6 (((w6.setCell ⟨w.heap.size, 0, none⟩ (.int .i64 0)).setCell ⟨w.heap.size, 1, none⟩ (.int .u64 (m.tell 2 p x'))).setCell ⟨w.heap.size, 2, none⟩ (.slice none 0 0)) := (((Keep.refl _ w6).setCell (by simp) _).setCell (by simp) _).setCell (by simp) _
  have hsf := hkf.size
  have hk46 : Keep (fun k => k < w4.heap.size ∧ k ≠ pm ∧ k ≠ px ∧ k ≠ w.heap.size) w4 (((w6.setCell ⟨w.heap.size, 0, none⟩ (.int .i64 0)).setCell ⟨w.heap.size, 1, none⟩ (.int .u64 (m.tell 2 p x'))).setCell ⟨w.heap.size, 2, none⟩ (.slice none 0 0)) := ((HK5.out.mono (fun k hk => ⟨hk.2.1, hk.2.2.1, hk.1⟩)).trans (Keep.of_below HB6.out (fun k hk => by omega))).trans (hkf.mono (fun k hk => hk.2.2.2))
  have hgl := HO.out.lt g hgF
  have hkW : Keep (fun k => k < w.heap.size ∧ k ≠ g ∧ k ≠ pm ∧ k ≠ px) w (((w6.setCell ⟨w.heap.size, 0, none⟩ (.int .i64 0)).setCell ⟨w.heap.size, 1, none⟩ (.int .u64 (m.tell 2 p x'))).setCell ⟨w.heap.size, 2, none⟩ (.slice none 0 0)) := (HKW4.out.mono (fun k hk => ⟨hk.1, hk.2.1⟩)).trans (hk46.mono (fun k hk => ⟨by omega, hk.2.2.1, hk.2.2.2, by omega⟩))
  refine ⟨rfl, ⟨f, mb, (HO.out.del ht HMB.out HMG.out (HM4.out.of_block (hk46.block g ⟨by omega, hgm, hgx, by omega⟩)) (hkW.mono (fun k hk => ⟨hlt k hk.1, hk.2, fun e => n1 (e ▸ hk.1), fun e => n2 (e ▸ hk.1)⟩))).more (fun k hk => ⟨Or.inl hk, Nat.lt_of_lt_of_le (hlt k hk) hkW.size⟩) (fun k hk => hk.2)⟩, ?_, hkW.mono (fun k hk => ⟨hk.1, fun e => hk.2.1 (e ▸ hgF), hk.2.2⟩)⟩
  have hml5 := HM5.out.lt
  exact (HM5.out.of_blocks (HB6.out.block _ hml5.1) (HB6.out.block _ hml5.2)).of_blocks (hkf.block _ (by omega)) (hkf.block _ (by omega))
end Go.Proofs.YtlfingcmekifkaaGreat

namespace Go.Proofs.YtlfingcmekifkaaGreat
open Go.RowKit
theorem kcellc {B pm px : Nat} {W Y : World} (h : Keep (fun k => k < B ∧ k ≠ pm ∧ k ≠ px) W Y) : ∀ b o, b < B → b ≠ pm → b ≠ px → Y.cell? ⟨b, o, none⟩ = W.cell? ⟨b, o, none⟩ := fun b o h1 h2 h3 => h.cell (p := ⟨b, o, none⟩) ⟨h1, h2, h3⟩
structure LlC (w : World) (pe pm px bc bs bt bp t : Nat) (c : Cl) : Prop where
  call : w.heap[bc]? = some (.cells #[.int .i64 c.thread, .int .i64 c.obj, .int .i64 c.kind, .int .u64 c.a, .int .u64 c.b, .int .u64 c.c] 48 (0, 0))
  self : w.heap[bs]? = some (.cells #[.pointer (some ⟨pe, 0, none⟩)] 55 (0, 0))
  thread : w.heap[bt]? = some (.cells #[.int .i64 t] 3 (0, 0))
  place : w.heap[bp]? = some (.cells #[.int .i64 c.a] 3 (0, 0))
theorem LlC.keep {w w' : World} {pe pm px bc bs bt bp t : Nat} {c : Cl} {S : Nat → Prop} (h : LlC w pe pm px bc bs bt bp t c) (hk : Keep S w w') (h1 : S bc) (h2 : S bs) (h3 : S bt) (h4 : S bp) : LlC w' pe pm px bc bs bt bp t c :=
  ⟨(hk.block _ h1).trans h.call, (hk.block _ h2).trans h.self, (hk.block _ h3).trans h.thread, (hk.block _ h4).trans h.place⟩
theorem LlS.alloc {pe pw pm px : Nat} {w : World} {F : Nat → Prop} {o : Ll} {f : Nat → Value} {mb : Nat → Option Nat} {m : Mm} (h : LlS pe pw pm px w F o f mb m) (b : Obj) : LlS pe pw pm px (w.alloc b) F o f mb m := by
  have hk : Keep (fun k => k < w.heap.size) w (w.alloc b) := (Keep.refl _ w).alloc (fun k hk => hk) _
  exact ⟨h.at_.keep hk h.at_.lt, (hk.cell (p := ⟨pw, 0, none⟩) h.lt).trans h.ptr, h.mem.of_blocks (hk.block _ h.mem.lt.1) (hk.block _ h.mem.lt.2), Nat.lt_of_lt_of_le h.lt hk.size, h.ne, h.w64, h.bd⟩
theorem LlP.wrap {pe pm px : Nat} {w w1 : World} {F : Nat → Prop} {o' : Ll} {m' : Mm} {val : Int} {e : Ending} {b : Obj} (h : LlP pe pm px (w.alloc b) F o' m' val e w1) (hF : ∀ k, F k → k < w.heap.size) (hm : pm < w.heap.size ∧ px < w.heap.size) {w2 : World} (hk : Keep (fun k => k ≠ w.heap.size) w1 w2) (hs : w2.heap.size = w1.heap.size) :
    LlP pe pm px w F o' m' val (.returned (.agg #[.int .i64 0, .int .u64 val, .slice none 0 0])) w2 := by
  obtain ⟨rfl, ⟨f, mb, h2⟩, h3, h4⟩ := h
  have hsz : (w.alloc b).heap.size = w.heap.size + 1 := by simp
  have h5 := h2.keep hk (fun k hk hh => by
    subst hh
    rcases hk.1 with h | h
    · have := hF _ h; omega
    · omega)
  refine ⟨rfl, ⟨f, mb, h5.more (fun k hk => ⟨?_, by omega⟩) (fun k hk => hk.2)⟩, h3.of_blocks (hk.block _ (by omega)) (hk.block _ (by omega)), ?_⟩
  · rcases hk.1 with h | h
    · exact .inl h
    · exact .inr (by omega)
  · exact (((Keep.refl (fun k => k < w.heap.size) w).alloc (fun k hk => hk) b).mono (fun k hk => hk.1)).trans ((h4.mono (fun k hk => ⟨by omega, hk.2⟩)).trans (hk.mono (fun k hk => by omega)))
set_option maxRecDepth 100000 in
set_option maxHeartbeats 1000000 in
theorem llGo0W {pe pw pm px bc bs bt bp : Nat} {w : World} {F : Nat → Prop} {o : Ll} {f : Nat → Value} {mb : Nat → Option Nat} {m : Mm} {t : Nat} {c : Cl} (h : LlS pe pw pm px w F o f mb m) (hC : LlC w pe pm px bc bs bt bp t c) (ht : t < 16) (hp : 0 ≤ c.a ∧ c.a < 64) (hk : c.kind = 0) :
    Calls Tryz.prog 160 #[.pointer (some ⟨pw, 0, none⟩), .pointer (some ⟨bc, 0, none⟩), .pointer (some ⟨bs, 0, none⟩), .pointer (some ⟨bt, 0, none⟩), .pointer (some ⟨bp, 0, none⟩)] w (LlP pe pm px w F (llLink o t c.a (some (m.tell 0 c.a 0))) (m.acc 0 c.a 0 0) (m.tell 0 c.a 0 % two32)) := by
  obtain ⟨x0, x1, x2, x3, x4, x5, xz⟩ := cells6 hC.call
  have xs := cell_of_row w bs 0 _ _ _ hC.self
  have xt := cell_of_row w bt 0 _ _ _ hC.thread
  have xp := cell_of_row w bp 0 _ _ _ hC.place
  have xsz := (Array.getElem?_eq_some_iff.1 hC.self).1
  have xtz := (Array.getElem?_eq_some_iff.1 hC.thread).1
  have xpz := (Array.getElem?_eq_some_iff.1 hC.place).1
  have hml := h.mem.lt
  have hlt := h.at_.lt
  have hS1 := h.alloc (.cells #[.int .i64 0, .int .u64 0, .slice none 0 0] 50)
  rw [hk] at x2
  have N := llLoadW (p := c.a) hS1 ht hp
  have hS1' := hide hS1
  have HH := hide h
  have HCC := hide hC
  clear hS1 h hC hk
  go_enter Tryz.func160, Tryz.ntmps160
  go_wp2_with fail
  refine N.mono ?_
  rintro e w1 hQ
  obtain ⟨rfl, hQ⟩ := (show e = _ ∧ LlP pe pm px (w.alloc (.cells #[.int .i64 0, .int .u64 0, .slice none 0 0] 50)) F _ _ _ e w1 from ⟨hQ.1, hQ⟩)
  have hS1 := hS1'.out
  have h := HH.out
  have hC := HCC.out
  clear hS1' N
  have hA1 := (hQ.2.2.2.block w.heap.size ⟨by simp, fun hF => by have := hlt _ hF; omega, by omega, by omega⟩).trans (heap_alloc_new _ _)
  obtain ⟨a0, a1, a2, az⟩ := cells3 hA1
  have af0 := frozen_of_row w1 w.heap.size 0 _ _ hA1
  have af1 := frozen_of_row w1 w.heap.size 1 _ _ hA1
  have af2 := frozen_of_row w1 w.heap.size 2 _ _ hA1
  have HQ := hide hQ
  have HLT := hide hlt
  clear hQ hA1 hS1 hlt h hC
  go_wp2
  refine bodyPost_ret (v := .agg #[.int .i64 0, .int .u64 (m.tell 0 c.a 0 % two32), .slice none 0 0]) (by simp [results, Tryz.results160, go_sem, *]) rfl ?_
  exact HQ.out.wrap HLT.out hml ((((Keep.refl _ w1).setCell (by simp) _).setCell (by simp) _).setCell (by simp) _) (by simp)
set_option maxRecDepth 100000 in
set_option maxHeartbeats 1000000 in
theorem llGo1W {pe pw pm px bc bs bt bp : Nat} {w : World} {F : Nat → Prop} {o : Ll} {f : Nat → Value} {mb : Nat → Option Nat} {m : Mm} {t : Nat} {c : Cl} {x : Int} (h : LlS pe pw pm px w F o f mb m) (hC : LlC w pe pm px bc bs bt bp t c) (ht : t < 16) (hp : 0 ≤ c.a ∧ c.a < 64) (hk : c.kind = 1) (hx : o.links t c.a = some x) (hb : 0 ≤ c.b ∧ c.b < two32) :
    Calls Tryz.prog 160 #[.pointer (some ⟨pw, 0, none⟩), .pointer (some ⟨bc, 0, none⟩), .pointer (some ⟨bs, 0, none⟩), .pointer (some ⟨bt, 0, none⟩), .pointer (some ⟨bp, 0, none⟩)] w (LlP pe pm px w F (llLink o t c.a none) (m.acc 2 c.a x (llNext x c.b)) (m.tell 2 c.a x)) := by
  obtain ⟨x0, x1, x2, x3, x4, x5, xz⟩ := cells6 hC.call
  have xs := cell_of_row w bs 0 _ _ _ hC.self
  have xt := cell_of_row w bt 0 _ _ _ hC.thread
  have xp := cell_of_row w bp 0 _ _ _ hC.place
  have xsz := (Array.getElem?_eq_some_iff.1 hC.self).1
  have xtz := (Array.getElem?_eq_some_iff.1 hC.thread).1
  have xpz := (Array.getElem?_eq_some_iff.1 hC.place).1
  have hml := h.mem.lt
  have hlt := h.at_.lt
  have hS1 := h.alloc (.cells #[.int .i64 0, .int .u64 0, .slice none 0 0] 50)
  rw [hk] at x2
  have N := llStoreW (p := c.a) hS1 ht hp hx hb
  have hS1' := hide hS1
  have HH := hide h
  have HCC := hide hC
  clear hS1 h hC hk
  go_enter Tryz.func160, Tryz.ntmps160
  go_wp2_with fail
  refine N.mono ?_
  rintro e w1 hQ
  obtain ⟨rfl, hQ⟩ := (show e = _ ∧ LlP pe pm px (w.alloc (.cells #[.int .i64 0, .int .u64 0, .slice none 0 0] 50)) F _ _ _ e w1 from ⟨hQ.1, hQ⟩)
  have hS1 := hS1'.out
  have h := HH.out
  have hC := HCC.out
  clear hS1' N
  have hA1 := (hQ.2.2.2.block w.heap.size ⟨by simp, fun hF => by have := hlt _ hF; omega, by omega, by omega⟩).trans (heap_alloc_new _ _)
  obtain ⟨a0, a1, a2, az⟩ := cells3 hA1
  have af0 := frozen_of_row w1 w.heap.size 0 _ _ hA1
  have af1 := frozen_of_row w1 w.heap.size 1 _ _ hA1
  have af2 := frozen_of_row w1 w.heap.size 2 _ _ hA1
  have HQ := hide hQ
  have HLT := hide hlt
  clear hQ hA1 hS1 hlt h hC
  go_wp2
  refine bodyPost_ret (v := .agg #[.int .i64 0, .int .u64 (m.tell 2 c.a x), .slice none 0 0]) (by simp [results, Tryz.results160, go_sem, *]) rfl ?_
  exact HQ.out.wrap HLT.out hml ((((Keep.refl _ w1).setCell (by simp) _).setCell (by simp) _).setCell (by simp) _) (by simp)
set_option maxRecDepth 100000 in
set_option maxHeartbeats 1000000 in
theorem llGo2W {pe pw pm px bc bs bt bp : Nat} {w : World} {F : Nat → Prop} {o : Ll} {f : Nat → Value} {mb : Nat → Option Nat} {m : Mm} {t : Nat} {c : Cl} {x : Int} (h : LlS pe pw pm px w F o f mb m) (hC : LlC w pe pm px bc bs bt bp t c) (ht : t < 16) (hp : 0 ≤ c.a ∧ c.a < 64) (hk : c.kind = 2) (hx : o.links t c.a = some x)
    (hne : (bc ≠ pm ∧ bc ≠ px) ∧ (bs ≠ pm ∧ bs ≠ px) ∧ (bt ≠ pm ∧ bt ≠ px) ∧ (bp ≠ pm ∧ bp ≠ px)) :
    Calls Tryz.prog 160 #[.pointer (some ⟨pw, 0, none⟩), .pointer (some ⟨bc, 0, none⟩), .pointer (some ⟨bs, 0, none⟩), .pointer (some ⟨bt, 0, none⟩), .pointer (some ⟨bp, 0, none⟩)] w (LlP pe pm px w F o (m.acc 0 c.a 0 0) (if m.tell 0 c.a 0 = x then 1 else 0)) := by
  obtain ⟨x0, x1, x2, x3, x4, x5, xz⟩ := cells6 hC.call
  have xs := cell_of_row w bs 0 _ _ _ hC.self
  have xt := cell_of_row w bt 0 _ _ _ hC.thread
  have xp := cell_of_row w bp 0 _ _ _ hC.place
  have xsz := (Array.getElem?_eq_some_iff.1 hC.self).1
  have xtz := (Array.getElem?_eq_some_iff.1 hC.thread).1
  have xpz := (Array.getElem?_eq_some_iff.1 hC.place).1
  have hml := h.mem.lt
  have hlt := h.at_.lt
  have hS1 := h.alloc (.cells #[.int .i64 0, .int .u64 0, .slice none 0 0] 50)
  obtain ⟨⟨b1, b2⟩, ⟨b3, b4⟩, ⟨b5, b6⟩, b7, b8⟩ := hne
  rw [hk] at x2
  have e0 := h.at_.row.cell (i := 0) (by omega)
  rw [h.at_.f0] at e0
  have e2 := h.at_.row.cell (i := 2 + t) (by omega)
  rw [h.at_.fm t ht] at e2
  have hez := h.at_.row.lt
  have ht' : (t : Int) < 16 := by omega
  have hp0 := h.ptr
  have hpz := h.lt
  have hwp : IntKind.i64.wrap c.a = c.a := wrap_i64 (by omega) (by omega)
  obtain ⟨n1, n2, n3, n4, n5⟩ := h.ne
  have n6 : pe ≠ pm := fun e => n1 (e ▸ h.at_.own)
  have n7 : pe ≠ px := fun e => n2 (e ▸ h.at_.own)
  obtain ⟨lv, hlv, hlk0⟩ := h.at_.look ht c.a
  rcases hlv with ⟨a1, _⟩ | ⟨x', q, a1, rfl, a4, hqF⟩
  · rw [a1] at hx
    cases hx
  have hxx : x' = x := by rw [a1] at hx; cases hx; rfl
  subst hxx
  have q0 : w.cell? ⟨q, 0, none⟩ = some (.int .u64 x') := cell_of_row w q 0 _ _ _ a4
  have hqz := (Array.getElem?_eq_some_iff.1 a4).1
  have hqm : q ≠ pm := fun e => n1 (e ▸ hqF)
  have hqx : q ≠ px := fun e => n2 (e ▸ hqF)
  have HLK : Hid (∀ Y, Keep (fun k => k < w.heap.size ∧ k ≠ pm ∧ k ≠ px) (w.alloc (.cells #[.int .i64 0, .int .u64 0, .slice none 0 0] 50)) Y → (Instr.lookup 81 (.map (mb t)) (.int .i64 c.a) false).run Tryz.prog Y = .ok (.pointer (some ⟨q, 0, none⟩)) Y) := hide (fun Y hY => hlk0 Y (fun k hk => (hY.block k ⟨hlt k hk, fun e => n1 (e ▸ hk), fun e => n2 (e ▸ hk)⟩).trans (heap_alloc_old _ _ (hlt k hk))))
  have N := memRead pm px c.a m (w.alloc (.cells #[.int .i64 0, .int .u64 0, .slice none 0 0] 50)).drew (hS1.mem.of_blocks rfl rfl)
  have hal : w.heap.size < (w.alloc (.cells #[.int .i64 0, .int .u64 0, .slice none 0 0] 50)).heap.size := by simp
  have hxz : pm ≠ w.heap.size ∧ px ≠ w.heap.size := ⟨by omega, by omega⟩
  have HH := hide h
  have HLT := hide hlt
  clear hS1 h hC hk hlk0 a1 a4 hx hlt
  by_cases hq : m.tell 0 c.a 0 = x'
  · rw [if_pos hq]
    have d0 : (m.tell 0 c.a 0 == x') = true := by simpa using hq
    clear hq
    go_enter Tryz.func160, Tryz.ntmps160
    go_wp2
    refine wp_region_seq (fun Y => Keep (fun k => k < w.heap.size ∧ k ≠ pm ∧ k ≠ px) (w.alloc (.cells #[.int .i64 0, .int .u64 0, .slice none 0 0] 50)) Y) (.take 0 <| .take 1 <| .take 2 <| .take 3 <| .take 4 <| .take 5 <| .take 6 <| .take 7 <| .take 8 <| .take 9 <| .take 11 <| .take 12 <| .take 13 <| .take 14 <| .take 15 <| .take 16 <| .take 17 <| .take 18 <| .take 19 <| .take 20 <| .run 10 <| .take 21 <| .run 22 <| .run 23 <| .done) (by kernel_rfl) (by kernel_rfl) (by kernel_rfl) ((Keep.refl _ _).drew) ?_
    repeat (refine seq_take (v := ?_) rfl (by rfl) ?_ ?_; rotate_left; (focus (intro wS hS; have hlk := HLK.out wS hS; replace hS := kcellc hS; go_simp; exact rfl)); simp only [Act.put, List.setIfInBounds_toArray, List.set_cons_zero, List.set_cons_succ])
    (refine seq_run rfl (by rfl) (fun K hK => ?_); go_simp)
    refine N.mono ?_
    rintro e w1 ⟨rfl, hm1, hk1⟩
    have hk1' : Keep (fun k => k < w.heap.size ∧ k ≠ pm ∧ k ≠ px) (w.alloc (.cells #[.int .i64 0, .int .u64 0, .slice none 0 0] 50)) w1 := ((Keep.refl _ _).drew).trans (hk1.mono (fun k hk => ⟨hk.2.1, hk.2.2, by show k < (w.alloc (.cells #[.int .i64 0, .int .u64 0, .slice none 0 0] 50)).heap.size; simp; omega⟩))
    have hA1 := (hk1.block w.heap.size ⟨by omega, by omega, by show w.heap.size < (w.alloc (.cells #[.int .i64 0, .int .u64 0, .slice none 0 0] 50)).heap.size; simp⟩).trans (heap_alloc_new _ _)
    have hz1 : w.heap.size + 1 ≤ w1.heap.size := by have := hk1.size; simpa using this
    refine hK _ _ hk1' ?_
    have HM1 := hide hm1
    have HA1 := hide hA1
    have HK1 := hide hk1'
    clear hK K N hk1 hm1 hk1' hA1
    repeat (refine seq_take (v := ?_) rfl (by rfl) ?_ ?_; rotate_left; (focus (intro wS hS; have hlk := HLK.out wS hS; replace hS := kcellc hS; go_simp; exact rfl)); simp only [Act.put, List.setIfInBounds_toArray, List.set_cons_zero, List.set_cons_succ])
    (refine seq_run rfl (by rfl) (fun K hK => ?_); go_simp)
    refine (llYesW _ w1).mono ?_
    rintro e w2 ⟨rfl, hb2⟩
    have hk2 : Keep (fun k => k < w.heap.size ∧ k ≠ pm ∧ k ≠ px) (w.alloc (.cells #[.int .i64 0, .int .u64 0, .slice none 0 0] 50)) w2 := HK1.out.trans (Keep.of_below hb2 (fun k hk => by omega))
    have hA2 := (hb2.block w.heap.size (by omega)).trans HA1.out
    obtain ⟨a0, a1, a2, az⟩ := cells3 hA2
    have af0 := frozen_of_row w2 w.heap.size 0 _ _ hA2
    have af1 := frozen_of_row w2 w.heap.size 1 _ _ hA2
    have af2 := frozen_of_row w2 w.heap.size 2 _ _ hA2
    refine hK _ _ hk2 ?_
    have HB2 := hide hb2
    have HK2 := hide hk2
    clear hK K hb2 hk2 hA2
    (refine seq_run rfl (by rfl) (fun K hK => ?_); go_simp)
    refine hK _ _ ((((HK2.out.setCell (fun h => Nat.lt_irrefl _ h.1) _).setCell (fun h => Nat.lt_irrefl _ h.1) _).setCell (fun h => Nat.lt_irrefl _ h.1) _)) ?_
    clear hK K
    refine seq_nil ?_
    go_wp2
    refine bodyPost_ret (v := .agg #[.int .i64 0, .int .u64 1, .slice none 0 0]) (by simp [results, Tryz.results160, go_sem, *]) rfl ?_
    have hkf : Keep (fun k => k ≠ w.heap.size) w2 (((w2.setCell ⟨w.heap.size, 0, none⟩ (.int .i64 0)).setCell ⟨w.heap.size, 1, none⟩ (.int .u64 1)).setCell ⟨w.heap.size, 2, none⟩ (.slice none 0 0)) := (((Keep.refl _ w2).setCell (by simp) _).setCell (by simp) _).setCell (by simp) _
    have hkW : Keep (fun k => k < w.heap.size ∧ k ≠ pm ∧ k ≠ px) w (((w2.setCell ⟨w.heap.size, 0, none⟩ (.int .i64 0)).setCell ⟨w.heap.size, 1, none⟩ (.int .u64 1)).setCell ⟨w.heap.size, 2, none⟩ (.slice none 0 0)) := (((Keep.refl (fun k => k < w.heap.size) w).alloc (fun k hk => hk) (.cells #[.int .i64 0, .int .u64 0, .slice none 0 0] 50)).mono (fun k hk => hk.1)).trans (HK2.out.trans (hkf.mono (fun k hk => by omega)))
    have hlt := HLT.out
    have h5 := HH.out.at_.keep hkW (fun k hk => ⟨hlt k hk, fun e => n1 (e ▸ hk), fun e => n2 (e ▸ hk)⟩)
    have hm1 := HM1.out.lt
    exact ⟨rfl, ⟨f, mb, h5.more (fun k hk => ⟨Or.inl hk, Nat.lt_of_lt_of_le (hlt k hk) hkW.size⟩) (fun k hk => hk.2)⟩, (HM1.out.of_blocks (HB2.out.block _ hm1.1) (HB2.out.block _ hm1.2)).of_blocks (hkf.block _ (by omega)) (hkf.block _ (by omega)), hkW.mono (fun k hk => ⟨hk.1, hk.2.2⟩)⟩
  · rw [if_neg hq]
    have d0 : (m.tell 0 c.a 0 == x') = false := by simpa using hq
    clear hq
    go_enter Tryz.func160, Tryz.ntmps160
    go_wp2
    refine wp_region_seq (fun Y => Keep (fun k => k < w.heap.size ∧ k ≠ pm ∧ k ≠ px) (w.alloc (.cells #[.int .i64 0, .int .u64 0, .slice none 0 0] 50)) Y) (.take 0 <| .take 1 <| .take 2 <| .take 3 <| .take 4 <| .take 5 <| .take 6 <| .take 7 <| .take 8 <| .take 9 <| .take 11 <| .take 12 <| .take 13 <| .take 14 <| .take 15 <| .take 16 <| .take 17 <| .take 18 <| .take 19 <| .take 20 <| .run 10 <| .take 21 <| .run 22 <| .run 23 <| .done) (by kernel_rfl) (by kernel_rfl) (by kernel_rfl) ((Keep.refl _ _).drew) ?_
    repeat (refine seq_take (v := ?_) rfl (by rfl) ?_ ?_; rotate_left; (focus (intro wS hS; have hlk := HLK.out wS hS; replace hS := kcellc hS; go_simp; exact rfl)); simp only [Act.put, List.setIfInBounds_toArray, List.set_cons_zero, List.set_cons_succ])
    (refine seq_run rfl (by rfl) (fun K hK => ?_); go_simp)
    refine N.mono ?_
    rintro e w1 ⟨rfl, hm1, hk1⟩
    have hk1' : Keep (fun k => k < w.heap.size ∧ k ≠ pm ∧ k ≠ px) (w.alloc (.cells #[.int .i64 0, .int .u64 0, .slice none 0 0] 50)) w1 := ((Keep.refl _ _).drew).trans (hk1.mono (fun k hk => ⟨hk.2.1, hk.2.2, by show k < (w.alloc (.cells #[.int .i64 0, .int .u64 0, .slice none 0 0] 50)).heap.size; simp; omega⟩))
    have hA1 := (hk1.block w.heap.size ⟨by omega, by omega, by show w.heap.size < (w.alloc (.cells #[.int .i64 0, .int .u64 0, .slice none 0 0] 50)).heap.size; simp⟩).trans (heap_alloc_new _ _)
    have hz1 : w.heap.size + 1 ≤ w1.heap.size := by have := hk1.size; simpa using this
    refine hK _ _ hk1' ?_
    have HM1 := hide hm1
    have HA1 := hide hA1
    have HK1 := hide hk1'
    clear hK K N hk1 hm1 hk1' hA1
    repeat (refine seq_take (v := ?_) rfl (by rfl) ?_ ?_; rotate_left; (focus (intro wS hS; have hlk := HLK.out wS hS; replace hS := kcellc hS; go_simp; exact rfl)); simp only [Act.put, List.setIfInBounds_toArray, List.set_cons_zero, List.set_cons_succ])
    (refine seq_run rfl (by rfl) (fun K hK => ?_); go_simp)
    refine (llYesW _ w1).mono ?_
    rintro e w2 ⟨rfl, hb2⟩
    have hk2 : Keep (fun k => k < w.heap.size ∧ k ≠ pm ∧ k ≠ px) (w.alloc (.cells #[.int .i64 0, .int .u64 0, .slice none 0 0] 50)) w2 := HK1.out.trans (Keep.of_below hb2 (fun k hk => by omega))
    have hA2 := (hb2.block w.heap.size (by omega)).trans HA1.out
    obtain ⟨a0, a1, a2, az⟩ := cells3 hA2
    have af0 := frozen_of_row w2 w.heap.size 0 _ _ hA2
    have af1 := frozen_of_row w2 w.heap.size 1 _ _ hA2
    have af2 := frozen_of_row w2 w.heap.size 2 _ _ hA2
    refine hK _ _ hk2 ?_
    have HB2 := hide hb2
    have HK2 := hide hk2
    clear hK K hb2 hk2 hA2
    (refine seq_run rfl (by rfl) (fun K hK => ?_); go_simp)
    refine hK _ _ ((((HK2.out.setCell (fun h => Nat.lt_irrefl _ h.1) _).setCell (fun h => Nat.lt_irrefl _ h.1) _).setCell (fun h => Nat.lt_irrefl _ h.1) _)) ?_
    clear hK K
    refine seq_nil ?_
    go_wp2
    refine bodyPost_ret (v := .agg #[.int .i64 0, .int .u64 0, .slice none 0 0]) (by simp [results, Tryz.results160, go_sem, *]) rfl ?_
    have hkf : Keep (fun k => k ≠ w.heap.size) w2 (((w2.setCell ⟨w.heap.size, 0, none⟩ (.int .i64 0)).setCell ⟨w.heap.size, 1, none⟩ (.int .u64 0)).setCell ⟨w.heap.size, 2, none⟩ (.slice none 0 0)) := (((Keep.refl _ w2).setCell (by simp) _).setCell (by simp) _).setCell (by simp) _
    have hkW : Keep (fun k => k < w.heap.size ∧ k ≠ pm ∧ k ≠ px) w (((w2.setCell ⟨w.heap.size, 0, none⟩ (.int .i64 0)).setCell ⟨w.heap.size, 1, none⟩ (.int .u64 0)).setCell ⟨w.heap.size, 2, none⟩ (.slice none 0 0)) := (((Keep.refl (fun k => k < w.heap.size) w).alloc (fun k hk => hk) (.cells #[.int .i64 0, .int .u64 0, .slice none 0 0] 50)).mono (fun k hk => hk.1)).trans (HK2.out.trans (hkf.mono (fun k hk => by omega)))
    have hlt := HLT.out
    have h5 := HH.out.at_.keep hkW (fun k hk => ⟨hlt k hk, fun e => n1 (e ▸ hk), fun e => n2 (e ▸ hk)⟩)
    have hm1 := HM1.out.lt
    exact ⟨rfl, ⟨f, mb, h5.more (fun k hk => ⟨Or.inl hk, Nat.lt_of_lt_of_le (hlt k hk) hkW.size⟩) (fun k hk => hk.2)⟩, (HM1.out.of_blocks (HB2.out.block _ hm1.1) (HB2.out.block _ hm1.2)).of_blocks (hkf.block _ (by omega)) (hkf.block _ (by omega)), hkW.mono (fun k hk => ⟨hk.1, hk.2.2⟩)⟩
end Go.Proofs.YtlfingcmekifkaaGreat
