import Derived.Test.YtlfingcmekifkaaGreatRt11
namespace Go.Proofs.YtlfingcmekifkaaGreat
open Go.RowKit
def newTape (wp : Nat) (th now : Int) : List Value := [.pointer (some ⟨wp, 0, none⟩), .int .i64 th, .int .i64 now, .slice none 0 0, .slice none 0 0, .int .i64 0, .bool false, .bool false, .slice none 0 0, .int .i64 0, .int .u64 0, .slice none 0 0, .slice none 0 0]
def beginW (w : World) (hb wp p mb mo th : Nat) (now ev : Int) : World := (((w.setCell ⟨hb, p, none⟩ (.bool true)).setCell ⟨hb, p + 1, none⟩ (.int .i64 ev)).setCells hb (p + 2) (newTape wp th now)).setCell ⟨mb, mo + th, none⟩ (.slice none 0 0)
theorem zero_tape (w : World) : (zeroValue 100).run Tryz.prog w = .ok (.agg #[.pointer none, .int .i64 0, .int .i64 0, .slice none 0 0, .slice none 0 0, .int .i64 0, .bool false, .bool false, .slice none 0 0, .int .i64 0, .int .u64 0, .slice none 0 0, .slice none 0 0]) w := by kernel_rfl
set_option maxRecDepth 100000 in
set_option maxHeartbeats 400000 in
theorem plainBegin {w : World} {hb wp p nh th n mb mo cm : Nat} {g f : Nat → Value} {now ev : Int} (hr : w.rowIs hb 102 nh g) (hnh : p + 16 ≤ nh) (hf : w.rowIs wp 95 10 f) (h6 : f 6 = .int .i64 now) (h7 : f 7 = .slice (some ⟨mb, mo, none⟩) n cm) (hth : th < n) (hm : ∃ v, w.cell? ⟨mb, mo + th, none⟩ = some v) (hmf : w.frozen? ⟨mb, mo + th, none⟩ = false) (hne : hb ≠ wp ∧ mb ≠ hb ∧ mb ≠ wp) :
    Calls Tryz.prog 44 #[.pointer (some ⟨hb, p, none⟩), .pointer (some ⟨wp, 0, none⟩), .int .i64 th, .int .i64 ev] w fun e w' => e = .returned (.tuple #[]) ∧ w' = beginW w hb wp p mb mo th now ev := by
  obtain ⟨v0, hm⟩ := hm
  obtain ⟨n1, n2, n3⟩ := hne
  have q0 := hr.frozen p
  have q1 := hr.frozen (p + 1)
  have r0 := hr.cell (i := p) (by omega)
  have r1 := hr.cell (i := p + 1) (by omega)
  have a6 := hf.cell (i := 6) (by decide)
  have a7 := hf.cell (i := 7) (by decide)
  rw [h6] at a6
  rw [h7] at a7
  have hz := hr.lt
  have hzw := hf.lt
  have hrow2 := (hr.set p (.bool true)).set (p + 1) (.int .i64 ev)
  have hth2 : (((w.setCell ⟨hb, p, none⟩ (.bool true)).setCell ⟨hb, p + 1, none⟩ (.int .i64 ev))).there hb (p + 2) 13 := fun j hj => ⟨by rw [show p + 2 + j = p + 2 + j from rfl, hrow2.cell (by omega)]; rfl, hrow2.frozen _⟩
  have b6 : ((((w.setCell ⟨hb, p, none⟩ (.bool true)).setCell ⟨hb, p + 1, none⟩ (.int .i64 ev))).setCells hb (p + 2) (newTape wp th now)).cell? ⟨wp, 6, none⟩ = some (.int .i64 now) := by
    rw [World.cell?_setCells_out hb _ _ _ _ (fun h1 _ => absurd h1.symm n1)]
    go_simp
  have b7 : ((((w.setCell ⟨hb, p, none⟩ (.bool true)).setCell ⟨hb, p + 1, none⟩ (.int .i64 ev))).setCells hb (p + 2) (newTape wp th now)).cell? ⟨wp, 7, none⟩ = some (.slice (some ⟨mb, mo, none⟩) n cm) := by
    rw [World.cell?_setCells_out hb _ _ _ _ (fun h1 _ => absurd h1.symm n1)]
    go_simp
  have hth' : (th : Int) < (n : Int) := by omega
  have HT := hide hth2
  clear hr hf hrow2 hth2 h6 h7
  go_enter Tryz.func44, Tryz.ntmps44
  go_upto_region 2 with fail
  obtain ⟨W2, hW2⟩ : ∃ W2, W2 = ((w.setCell ⟨hb, p, none⟩ (.bool true)).setCell ⟨hb, p + 1, none⟩ (.int .i64 ev)) := ⟨_, rfl⟩
  rw [← hW2]
  have a6' : W2.cell? ⟨wp, 6, none⟩ = some (.int .i64 now) := by rw [hW2]; go_simp
  have HT2 : Hid (W2.there hb (p + 2) 13) := hide (by rw [hW2]; exact HT.out)
  have hz2 : hb < W2.heap.size := by rw [hW2]; simpa using hz
  have HM2 : Hid (∀ W3 : World, W3 = W2.setCells hb (p + 2) (newTape wp th now) → W3.cell? ⟨wp, 7, none⟩ = some (.slice (some ⟨mb, mo, none⟩) n cm) ∧ W3.cell? ⟨mb, mo + th, none⟩ = some v0 ∧ W3.frozen? ⟨mb, mo + th, none⟩ = false) := hide (fun W3 h3 => by
    rw [h3, hW2]
    refine ⟨b7, ?_, ?_⟩
    · rw [World.cell?_setCells_out hb _ _ _ _ (fun h1 _ => absurd h1 n2)]
      go_simp
    · rw [World.frozen?_setCells]
      go_simp)
  have HF : Hid (beginW w hb wp p mb mo th now ev = (W2.setCells hb (p + 2) (newTape wp th now)).setCell ⟨mb, mo + th, none⟩ (.slice none 0 0)) := hide (by rw [hW2]; rfl)
  clear hW2 b6 b7 r0 r1 q0 q1 a6 a7 HT
  have hzt := zero_tape
  go_upto_region 3 with (refine wpList_store_mid rfl 100 (.tmp 24) (.tmp 22) rfl hb (p + 2) #[.pointer (some ⟨wp, 0, none⟩), .int .i64 (th : Int), .int .i64 now, .slice none 0 0, .slice none 0 0, .int .i64 0, .bool false, .bool false, .slice none 0 0, .int .i64 0, .int .u64 0, .slice none 0 0, .slice none 0 0] (by rfl) (by rfl) HT2.out (by kernel_rfl) (by kernel_rfl) ?_)
  obtain ⟨W3, hW3⟩ : ∃ W3, W3 = W2.setCells hb (p + 2) (newTape wp th now) := ⟨_, rfl⟩
  obtain ⟨b7, hmc, hmf3⟩ := HM2.out W3 hW3
  unfold newTape at hW3
  rw [← hW3]
  have HF2 : Hid (W3.setCell ⟨mb, mo + th, none⟩ (.slice none 0 0) = beginW w hb wp p mb mo th now ev) := hide (by rw [hW3]; exact HF.out.symm)
  clear hW3 HT2 a6' hm hmf hzt
  go_wp2
  refine bodyPost_end (results_none rfl _ _ _) rfl ?_
  exact ⟨rfl, HF2.out⟩
end Go.Proofs.YtlfingcmekifkaaGreat
