/- Words of a memory at first: the reference's. -/
import Derived.Test.YtdilnfnakhhhaaaGreatTb14
namespace Go.Proofs.YtdilnfnakhhhaaaGreat
open Go.RowKit

set_option maxRecDepth 100000 in
set_option maxHeartbeats 4000000 in
theorem refWords_any (n : Int) (A Au : Option Addr) (m c cu N : Nat) (l : List Sp) (w : World) (h : SlSp w (.slice A m c) l) (hm : l.length = m) (hL : Laid n l) (hN : (sizesT n l).sum = N) (hu : SlI w (.slice Au m cu) (begins (sizesT n l) m)) :
    Calls Tryz.prog 13 #[.int .i64 n, .slice A m c, .slice Au m cu, .int .i64 N] w fun e w' => ∃ u, e = .returned u ∧ SlW w' u (wf n l N m) ∧ Below w.heap.size w w' := by
  have hN1 : N ≤ 65536 := by have := hL.sum; omega
  have hm8 : m ≤ 8 := by rw [← hm]; exact hL.len
  have hmk : ∀ W, (Instr.makeSlice 27 (.int .i64 (N : Int)) (.int .i64 (N : Int))).run Tryz.prog W = .ok (.slice (some ⟨W.heap.size, 0, none⟩) N N) (W.alloc (.cells (madeCells #[.int .u64 0] N) 53)) :=
    fun W => run_make_row' (P := Tryz.prog) 27 53 (.int .u64 0) 8 Tryz.underlying27 info_word rfl .i64 .i64 N (by omega) (by omega) W
  have HL := hide hL
  have HN := hide hN
  have HM := hide hm
  have HH := hide h
  have HU := hide hu
  have hm0 : (m : Int) ≤ 8 := by omega
  have own0 : Hid (UOwn (w.alloc (.cells (madeCells #[.int .u64 0] N) 53)) w.heap.size (.slice (some ⟨w.heap.size, 0, none⟩) N N) N (wf n l N 0)) := by
    have := World.ownsRow_lit (base := w.heap.size) (e := 53) (size := 1) w (madeCells #[.int .u64 0] N) N (Nat.le_refl _) (by unfold maxLen; omega) (by simp [madeCells])
    rw [made_list] at this
    show UOwn _ _ _ _ _
    unfold UOwn wf
    rw [List.map_replicate]
    exact this
  obtain ⟨n', hn'⟩ := Int.eq_ofNat_of_zero_le (show 0 ≤ n by have := hL.n1; omega)
  subst hn'
  have hn2 := hL.n2
  clear hL hN hm h hu
  go_enter Tryz.func13, Tryz.ntmps13
  go_wp2
  go_loopw [15] (fun i wr => ∃ (k : Nat), k ≤ m ∧ i = .int .i64 k ∧ Hid (UOwn wr w.heap.size (.slice (some ⟨w.heap.size, 0, none⟩) N N) N (wf (n' : Int) l N k)) ∧ Hid (Below w.heap.size w wr)) (fun i _ => m - (intOf i).toNat)
  case atStart => exact ⟨0, Nat.zero_le _, rfl, own0, hide ((Below.refl _ _).alloc (Nat.le_refl _) _)⟩
  case round =>
    obtain ⟨k, hk, rfl, hO, hB⟩ := hrel
    by_cases hlt : k < m
    · obtain ⟨s, hsk⟩ : ∃ s, l[k]? = some s := ⟨_, List.getElem?_eq_getElem (by have := HM.out; omega)⟩
      have hgz := (hO.out.lt w.heap.size rfl).2
      obtain ⟨A', c', e, _, _, h3⟩ := HH.out
      obtain ⟨b, oo, e', hb0, hc0⟩ := h3 k s hsk
      rw [HM.out] at e
      cases e
      cases e'
      have hc := hc0.of_block (hB.out.block b hb0)
      have hb : b < wr.heap.size := by omega
      obtain ⟨c0, c1, c2⟩ := spec_cells hc
      have q0 : (0 : Int) ≤ (k : Int) := by omega
      have q1 : (k : Int) < (m : Int) := by omega
      by_cases hq : s.kind = 8
      · have hroom := HL.out.room hsk
        have hqs := queue_size hq (HL.out.ok s (List.mem_of_getElem? hsk))
        obtain ⟨bn, hbn⟩ : ∃ bn : Nat, psum (sizesT (n' : Int) l) k = bn := ⟨(psum (sizesT (n' : Int) l) k).toNat, by omega⟩
        rw [hbn, HN.out] at hroom
        have hlast : (bn : Int) + (n' : Int) + 5 < (N : Int) := by omega
        obtain ⟨Au', cu', eu, _, _, hu3⟩ := HU.out
        rw [begins_length] at eu
        cases eu
        obtain ⟨bu, ou, eu, hbu, hcu⟩ := hu3 k bn (by rw [begins_get _ _ _ hlt, hbn])
        cases eu
        have d0 := nt_cell (hcu.of_block (hB.out.block bu hbu))
        simp only [Nat.mul_one] at d0
        have hbu' : bu < wr.heap.size := by omega
        have HS : Hid (wf (n' : Int) l N (k + 1) = setW (wf (n' : Int) l N k) n' bn) := by show _ = _; rw [wf_queue hsk hq, hbn]
        have hlen := wf_length (n' : Int) l N k
        have hown := hO.out
        have hcell : ∀ j : Nat, j < N → ∃ x, wr.cell? ⟨w.heap.size, j, none⟩ = some (.int .u64 x) := by
          intro j hj
          refine ⟨(wf (n' : Int) l N k)[j]'(by omega), ?_⟩
          rw [hown.cellAt j (by omega), List.getElem?_map, List.getElem?_eq_getElem (by omega)]
          rfl
        obtain ⟨y0, g0⟩ := hcell bn (by omega)
        obtain ⟨y1, g1⟩ := hcell (bn + 1) (by omega)
        obtain ⟨y2, g2⟩ := hcell (bn + (n' + 5)) (by omega)
        have f0 := hown.frozenAt bn
        have f1 := hown.frozenAt (bn + 1)
        have f2 := hown.frozenAt (bn + (n' + 5))
        have r0 : (0 : Int) ≤ (bn : Int) := by omega
        have r1 : (bn : Int) < (N : Int) := by omega
        have r2 : (bn : Int) + 1 < (N : Int) := by omega
        have r3 : (bn : Int) + 2 + (n' : Int) + 3 < (N : Int) := by omega
        have e3 : ((bn : Int) + 2 + (n' : Int) + 3).toNat = bn + (n' + 5) := by omega
        have e8 : (s.kind == 8) = true := by simp [hq]
        have hgb : bu ≠ w.heap.size := by omega
        have hgb' : w.heap.size ≠ bu := by omega
        have s0 := (hown.stored bn (.int .u64 1)).1
        have s1 := (s0.stored (bn + 1) (.int .u64 1)).1
        have s2 := (s1.stored (bn + (n' + 5)) (.int .u64 1)).1
        have hW : ((((wf (n' : Int) l N k).map (Value.int .u64)).set bn (.int .u64 1)).set (bn + 1) (.int .u64 1)).set (bn + (n' + 5)) (.int .u64 1) = (setW (wf (n' : Int) l N k) (n' : Int) (bn : Int)).map (Value.int .u64) := by
          unfold setW
          rw [List.map_set, List.map_set, List.map_set, Int.toNat_natCast, Int.toNat_natCast]
        rw [hW] at s2
        have S2 := hide s2
        clear s0 s1 s2 hW hroom hqs hbn hcu hq h3 hsk hc hc0 hcell hlen hown hu3
        go_wp2
        go_roundw
        case rel => exact ⟨k + 1, by omega, by go_num, hide (by rw [HS.out]; exact S2.out), hide (((hB.out.setCell (by simp) _).setCell (by simp) _).setCell (by simp) _)⟩
        case measure => first | (simp [intOf]; done) | (simp [intOf]; omega)
      · have e8 : (s.kind == 8) = false := by simpa using hq
        have HS : Hid (wf (n' : Int) l N (k + 1) = wf (n' : Int) l N k) := wf_other hsk hq
        clear hq h3 hsk hc hc0
        go_wp2
        go_roundw
        case rel => exact ⟨k + 1, by omega, by go_num, hide (by rw [HS.out]; exact hO.out), hB⟩
        case measure => first | (simp [intOf]; done) | (simp [intOf]; omega)
    · obtain rfl : k = m := by omega
      go_wp2
      go_ret
      refine ⟨_, rfl, ?_, hB.out⟩
      have hl := wf_length (n' : Int) l N k
      refine wrow_sl (B := w.heap.size) ?_ (by rw [hl]; unfold maxLen; omega)
      unfold WRow
      rw [hl]
      exact hO.out
end Go.Proofs.YtdilnfnakhhhaaaGreat
