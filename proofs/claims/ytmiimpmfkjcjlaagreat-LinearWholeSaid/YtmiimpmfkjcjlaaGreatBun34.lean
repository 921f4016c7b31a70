import Derived.Test.YtmiimpmfkjcjlaaGreatBun31
import Derived.Test.YtmiimpmfkjcjlaaGreatLr6
import Derived.Test.YtmiimpmfkjcjlaaGreatBun33
namespace Go.Proofs.YtmiimpmfkjcjlaaGreat
open Go.RowKit
def okR (n : Int) (calls : List Cl) (e : Ev) : Bool := okEv n calls e && (decide (e.resp = 0) || !(decide (e.kN = 0)))
abbrev evAg (e : Ev) : Value := .agg #[.int .i64 e.call, .int .i64 e.inv, .int .i64 e.resp, .int .i64 e.steps, .int .i64 e.err, .int .u64 e.val, .slice e.lA e.lN e.lC, .slice e.kA e.kN e.kC]
set_option maxRecDepth 100000 in
set_option maxHeartbeats 1000000 in
theorem right_any2 (n : Int) (C : Value) (calls : List Cl) (e : Ev) (w : World) (h : SlCl w C calls) :
    Calls Tryz.prog 60 #[.int .i64 n, C, evAg e] w fun en w' => en = .returned (.bool (okR n calls e)) ∧ Below w.heap.size w w' := by
  obtain ⟨A, cap, rfl, h1, h2, h3⟩ := h
  have hlen : (calls.length : Int) ≤ 9223372036854775807 := by unfold maxLen at h2; omega
  obtain ⟨R, hR⟩ : ∃ R, okR n calls e = R := ⟨_, rfl⟩
  rw [hR]
  have HR := hide hR
  clear hR
  by_cases c0 : e.call < 0
  · have d0 : decide (e.call < 0) = true := by simpa using c0
    have HF : Hid (false = R) := hide (by rw [← HR.out]; unfold okR okEv; rw [decide_eq_false (show ¬ 0 ≤ e.call by omega)]; rfl)
    clear h3
    go_enter Tryz.func60, Tryz.ntmps60
    go_wp2
    go_ret
    exact ⟨ret_bool (by first | exact HF.out | (rw [← HF.out]; simp; done)), (Below.refl _ _).alloc (Nat.le_refl _) _⟩
  · have d0 : decide (e.call < 0) = false := by simpa using c0
    by_cases c1 : (calls.length : Int) ≤ e.call
    · have d1 : decide ((calls.length : Int) ≤ e.call) = true := by simpa using c1
      have HF : Hid (false = R) := hide (by rw [← HR.out]; unfold okR okEv; rw [decide_eq_false (show ¬ e.call < calls.length by omega)]; simp)
      clear h3
      go_enter Tryz.func60, Tryz.ntmps60
      go_wp2
      go_ret
      exact ⟨ret_bool (by first | exact HF.out | (rw [← HF.out]; simp; done)), (Below.refl _ _).alloc (Nat.le_refl _) _⟩
    · have d1 : decide ((calls.length : Int) ≤ e.call) = false := by simp; omega
      obtain ⟨i, hi⟩ : ∃ i : Nat, e.call = (i : Int) := ⟨e.call.toNat, by omega⟩
      obtain ⟨c, hc⟩ : ∃ c, calls[i]? = some c := ⟨_, List.getElem?_eq_getElem (by omega)⟩
      obtain ⟨g, o, rfl, hg, hcc⟩ := h3 i c hc
      obtain ⟨x0, _⟩ := cl_cells hcc
      have q0 : (0 : Int) ≤ e.call := by omega
      have q1 : e.call < (calls.length : Int) := by omega
      have HOK : Hid (okEv n calls e = (decide (0 ≤ c.thread) && decide (c.thread < n))) := hide (by
        unfold okEv
        rw [decide_eq_true q0, decide_eq_true q1, hi, Int.toNat_natCast, hc]
        rfl)
      have hit : e.call.toNat = i := by omega
      clear hcc hc h3
      by_cases r1 : e.resp = 0
      · have d2 : (e.resp != 0) = false := by simp [r1]
        have HR2 : Hid ((decide (0 ≤ c.thread) && decide (c.thread < n)) = R) := hide (by rw [← HR.out]; unfold okR; rw [HOK.out, decide_eq_true r1]; simp)
        clear r1
        by_cases t0 : 0 ≤ c.thread
        · have d5 : decide (0 ≤ c.thread) = true := by simpa using t0
          by_cases t1 : c.thread < n
          · have d6 : decide (c.thread < n) = true := by simpa using t1
            have HF : Hid (true = R) := hide (by rw [← HR2.out, d5, d6]; rfl)
            clear t0 t1 hi
            go_enter Tryz.func60, Tryz.ntmps60
            go_wp2
            go_ret
            exact ⟨ret_bool (by first | exact HF.out | (rw [← HF.out]; simp; done)), (Below.refl _ _).alloc (Nat.le_refl _) _⟩
          · have d6 : decide (c.thread < n) = false := by simpa using t1
            have HF : Hid (false = R) := hide (by rw [← HR2.out, d5, d6]; rfl)
            clear t0 t1 hi
            go_enter Tryz.func60, Tryz.ntmps60
            go_wp2
            go_ret
            exact ⟨ret_bool (by first | exact HF.out | (rw [← HF.out]; simp; done)), (Below.refl _ _).alloc (Nat.le_refl _) _⟩
        · have d5 : decide (0 ≤ c.thread) = false := by simpa using t0
          have HF : Hid (false = R) := hide (by rw [← HR2.out, d5]; rfl)
          clear t0 hi
          go_enter Tryz.func60, Tryz.ntmps60
          go_wp2
          go_ret
          exact ⟨ret_bool (by first | exact HF.out | (rw [← HF.out]; simp; done)), (Below.refl _ _).alloc (Nat.le_refl _) _⟩
      · have d2 : (e.resp != 0) = true := by simpa using r1
        by_cases k1 : e.kN = 0
        · have d3 : ((e.kN : Int) == 0) = true := by simp [k1]
          have d4 : (e.kN == 0) = true := by simp [k1]
          have HF : Hid (false = R) := hide (by rw [← HR.out]; unfold okR; rw [decide_eq_false r1, decide_eq_true k1]; simp)
          clear k1 r1 hi
          go_enter Tryz.func60, Tryz.ntmps60
          go_wp2
          go_ret
          exact ⟨ret_bool (by first | exact HF.out | (rw [← HF.out]; simp; done)), (Below.refl _ _).alloc (Nat.le_refl _) _⟩
        · have d3 : ((e.kN : Int) == 0) = false := by simp; omega
          have d4 : (e.kN == 0) = false := by simpa using k1
          have HR2 : Hid ((decide (0 ≤ c.thread) && decide (c.thread < n)) = R) := hide (by rw [← HR.out]; unfold okR; rw [HOK.out, decide_eq_false r1, decide_eq_false k1]; simp)
          clear r1 k1
          by_cases t0 : 0 ≤ c.thread
          · have d5 : decide (0 ≤ c.thread) = true := by simpa using t0
            by_cases t1 : c.thread < n
            · have d6 : decide (c.thread < n) = true := by simpa using t1
              have HF : Hid (true = R) := hide (by rw [← HR2.out, d5, d6]; rfl)
              clear t0 t1 hi
              go_enter Tryz.func60, Tryz.ntmps60
              go_wp2
              go_ret
              exact ⟨ret_bool (by first | exact HF.out | (rw [← HF.out]; simp; done)), (Below.refl _ _).alloc (Nat.le_refl _) _⟩
            · have d6 : decide (c.thread < n) = false := by simpa using t1
              have HF : Hid (false = R) := hide (by rw [← HR2.out, d5, d6]; rfl)
              clear t0 t1 hi
              go_enter Tryz.func60, Tryz.ntmps60
              go_wp2
              go_ret
              exact ⟨ret_bool (by first | exact HF.out | (rw [← HF.out]; simp; done)), (Below.refl _ _).alloc (Nat.le_refl _) _⟩
          · have d5 : decide (0 ≤ c.thread) = false := by simpa using t0
            have HF : Hid (false = R) := hide (by rw [← HR2.out, d5]; rfl)
            clear t0 hi
            go_enter Tryz.func60, Tryz.ntmps60
            go_wp2
            go_ret
            exact ⟨ret_bool (by first | exact HF.out | (rw [← HF.out]; simp; done)), (Below.refl _ _).alloc (Nat.le_refl _) _⟩
end Go.Proofs.YtmiimpmfkjcjlaaGreat

namespace Go.Proofs.YtmiimpmfkjcjlaaGreat
open Go.RowKit
abbrev badF (Bn Bc : Nat) : Value := .func (.func 59) #[] #[.pointer (some ⟨Bn, 0, none⟩), .pointer (some ⟨Bc, 0, none⟩)]
structure BadCtx (W : World) (Bn Bc : Nat) (n : Int) (C : Value) (calls : List Cl) : Prop where
  n0 : W.cell? ⟨Bn, 0, none⟩ = some (.int .i64 n)
  c0 : W.cell? ⟨Bc, 0, none⟩ = some C
  nz : Bn < W.heap.size
  cz : Bc < W.heap.size
  cs : SlCl W C calls
theorem BadCtx.below {W W' : World} {Bn Bc : Nat} {n : Int} {C : Value} {calls : List Cl} (h : BadCtx W Bn Bc n C calls) (hb : Below W.heap.size W W') : BadCtx W' Bn Bc n C calls :=
  ⟨(hb.cell (p := ⟨Bn, 0, none⟩) h.nz).trans h.n0, (hb.cell (p := ⟨Bc, 0, none⟩) h.cz).trans h.c0, Nat.lt_of_lt_of_le h.nz hb.size, Nat.lt_of_lt_of_le h.cz hb.size, h.cs.below hb (Nat.le_refl _)⟩
set_option maxRecDepth 100000 in
set_option maxHeartbeats 1000000 in
theorem wrong1_any (Bn Bc : Nat) (n : Int) (C : Value) (calls : List Cl) (e : Ev) (W : World) (h : BadCtx W Bn Bc n C calls) :
    Calls Tryz.prog 59 #[evAg e, .pointer (some ⟨Bn, 0, none⟩), .pointer (some ⟨Bc, 0, none⟩)] W fun en w' => en = .returned (.bool (!(okR n calls e))) ∧ Below W.heap.size W w' := by
  have N1 := fun W' h => right_any2 n C calls e W' h
  obtain ⟨n0, c0, nz, cz, cs⟩ := h
  have HCS := hide cs
  obtain ⟨A, cap, rfl, _, _, _⟩ := id cs
  obtain ⟨R, hR⟩ : ∃ R, okR n calls e = R := ⟨_, rfl⟩
  rw [hR] at N1 ⊢
  clear hR cs
  go_enter Tryz.func59, Tryz.ntmps59
  go_wp2_with fail
  refine (N1 _ (HCS.out.alloc _)).mono ?_
  rintro en w1 ⟨rfl, hb⟩
  have HB : Hid (Below W.heap.size W w1) := hide (((Below.refl _ _).alloc (Nat.le_refl _) _).trans (hb.mono (by simp)))
  clear hb N1
  cases R
  · go_wp2
    go_ret
    exact ⟨rfl, HB.out⟩
  · go_wp2
    go_ret
    exact ⟨rfl, HB.out⟩
set_option maxRecDepth 100000 in
set_option maxHeartbeats 1000000 in
theorem indexBad_any (Bn Bc : Nat) (n : Int) (C v : Value) (calls : List Cl) (es : List Ev) (w : World) (h : BadCtx w Bn Bc n C calls) (hes : SlEv w v es) :
    Calls Tryz.prog 105 #[v, badF Bn Bc] w fun en w' => ∃ r : Int, en = .returned (.int .i64 r) ∧ decide (0 ≤ r) = !(es.all (okR n calls)) ∧ Below w.heap.size w w' := by
  have he : ∀ args w, (callFunc 59 args).run Tryz.prog w = .ok (.enter 59 args) w := enters_of Tryz.func59 (by kernel_rfl) rfl
  obtain ⟨A, cap, rfl, h1, h2, h3⟩ := hes
  have hlen : (es.length : Int) ≤ 9223372036854775807 := by unfold maxLen at h2; omega
  have HX := hide h
  clear h
  go_enter Tryz.func105, Tryz.ntmps105
  go_wp2
  go_loopw [8] (fun i wr => ∃ k : Nat, k ≤ es.length ∧ i = .int .i64 k ∧ Hid ((es.take k).all (okR n calls) = true) ∧ Hid (Below w.heap.size w wr)) (fun i _ => es.length - (intOf i).toNat)
  case atStart => exact ⟨0, Nat.zero_le _, rfl, hide (by simp), hide (Below.refl _ _)⟩
  case round =>
    obtain ⟨k, hk, rfl, hall, hB⟩ := hrel
    by_cases hlt : k < es.length
    · obtain ⟨e, hek⟩ : ∃ e, es[k]? = some e := ⟨_, List.getElem?_eq_getElem hlt⟩
      obtain ⟨g, o, rfl, hg, hce⟩ := h3 k e hek
      obtain ⟨k0, k1, k2, k3, k4, k5, k6, k7⟩ := ev_cells (hce.of_block (w' := wr) (hB.out.block g hg))
      have q0 : (0 : Int) ≤ (k : Int) := by omega
      have q1 : (k : Int) < (es.length : Int) := by omega
      have N1 := fun W' h => wrong1_any Bn Bc n C calls e W' h
      obtain ⟨R, hR⟩ : ∃ R, okR n calls e = R := ⟨_, rfl⟩
      rw [hR] at N1
      have HR := hide hR
      have HEK := hide hek
      clear hce hek hR
      go_wp2_with fail
      refine (N1 _ (HX.out.below hB.out)).mono ?_
      rintro en w1 ⟨rfl, hb⟩
      have HB1 : Hid (Below w.heap.size w w1) := hide (hB.out.trans (hb.mono hB.out.size))
      clear hb N1 k0 k1 k2 k3 k4 k5 k6 k7
      cases R
      · go_wp2
        go_ret
        refine ⟨_, rfl, ?_, HB1.out⟩
        rw [decide_eq_true (by omega)]
        symm
        rw [Bool.not_eq_true', List.all_eq_false]
        exact ⟨e, List.mem_of_getElem? HEK.out, by rw [HR.out]; simp⟩
      · have HA : Hid ((es.take (k + 1)).all (okR n calls) = true) := hide (by
          rw [List.take_add_one, HEK.out, List.all_append, hall.out]
          simp [HR.out])
        go_wp2
        go_roundw
        case rel => exact ⟨k + 1, by omega, by go_num, HA, HB1⟩
        case measure => simp [intOf] <;> omega
    · have d1 : decide ((k : Int) < (es.length : Int)) = false := by simp; omega
      have d2 : decide (k < es.length) = false := by simp; omega
      have HA : Hid (es.all (okR n calls) = true) := hide (by have := hall.out; rw [List.take_of_length_le (by omega)] at this; exact this)
      clear hall
      go_wp2
      go_ret
      exact ⟨-1, rfl, by rw [HA.out]; rfl, hB.out⟩
set_option maxRecDepth 100000 in
theorem containsBad_any (Bn Bc : Nat) (n : Int) (C v : Value) (calls : List Cl) (es : List Ev) (w : World) (h : BadCtx w Bn Bc n C calls) (hes : SlEv w v es) :
    Calls Tryz.prog 58 #[v, badF Bn Bc] w fun en w' => en = .returned (.bool (!(es.all (okR n calls)))) ∧ Below w.heap.size w w' := by
  have N1 := indexBad_any Bn Bc n C v calls es w h hes
  obtain ⟨A, cap, rfl, _, _, _⟩ := hes
  obtain ⟨R, hR⟩ : ∃ R, (!(es.all (okR n calls))) = R := ⟨_, rfl⟩
  rw [hR] at N1 ⊢
  clear hR
  go_enter Tryz.func58, Tryz.ntmps58
  go_wp2_with fail
  refine N1.mono ?_
  rintro en w1 ⟨r, rfl, hr, hb⟩
  have HB := hide hb
  clear hb N1
  go_wp2
  go_ret
  exact ⟨rfl, HB.out⟩
end Go.Proofs.YtmiimpmfkjcjlaaGreat

namespace Go.Proofs.YtmiimpmfkjcjlaaGreat
open Go.RowKit
def MdAt (w : World) (b : Nat) (n : Int) (S V : Value) : Prop := w.heap[b]? = some (.cells #[.int .i64 n, S, V] 116 (0, 0))
def MdPost (B b : Nat) (V : Value) (R : List (List Int) × Bool) (w : World) (e : Ending) (w' : World) : Prop :=
  ∃ ps, e = .returned (.bool R.2) ∧ StRow w' B V ps ∧ ps.map Prod.fst = R.1 ∧ w'.heap[b]? = w.heap[b]? ∧ Keep (fun j => j < w.heap.size ∧ some j ≠ V.ownBlock) w w'
set_option maxRecDepth 100000 in
set_option maxHeartbeats 4000000 in
theorem ldo_out (b B : Nat) (n : Int) (S V : Value) (specs : List Sp) (ps : List StP) (e : Ev) (l : List Int) (c : Cl) (w : World) (hA : MdAt w b n S V) (hSp : SlSp w S specs) (hSt : StRow w B V ps) (hl : e.lN = l.length) (ho : ¬ (0 ≤ c.obj ∧ c.obj < specs.length)) :
    Calls Tryz.prog 63 #[.pointer (some ⟨b, 0, none⟩), clV c, evAg e] w (MdPost B b V (stepC n specs (ps.map Prod.fst) e l c) w) := by
  rw [stepC_out ho]
  unfold MdPost clV
  obtain ⟨R, hR⟩ : ∃ R, (decide (e.resp = 0) || (decide (e.err = 12) && (decide (e.val = 0) && decide (l = [])))) = R := ⟨_, rfl⟩
  simp only [hR]
  have HR := hide hR
  have HLN : Hid (decide (l = []) = decide (e.lN = 0)) := hide (by rw [hl]; cases l <;> simp)
  obtain ⟨a0, a1, a2, _, _, _, bz⟩ := cells3 hA
  obtain ⟨As, cs, rfl, gs1, gs2, gs3⟩ := id hSp
  obtain ⟨vA, vc, rfl, _⟩ := ob_len stEn_len hSt
  obtain ⟨X, hX⟩ : ∃ X, X = (w.alloc (.cells #[.int .i64 c.thread, .int .i64 c.obj, .int .i64 c.kind, .int .u64 c.a, .int .u64 c.b, .int .u64 c.c] 27)).alloc (.cells #[.int .i64 e.call, .int .i64 e.inv, .int .i64 e.resp, .int .i64 e.steps, .int .i64 e.err, .int .u64 e.val, .slice e.lA e.lN e.lC, .slice e.kA e.kN e.kC] 62) := ⟨_, rfl⟩
  have hBX : Below w.heap.size w X := by rw [hX]; exact ((Below.refl _ _).alloc (Nat.le_refl _) _).alloc (by simp) _
  obtain ⟨c0, c1, c2, c3, c4, c5, cz⟩ := cells6 (show X.heap[w.heap.size]? = some (.cells #[.int .i64 c.thread, .int .i64 c.obj, .int .i64 c.kind, .int .u64 c.a, .int .u64 c.b, .int .u64 c.c] 27 (0, 0)) from by rw [hX]; exact (heap_alloc_old _ _ (by simp)).trans (heap_alloc_new _ _))
  obtain ⟨e0, e1, e2, e3, e4, e5, e6, e7, ez⟩ := cells8e (show X.heap[w.heap.size + 1]? = some (.cells #[.int .i64 e.call, .int .i64 e.inv, .int .i64 e.resp, .int .i64 e.steps, .int .i64 e.err, .int .u64 e.val, .slice e.lA e.lN e.lC, .slice e.kA e.kN e.kC] 62 (0, 0)) from by rw [hX]; have := heap_alloc_new (w.alloc (.cells #[.int .i64 c.thread, .int .i64 c.obj, .int .i64 c.kind, .int .u64 c.a, .int .u64 c.b, .int .u64 c.c] 27)) (.cells #[.int .i64 e.call, .int .i64 e.inv, .int .i64 e.resp, .int .i64 e.steps, .int .i64 e.err, .int .u64 e.val, .slice e.lA e.lN e.lC, .slice e.kA e.kN e.kC] 62); simpa using this)
  replace a0 := (hBX.cell (p := ⟨b, 0, none⟩) bz).trans a0
  replace a1 := (hBX.cell (p := ⟨b, 1, none⟩) bz).trans a1
  replace a2 := (hBX.cell (p := ⟨b, 2, none⟩) bz).trans a2
  have bz2 : b < X.heap.size := by omega
  have hzx := hBX.size
  have HBX := hide hBX
  have HST := hide hSt
  have HAB := hide hA
  clear hBX
  have hsl : (specs.length : Int) ≤ 9223372036854775807 := by unfold maxLen at gs2; omega
  clear hA hSp hSt gs3 hR hl
  by_cases h0 : c.obj < 0
  · have d0 : decide (c.obj < 0) = true := by simpa using h0
    clear h0 ho
    go_enter Tryz.func63, Tryz.ntmps63
    go_wp2_with fail
    rw [← hX]
    clear hX
    refine wp_region_seq (Below X.heap.size X) (.take 0 <| .take 1 <| .take 2 <| .take 3 <| .take 4 <| .take 5 <| .take 6 <| .take 7 <| .take 8 <| .take 9 <| .take 10 <| .take 11 <| .take 12 <| .done) (by kernel_rfl) (by kernel_rfl) (by kernel_rfl) (by (repeat' (first | with_reducible (first | assumption | exact Below.refl _ _ | refine Below.drew ?_ | refine below_drewN ?_ _ | refine Below.alloc ?_ ?_ _ | refine Below.setCell ?_ ?_ _) | omega | (simp; done) | (simp; omega)))) ?_
    repeat (first | (refine seq_take (v := ?_) rfl (by rfl) ?_ ?_; rotate_left; (focus (intro wS hS; have z1 := (hS.cell (p := ⟨b, 1, none⟩) bz2).trans a1; have y1 := (hS.cell (p := ⟨w.heap.size, 1, none⟩) cz).trans c1; go_simp; exact rfl)); simp only [Act.put, sqA, sqB, sqC]) | (refine seq_skip rfl (by rfl) ?_; simp only [Act.put, sqA, sqB, sqC]))
    refine seq_nil ?_
    by_cases r0 : e.resp = 0
    · have f0 : (e.resp == 0) = true := by simpa using r0
      have HF : Hid (true = R) := hide (by rw [← HR.out, decide_eq_true r0]; rfl)
      clear r0
      go_wp2
      go_ret
      have hB : Below w.heap.size w (((X.drew).alloc (.cells #[.int .i64 e.err, .int .u64 e.val, .slice e.lA e.lN e.lC] 57))) := HBX.out.trans (((Below.refl _ _).drew.alloc (Nat.le_refl _) _).mono hzx)
      exact ⟨ps, ret_bool HF.out, ob_below HST.out hB, rfl, hB.block b bz, Keep.of_below hB (fun j h => h.1)⟩
    · have f0 : (e.resp == 0) = false := by simpa using r0
      by_cases r1 : e.err = 12
      · have f1 : (e.err == 12) = true := by simpa using r1
        by_cases r2 : e.val = 0
        · have f2 : (e.val == 0) = true := by simpa using r2
          by_cases r3 : e.lN = 0
          · have f3 : ((e.lN : Int) == 0) = true := by simp [r3]
            have f4 : (e.lN == 0) = true := by simp [r3]
            have HF : Hid (true = R) := hide (by rw [← HR.out, decide_eq_true r1, decide_eq_true r2, HLN.out, decide_eq_true r3]; simp)
            clear r0 r1 r2 r3
            go_wp2
            go_ret
            have hB : Below w.heap.size w (((X.drew).alloc (.cells #[.int .i64 e.err, .int .u64 e.val, .slice e.lA e.lN e.lC] 57))) := HBX.out.trans (((Below.refl _ _).drew.alloc (Nat.le_refl _) _).mono hzx)
            exact ⟨ps, ret_bool HF.out, ob_below HST.out hB, rfl, hB.block b bz, Keep.of_below hB (fun j h => h.1)⟩
          · have f3 : ((e.lN : Int) == 0) = false := by simp; omega
            have f4 : (e.lN == 0) = false := by simpa using r3
            have HF : Hid (false = R) := hide (by rw [← HR.out, decide_eq_false r0, HLN.out, decide_eq_false r3]; simp)
            clear r0 r1 r2 r3
            go_wp2
            go_ret
            have hB : Below w.heap.size w (((X.drew).alloc (.cells #[.int .i64 e.err, .int .u64 e.val, .slice e.lA e.lN e.lC] 57))) := HBX.out.trans (((Below.refl _ _).drew.alloc (Nat.le_refl _) _).mono hzx)
            exact ⟨ps, ret_bool HF.out, ob_below HST.out hB, rfl, hB.block b bz, Keep.of_below hB (fun j h => h.1)⟩
        · have f2 : (e.val == 0) = false := by simpa using r2
          have HF : Hid (false = R) := hide (by rw [← HR.out, decide_eq_false r0, decide_eq_false r2]; simp)
          clear r0 r1 r2
          go_wp2
          go_ret
          have hB : Below w.heap.size w (((X.drew).alloc (.cells #[.int .i64 e.err, .int .u64 e.val, .slice e.lA e.lN e.lC] 57))) := HBX.out.trans (((Below.refl _ _).drew.alloc (Nat.le_refl _) _).mono hzx)
          exact ⟨ps, ret_bool HF.out, ob_below HST.out hB, rfl, hB.block b bz, Keep.of_below hB (fun j h => h.1)⟩
      · have f1 : (e.err == 12) = false := by simpa using r1
        have HF : Hid (false = R) := hide (by rw [← HR.out, decide_eq_false r0, decide_eq_false r1]; simp)
        clear r0 r1
        go_wp2
        go_ret
        have hB : Below w.heap.size w (((X.drew).alloc (.cells #[.int .i64 e.err, .int .u64 e.val, .slice e.lA e.lN e.lC] 57))) := HBX.out.trans (((Below.refl _ _).drew.alloc (Nat.le_refl _) _).mono hzx)
        exact ⟨ps, ret_bool HF.out, ob_below HST.out hB, rfl, hB.block b bz, Keep.of_below hB (fun j h => h.1)⟩
  · have d0 : decide (c.obj < 0) = false := by simpa using h0
    have d1 : decide ((specs.length : Int) ≤ c.obj) = true := by simp; omega
    clear h0 ho
    go_enter Tryz.func63, Tryz.ntmps63
    go_wp2_with fail
    rw [← hX]
    clear hX
    refine wp_region_seq (Below X.heap.size X) (.take 0 <| .take 1 <| .take 2 <| .take 3 <| .take 4 <| .take 5 <| .take 6 <| .take 7 <| .take 8 <| .take 9 <| .take 10 <| .take 11 <| .take 12 <| .done) (by kernel_rfl) (by kernel_rfl) (by kernel_rfl) (by (repeat' (first | with_reducible (first | assumption | exact Below.refl _ _ | refine Below.drew ?_ | refine below_drewN ?_ _ | refine Below.alloc ?_ ?_ _ | refine Below.setCell ?_ ?_ _) | omega | (simp; done) | (simp; omega)))) ?_
    repeat (first | (refine seq_take (v := ?_) rfl (by rfl) ?_ ?_; rotate_left; (focus (intro wS hS; have z1 := (hS.cell (p := ⟨b, 1, none⟩) bz2).trans a1; have y1 := (hS.cell (p := ⟨w.heap.size, 1, none⟩) cz).trans c1; go_simp; exact rfl)); simp only [Act.put, sqA, sqB, sqC]) | (refine seq_skip rfl (by rfl) ?_; simp only [Act.put, sqA, sqB, sqC]))
    refine seq_nil ?_
    by_cases r0 : e.resp = 0
    · have f0 : (e.resp == 0) = true := by simpa using r0
      have HF : Hid (true = R) := hide (by rw [← HR.out, decide_eq_true r0]; rfl)
      clear r0
      go_wp2
      go_ret
      have hB : Below w.heap.size w (((X.drew).alloc (.cells #[.int .i64 e.err, .int .u64 e.val, .slice e.lA e.lN e.lC] 57))) := HBX.out.trans (((Below.refl _ _).drew.alloc (Nat.le_refl _) _).mono hzx)
      exact ⟨ps, ret_bool HF.out, ob_below HST.out hB, rfl, hB.block b bz, Keep.of_below hB (fun j h => h.1)⟩
    · have f0 : (e.resp == 0) = false := by simpa using r0
      by_cases r1 : e.err = 12
      · have f1 : (e.err == 12) = true := by simpa using r1
        by_cases r2 : e.val = 0
        · have f2 : (e.val == 0) = true := by simpa using r2
          by_cases r3 : e.lN = 0
          · have f3 : ((e.lN : Int) == 0) = true := by simp [r3]
            have f4 : (e.lN == 0) = true := by simp [r3]
            have HF : Hid (true = R) := hide (by rw [← HR.out, decide_eq_true r1, decide_eq_true r2, HLN.out, decide_eq_true r3]; simp)
            clear r0 r1 r2 r3
            go_wp2
            go_ret
            have hB : Below w.heap.size w (((X.drew).alloc (.cells #[.int .i64 e.err, .int .u64 e.val, .slice e.lA e.lN e.lC] 57))) := HBX.out.trans (((Below.refl _ _).drew.alloc (Nat.le_refl _) _).mono hzx)
            exact ⟨ps, ret_bool HF.out, ob_below HST.out hB, rfl, hB.block b bz, Keep.of_below hB (fun j h => h.1)⟩
          · have f3 : ((e.lN : Int) == 0) = false := by simp; omega
            have f4 : (e.lN == 0) = false := by simpa using r3
            have HF : Hid (false = R) := hide (by rw [← HR.out, decide_eq_false r0, HLN.out, decide_eq_false r3]; simp)
            clear r0 r1 r2 r3
            go_wp2
            go_ret
            have hB : Below w.heap.size w (((X.drew).alloc (.cells #[.int .i64 e.err, .int .u64 e.val, .slice e.lA e.lN e.lC] 57))) := HBX.out.trans (((Below.refl _ _).drew.alloc (Nat.le_refl _) _).mono hzx)
            exact ⟨ps, ret_bool HF.out, ob_below HST.out hB, rfl, hB.block b bz, Keep.of_below hB (fun j h => h.1)⟩
        · have f2 : (e.val == 0) = false := by simpa using r2
          have HF : Hid (false = R) := hide (by rw [← HR.out, decide_eq_false r0, decide_eq_false r2]; simp)
          clear r0 r1 r2
          go_wp2
          go_ret
          have hB : Below w.heap.size w (((X.drew).alloc (.cells #[.int .i64 e.err, .int .u64 e.val, .slice e.lA e.lN e.lC] 57))) := HBX.out.trans (((Below.refl _ _).drew.alloc (Nat.le_refl _) _).mono hzx)
          exact ⟨ps, ret_bool HF.out, ob_below HST.out hB, rfl, hB.block b bz, Keep.of_below hB (fun j h => h.1)⟩
      · have f1 : (e.err == 12) = false := by simpa using r1
        have HF : Hid (false = R) := hide (by rw [← HR.out, decide_eq_false r0, decide_eq_false r1]; simp)
        clear r0 r1
        go_wp2
        go_ret
        have hB : Below w.heap.size w (((X.drew).alloc (.cells #[.int .i64 e.err, .int .u64 e.val, .slice e.lA e.lN e.lC] 57))) := HBX.out.trans (((Below.refl _ _).drew.alloc (Nat.le_refl _) _).mono hzx)
        exact ⟨ps, ret_bool HF.out, ob_below HST.out hB, rfl, hB.block b bz, Keep.of_below hB (fun j h => h.1)⟩
end Go.Proofs.YtmiimpmfkjcjlaaGreat
