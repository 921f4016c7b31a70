/- Operations that are done whole (package solo): has a thread a place in a queue? -/
import Derived.Test.YtmiimpmfkjcjlaaGreatBun21
namespace Go.Proofs.YtmiimpmfkjcjlaaGreat
open Go.RowKit
attribute [local go_sem] run_store_fn run_store_nilfn

/-- Who put what was taken last of each queue (-1: nobody), as a map. -/
def lastMap (last : List Int) (o : Int) : Option Value := if 0 ≤ o then (match last[o.toNat]? with | some t => if t = -1 then none else some (.agg #[.bool true, .int .u64 t]) | none => none) else none
theorem lastMap_none {last : List Int} {o : Nat} (h : last[o]? = some (-1)) : lastMap last (o : Int) = none := by
  unfold lastMap
  rw [if_pos (by omega), Int.toNat_natCast, h]
  rfl
theorem lastMap_some {last : List Int} {o : Nat} {t : Int} (h : last[o]? = some t) (ht : t ≠ -1) : lastMap last (o : Int) = some (.agg #[.bool true, .int .u64 t]) := by
  unfold lastMap
  rw [if_pos (by omega), Int.toNat_natCast, h]
  show (if t = -1 then none else _) = _
  rw [if_neg ht]
theorem zero_taken (w : World) : (zeroValue 151).run Tryz.prog w = .ok (.agg #[.bool false, .int .u64 0]) w := by
  obtain ⟨i, hi, hz, _, _⟩ := info_parts (show (Tryz.prog.info? 151).map (fun i => (i.zero, i.size, i.bytes)) = some (some (.agg #[.bool false, .int .u64 0]), 2, 16) by kernel_rfl)
  simp [zeroValue, typeInfo, hi, hz]
theorem look_taken {w : World} {mb : Nat} {last : List Int} (h : IMap w mb .i64 (lastMap last)) (o : Nat) : (Instr.lookup 94 (.map (some mb)) (.int .i64 (o : Int)) false).run Tryz.prog w = .ok ((lastMap last o).getD (.agg #[.bool false, .int .u64 0])) w :=
  run_lookup_imap (P := Tryz.prog) Tryz.underlying94 Tryz.underlying3 (zero_taken w) h (o : Int) false

set_option maxRecDepth 100000 in
set_option maxHeartbeats 4000000 in
theorem sfull_any (n : Int) (As : Option Addr) (ms cs b mb B o : Nat) (v : Value) (specs : List Sp) (ps : List StP) (last : List Int) (c : Cl) (s : Sp) (p : StP) (t : Int) (w : World) (hSo : SoAt w b n (.slice As ms cs) v mb) (hSt : StRow w B v ps) (hs : SlSp w (.slice As ms cs) specs) (hms : specs.length = ms)
    (hM : IMap w mb .i64 (lastMap last)) (hco : c.obj = (o : Int)) (hsp : specs[o]? = some s) (hp : ps[o]? = some p) (ht : last[o]? = some t) (he : p.1.length % 2 = 0) (hl : p.1.length ≤ 10000) (ht0 : 0 ≤ c.thread) (ht1 : c.thread < 100) (hm8 : ms ≤ 8) (hpm : ps.length = ms) :
    Calls Tryz.prog 83 #[.pointer (some ⟨b, 0, none⟩), clV c] w fun e w' => e = .returned (.bool (decide (s.p ≤ (ownN p.1 c.thread : Nat) + if t = c.thread then 1 else 0))) ∧ Below w.heap.size w w' := by
  obtain ⟨gr, rcap, rfl, _, hgr, _, hcr, hsl, htw⟩ := ob_get stEn_len hSt hp
  have hrow := hcr 0 _ rfl
  simp only [Nat.mul_one, Nat.add_zero] at hrow
  have hlo := (List.getElem?_eq_some_iff.1 hp).1
  obtain ⟨A', c', e', _, _, h3⟩ := id hs
  obtain ⟨gs, os, hA, hgs, hcc⟩ := h3 o s hsp
  cases e'
  subst hA
  obtain ⟨x0, x1, x2⟩ := spec_cells hcc
  obtain ⟨a0, a1, a2, a3, bz⟩ := cells4 hSo
  have hwt : IntKind.u64.wrap c.thread = c.thread := by rw [IntKind.wrap_u64]; omega
  obtain ⟨st, pA, pc⟩ := p
  obtain ⟨W, hW⟩ : ∃ W, W = w.alloc (.cells #[.int .i64 c.thread, .int .i64 c.obj, .int .i64 c.kind, .int .u64 c.a, .int .u64 c.b, .int .u64 c.c] 27) := ⟨_, rfl⟩
  have hBW : Below w.heap.size w W := by rw [hW]; exact (Below.refl _ _).alloc (Nat.le_refl _) _
  obtain ⟨c0, c1, _, _, _, _, cz⟩ := cells6 (show W.heap[w.heap.size]? = _ from by rw [hW]; exact heap_alloc_new _ _)
  have HIM := hide (hM.below hBW hM.lt)
  replace a0 := (hBW.cell (p := ⟨b, 0, none⟩) bz).trans a0
  replace a1 := (hBW.cell (p := ⟨b, 1, none⟩) bz).trans a1
  replace a2 := (hBW.cell (p := ⟨b, 2, none⟩) bz).trans a2
  replace a3 := (hBW.cell (p := ⟨b, 3, none⟩) bz).trans a3
  replace x1 := (hBW.cell (p := ⟨gs, os + o * 3 + 1, none⟩) hgs).trans x1
  have r0 := (hBW.cell (p := ⟨gr, o, none⟩) hgr).trans hrow
  have HSL : Hid (SlW W (.slice pA st.length pc) st) := hide (hsl.below hBW (Nat.le_refl _))
  have hzW := hBW.size
  replace bz : b < W.heap.size := by omega
  have gz : gr < W.heap.size := by omega
  have sz : gs < W.heap.size := by omega
  rw [hco] at c1
  have q0 : (0 : Int) ≤ (o : Int) := by omega
  have q1 : (o : Int) < (ps.length : Int) := by omega
  have q2 : (o : Int) < (specs.length : Int) := by omega
  have q3 : o < ps.length := by omega
  have q4 : o < specs.length := by omega
  have hl63 : (st.length : Int) ≤ 10000 := by have := hl; simp only at this; omega
  obtain ⟨L, hL⟩ : ∃ L, st.length = L := ⟨_, rfl⟩
  rw [hL] at hl63
  have he2 : L % 2 = 0 := by rw [← hL]; exact he
  have HBW := hide hBW
  have HLM : Hid (lastMap last (o : Int) = if t = -1 then none else some (.agg #[.bool true, .int .u64 t])) := hide (by
    by_cases h : t = -1
    · rw [if_pos h]; rw [h] at ht; exact lastMap_none ht
    · rw [if_neg h]; exact lastMap_some ht h)
  have hown : ((ownN st c.thread : Nat) : Int) ≤ 10000 := by
    have := own_le st c.thread (st.length / 2)
    unfold ownN
    omega
  have HOWN : Hid (ownN st c.thread = ownM st c.thread (L / 2)) := hide (by unfold ownN; rw [hL])
  obtain ⟨F, hF⟩ : ∃ F, (decide (s.p ≤ (ownN st c.thread : Nat) + if t = c.thread then 1 else 0)) = F := ⟨_, rfl⟩
  show Calls _ _ _ _ (fun e w' => e = .returned (.bool (decide (s.p ≤ (ownN st c.thread : Nat) + if t = c.thread then 1 else 0))) ∧ Below w.heap.size w w')
  rw [hF]
  have HF := hide hF
  have HL := hide hL
  rw [hL] at HSL r0
  clear hBW hM hrow hsl hsp hp hs h3 hcc x0 x2 hSo hSt hco ht hms he hl hF hgs hgr hcr htw hL
  go_enter Tryz.func83, Tryz.ntmps83
  go_wp2_with fail
  rw [← hW]
  clear hW
  refine wp_region_seq (Below W.heap.size W) (.take 0 <| .take 1 <| .take 2 <| .take 3 <| .take 4 <| .take 5 <| .take 6 <| .take 7 <| .take 8 <| .done) (by kernel_rfl) (by kernel_rfl) (by kernel_rfl) (by (repeat' (first | with_reducible assumption | with_reducible exact Below.refl _ _ | with_reducible refine Below.drew ?_ | with_reducible refine below_drewN ?_ _ | with_reducible refine Below.alloc ?_ ?_ _ | with_reducible refine Below.setCell ?_ ?_ _ | omega | (simp; done) | (simp; omega)))) ?_
  repeat (refine seq_take (v := ?_) rfl (by rfl) ?_ ?_; rotate_left; (focus (intro wS hS; (have z0 := (hS.cell (p := ⟨b, 0, none⟩) bz).trans a0; have z1 := (hS.cell (p := ⟨b, 1, none⟩) bz).trans a1; have z2 := (hS.cell (p := ⟨b, 2, none⟩) bz).trans a2; have z3 := (hS.cell (p := ⟨b, 3, none⟩) bz).trans a3; have y0 := (hS.cell (p := ⟨w.heap.size, 0, none⟩) cz).trans c0; have y1 := (hS.cell (p := ⟨w.heap.size, 1, none⟩) cz).trans c1; have k0 := (hS.cell (p := ⟨gr, o, none⟩) gz).trans r0; have k1 := (hS.cell (p := ⟨gs, os + o * 3 + 1, none⟩) sz).trans x1; have hlk := look_taken (HIM.out.below hS HIM.out.lt) o); go_simp; exact rfl)); simp only [Act.put, List.setIfInBounds_toArray, List.set_cons_zero, List.set_cons_succ])
  refine seq_nil ?_
  go_wp2
  go_loopw [5, 7] (fun u i wr => ∃ k : Nat, 2 * k ≤ L ∧ i = .int .i64 (2 * (k : Int)) ∧ u = .int .i64 (ownM st c.thread k : Nat) ∧ Hid (∃ n, wr = W.drewN n)) (fun _ i _ => L - (intOf i).toNat)
  case atStart => exact ⟨0, Nat.zero_le _, rfl, rfl, hide ⟨_, rfl⟩⟩
  case round =>
    obtain ⟨k, hk, rfl, rfl, hn⟩ := hrel
    obtain ⟨nn, rfl⟩ := hn.out
    by_cases hlt : 2 * k < L
    · obtain ⟨x, hx⟩ : ∃ x, st[2 * k]? = some x := ⟨_, List.getElem?_eq_getElem (by have := HL.out; omega)⟩
      obtain ⟨sb, so, rfl, cx, hsb⟩ := sl_at HSL.out (2 * k) x hx
      have hs := own_succ (t := c.thread) hx
      have hle := own_le st c.thread k
      have p0 : (0 : Int) ≤ 2 * (k : Int) := by omega
      have p1 : 2 * (k : Int) < (L : Int) := by omega
      have p2 : (2 * (k : Int)).toNat = 2 * k := by omega
      have p3 : ((ownM st c.thread k : Nat) : Int) ≤ 10000 := by omega
      by_cases hxt : x = c.thread
      · have d0 : (x == c.thread) = true := by simpa using hxt
        rw [if_pos hxt] at hs
        have HSu := hide hs
        clear hx hs hxt
        go_wp2_with fail
        refine wp_region_seq (Below W.heap.size W) (.take 0 <| .take 1 <| .take 2 <| .take 3 <| .take 4 <| .take 5 <| .take 6 <| .take 7 <| .done) (by kernel_rfl) (by kernel_rfl) (by kernel_rfl) (by (repeat' (first | with_reducible assumption | with_reducible exact Below.refl _ _ | with_reducible refine Below.drew ?_ | with_reducible refine below_drewN ?_ _ | with_reducible refine Below.alloc ?_ ?_ _ | with_reducible refine Below.setCell ?_ ?_ _ | omega | (simp; done) | (simp; omega)))) ?_
        repeat (refine seq_take (v := ?_) rfl (by rfl) ?_ ?_; rotate_left; (focus (intro wS hS; have y0 := (hS.cell (p := ⟨w.heap.size, 0, none⟩) cz).trans c0; have k2 := (hS.cell (p := ⟨sb, so + 2 * k, none⟩) hsb).trans cx; go_simp; exact rfl)); simp only [Act.put, List.setIfInBounds_toArray, List.set_cons_zero, List.set_cons_succ])
        refine seq_nil ?_
        go_wp2
        go_roundw
        case rel => exact ⟨k + 1, by omega, by go_num, by rw [HSu.out]; go_num, hide ⟨_, rfl⟩⟩
        case measure => first | (simp [intOf]; done) | (simp [intOf]; omega)
      · have d0 : (x == c.thread) = false := by simpa using hxt
        rw [if_neg hxt] at hs
        have HSu := hide hs
        clear hx hs hxt
        go_wp2_with fail
        refine wp_region_seq (Below W.heap.size W) (.take 0 <| .take 1 <| .take 2 <| .take 3 <| .take 4 <| .take 5 <| .take 6 <| .take 7 <| .done) (by kernel_rfl) (by kernel_rfl) (by kernel_rfl) (by (repeat' (first | with_reducible assumption | with_reducible exact Below.refl _ _ | with_reducible refine Below.drew ?_ | with_reducible refine below_drewN ?_ _ | with_reducible refine Below.alloc ?_ ?_ _ | with_reducible refine Below.setCell ?_ ?_ _ | omega | (simp; done) | (simp; omega)))) ?_
        repeat (refine seq_take (v := ?_) rfl (by rfl) ?_ ?_; rotate_left; (focus (intro wS hS; have y0 := (hS.cell (p := ⟨w.heap.size, 0, none⟩) cz).trans c0; have k2 := (hS.cell (p := ⟨sb, so + 2 * k, none⟩) hsb).trans cx; go_simp; exact rfl)); simp only [Act.put, List.setIfInBounds_toArray, List.set_cons_zero, List.set_cons_succ])
        refine seq_nil ?_
        go_wp2
        go_roundw
        case rel => exact ⟨k + 1, by omega, by go_num, by rw [HSu.out]; go_num, hide ⟨_, rfl⟩⟩
        case measure => first | (simp [intOf]; done) | (simp [intOf]; omega)
    · have hkk : k = L / 2 := by omega
      have hown2 : (ownM st c.thread k : Nat) = ownN st c.thread := by rw [HOWN.out, hkk]
      rw [hown2]
      have d9 : decide (2 * (k : Int) < (L : Int)) = false := by simp; omega
      have hlm := HLM.out
      clear hn hkk hown2
      by_cases ht1' : t = -1
      · have hf2 := HF.out
        rw [if_neg (show ¬ t = c.thread by omega)] at hf2
        rw [if_pos ht1'] at hlm
        clear HLM
        have HF2 := hide hf2
        have HLM := hide hlm
        clear hf2 hlm hlt ht1'
        go_wp2_with fail
        refine wp_region_seq (Below W.heap.size W) (.take 0 <| .take 1 <| .take 2 <| .take 3 <| .take 4 <| .take 5 <| .take 6 <| .take 7 <| .take 8 <| .take 9 <| .take 10 <| .take 11 <| .done) (by kernel_rfl) (by kernel_rfl) (by kernel_rfl) (by (repeat' (first | with_reducible assumption | with_reducible exact Below.refl _ _ | with_reducible refine Below.drew ?_ | with_reducible refine below_drewN ?_ _ | with_reducible refine Below.alloc ?_ ?_ _ | with_reducible refine Below.setCell ?_ ?_ _ | omega | (simp; done) | (simp; omega)))) ?_
        repeat (refine seq_take (v := ?_) rfl (by rfl) ?_ ?_; rotate_left; (focus (intro wS hS; (have z0 := (hS.cell (p := ⟨b, 0, none⟩) bz).trans a0; have z1 := (hS.cell (p := ⟨b, 1, none⟩) bz).trans a1; have z2 := (hS.cell (p := ⟨b, 2, none⟩) bz).trans a2; have z3 := (hS.cell (p := ⟨b, 3, none⟩) bz).trans a3; have y0 := (hS.cell (p := ⟨w.heap.size, 0, none⟩) cz).trans c0; have y1 := (hS.cell (p := ⟨w.heap.size, 1, none⟩) cz).trans c1; have k0 := (hS.cell (p := ⟨gr, o, none⟩) gz).trans r0; have k1 := (hS.cell (p := ⟨gs, os + o * 3 + 1, none⟩) sz).trans x1; have hlk := look_taken (HIM.out.below hS HIM.out.lt) o); rw [HLM.out] at hlk; go_simp; exact rfl)); simp only [Act.put, List.setIfInBounds_toArray, List.set_cons_zero, List.set_cons_succ])
        refine seq_nil ?_
        go_wp2_with fail
        refine wp_region_seq (Below W.heap.size W) (.take 0 <| .take 1 <| .take 2 <| .take 3 <| .take 4 <| .take 5 <| .take 6 <| .take 7 <| .take 8 <| .take 9 <| .take 10 <| .take 11 <| .done) (by kernel_rfl) (by kernel_rfl) (by kernel_rfl) (by (repeat' (first | with_reducible assumption | with_reducible exact Below.refl _ _ | with_reducible refine Below.drew ?_ | with_reducible refine below_drewN ?_ _ | with_reducible refine Below.alloc ?_ ?_ _ | with_reducible refine Below.setCell ?_ ?_ _ | omega | (simp; done) | (simp; omega)))) ?_
        repeat (refine seq_take (v := ?_) rfl (by rfl) ?_ ?_; rotate_left; (focus (intro wS hS; (have z0 := (hS.cell (p := ⟨b, 0, none⟩) bz).trans a0; have z1 := (hS.cell (p := ⟨b, 1, none⟩) bz).trans a1; have z2 := (hS.cell (p := ⟨b, 2, none⟩) bz).trans a2; have z3 := (hS.cell (p := ⟨b, 3, none⟩) bz).trans a3; have y0 := (hS.cell (p := ⟨w.heap.size, 0, none⟩) cz).trans c0; have y1 := (hS.cell (p := ⟨w.heap.size, 1, none⟩) cz).trans c1; have k0 := (hS.cell (p := ⟨gr, o, none⟩) gz).trans r0; have k1 := (hS.cell (p := ⟨gs, os + o * 3 + 1, none⟩) sz).trans x1; have hlk := look_taken (HIM.out.below hS HIM.out.lt) o); go_simp; exact rfl)); simp only [Act.put, List.setIfInBounds_toArray, List.set_cons_zero, List.set_cons_succ])
        refine seq_nil ?_
        go_wp2
        go_ret
        refine ⟨ret_bool ?_, ?_⟩
        · rw [← HF2.out] <;> simp
        · exact HBW.out.trans (Below.mono (B := W.heap.size) (by (repeat' (first | with_reducible assumption | with_reducible exact Below.refl _ _ | with_reducible refine Below.drew ?_ | with_reducible refine below_drewN ?_ _ | with_reducible refine Below.alloc ?_ ?_ _ | with_reducible refine Below.setCell ?_ ?_ _ | omega | (simp; done) | (simp; omega)))) (by have := HBW.out.size; omega))
      · rw [if_neg ht1'] at hlm
        clear HLM
        have HLM := hide hlm
        clear hlm
        by_cases htt : t = c.thread
        · have hf2 := HF.out
          rw [if_pos htt] at hf2
          have HF2 := hide hf2
          have e0 : (t == c.thread) = true := by simpa using htt
          clear hf2 hlt ht1' htt
          go_wp2_with fail
          refine wp_region_seq (Below W.heap.size W) (.take 0 <| .take 1 <| .take 2 <| .take 3 <| .take 4 <| .take 5 <| .take 6 <| .take 7 <| .take 8 <| .take 9 <| .take 10 <| .take 11 <| .done) (by kernel_rfl) (by kernel_rfl) (by kernel_rfl) (by (repeat' (first | with_reducible assumption | with_reducible exact Below.refl _ _ | with_reducible refine Below.drew ?_ | with_reducible refine below_drewN ?_ _ | with_reducible refine Below.alloc ?_ ?_ _ | with_reducible refine Below.setCell ?_ ?_ _ | omega | (simp; done) | (simp; omega)))) ?_
          repeat (refine seq_take (v := ?_) rfl (by rfl) ?_ ?_; rotate_left; (focus (intro wS hS; (have z0 := (hS.cell (p := ⟨b, 0, none⟩) bz).trans a0; have z1 := (hS.cell (p := ⟨b, 1, none⟩) bz).trans a1; have z2 := (hS.cell (p := ⟨b, 2, none⟩) bz).trans a2; have z3 := (hS.cell (p := ⟨b, 3, none⟩) bz).trans a3; have y0 := (hS.cell (p := ⟨w.heap.size, 0, none⟩) cz).trans c0; have y1 := (hS.cell (p := ⟨w.heap.size, 1, none⟩) cz).trans c1; have k0 := (hS.cell (p := ⟨gr, o, none⟩) gz).trans r0; have k1 := (hS.cell (p := ⟨gs, os + o * 3 + 1, none⟩) sz).trans x1; have hlk := look_taken (HIM.out.below hS HIM.out.lt) o); rw [HLM.out] at hlk; go_simp; exact rfl)); simp only [Act.put, List.setIfInBounds_toArray, List.set_cons_zero, List.set_cons_succ])
          refine seq_nil ?_
          go_wp2_with fail
          refine wp_region_seq (Below W.heap.size W) (.take 0 <| .take 1 <| .take 2 <| .take 3 <| .take 4 <| .take 5 <| .take 6 <| .take 7 <| .take 8 <| .take 9 <| .take 10 <| .take 11 <| .done) (by kernel_rfl) (by kernel_rfl) (by kernel_rfl) (by (repeat' (first | with_reducible assumption | with_reducible exact Below.refl _ _ | with_reducible refine Below.drew ?_ | with_reducible refine below_drewN ?_ _ | with_reducible refine Below.alloc ?_ ?_ _ | with_reducible refine Below.setCell ?_ ?_ _ | omega | (simp; done) | (simp; omega)))) ?_
          repeat (refine seq_take (v := ?_) rfl (by rfl) ?_ ?_; rotate_left; (focus (intro wS hS; (have z0 := (hS.cell (p := ⟨b, 0, none⟩) bz).trans a0; have z1 := (hS.cell (p := ⟨b, 1, none⟩) bz).trans a1; have z2 := (hS.cell (p := ⟨b, 2, none⟩) bz).trans a2; have z3 := (hS.cell (p := ⟨b, 3, none⟩) bz).trans a3; have y0 := (hS.cell (p := ⟨w.heap.size, 0, none⟩) cz).trans c0; have y1 := (hS.cell (p := ⟨w.heap.size, 1, none⟩) cz).trans c1; have k0 := (hS.cell (p := ⟨gr, o, none⟩) gz).trans r0; have k1 := (hS.cell (p := ⟨gs, os + o * 3 + 1, none⟩) sz).trans x1; have hlk := look_taken (HIM.out.below hS HIM.out.lt) o); go_simp; exact rfl)); simp only [Act.put, List.setIfInBounds_toArray, List.set_cons_zero, List.set_cons_succ])
          refine seq_nil ?_
          go_wp2
          go_ret
          refine ⟨ret_bool ?_, ?_⟩
          · rw [← HF2.out] <;> simp
          · exact HBW.out.trans (Below.mono (B := W.heap.size) (by (repeat' (first | with_reducible assumption | with_reducible exact Below.refl _ _ | with_reducible refine Below.drew ?_ | with_reducible refine below_drewN ?_ _ | with_reducible refine Below.alloc ?_ ?_ _ | with_reducible refine Below.setCell ?_ ?_ _ | omega | (simp; done) | (simp; omega)))) (by have := HBW.out.size; omega))
        · have hf2 := HF.out
          rw [if_neg htt] at hf2
          have HF2 := hide hf2
          have e0 : (t == c.thread) = false := by simpa using htt
          clear hf2 hlt ht1' htt
          go_wp2_with fail
          refine wp_region_seq (Below W.heap.size W) (.take 0 <| .take 1 <| .take 2 <| .take 3 <| .take 4 <| .take 5 <| .take 6 <| .take 7 <| .take 8 <| .take 9 <| .take 10 <| .take 11 <| .done) (by kernel_rfl) (by kernel_rfl) (by kernel_rfl) (by (repeat' (first | with_reducible assumption | with_reducible exact Below.refl _ _ | with_reducible refine Below.drew ?_ | with_reducible refine below_drewN ?_ _ | with_reducible refine Below.alloc ?_ ?_ _ | with_reducible refine Below.setCell ?_ ?_ _ | omega | (simp; done) | (simp; omega)))) ?_
          repeat (refine seq_take (v := ?_) rfl (by rfl) ?_ ?_; rotate_left; (focus (intro wS hS; (have z0 := (hS.cell (p := ⟨b, 0, none⟩) bz).trans a0; have z1 := (hS.cell (p := ⟨b, 1, none⟩) bz).trans a1; have z2 := (hS.cell (p := ⟨b, 2, none⟩) bz).trans a2; have z3 := (hS.cell (p := ⟨b, 3, none⟩) bz).trans a3; have y0 := (hS.cell (p := ⟨w.heap.size, 0, none⟩) cz).trans c0; have y1 := (hS.cell (p := ⟨w.heap.size, 1, none⟩) cz).trans c1; have k0 := (hS.cell (p := ⟨gr, o, none⟩) gz).trans r0; have k1 := (hS.cell (p := ⟨gs, os + o * 3 + 1, none⟩) sz).trans x1; have hlk := look_taken (HIM.out.below hS HIM.out.lt) o); rw [HLM.out] at hlk; go_simp; exact rfl)); simp only [Act.put, List.setIfInBounds_toArray, List.set_cons_zero, List.set_cons_succ])
          refine seq_nil ?_
          go_wp2_with fail
          refine wp_region_seq (Below W.heap.size W) (.take 0 <| .take 1 <| .take 2 <| .take 3 <| .take 4 <| .take 5 <| .take 6 <| .take 7 <| .take 8 <| .take 9 <| .take 10 <| .take 11 <| .done) (by kernel_rfl) (by kernel_rfl) (by kernel_rfl) (by (repeat' (first | with_reducible assumption | with_reducible exact Below.refl _ _ | with_reducible refine Below.drew ?_ | with_reducible refine below_drewN ?_ _ | with_reducible refine Below.alloc ?_ ?_ _ | with_reducible refine Below.setCell ?_ ?_ _ | omega | (simp; done) | (simp; omega)))) ?_
          repeat (refine seq_take (v := ?_) rfl (by rfl) ?_ ?_; rotate_left; (focus (intro wS hS; (have z0 := (hS.cell (p := ⟨b, 0, none⟩) bz).trans a0; have z1 := (hS.cell (p := ⟨b, 1, none⟩) bz).trans a1; have z2 := (hS.cell (p := ⟨b, 2, none⟩) bz).trans a2; have z3 := (hS.cell (p := ⟨b, 3, none⟩) bz).trans a3; have y0 := (hS.cell (p := ⟨w.heap.size, 0, none⟩) cz).trans c0; have y1 := (hS.cell (p := ⟨w.heap.size, 1, none⟩) cz).trans c1; have k0 := (hS.cell (p := ⟨gr, o, none⟩) gz).trans r0; have k1 := (hS.cell (p := ⟨gs, os + o * 3 + 1, none⟩) sz).trans x1; have hlk := look_taken (HIM.out.below hS HIM.out.lt) o); go_simp; exact rfl)); simp only [Act.put, List.setIfInBounds_toArray, List.set_cons_zero, List.set_cons_succ])
          refine seq_nil ?_
          go_wp2
          go_ret
          refine ⟨ret_bool ?_, ?_⟩
          · rw [← HF2.out] <;> simp
          · exact HBW.out.trans (Below.mono (B := W.heap.size) (by (repeat' (first | with_reducible assumption | with_reducible exact Below.refl _ _ | with_reducible refine Below.drew ?_ | with_reducible refine below_drewN ?_ _ | with_reducible refine Below.alloc ?_ ?_ _ | with_reducible refine Below.setCell ?_ ?_ _ | omega | (simp; done) | (simp; omega)))) (by have := HBW.out.size; omega))
end Go.Proofs.YtmiimpmfkjcjlaaGreat
