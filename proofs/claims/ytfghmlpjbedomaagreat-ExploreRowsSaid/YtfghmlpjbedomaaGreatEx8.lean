/- All plays of two threads that propose (explore.All), walked. -/
import Derived.Shelf.Abstract
import Derived.Test.YtfghmlpjbedomaaGreatEx5
namespace Go.Proofs.YtfghmlpjbedomaaGreat
open Go.RowKit Go.Maps

theorem keepK_bx {K : Nat → Prop} {w : World} (hK : ∀ k, K k → k < w.heap.size) (W : World) (l : Nat) (o o' : Obj) (hl : w.heap.size ≤ l) (h : W.heap[l]? = some o) (_ : o.isCells = false) (_ : o.isWalk = false) : Keep K W (W.putObj l o') :=
  have hg := grownBy_putObj' W l o'
  ⟨hg.os, hg.tape, hg.output, hg.size, fun k hk => hg.block k (by have := (Array.getElem?_eq_some_iff.1 h).1; have := hK k hk; omega) (fun e => by have := hK k hk; cases e; omega)⟩
attribute [local go_sem] Oper.semAt_some
set_option maxRecDepth 100000 in
set_option maxHeartbeats 4000000 in
theorem allW {B cc : Nat} {A : Option Addr} {c : Nat} (w : World) (hs : SlSp w (.slice (some ⟨B, 0, none⟩) 1 cc) [⟨1, 0, 0⟩]) (h : SlCl w (.slice A 2 c) exC) :
    Calls Tryz.prog 19 #[.int .i64 2, .slice (some ⟨B, 0, none⟩) 1 cc, .slice A 2 c, .int .i64 4] w fun e w' => (∃ q : Int, e = .returned (.tuple #[.agg #[.int .i64 16, .int .i64 6, .int .i64 2, .int .i64 q], .int .i64 0])) ∧ Below w.heap.size w w' := by
  refine (callsIn_wide (n := 8)).1 ?_
  refine callsIn_of_wp_marks Tryz.func19 rfl trivial ?_ rfl
  simp only [Tryz.ntmps19, List.size_toArray, List.length_cons, List.length_nil, Nat.reduceAdd, Nat.reduceSub, Array.replicate_succ, Array.replicate_zero, List.push_toArray, List.append_toArray, List.nil_append, List.cons_append]
  gi_wp2
  refine (wpIn_wide (n := 8)).2 (wp_scope_straight ((wpIn_wide (n := 8)).1 ?_))
  gi_wp2
  obtain ⟨X, hX⟩ : ∃ X, X = ((((w.alloc (.cells #[.int .i64 2] 3)).alloc (.cells #[.slice (some ⟨B, 0, none⟩) 1 cc] 52)).alloc (.cells #[.slice A 2 c] 55)).alloc (.cells #[.int .i64 0, .int .i64 0, .int .i64 0, .int .i64 0] 46)).alloc (.cells #[.int .i64 0] 47) := ⟨_, rfl⟩
  rw [← hX]
  have hBX : Below w.heap.size w X := by rw [hX]; exact (((((Below.refl _ _).alloc (Nat.le_refl _) _).alloc (by simp) _).alloc (by simp; omega) _).alloc (by simp; omega) _).alloc (by simp; omega) _
  have hzX : X.heap.size = w.heap.size + 5 := by rw [hX]; simp
  have b0 : Boxed X w.heap.size 3 (.int .i64 2) := by
    rw [hX]
    exact ((((Boxed.new w 3 (.int .i64 2)).alloc _).alloc _).alloc _).alloc _
  have b1 : Boxed X (w.heap.size + 1) 52 (.slice (some ⟨B, 0, none⟩) 1 cc) := by
    rw [hX]
    have h := (((Boxed.new (w.alloc (.cells #[.int .i64 2] 3)) 52 (.slice (some ⟨B, 0, none⟩) 1 cc)).alloc (.cells #[.slice A 2 c] 55)).alloc (.cells #[.int .i64 0, .int .i64 0, .int .i64 0, .int .i64 0] 46)).alloc (.cells #[.int .i64 0] 47)
    simpa using h
  have b2 : Boxed X (w.heap.size + 1 + 1) 55 (.slice A 2 c) := by
    rw [hX]
    have h := ((Boxed.new ((w.alloc (.cells #[.int .i64 2] 3)).alloc (.cells #[.slice (some ⟨B, 0, none⟩) 1 cc] 52)) 55 (.slice A 2 c)).alloc (.cells #[.int .i64 0, .int .i64 0, .int .i64 0, .int .i64 0] 46)).alloc (.cells #[.int .i64 0] 47)
    simpa using h
  have b3 : X.heap[w.heap.size + 1 + 1 + 1]? = some (.cells #[.int .i64 0, .int .i64 0, .int .i64 0, .int .i64 0] 46 (0, 0)) := by
    rw [hX]
    have h1 := heap_alloc_new (((w.alloc (.cells #[.int .i64 2] 3)).alloc (.cells #[.slice (some ⟨B, 0, none⟩) 1 cc] 52)).alloc (.cells #[.slice A 2 c] 55)) (.cells #[.int .i64 0, .int .i64 0, .int .i64 0, .int .i64 0] 46)
    have hz : (((w.alloc (.cells #[.int .i64 2] 3)).alloc (.cells #[.slice (some ⟨B, 0, none⟩) 1 cc] 52)).alloc (.cells #[.slice A 2 c] 55)).heap.size = w.heap.size + 1 + 1 + 1 := by simp
    rw [hz] at h1
    exact Eq.trans (Below.heap_alloc _ _ _ (by simp)) h1
  have b4 : Boxed X (w.heap.size + 1 + 1 + 1 + 1) 47 (.int .i64 0) := by
    rw [hX]
    have h := Boxed.new ((((w.alloc (.cells #[.int .i64 2] 3)).alloc (.cells #[.slice (some ⟨B, 0, none⟩) 1 cc] 52)).alloc (.cells #[.slice A 2 c] 55)).alloc (.cells #[.int .i64 0, .int .i64 0, .int .i64 0, .int .i64 0] 46)) 47 (.int .i64 0)
    simpa using h
  have HS := hide (hs.below hBX (Nat.le_refl _))
  have HC := hide (h.below hBX (Nat.le_refl _))
  have HBX := hide hBX
  clear hX hBX hs h
  have N0 := rnPlay (n := 2) (by omega) (Ap := none) (np := 0) (cp := 0) (picks := []) HS.out HC.out rfl ⟨none, 0, rfl, Nat.le_refl _, Nat.zero_le _, fun k x hx => by simp at hx⟩ rfl (exC_chk 0 (by omega)) exC_ok.1 exC_ok.2
  refine ⟨trivial, (callsIn_wide.2 N0).mono ?_⟩
  rintro e1 w1 ho
  obtain ⟨Ae, ce, B', Mu, Aw, nw, cw, r1, r2, r3, r4, r5, r6, r7, rfl, _, _, hb1⟩ := rnOut ho
  clear N0 ho
  have k1 := Keep.of_below (K := fun k => k < X.heap.size) hb1 (fun k hk => hk)
  have c0 := (b0.keepK k1 (by show _ < _; omega)).cell
  have HB1 := hide (HBX.out.trans (hb1.mono (by omega)))
  have hz1 := hb1.size
  have hz0 : w.heap.size < w1.heap.size := by omega
  have hz01 : w.heap.size < w1.heap.size + 1 := by omega
  have hz02 : w.heap.size < w1.heap.size + 1 + 1 := by omega
  have HK1 := hide k1
  clear k1 hb1
  gi_wp2
  refine ⟨trivial, (callsIn_wide.2 (rows24 _)).mono ?_⟩
  rintro e2 w2 ⟨rfl, rfl⟩
  gi_wp2
  refine wpIn_label ?_
  gi_wp2
  refine ⟨trivial, (callsIn_wide.2 (each24 _)).mono ?_⟩
  rintro e2 w2 ⟨rfl, rfl⟩
  gi_wp2
  obtain ⟨zb, hzb⟩ : ∃ zb, w1.heap.size = zb := ⟨_, rfl⟩
  obtain ⟨Y, hY⟩ : ∃ Y, Y = ((((w1.alloc (.cells #[.slice Ae (Ps.ends cnG (cnPlay exC [])).length ce, .slice Aw nw cw, .int .i64 r1, .int .i64 r2, .int .i64 r3, .int .i64 r4, .int .i64 r5, .int .i64 r6, .int .i64 r7] 60)).alloc (.cells #[.int .i64 0, .int .i64 0, .int .i64 0, .int .i64 0] 46)).alloc (.cells #[.slice none 0 0] 80)).alloc (.cells #[.int .i64 2] 3)).alloc (.cells #[.int .i64 4] 3) := ⟨_, rfl⟩
  rw [← hY]
  have hyz : Y.heap.size = zb + 5 := by rw [hY, ← hzb]; simp
  have hKY : Keep (fun k => k < zb) w1 Y := by
    rw [hY, ← hzb]
    exact Keep.of_below ((((((Below.refl _ _).alloc (Nat.le_refl _) _).alloc (by simp) _).alloc (by simp; omega) _).alloc (by simp; omega) _).alloc (by simp; omega) _) (fun k hk => hk)
  have hy5 := five_at w1 _ _ _ _ _ hY
  rw [hzb] at hy5
  obtain ⟨y1, y2, y3', y4'⟩ := hy5
  have y3 : Y.cell? ⟨zb + 3, 0, none⟩ = some (.int .i64 2) := Boxed.cell (t := 3) y3'
  have y4 : Y.cell? ⟨zb + 3 + 1, 0, none⟩ = some (.int .i64 4) := Boxed.cell (t := 3) y4'
  rw [hzb]
  have d1 := (b1.keepK HK1.out (by show _ < _; omega)).keepK hKY (by show _ < _; omega)
  have d0 := (b0.keepK HK1.out (by show _ < _; omega)).keepK hKY (by show _ < _; omega)
  have d2 := (b2.keepK HK1.out (by show _ < _; omega)).keepK hKY (by show _ < _; omega)
  have hBz : B < X.heap.size := sl_block HS.out rfl (by simp)
  have hAz : ∀ a : Addr, A = some a → a.block < X.heap.size := fun a e => sl_block HC.out e (by simp [exC])
  have HSY := hide (sl_keepG (sl_keepG HS.out HK1.out (fun a e _ => by cases e; exact hBz)) hKY (fun a e _ => by cases e; show B < zb; omega))
  have HCY := hide (sl_keepG (sl_keepG HC.out HK1.out (fun a e _ => hAz a e)) hKY (fun a e _ => by have := hAz a e; show _ < _; omega))
  clear hY
  have HAZ := hide hAz
  have HBZ := hide hBz
  have hst := each_stops 7 (by omega) (zb + 3) Y (by omega) y3 y4
  have HST := hide hst
  have HKY := hide hKY
  have HD0 := hide d0
  have HD1 := hide d1
  have HD2 := hide d2
  have HD3 := hide ((hKY.block _ (by show w.heap.size + 1 + 1 + 1 < zb; omega)).trans ((HK1.out.block _ (by show w.heap.size + 1 + 1 + 1 < X.heap.size; omega)).trans b3))
  have HD4 := hide ((b4.keepK HK1.out (by show _ < _; omega)).keepK hKY (by show _ < _; omega))
  have HY1 := hide y1
  have HY2 := hide y2
  clear hst hKY d0 d1 d2 y1 y2 y3 y4 y3' y4' hAz hBz b0 b1 b2 b3 b4 c0
  refine rangeFunc_Q (F := Fence.wide) (n := 8) rfl (by omega) (gf := 47) (lb := #[.pointer (some ⟨zb + 3, 0, none⟩), .pointer (some ⟨zb + 3 + 1, 0, none⟩)]) rfl trivial (enters_of Tryz.func47 (by kernel_rfl) rfl)
    HST.out (fun h k => h.trans k) ?hKb (Below.refl _ _) (fun _ => rfl) pk_put
    (fun pre W => AllI (zb + 5) (zb + 1) (zb + 2) Y (pre.map (·.2)) W ∧ zb + 5 ≤ W.heap.size)
    (fun _ _ _ => False)
    ?hI (fun _ _ _ _ _ hs _ _ => hs) ?h0
    ?a1 ?assign ?body ?done ?stop
  case assign =>
    intro l x W K hK
    unfold pkEnc
    gi_wp2
    first | exact hK | simpa using hK
  case body =>
    intro l pre x W hI0 hlen hpm0
    obtain ⟨hI, hWz⟩ := hI0
    obtain ⟨⟨pb, pc⟩, pi⟩ := x
    obtain ⟨hpS, hpi⟩ := hpm0
    have kI := hI.keep
    have m0 := (HD0.out.keepK kI ⟨by omega, by omega, by omega⟩).cell
    have m1 := (HD1.out.keepK kI ⟨by omega, by omega, by omega⟩).cell
    have m2 := (HD2.out.keepK kI ⟨by omega, by omega, by omega⟩).cell
    have hsW := sl_keepG HSY.out kI (fun a e _ => by cases e; have := HBZ.out; exact ⟨by show B < _; omega, by show B ≠ _; omega, by show B ≠ _; omega⟩)
    have hcW := sl_keepG HCY.out kI (fun a e _ => by have := HAZ.out a e; exact ⟨by omega, by omega, by omega⟩)
    have N1 := rnPlay (n := 2) (by omega) (Ap := some ⟨pb, 0, none⟩) (np := 4) (cp := pc) (picks := rowD 2 4 pi) hsW hcW rfl hpS (rowD_len 2 4 pi) (exC_chk 4 (by omega)) exC_ok.1 exC_ok.2
    have bd := exF_bd (pre.map (·.2))
    obtain ⟨p, hp⟩ : ∃ p, (exF (pre.map (·.2))).1 = p := ⟨_, rfl⟩
    obtain ⟨d, hd⟩ : ∃ d, (exF (pre.map (·.2))).2.1 = d := ⟨_, rfl⟩
    obtain ⟨m, hm⟩ : ∃ m, (exF (pre.map (·.2))).2.2 = m := ⟨_, rfl⟩
    rw [hp, hd] at bd
    have hf0 := hI.found
    rw [hp, hd, hm] at hf0
    have bp : 0 ≤ p ∧ p ≤ 16 := by rw [bd.1]; simp; omega
    have bdd : 0 ≤ d ∧ d ≤ 16 := by have h1 := bd.2; simp at h1; omega
    have HI := hide hI
    have HP := hide hp
    have HD := hide hd
    have HM := hide hm
    clear hI hp hd hm bd hsW hcW hpS
    gi_wp2
    refine ⟨trivial, (CallsIn.inRound l (callsIn_wide.2 N1)).mono ?_⟩
    rintro e1 W1 ho
    obtain ⟨Ae, ce, B', Mu, Aw, nw, cw, r1, r2, r3, r4, r5, r6, r7, rfl, hev, hBW, hb1⟩ := rnOut (evs := exEvs pi) ho
    clear N1 ho
    have hz1 : zb + 5 ≤ W1.heap.size := by have := hb1.size; omega
    have hf1 : W1.heap[zb + 1]? = _ := (hb1.block _ (by omega)).trans hf0
    have q0 := cell_of_row _ _ 0 _ _ _ hf1
    have fz := frozen_of_row W1 (zb + 1) 0 _ _ hf1
    have kp : IntKind.i64.wrap (p + 1) = p + 1 := wrap_i64 (by omega) (by omega)
    have hlt1 : zb + 1 < W1.heap.size := by omega
    have hne1 : ¬ zb + 1 = W1.heap.size := by omega
    have hne2 : ¬ W1.heap.size = zb + 1 := by omega
    have hmm := @run_makeMap Tryz.prog
    have HEV := hide hev
    have HB1' := hide hb1
    have HF1 := hide hf1
    have HM2 := hide m2
    clear hb1 hev hf1 hf0 m0 m1 m2
    gi_wp2
    obtain ⟨zr, hzr⟩ : ∃ zr, W1.heap.size = zr := ⟨_, rfl⟩
    obtain ⟨Z, hZ⟩ : ∃ Z, Z = (((W1.setCell ⟨zb + 1, 0, none⟩ (.int .i64 (p + 1))).alloc (.cells #[.slice Ae (exEvs pi).length ce, .slice Aw nw cw, .int .i64 r1, .int .i64 r2, .int .i64 r3, .int .i64 r4, .int .i64 r5, .int .i64 r6, .int .i64 r7] 60)).alloc (.map #[] 0)) := ⟨_, rfl⟩
    have hR0 : RdI (zb + 1) zr (zr + 1) W1 (p + 1) d m 0 (exD []) Z := by
      have hs1 : ((W1.setCell ⟨zb + 1, 0, none⟩ (.int .i64 (p + 1))).alloc (.cells #[.slice Ae (exEvs pi).length ce, .slice Aw nw cw, .int .i64 r1, .int .i64 r2, .int .i64 r3, .int .i64 r4, .int .i64 r5, .int .i64 r6, .int .i64 r7] 60)).heap.size = zr + 1 := by simp [hzr]
      rw [hZ]
      refine ⟨?_, ?_, ?_, by omega⟩
      · refine (Below.heap_alloc _ _ _ (by rw [hs1]; omega)).trans ((Below.heap_alloc _ _ _ (by simp; omega)).trans ?_)
        rw [cells_set HF1.out]
        rfl
      · rw [← hs1]
        exact World.ownsMap_made _ _ _ _
      · exact (((Keep.refl _ W1).setCell (fun hk => hk.2 rfl) _).alloc (fun k hk => by simp; omega) _).alloc (fun k hk => by rw [hs1]; omega) _
    rw [← hZ, hzr]
    have hex := ex_facts pi hpi
    have HEX := hide hex
    have hln : (exEvs pi).length ≤ 2 := hex.2.1
    have HR0 := hide hR0
    clear hZ hR0 hex q0 fz kp hlt1 hne1 hne2 hmm HF1
    gi_loopw [71] (fun i wr => ∃ k : Nat, k ≤ (exEvs pi).length ∧ i = .int .i64 (k : Int) ∧ Hid (RdI (zb + 1) zr (zr + 1) W1 (p + 1) d (exMost m ((exEvs pi).take k)) k (exD ((exEvs pi).take k)) wr)) (fun i _ => (exEvs pi).length - (intOf i).toNat)
    case atStart => exact ⟨0, Nat.zero_le _, rfl, HR0⟩
    case round =>
      obtain ⟨k, hk, rfl, hR⟩ := hrel
      by_cases hlt : k < (exEvs pi).length
      · have hltI : (k : Int) < ((exEvs pi).length : Int) := by omega
        have hk0 : (0 : Int) ≤ (k : Int) := by omega
        obtain ⟨e, he⟩ : ∃ e, (exEvs pi)[k]? = some e := ⟨_, List.getElem?_eq_getElem hlt⟩
        obtain ⟨ge, ce', e1, hBg, hgz, hx⟩ := ev_of HEV.out (by omega)
        obtain ⟨x, hi, hr⟩ := hx k e he
        cases e1
        have hec := (HEX.out.2.2 e (List.mem_of_getElem? he))
        have hl0 := ans_list0 hi hec.2
        have hec1 := hec.1
        have hkp := hR.out.keep
        have hge : ge < zr ∧ ge ≠ zb + 1 := by omega
        have a0 := (hkp.cell (p := ⟨ge, k * 8, none⟩) hge).trans (hr 0 _ rfl)
        have a1 := (hkp.cell (p := ⟨ge, k * 8 + 1, none⟩) hge).trans (hr 1 _ rfl)
        have a2 := (hkp.cell (p := ⟨ge, k * 8 + 2, none⟩) hge).trans (hr 2 _ rfl)
        have a3 := (hkp.cell (p := ⟨ge, k * 8 + 3, none⟩) hge).trans (hr 3 _ rfl)
        have a4 := (hkp.cell (p := ⟨ge, k * 8 + 4, none⟩) hge).trans (hr 4 _ rfl)
        have a5 := (hkp.cell (p := ⟨ge, k * 8 + 5, none⟩) hge).trans (hr 5 _ rfl)
        have a6 := (hkp.cell (p := ⟨ge, k * 8 + 6, none⟩) hge).trans (hr 6 _ rfl)
        have a7 := (hkp.cell (p := ⟨ge, k * 8 + 7, none⟩) hge).trans (hr 7 _ rfl)
        rw [hi.call] at a0
        rw [hi.resp] at a2
        rw [hi.steps] at a3
        rw [hl0] at a6
        have b2 := hR.out.cell.2.2.1
        have fz2 := hR.out.frozen (i := 2)
        have hlt1 := hR.out.lt
        have hmb := hR.out.map.lt
        have hgw : ge < wr.heap.size := by have := hkp.size; omega
        have hne1 : ¬ zb + 1 = wr.heap.size := by omega
        have hne2 : ¬ wr.heap.size = zb + 1 := by omega
        have HE := hide he
        have HK := hide hkp
        clear hkp he hi hr hx hec hl0
        by_cases h0 : e.resp = 0
        · have d0 : (e.resp != 0) = false := by simp [h0]
          gi_wp2
          go_roundw
          case rel =>
            refine ⟨k + 1, by omega, by go_num, hide ?_⟩
            rw [exMost_step HE.out, exD_step HE.out, if_pos h0, max_if]
            exact (RdI.alloc (RdI.put hR.out (by omega) 2 _ rfl) _).mono (Nat.le_succ _)
          case measure => first | (simp [intOf]; done) | (simp [intOf]; omega)
        · have d0 : (e.resp != 0) = true := by simp [h0]
          have hkey := key_lt2 hec1
          gi_wp2_with (first | (gi_at_mapUpdate; refine wpListIn_mapUpdate_own _ rfl _ _ _ 84 rfl 3 64 ans_keyed Tryz.underlying84 ansR (zr + 1) k (exD ((exEvs pi).take k)) rfl (RdI.alloc (RdI.put hR.out (by omega) 2 _ rfl) _).map (by unfold maxLen; omega) _ _ (Lit.int .i64 (e.call : Int)) rfl rfl hkey (.lit (.bool true)) [] (ansR_mk _ _ _ _) ?_; intro w5 hown5 hgrow5) | fail)
          have hR5 := RdI.upd (RdI.alloc (RdI.put hR.out (by omega) 2 _ rfl) _) (by omega) hown5 hgrow5
          rw [max_if] at hR5
          have HR5 := hide hR5
          clear hown5 hgrow5 hR5
          gi_wp2
          go_roundw
          case rel =>
            refine ⟨k + 1, by omega, by go_num, hide ?_⟩
            rw [exMost_step HE.out, exD_step HE.out, if_neg h0]
            exact HR5.out
          case measure => first | (simp [intOf]; done) | (simp [intOf]; omega)
      · obtain rfl : k = (exEvs pi).length := by omega
        have hR' := hR.out
        rw [List.take_of_length_le (Nat.le_refl _)] at hR'
        obtain ⟨M, hM⟩ : ∃ M, exMost m (exEvs pi) = M := ⟨_, rfl⟩
        rw [hM] at hR'
        have hlen := World.ownsMap.len hR'.map Tryz.underlying84
        rw [exD_size hpi] at hlen
        have HMM := hide hM
        have HR := hide hR'
        clear hR hM hR'
        obtain ⟨v, ms, hv, hrowK, hml, hms⟩ := HI.out.kinds
        rw [List.length_map] at hml
        obtain ⟨Ak, ck, rfl⟩ := own_slice hrowK
        have kW1 : Keep (fun k => k < W.heap.size ∧ k ≠ zb + 1) W W1 := Keep.of_below (K := fun k => k < W.heap.size ∧ k ≠ zb + 1) HB1'.out (fun k hk => hk.1)
        have kWr : Keep (fun k => k < W.heap.size ∧ k ≠ zb + 1) W wr := kW1.trans (HR.out.keep.mono (fun k hk => ⟨by have := HB1'.out.size; omega, hk.2⟩))
        have c2 := ((HD2.out.keepK HI.out.keep ⟨by omega, by omega, by omega⟩).keepK kWr ⟨by omega, by omega⟩).cell
        have bk := hv.keepK kWr ⟨by omega, by omega⟩
        have ck0 : wr.cell? ⟨zb + 1 + 1, 0, none⟩ = some (.slice Ak ms.length ck) := bk.cell
        have q1 := HR.out.cell.2.1
        have fz1 := HR.out.frozen (i := 1)
        have hlt1 := HR.out.lt
        have kd : IntKind.i64.wrap (d + 1) = d + 1 := wrap_i64 (by omega) (by omega)
        have hrowR := owns_keepV hrowK kWr (fun k hk => ⟨(World.ownsRow.lt hrowK k hk).2, by have := (World.ownsRow.lt hrowK k hk).1; omega⟩)
        have hnx := exF_next (pi := pi) HP.out HD.out HM.out
        rw [HMM.out] at hnx
        have HV := hide hv
        have HRK := hide hrowK
        have HML := hide hml
        have HMS := hide hms
        have HWR := hide kWr
        have HBK := hide bk
        have HRR := hide hrowR
        clear hv hrowK hml hms kW1 kWr bk hrowR
        have hmz : ms.length ≤ 16 := by have := HML.out; omega
        by_cases hdn : exDone (exEvs pi) = 2
        · rw [hdn] at hlen
          have hnx2 : (exF (List.map (·.2) pre ++ [pi])).1 = p + 1 ∧ (exF (List.map (·.2) pre ++ [pi])).2.1 = d + 1 ∧ (exF (List.map (·.2) pre ++ [pi])).2.2 = M := by rw [if_pos hdn] at hnx; exact hnx
          have hrq : RdI (zb + 1) zr (zr + 1) W1 (p + 1) (d + 1) M (exEvs pi).length (exD (exEvs pi)) (wr.setCell ⟨zb + 1, 1, none⟩ (.int .i64 (d + 1))) := RdI.put HR.out (by omega) 1 (.int .i64 (d + 1)) rfl
          have kq : Keep (fun k => k ≠ zb + 1) wr (wr.setCell ⟨zb + 1, 1, none⟩ (.int .i64 (d + 1))) := (Keep.refl _ _).setCell (fun h => h rfl) _
          have HNX := hide hnx2
          have HRQ := hide hrq
          have HKQ := hide (HWR.out.trans (kq.mono (fun k hk => hk.2)))
          have HBQ := hide (HBK.out.keepK kq (by omega))
          have HRRQ := hide (owns_keepV HRR.out kq (fun k hk => by have := (World.ownsRow.lt HRR.out k hk).1; omega))
          clear hnx hnx2 hrq kq
          gi_wp2
          generalize (wr.setCell ⟨zb + 1, 1, none⟩ (.int .i64 (d + 1))) = wq at *
          clear hlen c2 ck0 q1 fz1 hlt1 kd hdn
          have hvb := World.ownsRow.lt HRK.out
          have HVB := hide hvb
          clear hvb
          gi_loopw [101] (fun i wx => ∃ k : Nat, k ≤ ms.length ∧ i = .int .i64 (k : Int) ∧ Hid (Below wq.heap.size wq wx)) (fun i _ => ms.length - (intOf i).toNat)
          case atStart => exact ⟨0, Nat.zero_le _, rfl, hide (Below.refl _ _)⟩
          case round =>
            obtain ⟨k, hk, rfl, hBx⟩ := hrel
            have kx : Keep (fun k => k < wq.heap.size) wq wr := Keep.of_below (K := fun k => k < wq.heap.size) hBx.out (fun k h => h)
            have hzq : zr + 1 < wq.heap.size := HRQ.out.map.lt
            have hWq : W.heap.size ≤ zr := by have := HB1'.out.size; omega
            have hrx := owns_keepV HRRQ.out kx (fun k hk => by have := (HVB.out k hk).2; omega)
            have hmq : AnsM wr (zr + 1) (exEvs pi).length (exD (exEvs pi)) := AnsM.keep HRQ.out.map kx hzq
            have hbx := HBQ.out.keepK kx (by omega)
            have cq : wr.cell? ⟨zb + 1 + 1, 0, none⟩ = some (.slice Ak ms.length ck) := hbx.cell
            have fq : wr.frozen? ⟨zb + 1 + 1, 0, none⟩ = false := hbx.frozen
            have HKX := hide (HKQ.out.trans (kx.mono (fun k hk => by have := hk.1; omega)))
            have hfx := (kx.block (zb + 1) (by omega)).trans HRQ.out.found
            rw [← HNX.out.1, ← HNX.out.2.1, ← HNX.out.2.2] at hfx
            have HFX := hide hfx
            have HBX2 := hide hbx
            have HMQ := hide hmq
            have HRX := hide hrx
            have hzx : wq.heap.size ≤ wr.heap.size := hBx.out.size
            clear kx hfx hbx hmq hrx
            by_cases hlt : k < ms.length
            · have hltI : (k : Int) < (ms.length : Int) := by omega
              have hk0 : (0 : Int) ≤ (k : Int) := by omega
              obtain ⟨bm, hbm⟩ : ∃ b, ms[k]? = some b := ⟨_, List.getElem?_eq_getElem hlt⟩
              obtain ⟨na, Da, hma⟩ := HMS.out bm (List.mem_of_getElem? hbm)
              have hbW := AnsM.lt hma
              have hbne : bm ≠ zb + 1 := by
                rintro rfl
                obtain ⟨es, clock, g1, _⟩ := hma
                have g2 := HI.out.found
                rw [g1] at g2
                cases g2
              have hma2 : AnsM wr bm na Da := AnsM.keep hma HKX.out ⟨hbW, hbne⟩
              obtain ⟨gk, rfl⟩ : ∃ g, Ak = some ⟨g, 0, none⟩ := by
                rcases HRX.out.2 with ⟨e1, h0⟩ | ⟨g, cp, cur, e1, _⟩
                · omega
                · injection e1 with e2
                  exact ⟨g, e2⟩
              have cm := (HRX.out.cells (g := gk) rfl) k (.map (some bm)) (by rw [List.getElem?_map, hbm]; rfl)
              rw [Addr.add_lit, Nat.zero_add] at cm
              have N2 := alikeW wr hma2 HMQ.out
              clear hbm hma hma2
              gi_wp2
              refine ⟨trivial, (CallsIn.inRound l (callsIn_wide.2 N2)).mono ?_⟩
              rintro e6 w6 ⟨⟨r, rfl⟩, hb6⟩
              have HB6 := hide hb6
              clear N2 hb6
              cases r
              · gi_wp2
                go_roundw
                case rel => exact ⟨k + 1, by omega, by go_num, hide (hBx.out.trans (HB6.out.mono hzx))⟩
                case measure => first | (simp [intOf]; done) | (simp [intOf]; omega)
              · gi_wp2
                have k6 : Keep (fun k => k < wr.heap.size) wr w6 := Keep.of_below (K := fun k => k < wr.heap.size) HB6.out (fun k h => h)
                have hfin := AllI.fin (pi := pi) (W' := w6) HI.out HV.out HRK.out HMS.out hWz (HKX.out.trans (k6.mono (fun k hk => by have := hk.1; omega)) |>.mono (fun k hk => ⟨hk.1, hk.2.1⟩)) ((k6.block _ (by omega)).trans HFX.out) (HBX2.out.keepK k6 (by omega)) (owns_keepV HRX.out k6 (fun k hk => by have := (HVB.out k hk).2; omega)) (by rw [List.length_map]; have := HML.out; omega) (fun b hb => Or.inl hb)
                refine ⟨by rw [hyz]; exact hfin.1, hfin.2.1, ?_⟩
                show AllI _ _ _ _ (List.map _ (pre ++ [_])) _ ∧ _
                rw [List.map_append]
                exact hfin.2.2
            · obtain rfl : k = ms.length := by omega
              obtain ⟨i0, hi0, hz0, hz1', hz2'⟩ := info_parts info_amap
              gi_wp2_with (first | (gi_at_builtin; refine wpListIn_append_own_at _ rfl _ _ 80 rfl (zb + 5) 84 i0 (.map none) 1 8 Tryz.underlying80 hi0 hz0 hz1' hz2' rfl (by decide) _ ms.length (ms.map fun b => Value.map (some b)) rfl (World.ownsRow.alloc HRX.out _) ⟨wr.heap.size, 0, none⟩ 1 1 [.map (some (zr + 1))] rfl rfl (cell_one_new _ _ _) (by simp [Value.oneCell']) (by unfold maxLen; omega) (by omega) (by simp; omega) ?_; intro v7 w7 hown7 hgrow7 _ _; obtain ⟨A7, c7, rfl⟩ := own_slice hown7; have kb7 : Keep (fun k => k = zb + 2 ∨ k = zb + 1 ∨ k = zr + 1) wr w7 := ((Keep.refl _ wr).alloc (fun k hk => by omega) _).grown hgrow7 (fun k hk => by simp; omega) (fun k hk hk2 => by have := HVB.out k hk; omega); have bx7 := HBX2.out.keepK kb7 (Or.inl rfl); have cq7 : w7.cell? ⟨zb + 1 + 1, 0, none⟩ = some _ := bx7.cell; have fq7 : w7.frozen? ⟨zb + 1 + 1, 0, none⟩ = false := bx7.frozen) | fail)
              have kf : Keep (fun k => k < W.heap.size ∧ k ≠ zb + 1 ∧ k ≠ zb + 2 ∧ (Value.slice Ak ms.length ck).ownBlock ≠ some k) W (w7.setCell ⟨zb + 2, 0, none⟩ (.slice A7 (ms.length + 1) c7)) := (((HKX.out.mono (fun k hk => ⟨hk.1, hk.2.1⟩)).alloc (fun k hk => by have := hk.1; omega) _).grown hgrow7 (fun k hk => by have := hk.1; simp; omega) (fun k hk hk2 => hk2.2.2.2 hk)).setCell (fun hk => hk.2.2.1 rfl) _
              have hf7 := (Below.heap_setCell w7 ⟨zb + 2, 0, none⟩ (.slice A7 (ms.length + 1) c7) (zb + 1) (by simp)).trans ((kb7.block _ (Or.inr (Or.inl rfl))).trans HFX.out)
              have hbx8 : Boxed (w7.setCell ⟨zb + 2, 0, none⟩ (.slice A7 (ms.length + 1) c7)) (zb + 2) 80 (.slice A7 (ms.length + 1) c7) := (cells_set bx7).trans rfl
              have hrow8 : World.ownsRow (w7.setCell ⟨zb + 2, 0, none⟩ (.slice A7 (ms.length + 1) c7)) (zb + 5) 84 1 (.slice A7 (ms.length + 1) c7) (ms ++ [zr + 1]).length ((ms ++ [zr + 1]).map fun b => Value.map (some b)) := by
                rw [List.length_append, List.map_append]
                exact owns_keepV hown7 (Keep.setCell (K := fun k => k ≠ zb + 2) (Keep.refl _ _) (fun h => h rfl) _) (fun k hk => by have := (World.ownsRow.lt hown7 k hk).1; omega)
              have hm8 : AnsM (w7.setCell ⟨zb + 2, 0, none⟩ (.slice A7 (ms.length + 1) c7)) (zr + 1) (exEvs pi).length (exD (exEvs pi)) := AnsM.keep (AnsM.keep HMQ.out kb7 (Or.inr (Or.inr rfl))) (Keep.setCell (K := fun k => k ≠ zb + 2) (Keep.refl _ _) (fun h => h rfl) _) (by omega)
              have hfin := AllI.fin (pi := pi) HI.out HV.out HRK.out HMS.out hWz kf hf7 hbx8 hrow8 (by rw [List.length_append, List.length_map]; have := HML.out; simp; omega) (fun b hb => by
                rcases List.mem_append.1 hb with h1 | h1
                · exact Or.inl h1
                · rw [List.mem_singleton] at h1
                  subst h1
                  exact Or.inr ⟨_, _, hm8⟩)
              refine ⟨by rw [hyz]; exact hfin.1, hfin.2.1, ?_⟩
              show AllI _ _ _ _ (List.map _ (pre ++ [_])) _ ∧ _
              rw [List.map_append]
              exact hfin.2.2
        · have hdn' : ¬ ((exDone (exEvs pi) : Int) = 2) := by omega
          have hnx2 : (exF (List.map (·.2) pre ++ [pi])).1 = p + 1 ∧ (exF (List.map (·.2) pre ++ [pi])).2.1 = d ∧ (exF (List.map (·.2) pre ++ [pi])).2.2 = M := by rw [if_neg hdn] at hnx; exact hnx
          have hrq : RdI (zb + 1) zr (zr + 1) W1 (p + 1) d M (exEvs pi).length (exD (exEvs pi)) wr := HR.out
          have kq : Keep (fun k => k ≠ zb + 1) wr wr := Keep.refl _ _
          have HNX := hide hnx2
          have HRQ := hide hrq
          have HKQ := hide (HWR.out.trans (kq.mono (fun k hk => hk.2)))
          have HBQ := hide (HBK.out.keepK kq (by omega))
          have HRRQ := hide (owns_keepV HRR.out kq (fun k hk => by have := (World.ownsRow.lt HRR.out k hk).1; omega))
          clear hnx hnx2 hrq kq
          gi_wp2
          generalize wr = wq at *
          clear hlen c2 ck0 q1 fz1 hlt1 kd hdn
          have hvb := World.ownsRow.lt HRK.out
          have HVB := hide hvb
          clear hvb
          gi_loopw [101] (fun i wx => ∃ k : Nat, k ≤ ms.length ∧ i = .int .i64 (k : Int) ∧ Hid (Below wq.heap.size wq wx)) (fun i _ => ms.length - (intOf i).toNat)
          case atStart => exact ⟨0, Nat.zero_le _, rfl, hide (Below.refl _ _)⟩
          case round =>
            obtain ⟨k, hk, rfl, hBx⟩ := hrel
            have kx : Keep (fun k => k < wq.heap.size) wq wr := Keep.of_below (K := fun k => k < wq.heap.size) hBx.out (fun k h => h)
            have hzq : zr + 1 < wq.heap.size := HRQ.out.map.lt
            have hWq : W.heap.size ≤ zr := by have := HB1'.out.size; omega
            have hrx := owns_keepV HRRQ.out kx (fun k hk => by have := (HVB.out k hk).2; omega)
            have hmq : AnsM wr (zr + 1) (exEvs pi).length (exD (exEvs pi)) := AnsM.keep HRQ.out.map kx hzq
            have hbx := HBQ.out.keepK kx (by omega)
            have cq : wr.cell? ⟨zb + 1 + 1, 0, none⟩ = some (.slice Ak ms.length ck) := hbx.cell
            have fq : wr.frozen? ⟨zb + 1 + 1, 0, none⟩ = false := hbx.frozen
            have HKX := hide (HKQ.out.trans (kx.mono (fun k hk => by have := hk.1; omega)))
            have hfx := (kx.block (zb + 1) (by omega)).trans HRQ.out.found
            rw [← HNX.out.1, ← HNX.out.2.1, ← HNX.out.2.2] at hfx
            have HFX := hide hfx
            have HBX2 := hide hbx
            have HMQ := hide hmq
            have HRX := hide hrx
            have hzx : wq.heap.size ≤ wr.heap.size := hBx.out.size
            clear kx hfx hbx hmq hrx
            by_cases hlt : k < ms.length
            · have hltI : (k : Int) < (ms.length : Int) := by omega
              have hk0 : (0 : Int) ≤ (k : Int) := by omega
              obtain ⟨bm, hbm⟩ : ∃ b, ms[k]? = some b := ⟨_, List.getElem?_eq_getElem hlt⟩
              obtain ⟨na, Da, hma⟩ := HMS.out bm (List.mem_of_getElem? hbm)
              have hbW := AnsM.lt hma
              have hbne : bm ≠ zb + 1 := by
                rintro rfl
                obtain ⟨es, clock, g1, _⟩ := hma
                have g2 := HI.out.found
                rw [g1] at g2
                cases g2
              have hma2 : AnsM wr bm na Da := AnsM.keep hma HKX.out ⟨hbW, hbne⟩
              obtain ⟨gk, rfl⟩ : ∃ g, Ak = some ⟨g, 0, none⟩ := by
                rcases HRX.out.2 with ⟨e1, h0⟩ | ⟨g, cp, cur, e1, _⟩
                · omega
                · injection e1 with e2
                  exact ⟨g, e2⟩
              have cm := (HRX.out.cells (g := gk) rfl) k (.map (some bm)) (by rw [List.getElem?_map, hbm]; rfl)
              rw [Addr.add_lit, Nat.zero_add] at cm
              have N2 := alikeW wr hma2 HMQ.out
              clear hbm hma hma2
              gi_wp2
              refine ⟨trivial, (CallsIn.inRound l (callsIn_wide.2 N2)).mono ?_⟩
              rintro e6 w6 ⟨⟨r, rfl⟩, hb6⟩
              have HB6 := hide hb6
              clear N2 hb6
              cases r
              · gi_wp2
                go_roundw
                case rel => exact ⟨k + 1, by omega, by go_num, hide (hBx.out.trans (HB6.out.mono hzx))⟩
                case measure => first | (simp [intOf]; done) | (simp [intOf]; omega)
              · gi_wp2
                have k6 : Keep (fun k => k < wr.heap.size) wr w6 := Keep.of_below (K := fun k => k < wr.heap.size) HB6.out (fun k h => h)
                have hfin := AllI.fin (pi := pi) (W' := w6) HI.out HV.out HRK.out HMS.out hWz (HKX.out.trans (k6.mono (fun k hk => by have := hk.1; omega)) |>.mono (fun k hk => ⟨hk.1, hk.2.1⟩)) ((k6.block _ (by omega)).trans HFX.out) (HBX2.out.keepK k6 (by omega)) (owns_keepV HRX.out k6 (fun k hk => by have := (HVB.out k hk).2; omega)) (by rw [List.length_map]; have := HML.out; omega) (fun b hb => Or.inl hb)
                refine ⟨by rw [hyz]; exact hfin.1, hfin.2.1, ?_⟩
                show AllI _ _ _ _ (List.map _ (pre ++ [_])) _ ∧ _
                rw [List.map_append]
                exact hfin.2.2
            · obtain rfl : k = ms.length := by omega
              obtain ⟨i0, hi0, hz0, hz1', hz2'⟩ := info_parts info_amap
              gi_wp2_with (first | (gi_at_builtin; refine wpListIn_append_own_at _ rfl _ _ 80 rfl (zb + 5) 84 i0 (.map none) 1 8 Tryz.underlying80 hi0 hz0 hz1' hz2' rfl (by decide) _ ms.length (ms.map fun b => Value.map (some b)) rfl (World.ownsRow.alloc HRX.out _) ⟨wr.heap.size, 0, none⟩ 1 1 [.map (some (zr + 1))] rfl rfl (cell_one_new _ _ _) (by simp [Value.oneCell']) (by unfold maxLen; omega) (by omega) (by simp; omega) ?_; intro v7 w7 hown7 hgrow7 _ _; obtain ⟨A7, c7, rfl⟩ := own_slice hown7; have kb7 : Keep (fun k => k = zb + 2 ∨ k = zb + 1 ∨ k = zr + 1) wr w7 := ((Keep.refl _ wr).alloc (fun k hk => by omega) _).grown hgrow7 (fun k hk => by simp; omega) (fun k hk hk2 => by have := HVB.out k hk; omega); have bx7 := HBX2.out.keepK kb7 (Or.inl rfl); have cq7 : w7.cell? ⟨zb + 1 + 1, 0, none⟩ = some _ := bx7.cell; have fq7 : w7.frozen? ⟨zb + 1 + 1, 0, none⟩ = false := bx7.frozen) | fail)
              have kf : Keep (fun k => k < W.heap.size ∧ k ≠ zb + 1 ∧ k ≠ zb + 2 ∧ (Value.slice Ak ms.length ck).ownBlock ≠ some k) W (w7.setCell ⟨zb + 2, 0, none⟩ (.slice A7 (ms.length + 1) c7)) := (((HKX.out.mono (fun k hk => ⟨hk.1, hk.2.1⟩)).alloc (fun k hk => by have := hk.1; omega) _).grown hgrow7 (fun k hk => by have := hk.1; simp; omega) (fun k hk hk2 => hk2.2.2.2 hk)).setCell (fun hk => hk.2.2.1 rfl) _
              have hf7 := (Below.heap_setCell w7 ⟨zb + 2, 0, none⟩ (.slice A7 (ms.length + 1) c7) (zb + 1) (by simp)).trans ((kb7.block _ (Or.inr (Or.inl rfl))).trans HFX.out)
              have hbx8 : Boxed (w7.setCell ⟨zb + 2, 0, none⟩ (.slice A7 (ms.length + 1) c7)) (zb + 2) 80 (.slice A7 (ms.length + 1) c7) := (cells_set bx7).trans rfl
              have hrow8 : World.ownsRow (w7.setCell ⟨zb + 2, 0, none⟩ (.slice A7 (ms.length + 1) c7)) (zb + 5) 84 1 (.slice A7 (ms.length + 1) c7) (ms ++ [zr + 1]).length ((ms ++ [zr + 1]).map fun b => Value.map (some b)) := by
                rw [List.length_append, List.map_append]
                exact owns_keepV hown7 (Keep.setCell (K := fun k => k ≠ zb + 2) (Keep.refl _ _) (fun h => h rfl) _) (fun k hk => by have := (World.ownsRow.lt hown7 k hk).1; omega)
              have hm8 : AnsM (w7.setCell ⟨zb + 2, 0, none⟩ (.slice A7 (ms.length + 1) c7)) (zr + 1) (exEvs pi).length (exD (exEvs pi)) := AnsM.keep (AnsM.keep HMQ.out kb7 (Or.inr (Or.inr rfl))) (Keep.setCell (K := fun k => k ≠ zb + 2) (Keep.refl _ _) (fun h => h rfl) _) (by omega)
              have hfin := AllI.fin (pi := pi) HI.out HV.out HRK.out HMS.out hWz kf hf7 hbx8 hrow8 (by rw [List.length_append, List.length_map]; have := HML.out; simp; omega) (fun b hb => by
                rcases List.mem_append.1 hb with h1 | h1
                · exact Or.inl h1
                · rw [List.mem_singleton] at h1
                  subst h1
                  exact Or.inr ⟨_, _, hm8⟩)
              refine ⟨by rw [hyz]; exact hfin.1, hfin.2.1, ?_⟩
              show AllI _ _ _ _ (List.map _ (pre ++ [_])) _ ∧ _
              rw [List.map_append]
              exact hfin.2.2
  case hKb => exact keepK_bx (fun k hk => by omega)
  case hI =>
    intro s W W' row hs hg hr
    refine ⟨AllI.turn hs.1 (by omega) (by omega) hg (fun r hr' => by rw [← hyz]; exact hr r hr') hs.2, Nat.le_trans hs.2 hg.size⟩
  case h0 => exact ⟨⟨HY1.out, ⟨_, [], HY2.out, World.ownsRow_nil _ _ _ _, Nat.zero_le _, fun b hb => by cases hb⟩, Keep.refl _ _⟩, by omega⟩
  case stop =>
    intro D c pre W hD hSp hIx
    exact hIx.elim
  case done =>
    intro D xs W hD hS hI hK
    obtain ⟨hI, hWz⟩ := hI
    rw [hS] at hI
    have kI := hI.keep
    have hf := hI.found
    rw [exF_all] at hf
    obtain ⟨v, ms, hv, hrow, _, _⟩ := hI.kinds
    obtain ⟨Ak, ck, rfl⟩ := own_slice hrow
    have hml : ms.length ≤ maxLen := owns_max hrow
    have cv : W.cell? ⟨zb + 1 + 1, 0, none⟩ = some (.slice Ak ms.length ck) := hv.cell
    have f0 := cell_of_row _ _ 0 _ _ _ hf
    have f1 := cell_of_row _ _ 1 _ _ _ hf
    have f2 := cell_of_row _ _ 2 _ _ _ hf
    have f3 := cell_of_row _ _ 3 _ _ _ hf
    have ff := fun i => frozen_of_row W (zb + 1) i _ _ hf
    have h3 := (kI.block _ ⟨by omega, by omega, by omega⟩).trans HD3.out
    have g0 := cell_of_row _ _ 0 _ _ _ h3
    have g1 := cell_of_row _ _ 1 _ _ _ h3
    have g2 := cell_of_row _ _ 2 _ _ _ h3
    have g3 := cell_of_row _ _ 3 _ _ _ h3
    have gf := fun i => frozen_of_row W (w.heap.size + 1 + 1 + 1) i _ _ h3
    have b4 := HD4.out.keepK kI ⟨by omega, by omega, by omega⟩
    have c4 := b4.cell
    have e4 := b4.frozen
    have hl1 : zb + 1 < W.heap.size := by omega
    have hl2 : w.heap.size + 1 + 1 + 1 < W.heap.size := by omega
    have H3 := hide h3
    have H4 := hide b4
    have hWY : Below w.heap.size w1 Y := HKY.out.below (fun k hk => by omega)
    have hWI : Below w.heap.size Y W := kI.below (fun k hk => ⟨by omega, by omega, by omega⟩)
    have HI := hide hI
    have HKD := hide hK
    clear hI hrow hv hf h3 b4 kI hK hS
    simp only [] at f0 f1 f2 f3 g0 g1 g2 g3
    gi_wp2
    obtain ⟨U, hU⟩ : ∃ U, U = ((((((W.setCell ⟨zb + 1, 3, none⟩ (.int .i64 (ms.length : Int))).setCell ⟨w.heap.size + 1 + 1 + 1, 0, none⟩ (.int .i64 16)).setCell ⟨w.heap.size + 1 + 1 + 1, 1, none⟩ (.int .i64 6)).setCell ⟨w.heap.size + 1 + 1 + 1, 2, none⟩ (.int .i64 2)).setCell ⟨w.heap.size + 1 + 1 + 1, 3, none⟩ (.int .i64 (ms.length : Int))).setCell ⟨w.heap.size + 1 + 1 + 1 + 1, 0, none⟩ (.int .i64 0)) := ⟨_, rfl⟩
    rw [← hU]
    have u3 : U.heap[w.heap.size + 1 + 1 + 1]? = some (.cells #[.int .i64 16, .int .i64 6, .int .i64 2, .int .i64 (ms.length : Int)] 46 (0, 0)) := by
      rw [hU]
      refine (Below.heap_setCell _ _ _ _ (by simp)).trans ?_
      rw [cells_set (cells_set (cells_set (cells_set ((Below.heap_setCell _ _ _ _ (by simp; omega)).trans H3.out))))]
      rfl
    have u4 : Boxed U (w.heap.size + 1 + 1 + 1 + 1) 47 (.int .i64 0) := by
      rw [hU]
      have h4 : ∀ (W : World) (a : Addr) (u : Value), Boxed W (w.heap.size + 1 + 1 + 1 + 1) 47 (.int .i64 0) → w.heap.size + 1 + 1 + 1 + 1 ≠ a.block → Boxed (W.setCell a u) (w.heap.size + 1 + 1 + 1 + 1) 47 (.int .i64 0) := fun W a u h hne => (Below.heap_setCell _ _ _ _ hne).trans h
      exact (cells_set (h4 _ _ _ (h4 _ _ _ (h4 _ _ _ (h4 _ _ _ (h4 _ _ _ H4.out (by simp; omega)) (by simp)) (by simp)) (by simp)) (by simp))).trans rfl
    have uD : U.heap[D]? = some (.deferred (some [])) := by
      rw [hU]
      have h4 : ∀ (W : World) (a : Addr) (u : Value), W.heap[D]? = some (.deferred (some [])) → D ≠ a.block → (W.setCell a u).heap[D]? = some (.deferred (some [])) := fun W a u h hne => (Below.heap_setCell _ _ _ _ hne).trans h
      exact h4 _ _ _ (h4 _ _ _ (h4 _ _ _ (h4 _ _ _ (h4 _ _ _ (h4 _ _ _ HKD.out (by simp; omega)) (by simp; omega)) (by simp; omega)) (by simp; omega)) (by simp; omega)) (by simp; omega)
    have hBU : Below w.heap.size w U := by
      rw [hU]
      have hW : Below w.heap.size w W := HB1.out.trans ((hWY).trans hWI)
      exact ((((((hW.setCell (by simp; omega) _).setCell (by simp; omega) _).setCell (by simp; omega) _).setCell (by simp; omega) _).setCell (by simp; omega) _).setCell (by simp; omega) _)
    clear hU
    refine ⟨by simp, .inl ⟨_, _, rfl, run_takeDeferred uD, ?_⟩⟩
    have hk := grownBy_putObj' U D (.deferred none)
    have hzU := hBU.size
    have v3 := (hk.block (w.heap.size + 1 + 1 + 1) (Array.getElem?_eq_some_iff.1 u3).1 (fun e => by cases e; omega)).trans u3
    have v4 := ((hk.block (w.heap.size + 1 + 1 + 1 + 1) (Array.getElem?_eq_some_iff.1 u4).1 (fun e => by cases e; omega)).trans u4)
    have e0 : (U.putObj D (.deferred none)).cell? ⟨w.heap.size + 1 + 1 + 1, 0, none⟩ = some (.int .i64 16) := cell_of_row _ _ 0 _ _ _ v3
    have e1 : (U.putObj D (.deferred none)).cell? ⟨w.heap.size + 1 + 1 + 1, 1, none⟩ = some (.int .i64 6) := cell_of_row _ _ 1 _ _ _ v3
    have e2 : (U.putObj D (.deferred none)).cell? ⟨w.heap.size + 1 + 1 + 1, 2, none⟩ = some (.int .i64 2) := cell_of_row _ _ 2 _ _ _ v3
    have e3 : (U.putObj D (.deferred none)).cell? ⟨w.heap.size + 1 + 1 + 1, 3, none⟩ = some (.int .i64 (ms.length : Int)) := cell_of_row _ _ 3 _ _ _ v3
    have e4 : (U.putObj D (.deferred none)).cell? ⟨w.heap.size + 1 + 1 + 1 + 1, 0, none⟩ = some (.int .i64 0) := cell_of_row _ _ 0 _ _ _ v4
    have hBz : Below w.heap.size w (U.putObj D (.deferred none)) := hBU.grown hk hBU.size (fun k e => by cases e; omega)
    refine ⟨.tuple #[.agg #[.int .i64 16, .int .i64 6, .int .i64 2, .int .i64 (ms.length : Int)], .int .i64 0], (by simp [results, Tryz.results19, go_sem, *]), ⟨_, rfl⟩, hBz⟩
end Go.Proofs.YtfghmlpjbedomaaGreat
