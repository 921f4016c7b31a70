/- The document's answer about how events stood at a tick: At (chapter 36). -/
import Derived.Test.YtmiimpmfkjcjlaaCu11
namespace Go.Proofs.Ytmiimpmfkjcjlaa
open Go.RowKit

theorem cntT_snoc {l : List Tk} {k : Nat} {t : Tk} (h : l[k]? = some t) (c : Int) : cntT (l.take (k + 1)) c = cntT (l.take k) c + if (t.call : Int) = c then 1 else 0 := by
  unfold cntT
  rw [List.take_add_one, h, List.countP_append]
  by_cases e : (t.call : Int) = c <;> simp [e]
theorem take_lt {l : List Tk} {k : Nat} {t : Tk} {tick : Int} (h : l[k]? = some t) (hk : (k : Int) < tick) : (l.take tick.toNat)[k]? = some t := by rw [List.getElem?_take, if_pos (by omega), h]
theorem take_ge {l : List Tk} {k : Nat} {tick : Int} (hk : tick ≤ (k : Int)) : (l.take tick.toNat).take (k + 1) = (l.take tick.toNat).take k := by
  rw [List.take_take, List.take_take]
  congr 1
  omega

theorem cells_set {w : World} {b i : Nat} {cs : Array Value} {t : TypeId} {u : Value} (h : w.heap[b]? = some (.cells cs t (0, 0))) : (w.setCell ⟨b, i, none⟩ u).heap[b]? = some (.cells (cs.setIfInBounds i u) t (0, 0)) := by
  simp [World.setCell, Array.getElem?_modify, h]
theorem cells8 {w : World} {g : Nat} {x0 x1 x2 x3 x4 x5 x6 x7 : Value} {t : TypeId} (h : w.heap[g]? = some (.cells #[x0, x1, x2, x3, x4, x5, x6, x7] t (0, 0))) :
    w.cell? ⟨g, 0, none⟩ = some x0 ∧ w.cell? ⟨g, 1, none⟩ = some x1 ∧ w.cell? ⟨g, 2, none⟩ = some x2 ∧ w.cell? ⟨g, 3, none⟩ = some x3 ∧ w.cell? ⟨g, 4, none⟩ = some x4 ∧ w.cell? ⟨g, 5, none⟩ = some x5 ∧ w.cell? ⟨g, 6, none⟩ = some x6 ∧ w.cell? ⟨g, 7, none⟩ = some x7 :=
  ⟨cell_of_row w g 0 _ t _ h, cell_of_row w g 1 _ t _ h, cell_of_row w g 2 _ t _ h, cell_of_row w g 3 _ t _ h, cell_of_row w g 4 _ t _ h, cell_of_row w g 5 _ t _ h, cell_of_row w g 6 _ t _ h, cell_of_row w g 7 _ t _ h⟩

set_option maxRecDepth 100000 in
set_option maxHeartbeats 4000000 in
theorem refAt36 (tick : Int) (A Ae Ap : Option Addr) (m c me ce mp cp : Nat) (cs : List Cl) (es : List Ev) (picks : List Int) (w : World) (h : SlCl w (.slice A m c) cs) (hm : cs.length = m)
    (he : SlEv w (.slice Ae me ce) es) (hme : es.length = me) (hp : SlI w (.slice Ap mp cp) picks) (hmp : picks.length = mp) (hm1 : m ≤ 1000) (hmp1 : mp ≤ 65536) (hme1 : me ≤ 100000) :
    Calls Try.prog 12 #[.slice A m c, .slice Ae me ce, .slice Ap mp cp, .int .i64 tick] w fun e w' =>
      ∃ v, e = .returned v ∧ w'.ownsRow w.heap.size 44 8 v (atL es tick (cntT (tkS cs es picks tick))).length ((atL es tick (cntT (tkS cs es picks tick))).flatMap evEnc) ∧ Below w.heap.size w w' := by
  have N0 := refTicks36 A Ae Ap m c me ce mp cp cs es picks w h hm he hme hp hmp hm1 hmp1
  have HE := hide he
  have hme63 : (me : Int) ≤ 100000 := by omega
  have HME := hide hme
  have hlen := (tickF_len cs es picks).2
  unfold tkS
  generalize (tickF cs es picks).2 = TK at *
  have hTK : TK.length ≤ 65536 := by omega
  obtain ⟨TT, hTT⟩ : ∃ TT, TK.take tick.toNat = TT := ⟨_, rfl⟩
  rw [hTT]
  have HTT := hide hTT
  clear h he hm hme hp hmp hlen hTT
  obtain ⟨i0, hi, hi0, hi1, hi2⟩ := info_parts info_event
  go_enter Try.func12, Try.ntmps12
  go_wp2_with fail
  refine N0.mono ?_
  rintro e w1 ⟨v, rfl, hown, hb⟩
  have hsl : SlI w1 v (callI TK) := sl_of_owns (e := 3) (base := w.heap.size) (by unfold callI at hown ⊢; rw [List.length_map]; exact hown) (by unfold callI; rw [List.length_map]; unfold maxLen; omega)
  obtain ⟨vA, vc, rfl⟩ := own_slice hown
  have hTK63 : (TK.length : Int) ≤ 65536 := by omega
  have HS := hide hsl
  have HB := hide hb
  have hz1 := hb.size
  clear hown hsl hb N0
  go_wp2
  go_loopw [10, 20] (fun vo i wr => ∃ k : Nat, k ≤ me ∧ i = .int .i64 k ∧ Hid (wr.ownsRow w1.heap.size 44 8 vo (atL (es.take k) tick (cntT TT)).length ((atL (es.take k) tick (cntT TT)).flatMap evEnc)) ∧
    Hid (Below w1.heap.size w1 wr) ∧ w1.heap.size ≤ wr.heap.size) (fun _ i _ => me - (intOf i).toNat)
  case atStart => exact ⟨0, Nat.zero_le _, rfl, hide (World.ownsRow_nil _ _ _ _), hide (Below.refl _ _), Nat.le_refl _⟩
  case round =>
    obtain ⟨k, hk, rfl, hO, hB2, hsz2⟩ := hrel
    by_cases hlt : k < me
    · obtain ⟨x, hxk⟩ : ∃ x, es[k]? = some x := ⟨_, List.getElem?_eq_getElem (by have := HME.out; omega)⟩
      obtain ⟨A', c', e, _, _, h3⟩ := HE.out.below (HB.out.trans (hB2.out.mono hz1)) (Nat.le_refl _)
      obtain ⟨bb, oo, e', hbb, hc⟩ := h3 k x hxk
      rw [HME.out] at e
      cases e
      cases e'
      obtain ⟨c0, c1, c2, c3, c4, c5, c6, c7⟩ := ev_cells hc
      have hsucc := atL_succ (tick := tick) (cnt := cntT TT) hxk
      have hLk : (atL (es.take k) tick (cntT TT)).length ≤ k := atL_len _ _ _ _
      obtain ⟨oA, oc, rfl⟩ := own_slice hO.out
      clear h3 hc
      by_cases hq : tick < x.inv
      · have dq : decide (tick < x.inv) = true := by simpa using hq
        rw [if_neg (by omega)] at hsucc
        have HSu := hide hsucc
        clear hq hsucc
        go_wp2
        go_roundw
        case rel => exact ⟨k + 1, by omega, by go_num, hide (by rw [HSu.out]; exact hO.out), hB2, hsz2⟩
        case measure => first | (simp [intOf]; done) | (simp [intOf]; omega)
      · have dq : decide (tick < x.inv) = false := by simpa using hq
        rw [if_pos (by omega)] at hsucc
        have HSu := hide hsucc
        obtain ⟨wo, rfl⟩ : ∃ wo : World, wo = wr := ⟨_, rfl⟩
        have q0 : (0 : Int) ≤ (k : Int) := by omega
        have q1 : (k : Int) < (me : Int) := by omega
        clear hq hsucc
        go_wp2_with fail
        refine wp_region_seq (Below wo.heap.size wo) (.take 0 <| .take 1 <| .take 2 <| .take 3 <| .take 4 <| .take 5 <| .take 6 <| .take 7 <| .take 8 <| .take 9 <| .take 10 <| .run 11 <| .run 12 <| .done) (by kernel_rfl) (by kernel_rfl) (by kernel_rfl) (by (repeat' (first | exact Below.refl _ _ | assumption | refine Below.drew ?_ | refine below_drewN ?_ _ | refine Below.alloc ?_ (by simp <;> omega) _ | refine Below.setCell ?_ (by simp <;> omega) _))) ?_
        repeat (refine seq_take (v := ?_) rfl (by rfl) ?_ ?_; rotate_left; (focus (intro wS hS; have s0 := (hS.cell (p := ⟨bb, oo + k * 8, none⟩) hbb).trans c0; have s1 := (hS.cell (p := ⟨bb, oo + k * 8 + 1, none⟩) hbb).trans c1; go_simp; exact rfl)); simp only [Act.put, List.setIfInBounds_toArray, List.set_cons_zero, List.set_cons_succ])
        (refine seq_run rfl (by rfl) (fun K hK => ?_); go_simp)
        refine hK _ _ (by (repeat' (first | exact Below.refl _ _ | assumption | refine Below.drew ?_ | refine below_drewN ?_ _ | refine Below.alloc ?_ (by simp <;> omega) _ | refine Below.setCell ?_ (by simp <;> omega) _))) ?_
        clear hK K
        (refine seq_run rfl (by rfl) (fun K hK => ?_); go_simp)
        refine hK _ _ (by (repeat' (first | exact Below.refl _ _ | assumption | refine Below.drew ?_ | refine below_drewN ?_ _ | refine Below.alloc ?_ (by simp <;> omega) _ | refine Below.setCell ?_ (by simp <;> omega) _))) ?_
        clear hK K
        refine seq_nil ?_
        obtain ⟨q, hqq⟩ : ∃ q, decide (x.resp ≠ 0 ∧ x.resp ≤ tick) = q := ⟨_, rfl⟩
        go_upto_region 8 with fail
        go_cut [55] (fun v wx => v = .bool q ∧ (wo.alloc (.cells #[.int .i64 x.call, .int .i64 x.inv, .int .i64 0, .int .i64 0, .int .i64 0, .int .u64 0, .slice none 0 0, .slice none 0 0] 44)).drew = wx)
        case first =>
          rcases (by omega : x.resp = 0 ∨ (x.resp ≠ 0 ∧ x.resp ≤ tick) ∨ (x.resp ≠ 0 ∧ tick < x.resp)) with r0 | ⟨r0, r1⟩ | ⟨r0, r1⟩
          · have d0 : (x.resp != 0) = false := by simpa using r0
            have hq : q = false := by rw [← hqq]; simp [r0]
            clear hqq r0
            go_wp2
            go_meet
            exact ⟨congrArg Value.bool (by rw [hq]), rfl⟩
          · have d0 : (x.resp != 0) = true := by simpa using r0
            have d1 : decide (x.resp ≤ tick) = true := by simpa using r1
            have hq : q = true := by rw [← hqq]; simp [r0, r1]
            clear hqq r0 r1
            go_wp2
            go_meet
            exact ⟨congrArg Value.bool (by rw [hq]), rfl⟩
          · have d0 : (x.resp != 0) = true := by simpa using r0
            have d1 : decide (x.resp ≤ tick) = false := by simpa using r1
            have hq : q = false := by rw [← hqq]; simp [r1]
            clear hqq r0 r1
            go_wp2
            go_meet
            exact ⟨congrArg Value.bool (by rw [hq]), rfl⟩
        case rest =>
          obtain ⟨rfl, rfl⟩ := hcut
          obtain ⟨y, hy⟩ : ∃ y, atE tick 0 x = y := ⟨_, rfl⟩
          go_upto_if 55 with fail
          go_cut [] (fun wx => wx = ((wo.alloc (.cells #[.int .i64 y.call, .int .i64 y.inv, .int .i64 y.resp, .int .i64 y.steps, .int .i64 y.err, .int .u64 y.val, .slice y.lA y.lN y.lC, .slice y.kA y.kN y.kC] 44)).drew))
          case first =>
            cases q
            · have hn : ¬ (x.resp ≠ 0 ∧ x.resp ≤ tick) := by simpa using hqq
              have : y = { call := x.call, inv := x.inv, resp := 0, steps := (0 : Nat), err := 0, val := 0, lA := none, lN := 0, lC := 0, kA := none, kN := 0, kC := 0 } := by rw [← hy]; unfold atE; rw [if_pos (by omega)]
              subst this
              go_wp2
              go_meet
              rfl
            · have hn : x.resp ≠ 0 ∧ x.resp ≤ tick := by simpa using hqq
              have : y = { x with steps := (0 : Nat) } := by rw [← hy]; unfold atE; rw [if_neg (by omega)]
              subst this
              go_wp2
              go_meet
              rfl
          case rest =>
            subst hcut
            have hyc : y.call = x.call := by rw [← hy]; unfold atE; split <;> rfl
            have hys : y.steps = 0 := by rw [← hy]; unfold atE; split <;> rfl
            have hyn : ∀ n : Nat, atE tick n x = { y with steps := (n : Int) } := fun n => by rw [← hy]; unfold atE; split <;> rfl
            have HYN := hide hyn
            have HYC := hide hyc
            have HYS := hide hys
            clear hqq hy hyn hyc hys c0 c1 c2 c3 c4 c5 c6 c7 hbb hxk
            go_wp2
            go_loopw [63] (fun i wr => ∃ j : Nat, j ≤ TK.length ∧ i = .int .i64 j ∧ Hid (wr.heap[wo.heap.size]? = some (.cells #[.int .i64 y.call, .int .i64 y.inv, .int .i64 y.resp, .int .i64 (cntT (TT.take j) x.call : Nat), .int .i64 y.err, .int .u64 y.val, .slice y.lA y.lN y.lC, .slice y.kA y.kN y.kC] 44 (0, 0))) ∧
              Hid (Below wo.heap.size wo wr) ∧ wo.heap.size + 1 ≤ wr.heap.size) (fun i _ => TK.length - (intOf i).toNat)
            case atStart => exact ⟨0, Nat.zero_le _, rfl, hide (by rw [HYS.out]; exact heap_alloc_new _ _), hide (((Below.refl _ _).alloc (Nat.le_refl _) _).drew), by simp⟩
            case round =>
              obtain ⟨j, hj, rfl, hC, hB3, hsz3⟩ := hrel
              by_cases hjl : j < TK.length
              · obtain ⟨t, ht⟩ : ∃ t, TK[j]? = some t := ⟨_, List.getElem?_eq_getElem hjl⟩
                have hti : (callI TK)[j]? = some (t.call : Int) := by unfold callI; rw [List.getElem?_map, ht]; rfl
                obtain ⟨A2, c2', e2, _, _, h4⟩ := HS.out.below (hB2.out.trans (hB3.out.mono hsz2)) (Nat.le_refl _)
                obtain ⟨b2, o2, e2', hb2, hc2⟩ := h4 j _ hti
                rw [show (callI TK).length = TK.length by unfold callI; rw [List.length_map]] at e2
                cases e2
                cases e2'
                have t0 := nt_cell hc2
                simp only [Nat.mul_one] at t0
                have y0 : wr.cell? ⟨wo.heap.size, 0, none⟩ = some (.int .i64 y.call) := cell_of_row wr _ 0 _ _ _ hC.out
                have y3 : wr.cell? ⟨wo.heap.size, 3, none⟩ = some (.int .i64 (cntT (TT.take j) x.call : Nat)) := cell_of_row wr _ 3 _ _ _ hC.out
                have yf : wr.frozen? ⟨wo.heap.size, 3, none⟩ = false := frozen_of_row wr _ 3 _ _ hC.out
                have yz : wo.heap.size < wr.heap.size := by omega
                have p0 : (0 : Int) ≤ (j : Int) := by omega
                have p1 : (j : Int) < (TK.length : Int) := by omega
                have hcb : ((cntT (TT.take j) x.call : Nat) : Int) ≤ 65536 := by
                  have h1 : cntT (TT.take j) x.call ≤ (TT.take j).length := List.countP_le_length
                  simp only [List.length_take] at h1
                  omega
                clear h4 hc2 hti
                rcases (by omega : tick ≤ (j : Int) ∨ ((j : Int) < tick ∧ (t.call : Int) = y.call) ∨ ((j : Int) < tick ∧ (t.call : Int) ≠ y.call)) with r0 | ⟨r0, r1⟩ | ⟨r0, r1⟩
                · have d0 : decide ((j : Int) < tick) = false := by simpa using r0
                  have hst : TT.take (j + 1) = TT.take j := by rw [← HTT.out]; exact take_ge r0
                  have HST := hide hst
                  clear r0 hst
                  go_wp2_with fail
                  refine wp_region_seq (fun X => X.cell? ⟨b2, o2 + j, none⟩ = some (.int .i64 (t.call : Int)) ∧ X.cell? ⟨wo.heap.size, 0, none⟩ = some (.int .i64 y.call)) (.take 0 <| .take 1 <| .take 2 <| .take 3 <| .take 4 <| .take 5 <| .take 6 <| .take 7 <| .take 8 <| .take 9 <| .take 10 <| .take 11 <| .done) (by kernel_rfl) (by kernel_rfl) (by kernel_rfl) (by refine ⟨?_, ?_⟩ <;> go_simp) ?_
                  repeat (first | (refine seq_take (v := ?_) rfl (by rfl) ?_ ?_; rotate_left; (focus (intro wS hS; obtain ⟨s0, s1⟩ := hS; go_simp; exact rfl)); simp only [Act.put, List.setIfInBounds_toArray, List.set_cons_zero, List.set_cons_succ]) | (refine seq_skip rfl (by rfl) ?_; simp only [Act.put, List.setIfInBounds_toArray, List.set_cons_zero, List.set_cons_succ]))
                  refine seq_nil ?_
                  go_wp2
                  go_roundw
                  case rel => exact ⟨j + 1, by omega, by go_num, hide (by rw [HST.out]; exact hC.out), hide hB3.out.drew, hsz3⟩
                  case measure => first | (simp [intOf]; done) | (simp [intOf]; omega)
                · have d0 : decide ((j : Int) < tick) = true := by simpa using r0
                  have d1 : ((t.call : Int) == y.call) = true := by simpa using r1
                  have hst : cntT (TT.take (j + 1)) x.call = cntT (TT.take j) x.call + 1 := by rw [cntT_snoc (by rw [← HTT.out]; exact take_lt ht r0), if_pos (r1.trans HYC.out)]
                  have HST := hide hst
                  clear r0 r1 hst
                  go_wp2_with fail
                  refine wp_region_seq (fun X => X.cell? ⟨b2, o2 + j, none⟩ = some (.int .i64 (t.call : Int)) ∧ X.cell? ⟨wo.heap.size, 0, none⟩ = some (.int .i64 y.call)) (.take 0 <| .take 1 <| .take 2 <| .take 3 <| .take 4 <| .take 5 <| .take 6 <| .take 7 <| .take 8 <| .take 9 <| .take 10 <| .take 11 <| .done) (by kernel_rfl) (by kernel_rfl) (by kernel_rfl) (by refine ⟨?_, ?_⟩ <;> go_simp) ?_
                  repeat (first | (refine seq_take (v := ?_) rfl (by rfl) ?_ ?_; rotate_left; (focus (intro wS hS; obtain ⟨s0, s1⟩ := hS; go_simp; exact rfl)); simp only [Act.put, List.setIfInBounds_toArray, List.set_cons_zero, List.set_cons_succ]) | (refine seq_skip rfl (by rfl) ?_; simp only [Act.put, List.setIfInBounds_toArray, List.set_cons_zero, List.set_cons_succ]))
                  refine seq_nil ?_
                  go_wp2
                  go_roundw
                  case rel => exact ⟨j + 1, by omega, by go_num, hide (by rw [HST.out, Int.natCast_add]; exact cells_set (i := 3) hC.out), hide ((hB3.out.drew).setCell (by simp) _), by simp; omega⟩
                  case measure => first | (simp [intOf]; done) | (simp [intOf]; omega)
                · have d0 : decide ((j : Int) < tick) = true := by simpa using r0
                  have d1 : ((t.call : Int) == y.call) = false := by simpa using r1
                  have hst : cntT (TT.take (j + 1)) x.call = cntT (TT.take j) x.call := by rw [cntT_snoc (by rw [← HTT.out]; exact take_lt ht r0), if_neg (by rw [← HYC.out]; exact r1), Nat.add_zero]
                  have HST := hide hst
                  clear r0 r1 hst
                  go_wp2_with fail
                  refine wp_region_seq (fun X => X.cell? ⟨b2, o2 + j, none⟩ = some (.int .i64 (t.call : Int)) ∧ X.cell? ⟨wo.heap.size, 0, none⟩ = some (.int .i64 y.call)) (.take 0 <| .take 1 <| .take 2 <| .take 3 <| .take 4 <| .take 5 <| .take 6 <| .take 7 <| .take 8 <| .take 9 <| .take 10 <| .take 11 <| .done) (by kernel_rfl) (by kernel_rfl) (by kernel_rfl) (by refine ⟨?_, ?_⟩ <;> go_simp) ?_
                  repeat (first | (refine seq_take (v := ?_) rfl (by rfl) ?_ ?_; rotate_left; (focus (intro wS hS; obtain ⟨s0, s1⟩ := hS; go_simp; exact rfl)); simp only [Act.put, List.setIfInBounds_toArray, List.set_cons_zero, List.set_cons_succ]) | (refine seq_skip rfl (by rfl) ?_; simp only [Act.put, List.setIfInBounds_toArray, List.set_cons_zero, List.set_cons_succ]))
                  refine seq_nil ?_
                  go_wp2
                  go_roundw
                  case rel => exact ⟨j + 1, by omega, by go_num, hide (by rw [HST.out]; exact hC.out), hide hB3.out.drew, hsz3⟩
                  case measure => first | (simp [intOf]; done) | (simp [intOf]; omega)
              · obtain rfl : j = TK.length := by omega
                have hTT : TT.take TK.length = TT := List.take_of_length_le (by rw [← HTT.out, List.length_take]; omega)
                have hC' := hC.out
                rw [hTT] at hC'
                obtain ⟨y0, y1, y2, y3, y4, y5, y6, y7⟩ := cells8 hC'
                have hO2 := owns_keepB hO.out (Keep.of_below (K := fun j => j < wo.heap.size) hB3.out (fun k hk => hk)) (fun j _ hl => hl)
                have HO2 := hide hO2
                have HAE := HYN.out (cntT TT x.call)
                have HAE := hide HAE
                have hLk63 : ((atL (es.take k) tick (cntT TT)).length : Int) ≤ 100000 := by omega
                have hz0 : w1.heap.size ≤ wr.heap.size := by omega
                clear hTT hC' hjl hO2
                go_wp2_with (at_builtin; refine wpList_append_own_at _ rfl _ _ 27 rfl w1.heap.size 44 i0 (.agg #[.int .i64 0, .int .i64 0, .int .i64 0, .int .i64 0, .int .i64 0, .int .u64 0, .slice none 0 0, .slice none 0 0]) 8 96 Try.underlying27 hi hi0 hi1 hi2 rfl (by decide) _ _ _ rfl (World.ownsRow.alloc HO2.out _) ⟨wr.heap.size, 0, none⟩ 1 1 [.int .i64 y.call, .int .i64 y.inv, .int .i64 y.resp, .int .i64 (cntT TT x.call : Nat), .int .i64 y.err, .int .u64 y.val, .slice y.lA y.lN y.lC, .slice y.kA y.kN y.kC] rfl rfl (by intro j u hu; rcases j with _ | _ | _ | _ | _ | _ | _ | _ | j; (cases hu; go_simp); (cases hu; go_simp); (cases hu; go_simp); (cases hu; go_simp); (cases hu; go_simp); (cases hu; go_simp); (cases hu; go_simp); (cases hu; go_simp); cases hu) (by simp [Value.oneCell']) (by unfold maxLen; omega) (by omega) (by simp; omega) ?_; intro v5 w5 hown5 hgrow _ _)
                have hK5 : Keep (fun j => j < w1.heap.size) wr w5 := ((Keep.refl _ wr).alloc (fun k hk => by omega) _).grown hgrow (fun k hk => by simp; omega) (fun k hk hh => by have := (HO2.out.lt k hk).1; omega)
                have hz5 := hK5.size
                have HO5 : Hid (w5.ownsRow w1.heap.size 44 8 v5 (atL (es.take (k + 1)) tick (cntT TT)).length ((atL (es.take (k + 1)) tick (cntT TT)).flatMap evEnc)) := hide (by rw [HSu.out, HAE.out]; simpa [evEnc] using hown5)
                go_roundw
                case rel => exact ⟨k + 1, by omega, by go_num, HO5, hide ((hB2.out.trans (hB3.out.mono hsz2)).trans (hK5.below (fun k hk => by omega))), by omega⟩
                case measure => first | (simp [intOf]; done) | (simp [intOf]; omega)
    · obtain rfl : k = me := by omega
      have hfull : atL es tick (cntT TT) = atL (es.take k) tick (cntT TT) := by rw [List.take_of_length_le (by have := HME.out; omega)]
      have HF := hide hfull
      clear hfull
      go_wp2
      go_ret
      refine ⟨_, rfl, ?_, HB.out.trans (hB2.out.mono hz1)⟩
      rw [HF.out]
      exact owns_base hO.out (by omega)
end Go.Proofs.Ytmiimpmfkjcjlaa
