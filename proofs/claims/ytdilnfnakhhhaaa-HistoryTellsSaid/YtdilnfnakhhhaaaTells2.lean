/- The law HistoryTells, walked: it returns true whatever the events, the calls and the three numbers are; what lay in memory lies as it lay. -/
import Derived.Test.YtdilnfnakhhhaaaHist7
import Derived.Test.YtdilnfnakhhhaaaTells1
import Derived.Test.YtdilnfnakhhhaaaSeq
import Derived.Deep.DeepCutAuto
import Derived.Maps.AppendAt
namespace Go.Proofs.Ytdilnfnakhhhaaa
open Go.RowKit

theorem row_below {B : Nat} {e : TypeId} {k : Nat} {v : Value} {n : Nat} {xs : List Value} {w w' : World} (h : w.ownsRow B e k v n xs) (hb : Below w.heap.size w w') : w'.ownsRow B e k v n xs :=
  h.kept (row := none) ⟨hb.os, hb.tape, hb.output, hb.size, fun j hj _ => hb.block j hj⟩ (by cases hv : v.ownBlock <;> simp)

/-- Two rows that do not lie in one block. -/
def Apart (u v : Value) : Prop := u.ownBlock = none ∨ v.ownBlock = none ∨ u.ownBlock ≠ v.ownBlock

/-- One row grows, the other stays. -/
theorem rows_grow {wr w' : World} {B : Nat} {t : TypeId} {o : Obj} {u u' v : Value} {n m : Nat} {xs ys : List Value} (hu : wr.ownsRow B t 1 u n xs) (hv : wr.ownsRow B t 1 v m ys) (ha : Apart u v)
    (hg : (wr.alloc o).grownBy w' u.ownBlock) (hl : u'.ownBlock = u.ownBlock ∨ u'.ownBlock = some (wr.alloc o).heap.size) (hB : B ≤ wr.heap.size) {W : World} (hW : Below B W wr) :
    w'.ownsRow B t 1 v m ys ∧ Apart u' v ∧ Below B W w' := by
  have hne : v.ownBlock = none ∨ v.ownBlock ≠ u.ownBlock := by
    rcases ha with h | h | h
    · rcases hvb : v.ownBlock with _ | g
      · exact .inl rfl
      · exact .inr (by rw [h]; simp)
    · exact .inl h
    · exact .inr (fun e => h e.symm)
  refine ⟨(hv.alloc o).kept hg hne, ?_, (hW.alloc hB o).grown hg (by simp; omega) (fun k hk => (hu.lt k hk).1)⟩
  rcases hl with h | h
  · unfold Apart; rw [h]; exact ha
  · rcases hvb : v.ownBlock with _ | g
    · exact .inr (.inl hvb)
    · refine .inr (.inr ?_)
      rw [h, hvb]
      have := (hv.lt g hvb).2
      simp; omega
theorem Apart.symm {u v : Value} (h : Apart u v) : Apart v u := by
  rcases h with h | h | h
  · exact .inr (.inl h)
  · exact .inl h
  · exact .inr (.inr (fun e => h e.symm))

theorem el_cells {w : World} {b o n cap k : Nat} {es : List Ev} {e : Ev} (h : SlEv w (.slice (some ⟨b, o, none⟩) n cap) es) (he : es[k]? = some e) :
    w.cell? ⟨b, o + k * 8, none⟩ = some (.int .i64 e.call) ∧ w.cell? ⟨b, o + k * 8 + 1, none⟩ = some (.int .i64 e.inv) ∧ w.cell? ⟨b, o + k * 8 + 2, none⟩ = some (.int .i64 e.resp) ∧ w.cell? ⟨b, o + k * 8 + 3, none⟩ = some (.int .i64 e.steps) ∧
    w.cell? ⟨b, o + k * 8 + 4, none⟩ = some (.int .i64 e.err) ∧ w.cell? ⟨b, o + k * 8 + 5, none⟩ = some (.int .u64 e.val) ∧ w.cell? ⟨b, o + k * 8 + 6, none⟩ = some (.slice e.lA e.lN e.lC) ∧ w.cell? ⟨b, o + k * 8 + 7, none⟩ = some (.slice e.kA e.kN e.kC) := by
  obtain ⟨A, c, hv, _, _, h3⟩ := h
  obtain ⟨b', o', hA, _, hce⟩ := h3 k e he
  cases hv
  cases hA
  exact ev_cells hce

theorem el_at {w : World} {A : Option Addr} {n cap k : Nat} {es : List Ev} {e : Ev} (h : SlEv w (.slice A n cap) es) (he : es[k]? = some e) : ∃ b o, A = some ⟨b, o, none⟩ ∧ b < w.heap.size := by
  obtain ⟨A', c, hv, _, _, h3⟩ := h
  obtain ⟨b', o', hA, hb, _⟩ := h3 k e he
  cases hv
  exact ⟨b', o', hA, hb⟩

abbrev Row (w : World) (B : Nat) (v : Value) (l : List Nat) : Prop := w.ownsRow B 3 1 v l.length (l.map fun k : Nat => Value.int .i64 (k : Int))
theorem row_sl {w : World} {B : Nat} {v : Value} {l : List Nat} (h : Row w B v l) (hm : l.length ≤ maxLen) : SlI w v (l.map fun k : Nat => (k : Int)) := by
  have h' : w.ownsRow B 3 1 v (l.map fun k : Nat => (k : Int)).length ((l.map fun k : Nat => (k : Int)).map (Value.int .i64)) := by
    rw [List.length_map, List.map_map]; exact h
  exact sl_of_owns h' (by simpa using hm)


set_option maxRecDepth 100000 in
set_option maxHeartbeats 2000000 in
theorem law_tells (q0 q1 q2 : Int) (cv sv : Value) (cs : List Cl) (es : List Ev) (w : World) (hcs : SlCl w cv cs) (hes : SlEv w sv es) :
    Calls Try.prog 4 #[.agg #[.int .i64 q0, .int .i64 q1, .int .i64 q2], cv, sv] w fun e w' => e = .returned (.bool true) ∧ Below w.heap.size w w' := by
  have hes' := hes
  have hcs' := hcs
  obtain ⟨A, cap, rfl, h1, h2, h3⟩ := hes
  obtain ⟨Ac, capc, rfl, g1, g2, g3⟩ := hcs
  clear h3 g3
  obtain ⟨i0, hi, hz0, hz1, hz2⟩ := info_parts info_int
  by_cases hbig : 100 < es.length
  · go_enter Try.func4, Try.ntmps4
    go_wp2_with (go_at_call 12; refine (two_any _).mono ?_; rintro e w1 ⟨rfl, hb1⟩)
    go_ret
    exact ⟨rfl, ((Below.refl _ _).alloc (Nat.le_refl _) _).trans (hb1.mono (by simp))⟩
  · go_enter Try.func4, Try.ntmps4
    go_upto_region 3 with fail
    have hq0 : (w.alloc (.cells #[.int .i64 q0, .int .i64 q1, .int .i64 q2] 28)).cell? ⟨w.heap.size, 0, none⟩ = some (.int .i64 q0) := by go_simp
    have hq1 : (w.alloc (.cells #[.int .i64 q0, .int .i64 q1, .int .i64 q2] 28)).cell? ⟨w.heap.size, 1, none⟩ = some (.int .i64 q1) := by go_simp
    have hq2 : (w.alloc (.cells #[.int .i64 q0, .int .i64 q1, .int .i64 q2] 28)).cell? ⟨w.heap.size, 2, none⟩ = some (.int .i64 q2) := by go_simp
    have hzz : w.heap.size < (w.alloc (.cells #[.int .i64 q0, .int .i64 q1, .int .i64 q2] 28)).heap.size := by simp
    have hC := hcs'.alloc (.cells #[.int .i64 q0, .int .i64 q1, .int .i64 q2] 28)
    have hE := hes'.alloc (.cells #[.int .i64 q0, .int .i64 q1, .int .i64 q2] 28)
    have hB : Below w.heap.size w (w.alloc (.cells #[.int .i64 q0, .int .i64 q1, .int .i64 q2] 28)) := by (repeat' (first | exact Below.refl _ _ | assumption | refine Below.drew ?_ | refine below_drewN ?_ _ | refine Below.alloc ?_ (by simp <;> omega) _ | refine Below.setCell ?_ (by simp <;> omega) _))
    generalize hW : w.alloc (.cells #[.int .i64 q0, .int .i64 q1, .int .i64 q2] 28) = W at *
    clear hW hes' hcs'
    go_cut [7] (fun v wx => v = .bool (decide (0 ≤ q0 ∧ 0 ≤ q1 ∧ q0 < es.length ∧ q1 < es.length)) ∧ W = wx)
    case first =>
      by_cases a0 : 0 ≤ q0
      · by_cases a1 : 0 ≤ q1
        · by_cases a2 : q0 < es.length
          · by_cases a3 : q1 < es.length
            all_goals (go_wp2; go_meet; exact ⟨congrArg Value.bool (by rw [eq_comm]; simp <;> omega), rfl⟩)
          · go_wp2; go_meet; exact ⟨congrArg Value.bool (by rw [eq_comm]; simp <;> omega), rfl⟩
        · go_wp2; go_meet; exact ⟨congrArg Value.bool (by rw [eq_comm]; simp <;> omega), rfl⟩
      · go_wp2; go_meet; exact ⟨congrArg Value.bool (by rw [eq_comm]; simp <;> omega), rfl⟩
    case rest =>
      obtain ⟨rfl, hwc⟩ := hcut
      subst hwc
      go_upto_if 40 with fail
      go_cut [7] (fun v wx => v = .bool (aheadB es q0 q1) ∧ Below W.heap.size W wx)
      case first =>
        by_cases hc : 0 ≤ q0 ∧ 0 ≤ q1 ∧ q0 < es.length ∧ q1 < es.length
        · have hd := decide_eq_true hc
          rw [hd]
          obtain ⟨hi, hk, hil, hkl⟩ := hc
          clear hd
          obtain ⟨i, rfl⟩ := Int.eq_ofNat_of_zero_le hi
          obtain ⟨k, rfl⟩ := Int.eq_ofNat_of_zero_le hk
          have hil' : i < es.length := by omega
          have hkl' : k < es.length := by omega
          obtain ⟨b, o, rfl, hb⟩ := el_at hE (List.getElem?_eq_getElem hil')
          obtain ⟨c0, c1, c2, c3, c4, c5, c6, c7⟩ := el_cells hE (List.getElem?_eq_getElem hil')
          obtain ⟨d0, d1, d2, d3, d4, d5, d6, d7⟩ := el_cells hE (List.getElem?_eq_getElem hkl')
          have hF : Hid (aheadB es (i : Int) (k : Int) = aheadE es[i] es[k]) := aheadB_nat (List.getElem?_eq_getElem hil') (List.getElem?_eq_getElem hkl')
          generalize es[i] = ea at *
          generalize es[k] = eb at *
          go_wp2
          refine wp_region_seq (fun w' => Below W.heap.size W w') (.take 0 <| .take 1 <| .take 2 <| .take 3 <| .take 4 <| .take 5 <| .take 6 <| .take 7 <| .take 8 <| .take 9 <| .run 10 <| .take 11 <| .done) (by kernel_rfl) (by kernel_rfl) (by kernel_rfl) (Below.refl _ _).drew ?_
          repeat (first | (refine seq_take (v := ?_) rfl (by rfl) ?_ ?_; rotate_left; (focus (intro wS hS; replace hS := bcellc hS; go_simp; exact rfl)); simp only [Act.put, List.setIfInBounds_toArray, List.set_cons_zero, List.set_cons_succ]) | (refine seq_skip rfl (by rfl) ?_; simp only [Act.put, List.setIfInBounds_toArray, List.set_cons_zero, List.set_cons_succ]) | (refine seq_pass rfl (by rfl) (by assumption) ?_; simp only [Act.put, List.setIfInBounds_toArray, List.set_cons_zero, List.set_cons_succ]))
          (refine seq_run rfl (by rfl) (fun K hK => ?_); go_simp)
          refine (refAhead_any ea eb _).mono ?_
          rintro e w1 ⟨rfl, hb1⟩
          refine hK _ _ ((Below.refl _ _).drew.trans hb1) ?_
          clear hK K
          repeat (first | (refine seq_take (v := ?_) rfl (by rfl) ?_ ?_; rotate_left; (focus (intro wS hS; replace hS := bcellc hS; go_simp; exact rfl)); simp only [Act.put, List.setIfInBounds_toArray, List.set_cons_zero, List.set_cons_succ]) | (refine seq_skip rfl (by rfl) ?_; simp only [Act.put, List.setIfInBounds_toArray, List.set_cons_zero, List.set_cons_succ]) | (refine seq_pass rfl (by rfl) (by assumption) ?_; simp only [Act.put, List.setIfInBounds_toArray, List.set_cons_zero, List.set_cons_succ]))
          refine seq_nil ?_
          go_wp2
          go_meet
          exact ⟨congrArg Value.bool hF.out.symm, (Below.refl _ _).drew.trans hb1⟩
        · have hd := decide_eq_false hc
          have hF : Hid (aheadB es q0 q1 = false) := by show _ = _; unfold aheadB; rw [hd]; rfl
          rw [hd]
          clear hd hc
          go_wp2
          go_meet
          exact ⟨congrArg Value.bool hF.out.symm, Below.refl _ _⟩
      case rest =>
        obtain ⟨rfl, hbx⟩ := hcut
        have hlen : (es.length : Int) ≤ 9223372036854775807 := by omega
        go_wp2
        go_loopw [8, 9, 10, 54] (fun v8 v9 v10 i wr => ∃ k : Nat, k ≤ es.length ∧ i = .int .i64 k ∧ v10 = .int .i64 (widthTo es k : Nat) ∧ Row wr W.heap.size v8 (ixTo es pendB k) ∧ Row wr W.heap.size v9 (ixTo es (ofB cs q2) k) ∧ Apart v8 v9 ∧ Below W.heap.size W wr) (fun _ _ _ i _ => es.length - (intOf i).toNat)
        case atStart => exact ⟨0, Nat.zero_le _, rfl, rfl, World.ownsRow_nil _ _ _ _, World.ownsRow_nil _ _ _ _, .inl rfl, hbx⟩
        case round =>
          obtain ⟨k, hk, rfl, rfl, ho8, ho9, hap, hbw⟩ := hrel
          by_cases hlt : k < es.length
          · obtain ⟨e, hee⟩ : ∃ e, es[k]? = some e := ⟨_, List.getElem?_eq_getElem hlt⟩
            have hEr := hE.below hbw (Nat.le_refl _)
            have hCr := hC.below hbw (Nat.le_refl _)
            obtain ⟨b, o, rfl, hb'⟩ := el_at hE hee
            obtain ⟨c0, c1, c2, c3, c4, c5, c6, c7⟩ := el_cells hEr hee
            have hb := Nat.lt_of_lt_of_le hb' hbw.size
            have hL8 := ixTo_length es pendB k
            have hL9 := ixTo_length es (ofB cs q2) k
            have Hee := hide hee
            clear hee
            go_upto_if 62 with fail
            go_cut [8] (fun v wx => Row wx W.heap.size v (ixTo es pendB (k + 1)) ∧ Row wx W.heap.size u9 (ixTo es (ofB cs q2) k) ∧ Apart v u9 ∧ Below W.heap.size W wx)
            case first =>
              rcases hp : pendB e with _ | _
              · have HX := hide (ixTo_miss Hee.out hp)
                have hr : (e.resp == 0) = false := by unfold pendB at hp; simpa using hp
                clear hp
                go_wp2
                go_meet
                rw [HX.out]
                exact ⟨ho8, ho9, hap, hbw⟩
              · have HX := hide (ixTo_hit Hee.out hp)
                have hr : (e.resp == 0) = true := by unfold pendB at hp; simpa using hp
                clear hp
                go_wp2_with (first
                  | (at_builtin; refine wpList_append_own_at _ rfl _ _ 35 rfl W.heap.size 3 i0 (.int .i64 0) 1 8 Try.underlying35 hi hz0 hz1 hz2 rfl (by decide) _ _ _ rfl (World.ownsRow.alloc ho8 _) ⟨wr.heap.size, 0, none⟩ 1 1 [.int .i64 k] rfl rfl (cell_one_new _ _ _) (ints_oneCell .i64 [(k : Int)]) (by unfold maxLen; omega) (by omega) (by have := hbw.size; simp; omega) ?_; intro v' w5 hown' hgrow hnil hloc)
                  | go_in)
                obtain ⟨hn9, hna, hnb⟩ := rows_grow ho8 ho9 hap hgrow hloc hbw.size hbw
                go_meet
                rw [HX.out]
                exact ⟨by simpa [Row] using hown', hn9, hna, hnb⟩
            case rest =>
              obtain ⟨ho8', ho9', hap', hbw'⟩ := hcut
              clear c0 c1 c2 c3 c4 c5 c6 c7 ho8 ho9 hap hbw hEr hCr
              have hEr := hE.below hbw' (Nat.le_refl _)
              have hCr := hC.below hbw' (Nat.le_refl _)
              obtain ⟨c0, c1, c2, c3, c4, c5, c6, c7⟩ := el_cells hEr Hee.out
              have hbc : b < wc.heap.size := Nat.lt_of_lt_of_le hb' hbw'.size
              have hq2' := (hbw'.cell (p := ⟨w.heap.size, 2, none⟩) hzz).trans hq2
              have hzz' := Nat.lt_of_lt_of_le hzz hbw'.size
              go_upto_region 13 with fail
              go_cut [96] (fun v wx => v = .bool (ofB cs q2 e) ∧ ∃ n, wx = wc.drewN n)
              case first =>
                rcases hA : evCall cs e with _ | c
                · have HF : Hid (ofB cs q2 e = false) := by show _ = _; unfold ofB; rw [hA]; simp
                  have hc : ¬ (0 ≤ e.call ∧ e.call < cs.length) := by
                    intro hc
                    obtain ⟨cl, _, hev⟩ := evCall_some hc
                    rw [hev] at hA; cases hA
                  clear hA
                  by_cases hc0 : 0 ≤ e.call
                  · have hc1 : ¬ e.call < cs.length := fun h => hc ⟨hc0, h⟩
                    have p0 : decide (0 ≤ e.call) = true := by simp [hc0]
                    have p1 : decide (e.call < cs.length) = false := by simp; omega
                    clear hc
                    go_wp2
                    go_quiet (fail)
                    go_wp2
                    go_meet
                    exact ⟨congrArg Value.bool HF.out.symm, _, rfl⟩
                  · have p0 : decide (0 ≤ e.call) = false := by simp; omega
                    clear hc
                    go_wp2
                    go_quiet (fail)
                    go_wp2
                    go_meet
                    exact ⟨congrArg Value.bool HF.out.symm, _, rfl⟩
                · have hc : 0 ≤ e.call ∧ e.call < cs.length := by
                    by_cases hc : 0 ≤ e.call ∧ e.call < cs.length
                    · exact hc
                    · rw [evCall_none hc] at hA; cases hA
                  obtain ⟨cl, hcl, hev⟩ := evCall_some hc
                  obtain rfl : cl = c := by rw [hev] at hA; exact Option.some.inj hA
                  have HF : Hid (ofB cs q2 e = decide (cl.thread = q2)) := by show _ = _; unfold ofB; rw [hev]; simp
                  obtain ⟨hc0, hc1⟩ := hc
                  obtain ⟨Ac', cc', hv, _, _, g3⟩ := hCr
                  obtain ⟨bc, oc, hAc, hbc', hcc⟩ := g3 _ _ hcl
                  cases hv
                  subst hAc
                  have d0 := (cl_cells hcc).1
                  clear hcc hev hcl g3 hA
                  have p0 : decide (0 ≤ e.call) = true := by simp [hc0]
                  have p1 : decide (e.call < cs.length) = true := by simp [hc1]
                  go_wp2
                  go_quiet (fail)
                  go_wp2
                  go_meet
                  exact ⟨congrArg Value.bool (HF.out.trans (by first | rfl | simp)).symm, _, rfl⟩
              case rest =>
                obtain ⟨rfl, nn, rfl⟩ := hcut
                have r8 : Row (wc.drewN nn) W.heap.size u8 (ixTo es pendB (k + 1)) := ho8'
                have r9 : Row (wc.drewN nn) W.heap.size u9 (ixTo es (ofB cs q2) k) := ho9'
                have rB : Below W.heap.size W (wc.drewN nn) := below_drewN hbw' nn
                clear ho8' ho9' hbw' c0 c1 c2 c3 c4 c5 c6 c7 hbc hq2' hzz' hEr hCr
                generalize wc.drewN nn = wr at *
                go_upto_if 96 with fail
                go_cut [9] (fun v wx => Row wx W.heap.size u8 (ixTo es pendB (k + 1)) ∧ Row wx W.heap.size v (ixTo es (ofB cs q2) (k + 1)) ∧ Apart u8 v ∧ Below W.heap.size W wx)
                case first =>
                  rcases hp : ofB cs q2 e with _ | _
                  · have HX := hide (ixTo_miss Hee.out hp)
                    clear hp
                    go_wp2
                    go_meet
                    rw [HX.out]
                    exact ⟨r8, r9, hap', rB⟩
                  · have HX := hide (ixTo_hit Hee.out hp)
                    clear hp
                    go_wp2_with (first
                      | (at_builtin; refine wpList_append_own_at _ rfl _ _ 35 rfl W.heap.size 3 i0 (.int .i64 0) 1 8 Try.underlying35 hi hz0 hz1 hz2 rfl (by decide) _ _ _ rfl (World.ownsRow.alloc r9 _) ⟨wr.heap.size, 0, none⟩ 1 1 [.int .i64 k] rfl rfl (cell_one_new _ _ _) (ints_oneCell .i64 [(k : Int)]) (by unfold maxLen; omega) (by omega) (by have := rB.size; simp; omega) ?_; intro v' w5 hown' hgrow hnil hloc)
                      | go_in)
                    obtain ⟨hn8, hna, hnb⟩ := rows_grow r9 r8 hap'.symm hgrow hloc rB.size rB
                    go_meet
                    rw [HX.out]
                    exact ⟨hn8, by simpa [Row] using hown', hna.symm, hnb⟩
                case rest =>
                  obtain ⟨s8, s9, sap, sB⟩ := hcut
                  clear r8 r9 rB hap'
                  have hEr := hE.below sB (Nat.le_refl _)
                  obtain ⟨c0, c1, c2, c3, c4, c5, c6, c7⟩ := el_cells hEr Hee.out
                  have hbr : b < wc.heap.size := Nat.lt_of_lt_of_le hb' sB.size
                  have Hwd := hide (widthTo_succ Hee.out)
                  have hwl := widthTo_le es k
                  clear c0 c1 c2 c3 c4 c5 c6 c7
                  go_wp2
                  go_loopw [12, 103] (fun n j wq => ∃ m : Nat, m ≤ es.length ∧ j = .int .i64 m ∧ n = .int .i64 (cntTo es e.inv m : Nat) ∧ Below wc.heap.size wc wq) (fun _ j _ => es.length - (intOf j).toNat)
                  case atStart => exact ⟨0, Nat.zero_le _, rfl, rfl, Below.refl _ _⟩
                  case round =>
                    obtain ⟨m, hm, rfl, rfl, hbq⟩ := hrel
                    have hcl := cntTo_le es e.inv m
                    by_cases hmlt : m < es.length
                    · obtain ⟨x, hx⟩ : ∃ x, es[m]? = some x := ⟨_, List.getElem?_eq_getElem hmlt⟩
                      have hEq := hEr.below hbq (Nat.le_refl _)
                      obtain ⟨c0, c1, c2, c3, c4, c5, c6, c7⟩ := el_cells hEq Hee.out
                      obtain ⟨d0, d1, d2, d3, d4, d5, d6, d7⟩ := el_cells hEq hx
                      have hbq2 : b < wr.heap.size := Nat.lt_of_lt_of_le hbr hbq.size
                      have hcs := cntTo_succ (t := e.inv) hx
                      clear hx
                      go_wp2
                      refine wp_region_seq (fun w' => Below wr.heap.size wr w') (.take 0 <| .take 1 <| .take 2 <| .take 3 <| .take 4 <| .take 5 <| .take 6 <| .take 7 <| .take 8 <| .run 9 <| .done) (by kernel_rfl) (by kernel_rfl) (by kernel_rfl) (Below.refl _ _).drew ?_
                      repeat (first | (refine seq_take (v := ?_) rfl (by rfl) ?_ ?_; rotate_left; (focus (intro wS hS; replace hS := bcellc hS; go_simp; exact rfl)); simp only [Act.put, List.setIfInBounds_toArray, List.set_cons_zero, List.set_cons_succ]) | (refine seq_skip rfl (by rfl) ?_; simp only [Act.put, List.setIfInBounds_toArray, List.set_cons_zero, List.set_cons_succ]) | (refine seq_pass rfl (by rfl) (by assumption) ?_; simp only [Act.put, List.setIfInBounds_toArray, List.set_cons_zero, List.set_cons_succ]))
                      (refine seq_run rfl (by rfl) (fun K hK => ?_); go_simp)
                      refine (within_any x e.inv _).mono ?_
                      rintro en w1 ⟨rfl, hb1⟩
                      have hbn := hbq.trans (((Below.refl _ _).drew.trans hb1).mono hbq.size)
                      refine hK _ _ ((Below.refl _ _).drew.trans hb1) ?_
                      clear hK K
                      refine seq_nil ?_
                      clear c0 c1 c2 c3 c4 c5 c6 c7 d0 d1 d2 d3 d4 d5 d6 d7
                      rcases hwb : withinB e.inv x with _ | _
                      · have Hcs : Hid (cntTo es e.inv (m + 1) = cntTo es e.inv m) := by show _ = _; rw [hcs, hwb]; simp
                        clear hcs hwb
                        go_wp2
                        go_roundw
                        case rel => exact ⟨m + 1, by omega, by go_num, by rw [Hcs.out], hbn⟩
                        case measure => simp [intOf] <;> omega
                      · have Hcs : Hid (cntTo es e.inv (m + 1) = cntTo es e.inv m + 1) := by show _ = _; rw [hcs, hwb]; simp
                        clear hcs hwb
                        go_wp2
                        go_roundw
                        case rel => exact ⟨m + 1, by omega, by go_num, by rw [Hcs.out]; go_num, hbn⟩
                        case measure => simp [intOf] <;> omega
                    · obtain rfl : m = es.length := by omega
                      have Hw : Hid (widthTo es (k + 1) = max (widthTo es k) (cntTo es e.inv es.length)) := Hwd.out
                      have t8 := row_below s8 hbq
                      have t9 := row_below s9 hbq
                      have tB := sB.trans (hbq.mono sB.size)
                      clear s8 s9 Hwd
                      go_wp2
                      refine ⟨⟨k + 1, hlt, by go_num, ?_, t8, t9, sap, tB⟩, by simp [intOf]; omega⟩
                      rw [Hw.out]
                      congr 1
                      split <;> omega
          · obtain rfl : k = es.length := by omega
            have hL8 := ixTo_length es pendB es.length
            have hL9 := ixTo_length es (ofB cs q2) es.length
            obtain ⟨l8, hl8⟩ : ∃ l, ixTo es pendB es.length = l := ⟨_, rfl⟩
            obtain ⟨l9, hl9⟩ : ∃ l, ixTo es (ofB cs q2) es.length = l := ⟨_, rfl⟩
            have H8 := hide hl8
            have H9 := hide hl9
            rw [hl8] at ho8 hL8
            rw [hl9] at ho9 hL9
            clear hl8 hl9
            have z0 := (hbw.cell (p := ⟨w.heap.size, 0, none⟩) hzz).trans hq0
            have z1 := (hbw.cell (p := ⟨w.heap.size, 1, none⟩) hzz).trans hq1
            have hzr := Nat.lt_of_lt_of_le hzz hbw.size
            go_wp2_with fail
            refine (ahead_any _ es q0 q1 wr (hE.below hbw (Nat.le_refl _))).mono ?_
            rintro en w1 ⟨rfl, n1, rfl⟩
            have hb1 : Below W.heap.size W (wr.drewN n1) := below_drewN hbw n1
            have r8 : Row (wr.drewN n1) W.heap.size u8 l8 := ho8
            have r9 : Row (wr.drewN n1) W.heap.size u9 l9 := ho9
            clear ho8 ho9 hbw z0 z1 hzr
            generalize wr.drewN n1 = w1 at *
            go_wp2_with fail
            refine (pending_any _ es w1 (hE.below hb1 (Nat.le_refl _)) (by omega)).mono ?_
            rw [H8.out]
            rintro en w2 ⟨v2, rfl, p2, hb2⟩
            have s8 := row_sl (row_below r8 hb2) (by unfold maxLen; omega)
            have s2 := row_sl p2 (by unfold maxLen; omega)
            have r9' := row_below r9 hb2
            have hb2' := hb1.trans (hb2.mono hb1.size)
            clear hb2 hb1 r8 r9 p2
            go_wp2_with fail
            refine (ints_any _ _ _ _ w2 s2 s8).mono ?_
            rw [decide_eq_true rfl]
            rintro en w3 ⟨rfl, n3, rfl⟩
            have hb3 : Below W.heap.size W (w2.drewN n3) := below_drewN hb2' n3
            have r9 : Row (w2.drewN n3) W.heap.size u9 l9 := r9'
            clear hb2' r9' s2 s8
            generalize w2.drewN n3 = w3 at *
            have z2 := (hb3.cell (p := ⟨w.heap.size, 2, none⟩) hzz).trans hq2
            have hz3 := Nat.lt_of_lt_of_le hzz hb3.size
            go_wp2_with fail
            refine (of_any _ _ cs es q2 w3 (hC.below hb3 (Nat.le_refl _)) (hE.below hb3 (Nat.le_refl _)) (by omega)).mono ?_
            rw [H9.out]
            rintro en w4 ⟨v4, rfl, p4, hb4⟩
            have s9 := row_sl (row_below r9 hb4) (by unfold maxLen; omega)
            have s4 := row_sl p4 (by unfold maxLen; omega)
            have hb4' := hb3.trans (hb4.mono hb3.size)
            clear hb4 hb3 r9 p4 z2 hz3
            go_wp2_with fail
            refine (ints_any _ _ _ _ w4 s4 s9).mono ?_
            rw [decide_eq_true rfl]
            rintro en w5 ⟨rfl, n5, rfl⟩
            have hb5 : Below W.heap.size W (w4.drewN n5) := below_drewN hb4' n5
            clear hb4' s4 s9
            generalize w4.drewN n5 = w5 at *
            go_wp2_with fail
            refine (width_any _ es w5 (hE.below hb5 (Nat.le_refl _)) (by omega)).mono ?_
            rintro en w6 ⟨rfl, hb6⟩
            have hb6' := hb5.trans (hb6.mono hb5.size)
            clear hb6 hb5
            go_wp2_with fail
            refine (two_any w6).mono ?_
            rintro en w7 ⟨rfl, hb7⟩
            have hb7' := hb6'.trans (hb7.mono hb6'.size)
            clear hb7 hb6'
            go_wp2
            go_ret
            exact ⟨rfl, hB.trans (hb7'.mono hB.size)⟩
#print axioms law_tells
end Go.Proofs.Ytdilnfnakhhhaaa
