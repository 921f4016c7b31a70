/- The law CutTicks: whose each tick of any play was, by any events, or why it isn't told. -/
import Derived.Test.YtmiimpmfkjcjlaaCu13
import Derived.Deep.DeepCutAuto
namespace Go.Proofs.Ytmiimpmfkjcjlaa
open Go.RowKit

theorem tickF_get (cs : List Cl) (es : List Ev) (picks : List Int) : ∀ (i : Nat) (t : Tk), (tickF cs es picks).2[i]? = some t →
    t.first = firstT es t.call (i + 1) ∧ t.last = lastT es t.call (i + 1) ∧ t.call < cs.length ∧ (cs[t.call]?).map (·.thread) = some t.thread := by
  have key : ∀ (l : List Int) (st : List Bool × List Tk), (∀ (i : Nat) (t : Tk), st.2[i]? = some t → t.first = firstT es t.call (i + 1) ∧ t.last = lastT es t.call (i + 1) ∧ t.call < cs.length ∧ (cs[t.call]?).map (·.thread) = some t.thread) →
      ∀ (i : Nat) (t : Tk), (l.foldl (tickS cs es) st).2[i]? = some t → t.first = firstT es t.call (i + 1) ∧ t.last = lastT es t.call (i + 1) ∧ t.call < cs.length ∧ (cs[t.call]?).map (·.thread) = some t.thread := by
    intro l
    induction l with
    | nil => intro st h; exact h
    | cons p l ih =>
      intro st h
      rw [List.foldl_cons]
      apply ih
      intro i t ht
      unfold tickS at ht
      rcases hn : nowF cs st.1 p with _ | j
      · rw [hn] at ht
        exact h i t ht
      · rw [hn] at ht
        simp only at ht
        rw [List.getElem?_append] at ht
        split at ht
        · exact h i t ht
        · rename_i hge
          have hi : i = st.2.length := by
            have := (List.getElem?_eq_some_iff.1 ht).1
            simp at this; omega
          subst hi
          simp at ht
          subst ht
          have := nowF_some hn
          exact ⟨rfl, rfl, this.1, this.2.1⟩
  exact key picks _ (fun i t ht => by simp at ht)

theorem wrap_i64 {x : Int} (h1 : -9223372036854775808 ≤ x) (h2 : x ≤ 9223372036854775807) : IntKind.i64.wrap x = x := by
  rw [IntKind.wrap_i64]; omega
theorem below_cells4 {w w' : World} {x0 x1 x2 x3 : Value} {t : TypeId} (h : Below (w.heap.size + 1) (w.alloc (.cells #[x0, x1, x2, x3] t)) w') :
    w'.cell? ⟨w.heap.size, 0, none⟩ = some x0 ∧ w'.cell? ⟨w.heap.size, 1, none⟩ = some x1 ∧ w'.cell? ⟨w.heap.size, 2, none⟩ = some x2 ∧ w'.cell? ⟨w.heap.size, 3, none⟩ = some x3 ∧ w.heap.size < w'.heap.size :=
  cells4 ((h.block w.heap.size (by omega)).trans (heap_alloc_new w _))

set_option maxRecDepth 100000 in
set_option maxHeartbeats 8000000 in
theorem law_cutTicks (n : Int) (As A Ap Ae : Option Addr) (ms cS m c mp cp me ce : Nat) (sp : List Sp) (cs : List Cl) (picks : List Int) (es : List Ev) (w : World) (hs : SlSp w (.slice As ms cS) sp) (hms : sp.length = ms)
    (h : SlCl w (.slice A m c) cs) (hm : cs.length = m) (hp : SlI w (.slice Ap mp cp) picks) (hmp : picks.length = mp) (he : SlEv w (.slice Ae me ce) es) (hme : es.length = me) :
    Calls Try.prog 3 #[scV n (.slice As ms cS) (.slice A m c) (.slice Ap mp cp), .slice Ae me ce] w fun e w' => e = .returned (.bool true) ∧ Below w.heap.size w w' := by
  have hms1 : ms ≤ maxLen := by obtain ⟨_, _, e, h1, h2, _⟩ := hs; cases e; omega
  have hm1 : m ≤ maxLen := by obtain ⟨_, _, e, h1, h2, _⟩ := h; cases e; omega
  have hp1 : mp ≤ maxLen := by obtain ⟨_, _, e, h1, h2, _⟩ := hp; cases e; omega
  have he1 : me ≤ maxLen := by obtain ⟨_, _, e, h1, h2, _⟩ := he; cases e; omega
  have N0 := fun W => many36 n As A Ap Ae ms cS m c mp cp me ce W hms1 hm1 hp1 he1
  have N1 := adds36
  have HC := hide h
  have HE := hide he
  have HP := hide hp
  have HMC := hide hm
  have HME := hide hme
  have HMP := hide hmp
  clear h he hp hs hms hm hme hmp
  unfold scV
  obtain ⟨R, hR⟩ : ∃ R, (largeB ms m mp || decide (100 < me)) = R := ⟨_, rfl⟩
  rw [hR] at N0
  have HR := hide hR
  clear hR
  go_enter Try.func3, Try.ntmps3
  go_wp2_with fail
  refine (N0 _).mono ?_
  rintro e w1 ⟨rfl, hb⟩
  have hB1 : Below (w.heap.size + 1) (w.alloc (.cells #[.int .i64 n, .slice As ms cS, .slice A m c, .slice Ap mp cp] 26)) w1 := hb.mono (by simp)
  have HB1 := hide hB1
  have HW1 : Hid (Below w.heap.size w w1) := hide (((Below.refl _ w).alloc (Nat.le_refl _) _).trans (hB1.mono (by omega)))
  obtain ⟨b0, b1, b2, b3, bz⟩ := below_cells4 hB1
  have HZ1 := hide HW1.out.size
  clear hb hB1
  cases R
  · have hme1 : me ≤ 100 := by have := HR.out; simp at this; omega
    go_wp2_with fail
    refine (cutTicks n A Ae Ap m c me ce mp cp cs es picks w1 (HC.out.below HW1.out (Nat.le_refl _)) HMC.out (HE.out.below HW1.out (Nat.le_refl _)) HME.out (HP.out.below HW1.out (Nat.le_refl _)) HMP.out).mono ?_
    rintro e w2 (⟨hne, rfl, hb2⟩ | ⟨h0, v, rfl, hown, hb2⟩)
    · have hB2 : Below (w.heap.size + 1) (w.alloc (.cells #[.int .i64 n, .slice As ms cS, .slice A m c, .slice Ap mp cp] 26)) w2 := HB1.out.trans (hb2.mono (by omega))
      have HW2 : Hid (Below w.heap.size w w2) := hide (HW1.out.trans (hb2.mono HZ1.out))
      obtain ⟨a0, a1, a2, a3, az⟩ := below_cells4 hB2
      have N2 := refWrong36 n A Ap m c mp cp cs picks w2 (HC.out.below HW2.out (Nat.le_refl _)) HMC.out (HP.out.below HW2.out (Nat.le_refl _)) HMP.out
      obtain ⟨E, hE⟩ : ∃ E, wrongC n cs picks = E := ⟨_, rfl⟩
      rw [hE] at hne N2 ⊢
      have hz : (E != 0) = true := by simpa using hne
      clear hE hne hb2 hB2 b0 b1 b2 b3
      go_wp2_with fail
      refine N2.mono ?_
      rintro e w3 ⟨rfl, rfl⟩
      go_wp2_with fail
      refine (N1 _).mono ?_
      rintro e w4 ⟨rfl, hb4⟩
      have HB4 : Hid (Below w.heap.size w w4) := hide (HW2.out.trans (hb4.mono (by omega)))
      go_wp2
      go_ret
      exact ⟨ret_bool (by simp), HB4.out⟩
    · have hok := wrongC_ok h0
      rw [HMC.out, HMP.out] at hok
      obtain ⟨hm2, hmp2⟩ := hok
      have hB2 : Below (w.heap.size + 1) (w.alloc (.cells #[.int .i64 n, .slice As ms cS, .slice A m c, .slice Ap mp cp] 26)) w2 := HB1.out.trans (hb2.mono (by omega))
      have HW2 : Hid (Below w.heap.size w w2) := hide (HW1.out.trans (hb2.mono HZ1.out))
      obtain ⟨a0, a1, a2, a3, az⟩ := below_cells4 hB2
      have HB2 := hide hB2
      have N2 := refWrong36 n A Ap m c mp cp cs picks w2 (HC.out.below HW2.out (Nat.le_refl _)) HMC.out (HP.out.below HW2.out (Nat.le_refl _)) HMP.out
      have N3 := refTicks36 A Ae Ap m c me ce mp cp cs es picks w2 (HC.out.below HW2.out (Nat.le_refl _)) HMC.out (HE.out.below HW2.out (Nat.le_refl _)) HME.out (HP.out.below HW2.out (Nat.le_refl _)) HMP.out hm2 hmp2
      rw [h0] at N2
      have HT := hide (tickF_get cs es picks)
      have hlen := (tickF_len cs es picks).2
      generalize (tickF cs es picks).2 = TK at *
      have hTK : TK.length ≤ 65536 := by have := HMP.out; omega
      have hTK63 : (TK.length : Int) ≤ 65536 := by omega
      have HST : Hid (SlTk w2 v TK) := hide (sl_of_owns_tk hown (by unfold maxLen; omega))
      obtain ⟨vA, vc, rfl⟩ := own_slice hown
      clear h0 hb2 hB2 b0 b1 b2 b3 hown hlen N0
      go_wp2_with fail
      refine N2.mono ?_
      rintro e w3 ⟨rfl, rfl⟩
      go_wp2_with fail
      refine N3.mono ?_
      rintro e w4 ⟨v4, rfl, hown, hb4⟩
      have HSX : Hid (SlI w4 v4 (callI TK)) := hide (sl_of_owns (e := 3) (base := w3.heap.size) (by unfold callI at hown ⊢; rw [List.length_map]; exact hown) (by unfold callI; rw [List.length_map]; unfold maxLen; omega))
      obtain ⟨xA, xc, rfl⟩ := own_slice hown
      have HST4 : Hid (SlTk w4 (.slice vA TK.length vc) TK) := hide (HST.out.below hb4 (Nat.le_refl _))
      have HB4 : Hid (Below (w.heap.size + 1) (w.alloc (.cells #[.int .i64 n, .slice As ms cS, .slice A m c, .slice Ap mp cp] 26)) w4) := hide (HB2.out.trans (hb4.mono (by omega)))
      have HW4 : Hid (Below w.heap.size w w4) := hide (HW2.out.trans (hb4.mono (by omega)))
      have hz4 : w.heap.size < w4.heap.size := by have := hb4.size; omega
      clear hown hb4 a0 a1 a2 a3 N2 N3 HST
      go_wp2
      go_loopw [64] (fun i wr => ∃ j : Nat, j ≤ TK.length ∧ i = .int .i64 j ∧ Hid (Below w4.heap.size w4 wr) ∧ w4.heap.size ≤ wr.heap.size) (fun i _ => TK.length - (intOf i).toNat)
      case atStart => exact ⟨0, Nat.zero_le _, rfl, hide (Below.refl _ _), Nat.le_refl _⟩
      case round =>
        obtain ⟨j, hj, rfl, hBr, hszr⟩ := hrel
        have HWr : Hid (Below w.heap.size w wr) := hide (HW4.out.trans (hBr.out.mono (by omega)))
        by_cases hjl : j < TK.length
        · obtain ⟨t, ht⟩ : ∃ t, TK[j]? = some t := ⟨_, List.getElem?_eq_getElem hjl⟩
          have hti : (callI TK)[j]? = some (t.call : Int) := by unfold callI; rw [List.getElem?_map, ht]; rfl
          obtain ⟨f1, f2, f3, f4⟩ := HT.out j t ht
          rw [HMC.out] at f3
          obtain ⟨x, hx⟩ : ∃ x, cs[t.call]? = some x := ⟨_, List.getElem?_eq_getElem (by have := HMC.out; omega)⟩
          rw [hx] at f4
          have f5 : x.thread = t.thread := by simpa using f4
          -- the cells
          obtain ⟨a0, a1, a2, a3, az⟩ := below_cells4 (HB4.out.trans (hBr.out.mono (by omega)))
          obtain ⟨A2, c2', e2, _, _, h4⟩ := HSX.out.below hBr.out (Nat.le_refl _)
          obtain ⟨b2, o2, e2', hb2, hc2⟩ := h4 j _ hti
          rw [show (callI TK).length = TK.length by unfold callI; rw [List.length_map]] at e2
          cases e2
          cases e2'
          have x0 := nt_cell hc2
          simp only [Nat.mul_one] at x0
          obtain ⟨A3, c3', e3, _, _, h5⟩ := HST4.out.below hBr.out (Nat.le_refl _)
          obtain ⟨b3, o3, e3', hb3, hc3⟩ := h5 j _ ht
          cases e3
          cases e3'
          have t0 : wr.cell? ⟨b3, o3 + j * 4, none⟩ = some (.int .i64 t.thread) := hc3 0 _ rfl
          have t1 : wr.cell? ⟨b3, o3 + j * 4 + 1, none⟩ = some (.int .i64 t.call) := hc3 1 _ rfl
          have t2 : wr.cell? ⟨b3, o3 + j * 4 + 2, none⟩ = some (.bool t.first) := hc3 2 _ rfl
          have t3 : wr.cell? ⟨b3, o3 + j * 4 + 3, none⟩ = some (.bool t.last) := hc3 3 _ rfl
          obtain ⟨A6, c6', e6, _, _, h6⟩ := HC.out.below HWr.out (Nat.le_refl _)
          obtain ⟨b6, o6, e6', hb6, hc6⟩ := h6 t.call x hx
          rw [HMC.out] at e6
          cases e6
          cases e6'
          have c0 := (cl_cells hc6).1
          rw [f5] at c0
          have p0 : (0 : Int) ≤ (j : Int) := by omega
          have p1 : (j : Int) < (TK.length : Int) := by omega
          have p2 : (0 : Int) ≤ (t.call : Int) := by omega
          have p3 : (t.call : Int) < (m : Int) := by omega
          have N4 := refEvent36 Ae me ce es t.call wr (HE.out.below HWr.out (Nat.le_refl _)) HME.out
          clear h4 h5 h6 hc2 hc3 hc6 hti f4 f5 ht hx f3
          rcases evIx_cases es (t.call : Int) with ⟨h1, h2⟩ | ⟨kx, y, hy, h1, h2⟩
          · have hf : t.first = false := by rw [f1]; unfold firstT; rw [evOf_at, h2]
            have hl : t.last = false := by rw [f2]; unfold lastT; rw [evOf_at, h2]
            rw [h1] at N4
            rw [hf] at t2
            rw [hl] at t3
            clear h1 h2 hf hl f1 f2
            go_wp2_with fail
            refine N4.mono ?_
            rintro e w6 ⟨rfl, rfl⟩
            go_wp2_with fail
            have HS0 : Below w6.heap.size w6 w6.drew := (Below.refl _ _).drew
            refine wp_region_seq (Below w6.heap.size w6) (.take 0 <| .take 1 <| .take 2 <| .take 3 <| .take 4 <| .take 5 <| .take 6 <| .take 7 <| .take 8 <| .take 9 <| .take 10 <| .take 11 <| .take 12 <| .take 13 <| .take 14 <| .take 15 <| .take 16 <| .take 17 <| .take 18 <| .take 19 <| .take 20 <| .take 21 <| .take 22 <| .take 23 <| .take 24 <| .take 25 <| .take 26 <| .take 27 <| .take 28 <| .take 29 <| .take 30 <| .take 31 <| .take 32 <| .take 33 <| .take 34 <| .take 35 <| .take 36 <| .take 37 <| .take 38 <| .take 39 <| .run 40 <| .run 41 <| .done) (by kernel_rfl) (by kernel_rfl) (by kernel_rfl) HS0 ?_
            repeat (first | (refine seq_take (v := ?_) rfl (by rfl) ?_ ?_; rotate_left; (focus (intro wS hS; have s2 := (hS.cell (p := ⟨w.heap.size, 2, none⟩) az).trans a2; have sx := (hS.cell (p := ⟨b2, o2 + j, none⟩) hb2).trans x0; have sc := (hS.cell (p := ⟨b6, o6 + t.call * 6, none⟩) hb6).trans c0; go_simp; exact rfl)); simp only [Act.put, List.setIfInBounds_toArray, List.set_cons_zero, List.set_cons_succ]) | (refine seq_skip rfl (by rfl) ?_; simp only [Act.put, List.setIfInBounds_toArray, List.set_cons_zero, List.set_cons_succ]))
            (refine seq_run rfl (by rfl) (fun K hK => ?_); go_simp)
            refine hK _ _ (by (repeat' (first | exact Below.refl _ _ | assumption | refine Below.drew ?_ | refine below_drewN ?_ _ | refine Below.alloc ?_ (by simp <;> omega) _ | refine Below.setCell ?_ (by simp <;> omega) _))) ?_
            clear hK K
            (refine seq_run rfl (by rfl) (fun K hK => ?_); go_simp)
            refine hK _ _ (by (repeat' (first | exact Below.refl _ _ | assumption | refine Below.drew ?_ | refine below_drewN ?_ _ | refine Below.alloc ?_ (by simp <;> omega) _ | refine Below.setCell ?_ (by simp <;> omega) _))) ?_
            clear hK K
            refine seq_nil ?_
            go_wp2_with fail
            refine wp_region_seq (Below (w6.heap.size + 1) ((w6.alloc (.cells #[.int .i64 t.thread, .int .i64 t.call, .bool false, .bool false] 46)).drew)) (.take 0 <| .take 1 <| .take 2 <| .take 3 <| .take 4 <| .take 5 <| .done) (by kernel_rfl) (by kernel_rfl) (by kernel_rfl) (by (repeat' (first | exact Below.refl _ _ | assumption | refine Below.drew ?_ | refine below_drewN ?_ _ | refine Below.alloc ?_ (by simp <;> omega) _ | refine Below.setCell ?_ (by simp <;> omega) _))) ?_
            repeat (refine seq_take (v := ?_) rfl (by rfl) ?_ ?_; rotate_left; (focus (intro wS hS; have s0 := hS.cell (p := ⟨b3, o3 + j * 4, none⟩) (by first | omega | (simp; omega) | (simp; done)); have s1 := hS.cell (p := ⟨b3, o3 + j * 4 + 1, none⟩) (by first | omega | (simp; omega) | (simp; done)); have s2 := hS.cell (p := ⟨b3, o3 + j * 4 + 2, none⟩) (by first | omega | (simp; omega) | (simp; done)); have s3 := hS.cell (p := ⟨b3, o3 + j * 4 + 3, none⟩) (by first | omega | (simp; omega) | (simp; done)); have s4 := hS.cell (p := ⟨w6.heap.size, 0, none⟩) (by first | omega | (simp; omega) | (simp; done)); have s5 := hS.cell (p := ⟨w6.heap.size, 1, none⟩) (by first | omega | (simp; omega) | (simp; done)); have s6 := hS.cell (p := ⟨w6.heap.size, 2, none⟩) (by first | omega | (simp; omega) | (simp; done)); have s7 := hS.cell (p := ⟨w6.heap.size, 3, none⟩) (by first | omega | (simp; omega) | (simp; done)); go_simp; exact rfl)); simp only [Act.put, List.setIfInBounds_toArray, List.set_cons_zero, List.set_cons_succ])
            refine seq_nil ?_
            go_wp2
            go_roundw
            case rel => exact ⟨j + 1, by omega, by go_num, hide (by (repeat' (first | exact hBr.out | refine Below.drew ?_ | refine Below.alloc ?_ (by first | omega | (simp; omega)) _))), by first | omega | (simp; omega)⟩
            case measure => first | (simp [intOf]; done) | (simp [intOf]; omega)
          · have hkx := (List.getElem?_eq_some_iff.1 hy).1
            obtain ⟨A7, c7', e7, _, hl7, h7⟩ := HE.out.below HWr.out (Nat.le_refl _)
            obtain ⟨b7, o7, e7', hb7, hc7⟩ := h7 kx y hy
            rw [HME.out] at e7 hkx
            cases e7
            cases e7'
            obtain ⟨_, y1, y2, _⟩ := ev_cells hc7
            have hwr : IntKind.i64.wrap ((j : Int) + 1) = (j : Int) + 1 := wrap_i64 (by omega) (by omega)
            obtain ⟨F, hF⟩ : ∃ F, (y.inv == IntKind.i64.wrap ((j : Int) + 1)) = F := ⟨_, rfl⟩
            obtain ⟨L, hL⟩ : ∃ L, (y.resp == IntKind.i64.wrap ((j : Int) + 1)) = L := ⟨_, rfl⟩
            have hf : t.first = F := by rw [f1]; unfold firstT; rw [evOf_at, h2, ← hF, hwr]; simp; rfl
            have hl : t.last = L := by rw [f2]; unfold lastT; rw [evOf_at, h2, ← hL, hwr]; simp; rfl
            rw [h1] at N4
            rw [hf] at t2
            rw [hl] at t3
            have q0 : (0 : Int) ≤ (kx : Int) := by omega
            have q1 : (kx : Int) < (me : Int) := by omega
            have q2 : decide ((0 : Int) ≤ (kx : Int)) = true := by simp
            have hmax : (if (kx : Int) < 0 then (0 : Int) else (kx : Int)) = kx := if_neg (by omega)
            have hme63 : (me : Int) ≤ 100 := by omega
            have hj63 : (j : Int) ≤ 65536 := by omega
            clear h1 h2 hf hl f1 f2 h7 hwr hc7 hl7 hy
            go_wp2_with fail
            refine N4.mono ?_
            rintro e w6 ⟨rfl, rfl⟩
            go_wp2_with fail
            have HS0 : Below w6.heap.size w6 w6.drew := (Below.refl _ _).drew
            refine wp_region_seq (Below w6.heap.size w6) (.take 0 <| .take 1 <| .take 2 <| .take 3 <| .take 4 <| .take 5 <| .take 6 <| .take 7 <| .take 8 <| .take 9 <| .take 10 <| .take 11 <| .take 12 <| .take 13 <| .take 14 <| .take 15 <| .take 16 <| .take 17 <| .take 18 <| .take 19 <| .take 20 <| .take 21 <| .take 22 <| .take 23 <| .take 24 <| .take 25 <| .take 26 <| .take 27 <| .take 28 <| .take 29 <| .take 30 <| .take 31 <| .take 32 <| .take 33 <| .take 34 <| .take 35 <| .take 36 <| .take 37 <| .take 38 <| .take 39 <| .run 40 <| .run 41 <| .done) (by kernel_rfl) (by kernel_rfl) (by kernel_rfl) HS0 ?_
            repeat (first | (refine seq_take (v := ?_) rfl (by rfl) ?_ ?_; rotate_left; (focus (intro wS hS; have s2 := (hS.cell (p := ⟨w.heap.size, 2, none⟩) az).trans a2; have sx := (hS.cell (p := ⟨b2, o2 + j, none⟩) hb2).trans x0; have sc := (hS.cell (p := ⟨b6, o6 + t.call * 6, none⟩) hb6).trans c0; have sy1 := (hS.cell (p := ⟨b7, o7 + kx * 8 + 1, none⟩) hb7).trans y1; have sy2 := (hS.cell (p := ⟨b7, o7 + kx * 8 + 2, none⟩) hb7).trans y2; first | (go_simp; simp only [hmax]; exact rfl) | (go_simp; exact rfl))); simp only [Act.put, List.setIfInBounds_toArray, List.set_cons_zero, List.set_cons_succ]) | (refine seq_skip rfl (by rfl) ?_; simp only [Act.put, List.setIfInBounds_toArray, List.set_cons_zero, List.set_cons_succ]))
            (refine seq_run rfl (by rfl) (fun K hK => ?_); go_simp)
            refine hK _ _ (by (repeat' (first | exact Below.refl _ _ | assumption | refine Below.drew ?_ | refine below_drewN ?_ _ | refine Below.alloc ?_ (by simp <;> omega) _ | refine Below.setCell ?_ (by simp <;> omega) _))) ?_
            clear hK K
            (refine seq_run rfl (by rfl) (fun K hK => ?_); go_simp)
            refine hK _ _ (by (repeat' (first | exact Below.refl _ _ | assumption | refine Below.drew ?_ | refine below_drewN ?_ _ | refine Below.alloc ?_ (by simp <;> omega) _ | refine Below.setCell ?_ (by simp <;> omega) _))) ?_
            clear hK K
            refine seq_nil ?_
            go_wp2_with fail
            refine wp_region_seq (Below (w6.heap.size + 1) ((w6.alloc (.cells #[.int .i64 t.thread, .int .i64 t.call, .bool F, .bool L] 46)).drew)) (.take 0 <| .take 1 <| .take 2 <| .take 3 <| .take 4 <| .take 5 <| .done) (by kernel_rfl) (by kernel_rfl) (by kernel_rfl) (by (repeat' (first | exact Below.refl _ _ | assumption | refine Below.drew ?_ | refine below_drewN ?_ _ | refine Below.alloc ?_ (by simp <;> omega) _ | refine Below.setCell ?_ (by simp <;> omega) _))) ?_
            repeat (refine seq_take (v := ?_) rfl (by rfl) ?_ ?_; rotate_left; (focus (intro wS hS; have s0 := hS.cell (p := ⟨b3, o3 + j * 4, none⟩) (by first | omega | (simp; omega) | (simp; done)); have s1 := hS.cell (p := ⟨b3, o3 + j * 4 + 1, none⟩) (by first | omega | (simp; omega) | (simp; done)); have s2 := hS.cell (p := ⟨b3, o3 + j * 4 + 2, none⟩) (by first | omega | (simp; omega) | (simp; done)); have s3 := hS.cell (p := ⟨b3, o3 + j * 4 + 3, none⟩) (by first | omega | (simp; omega) | (simp; done)); have s4 := hS.cell (p := ⟨w6.heap.size, 0, none⟩) (by first | omega | (simp; omega) | (simp; done)); have s5 := hS.cell (p := ⟨w6.heap.size, 1, none⟩) (by first | omega | (simp; omega) | (simp; done)); have s6 := hS.cell (p := ⟨w6.heap.size, 2, none⟩) (by first | omega | (simp; omega) | (simp; done)); have s7 := hS.cell (p := ⟨w6.heap.size, 3, none⟩) (by first | omega | (simp; omega) | (simp; done)); go_simp; exact rfl)); simp only [Act.put, List.setIfInBounds_toArray, List.set_cons_zero, List.set_cons_succ])
            refine seq_nil ?_
            go_wp2
            go_roundw
            case rel => exact ⟨j + 1, by omega, by go_num, hide (by (repeat' (first | exact hBr.out | refine Below.drew ?_ | refine Below.alloc ?_ (by first | omega | (simp; omega)) _))), by first | omega | (simp; omega)⟩
            case measure => first | (simp [intOf]; done) | (simp [intOf]; omega)
        · obtain rfl : j = TK.length := by omega
          go_wp2_with fail
          refine (N1 _).mono ?_
          rintro e w5 ⟨rfl, hb5⟩
          have HB5 : Hid (Below w.heap.size w w5) := hide (HWr.out.trans (hb5.mono HWr.out.size))
          go_wp2
          go_ret
          exact ⟨rfl, HB5.out⟩
  · clear N0
    go_wp2_with fail
    refine (N1 _).mono ?_
    rintro e w4 ⟨rfl, hb4⟩
    go_wp2
    go_ret
    exact ⟨rfl, HW1.out.trans (hb4.mono HZ1.out)⟩
end Go.Proofs.Ytmiimpmfkjcjlaa
