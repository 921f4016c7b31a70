/- The law CutAt: how any events stood at any tick, or why it isn't told. -/
import Derived.Test.YtmiimpmfkjcjlaaCu14
namespace Go.Proofs.Ytmiimpmfkjcjlaa
open Go.RowKit

theorem atL_len' (es : List Ev) (tick : Int) (cnt : Int → Nat) : (atL es tick cnt).length ≤ es.length := by
  unfold atL
  rw [List.length_map]
  exact List.length_filter_le _ _
theorem atL_deep {w : World} {es : List Ev} {tick : Int} {cnt : Int → Nat} (h : ∀ x ∈ es, EvDeep w x) : ∀ x ∈ atL es tick cnt, (∃ l, SlW w (.slice x.lA x.lN x.lC) l) ∧ ∃ l, SlI w (.slice x.kA x.kN x.kC) l := by
  intro x hx
  unfold atL at hx
  rw [List.mem_map] at hx
  obtain ⟨y, hy, rfl⟩ := hx
  have hy' := h y (List.mem_filter.1 hy).1
  unfold atE
  split
  · exact ⟨⟨[], none, 0, rfl, Nat.le_refl _, Nat.zero_le _, fun k x hx => by simp at hx⟩, [], none, 0, rfl, Nat.le_refl _, Nat.zero_le _, fun k x hx => by simp at hx⟩
  · obtain ⟨l, h1, _⟩ := hy'.list
    obtain ⟨k, h2, _⟩ := hy'.key
    exact ⟨⟨l, h1⟩, k, h2⟩
theorem flat_en {α : Type} {en : α → List Value} {sz : Nat} (hl : ∀ x, (en x).length = sz) {l : List α} {k : Nat} {x : α} (h : l[k]? = some x) (j : Nat) (u : Value) (hu : (en x)[j]? = some u) : (l.flatMap en)[k * sz + j]? = some u := by
  induction l generalizing k with
  | nil => simp at h
  | cons y l ih =>
    have hj : j < sz := by have := (List.getElem?_eq_some_iff.1 hu).1; rwa [hl] at this
    rw [List.flatMap_cons]
    rcases k with _ | k
    · simp at h
      subst h
      rw [List.getElem?_append_left (by rw [hl]; omega)]
      simpa using hu
    · rw [List.getElem?_append_right (by rw [hl, Nat.succ_mul]; omega)]
      have e : (k + 1) * sz + j - (en y).length = k * sz + j := by rw [hl, Nat.succ_mul]; omega
      rw [e]
      exact ih (by simpa using h)
theorem sl_of_owns_en {α : Type} {en : α → List Value} {sz : Nat} (hl : ∀ x, (en x).length = sz) {w : World} {base : Nat} {e : TypeId} {v : Value} {l : List α} (h : w.ownsRow base e sz v l.length (l.flatMap en)) (_hm : l.length ≤ maxLen) : Sl en sz w v l := by
  rcases h.2 with ⟨rfl, h0⟩ | ⟨g, cap, cur, rfl, _, hg, hnc, hcm, _, htake⟩
  · have : l = [] := List.eq_nil_of_length_eq_zero h0
    subst this
    exact ⟨none, 0, rfl, Nat.le_refl _, Nat.zero_le _, fun k x hx => by simp at hx⟩
  · refine ⟨_, cap, rfl, hnc, hcm, fun k x hx => ⟨g, 0, rfl, (Array.getElem?_eq_some_iff.1 hg).1, fun j u hu => ?_⟩⟩
    have hk := (List.getElem?_eq_some_iff.1 hx).1
    have h1 := flat_en hl hx j u hu
    rw [← htake, List.getElem?_take] at h1
    split at h1
    · rw [cell_of_row w g _ cur e (0, 0) hg]
      rw [show 0 + k * sz + j = k * sz + j by omega]
      simpa using h1
    · cases h1

set_option maxRecDepth 100000 in
set_option maxHeartbeats 8000000 in
theorem law_cutAt (n tick : Int) (As A Ap Ae : Option Addr) (ms cS m c mp cp me ce : Nat) (sp : List Sp) (cs : List Cl) (picks : List Int) (es : List Ev) (w : World) (hs : SlSp w (.slice As ms cS) sp) (hms : sp.length = ms)
    (h : SlCl w (.slice A m c) cs) (hm : cs.length = m) (hp : SlI w (.slice Ap mp cp) picks) (hmp : picks.length = mp) (he : SlEv w (.slice Ae me ce) es) (hme : es.length = me) (hd : ∀ x ∈ es, EvDeep w x) :
    Calls Try.prog 4 #[scV n (.slice As ms cS) (.slice A m c) (.slice Ap mp cp), .slice Ae me ce, .int .i64 tick] w fun e w' => e = .returned (.bool true) ∧ Below w.heap.size w w' := by
  have hms1 : ms ≤ maxLen := by obtain ⟨_, _, e, h1, h2, _⟩ := hs; cases e; omega
  have hm1 : m ≤ maxLen := by obtain ⟨_, _, e, h1, h2, _⟩ := h; cases e; omega
  have hp1 : mp ≤ maxLen := by obtain ⟨_, _, e, h1, h2, _⟩ := hp; cases e; omega
  have he1 : me ≤ maxLen := by obtain ⟨_, _, e, h1, h2, _⟩ := he; cases e; omega
  have N0 := fun W => many36 n As A Ap Ae ms cS m c mp cp me ce W hms1 hm1 hp1 he1
  have N1 := adds36
  have HD := hide hd
  have HC := hide h
  have HE := hide he
  have HP := hide hp
  have HMC := hide hm
  have HME := hide hme
  have HMP := hide hmp
  clear h he hp hs hms hm hme hmp hd
  unfold scV
  obtain ⟨R, hR⟩ : ∃ R, (largeB ms m mp || decide (100 < me)) = R := ⟨_, rfl⟩
  rw [hR] at N0
  have HR := hide hR
  clear hR
  go_enter Try.func4, Try.ntmps4
  go_wp2_with fail
  refine (N0 _).mono ?_
  rintro e w1 ⟨rfl, hb⟩
  have hB1 : Below (w.heap.size + 1) (w.alloc (.cells #[.int .i64 n, .slice As ms cS, .slice A m c, .slice Ap mp cp] 26)) w1 := hb.mono (by simp)
  have HB1 := hide hB1
  have HW1 : Hid (Below w.heap.size w w1) := hide (((Below.refl _ w).alloc (Nat.le_refl _) _).trans (hB1.mono (by omega)))
  obtain ⟨b0, b1, b2, b3, bz⟩ := below_cells4 hB1
  have HZ1 := hide HW1.out.size
  clear hb hB1
  cases R
  · have hme1 : me ≤ 100 := by have := HR.out; simp at this; omega
    go_wp2_with fail
    refine (cutAt n tick A Ae Ap m c me ce mp cp cs es picks w1 (HC.out.below HW1.out (Nat.le_refl _)) HMC.out (HE.out.below HW1.out (Nat.le_refl _)) HME.out (HP.out.below HW1.out (Nat.le_refl _)) HMP.out (by omega)).mono ?_
    rintro e w2 (⟨hne, rfl, hb2⟩ | ⟨h0, v, rfl, hown, hb2⟩)
    · have hB2 : Below (w.heap.size + 1) (w.alloc (.cells #[.int .i64 n, .slice As ms cS, .slice A m c, .slice Ap mp cp] 26)) w2 := HB1.out.trans (hb2.mono (by omega))
      have HW2 : Hid (Below w.heap.size w w2) := hide (HW1.out.trans (hb2.mono HZ1.out))
      obtain ⟨a0, a1, a2, a3, az⟩ := below_cells4 hB2
      have N2 := refWrong36 n A Ap m c mp cp cs picks w2 (HC.out.below HW2.out (Nat.le_refl _)) HMC.out (HP.out.below HW2.out (Nat.le_refl _)) HMP.out
      obtain ⟨E, hE⟩ : ∃ E, wrongC n cs picks = E := ⟨_, rfl⟩
      rw [hE] at hne N2 ⊢
      have hz : (E != 0) = true := by simpa using hne
      clear hE hne hb2 hB2 b0 b1 b2 b3
      go_wp2_with fail
      refine N2.mono ?_
      rintro e w3 ⟨rfl, rfl⟩
      go_wp2_with fail
      refine (N1 _).mono ?_
      rintro e w4 ⟨rfl, hb4⟩
      have HB4 : Hid (Below w.heap.size w w4) := hide (HW2.out.trans (hb4.mono (by omega)))
      go_wp2
      go_ret
      exact ⟨ret_bool (by simp), HB4.out⟩
    · have hok := wrongC_ok h0
      rw [HMC.out, HMP.out] at hok
      obtain ⟨hm2, hmp2⟩ := hok
      have hB2 : Below (w.heap.size + 1) (w.alloc (.cells #[.int .i64 n, .slice As ms cS, .slice A m c, .slice Ap mp cp] 26)) w2 := HB1.out.trans (hb2.mono (by omega))
      have HW2 : Hid (Below w.heap.size w w2) := hide (HW1.out.trans (hb2.mono HZ1.out))
      obtain ⟨a0, a1, a2, a3, az⟩ := below_cells4 hB2
      have HB2 := hide hB2
      have N2 := refWrong36 n A Ap m c mp cp cs picks w2 (HC.out.below HW2.out (Nat.le_refl _)) HMC.out (HP.out.below HW2.out (Nat.le_refl _)) HMP.out
      have N3 := refAt36 tick A Ae Ap m c me ce mp cp cs es picks w2 (HC.out.below HW2.out (Nat.le_refl _)) HMC.out (HE.out.below HW2.out (Nat.le_refl _)) HME.out (HP.out.below HW2.out (Nat.le_refl _)) HMP.out hm2 hmp2 (by omega)
      rw [h0] at N2
      have HLL := hide (atL_deep (tick := tick) (cnt := cntT (tkS cs es picks tick)) HD.out)
      have hlen := atL_len' es tick (cntT (tkS cs es picks tick))
      rw [HME.out] at hlen
      generalize atL es tick (cntT (tkS cs es picks tick)) = L at *
      have hL63 : (L.length : Int) ≤ 100 := by omega
      have HST : Hid (SlEv w2 v L) := hide (sl_of_owns_en (l := L) (en := evEnc) (fun _ => rfl) hown (by unfold maxLen; omega))
      obtain ⟨vA, vc, rfl⟩ := own_slice hown
      clear h0 hb2 hB2 b0 b1 b2 b3 hown N0
      go_wp2_with fail
      refine N2.mono ?_
      rintro e w3 ⟨rfl, rfl⟩
      go_wp2_with fail
      refine N3.mono ?_
      rintro e w4 ⟨v4, rfl, hown, hb4⟩
      have HSX : Hid (SlEv w4 v4 L) := hide (sl_of_owns_en (l := L) (en := evEnc) (fun _ => rfl) hown (by unfold maxLen; omega))
      obtain ⟨xA, xc, rfl⟩ := own_slice hown
      have HST4 : Hid (SlEv w4 (.slice vA L.length vc) L) := hide (HST.out.below hb4 (Nat.le_refl _))
      have HW4 : Hid (Below w.heap.size w w4) := hide (HW2.out.trans (hb4.mono (by omega)))
      have hz4 : w.heap.size < w4.heap.size := by have := hb4.size; omega
      clear hown hb4 a0 a1 a2 a3 N2 N3 HST
      go_wp2
      go_loopw [66] (fun i wr => ∃ j : Nat, j ≤ L.length ∧ i = .int .i64 j ∧ Hid (Below w4.heap.size w4 wr) ∧ w4.heap.size ≤ wr.heap.size) (fun i _ => L.length - (intOf i).toNat)
      case atStart => exact ⟨0, Nat.zero_le _, rfl, hide (Below.refl _ _), Nat.le_refl _⟩
      case round =>
        obtain ⟨j, hj, rfl, hBr, hszr⟩ := hrel
        have HWr : Hid (Below w.heap.size w wr) := hide (HW4.out.trans (hBr.out.mono (by omega)))
        by_cases hjl : j < L.length
        · obtain ⟨t, ht⟩ : ∃ t, L[j]? = some t := ⟨_, List.getElem?_eq_getElem hjl⟩
          obtain ⟨⟨l, hl⟩, k, hkk⟩ := HLL.out t (List.mem_of_getElem? ht)
          obtain ⟨A2, c2', e2, _, _, h4⟩ := HSX.out.below hBr.out (Nat.le_refl _)
          obtain ⟨b2, o2, e2', hb2, hc2⟩ := h4 j _ ht
          cases e2
          cases e2'
          obtain ⟨x0, x1, x2, x3, x4, x5, x6, x7⟩ := ev_cells hc2
          obtain ⟨A3, c3', e3, _, _, h5⟩ := HST4.out.below hBr.out (Nat.le_refl _)
          obtain ⟨b3, o3, e3', hb3, hc3⟩ := h5 j _ ht
          cases e3
          cases e3'
          obtain ⟨t0, t1, t2, t3, t4, t5, t6, t7⟩ := ev_cells hc3
          have p0 : (0 : Int) ≤ (j : Int) := by omega
          have p1 : (j : Int) < (L.length : Int) := by omega
          have HLd := hide (hl.below HWr.out (Nat.le_refl _))
          have HKd := hide (hkk.below HWr.out (Nat.le_refl _))
          obtain ⟨wo, rfl⟩ : ∃ wo : World, wo = wr := ⟨_, rfl⟩
          have N4 := fun W hb => event_self t t.lA t.kA t.lN t.lC t.kN t.kC l k W (HLd.out.below (B := wo.heap.size) hb (Nat.le_refl _)) (HLd.out.below hb (Nat.le_refl _)) (HKd.out.below hb (Nat.le_refl _)) (HKd.out.below hb (Nat.le_refl _))
          clear h4 h5 hc2 hc3 ht hl hkk
          go_wp2_with fail
          refine wp_region_seq (Below wo.heap.size wo) (.take 0 <| .take 1 <| .take 2 <| .take 3 <| .take 4 <| .take 5 <| .take 6 <| .take 7 <| .run 8 <| .take 9 <| .done) (by kernel_rfl) (by kernel_rfl) (by kernel_rfl) ((Below.refl _ _).drew) ?_
          repeat (refine seq_take (v := ?_) rfl (by rfl) ?_ ?_; rotate_left; (focus (intro wS hS; have s0 := (hS.cell (p := ⟨b2, o2 + j * 8, none⟩) hb2).trans x0; have s1 := (hS.cell (p := ⟨b2, o2 + j * 8 + 1, none⟩) hb2).trans x1; have s2 := (hS.cell (p := ⟨b2, o2 + j * 8 + 2, none⟩) hb2).trans x2; have s3 := (hS.cell (p := ⟨b2, o2 + j * 8 + 3, none⟩) hb2).trans x3; have s4 := (hS.cell (p := ⟨b2, o2 + j * 8 + 4, none⟩) hb2).trans x4; have s5 := (hS.cell (p := ⟨b2, o2 + j * 8 + 5, none⟩) hb2).trans x5; have s6 := (hS.cell (p := ⟨b2, o2 + j * 8 + 6, none⟩) hb2).trans x6; have s7 := (hS.cell (p := ⟨b2, o2 + j * 8 + 7, none⟩) hb2).trans x7; have r0 := (hS.cell (p := ⟨b3, o3 + j * 8, none⟩) hb3).trans t0; have r1 := (hS.cell (p := ⟨b3, o3 + j * 8 + 1, none⟩) hb3).trans t1; have r2 := (hS.cell (p := ⟨b3, o3 + j * 8 + 2, none⟩) hb3).trans t2; have r3 := (hS.cell (p := ⟨b3, o3 + j * 8 + 3, none⟩) hb3).trans t3; have r4 := (hS.cell (p := ⟨b3, o3 + j * 8 + 4, none⟩) hb3).trans t4; have r5 := (hS.cell (p := ⟨b3, o3 + j * 8 + 5, none⟩) hb3).trans t5; have r6 := (hS.cell (p := ⟨b3, o3 + j * 8 + 6, none⟩) hb3).trans t6; have r7 := (hS.cell (p := ⟨b3, o3 + j * 8 + 7, none⟩) hb3).trans t7; go_simp; exact rfl)); simp only [Act.put, List.setIfInBounds_toArray, List.set_cons_zero, List.set_cons_succ])
          refine seq_run rfl (by rfl) (fun K hK => ?_)
          go_simp
          refine (N4 _ ((Below.refl _ _).drew)).mono ?_
          rintro e w6 ⟨rfl, hb6⟩
          have hB6 : Below wo.heap.size wo w6 := (Below.refl _ _).drew.trans hb6
          refine hK _ _ hB6 ?_
          clear hK K
          repeat (refine seq_take (v := ?_) rfl (by rfl) ?_ ?_; rotate_left; (focus (intro wS hS; go_simp; exact rfl)); simp only [Act.put, List.setIfInBounds_toArray, List.set_cons_zero, List.set_cons_succ])
          refine seq_nil ?_
          have HB6 : Hid (Below w4.heap.size w4 w6) := hide (hBr.out.trans (hB6.mono hszr))
          have hz6 := hB6.size
          clear hB6 hb6
          go_wp2
          go_roundw
          case rel => exact ⟨j + 1, by omega, by go_num, HB6, by omega⟩
          case measure => first | (simp [intOf]; done) | (simp [intOf]; omega)
        · obtain rfl : j = L.length := by omega
          go_wp2_with fail
          refine (N1 _).mono ?_
          rintro e w5 ⟨rfl, hb5⟩
          have HB5 : Hid (Below w.heap.size w w5) := hide (HWr.out.trans (hb5.mono HWr.out.size))
          go_wp2
          go_ret
          exact ⟨rfl, HB5.out⟩
  · clear N0
    go_wp2_with fail
    refine (N1 _).mono ?_
    rintro e w4 ⟨rfl, hb4⟩
    go_wp2
    go_ret
    exact ⟨rfl, HW1.out.trans (hb4.mono HZ1.out)⟩
end Go.Proofs.Ytmiimpmfkjcjlaa
