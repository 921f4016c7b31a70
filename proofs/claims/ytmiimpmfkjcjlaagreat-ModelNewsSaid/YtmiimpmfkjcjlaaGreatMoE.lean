/- Models: an answer that is held against one (package model: Legal), done. -/
/- Models: a state's form as the law asks for it (law 27: right). -/
/- Models: the law's own example (law 27: five). -/
import Derived.Test.YtmiimpmfkjcjlaaGreatMoD
namespace Go.Proofs.YtmiimpmfkjcjlaaGreat
open Go.RowKit
attribute [local go_sem] run_store_fn run_store_nilfn

abbrev legW (w : World) (s : Sp) (c : Cl) (e v : Int) (L : Value) : World := ((w.alloc (.cells #[.int .i64 s.kind, .int .i64 s.p, .int .i64 s.q] 23)).alloc (.cells #[.int .i64 c.thread, .int .i64 c.obj, .int .i64 c.kind, .int .u64 c.a, .int .u64 c.b, .int .u64 c.c] 27)).alloc (.cells #[.int .i64 e, .int .u64 v, L] 57)
theorem legW_below (w : World) (s : Sp) (c : Cl) (e v : Int) (L : Value) : Below w.heap.size w (legW w s c e v L) := (((Below.refl _ w).alloc (Nat.le_refl _) _).alloc (by simp) _).alloc (by simp; omega) _
theorem legW_blocks (w : World) (s : Sp) (c : Cl) (e v : Int) (L : Value) : (legW w s c e v L).heap[w.heap.size]? = some (.cells #[.int .i64 s.kind, .int .i64 s.p, .int .i64 s.q] 23 (0, 0)) ∧ (legW w s c e v L).heap[w.heap.size + 1]? = some (.cells #[.int .i64 c.thread, .int .i64 c.obj, .int .i64 c.kind, .int .u64 c.a, .int .u64 c.b, .int .u64 c.c] 27 (0, 0)) ∧
    (legW w s c e v L).heap[w.heap.size + 2]? = some (.cells #[.int .i64 e, .int .u64 v, L] 57 (0, 0)) := by
  refine ⟨?_, ?_, ?_⟩
  · exact (heap_alloc_old _ _ (by simp; omega)).trans ((heap_alloc_old _ _ (by simp)).trans (heap_alloc_new w _))
  · have h := heap_alloc_new (w.alloc (.cells #[.int .i64 s.kind, .int .i64 s.p, .int .i64 s.q] 23)) (.cells #[.int .i64 c.thread, .int .i64 c.obj, .int .i64 c.kind, .int .u64 c.a, .int .u64 c.b, .int .u64 c.c] 27)
    exact (heap_alloc_old _ _ (by simp)).trans (by simpa using h)
  · have h := heap_alloc_new ((w.alloc (.cells #[.int .i64 s.kind, .int .i64 s.p, .int .i64 s.q] 23)).alloc (.cells #[.int .i64 c.thread, .int .i64 c.obj, .int .i64 c.kind, .int .u64 c.a, .int .u64 c.b, .int .u64 c.c] 27)) (.cells #[.int .i64 e, .int .u64 v, L] 57)
    simpa using h

def LegPost (n : Int) (s : Sp) (st : List Int) (c : Cl) (a : An) (w : World) (e : Ending) (w' : World) : Prop :=
  ∃ v, e = .returned (.tuple #[v, .bool (legalM n s st c a).2]) ∧ WOwn w' w.heap.size v (legalM n s st c a).1.length (legalM n s st c a).1 ∧ Below w.heap.size w w'

set_option maxRecDepth 100000 in
set_option maxHeartbeats 4000000 in
theorem mlegal_any (n : Int) (s : Sp) (c : Cl) (a : An) (A LA : Option Addr) (m vc ln lc : Nat) (st : List Int) (w : World) (h : SlW w (.slice A m vc) st) (hm : st.length = m) (hl : m ≤ 10000) (ha : U64 c.a) (hb9 : U64 c.b) (hu : ∀ z ∈ st, U64 z)
    (hla : SlW w (.slice LA ln lc) a.list) (hAl : (applyM n s st c).1.length ≤ 1000000) (hAl2 : (applyM n s st c).2.list.length ≤ 1000000) :
    Calls Tryz.prog 41 #[.int .i64 n, spV s, .slice A m vc, clV c, .agg #[.int .i64 a.err, .int .u64 a.val, .slice LA ln lc]] w (LegPost n s st c a w) := by
  have N0 := fun W (h : SlW W (.slice A m vc) st) => mapply_any n s c A m vc st W h hm hl ha hb9 hu
  have NC := fun W (h : SlW W (.slice A m vc) st) => clone_any (.slice A m vc) st W h (by omega)
  unfold ApPost at N0
  have hlz : ln = a.list.length := by obtain ⟨_, _, e, _⟩ := hla; cases e; rfl
  have hlz63 : (ln : Int) ≤ 9223372036854775807 := by obtain ⟨_, _, e, h1, h2, _⟩ := hla; cases e; unfold maxLen at h2; omega
  subst hlz
  have HS := hide h
  have HM := hide hm
  have HLA := hide hla
  obtain ⟨ok, hok⟩ : ∃ ok, okM n s st c a = ok := ⟨_, rfl⟩
  obtain ⟨F, hF⟩ : ∃ F, (decide (s.kind = 8) && (decide (c.kind = 0) && (decide ((applyM n s st c).2.err = 0) && (decide (a.err = 6) && (decide (a.val = 0) && decide (a.list.length = 0)))))) = F := ⟨_, rfl⟩
  have hfull : fullM n s st c a = (F && decide (s.p - n - 1 ≤ ownN st c.thread)) := by
    rw [← hF]
    unfold fullM
    simp only [Bool.and_assoc]
  have hleg : legalM n s st c a = if ok = true then ((applyM n s st c).1, true) else (st, F && decide (s.p - n - 1 ≤ ownN st c.thread)) := by unfold legalM; rw [hok, hfull]
  have hown : F = true → m % 2 = 0 ∧ 0 ≤ c.thread ∧ c.thread < 100 ∧ (1 ≤ n ∧ n ≤ 16) ∧ (1 ≤ s.p ∧ s.p ≤ 32) := by
    intro hFt
    rw [hFt] at hF
    simp only [Bool.and_eq_true, decide_eq_true_eq] at hF
    obtain ⟨h8, _, hz, _⟩ := hF
    unfold applyM at hz
    by_cases hq : rightM n s st = false ∨ ¬ (0 ≤ c.thread ∧ c.thread < n)
    · rw [if_pos hq] at hz; cases hz
    · have hr : rightM n s st = true := by
        rcases hb : rightM n s st with _ | _
        · exact absurd (Or.inl hb) hq
        · rfl
      have ht : 0 ≤ c.thread ∧ c.thread < n := Decidable.byContradiction fun hh => hq (Or.inr hh)
      unfold rightM shapeM at hr
      rw [if_neg (by omega), if_pos h8] at hr
      simp only [Bool.and_eq_true, decide_eq_true_eq] at hr
      obtain ⟨⟨hn1, hn2⟩, _, hrt⟩ := sizeE_zero hr.1
      rw [h8] at hrt
      simp [rightT] at hrt
      exact ⟨by omega, ht.1, by omega, ⟨hn1, hn2⟩, hrt.1, hrt.2.1⟩
  unfold okM at hok
  obtain ⟨R, hR⟩ : ∃ R, applyM n s st c = R := ⟨_, rfl⟩
  rw [hR] at N0 hok hF hleg hAl hAl2
  obtain ⟨st', ⟨E, V, l⟩⟩ := R
  simp only [] at N0 hok hF hleg hAl hAl2
  have HLEG := hide hleg
  have HOWN := hide hown
  have hF' := hF
  have HF := hide hF
  have HOK := hide hok
  have NE := fun v1 v2 W h1 h2 => equal_any v1 v2 a.list l W h1 h2
  clear h hm hla hfull hleg hown hR hF hF'
  go_enter Tryz.func41, Tryz.ntmps41
  go_wp2_with fail
  refine (N0 _ ?_).mono ?_
  · exact HS.out.below (legW_below w s c _ _ _) (Nat.le_refl _)
  rintro e w1 ⟨v1, L1, rfl, hO1, hL1, hb1⟩
  have hB1 : Below (w.heap.size + 3) (legW w s c a.err a.val (.slice LA a.list.length lc)) w1 := hb1.mono (by simp)
  have hO1' : WOwn w1 (w.heap.size + 3) v1 st'.length st' := World.ownsRow.mono hO1 (by simp)
  have hL1' : SlW w1 L1 l := wrow_sl hL1 (by unfold maxLen; omega)
  obtain ⟨A1, c1', rfl⟩ := own_slice hO1
  obtain ⟨B1, d1', rfl⟩ := own_slice hL1
  have hba := legW_blocks w s c a.err a.val (.slice LA a.list.length lc)
  obtain ⟨s0, s1, s2, _, _, _, sz⟩ := cells3 ((hB1.block w.heap.size (by omega)).trans hba.1)
  obtain ⟨c0, c1, c2, c3, c4, c5, cz⟩ := cells6 ((hB1.block (w.heap.size + 1) (by omega)).trans hba.2.1)
  obtain ⟨r0, r1, r2, g0, g1, g2, rz⟩ := cells3 ((hB1.block (w.heap.size + 2) (by omega)).trans hba.2.2)
  have hW1 : Below w.heap.size w w1 := (legW_below w s c _ _ _).trans (hB1.mono (by omega))
  have HW1 := hide hW1
  have HO1 := hide hO1'
  have HL1 := hide hL1'
  have HLA1 := hide (HLA.out.below hW1 (Nat.le_refl _))
  clear hB1 hb1 hO1 hO1' hL1 hL1' hba hW1 N0
  go_upto_region 2 with fail
  go_cut [41] (fun v wx => v = .bool ok ∧ ∃ k, wx = (w1.alloc (.cells #[.int .i64 E, .int .u64 V, .slice B1 l.length d1'] 57)).drewN k)
  case first =>
    by_cases he : a.err = E
    · have d0 : (a.err == E) = true := by simpa using he
      by_cases hv : a.val = V
      · have d1 : (a.val == V) = true := by simpa using hv
        have hk : ok = decide (a.list = l) := by rw [← hok]; simp [he, hv]
        clear he hv hok
        go_wp2_with fail
        refine (NE _ _ _ (HLA1.out.alloc _) (HL1.out.alloc _)).mono ?_
        rintro e w2 ⟨rfl, k, rfl⟩
        go_wp2
        go_meet
        exact ⟨congrArg Value.bool (by rw [hk]), k, rfl⟩
      · have d1 : (a.val == V) = false := by simpa using hv
        have hk : ok = false := by rw [← hok]; simp [hv]
        clear he hv hok
        go_wp2
        go_meet
        exact ⟨congrArg Value.bool (by rw [hk]), 0, rfl⟩
    · have d0 : (a.err == E) = false := by simpa using he
      have hk : ok = false := by rw [← hok]; simp [he]
      clear he hok
      go_wp2
      go_meet
      exact ⟨congrArg Value.bool (by rw [hk]), 0, rfl⟩
  case rest =>
    obtain ⟨rfl, k, rfl⟩ := hcut
    cases ok
    · obtain ⟨W2, hW2⟩ : ∃ W2, W2 = (w1.alloc (.cells #[.int .i64 E, .int .u64 V, .slice B1 l.length d1'] 57)).drewN k := ⟨_, rfl⟩
      have hB2 : Below w1.heap.size w1 W2 := by rw [hW2]; exact below_drewN ((Below.refl _ _).alloc (Nat.le_refl _) _) _
      have hz2 : w1.heap.size < W2.heap.size := by rw [hW2]; show w1.heap.size < (w1.alloc _).heap.size; simp
      have e0 : W2.cell? ⟨w1.heap.size, 0, none⟩ = some (.int .i64 E) := by rw [hW2]; show (w1.alloc _).cell? _ = _; go_simp
      rw [← hW2]
      have s0' := (hB2.cell (p := ⟨w.heap.size, 0, none⟩) sz).trans s0
      have s1' := (hB2.cell (p := ⟨w.heap.size, 1, none⟩) sz).trans s1
      have c0' := (hB2.cell (p := ⟨w.heap.size + 1, 0, none⟩) cz).trans c0
      have c2' := (hB2.cell (p := ⟨w.heap.size + 1, 2, none⟩) cz).trans c2
      have r0' := (hB2.cell (p := ⟨w.heap.size + 2, 0, none⟩) rz).trans r0
      have r1' := (hB2.cell (p := ⟨w.heap.size + 2, 1, none⟩) rz).trans r1
      have r2' := (hB2.cell (p := ⟨w.heap.size + 2, 2, none⟩) rz).trans r2
      have HW2 := hide (HW1.out.trans (hB2.mono (by omega)))
      have hsz : w.heap.size < W2.heap.size := by omega
      have hcz : w.heap.size + 1 < W2.heap.size := by omega
      clear hW2 hB2 s0 s1 s2 c0 c1 c2 c3 c4 c5 r0 r1 r2 g0 g1 g2 hok
      have hleg2 := HLEG.out
      simp only [Bool.false_eq_true, if_false] at hleg2
      have HLEG2 := hide hleg2
      clear hleg2
      go_upto_region 4 with fail
      go_cut [14] (fun v wx => v = .bool F ∧ W2 = wx)
      case first =>
        by_cases f1 : s.kind = 8
        · by_cases f2 : c.kind = 0
          · by_cases f3 : E = 0
            · by_cases f4 : a.err = 6
              · by_cases f5 : a.val = 0
                · by_cases f6 : a.list.length = 0
                  all_goals
                    have g1 : (s.kind == 8) = true := by simpa using f1
                    have g2 : (c.kind == 0) = true := by simpa using f2
                    have g3 : (E == 0) = true := by simpa using f3
                    have g4 : (a.err == 6) = true := by simpa using f4
                    have g5 : (a.val == 0) = true := by simpa using f5
                  · have g6 : ((a.list.length : Int) == 0) = true := by simp; exact List.eq_nil_of_length_eq_zero f6
                    have hFF : F = true := by rw [← HF.out]; simp [f1, f2, f3, f4, f5, f6]
                    clear f1 f2 f3 f4 f5 f6
                    have HFF := hide hFF
                    clear hFF
                    go_wp2
                    go_meet
                    exact ⟨congrArg Value.bool (by rw [HFF.out]), rfl⟩
                  · have g6 : ((a.list.length : Int) == 0) = false := by rw [beq_eq_false_iff_ne]; omega
                    have hFF : F = false := by rw [← HF.out]; simp [f6]
                    clear f1 f2 f3 f4 f5 f6
                    have HFF := hide hFF
                    clear hFF
                    go_wp2
                    go_meet
                    exact ⟨congrArg Value.bool (by rw [HFF.out]), rfl⟩
                · have g1 : (s.kind == 8) = true := by simpa using f1
                  have g2 : (c.kind == 0) = true := by simpa using f2
                  have g3 : (E == 0) = true := by simpa using f3
                  have g4 : (a.err == 6) = true := by simpa using f4
                  have g5 : (a.val == 0) = false := by simpa using f5
                  have hFF : F = false := by rw [← HF.out]; simp [f5]
                  clear f1 f2 f3 f4 f5
                  have HFF := hide hFF
                  clear hFF
                  go_wp2
                  go_meet
                  exact ⟨congrArg Value.bool (by rw [HFF.out]), rfl⟩
              · have g1 : (s.kind == 8) = true := by simpa using f1
                have g2 : (c.kind == 0) = true := by simpa using f2
                have g3 : (E == 0) = true := by simpa using f3
                have g4 : (a.err == 6) = false := by simpa using f4
                have hFF : F = false := by rw [← HF.out]; simp [f4]
                clear f1 f2 f3 f4
                have HFF := hide hFF
                clear hFF
                go_wp2
                go_meet
                exact ⟨congrArg Value.bool (by rw [HFF.out]), rfl⟩
            · have g1 : (s.kind == 8) = true := by simpa using f1
              have g2 : (c.kind == 0) = true := by simpa using f2
              have g3 : (E == 0) = false := by simpa using f3
              have hFF : F = false := by rw [← HF.out]; simp [f3]
              clear f1 f2 f3
              have HFF := hide hFF
              clear hFF
              go_wp2
              go_meet
              exact ⟨congrArg Value.bool (by rw [HFF.out]), rfl⟩
          · have g1 : (s.kind == 8) = true := by simpa using f1
            have g2 : (c.kind == 0) = false := by simpa using f2
            have hFF : F = false := by rw [← HF.out]; simp [f2]
            clear f1 f2
            have HFF := hide hFF
            clear hFF
            go_wp2
            go_meet
            exact ⟨congrArg Value.bool (by rw [HFF.out]), rfl⟩
        · have g1 : (s.kind == 8) = false := by simpa using f1
          have hFF : F = false := by rw [← HF.out]; simp [f1]
          clear f1
          have HFF := hide hFF
          clear hFF
          go_wp2
          go_meet
          exact ⟨congrArg Value.bool (by rw [HFF.out]), rfl⟩
      case rest =>
        obtain ⟨rfl, rfl⟩ := hcut
        have hHS := HS.out.below HW2.out (Nat.le_refl _)
        go_wp2_with fail
        refine wp_region_seq (Below W2.heap.size W2) (.take 0 <| .take 2 <| .run 1 <| .take 3 <| .take 4 <| .take 5 <| .take 6 <| .take 8 <| .take 9 <| .take 10 <| .take 11 <| .take 12 <| .run 7 <| .take 13 <| .take 14 <| .take 15 <| .take 16 <| .done) (by kernel_rfl) (by kernel_rfl) (by kernel_rfl) ((Below.refl _ _).drew) ?_
        (refine seq_take (v := ?_) rfl (by rfl) ?_ ?_; rotate_left; (focus (intro wS hS; have z1 := (hS.cell (p := ⟨w.heap.size, 1, none⟩) hsz).trans s1'; have y0 := (hS.cell (p := ⟨w.heap.size + 1, 0, none⟩) hcz).trans c0'; go_simp; exact rfl)); simp only [Act.put, List.setIfInBounds_toArray, List.set_cons_zero, List.set_cons_succ])
        (refine seq_take (v := ?_) rfl (by rfl) ?_ ?_; rotate_left; (focus (intro wS hS; have z1 := (hS.cell (p := ⟨w.heap.size, 1, none⟩) hsz).trans s1'; have y0 := (hS.cell (p := ⟨w.heap.size + 1, 0, none⟩) hcz).trans c0'; go_simp; exact rfl)); simp only [Act.put, List.setIfInBounds_toArray, List.set_cons_zero, List.set_cons_succ])
        refine seq_run rfl (by rfl) (fun K hK => ?_)
        go_simp
        refine (NC _ ?_).mono ?_
        · exact hHS.below (Below.refl _ _).drew (Nat.le_refl _)
        rintro e w4 ⟨v4, rfl, ho4, hb4⟩
        have hB4 : Below W2.heap.size W2 w4 := (Below.refl _ _).drew.trans hb4
        have hO4 : WOwn w4 w.heap.size v4 st.length st := owns_base (base := W2.heap.size) (World.ownsRow.mono ho4 (by simp)) (by have := HW2.out.size; omega)
        refine hK _ _ hB4 ?_
        clear hK K
        cases F
        · (refine seq_take (v := ?_) rfl (by rfl) ?_ ?_; rotate_left; (focus (intro wS hS; have z1 := (hS.cell (p := ⟨w.heap.size, 1, none⟩) hsz).trans s1'; have y0 := (hS.cell (p := ⟨w.heap.size + 1, 0, none⟩) hcz).trans c0'; go_simp; exact rfl)); simp only [Act.put, List.setIfInBounds_toArray, List.set_cons_zero, List.set_cons_succ])
          repeat (refine seq_skip rfl (by rfl) ?_; simp only [Act.put, List.setIfInBounds_toArray, List.set_cons_zero, List.set_cons_succ])
          refine seq_pass rfl (by rfl) hB4 ?_
          simp only [Act.put, List.setIfInBounds_toArray, List.set_cons_zero, List.set_cons_succ]
          repeat (first | (refine seq_skip rfl (by rfl) ?_; simp only [Act.put, List.setIfInBounds_toArray, List.set_cons_zero, List.set_cons_succ]) | (refine seq_take (v := ?_) rfl (by rfl) ?_ ?_; rotate_left; (focus (intro wS hS; have z1 := (hS.cell (p := ⟨w.heap.size, 1, none⟩) hsz).trans s1'; have y0 := (hS.cell (p := ⟨w.heap.size + 1, 0, none⟩) hcz).trans c0'; go_simp; exact rfl)); simp only [Act.put, List.setIfInBounds_toArray, List.set_cons_zero, List.set_cons_succ]))
          refine seq_nil ?_
          go_wp2
          go_ret2
          unfold LegPost
          rw [HLEG2.out]
          refine ⟨v4, rfl, hO4, HW2.out.trans (hB4.mono ?_)⟩
          · have := HW2.out.size; omega
        · obtain ⟨he2, ht0, ht1, ⟨hn1, hn2⟩, hp1, hp2⟩ := HOWN.out rfl
          have ow := own_le st c.thread (m / 2)
          have hst4 := hHS.below hB4 (Nat.le_refl _)
          repeat (refine seq_take (v := ?_) rfl (by rfl) ?_ ?_; rotate_left; (focus (intro wS hS; have z1 := (hS.cell (p := ⟨w.heap.size, 1, none⟩) hsz).trans s1'; have y0 := (hS.cell (p := ⟨w.heap.size + 1, 0, none⟩) hcz).trans c0'; go_simp; exact rfl)); simp only [Act.put, List.setIfInBounds_toArray, List.set_cons_zero, List.set_cons_succ])
          refine seq_run rfl (by rfl) (fun K hK => ?_)
          go_simp
          refine (mown_any c.thread A m vc st _ ?_ HM.out hl he2 ht0 ht1).mono ?_
          · first | exact hst4 | exact hst4.below (Below.refl _ _).drew (Nat.le_refl _)
          rintro e w5 ⟨rfl, rfl⟩
          refine hK _ _ (by first | exact hB4 | exact hB4.drew) ?_
          clear hK K
          repeat (refine seq_take (v := ?_) rfl (by rfl) ?_ ?_; rotate_left; (focus (intro wS hS; have z1 := (hS.cell (p := ⟨w.heap.size, 1, none⟩) hsz).trans s1'; have y0 := (hS.cell (p := ⟨w.heap.size + 1, 0, none⟩) hcz).trans c0'; go_simp; exact rfl)); simp only [Act.put, List.setIfInBounds_toArray, List.set_cons_zero, List.set_cons_succ])
          refine seq_nil ?_
          rw [wrap_i64 (x := s.p - n) (by omega) (by omega), wrap_i64 (x := s.p - n - 1) (by omega) (by omega)]
          go_wp2
          go_ret2
          unfold LegPost
          rw [HLEG2.out]
          refine ⟨v4, by simp, ?_, HW2.out.trans (Below.mono (B := W2.heap.size) (by first | exact hB4 | exact hB4.drew) ?_)⟩
          · first | exact hO4 | exact World.ownsRow.drew hO4
          · have := HW2.out.size; omega
    · have hleg2 := HLEG.out
      simp only [if_true] at hleg2
      have HLEG2 := hide hleg2
      clear hleg2
      go_wp2
      go_ret2
      unfold LegPost
      rw [HLEG2.out]
      exact ⟨_, rfl, owns_base (owns_keepB HO1.out (Keep.of_below (K := fun j => j < w1.heap.size) (below_drewN ((Below.refl _ w1).alloc (Nat.le_refl _) _) k) (fun k hk => hk)) (fun j _ hl => hl)) (by omega), HW1.out.trans ((below_drewN ((Below.refl _ w1).alloc (Nat.le_refl _) _) k).mono (by omega))⟩
end Go.Proofs.YtmiimpmfkjcjlaaGreat

namespace Go.Proofs.YtmiimpmfkjcjlaaGreat
open Go.RowKit
attribute [local go_sem] run_store_fn run_store_nilfn

abbrev thV (n : Int) (s : Sp) (S : Value) (c : Cl) : Value := .agg #[.int .i64 n, .int .i64 s.kind, .int .i64 s.p, .int .i64 s.q, S, .int .i64 c.thread, .int .i64 c.obj, .int .i64 c.kind, .int .u64 c.a, .int .u64 c.b, .int .u64 c.c]
abbrev thW (w : World) (n : Int) (s : Sp) (S : Value) (c : Cl) : World := w.alloc (.cells #[.int .i64 n, .int .i64 s.kind, .int .i64 s.p, .int .i64 s.q, S, .int .i64 c.thread, .int .i64 c.obj, .int .i64 c.kind, .int .u64 c.a, .int .u64 c.b, .int .u64 c.c] 29)
def ThC (W : World) (g : Nat) (n : Int) (s : Sp) (S : Value) (c : Cl) : Prop := W.heap[g]? = some (.cells #[.int .i64 n, .int .i64 s.kind, .int .i64 s.p, .int .i64 s.q, S, .int .i64 c.thread, .int .i64 c.obj, .int .i64 c.kind, .int .u64 c.a, .int .u64 c.b, .int .u64 c.c] 29 (0, 0))
theorem thc_new (w : World) (n : Int) (s : Sp) (S : Value) (c : Cl) : ThC (thW w n s S c) w.heap.size n s S c := heap_alloc_new w _
theorem ThC.below {w w' : World} {g B : Nat} {n : Int} {s : Sp} {S : Value} {c : Cl} (h : ThC w g n s S c) (hb : Below B w w') (hg : g < B) : ThC w' g n s S c := (hb.block g hg).trans h
theorem ThC.cells {w : World} {g : Nat} {n : Int} {s : Sp} {S : Value} {c : Cl} (h : ThC w g n s S c) :
    w.cell? ⟨g, 0, none⟩ = some (.int .i64 n) ∧ w.cell? ⟨g, 1, none⟩ = some (.int .i64 s.kind) ∧ w.cell? ⟨g, 2, none⟩ = some (.int .i64 s.p) ∧ w.cell? ⟨g, 3, none⟩ = some (.int .i64 s.q) ∧ w.cell? ⟨g, 4, none⟩ = some S ∧ w.cell? ⟨g, 5, none⟩ = some (.int .i64 c.thread) ∧
    w.cell? ⟨g, 6, none⟩ = some (.int .i64 c.obj) ∧ w.cell? ⟨g, 7, none⟩ = some (.int .i64 c.kind) ∧ w.cell? ⟨g, 8, none⟩ = some (.int .u64 c.a) ∧ w.cell? ⟨g, 9, none⟩ = some (.int .u64 c.b) ∧ w.cell? ⟨g, 10, none⟩ = some (.int .u64 c.c) :=
  ⟨cell_of_row w g 0 _ _ _ h, cell_of_row w g 1 _ _ _ h, cell_of_row w g 2 _ _ _ h, cell_of_row w g 3 _ _ _ h, cell_of_row w g 4 _ _ _ h, cell_of_row w g 5 _ _ _ h, cell_of_row w g 6 _ _ _ h, cell_of_row w g 7 _ _ _ h, cell_of_row w g 8 _ _ _ h, cell_of_row w g 9 _ _ _ h, cell_of_row w g 10 _ _ _ h⟩

set_option maxRecDepth 100000 in
set_option maxHeartbeats 2000000 in
theorem lright_any (n : Int) (s : Sp) (c : Cl) (A : Option Addr) (m vc : Nat) (st : List Int) (w : World) (h : SlW w (.slice A m vc) st) (hm : st.length = m) (hm63 : (m : Int) ≤ 9223372036854775807) :
    Calls Tryz.prog 15 #[thV n s (.slice A m vc) c] w fun e w' => e = .returned (.bool (rightM n s st)) ∧ Below w.heap.size w w' := by
  by_cases hE : sizeE n s = 0
  · have hR : rightM n s st = shapeM n s st := by unfold rightM; rw [decide_eq_true hE]; rfl
    rw [hR]
    have NW := fun W => refNew27 n s W hE
    unfold RNewPost at NW
    have HE := hide hE
    have HNL := newM_len n s hE
    generalize sizeV n s = SV at *
    by_cases h7 : s.kind = 7
    · have hS : shapeM n s st = (decide (0 < m) && rightB17 s.p (m - 1)) := by unfold shapeM; rw [if_pos h7, hm]
      rw [hS]
      have d7 : (s.kind == 7) = true := by simpa using h7
      clear hE NW hS hR HNL
      by_cases h0 : m = 0
      · subst h0
        clear h7
        have N0 := fun W => refSize_any n s W
        rw [HE.out] at N0
        go_enter Tryz.func15, Tryz.ntmps15
        go_wp2_with fail
        refine (N0 _).mono ?_
        rintro e w1 ⟨rfl, hb⟩
        have hbx : Below (w.heap.size + 1) _ w1 := hb.mono (by simp)
        obtain ⟨s0, s1, s2, s3, s4, _⟩ := ((thc_new w n s _ c).below hbx (by omega)).cells
        have HB1 : Hid (Below w.heap.size w w1) := hide (((Below.refl _ w).alloc (Nat.le_refl _) _).trans (hbx.mono (by simp)))
        have hz1 : w.heap.size < w1.heap.size := by have := hbx.size; simp at this; omega
        clear hb hbx N0
        go_wp2_with fail
        refine wp_region_seq (Below w1.heap.size w1) (.take 0 <| .take 1 <| .take 2 <| .take 3 <| .take 4 <| .take 5 <| .take 6 <| .take 7 <| .take 8 <| .take 9 <| .take 10 <| .run 11 <| .take 12 <| .take 13 <| .done) (by kernel_rfl) (by kernel_rfl) (by kernel_rfl) (by (repeat' (first | exact Below.refl _ _ | assumption | refine Below.drew ?_ | refine below_drewN ?_ _ | refine Below.alloc ?_ (by simp <;> omega) _ | refine Below.setCell ?_ (by simp <;> omega) _))) ?_
        repeat (first | (refine seq_take (v := ?_) rfl (by rfl) ?_ ?_; rotate_left; (focus (intro wS hS; have z0 := (hS.cell (p := ⟨w.heap.size, 0, none⟩) hz1).trans s0; have z1 := (hS.cell (p := ⟨w.heap.size, 1, none⟩) hz1).trans s1; have z2 := (hS.cell (p := ⟨w.heap.size, 2, none⟩) hz1).trans s2; have z3 := (hS.cell (p := ⟨w.heap.size, 3, none⟩) hz1).trans s3; have z4 := (hS.cell (p := ⟨w.heap.size, 4, none⟩) hz1).trans s4; go_simp; exact rfl)); simp only [Act.put, List.setIfInBounds_toArray, List.set_cons_zero, List.set_cons_succ]) | (refine seq_skip rfl (by rfl) ?_; simp only [Act.put, List.setIfInBounds_toArray, List.set_cons_zero, List.set_cons_succ]))
        refine seq_pass rfl (by rfl) (by (repeat' (first | exact Below.refl _ _ | assumption | refine Below.drew ?_ | refine below_drewN ?_ _ | refine Below.alloc ?_ (by simp <;> omega) _ | refine Below.setCell ?_ (by simp <;> omega) _))) ?_
        simp only [Act.put, List.setIfInBounds_toArray, List.set_cons_zero, List.set_cons_succ]
        repeat (first | (refine seq_take (v := ?_) rfl (by rfl) ?_ ?_; rotate_left; (focus (intro wS hS; have z0 := (hS.cell (p := ⟨w.heap.size, 0, none⟩) hz1).trans s0; have z1 := (hS.cell (p := ⟨w.heap.size, 1, none⟩) hz1).trans s1; have z2 := (hS.cell (p := ⟨w.heap.size, 2, none⟩) hz1).trans s2; have z3 := (hS.cell (p := ⟨w.heap.size, 3, none⟩) hz1).trans s3; have z4 := (hS.cell (p := ⟨w.heap.size, 4, none⟩) hz1).trans s4; go_simp; exact rfl)); simp only [Act.put, List.setIfInBounds_toArray, List.set_cons_zero, List.set_cons_succ]) | (refine seq_skip rfl (by rfl) ?_; simp only [Act.put, List.setIfInBounds_toArray, List.set_cons_zero, List.set_cons_succ]))
        refine seq_nil ?_
        go_wp2
        go_ret
        exact ⟨ret_bool (by simp), by have := HB1.out; (repeat' (first | exact Below.refl _ _ | assumption | refine Below.drew ?_ | refine below_drewN ?_ _ | refine Below.alloc ?_ (by simp <;> omega) _ | refine Below.setCell ?_ (by simp <;> omega) _))⟩
      · have hm0 : 0 < m := by omega
        have q0 : (0 : Int) < (m : Int) := by omega
        have q1 : (1 : Int) ≤ (m : Int) := by omega
        have d0 : decide ((0 : Int) < (m : Int)) = true := by simpa using hm0
        have e0 : decide (0 < m) = true := by simpa using hm0
        rw [e0, Bool.true_and]
        obtain ⟨x, hx⟩ : ∃ x, st[0]? = some x := ⟨_, List.getElem?_eq_getElem (by omega)⟩
        obtain ⟨sb, so, rfl, _, hsb⟩ := sl_at h 0 x hx
        have hsl0 := h
        obtain ⟨X, hX, hXs⟩ := sl_drop (k := 1) h (by omega)
        unfold sliced at hX
        have hdl : (st.drop 1).length = m - 1 := by rw [List.length_drop, hm]
        have hvm : m ≤ vc := by obtain ⟨_, _, e, h1, _⟩ := h; cases e; omega
        by_cases hvc : vc = 1
        · rw [if_pos hvc] at hX
          subst hvc
          obtain rfl : m = 1 := by omega
          subst hX
          clear h0 e0 hx h7
          have N1 := fun v W (h : SlW W v (st.drop 1)) => refRight17 v (st.drop 1) s.p W h
          rw [hdl] at N1
          have HX := hide hXs
          clear hXs hdl hsl0 h
          have N0 := fun W => refSize_any n s W
          rw [HE.out] at N0
          go_enter Tryz.func15, Tryz.ntmps15
          go_wp2_with fail
          refine (N0 _).mono ?_
          rintro e w1 ⟨rfl, hb⟩
          have hbx : Below (w.heap.size + 1) _ w1 := hb.mono (by simp)
          obtain ⟨s0, s1, s2, s3, s4, _⟩ := ((thc_new w n s _ c).below hbx (by omega)).cells
          have HB1 : Hid (Below w.heap.size w w1) := hide (((Below.refl _ w).alloc (Nat.le_refl _) _).trans (hbx.mono (by simp)))
          have hz1 : w.heap.size < w1.heap.size := by have := hbx.size; simp at this; omega
          clear hb hbx N0
          go_wp2_with fail
          refine wp_region_seq (Below w1.heap.size w1) (.take 0 <| .take 1 <| .take 2 <| .take 3 <| .take 4 <| .take 5 <| .take 6 <| .take 7 <| .take 8 <| .take 9 <| .take 10 <| .run 11 <| .take 12 <| .take 13 <| .done) (by kernel_rfl) (by kernel_rfl) (by kernel_rfl) (by (repeat' (first | exact Below.refl _ _ | assumption | refine Below.drew ?_ | refine below_drewN ?_ _ | refine Below.alloc ?_ (by simp <;> omega) _ | refine Below.setCell ?_ (by simp <;> omega) _))) ?_
          repeat (first | (refine seq_take (v := ?_) rfl (by rfl) ?_ ?_; rotate_left; (focus (intro wS hS; have z0 := (hS.cell (p := ⟨w.heap.size, 0, none⟩) hz1).trans s0; have z1 := (hS.cell (p := ⟨w.heap.size, 1, none⟩) hz1).trans s1; have z2 := (hS.cell (p := ⟨w.heap.size, 2, none⟩) hz1).trans s2; have z3 := (hS.cell (p := ⟨w.heap.size, 3, none⟩) hz1).trans s3; have z4 := (hS.cell (p := ⟨w.heap.size, 4, none⟩) hz1).trans s4; go_simp; exact rfl)); simp only [Act.put, List.setIfInBounds_toArray, List.set_cons_zero, List.set_cons_succ]) | (refine seq_skip rfl (by rfl) ?_; simp only [Act.put, List.setIfInBounds_toArray, List.set_cons_zero, List.set_cons_succ]))
          refine seq_run rfl (by rfl) (fun K hK => ?_)
          go_simp
          refine (N1 _ _ ?_).mono ?_
          · exact HX.out.below HB1.out.drew (Nat.le_refl _)
          rintro e w2 ⟨rfl, hb2⟩
          have hB2 : Below w1.heap.size w1 w2 := (Below.refl _ _).drew.trans (hb2.mono (by simp))
          refine hK _ _ hB2 ?_
          clear hK K
          repeat (first | (refine seq_take (v := ?_) rfl (by rfl) ?_ ?_; rotate_left; (focus (intro wS hS; have z0 := (hS.cell (p := ⟨w.heap.size, 0, none⟩) hz1).trans s0; have z1 := (hS.cell (p := ⟨w.heap.size, 1, none⟩) hz1).trans s1; have z2 := (hS.cell (p := ⟨w.heap.size, 2, none⟩) hz1).trans s2; have z3 := (hS.cell (p := ⟨w.heap.size, 3, none⟩) hz1).trans s3; have z4 := (hS.cell (p := ⟨w.heap.size, 4, none⟩) hz1).trans s4; go_simp; exact rfl)); simp only [Act.put, List.setIfInBounds_toArray, List.set_cons_zero, List.set_cons_succ]) | (refine seq_skip rfl (by rfl) ?_; simp only [Act.put, List.setIfInBounds_toArray, List.set_cons_zero, List.set_cons_succ]))
          refine seq_nil ?_
          have HB2 : Hid (Below w.heap.size w w2) := hide (HB1.out.trans (hB2.mono (by omega)))
          clear hb2 hB2
          go_wp2
          go_ret
          exact ⟨ret_bool (by first | rfl | simp), HB2.out⟩
        · rw [if_neg hvc] at hX
          simp only [Option.map_some, Addr.add, Nat.mul_one] at hX
          rw [if_neg (by omega)] at hX
          subst hX
          clear h0 e0 hx h7
          have N1 := fun v W (h : SlW W v (st.drop 1)) => refRight17 v (st.drop 1) s.p W h
          rw [hdl] at N1
          have HX := hide hXs
          clear hXs hdl hsl0 h
          have N0 := fun W => refSize_any n s W
          rw [HE.out] at N0
          go_enter Tryz.func15, Tryz.ntmps15
          go_wp2_with fail
          refine (N0 _).mono ?_
          rintro e w1 ⟨rfl, hb⟩
          have hbx : Below (w.heap.size + 1) _ w1 := hb.mono (by simp)
          obtain ⟨s0, s1, s2, s3, s4, _⟩ := ((thc_new w n s _ c).below hbx (by omega)).cells
          have HB1 : Hid (Below w.heap.size w w1) := hide (((Below.refl _ w).alloc (Nat.le_refl _) _).trans (hbx.mono (by simp)))
          have hz1 : w.heap.size < w1.heap.size := by have := hbx.size; simp at this; omega
          clear hb hbx N0
          go_wp2_with fail
          refine wp_region_seq (Below w1.heap.size w1) (.take 0 <| .take 1 <| .take 2 <| .take 3 <| .take 4 <| .take 5 <| .take 6 <| .take 7 <| .take 8 <| .take 9 <| .take 10 <| .run 11 <| .take 12 <| .take 13 <| .done) (by kernel_rfl) (by kernel_rfl) (by kernel_rfl) (by (repeat' (first | exact Below.refl _ _ | assumption | refine Below.drew ?_ | refine below_drewN ?_ _ | refine Below.alloc ?_ (by simp <;> omega) _ | refine Below.setCell ?_ (by simp <;> omega) _))) ?_
          repeat (first | (refine seq_take (v := ?_) rfl (by rfl) ?_ ?_; rotate_left; (focus (intro wS hS; have z0 := (hS.cell (p := ⟨w.heap.size, 0, none⟩) hz1).trans s0; have z1 := (hS.cell (p := ⟨w.heap.size, 1, none⟩) hz1).trans s1; have z2 := (hS.cell (p := ⟨w.heap.size, 2, none⟩) hz1).trans s2; have z3 := (hS.cell (p := ⟨w.heap.size, 3, none⟩) hz1).trans s3; have z4 := (hS.cell (p := ⟨w.heap.size, 4, none⟩) hz1).trans s4; go_simp; exact rfl)); simp only [Act.put, List.setIfInBounds_toArray, List.set_cons_zero, List.set_cons_succ]) | (refine seq_skip rfl (by rfl) ?_; simp only [Act.put, List.setIfInBounds_toArray, List.set_cons_zero, List.set_cons_succ]))
          refine seq_run rfl (by rfl) (fun K hK => ?_)
          go_simp
          refine (N1 _ _ ?_).mono ?_
          · exact HX.out.below HB1.out.drew (Nat.le_refl _)
          rintro e w2 ⟨rfl, hb2⟩
          have hB2 : Below w1.heap.size w1 w2 := (Below.refl _ _).drew.trans (hb2.mono (by simp))
          refine hK _ _ hB2 ?_
          clear hK K
          repeat (first | (refine seq_take (v := ?_) rfl (by rfl) ?_ ?_; rotate_left; (focus (intro wS hS; have z0 := (hS.cell (p := ⟨w.heap.size, 0, none⟩) hz1).trans s0; have z1 := (hS.cell (p := ⟨w.heap.size, 1, none⟩) hz1).trans s1; have z2 := (hS.cell (p := ⟨w.heap.size, 2, none⟩) hz1).trans s2; have z3 := (hS.cell (p := ⟨w.heap.size, 3, none⟩) hz1).trans s3; have z4 := (hS.cell (p := ⟨w.heap.size, 4, none⟩) hz1).trans s4; go_simp; exact rfl)); simp only [Act.put, List.setIfInBounds_toArray, List.set_cons_zero, List.set_cons_succ]) | (refine seq_skip rfl (by rfl) ?_; simp only [Act.put, List.setIfInBounds_toArray, List.set_cons_zero, List.set_cons_succ]))
          refine seq_nil ?_
          have HB2 : Hid (Below w.heap.size w w2) := hide (HB1.out.trans (hB2.mono (by omega)))
          clear hb2 hB2
          go_wp2
          go_ret
          exact ⟨ret_bool (by first | rfl | simp), HB2.out⟩
    · have d7 : (s.kind == 7) = false := by simpa using h7
      by_cases h8 : s.kind = 8
      · have hS : shapeM n s st = decide (m % 2 = 0) := by unfold shapeM; rw [if_neg h7, if_pos h8, hm]
        rw [hS]
        have d8 : (s.kind == 8) = true := by simpa using h8
        have d2 : ((m : Int).tmod 2 == 0) = decide (m % 2 = 0) := by
          rw [Bool.eq_iff_iff]
          simp
          rw [Int.tmod_eq_emod_of_nonneg (by omega)]
          omega
        clear hE NW hS hR HNL h7 h8
        have N0 := fun W => refSize_any n s W
        rw [HE.out] at N0
        go_enter Tryz.func15, Tryz.ntmps15
        go_wp2_with fail
        refine (N0 _).mono ?_
        rintro e w1 ⟨rfl, hb⟩
        have hbx : Below (w.heap.size + 1) _ w1 := hb.mono (by simp)
        obtain ⟨s0, s1, s2, s3, s4, _⟩ := ((thc_new w n s _ c).below hbx (by omega)).cells
        have HB1 : Hid (Below w.heap.size w w1) := hide (((Below.refl _ w).alloc (Nat.le_refl _) _).trans (hbx.mono (by simp)))
        have hz1 : w.heap.size < w1.heap.size := by have := hbx.size; simp at this; omega
        clear hb hbx N0
        go_wp2
        go_ret
        exact ⟨ret_bool (by first | exact d2 | (rw [← d2]) | (simp; omega)), HB1.out⟩
      · have hS : shapeM n s st = decide (m = (newM n s).length) := by unfold shapeM; rw [if_neg h7, if_neg h8, hm]
        rw [hS]
        have d8 : (s.kind == 8) = false := by simpa using h8
        generalize newM n s = NL at *
        have hNL : (NL.length : Int) ≤ 80 := by omega
        have d2 : ((m : Int) == (NL.length : Int)) = decide (m = NL.length) := by
          rw [Bool.eq_iff_iff]
          simp
          omega
        clear hE hS hR HNL h7 h8
        have N0 := fun W => refSize_any n s W
        rw [HE.out] at N0
        go_enter Tryz.func15, Tryz.ntmps15
        go_wp2_with fail
        refine (N0 _).mono ?_
        rintro e w1 ⟨rfl, hb⟩
        have hbx : Below (w.heap.size + 1) _ w1 := hb.mono (by simp)
        obtain ⟨s0, s1, s2, s3, s4, _⟩ := ((thc_new w n s _ c).below hbx (by omega)).cells
        have HB1 : Hid (Below w.heap.size w w1) := hide (((Below.refl _ w).alloc (Nat.le_refl _) _).trans (hbx.mono (by simp)))
        have hz1 : w.heap.size < w1.heap.size := by have := hbx.size; simp at this; omega
        clear hb hbx N0
        go_wp2_with fail
        refine wp_region_seq (Below w1.heap.size w1) (.take 0 <| .take 1 <| .take 2 <| .take 3 <| .take 4 <| .take 5 <| .take 6 <| .run 7 <| .take 8 <| .take 9 <| .take 10 <| .done) (by kernel_rfl) (by kernel_rfl) (by kernel_rfl) (by (repeat' (first | exact Below.refl _ _ | assumption | refine Below.drew ?_ | refine below_drewN ?_ _ | refine Below.alloc ?_ (by simp <;> omega) _ | refine Below.setCell ?_ (by simp <;> omega) _))) ?_
        repeat (refine seq_take (v := ?_) rfl (by rfl) ?_ ?_; rotate_left; (focus (intro wS hS; have z0 := (hS.cell (p := ⟨w.heap.size, 0, none⟩) hz1).trans s0; have z1 := (hS.cell (p := ⟨w.heap.size, 1, none⟩) hz1).trans s1; have z2 := (hS.cell (p := ⟨w.heap.size, 2, none⟩) hz1).trans s2; have z3 := (hS.cell (p := ⟨w.heap.size, 3, none⟩) hz1).trans s3; have z4 := (hS.cell (p := ⟨w.heap.size, 4, none⟩) hz1).trans s4; go_simp; exact rfl)); simp only [Act.put, List.setIfInBounds_toArray, List.set_cons_zero, List.set_cons_succ])
        refine seq_run rfl (by rfl) (fun K hK => ?_)
        go_simp
        refine (NW _).mono ?_
        rintro e w2 ⟨v, rfl, hown, hb2⟩
        obtain ⟨nA, nc, rfl⟩ := own_slice hown
        have hB2 : Below w1.heap.size w1 w2 := (Below.refl _ _).drew.trans (hb2.mono (by simp))
        refine hK _ _ hB2 ?_
        clear hK K hown
        repeat (refine seq_take (v := ?_) rfl (by rfl) ?_ ?_; rotate_left; (focus (intro wS hS; have z0 := (hS.cell (p := ⟨w.heap.size, 0, none⟩) hz1).trans s0; have z1 := (hS.cell (p := ⟨w.heap.size, 1, none⟩) hz1).trans s1; have z2 := (hS.cell (p := ⟨w.heap.size, 2, none⟩) hz1).trans s2; have z3 := (hS.cell (p := ⟨w.heap.size, 3, none⟩) hz1).trans s3; have z4 := (hS.cell (p := ⟨w.heap.size, 4, none⟩) hz1).trans s4; go_simp; exact rfl)); simp only [Act.put, List.setIfInBounds_toArray, List.set_cons_zero, List.set_cons_succ])
        refine seq_nil ?_
        have HB2 : Hid (Below w.heap.size w w2) := hide (HB1.out.trans (hB2.mono (by omega)))
        clear hb2 hB2
        go_wp2
        go_ret
        exact ⟨ret_bool (by first | exact d2 | (rw [← d2]) | (simp; omega)), HB2.out⟩
  · have hR : rightM n s st = false := by unfold rightM; rw [decide_eq_false hE]; rfl
    rw [hR]
    generalize hEE : sizeE n s = E at *
    generalize sizeV n s = SV at *
    have HE := hide hEE
    have he : (E != 0) = true := by simpa using hE
    have N0 := fun W => refSize_any n s W
    rw [HE.out] at N0
    go_enter Tryz.func15, Tryz.ntmps15
    go_wp2_with fail
    refine (N0 _).mono ?_
    rintro e w1 ⟨rfl, hb⟩
    have hbx : Below (w.heap.size + 1) _ w1 := hb.mono (by simp)
    obtain ⟨s0, s1, s2, s3, s4, _⟩ := ((thc_new w n s _ c).below hbx (by omega)).cells
    have HB1 : Hid (Below w.heap.size w w1) := hide (((Below.refl _ w).alloc (Nat.le_refl _) _).trans (hbx.mono (by simp)))
    have hz1 : w.heap.size < w1.heap.size := by have := hbx.size; simp at this; omega
    clear hb hbx N0
    go_wp2
    go_ret
    exact ⟨rfl, HB1.out⟩
end Go.Proofs.YtmiimpmfkjcjlaaGreat

namespace Go.Proofs.YtmiimpmfkjcjlaaGreat
open Go.RowKit
attribute [local go_sem] run_store_fn run_store_nilfn

theorem sl_none (w : World) : SlW w (.slice none 0 0) [] := ⟨none, 0, rfl, Nat.le_refl _, Nat.zero_le _, by intro k x h; simp at h⟩
theorem five1 : applyM 2 ⟨8, 4, 0⟩ [] ⟨1, 0, 0, 5, 0, 0⟩ = ([1, 5], ⟨0, 0, []⟩) := by rfl
theorem five2 : applyM 2 ⟨8, 4, 0⟩ [1, 5] ⟨0, 0, 1, 0, 0, 0⟩ = ([], ⟨0, 5, []⟩) := by rfl
theorem five3 : legalM 2 ⟨8, 4, 0⟩ [1, 5] ⟨1, 0, 0, 0, 0, 0⟩ ⟨6, 0, []⟩ = ([1, 5], true) := by rfl
theorem five4 : legalM 2 ⟨8, 4, 0⟩ [1, 5] ⟨0, 0, 0, 0, 0, 0⟩ ⟨6, 0, []⟩ = ([1, 5], false) := by rfl
theorem five5 (c : Cl) (h : c = ⟨1, 0, 0, 0, 0, 0⟩ ∨ c = ⟨0, 0, 0, 0, 0, 0⟩) : (applyM 2 ⟨8, 4, 0⟩ [1, 5] c).1.length ≤ 1000000 ∧ (applyM 2 ⟨8, 4, 0⟩ [1, 5] c).2.list.length ≤ 1000000 := by
  rcases h with rfl | rfl <;> exact ⟨by decide, by decide⟩
set_option maxRecDepth 100000 in
set_option maxHeartbeats 2000000 in
theorem five_any (w : World) : Calls Tryz.prog 12 #[] w fun e w' => e = .returned (.bool true) ∧ Below w.heap.size w w' := by
  have u0 : ∀ z ∈ ([] : List Int), U64 z := by simp
  have u1 : ∀ z ∈ ([1, 5] : List Int), U64 z := by intro z hz; simp at hz; rcases hz with rfl | rfl <;> exact ⟨by decide, by decide⟩
  have N1 : ∀ W, Calls Tryz.prog 40 #[.int .i64 2, .agg #[.int .i64 8, .int .i64 4, .int .i64 0], .slice none 0 0, .agg #[.int .i64 1, .int .i64 0, .int .i64 0, .int .u64 5, .int .u64 0, .int .u64 0]] W _ :=
    fun W => mapply_any 2 ⟨8, 4, 0⟩ ⟨1, 0, 0, 5, 0, 0⟩ none 0 0 [] W (sl_none W) rfl (by decide) ⟨by decide, by decide⟩ ⟨by decide, by decide⟩ u0
  have N2 : ∀ A vc W, SlW W (.slice A 2 vc) [1, 5] → Calls Tryz.prog 40 #[.int .i64 2, .agg #[.int .i64 8, .int .i64 4, .int .i64 0], .slice A 2 vc, .agg #[.int .i64 0, .int .i64 0, .int .i64 1, .int .u64 0, .int .u64 0, .int .u64 0]] W _ :=
    fun A vc W h => mapply_any 2 ⟨8, 4, 0⟩ ⟨0, 0, 1, 0, 0, 0⟩ A 2 vc [1, 5] W h rfl (by decide) ⟨by decide, by decide⟩ ⟨by decide, by decide⟩ u1
  have N3 : ∀ A vc W, SlW W (.slice A 2 vc) [1, 5] → Calls Tryz.prog 41 #[.int .i64 2, .agg #[.int .i64 8, .int .i64 4, .int .i64 0], .slice A 2 vc, .agg #[.int .i64 1, .int .i64 0, .int .i64 0, .int .u64 0, .int .u64 0, .int .u64 0], .agg #[.int .i64 6, .int .u64 0, .slice none 0 0]] W _ :=
    fun A vc W h => mlegal_any 2 ⟨8, 4, 0⟩ ⟨1, 0, 0, 0, 0, 0⟩ ⟨6, 0, []⟩ A none 2 vc 0 0 [1, 5] W h rfl (by decide) ⟨by decide, by decide⟩ ⟨by decide, by decide⟩ u1 (sl_none W) (five5 _ (Or.inl rfl)).1 (five5 _ (Or.inl rfl)).2
  have N4 : ∀ A vc W, SlW W (.slice A 2 vc) [1, 5] → Calls Tryz.prog 41 #[.int .i64 2, .agg #[.int .i64 8, .int .i64 4, .int .i64 0], .slice A 2 vc, .agg #[.int .i64 0, .int .i64 0, .int .i64 0, .int .u64 0, .int .u64 0, .int .u64 0], .agg #[.int .i64 6, .int .u64 0, .slice none 0 0]] W _ :=
    fun A vc W h => mlegal_any 2 ⟨8, 4, 0⟩ ⟨0, 0, 0, 0, 0, 0⟩ ⟨6, 0, []⟩ A none 2 vc 0 0 [1, 5] W h rfl (by decide) ⟨by decide, by decide⟩ ⟨by decide, by decide⟩ u1 (sl_none W) (five5 _ (Or.inr rfl)).1 (five5 _ (Or.inr rfl)).2
  have N5 := fun v1 v2 W h1 h2 => same_any v1 v2 [1, 5] [1, 5] W h1 h2
  unfold ApPost at N1 N2
  unfold LegPost at N3 N4
  rw [five1] at N1
  rw [five2] at N2
  rw [five3] at N3
  rw [five4] at N4
  clear u0 u1
  go_enter Tryz.func12, Tryz.ntmps12
  go_wp2_with fail
  refine (N1 _).mono ?_
  rintro e w1 ⟨v1, L1, rfl, hO1, hL1, hb1⟩
  have hs1 : SlW w1 v1 [1, 5] := wrow_sl hO1 (by decide)
  obtain ⟨A1, c1, rfl⟩ := own_slice hO1
  obtain ⟨B1, d1, rfl⟩ := own_slice hL1
  obtain ⟨s0, s1, s2, _⟩ := cells3 ((hb1.block w.heap.size (by simp)).trans (heap_alloc_new _ _))
  have HB1 : Hid (Below w.heap.size w w1) := hide (((Below.refl _ w).alloc (Nat.le_refl _) _).trans (hb1.mono (by simp)))
  have hz1 : w.heap.size < w1.heap.size := by have := hb1.size; simp at this; omega
  clear hb1 N1 hO1 hL1
  simp only [List.length_cons, List.length_nil, Nat.reduceAdd] at hs1 ⊢
  go_wp2_with fail
  refine (N2 _ _ _ ?_).mono ?_
  · exact hs1.below ((Below.refl _ _).alloc (Nat.le_refl _) _) (Nat.le_refl _)
  rintro e w2 ⟨v2, L2, rfl, hO2, hL2, hb2⟩
  obtain ⟨A2, c2, rfl⟩ := own_slice hO2
  obtain ⟨B2, d2, rfl⟩ := own_slice hL2
  have hB2 : Below w1.heap.size w1 w2 := ((Below.refl _ w1).alloc (Nat.le_refl _) _).trans (hb2.mono (by simp))
  have hz2 : w1.heap.size < w2.heap.size := by have := hb2.size; simp at this; omega
  obtain ⟨r0, r1, r2, _⟩ := cells3 ((hb2.block w1.heap.size (by simp)).trans (heap_alloc_new _ _))
  replace s0 := (hB2.cell (p := ⟨w.heap.size, 0, none⟩) hz1).trans s0
  replace s1 := (hB2.cell (p := ⟨w.heap.size, 1, none⟩) hz1).trans s1
  replace s2 := (hB2.cell (p := ⟨w.heap.size, 2, none⟩) hz1).trans s2
  have hs2 := hs1.below hB2 (Nat.le_refl _)
  replace HB1 := hide (HB1.out.trans (hB2.mono (by omega)))
  have hz1' : w.heap.size < w2.heap.size := by omega
  clear hb2 N2 hO2 hL2 hB2 hs1
  simp only [List.length_nil] at ⊢
  go_wp2_with fail
  refine (N3 _ _ _ ?_).mono ?_
  · exact hs2.below ((Below.refl _ _).alloc (Nat.le_refl _) _) (Nat.le_refl _)
  rintro e w3 ⟨v3, rfl, _, hb3⟩
  have hB3 : Below w2.heap.size w2 w3 := ((Below.refl _ w2).alloc (Nat.le_refl _) _).trans (hb3.mono (by simp))
  have hz3 : w2.heap.size < w3.heap.size := by have := hb3.size; simp at this; omega
  obtain ⟨g0, g1, g2, _⟩ := cells3 ((hb3.block w2.heap.size (by simp)).trans (heap_alloc_new _ _))
  replace s0 := (hB3.cell (p := ⟨w.heap.size, 0, none⟩) hz1').trans s0
  replace s1 := (hB3.cell (p := ⟨w.heap.size, 1, none⟩) hz1').trans s1
  replace s2 := (hB3.cell (p := ⟨w.heap.size, 2, none⟩) hz1').trans s2
  replace r0 := (hB3.cell (p := ⟨w1.heap.size, 0, none⟩) hz2).trans r0
  have hs3 := hs2.below hB3 (Nat.le_refl _)
  replace HB1 := hide (HB1.out.trans (hB3.mono (by omega)))
  clear hb3 N3 hB3 hs2 r1 r2
  go_wp2_with fail
  refine (N4 _ _ _ ?_).mono ?_
  · exact hs3
  rintro e w4 ⟨v4, rfl, _, hb4⟩
  have r0' := (hb4.cell (p := ⟨w1.heap.size, 0, none⟩) (by show w1.heap.size < _; omega)).trans r0
  have g1' := (hb4.cell (p := ⟨w2.heap.size, 1, none⟩) hz3).trans g1
  have hz4 : w2.heap.size < w4.heap.size := by have := hb4.size; omega
  have hz5 : w1.heap.size < w4.heap.size := by omega
  have hs4 := hs3.below hb4 (Nat.le_refl _)
  replace HB1 := hide (HB1.out.trans (hb4.mono (by omega)))
  clear hb4 N4 hs3 r0 g0 g1 g2 s0 s1 s2
  have hN : SlW (w4.alloc (.cells #[.int .u64 1, .int .u64 5] 25)) (.slice (some ⟨w4.heap.size, 0, none⟩) 2 2) [1, 5] :=
    sl_of_owns (base := w4.heap.size) (e := 25) (kk := .u64) (xs := [1, 5]) (World.ownsRow_lit (base := w4.heap.size) (e := 25) (size := 1) w4 #[.int .u64 1, .int .u64 5] 2 (Nat.le_refl _) (by decide) (by simp)) (by decide)
  go_wp2_with fail
  refine (N5 _ _ _ ?_ ?_).mono ?_
  · exact hs4.below ((Below.refl _ _).alloc (Nat.le_refl _) _) (Nat.le_refl _)
  · exact hN
  rintro e w5 ⟨rfl, k, rfl⟩
  go_wp2
  go_ret
  exact ⟨rfl, below_drewN (HB1.out.alloc HB1.out.size _) _⟩
end Go.Proofs.YtmiimpmfkjcjlaaGreat
