import Derived.Test.YtmiimpmfkjcjlaaGreatMo12
import Derived.Deep.DeepCutAuto
import Derived.Deep.QuietTactic
import Derived.BigQuiet
import Derived.Laws.OwnMore
namespace Go.Proofs.YtmiimpmfkjcjlaaGreat
open Go.RowKit
attribute [local go_sem] run_store_fn run_store_nilfn
set_option maxRecDepth 100000 in
set_option maxHeartbeats 4000000 in
theorem mapply_0 (n : Int) (s : Sp) (c : Cl) (A : Option Addr) (m vc : Nat) (st : List Int) (w : World) (h : SlW w (.slice A m vc) st) (hm : st.length = m) (hl : m ≤ 10000) (hR : rightM n s st = true) (ht0 : 0 ≤ c.thread) (ht1 : c.thread < n) (hk0 : 0 ≤ c.kind) (hk1 : c.kind < actsT s.kind s.p)
    (ha : U64 c.a) (hb9 : U64 c.b) (hu : ∀ z ∈ st, U64 z) :
    Calls Tryz.prog 40 #[.int .i64 n, spV s, .slice A m vc, clV c] w (ApPost n s st c w) := by
  have N0 := fun W (h : SlW W (.slice A m vc) st) => mright_any n s A m vc st W h hm (by omega)
  have NC := fun W (h : SlW W (.slice A m vc) st) => clone_any (.slice A m vc) st W h (by omega)
  have NK := fun W => tkinds_any s W
  have hA : applyM n s st c = actM n s st c := by unfold applyM; rw [if_neg (by rw [hR]; simp; omega), if_neg (by omega)]
  have HACT := hide (fun b B v W hT hO hB => mact_any n s c b B v st W hT hO hB hR (by omega) ht0 ht1 hk0 hk1 ha hb9 hu)
  have HS := hide h
  have HM := hide hm
  have HA := hide hA
  rw [hR] at N0
  have d0 : decide (c.thread < 0) = false := by simpa using ht0
  have d1 : decide (n ≤ c.thread) = false := by simpa using ht1
  have d2 : decide (c.kind < 0) = false := by simpa using hk0
  have d3 : decide (actsT s.kind s.p ≤ c.kind) = false := by simpa using hk1
  generalize actsT s.kind s.p = KK at *
  clear h hm hA hR ht0 ht1 hk0 hk1 ha hb9 hu
  go_enter Tryz.func40, Tryz.ntmps40
  go_wp2_with fail
  refine (N0 _ ?_).mono ?_
  · exact HS.out.below (appW_below w s c) (Nat.le_refl _)
  rintro e w1 ⟨rfl, hb1⟩
  have hB1 : Below (w.heap.size + 3) (appW w s c) w1 := hb1.mono (by simp)
  clear hb1
  have hba := appW_blocks w s c
  obtain ⟨s0, s1, s2, _, _, _, sz⟩ := cells3 ((hB1.block w.heap.size (by omega)).trans hba.1)
  obtain ⟨c0, c1, c2, c3, c4, c5, cz⟩ := cells6 ((hB1.block (w.heap.size + 1) (by omega)).trans hba.2.1)
  obtain ⟨r0, r1, r2, g0, g1, g2, rz⟩ := cells3 ((hB1.block (w.heap.size + 2) (by omega)).trans hba.2.2)
  have HB1 := hide hB1
  have HW1 : Hid (Below w.heap.size w w1) := hide ((appW_below w s c).trans (hB1.mono (by omega)))
  clear hba hB1
  go_wp2_with fail
  refine wp_region_seq (Below w1.heap.size w1) (.take 0 <| .take 1 <| .take 2 <| .take 3 <| .take 4 <| .take 5 <| .take 6 <| .run 7 <| .take 8 <| .take 9 <| .take 10 <| .done) (by kernel_rfl) (by kernel_rfl) (by kernel_rfl) (by (repeat' (first | exact Below.refl _ _ | assumption | refine Below.drew ?_ | refine below_drewN ?_ _ | refine Below.alloc ?_ (by simp <;> omega) _ | refine Below.setCell ?_ (by simp <;> omega) _))) ?_
  repeat (first | (refine seq_take (v := ?_) rfl (by rfl) ?_ ?_; rotate_left; (focus (intro wS hS; have z0 := (hS.cell (p := ⟨w.heap.size, 0, none⟩) sz).trans s0; have z1 := (hS.cell (p := ⟨w.heap.size, 1, none⟩) sz).trans s1; have z2 := (hS.cell (p := ⟨w.heap.size, 2, none⟩) sz).trans s2; have y0 := (hS.cell (p := ⟨w.heap.size + 1, 0, none⟩) cz).trans c0; have y1 := (hS.cell (p := ⟨w.heap.size + 1, 1, none⟩) cz).trans c1; have y2 := (hS.cell (p := ⟨w.heap.size + 1, 2, none⟩) cz).trans c2; have y3 := (hS.cell (p := ⟨w.heap.size + 1, 3, none⟩) cz).trans c3; have y4 := (hS.cell (p := ⟨w.heap.size + 1, 4, none⟩) cz).trans c4; have y5 := (hS.cell (p := ⟨w.heap.size + 1, 5, none⟩) cz).trans c5; go_simp; exact rfl)); simp only [Act.put, sqA, sqB, sqC]) | (refine seq_skip rfl (by rfl) ?_; simp only [Act.put, sqA, sqB, sqC]))
  refine seq_run rfl (by rfl) (fun K hK => ?_)
  go_simp
  refine (NK _).mono ?_
  rintro e w2 ⟨rfl, hb2⟩
  have hB2 : Below w1.heap.size w1 w2 := (Below.refl _ _).drew.trans (hb2.mono (by simp))
  refine hK _ _ hB2 ?_
  clear hK K
  repeat (first | (refine seq_take (v := ?_) rfl (by rfl) ?_ ?_; rotate_left; (focus (intro wS hS; have z0 := (hS.cell (p := ⟨w.heap.size, 0, none⟩) sz).trans s0; have z1 := (hS.cell (p := ⟨w.heap.size, 1, none⟩) sz).trans s1; have z2 := (hS.cell (p := ⟨w.heap.size, 2, none⟩) sz).trans s2; have y0 := (hS.cell (p := ⟨w.heap.size + 1, 0, none⟩) cz).trans c0; have y1 := (hS.cell (p := ⟨w.heap.size + 1, 1, none⟩) cz).trans c1; have y2 := (hS.cell (p := ⟨w.heap.size + 1, 2, none⟩) cz).trans c2; have y3 := (hS.cell (p := ⟨w.heap.size + 1, 3, none⟩) cz).trans c3; have y4 := (hS.cell (p := ⟨w.heap.size + 1, 4, none⟩) cz).trans c4; have y5 := (hS.cell (p := ⟨w.heap.size + 1, 5, none⟩) cz).trans c5; go_simp; exact rfl)); simp only [Act.put, sqA, sqB, sqC]) | (refine seq_skip rfl (by rfl) ?_; simp only [Act.put, sqA, sqB, sqC]))
  refine seq_nil ?_
  have hBx : Below (w.heap.size + 3) (appW w s c) w2 := HB1.out.trans (hB2.mono (by omega))
  have HW2 := hide (HW1.out.trans (hB2.mono (by omega)))
  clear hb2 hB2 HB1 HW1 s0 s1 s2 sz c0 c1 c2 c3 c4 c5 cz r0 r1 r2 g0 g1 g2 rz
  have hba := appW_blocks w s c
  obtain ⟨s0, s1, s2, _, _, _, sz⟩ := cells3 ((hBx.block w.heap.size (by omega)).trans hba.1)
  obtain ⟨c0, c1, c2, c3, c4, c5, cz⟩ := cells6 ((hBx.block (w.heap.size + 1) (by omega)).trans hba.2.1)
  have hz2 : w.heap.size + 3 ≤ w2.heap.size := by have := hBx.size; simpa using this
  have HBX := hide hBx
  clear hBx hba
  go_wp2_with fail
  refine wp_region_seq (Below w2.heap.size w2) (.take 0 <| .take 1 <| .take 2 <| .take 4 <| .run 3 <| .take 5 <| .run 6 <| .take 7 <| .done) (by kernel_rfl) (by kernel_rfl) (by kernel_rfl) (by (repeat' (first | exact Below.refl _ _ | assumption | refine Below.drew ?_ | refine below_drewN ?_ _ | refine Below.alloc ?_ (by simp <;> omega) _ | refine Below.setCell ?_ (by simp <;> omega) _))) ?_
  repeat (first | (refine seq_take (v := ?_) rfl (by rfl) ?_ ?_; rotate_left; (focus (intro wS hS; have z0 := (hS.cell (p := ⟨w.heap.size, 0, none⟩) sz).trans s0; have z1 := (hS.cell (p := ⟨w.heap.size, 1, none⟩) sz).trans s1; have z2 := (hS.cell (p := ⟨w.heap.size, 2, none⟩) sz).trans s2; have y0 := (hS.cell (p := ⟨w.heap.size + 1, 0, none⟩) cz).trans c0; have y1 := (hS.cell (p := ⟨w.heap.size + 1, 1, none⟩) cz).trans c1; have y2 := (hS.cell (p := ⟨w.heap.size + 1, 2, none⟩) cz).trans c2; have y3 := (hS.cell (p := ⟨w.heap.size + 1, 3, none⟩) cz).trans c3; have y4 := (hS.cell (p := ⟨w.heap.size + 1, 4, none⟩) cz).trans c4; have y5 := (hS.cell (p := ⟨w.heap.size + 1, 5, none⟩) cz).trans c5; go_simp; exact rfl)); simp only [Act.put, sqA, sqB, sqC]) | (refine seq_skip rfl (by rfl) ?_; simp only [Act.put, sqA, sqB, sqC]))
  refine seq_run rfl (by rfl) (fun K hK => ?_)
  go_simp
  refine (NC _ ?_).mono ?_
  · exact HS.out.below HW2.out.drew (Nat.le_refl _)
  rintro e w4 ⟨v4, rfl, hown, hb4⟩
  have hB4 : Below w2.heap.size w2 w4 := (Below.refl _ _).drew.trans (hb4.mono (by simp))
  have hown4 : WOwn w4 (w.heap.size + 3) v4 m st := by have h := World.ownsRow.mono (base' := w.heap.size + 3) hown (by simpa using hz2); rw [HM.out] at h; exact h
  obtain ⟨A4, c4', rfl⟩ := own_slice hown4
  refine hK _ _ hB4 ?_
  clear hK K hown hb4
  repeat (first | (refine seq_take (v := ?_) rfl (by rfl) ?_ ?_; rotate_left; (focus (intro wS hS; have z0 := (hS.cell (p := ⟨w.heap.size, 0, none⟩) sz).trans s0; have z1 := (hS.cell (p := ⟨w.heap.size, 1, none⟩) sz).trans s1; have z2 := (hS.cell (p := ⟨w.heap.size, 2, none⟩) sz).trans s2; have y0 := (hS.cell (p := ⟨w.heap.size + 1, 0, none⟩) cz).trans c0; have y1 := (hS.cell (p := ⟨w.heap.size + 1, 1, none⟩) cz).trans c1; have y2 := (hS.cell (p := ⟨w.heap.size + 1, 2, none⟩) cz).trans c2; have y3 := (hS.cell (p := ⟨w.heap.size + 1, 3, none⟩) cz).trans c3; have y4 := (hS.cell (p := ⟨w.heap.size + 1, 4, none⟩) cz).trans c4; have y5 := (hS.cell (p := ⟨w.heap.size + 1, 5, none⟩) cz).trans c5; go_simp; exact rfl)); simp only [Act.put, sqA, sqB, sqC]) | (refine seq_skip rfl (by rfl) ?_; simp only [Act.put, sqA, sqB, sqC]))
  refine seq_run rfl (by rfl) (fun K hK => ?_)
  go_simp
  refine hK _ _ (hB4.alloc hB4.size _) ?_
  clear hK K
  repeat (first | (refine seq_take (v := ?_) rfl (by rfl) ?_ ?_; rotate_left; (focus (intro wS hS; have z0 := (hS.cell (p := ⟨w.heap.size, 0, none⟩) sz).trans s0; have z1 := (hS.cell (p := ⟨w.heap.size, 1, none⟩) sz).trans s1; have z2 := (hS.cell (p := ⟨w.heap.size, 2, none⟩) sz).trans s2; have y0 := (hS.cell (p := ⟨w.heap.size + 1, 0, none⟩) cz).trans c0; have y1 := (hS.cell (p := ⟨w.heap.size + 1, 1, none⟩) cz).trans c1; have y2 := (hS.cell (p := ⟨w.heap.size + 1, 2, none⟩) cz).trans c2; have y3 := (hS.cell (p := ⟨w.heap.size + 1, 3, none⟩) cz).trans c3; have y4 := (hS.cell (p := ⟨w.heap.size + 1, 4, none⟩) cz).trans c4; have y5 := (hS.cell (p := ⟨w.heap.size + 1, 5, none⟩) cz).trans c5; go_simp; exact rfl)); simp only [Act.put, sqA, sqB, sqC]) | (refine seq_skip rfl (by rfl) ?_; simp only [Act.put, sqA, sqB, sqC]))
  refine seq_nil ?_
  have hz4 : w2.heap.size ≤ w4.heap.size := hB4.size
  have hTh : ThAt (w4.alloc (.cells (thC n s (.slice A4 m c4') c) 146)) w4.heap.size n s (.slice A4 m c4') c := heap_alloc_new _ _
  have N5 := HACT.out w4.heap.size (w.heap.size + 3) (.slice A4 m c4') _ hTh (by rw [HM.out]; exact World.ownsRow.alloc hown4 _) (by simp; omega)
  obtain ⟨R, hR⟩ : ∃ R, R = actM n s st c := ⟨_, rfl⟩
  rw [← hR] at N5
  have HR := hide hR
  unfold thC at N5
  have HBX4 : Hid (Below (w.heap.size + 3) (appW w s c) w4) := hide (HBX.out.trans (hB4.mono (by omega)))
  clear hR hTh hown4 hB4 s0 s1 s2 sz c0 c1 c2 c3 c4 c5 cz
  go_wp2_with fail
  refine N5.mono ?_
  rintro e w5 ⟨v5, L5, rfl, hT5, hO5, hL5, hk5⟩
  obtain ⟨st', ⟨E, V, l⟩⟩ := R
  simp only [] at hO5 hL5 ⊢
  obtain ⟨A5, c5', rfl⟩ := own_slice hO5
  obtain ⟨B5, d5', rfl⟩ := own_slice hL5
  have hB5 : Below (w.heap.size + 3) (appW w s c) w5 := HBX4.out.trans ((((Below.refl _ w4).alloc (Nat.le_refl _) _).mono (by omega)).trans (hk5.below (fun k hk => ⟨by simp; omega, by omega⟩)))
  obtain ⟨r0, r1, r2, g0, g1, g2, rz⟩ := cells3 ((hB5.block (w.heap.size + 2) (by omega)).trans (appW_blocks w s c).2.2)
  obtain ⟨_, _, _, _, t4, _, _, _, _, _, _, _, tb⟩ := hT5.cells
  have HO5 := hide hO5
  have HL5 := hide hL5
  have HW5 := hide ((appW_below w s c).trans (hB5.mono (by omega)))
  obtain ⟨b, hbq⟩ : ∃ b, b = w4.heap.size := ⟨_, rfl⟩
  rw [← hbq] at t4 tb ⊢
  have hbr : w.heap.size + 2 < b := by omega
  clear hO5 hL5 hk5 hT5 hB5 hbq
  go_wp2_with fail
  refine wp_region_seql (Below (w5.heap.size + 1) (w5.alloc (.cells #[.int .i64 E, .int .u64 V, .slice B5 l.length d5'] 57))) [6] (.take 0 <| .take 1 <| .take 2 <| .take 3 <| .take 4 <| .take 5 <| .run 6 <| .done) (by kernel_rfl) (by kernel_rfl) (by kernel_rfl) ((Below.refl _ _).drew) ?_
  repeat (refine seql_take (v := ?_) rfl (by rfl) ?_ ?_; rotate_left; (focus (intro wS hS; have z4 := hS.cell (p := ⟨b, 4, none⟩) (by show b < _; omega); have y0 := hS.cell (p := ⟨w5.heap.size, 0, none⟩) (by show w5.heap.size < _; omega); have y1 := hS.cell (p := ⟨w5.heap.size, 1, none⟩) (by show w5.heap.size < _; omega); have y2 := hS.cell (p := ⟨w5.heap.size, 2, none⟩) (by show w5.heap.size < _; omega); go_simp; exact rfl)); simp only [Act.put, sqA, sqB, sqC])
  refine seql_late rfl rfl (by rfl) (fun K hK => ?_)
  go_simp
  refine hK _ _ ?_
  clear hK K
  refine seql_nil ?_
  go_wp2
  refine bodyPost_ret (v := .tuple #[.slice A5 st'.length c5', .agg #[.int .i64 E, .int .u64 V, .slice B5 l.length d5']]) (by simp [results, Tryz.results40, go_sem, *]) rfl ?_
  unfold ApPost
  rw [HA.out, ← HR.out]
  have hKK : ∀ X, Keep (fun j => j < w5.heap.size ∧ j ≠ w.heap.size + 2) w5 X → (∃ v L, Ending.returned (.tuple #[.slice A5 st'.length c5', .agg #[.int .i64 E, .int .u64 V, .slice B5 l.length d5']]) = .returned (.tuple #[v, .agg #[.int .i64 E, .int .u64 V, L]]) ∧ WOwn X w.heap.size v st'.length st' ∧ WOwn X w.heap.size L l.length l ∧ Below w.heap.size w X) := fun X hX =>
    ⟨_, _, rfl, owns_base (owns_keepB HO5.out hX (fun j hj hl => ⟨hl, by omega⟩)) (by omega), owns_base (owns_keepB HL5.out hX (fun j hj hl => ⟨hl, by omega⟩)) (by omega), HW5.out.trans (hX.below (fun k hk => ⟨by omega, by omega⟩))⟩
  refine hKK _ ?_
  repeat' (first | exact Keep.refl _ _ | refine Keep.setCell ?_ (by simp) _ | refine Keep.drew ?_ | refine Keep.alloc ?_ (by intro k hk; have := hk.1; first | omega | (simp; omega)) _)
theorem mapply_any (n : Int) (s : Sp) (c : Cl) (A : Option Addr) (m vc : Nat) (st : List Int) (w : World) (h : SlW w (.slice A m vc) st) (hm : st.length = m) (hl : m ≤ 10000) (ha : U64 c.a) (hb9 : U64 c.b) (hu : ∀ z ∈ st, U64 z) :
    Calls Tryz.prog 40 #[.int .i64 n, spV s, .slice A m vc, clV c] w (ApPost n s st c w) := by
  by_cases hR : rightM n s st = true
  · by_cases ht : 0 ≤ c.thread ∧ c.thread < n
    · by_cases hk : 0 ≤ c.kind ∧ c.kind < actsT s.kind s.p
      · exact mapply_0 n s c A m vc st w h hm hl hR ht.1 ht.2 hk.1 hk.2 ha hb9 hu
      · exact mapply_9 n s c A m vc st w h hm hl hR ht.1 ht.2 hk
    · exact mapply_1 n s c A m vc st w h hm hl (Or.inr ht)
  · exact mapply_1 n s c A m vc st w h hm hl (Or.inl (by simpa using hR))
end Go.Proofs.YtmiimpmfkjcjlaaGreat

namespace Go.Proofs.YtmiimpmfkjcjlaaGreat
open Go.RowKit
set_option maxHeartbeats 1000000 in
theorem equal_any (v1 v2 : Value) (xs ys : List Int) (w : World) (h1 : SlW w v1 xs) (h2 : SlW w v2 ys) :
    Calls Tryz.prog 80 #[v1, v2] w fun e w' => e = .returned (.bool (decide (xs = ys))) ∧ ∃ n, w' = w.drewN n := by
  obtain ⟨A, cA, rfl, a1, a2, a3⟩ := h1
  obtain ⟨B, cB, rfl, b1, b2, b3⟩ := h2
  have hlx : (xs.length : Int) ≤ 9223372036854775807 := by unfold maxLen at a2; omega
  by_cases hl : xs.length = ys.length
  · have hl1 : ((xs.length : Int) != (ys.length : Int)) = false := by simp [hl]
    have hl2 : ((xs.length : Int) == (ys.length : Int)) = true := by simp [hl]
    have HL := hide hl
    clear hl
    obtain ⟨R, hR⟩ : ∃ R, decide (xs = ys) = R := ⟨_, rfl⟩
    have HR := hide hR
    rw [hR]
    clear hR
    go_enter Tryz.func80, Tryz.ntmps80
    go_wp2
    go_loopw [13] (fun i wr => ∃ k : Nat, k ≤ xs.length ∧ i = .int .i64 k ∧ Hid (∀ j, j < k → xs[j]? = ys[j]?) ∧ Hid (∃ n, wr = w.drewN n)) (fun i _ => xs.length - (intOf i).toNat)
    case atStart => exact ⟨0, Nat.zero_le _, rfl, hide (fun j hj => by omega), hide ⟨0, rfl⟩⟩
    case round =>
      obtain ⟨k, hk, rfl, hok, hn⟩ := hrel
      obtain ⟨n, rfl⟩ := hn.out
      clear hn
      by_cases hlt : k < xs.length
      · obtain ⟨x, hx⟩ : ∃ x, xs[k]? = some x := ⟨_, List.getElem?_eq_getElem hlt⟩
        obtain ⟨y, hy⟩ : ∃ y, ys[k]? = some y := ⟨_, List.getElem?_eq_getElem (by have := HL.out; omega)⟩
        obtain ⟨b, o, rfl, hb, hc⟩ := a3 k x hx
        obtain ⟨b', o', rfl, hb', hc'⟩ := b3 k y hy
        have c1 := nt_cell hc
        have c2 := nt_cell hc'
        simp only [Nat.mul_one] at c1 c2
        have q0 : (0 : Int) ≤ (k : Int) := by omega
        have q1 : (k : Int) < (xs.length : Int) := by omega
        have q2 : (k : Int) < (ys.length : Int) := by have := HL.out; omega
        clear a3 b3 hc hc'
        by_cases hxy : x = y
        · have e1 : (x == y) = true := by simp [hxy]
          have e2 : (x != y) = false := by simp [hxy]
          have HN := hide (show xs[k]? = ys[k]? by rw [hx, hy, hxy])
          clear hx hy hxy
          go_wp2
          go_quiet (fail)
          go_wp2
          go_roundw
          case rel => exact ⟨k + 1, by omega, by go_num, hide (fun j hj => by by_cases h : j = k; (subst h; exact HN.out); exact hok.out j (by omega)), hide ⟨_, rfl⟩⟩
          case measure => simp [intOf] <;> omega
        · have e1 : (x == y) = false := by simp [hxy]
          have e2 : (x != y) = true := by simp [hxy]
          have HF : Hid (false = R) := by
            show _ = _
            rw [← HR.out, eq_comm, decide_eq_false_iff_not]
            intro he
            subst he
            rw [hx] at hy
            exact hxy (Option.some.inj hy)
          clear hx hy hxy hok
          go_wp2
          go_quiet (fail)
          go_wp2
          go_ret
          exact ⟨ret_bool HF.out, _, World.drewN_drewN _ _ _⟩
      · go_wp2
        go_ret
        refine ⟨ret_bool ?_, n, rfl⟩
        rw [← HR.out, eq_comm, decide_eq_true_eq]
        exact list_ext_of HL.out (fun j hj => hok.out j (by omega))
  · have hl1 : ((xs.length : Int) != (ys.length : Int)) = true := by simp; omega
    have hl2 : ((xs.length : Int) == (ys.length : Int)) = false := by simp; omega
    have HF : Hid (decide (xs = ys) = false) := by show _ = _; simp; intro he; exact hl (by rw [he])
    rw [HF.out]
    clear hl a3 b3
    go_enter Tryz.func80, Tryz.ntmps80
    go_wp2
    go_ret
    exact ⟨rfl, 0, rfl⟩
theorem own_succ {st : List Int} {t x : Int} {k : Nat} (h : st[2 * k]? = some x) : ownM st t (k + 1) = ownM st t k + if x = t then 1 else 0 := by
  show ownM st t k + _ = _
  unfold at0
  rw [h]
  rfl
theorem own_le (st : List Int) (t : Int) : ∀ k, ownM st t k ≤ k
  | 0 => Nat.le_refl _
  | k + 1 => by
    have := own_le st t k
    show ownM st t k + _ ≤ k + 1
    split <;> omega
set_option maxRecDepth 100000 in
set_option maxHeartbeats 1000000 in
theorem mown_any (t : Int) (A : Option Addr) (m vc : Nat) (st : List Int) (w : World) (h : SlW w (.slice A m vc) st) (hm : st.length = m) (hl : m ≤ 10000) (he : m % 2 = 0) (ht0 : 0 ≤ t) (ht1 : t < 100) :
    Calls Tryz.prog 81 #[.slice A m vc, .int .i64 t] w fun e w' => e = .returned (.int .i64 (ownN st t)) ∧ w' = w := by
  have hm63 : (m : Int) ≤ 10000 := by omega
  have hwt : IntKind.u64.wrap t = t := by rw [IntKind.wrap_u64]; omega
  have HS := hide h
  have HM := hide hm
  obtain ⟨E, hE⟩ : ∃ E, ownN st t = E := ⟨_, rfl⟩
  rw [hE]
  have HE := hide hE
  clear h hm hE
  go_enter Tryz.func81, Tryz.ntmps81
  go_wp2
  go_loopw [5, 6] (fun c i wr => ∃ k : Nat, 2 * k ≤ m ∧ i = .int .i64 (2 * (k : Int)) ∧ c = .int .i64 (ownM st t k : Nat) ∧ wr = w) (fun _ i _ => m - (intOf i).toNat)
  case atStart => exact ⟨0, Nat.zero_le _, rfl, rfl, rfl⟩
  case round =>
    obtain ⟨k, hk, rfl, rfl, rfl⟩ := hrel
    by_cases hlt : 2 * k < m
    · obtain ⟨x, hx⟩ : ∃ x, st[2 * k]? = some x := ⟨_, List.getElem?_eq_getElem (by have := HM.out; omega)⟩
      obtain ⟨sb, so, rfl, cx, hsb⟩ := sl_at HS.out (2 * k) x hx
      have hs := own_succ (t := t) hx
      have hle := own_le st t k
      have q0 : (0 : Int) ≤ 2 * (k : Int) := by omega
      have q1 : 2 * (k : Int) < (m : Int) := by omega
      have q2 : (2 * (k : Int)).toNat = 2 * k := by omega
      have q3 : ((ownM st t k : Nat) : Int) ≤ 10000 := by omega
      by_cases hxt : x = t
      · have d0 : (x == t) = true := by simpa using hxt
        rw [if_pos hxt] at hs
        have HSu := hide hs
        clear hx hs hxt
        go_wp2
        go_roundw
        case rel => exact ⟨k + 1, by omega, by first | (congr 1; done) | (congr 1; omega) | (congr 1; push_cast; omega), by rw [HSu.out]; first | (congr 1; done) | (congr 1; omega) | (congr 1; push_cast; omega), trivial⟩
        case measure => simp [intOf] <;> omega
      · have d0 : (x == t) = false := by simpa using hxt
        rw [if_neg hxt] at hs
        have HSu := hide hs
        clear hx hs hxt
        go_wp2
        go_roundw
        case rel => exact ⟨k + 1, by omega, by first | (congr 1; done) | (congr 1; omega) | (congr 1; push_cast; omega), by rw [HSu.out]; first | rfl | (congr 1; done) | (congr 1; omega), trivial⟩
        case measure => simp [intOf] <;> omega
    · have hk2 : k = m / 2 := by omega
      have hE2 : E = ownM st t k := by rw [← HE.out]; unfold ownN; rw [HM.out, hk2]
      subst hE2
      have q1 : ¬ 2 * (k : Int) < (m : Int) := by omega
      go_wp2
      go_ret
      exact ⟨rfl, rfl⟩
end Go.Proofs.YtmiimpmfkjcjlaaGreat

namespace Go.Proofs.YtmiimpmfkjcjlaaGreat
open Go.RowKit
attribute [local go_sem] run_store_fn run_store_nilfn
def Tw (w : World) (u : Value) : Prop := ∀ A n c, u = .slice A n c → ∀ a, A = some a → ∃ cs fr, w.heap[a.block]? = some (.cells cs 25 fr)
theorem tw_own {w : World} {B m : Nat} {v : Value} {l : List Value} (h : w.ownsRow B 25 1 v m l) : Tw w v := by
  intro A n c e a ha
  rcases h.2 with ⟨rfl, _⟩ | ⟨g, cap, cur, rfl, _, hg, _⟩
  · cases e; cases ha
  · cases e; cases ha
    exact ⟨_, _, hg⟩
theorem tw_none (w : World) (n c : Nat) : Tw w (.slice none n c) := by
  intro A n' c' e a ha
  cases e; cases ha
theorem Tw.keep {S : Nat → Prop} {w w' : World} {u : Value} (h : Tw w u) (hk : Keep S w w') (hS : ∀ j cs fr, w.heap[j]? = some (.cells cs 25 fr) → S j) : Tw w' u := by
  intro A n c e a ha
  obtain ⟨cs, fr, hb⟩ := h A n c e a ha
  exact ⟨cs, fr, (hk.block _ (hS _ _ _ hb)).trans hb⟩
theorem sl_keepT {S : Nat → Prop} {w w' : World} {u : Value} {l : List Int} (h : SlW w u l) (ht : Tw w u) (hk : Keep S w w') (hS : ∀ j cs fr, w.heap[j]? = some (.cells cs 25 fr) → S j) : SlW w' u l := by
  obtain ⟨A, c, rfl, h1, h2, h3⟩ := h
  refine ⟨A, c, rfl, h1, h2, fun k x hx => ?_⟩
  obtain ⟨b, o, hA, hlt, hc⟩ := h3 k x hx
  obtain ⟨cs, fr, hb⟩ := ht _ _ _ rfl _ hA
  exact ⟨b, o, hA, Nat.lt_of_lt_of_le hlt hk.size, hc.of_block (hk.block b (hS _ _ _ hb))⟩
def RPost (B : Nat) (R : List Int × An) (w : World) (e : Ending) (w' : World) : Prop :=
  ∃ v L, e = .returned (.tuple #[v, .agg #[.int .i64 R.2.err, .int .u64 R.2.val, L]]) ∧ SlW w' v R.1 ∧ SlW w' L R.2.list ∧ Below B w w' ∧ Tw w' v ∧ Tw w' L
theorem slw_none (w : World) : SlW w (.slice none 0 0) [] := ⟨none, 0, rfl, Nat.le_refl _, Nat.zero_le _, by intro k x h; simp at h⟩
theorem wo_parts {w : World} {B m : Nat} {x : Value} {st : List Int} (hO : WOwn w B x m st) (hm : 0 < m) : ∃ g cap, x = .slice (some ⟨g, 0, none⟩) m cap ∧ B ≤ g ∧ g < w.heap.size ∧ st.length = m ∧ m ≤ maxLen ∧ ∀ j, w.frozen? ⟨g, j, none⟩ = false := by
  have hl : st.length = m := by have := own_len hO; simpa using this
  have h0 := hO
  rcases hO.2 with ⟨_, h⟩ | ⟨g, cap, cur, rfl, hb, hg, hnc, hcm, _, _⟩
  · omega
  · exact ⟨g, cap, rfl, hb, (Array.getElem?_eq_some_iff.1 hg).1, hl, by omega, fun j => World.ownsRow.frozenAt h0 j⟩
theorem wo_cell {w : World} {B g m cap j : Nat} {y : Int} {st : List Int} (hO : WOwn w B (.slice (some ⟨g, 0, none⟩) m cap) m st) (hy : st[j]? = some y) : w.cell? ⟨g, j, none⟩ = some (.int .u64 y) := by
  have hs := wrow_sl (show WRow w B (.slice (some ⟨g, 0, none⟩) m cap) st from by
    have hl : st.length = m := by have := own_len hO; simpa using this
    unfold WRow; rw [hl]; exact hO) (by
    have hl : st.length = m := by have := own_len hO; simpa using this
    rcases hO.2 with ⟨h, _⟩ | ⟨_, _, _, h, _, _, h1, h2, _, _⟩
    · cases h
    · omega)
  obtain ⟨b, o, e, c, _⟩ := sl_at hs j y hy
  cases e
  simpa using c
theorem ra_keep {w w' : World} {B g m cap : Nat} {st : List Int} (hO : WOwn w B (.slice (some ⟨g, 0, none⟩) m cap) m st) (hB : B ≤ w.heap.size) (hk : Keep (fun k => k < w.heap.size) w w') :
    WOwn w' B (.slice (some ⟨g, 0, none⟩) m cap) m st ∧ Below B w w' :=
  ⟨owns_keepB hO hk (fun j _ hj => hj), hk.below (fun k hk => by omega)⟩
theorem ra_set {w w' : World} {B g m cap j : Nat} {st : List Int} {y : Int} (hO : WOwn w B (.slice (some ⟨g, 0, none⟩) m cap) m st) (_hB : B ≤ w.heap.size) (hBg : B ≤ g) (hg : g < w.heap.size)
    (h' : Keep (fun k => k < w.heap.size) (w.setCell ⟨g, j, none⟩ (.int .u64 y)) w') : WOwn w' B (.slice (some ⟨g, 0, none⟩) m cap) m (st.set j y) ∧ Below B w w' := by
  have h2 := (World.ownsRow.stored hO j (.int .u64 y)).1
  have hk : Keep (fun k => k < B) w w' := ((Keep.refl _ w).setCell (by show ¬ g < B; omega) _).trans (h'.mono (fun k hk => by omega))
  refine ⟨?_, hk.below (fun k hk => hk)⟩
  unfold WOwn
  rw [List.map_set]
  obtain ⟨q1, ⟨q2, _⟩ | ⟨g', cap', cur, e1, e2, e3, e4, e5, e6, e7⟩⟩ := h2
  · cases q2
  · cases e1
    exact ⟨q1, Or.inr ⟨g, cap, cur, rfl, e2, (h'.block g hg).trans e3, e4, e5, e6, e7⟩⟩
theorem ra_same {w w' : World} {B g m cap : Nat} {st : List Int} {E V : Int} (hO : WOwn w B (.slice (some ⟨g, 0, none⟩) m cap) m st) (hl : st.length = m) (hmx : m ≤ maxLen) (hB : B ≤ w.heap.size) (h' : Keep (fun k => k < w.heap.size) w w') :
    RPost B (st, ⟨E, V, []⟩) w (.returned (.tuple #[.slice (some ⟨g, 0, none⟩) m cap, .agg #[.int .i64 E, .int .u64 V, .slice none 0 0]])) w' := by
  obtain ⟨h1, h2⟩ := ra_keep hO hB h'
  exact ⟨_, _, rfl, wrow_sl (show WRow _ B _ st from by unfold WRow; rw [hl]; exact h1) (by rw [hl]; exact hmx), slw_none _, h2, tw_own h1, tw_none _ _ _⟩
theorem ra_put {w w' : World} {B g m cap j : Nat} {st : List Int} {E V y : Int} (hO : WOwn w B (.slice (some ⟨g, 0, none⟩) m cap) m st) (hl : st.length = m) (hmx : m ≤ maxLen) (hB : B ≤ w.heap.size) (hBg : B ≤ g) (hg : g < w.heap.size)
    (h' : Keep (fun k => k < w.heap.size) (w.setCell ⟨g, j, none⟩ (.int .u64 y)) w') :
    RPost B (st.set j y, ⟨E, V, []⟩) w (.returned (.tuple #[.slice (some ⟨g, 0, none⟩) m cap, .agg #[.int .i64 E, .int .u64 V, .slice none 0 0]])) w' := by
  obtain ⟨h1, h2⟩ := ra_set hO hB hBg hg h'
  have hl' : (st.set j y).length = m := by rw [List.length_set]; exact hl
  exact ⟨_, _, rfl, wrow_sl (show WRow _ B _ (st.set j y) from by unfold WRow; rw [hl']; exact h1) (by rw [hl']; exact hmx), slw_none _, h2, tw_own h1, tw_none _ _ _⟩
set_option maxRecDepth 100000 in
set_option maxHeartbeats 2000000 in
theorem radder_any (s : Sp) (c : Cl) (B m : Nat) (v : Value) (st : List Int) (w : World) (hO : WOwn w B v m st) (hm : 0 < m) (hB : B ≤ w.heap.size) (hs : s.kind = 3) :
    Calls Tryz.prog 86 #[v, clV c] w (RPost B (if ¬ (0 ≤ c.kind ∧ c.kind < 3) then (st, anE 9) else numM s st c) w) := by
  obtain ⟨g, cap, rfl, hBg, hg, hl, hmx, hf⟩ := wo_parts hO hm
  have hm1 : (0 : Int) < (m : Int) := by omega
  have hm2 : (m : Int) ≤ 9223372036854775807 := by unfold maxLen at hmx; omega
  obtain ⟨x, hx⟩ : ∃ x, st[0]? = some x := ⟨_, List.getElem?_eq_getElem (by omega)⟩
  have hat : at0 st 0 = x := by unfold at0; rw [hx]; rfl
  have c0 := wo_cell hO hx
  have f0 := hf 0
  have HO := hide hO
  have HL := hide hl
  clear hO hl hf
  rcases (by omega : c.kind = 0 ∨ c.kind = 1 ∨ c.kind = 2 ∨ ¬ (0 ≤ c.kind ∧ c.kind < 3)) with hk | hk | hk | hk
  · clear hm
    have hR : (if ¬ (0 ≤ c.kind ∧ c.kind < 3) then (st, anE 9) else numM s st c) = (st.set 0 (IntKind.u64.wrap (x + c.a)), ⟨0, x, []⟩) := by
      unfold numM
      rw [if_neg (by omega), if_neg (by omega), if_neg (by omega), if_neg (by omega), hat, IntKind.wrap_u64]
      rfl
    rw [hR]
    clear hR hat hx
    have d0 : (c.kind == 0) = true := by simpa using hk
    clear hk
    go_enter Tryz.func86, Tryz.ntmps86
    go_wp2
    refine bodyPost_ret (v := .tuple #[.slice (some ⟨g, 0, none⟩) m cap, .agg #[.int .i64 0, .int .u64 x, .slice none 0 0]]) (by simp [results, Tryz.results86, go_sem, *]) rfl ?_
    refine ra_put HO.out HL.out hmx hB hBg hg ?_
    (repeat' (first | exact Keep.refl _ _ | refine Keep.alloc ?_ (fun k (hk : k < w.heap.size) => by first | exact hk | (simp; omega)) _ | refine Keep.setCell ?_ (by simp) _ | refine Keep.drew ?_))
  · clear hm
    have hR : (if ¬ (0 ≤ c.kind ∧ c.kind < 3) then (st, anE 9) else numM s st c) = (st, ⟨0, x, []⟩) := by
      unfold numM
      rw [if_neg (by omega), if_pos hk, hat]
      rfl
    rw [hR]
    clear hR hat hx
    have d0 : (c.kind == 0) = false := by simp; omega
    have d1 : (c.kind == 1) = true := by simpa using hk
    clear hk
    go_enter Tryz.func86, Tryz.ntmps86
    go_wp2
    refine bodyPost_ret (v := .tuple #[.slice (some ⟨g, 0, none⟩) m cap, .agg #[.int .i64 0, .int .u64 x, .slice none 0 0]]) (by simp [results, Tryz.results86, go_sem, *]) rfl ?_
    refine ra_same HO.out HL.out hmx hB ?_
    (repeat' (first | exact Keep.refl _ _ | refine Keep.alloc ?_ (fun k (hk : k < w.heap.size) => by first | exact hk | (simp; omega)) _ | refine Keep.setCell ?_ (by simp) _ | refine Keep.drew ?_))
  · clear hm
    have hR : (if ¬ (0 ≤ c.kind ∧ c.kind < 3) then (st, anE 9) else numM s st c) = (st.set 0 (IntKind.u64.wrap (x + 1)), ⟨0, x, []⟩) := by
      unfold numM
      rw [if_neg (by omega), if_neg (by omega), if_neg (by omega), if_pos hk, hat, IntKind.wrap_u64]
      rfl
    rw [hR]
    clear hR hat hx
    have d0 : (c.kind == 0) = false := by simp; omega
    have d1 : (c.kind == 1) = false := by simp; omega
    have d2 : (c.kind == 2) = true := by simpa using hk
    clear hk
    go_enter Tryz.func86, Tryz.ntmps86
    go_wp2
    refine bodyPost_ret (v := .tuple #[.slice (some ⟨g, 0, none⟩) m cap, .agg #[.int .i64 0, .int .u64 x, .slice none 0 0]]) (by simp [results, Tryz.results86, go_sem, *]) rfl ?_
    refine ra_put HO.out HL.out hmx hB hBg hg ?_
    (repeat' (first | exact Keep.refl _ _ | refine Keep.alloc ?_ (fun k (hk : k < w.heap.size) => by first | exact hk | (simp; omega)) _ | refine Keep.setCell ?_ (by simp) _ | refine Keep.drew ?_))
  · clear hm
    have hR : (if ¬ (0 ≤ c.kind ∧ c.kind < 3) then (st, anE 9) else numM s st c) = (st, ⟨9, 0, []⟩) := by
      rw [if_pos hk]
      rfl
    rw [hR]
    clear hR hat hx
    have d0 : (c.kind == 0) = false := by simp; omega
    have d1 : (c.kind == 1) = false := by simp; omega
    have d2 : (c.kind == 2) = false := by simp; omega
    clear hk
    go_enter Tryz.func86, Tryz.ntmps86
    go_wp2
    refine bodyPost_ret (v := .tuple #[.slice (some ⟨g, 0, none⟩) m cap, .agg #[.int .i64 9, .int .u64 0, .slice none 0 0]]) (by simp [results, Tryz.results86, go_sem, *]) rfl ?_
    refine ra_same HO.out HL.out hmx hB ?_
    (repeat' (first | exact Keep.refl _ _ | refine Keep.alloc ?_ (fun k (hk : k < w.heap.size) => by first | exact hk | (simp; omega)) _ | refine Keep.setCell ?_ (by simp) _ | refine Keep.drew ?_))
end Go.Proofs.YtmiimpmfkjcjlaaGreat
