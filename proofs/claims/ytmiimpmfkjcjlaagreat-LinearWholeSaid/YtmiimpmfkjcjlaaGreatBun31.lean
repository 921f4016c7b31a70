import Derived.Test.YtmiimpmfkjcjlaaGreatBun30
import Derived.Test.YtmiimpmfkjcjlaaGreatLr4
import Derived.Test.YtmiimpmfkjcjlaaGreatBun18
import Derived.Test.YtmiimpmfkjcjlaaGreatBun25
namespace Go.Proofs.YtmiimpmfkjcjlaaGreat
open Go.RowKit
theorem sln_at {w : World} {A : Option Addr} {m c : Nat} {L : List Nat} {j x : Nat} (h : SlI w (.slice A m c) (ordI L)) (hx : L[j]? = some x) : ∃ g o, A = some ⟨g, o, none⟩ ∧ g < w.heap.size ∧ w.cell? ⟨g, o + j, none⟩ = some (.int .i64 (x : Int)) := by
  obtain ⟨A9, c9, e9, _, _, f3⟩ := h
  obtain ⟨gn, on, e8, hgn, hcn⟩ := f3 j (x : Int) (by simp [ordI, hx])
  injection e9 with e1 e2 e3
  refine ⟨gn, on, e1.trans e8, hgn, ?_⟩
  have c0 := nt_cell hcn
  simpa only [Nat.mul_one] using c0
theorem ahead_ord {es : List Ev} {ky : Nat → List Int} {L : List Nat} (hL : IsOrd ky es.length L) : aheadK es ky = true ↔ ∀ (a b x y : Nat), L[a]? = some x → L[b]? = some y → okAh es ky x y = true := by
  constructor
  · intro h a b x y hx hy
    refine Classical.byContradiction fun hn => ?_
    have h1 := (hL.2 x).1 (List.mem_of_getElem? hx)
    have h2 := (hL.2 y).1 (List.mem_of_getElem? hy)
    rw [aheadK_no h1.1 h2.1 (by simpa using hn)] at h
    cases h
  · intro h
    refine aheadK_yes (fun i hi k hk => ?_)
    by_cases n1 : ky i = []
    · unfold okAh; rw [n1]; simp
    by_cases n2 : ky k = []
    · unfold okAh; rw [n2]; simp
    obtain ⟨a, ha, ea⟩ := List.getElem_of_mem ((hL.2 i).2 ⟨hi, n1⟩)
    obtain ⟨b, hb, eb⟩ := List.getElem_of_mem ((hL.2 k).2 ⟨hk, n2⟩)
    exact h a b i k (by rw [List.getElem?_eq_getElem ha, ea]) (by rw [List.getElem?_eq_getElem hb, eb])
set_option maxRecDepth 100000 in
set_option maxHeartbeats 4000000 in
theorem linAhead_any (v : Value) (es : List Ev) (ky : Nat → List Int) (w : World) (h : EvKey w v es ky) (hm : es.length ≤ 100000) :
    Calls Tryz.prog 56 #[v] w fun e w' => e = .returned (.bool (aheadK es ky)) ∧ Below w.heap.size w w' := by
  have N1 := linOrder_any v es ky w h hm
  obtain ⟨A, cap, rfl, h1, h2, h3⟩ := id h.evs
  have hlen : (es.length : Int) ≤ 9223372036854775807 := by unfold maxLen at h2; omega
  have HK := hide h
  have HM := hide hm
  obtain ⟨R, hR⟩ : ∃ R, aheadK es ky = R := ⟨_, rfl⟩
  rw [hR]
  have HR := hide hR
  clear h hR hm
  go_enter Tryz.func56, Tryz.ntmps56
  go_wp2_with fail
  refine N1.mono ?_
  rintro e w1 ⟨A1, c1, L, rfl, hL, hO, hb1, _⟩
  have HO := hide (ahead_ord hO)
  have HMem : Hid (∀ x ∈ L, x < es.length ∧ ky x ≠ []) := hide (fun x hx => (hO.2 x).1 hx)
  obtain ⟨n, hn⟩ : ∃ n, L.length = n := ⟨_, rfl⟩
  obtain ⟨hna, hnb⟩ : L.length ≤ c1 ∧ c1 ≤ maxLen := by obtain ⟨A9, c9, e9, f1, f2, _⟩ := hL; injection e9 with _ e2 e3; rw [e3]; rw [← e2] at f1; exact ⟨f1, f2⟩
  rw [hn] at hL hna ⊢
  have HL := hide hL
  have HN := hide hn
  have HB1 := hide hb1
  unfold maxLen at hnb
  clear hL hO hb1 N1 hn
  go_wp2
  go_loopw [12] (fun i wr => ∃ k : Nat, k ≤ n ∧ i = .int .i64 k ∧ Hid (∀ a : Nat, a < k → ∀ b x y : Nat, L[a]? = some x → L[b]? = some y → okAh es ky x y = true) ∧ Hid (Below w1.heap.size w1 wr)) (fun i _ => n - (intOf i).toNat)
  case atStart => exact ⟨0, Nat.zero_le _, rfl, hide (fun a ha => by omega), hide (Below.refl _ _)⟩
  case round =>
    obtain ⟨i, hi, rfl, hout, hBo⟩ := hrel
    obtain ⟨wo, rfl⟩ : ∃ wo : World, wo = wr := ⟨_, rfl⟩
    by_cases hlt : i < n
    · have hlt63 : (i : Int) < (n : Int) := by omega
      have p0 : (0 : Int) ≤ (i : Int) := by omega
      obtain ⟨x, hx⟩ : ∃ x, L[i]? = some x := ⟨_, List.getElem?_eq_getElem (by have := HN.out; omega)⟩
      obtain ⟨gl, ol, rfl, hgl, cx⟩ := sln_at HL.out hx
      replace cx := (hBo.out.cell (p := ⟨gl, ol + i, none⟩) hgl).trans cx
      have hxm := (HMem.out x (List.mem_of_getElem? hx)).1
      have HX := hide hx
      clear hx
      go_wp2
      go_loopw [18] (fun c wr => ∃ k : Nat, k ≤ n ∧ c = .int .i64 k ∧ Hid (∀ b : Nat, b < k → ∀ y : Nat, L[b]? = some y → okAh es ky x y = true) ∧ Hid (Below w1.heap.size w1 wr)) (fun c _ => n - (intOf c).toNat)
      case atStart => exact ⟨0, Nat.zero_le _, rfl, hide (fun b hb => by omega), hBo⟩
      case round =>
        obtain ⟨k, hk, rfl, hin, hB⟩ := hrel
        have hzr := hB.out.size
        by_cases hlk : k < n
        · have hlk63 : (k : Int) < (n : Int) := by omega
          have p1 : (0 : Int) ≤ (k : Int) := by omega
          obtain ⟨y, hy⟩ : ∃ y, L[k]? = some y := ⟨_, List.getElem?_eq_getElem (by have := HN.out; omega)⟩
          obtain ⟨gl', ol', e', hgl', cy⟩ := sln_at HL.out hy
          cases e'
          replace cy := (hB.out.cell (p := ⟨gl, ol + k, none⟩) hgl).trans cy
          have hym := (HMem.out y (List.mem_of_getElem? hy)).1
          obtain ⟨d, hd⟩ : ∃ d, es[x]? = some d := ⟨_, List.getElem?_eq_getElem hxm⟩
          obtain ⟨e, he⟩ : ∃ e, es[y]? = some e := ⟨_, List.getElem?_eq_getElem hym⟩
          obtain ⟨g, o, rfl, hg, hcd⟩ := h3 x d hd
          obtain ⟨g', o', e', hg', hce⟩ := h3 y e he
          cases e'
          have hbw : Below w.heap.size w wr := HB1.out.trans (hB.out.mono HB1.out.size)
          have c7 := (ev_cells (hcd.of_block (w' := wr) (hbw.block g hg))).2.2.2.2.2.2.2
          have x7 := (ev_cells (hce.of_block (w' := wr) (hbw.block g hg))).2.2.2.2.2.2.2
          have gz : g < wr.heap.size := Nat.lt_of_lt_of_le hg hbw.size
          have q0 : (0 : Int) ≤ (x : Int) := by omega
          have q1 : (x : Int) < (es.length : Int) := by omega
          have q2 : (0 : Int) ≤ (y : Int) := by omega
          have q3 : (y : Int) < (es.length : Int) := by omega
          have HKD := hide ((HK.out.key x d hd).below hbw (Nat.le_refl _))
          have HKE := hide ((HK.out.key y e he).below hbw (Nat.le_refl _))
          have HEV := hide (HK.out.evs.below hbw (Nat.le_refl _))
          have NA := hide (fun W h => ahead_any (.slice (some ⟨g, o, none⟩) es.length cap) es (x : Int) (y : Int) W h)
          have HY := hide hy
          have hnx : ky x ≠ [] := (HMem.out x (List.mem_of_getElem? HX.out)).2
          have hny : ky y ≠ [] := (HMem.out y (List.mem_of_getElem? hy)).2
          rcases ha : aheadB es x y with _ | _
          · have HAH := hide ha
            have HOKP : Hid (okAh es ky x y = true) := hide (by unfold okAh; rw [ha]; rfl)
            clear hcd hce hd he hbw hy ha hnx hny h3
            go_wp2_with fail
            refine wp_region_seq (Below wr.heap.size wr) (.take 0 <| .take 1 <| .take 2 <| .run 3 <| .take 4 <| .take 5 <| .take 6 <| .take 7 <| .take 8 <| .take 9 <| .take 10 <| .take 11 <| .take 12 <| .take 13 <| .take 14 <| .run 15 <| .take 16 <| .take 17 <| .done) (by kernel_rfl) (by kernel_rfl) (by kernel_rfl) (by (repeat' (first | with_reducible (first | assumption | exact Below.refl _ _ | refine Below.drew ?_ | refine below_drewN ?_ _ | refine Below.alloc ?_ ?_ _ | refine Below.setCell ?_ ?_ _) | omega | (simp; done) | (simp; omega)))) ?_
            iterate 3 (refine seq_take (v := ?_) rfl (by rfl) ?_ ?_; rotate_left; (focus (intro wS hS; have y7 := (hS.cell (p := ⟨g, o + x * 8 + 7, none⟩) gz).trans c7; have z7 := (hS.cell (p := ⟨g, o + y * 8 + 7, none⟩) gz).trans x7; go_simp; exact rfl)); simp only [Act.put, sqA, sqB, sqC])
            refine seq_run rfl (by rfl) (fun K hK => ?_)
            go_simp
            refine (NA.out _ (HEV.out.drewN 1)).mono ?_
            rw [HAH.out]
            rintro e9 w9 ⟨rfl, m9, rfl⟩
            have hB9 : Below wr.heap.size wr (wr.drew.drewN m9) := below_drewN (Below.refl _ _).drew _
            have hB9n : Below wr.heap.size wr (wr.drewN (1 + m9)) := below_drewN (Below.refl _ _) _
            refine hK _ _ hB9 ?_
            clear hK K
            iterate 11 (first | (refine seq_take (v := ?_) rfl (by rfl) ?_ ?_; rotate_left; (focus (intro wS hS; have y7 := (hS.cell (p := ⟨g, o + x * 8 + 7, none⟩) gz).trans c7; have z7 := (hS.cell (p := ⟨g, o + y * 8 + 7, none⟩) gz).trans x7; go_simp; exact rfl)); simp only [Act.put, sqA, sqB, sqC]) | (refine seq_skip rfl (by rfl) ?_; simp only [Act.put, sqA, sqB, sqC]))
            refine seq_pass rfl (by rfl) hB9 ?_
            simp only [Act.put, sqA, sqB, sqC]
            iterate 2 (first | (refine seq_take (v := ?_) rfl (by rfl) ?_ ?_; rotate_left; (focus (intro wS hS; have y7 := (hS.cell (p := ⟨g, o + x * 8 + 7, none⟩) gz).trans c7; have z7 := (hS.cell (p := ⟨g, o + y * 8 + 7, none⟩) gz).trans x7; go_simp; exact rfl)); simp only [Act.put, sqA, sqB, sqC]) | (refine seq_skip rfl (by rfl) ?_; simp only [Act.put, sqA, sqB, sqC]))
            refine seq_nil ?_
            go_wp2
            go_roundw
            case rel => exact ⟨k + 1, by omega, by go_num, hide (fun b hb y' hy' => by
              by_cases e : b = k
              · subst e; have := HY.out; rw [hy'] at this; cases this; exact HOKP.out
              · exact hin.out b (by omega) y' hy'), hide (hB.out.trans (hB9n.mono hzr))⟩
            case measure => simp [intOf] <;> omega
          · have HAH := hide ha
            obtain ⟨z, hz⟩ : ∃ z, kcmp (ky x) (ky y) = z := ⟨_, rfl⟩
            have NC := hide (fun W h1 h2 => kcompare_any (.slice d.kA d.kN d.kC) (.slice e.kA e.kN e.kC) (ky x) (ky y) W h1 h2)
            have HZ := hide hz
            have HOKZ : Hid (okAh es ky x y = decide (z < 0)) := hide (by unfold okAh; rw [ha, hz, decide_eq_false hnx, decide_eq_false hny]; simp)
            clear hcd hce hd he hbw hy ha hnx hny h3 hz
            by_cases hz : z < 0
            · have d1 : decide (0 ≤ z) = false := by simp; omega
              have HOKP : Hid (okAh es ky x y = true) := hide (by rw [HOKZ.out]; exact decide_eq_true hz)
              go_wp2_with fail
              refine wp_region_seq (Below wr.heap.size wr) (.take 0 <| .take 1 <| .take 2 <| .run 3 <| .take 4 <| .take 5 <| .take 6 <| .take 7 <| .take 8 <| .take 9 <| .take 10 <| .take 11 <| .take 12 <| .take 13 <| .take 14 <| .run 15 <| .take 16 <| .take 17 <| .done) (by kernel_rfl) (by kernel_rfl) (by kernel_rfl) (by (repeat' (first | with_reducible (first | assumption | exact Below.refl _ _ | refine Below.drew ?_ | refine below_drewN ?_ _ | refine Below.alloc ?_ ?_ _ | refine Below.setCell ?_ ?_ _) | omega | (simp; done) | (simp; omega)))) ?_
              iterate 3 (refine seq_take (v := ?_) rfl (by rfl) ?_ ?_; rotate_left; (focus (intro wS hS; have y7 := (hS.cell (p := ⟨g, o + x * 8 + 7, none⟩) gz).trans c7; have z7 := (hS.cell (p := ⟨g, o + y * 8 + 7, none⟩) gz).trans x7; go_simp; exact rfl)); simp only [Act.put, sqA, sqB, sqC])
              refine seq_run rfl (by rfl) (fun K hK => ?_)
              go_simp
              refine (NA.out _ (HEV.out.drewN 1)).mono ?_
              rw [HAH.out]
              rintro e9 w9 ⟨rfl, m9, rfl⟩
              have hB9 : Below wr.heap.size wr (wr.drew.drewN m9) := below_drewN (Below.refl _ _).drew _
              have hB9n : Below wr.heap.size wr (wr.drewN (1 + m9)) := below_drewN (Below.refl _ _) _
              refine hK _ _ hB9 ?_
              clear hK K
              iterate 11 (first | (refine seq_take (v := ?_) rfl (by rfl) ?_ ?_; rotate_left; (focus (intro wS hS; have y7 := (hS.cell (p := ⟨g, o + x * 8 + 7, none⟩) gz).trans c7; have z7 := (hS.cell (p := ⟨g, o + y * 8 + 7, none⟩) gz).trans x7; go_simp; exact rfl)); simp only [Act.put, sqA, sqB, sqC]) | (refine seq_skip rfl (by rfl) ?_; simp only [Act.put, sqA, sqB, sqC]))
              refine seq_run rfl (by rfl) (fun K hK => ?_)
              go_simp
              refine (NC.out _ (HKD.out.below hB9n (Nat.le_refl _)) (HKE.out.below hB9n (Nat.le_refl _))).mono ?_
              rw [HZ.out]
              rintro e8 w8 ⟨rfl, rfl⟩
              refine hK _ _ hB9n ?_
              clear hK K
              iterate 2 (first | (refine seq_take (v := ?_) rfl (by rfl) ?_ ?_; rotate_left; (focus (intro wS hS; have y7 := (hS.cell (p := ⟨g, o + x * 8 + 7, none⟩) gz).trans c7; have z7 := (hS.cell (p := ⟨g, o + y * 8 + 7, none⟩) gz).trans x7; go_simp; exact rfl)); simp only [Act.put, sqA, sqB, sqC]) | (refine seq_skip rfl (by rfl) ?_; simp only [Act.put, sqA, sqB, sqC]))
              refine seq_nil ?_
              clear hz
              go_wp2
              go_roundw
              case rel => exact ⟨k + 1, by omega, by go_num, hide (fun b hb y' hy' => by
                by_cases e : b = k
                · subst e; have := HY.out; rw [hy'] at this; cases this; exact HOKP.out
                · exact hin.out b (by omega) y' hy'), hide (hB.out.trans (hB9n.mono hzr))⟩
              case measure => simp [intOf] <;> omega
            · have d1 : decide (0 ≤ z) = true := by simp; omega
              have HF : Hid (false = R) := hide (by
                rw [← HR.out]
                rcases hq : aheadK es ky with _ | _
                · rfl
                · have := HO.out.1 hq i k x y HX.out HY.out
                  rw [HOKZ.out, decide_eq_false hz] at this
                  cases this)
              go_wp2_with fail
              refine wp_region_seq (Below wr.heap.size wr) (.take 0 <| .take 1 <| .take 2 <| .run 3 <| .take 4 <| .take 5 <| .take 6 <| .take 7 <| .take 8 <| .take 9 <| .take 10 <| .take 11 <| .take 12 <| .take 13 <| .take 14 <| .run 15 <| .take 16 <| .take 17 <| .done) (by kernel_rfl) (by kernel_rfl) (by kernel_rfl) (by (repeat' (first | with_reducible (first | assumption | exact Below.refl _ _ | refine Below.drew ?_ | refine below_drewN ?_ _ | refine Below.alloc ?_ ?_ _ | refine Below.setCell ?_ ?_ _) | omega | (simp; done) | (simp; omega)))) ?_
              iterate 3 (refine seq_take (v := ?_) rfl (by rfl) ?_ ?_; rotate_left; (focus (intro wS hS; have y7 := (hS.cell (p := ⟨g, o + x * 8 + 7, none⟩) gz).trans c7; have z7 := (hS.cell (p := ⟨g, o + y * 8 + 7, none⟩) gz).trans x7; go_simp; exact rfl)); simp only [Act.put, sqA, sqB, sqC])
              refine seq_run rfl (by rfl) (fun K hK => ?_)
              go_simp
              refine (NA.out _ (HEV.out.drewN 1)).mono ?_
              rw [HAH.out]
              rintro e9 w9 ⟨rfl, m9, rfl⟩
              have hB9 : Below wr.heap.size wr (wr.drew.drewN m9) := below_drewN (Below.refl _ _).drew _
              have hB9n : Below wr.heap.size wr (wr.drewN (1 + m9)) := below_drewN (Below.refl _ _) _
              refine hK _ _ hB9 ?_
              clear hK K
              iterate 11 (first | (refine seq_take (v := ?_) rfl (by rfl) ?_ ?_; rotate_left; (focus (intro wS hS; have y7 := (hS.cell (p := ⟨g, o + x * 8 + 7, none⟩) gz).trans c7; have z7 := (hS.cell (p := ⟨g, o + y * 8 + 7, none⟩) gz).trans x7; go_simp; exact rfl)); simp only [Act.put, sqA, sqB, sqC]) | (refine seq_skip rfl (by rfl) ?_; simp only [Act.put, sqA, sqB, sqC]))
              refine seq_run rfl (by rfl) (fun K hK => ?_)
              go_simp
              refine (NC.out _ (HKD.out.below hB9n (Nat.le_refl _)) (HKE.out.below hB9n (Nat.le_refl _))).mono ?_
              rw [HZ.out]
              rintro e8 w8 ⟨rfl, rfl⟩
              refine hK _ _ hB9n ?_
              clear hK K
              iterate 2 (first | (refine seq_take (v := ?_) rfl (by rfl) ?_ ?_; rotate_left; (focus (intro wS hS; have y7 := (hS.cell (p := ⟨g, o + x * 8 + 7, none⟩) gz).trans c7; have z7 := (hS.cell (p := ⟨g, o + y * 8 + 7, none⟩) gz).trans x7; go_simp; exact rfl)); simp only [Act.put, sqA, sqB, sqC]) | (refine seq_skip rfl (by rfl) ?_; simp only [Act.put, sqA, sqB, sqC]))
              refine seq_nil ?_
              clear hz
              go_wp2
              go_ret
              exact ⟨ret_bool HF.out, HB1.out.trans ((hB.out.trans (hB9n.mono hzr)).mono HB1.out.size)⟩
        · have d1 : decide ((k : Int) < (n : Int)) = false := by simp; omega
          have d2 : decide (k < n) = false := by simp; omega
          obtain rfl : k = n := by omega
          go_wp2
          go_roundw
          case rel => exact ⟨i + 1, by omega, by go_num, hide (fun a ha b x' y' hx' hy' => by
            by_cases e : a = i
            · subst e; have := HX.out; rw [hx'] at this; cases this; exact hin.out b (by have := (List.getElem?_eq_some_iff.1 hy').1; have := HN.out; omega) y' hy'
            · exact hout.out a (by omega) b x' y' hx' hy'), hB⟩
          case measure => simp [intOf] <;> omega
    · have d1 : decide ((i : Int) < (n : Int)) = false := by simp; omega
      have d2 : decide (i < n) = false := by simp; omega
      obtain rfl : i = n := by omega
      have HF : Hid (true = R) := hide (by
        rw [← HR.out]
        exact (HO.out.2 (fun a b x y hx hy => hout.out a (by have := (List.getElem?_eq_some_iff.1 hx).1; have := HN.out; omega) b x y hx hy)).symm)
      go_wp2
      go_ret
      exact ⟨ret_bool HF.out, HB1.out.trans (hBo.out.mono HB1.out.size)⟩
end Go.Proofs.YtmiimpmfkjcjlaaGreat

namespace Go.Proofs.YtmiimpmfkjcjlaaGreat
open Go.RowKit
theorem iown_cell {w : World} {B g n cap k : Nat} {xs : List Int} {y : Int} (h : IOwn w B (.slice (some ⟨g, 0, none⟩) n cap) n xs) (hn : xs.length = n) (hy : xs[k]? = some y) : w.cell? ⟨g, k, none⟩ = some (.int .i64 y) ∧ g < w.heap.size := by
  subst hn
  rcases h.2 with ⟨e, _⟩ | ⟨g', cap', cur, e, _, hg, h1, h2, h3, htake⟩
  · cases e
  · cases e
    refine ⟨?_, (Array.getElem?_eq_some_iff.1 hg).1⟩
    rw [cell_of_row w g k cur 3 (0, 0) hg]
    have hk := (List.getElem?_eq_some_iff.1 hy).1
    have h4 : ((xs.map (Value.int .i64)))[k]? = some (.int .i64 y) := by rw [List.getElem?_map, hy]; rfl
    rw [← htake, List.getElem?_take, if_pos (by omega)] at h4
    simpa using h4
theorem ord_len {ky : Nat → List Int} {m : Nat} {L : List Nat} (h : IsOrd ky m L) : L.length ≤ m := nodup_le h.nodup (fun x hx => ((h.2 x).1 hx).1)
set_option maxRecDepth 100000 in
set_option maxHeartbeats 4000000 in
theorem porder_any (v : Value) (es : List Ev) (ky : Nat → List Int) (w : World) (h : EvKey w v es ky) (hm : es.length ≤ 1000000) :
    Calls Tryz.prog 65 #[v] w fun e w' => ∃ v' L, e = .returned v' ∧ IOwn w' w.heap.size v' L.length (ordI L) ∧ IsOrd ky es.length L ∧ Below w.heap.size w w' := by
  obtain ⟨A, cap, rfl, h1, h2, h3⟩ := id h.evs
  have hlen : (es.length : Int) ≤ 9223372036854775807 := by omega
  have HK := hide h
  obtain ⟨i0, hi, hz0, hz1, hz2⟩ := info_parts info_int
  have HM := hide hm
  clear h hm
  go_enter Tryz.func65, Tryz.ntmps65
  go_wp2
  go_loopw [8, 3] (fun i u wr => ∃ (k : Nat) (L : List Nat), k ≤ es.length ∧ i = .int .i64 k ∧ Hid (IOwn wr w.heap.size u L.length (ordI L)) ∧ Hid (IsOrd ky k L) ∧ Hid (Below w.heap.size w wr)) (fun i _ _ => es.length - (intOf i).toNat)
  case atStart => exact ⟨0, [], Nat.zero_le _, rfl, hide (World.ownsRow_nil _ _ _ _), hide (IsOrd.nil ky), hide (Below.refl _ _)⟩
  case round =>
    obtain ⟨i, L, hki, rfl, hO, hOrd, hB⟩ := hrel
    obtain ⟨wo, rfl⟩ : ∃ wo : World, wo = wr := ⟨_, rfl⟩
    obtain ⟨uA, uc, rfl⟩ := own_slice hO.out
    by_cases hlt : i < es.length
    · obtain ⟨e, he⟩ : ∃ e, es[i]? = some e := ⟨_, List.getElem?_eq_getElem hlt⟩
      obtain ⟨ge, oe, rfl, hge, hce⟩ := h3 i e he
      have k1 := (ev_cells (hce.of_block (w' := wo) (hB.out.block ge hge))).2.2.2.2.2.2.2
      have hky := HK.out.key i e he
      have hkN : e.kN = (ky i).length := by obtain ⟨_, _, e1, _⟩ := hky; injection e1
      have q0 : (0 : Int) ≤ (i : Int) := by omega
      have q1 : (i : Int) < (es.length : Int) := by omega
      by_cases hk0 : ky i = []
      · have g0 : ((e.kN : Int) == 0) = true := by rw [hkN, hk0]; rfl
        have HOI := hide (hOrd.out.skip hk0)
        clear he hce hky hkN hk0 h3
        go_wp2
        go_roundw
        case rel => exact ⟨i + 1, L, by omega, by go_num, hO, HOI, hB⟩
        case measure => simp [intOf] <;> omega
      · have g0 : ((e.kN : Int) == 0) = false := by
          rw [beq_eq_false_iff_ne]
          intro hh
          exact hk0 (List.length_eq_zero_iff.1 (by omega))
        have hlL := ord_len hOrd.out
        have HKY := hide hky
        have HK0 := hide hk0
        have HE := hide he
        clear he hce hky hkN hk0
        go_wp2_with (at_builtin; refine wpList_append_own_at _ rfl _ _ 42 rfl w.heap.size 3 i0 (.int .i64 0) 1 8 Tryz.underlying42 hi hz0 hz1 hz2 rfl (by decide) _ L.length ((ordI L).map (Value.int .i64)) rfl (World.ownsRow.alloc hO.out _) ⟨wo.heap.size, 0, none⟩ 1 1 [.int .i64 (i : Int)] rfl rfl (cell_one_new _ _ _) (by simp [Value.oneCell']) (by have := HM.out; simp [maxLen]; omega) (by have := HM.out; omega) (by have := hB.out.size; simp; omega) ?_; intro v7 w7 hown7 hgrow7 _ _; obtain ⟨A7, c7, rfl⟩ := own_slice hown7)
        have hB7 : Hid (Below w.heap.size w w7) := hide ((hB.out.alloc hB.out.size _).grown hgrow7 (by have := hB.out.size; simp; omega) (fun k hk => (hO.out.lt k hk).1))
        obtain ⟨go, hgo, hA7⟩ : ∃ go, w.heap.size ≤ go ∧ A7 = some ⟨go, 0, none⟩ := by
          rcases hown7.2 with ⟨e1, h0⟩ | ⟨g, cp, cur, e1, hg1, _⟩
          · omega
          · injection e1 with e2
            exact ⟨g, hg1, e2⟩
        subst hA7
        have HO7 : Hid (IOwn w7 w.heap.size (.slice (some ⟨go, 0, none⟩) (L.length + 1) c7) (L.length + 1) (ordI L ++ [(i : Int)])) := hide (by unfold IOwn; rw [List.map_append]; exact hown7)
        clear hown7 hgrow7 k1
        go_loopw [5] (fun c wx => ∃ (k : Nat) (j : Int), k ≤ L.length ∧ c = .int .i64 k ∧ Hid (IOwn wx w.heap.size (.slice (some ⟨go, 0, none⟩) (L.length + 1) c7) (L.length + 1) (ordI (L.take k) ++ j :: ordI (L.drop k))) ∧ Hid (∀ x ∈ L.drop k, LtK ky i x) ∧ Hid (Below w.heap.size w wx)) (fun c _ => (intOf c).toNat)
        case atStart =>
          refine ⟨L.length, i, Nat.le_refl _, rfl, hide ?_, hide ?_, hB7⟩
          · rw [List.take_length, List.drop_length]; exact HO7.out
          · rw [List.drop_length]; simp
        case round =>
          obtain ⟨k, j, hk, rfl, hX, hall, hBx⟩ := hrel
          have hzx := hBx.out.size
          have hXl : (ordI (L.take k) ++ j :: ordI (L.drop k)).length = L.length + 1 := by simp; omega
          obtain ⟨gi, oi, e', hgi, hci⟩ := h3 i e HE.out
          cases e'
          have k1 := (ev_cells (hci.of_block (w' := wr) (hBx.out.block ge hge))).2.2.2.2.2.2.2
          have rk := iown_cell hX.out hXl (show (ordI (L.take k) ++ j :: ordI (L.drop k))[k]? = some j by rw [List.getElem?_append_right (by simp; omega)]; simp [Nat.min_eq_left hk])
          have fk := World.ownsRow.frozenAt hX.out k
          have p0 : (0 : Int) ≤ (k : Int) := by omega
          have p1 : (k : Int) < ((L.length + 1 : Nat) : Int) := by omega
          have p2 : (k : Int) < (L.length : Int) + 1 := by omega
          have p3 : k < L.length + 1 := by omega
          have goz : go < wr.heap.size := rk.2
          have gez : ge < wr.heap.size := Nat.lt_of_lt_of_le hge hzx
          replace rk := rk.1
          rcases k with _ | k
          · have HIN := hide (hOrd.out.ins HK0.out hall.out (Or.inl rfl) hk)
            clear hci
            have d0 : decide ((0 : Nat) < 0) = false := rfl
            go_wp2_with fail
            refine wp_region_seq (Below wr.heap.size wr) (.take 0 <| .take 1 <| .take 2 <| .take 3 <| .take 4 <| .take 5 <| .take 6 <| .take 7 <| .take 8 <| .take 9 <| .take 10 <| .take 11 <| .take 12 <| .take 13 <| .take 14 <| .take 15 <| .take 16 <| .run 17 <| .take 18 <| .done) (by kernel_rfl) (by kernel_rfl) (by kernel_rfl) (by (repeat' (first | with_reducible (first | assumption | exact Below.refl _ _ | refine Below.drew ?_ | refine below_drewN ?_ _ | refine Below.alloc ?_ ?_ _ | refine Below.setCell ?_ ?_ _) | omega | (simp; done) | (simp; omega)))) ?_
            iterate 17 (first | (refine seq_take (v := ?_) rfl (by rfl) ?_ ?_; rotate_left; (focus (intro wS hS; go_simp; exact rfl)); simp only [Act.put, sqA, sqB, sqC]) | (refine seq_skip rfl (by rfl) ?_; simp only [Act.put, sqA, sqB, sqC]))
            refine seq_pass rfl (by rfl) (by (repeat' (first | with_reducible (first | assumption | exact Below.refl _ _ | refine Below.drew ?_ | refine below_drewN ?_ _ | refine Below.alloc ?_ ?_ _ | refine Below.setCell ?_ ?_ _) | omega | (simp; done) | (simp; omega)))) ?_
            simp only [Act.put, sqA, sqB, sqC]
            (refine seq_take (v := ?_) rfl (by rfl) ?_ ?_; rotate_left; (focus (intro wS hS; go_simp; exact rfl)); simp only [Act.put, sqA, sqB, sqC])
            refine seq_nil ?_
            go_wp2
            go_roundw
            case rel =>
              refine ⟨i + 1, L.take 0 ++ i :: L.drop 0, by omega, by go_num, hide ?_, HIN, hide ?_⟩
              · have h := iown_set (j := 0) (y := (i : Int)) hX.out
                rw [fin_eq hk] at h
                have hl : (L.take 0 ++ i :: L.drop 0).length = L.length + 1 := by simp
                rw [hl]
                exact h
              · have hq := hBx.out
                (repeat' (first | with_reducible (first | assumption | exact Below.refl _ _ | refine Below.drew ?_ | refine below_drewN ?_ _ | refine Below.alloc ?_ ?_ _ | refine Below.setCell ?_ ?_ _) | omega | (simp; done) | (simp; omega)))
            case measure => simp [intOf] <;> omega
          · obtain ⟨x, hx⟩ : ∃ x, L[k]? = some x := ⟨_, List.getElem?_eq_getElem (by omega)⟩
            have hxm := (hOrd.out.2 x).1 (List.mem_of_getElem? hx)
            obtain ⟨ex, hex⟩ : ∃ ex, es[x]? = some ex := ⟨_, List.getElem?_eq_getElem (by omega)⟩
            obtain ⟨g', o', e', hgx, hcx⟩ := h3 x ex hex
            cases e'
            have k2 := (ev_cells (hcx.of_block (w' := wr) (hBx.out.block ge hge))).2.2.2.2.2.2.2
            have r0 := (iown_cell hX.out hXl (show (ordI (L.take (k + 1)) ++ j :: ordI (L.drop (k + 1)))[k]? = some (x : Int) by rw [List.getElem?_append_left (by simp; omega)]; simp [ordI, hx])).1
            have wk : IntKind.i64.wrap (k : Int) = (k : Int) := by rw [IntKind.wrap_i64]; have := HM.out; omega
            have p4 : (k : Int) < (L.length : Int) + 1 := by omega
            have p5 : (0 : Int) ≤ (x : Int) := by omega
            have p6 : (x : Int) < (es.length : Int) := by omega
            have NA := pahead_any (.slice e.kA e.kN e.kC) (.slice ex.kA ex.kN ex.kC) (ky i) (ky x) wr.drew ((HKY.out.below hBx.out (Nat.le_refl _)).drewN 1) (((HK.out.key x ex hex).below hBx.out (Nat.le_refl _)).drewN 1)
            clear hci hcx hex
            by_cases hc : kcmp (ky i) (ky x) < 0
            · rw [decide_eq_true hc] at NA
              have HC := hide hc
              clear hc
              go_wp2_with fail
              refine wp_region_seq (Below wr.heap.size wr) (.take 0 <| .take 1 <| .take 2 <| .take 3 <| .take 4 <| .take 5 <| .take 6 <| .take 7 <| .take 8 <| .take 9 <| .take 10 <| .take 11 <| .take 12 <| .take 13 <| .take 14 <| .take 15 <| .take 16 <| .run 17 <| .take 18 <| .done) (by kernel_rfl) (by kernel_rfl) (by kernel_rfl) (by (repeat' (first | with_reducible (first | assumption | exact Below.refl _ _ | refine Below.drew ?_ | refine below_drewN ?_ _ | refine Below.alloc ?_ ?_ _ | refine Below.setCell ?_ ?_ _) | omega | (simp; done) | (simp; omega)))) ?_
              iterate 17 (refine seq_take (v := ?_) rfl (by rfl) ?_ ?_; rotate_left; (focus (intro wS hS; have z0 := (hS.cell (p := ⟨go, k, none⟩) goz).trans r0; have z1 := (hS.cell (p := ⟨ge, oe + i * 8 + 7, none⟩) gez).trans k1; have z2 := (hS.cell (p := ⟨ge, oe + x * 8 + 7, none⟩) gez).trans k2; go_simp; exact rfl)); simp only [Act.put, sqA, sqB, sqC])
              refine seq_run rfl (by rfl) (fun K hK => ?_)
              go_simp
              refine NA.mono ?_
              rintro e9 w9 ⟨rfl, m9, rfl⟩
              refine hK _ _ (by (repeat' (first | with_reducible (first | assumption | exact Below.refl _ _ | refine Below.drew ?_ | refine below_drewN ?_ _ | refine Below.alloc ?_ ?_ _ | refine Below.setCell ?_ ?_ _) | omega | (simp; done) | (simp; omega)))) ?_
              clear hK K NA
              (refine seq_take (v := ?_) rfl (by rfl) ?_ ?_; rotate_left; (focus (intro wS hS; go_simp; exact rfl)); simp only [Act.put, sqA, sqB, sqC])
              refine seq_nil ?_
              go_wp2
              go_roundw
              case rel =>
                refine ⟨k, (x : Int), by omega, by first | rfl | go_num, hide ?_, hide ?_, hide ?_⟩
                · have h := iown_set (j := k + 1) (y := (x : Int)) hX.out
                  rw [shift_eq (by omega) (by simpa using hx)] at h
                  simp only [Nat.add_sub_cancel] at h
                  exact h
                · have e2 : L.drop k = x :: L.drop (k + 1) := by
                    obtain ⟨h8, h9⟩ := List.getElem?_eq_some_iff.1 hx
                    rw [List.drop_eq_getElem_cons h8, h9]
                  rw [e2]
                  intro y hy
                  rcases List.mem_cons.1 hy with rfl | hy
                  · exact Or.inl HC.out
                  · exact hall.out y hy
                · have hq := hBx.out
                  (repeat' (first | with_reducible (first | assumption | exact Below.refl _ _ | refine Below.drew ?_ | refine below_drewN ?_ _ | refine Below.alloc ?_ ?_ _ | refine Below.setCell ?_ ?_ _) | omega | (simp; done) | (simp; omega)))
              case measure => simp [intOf] <;> omega
            · rw [decide_eq_false hc] at NA
              have HIN := hide (hOrd.out.ins HK0.out hall.out (Or.inr ⟨x, by simpa using hx, hc⟩) hk)
              clear hc
              go_wp2_with fail
              refine wp_region_seq (Below wr.heap.size wr) (.take 0 <| .take 1 <| .take 2 <| .take 3 <| .take 4 <| .take 5 <| .take 6 <| .take 7 <| .take 8 <| .take 9 <| .take 10 <| .take 11 <| .take 12 <| .take 13 <| .take 14 <| .take 15 <| .take 16 <| .run 17 <| .take 18 <| .done) (by kernel_rfl) (by kernel_rfl) (by kernel_rfl) (by (repeat' (first | with_reducible (first | assumption | exact Below.refl _ _ | refine Below.drew ?_ | refine below_drewN ?_ _ | refine Below.alloc ?_ ?_ _ | refine Below.setCell ?_ ?_ _) | omega | (simp; done) | (simp; omega)))) ?_
              iterate 17 (refine seq_take (v := ?_) rfl (by rfl) ?_ ?_; rotate_left; (focus (intro wS hS; have z0 := (hS.cell (p := ⟨go, k, none⟩) goz).trans r0; have z1 := (hS.cell (p := ⟨ge, oe + i * 8 + 7, none⟩) gez).trans k1; have z2 := (hS.cell (p := ⟨ge, oe + x * 8 + 7, none⟩) gez).trans k2; go_simp; exact rfl)); simp only [Act.put, sqA, sqB, sqC])
              refine seq_run rfl (by rfl) (fun K hK => ?_)
              go_simp
              refine NA.mono ?_
              rintro e9 w9 ⟨rfl, m9, rfl⟩
              refine hK _ _ (by (repeat' (first | with_reducible (first | assumption | exact Below.refl _ _ | refine Below.drew ?_ | refine below_drewN ?_ _ | refine Below.alloc ?_ ?_ _ | refine Below.setCell ?_ ?_ _) | omega | (simp; done) | (simp; omega)))) ?_
              clear hK K NA
              (refine seq_take (v := ?_) rfl (by rfl) ?_ ?_; rotate_left; (focus (intro wS hS; go_simp; exact rfl)); simp only [Act.put, sqA, sqB, sqC])
              refine seq_nil ?_
              go_wp2
              go_roundw
              case rel =>
                refine ⟨i + 1, L.take (k + 1) ++ i :: L.drop (k + 1), by omega, by go_num, hide ?_, HIN, hide ?_⟩
                · have h := iown_set (j := (k + 1)) (y := (i : Int)) hX.out
                  rw [fin_eq hk] at h
                  have hl : (L.take (k + 1) ++ i :: L.drop (k + 1)).length = L.length + 1 := by simp; omega
                  rw [hl]
                  exact h
                · have hq := hBx.out
                  (repeat' (first | with_reducible (first | assumption | exact Below.refl _ _ | refine Below.drew ?_ | refine below_drewN ?_ _ | refine Below.alloc ?_ ?_ _ | refine Below.setCell ?_ ?_ _) | omega | (simp; done) | (simp; omega)))
              case measure => simp [intOf] <;> omega
    · have hik : i = es.length := by omega
      have HIK := hide hik
      have d9 : decide ((i : Int) < (es.length : Int)) = false := by simp; omega
      have d8 : decide (i < es.length) = false := by simp; omega
      clear h3 hik
      go_wp2
      go_ret
      exact ⟨_, L, rfl, hO.out, by rw [← HIK.out]; exact hOrd.out, hB.out⟩
end Go.Proofs.YtmiimpmfkjcjlaaGreat

namespace Go.Proofs.YtmiimpmfkjcjlaaGreat
open Go.RowKit
set_option maxRecDepth 100000 in
set_option maxHeartbeats 1000000 in
theorem rown_any (t : Int) (A : Option Addr) (m vc : Nat) (st : List Int) (w : World) (h : SlW w (.slice A m vc) st) (hm : st.length = m) (hl : m ≤ 10000) (he : m % 2 = 0) (ht0 : 0 ≤ t) (ht1 : t < 100) :
    Calls Tryz.prog 48 #[.slice A m vc, .int .i64 t] w fun e w' => e = .returned (.int .i64 (ownN st t)) ∧ w' = w := by
  have hm63 : (m : Int) ≤ 10000 := by omega
  have hwt : IntKind.u64.wrap t = t := by rw [IntKind.wrap_u64]; omega
  have HS := hide h
  have HM := hide hm
  obtain ⟨E, hE⟩ : ∃ E, ownN st t = E := ⟨_, rfl⟩
  rw [hE]
  have HE := hide hE
  clear h hm hE
  go_enter Tryz.func48, Tryz.ntmps48
  go_wp2
  go_loopw [5, 6] (fun c i wr => ∃ k : Nat, 2 * k ≤ m ∧ i = .int .i64 (2 * (k : Int)) ∧ c = .int .i64 (ownM st t k : Nat) ∧ wr = w) (fun _ i _ => m - (intOf i).toNat)
  case atStart => exact ⟨0, Nat.zero_le _, rfl, rfl, rfl⟩
  case round =>
    obtain ⟨k, hk, rfl, rfl, rfl⟩ := hrel
    by_cases hlt : 2 * k < m
    · obtain ⟨x, hx⟩ : ∃ x, st[2 * k]? = some x := ⟨_, List.getElem?_eq_getElem (by have := HM.out; omega)⟩
      obtain ⟨sb, so, rfl, cx, hsb⟩ := sl_at HS.out (2 * k) x hx
      have hs := own_succ (t := t) hx
      have hle := own_le st t k
      have q0 : (0 : Int) ≤ 2 * (k : Int) := by omega
      have q1 : 2 * (k : Int) < (m : Int) := by omega
      have q2 : (2 * (k : Int)).toNat = 2 * k := by omega
      have q4 : 2 * (k : Int) + 1 < (m : Int) := by omega
      have q3 : ((ownM st t k : Nat) : Int) ≤ 10000 := by omega
      by_cases hxt : x = t
      · have d0 : (x == t) = true := by simpa using hxt
        rw [if_pos hxt] at hs
        have HSu := hide hs
        clear hx hs hxt
        go_wp2
        go_roundw
        case rel => exact ⟨k + 1, by omega, by first | (congr 1; done) | (congr 1; omega) | (congr 1; push_cast; omega), by rw [HSu.out]; first | (congr 1; done) | (congr 1; omega) | (congr 1; push_cast; omega), trivial⟩
        case measure => simp [intOf] <;> omega
      · have d0 : (x == t) = false := by simpa using hxt
        rw [if_neg hxt] at hs
        have HSu := hide hs
        clear hx hs hxt
        go_wp2
        go_roundw
        case rel => exact ⟨k + 1, by omega, by first | (congr 1; done) | (congr 1; omega) | (congr 1; push_cast; omega), by rw [HSu.out]; first | rfl | (congr 1; done) | (congr 1; omega), trivial⟩
        case measure => simp [intOf] <;> omega
    · have hk2 : k = m / 2 := by omega
      have hE2 : E = ownM st t k := by rw [← HE.out]; unfold ownN; rw [HM.out, hk2]
      subst hE2
      have q1 : ¬ 2 * (k : Int) + 1 < (m : Int) := by omega
      go_wp2
      go_ret
      exact ⟨rfl, rfl⟩
end Go.Proofs.YtmiimpmfkjcjlaaGreat
