/- Two lists of numbers held against each other: roundelayplain.Ints. -/
/- Law 44's known case: a thread that counts (one). -/
import Derived.Test.YtfghmlpjbedomaaGreatBun1
import Derived.Test.YtfghmlpjbedomaaGreatAq2
import Derived.Test.YtfghmlpjbedomaaGreatTa6
namespace Go.Proofs.YtfghmlpjbedomaaGreat
open Go.RowKit

set_option maxHeartbeats 1000000 in
theorem ints_any (v1 v2 : Value) (xs ys : List Int) (w : World) (h1 : SlI w v1 xs) (h2 : SlI w v2 ys) :
    Calls Tryz.prog 10 #[v1, v2] w fun e w' => e = .returned (.bool (decide (xs = ys))) ∧ ∃ n, w' = w.drewN n := by
  obtain ⟨A, cA, rfl, a1, a2, a3⟩ := h1
  obtain ⟨B, cB, rfl, b1, b2, b3⟩ := h2
  have hlx : (xs.length : Int) ≤ 9223372036854775807 := by unfold maxLen at a2; omega
  by_cases hl : xs.length = ys.length
  · have hl1 : ((xs.length : Int) != (ys.length : Int)) = false := by simp [hl]
    have hl2 : ((xs.length : Int) == (ys.length : Int)) = true := by simp [hl]
    have HL := hide hl
    clear hl
    obtain ⟨R, hR⟩ : ∃ R, decide (xs = ys) = R := ⟨_, rfl⟩
    have HR := hide hR
    rw [hR]
    clear hR
    go_enter Tryz.func10, Tryz.ntmps10
    go_wp2
    go_loopw [13] (fun i wr => ∃ k : Nat, k ≤ xs.length ∧ i = .int .i64 k ∧ Hid (∀ j, j < k → xs[j]? = ys[j]?) ∧ Hid (∃ n, wr = w.drewN n)) (fun i _ => xs.length - (intOf i).toNat)
    case atStart => exact ⟨0, Nat.zero_le _, rfl, hide (fun j hj => by omega), hide ⟨0, rfl⟩⟩
    case round =>
      obtain ⟨k, hk, rfl, hok, hn⟩ := hrel
      obtain ⟨n, rfl⟩ := hn.out
      clear hn
      by_cases hlt : k < xs.length
      · obtain ⟨x, hx⟩ : ∃ x, xs[k]? = some x := ⟨_, List.getElem?_eq_getElem hlt⟩
        obtain ⟨y, hy⟩ : ∃ y, ys[k]? = some y := ⟨_, List.getElem?_eq_getElem (by have := HL.out; omega)⟩
        obtain ⟨b, o, rfl, hb, hc⟩ := a3 k x hx
        obtain ⟨b', o', rfl, hb', hc'⟩ := b3 k y hy
        have c1 := nt_cell hc
        have c2 := nt_cell hc'
        simp only [Nat.mul_one] at c1 c2
        have q0 : (0 : Int) ≤ (k : Int) := by omega
        have q1 : (k : Int) < (xs.length : Int) := by omega
        have q2 : (k : Int) < (ys.length : Int) := by have := HL.out; omega
        clear a3 b3 hc hc'
        by_cases hxy : x = y
        · have e1 : (x == y) = true := by simp [hxy]
          have e2 : (x != y) = false := by simp [hxy]
          have HN := hide (show xs[k]? = ys[k]? by rw [hx, hy, hxy])
          clear hx hy hxy
          go_wp2
          go_quiet (fail)
          go_wp2
          go_roundw
          case rel => exact ⟨k + 1, by omega, by go_num, hide (fun j hj => by by_cases h : j = k; (subst h; exact HN.out); exact hok.out j (by omega)), hide ⟨_, rfl⟩⟩
          case measure => simp [intOf] <;> omega
        · have e1 : (x == y) = false := by simp [hxy]
          have e2 : (x != y) = true := by simp [hxy]
          have HF : Hid (false = R) := by
            show _ = _
            rw [← HR.out, eq_comm, decide_eq_false_iff_not]
            intro he
            subst he
            rw [hx] at hy
            exact hxy (Option.some.inj hy)
          clear hx hy hxy hok
          go_wp2
          go_quiet (fail)
          go_wp2
          go_ret
          exact ⟨ret_bool HF.out, _, World.drewN_drewN _ _ _⟩
      · go_wp2
        go_ret
        refine ⟨ret_bool ?_, n, rfl⟩
        rw [← HR.out, eq_comm, decide_eq_true_eq]
        exact list_ext_of HL.out (fun j hj => hok.out j (by omega))
  · have hl1 : ((xs.length : Int) != (ys.length : Int)) = true := by simp; omega
    have hl2 : ((xs.length : Int) == (ys.length : Int)) = false := by simp; omega
    have HF : Hid (decide (xs = ys) = false) := by show _ = _; simp; intro he; exact hl (by rw [he])
    rw [HF.out]
    clear hl a3 b3
    go_enter Tryz.func10, Tryz.ntmps10
    go_wp2
    go_ret
    exact ⟨rfl, 0, rfl⟩
end Go.Proofs.YtfghmlpjbedomaaGreat

namespace Go.Proofs.YtfghmlpjbedomaaGreat
open Go.RowKit

theorem one_specs {w : World} {b : Nat} {t : TypeId} (h : w.heap[b]? = some (.cells #[.int .i64 2, .int .i64 0, .int .i64 0] t (0, 0))) : SlSp w (.slice (some ⟨b, 0, none⟩) 1 1) [⟨2, 0, 0⟩] := by
  refine Sl.of_block (enc := spEnc) (sz := 3) (xs := [⟨2, 0, 0⟩]) (c := 1) h (Nat.le_refl _) (by unfold maxLen; decide) ?_
  intro k x hx j u hu
  rcases k with _ | k
  · simp at hx
    subst hx
    rcases j with _ | _ | _ | j <;> simp [spEnc] at hu ⊢ <;> exact hu
  · simp at hx
theorem one_calls {w : World} {b : Nat} {t : TypeId} (h : w.heap[b]? = some (.cells #[.int .i64 1, .int .i64 0, .int .i64 0, .int .u64 0, .int .u64 0, .int .u64 0] t (0, 0))) : SlCl w (.slice (some ⟨b, 0, none⟩) 1 1) taC := by
  refine Sl.of_block (enc := clEnc) (sz := 6) (xs := taC) (c := 1) h (Nat.le_refl _) (by unfold maxLen; decide) ?_
  intro k x hx j u hu
  rcases k with _ | k
  · simp [taC] at hx
    subst hx
    rcases j with _ | _ | _ | _ | _ | _ | j <;> simp [clEnc] at hu ⊢ <;> exact hu
  · simp [taC] at hx
theorem lit_ints {w : World} {b : Nat} {t : TypeId} {kk : IntKind} (l : List Int) (h : w.heap[b]? = some (.cells (l.map (Value.int kk)).toArray t (0, 0))) (hl : l.length ≤ 100) : Sl (ntEnc kk) 1 w (.slice (some ⟨b, 0, none⟩) l.length l.length) l :=
  Sl.of_block (enc := ntEnc kk) (sz := 1) (xs := l) (c := l.length) h (Nat.le_refl _) (by unfold maxLen; omega) (fun k x hx j u hu => by
    rcases j with _ | j
    · simp [ntEnc] at hu
      subst hu
      simp [hx]
    · simp [ntEnc] at hu)
theorem one_apply : applyF [0, 0] taL 0 = ([0, 1], -1) := by decide
theorem one_of : (ofL taL 1 (-1) 2).length = 2 := by decide
theorem one_wr : (Lib.compact (srt (wrL taL 1 2))).length = 1 := by
  have h1 : wrL taL 1 2 = [1] := by decide
  rw [h1]
  have h2 : srt [1] = [1] := by simp [srt]
  rw [h2]
  decide
set_option maxRecDepth 100000 in
set_option maxHeartbeats 4000000 in
theorem one44 (w : World) : Calls Tryz.prog 14 #[] w fun e w' => e = .returned (.bool true) ∧ Below w.heap.size w w' := by
  have hb : Below w.heap.size w (((w.alloc (.cells #[.int .i64 2, .int .i64 0, .int .i64 0] 51)).alloc (.cells #[.int .i64 1, .int .i64 0, .int .i64 0, .int .u64 0, .int .u64 0, .int .u64 0] 54)).alloc (.cells #[.int .i64 1, .int .i64 0, .int .i64 1] 3)) := (((Below.refl _ _).alloc (Nat.le_refl _) _).alloc (by simp) _).alloc (by simp; omega) _
  have hs1 : (w.alloc (.cells #[.int .i64 2, .int .i64 0, .int .i64 0] 51)).heap.size = w.heap.size + 1 := by simp
  have hs2 : ((w.alloc (.cells #[.int .i64 2, .int .i64 0, .int .i64 0] 51)).alloc (.cells #[.int .i64 1, .int .i64 0, .int .i64 0, .int .u64 0, .int .u64 0, .int .u64 0] 54)).heap.size = w.heap.size + 1 + 1 := by simp
  have hh1 : (((w.alloc (.cells #[.int .i64 2, .int .i64 0, .int .i64 0] 51)).alloc (.cells #[.int .i64 1, .int .i64 0, .int .i64 0, .int .u64 0, .int .u64 0, .int .u64 0] 54)).alloc (.cells #[.int .i64 1, .int .i64 0, .int .i64 1] 3)).heap[w.heap.size]? = some (.cells #[.int .i64 2, .int .i64 0, .int .i64 0] 51 (0, 0)) := (Below.heap_alloc _ _ _ (by simp; omega)).trans ((Below.heap_alloc _ _ _ (by simp)).trans (heap_alloc_new _ _))
  have hh2 : (((w.alloc (.cells #[.int .i64 2, .int .i64 0, .int .i64 0] 51)).alloc (.cells #[.int .i64 1, .int .i64 0, .int .i64 0, .int .u64 0, .int .u64 0, .int .u64 0] 54)).alloc (.cells #[.int .i64 1, .int .i64 0, .int .i64 1] 3)).heap[w.heap.size + 1]? = some (.cells #[.int .i64 1, .int .i64 0, .int .i64 0, .int .u64 0, .int .u64 0, .int .u64 0] 54 (0, 0)) := by rw [← hs1]; exact (Below.heap_alloc _ _ _ (by simp)).trans (heap_alloc_new _ _)
  have hh3 : (((w.alloc (.cells #[.int .i64 2, .int .i64 0, .int .i64 0] 51)).alloc (.cells #[.int .i64 1, .int .i64 0, .int .i64 0, .int .u64 0, .int .u64 0, .int .u64 0] 54)).alloc (.cells #[.int .i64 1, .int .i64 0, .int .i64 1] 3)).heap[w.heap.size + 1 + 1]? = some (.cells #[.int .i64 1, .int .i64 0, .int .i64 1] 3 (0, 0)) := by rw [← hs2]; exact heap_alloc_new _ _
  have N := accPlayW (one_specs hh1) (one_calls hh2) (lit_ints (kk := .i64) [1, 0, 1] hh3 (by decide))
  have HB := hide hb
  have HN := hide N
  clear hb hs1 hs2 hh1 hh2 hh3 N
  go_enter Tryz.func14, Tryz.ntmps14
  go_wp2_with fail
  refine HN.out.mono ?_
  rintro e w1 ⟨v, b, rfl, hbz, hrow, hb1⟩
  have hsl : SlAc w1 v taL := sl_of_owns_en (en := acEnc) (sz := 6) (fun _ => rfl) (l := taL) hrow (by unfold maxLen; decide)
  obtain ⟨g, c, rfl, hgb, hgz⟩ := own_some' hrow (by decide)
  have hw1 : (w1.alloc (.cells #[.int .u64 0, .int .u64 0] 37)).heap[w1.heap.size]? = some (.cells #[.int .u64 0, .int .u64 0] 37 (0, 0)) := heap_alloc_new _ _
  have N1 := applyW (lit_ints (kk := .u64) [0, 0] hw1 (by decide)) (hsl.below ((Below.refl _ w1).alloc (Nat.le_refl _) (.cells #[.int .u64 0, .int .u64 0] 37)) (Nat.le_refl _)) (by decide)
  rw [one_apply] at N1
  have HB1 := hide (HB.out.trans (hb1.mono HB.out.size))
  have HSL := hide hsl
  have HROW := hide hrow
  have HN1 := hide N1
  clear hb1 hsl hrow N1 HN hw1
  go_wp2_with fail
  refine HN1.out.mono ?_
  rintro e w2 ⟨u, rfl, hu, hb2⟩
  have hb12 : Below w1.heap.size w1 w2 := ((Below.refl _ w1).alloc (Nat.le_refl _) (.cells #[.int .u64 0, .int .u64 0] 37)).trans (hb2.mono (by simp))
  have hrow2 := owns_keepV HROW.out (Keep.of_below (K := fun k => k < w1.heap.size) hb12 (fun k hk => hk)) (fun k hk => (World.ownsRow.lt HROW.out k hk).2)
  have hc := World.ownsRow.cells hrow2 (g := g) rfl
  have c0 : w2.cell? ⟨g, 0, none⟩ = some (.int .i64 1) := hc 0 _ rfl
  have c1 : w2.cell? ⟨g, 1, none⟩ = some (.int .i64 1) := hc 1 _ rfl
  have c2 : w2.cell? ⟨g, 2, none⟩ = some (.int .i64 0) := hc 2 _ rfl
  have c3 : w2.cell? ⟨g, 3, none⟩ = some (.int .i64 1) := hc 3 _ rfl
  have c4 : w2.cell? ⟨g, 4, none⟩ = some (.int .u64 0) := hc 4 _ rfl
  have c5 : w2.cell? ⟨g, 5, none⟩ = some (.int .u64 0) := hc 5 _ rfl
  have c6 : w2.cell? ⟨g, 6, none⟩ = some (.int .i64 2) := hc 6 _ rfl
  have c7 : w2.cell? ⟨g, 7, none⟩ = some (.int .i64 1) := hc 7 _ rfl
  have c8 : w2.cell? ⟨g, 8, none⟩ = some (.int .i64 1) := hc 8 _ rfl
  have c9 : w2.cell? ⟨g, 9, none⟩ = some (.int .i64 1) := hc 9 _ rfl
  have c10 : w2.cell? ⟨g, 10, none⟩ = some (.int .u64 0) := hc 10 _ rfl
  have c11 : w2.cell? ⟨g, 11, none⟩ = some (.int .u64 1) := hc 11 _ rfl
  have q1 : ∀ W, (binOp .eql 39 (.agg #[.int .i64 1, .int .i64 1, .int .i64 0, .int .i64 1, .int .u64 0, .int .u64 0]) (.agg #[.int .i64 1, .int .i64 1, .int .i64 0, .int .i64 1, .int .u64 0, .int .u64 0])).run Tryz.prog W = .ok (.bool true) W := fun _ => by kernel_rfl
  have q2 : ∀ W, (binOp .eql 39 (.agg #[.int .i64 2, .int .i64 1, .int .i64 1, .int .i64 1, .int .u64 0, .int .u64 1]) (.agg #[.int .i64 2, .int .i64 1, .int .i64 1, .int .i64 1, .int .u64 0, .int .u64 1])).run Tryz.prog W = .ok (.bool true) W := fun _ => by kernel_rfl
  have hg2 : g < w2.heap.size := by have := hb12.size; omega
  have HB2 := hide (HB1.out.trans (hb12.mono HB1.out.size))
  have HSL2 := hide (HSL.out.below hb12 (Nat.le_refl _))
  have hw2 : (w2.alloc (.cells #[.int .u64 0, .int .u64 1] 37)).heap[w2.heap.size]? = some (.cells #[.int .u64 0, .int .u64 1] 37 (0, 0)) := heap_alloc_new _ _
  have NS := same_any _ _ [0, 1] [0, 1] _ (hu.below ((Below.refl _ w2).alloc (Nat.le_refl _) (.cells #[.int .u64 0, .int .u64 1] 37)) (Nat.le_refl _)) (lit_ints (kk := .u64) [0, 1] hw2 (by decide))
  have HNS := hide NS
  have hul : ∃ A cc, u = .slice A 2 cc := by obtain ⟨A, cc, e, _⟩ := hu; exact ⟨A, cc, e⟩
  obtain ⟨Au, cu, rfl⟩ := hul
  clear hb2 hb12 hrow2 hc hu hw2 NS HSL HROW HN1
  go_wp2_with fail
  refine HNS.out.mono ?_
  rintro e w3 ⟨he, q, hw3⟩
  have he' : e = .returned (.bool true) := he.trans (by simp)
  subst he'
  clear he HNS
  have hb23 : Below w2.heap.size w2 w3 := by rw [hw3]; exact below_drewN ((Below.refl _ w2).alloc (Nat.le_refl _) _) q
  have HSL3 := hide (HSL2.out.below hb23 (Nat.le_refl _))
  have HB3 := hide (HB2.out.trans (hb23.mono HB2.out.size))
  have NO := ofW (w := w3) 1 (-1) HSL3.out (by decide)
  have HNO := hide NO
  clear hw3 hb23 NO HSL2 HB2 c0 c1 c2 c3 c4 c5 c6 c7 c8 c9 c10 c11 q1 q2
  go_wp2_with fail
  refine HNO.out.mono ?_
  rintro e w4 ⟨u4, rfl, ho4, hb4⟩
  obtain ⟨A4, c4, rfl⟩ := own_slice ho4
  rw [show (ofL taL 1 (-1) taL.length).length = 2 from one_of]
  have HSL4 := hide (HSL3.out.below hb4 (Nat.le_refl _))
  have HB4 := hide (HB3.out.trans (hb4.mono HB3.out.size))
  have NW := wrW (w := w4) 1 HSL4.out (by decide)
  have HNW := hide NW
  clear ho4 hb4 NW HNO HSL3 HB3
  go_wp2_with fail
  refine HNW.out.mono ?_
  rintro e w5 ⟨u5, rfl, ho5, hb5⟩
  obtain ⟨A5, c5, rfl, _⟩ := ho5
  rw [show (Lib.compact (srt (wrL taL 1 taL.length))).length = 1 from one_wr]
  have HB5 := hide (HB4.out.trans (hb5.mono HB4.out.size))
  clear hb5 HNW HSL4 HB4
  go_wp2
  go_ret
  exact ⟨rfl, HB5.out⟩
end Go.Proofs.YtfghmlpjbedomaaGreat
