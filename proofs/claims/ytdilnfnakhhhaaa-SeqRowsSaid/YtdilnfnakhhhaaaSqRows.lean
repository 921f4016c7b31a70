/- SeqRows: for every input the law returns true, and the input reads as it did. -/
import Derived.Test.YtdilnfnakhhhaaaRow
import Derived.Test.YtdilnfnakhhhaaaSqk
import Derived.Deep.QuietTactic
import Derived.BigQuiet
namespace Go.Proofs.Ytdilnfnakhhhaaa
open Go.ChangeShapes Go.WideShapes Go.ChangeAt Go.RowKit

theorem put_E (n : Int) (hn : n = 2 ∨ n = 3) (l : List Int) (a : Int) (h : l.length < 8) : apE n l 0 a = 0 ∧ apL n l 0 a = l ++ [a] := by
  have hr : rightB17 n l.length = true := by rcases hn with rfl | rfl <;> (simp [rightB17]; omega)
  have hr' : ¬ rightB17 n l.length = false := by rw [hr]; decide
  have hk : (0 : Int) ≤ 0 ∧ 0 < kindsI n := by rcases hn with rfl | rfl <;> decide
  unfold apE apL
  rw [if_neg hr', if_neg hr', if_pos hk, if_pos hk]
  have h8 : ¬ 8 ≤ l.length := by omega
  rcases hn with rfl | rfl
  · exact ⟨by show rowE l 0 = 0; unfold rowE; rw [if_pos rfl, if_neg h8], by show rowL (l.length - 1) l 0 a = _; unfold rowL; rw [if_pos rfl, if_neg h8]⟩
  · exact ⟨by show rowE l 0 = 0; unfold rowE; rw [if_pos rfl, if_neg h8], by show rowL 0 l 0 a = _; unfold rowL; rw [if_pos rfl, if_neg h8]⟩
theorem pop_E (l : List Int) (x : Int) (h : (l ++ [x]).length ≤ 8) : apE 2 (l ++ [x]) 1 0 = 0 ∧ apV 2 (l ++ [x]) 1 0 = x ∧ apL 2 (l ++ [x]) 1 0 = l := by
  have hr : rightB17 2 (l ++ [x]).length = true := by unfold rightB17; rw [if_neg (by decide), if_pos (by decide)]; simpa using h
  have hr' : ¬ rightB17 2 (l ++ [x]).length = false := by rw [hr]; decide
  have hk : (0 : Int) ≤ 1 ∧ 1 < kindsI 2 := by decide
  have h0 : ¬ (l ++ [x]).length = 0 := by simp
  have hp : (l ++ [x]).length - 1 = l.length := by simp
  unfold apE apV apL
  rw [if_neg hr', if_neg hr', if_neg hr', if_pos hk, if_pos hk, if_pos hk]
  refine ⟨?_, ?_, ?_⟩
  · show rowE (l ++ [x]) 1 = 0; unfold rowE; rw [if_neg (by decide), if_neg h0]
  · show rowV _ (l ++ [x]) 1 = x; unfold rowV; rw [if_neg (by decide), hp]; simp
  · show rowL _ (l ++ [x]) 1 0 = l; unfold rowL; rw [if_neg (by decide), if_neg h0, if_pos rfl, hp]
    rw [List.eraseIdx_append_of_length_le (Nat.le_refl _)]; simp
theorem deq_E (l : List Int) (x : Int) (h : (x :: l).length ≤ 8) : apE 3 (x :: l) 1 0 = 0 ∧ apV 3 (x :: l) 1 0 = x ∧ apL 3 (x :: l) 1 0 = l := by
  have hr : rightB17 3 (x :: l).length = true := by unfold rightB17; rw [if_neg (by decide), if_pos (by decide)]; simpa using h
  have hr' : ¬ rightB17 3 (x :: l).length = false := by rw [hr]; decide
  have hk : (0 : Int) ≤ 1 ∧ 1 < kindsI 3 := by decide
  have h0 : ¬ (x :: l).length = 0 := by simp
  unfold apE apV apL
  rw [if_neg hr', if_neg hr', if_neg hr', if_pos hk, if_pos hk, if_pos hk]
  refine ⟨?_, ?_, ?_⟩
  · show rowE (x :: l) 1 = 0; unfold rowE; rw [if_neg (by decide), if_neg h0]
  · show rowV 0 (x :: l) 1 = x; unfold rowV; rw [if_neg (by decide)]; simp
  · show rowL 0 (x :: l) 1 0 = l; unfold rowL; rw [if_neg (by decide), if_neg h0, if_pos rfl]; simp

set_option maxRecDepth 100000 in
set_option maxHeartbeats 4000000 in
theorem law_rows (A0 : Option Addr) (m0 c0 : Nat) (xs : List Int) (w : World) (h : SlW w (.slice A0 m0 c0) xs) (hm0 : xs.length = m0) (hx : ∀ x ∈ xs, U64 x) (hmax : m0 ≤ 9223372036854775807) :
    Calls Try.prog 9 #[.slice A0 m0 c0] w fun e w' => e = .returned (.bool true) ∧ Below w.heap.size w w' := by
  have HM := hide hm0
  have HX := hide hx
  clear hm0 hx
  go_enter Try.func9, Try.ntmps9
  go_wp2
  go_loopw [3, 4, 5] (fun a b n wr => ∃ (k : Nat) (A : Option Addr) (c : Nat) (A' : Option Addr) (c' : Nat), k ≤ m0 ∧ k ≤ 8 ∧ a = .slice A k c ∧ b = .slice A' k c' ∧ n = .int .i64 k ∧ Hid (SlW wr (.slice A k c) (xs.take k)) ∧ Hid (SlW wr (.slice A' k c') (xs.take k)) ∧ Hid (Below w.heap.size w wr)) (fun _ _ n _ => 8 - (intOf n).toNat)
  case atStart => exact ⟨0, none, 0, none, 0, Nat.zero_le _, by omega, rfl, rfl, rfl, hide (sl_nothing w none 0 rfl), hide (sl_nothing w none 0 rfl), hide (Below.refl _ _)⟩
  case round =>
    obtain ⟨k, A, c, A', c', hk, hk8, rfl, rfl, rfl, hsa, hsb, hB⟩ := hrel
    have hB0 := hB.out
    by_cases hlt : k < m0 ∧ k < 8
    · obtain ⟨hl1, hl2⟩ := hlt
      obtain ⟨x, hxk⟩ : ∃ x, xs[k]? = some x := ⟨_, List.getElem?_eq_getElem (by have := HM.out; omega)⟩
      have hU : U64 x := HX.out x (List.mem_of_getElem? hxk)
      obtain ⟨b, o, rfl, hc, hb⟩ := sl_at (h.below hB0 (Nat.le_refl _)) k x hxk
      have hlen : (xs.take k).length = k := by rw [List.length_take]; have := HM.out; omega
      have hts : xs.take (k + 1) = xs.take k ++ [x] := by rw [List.take_add_one, hxk]; rfl
      have hlen' : (xs.take (k + 1)).length = k + 1 := by rw [List.length_take]; have := HM.out; omega
      obtain ⟨E2, L2⟩ := put_E 2 (Or.inl rfl) (xs.take k) x (by omega)
      obtain ⟨E3, L3⟩ := put_E 3 (Or.inr rfl) (xs.take k) x (by omega)
      rw [← hts] at L2 L3
      have N0 := fun W h => apply_any 2 0 x (.slice A k c) (xs.take k) W h (by omega) (fun y hy => HX.out y (List.mem_of_mem_take hy)) hU 0 _ (xs.take (k + 1)) (k + 1) E2 rfl L2 hlen'
      have N1 := fun W h => apply_any 3 0 x (.slice A' k c') (xs.take k) W h (by omega) (fun y hy => HX.out y (List.mem_of_mem_take hy)) hU 0 _ (xs.take (k + 1)) (k + 1) E3 rfl L3 hlen'
      generalize apV 2 (xs.take k) 0 x = V2 at N0
      generalize apV 3 (xs.take k) 0 x = V3 at N1
      have q0 : (0 : Int) ≤ (k : Int) := by omega
      have q1 : (k : Int) < (m0 : Int) := by omega
      clear hts hlen hlen' E2 E3 L2 L3 hxk hU h
      go_wp2_with fail
      refine (N0 _ hsa.out).mono ?_
      rintro e w1 ⟨A1, c1, rfl, h1, hb1⟩
      have hB1 : Below w.heap.size w w1 := hB0.trans (hb1.mono hB0.size)
      have hc1 : w1.cell? ⟨b, o + k, none⟩ = some (.int .u64 x) := (hb1.cell (p := ⟨b, o + k, none⟩) hb).trans hc
      have hb1' : b < w1.heap.size := Nat.lt_of_lt_of_le hb hb1.size
      go_wp2_with fail
      refine (N1 _ (hsb.out.below ((hb1).alloc hb1.size _) (Nat.le_refl _))).mono ?_
      rintro e w2 ⟨A2, c2, rfl, h2, hb2⟩
      have hB2 : Below w.heap.size w w2 := (hB1.alloc hB1.size _).trans (hb2.mono (by have := hB1.size; simp; omega))
      have h12 : SlW w2 (.slice A1 (k + 1) c1) (xs.take (k + 1)) := (h1.alloc _).below hb2 (Nat.le_refl _)
      obtain ⟨t0, t1, t2, _, _, _, tz⟩ := cells3 ((hb2.block w1.heap.size (by simp)).trans (heap_alloc_new _ _))
      clear hb1 hb2 h1 hB1 hc hc1 N0 N1 hB hB0
      go_wp2
      go_roundw
      case rel => exact ⟨k + 1, A1, c1, A2, c2, by omega, by omega, rfl, rfl, by go_num, hide (h12.alloc _), hide (h2.alloc _), hide (hB2.alloc hB2.size _)⟩
      case measure => simp [intOf] <;> omega
    · have hk12 : k = m0 ∨ k = 8 := by omega
      have e1 : decide (k < m0) = true ∧ decide ((k : Int) < 8) = false ∨ decide (k < m0) = false := by
        by_cases h1 : k < m0
        · exact Or.inl ⟨by simpa using h1, by simp; omega⟩
        · exact Or.inr (by simpa using h1)
      clear hlt hk12
      rcases e1 with ⟨e1, e2⟩ | e1
      all_goals
        go_wp2
        go_loopw [3, 4, 58] (fun a b i wr => ∃ (j : Nat) (A : Option Addr) (c : Nat) (A' : Option Addr) (c' : Nat), j ≤ k ∧ a = .slice A (k - j) c ∧ b = .slice A' (k - j) c' ∧ i = .int .i64 j ∧ Hid (SlW wr (.slice A (k - j) c) (xs.take (k - j))) ∧ Hid (SlW wr (.slice A' (k - j) c') ((xs.take k).drop j)) ∧ Hid (Below w.heap.size w wr)) (fun _ _ i _ => k - (intOf i).toNat)
        case atStart => exact ⟨0, A, c, A', c', Nat.zero_le _, rfl, rfl, rfl, hsa, hsb, hB⟩
        case round =>
          clear hsa hsb hB0 hB
          obtain ⟨j, A, c, A', c', hj, rfl, rfl, rfl, hsa, hsb, hB⟩ := hrel
          have hB0 := hB.out
          by_cases hjk : j < k
          · have HP := hide (show (k - 1 - j) + 1 = k - j by omega)
            obtain ⟨p, hp⟩ : ∃ p, k - 1 - j = p := ⟨_, rfl⟩
            have hp1 : k - j = p + 1 := by omega
            have hp2 : p < m0 := by omega
            rw [hp1] at hsa hsb ⊢
            clear HP
            obtain ⟨x, hxp⟩ : ∃ x, xs[p]? = some x := ⟨_, List.getElem?_eq_getElem (by have := HM.out; omega)⟩
            obtain ⟨y, hyj⟩ : ∃ y, xs[j]? = some y := ⟨_, List.getElem?_eq_getElem (by have := HM.out; omega)⟩
            obtain ⟨b, o, hA0, hc, hb⟩ := sl_at (h.below hB0 (Nat.le_refl _)) p x hxp
            subst hA0
            obtain ⟨b', o', hA0, hd, _⟩ := sl_at (h.below hB0 (Nat.le_refl _)) j y hyj
            cases hA0
            have hts : xs.take (p + 1) = xs.take p ++ [x] := by rw [List.take_add_one, hxp]; rfl
            have hds : (xs.take k).drop j = y :: (xs.take k).drop (j + 1) := by
              rw [List.drop_eq_getElem?_toList_append, List.getElem?_take, if_pos hjk, hyj]; rfl
            have hlen : (xs.take p).length = p := by rw [List.length_take]; have := HM.out; omega
            have hlen2 : ((xs.take k).drop (j + 1)).length = p := by rw [List.length_drop, List.length_take]; have := HM.out; omega
            obtain ⟨E2, V2, L2⟩ := pop_E (xs.take p) x (by rw [List.length_append, hlen]; simp; omega)
            obtain ⟨E3, V3, L3⟩ := deq_E ((xs.take k).drop (j + 1)) y (by rw [List.length_cons, hlen2]; omega)
            rw [← hts] at E2 V2 L2
            rw [← hds] at E3 V3 L3
            have hu2 : ∀ z ∈ xs.take (p + 1), U64 z := fun z hz => HX.out z (List.mem_of_mem_take hz)
            have hu3 : ∀ z ∈ (xs.take k).drop j, U64 z := fun z hz => HX.out z (List.mem_of_mem_take (List.mem_of_mem_drop hz))
            have N0 := fun W h => apply_any 2 1 0 (.slice A (p + 1) c) (xs.take (p + 1)) W h (by rw [hts, List.length_append, hlen]; simp; omega) hu2 (by simp [U64]) 0 x (xs.take p) p E2 V2 L2 hlen
            have N1 := fun W h => apply_any 3 1 0 (.slice A' (p + 1) c') ((xs.take k).drop j) W h (by rw [hds, List.length_cons, hlen2]; omega) hu3 (by simp [U64]) 0 y ((xs.take k).drop (j + 1)) p E3 V3 L3 hlen2
            have q0 : (0 : Int) ≤ (p : Int) := by omega
            have q1 : (p : Int) < (m0 : Int) := by omega
            have q2 : (0 : Int) ≤ (j : Int) := by omega
            have q3 : (j : Int) < (m0 : Int) := by omega
            have hw1 : IntKind.i64.wrap ((k : Int) - 1) = (k : Int) - 1 := IntWalk.i64_in _ (by omega)
            have hw2 : IntKind.i64.wrap ((k : Int) - 1 - (j : Int)) = (p : Int) := by rw [show (k : Int) - 1 - (j : Int) = (p : Int) by omega]; exact IntWalk.i64_in _ (by omega)
            have hw3 : (k : Int) - 1 - (j : Int) = (p : Int) := by omega
            have HP := hide hp1
            have HW1 := hide hw1
            have HW2 := hide hw2
            have HW3 := hide hw3
            clear hts hds hlen hlen2 E2 V2 L2 E3 V3 L3 hu2 hu3 hxp hyj h hp hp1 hw1 hw2 hw3
            go_wp2_with fail
            refine (N0 _ hsa.out).mono ?_
            rintro e w1 ⟨A1, c1, rfl, h1, hb1⟩
            have hB1 : Below w.heap.size w w1 := hB0.trans (hb1.mono hB0.size)
            go_wp2_with fail
            refine (N1 _ (hsb.out.below ((hb1).alloc hb1.size _) (Nat.le_refl _))).mono ?_
            rintro e w2 ⟨A2, c2, rfl, h2, hb2⟩
            have hb12 := ((hb1).alloc hb1.size (.cells #[.int .i64 0, .int .u64 x, .slice none 0 0] 34)).trans (hb2.mono (by have := hb1.size; simp; omega))
            have hc2 : w2.cell? ⟨b, o + p, none⟩ = some (.int .u64 x) := (hb12.cell (p := ⟨b, o + p, none⟩) hb).trans hc
            have hd2 : w2.cell? ⟨b, o + j, none⟩ = some (.int .u64 y) := (hb12.cell (p := ⟨b, o + j, none⟩) hb).trans hd
            have hz2 : b < w2.heap.size := Nat.lt_of_lt_of_le hb hb12.size
            have hB2 : Below w.heap.size w w2 := (hB1.alloc hB1.size _).trans (hb2.mono (by have := hB1.size; simp; omega))
            have h12 : SlW w2 (.slice A1 p c1) (xs.take p) := (h1.alloc _).below hb2 (Nat.le_refl _)
            obtain ⟨t0, t1, t2, _, _, _, tz⟩ := cells3 ((hb2.block w1.heap.size (by simp)).trans (heap_alloc_new _ _))
            clear hb1 hb2 h1 hB1 hc hd N0 N1 hB hB0 hb12
            go_wp2
            have hw1 := HW1.out
            have hw2 := HW2.out
            have hw3 := HW3.out
            go_quiet (fail)
            clear hw1 hw2 hw3
            go_wp2
            go_roundw
            case rel =>
              have hkj : k - (j + 1) = p := by have := HP.out; omega
              refine ⟨j + 1, A1, c1, A2, c2, by omega, ?_⟩
              rw [hkj]
              exact ⟨rfl, rfl, by go_num, hide ((h12.alloc _).drewN _), hide ((h2.alloc _).drewN _), hide (below_drewN (hB2.alloc hB2.size _) _)⟩
            case measure => simp [intOf] <;> omega
          · obtain rfl : j = k := by omega
            rw [Nat.sub_self] at hsa hsb ⊢
            have hs1 : SlW wr (.slice A 0 c) [] := by have := hsa.out; simpa using this
            have hs2 : SlW wr (.slice A' 0 c') [] := by
              have := hsb.out
              rw [List.drop_eq_nil_of_le (by rw [List.length_take]; omega)] at this
              exact this
            have N0 := fun v W h => apply_any 2 1 0 v [] W h (by decide) (by simp) (by simp [U64]) 7 0 [] 0 (by decide) (by decide) (by decide) rfl
            have N1 := fun v W h => apply_any 3 2 0 v [] W h (by decide) (by simp) (by simp [U64]) 7 0 [] 0 (by decide) (by decide) (by decide) rfl
            clear hsa hsb
            go_wp2_with fail
            refine (N0 _ _ hs1).mono ?_
            rintro e w1 ⟨A1, c1, rfl, h1, hb1⟩
            have hB1 : Below w.heap.size w w1 := hB0.trans (hb1.mono hB0.size)
            go_wp2_with fail
            refine (N1 _ _ (hs2.below ((hb1).alloc hb1.size _) (Nat.le_refl _))).mono ?_
            rintro e w2 ⟨A2, c2, rfl, h2, hb2⟩
            have hB2 : Below w.heap.size w w2 := (hB1.alloc hB1.size _).trans (hb2.mono (by have := hB1.size; simp; omega))
            obtain ⟨t0, t1, t2, _, _, _, tz⟩ := cells3 ((hb2.block w1.heap.size (by simp)).trans (heap_alloc_new _ _))
            clear hb1 hb2 h1 h2 hs1 hs2 hB1 N0 N1 hB hB0
            go_wp2_with fail
            refine (known17 _).mono ?_
            rintro e w3 ⟨rfl, hb3⟩
            have hB3 := (hB2.alloc hB2.size (.cells #[.int .i64 7, .int .u64 0, .slice none 0 0] 34)).trans (hb3.mono (by have := hB2.size; simp; omega))
            go_wp2
            go_ret
            exact ⟨rfl, hB3⟩

set_option maxRecDepth 100000 in
theorem seqRows_lifted (os : Os) (started : os.Started) (H : Type) (enc : TypeId × Value → H) :
    ReturnsInHanded {} Try.checked os 9 .any (Rows.seqRowsSpec.pre6 enc Try.prog Try.f9 Rows.seqRowsRow.domain false) (Rows.seqRowsSpec.post enc Try.prog Try.f9 false true false false) := by
  refine returnsInHanded_of_change (C := Try.checked) Try.own started (by kernel_rfl) Try.func9
    (ChangeSpec.witness6 (enc := enc) (C := Try.checked) false ⟨#[], #[.slice none 0 0], []⟩ 8 (by kernel_rfl) (by kernel_rfl) (by kernel_rfl) (by kernel_rfl)) ?_
  intro W base args ds gs before hval0 hW hcnd _
  have hval : ∀ (j : Nat) t v, Try.f9.params[j]? = some t → args[j]? = some v → Value.okWide Try.prog W .any base t v := hval0
  have hW' := hW
  obtain ⟨p, q, hA0, hV, rfl, hfz, hnd⟩ := hW
  have hA : DataW.TrodAll enc Try.prog W 0 (fun _ => true) true Try.f9.params.toList args.toList ds p := hA0
  have hA1 := hA
  rw [Try.params9] at hA hval
  obtain ⟨v0, d0, rfl, rfl, h0⟩ := trodAll_one hA
  obtain ⟨rfl, rfl⟩ := trodVars_none hV
  obtain ⟨xs, hxs, hwf, hm⟩ := read_words (hval 0 _ v0 rfl rfl) h0
  simp only [List.append_nil] at hW'
  have hxs' := hxs
  obtain ⟨A, c, rfl, _, _, _⟩ := hxs'
  refine (law_rows A _ c xs W hxs rfl (fun x hx => u64_of (hwf x hx)) (by unfold maxLen at hm; omega)).mono fun e W' ⟨he, hb⟩ => ?_
  subst he
  exact ⟨_, rfl, law_post rfl rfl hW' hA1 rfl rfl rfl (by rw [Try.params9]; intro t ht; simp only [List.mem_cons, List.not_mem_nil, or_false] at ht; rcases ht with rfl; exact ⟨by kernel_rfl, of_decide_eq_true (by kernel_rfl)⟩) hb⟩

theorem seqRows_holds : Rows.SeqRowsSaid :=
  OpenClaim.holds_of_wide 9 Try.f9 rfl rfl rfl rfl rfl rfl rfl ⟨rfl, rfl, rfl, rfl, rfl⟩ rfl rfl rfl rfl rfl (by kernel_rfl) Try.func9 (by kernel_rfl)
    (of_decide_eq_true (by kernel_rfl)) (by unfold Func.isWrapper; first | (rw [if_pos (by decide +kernel)]; kernel_rfl) | (rw [if_neg (by decide +kernel)]; exact ⟨rfl, rfl⟩))
    (fun os started H enc _ => seqRows_lifted os started H enc)
#print axioms seqRows_holds
end Go.Proofs.Ytdilnfnakhhhaaa
