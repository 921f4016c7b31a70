import Derived.Test.YtmiimpmfkjcjlaaGreatBun9
import Derived.Deep.QuietTactic
import Derived.BigQuiet
import Derived.Test.YtmiimpmfkjcjlaaGreatBun12
import Derived.Test.YtmiimpmfkjcjlaaGreatBun5
import Derived.Laws.OwnMore
import Derived.Test.YtmiimpmfkjcjlaaGreatBun1
namespace Go.Proofs.YtmiimpmfkjcjlaaGreat
open Go.RowKit
theorem kcmp_step {a b : List Int} {k : Nat} {x y : Int} (hx : a[k]? = some x) (hy : b[k]? = some y) : kcmp (a.drop k) (b.drop k) = if x < y then -1 else if y < x then 1 else kcmp (a.drop (k + 1)) (b.drop (k + 1)) := by
  obtain ⟨h1, h2⟩ := List.getElem?_eq_some_iff.1 hx
  obtain ⟨h3, h4⟩ := List.getElem?_eq_some_iff.1 hy
  rw [List.drop_eq_getElem_cons h1, List.drop_eq_getElem_cons h3, h2, h4]
  rfl
theorem kcmp_end {a b : List Int} {k : Nat} (h1 : k ≤ a.length) (h2 : k ≤ b.length) (h : k = a.length ∨ k = b.length) : decide (kcmp (a.drop k) (b.drop k) < 0) = decide (a.length < b.length) := by
  rcases Nat.lt_or_eq_of_le h1 with l1 | l1 <;> rcases Nat.lt_or_eq_of_le h2 with l2 | l2
  · omega
  · rw [List.drop_eq_getElem_cons l1, List.drop_of_length_le (show b.length ≤ k by omega)]
    rw [decide_eq_false (show ¬ a.length < b.length by omega)]
    rfl
  · rw [List.drop_of_length_le (show a.length ≤ k by omega), List.drop_eq_getElem_cons l2]
    rw [decide_eq_true (show a.length < b.length by omega)]
    rfl
  · rw [List.drop_of_length_le (show a.length ≤ k by omega), List.drop_of_length_le (show b.length ≤ k by omega)]
    rw [decide_eq_false (show ¬ a.length < b.length by omega)]
    rfl
set_option maxRecDepth 100000 in
set_option maxHeartbeats 2000000 in
theorem pahead_any (v1 v2 : Value) (a b : List Int) (w : World) (h1 : SlI w v1 a) (h2 : SlI w v2 b) :
    Calls Tryz.prog 106 #[v1, v2] w fun e w' => e = .returned (.bool (decide (kcmp a b < 0))) ∧ ∃ m, w' = w.drewN m := by
  obtain ⟨A, cA, rfl, a1, a2, a3⟩ := h1
  obtain ⟨B, cB, rfl, b1, b2, b3⟩ := h2
  have hlx : (a.length : Int) ≤ 9223372036854775807 := by unfold maxLen at a2; omega
  have hly : (b.length : Int) ≤ 9223372036854775807 := by unfold maxLen at b2; omega
  obtain ⟨R, hR⟩ : ∃ R, decide (kcmp a b < 0) = R := ⟨_, rfl⟩
  rw [hR]
  have HR := hide hR
  clear hR
  go_enter Tryz.func106, Tryz.ntmps106
  go_wp2
  go_loopw [5] (fun i wr => ∃ k : Nat, k ≤ a.length ∧ k ≤ b.length ∧ i = .int .i64 k ∧ Hid (kcmp a b = kcmp (a.drop k) (b.drop k)) ∧ Hid (∃ m, wr = w.drewN m)) (fun i _ => a.length - (intOf i).toNat)
  case atStart => exact ⟨0, Nat.zero_le _, Nat.zero_le _, rfl, hide rfl, hide ⟨0, rfl⟩⟩
  case round =>
    obtain ⟨k, hk, hkb, rfl, hc, hm⟩ := hrel
    obtain ⟨m, rfl⟩ := hm.out
    by_cases l1 : k < a.length
    · by_cases l2 : k < b.length
      · obtain ⟨x, hx⟩ : ∃ x, a[k]? = some x := ⟨_, List.getElem?_eq_getElem l1⟩
        obtain ⟨y, hy⟩ : ∃ y, b[k]? = some y := ⟨_, List.getElem?_eq_getElem l2⟩
        obtain ⟨g, o, rfl, hg, hcx⟩ := a3 k x hx
        obtain ⟨g', o', rfl, hg', hcy⟩ := b3 k y hy
        have c1 := nt_cell hcx
        have c2 := nt_cell hcy
        simp only [Nat.mul_one] at c1 c2
        have hs := kcmp_step hx hy
        have q0 : (0 : Int) ≤ (k : Int) := by omega
        have q1 : (k : Int) < (a.length : Int) := by omega
        have q2 : (k : Int) < (b.length : Int) := by omega
        have d1 : decide ((k : Int) < (a.length : Int)) = true := by simp; omega
        have d2 : decide ((k : Int) < (b.length : Int)) = true := by simp; omega
        clear a3 b3 hcx hcy hx hy
        by_cases hxy : x = y
        · have e1 : (x != y) = false := by simp [hxy]
          have e2 : (x == y) = true := by simp [hxy]
          have HN : Hid (kcmp a b = kcmp (a.drop (k + 1)) (b.drop (k + 1))) := hide (by rw [hc.out, hs, if_neg (by omega), if_neg (by omega)])
          clear hs hxy
          go_wp2
          go_quiet (fail)
          go_wp2
          go_roundw
          case rel => exact ⟨k + 1, by omega, by omega, by go_num, HN, hide ⟨_, rfl⟩⟩
          case measure => first | (simp [intOf]; done) | (simp [intOf]; omega)
        · have e1 : (x != y) = true := by simp [hxy]
          have e2 : (x == y) = false := by simp [hxy]
          have HF : Hid (decide (x < y) = R) := hide (by
            rw [← HR.out, hc.out, hs]
            by_cases hl : x < y
            · rw [if_pos hl, decide_eq_true hl]; rfl
            · rw [if_neg hl, if_pos (by omega), decide_eq_false hl]; rfl)
          have hne := hxy
          clear hs hxy
          go_wp2
          go_quiet (fail)
          go_wp2
          go_quiet (fail)
          go_wp2
          go_ret
          exact ⟨ret_bool HF.out, _, by rw [World.drewN_drewN, World.drewN_drewN]⟩
      · have HF : Hid (decide (a.length < b.length) = R) := hide (by rw [← HR.out, hc.out, kcmp_end hk hkb (Or.inr (by omega))])
        have d1 : decide ((k : Int) < (a.length : Int)) = true := by simp; omega
        have d2 : decide ((k : Int) < (b.length : Int)) = false := by simp; omega
        clear a3 b3
        go_wp2
        go_ret
        exact ⟨ret_bool (by first | exact HF.out | (rw [← HF.out]; simp)), m, rfl⟩
    · have HF : Hid (decide (a.length < b.length) = R) := hide (by rw [← HR.out, hc.out, kcmp_end hk hkb (Or.inl (by omega))])
      have d1 : decide ((k : Int) < (a.length : Int)) = false := by simp; omega
      clear a3 b3
      go_wp2
      go_ret
      exact ⟨ret_bool (by first | exact HF.out | (rw [← HF.out]; simp)), m, rfl⟩
set_option maxRecDepth 100000 in
set_option maxHeartbeats 2000000 in
theorem r4ahead_any (v1 v2 : Value) (a b : List Int) (w : World) (h1 : SlI w v1 a) (h2 : SlI w v2 b) :
    Calls Tryz.prog 100 #[v1, v2] w fun e w' => e = .returned (.bool (decide (kcmp a b < 0))) ∧ ∃ m, w' = w.drewN m := by
  obtain ⟨A, cA, rfl, a1, a2, a3⟩ := h1
  obtain ⟨B, cB, rfl, b1, b2, b3⟩ := h2
  have hlx : (a.length : Int) ≤ 9223372036854775807 := by unfold maxLen at a2; omega
  have hly : (b.length : Int) ≤ 9223372036854775807 := by unfold maxLen at b2; omega
  obtain ⟨R, hR⟩ : ∃ R, decide (kcmp a b < 0) = R := ⟨_, rfl⟩
  rw [hR]
  have HR := hide hR
  clear hR
  go_enter Tryz.func100, Tryz.ntmps100
  go_wp2
  go_loopw [5] (fun i wr => ∃ k : Nat, k ≤ a.length ∧ k ≤ b.length ∧ i = .int .i64 k ∧ Hid (kcmp a b = kcmp (a.drop k) (b.drop k)) ∧ Hid (∃ m, wr = w.drewN m)) (fun i _ => a.length - (intOf i).toNat)
  case atStart => exact ⟨0, Nat.zero_le _, Nat.zero_le _, rfl, hide rfl, hide ⟨0, rfl⟩⟩
  case round =>
    obtain ⟨k, hk, hkb, rfl, hc, hm⟩ := hrel
    obtain ⟨m, rfl⟩ := hm.out
    by_cases l1 : k < a.length
    · by_cases l2 : k < b.length
      · obtain ⟨x, hx⟩ : ∃ x, a[k]? = some x := ⟨_, List.getElem?_eq_getElem l1⟩
        obtain ⟨y, hy⟩ : ∃ y, b[k]? = some y := ⟨_, List.getElem?_eq_getElem l2⟩
        obtain ⟨g, o, rfl, hg, hcx⟩ := a3 k x hx
        obtain ⟨g', o', rfl, hg', hcy⟩ := b3 k y hy
        have c1 := nt_cell hcx
        have c2 := nt_cell hcy
        simp only [Nat.mul_one] at c1 c2
        have hs := kcmp_step hx hy
        have q0 : (0 : Int) ≤ (k : Int) := by omega
        have q1 : (k : Int) < (a.length : Int) := by omega
        have q2 : (k : Int) < (b.length : Int) := by omega
        have d1 : decide ((k : Int) < (a.length : Int)) = true := by simp; omega
        have d2 : decide ((k : Int) < (b.length : Int)) = true := by simp; omega
        clear a3 b3 hcx hcy hx hy
        by_cases hxy : x = y
        · have e1 : (x != y) = false := by simp [hxy]
          have e2 : (x == y) = true := by simp [hxy]
          have HN : Hid (kcmp a b = kcmp (a.drop (k + 1)) (b.drop (k + 1))) := hide (by rw [hc.out, hs, if_neg (by omega), if_neg (by omega)])
          clear hs hxy
          go_wp2
          go_quiet (fail)
          go_wp2
          go_roundw
          case rel => exact ⟨k + 1, by omega, by omega, by go_num, HN, hide ⟨_, rfl⟩⟩
          case measure => first | (simp [intOf]; done) | (simp [intOf]; omega)
        · have e1 : (x != y) = true := by simp [hxy]
          have e2 : (x == y) = false := by simp [hxy]
          have HF : Hid (decide (x < y) = R) := hide (by
            rw [← HR.out, hc.out, hs]
            by_cases hl : x < y
            · rw [if_pos hl, decide_eq_true hl]; rfl
            · rw [if_neg hl, if_pos (by omega), decide_eq_false hl]; rfl)
          have hne := hxy
          clear hs hxy
          go_wp2
          go_quiet (fail)
          go_wp2
          go_quiet (fail)
          go_wp2
          go_ret
          exact ⟨ret_bool HF.out, _, by rw [World.drewN_drewN, World.drewN_drewN]⟩
      · have HF : Hid (decide (a.length < b.length) = R) := hide (by rw [← HR.out, hc.out, kcmp_end hk hkb (Or.inr (by omega))])
        have d1 : decide ((k : Int) < (a.length : Int)) = true := by simp; omega
        have d2 : decide ((k : Int) < (b.length : Int)) = false := by simp; omega
        clear a3 b3
        go_wp2
        go_ret
        exact ⟨ret_bool (by first | exact HF.out | (rw [← HF.out]; simp)), m, rfl⟩
    · have HF : Hid (decide (a.length < b.length) = R) := hide (by rw [← HR.out, hc.out, kcmp_end hk hkb (Or.inl (by omega))])
      have d1 : decide ((k : Int) < (a.length : Int)) = false := by simp; omega
      clear a3 b3
      go_wp2
      go_ret
      exact ⟨ret_bool (by first | exact HF.out | (rw [← HF.out]; simp)), m, rfl⟩
end Go.Proofs.YtmiimpmfkjcjlaaGreat

namespace Go.Proofs.YtmiimpmfkjcjlaaGreat
open Go.RowKit
theorem IsOrd.skip {ky : Nat → List Int} {i : Nat} {L : List Nat} (h : IsOrd ky i L) (hk : ky i = []) : IsOrd ky (i + 1) L := by
  refine ⟨h.1, fun x => (h.2 x).trans ⟨fun ⟨h1, h2⟩ => ⟨by omega, h2⟩, fun ⟨h1, h2⟩ => ⟨?_, h2⟩⟩⟩
  by_cases e : x = i
  · subst e; exact absurd hk h2
  · omega
theorem IsOrd.ins {ky : Nat → List Int} {i k : Nat} {L : List Nat} (h : IsOrd ky i L) (hk : ky i ≠ []) (h1 : ∀ x ∈ L.drop k, LtK ky i x) (h2 : k = 0 ∨ ∃ x, L[k - 1]? = some x ∧ ¬ kcmp (ky i) (ky x) < 0) (hk0 : k ≤ L.length) : IsOrd ky (i + 1) (L.take k ++ i :: L.drop k) := by
  have hp : (L.take k ++ L.drop k).Pairwise (LtK ky) := by rw [List.take_append_drop]; exact h.1
  have hpw := List.pairwise_append.1 hp
  have hlast : ∀ a ∈ L.take k, LtK ky a i := by
    intro a ha
    rcases h2 with h2 | ⟨x, hx, hc⟩
    · subst h2
      simp at ha
    · have hxi : x < i := ((h.2 x).1 (List.mem_of_getElem? hx)).1
      have hxl : LtK ky x i := by
        have hcr := (Lt.cross (cfK_ok ky) (x := (x : Int)) (y := (i : Int)) (fun _ => by omega)).2
        exact hcr hc
      by_cases hax : a = x
      · subst hax; exact hxl
      · obtain ⟨j, hj, hja⟩ := List.mem_iff_getElem.1 ha
        rw [List.getElem_take] at hja
        rw [List.length_take] at hj
        obtain ⟨hkl, hxe⟩ := List.getElem?_eq_some_iff.1 hx
        have hjk : j < k - 1 := by
          rcases Nat.lt_or_ge j (k - 1) with hh | hh
          · exact hh
          · have : j = k - 1 := by omega
            subst this
            exact absurd (hja.symm.trans hxe) hax
        have := List.pairwise_iff_getElem.1 h.1 j (k - 1) (by omega) hkl hjk
        rw [hja, hxe] at this
        exact LtK.trans this hxl
  refine ⟨List.pairwise_append.2 ⟨hpw.1, List.pairwise_cons.2 ⟨h1, hpw.2.1⟩, fun a ha b hb => ?_⟩, fun x => ?_⟩
  · rcases List.mem_cons.1 hb with rfl | hb
    · exact hlast a ha
    · exact hpw.2.2 a ha b hb
  · have hm : x ∈ L.take k ++ i :: L.drop k ↔ x = i ∨ x ∈ L := by
      rw [List.mem_append, List.mem_cons]
      have : x ∈ L ↔ x ∈ L.take k ∨ x ∈ L.drop k := by rw [← List.mem_append, List.take_append_drop]
      rw [this]
      constructor
      · rintro (a | a | a)
        · exact Or.inr (Or.inl a)
        · exact Or.inl a
        · exact Or.inr (Or.inr a)
      · rintro (a | a | a)
        · exact Or.inr (Or.inl a)
        · exact Or.inl a
        · exact Or.inr (Or.inr a)
    rw [hm, h.2 x]
    constructor
    · rintro (rfl | ⟨a, b⟩)
      · exact ⟨by omega, hk⟩
      · exact ⟨by omega, b⟩
    · rintro ⟨a, b⟩
      by_cases e : x = i
      · exact Or.inl e
      · exact Or.inr ⟨by omega, b⟩
theorem IsOrd.nil (ky : Nat → List Int) : IsOrd ky 0 [] := ⟨List.Pairwise.nil, fun x => by simp⟩
structure EvKey (w : World) (v : Value) (es : List Ev) (ky : Nat → List Int) : Prop where
  evs : SlEv w v es
  key : ∀ (k : Nat) (e : Ev), es[k]? = some e → SlI w (.slice e.kA e.kN e.kC) (ky k)
theorem EvKey.below {w w' : World} {v : Value} {es : List Ev} {ky : Nat → List Int} (h : EvKey w v es ky) (hb : Below w.heap.size w w') : EvKey w' v es ky := ⟨h.evs.below hb (Nat.le_refl _), fun k e he => (h.key k e he).below hb (Nat.le_refl _)⟩
theorem iown_set {w : World} {B g n cap j : Nat} {xs : List Int} {y : Int} (hO : IOwn w B (.slice (some ⟨g, 0, none⟩) n cap) n xs) : IOwn (w.setCell ⟨g, j, none⟩ (.int .i64 y)) B (.slice (some ⟨g, 0, none⟩) n cap) n (xs.set j y) := by
  have := (World.ownsRow.stored hO j (.int .i64 y)).1
  rw [← List.map_set] at this
  exact this
theorem shift_eq {L : List Nat} {k : Nat} {x : Nat} {j : Int} (hk : 0 < k) (hx : L[k - 1]? = some x) : (ordI (L.take k) ++ j :: ordI (L.drop k)).set k (x : Int) = ordI (L.take (k - 1)) ++ (x : Int) :: ordI (L.drop (k - 1)) := by
  obtain ⟨h1, h2⟩ := List.getElem?_eq_some_iff.1 hx
  have hl : (ordI (L.take k)).length = k := by simp; omega
  rw [List.set_append_right _ _ (by omega), hl, Nat.sub_self, List.set_cons_zero]
  have e1 : L.take k = L.take (k - 1) ++ [x] := by
    have := List.take_add_one (l := L) (i := k - 1)
    rw [show k - 1 + 1 = k by omega, hx] at this
    exact this
  have e2 : L.drop (k - 1) = x :: L.drop k := by
    rw [List.drop_eq_getElem_cons h1, h2, show k - 1 + 1 = k by omega]
  rw [e1, e2]
  simp [ordI]
theorem fin_eq {L : List Nat} {k i : Nat} {j : Int} (hk : k ≤ L.length) : (ordI (L.take k) ++ j :: ordI (L.drop k)).set k (i : Int) = ordI (L.take k ++ i :: L.drop k) := by
  have hl : (ordI (L.take k)).length = k := by simp; omega
  rw [List.set_append_right _ _ (by omega), hl, Nat.sub_self, List.set_cons_zero]
  simp [ordI]
end Go.Proofs.YtmiimpmfkjcjlaaGreat

namespace Go.Proofs.YtmiimpmfkjcjlaaGreat
open Go.RowKit
def EvWf (e : Ev) : Prop := (Lit.int .i64 e.call).wf = true ∧ (Lit.int .i64 e.inv).wf = true ∧ (Lit.int .i64 e.resp).wf = true ∧ (Lit.int .i64 e.steps).wf = true
end Go.Proofs.YtmiimpmfkjcjlaaGreat

namespace Go.Proofs.YtmiimpmfkjcjlaaGreat
open Go.RowKit
end Go.Proofs.YtmiimpmfkjcjlaaGreat
