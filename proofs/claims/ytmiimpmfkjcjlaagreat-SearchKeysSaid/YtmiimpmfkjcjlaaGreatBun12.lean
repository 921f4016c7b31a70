import Derived.Test.YtmiimpmfkjcjlaaGreatBun8
import Derived.Test.YtmiimpmfkjcjlaaGreatBun11
import Derived.Test.YtmiimpmfkjcjlaaGreatBun5
import Derived.Deep.OwnRows
import Derived.Test.YtmiimpmfkjcjlaaGreatBun1
namespace Go.Proofs.YtmiimpmfkjcjlaaGreat
open Go.RowKit
theorem made_zero (W : World) (B N : Nat) (hB : B ≤ W.heap.size) (hN : N ≤ maxLen) : WOwn (W.alloc (.cells (madeCells #[.int .u64 0] N) 25)) B (.slice (some ⟨W.heap.size, 0, none⟩) N N) N (List.replicate N 0) := by
  have := World.ownsRow_lit (base := B) (e := 25) (size := 1) W (madeCells #[.int .u64 0] N) N hB hN (by simp [madeCells])
  have hl : (madeCells #[Value.int .u64 0] N).toList = List.replicate N (.int .u64 0) := by
    unfold madeCells
    apply List.ext_getElem?
    intro i
    simp [List.getElem?_replicate]
    by_cases h : i < N
    · simp [h, Nat.mod_one]
    · simp [h]
  rw [hl] at this
  show WOwn _ _ _ _ _
  unfold WOwn
  rw [List.map_replicate]
  exact this
theorem made_zero' (W : World) (B N g : Nat) (hg : g = W.heap.size) (hB : B ≤ W.heap.size) (hN : N ≤ maxLen) : WOwn (W.alloc (.cells (madeCells #[.int .u64 0] N) 25)) B (.slice (some ⟨g, 0, none⟩) N N) N (List.replicate N 0) := by
  subst hg
  exact made_zero W B N hB hN
theorem made_one' (W : World) (B g : Nat) (hg : g = W.heap.size) (hB : B ≤ W.heap.size) : WOwn (W.alloc (.cells #[.int .u64 0] 25)) B (.slice (some ⟨g, 0, none⟩) 1 1) 1 [0] := by
  subst hg
  exact World.ownsRow_lit (base := B) (e := 25) (size := 1) W #[.int .u64 0] 1 hB (by decide) (by simp)
theorem made_one (W : World) (B : Nat) (hB : B ≤ W.heap.size) : WOwn (W.alloc (.cells #[.int .u64 0] 25)) B (.slice (some ⟨W.heap.size, 0, none⟩) 1 1) 1 [0] :=
  World.ownsRow_lit (base := B) (e := 25) (size := 1) W #[.int .u64 0] 1 hB (by decide) (by simp)
theorem made_lit1 (W : World) (B : Nat) (x : Int) (hB : B ≤ W.heap.size) : WOwn (W.alloc (.cells #[.int .u64 x] 25)) B (.slice (some ⟨W.heap.size, 0, none⟩) 1 1) 1 [x] :=
  World.ownsRow_lit (base := B) (e := 25) (size := 1) W #[.int .u64 x] 1 hB (by decide) (by simp)
theorem WOwn.below {w w' : World} {B T n : Nat} {v : Value} {xs : List Int} (h : WOwn w B v n xs) (hb : Below T w w') (hT : w.heap.size ≤ T) : WOwn w' B v n xs := by
  obtain ⟨h1, h2 | ⟨g, cap, cur, e1, e2, e3, e4⟩⟩ := h
  · exact ⟨h1, Or.inl h2⟩
  · exact ⟨h1, Or.inr ⟨g, cap, cur, e1, e2, (hb.block g (Nat.lt_of_lt_of_le (Array.getElem?_eq_some_iff.1 e3).1 hT)).trans e3, e4⟩⟩
theorem own_len {w : World} {B n : Nat} {v : Value} {e : TypeId} {xs : List Value} (h : w.ownsRow B e 1 v n xs) : xs.length = n := by
  have := h.1
  omega
def NewMPost (n : Int) (s : Sp) (w : World) (e : Ending) (w' : World) : Prop :=
  (sizeE n s ≠ 0 ∧ e = .returned (.tuple #[.slice none 0 0, .int .i64 (sizeE n s)]) ∧ Below w.heap.size w w') ∨
  (sizeE n s = 0 ∧ ∃ v, e = .returned (.tuple #[v, .int .i64 0]) ∧ WOwn w' w.heap.size v (newM n s).length (newM n s) ∧ Below w.heap.size w w')
theorem WOwn.eq {w : World} {B n m : Nat} {v : Value} {xs ys : List Int} (h : WOwn w B v n xs) (hx : ys = xs) (hn : m = n) : WOwn w B v m ys := by subst hx hn; exact h
set_option maxRecDepth 100000 in
set_option maxHeartbeats 4000000 in
theorem modelNew (n : Int) (s : Sp) (w : World) : Calls Tryz.prog 9 #[.int .i64 n, spV s] w (NewMPost n s w) := by
  have N0 := fun W => tsize_any n s W
  by_cases hE : sizeE n s = 0
  · have hV : sizeV n s = sizeT n s.kind s.p s.q := by unfold sizeV; rw [if_pos hE]
    obtain ⟨⟨hn1, hn2⟩, ⟨hk1, hk2⟩, hr⟩ := sizeE_zero hE
    rw [hE] at N0
    unfold NewMPost
    have HE := hide hE
    obtain ⟨nn, rfl⟩ : ∃ nn : Nat, n = (nn : Int) := ⟨n.toNat, by omega⟩
    obtain ⟨k, p, q⟩ := s
    simp only [] at hk1 hk2 hr
    have hmk : ∀ (N : Nat) W, N ≤ 1000 → (Instr.makeSlice 24 (.int .i64 (N : Int)) (.int .i64 (N : Int))).run Tryz.prog W = .ok (.slice (some ⟨W.heap.size, 0, none⟩) N N) (W.alloc (.cells (madeCells #[.int .u64 0] N) 25)) :=
      fun N W h => run_make_row' (P := Tryz.prog) 24 25 (.int .u64 0) 8 Tryz.underlying24 info_word rfl .i64 .i64 N (by omega) (by omega) W
    generalize sizeV (nn : Int) ⟨k, p, q⟩ = SV at *
    clear hE hV
    rcases (by omega : k = 0 ∨ k = 1 ∨ k = 2 ∨ k = 3 ∨ k = 4 ∨ k = 5 ∨ k = 6 ∨ k = 7 ∨ k = 8 ∨ k = 9) with rfl | rfl | rfl | rfl | rfl | rfl | rfl | rfl | rfl | rfl
    · have hp : 1 ≤ p ∧ p ≤ 64 := by simpa [rightT] using hr
      obtain ⟨pn, rfl⟩ : ∃ pn : Nat, p = (pn : Int) := ⟨p.toNat, by omega⟩
      have hmp := fun W => hmk pn W (by omega)
      have hnew : newM (nn : Int) ⟨0, pn, q⟩ = List.replicate pn 0 := by simp [newM]
      rw [hnew, List.length_replicate]
      clear hr hmk hnew
      go_enter Tryz.func9, Tryz.ntmps9
      go_wp2_with fail
      refine (N0 _).mono ?_
      rintro e w1 ⟨rfl, hb⟩
      obtain ⟨s0, s1, s2, _⟩ := cells3 ((hb.block w.heap.size (by simp)).trans (heap_alloc_new _ _))
      have HB1 : Hid (Below w.heap.size w w1) := hide (((Below.refl _ w).alloc (Nat.le_refl _) _).trans (hb.mono (by simp)))
      have hz1 : w.heap.size < w1.heap.size := by have := hb.size; simp at this; omega
      clear hb N0
      go_wp2
      go_ret2
      exact Or.inr ⟨HE.out, _, rfl, made_zero w1 w.heap.size _ (by omega) (by unfold maxLen; omega), HB1.out.alloc (by omega) _⟩
    · have hnew : newM (nn : Int) ⟨1, p, q⟩ = [0] := by simp [newM]
      have hmp := make1
      rw [hnew]
      clear hr hmk hnew
      go_enter Tryz.func9, Tryz.ntmps9
      go_wp2_with fail
      refine (N0 _).mono ?_
      rintro e w1 ⟨rfl, hb⟩
      obtain ⟨s0, s1, s2, _⟩ := cells3 ((hb.block w.heap.size (by simp)).trans (heap_alloc_new _ _))
      have HB1 : Hid (Below w.heap.size w w1) := hide (((Below.refl _ w).alloc (Nat.le_refl _) _).trans (hb.mono (by simp)))
      have hz1 : w.heap.size < w1.heap.size := by have := hb.size; simp at this; omega
      clear hb N0
      go_wp2
      go_ret2
      exact Or.inr ⟨HE.out, _, rfl, made_one w1 w.heap.size (by omega), HB1.out.alloc (by omega) _⟩
    · have hnew : newM (nn : Int) ⟨2, p, q⟩ = [0] := by simp [newM]
      have hmp := make1
      rw [hnew]
      clear hr hmk hnew
      go_enter Tryz.func9, Tryz.ntmps9
      go_wp2_with fail
      refine (N0 _).mono ?_
      rintro e w1 ⟨rfl, hb⟩
      obtain ⟨s0, s1, s2, _⟩ := cells3 ((hb.block w.heap.size (by simp)).trans (heap_alloc_new _ _))
      have HB1 : Hid (Below w.heap.size w w1) := hide (((Below.refl _ w).alloc (Nat.le_refl _) _).trans (hb.mono (by simp)))
      have hz1 : w.heap.size < w1.heap.size := by have := hb.size; simp at this; omega
      clear hb N0
      go_wp2
      go_ret2
      exact Or.inr ⟨HE.out, _, rfl, made_one w1 w.heap.size (by omega), HB1.out.alloc (by omega) _⟩
    · have hnew : newM (nn : Int) ⟨3, p, q⟩ = [0] := by simp [newM]
      have hmp := make1
      rw [hnew]
      clear hr hmk hnew
      go_enter Tryz.func9, Tryz.ntmps9
      go_wp2_with fail
      refine (N0 _).mono ?_
      rintro e w1 ⟨rfl, hb⟩
      obtain ⟨s0, s1, s2, _⟩ := cells3 ((hb.block w.heap.size (by simp)).trans (heap_alloc_new _ _))
      have HB1 : Hid (Below w.heap.size w w1) := hide (((Below.refl _ w).alloc (Nat.le_refl _) _).trans (hb.mono (by simp)))
      have hz1 : w.heap.size < w1.heap.size := by have := hb.size; simp at this; omega
      clear hb N0
      go_wp2
      go_ret2
      exact Or.inr ⟨HE.out, _, rfl, made_one w1 w.heap.size (by omega), HB1.out.alloc (by omega) _⟩
    · have hnew : newM (nn : Int) ⟨4, p, q⟩ = [0] := by simp [newM]
      have hmp := make1
      rw [hnew]
      clear hr hmk hnew
      go_enter Tryz.func9, Tryz.ntmps9
      go_wp2_with fail
      refine (N0 _).mono ?_
      rintro e w1 ⟨rfl, hb⟩
      obtain ⟨s0, s1, s2, _⟩ := cells3 ((hb.block w.heap.size (by simp)).trans (heap_alloc_new _ _))
      have HB1 : Hid (Below w.heap.size w w1) := hide (((Below.refl _ w).alloc (Nat.le_refl _) _).trans (hb.mono (by simp)))
      have hz1 : w.heap.size < w1.heap.size := by have := hb.size; simp at this; omega
      clear hb N0
      go_wp2
      go_ret2
      exact Or.inr ⟨HE.out, _, rfl, made_one w1 w.heap.size (by omega), HB1.out.alloc (by omega) _⟩
    · have hmp : ∀ W, (Instr.makeSlice 24 (.int .i64 (2 * (nn : Int))) (.int .i64 (2 * (nn : Int)))).run Tryz.prog W = .ok (.slice (some ⟨W.heap.size, 0, none⟩) (2 * nn) (2 * nn)) (W.alloc (.cells (madeCells #[.int .u64 0] (2 * nn)) 25)) := fun W => by
        have := hmk (2 * nn) W (by omega)
        rwa [show ((2 * nn : Nat) : Int) = 2 * (nn : Int) by omega] at this
      have hnew : newM (nn : Int) ⟨5, p, q⟩ = List.replicate (2 * nn) 0 := by unfold newM; simp; omega
      have hn63 : 2 * (nn : Int) ≤ 100 := by omega
      rw [hnew, List.length_replicate]
      clear hr hmk hnew
      go_enter Tryz.func9, Tryz.ntmps9
      go_wp2_with fail
      refine (N0 _).mono ?_
      rintro e w1 ⟨rfl, hb⟩
      obtain ⟨s0, s1, s2, _⟩ := cells3 ((hb.block w.heap.size (by simp)).trans (heap_alloc_new _ _))
      have HB1 : Hid (Below w.heap.size w w1) := hide (((Below.refl _ w).alloc (Nat.le_refl _) _).trans (hb.mono (by simp)))
      have hz1 : w.heap.size < w1.heap.size := by have := hb.size; simp at this; omega
      clear hb N0
      go_wp2
      go_ret2
      exact Or.inr ⟨HE.out, _, rfl, made_zero w1 w.heap.size _ (by omega) (by unfold maxLen; omega), HB1.out.alloc (by omega) _⟩
    · have hp : 1 ≤ p ∧ (p ≤ 16 ∧ (1 ≤ q ∧ q ≤ 64)) := by simpa [rightT] using hr
      obtain ⟨pn, rfl⟩ : ∃ pn : Nat, p = (pn : Int) := ⟨p.toNat, by omega⟩
      have hmp : ∀ W, (Instr.makeSlice 24 (.int .i64 ((pn : Int) + (nn : Int))) (.int .i64 ((pn : Int) + (nn : Int)))).run Tryz.prog W = .ok (.slice (some ⟨W.heap.size, 0, none⟩) (pn + nn) (pn + nn)) (W.alloc (.cells (madeCells #[.int .u64 0] (pn + nn)) 25)) := fun W => by
        have := hmk (pn + nn) W (by omega)
        rwa [show ((pn + nn : Nat) : Int) = (pn : Int) + (nn : Int) by omega] at this
      have hnew : newM (nn : Int) ⟨6, pn, q⟩ = List.replicate (pn + nn) 0 := by unfold newM; simp; omega
      have hn63 : (pn : Int) + (nn : Int) ≤ 100 := by omega
      rw [hnew, List.length_replicate]
      clear hr hmk hnew
      go_enter Tryz.func9, Tryz.ntmps9
      go_wp2_with fail
      refine (N0 _).mono ?_
      rintro e w1 ⟨rfl, hb⟩
      obtain ⟨s0, s1, s2, _⟩ := cells3 ((hb.block w.heap.size (by simp)).trans (heap_alloc_new _ _))
      have HB1 : Hid (Below w.heap.size w w1) := hide (((Below.refl _ w).alloc (Nat.le_refl _) _).trans (hb.mono (by simp)))
      have hz1 : w.heap.size < w1.heap.size := by have := hb.size; simp at this; omega
      clear hb N0
      go_wp2
      go_ret2
      exact Or.inr ⟨HE.out, _, rfl, made_zero w1 w.heap.size _ (by omega) (by unfold maxLen; omega), HB1.out.alloc (by omega) _⟩
    · have hnew : newM (nn : Int) ⟨7, p, q⟩ = 0 :: newL p := by simp [newM]
      have N1 := fun W => new_any p W
      have hlen : (newL p).length ≤ 8 := by unfold newL; repeat' split <;> simp
      rw [hnew]
      generalize newL p = NL at *
      obtain ⟨i0, hi, hz0, hz1', hz2⟩ := info_parts info_word
      clear hr hmk hnew
      go_enter Tryz.func9, Tryz.ntmps9
      go_wp2_with fail
      refine (N0 _).mono ?_
      rintro e w1 ⟨rfl, hb⟩
      obtain ⟨s0, s1, s2, _⟩ := cells3 ((hb.block w.heap.size (by simp)).trans (heap_alloc_new _ _))
      have HB1 : Hid (Below w.heap.size w w1) := hide (((Below.refl _ w).alloc (Nat.le_refl _) _).trans (hb.mono (by simp)))
      have hz1 : w.heap.size < w1.heap.size := by have := hb.size; simp at this; omega
      clear hb N0
      go_wp2_with fail
      refine (N1 _).mono ?_
      rintro e w2 ⟨v, rfl, hsl, hb2⟩
      have hv := hsl
      obtain ⟨A, c, rfl, _, _, _⟩ := hv
      have hown : WOwn w2 w.heap.size (.slice (some ⟨w1.heap.size, 0, none⟩) 1 1) 1 [0] := WOwn.below (made_lit1 w1 w.heap.size 0 (by omega)) hb2 (Nat.le_refl _)
      have HB2 : Hid (Below w.heap.size w w2) := hide ((HB1.out.alloc (by omega) _).trans (hb2.mono (by simp; omega)))
      have hz2' : w1.heap.size + 1 ≤ w2.heap.size := by have := hb2.size; simpa using this
      have HSL := hide hsl
      have HOW := hide hown
      clear hsl hown hb2
      go_wp2_with (at_builtin; refine wpList_append_sl (kk := .u64) rfl _ _ 24 rfl w.heap.size 25 i0 (.int .u64 0) 8 Tryz.underlying24 hi hz0 hz1' hz2 rfl _ 1 [0] rfl HOW.out A _ c NL rfl HSL.out (by unfold maxLen; omega) (by omega) (by omega) ?_; intro v5 w5 hown5 hgrow _)
      have hg1 := HOW.out.lt w1.heap.size rfl
      go_ret2
      exact Or.inr ⟨HE.out, _, rfl, WOwn.eq hown5 rfl (by first | omega | (simp; omega)), HB2.out.grown hgrow (by omega) (fun k hk => by cases hk; exact Nat.le_of_lt hz1)⟩
    · have hnew : newM (nn : Int) ⟨8, p, q⟩ = [] := by simp [newM]
      rw [hnew]
      clear hr hmk hnew
      go_enter Tryz.func9, Tryz.ntmps9
      go_wp2_with fail
      refine (N0 _).mono ?_
      rintro e w1 ⟨rfl, hb⟩
      obtain ⟨s0, s1, s2, _⟩ := cells3 ((hb.block w.heap.size (by simp)).trans (heap_alloc_new _ _))
      have HB1 : Hid (Below w.heap.size w w1) := hide (((Below.refl _ w).alloc (Nat.le_refl _) _).trans (hb.mono (by simp)))
      have hz1 : w.heap.size < w1.heap.size := by have := hb.size; simp at this; omega
      clear hb N0
      go_wp2
      go_ret2
      exact Or.inr ⟨HE.out, _, rfl, World.ownsRow_nil _ _ _ _, HB1.out⟩
    · have hp : 1 ≤ p ∧ p ≤ 8 := by simpa [rightT] using hr
      obtain ⟨pn, rfl⟩ : ∃ pn : Nat, p = (pn : Int) := ⟨p.toNat, by omega⟩
      have hmp := fun W => hmk pn W (by omega)
      have hnew : newM (nn : Int) ⟨9, pn, q⟩ = List.replicate pn 0 := by simp [newM]
      rw [hnew, List.length_replicate]
      clear hr hmk hnew
      go_enter Tryz.func9, Tryz.ntmps9
      go_wp2_with fail
      refine (N0 _).mono ?_
      rintro e w1 ⟨rfl, hb⟩
      obtain ⟨s0, s1, s2, _⟩ := cells3 ((hb.block w.heap.size (by simp)).trans (heap_alloc_new _ _))
      have HB1 : Hid (Below w.heap.size w w1) := hide (((Below.refl _ w).alloc (Nat.le_refl _) _).trans (hb.mono (by simp)))
      have hz1 : w.heap.size < w1.heap.size := by have := hb.size; simp at this; omega
      clear hb N0
      go_wp2
      go_ret2
      exact Or.inr ⟨HE.out, _, rfl, made_zero w1 w.heap.size _ (by omega) (by unfold maxLen; omega), HB1.out.alloc (by omega) _⟩
  · rw [show sizeV n s = 0 by unfold sizeV; rw [if_neg hE]] at N0
    unfold NewMPost
    generalize sizeE n s = E at *
    have he : (E != 0) = true := by simpa using hE
    go_enter Tryz.func9, Tryz.ntmps9
    go_wp2_with fail
    refine (N0 _).mono ?_
    rintro e w1 ⟨rfl, hb⟩
    obtain ⟨s0, s1, s2, _⟩ := cells3 ((hb.block w.heap.size (by simp)).trans (heap_alloc_new _ _))
    have HB1 : Hid (Below w.heap.size w w1) := hide (((Below.refl _ w).alloc (Nat.le_refl _) _).trans (hb.mono (by simp)))
    have hz1 : w.heap.size < w1.heap.size := by have := hb.size; simp at this; omega
    clear hb N0
    go_wp2
    go_ret2
    exact Or.inl ⟨hE, rfl, HB1.out⟩
def RNewPost (n : Int) (s : Sp) (w : World) (e : Ending) (w' : World) : Prop := ∃ v, e = .returned v ∧ WOwn w' w.heap.size v (newM n s).length (newM n s) ∧ Below w.heap.size w w'
set_option maxRecDepth 100000 in
set_option maxHeartbeats 4000000 in
theorem refNew27 (n : Int) (s : Sp) (w : World) (hE : sizeE n s = 0) : Calls Tryz.prog 14 #[.int .i64 n, spV s] w (RNewPost n s w) := by
    obtain ⟨⟨hn1, hn2⟩, ⟨hk1, hk2⟩, hr⟩ := sizeE_zero hE
    unfold RNewPost
    obtain ⟨nn, rfl⟩ : ∃ nn : Nat, n = (nn : Int) := ⟨n.toNat, by omega⟩
    obtain ⟨k, p, q⟩ := s
    simp only [] at hk1 hk2 hr
    have hmk : ∀ (N : Nat) W, N ≤ 1000 → (Instr.makeSlice 24 (.int .i64 (N : Int)) (.int .i64 (N : Int))).run Tryz.prog W = .ok (.slice (some ⟨W.heap.size, 0, none⟩) N N) (W.alloc (.cells (madeCells #[.int .u64 0] N) 25)) :=
      fun N W h => run_make_row' (P := Tryz.prog) 24 25 (.int .u64 0) 8 Tryz.underlying24 info_word rfl .i64 .i64 N (by omega) (by omega) W
    clear hE
    rcases (by omega : k = 0 ∨ k = 1 ∨ k = 2 ∨ k = 3 ∨ k = 4 ∨ k = 5 ∨ k = 6 ∨ k = 7 ∨ k = 8 ∨ k = 9) with rfl | rfl | rfl | rfl | rfl | rfl | rfl | rfl | rfl | rfl
    · have hp : 1 ≤ p ∧ p ≤ 64 := by simpa [rightT] using hr
      obtain ⟨pn, rfl⟩ : ∃ pn : Nat, p = (pn : Int) := ⟨p.toNat, by omega⟩
      have hmp := fun W => hmk pn W (by omega)
      have hnew : newM (nn : Int) ⟨0, pn, q⟩ = List.replicate pn 0 := by simp [newM]
      rw [hnew, List.length_replicate]
      clear hr hmk hnew
      go_enter Tryz.func14, Tryz.ntmps14
      go_wp2
      go_ret
      exact ⟨_, rfl, made_zero' (w.alloc _) w.heap.size _ (w.heap.size + 1) (by simp) (by simp) (by unfold maxLen; omega), ((Below.refl _ w).alloc (Nat.le_refl _) _).alloc (by simp) _⟩
    · have hnew : newM (nn : Int) ⟨1, p, q⟩ = [0] := by simp [newM]
      have hmp := make1
      rw [hnew]
      clear hr hmk hnew
      go_enter Tryz.func14, Tryz.ntmps14
      go_wp2
      go_ret
      exact ⟨_, rfl, made_one' (w.alloc _) w.heap.size (w.heap.size + 1) (by simp) (by simp), ((Below.refl _ w).alloc (Nat.le_refl _) _).alloc (by simp) _⟩
    · have hnew : newM (nn : Int) ⟨2, p, q⟩ = [0] := by simp [newM]
      have hmp := make1
      rw [hnew]
      clear hr hmk hnew
      go_enter Tryz.func14, Tryz.ntmps14
      go_wp2
      go_ret
      exact ⟨_, rfl, made_one' (w.alloc _) w.heap.size (w.heap.size + 1) (by simp) (by simp), ((Below.refl _ w).alloc (Nat.le_refl _) _).alloc (by simp) _⟩
    · have hnew : newM (nn : Int) ⟨3, p, q⟩ = [0] := by simp [newM]
      have hmp := make1
      rw [hnew]
      clear hr hmk hnew
      go_enter Tryz.func14, Tryz.ntmps14
      go_wp2
      go_ret
      exact ⟨_, rfl, made_one' (w.alloc _) w.heap.size (w.heap.size + 1) (by simp) (by simp), ((Below.refl _ w).alloc (Nat.le_refl _) _).alloc (by simp) _⟩
    · have hnew : newM (nn : Int) ⟨4, p, q⟩ = [0] := by simp [newM]
      have hmp := make1
      rw [hnew]
      clear hr hmk hnew
      go_enter Tryz.func14, Tryz.ntmps14
      go_wp2
      go_ret
      exact ⟨_, rfl, made_one' (w.alloc _) w.heap.size (w.heap.size + 1) (by simp) (by simp), ((Below.refl _ w).alloc (Nat.le_refl _) _).alloc (by simp) _⟩
    · have hmp : ∀ W, (Instr.makeSlice 24 (.int .i64 (2 * (nn : Int))) (.int .i64 (2 * (nn : Int)))).run Tryz.prog W = .ok (.slice (some ⟨W.heap.size, 0, none⟩) (2 * nn) (2 * nn)) (W.alloc (.cells (madeCells #[.int .u64 0] (2 * nn)) 25)) := fun W => by
        have := hmk (2 * nn) W (by omega)
        rwa [show ((2 * nn : Nat) : Int) = 2 * (nn : Int) by omega] at this
      have hnew : newM (nn : Int) ⟨5, p, q⟩ = List.replicate (2 * nn) 0 := by unfold newM; simp; omega
      have hn63 : 2 * (nn : Int) ≤ 100 := by omega
      rw [hnew, List.length_replicate]
      clear hr hmk hnew
      go_enter Tryz.func14, Tryz.ntmps14
      go_wp2
      go_ret
      exact ⟨_, rfl, made_zero' (w.alloc _) w.heap.size _ (w.heap.size + 1) (by simp) (by simp) (by unfold maxLen; omega), ((Below.refl _ w).alloc (Nat.le_refl _) _).alloc (by simp) _⟩
    · have hp : 1 ≤ p ∧ (p ≤ 16 ∧ (1 ≤ q ∧ q ≤ 64)) := by simpa [rightT] using hr
      obtain ⟨pn, rfl⟩ : ∃ pn : Nat, p = (pn : Int) := ⟨p.toNat, by omega⟩
      have hmp : ∀ W, (Instr.makeSlice 24 (.int .i64 ((pn : Int) + (nn : Int))) (.int .i64 ((pn : Int) + (nn : Int)))).run Tryz.prog W = .ok (.slice (some ⟨W.heap.size, 0, none⟩) (pn + nn) (pn + nn)) (W.alloc (.cells (madeCells #[.int .u64 0] (pn + nn)) 25)) := fun W => by
        have := hmk (pn + nn) W (by omega)
        rwa [show ((pn + nn : Nat) : Int) = (pn : Int) + (nn : Int) by omega] at this
      have hnew : newM (nn : Int) ⟨6, pn, q⟩ = List.replicate (pn + nn) 0 := by unfold newM; simp; omega
      have hn63 : (pn : Int) + (nn : Int) ≤ 100 := by omega
      rw [hnew, List.length_replicate]
      clear hr hmk hnew
      go_enter Tryz.func14, Tryz.ntmps14
      go_wp2
      go_ret
      exact ⟨_, rfl, made_zero' (w.alloc _) w.heap.size _ (w.heap.size + 1) (by simp) (by simp) (by unfold maxLen; omega), ((Below.refl _ w).alloc (Nat.le_refl _) _).alloc (by simp) _⟩
    · have hnew : newM (nn : Int) ⟨7, p, q⟩ = 0 :: newL p := by simp [newM]
      have N1 := fun W => refNew_any p W
      have hlen : (newL p).length ≤ 8 := by unfold newL; repeat' split <;> simp
      rw [hnew]
      generalize newL p = NL at *
      obtain ⟨i0, hi, hz0, hz1', hz2⟩ := info_parts info_word
      clear hr hmk hnew
      go_enter Tryz.func14, Tryz.ntmps14
      go_wp2_with fail
      refine (N1 _).mono ?_
      rintro e w2 ⟨v, rfl, hsl, hb2⟩
      have hv := hsl
      obtain ⟨A, c, rfl, _, _, _⟩ := hv
      have hown : WOwn w2 w.heap.size (.slice (some ⟨w.heap.size + 1, 0, none⟩) 1 1) 1 [0] := WOwn.below (by have := made_lit1 (w.alloc (.cells #[.int .i64 7, .int .i64 p, .int .i64 q] 23)) w.heap.size 0 (by simp); simpa using this) hb2 (Nat.le_refl _)
      have HB2 : Hid (Below w.heap.size w w2) := hide ((((Below.refl _ w).alloc (Nat.le_refl _) _).alloc (by simp) _).trans (hb2.mono (by simp; omega)))
      have hz2' : w.heap.size + 2 ≤ w2.heap.size := by have := hb2.size; simp at this; omega
      have HSL := hide hsl
      have HOW := hide hown
      clear hsl hown hb2
      go_wp2_with (at_builtin; refine wpList_append_sl (kk := .u64) rfl _ _ 24 rfl w.heap.size 25 i0 (.int .u64 0) 8 Tryz.underlying24 hi hz0 hz1' hz2 rfl _ 1 [0] rfl HOW.out A _ c NL rfl HSL.out (by unfold maxLen; omega) (by omega) (by omega) ?_; intro v5 w5 hown5 hgrow _)
      go_ret
      exact ⟨_, rfl, WOwn.eq hown5 rfl (by first | omega | (simp; omega)), HB2.out.grown hgrow (by omega) (fun k hk => by cases hk; exact Nat.le_succ _)⟩
    · have hnew : newM (nn : Int) ⟨8, p, q⟩ = [] := by simp [newM]
      rw [hnew]
      clear hr hmk hnew
      go_enter Tryz.func14, Tryz.ntmps14
      go_wp2
      go_ret
      exact ⟨_, rfl, World.ownsRow_nil _ _ _ _, ((Below.refl _ w).alloc (Nat.le_refl _) _)⟩
    · have hp : 1 ≤ p ∧ p ≤ 8 := by simpa [rightT] using hr
      obtain ⟨pn, rfl⟩ : ∃ pn : Nat, p = (pn : Int) := ⟨p.toNat, by omega⟩
      have hmp := fun W => hmk pn W (by omega)
      have hnew : newM (nn : Int) ⟨9, pn, q⟩ = List.replicate pn 0 := by simp [newM]
      rw [hnew, List.length_replicate]
      clear hr hmk hnew
      go_enter Tryz.func14, Tryz.ntmps14
      go_wp2
      go_ret
      exact ⟨_, rfl, made_zero' (w.alloc _) w.heap.size _ (w.heap.size + 1) (by simp) (by simp) (by unfold maxLen; omega), ((Below.refl _ w).alloc (Nat.le_refl _) _).alloc (by simp) _⟩
end Go.Proofs.YtmiimpmfkjcjlaaGreat

namespace Go.Proofs.YtmiimpmfkjcjlaaGreat
open Go.RowKit
theorem owns_base {w : World} {base base' : Nat} {e : TypeId} {sz : Nat} {v : Value} {n : Nat} {xs : List Value} (h : w.ownsRow base e sz v n xs) (hb : base' ≤ base) : w.ownsRow base' e sz v n xs := by
  obtain ⟨h1, h2 | ⟨g, cap, cur, e1, e2, e3⟩⟩ := h
  · exact ⟨h1, Or.inl h2⟩
  · exact ⟨h1, Or.inr ⟨g, cap, cur, e1, Nat.le_trans hb e2, e3⟩⟩
theorem own_slice {w : World} {base : Nat} {e : TypeId} {sz : Nat} {v : Value} {n : Nat} {xs : List Value} (h : w.ownsRow base e sz v n xs) : ∃ A cap, v = .slice A n cap := by
  obtain ⟨_, ⟨e, h0⟩ | ⟨g, cap, cur, e, _⟩⟩ := h
  · exact ⟨none, 0, by rw [e, h0]⟩
  · exact ⟨_, cap, e⟩
theorem owns_keepB {S : Nat → Prop} {w w' : World} {base : Nat} {e : TypeId} {sz : Nat} {v : Value} {n : Nat} {xs : List Value} (h : w.ownsRow base e sz v n xs) (hk : Keep S w w') (hS : ∀ j, base ≤ j → j < w.heap.size → S j) : w'.ownsRow base e sz v n xs := by
  obtain ⟨h1, h2 | ⟨g, cap, cur, e1, e2, e3, e4⟩⟩ := h
  · exact ⟨h1, Or.inl h2⟩
  · exact ⟨h1, Or.inr ⟨g, cap, cur, e1, e2, (hk.block g (hS g e2 (Array.getElem?_eq_some_iff.1 e3).1)).trans e3, e4⟩⟩
theorem cells_set {w : World} {b i : Nat} {cs : Array Value} {t : TypeId} {u : Value} (h : w.heap[b]? = some (.cells cs t (0, 0))) : (w.setCell ⟨b, i, none⟩ u).heap[b]? = some (.cells (cs.setIfInBounds i u) t (0, 0)) := by
  simp [World.setCell, Array.getElem?_modify, h]
theorem wrap_i64 {x : Int} (h1 : -9223372036854775808 ≤ x) (h2 : x ≤ 9223372036854775807) : IntKind.i64.wrap x = x := by
  rw [IntKind.wrap_i64]; omega
theorem flat_en {α : Type} {en : α → List Value} {sz : Nat} (hl : ∀ x, (en x).length = sz) {l : List α} {k : Nat} {x : α} (h : l[k]? = some x) (j : Nat) (u : Value) (hu : (en x)[j]? = some u) : (l.flatMap en)[k * sz + j]? = some u := by
  induction l generalizing k with
  | nil => simp at h
  | cons y l ih =>
    have hj : j < sz := by have := (List.getElem?_eq_some_iff.1 hu).1; rwa [hl] at this
    rw [List.flatMap_cons]
    rcases k with _ | k
    · simp at h
      subst h
      rw [List.getElem?_append_left (by rw [hl]; omega)]
      simpa using hu
    · rw [List.getElem?_append_right (by rw [hl, Nat.succ_mul]; omega)]
      have e : (k + 1) * sz + j - (en y).length = k * sz + j := by rw [hl, Nat.succ_mul]; omega
      rw [e]
      exact ih (by simpa using h)
theorem sl_take {α : Type} {en : α → List Value} {sz : Nat} {w : World} {A : Option Addr} {n c k : Nat} {xs : List α} (h : Sl en sz w (.slice A n c) xs) (hk : k ≤ xs.length) : Sl en sz w (.slice A k c) (xs.take k) := by
  obtain ⟨A', c', e, h1, h2, h3⟩ := h
  cases e
  refine ⟨_, _, by rw [List.length_take, Nat.min_eq_left hk], by rw [List.length_take]; omega, h2, fun j x hx => h3 j x ?_⟩
  rw [List.getElem?_take] at hx
  split at hx
  · exact hx
  · cases hx
theorem sl_drop {α : Type} {en : α → List Value} {sz : Nat} {w : World} {A : Option Addr} {n c k : Nat} {xs : List α} (h : Sl en sz w (.slice A n c) xs) (hk : k ≤ n) : ∃ X, sliced A k n c sz = X ∧ Sl en sz w X (xs.drop k) := by
  obtain ⟨A', c', e, h1, h2, h3⟩ := h
  cases e
  refine ⟨_, rfl, ?_⟩
  unfold sliced
  refine ⟨_, _, by rw [List.length_drop], by rw [List.length_drop]; omega, by omega, fun j x hx => ?_⟩
  rw [List.getElem?_drop] at hx
  obtain ⟨b, o, rfl, hb, hc⟩ := h3 _ _ hx
  have hlt := (List.getElem?_eq_some_iff.1 hx).1
  rw [if_neg (by omega)]
  refine ⟨b, o + k * sz, ?_, hb, ?_⟩
  · simp [Addr.add]
  · rw [show o + k * sz + j * sz = o + (k + j) * sz by rw [Nat.add_mul]; omega]
    exact hc
end Go.Proofs.YtmiimpmfkjcjlaaGreat
