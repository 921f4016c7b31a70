import Derived.Test.YtmiimpmfkjcjlaaGreatBun8
import Derived.Test.YtmiimpmfkjcjlaaGreatBun17
import Derived.Test.YtmiimpmfkjcjlaaGreatBun5
import Derived.Deep.OwnRows
import Derived.Test.YtmiimpmfkjcjlaaGreatBun1
import Derived.Test.YtmiimpmfkjcjlaaGreatBun14
import Derived.Test.YtmiimpmfkjcjlaaGreatBun10
import Derived.Test.YtmiimpmfkjcjlaaGreatBun13
import Derived.Laws.OwnMore
namespace Go.Proofs.YtmiimpmfkjcjlaaGreat
open Go.RowKit
theorem made_zero (W : World) (B N : Nat) (hB : B ≤ W.heap.size) (hN : N ≤ maxLen) : WOwn (W.alloc (.cells (madeCells #[.int .u64 0] N) 25)) B (.slice (some ⟨W.heap.size, 0, none⟩) N N) N (List.replicate N 0) := by
  have := World.ownsRow_lit (base := B) (e := 25) (size := 1) W (madeCells #[.int .u64 0] N) N hB hN (by simp [madeCells])
  have hl : (madeCells #[Value.int .u64 0] N).toList = List.replicate N (.int .u64 0) := by
    unfold madeCells
    apply List.ext_getElem?
    intro i
    simp [List.getElem?_replicate]
    by_cases h : i < N
    · simp [h, Nat.mod_one]
    · simp [h]
  rw [hl] at this
  show WOwn _ _ _ _ _
  unfold WOwn
  rw [List.map_replicate]
  exact this
theorem made_zero' (W : World) (B N g : Nat) (hg : g = W.heap.size) (hB : B ≤ W.heap.size) (hN : N ≤ maxLen) : WOwn (W.alloc (.cells (madeCells #[.int .u64 0] N) 25)) B (.slice (some ⟨g, 0, none⟩) N N) N (List.replicate N 0) := by
  subst hg
  exact made_zero W B N hB hN
theorem made_one' (W : World) (B g : Nat) (hg : g = W.heap.size) (hB : B ≤ W.heap.size) : WOwn (W.alloc (.cells #[.int .u64 0] 25)) B (.slice (some ⟨g, 0, none⟩) 1 1) 1 [0] := by
  subst hg
  exact World.ownsRow_lit (base := B) (e := 25) (size := 1) W #[.int .u64 0] 1 hB (by decide) (by simp)
theorem made_one (W : World) (B : Nat) (hB : B ≤ W.heap.size) : WOwn (W.alloc (.cells #[.int .u64 0] 25)) B (.slice (some ⟨W.heap.size, 0, none⟩) 1 1) 1 [0] :=
  World.ownsRow_lit (base := B) (e := 25) (size := 1) W #[.int .u64 0] 1 hB (by decide) (by simp)
theorem made_lit1 (W : World) (B : Nat) (x : Int) (hB : B ≤ W.heap.size) : WOwn (W.alloc (.cells #[.int .u64 x] 25)) B (.slice (some ⟨W.heap.size, 0, none⟩) 1 1) 1 [x] :=
  World.ownsRow_lit (base := B) (e := 25) (size := 1) W #[.int .u64 x] 1 hB (by decide) (by simp)
theorem WOwn.below {w w' : World} {B T n : Nat} {v : Value} {xs : List Int} (h : WOwn w B v n xs) (hb : Below T w w') (hT : w.heap.size ≤ T) : WOwn w' B v n xs := by
  obtain ⟨h1, h2 | ⟨g, cap, cur, e1, e2, e3, e4⟩⟩ := h
  · exact ⟨h1, Or.inl h2⟩
  · exact ⟨h1, Or.inr ⟨g, cap, cur, e1, e2, (hb.block g (Nat.lt_of_lt_of_le (Array.getElem?_eq_some_iff.1 e3).1 hT)).trans e3, e4⟩⟩
theorem own_len {w : World} {B n : Nat} {v : Value} {e : TypeId} {xs : List Value} (h : w.ownsRow B e 1 v n xs) : xs.length = n := by
  have := h.1
  omega
def NewMPost (n : Int) (s : Sp) (w : World) (e : Ending) (w' : World) : Prop :=
  (sizeE n s ≠ 0 ∧ e = .returned (.tuple #[.slice none 0 0, .int .i64 (sizeE n s)]) ∧ Below w.heap.size w w') ∨
  (sizeE n s = 0 ∧ ∃ v, e = .returned (.tuple #[v, .int .i64 0]) ∧ WOwn w' w.heap.size v (newM n s).length (newM n s) ∧ Below w.heap.size w w')
theorem WOwn.eq {w : World} {B n m : Nat} {v : Value} {xs ys : List Int} (h : WOwn w B v n xs) (hx : ys = xs) (hn : m = n) : WOwn w B v m ys := by subst hx hn; exact h
set_option maxRecDepth 100000 in
set_option maxHeartbeats 4000000 in
theorem modelNew (n : Int) (s : Sp) (w : World) : Calls Tryz.prog 9 #[.int .i64 n, spV s] w (NewMPost n s w) := by
  have N0 := fun W => tsize_any n s W
  by_cases hE : sizeE n s = 0
  · have hV : sizeV n s = sizeT n s.kind s.p s.q := by unfold sizeV; rw [if_pos hE]
    obtain ⟨⟨hn1, hn2⟩, ⟨hk1, hk2⟩, hr⟩ := sizeE_zero hE
    rw [hE] at N0
    unfold NewMPost
    have HE := hide hE
    obtain ⟨nn, rfl⟩ : ∃ nn : Nat, n = (nn : Int) := ⟨n.toNat, by omega⟩
    obtain ⟨k, p, q⟩ := s
    simp only [] at hk1 hk2 hr
    have hmk : ∀ (N : Nat) W, N ≤ 1000 → (Instr.makeSlice 24 (.int .i64 (N : Int)) (.int .i64 (N : Int))).run Tryz.prog W = .ok (.slice (some ⟨W.heap.size, 0, none⟩) N N) (W.alloc (.cells (madeCells #[.int .u64 0] N) 25)) :=
      fun N W h => run_make_row' (P := Tryz.prog) 24 25 (.int .u64 0) 8 Tryz.underlying24 info_word rfl .i64 .i64 N (by omega) (by omega) W
    generalize sizeV (nn : Int) ⟨k, p, q⟩ = SV at *
    clear hE hV
    rcases (by omega : k = 0 ∨ k = 1 ∨ k = 2 ∨ k = 3 ∨ k = 4 ∨ k = 5 ∨ k = 6 ∨ k = 7 ∨ k = 8 ∨ k = 9) with rfl | rfl | rfl | rfl | rfl | rfl | rfl | rfl | rfl | rfl
    · have hp : 1 ≤ p ∧ p ≤ 64 := by simpa [rightT] using hr
      obtain ⟨pn, rfl⟩ : ∃ pn : Nat, p = (pn : Int) := ⟨p.toNat, by omega⟩
      have hmp := fun W => hmk pn W (by omega)
      have hnew : newM (nn : Int) ⟨0, pn, q⟩ = List.replicate pn 0 := by simp [newM]
      rw [hnew, List.length_replicate]
      clear hr hmk hnew
      go_enter Tryz.func9, Tryz.ntmps9
      go_wp2_with fail
      refine (N0 _).mono ?_
      rintro e w1 ⟨rfl, hb⟩
      obtain ⟨s0, s1, s2, _⟩ := cells3 ((hb.block w.heap.size (by simp)).trans (heap_alloc_new _ _))
      have HB1 : Hid (Below w.heap.size w w1) := hide (((Below.refl _ w).alloc (Nat.le_refl _) _).trans (hb.mono (by simp)))
      have hz1 : w.heap.size < w1.heap.size := by have := hb.size; simp at this; omega
      clear hb N0
      go_wp2
      go_ret2
      exact Or.inr ⟨HE.out, _, rfl, made_zero w1 w.heap.size _ (by omega) (by unfold maxLen; omega), HB1.out.alloc (by omega) _⟩
    · have hnew : newM (nn : Int) ⟨1, p, q⟩ = [0] := by simp [newM]
      have hmp := make1
      rw [hnew]
      clear hr hmk hnew
      go_enter Tryz.func9, Tryz.ntmps9
      go_wp2_with fail
      refine (N0 _).mono ?_
      rintro e w1 ⟨rfl, hb⟩
      obtain ⟨s0, s1, s2, _⟩ := cells3 ((hb.block w.heap.size (by simp)).trans (heap_alloc_new _ _))
      have HB1 : Hid (Below w.heap.size w w1) := hide (((Below.refl _ w).alloc (Nat.le_refl _) _).trans (hb.mono (by simp)))
      have hz1 : w.heap.size < w1.heap.size := by have := hb.size; simp at this; omega
      clear hb N0
      go_wp2
      go_ret2
      exact Or.inr ⟨HE.out, _, rfl, made_one w1 w.heap.size (by omega), HB1.out.alloc (by omega) _⟩
    · have hnew : newM (nn : Int) ⟨2, p, q⟩ = [0] := by simp [newM]
      have hmp := make1
      rw [hnew]
      clear hr hmk hnew
      go_enter Tryz.func9, Tryz.ntmps9
      go_wp2_with fail
      refine (N0 _).mono ?_
      rintro e w1 ⟨rfl, hb⟩
      obtain ⟨s0, s1, s2, _⟩ := cells3 ((hb.block w.heap.size (by simp)).trans (heap_alloc_new _ _))
      have HB1 : Hid (Below w.heap.size w w1) := hide (((Below.refl _ w).alloc (Nat.le_refl _) _).trans (hb.mono (by simp)))
      have hz1 : w.heap.size < w1.heap.size := by have := hb.size; simp at this; omega
      clear hb N0
      go_wp2
      go_ret2
      exact Or.inr ⟨HE.out, _, rfl, made_one w1 w.heap.size (by omega), HB1.out.alloc (by omega) _⟩
    · have hnew : newM (nn : Int) ⟨3, p, q⟩ = [0] := by simp [newM]
      have hmp := make1
      rw [hnew]
      clear hr hmk hnew
      go_enter Tryz.func9, Tryz.ntmps9
      go_wp2_with fail
      refine (N0 _).mono ?_
      rintro e w1 ⟨rfl, hb⟩
      obtain ⟨s0, s1, s2, _⟩ := cells3 ((hb.block w.heap.size (by simp)).trans (heap_alloc_new _ _))
      have HB1 : Hid (Below w.heap.size w w1) := hide (((Below.refl _ w).alloc (Nat.le_refl _) _).trans (hb.mono (by simp)))
      have hz1 : w.heap.size < w1.heap.size := by have := hb.size; simp at this; omega
      clear hb N0
      go_wp2
      go_ret2
      exact Or.inr ⟨HE.out, _, rfl, made_one w1 w.heap.size (by omega), HB1.out.alloc (by omega) _⟩
    · have hnew : newM (nn : Int) ⟨4, p, q⟩ = [0] := by simp [newM]
      have hmp := make1
      rw [hnew]
      clear hr hmk hnew
      go_enter Tryz.func9, Tryz.ntmps9
      go_wp2_with fail
      refine (N0 _).mono ?_
      rintro e w1 ⟨rfl, hb⟩
      obtain ⟨s0, s1, s2, _⟩ := cells3 ((hb.block w.heap.size (by simp)).trans (heap_alloc_new _ _))
      have HB1 : Hid (Below w.heap.size w w1) := hide (((Below.refl _ w).alloc (Nat.le_refl _) _).trans (hb.mono (by simp)))
      have hz1 : w.heap.size < w1.heap.size := by have := hb.size; simp at this; omega
      clear hb N0
      go_wp2
      go_ret2
      exact Or.inr ⟨HE.out, _, rfl, made_one w1 w.heap.size (by omega), HB1.out.alloc (by omega) _⟩
    · have hmp : ∀ W, (Instr.makeSlice 24 (.int .i64 (2 * (nn : Int))) (.int .i64 (2 * (nn : Int)))).run Tryz.prog W = .ok (.slice (some ⟨W.heap.size, 0, none⟩) (2 * nn) (2 * nn)) (W.alloc (.cells (madeCells #[.int .u64 0] (2 * nn)) 25)) := fun W => by
        have := hmk (2 * nn) W (by omega)
        rwa [show ((2 * nn : Nat) : Int) = 2 * (nn : Int) by omega] at this
      have hnew : newM (nn : Int) ⟨5, p, q⟩ = List.replicate (2 * nn) 0 := by unfold newM; simp; omega
      have hn63 : 2 * (nn : Int) ≤ 100 := by omega
      rw [hnew, List.length_replicate]
      clear hr hmk hnew
      go_enter Tryz.func9, Tryz.ntmps9
      go_wp2_with fail
      refine (N0 _).mono ?_
      rintro e w1 ⟨rfl, hb⟩
      obtain ⟨s0, s1, s2, _⟩ := cells3 ((hb.block w.heap.size (by simp)).trans (heap_alloc_new _ _))
      have HB1 : Hid (Below w.heap.size w w1) := hide (((Below.refl _ w).alloc (Nat.le_refl _) _).trans (hb.mono (by simp)))
      have hz1 : w.heap.size < w1.heap.size := by have := hb.size; simp at this; omega
      clear hb N0
      go_wp2
      go_ret2
      exact Or.inr ⟨HE.out, _, rfl, made_zero w1 w.heap.size _ (by omega) (by unfold maxLen; omega), HB1.out.alloc (by omega) _⟩
    · have hp : 1 ≤ p ∧ (p ≤ 16 ∧ (1 ≤ q ∧ q ≤ 64)) := by simpa [rightT] using hr
      obtain ⟨pn, rfl⟩ : ∃ pn : Nat, p = (pn : Int) := ⟨p.toNat, by omega⟩
      have hmp : ∀ W, (Instr.makeSlice 24 (.int .i64 ((pn : Int) + (nn : Int))) (.int .i64 ((pn : Int) + (nn : Int)))).run Tryz.prog W = .ok (.slice (some ⟨W.heap.size, 0, none⟩) (pn + nn) (pn + nn)) (W.alloc (.cells (madeCells #[.int .u64 0] (pn + nn)) 25)) := fun W => by
        have := hmk (pn + nn) W (by omega)
        rwa [show ((pn + nn : Nat) : Int) = (pn : Int) + (nn : Int) by omega] at this
      have hnew : newM (nn : Int) ⟨6, pn, q⟩ = List.replicate (pn + nn) 0 := by unfold newM; simp; omega
      have hn63 : (pn : Int) + (nn : Int) ≤ 100 := by omega
      rw [hnew, List.length_replicate]
      clear hr hmk hnew
      go_enter Tryz.func9, Tryz.ntmps9
      go_wp2_with fail
      refine (N0 _).mono ?_
      rintro e w1 ⟨rfl, hb⟩
      obtain ⟨s0, s1, s2, _⟩ := cells3 ((hb.block w.heap.size (by simp)).trans (heap_alloc_new _ _))
      have HB1 : Hid (Below w.heap.size w w1) := hide (((Below.refl _ w).alloc (Nat.le_refl _) _).trans (hb.mono (by simp)))
      have hz1 : w.heap.size < w1.heap.size := by have := hb.size; simp at this; omega
      clear hb N0
      go_wp2
      go_ret2
      exact Or.inr ⟨HE.out, _, rfl, made_zero w1 w.heap.size _ (by omega) (by unfold maxLen; omega), HB1.out.alloc (by omega) _⟩
    · have hnew : newM (nn : Int) ⟨7, p, q⟩ = 0 :: newL p := by simp [newM]
      have N1 := fun W => new_any p W
      have hlen : (newL p).length ≤ 8 := by unfold newL; repeat' split <;> simp
      rw [hnew]
      generalize newL p = NL at *
      obtain ⟨i0, hi, hz0, hz1', hz2⟩ := info_parts info_word
      clear hr hmk hnew
      go_enter Tryz.func9, Tryz.ntmps9
      go_wp2_with fail
      refine (N0 _).mono ?_
      rintro e w1 ⟨rfl, hb⟩
      obtain ⟨s0, s1, s2, _⟩ := cells3 ((hb.block w.heap.size (by simp)).trans (heap_alloc_new _ _))
      have HB1 : Hid (Below w.heap.size w w1) := hide (((Below.refl _ w).alloc (Nat.le_refl _) _).trans (hb.mono (by simp)))
      have hz1 : w.heap.size < w1.heap.size := by have := hb.size; simp at this; omega
      clear hb N0
      go_wp2_with fail
      refine (N1 _).mono ?_
      rintro e w2 ⟨v, rfl, hsl, hb2⟩
      have hv := hsl
      obtain ⟨A, c, rfl, _, _, _⟩ := hv
      have hown : WOwn w2 w.heap.size (.slice (some ⟨w1.heap.size, 0, none⟩) 1 1) 1 [0] := WOwn.below (made_lit1 w1 w.heap.size 0 (by omega)) hb2 (Nat.le_refl _)
      have HB2 : Hid (Below w.heap.size w w2) := hide ((HB1.out.alloc (by omega) _).trans (hb2.mono (by simp; omega)))
      have hz2' : w1.heap.size + 1 ≤ w2.heap.size := by have := hb2.size; simpa using this
      have HSL := hide hsl
      have HOW := hide hown
      clear hsl hown hb2
      go_wp2_with (at_builtin; refine wpList_append_sl (kk := .u64) rfl _ _ 24 rfl w.heap.size 25 i0 (.int .u64 0) 8 Tryz.underlying24 hi hz0 hz1' hz2 rfl _ 1 [0] rfl HOW.out A _ c NL rfl HSL.out (by unfold maxLen; omega) (by omega) (by omega) ?_; intro v5 w5 hown5 hgrow _)
      have hg1 := HOW.out.lt w1.heap.size rfl
      go_ret2
      exact Or.inr ⟨HE.out, _, rfl, WOwn.eq hown5 rfl (by first | omega | (simp; omega)), HB2.out.grown hgrow (by omega) (fun k hk => by cases hk; exact Nat.le_of_lt hz1)⟩
    · have hnew : newM (nn : Int) ⟨8, p, q⟩ = [] := by simp [newM]
      rw [hnew]
      clear hr hmk hnew
      go_enter Tryz.func9, Tryz.ntmps9
      go_wp2_with fail
      refine (N0 _).mono ?_
      rintro e w1 ⟨rfl, hb⟩
      obtain ⟨s0, s1, s2, _⟩ := cells3 ((hb.block w.heap.size (by simp)).trans (heap_alloc_new _ _))
      have HB1 : Hid (Below w.heap.size w w1) := hide (((Below.refl _ w).alloc (Nat.le_refl _) _).trans (hb.mono (by simp)))
      have hz1 : w.heap.size < w1.heap.size := by have := hb.size; simp at this; omega
      clear hb N0
      go_wp2
      go_ret2
      exact Or.inr ⟨HE.out, _, rfl, World.ownsRow_nil _ _ _ _, HB1.out⟩
    · have hp : 1 ≤ p ∧ p ≤ 8 := by simpa [rightT] using hr
      obtain ⟨pn, rfl⟩ : ∃ pn : Nat, p = (pn : Int) := ⟨p.toNat, by omega⟩
      have hmp := fun W => hmk pn W (by omega)
      have hnew : newM (nn : Int) ⟨9, pn, q⟩ = List.replicate pn 0 := by simp [newM]
      rw [hnew, List.length_replicate]
      clear hr hmk hnew
      go_enter Tryz.func9, Tryz.ntmps9
      go_wp2_with fail
      refine (N0 _).mono ?_
      rintro e w1 ⟨rfl, hb⟩
      obtain ⟨s0, s1, s2, _⟩ := cells3 ((hb.block w.heap.size (by simp)).trans (heap_alloc_new _ _))
      have HB1 : Hid (Below w.heap.size w w1) := hide (((Below.refl _ w).alloc (Nat.le_refl _) _).trans (hb.mono (by simp)))
      have hz1 : w.heap.size < w1.heap.size := by have := hb.size; simp at this; omega
      clear hb N0
      go_wp2
      go_ret2
      exact Or.inr ⟨HE.out, _, rfl, made_zero w1 w.heap.size _ (by omega) (by unfold maxLen; omega), HB1.out.alloc (by omega) _⟩
  · rw [show sizeV n s = 0 by unfold sizeV; rw [if_neg hE]] at N0
    unfold NewMPost
    generalize sizeE n s = E at *
    have he : (E != 0) = true := by simpa using hE
    go_enter Tryz.func9, Tryz.ntmps9
    go_wp2_with fail
    refine (N0 _).mono ?_
    rintro e w1 ⟨rfl, hb⟩
    obtain ⟨s0, s1, s2, _⟩ := cells3 ((hb.block w.heap.size (by simp)).trans (heap_alloc_new _ _))
    have HB1 : Hid (Below w.heap.size w w1) := hide (((Below.refl _ w).alloc (Nat.le_refl _) _).trans (hb.mono (by simp)))
    have hz1 : w.heap.size < w1.heap.size := by have := hb.size; simp at this; omega
    clear hb N0
    go_wp2
    go_ret2
    exact Or.inl ⟨hE, rfl, HB1.out⟩
def RNewPost (n : Int) (s : Sp) (w : World) (e : Ending) (w' : World) : Prop := ∃ v, e = .returned v ∧ WOwn w' w.heap.size v (newM n s).length (newM n s) ∧ Below w.heap.size w w'
set_option maxRecDepth 100000 in
set_option maxHeartbeats 4000000 in
theorem refNew27 (n : Int) (s : Sp) (w : World) (hE : sizeE n s = 0) : Calls Tryz.prog 14 #[.int .i64 n, spV s] w (RNewPost n s w) := by
    obtain ⟨⟨hn1, hn2⟩, ⟨hk1, hk2⟩, hr⟩ := sizeE_zero hE
    unfold RNewPost
    obtain ⟨nn, rfl⟩ : ∃ nn : Nat, n = (nn : Int) := ⟨n.toNat, by omega⟩
    obtain ⟨k, p, q⟩ := s
    simp only [] at hk1 hk2 hr
    have hmk : ∀ (N : Nat) W, N ≤ 1000 → (Instr.makeSlice 24 (.int .i64 (N : Int)) (.int .i64 (N : Int))).run Tryz.prog W = .ok (.slice (some ⟨W.heap.size, 0, none⟩) N N) (W.alloc (.cells (madeCells #[.int .u64 0] N) 25)) :=
      fun N W h => run_make_row' (P := Tryz.prog) 24 25 (.int .u64 0) 8 Tryz.underlying24 info_word rfl .i64 .i64 N (by omega) (by omega) W
    clear hE
    rcases (by omega : k = 0 ∨ k = 1 ∨ k = 2 ∨ k = 3 ∨ k = 4 ∨ k = 5 ∨ k = 6 ∨ k = 7 ∨ k = 8 ∨ k = 9) with rfl | rfl | rfl | rfl | rfl | rfl | rfl | rfl | rfl | rfl
    · have hp : 1 ≤ p ∧ p ≤ 64 := by simpa [rightT] using hr
      obtain ⟨pn, rfl⟩ : ∃ pn : Nat, p = (pn : Int) := ⟨p.toNat, by omega⟩
      have hmp := fun W => hmk pn W (by omega)
      have hnew : newM (nn : Int) ⟨0, pn, q⟩ = List.replicate pn 0 := by simp [newM]
      rw [hnew, List.length_replicate]
      clear hr hmk hnew
      go_enter Tryz.func14, Tryz.ntmps14
      go_wp2
      go_ret
      exact ⟨_, rfl, made_zero' (w.alloc _) w.heap.size _ (w.heap.size + 1) (by simp) (by simp) (by unfold maxLen; omega), ((Below.refl _ w).alloc (Nat.le_refl _) _).alloc (by simp) _⟩
    · have hnew : newM (nn : Int) ⟨1, p, q⟩ = [0] := by simp [newM]
      have hmp := make1
      rw [hnew]
      clear hr hmk hnew
      go_enter Tryz.func14, Tryz.ntmps14
      go_wp2
      go_ret
      exact ⟨_, rfl, made_one' (w.alloc _) w.heap.size (w.heap.size + 1) (by simp) (by simp), ((Below.refl _ w).alloc (Nat.le_refl _) _).alloc (by simp) _⟩
    · have hnew : newM (nn : Int) ⟨2, p, q⟩ = [0] := by simp [newM]
      have hmp := make1
      rw [hnew]
      clear hr hmk hnew
      go_enter Tryz.func14, Tryz.ntmps14
      go_wp2
      go_ret
      exact ⟨_, rfl, made_one' (w.alloc _) w.heap.size (w.heap.size + 1) (by simp) (by simp), ((Below.refl _ w).alloc (Nat.le_refl _) _).alloc (by simp) _⟩
    · have hnew : newM (nn : Int) ⟨3, p, q⟩ = [0] := by simp [newM]
      have hmp := make1
      rw [hnew]
      clear hr hmk hnew
      go_enter Tryz.func14, Tryz.ntmps14
      go_wp2
      go_ret
      exact ⟨_, rfl, made_one' (w.alloc _) w.heap.size (w.heap.size + 1) (by simp) (by simp), ((Below.refl _ w).alloc (Nat.le_refl _) _).alloc (by simp) _⟩
    · have hnew : newM (nn : Int) ⟨4, p, q⟩ = [0] := by simp [newM]
      have hmp := make1
      rw [hnew]
      clear hr hmk hnew
      go_enter Tryz.func14, Tryz.ntmps14
      go_wp2
      go_ret
      exact ⟨_, rfl, made_one' (w.alloc _) w.heap.size (w.heap.size + 1) (by simp) (by simp), ((Below.refl _ w).alloc (Nat.le_refl _) _).alloc (by simp) _⟩
    · have hmp : ∀ W, (Instr.makeSlice 24 (.int .i64 (2 * (nn : Int))) (.int .i64 (2 * (nn : Int)))).run Tryz.prog W = .ok (.slice (some ⟨W.heap.size, 0, none⟩) (2 * nn) (2 * nn)) (W.alloc (.cells (madeCells #[.int .u64 0] (2 * nn)) 25)) := fun W => by
        have := hmk (2 * nn) W (by omega)
        rwa [show ((2 * nn : Nat) : Int) = 2 * (nn : Int) by omega] at this
      have hnew : newM (nn : Int) ⟨5, p, q⟩ = List.replicate (2 * nn) 0 := by unfold newM; simp; omega
      have hn63 : 2 * (nn : Int) ≤ 100 := by omega
      rw [hnew, List.length_replicate]
      clear hr hmk hnew
      go_enter Tryz.func14, Tryz.ntmps14
      go_wp2
      go_ret
      exact ⟨_, rfl, made_zero' (w.alloc _) w.heap.size _ (w.heap.size + 1) (by simp) (by simp) (by unfold maxLen; omega), ((Below.refl _ w).alloc (Nat.le_refl _) _).alloc (by simp) _⟩
    · have hp : 1 ≤ p ∧ (p ≤ 16 ∧ (1 ≤ q ∧ q ≤ 64)) := by simpa [rightT] using hr
      obtain ⟨pn, rfl⟩ : ∃ pn : Nat, p = (pn : Int) := ⟨p.toNat, by omega⟩
      have hmp : ∀ W, (Instr.makeSlice 24 (.int .i64 ((pn : Int) + (nn : Int))) (.int .i64 ((pn : Int) + (nn : Int)))).run Tryz.prog W = .ok (.slice (some ⟨W.heap.size, 0, none⟩) (pn + nn) (pn + nn)) (W.alloc (.cells (madeCells #[.int .u64 0] (pn + nn)) 25)) := fun W => by
        have := hmk (pn + nn) W (by omega)
        rwa [show ((pn + nn : Nat) : Int) = (pn : Int) + (nn : Int) by omega] at this
      have hnew : newM (nn : Int) ⟨6, pn, q⟩ = List.replicate (pn + nn) 0 := by unfold newM; simp; omega
      have hn63 : (pn : Int) + (nn : Int) ≤ 100 := by omega
      rw [hnew, List.length_replicate]
      clear hr hmk hnew
      go_enter Tryz.func14, Tryz.ntmps14
      go_wp2
      go_ret
      exact ⟨_, rfl, made_zero' (w.alloc _) w.heap.size _ (w.heap.size + 1) (by simp) (by simp) (by unfold maxLen; omega), ((Below.refl _ w).alloc (Nat.le_refl _) _).alloc (by simp) _⟩
    · have hnew : newM (nn : Int) ⟨7, p, q⟩ = 0 :: newL p := by simp [newM]
      have N1 := fun W => refNew_any p W
      have hlen : (newL p).length ≤ 8 := by unfold newL; repeat' split <;> simp
      rw [hnew]
      generalize newL p = NL at *
      obtain ⟨i0, hi, hz0, hz1', hz2⟩ := info_parts info_word
      clear hr hmk hnew
      go_enter Tryz.func14, Tryz.ntmps14
      go_wp2_with fail
      refine (N1 _).mono ?_
      rintro e w2 ⟨v, rfl, hsl, hb2⟩
      have hv := hsl
      obtain ⟨A, c, rfl, _, _, _⟩ := hv
      have hown : WOwn w2 w.heap.size (.slice (some ⟨w.heap.size + 1, 0, none⟩) 1 1) 1 [0] := WOwn.below (by have := made_lit1 (w.alloc (.cells #[.int .i64 7, .int .i64 p, .int .i64 q] 23)) w.heap.size 0 (by simp); simpa using this) hb2 (Nat.le_refl _)
      have HB2 : Hid (Below w.heap.size w w2) := hide ((((Below.refl _ w).alloc (Nat.le_refl _) _).alloc (by simp) _).trans (hb2.mono (by simp; omega)))
      have hz2' : w.heap.size + 2 ≤ w2.heap.size := by have := hb2.size; simp at this; omega
      have HSL := hide hsl
      have HOW := hide hown
      clear hsl hown hb2
      go_wp2_with (at_builtin; refine wpList_append_sl (kk := .u64) rfl _ _ 24 rfl w.heap.size 25 i0 (.int .u64 0) 8 Tryz.underlying24 hi hz0 hz1' hz2 rfl _ 1 [0] rfl HOW.out A _ c NL rfl HSL.out (by unfold maxLen; omega) (by omega) (by omega) ?_; intro v5 w5 hown5 hgrow _)
      go_ret
      exact ⟨_, rfl, WOwn.eq hown5 rfl (by first | omega | (simp; omega)), HB2.out.grown hgrow (by omega) (fun k hk => by cases hk; exact Nat.le_succ _)⟩
    · have hnew : newM (nn : Int) ⟨8, p, q⟩ = [] := by simp [newM]
      rw [hnew]
      clear hr hmk hnew
      go_enter Tryz.func14, Tryz.ntmps14
      go_wp2
      go_ret
      exact ⟨_, rfl, World.ownsRow_nil _ _ _ _, ((Below.refl _ w).alloc (Nat.le_refl _) _)⟩
    · have hp : 1 ≤ p ∧ p ≤ 8 := by simpa [rightT] using hr
      obtain ⟨pn, rfl⟩ : ∃ pn : Nat, p = (pn : Int) := ⟨p.toNat, by omega⟩
      have hmp := fun W => hmk pn W (by omega)
      have hnew : newM (nn : Int) ⟨9, pn, q⟩ = List.replicate pn 0 := by simp [newM]
      rw [hnew, List.length_replicate]
      clear hr hmk hnew
      go_enter Tryz.func14, Tryz.ntmps14
      go_wp2
      go_ret
      exact ⟨_, rfl, made_zero' (w.alloc _) w.heap.size _ (w.heap.size + 1) (by simp) (by simp) (by unfold maxLen; omega), ((Below.refl _ w).alloc (Nat.le_refl _) _).alloc (by simp) _⟩
end Go.Proofs.YtmiimpmfkjcjlaaGreat

namespace Go.Proofs.YtmiimpmfkjcjlaaGreat
open Go.RowKit
attribute [local go_sem] run_store_fn run_store_nilfn
end Go.Proofs.YtmiimpmfkjcjlaaGreat

namespace Go.Proofs.YtmiimpmfkjcjlaaGreat
open Go.RowKit
theorem DAt.below {w w' : World} {g n B : Nat} {d : Nat → Int} (h : DAt w g n d) (hb : Below B w w') (hg : g < B) : DAt w' g n d :=
  ⟨Nat.lt_of_lt_of_le h.lt hb.size, fun k hk => (hb.cell (p := ⟨g, k, none⟩) hg).trans (h.cell k hk), fun k hk => (hb.frozen (p := ⟨g, k, none⟩) hg).trans (h.free k hk)⟩
def upTo (k j : Nat) : Int := if j < k then (j : Int) else 0
theorem DAt.up {w : World} {g n k : Nat} (h : DAt w g n (upTo k)) (hk : k < n) : DAt (w.setCell ⟨g, k, none⟩ (.int .i64 (k : Int))) g n (upTo (k + 1)) := by
  refine (h.put (x := (k : Int)) hk).same (fun j hj => ?_)
  unfold upTo
  by_cases e : j = k
  · subst e
    rw [if_pos (by omega), if_pos rfl]
  · rw [if_neg e]
    by_cases e2 : j < k
    · rw [if_pos (by omega), if_pos e2]
    · rw [if_neg (by omega), if_neg e2]
set_option maxRecDepth 100000 in
set_option maxHeartbeats 2000000 in
theorem korder_any (v : Value) (ks : List KyV) (ky : Nat → List Int) (w : World) (h : KsAt w v ks ky) (hm : ks.length ≤ 100000) :
    Calls Tryz.prog 101 #[v] w (KoPost ky ks.length w) := by
  have HK := hide h
  obtain ⟨N, hN⟩ : ∃ N, ks.length = N := ⟨_, rfl⟩
  rw [hN]
  have HN := hide hN
  obtain ⟨A, c, rfl, a1, a2, a3⟩ := h.row
  rw [hN]
  rw [hN] at hm HK
  have hmk : ∀ W, (Instr.makeSlice 42 (.int .i64 (N : Int)) (.int .i64 (N : Int))).run Tryz.prog W = .ok (.slice (some ⟨W.heap.size, 0, none⟩) N N) (W.alloc (.cells (madeCells #[.int .i64 0] N) 3)) :=
    fun W => run_make_row' (P := Tryz.prog) 42 3 (.int .i64 0) 8 Tryz.underlying42 info_int rfl .i64 .i64 N (by omega) (by omega) W
  have N1 := fun W d hd hv hid hC => sortstable_any (cfK_ok ky) (w.heap.size + 1) N N w.heap.size d W hd hv hid hC (by omega)
  obtain ⟨W1, hW1⟩ : ∃ W1, w.alloc (.cells #[.slice A N c] 164) = W1 := ⟨_, rfl⟩
  have hz1 : W1.heap.size = w.heap.size + 1 := by rw [← hW1]; simp
  have HB1 : Hid (Below w.heap.size w W1) := hide (by rw [← hW1]; exact (Below.refl _ _).alloc (Nat.le_refl _) _)
  have HC1 : Hid (W1.cell? ⟨w.heap.size, 0, none⟩ = some (.slice A N c)) := hide (by rw [← hW1]; exact cell_of_row _ _ 0 _ _ _ (heap_alloc_new _ _))
  have HS : Hid (DAt (W1.alloc (.cells (madeCells #[.int .i64 0] N) 3)) (w.heap.size + 1) N (upTo 0) ∧ Below (w.heap.size + 1) W1 (W1.alloc (.cells (madeCells #[.int .i64 0] N) 3))) := hide ⟨by
    have := dat_made W1 N
    rw [hz1] at this
    exact this.same (fun k _ => by unfold upTo; rw [if_neg (by omega)]), (Below.refl _ _).alloc (by omega) _⟩
  have HZ1 := hide hz1
  have HW1 := hide hW1
  clear hN hz1 hW1 a1 a2 a3 h
  go_enter Tryz.func101, Tryz.ntmps101
  go_wp2
  go_loopw [10] (fun i wr => ∃ k : Nat, k ≤ N ∧ i = .int .i64 k ∧ Hid (DAt wr (w.heap.size + 1) N (upTo k)) ∧ Hid (Below (w.heap.size + 1) W1 wr)) (fun i _ => N - (intOf i).toNat)
  case atStart => exact ⟨0, Nat.zero_le _, rfl, hide (by have h1 := HW1.out; have h2 := HS.out.1; rw [← h1] at h2; exact h2), hide (by have h1 := HW1.out; have h2 := HS.out.2; rw [← h1] at h2 ⊢; exact h2)⟩
  case round =>
    obtain ⟨k, hk, rfl, hD, hB⟩ := hrel
    by_cases l1 : k < N
    · have d1 : decide ((k : Int) < (N : Int)) = true := by simp; omega
      have d2 : decide (k < N) = true := by simp; omega
      have q0 : (0 : Int) ≤ (k : Int) := by omega
      have q1 : (k : Int) < (N : Int) := by omega
      have c1 := hD.out.cell k l1
      have f1 := hD.out.free k l1
      have HD2 := hide (hD.out.up l1)
      have HB2 : Hid (Below (w.heap.size + 1) W1 (wr.setCell ⟨w.heap.size + 1, k, none⟩ (.int .i64 (k : Int)))) := hide (hB.out.setCell (by simp) _)
      clear N1 hmk
      go_wp2
      go_roundw
      case rel => exact ⟨k + 1, by omega, by go_num, HD2, HB2⟩
      case measure => simp [intOf] <;> omega
    · have d1 : decide ((k : Int) < (N : Int)) = false := by simp; omega
      have d2 : decide (k < N) = false := by simp; omega
      obtain rfl : k = N := by omega
      have HB0 : Hid (Below w.heap.size w wr) := hide (HB1.out.trans (hB.out.mono (by omega)))
      have hid : ∀ j, j < k → upTo k j = (j : Int) := fun j hj => by unfold upTo; rw [if_pos hj]
      have hv : Vd k k (upTo k) := fun j hj => ⟨j, hid j hj, hj⟩
      have hC : CmpV (cfK ky) k 159 w.heap.size (w.heap.size + 1) wr := fun W hW x y hx hy => by
        have hb := hB.out.trans hW
        refine korder1_any w.heap.size x y (.slice A k c) ks ky W ((hb.cell (p := ⟨w.heap.size, 0, none⟩) (by simp)).trans HC1.out) (HK.out.below (HB1.out.trans (hb.mono (by omega)))) (by rw [HN.out]; exact hx) (by rw [HN.out]; exact hy)
      have HF := fun W => hide (N1 W (upTo k))
      have HV := hide hv
      have HI := hide hid
      have HCC := hide hC
      clear hmk N1 hid hv hC
      go_wp2_with fail
      refine ((HF _).out hD.out HV.out HI.out HCC.out).mono ?_
      rintro e w2 ⟨d', ⟨⟨v, rfl⟩, h1, h2⟩, h3, h4⟩
      have HP : Hid (KoPost ky k w (.returned (.slice (some ⟨w.heap.size + 1, 0, none⟩) k k)) w2) := hide ⟨_, d', rfl, by omega, h1, h3, ?hs, HB0.out.trans (h2.mono (by omega))⟩
      case hs =>
        intro x
        rw [h4.2 x]
        constructor
        · rintro ⟨j, _, hj, e⟩
          exact ⟨j, hj, by rw [← e, HI.out j hj]⟩
        · rintro ⟨j, hj, e⟩
          exact ⟨j, Nat.zero_le _, hj, by rw [HI.out j hj, e]⟩
      clear h1 h2 h3 h4 HF
      go_wp2
      go_ret
      exact HP
end Go.Proofs.YtmiimpmfkjcjlaaGreat

namespace Go.Proofs.YtmiimpmfkjcjlaaGreat
open Go.RowKit
theorem IsOrd.skip {ky : Nat → List Int} {i : Nat} {L : List Nat} (h : IsOrd ky i L) (hk : ky i = []) : IsOrd ky (i + 1) L := by
  refine ⟨h.1, fun x => (h.2 x).trans ⟨fun ⟨h1, h2⟩ => ⟨by omega, h2⟩, fun ⟨h1, h2⟩ => ⟨?_, h2⟩⟩⟩
  by_cases e : x = i
  · subst e; exact absurd hk h2
  · omega
theorem IsOrd.ins {ky : Nat → List Int} {i k : Nat} {L : List Nat} (h : IsOrd ky i L) (hk : ky i ≠ []) (h1 : ∀ x ∈ L.drop k, LtK ky i x) (h2 : k = 0 ∨ ∃ x, L[k - 1]? = some x ∧ ¬ kcmp (ky i) (ky x) < 0) (hk0 : k ≤ L.length) : IsOrd ky (i + 1) (L.take k ++ i :: L.drop k) := by
  have hp : (L.take k ++ L.drop k).Pairwise (LtK ky) := by rw [List.take_append_drop]; exact h.1
  have hpw := List.pairwise_append.1 hp
  have hlast : ∀ a ∈ L.take k, LtK ky a i := by
    intro a ha
    rcases h2 with h2 | ⟨x, hx, hc⟩
    · subst h2
      simp at ha
    · have hxi : x < i := ((h.2 x).1 (List.mem_of_getElem? hx)).1
      have hxl : LtK ky x i := by
        have hcr := (Lt.cross (cfK_ok ky) (x := (x : Int)) (y := (i : Int)) (fun _ => by omega)).2
        exact hcr hc
      by_cases hax : a = x
      · subst hax; exact hxl
      · obtain ⟨j, hj, hja⟩ := List.mem_iff_getElem.1 ha
        rw [List.getElem_take] at hja
        rw [List.length_take] at hj
        obtain ⟨hkl, hxe⟩ := List.getElem?_eq_some_iff.1 hx
        have hjk : j < k - 1 := by
          rcases Nat.lt_or_ge j (k - 1) with hh | hh
          · exact hh
          · have : j = k - 1 := by omega
            subst this
            exact absurd (hja.symm.trans hxe) hax
        have := List.pairwise_iff_getElem.1 h.1 j (k - 1) (by omega) hkl hjk
        rw [hja, hxe] at this
        exact LtK.trans this hxl
  refine ⟨List.pairwise_append.2 ⟨hpw.1, List.pairwise_cons.2 ⟨h1, hpw.2.1⟩, fun a ha b hb => ?_⟩, fun x => ?_⟩
  · rcases List.mem_cons.1 hb with rfl | hb
    · exact hlast a ha
    · exact hpw.2.2 a ha b hb
  · have hm : x ∈ L.take k ++ i :: L.drop k ↔ x = i ∨ x ∈ L := by
      rw [List.mem_append, List.mem_cons]
      have : x ∈ L ↔ x ∈ L.take k ∨ x ∈ L.drop k := by rw [← List.mem_append, List.take_append_drop]
      rw [this]
      constructor
      · rintro (a | a | a)
        · exact Or.inr (Or.inl a)
        · exact Or.inl a
        · exact Or.inr (Or.inr a)
      · rintro (a | a | a)
        · exact Or.inr (Or.inl a)
        · exact Or.inl a
        · exact Or.inr (Or.inr a)
    rw [hm, h.2 x]
    constructor
    · rintro (rfl | ⟨a, b⟩)
      · exact ⟨by omega, hk⟩
      · exact ⟨by omega, b⟩
    · rintro ⟨a, b⟩
      by_cases e : x = i
      · exact Or.inl e
      · exact Or.inr ⟨by omega, b⟩
theorem IsOrd.nil (ky : Nat → List Int) : IsOrd ky 0 [] := ⟨List.Pairwise.nil, fun x => by simp⟩
structure EvKey (w : World) (v : Value) (es : List Ev) (ky : Nat → List Int) : Prop where
  evs : SlEv w v es
  key : ∀ (k : Nat) (e : Ev), es[k]? = some e → SlI w (.slice e.kA e.kN e.kC) (ky k)
theorem EvKey.below {w w' : World} {v : Value} {es : List Ev} {ky : Nat → List Int} (h : EvKey w v es ky) (hb : Below w.heap.size w w') : EvKey w' v es ky := ⟨h.evs.below hb (Nat.le_refl _), fun k e he => (h.key k e he).below hb (Nat.le_refl _)⟩
theorem iown_set {w : World} {B g n cap j : Nat} {xs : List Int} {y : Int} (hO : IOwn w B (.slice (some ⟨g, 0, none⟩) n cap) n xs) : IOwn (w.setCell ⟨g, j, none⟩ (.int .i64 y)) B (.slice (some ⟨g, 0, none⟩) n cap) n (xs.set j y) := by
  have := (World.ownsRow.stored hO j (.int .i64 y)).1
  rw [← List.map_set] at this
  exact this
theorem shift_eq {L : List Nat} {k : Nat} {x : Nat} {j : Int} (hk : 0 < k) (hx : L[k - 1]? = some x) : (ordI (L.take k) ++ j :: ordI (L.drop k)).set k (x : Int) = ordI (L.take (k - 1)) ++ (x : Int) :: ordI (L.drop (k - 1)) := by
  obtain ⟨h1, h2⟩ := List.getElem?_eq_some_iff.1 hx
  have hl : (ordI (L.take k)).length = k := by simp; omega
  rw [List.set_append_right _ _ (by omega), hl, Nat.sub_self, List.set_cons_zero]
  have e1 : L.take k = L.take (k - 1) ++ [x] := by
    have := List.take_add_one (l := L) (i := k - 1)
    rw [show k - 1 + 1 = k by omega, hx] at this
    exact this
  have e2 : L.drop (k - 1) = x :: L.drop k := by
    rw [List.drop_eq_getElem_cons h1, h2, show k - 1 + 1 = k by omega]
  rw [e1, e2]
  simp [ordI]
theorem fin_eq {L : List Nat} {k i : Nat} {j : Int} (hk : k ≤ L.length) : (ordI (L.take k) ++ j :: ordI (L.drop k)).set k (i : Int) = ordI (L.take k ++ i :: L.drop k) := by
  have hl : (ordI (L.take k)).length = k := by simp; omega
  rw [List.set_append_right _ _ (by omega), hl, Nat.sub_self, List.set_cons_zero]
  simp [ordI]
end Go.Proofs.YtmiimpmfkjcjlaaGreat
