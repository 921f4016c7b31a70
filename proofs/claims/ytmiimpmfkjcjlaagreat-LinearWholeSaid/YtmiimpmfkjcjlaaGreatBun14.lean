import Derived.Test.YtmiimpmfkjcjlaaGreatBun13
import Derived.Test.YtmiimpmfkjcjlaaGreatBun2
import Derived.Deep.QuietTactic
import Derived.BigQuiet
namespace Go.Proofs.YtmiimpmfkjcjlaaGreat
open Go.RowKit
abbrev KyV := Option Addr × Nat × Nat
def kyEn (x : KyV) : List Value := [.slice x.1 x.2.1 x.2.2]
structure KsAt (w : World) (v : Value) (ks : List KyV) (ky : Nat → List Int) : Prop where
  row : Sl kyEn 1 w v ks
  key : ∀ k x, ks[k]? = some x → SlI w (.slice x.1 x.2.1 x.2.2) (ky k)
theorem KsAt.below {w w' : World} {v : Value} {ks : List KyV} {ky : Nat → List Int} (h : KsAt w v ks ky) (hb : Below w.heap.size w w') : KsAt w' v ks ky :=
  ⟨h.row.below hb (Nat.le_refl _), fun k x hx => (h.key k x hx).below hb (Nat.le_refl _)⟩
set_option maxRecDepth 100000 in
set_option maxHeartbeats 1000000 in
theorem korder1_any (B x y : Nat) (v : Value) (ks : List KyV) (ky : Nat → List Int) (w : World) (hB : w.cell? ⟨B, 0, none⟩ = some v) (h : KsAt w v ks ky) (hx : x < ks.length) (hy : y < ks.length) :
    Calls Tryz.prog 159 #[.int .i64 x, .int .i64 y, .pointer (some ⟨B, 0, none⟩)] w fun e w' => e = .returned (.int .i64 (cfK ky x y)) ∧ ∃ m, w' = w.drewN m := by
  obtain ⟨X, hX⟩ : ∃ X, ks[x]? = some X := ⟨_, List.getElem?_eq_getElem hx⟩
  obtain ⟨Y, hY⟩ : ∃ Y, ks[y]? = some Y := ⟨_, List.getElem?_eq_getElem hy⟩
  have N1 := fun W (h1 : SlI W (.slice X.1 X.2.1 X.2.2) (ky x)) h2 => kcompare_any (.slice X.1 X.2.1 X.2.2) (.slice Y.1 Y.2.1 Y.2.2) (ky x) (ky y) W h1 h2
  have hk1 := (h.key x X hX).drewN 1
  have hk2 := (h.key y Y hY).drewN 1
  obtain ⟨A, c, rfl, a1, a2, a3⟩ := h.row
  obtain ⟨g, o, rfl, hg, hcx⟩ := a3 x X hX
  obtain ⟨g', o', e', hg', hcy⟩ := a3 y Y hY
  cases e'
  have c1 := hcx 0 _ rfl
  have c2 := hcy 0 _ rfl
  simp only [Nat.mul_one, Nat.add_zero] at c1 c2
  have q0 : (0 : Int) ≤ (x : Int) := by omega
  have q1 : (x : Int) < (ks.length : Int) := by omega
  have q2 : (0 : Int) ≤ (y : Int) := by omega
  have q3 : (y : Int) < (ks.length : Int) := by omega
  obtain ⟨z, hz⟩ : ∃ z, cfK ky x y = z := ⟨_, rfl⟩
  have HZ : Hid (kcmp (ky x) (ky y) = z) := hide (by rw [← hz]; unfold cfK; rw [Int.toNat_natCast, Int.toNat_natCast])
  rw [hz]
  obtain ⟨X1, X2, X3⟩ := X
  obtain ⟨Y1, Y2, Y3⟩ := Y
  generalize ks.length = nk at *
  clear a3 hcx hcy hX hY hz h
  generalize ky x = kx at N1 hk1 HZ
  generalize ky y = kyy at N1 hk2 HZ
  go_enter Tryz.func159, Tryz.ntmps159
  go_wp2_with fail
  refine wp_region_seq (fun W => W.cell? ⟨B, 0, none⟩ = some (.slice (some ⟨g, o, none⟩) nk c) ∧ W.cell? ⟨g, o + x, none⟩ = some (.slice X1 X2 X3) ∧ W.cell? ⟨g, o + y, none⟩ = some (.slice Y1 Y2 Y3)) (.take 0 <| .take 1 <| .take 2 <| .take 3 <| .take 4 <| .take 5 <| .take 6 <| .take 7 <| .run 8 <| .take 9 <| .done) (by kernel_rfl) (by kernel_rfl) (by kernel_rfl) ⟨hB, c1, c2⟩ ?_
  repeat (first | (refine seq_take (v := ?_) rfl (by rfl) ?_ ?_; rotate_left; (focus (intro wS hS; have s0 := hS.1; have s1 := hS.2.1; have s2 := hS.2.2; go_simp; exact rfl)); simp only [Act.put, sqA, sqB, sqC]) | (refine seq_skip rfl (by rfl) ?_; simp only [Act.put, sqA, sqB, sqC]))
  refine seq_run rfl (by rfl) (fun K hK => ?_)
  go_simp
  refine (N1 _ hk1 hk2).mono ?_
  rintro e1 w1 ⟨rfl, rfl⟩
  refine hK _ _ ⟨by simpa using hB, by simpa using c1, by simpa using c2⟩ ?_
  clear hK K N1
  repeat (first | (refine seq_take (v := ?_) rfl (by rfl) ?_ ?_; rotate_left; (focus (intro wS hS; have s0 := hS.1; have s1 := hS.2.1; have s2 := hS.2.2; go_simp; exact rfl)); simp only [Act.put, sqA, sqB, sqC]) | (refine seq_skip rfl (by rfl) ?_; simp only [Act.put, sqA, sqB, sqC]))
  refine seq_nil ?_
  rw [HZ.out]
  clear hk1 hk2 hB c1 c2
  go_wp2
  go_ret
  exact ⟨rfl, 1, rfl⟩
def KoPost (ky : Nat → List Int) (N : Nat) (w : World) (e : Ending) (w' : World) : Prop :=
  ∃ (g : Nat) (d : Nat → Int), e = .returned (.slice (some ⟨g, 0, none⟩) N N) ∧ w.heap.size ≤ g ∧ DAt w' g N d ∧ OrdOn (cfK ky) d 0 N ∧ (∀ x : Int, Has d 0 N x ↔ ∃ k : Nat, k < N ∧ x = (k : Int)) ∧ Below w.heap.size w w'
set_option maxRecDepth 100000 in
set_option maxHeartbeats 1000000 in
theorem sortstable_any {cf : Int → Int → Int} (H : CmpOk cf) (g N K B : Nat) (d : Nat → Int) (w : World) (hd : DAt w g N d) (hv : Vd K N d) (hid : ∀ k, k < N → d k = (k : Int)) (hC : CmpV cf K 159 B g w) (hN : N ≤ 1000000) :
    Calls Tryz.prog 158 #[.slice (some ⟨g, 0, none⟩) N N, cmpF B] w (StabPost cf g N d w) := by
  have N1 := stable_any H g N K B d w hd hv hid hC hN
  clear hd hv hid hC
  go_enter Tryz.func158, Tryz.ntmps158
  go_wp2_with fail
  refine N1.mono ?_
  rintro e w1 ⟨d', ⟨⟨v, rfl⟩, h1, h2⟩, h3, h4⟩
  have HP : Hid (StabPost cf g N d w (.returned (.tuple #[])) w1) := hide ⟨d', ⟨⟨_, rfl⟩, h1, h2⟩, h3, h4⟩
  clear N1 h1 h2 h3 h4
  go_wp2
  ((try simp only [Exit.inBlock, Exit.then]); refine bodyPost_ret (results_none rfl _ _ _) rfl ?_)
  exact HP
theorem dat_made (W : World) (N : Nat) : DAt (W.alloc (.cells (madeCells #[.int .i64 0] N) 3)) W.heap.size N (fun _ => 0) := by
  have hh := heap_alloc_new W (.cells (madeCells #[.int .i64 0] N) 3)
  refine ⟨by simp, fun k hk => ?_, fun k hk => ?_⟩
  · exact cell_of_row _ _ k _ _ _ (by rw [hh]) |>.trans (by simp [madeCells, hk, Nat.mod_one])
  · exact frozen_of_row _ _ k _ _ hh
end Go.Proofs.YtmiimpmfkjcjlaaGreat

namespace Go.Proofs.YtmiimpmfkjcjlaaGreat
open Go.RowKit
attribute [local go_sem] run_store_fn run_store_nilfn
theorem tacts_c (n : Int) (w : World) : Calls Tryz.prog 114 #[.int .i64 n] w fun e w' => e = .returned (.func (.func 162) #[] #[.pointer (some ⟨w.heap.size, 0, none⟩)]) ∧ w' = w.alloc (.cells #[.int .i64 n] 3) := by
  go_enter Tryz.func114, Tryz.ntmps114
  go_wp2
  go_ret
  exact ⟨rfl, rfl⟩
theorem tupTo_c (n : Int) (w : World) : Calls Tryz.prog 115 #[.int .i64 n] w fun e w' => e = .returned (.func (.func 163) #[] #[.pointer (some ⟨w.heap.size, 0, none⟩)]) ∧ w' = w.alloc (.cells #[.int .i64 n] 3) := by
  go_enter Tryz.func115, Tryz.ntmps115
  go_wp2
  go_ret
  exact ⟨rfl, rfl⟩
theorem tacts1 (s : Sp) (B : Nat) (n : Int) (w : World) (hB : w.cell? ⟨B, 0, none⟩ = some (.int .i64 n)) (hBl : B < w.heap.size) :
    Calls Tryz.prog 162 #[spV s, .pointer (some ⟨B, 0, none⟩)] w fun e w' => e = .returned (.int .i64 n) ∧ Below w.heap.size w w' := by
  go_enter Tryz.func162, Tryz.ntmps162
  go_wp2
  go_ret
  exact ⟨rfl, by (repeat' (first | exact Below.refl _ _ | assumption | refine Below.drew ?_ | refine below_drewN ?_ _ | refine Below.alloc ?_ (by simp <;> omega) _ | refine Below.setCell ?_ (by simp <;> omega) _))⟩
theorem tupTo1 (s : Sp) (B : Nat) (n : Int) (w : World) (hB : w.cell? ⟨B, 0, none⟩ = some (.int .i64 n)) (hBl : B < w.heap.size) :
    Calls Tryz.prog 163 #[spV s, .pointer (some ⟨B, 0, none⟩)] w fun e w' => e = .returned (.bool (decide (1 ≤ s.p) && decide (s.p ≤ n))) ∧ Below w.heap.size w w' := by
  by_cases h : 1 ≤ s.p
  · have d1 : decide (1 ≤ s.p) = true := by simpa using h
    go_enter Tryz.func163, Tryz.ntmps163
    go_wp2
    go_ret
    exact ⟨ret_bool (by first | rfl | (simp; done) | (rw [Bool.eq_iff_iff]; simp; done) | (rw [Bool.eq_iff_iff]; simp; omega)), by (repeat' (first | exact Below.refl _ _ | assumption | refine Below.drew ?_ | refine below_drewN ?_ _ | refine Below.alloc ?_ (by simp <;> omega) _ | refine Below.setCell ?_ (by simp <;> omega) _))⟩
  · have d1 : decide (1 ≤ s.p) = false := by simpa using h
    go_enter Tryz.func163, Tryz.ntmps163
    go_wp2
    go_ret
    exact ⟨ret_bool (by first | rfl | (simp; done) | (rw [Bool.eq_iff_iff]; simp; done) | (rw [Bool.eq_iff_iff]; simp; omega)), by (repeat' (first | exact Below.refl _ _ | assumption | refine Below.drew ?_ | refine below_drewN ?_ _ | refine Below.alloc ?_ (by simp <;> omega) _ | refine Below.setCell ?_ (by simp <;> omega) _))⟩
theorem twhatever (s : Sp) (w : World) : Calls Tryz.prog 119 #[spV s] w fun e w' => e = .returned (.bool true) ∧ Below w.heap.size w w' := by
  go_enter Tryz.func119, Tryz.ntmps119
  go_wp2
  go_ret
  exact ⟨rfl, by (repeat' (first | exact Below.refl _ _ | assumption | refine Below.drew ?_ | refine below_drewN ?_ _ | refine Below.alloc ?_ (by simp <;> omega) _ | refine Below.setCell ?_ (by simp <;> omega) _))⟩
theorem tone (n : Int) (s : Sp) (w : World) : Calls Tryz.prog 120 #[.int .i64 n, spV s] w fun e w' => e = .returned (.int .i64 1) ∧ Below w.heap.size w w' := by
  go_enter Tryz.func120, Tryz.ntmps120
  go_wp2
  go_ret
  exact ⟨rfl, by (repeat' (first | exact Below.refl _ _ | assumption | refine Below.drew ?_ | refine below_drewN ?_ _ | refine Below.alloc ?_ (by simp <;> omega) _ | refine Below.setCell ?_ (by simp <;> omega) _))⟩
theorem tsizeCell (n : Int) (s : Sp) (w : World) : Calls Tryz.prog 116 #[.int .i64 n, spV s] w fun e w' => e = .returned (.int .i64 s.p) ∧ Below w.heap.size w w' := by
  go_enter Tryz.func116, Tryz.ntmps116
  go_wp2
  go_ret
  exact ⟨rfl, by (repeat' (first | exact Below.refl _ _ | assumption | refine Below.drew ?_ | refine below_drewN ?_ _ | refine Below.alloc ?_ (by simp <;> omega) _ | refine Below.setCell ?_ (by simp <;> omega) _))⟩
theorem tsizeTally (n : Int) (s : Sp) (w : World) : Calls Tryz.prog 123 #[.int .i64 n, spV s] w fun e w' => e = .returned (.int .i64 n) ∧ Below w.heap.size w w' := by
  go_enter Tryz.func123, Tryz.ntmps123
  go_wp2
  go_ret
  exact ⟨rfl, by (repeat' (first | exact Below.refl _ _ | assumption | refine Below.drew ?_ | refine below_drewN ?_ _ | refine Below.alloc ?_ (by simp <;> omega) _ | refine Below.setCell ?_ (by simp <;> omega) _))⟩
theorem maxSize (p : Int) (h1 : 1 ≤ p) (h2 : p ≤ 12) (w : World) : Calls Tryz.prog 129 #[.int .i64 p] w fun e w' => e = .returned (.int .i64 (2 ^ p.toNat - 1)) ∧ w' = w := by
  obtain ⟨b1, b2⟩ := pow_bd h1 h2
  have hw : IntKind.i64.wrap (2 ^ p.toNat) = 2 ^ p.toNat := IntWalk.i64_in _ (by omega)
  have hu : IntKind.u64.wrap p = p := by rw [IntKind.wrap_u64]; omega
  go_enter Tryz.func129, Tryz.ntmps129
  go_wp2
  go_ret
  exact ⟨rfl, rfl⟩
theorem tsizeMax (n : Int) (s : Sp) (h1 : 1 ≤ s.p) (h2 : s.p ≤ 12) (w : World) : Calls Tryz.prog 128 #[.int .i64 n, spV s] w fun e w' => e = .returned (.int .i64 (2 ^ s.p.toNat - 1)) ∧ Below w.heap.size w w' := by
  go_enter Tryz.func128, Tryz.ntmps128
  go_wp2_with fail
  refine (maxSize s.p h1 h2 _).mono ?_
  rintro e w1 ⟨rfl, rfl⟩
  go_wp2
  go_ret
  exact ⟨rfl, by (repeat' (first | exact Below.refl _ _ | assumption | refine Below.drew ?_ | refine below_drewN ?_ _ | refine Below.alloc ?_ (by simp <;> omega) _ | refine Below.setCell ?_ (by simp <;> omega) _))⟩
theorem snapSize (n p : Int) (hn1 : 1 ≤ n) (hn2 : n ≤ 16) (h1 : 1 ≤ p) (h2 : p ≤ 64) (w : World) : Calls Tryz.prog 165 #[.int .i64 n, .int .i64 p] w fun e w' => e = .returned (.int .i64 (n + n * p * (n + 1))) ∧ w' = w := by
  obtain ⟨a1, a2⟩ := mul_bd (show 0 ≤ n by omega) hn2 (show 0 ≤ p by omega) h2
  obtain ⟨b1, b2⟩ := mul_bd a1 a2 (show 0 ≤ n + 1 by omega) (show n + 1 ≤ 17 by omega)
  go_enter Tryz.func165, Tryz.ntmps165
  go_wp2
  go_ret
  exact ⟨rfl, rfl⟩
theorem tsizeSnap (n : Int) (s : Sp) (hn1 : 1 ≤ n) (hn2 : n ≤ 16) (h1 : 1 ≤ s.p) (h2 : s.p ≤ 64) (w : World) : Calls Tryz.prog 164 #[.int .i64 n, spV s] w fun e w' => e = .returned (.int .i64 (n + n * s.p * (n + 1))) ∧ Below w.heap.size w w' := by
  go_enter Tryz.func164, Tryz.ntmps164
  go_wp2_with fail
  refine (snapSize n s.p hn1 hn2 h1 h2 _).mono ?_
  rintro e w1 ⟨rfl, rfl⟩
  go_wp2
  go_ret
  exact ⟨rfl, by (repeat' (first | exact Below.refl _ _ | assumption | refine Below.drew ?_ | refine below_drewN ?_ _ | refine Below.alloc ?_ (by simp <;> omega) _ | refine Below.setCell ?_ (by simp <;> omega) _))⟩
theorem multiSize (n p q : Int) (hn1 : 1 ≤ n) (hn2 : n ≤ 16) (h1 : 1 ≤ p) (h2 : p ≤ 16) (h3 : 1 ≤ q) (h4 : q ≤ 64) (w : World) : Calls Tryz.prog 170 #[.int .i64 n, .int .i64 p, .int .i64 q] w fun e w' => e = .returned (.int .i64 (p + n * q * (p + 1))) ∧ w' = w := by
  obtain ⟨a1, a2⟩ := mul_bd (show 0 ≤ n by omega) hn2 (show 0 ≤ q by omega) h4
  obtain ⟨b1, b2⟩ := mul_bd a1 a2 (show 0 ≤ p + 1 by omega) (show p + 1 ≤ 17 by omega)
  go_enter Tryz.func170, Tryz.ntmps170
  go_wp2
  go_ret
  exact ⟨rfl, rfl⟩
theorem tsizeMulti (n : Int) (s : Sp) (hn1 : 1 ≤ n) (hn2 : n ≤ 16) (h1 : 1 ≤ s.p) (h2 : s.p ≤ 16) (h3 : 1 ≤ s.q) (h4 : s.q ≤ 64) (w : World) : Calls Tryz.prog 169 #[.int .i64 n, spV s] w fun e w' => e = .returned (.int .i64 (s.p + n * s.q * (s.p + 1))) ∧ Below w.heap.size w w' := by
  go_enter Tryz.func169, Tryz.ntmps169
  go_wp2_with fail
  refine (multiSize n s.p s.q hn1 hn2 h1 h2 h3 h4 _).mono ?_
  rintro e w1 ⟨rfl, rfl⟩
  go_wp2
  go_ret
  exact ⟨rfl, by (repeat' (first | exact Below.refl _ _ | assumption | refine Below.drew ?_ | refine below_drewN ?_ _ | refine Below.alloc ?_ (by simp <;> omega) _ | refine Below.setCell ?_ (by simp <;> omega) _))⟩
theorem trightMulti (s : Sp) (w : World) : Calls Tryz.prog 168 #[spV s] w fun e w' => e = .returned (.bool (decide (1 ≤ s.p) && (decide (s.p ≤ 16) && (decide (1 ≤ s.q) && decide (s.q ≤ 64))))) ∧ Below w.heap.size w w' := by
  go_enter Tryz.func168, Tryz.ntmps168
  go_wp2
  all_goals (go_ret; exact ⟨ret_bool (by first | rfl | (simp; done) | (rw [Bool.eq_iff_iff]; simp; done) | (rw [Bool.eq_iff_iff]; simp; omega)), by (repeat' (first | exact Below.refl _ _ | assumption | refine Below.drew ?_ | refine below_drewN ?_ _ | refine Below.alloc ?_ (by simp <;> omega) _ | refine Below.setCell ?_ (by simp <;> omega) _))⟩)
theorem tactsUniv (s : Sp) (w : World) : Calls Tryz.prog 173 #[spV s] w fun e w' => e = .returned (.int .i64 (kindsI s.p)) ∧ Below w.heap.size w w' := by
  obtain ⟨K, hK⟩ : ∃ K, kindsI s.p = K := ⟨_, rfl⟩
  have N0 := fun W => kinds_any s.p W
  rw [hK] at N0 ⊢
  clear hK
  go_enter Tryz.func173, Tryz.ntmps173
  go_wp2_with fail
  refine (N0 _).mono ?_
  rintro e w1 ⟨rfl, hb⟩
  go_wp2
  go_ret
  exact ⟨rfl, ((Below.refl _ w).alloc (Nat.le_refl _) _).trans (hb.mono (by simp))⟩
theorem univRight (p q : Int) (w : World) : Calls Tryz.prog 176 #[.int .i64 p, .int .i64 q] w fun e w' => e = .returned (.bool (decide (0 < kindsI p) && (decide (1 ≤ q) && decide (q ≤ 256)))) ∧ Below w.heap.size w w' := by
  obtain ⟨K, hK⟩ : ∃ K, kindsI p = K := ⟨_, rfl⟩
  have N0 := fun W => kinds_any p W
  rw [hK] at N0 ⊢
  clear hK
  go_enter Tryz.func176, Tryz.ntmps176
  go_wp2_with fail
  refine (N0 _).mono ?_
  rintro e w1 ⟨rfl, hb⟩
  go_wp2
  all_goals (go_ret; exact ⟨ret_bool (by first | rfl | (simp; done) | (rw [Bool.eq_iff_iff]; simp; done) | (rw [Bool.eq_iff_iff]; simp; omega)), hb⟩)
theorem trightUniv (s : Sp) (w : World) : Calls Tryz.prog 175 #[spV s] w fun e w' => e = .returned (.bool (decide (0 < kindsI s.p) && (decide (1 ≤ s.q) && decide (s.q ≤ 256)))) ∧ Below w.heap.size w w' := by
  obtain ⟨R, hR⟩ : ∃ R, (decide (0 < kindsI s.p) && (decide (1 ≤ s.q) && decide (s.q ≤ 256))) = R := ⟨_, rfl⟩
  have N0 := fun W => univRight s.p s.q W
  rw [hR] at N0 ⊢
  clear hR
  go_enter Tryz.func175, Tryz.ntmps175
  go_wp2_with fail
  refine (N0 _).mono ?_
  rintro e w1 ⟨rfl, hb⟩
  go_wp2
  go_ret
  exact ⟨rfl, ((Below.refl _ w).alloc (Nat.le_refl _) _).trans (hb.mono (by simp))⟩
theorem tsizeUniv (n : Int) (s : Sp) (hn1 : 1 ≤ n) (hn2 : n ≤ 16) (h3 : 1 ≤ s.q) (h4 : s.q ≤ 256) (w : World) : Calls Tryz.prog 177 #[.int .i64 n, spV s] w fun e w' => e = .returned (.int .i64 (n + s.q)) ∧ Below w.heap.size w w' := by
  go_enter Tryz.func177, Tryz.ntmps177
  go_wp2
  go_ret
  exact ⟨rfl, by (repeat' (first | exact Below.refl _ _ | assumption | refine Below.drew ?_ | refine below_drewN ?_ _ | refine Below.alloc ?_ (by simp <;> omega) _ | refine Below.setCell ?_ (by simp <;> omega) _))⟩
theorem queueRight (p q : Int) (w : World) : Calls Tryz.prog 181 #[.int .i64 p, .int .i64 q] w fun e w' => e = .returned (.bool (decide (1 ≤ p) && (decide (p ≤ 32) && (decide (0 ≤ q) && decide (q ≤ 3))))) ∧ w' = w := by
  go_enter Tryz.func181, Tryz.ntmps181
  go_wp2
  all_goals (go_ret; exact ⟨ret_bool (by first | rfl | (simp; done) | (rw [Bool.eq_iff_iff]; simp; done) | (rw [Bool.eq_iff_iff]; simp; omega)), rfl⟩)
theorem trightQueue (s : Sp) (w : World) : Calls Tryz.prog 180 #[spV s] w fun e w' => e = .returned (.bool (decide (1 ≤ s.p) && (decide (s.p ≤ 32) && (decide (0 ≤ s.q) && decide (s.q ≤ 3))))) ∧ Below w.heap.size w w' := by
  obtain ⟨R, hR⟩ : ∃ R, (decide (1 ≤ s.p) && (decide (s.p ≤ 32) && (decide (0 ≤ s.q) && decide (s.q ≤ 3)))) = R := ⟨_, rfl⟩
  have N0 := fun W => queueRight s.p s.q W
  rw [hR] at N0 ⊢
  clear hR
  go_enter Tryz.func180, Tryz.ntmps180
  go_wp2_with fail
  refine (N0 _).mono ?_
  rintro e w1 ⟨rfl, rfl⟩
  go_wp2
  go_ret
  exact ⟨rfl, by (repeat' (first | exact Below.refl _ _ | assumption | refine Below.drew ?_ | refine below_drewN ?_ _ | refine Below.alloc ?_ (by simp <;> omega) _ | refine Below.setCell ?_ (by simp <;> omega) _))⟩
theorem nodeRight (n p : Int) (hn1 : 1 ≤ n) (hn2 : n ≤ 16) (h1 : 1 ≤ p) (h2 : p ≤ 32) (w : World) : Calls Tryz.prog 206 #[.int .i64 n, .int .i64 p] w fun e w' => e = .returned (.bool true) ∧ w' = w := by
  go_enter Tryz.func206, Tryz.ntmps206
  go_wp2
  all_goals (go_ret; exact ⟨ret_bool (by first | rfl | (simp; done) | (rw [Bool.eq_iff_iff]; simp; done) | (rw [Bool.eq_iff_iff]; simp; omega)), rfl⟩)
theorem nodeSize (n p : Int) (hn1 : 1 ≤ n) (hn2 : n ≤ 16) (h1 : 1 ≤ p) (h2 : p ≤ 32) (w : World) : Calls Tryz.prog 183 #[.int .i64 n, .int .i64 p] w fun e w' => e = .returned (.int .i64 (2 + n + 4 * (1 + n * p))) ∧ w' = w := by
  obtain ⟨a1, a2⟩ := mul_bd (show 0 ≤ n by omega) hn2 (show 0 ≤ p by omega) h2
  go_enter Tryz.func183, Tryz.ntmps183
  go_wp2_with fail
  refine (nodeRight n p hn1 hn2 h1 h2 _).mono ?_
  rintro e w1 ⟨rfl, rfl⟩
  go_wp2
  go_ret
  exact ⟨rfl, rfl⟩
theorem tsizeQueue (n : Int) (s : Sp) (hn1 : 1 ≤ n) (hn2 : n ≤ 16) (h1 : 1 ≤ s.p) (h2 : s.p ≤ 32) (w : World) : Calls Tryz.prog 182 #[.int .i64 n, spV s] w fun e w' => e = .returned (.int .i64 (2 + n + 4 * (1 + n * s.p))) ∧ Below w.heap.size w w' := by
  go_enter Tryz.func182, Tryz.ntmps182
  go_wp2_with fail
  refine (nodeSize n s.p hn1 hn2 h1 h2 _).mono ?_
  rintro e w1 ⟨rfl, rfl⟩
  go_wp2
  go_ret
  exact ⟨rfl, by (repeat' (first | exact Below.refl _ _ | assumption | refine Below.drew ?_ | refine below_drewN ?_ _ | refine Below.alloc ?_ (by simp <;> omega) _ | refine Below.setCell ?_ (by simp <;> omega) _))⟩
theorem pinSize (n p : Int) (hn1 : 1 ≤ n) (hn2 : n ≤ 16) (h1 : 1 ≤ p) (h2 : p ≤ 8) (w : World) : Calls Tryz.prog 187 #[.int .i64 n, .int .i64 p] w fun e w' => e = .returned (.int .i64 (1 + (n + 1) * (p + 1))) ∧ w' = w := by
  obtain ⟨a1, a2⟩ := mul_bd (show 0 ≤ n + 1 by omega) (show n + 1 ≤ 17 by omega) (show 0 ≤ p + 1 by omega) (show p + 1 ≤ 9 by omega)
  go_enter Tryz.func187, Tryz.ntmps187
  go_wp2
  go_ret
  exact ⟨rfl, rfl⟩
theorem tsizePin (n : Int) (s : Sp) (hn1 : 1 ≤ n) (hn2 : n ≤ 16) (h1 : 1 ≤ s.p) (h2 : s.p ≤ 8) (w : World) : Calls Tryz.prog 186 #[.int .i64 n, spV s] w fun e w' => e = .returned (.int .i64 (1 + (n + 1) * (s.p + 1))) ∧ Below w.heap.size w w' := by
  go_enter Tryz.func186, Tryz.ntmps186
  go_wp2_with fail
  refine (pinSize n s.p hn1 hn2 h1 h2 _).mono ?_
  rintro e w1 ⟨rfl, rfl⟩
  go_wp2
  go_ret
  exact ⟨rfl, by (repeat' (first | exact Below.refl _ _ | assumption | refine Below.drew ?_ | refine below_drewN ?_ _ | refine Below.alloc ?_ (by simp <;> omega) _ | refine Below.setCell ?_ (by simp <;> omega) _))⟩
end Go.Proofs.YtmiimpmfkjcjlaaGreat
