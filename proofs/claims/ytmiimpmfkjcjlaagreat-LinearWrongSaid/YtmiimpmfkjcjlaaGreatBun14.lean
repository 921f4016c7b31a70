import Derived.Test.YtmiimpmfkjcjlaaGreatBun13
import Derived.Test.YtmiimpmfkjcjlaaGreatBun1
import Derived.Test.YtmiimpmfkjcjlaaGreatBun5
import Derived.Deep.OwnRows
import Derived.Test.YtmiimpmfkjcjlaaGreatBun2
import Derived.Deep.QuietTactic
import Derived.BigQuiet
namespace Go.Proofs.YtmiimpmfkjcjlaaGreat
open Go.RowKit
def StabPost (cf : Int → Int → Int) (g N : Nat) (d : Nat → Int) (w : World) (e : Ending) (w' : World) : Prop := ∃ d', SPost g N d' w e w' ∧ OrdOn cf d' 0 N ∧ SameOn d d' 0 N
set_option maxRecDepth 100000 in
set_option maxHeartbeats 4000000 in
theorem stable_any {cf : Int → Int → Int} (H : CmpOk cf) (g N K B : Nat) (d : Nat → Int) (w : World) (hd : DAt w g N d) (hv : Vd K N d) (hid : ∀ k, k < N → d k = (k : Int)) (hC : CmpV cf K 159 B g w) (hN : N ≤ 1000000) :
    Calls Tryz.prog 203 #[.slice (some ⟨g, 0, none⟩) N N, .int .i64 N, cmpF B] w (StabPost cf g N d w) := by
  have HD := hide hd
  have HV := hide hv
  have HI := hide hid
  have HC := hide hC
  clear hd hv hid hC
  go_enter Tryz.func203, Tryz.ntmps203
  go_wp2
  go_loopw [7, 8] (fun x y wr => ∃ (a b Q : Nat) (e : Nat → Int), a ≤ N ∧ b ≤ N + 20 ∧ Hid (a = Q * 20 ∧ b = a + 20) ∧ x = .int .i64 a ∧ y = .int .i64 b ∧ Hid (Pass cf d d e N 20 Q) ∧ Hid (DAt wr g N e) ∧ Hid (Below g w wr)) (fun x _ _ => N - (intOf x).toNat)
  case atStart => exact ⟨0, 20, 0, d, by omega, by omega, hide ⟨by omega, by omega⟩, rfl, rfl, hide (Pass.start (InBlk.id 20 HI.out) (SameOn.refl _ _ _)), HD, hide (Below.refl _ _)⟩
  case round =>
    obtain ⟨a, b, Q, e, ha, hb, hab, rfl, rfl, hP, hD, hB⟩ := hrel
    by_cases l1 : b ≤ N
    · have d1 : decide ((b : Int) ≤ (N : Int)) = true := by simp; omega
      have d2 : decide (b ≤ N) = true := by simp; omega
      have k1 : IntKind.i64.wrap ((b : Int) + 20) = (b : Int) + 20 := IntWalk.i64_in _ (by omega)
      have hinc : ∀ p q, a ≤ p → p < q → q < b → e p < e q := fun p q h1 h2 h3 => by
        have := hab.out
        rw [hP.out.old p (by omega), hP.out.old q (by omega), HI.out p (by omega), HI.out q (by omega)]
        omega
      have N1 := fun W h h2 => insertion_any H g N K B a b e W h (HV.out.same hP.out.same (by omega)) hinc h2 l1 ha hN
      clear hinc
      go_wp2_with fail
      refine (N1 _ hD.out (HC.out.later hB.out)).mono ?_
      rintro e1 w1 ⟨f, ⟨⟨v1, rfl⟩, hd1, hb1⟩, hp1⟩
      have HD1 := hide hd1
      have HB1 := hide (hB.out.trans hb1)
      have HP1 : Hid (Pass cf d d f N 20 (Q + 1)) := hide (by
        have h := hab.out
        refine hP.out.step (by omega) ?_
        rw [← h.1, ← h.2]
        exact hp1)
      have hba : a < b := by have := hab.out; omega
      have HQ : Hid (b = (Q + 1) * 20) := hide (by have := hab.out; omega)
      clear hd1 hb1 hp1 N1 hab
      go_wp2
      go_roundw
      case rel => exact ⟨b, b + 20, Q + 1, f, l1, by omega, hide ⟨HQ.out, rfl⟩, rfl, by go_num, HP1, HD1, HB1⟩
      case measure => first | (simp [intOf]; done) | (simp [intOf]; omega)
    · have d1 : decide ((b : Int) ≤ (N : Int)) = false := by simp; omega
      have d2 : decide (b ≤ N) = false := by simp; omega
      have hinc : ∀ p q, a ≤ p → p < q → q < N → e p < e q := fun p q h1 h2 h3 => by
        have := hab.out
        rw [hP.out.old p (by omega), hP.out.old q (by omega), HI.out p (by omega), HI.out q (by omega)]
        omega
      have N1 := fun W h h2 => insertion_any H g N K B a N e W h (HV.out.same hP.out.same (Nat.le_refl _)) hinc h2 (Nat.le_refl _) ha hN
      clear hinc
      go_wp2_with fail
      refine (N1 _ hD.out (HC.out.later hB.out)).mono ?_
      rintro e1 w1 ⟨f, ⟨⟨v1, rfl⟩, hd1, hb1⟩, hp1⟩
      have HD1 := hide hd1
      have HB1 := hide (hB.out.trans hb1)
      have HK : Hid (Blks cf d f N 20) := hide (by
        have h := hab.out
        refine hP.out.fin (by omega) (by omega) ?_
        rw [← h.1]
        exact hp1)
      clear hd1 hb1 hp1 N1 hab hP hD hB d1 d2
      go_wp2
      go_loopw [6] (fun x wr => ∃ (s : Nat) (e : Nat → Int), 20 ≤ s ∧ s ≤ 2000000 ∧ x = .int .i64 s ∧ Hid (Blks cf d e N s) ∧ Hid (DAt wr g N e) ∧ Hid (Below g w wr)) (fun x _ => N - (intOf x).toNat)
      case atStart => exact ⟨20, f, by omega, by omega, rfl, HK, HD1, HB1⟩
      case round =>
        obtain ⟨s, e, hs, hs2, rfl, hK, hD, hB⟩ := hrel
        by_cases l2 : s < N
        · have d1 : decide ((s : Int) < (N : Int)) = true := by simp; omega
          have d2 : decide (s < N) = true := by simp; omega
          obtain ⟨S2, hS2⟩ : ∃ S2, 2 * s = S2 := ⟨_, rfl⟩
          have HS2 := hide hS2
          have k2 : IntKind.i64.wrap (2 * (s : Int)) = (S2 : Int) := (IntWalk.i64_in _ (by omega)).trans (by omega)
          have k3 : IntKind.i64.wrap ((s : Int) * 2) = (S2 : Int) := (IntWalk.i64_in _ (by omega)).trans (by omega)
          obtain ⟨wo, rfl⟩ : ∃ wo : World, wo = wr := ⟨_, rfl⟩
          have hS2s : s < S2 := by omega
          have hS2m : S2 ≤ 2000000 := by omega
          clear hS2
          go_wp2
          go_loopw [7, 8] (fun x y wr => ∃ (a b Q : Nat) (f : Nat → Int), a ≤ N ∧ b ≤ N + S2 ∧ Hid (a = Q * (2 * s) ∧ b = a + 2 * s) ∧ x = .int .i64 a ∧ y = .int .i64 b ∧ Hid (Pass cf d e f N (2 * s) Q) ∧ Hid (DAt wr g N f) ∧ Hid (Below g w wr)) (fun x _ _ => N - (intOf x).toNat)
          case atStart => exact ⟨0, S2, 0, e, by omega, by omega, hide ⟨by omega, by have := HS2.out; omega⟩, rfl, rfl, hide (Pass.start hK.out.blk.double hK.out.same), hD, hB⟩
          case round =>
            obtain ⟨a, b, Q, f, ha, hb, hab, rfl, rfl, hP, hDf, hBf⟩ := hrel
            obtain ⟨m, hm⟩ : ∃ m, a + s = m := ⟨_, rfl⟩
            have k4 : IntKind.i64.wrap ((a : Int) + (s : Int)) = (m : Int) := (IntWalk.i64_in _ (by omega)).trans (by omega)
            have ham : a < m := by omega
            have HM := hide hm
            clear hm
            by_cases l3 : b ≤ N
            · have d3 : decide ((b : Int) ≤ (N : Int)) = true := by simp; omega
              have d4 : decide (b ≤ N) = true := by simp; omega
              have hmb : m < b := by have := HM.out; have := hab.out; omega
              have HPre : Hid (MPre cf f a m b) := hide (by
                have h := hab.out
                have h2 := HM.out
                have := hP.out.pre hK.out (b := b) (by omega) l3 (by omega)
                rw [← h.1, h2] at this
                exact this)
              have k5 : IntKind.i64.wrap ((b : Int) + (S2 : Int)) = (b : Int) + (S2 : Int) := IntWalk.i64_in _ (by omega)
              have N1 := fun W h h2 => sym_any H g N K B hN (b - a) a m b f W (Nat.le_refl _) h (HV.out.same hP.out.same (Nat.le_refl _)) HPre.out ham hmb h2 l3
              go_wp2_with fail
              refine (N1 _ hDf.out (HC.out.later hBf.out)).mono ?_
              rintro e1 w1 ⟨f1, ⟨⟨v1, rfl⟩, hd1, hb1⟩, hp1⟩
              have HD1 := hide hd1
              have HB1 := hide (hBf.out.trans hb1)
              have HP1 : Hid (Pass cf d e f1 N (2 * s) (Q + 1)) := hide (by
                have h := hab.out
                refine hP.out.step (by omega) ?_
                rw [← h.1, ← h.2]
                exact hp1)
              have hba : a < b := by omega
              have HQ : Hid (b = (Q + 1) * (2 * s)) := hide (by have := hab.out; rw [Nat.add_mul, Nat.one_mul]; omega)
              clear hd1 hb1 hp1 N1 hab HPre
              go_wp2
              go_roundw
              case rel => exact ⟨b, b + S2, Q + 1, f1, l3, by omega, hide ⟨HQ.out, by have := HS2.out; omega⟩, rfl, by go_num, HP1, HD1, HB1⟩
              case measure => first | (simp [intOf]; done) | (simp [intOf]; omega)
            · have d3 : decide ((b : Int) ≤ (N : Int)) = false := by simp; omega
              have d4 : decide (b ≤ N) = false := by simp; omega
              by_cases l4 : m < N
              · have d5 : decide ((m : Int) < (N : Int)) = true := by simp; omega
                have d6 : decide (m < N) = true := by simp; omega
                have HPre : Hid (MPre cf f a m N) := hide (by
                  have h := hab.out
                  have h2 := HM.out
                  have := hP.out.pre hK.out (b := N) (by omega) (Nat.le_refl _) (by omega)
                  rw [← h.1, h2] at this
                  exact this)
                have N1 := fun W h h2 => sym_any H g N K B hN (N - a) a m N f W (Nat.le_refl _) h (HV.out.same hP.out.same (Nat.le_refl _)) HPre.out ham l4 h2 (Nat.le_refl _)
                go_wp2_with fail
                refine (N1 _ hDf.out (HC.out.later hBf.out)).mono ?_
                rintro e1 w1 ⟨f1, ⟨⟨v1, rfl⟩, hd1, hb1⟩, hp1⟩
                have HD1 := hide hd1
                have HB1 := hide (hBf.out.trans hb1)
                have HK1 : Hid (Blks cf d f1 N S2) := hide (by
                  have h := hab.out
                  rw [← HS2.out]
                  refine hP.out.fin (by omega) (by omega) ?_
                  rw [← h.1]
                  exact hp1)
                clear hd1 hb1 hp1 N1 hab HPre
                go_wp2
                go_roundw
                case rel => exact ⟨S2, f1, by omega, hS2m, rfl, HK1, HD1, HB1⟩
                case measure => first | (simp [intOf]; done) | (simp [intOf]; omega)
              · have d5 : decide ((m : Int) < (N : Int)) = false := by simp; omega
                have d6 : decide (m < N) = false := by simp; omega
                have HK1 : Hid (Blks cf d f N S2) := hide (by
                  have h := hab.out
                  have h2 := HM.out
                  rw [← HS2.out]
                  refine hP.out.fin (by omega) (by omega) (hP.out.rest hK.out (by omega)))
                clear hab
                go_wp2
                go_roundw
                case rel => exact ⟨S2, f, by omega, hS2m, rfl, HK1, hDf, hBf⟩
                case measure => first | (simp [intOf]; done) | (simp [intOf]; omega)
        · have d1 : decide ((s : Int) < (N : Int)) = false := by simp; omega
          have d2 : decide (s < N) = false := by simp; omega
          have HF : Hid (StabPost cf g N d w (.returned (.tuple #[])) wr) := hide ⟨e, ⟨⟨_, rfl⟩, hD.out, hB.out⟩, hK.out.whole (by omega), hK.out.same⟩
          go_wp2
          ((try simp only [Exit.inBlock, Exit.then]); refine bodyPost_ret (results_none rfl _ _ _) rfl ?_)
          exact HF
end Go.Proofs.YtmiimpmfkjcjlaaGreat

namespace Go.Proofs.YtmiimpmfkjcjlaaGreat
open Go.RowKit
theorem owns_base {w : World} {base base' : Nat} {e : TypeId} {sz : Nat} {v : Value} {n : Nat} {xs : List Value} (h : w.ownsRow base e sz v n xs) (hb : base' ≤ base) : w.ownsRow base' e sz v n xs := by
  obtain ⟨h1, h2 | ⟨g, cap, cur, e1, e2, e3⟩⟩ := h
  · exact ⟨h1, Or.inl h2⟩
  · exact ⟨h1, Or.inr ⟨g, cap, cur, e1, Nat.le_trans hb e2, e3⟩⟩
theorem own_slice {w : World} {base : Nat} {e : TypeId} {sz : Nat} {v : Value} {n : Nat} {xs : List Value} (h : w.ownsRow base e sz v n xs) : ∃ A cap, v = .slice A n cap := by
  obtain ⟨_, ⟨e, h0⟩ | ⟨g, cap, cur, e, _⟩⟩ := h
  · exact ⟨none, 0, by rw [e, h0]⟩
  · exact ⟨_, cap, e⟩
theorem owns_keepB {S : Nat → Prop} {w w' : World} {base : Nat} {e : TypeId} {sz : Nat} {v : Value} {n : Nat} {xs : List Value} (h : w.ownsRow base e sz v n xs) (hk : Keep S w w') (hS : ∀ j, base ≤ j → j < w.heap.size → S j) : w'.ownsRow base e sz v n xs := by
  obtain ⟨h1, h2 | ⟨g, cap, cur, e1, e2, e3, e4⟩⟩ := h
  · exact ⟨h1, Or.inl h2⟩
  · exact ⟨h1, Or.inr ⟨g, cap, cur, e1, e2, (hk.block g (hS g e2 (Array.getElem?_eq_some_iff.1 e3).1)).trans e3, e4⟩⟩
theorem cells_set {w : World} {b i : Nat} {cs : Array Value} {t : TypeId} {u : Value} (h : w.heap[b]? = some (.cells cs t (0, 0))) : (w.setCell ⟨b, i, none⟩ u).heap[b]? = some (.cells (cs.setIfInBounds i u) t (0, 0)) := by
  simp [World.setCell, Array.getElem?_modify, h]
theorem wrap_i64 {x : Int} (h1 : -9223372036854775808 ≤ x) (h2 : x ≤ 9223372036854775807) : IntKind.i64.wrap x = x := by
  rw [IntKind.wrap_i64]; omega
theorem flat_en {α : Type} {en : α → List Value} {sz : Nat} (hl : ∀ x, (en x).length = sz) {l : List α} {k : Nat} {x : α} (h : l[k]? = some x) (j : Nat) (u : Value) (hu : (en x)[j]? = some u) : (l.flatMap en)[k * sz + j]? = some u := by
  induction l generalizing k with
  | nil => simp at h
  | cons y l ih =>
    have hj : j < sz := by have := (List.getElem?_eq_some_iff.1 hu).1; rwa [hl] at this
    rw [List.flatMap_cons]
    rcases k with _ | k
    · simp at h
      subst h
      rw [List.getElem?_append_left (by rw [hl]; omega)]
      simpa using hu
    · rw [List.getElem?_append_right (by rw [hl, Nat.succ_mul]; omega)]
      have e : (k + 1) * sz + j - (en y).length = k * sz + j := by rw [hl, Nat.succ_mul]; omega
      rw [e]
      exact ih (by simpa using h)
theorem sl_of_owns_en {α : Type} {en : α → List Value} {sz : Nat} (hl : ∀ x, (en x).length = sz) {w : World} {base : Nat} {e : TypeId} {v : Value} {l : List α} (h : w.ownsRow base e sz v l.length (l.flatMap en)) (_hm : l.length ≤ maxLen) : Sl en sz w v l := by
  rcases h.2 with ⟨rfl, h0⟩ | ⟨g, cap, cur, rfl, _, hg, hnc, hcm, _, htake⟩
  · have : l = [] := List.eq_nil_of_length_eq_zero h0
    subst this
    exact ⟨none, 0, rfl, Nat.le_refl _, Nat.zero_le _, fun k x hx => by simp at hx⟩
  · refine ⟨_, cap, rfl, hnc, hcm, fun k x hx => ⟨g, 0, rfl, (Array.getElem?_eq_some_iff.1 hg).1, fun j u hu => ?_⟩⟩
    have hk := (List.getElem?_eq_some_iff.1 hx).1
    have h1 := flat_en hl hx j u hu
    rw [← htake, List.getElem?_take] at h1
    split at h1
    · rw [cell_of_row w g _ cur e (0, 0) hg]
      rw [show 0 + k * sz + j = k * sz + j by omega]
      simpa using h1
    · cases h1
theorem sl_take {α : Type} {en : α → List Value} {sz : Nat} {w : World} {A : Option Addr} {n c k : Nat} {xs : List α} (h : Sl en sz w (.slice A n c) xs) (hk : k ≤ xs.length) : Sl en sz w (.slice A k c) (xs.take k) := by
  obtain ⟨A', c', e, h1, h2, h3⟩ := h
  cases e
  refine ⟨_, _, by rw [List.length_take, Nat.min_eq_left hk], by rw [List.length_take]; omega, h2, fun j x hx => h3 j x ?_⟩
  rw [List.getElem?_take] at hx
  split at hx
  · exact hx
  · cases hx
theorem sl_drop {α : Type} {en : α → List Value} {sz : Nat} {w : World} {A : Option Addr} {n c k : Nat} {xs : List α} (h : Sl en sz w (.slice A n c) xs) (hk : k ≤ n) : ∃ X, sliced A k n c sz = X ∧ Sl en sz w X (xs.drop k) := by
  obtain ⟨A', c', e, h1, h2, h3⟩ := h
  cases e
  refine ⟨_, rfl, ?_⟩
  unfold sliced
  refine ⟨_, _, by rw [List.length_drop], by rw [List.length_drop]; omega, by omega, fun j x hx => ?_⟩
  rw [List.getElem?_drop] at hx
  obtain ⟨b, o, rfl, hb, hc⟩ := h3 _ _ hx
  have hlt := (List.getElem?_eq_some_iff.1 hx).1
  rw [if_neg (by omega)]
  refine ⟨b, o + k * sz, ?_, hb, ?_⟩
  · simp [Addr.add]
  · rw [show o + k * sz + j * sz = o + (k + j) * sz by rw [Nat.add_mul]; omega]
    exact hc
end Go.Proofs.YtmiimpmfkjcjlaaGreat

namespace Go.Proofs.YtmiimpmfkjcjlaaGreat
open Go.RowKit
abbrev KyV := Option Addr × Nat × Nat
def kyEn (x : KyV) : List Value := [.slice x.1 x.2.1 x.2.2]
structure KsAt (w : World) (v : Value) (ks : List KyV) (ky : Nat → List Int) : Prop where
  row : Sl kyEn 1 w v ks
  key : ∀ k x, ks[k]? = some x → SlI w (.slice x.1 x.2.1 x.2.2) (ky k)
theorem KsAt.below {w w' : World} {v : Value} {ks : List KyV} {ky : Nat → List Int} (h : KsAt w v ks ky) (hb : Below w.heap.size w w') : KsAt w' v ks ky :=
  ⟨h.row.below hb (Nat.le_refl _), fun k x hx => (h.key k x hx).below hb (Nat.le_refl _)⟩
set_option maxRecDepth 100000 in
set_option maxHeartbeats 1000000 in
theorem korder1_any (B x y : Nat) (v : Value) (ks : List KyV) (ky : Nat → List Int) (w : World) (hB : w.cell? ⟨B, 0, none⟩ = some v) (h : KsAt w v ks ky) (hx : x < ks.length) (hy : y < ks.length) :
    Calls Tryz.prog 159 #[.int .i64 x, .int .i64 y, .pointer (some ⟨B, 0, none⟩)] w fun e w' => e = .returned (.int .i64 (cfK ky x y)) ∧ ∃ m, w' = w.drewN m := by
  obtain ⟨X, hX⟩ : ∃ X, ks[x]? = some X := ⟨_, List.getElem?_eq_getElem hx⟩
  obtain ⟨Y, hY⟩ : ∃ Y, ks[y]? = some Y := ⟨_, List.getElem?_eq_getElem hy⟩
  have N1 := fun W (h1 : SlI W (.slice X.1 X.2.1 X.2.2) (ky x)) h2 => kcompare_any (.slice X.1 X.2.1 X.2.2) (.slice Y.1 Y.2.1 Y.2.2) (ky x) (ky y) W h1 h2
  have hk1 := (h.key x X hX).drewN 1
  have hk2 := (h.key y Y hY).drewN 1
  obtain ⟨A, c, rfl, a1, a2, a3⟩ := h.row
  obtain ⟨g, o, rfl, hg, hcx⟩ := a3 x X hX
  obtain ⟨g', o', e', hg', hcy⟩ := a3 y Y hY
  cases e'
  have c1 := hcx 0 _ rfl
  have c2 := hcy 0 _ rfl
  simp only [Nat.mul_one, Nat.add_zero] at c1 c2
  have q0 : (0 : Int) ≤ (x : Int) := by omega
  have q1 : (x : Int) < (ks.length : Int) := by omega
  have q2 : (0 : Int) ≤ (y : Int) := by omega
  have q3 : (y : Int) < (ks.length : Int) := by omega
  obtain ⟨z, hz⟩ : ∃ z, cfK ky x y = z := ⟨_, rfl⟩
  have HZ : Hid (kcmp (ky x) (ky y) = z) := hide (by rw [← hz]; unfold cfK; rw [Int.toNat_natCast, Int.toNat_natCast])
  rw [hz]
  obtain ⟨X1, X2, X3⟩ := X
  obtain ⟨Y1, Y2, Y3⟩ := Y
  generalize ks.length = nk at *
  clear a3 hcx hcy hX hY hz h
  generalize ky x = kx at N1 hk1 HZ
  generalize ky y = kyy at N1 hk2 HZ
  go_enter Tryz.func159, Tryz.ntmps159
  go_wp2_with fail
  refine wp_region_seq (fun W => W.cell? ⟨B, 0, none⟩ = some (.slice (some ⟨g, o, none⟩) nk c) ∧ W.cell? ⟨g, o + x, none⟩ = some (.slice X1 X2 X3) ∧ W.cell? ⟨g, o + y, none⟩ = some (.slice Y1 Y2 Y3)) (.take 0 <| .take 1 <| .take 2 <| .take 3 <| .take 4 <| .take 5 <| .take 6 <| .take 7 <| .run 8 <| .take 9 <| .done) (by kernel_rfl) (by kernel_rfl) (by kernel_rfl) ⟨hB, c1, c2⟩ ?_
  repeat (first | (refine seq_take (v := ?_) rfl (by rfl) ?_ ?_; rotate_left; (focus (intro wS hS; have s0 := hS.1; have s1 := hS.2.1; have s2 := hS.2.2; go_simp; exact rfl)); simp only [Act.put, List.setIfInBounds_toArray, List.set_cons_zero, List.set_cons_succ]) | (refine seq_skip rfl (by rfl) ?_; simp only [Act.put, List.setIfInBounds_toArray, List.set_cons_zero, List.set_cons_succ]))
  refine seq_run rfl (by rfl) (fun K hK => ?_)
  go_simp
  refine (N1 _ hk1 hk2).mono ?_
  rintro e1 w1 ⟨rfl, rfl⟩
  refine hK _ _ ⟨by simpa using hB, by simpa using c1, by simpa using c2⟩ ?_
  clear hK K N1
  repeat (first | (refine seq_take (v := ?_) rfl (by rfl) ?_ ?_; rotate_left; (focus (intro wS hS; have s0 := hS.1; have s1 := hS.2.1; have s2 := hS.2.2; go_simp; exact rfl)); simp only [Act.put, List.setIfInBounds_toArray, List.set_cons_zero, List.set_cons_succ]) | (refine seq_skip rfl (by rfl) ?_; simp only [Act.put, List.setIfInBounds_toArray, List.set_cons_zero, List.set_cons_succ]))
  refine seq_nil ?_
  rw [HZ.out]
  clear hk1 hk2 hB c1 c2
  go_wp2
  go_ret
  exact ⟨rfl, 1, rfl⟩
def KoPost (ky : Nat → List Int) (N : Nat) (w : World) (e : Ending) (w' : World) : Prop :=
  ∃ (g : Nat) (d : Nat → Int), e = .returned (.slice (some ⟨g, 0, none⟩) N N) ∧ w.heap.size ≤ g ∧ DAt w' g N d ∧ OrdOn (cfK ky) d 0 N ∧ (∀ x : Int, Has d 0 N x ↔ ∃ k : Nat, k < N ∧ x = (k : Int)) ∧ Below w.heap.size w w'
set_option maxRecDepth 100000 in
set_option maxHeartbeats 1000000 in
theorem sortstable_any {cf : Int → Int → Int} (H : CmpOk cf) (g N K B : Nat) (d : Nat → Int) (w : World) (hd : DAt w g N d) (hv : Vd K N d) (hid : ∀ k, k < N → d k = (k : Int)) (hC : CmpV cf K 159 B g w) (hN : N ≤ 1000000) :
    Calls Tryz.prog 158 #[.slice (some ⟨g, 0, none⟩) N N, cmpF B] w (StabPost cf g N d w) := by
  have N1 := stable_any H g N K B d w hd hv hid hC hN
  clear hd hv hid hC
  go_enter Tryz.func158, Tryz.ntmps158
  go_wp2_with fail
  refine N1.mono ?_
  rintro e w1 ⟨d', ⟨⟨v, rfl⟩, h1, h2⟩, h3, h4⟩
  have HP : Hid (StabPost cf g N d w (.returned (.tuple #[])) w1) := hide ⟨d', ⟨⟨_, rfl⟩, h1, h2⟩, h3, h4⟩
  clear N1 h1 h2 h3 h4
  go_wp2
  ((try simp only [Exit.inBlock, Exit.then]); refine bodyPost_ret (results_none rfl _ _ _) rfl ?_)
  exact HP
theorem dat_made (W : World) (N : Nat) : DAt (W.alloc (.cells (madeCells #[.int .i64 0] N) 3)) W.heap.size N (fun _ => 0) := by
  have hh := heap_alloc_new W (.cells (madeCells #[.int .i64 0] N) 3)
  refine ⟨by simp, fun k hk => ?_, fun k hk => ?_⟩
  · exact cell_of_row _ _ k _ _ _ (by rw [hh]) |>.trans (by simp [madeCells, hk, Nat.mod_one])
  · exact frozen_of_row _ _ k _ _ hh
end Go.Proofs.YtmiimpmfkjcjlaaGreat

namespace Go.Proofs.YtmiimpmfkjcjlaaGreat
open Go.RowKit
attribute [local go_sem] run_store_fn run_store_nilfn
theorem tacts_c (n : Int) (w : World) : Calls Tryz.prog 114 #[.int .i64 n] w fun e w' => e = .returned (.func (.func 162) #[] #[.pointer (some ⟨w.heap.size, 0, none⟩)]) ∧ w' = w.alloc (.cells #[.int .i64 n] 3) := by
  go_enter Tryz.func114, Tryz.ntmps114
  go_wp2
  go_ret
  exact ⟨rfl, rfl⟩
theorem tupTo_c (n : Int) (w : World) : Calls Tryz.prog 115 #[.int .i64 n] w fun e w' => e = .returned (.func (.func 163) #[] #[.pointer (some ⟨w.heap.size, 0, none⟩)]) ∧ w' = w.alloc (.cells #[.int .i64 n] 3) := by
  go_enter Tryz.func115, Tryz.ntmps115
  go_wp2
  go_ret
  exact ⟨rfl, rfl⟩
theorem tacts1 (s : Sp) (B : Nat) (n : Int) (w : World) (hB : w.cell? ⟨B, 0, none⟩ = some (.int .i64 n)) (hBl : B < w.heap.size) :
    Calls Tryz.prog 162 #[spV s, .pointer (some ⟨B, 0, none⟩)] w fun e w' => e = .returned (.int .i64 n) ∧ Below w.heap.size w w' := by
  go_enter Tryz.func162, Tryz.ntmps162
  go_wp2
  go_ret
  exact ⟨rfl, by (repeat' (first | exact Below.refl _ _ | assumption | refine Below.drew ?_ | refine below_drewN ?_ _ | refine Below.alloc ?_ (by simp <;> omega) _ | refine Below.setCell ?_ (by simp <;> omega) _))⟩
theorem tupTo1 (s : Sp) (B : Nat) (n : Int) (w : World) (hB : w.cell? ⟨B, 0, none⟩ = some (.int .i64 n)) (hBl : B < w.heap.size) :
    Calls Tryz.prog 163 #[spV s, .pointer (some ⟨B, 0, none⟩)] w fun e w' => e = .returned (.bool (decide (1 ≤ s.p) && decide (s.p ≤ n))) ∧ Below w.heap.size w w' := by
  by_cases h : 1 ≤ s.p
  · have d1 : decide (1 ≤ s.p) = true := by simpa using h
    go_enter Tryz.func163, Tryz.ntmps163
    go_wp2
    go_ret
    exact ⟨ret_bool (by first | rfl | (simp; done) | (rw [Bool.eq_iff_iff]; simp; done) | (rw [Bool.eq_iff_iff]; simp; omega)), by (repeat' (first | exact Below.refl _ _ | assumption | refine Below.drew ?_ | refine below_drewN ?_ _ | refine Below.alloc ?_ (by simp <;> omega) _ | refine Below.setCell ?_ (by simp <;> omega) _))⟩
  · have d1 : decide (1 ≤ s.p) = false := by simpa using h
    go_enter Tryz.func163, Tryz.ntmps163
    go_wp2
    go_ret
    exact ⟨ret_bool (by first | rfl | (simp; done) | (rw [Bool.eq_iff_iff]; simp; done) | (rw [Bool.eq_iff_iff]; simp; omega)), by (repeat' (first | exact Below.refl _ _ | assumption | refine Below.drew ?_ | refine below_drewN ?_ _ | refine Below.alloc ?_ (by simp <;> omega) _ | refine Below.setCell ?_ (by simp <;> omega) _))⟩
theorem twhatever (s : Sp) (w : World) : Calls Tryz.prog 119 #[spV s] w fun e w' => e = .returned (.bool true) ∧ Below w.heap.size w w' := by
  go_enter Tryz.func119, Tryz.ntmps119
  go_wp2
  go_ret
  exact ⟨rfl, by (repeat' (first | exact Below.refl _ _ | assumption | refine Below.drew ?_ | refine below_drewN ?_ _ | refine Below.alloc ?_ (by simp <;> omega) _ | refine Below.setCell ?_ (by simp <;> omega) _))⟩
theorem tone (n : Int) (s : Sp) (w : World) : Calls Tryz.prog 120 #[.int .i64 n, spV s] w fun e w' => e = .returned (.int .i64 1) ∧ Below w.heap.size w w' := by
  go_enter Tryz.func120, Tryz.ntmps120
  go_wp2
  go_ret
  exact ⟨rfl, by (repeat' (first | exact Below.refl _ _ | assumption | refine Below.drew ?_ | refine below_drewN ?_ _ | refine Below.alloc ?_ (by simp <;> omega) _ | refine Below.setCell ?_ (by simp <;> omega) _))⟩
theorem tsizeCell (n : Int) (s : Sp) (w : World) : Calls Tryz.prog 116 #[.int .i64 n, spV s] w fun e w' => e = .returned (.int .i64 s.p) ∧ Below w.heap.size w w' := by
  go_enter Tryz.func116, Tryz.ntmps116
  go_wp2
  go_ret
  exact ⟨rfl, by (repeat' (first | exact Below.refl _ _ | assumption | refine Below.drew ?_ | refine below_drewN ?_ _ | refine Below.alloc ?_ (by simp <;> omega) _ | refine Below.setCell ?_ (by simp <;> omega) _))⟩
theorem tsizeTally (n : Int) (s : Sp) (w : World) : Calls Tryz.prog 123 #[.int .i64 n, spV s] w fun e w' => e = .returned (.int .i64 n) ∧ Below w.heap.size w w' := by
  go_enter Tryz.func123, Tryz.ntmps123
  go_wp2
  go_ret
  exact ⟨rfl, by (repeat' (first | exact Below.refl _ _ | assumption | refine Below.drew ?_ | refine below_drewN ?_ _ | refine Below.alloc ?_ (by simp <;> omega) _ | refine Below.setCell ?_ (by simp <;> omega) _))⟩
theorem maxSize (p : Int) (h1 : 1 ≤ p) (h2 : p ≤ 12) (w : World) : Calls Tryz.prog 129 #[.int .i64 p] w fun e w' => e = .returned (.int .i64 (2 ^ p.toNat - 1)) ∧ w' = w := by
  obtain ⟨b1, b2⟩ := pow_bd h1 h2
  have hw : IntKind.i64.wrap (2 ^ p.toNat) = 2 ^ p.toNat := IntWalk.i64_in _ (by omega)
  have hu : IntKind.u64.wrap p = p := by rw [IntKind.wrap_u64]; omega
  go_enter Tryz.func129, Tryz.ntmps129
  go_wp2
  go_ret
  exact ⟨rfl, rfl⟩
theorem tsizeMax (n : Int) (s : Sp) (h1 : 1 ≤ s.p) (h2 : s.p ≤ 12) (w : World) : Calls Tryz.prog 128 #[.int .i64 n, spV s] w fun e w' => e = .returned (.int .i64 (2 ^ s.p.toNat - 1)) ∧ Below w.heap.size w w' := by
  go_enter Tryz.func128, Tryz.ntmps128
  go_wp2_with fail
  refine (maxSize s.p h1 h2 _).mono ?_
  rintro e w1 ⟨rfl, rfl⟩
  go_wp2
  go_ret
  exact ⟨rfl, by (repeat' (first | exact Below.refl _ _ | assumption | refine Below.drew ?_ | refine below_drewN ?_ _ | refine Below.alloc ?_ (by simp <;> omega) _ | refine Below.setCell ?_ (by simp <;> omega) _))⟩
theorem snapSize (n p : Int) (hn1 : 1 ≤ n) (hn2 : n ≤ 16) (h1 : 1 ≤ p) (h2 : p ≤ 64) (w : World) : Calls Tryz.prog 165 #[.int .i64 n, .int .i64 p] w fun e w' => e = .returned (.int .i64 (n + n * p * (n + 1))) ∧ w' = w := by
  obtain ⟨a1, a2⟩ := mul_bd (show 0 ≤ n by omega) hn2 (show 0 ≤ p by omega) h2
  obtain ⟨b1, b2⟩ := mul_bd a1 a2 (show 0 ≤ n + 1 by omega) (show n + 1 ≤ 17 by omega)
  go_enter Tryz.func165, Tryz.ntmps165
  go_wp2
  go_ret
  exact ⟨rfl, rfl⟩
theorem tsizeSnap (n : Int) (s : Sp) (hn1 : 1 ≤ n) (hn2 : n ≤ 16) (h1 : 1 ≤ s.p) (h2 : s.p ≤ 64) (w : World) : Calls Tryz.prog 164 #[.int .i64 n, spV s] w fun e w' => e = .returned (.int .i64 (n + n * s.p * (n + 1))) ∧ Below w.heap.size w w' := by
  go_enter Tryz.func164, Tryz.ntmps164
  go_wp2_with fail
  refine (snapSize n s.p hn1 hn2 h1 h2 _).mono ?_
  rintro e w1 ⟨rfl, rfl⟩
  go_wp2
  go_ret
  exact ⟨rfl, by (repeat' (first | exact Below.refl _ _ | assumption | refine Below.drew ?_ | refine below_drewN ?_ _ | refine Below.alloc ?_ (by simp <;> omega) _ | refine Below.setCell ?_ (by simp <;> omega) _))⟩
theorem multiSize (n p q : Int) (hn1 : 1 ≤ n) (hn2 : n ≤ 16) (h1 : 1 ≤ p) (h2 : p ≤ 16) (h3 : 1 ≤ q) (h4 : q ≤ 64) (w : World) : Calls Tryz.prog 170 #[.int .i64 n, .int .i64 p, .int .i64 q] w fun e w' => e = .returned (.int .i64 (p + n * q * (p + 1))) ∧ w' = w := by
  obtain ⟨a1, a2⟩ := mul_bd (show 0 ≤ n by omega) hn2 (show 0 ≤ q by omega) h4
  obtain ⟨b1, b2⟩ := mul_bd a1 a2 (show 0 ≤ p + 1 by omega) (show p + 1 ≤ 17 by omega)
  go_enter Tryz.func170, Tryz.ntmps170
  go_wp2
  go_ret
  exact ⟨rfl, rfl⟩
theorem tsizeMulti (n : Int) (s : Sp) (hn1 : 1 ≤ n) (hn2 : n ≤ 16) (h1 : 1 ≤ s.p) (h2 : s.p ≤ 16) (h3 : 1 ≤ s.q) (h4 : s.q ≤ 64) (w : World) : Calls Tryz.prog 169 #[.int .i64 n, spV s] w fun e w' => e = .returned (.int .i64 (s.p + n * s.q * (s.p + 1))) ∧ Below w.heap.size w w' := by
  go_enter Tryz.func169, Tryz.ntmps169
  go_wp2_with fail
  refine (multiSize n s.p s.q hn1 hn2 h1 h2 h3 h4 _).mono ?_
  rintro e w1 ⟨rfl, rfl⟩
  go_wp2
  go_ret
  exact ⟨rfl, by (repeat' (first | exact Below.refl _ _ | assumption | refine Below.drew ?_ | refine below_drewN ?_ _ | refine Below.alloc ?_ (by simp <;> omega) _ | refine Below.setCell ?_ (by simp <;> omega) _))⟩
theorem trightMulti (s : Sp) (w : World) : Calls Tryz.prog 168 #[spV s] w fun e w' => e = .returned (.bool (decide (1 ≤ s.p) && (decide (s.p ≤ 16) && (decide (1 ≤ s.q) && decide (s.q ≤ 64))))) ∧ Below w.heap.size w w' := by
  go_enter Tryz.func168, Tryz.ntmps168
  go_wp2
  all_goals (go_ret; exact ⟨ret_bool (by first | rfl | (simp; done) | (rw [Bool.eq_iff_iff]; simp; done) | (rw [Bool.eq_iff_iff]; simp; omega)), by (repeat' (first | exact Below.refl _ _ | assumption | refine Below.drew ?_ | refine below_drewN ?_ _ | refine Below.alloc ?_ (by simp <;> omega) _ | refine Below.setCell ?_ (by simp <;> omega) _))⟩)
theorem tactsUniv (s : Sp) (w : World) : Calls Tryz.prog 173 #[spV s] w fun e w' => e = .returned (.int .i64 (kindsI s.p)) ∧ Below w.heap.size w w' := by
  obtain ⟨K, hK⟩ : ∃ K, kindsI s.p = K := ⟨_, rfl⟩
  have N0 := fun W => kinds_any s.p W
  rw [hK] at N0 ⊢
  clear hK
  go_enter Tryz.func173, Tryz.ntmps173
  go_wp2_with fail
  refine (N0 _).mono ?_
  rintro e w1 ⟨rfl, hb⟩
  go_wp2
  go_ret
  exact ⟨rfl, ((Below.refl _ w).alloc (Nat.le_refl _) _).trans (hb.mono (by simp))⟩
theorem univRight (p q : Int) (w : World) : Calls Tryz.prog 176 #[.int .i64 p, .int .i64 q] w fun e w' => e = .returned (.bool (decide (0 < kindsI p) && (decide (1 ≤ q) && decide (q ≤ 256)))) ∧ Below w.heap.size w w' := by
  obtain ⟨K, hK⟩ : ∃ K, kindsI p = K := ⟨_, rfl⟩
  have N0 := fun W => kinds_any p W
  rw [hK] at N0 ⊢
  clear hK
  go_enter Tryz.func176, Tryz.ntmps176
  go_wp2_with fail
  refine (N0 _).mono ?_
  rintro e w1 ⟨rfl, hb⟩
  go_wp2
  all_goals (go_ret; exact ⟨ret_bool (by first | rfl | (simp; done) | (rw [Bool.eq_iff_iff]; simp; done) | (rw [Bool.eq_iff_iff]; simp; omega)), hb⟩)
theorem trightUniv (s : Sp) (w : World) : Calls Tryz.prog 175 #[spV s] w fun e w' => e = .returned (.bool (decide (0 < kindsI s.p) && (decide (1 ≤ s.q) && decide (s.q ≤ 256)))) ∧ Below w.heap.size w w' := by
  obtain ⟨R, hR⟩ : ∃ R, (decide (0 < kindsI s.p) && (decide (1 ≤ s.q) && decide (s.q ≤ 256))) = R := ⟨_, rfl⟩
  have N0 := fun W => univRight s.p s.q W
  rw [hR] at N0 ⊢
  clear hR
  go_enter Tryz.func175, Tryz.ntmps175
  go_wp2_with fail
  refine (N0 _).mono ?_
  rintro e w1 ⟨rfl, hb⟩
  go_wp2
  go_ret
  exact ⟨rfl, ((Below.refl _ w).alloc (Nat.le_refl _) _).trans (hb.mono (by simp))⟩
theorem tsizeUniv (n : Int) (s : Sp) (hn1 : 1 ≤ n) (hn2 : n ≤ 16) (h3 : 1 ≤ s.q) (h4 : s.q ≤ 256) (w : World) : Calls Tryz.prog 177 #[.int .i64 n, spV s] w fun e w' => e = .returned (.int .i64 (n + s.q)) ∧ Below w.heap.size w w' := by
  go_enter Tryz.func177, Tryz.ntmps177
  go_wp2
  go_ret
  exact ⟨rfl, by (repeat' (first | exact Below.refl _ _ | assumption | refine Below.drew ?_ | refine below_drewN ?_ _ | refine Below.alloc ?_ (by simp <;> omega) _ | refine Below.setCell ?_ (by simp <;> omega) _))⟩
theorem queueRight (p q : Int) (w : World) : Calls Tryz.prog 181 #[.int .i64 p, .int .i64 q] w fun e w' => e = .returned (.bool (decide (1 ≤ p) && (decide (p ≤ 32) && (decide (0 ≤ q) && decide (q ≤ 3))))) ∧ w' = w := by
  go_enter Tryz.func181, Tryz.ntmps181
  go_wp2
  all_goals (go_ret; exact ⟨ret_bool (by first | rfl | (simp; done) | (rw [Bool.eq_iff_iff]; simp; done) | (rw [Bool.eq_iff_iff]; simp; omega)), rfl⟩)
theorem trightQueue (s : Sp) (w : World) : Calls Tryz.prog 180 #[spV s] w fun e w' => e = .returned (.bool (decide (1 ≤ s.p) && (decide (s.p ≤ 32) && (decide (0 ≤ s.q) && decide (s.q ≤ 3))))) ∧ Below w.heap.size w w' := by
  obtain ⟨R, hR⟩ : ∃ R, (decide (1 ≤ s.p) && (decide (s.p ≤ 32) && (decide (0 ≤ s.q) && decide (s.q ≤ 3)))) = R := ⟨_, rfl⟩
  have N0 := fun W => queueRight s.p s.q W
  rw [hR] at N0 ⊢
  clear hR
  go_enter Tryz.func180, Tryz.ntmps180
  go_wp2_with fail
  refine (N0 _).mono ?_
  rintro e w1 ⟨rfl, rfl⟩
  go_wp2
  go_ret
  exact ⟨rfl, by (repeat' (first | exact Below.refl _ _ | assumption | refine Below.drew ?_ | refine below_drewN ?_ _ | refine Below.alloc ?_ (by simp <;> omega) _ | refine Below.setCell ?_ (by simp <;> omega) _))⟩
theorem nodeRight (n p : Int) (hn1 : 1 ≤ n) (hn2 : n ≤ 16) (h1 : 1 ≤ p) (h2 : p ≤ 32) (w : World) : Calls Tryz.prog 206 #[.int .i64 n, .int .i64 p] w fun e w' => e = .returned (.bool true) ∧ w' = w := by
  go_enter Tryz.func206, Tryz.ntmps206
  go_wp2
  all_goals (go_ret; exact ⟨ret_bool (by first | rfl | (simp; done) | (rw [Bool.eq_iff_iff]; simp; done) | (rw [Bool.eq_iff_iff]; simp; omega)), rfl⟩)
theorem nodeSize (n p : Int) (hn1 : 1 ≤ n) (hn2 : n ≤ 16) (h1 : 1 ≤ p) (h2 : p ≤ 32) (w : World) : Calls Tryz.prog 183 #[.int .i64 n, .int .i64 p] w fun e w' => e = .returned (.int .i64 (2 + n + 4 * (1 + n * p))) ∧ w' = w := by
  obtain ⟨a1, a2⟩ := mul_bd (show 0 ≤ n by omega) hn2 (show 0 ≤ p by omega) h2
  go_enter Tryz.func183, Tryz.ntmps183
  go_wp2_with fail
  refine (nodeRight n p hn1 hn2 h1 h2 _).mono ?_
  rintro e w1 ⟨rfl, rfl⟩
  go_wp2
  go_ret
  exact ⟨rfl, rfl⟩
theorem tsizeQueue (n : Int) (s : Sp) (hn1 : 1 ≤ n) (hn2 : n ≤ 16) (h1 : 1 ≤ s.p) (h2 : s.p ≤ 32) (w : World) : Calls Tryz.prog 182 #[.int .i64 n, spV s] w fun e w' => e = .returned (.int .i64 (2 + n + 4 * (1 + n * s.p))) ∧ Below w.heap.size w w' := by
  go_enter Tryz.func182, Tryz.ntmps182
  go_wp2_with fail
  refine (nodeSize n s.p hn1 hn2 h1 h2 _).mono ?_
  rintro e w1 ⟨rfl, rfl⟩
  go_wp2
  go_ret
  exact ⟨rfl, by (repeat' (first | exact Below.refl _ _ | assumption | refine Below.drew ?_ | refine below_drewN ?_ _ | refine Below.alloc ?_ (by simp <;> omega) _ | refine Below.setCell ?_ (by simp <;> omega) _))⟩
theorem pinSize (n p : Int) (hn1 : 1 ≤ n) (hn2 : n ≤ 16) (h1 : 1 ≤ p) (h2 : p ≤ 8) (w : World) : Calls Tryz.prog 187 #[.int .i64 n, .int .i64 p] w fun e w' => e = .returned (.int .i64 (1 + (n + 1) * (p + 1))) ∧ w' = w := by
  obtain ⟨a1, a2⟩ := mul_bd (show 0 ≤ n + 1 by omega) (show n + 1 ≤ 17 by omega) (show 0 ≤ p + 1 by omega) (show p + 1 ≤ 9 by omega)
  go_enter Tryz.func187, Tryz.ntmps187
  go_wp2
  go_ret
  exact ⟨rfl, rfl⟩
theorem tsizePin (n : Int) (s : Sp) (hn1 : 1 ≤ n) (hn2 : n ≤ 16) (h1 : 1 ≤ s.p) (h2 : s.p ≤ 8) (w : World) : Calls Tryz.prog 186 #[.int .i64 n, spV s] w fun e w' => e = .returned (.int .i64 (1 + (n + 1) * (s.p + 1))) ∧ Below w.heap.size w w' := by
  go_enter Tryz.func186, Tryz.ntmps186
  go_wp2_with fail
  refine (pinSize n s.p hn1 hn2 h1 h2 _).mono ?_
  rintro e w1 ⟨rfl, rfl⟩
  go_wp2
  go_ret
  exact ⟨rfl, by (repeat' (first | exact Below.refl _ _ | assumption | refine Below.drew ?_ | refine below_drewN ?_ _ | refine Below.alloc ?_ (by simp <;> omega) _ | refine Below.setCell ?_ (by simp <;> omega) _))⟩
end Go.Proofs.YtmiimpmfkjcjlaaGreat
