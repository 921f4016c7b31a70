import Derived.Test.YtlfingcmekifkaaGreatBun13
import Derived.Test.YtlfingcmekifkaaGreatLo12
namespace Go.Proofs.YtlfingcmekifkaaGreat
open Go.RowKit
def isNow (cs : List Cl) (fin : List Bool) (p : Int) (i : Nat) : Bool := decide ((cs[i]?).map (·.thread) = some p) && !(fin[i]?.getD false)
def nowV (cs : List Cl) (fin : List Bool) (p : Int) : Int := match nowF cs fin p with
  | some i => i
  | none => -1
theorem nowF_find (cs : List Cl) (fin : List Bool) (p : Int) : nowF cs fin p = (List.range cs.length).find? (isNow cs fin p) := by
  unfold nowF remF
  rw [List.head?_filter]
  rfl
theorem nowF_at {cs : List Cl} {fin : List Bool} {p : Int} {k : Nat} (hk : k < cs.length) (h : isNow cs fin p k = true) (hj : ∀ j, j < k → isNow cs fin p j = false) : nowF cs fin p = some k := by
  rw [nowF_find, List.find?_range_eq_some]
  exact ⟨h, List.mem_range.2 hk, fun j hjk => by rw [hj j hjk]; rfl⟩
theorem nowF_no {cs : List Cl} {fin : List Bool} {p : Int} (hj : ∀ j, j < cs.length → isNow cs fin p j = false) : nowF cs fin p = none := by
  rw [nowF_find, List.find?_eq_none]
  intro j hjm
  rw [hj j (List.mem_range.1 hjm)]
  simp
def bEnc (b : Bool) : List Value := [.bool b]
abbrev SlB := Sl bEnc 1
theorem b_cell {w : World} {b p : Nat} {x : Bool} (h : CellsAt w b p (bEnc x)) : w.cell? ⟨b, p, none⟩ = some (.bool x) := h 0 _ rfl
set_option maxRecDepth 100000 in
set_option maxHeartbeats 2000000 in
theorem refNow05 (A Af : Option Addr) (m c cf : Nat) (cs : List Cl) (fin : List Bool) (p : Int) (w : World) (h : SlCl w (.slice A m c) cs) (hm : cs.length = m) (hf : SlB w (.slice Af m cf) fin) (hmf : fin.length = m) :
    Calls Tryz.prog 43 #[.slice A m c, .slice Af m cf, .int .i64 p] w fun e w' => e = .returned (.int .i64 (nowV cs fin p)) ∧ w' = w := by
  have hle : m ≤ maxLen := by obtain ⟨_, _, e, h1, h2, _⟩ := h; cases e; omega
  have hm63 : (m : Int) ≤ 9223372036854775807 := by unfold maxLen at hle; omega
  have HH := hide h
  have HM := hide hm
  have HF := hide hf
  have HMF := hide hmf
  obtain ⟨E, hE⟩ : ∃ E, nowV cs fin p = E := ⟨_, rfl⟩
  have HE := hide hE
  rw [hE]
  clear h hm hf hmf hE
  go_enter Tryz.func43, Tryz.ntmps43
  go_wp2
  go_loopw [10] (fun i wr => ∃ k : Nat, k ≤ m ∧ i = .int .i64 k ∧ Hid (∀ j, j < k → isNow cs fin p j = false) ∧ wr = w) (fun i _ => m - (intOf i).toNat)
  case atStart => exact ⟨0, Nat.zero_le _, rfl, hide (fun j hj => by omega), rfl⟩
  case round =>
    obtain ⟨k, hk, rfl, hOk, rfl⟩ := hrel
    by_cases hlt : k < m
    · obtain ⟨x, hxk⟩ : ∃ x, cs[k]? = some x := ⟨_, List.getElem?_eq_getElem (by have := HM.out; omega)⟩
      obtain ⟨f, hfk⟩ : ∃ f, fin[k]? = some f := ⟨_, List.getElem?_eq_getElem (by have := HMF.out; omega)⟩
      obtain ⟨A', c', e, _, _, h3⟩ := HH.out
      obtain ⟨b, oo, e', hb, hc⟩ := h3 k x hxk
      rw [HM.out] at e
      cases e
      cases e'
      obtain ⟨c0, c1, c2, c3, c4, c5⟩ := cl_cells hc
      obtain ⟨A2, c2', e2, _, _, h4⟩ := HF.out
      obtain ⟨b2, o2, e2', hb2, hc2⟩ := h4 k f hfk
      rw [HMF.out] at e2
      cases e2
      cases e2'
      have f0 := b_cell hc2
      simp only [Nat.mul_one] at f0
      have hN : isNow cs fin p k = (decide (x.thread = p) && !f) := by unfold isNow; rw [hxk, hfk]; simp
      have HN := hide hN
      clear h3 hc hxk h4 hc2 hfk hN
      by_cases hp : x.thread = p
      · have d0 : (x.thread == p) = true := by simpa using hp
        cases f
        · have hE1 : Hid ((k : Int) = E) := hide (by rw [← HE.out]; unfold nowV; rw [nowF_at (by have := HM.out; omega) (by rw [HN.out]; simpa using hp) hOk.out])
          clear hp
          go_wp2
          go_ret
          exact ⟨by rw [← hE1.out]; rfl, rfl⟩
        · have hok1 : Hid (∀ j, j < k + 1 → isNow cs fin p j = false) := hide (fun j hj => by
            by_cases e : j = k
            · rw [e, HN.out]; simp
            · exact hOk.out j (by omega))
          clear hp
          go_wp2
          go_roundw
          case rel => exact ⟨k + 1, by omega, by go_num, hok1, trivial⟩
          case measure => first | (simp [intOf]; done) | (simp [intOf]; omega)
      · have d0 : (x.thread == p) = false := by simpa using hp
        have hok1 : Hid (∀ j, j < k + 1 → isNow cs fin p j = false) := hide (fun j hj => by
          by_cases e : j = k
          · rw [e, HN.out]; simp [hp]
          · exact hOk.out j (by omega))
        clear hp
        go_wp2
        go_roundw
        case rel => exact ⟨k + 1, by omega, by go_num, hok1, trivial⟩
        case measure => first | (simp [intOf]; done) | (simp [intOf]; omega)
    · obtain rfl : k = m := by omega
      have hE1 : Hid (-1 = E) := hide (by rw [← HE.out]; unfold nowV; rw [nowF_no (fun j hj => hOk.out j (by have := HM.out; omega))])
      go_wp2
      go_ret
      exact ⟨by rw [← hE1.out]; rfl, rfl⟩
end Go.Proofs.YtlfingcmekifkaaGreat

namespace Go.Proofs.YtlfingcmekifkaaGreat
open Go.RowKit
theorem DoAt.grow {w w1 : World} {hb wp q nh th : Nat} {g f : Nat → Value} {X : Rv} {T : Tp} {W : Rw} {Mu : Nat → Prop} (h : DoAt w hb wp q nh th g f X T W Mu) (hb' : Below w.heap.size w w1) : DoAt w1 hb wp q nh th g f X T W Mu := by
  have hk := Keep.of_below (K := fun k => k < w.heap.size) hb' (fun k hk => hk)
  exact ⟨h.at_.keep hk h.at_.hrow.lt h.at_.mem.row.lt h.at_.lt4, h.pr.keep hk (fun k k1 _ => k1) (fun _ _ h => h), h.li.keep hk (fun k k1 _ => k1) (fun _ _ h => h), h.ky.keep hk (fun k k1 _ => k1) (fun _ _ h => h), h.mu, fun k k1 => Nat.lt_of_lt_of_le (h.lt k k1) hk.size⟩
theorem DoR.since {w w1 w2 : World} {hb wp q nh th : Nat} {g f : Nat → Value} {X : Rv} {T : Tp} {W : Rw} {Mu : Nat → Prop} (h : DoR w1 hb wp q nh th g f X Mu T W w2) (hb' : Below w.heap.size w w1) : DoR w hb wp q nh th g f X Mu T W w2 := by
  have hk := Keep.of_below (K := fun k => k < w.heap.size) hb' (fun k hk => hk)
  have hz := hk.size
  obtain ⟨g1, f1, X1, h1, h2, h3, h4, h5, h6⟩ := h
  refine ⟨g1, f1, X1, h1, h2, h3, h4, fun k hk' => ?_, (hk.mono (fun k hk' => hk'.1)).trans (h6.mono (fun k hk' => ⟨by omega, hk'.2.1, hk'.2.2.1, hk'.2.2.2⟩))⟩
  rcases h5 k hk' with e | e
  · exact Or.inl e
  · exact Or.inr (by omega)
def spV (k p q : Int) : Value := .agg #[.int .i64 k, .int .i64 p, .int .i64 q]
set_option maxRecDepth 100000 in
set_option maxHeartbeats 2000000 in
theorem plainDoEl {w : World} {hb wp q nh th n : Nat} {g f : Nat → Value} {X : Rv} {T : Tp} {W : Rw} {Mu : Nat → Prop} (c : Cl) (sp sq : Int) (h : DoAt w hb wp q nh th g f X T W Mu) (hn : 1 ≤ n ∧ n ≤ 16) (hth : th < 16) (hB : T.fresh = true → RtB T W) :
    Calls Tryz.prog 61 #[.pointer (some ⟨hb, q, none⟩), .int .i64 n, .int .i64 0, spV 17 sp sq, clV c] w fun e w' => e = .returned (.tuple #[]) ∧ DoR w hb wp q nh th g f X Mu (elDo (pw2 (dep n)) th c T W).1 (elDo (pw2 (dep n)) th c T W).2 w' := by
  have hb2 : Below w.heap.size w ((w.alloc (.cells #[.int .i64 17, .int .i64 sp, .int .i64 sq] 39)).alloc (.cells #[.int .i64 c.thread, .int .i64 c.obj, .int .i64 c.kind, .int .u64 c.a, .int .u64 c.b, .int .u64 c.c] 48)) := ((Below.refl _ w).alloc (Nat.le_refl _) _).alloc (by simp) _
  have N := elDoW c (h.grow hb2) hn hth hB
  have HB := hide hb2
  obtain ⟨TT, hTT⟩ : ∃ TT, elDo (pw2 (dep n)) th c T W = TT := ⟨_, rfl⟩
  rw [hTT] at N ⊢
  clear h hb2 hB hTT
  unfold clV at N ⊢
  unfold spV
  go_enter Tryz.func61, Tryz.ntmps61
  go_wp2_with fail
  refine N.mono ?_
  rintro e w1 ⟨rfl, hD⟩
  have HD := hide hD
  clear hD N
  go_wp2
  go_end0
  exact ⟨rfl, HD.out.since HB.out⟩
set_option maxRecDepth 100000 in
set_option maxHeartbeats 1000000 in
theorem plainWrong (n : Int) (A : Option Addr) (m c : Nat) (cs : List Cl) (Ap : Option Addr) (np cp : Nat) (w : World) (h : SlCl w (.slice A m c) cs) (hm : cs.length = m) :
    Calls Tryz.prog 39 #[.int .i64 n, .slice A m c, .slice Ap np cp] w fun e w' => e = .returned (.int .i64 (chkE n cs np)) ∧ w' = w := by
  have N := refWrong05 n A m c cs w h hm
  have HM := hide hm
  clear h hm
  by_cases hn : 1 ≤ n ∧ n ≤ 16
  · have n0 : decide (n < 1) = false := by simp; omega
    have n1 : decide (16 < n) = false := by simp; omega
    by_cases h8 : 1000 < m
    · have hE : chkE n cs np = 3 := by unfold chkE; rw [if_neg (by omega), if_pos (Or.inl (by rw [HM.out]; omega))]
      rw [hE]
      have h8' : (1000 : Int) < (m : Int) := by omega
      clear hE N hn
      go_enter Tryz.func39, Tryz.ntmps39
      go_wp2
      go_ret
      exact ⟨rfl, rfl⟩
    · by_cases h9 : 65536 < np
      · have hE : chkE n cs np = 3 := by unfold chkE; rw [if_neg (by omega), if_pos (Or.inr h9)]
        rw [hE]
        have h8' : ¬ (1000 : Int) < (m : Int) := by omega
        have h9' : (65536 : Int) < (np : Int) := by omega
        clear hE N hn
        go_enter Tryz.func39, Tryz.ntmps39
        go_wp2
        go_ret
        exact ⟨rfl, rfl⟩
      · have hE : chkE n cs np = wrongE n cs := by unfold chkE; rw [if_neg (by omega), if_neg (by rw [HM.out]; omega)]
        rw [hE]
        have h8' : ¬ (1000 : Int) < (m : Int) := by omega
        have h9' : ¬ (65536 : Int) < (np : Int) := by omega
        clear hE hn
        generalize wrongE n cs = E at N ⊢
        go_enter Tryz.func39, Tryz.ntmps39
        go_wp2_with fail
        refine N.mono ?_
        rintro e w1 ⟨rfl, rfl⟩
        go_wp2
        go_ret
        exact ⟨rfl, rfl⟩
  · have hE : chkE n cs np = 1 := by unfold chkE; rw [if_pos hn]
    rw [hE]
    rcases (by omega : n < 1 ∨ 1 ≤ n ∧ 16 < n) with h0 | ⟨h0, h1⟩
    · have n0 : decide (n < 1) = true := by simp; omega
      clear hE N hn
      go_enter Tryz.func39, Tryz.ntmps39
      go_wp2
      go_ret
      exact ⟨rfl, rfl⟩
    · have n0 : decide (n < 1) = false := by simp; omega
      have n1 : decide (16 < n) = true := by simp; omega
      clear hE N hn
      go_enter Tryz.func39, Tryz.ntmps39
      go_wp2
      go_ret
      exact ⟨rfl, rfl⟩
end Go.Proofs.YtlfingcmekifkaaGreat

namespace Go.Proofs.YtlfingcmekifkaaGreat
open Go.RowKit
section
variable {w w1 : World} {hb wp q nh th : Nat} {g f : Nat → Value} {X : Rv} {T T' : Tp} {W : Rw} {Mu : Nat → Prop}
theorem DoAt.set (h : DoAt w hb wp q nh th g f X T W Mu) {j : Nat} (v pv lv kv : Value) (hj : j < 13) (ht : ∀ g, TpF g q wp th X T → TpF (fun i => if i = q + j then v else g i) q wp th ⟨X.wv, X.lg, X.gv, X.tv, pv, lv, kv⟩ T') (e1 : T'.got = T.got) (e2 : T'.tks = T.tks) (e3 : T'.at_ ≤ T'.got.length) (hp : LstIs w Mu pv T'.priv) (hl : LstIs w Mu lv T'.list) (hk : KeyIs w Mu kv T'.key) :
    DoAt (w.setCell ⟨hb, q + j, none⟩ v) hb wp q nh th (fun i => if i = q + j then v else g i) f ⟨X.wv, X.lg, X.gv, X.tv, pv, lv, kv⟩ T' W Mu := by
  have hkk : Keep (fun k => k ≠ hb) w (w.setCell ⟨hb, q + j, none⟩ v) := (Keep.refl _ w).setCell (by simp) _
  have hS : ∀ k, k < w.heap.size → ¬ Mu k → k ≠ hb := fun k _ k2 e => by subst e; exact k2 h.mu.1
  exact ⟨h.at_.cellX v pv lv kv hj (ht _ h.at_.tp) e1 e2 e3, hp.keep hkk hS (fun _ _ h => h), hl.keep hkk hS (fun _ _ h => h), hk.keep hkk hS (fun _ _ h => h), h.mu, fun k k1 => Nat.lt_of_lt_of_le (h.lt k k1) hkk.size⟩
def againW (w : World) (hb q : Nat) : World := ((((((w.setCell ⟨hb, q + 5, none⟩ (.int .i64 0)).setCell ⟨hb, q + 6, none⟩ (.bool true)).setCell ⟨hb, q + 7, none⟩ (.bool false)).setCell ⟨hb, q + 9, none⟩ (.int .i64 0)).setCell ⟨hb, q + 10, none⟩ (.int .u64 0)).setCell ⟨hb, q + 11, none⟩ (.slice none 0 0)).setCell ⟨hb, q + 12, none⟩ (.slice none 0 0)
theorem DoAt.again (h : DoAt w hb wp q nh th g f X T W Mu) : ∃ g', DoAt (againW w hb q) hb wp q nh th g' f ⟨X.wv, X.lg, X.gv, X.tv, X.pv, .slice none 0 0, .slice none 0 0⟩ T.again W Mu ∧ (∀ i, (i < q ∨ q + 13 ≤ i) → g' i = g i) := by
  have h1 := h.set (j := 5) (T' := { T with at_ := 0 }) (.int .i64 0) X.pv X.lv X.kv (by decide) (fun g ht => by obtain ⟨b0, b1, b2, b3, b4, b5, b6, b7, b8, b9, b10, b11, b12⟩ := ht; refine ⟨?_, ?_, ?_, ?_, ?_, ?_, ?_, ?_, ?_, ?_, ?_, ?_, ?_⟩; all_goals first | (rw [if_neg (by omega)]; assumption) | (rw [if_pos (by omega)]; rfl) | (rw [if_pos (by omega)])) rfl rfl (Nat.zero_le _) h.pr h.li h.ky
  have h2 := h1.set (j := 6) (T' := { T with at_ := 0, fresh := true }) (.bool true) X.pv X.lv X.kv (by decide) (fun g ht => by obtain ⟨b0, b1, b2, b3, b4, b5, b6, b7, b8, b9, b10, b11, b12⟩ := ht; refine ⟨?_, ?_, ?_, ?_, ?_, ?_, ?_, ?_, ?_, ?_, ?_, ?_, ?_⟩; all_goals first | (rw [if_neg (by omega)]; assumption) | (rw [if_pos (by omega)]; rfl) | (rw [if_pos (by omega)])) rfl rfl (Nat.zero_le _) h1.pr h1.li h1.ky
  have h3 := h2.set (j := 7) (T' := { T with at_ := 0, fresh := true, halt := false }) (.bool false) X.pv X.lv X.kv (by decide) (fun g ht => by obtain ⟨b0, b1, b2, b3, b4, b5, b6, b7, b8, b9, b10, b11, b12⟩ := ht; refine ⟨?_, ?_, ?_, ?_, ?_, ?_, ?_, ?_, ?_, ?_, ?_, ?_, ?_⟩; all_goals first | (rw [if_neg (by omega)]; assumption) | (rw [if_pos (by omega)]; rfl) | (rw [if_pos (by omega)])) rfl rfl (Nat.zero_le _) h2.pr h2.li h2.ky
  have h4 := h3.set (j := 9) (T' := { T with at_ := 0, fresh := true, halt := false, err := 0 }) (.int .i64 0) X.pv X.lv X.kv (by decide) (fun g ht => by obtain ⟨b0, b1, b2, b3, b4, b5, b6, b7, b8, b9, b10, b11, b12⟩ := ht; refine ⟨?_, ?_, ?_, ?_, ?_, ?_, ?_, ?_, ?_, ?_, ?_, ?_, ?_⟩; all_goals first | (rw [if_neg (by omega)]; assumption) | (rw [if_pos (by omega)]; rfl) | (rw [if_pos (by omega)])) rfl rfl (Nat.zero_le _) h3.pr h3.li h3.ky
  have h5 := h4.set (j := 10) (T' := { T with at_ := 0, fresh := true, halt := false, err := 0, val := 0 }) (.int .u64 0) X.pv X.lv X.kv (by decide) (fun g ht => by obtain ⟨b0, b1, b2, b3, b4, b5, b6, b7, b8, b9, b10, b11, b12⟩ := ht; refine ⟨?_, ?_, ?_, ?_, ?_, ?_, ?_, ?_, ?_, ?_, ?_, ?_, ?_⟩; all_goals first | (rw [if_neg (by omega)]; assumption) | (rw [if_pos (by omega)]; rfl) | (rw [if_pos (by omega)])) rfl rfl (Nat.zero_le _) h4.pr h4.li h4.ky
  have h6 := h5.set (j := 11) (T' := { T with at_ := 0, fresh := true, halt := false, err := 0, val := 0, list := [] }) (.slice none 0 0) X.pv (.slice none 0 0) X.kv (by decide) (fun g ht => by obtain ⟨b0, b1, b2, b3, b4, b5, b6, b7, b8, b9, b10, b11, b12⟩ := ht; refine ⟨?_, ?_, ?_, ?_, ?_, ?_, ?_, ?_, ?_, ?_, ?_, ?_, ?_⟩; all_goals first | (rw [if_neg (by omega)]; assumption) | (rw [if_pos (by omega)]; rfl) | (rw [if_pos (by omega)])) rfl rfl (Nat.zero_le _) h5.pr (LstIs.nil _ _) h5.ky
  have h7 := h6.set (j := 12) (T' := T.again) (.slice none 0 0) X.pv (.slice none 0 0) (.slice none 0 0) (by decide) (fun g ht => by obtain ⟨b0, b1, b2, b3, b4, b5, b6, b7, b8, b9, b10, b11, b12⟩ := ht; refine ⟨?_, ?_, ?_, ?_, ?_, ?_, ?_, ?_, ?_, ?_, ?_, ?_, ?_⟩; all_goals first | (rw [if_neg (by omega)]; assumption) | (rw [if_pos (by omega)]; rfl) | (rw [if_pos (by omega)])) rfl rfl (Nat.zero_le _) h6.pr h6.li (KeyIs.nil _ _)
  refine ⟨_, h7, fun i hi => ?_⟩
  rw [if_neg (by omega), if_neg (by omega), if_neg (by omega), if_neg (by omega), if_neg (by omega), if_neg (by omega), if_neg (by omega)]
theorem DoR.open {T1 : Tp} {W1 : Rw} (h : DoR w hb wp q nh th g f X Mu T1 W1 w1) : ∃ g1 f1 X1, DoAt w1 hb wp q nh th g1 f1 X1 T1 W1 (fun k => Mu k ∨ X1.four k) ∧ ∀ T2 W2 w2, DoR w1 hb wp q nh th g1 f1 X1 (fun k => Mu k ∨ X1.four k) T2 W2 w2 → DoR w hb wp q nh th g f X Mu T2 W2 w2 := by
  obtain ⟨g1, f1, X1, h1, h2, h3, h4, h5, h6⟩ := h
  refine ⟨g1, f1, X1, h1, fun T2 W2 w2 hD => ?_⟩
  obtain ⟨g2, f2, X2, a1, a2, a3, a4, a5, a6⟩ := hD
  have hz := h6.size
  have hr := Keep.refl (fun _ => True) w2
  have hM : ∀ k, k < w2.heap.size → (Mu k ∨ X2.four k) → ((Mu k ∨ X1.four k) ∨ X2.four k) := fun k _ hk => by
    rcases hk with hk | hk
    · exact Or.inl (Or.inl hk)
    · exact Or.inr hk
  have hmu : ∀ k, (Mu k ∨ X1.four k) → k = hb ∨ k = wp → Mu k := fun k hk e => by
    rcases hk with hk | hk
    · exact hk
    · have := h1.at_.ne k hk
      rcases e with e | e
      · exact absurd e this.1
      · exact absurd e this.2
  refine ⟨g2, f2, X2, ⟨a1.at_, a1.pr.keep hr (fun _ _ _ => trivial) hM, a1.li.keep hr (fun _ _ _ => trivial) hM, a1.ky.keep hr (fun _ _ _ => trivial) hM, ⟨Or.inl (hmu _ h1.mu.1 (Or.inl rfl)), Or.inl (hmu _ h1.mu.2.1 (Or.inr rfl)), fun k hk => Or.inr hk⟩, fun k hk => ?_⟩, a2.trans h2, fun i hi => (a3 i hi).trans (h3 i hi), fun i hi => (a4 i hi).trans (h4 i hi), fun k hk => ?_, ?_⟩
  · rcases hk with hk | hk
    · exact a1.lt k (Or.inl (Or.inl hk))
    · exact a1.lt k (Or.inr hk)
  · rcases a5 k hk with e | e
    · exact h5 k e
    · exact Or.inr (by omega)
  · exact h6.trans (a6.mono (fun k hk => ⟨by omega, hk.2.1, hk.2.2.1, fun e => by
      rcases h5 k e with e | e
      · exact hk.2.2.2 e
      · omega⟩))
end
end Go.Proofs.YtlfingcmekifkaaGreat
