import Derived.Test.YtmiimpmfkjcjlaaGreatRa9
namespace Go.Proofs.YtmiimpmfkjcjlaaGreat
open Go.RowKit
attribute [local go_sem] run_store_fn run_store_nilfn
abbrev memV (v : Value) : Value := .agg #[v, .int .i64 0, .int .i64 0, .int .i64 0, .int .i64 0, .int .i64 0]
set_option maxRecDepth 100000 in
set_option maxHeartbeats 2000000 in
theorem memOf_any (v : Value) (st : List Int) (w : World) (h : SlW w v st) (hm : st.length ≤ 1000000) :
    Calls Tryz.prog 153 #[v] w fun e w' => ∃ u, e = .returned (memV u) ∧ WOwn w' (w.heap.size + 1) u st.length st ∧ Below w.heap.size w w' := by
  have H := hide h
  obtain ⟨A, c, rfl, _⟩ := h
  go_enter Tryz.func153, Tryz.ntmps153
  go_wp2_with (at_builtin; refine wpList_dup rfl _ _ rfl rfl (by first | rfl | (simp; done) | simp) rfl (H.out.alloc _) hm ?_; intro v5 w5 hown5 hB5; have hans := (hB5.block w.heap.size (by omega)).trans (heap_alloc_new w (.cells #[.slice none 0 0, .int .i64 0, .int .i64 0, .int .i64 0, .int .i64 0, .int .i64 0] 204)); obtain ⟨A5, c5, rfl⟩ := own_slice hown5; obtain ⟨z0, z1, z2, z3, z4, z5, rz⟩ := cells6 hans; have HO5 := hide hown5; have HB5 : Hid (Below w.heap.size w w5) := hide (((Below.refl _ w).alloc (Nat.le_refl _) _).trans (hB5.mono (by omega))); have fz : ∀ j, w5.frozen? ⟨w.heap.size, j, none⟩ = false := (fun j => frozen_of_row w5 _ j _ _ hans); have f0 := fz 0; have f1 := fz 1; have f2 := fz 2; have f3 := fz 3; have f4 := fz 4; have f5 := fz 5; clear hans hown5 hB5 fz)
  refine bodyPost_ret (v := memV (.slice A5 st.length c5)) (by simp [results, Tryz.results153, go_sem, *]) rfl ⟨_, rfl, ?_, ?_⟩
  · refine owns_keepB HO5.out (S := fun j => j ≠ w.heap.size) ?_ (fun j hj _ => by omega)
    (repeat' (first | with_reducible assumption | with_reducible exact Keep.refl _ _ | with_reducible refine Keep.drew ?_ | with_reducible refine Keep.drewN ?_ _ | with_reducible refine Keep.setCell ?_ ?_ _ | with_reducible refine Keep.alloc ?_ ?_ _ | (intro k hk; omega) | (intro k hk; simp at hk ⊢; omega) | omega | (simp; done) | (simp; omega)))
  · have hq := HB5.out
    (repeat' (first | with_reducible (first | assumption | exact Below.refl _ _ | refine Below.drew ?_ | refine below_drewN ?_ _ | refine Below.alloc ?_ ?_ _ | refine Below.setCell ?_ ?_ _) | omega | (simp; done) | (simp; omega)))
def accY (k x b c : Int) : Int := if k = 0 then x else if k = 1 then b else if k = 2 then (if x = b then c else x) else (x + b) % 18446744073709551616
def accV (k x b : Int) : Int := if k = 0 then x else if k = 1 then 0 else if k = 2 then (if x = b then 1 else 0) else x
def accW (w : World) (mb mo g a : Nat) (k : Int) (n0 n1 n2 n3 x b c : Int) : World :=
  if k = 0 then w.setCell ⟨mb, mo + 1, none⟩ (.int .i64 (n0 + 1)) else
  if k = 1 then (w.setCell ⟨mb, mo + 2, none⟩ (.int .i64 (n1 + 1))).setCell ⟨g, a, none⟩ (.int .u64 b) else
  if k = 2 then (if x = b then (w.setCell ⟨mb, mo + 3, none⟩ (.int .i64 (n2 + 1))).setCell ⟨g, a, none⟩ (.int .u64 c) else w.setCell ⟨mb, mo + 3, none⟩ (.int .i64 (n2 + 1))) else
  (w.setCell ⟨mb, mo + 4, none⟩ (.int .i64 (n3 + 1))).setCell ⟨g, a, none⟩ (.int .u64 ((x + b) % 18446744073709551616))
theorem set_same {st : List Int} {p : Nat} {x : Int} (hx : st[p]? = some x) : st.set p x = st := by
  apply List.ext_getElem?
  intro i
  have hp := (List.getElem?_eq_some_iff.1 hx).1
  rw [List.getElem?_set]
  by_cases hi : p = i
  · subst hi; rw [if_pos rfl, if_pos hp, hx]
  · rw [if_neg hi]
theorem accW_keep (w : World) (mb mo g a : Nat) (k n0 n1 n2 n3 x b c : Int) : Keep (fun j => j ≠ mb ∧ j ≠ g) w (accW w mb mo g a k n0 n1 n2 n3 x b c) := by
  unfold accW
  split
  · exact (Keep.refl _ _).setCell (fun h => h.1 rfl) _
  split
  · exact ((Keep.refl _ _).setCell (fun h => h.1 rfl) _).setCell (fun h => h.2 rfl) _
  split
  · split
    · exact ((Keep.refl _ _).setCell (fun h => h.1 rfl) _).setCell (fun h => h.2 rfl) _
    · exact (Keep.refl _ _).setCell (fun h => h.1 rfl) _
  · exact ((Keep.refl _ _).setCell (fun h => h.1 rfl) _).setCell (fun h => h.2 rfl) _
theorem own_setOther {w : World} {B g m cap mb j : Nat} {st : List Int} (hO : WOwn w B (.slice (some ⟨g, 0, none⟩) m cap) m st) (hne : g ≠ mb) (u : Value) : WOwn (w.setCell ⟨mb, j, none⟩ u) B (.slice (some ⟨g, 0, none⟩) m cap) m st := by
  obtain ⟨q1, ⟨q2, _⟩ | ⟨g', cap', cur, e1, e2, e3, e4⟩⟩ := hO
  · cases q2
  · cases e1
    exact ⟨q1, Or.inr ⟨g, cap, cur, rfl, e2, (Below.heap_setCell _ _ _ _ (fun e => hne e)).trans e3, e4⟩⟩
theorem own_set {w : World} {B g m cap j : Nat} {st : List Int} {y : Int} (hO : WOwn w B (.slice (some ⟨g, 0, none⟩) m cap) m st) : WOwn (w.setCell ⟨g, j, none⟩ (.int .u64 y)) B (.slice (some ⟨g, 0, none⟩) m cap) m (st.set j y) := by
  have h := (World.ownsRow.stored hO j (.int .u64 y)).1
  unfold WOwn
  rw [List.map_set]
  exact h
theorem accW_own {w : World} {B mb mo g a m cap : Nat} {k n0 n1 n2 n3 x b c : Int} {st : List Int} (hO : WOwn w B (.slice (some ⟨g, 0, none⟩) m cap) m st) (hx : st[a]? = some x) (hne : g ≠ mb) :
    WOwn (accW w mb mo g a k n0 n1 n2 n3 x b c) B (.slice (some ⟨g, 0, none⟩) m cap) m (st.set a (accY k x b c)) := by
  unfold accW accY
  split
  · rw [set_same hx]; exact own_setOther hO hne _
  split
  · exact own_set (own_setOther hO hne _)
  split
  · split
    · exact own_set (own_setOther hO hne _)
    · rw [set_same hx]; exact own_setOther hO hne _
  · exact own_set (own_setOther hO hne _)
theorem accW_mem {w : World} {mb mo g a : Nat} {k n0 n1 n2 n3 x b c : Int} {v : Value} (h0 : w.cell? ⟨mb, mo, none⟩ = some v) (hne : g ≠ mb) : (accW w mb mo g a k n0 n1 n2 n3 x b c).cell? ⟨mb, mo, none⟩ = some v := by
  unfold accW
  repeat' split
  all_goals go_simp
set_option maxRecDepth 100000 in
set_option maxHeartbeats 2000000 in
theorem racc_in (mb mo g go a m cap : Nat) (k n0 n1 n2 n3 x b c : Int) (w : World) (h0 : w.cell? ⟨mb, mo, none⟩ = some (.slice (some ⟨g, go, none⟩) m cap)) (h1 : w.cell? ⟨mb, mo + 1, none⟩ = some (.int .i64 n0)) (h2 : w.cell? ⟨mb, mo + 2, none⟩ = some (.int .i64 n1))
    (h3 : w.cell? ⟨mb, mo + 3, none⟩ = some (.int .i64 n2)) (h4 : w.cell? ⟨mb, mo + 4, none⟩ = some (.int .i64 n3)) (hx : w.cell? ⟨g, go + a, none⟩ = some (.int .u64 x)) (hne : g ≠ mb)
    (f1 : w.frozen? ⟨mb, mo + 1, none⟩ = false) (f2 : w.frozen? ⟨mb, mo + 2, none⟩ = false) (f3 : w.frozen? ⟨mb, mo + 3, none⟩ = false) (f4 : w.frozen? ⟨mb, mo + 4, none⟩ = false) (fx : w.frozen? ⟨g, go + a, none⟩ = false)
    (ham : a < m) (hm : m ≤ 1000000) (hn : 0 ≤ n0 ∧ n0 < 1000000000 ∧ 0 ≤ n1 ∧ n1 < 1000000000 ∧ 0 ≤ n2 ∧ n2 < 1000000000 ∧ 0 ≤ n3 ∧ n3 < 1000000000) (hk : 0 ≤ k ∧ k ≤ 3) (hb : U64 b) (hxu : U64 x) :
    Calls Tryz.prog 154 #[.pointer (some ⟨mb, mo, none⟩), .int .i64 k, .int .i64 (a : Int), .int .u64 b, .int .u64 c] w fun e w' => e = .returned (.int .u64 (accV k x b)) ∧ w' = accW w mb mo g (go + a) k n0 n1 n2 n3 x b c := by
  have hm1 : (a : Int) < (m : Int) := by omega
  have hm2 : (m : Int) ≤ 1000000 := by omega
  have hm3 : (0 : Int) ≤ (a : Int) := by omega
  have hm4 : decide ((m : Int) ≤ (a : Int)) = false := by simp; omega
  have hm5 : decide (m ≤ a) = false := by simp; omega
  obtain ⟨q0, q1, q2, q3, q4, q5, q6, q7⟩ := hn
  obtain ⟨b0, b1⟩ := hb
  obtain ⟨x0, x1⟩ := hxu
  rcases (by omega : k = 0 ∨ k = 1 ∨ k = 2 ∨ k = 3) with rfl | rfl | rfl | rfl
  · go_enter Tryz.func154, Tryz.ntmps154
    go_wp2
    go_ret
    exact ⟨rfl, rfl⟩
  · go_enter Tryz.func154, Tryz.ntmps154
    go_wp2
    go_ret
    exact ⟨rfl, rfl⟩
  · by_cases hxb : x = b
    · have e0 : (x != b) = false := by simpa using hxb
      have hV : accV 2 x b = 1 := by unfold accV; rw [if_neg (by decide), if_neg (by decide), if_pos rfl, if_pos hxb]
      have HW : Hid (accW w mb mo g (go + a) 2 n0 n1 n2 n3 x b c = (w.setCell ⟨mb, mo + 3, none⟩ (.int .i64 (n2 + 1))).setCell ⟨g, go + a, none⟩ (.int .u64 c)) := hide (by unfold accW; rw [if_neg (by decide), if_neg (by decide), if_pos rfl, if_pos hxb])
      rw [hV, HW.out]
      clear hV hxb HW
      go_enter Tryz.func154, Tryz.ntmps154
      go_wp2
      go_ret
      exact ⟨rfl, rfl⟩
    · have e0 : (x != b) = true := by simpa using hxb
      have hV : accV 2 x b = 0 := by unfold accV; rw [if_neg (by decide), if_neg (by decide), if_pos rfl, if_neg hxb]
      have HW : Hid (accW w mb mo g (go + a) 2 n0 n1 n2 n3 x b c = (w.setCell ⟨mb, mo + 3, none⟩ (.int .i64 (n2 + 1)))) := hide (by unfold accW; rw [if_neg (by decide), if_neg (by decide), if_pos rfl, if_neg hxb])
      rw [hV, HW.out]
      clear hV hxb HW
      go_enter Tryz.func154, Tryz.ntmps154
      go_wp2
      go_ret
      exact ⟨rfl, rfl⟩
  · go_enter Tryz.func154, Tryz.ntmps154
    go_wp2
    go_ret
    exact ⟨rfl, rfl⟩
end Go.Proofs.YtmiimpmfkjcjlaaGreat

namespace Go.Proofs.YtmiimpmfkjcjlaaGreat
open Go.RowKit
attribute [local go_sem] run_store_fn run_store_nilfn
set_option maxRecDepth 100000 in
set_option maxHeartbeats 4000000 in
theorem rcell_any (s : Sp) (c : Cl) (B m : Nat) (v : Value) (st : List Int) (w : World) (hO : WOwn w B v m st) (hp : s.p = (m : Int)) (hm : 0 < m) (hm1 : m ≤ 1000) (hB : B ≤ w.heap.size) (ha : U64 c.a) (hbu : U64 c.b) (hu : ∀ z ∈ st, U64 z) :
    Calls Tryz.prog 84 #[spV s, v, clV c] w (RPost B (if ¬ (0 ≤ c.kind ∧ c.kind < 4) then (st, anE 9) else cellM s st c) w) := by
  obtain ⟨g, cap, rfl, hBg, hg, hl, hmx, hf⟩ := wo_parts hO hm
  obtain ⟨ha0, ha1⟩ := ha
  have wp : IntKind.u64.wrap s.p = s.p := by rw [IntKind.wrap_u64]; omega
  have hsl : SlW w (.slice (some ⟨g, 0, none⟩) m cap) st := wrow_sl (show WRow w B _ st from by unfold WRow; rw [hl]; exact hO) (by rw [hl]; exact hmx)
  have HO := hide hO
  have HL := hide hl
  have HS := hide hsl
  by_cases hk : 0 ≤ c.kind ∧ c.kind < 4
  · obtain ⟨hk0, hk1⟩ := hk
    have d0 : decide (c.kind < 0) = false := by simpa using hk0
    have d1 : decide (3 < c.kind) = false := by simp; omega
    rw [if_neg (by omega)]
    by_cases hpa : s.p ≤ c.a
    · have hR : cellM s st c = (st, ⟨10, 0, []⟩) := by unfold cellM; rw [if_pos hpa]; rfl
      have d2 : decide (s.p ≤ c.a) = true := by simpa using hpa
      rw [hR]
      clear hR hO hl hf hsl hpa hk0 hk1 hu hp
      go_enter Tryz.func84, Tryz.ntmps84
      go_wp2
      refine bodyPost_ret (v := .tuple #[.slice (some ⟨g, 0, none⟩) m cap, .agg #[.int .i64 10, .int .u64 0, .slice none 0 0]]) (by simp [results, Tryz.results84, go_sem, *]) rfl ?_
      refine ra_same HO.out HL.out hmx hB ?_
      (repeat' (first | exact Keep.refl _ _ | refine Keep.alloc ?_ (fun k (hk : k < w.heap.size) => by first | exact hk | (simp; omega)) _ | refine Keep.setCell ?_ (by first | (simp; done) | (simp; omega)) _ | refine Keep.drew ?_))
    · have d2 : decide (s.p ≤ c.a) = false := by simpa using hpa
      obtain ⟨p, hpe⟩ : ∃ p : Nat, c.a = (p : Int) := ⟨c.a.toNat, by omega⟩
      obtain ⟨x, hx⟩ : ∃ x, st[p]? = some x := ⟨_, List.getElem?_eq_getElem (by omega)⟩
      have hxu := hu x (List.mem_of_getElem? hx)
      have hat : at0 st c.a.toNat = x := by unfold at0; rw [hpe, Int.toNat_natCast, hx]; rfl
      have wi : IntKind.i64.wrap c.a = (p : Int) := by rw [wrap_i64 (by omega) (by omega)]; exact hpe
      have hpm : p < m := by omega
      have NO := fun W (h : SlW W (.slice (some ⟨g, 0, none⟩) m cap) st) => memOf_any (.slice (some ⟨g, 0, none⟩) m cap) st W h (by omega)
      have hR : cellM s st c = (st.set p (accY c.kind x c.b c.c), ⟨0, accV c.kind x c.b, []⟩) := by
        unfold cellM accY accV
        rw [if_neg hpa, hat, hpe, Int.toNat_natCast]
        have hsx : st.set p x = st := by
          apply List.ext_getElem?
          intro i
          rw [List.getElem?_set]
          by_cases hi : p = i
          · subst hi; rw [if_pos rfl, if_pos (by omega), hx]
          · rw [if_neg hi]
        rcases (by omega : c.kind = 0 ∨ c.kind = 1 ∨ c.kind = 2 ∨ c.kind = 3) with h | h | h | h <;> rw [h] <;> simp [anE, anV, hsx]
        by_cases hxb : x = c.b
        · simp [hxb]
        · simp [hxb, hsx]
      rw [hR]
      have HX := hide hx
      have hz3 : ∀ a b d : Obj, (((w.alloc a).alloc b).alloc d).heap.size = w.heap.size + 3 := fun a b d => by simp
      clear hR hat hO hl hf hsl hx hpe hu hpa hp
      go_enter Tryz.func84, Tryz.ntmps84
      go_wp2_with fail
      refine (NO _ ?_).mono ?_
      · exact ((HS.out.alloc _).alloc _).alloc _
      rintro e w5 ⟨u, rfl, hO5, hb5⟩
      have hB5 : Below (w.heap.size + 3) (appW w s c) w5 := hb5.mono (by simp)
      have hBL := appW_blocks w s c
      have hA0 := (hB5.block _ (by omega)).trans hBL.2.1
      have hA1 := (hB5.block _ (by omega)).trans hBL.2.2
      obtain ⟨c0, c1, c2, c3, c4, c5, cz⟩ := cells6 hA0
      obtain ⟨r0, r1, r2, f0, f1, f2, rz⟩ := cells3 hA1
      have hz5 : w.heap.size + 3 ≤ w5.heap.size := by have := hB5.size; simpa using this
      obtain ⟨g5, cap5, rfl, hg50, hg51, _, _, hf5⟩ := wo_parts hO5 (by rw [HL.out]; omega)
      rw [hz3] at hO5
      have k0 := wo_cell hO5 HX.out
      have kf := hf5 p
      have HO5 := hide hO5
      have HB5 : Hid (Below w.heap.size w w5) := hide ((appW_below w s c).trans (hB5.mono (by omega)))
      have hg52 : g5 ≠ w5.heap.size := by omega
      have hg53 : w.heap.size + 4 ≤ g5 := by simpa using hg50
      have HA1 := hide hA1
      clear hb5 hB5 hBL hA0 hA1 hO5 hf5
      go_wp2_with fail
      obtain ⟨W, hW⟩ : ∃ W, W = w5.alloc (.cells #[.slice (some ⟨g5, 0, none⟩) st.length cap5, .int .i64 0, .int .i64 0, .int .i64 0, .int .i64 0, .int .i64 0] 204) := ⟨_, rfl⟩
      have hM : W.heap[w5.heap.size]? = some (.cells #[.slice (some ⟨g5, 0, none⟩) st.length cap5, .int .i64 0, .int .i64 0, .int .i64 0, .int .i64 0, .int .i64 0] 204 (0, 0)) := by rw [hW]; exact heap_alloc_new _ _
      have HBW : Hid (Below w5.heap.size w5 W) := hide (by rw [hW]; exact (Below.refl _ _).alloc (Nat.le_refl _) _)
      have hzW : W.heap.size = w5.heap.size + 1 := by rw [hW]; simp
      rw [← hW]
      clear hW
      obtain ⟨m0, m1, m2, m3, m4, m5, mz⟩ := cells6 hM
      have g1 := frozen_of_row W _ 1 _ _ hM
      have g2 := frozen_of_row W _ 2 _ _ hM
      have g3 := frozen_of_row W _ 3 _ _ hM
      have g4 := frozen_of_row W _ 4 _ _ hM
      replace k0 := (HBW.out.cell (p := ⟨g5, p, none⟩) hg51).trans k0
      replace kf := (HBW.out.frozen (p := ⟨g5, p, none⟩) hg51).trans kf
      refine (racc_in w5.heap.size 0 g5 0 p st.length cap5 c.kind 0 0 0 0 x c.b c.c W m0 m1 m2 m3 m4 (by rw [Nat.zero_add]; exact k0) hg52 g1 g2 g3 g4 (by rw [Nat.zero_add]; exact kf) (by have := HL.out; omega) (by have := HL.out; omega) (by omega) ⟨hk0, by omega⟩ hbu hxu).mono ?_
      rintro e w6 ⟨rfl, hw6⟩
      rw [Nat.zero_add] at hw6
      have hkp : Keep (fun j => j ≠ w5.heap.size ∧ j ≠ g5) W w6 := by rw [hw6]; exact accW_keep _ _ _ _ _ _ _ _ _ _ _ _ _
      have hO6 : WOwn w6 (w.heap.size + 3 + 1) (.slice (some ⟨g5, 0, none⟩) st.length cap5) st.length (st.set p (accY c.kind x c.b c.c)) := by rw [hw6]; exact accW_own (WOwn.below HO5.out HBW.out (Nat.le_refl _)) HX.out hg52
      have m6 : w6.cell? ⟨w5.heap.size, 0, none⟩ = some (.slice (some ⟨g5, 0, none⟩) st.length cap5) := by rw [hw6]; exact accW_mem m0 hg52
      have hans : w6.heap[w.heap.size + 2]? = some (.cells #[.int .i64 0, .int .u64 0, .slice none 0 0] 57 (0, 0)) := (hkp.block _ ⟨by omega, by omega⟩).trans ((HBW.out.block _ rz).trans HA1.out)
      have hB6 : Below w.heap.size w w6 := HB5.out.trans ((HBW.out.mono (by omega)).trans (hkp.below (fun k hk => ⟨by omega, by omega⟩)))
      have hz6 := hkp.size
      clear hw6 r0 r1 r2 f0 f1 f2 m0 m1 m2 m3 m4 m5 g1 g2 g3 g4 k0 kf c0 c1 c2 c3 c4 c5
      obtain ⟨r0, r1, r2, f0, f1, f2, rz6⟩ := cells3 hans
      have HO6 := hide hO6
      have HB6 := hide hB6
      generalize accV c.kind x c.b = AV at *
      clear hkp hO6 hans hB6
      go_wp2
      refine bodyPost_ret (v := .tuple #[.slice (some ⟨g5, 0, none⟩) st.length cap5, .agg #[.int .i64 0, .int .u64 AV, .slice none 0 0]]) (by simp [results, Tryz.results84, go_sem, *]) rfl ?_
      refine ra_new (r := w.heap.size + 3 + 1) (l := st.set p (accY c.kind x c.b c.c)) hB HB6.out (by rw [List.length_set]; exact HO6.out) (by rw [List.length_set, HL.out]; exact hmx) (by omega) ?_
      (repeat' (first | exact Keep.refl _ _ | refine Keep.setCell ?_ (by first | (simp; done) | (simp; omega)) _ | refine Keep.drew ?_))
  · have hR : (if ¬ (0 ≤ c.kind ∧ c.kind < 4) then (st, anE 9) else cellM s st c) = (st, ⟨9, 0, []⟩) := by rw [if_pos hk]; rfl
    rw [hR]
    by_cases h0 : c.kind < 0
    · have d0 : decide (c.kind < 0) = true := by simpa using h0
      clear hR hO hl hf hsl hk h0 hu hp
      go_enter Tryz.func84, Tryz.ntmps84
      go_wp2
      refine bodyPost_ret (v := .tuple #[.slice (some ⟨g, 0, none⟩) m cap, .agg #[.int .i64 9, .int .u64 0, .slice none 0 0]]) (by simp [results, Tryz.results84, go_sem, *]) rfl ?_
      refine ra_same HO.out HL.out hmx hB ?_
      (repeat' (first | exact Keep.refl _ _ | refine Keep.alloc ?_ (fun k (hk : k < w.heap.size) => by first | exact hk | (simp; omega)) _ | refine Keep.setCell ?_ (by first | (simp; done) | (simp; omega)) _ | refine Keep.drew ?_))
    · have d0 : decide (c.kind < 0) = false := by simpa using h0
      have d1 : decide (3 < c.kind) = true := by simp; omega
      clear hR hO hl hf hsl hk h0 hu hp
      go_enter Tryz.func84, Tryz.ntmps84
      go_wp2
      refine bodyPost_ret (v := .tuple #[.slice (some ⟨g, 0, none⟩) m cap, .agg #[.int .i64 9, .int .u64 0, .slice none 0 0]]) (by simp [results, Tryz.results84, go_sem, *]) rfl ?_
      refine ra_same HO.out HL.out hmx hB ?_
      (repeat' (first | exact Keep.refl _ _ | refine Keep.alloc ?_ (fun k (hk : k < w.heap.size) => by first | exact hk | (simp; omega)) _ | refine Keep.setCell ?_ (by first | (simp; done) | (simp; omega)) _ | refine Keep.drew ?_))
end Go.Proofs.YtmiimpmfkjcjlaaGreat
