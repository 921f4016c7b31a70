/- A model that an operation is done to (package model): operations on a pin register. -/
/- A model that an operation is done to (package model): operations on a shared object. -/
/- A model that an operation is done to (package model): an operation of a kind that there is (act). -/
/- Models: may a state be one (package model: Right). -/
import Derived.Test.YtmiimpmfkjcjlaaGreatMoB
namespace Go.Proofs.YtmiimpmfkjcjlaaGreat
open Go.RowKit
attribute [local go_sem] run_store_fn run_store_nilfn

def pinMix (a : Int) (st : List Int) (i : Nat) : List Int := pinL a i ++ st.drop i
theorem pinL_len (a : Int) (k : Nat) : (pinL a k).length = k := by simp [pinL]
theorem pinMix_zero (a : Int) (st : List Int) : pinMix a st 0 = st := by simp [pinMix, pinL]
theorem pinMix_all (a : Int) (st : List Int) : pinMix a st st.length = pinL a st.length := by simp [pinMix]
theorem pinMix_len (a : Int) (st : List Int) (i : Nat) (h : i ≤ st.length) : (pinMix a st i).length = st.length := by
  unfold pinMix
  rw [List.length_append, pinL_len, List.length_drop]
  omega
theorem pinMix_set (a : Int) (st : List Int) (i : Nat) (h : i < st.length) : (pinMix a st i).set i ((a + i) % 18446744073709551616) = pinMix a st (i + 1) := by
  unfold pinMix
  rw [List.set_append, if_neg (by rw [pinL_len]; omega), pinL_len, Nat.sub_self]
  have hd : st.drop i = st[i] :: st.drop (i + 1) := List.drop_eq_getElem_cons h
  rw [hd, List.set_cons_zero]
  unfold pinL
  rw [List.range_succ, List.map_append]
  simp

set_option maxRecDepth 100000 in
set_option maxHeartbeats 1000000 in
theorem pin1_any (g L b bt : Nat) (a : Int) (st : List Int) (W : World) (h : W.heap[g]? = some (.cells (wordC st) 25 (0, 0))) (hL : st.length = L) (hl : L ≤ 1000) (ha : U64 a)
    (hbt : W.cell? ⟨bt, 0, none⟩ = some (.pointer (some ⟨b, 0, none⟩))) (hb : W.cell? ⟨b, 8, none⟩ = some (.int .u64 a)) (hg1 : bt < g) (hg2 : b < g) (_hz : g < W.heap.size) :
    Calls Tryz.prog 199 #[.slice (some ⟨g, 0, none⟩) L L, .pointer (some ⟨bt, 0, none⟩)] W fun e W' =>
      e = .returned (.tuple #[]) ∧ W'.heap[g]? = some (.cells (wordC (pinL a L)) 25 (0, 0)) ∧ Below g W W' := by
  have hl63 : (L : Int) ≤ 1000 := by omega
  obtain ⟨ha0, ha1⟩ := ha
  have H := hide h
  have HL := hide hL
  clear h hL
  go_enter Tryz.func199, Tryz.ntmps199
  go_wp2
  go_loopw [6] (fun i wr => ∃ k : Nat, k ≤ L ∧ i = .int .i64 k ∧ Hid (wr.heap[g]? = some (.cells (wordC (pinMix a st k)) 25 (0, 0))) ∧ Hid (Below g W wr)) (fun i _ => L - (intOf i).toNat)
  case atStart => exact ⟨0, Nat.zero_le _, rfl, hide (by rw [pinMix_zero]; exact H.out), hide (Below.refl _ _)⟩
  case round =>
    obtain ⟨k, hk, rfl, hG, hB⟩ := hrel
    by_cases hlt : k < L
    · have c0 := word_cell (i := k) hG.out (List.getElem?_eq_getElem (by rw [pinMix_len _ _ _ (by have := HL.out; omega)]; have := HL.out; omega))
      have f0 := frozen_of_row wr g k _ _ hG.out
      have hgl := (Array.getElem?_eq_some_iff.1 hG.out).1
      have t0 := (hB.out.cell (p := ⟨bt, 0, none⟩) hg1).trans hbt
      have t1 := (hB.out.cell (p := ⟨b, 8, none⟩) hg2).trans hb
      have q0 : (0 : Int) ≤ (k : Int) := by omega
      have q1 : (k : Int) < (L : Int) := by omega
      have q2 : (k : Int) ≤ 1000 := by omega
      have HG1 := hide (word_set (i := k) (x := (a + k) % 18446744073709551616) hG.out)
      have HM := hide (pinMix_set a st k (by have := HL.out; omega))
      go_wp2
      go_roundw
      case rel => exact ⟨k + 1, by omega, by go_num, hide (by rw [← HM.out]; exact HG1.out), hide (hB.out.setCell (by simp) _)⟩
      case measure => first | (simp [intOf]; done) | (simp [intOf]; omega)
    · obtain rfl : k = L := by omega
      go_wp2
      go_end0
      refine ⟨rfl, ?_, hB.out⟩
      have h := hG.out
      rw [← HL.out, pinMix_all, HL.out] at h
      exact h

abbrev pinW (w : World) (b : Nat) : World := (w.alloc (.cells #[.pointer (some ⟨b, 0, none⟩)] 144)).alloc (.cells #[.int .i64 0, .int .u64 0, .slice none 0 0] 57)
theorem pinW_below (w : World) (b : Nat) : Below w.heap.size w (pinW w b) := ((Below.refl _ w).alloc (Nat.le_refl _) _).alloc (by simp) _
theorem pinW_res (w : World) (b : Nat) : (pinW w b).heap[w.heap.size + 1]? = some (.cells #[.int .i64 0, .int .u64 0, .slice none 0 0] 57 (0, 0)) := by
  have := heap_alloc_new (w.alloc (.cells #[.pointer (some ⟨b, 0, none⟩)] 144)) (.cells #[.int .i64 0, .int .u64 0, .slice none 0 0] 57)
  simpa using this
set_option maxRecDepth 100000 in
set_option maxHeartbeats 4000000 in
theorem mpin_any (n : Int) (s : Sp) (c : Cl) (b B : Nat) (v : Value) (st : List Int) (w : World) (hT : ThAt w b n s v c) (hO : WOwn w B v st.length st) (hBw : B ≤ w.heap.size) (hl : st.length ≤ 1000)
    (ha : U64 c.a) (hk0 : 0 ≤ c.kind) (hk1 : c.kind < 2) :
    Calls Tryz.prog 152 #[.pointer (some ⟨b, 0, none⟩)] w (ThPost n s c b B (pinM st c) w) := by
  obtain ⟨a0, a1, a2, a3, a4, a5, a6, a7, a8, a9, a10, f4, hb⟩ := hT.cells
  have hsl : SlW w v st := wrow_sl hO (by unfold maxLen; omega)
  obtain ⟨vA, vc, rfl⟩ := own_slice hO
  have HT := hide hT
  have HO := hide hO
  have HS := hide hsl
  have hb1 : b < w.heap.size + 1 := by omega
  by_cases hk : c.kind = 1
  · have hM : pinM st c = (st, ⟨0, 0, st⟩) := by unfold pinM; rw [if_pos hk]
    rw [hM]
    rw [hk] at a7
    have N0 := fun W h => clone_any (.slice vA st.length vc) st W h (by omega)
    clear hT hO hsl hM hk
    go_enter Tryz.func152, Tryz.ntmps152
    go_wp2_with fail
    refine (N0 _ ?_).mono ?_
    · exact HS.out.below (pinW_below w b) (Nat.le_refl _)
    rintro e w4 ⟨v4, rfl, hown, hb4⟩
    have hB4 : Below (w.heap.size + 2) (pinW w b) w4 := hb4.mono (by simp)
    have hBw4 : Below w.heap.size w w4 := (pinW_below w b).trans (hB4.mono (by omega))
    have hown4 : WOwn w4 (w.heap.size + 2) v4 st.length st := World.ownsRow.mono hown (by simp)
    obtain ⟨A4, c4, rfl⟩ := own_slice hown4
    obtain ⟨r0, r1, r2, g0, g1, g2, rz⟩ := cells3 ((hB4.block (w.heap.size + 1) (by omega)).trans (pinW_res w b))
    have HW4 := hide hBw4
    have HO4 := hide hown4
    clear hown hb4 hB4 hBw4 hown4
    go_wp2
    refine bodyPost_ret (v := .agg #[.int .i64 0, .int .u64 0, .slice A4 st.length c4]) (by simp [results, Tryz.results152, go_sem, *]) rfl ?_
    exact mpost_list (r := w.heap.size + 1) (B' := w.heap.size + 2) hb HT.out HO.out HW4.out HO4.out (by omega) (by omega) hBw rfl (by (repeat' (first | exact Keep.refl _ _ | refine Keep.setCell ?_ (by simp) _ | refine Keep.drew ?_)))
  · have hk9 : c.kind = 0 := by omega
    rw [hk9] at a7
    by_cases h0 : c.thread = 0
    · have hM : pinM st c = (pinL c.a st.length, ⟨0, 0, []⟩) := by unfold pinM; rw [if_neg hk, if_neg (by omega)]; rfl
      rw [hM]
      rw [h0] at a5
      have hB0 := pinW_below w b
      have t0 : (pinW w b).cell? ⟨w.heap.size, 0, none⟩ = some (.pointer (some ⟨b, 0, none⟩)) := by unfold pinW; go_simp
      have t8 := (hB0.cell (p := ⟨b, 8, none⟩) hb).trans a8
      have N1 := change_any 199 b B #[.pointer (some ⟨w.heap.size, 0, none⟩)] n s c (.slice vA st.length vc) st (pinL c.a st.length) (pinW w b)
        (enter_of Tryz.func199 (by kernel_rfl) (by kernel_rfl)) (hT.of_block (hB0.block b hb)) (WOwn.below hO hB0 (Nat.le_refl _)) (by omega)
        (fun W hB hg hz => by
          have hB' : Below (w.heap.size + 2) (pinW w b) W := hB.mono (by simp)
          refine (pin1_any _ st.length b w.heap.size c.a st W hg rfl hl ha ((hB'.cell (p := ⟨w.heap.size, 0, none⟩) (by show w.heap.size < _; omega)).trans t0) ((hB'.cell (p := ⟨b, 8, none⟩) (by show b < _; omega)).trans t8) (by simp; omega) (by simp; omega) hz).mono ?_
          rintro e w' ⟨h1, h2, h3⟩
          exact ⟨h1, h2, h3⟩)
      have HN1 := hide N1
      have HB0 := hide hB0
      clear hT hO hsl hM hk h0 N1 hB0 t0 t8
      go_enter Tryz.func152, Tryz.ntmps152
      go_wp2_with fail
      refine HN1.out.mono ?_
      rintro e w3 ⟨rfl, hT3, hg3, hk3⟩
      obtain ⟨r0, r1, r2, g0, g1, g2, rz⟩ := cells3 ((hk3.block (w.heap.size + 1) ⟨by simp, by omega⟩).trans (pinW_res w b))
      have HT3 := hide hT3
      have HG3 := hide hg3
      have HK3 := hide hk3
      clear hT3 hg3 hk3
      go_wp2
      refine bodyPost_ret (v := .agg #[.int .i64 0, .int .u64 0, .slice none 0 0]) (by simp [results, Tryz.results152, go_sem, *]) rfl ?_
      refine mpost_new' (r := w.heap.size + 1) (B' := w.heap.size + 2) (L := st.length) HT3.out ?_ (by omega) (by omega) hBw hb rfl (by rw [pinL_len]) ?_ (by (repeat' (first | exact Keep.refl _ _ | refine Keep.setCell ?_ (by simp) _ | refine Keep.drew ?_)))
      · have h := word_own (B := w.heap.size + 2) HG3.out (by simp) (by rw [pinL_len]; omega)
        rw [pinL_len] at h
        exact h
      · exact (Keep.of_below (K := fun j => j < w.heap.size ∧ j ≠ b) HB0.out (fun k hk => hk.1)).trans (HK3.out.mono (fun k hk => ⟨by have := hk.1; simp; omega, hk.2⟩))
    · have hM : pinM st c = (st, ⟨11, 0, []⟩) := by unfold pinM; rw [if_neg hk, if_pos h0]; rfl
      rw [hM]
      have d0 : (c.thread != 0) = true := by simpa using h0
      clear hT hO hsl hM hk h0
      go_enter Tryz.func152, Tryz.ntmps152
      go_wp2_with fail
      refine (mno_any _ _).mono ?_
      rintro e w1 ⟨rfl, rfl⟩
      go_wp2
      refine bodyPost_ret (v := .agg #[.int .i64 11, .int .u64 0, .slice none 0 0]) (by simp [results, Tryz.results152, go_sem, *]) rfl ?_
      exact mpost_keep hb HT.out HO.out rfl (by (repeat' (first | exact Below.refl _ _ | assumption | refine Below.drew ?_ | refine Below.alloc ?_ (by first | omega | (simp; done) | (simp; omega)) _ | refine Below.setCell ?_ (by first | omega | (simp; done) | (simp; omega)) _)))
end Go.Proofs.YtmiimpmfkjcjlaaGreat

namespace Go.Proofs.YtmiimpmfkjcjlaaGreat
open Go.RowKit
attribute [local go_sem] run_store_fn run_store_nilfn

set_option maxRecDepth 100000 in
set_option maxHeartbeats 4000000 in
theorem mshared_any (n : Int) (s : Sp) (c : Cl) (b B : Nat) (v : Value) (st : List Int) (w : World) (hT : ThAt w b n s v c) (hO : WOwn w B v st.length st) (hBw : B ≤ w.heap.size) (hl0 : 0 < st.length) (hl : st.length ≤ 9) (hr : rightB17 s.p (st.length - 1) = true)
    (ha : U64 c.a) (hk0 : 0 ≤ c.kind) (hk1 : c.kind < kindsI s.p) (hq1 : 1 ≤ s.q) (hq2 : s.q ≤ 256) (hu : ∀ z ∈ st, U64 z) :
    Calls Tryz.prog 150 #[.pointer (some ⟨b, 0, none⟩)] w (ThPost n s c b B (sharedM s st c) w) := by
  obtain ⟨a0, a1, a2, a3, a4, a5, a6, a7, a8, a9, a10, f4, hb⟩ := hT.cells
  have hsl : SlW w v st := wrow_sl hO (by unfold maxLen; omega)
  obtain ⟨x, hx⟩ : ∃ x, st[0]? = some x := ⟨_, List.getElem?_eq_getElem hl0⟩
  have hxu := hu x (List.mem_of_getElem? hx)
  have hat : at0 st 0 = x := by unfold at0; rw [hx]; rfl
  obtain ⟨vA, vc, rfl⟩ := own_slice hO
  obtain ⟨sb, so, rfl, cx, hsb⟩ := sl_at hsl 0 x hx
  simp only [Nat.add_zero] at cx
  have HT := hide hT
  have HO := hide hO
  obtain ⟨i0, hi, hz0, hz1, hz2⟩ := info_parts info_word
  have hwq : IntKind.u64.wrap s.q = s.q := by rw [IntKind.wrap_u64]; omega
  have q0 : (0 : Int) < (st.length : Int) := by omega
  have q1 : (1 : Int) ≤ (st.length : Int) := by omega
  obtain ⟨hx0, hx1⟩ := hxu
  by_cases h0 : 4294967296 ≤ c.a
  · have hM : sharedM s st c = (st, ⟨10, 0, []⟩) := by unfold sharedM; rw [if_pos h0]; rfl
    rw [hM]
    have d0 : decide (4294967296 ≤ c.a) = true := by simpa using h0
    clear hT hO hsl hM h0 hx hat hu hr
    go_enter Tryz.func150, Tryz.ntmps150
    go_wp2_with fail
    refine (mno_any _ _).mono ?_
    rintro e w1 ⟨rfl, rfl⟩
    go_wp2
    refine bodyPost_ret (v := .agg #[.int .i64 10, .int .u64 0, .slice none 0 0]) (by simp [results, Tryz.results150, go_sem, *]) rfl ?_
    exact mpost_keep hb HT.out HO.out rfl (by (repeat' (first | exact Below.refl _ _ | assumption | refine Below.drew ?_ | refine below_drewN ?_ _ | refine Below.alloc ?_ (by simp <;> omega) _ | refine Below.setCell ?_ (by simp <;> omega) _)))
  · have d0 : decide (4294967296 ≤ c.a) = false := by simpa using h0
    by_cases h1 : s.q ≤ x
    · have hM : sharedM s st c = (st, ⟨6, 0, []⟩) := by unfold sharedM; rw [if_neg h0, hat, if_pos h1]; rfl
      rw [hM]
      have d1 : decide (IntKind.u64.wrap s.q ≤ x) = true := by rw [hwq]; simpa using h1
      clear hT hO hsl hM h0 hx hat hu hr hwq h1
      go_enter Tryz.func150, Tryz.ntmps150
      go_wp2_with fail
      refine wp_region_seq (Below w.heap.size w) (.take 0 <| .take 1 <| .take 2 <| .take 3 <| .take 4 <| .take 5 <| .take 6 <| .take 7 <| .take 8 <| .take 9 <| .take 10 <| .take 11 <| .take 12 <| .take 13 <| .done) (by kernel_rfl) (by kernel_rfl) (by kernel_rfl) (by (repeat' (first | exact Below.refl _ _ | assumption | refine Below.drew ?_ | refine below_drewN ?_ _ | refine Below.alloc ?_ (by simp <;> omega) _ | refine Below.setCell ?_ (by simp <;> omega) _))) ?_
      repeat (refine seq_take (v := ?_) rfl (by rfl) ?_ ?_; rotate_left; (focus (intro wS hS; have z1 := (hS.cell (p := ⟨b, 1, none⟩) hb).trans a1; have z2 := (hS.cell (p := ⟨b, 2, none⟩) hb).trans a2; have z3 := (hS.cell (p := ⟨b, 3, none⟩) hb).trans a3; have z4 := (hS.cell (p := ⟨b, 4, none⟩) hb).trans a4; have z7 := (hS.cell (p := ⟨b, 7, none⟩) hb).trans a7; have z8 := (hS.cell (p := ⟨b, 8, none⟩) hb).trans a8; have zx := (hS.cell (p := ⟨sb, so, none⟩) hsb).trans cx; go_simp; exact rfl)); simp only [Act.put, List.setIfInBounds_toArray, List.set_cons_zero, List.set_cons_succ])
      refine seq_nil ?_
      go_wp2_with fail
      refine (mno_any _ _).mono ?_
      rintro e w1 ⟨rfl, rfl⟩
      go_wp2
      refine bodyPost_ret (v := .agg #[.int .i64 6, .int .u64 0, .slice none 0 0]) (by simp [results, Tryz.results150, go_sem, *]) rfl ?_
      exact mpost_keep hb HT.out HO.out rfl (by (repeat' (first | exact Below.refl _ _ | assumption | refine Below.drew ?_ | refine below_drewN ?_ _ | refine Below.alloc ?_ (by simp <;> omega) _ | refine Below.setCell ?_ (by simp <;> omega) _)))
    · have d1 : decide (IntKind.u64.wrap s.q ≤ x) = false := by rw [hwq]; simpa using h1
      have hx9 : x ≤ 256 := by omega
      obtain ⟨E, hE⟩ : ∃ E, apE s.p (st.drop 1) c.kind c.a = E := ⟨_, rfl⟩
      obtain ⟨V, hV⟩ : ∃ V, apV s.p (st.drop 1) c.kind c.a = V := ⟨_, rfl⟩
      obtain ⟨L, hL⟩ : ∃ L, apL s.p (st.drop 1) c.kind c.a = L := ⟨_, rfl⟩
      obtain ⟨k4, hk4⟩ : ∃ k4, L.length = k4 := ⟨_, rfl⟩
      have hM : sharedM s st c = ((x + 1) :: L, ⟨E, V, []⟩) := by unfold sharedM; rw [if_neg h0, hat, if_neg h1, hE, hV, hL]
      rw [hM]
      have hdl : (st.drop 1).length = st.length - 1 := List.length_drop
      have hL9 : L.length ≤ 1000000 := by
        rw [← hL]
        unfold apL
        rw [hdl, hr]
        simp only [Bool.true_eq_false, if_false]
        rw [if_pos ⟨hk0, hk1⟩]
        exact seqL_len (by rw [hdl]; exact hr) hk0 hk1
      obtain ⟨X, hX, hXs⟩ := sl_drop (k := 1) hsl (by omega)
      unfold sliced at hX
      have hap := fun v W (h : SlW W v (st.drop 1)) => apply_own s.p c.kind c.a v (st.drop 1) W h (by rw [hdl]; omega) (fun z hz => hu z (List.mem_of_mem_drop hz)) ha E V L k4 hE hV hL hk4
      by_cases hvc : vc = 1
      · rw [if_pos hvc] at hX
        subst hvc
        subst hX
        have HX := hide hXs
        have HAP := hap
        have HK4 := hide hk4
        have HL9 := hide hL9
        clear hT hO hsl hM h0 hx hat hu hr hwq h1 hE hV hL hdl hap hXs hk4
        go_enter Tryz.func150, Tryz.ntmps150
        go_wp2_with fail
        refine wp_region_seq (Below w.heap.size w) (.take 0 <| .take 1 <| .take 2 <| .take 3 <| .take 4 <| .take 5 <| .take 6 <| .take 7 <| .take 8 <| .take 9 <| .take 10 <| .take 11 <| .take 12 <| .take 13 <| .done) (by kernel_rfl) (by kernel_rfl) (by kernel_rfl) (by (repeat' (first | exact Below.refl _ _ | assumption | refine Below.drew ?_ | refine below_drewN ?_ _ | refine Below.alloc ?_ (by simp <;> omega) _ | refine Below.setCell ?_ (by simp <;> omega) _))) ?_
        repeat (refine seq_take (v := ?_) rfl (by rfl) ?_ ?_; rotate_left; (focus (intro wS hS; have z1 := (hS.cell (p := ⟨b, 1, none⟩) hb).trans a1; have z2 := (hS.cell (p := ⟨b, 2, none⟩) hb).trans a2; have z3 := (hS.cell (p := ⟨b, 3, none⟩) hb).trans a3; have z4 := (hS.cell (p := ⟨b, 4, none⟩) hb).trans a4; have z7 := (hS.cell (p := ⟨b, 7, none⟩) hb).trans a7; have z8 := (hS.cell (p := ⟨b, 8, none⟩) hb).trans a8; have zx := (hS.cell (p := ⟨sb, so, none⟩) hsb).trans cx; go_simp; exact rfl)); simp only [Act.put, List.setIfInBounds_toArray, List.set_cons_zero, List.set_cons_succ])
        refine seq_nil ?_
        go_wp2_with fail
        refine wp_region_seq (Below w.heap.size w) (.take 0 <| .take 1 <| .take 2 <| .take 3 <| .take 4 <| .take 5 <| .take 6 <| .take 7 <| .take 8 <| .take 9 <| .take 10 <| .take 11 <| .take 12 <| .take 13 <| .take 14 <| .take 15 <| .take 16 <| .take 17 <| .take 18 <| .take 19 <| .fork 20 (.take 21 <| .take 22 <| .take 23 <| .run 24 <| .take 25 <| .run 26 <| .done) 24 (.run 20 <| .take 21 <| .take 22 <| .take 23 <| .take 25 <| .run 26 <| .done)) (by kernel_rfl) (by kernel_rfl) (by kernel_rfl) (by (repeat' (first | exact Below.refl _ _ | assumption | refine Below.drew ?_ | refine below_drewN ?_ _ | refine Below.alloc ?_ (by simp <;> omega) _ | refine Below.setCell ?_ (by simp <;> omega) _))) ?_
        repeat (refine seq_take (v := ?_) rfl (by rfl) ?_ ?_; rotate_left; (focus (intro wS hS; have z1 := (hS.cell (p := ⟨b, 1, none⟩) hb).trans a1; have z2 := (hS.cell (p := ⟨b, 2, none⟩) hb).trans a2; have z3 := (hS.cell (p := ⟨b, 3, none⟩) hb).trans a3; have z4 := (hS.cell (p := ⟨b, 4, none⟩) hb).trans a4; have z7 := (hS.cell (p := ⟨b, 7, none⟩) hb).trans a7; have z8 := (hS.cell (p := ⟨b, 8, none⟩) hb).trans a8; have zx := (hS.cell (p := ⟨sb, so, none⟩) hsb).trans cx; go_simp; exact rfl)); simp only [Act.put, List.setIfInBounds_toArray, List.set_cons_zero, List.set_cons_succ])
        refine seq_fork ?_ ?_
        · refine seq_run rfl (by rfl) (fun K hK => ?_)
          go_simp
          refine (HAP _ _ ?_).mono ?_
          · exact HX.out.alloc _
          rintro e w4 ⟨A4, c4, rfl, ho4, hb4⟩
          have hs4 := wrow_sl ho4 (by have := HL9.out; unfold maxLen; omega)
          have hB4 : Below (w.heap.size + 1) (resW w) w4 := ((Below.refl _ _).drew.drew).trans (hb4.mono (by simp))
          have hBw4 : Below w.heap.size w w4 := ((Below.refl _ w).alloc (Nat.le_refl _) _).trans (hB4.mono (by omega))
          refine hK _ _ hBw4 ?_
          clear hK K
          have hz4 : w.heap.size + 1 ≤ w4.heap.size := by have := hB4.size; simpa using this
          repeat (refine seq_take (v := ?_) rfl (by rfl) ?_ ?_; rotate_left; (focus (intro wS hS; have z1 := (hS.cell (p := ⟨b, 1, none⟩) hb).trans a1; have z2 := (hS.cell (p := ⟨b, 2, none⟩) hb).trans a2; have z3 := (hS.cell (p := ⟨b, 3, none⟩) hb).trans a3; have z4 := (hS.cell (p := ⟨b, 4, none⟩) hb).trans a4; have z7 := (hS.cell (p := ⟨b, 7, none⟩) hb).trans a7; have z8 := (hS.cell (p := ⟨b, 8, none⟩) hb).trans a8; have zx := (hS.cell (p := ⟨sb, so, none⟩) hsb).trans cx; go_simp; exact rfl)); simp only [Act.put, List.setIfInBounds_toArray, List.set_cons_zero, List.set_cons_succ])
          refine seq_run rfl (by rfl) (fun K hK => ?_)
          go_simp
          refine hK _ _ (hBw4.alloc (by omega) _) ?_
          clear hK K
          repeat (refine seq_take (v := ?_) rfl (by rfl) ?_ ?_; rotate_left; (focus (intro wS hS; have z1 := (hS.cell (p := ⟨b, 1, none⟩) hb).trans a1; have z2 := (hS.cell (p := ⟨b, 2, none⟩) hb).trans a2; have z3 := (hS.cell (p := ⟨b, 3, none⟩) hb).trans a3; have z4 := (hS.cell (p := ⟨b, 4, none⟩) hb).trans a4; have z7 := (hS.cell (p := ⟨b, 7, none⟩) hb).trans a7; have z8 := (hS.cell (p := ⟨b, 8, none⟩) hb).trans a8; have zx := (hS.cell (p := ⟨sb, so, none⟩) hsb).trans cx; go_simp; exact rfl)); simp only [Act.put, List.setIfInBounds_toArray, List.set_cons_zero, List.set_cons_succ])
          refine seq_run rfl (by rfl) (fun K hK => ?_)
          go_simp
          refine hK _ _ (hBw4.alloc (by omega) _) ?_
          clear hK K
          refine seq_nil ?_
          obtain ⟨r4, hr4⟩ : ∃ r4, r4 = w4.heap.size := ⟨_, rfl⟩
          obtain ⟨W5, hW5⟩ : ∃ W5, W5 = w4.alloc (.cells #[.int .i64 E, .int .u64 V, .slice none 0 0] 57) := ⟨_, rfl⟩
          have hc4 : W5.heap[r4]? = some (.cells #[.int .i64 E, .int .u64 V, .slice none 0 0] 57 (0, 0)) := by rw [hW5, hr4]; exact heap_alloc_new _ _
          have hB5 : Below (w.heap.size + 1) (resW w) W5 := by rw [hW5]; exact hB4.alloc hz4 _
          have hs5 : SlW W5 (.slice A4 k4 c4) L := by rw [hW5]; exact hs4.alloc _
          have hr5 : w.heap.size < r4 := by omega
          rw [← hr4, ← hW5]
          clear hr4 hW5 hs4 ho4 hb4 hB4 hBw4 hz4
          have hBw5 : Below w.heap.size w W5 := ((Below.refl _ w).alloc (Nat.le_refl _) _).trans (hB5.mono (by omega))
          have hT5 := HT.out.of_block (hBw5.block b hb)
          have tx := (hBw5.cell (p := ⟨sb, so, none⟩) hsb).trans cx
          have hsb5 : sb < W5.heap.size := by have := hBw5.size; omega
          obtain ⟨_, _, _, _, t4, _, _, _, _, _, _, t4f, tb⟩ := hT5.cells
          have HT5 := hide hT5
          have HB5 := hide hB5
          have HW5 := hide hBw5
          have HS5 := hide hs5
          have HC4 := hide hc4
          have hown := hide (made_lit1 W5 W5.heap.size (x + 1) (Nat.le_refl _))
          have hr4l : r4 < W5.heap.size := (Array.getElem?_eq_some_iff.1 hc4).1
          have hx19 : 0 ≤ x + 1 := by omega
          clear hT5 hB5 hBw5 hs5 hc4
          go_wp2_with (at_builtin; refine wpList_append_sl (kk := .u64) rfl _ _ 24 rfl W5.heap.size 25 i0 (.int .u64 0) 8 Tryz.underlying24 hi hz0 hz1 hz2 rfl _ 1 [x + 1] rfl hown.out A4 k4 c4 L rfl (HS5.out.alloc _) (by unfold maxLen; omega) (by omega) (by simp) ?_; intro v7 w7 hown7 hg7 _; have hB7 : Below W5.heap.size W5 w7 := ((Below.refl _ W5).alloc (Nat.le_refl _) _).grown hg7 (by simp) (fun k hk => by cases hk; exact Nat.le_refl _); have hT7 := HT5.out.of_block (hB7.block b tb); obtain ⟨A7, c7, rfl⟩ := own_slice hown7; obtain ⟨_, _, _, _, u4, _, _, _, _, _, _, u4f, ub⟩ := hT7.cells; obtain ⟨e0, e1, e2, _, _, _, er⟩ := cells3 ((hB7.block r4 hr4l).trans HC4.out); have hB57 : Below (w.heap.size + 1) (resW w) w7 := HB5.out.trans (hB7.mono (by omega)); obtain ⟨r0, r1, r2, g0, g1, g2, rz⟩ := cells3 ((hB57.block w.heap.size (by omega)).trans (heap_alloc_new w _)); have HT7 := hide hT7; have HO7 := hide hown7; have HW7 := hide (HW5.out.trans (hB7.mono (by omega))); clear hT7 hown7 hB7 hg7 hB57 t4 t4f tx)
          have hne1 : r4 ≠ b := by omega
          have hne2 : w.heap.size ≠ b := by omega
          have hne3 : r4 ≠ w.heap.size := by omega
          refine bodyPost_ret (v := .agg #[.int .i64 E, .int .u64 V, .slice none 0 0]) (by simp [results, Tryz.results150, go_sem, *]) rfl ?_
          refine mpost_new (B' := w.heap.size + 1) (L := 1 + L.length) (w3 := w7.setCell ⟨b, 4, none⟩ (.slice A7 (1 + L.length) c7)) (HT7.out.set _) (owns_keepB (S := fun j => j ≠ b) (owns_base HO7.out (by omega)) ((Keep.refl _ _).setCell (by simp) _) (fun j hj _ => by omega)) (by omega) hBw hb rfl (by simp; omega) ((Keep.of_below (K := fun j => j < w.heap.size ∧ j ≠ b) HW7.out (fun k hk => hk.1)).setCell (by simp) _) (by (repeat' (first | exact Keep.refl _ _ | refine Keep.setCell ?_ (by simp) _ | refine Keep.drew ?_)))
        · refine seq_run rfl (by rfl) (fun K hK => ?_)
          go_simp
          refine hK _ _ (by (repeat' (first | exact Below.refl _ _ | assumption | refine Below.drew ?_ | refine below_drewN ?_ _ | refine Below.alloc ?_ (by simp <;> omega) _ | refine Below.setCell ?_ (by simp <;> omega) _))) ?_
          clear hK K
          refine seq_run rfl (by rfl) (fun K hK => ?_)
          go_simp
          refine (HAP _ _ ?_).mono ?_
          · exact (HX.out.alloc _).alloc _
          rintro e w4 ⟨A4, c4, rfl, ho4, hb4⟩
          have hB4x : Below (w.heap.size + 2) ((resW w).alloc (.cells #[.int .i64 0, .int .u64 0, .slice none 0 0] 57)) w4 := ((Below.refl _ _).drew.drew).trans (hb4.mono (by simp))
          have hB4 : Below (w.heap.size + 1) (resW w) w4 := ((Below.refl _ _).alloc (by simp) _).trans (hB4x.mono (by omega))
          have hBw4 : Below w.heap.size w w4 := ((Below.refl _ w).alloc (Nat.le_refl _) _).trans (hB4.mono (by omega))
          refine hK _ _ hBw4 ?_
          clear hK K
          have hz4 : w.heap.size + 2 ≤ w4.heap.size := by have := hB4x.size; simpa using this
          have ho4' : WRow w4 (w.heap.size + 2) (.slice A4 k4 c4) L := wrow_base ho4 (by simp)
          obtain ⟨r4, hr4⟩ : ∃ r4, r4 = w.heap.size + 1 := ⟨_, rfl⟩
          have hc3 : w4.heap[r4]? = some (.cells #[.int .i64 0, .int .u64 0, .slice none 0 0] 57 (0, 0)) := by
            rw [hr4]
            have h := heap_alloc_new (resW w) (.cells #[.int .i64 0, .int .u64 0, .slice none 0 0] 57)
            exact (hB4x.block (w.heap.size + 1) (by omega)).trans (by simpa using h)
          have hr5 : w.heap.size < r4 := by omega
          have hr6 : r4 < w.heap.size + 2 := by omega
          rw [← hr4]
          obtain ⟨e0, e1, e2, f0, f1, f2, er⟩ := cells3 hc3
          have HR4 := hide hr4
          clear hr4 ho4 hb4
          repeat (refine seq_take (v := ?_) rfl (by rfl) ?_ ?_; rotate_left; (focus (intro wS hS; have z1 := (hS.cell (p := ⟨b, 1, none⟩) hb).trans a1; have z2 := (hS.cell (p := ⟨b, 2, none⟩) hb).trans a2; have z3 := (hS.cell (p := ⟨b, 3, none⟩) hb).trans a3; have z4 := (hS.cell (p := ⟨b, 4, none⟩) hb).trans a4; have z7 := (hS.cell (p := ⟨b, 7, none⟩) hb).trans a7; have z8 := (hS.cell (p := ⟨b, 8, none⟩) hb).trans a8; have zx := (hS.cell (p := ⟨sb, so, none⟩) hsb).trans cx; go_simp; exact rfl)); simp only [Act.put, List.setIfInBounds_toArray, List.set_cons_zero, List.set_cons_succ])
          refine seq_run rfl (by rfl) (fun K hK => ?_)
          go_simp
          have hK4 : Keep (fun j => j ≠ r4) w4 (((w4.setCell ⟨r4, 0, none⟩ (.int .i64 E)).setCell ⟨r4, 1, none⟩ (.int .u64 V)).setCell ⟨r4, 2, none⟩ (.slice none 0 0)) := (((Keep.refl _ _).setCell (by simp) _).setCell (by simp) _).setCell (by simp) _
          refine hK _ _ (hBw4.trans (hK4.below (fun k hk => by omega))) ?_
          clear hK K
          refine seq_nil ?_
          obtain ⟨W5, hW5⟩ : ∃ W5, W5 = (((w4.setCell ⟨r4, 0, none⟩ (.int .i64 E)).setCell ⟨r4, 1, none⟩ (.int .u64 V)).setCell ⟨r4, 2, none⟩ (.slice none 0 0)) := ⟨_, rfl⟩
          have hc4 : W5.heap[r4]? = some (.cells #[.int .i64 E, .int .u64 V, .slice none 0 0] 57 (0, 0)) := by rw [hW5]; exact cells_set (i := 2) (cells_set (i := 1) (cells_set (i := 0) hc3))
          rw [← hW5] at hK4 ⊢
          have hB5 : Below (w.heap.size + 1) (resW w) W5 := hB4.trans (hK4.below (fun k hk => by omega))
          have hs5 : SlW W5 (.slice A4 k4 c4) L := wrow_sl (B := w.heap.size + 2) (owns_keepB ho4' hK4 (fun j hj _ => by omega)) (by have := HL9.out; unfold maxLen; omega)
          clear hW5 hK4 hc3 e0 e1 e2 f0 f1 f2 hB4x hB4 hBw4 hz4 ho4'
          have hBw5 : Below w.heap.size w W5 := ((Below.refl _ w).alloc (Nat.le_refl _) _).trans (hB5.mono (by omega))
          have hT5 := HT.out.of_block (hBw5.block b hb)
          have tx := (hBw5.cell (p := ⟨sb, so, none⟩) hsb).trans cx
          have hsb5 : sb < W5.heap.size := by have := hBw5.size; omega
          obtain ⟨_, _, _, _, t4, _, _, _, _, _, _, t4f, tb⟩ := hT5.cells
          have HT5 := hide hT5
          have HB5 := hide hB5
          have HW5 := hide hBw5
          have HS5 := hide hs5
          have HC4 := hide hc4
          have hown := hide (made_lit1 W5 W5.heap.size (x + 1) (Nat.le_refl _))
          have hr4l : r4 < W5.heap.size := (Array.getElem?_eq_some_iff.1 hc4).1
          have hx19 : 0 ≤ x + 1 := by omega
          clear hT5 hB5 hBw5 hs5 hc4
          go_wp2_with (at_builtin; refine wpList_append_sl (kk := .u64) rfl _ _ 24 rfl W5.heap.size 25 i0 (.int .u64 0) 8 Tryz.underlying24 hi hz0 hz1 hz2 rfl _ 1 [x + 1] rfl hown.out A4 k4 c4 L rfl (HS5.out.alloc _) (by unfold maxLen; omega) (by omega) (by simp) ?_; intro v7 w7 hown7 hg7 _; have hB7 : Below W5.heap.size W5 w7 := ((Below.refl _ W5).alloc (Nat.le_refl _) _).grown hg7 (by simp) (fun k hk => by cases hk; exact Nat.le_refl _); have hT7 := HT5.out.of_block (hB7.block b tb); obtain ⟨A7, c7, rfl⟩ := own_slice hown7; obtain ⟨_, _, _, _, u4, _, _, _, _, _, _, u4f, ub⟩ := hT7.cells; obtain ⟨e0, e1, e2, _, _, _, er⟩ := cells3 ((hB7.block r4 hr4l).trans HC4.out); have hB57 : Below (w.heap.size + 1) (resW w) w7 := HB5.out.trans (hB7.mono (by omega)); obtain ⟨r0, r1, r2, g0, g1, g2, rz⟩ := cells3 ((hB57.block w.heap.size (by omega)).trans (heap_alloc_new w _)); have HT7 := hide hT7; have HO7 := hide hown7; have HW7 := hide (HW5.out.trans (hB7.mono (by omega))); clear hT7 hown7 hB7 hg7 hB57 t4 t4f tx)
          have hne1 : r4 ≠ b := by omega
          have hne2 : w.heap.size ≠ b := by omega
          have hne3 : r4 ≠ w.heap.size := by omega
          refine bodyPost_ret (v := .agg #[.int .i64 E, .int .u64 V, .slice none 0 0]) (by simp [results, Tryz.results150, go_sem, *]) rfl ?_
          refine mpost_new (B' := w.heap.size + 1) (L := 1 + L.length) (w3 := w7.setCell ⟨b, 4, none⟩ (.slice A7 (1 + L.length) c7)) (HT7.out.set _) (owns_keepB (S := fun j => j ≠ b) (owns_base HO7.out (by omega)) ((Keep.refl _ _).setCell (by simp) _) (fun j hj _ => by omega)) (by omega) hBw hb rfl (by simp; omega) ((Keep.of_below (K := fun j => j < w.heap.size ∧ j ≠ b) HW7.out (fun k hk => hk.1)).setCell (by simp) _) (by (repeat' (first | exact Keep.refl _ _ | refine Keep.setCell ?_ (by simp) _ | refine Keep.drew ?_)))
      · rw [if_neg hvc] at hX
        simp only [Option.map_some, Addr.add, Nat.mul_one] at hX
        rw [if_neg (by omega)] at hX
        subst hX
        have HX := hide hXs
        have HAP := hap
        have HK4 := hide hk4
        have HL9 := hide hL9
        clear hT hO hsl hM h0 hx hat hu hr hwq h1 hE hV hL hdl hap hXs hk4
        go_enter Tryz.func150, Tryz.ntmps150
        go_wp2_with fail
        refine wp_region_seq (Below w.heap.size w) (.take 0 <| .take 1 <| .take 2 <| .take 3 <| .take 4 <| .take 5 <| .take 6 <| .take 7 <| .take 8 <| .take 9 <| .take 10 <| .take 11 <| .take 12 <| .take 13 <| .done) (by kernel_rfl) (by kernel_rfl) (by kernel_rfl) (by (repeat' (first | exact Below.refl _ _ | assumption | refine Below.drew ?_ | refine below_drewN ?_ _ | refine Below.alloc ?_ (by simp <;> omega) _ | refine Below.setCell ?_ (by simp <;> omega) _))) ?_
        repeat (refine seq_take (v := ?_) rfl (by rfl) ?_ ?_; rotate_left; (focus (intro wS hS; have z1 := (hS.cell (p := ⟨b, 1, none⟩) hb).trans a1; have z2 := (hS.cell (p := ⟨b, 2, none⟩) hb).trans a2; have z3 := (hS.cell (p := ⟨b, 3, none⟩) hb).trans a3; have z4 := (hS.cell (p := ⟨b, 4, none⟩) hb).trans a4; have z7 := (hS.cell (p := ⟨b, 7, none⟩) hb).trans a7; have z8 := (hS.cell (p := ⟨b, 8, none⟩) hb).trans a8; have zx := (hS.cell (p := ⟨sb, so, none⟩) hsb).trans cx; go_simp; exact rfl)); simp only [Act.put, List.setIfInBounds_toArray, List.set_cons_zero, List.set_cons_succ])
        refine seq_nil ?_
        go_wp2_with fail
        refine wp_region_seq (Below w.heap.size w) (.take 0 <| .take 1 <| .take 2 <| .take 3 <| .take 4 <| .take 5 <| .take 6 <| .take 7 <| .take 8 <| .take 9 <| .take 10 <| .take 11 <| .take 12 <| .take 13 <| .take 14 <| .take 15 <| .take 16 <| .take 17 <| .take 18 <| .take 19 <| .fork 20 (.take 21 <| .take 22 <| .take 23 <| .run 24 <| .take 25 <| .run 26 <| .done) 24 (.run 20 <| .take 21 <| .take 22 <| .take 23 <| .take 25 <| .run 26 <| .done)) (by kernel_rfl) (by kernel_rfl) (by kernel_rfl) (by (repeat' (first | exact Below.refl _ _ | assumption | refine Below.drew ?_ | refine below_drewN ?_ _ | refine Below.alloc ?_ (by simp <;> omega) _ | refine Below.setCell ?_ (by simp <;> omega) _))) ?_
        repeat (refine seq_take (v := ?_) rfl (by rfl) ?_ ?_; rotate_left; (focus (intro wS hS; have z1 := (hS.cell (p := ⟨b, 1, none⟩) hb).trans a1; have z2 := (hS.cell (p := ⟨b, 2, none⟩) hb).trans a2; have z3 := (hS.cell (p := ⟨b, 3, none⟩) hb).trans a3; have z4 := (hS.cell (p := ⟨b, 4, none⟩) hb).trans a4; have z7 := (hS.cell (p := ⟨b, 7, none⟩) hb).trans a7; have z8 := (hS.cell (p := ⟨b, 8, none⟩) hb).trans a8; have zx := (hS.cell (p := ⟨sb, so, none⟩) hsb).trans cx; go_simp; exact rfl)); simp only [Act.put, List.setIfInBounds_toArray, List.set_cons_zero, List.set_cons_succ])
        refine seq_fork ?_ ?_
        · refine seq_run rfl (by rfl) (fun K hK => ?_)
          go_simp
          refine (HAP _ _ ?_).mono ?_
          · exact HX.out.alloc _
          rintro e w4 ⟨A4, c4, rfl, ho4, hb4⟩
          have hs4 := wrow_sl ho4 (by have := HL9.out; unfold maxLen; omega)
          have hB4 : Below (w.heap.size + 1) (resW w) w4 := ((Below.refl _ _).drew.drew).trans (hb4.mono (by simp))
          have hBw4 : Below w.heap.size w w4 := ((Below.refl _ w).alloc (Nat.le_refl _) _).trans (hB4.mono (by omega))
          refine hK _ _ hBw4 ?_
          clear hK K
          have hz4 : w.heap.size + 1 ≤ w4.heap.size := by have := hB4.size; simpa using this
          repeat (refine seq_take (v := ?_) rfl (by rfl) ?_ ?_; rotate_left; (focus (intro wS hS; have z1 := (hS.cell (p := ⟨b, 1, none⟩) hb).trans a1; have z2 := (hS.cell (p := ⟨b, 2, none⟩) hb).trans a2; have z3 := (hS.cell (p := ⟨b, 3, none⟩) hb).trans a3; have z4 := (hS.cell (p := ⟨b, 4, none⟩) hb).trans a4; have z7 := (hS.cell (p := ⟨b, 7, none⟩) hb).trans a7; have z8 := (hS.cell (p := ⟨b, 8, none⟩) hb).trans a8; have zx := (hS.cell (p := ⟨sb, so, none⟩) hsb).trans cx; go_simp; exact rfl)); simp only [Act.put, List.setIfInBounds_toArray, List.set_cons_zero, List.set_cons_succ])
          refine seq_run rfl (by rfl) (fun K hK => ?_)
          go_simp
          refine hK _ _ (hBw4.alloc (by omega) _) ?_
          clear hK K
          repeat (refine seq_take (v := ?_) rfl (by rfl) ?_ ?_; rotate_left; (focus (intro wS hS; have z1 := (hS.cell (p := ⟨b, 1, none⟩) hb).trans a1; have z2 := (hS.cell (p := ⟨b, 2, none⟩) hb).trans a2; have z3 := (hS.cell (p := ⟨b, 3, none⟩) hb).trans a3; have z4 := (hS.cell (p := ⟨b, 4, none⟩) hb).trans a4; have z7 := (hS.cell (p := ⟨b, 7, none⟩) hb).trans a7; have z8 := (hS.cell (p := ⟨b, 8, none⟩) hb).trans a8; have zx := (hS.cell (p := ⟨sb, so, none⟩) hsb).trans cx; go_simp; exact rfl)); simp only [Act.put, List.setIfInBounds_toArray, List.set_cons_zero, List.set_cons_succ])
          refine seq_run rfl (by rfl) (fun K hK => ?_)
          go_simp
          refine hK _ _ (hBw4.alloc (by omega) _) ?_
          clear hK K
          refine seq_nil ?_
          obtain ⟨r4, hr4⟩ : ∃ r4, r4 = w4.heap.size := ⟨_, rfl⟩
          obtain ⟨W5, hW5⟩ : ∃ W5, W5 = w4.alloc (.cells #[.int .i64 E, .int .u64 V, .slice none 0 0] 57) := ⟨_, rfl⟩
          have hc4 : W5.heap[r4]? = some (.cells #[.int .i64 E, .int .u64 V, .slice none 0 0] 57 (0, 0)) := by rw [hW5, hr4]; exact heap_alloc_new _ _
          have hB5 : Below (w.heap.size + 1) (resW w) W5 := by rw [hW5]; exact hB4.alloc hz4 _
          have hs5 : SlW W5 (.slice A4 k4 c4) L := by rw [hW5]; exact hs4.alloc _
          have hr5 : w.heap.size < r4 := by omega
          rw [← hr4, ← hW5]
          clear hr4 hW5 hs4 ho4 hb4 hB4 hBw4 hz4
          have hBw5 : Below w.heap.size w W5 := ((Below.refl _ w).alloc (Nat.le_refl _) _).trans (hB5.mono (by omega))
          have hT5 := HT.out.of_block (hBw5.block b hb)
          have tx := (hBw5.cell (p := ⟨sb, so, none⟩) hsb).trans cx
          have hsb5 : sb < W5.heap.size := by have := hBw5.size; omega
          obtain ⟨_, _, _, _, t4, _, _, _, _, _, _, t4f, tb⟩ := hT5.cells
          have HT5 := hide hT5
          have HB5 := hide hB5
          have HW5 := hide hBw5
          have HS5 := hide hs5
          have HC4 := hide hc4
          have hown := hide (made_lit1 W5 W5.heap.size (x + 1) (Nat.le_refl _))
          have hr4l : r4 < W5.heap.size := (Array.getElem?_eq_some_iff.1 hc4).1
          have hx19 : 0 ≤ x + 1 := by omega
          clear hT5 hB5 hBw5 hs5 hc4
          go_wp2_with (at_builtin; refine wpList_append_sl (kk := .u64) rfl _ _ 24 rfl W5.heap.size 25 i0 (.int .u64 0) 8 Tryz.underlying24 hi hz0 hz1 hz2 rfl _ 1 [x + 1] rfl hown.out A4 k4 c4 L rfl (HS5.out.alloc _) (by unfold maxLen; omega) (by omega) (by simp) ?_; intro v7 w7 hown7 hg7 _; have hB7 : Below W5.heap.size W5 w7 := ((Below.refl _ W5).alloc (Nat.le_refl _) _).grown hg7 (by simp) (fun k hk => by cases hk; exact Nat.le_refl _); have hT7 := HT5.out.of_block (hB7.block b tb); obtain ⟨A7, c7, rfl⟩ := own_slice hown7; obtain ⟨_, _, _, _, u4, _, _, _, _, _, _, u4f, ub⟩ := hT7.cells; obtain ⟨e0, e1, e2, _, _, _, er⟩ := cells3 ((hB7.block r4 hr4l).trans HC4.out); have hB57 : Below (w.heap.size + 1) (resW w) w7 := HB5.out.trans (hB7.mono (by omega)); obtain ⟨r0, r1, r2, g0, g1, g2, rz⟩ := cells3 ((hB57.block w.heap.size (by omega)).trans (heap_alloc_new w _)); have HT7 := hide hT7; have HO7 := hide hown7; have HW7 := hide (HW5.out.trans (hB7.mono (by omega))); clear hT7 hown7 hB7 hg7 hB57 t4 t4f tx)
          have hne1 : r4 ≠ b := by omega
          have hne2 : w.heap.size ≠ b := by omega
          have hne3 : r4 ≠ w.heap.size := by omega
          refine bodyPost_ret (v := .agg #[.int .i64 E, .int .u64 V, .slice none 0 0]) (by simp [results, Tryz.results150, go_sem, *]) rfl ?_
          refine mpost_new (B' := w.heap.size + 1) (L := 1 + L.length) (w3 := w7.setCell ⟨b, 4, none⟩ (.slice A7 (1 + L.length) c7)) (HT7.out.set _) (owns_keepB (S := fun j => j ≠ b) (owns_base HO7.out (by omega)) ((Keep.refl _ _).setCell (by simp) _) (fun j hj _ => by omega)) (by omega) hBw hb rfl (by simp; omega) ((Keep.of_below (K := fun j => j < w.heap.size ∧ j ≠ b) HW7.out (fun k hk => hk.1)).setCell (by simp) _) (by (repeat' (first | exact Keep.refl _ _ | refine Keep.setCell ?_ (by simp) _ | refine Keep.drew ?_)))
        · refine seq_run rfl (by rfl) (fun K hK => ?_)
          go_simp
          refine hK _ _ (by (repeat' (first | exact Below.refl _ _ | assumption | refine Below.drew ?_ | refine below_drewN ?_ _ | refine Below.alloc ?_ (by simp <;> omega) _ | refine Below.setCell ?_ (by simp <;> omega) _))) ?_
          clear hK K
          refine seq_run rfl (by rfl) (fun K hK => ?_)
          go_simp
          refine (HAP _ _ ?_).mono ?_
          · exact (HX.out.alloc _).alloc _
          rintro e w4 ⟨A4, c4, rfl, ho4, hb4⟩
          have hB4x : Below (w.heap.size + 2) ((resW w).alloc (.cells #[.int .i64 0, .int .u64 0, .slice none 0 0] 57)) w4 := ((Below.refl _ _).drew.drew).trans (hb4.mono (by simp))
          have hB4 : Below (w.heap.size + 1) (resW w) w4 := ((Below.refl _ _).alloc (by simp) _).trans (hB4x.mono (by omega))
          have hBw4 : Below w.heap.size w w4 := ((Below.refl _ w).alloc (Nat.le_refl _) _).trans (hB4.mono (by omega))
          refine hK _ _ hBw4 ?_
          clear hK K
          have hz4 : w.heap.size + 2 ≤ w4.heap.size := by have := hB4x.size; simpa using this
          have ho4' : WRow w4 (w.heap.size + 2) (.slice A4 k4 c4) L := wrow_base ho4 (by simp)
          obtain ⟨r4, hr4⟩ : ∃ r4, r4 = w.heap.size + 1 := ⟨_, rfl⟩
          have hc3 : w4.heap[r4]? = some (.cells #[.int .i64 0, .int .u64 0, .slice none 0 0] 57 (0, 0)) := by
            rw [hr4]
            have h := heap_alloc_new (resW w) (.cells #[.int .i64 0, .int .u64 0, .slice none 0 0] 57)
            exact (hB4x.block (w.heap.size + 1) (by omega)).trans (by simpa using h)
          have hr5 : w.heap.size < r4 := by omega
          have hr6 : r4 < w.heap.size + 2 := by omega
          rw [← hr4]
          obtain ⟨e0, e1, e2, f0, f1, f2, er⟩ := cells3 hc3
          have HR4 := hide hr4
          clear hr4 ho4 hb4
          repeat (refine seq_take (v := ?_) rfl (by rfl) ?_ ?_; rotate_left; (focus (intro wS hS; have z1 := (hS.cell (p := ⟨b, 1, none⟩) hb).trans a1; have z2 := (hS.cell (p := ⟨b, 2, none⟩) hb).trans a2; have z3 := (hS.cell (p := ⟨b, 3, none⟩) hb).trans a3; have z4 := (hS.cell (p := ⟨b, 4, none⟩) hb).trans a4; have z7 := (hS.cell (p := ⟨b, 7, none⟩) hb).trans a7; have z8 := (hS.cell (p := ⟨b, 8, none⟩) hb).trans a8; have zx := (hS.cell (p := ⟨sb, so, none⟩) hsb).trans cx; go_simp; exact rfl)); simp only [Act.put, List.setIfInBounds_toArray, List.set_cons_zero, List.set_cons_succ])
          refine seq_run rfl (by rfl) (fun K hK => ?_)
          go_simp
          have hK4 : Keep (fun j => j ≠ r4) w4 (((w4.setCell ⟨r4, 0, none⟩ (.int .i64 E)).setCell ⟨r4, 1, none⟩ (.int .u64 V)).setCell ⟨r4, 2, none⟩ (.slice none 0 0)) := (((Keep.refl _ _).setCell (by simp) _).setCell (by simp) _).setCell (by simp) _
          refine hK _ _ (hBw4.trans (hK4.below (fun k hk => by omega))) ?_
          clear hK K
          refine seq_nil ?_
          obtain ⟨W5, hW5⟩ : ∃ W5, W5 = (((w4.setCell ⟨r4, 0, none⟩ (.int .i64 E)).setCell ⟨r4, 1, none⟩ (.int .u64 V)).setCell ⟨r4, 2, none⟩ (.slice none 0 0)) := ⟨_, rfl⟩
          have hc4 : W5.heap[r4]? = some (.cells #[.int .i64 E, .int .u64 V, .slice none 0 0] 57 (0, 0)) := by rw [hW5]; exact cells_set (i := 2) (cells_set (i := 1) (cells_set (i := 0) hc3))
          rw [← hW5] at hK4 ⊢
          have hB5 : Below (w.heap.size + 1) (resW w) W5 := hB4.trans (hK4.below (fun k hk => by omega))
          have hs5 : SlW W5 (.slice A4 k4 c4) L := wrow_sl (B := w.heap.size + 2) (owns_keepB ho4' hK4 (fun j hj _ => by omega)) (by have := HL9.out; unfold maxLen; omega)
          clear hW5 hK4 hc3 e0 e1 e2 f0 f1 f2 hB4x hB4 hBw4 hz4 ho4'
          have hBw5 : Below w.heap.size w W5 := ((Below.refl _ w).alloc (Nat.le_refl _) _).trans (hB5.mono (by omega))
          have hT5 := HT.out.of_block (hBw5.block b hb)
          have tx := (hBw5.cell (p := ⟨sb, so, none⟩) hsb).trans cx
          have hsb5 : sb < W5.heap.size := by have := hBw5.size; omega
          obtain ⟨_, _, _, _, t4, _, _, _, _, _, _, t4f, tb⟩ := hT5.cells
          have HT5 := hide hT5
          have HB5 := hide hB5
          have HW5 := hide hBw5
          have HS5 := hide hs5
          have HC4 := hide hc4
          have hown := hide (made_lit1 W5 W5.heap.size (x + 1) (Nat.le_refl _))
          have hr4l : r4 < W5.heap.size := (Array.getElem?_eq_some_iff.1 hc4).1
          have hx19 : 0 ≤ x + 1 := by omega
          clear hT5 hB5 hBw5 hs5 hc4
          go_wp2_with (at_builtin; refine wpList_append_sl (kk := .u64) rfl _ _ 24 rfl W5.heap.size 25 i0 (.int .u64 0) 8 Tryz.underlying24 hi hz0 hz1 hz2 rfl _ 1 [x + 1] rfl hown.out A4 k4 c4 L rfl (HS5.out.alloc _) (by unfold maxLen; omega) (by omega) (by simp) ?_; intro v7 w7 hown7 hg7 _; have hB7 : Below W5.heap.size W5 w7 := ((Below.refl _ W5).alloc (Nat.le_refl _) _).grown hg7 (by simp) (fun k hk => by cases hk; exact Nat.le_refl _); have hT7 := HT5.out.of_block (hB7.block b tb); obtain ⟨A7, c7, rfl⟩ := own_slice hown7; obtain ⟨_, _, _, _, u4, _, _, _, _, _, _, u4f, ub⟩ := hT7.cells; obtain ⟨e0, e1, e2, _, _, _, er⟩ := cells3 ((hB7.block r4 hr4l).trans HC4.out); have hB57 : Below (w.heap.size + 1) (resW w) w7 := HB5.out.trans (hB7.mono (by omega)); obtain ⟨r0, r1, r2, g0, g1, g2, rz⟩ := cells3 ((hB57.block w.heap.size (by omega)).trans (heap_alloc_new w _)); have HT7 := hide hT7; have HO7 := hide hown7; have HW7 := hide (HW5.out.trans (hB7.mono (by omega))); clear hT7 hown7 hB7 hg7 hB57 t4 t4f tx)
          have hne1 : r4 ≠ b := by omega
          have hne2 : w.heap.size ≠ b := by omega
          have hne3 : r4 ≠ w.heap.size := by omega
          refine bodyPost_ret (v := .agg #[.int .i64 E, .int .u64 V, .slice none 0 0]) (by simp [results, Tryz.results150, go_sem, *]) rfl ?_
          refine mpost_new (B' := w.heap.size + 1) (L := 1 + L.length) (w3 := w7.setCell ⟨b, 4, none⟩ (.slice A7 (1 + L.length) c7)) (HT7.out.set _) (owns_keepB (S := fun j => j ≠ b) (owns_base HO7.out (by omega)) ((Keep.refl _ _).setCell (by simp) _) (fun j hj _ => by omega)) (by omega) hBw hb rfl (by simp; omega) ((Keep.of_below (K := fun j => j < w.heap.size ∧ j ≠ b) HW7.out (fun k hk => hk.1)).setCell (by simp) _) (by (repeat' (first | exact Keep.refl _ _ | refine Keep.setCell ?_ (by simp) _ | refine Keep.drew ?_)))
end Go.Proofs.YtmiimpmfkjcjlaaGreat

namespace Go.Proofs.YtmiimpmfkjcjlaaGreat
open Go.RowKit
attribute [local go_sem] run_store_fn run_store_nilfn

theorem owns_apart {w w' : World} {B : Nat} {e : TypeId} {sz : Nat} {v : Value} {n : Nat} {xs : List Value} (h : w.ownsRow B e sz v n xs) {r : Nat} {cs : Array Value} {t : TypeId} {fr : Nat × Nat} (hr : w.heap[r]? = some (.cells cs t fr)) (ht : t ≠ e) (hk : Keep (fun j => j ≠ r) w w') : w'.ownsRow B e sz v n xs := by
  obtain ⟨h1, h2 | ⟨g, cap, cur, e1, e2, e3, e4⟩⟩ := h
  · exact ⟨h1, Or.inl h2⟩
  · refine ⟨h1, Or.inr ⟨g, cap, cur, e1, e2, (hk.block g ?_).trans e3, e4⟩⟩
    intro hgr
    rw [hgr, hr] at e3
    cases e3
    exact ht rfl

theorem act_fin {n : Int} {s : Sp} {c : Cl} {b B : Nat} {R : List Int × An} {v' L : Value} {w w3 w' : World} (hb : b < w.heap.size) (hT : ThAt w3 b n s v' c) (hO : WOwn w3 B v' R.1.length R.1) (hL : WOwn w3 B L R.2.list.length R.2.list)
    (hk : Keep (fun j => j < (resW w).heap.size ∧ j ≠ b) (resW w) w3) (h' : Keep (fun j => j ≠ w.heap.size) w3 w') : ThPost n s c b B R w (.returned (.agg #[.int .i64 R.2.err, .int .u64 R.2.val, L])) w' := by
  have hr : w3.heap[w.heap.size]? = some (.cells #[.int .i64 0, .int .u64 0, .slice none 0 0] 57 (0, 0)) := (hk.block w.heap.size ⟨by simp, by omega⟩).trans (heap_alloc_new w _)
  refine ⟨v', L, rfl, hT.of_block (h'.block b (by omega)), owns_apart hO hr (by decide) h', owns_apart hL hr (by decide) h', ?_⟩
  exact ((Keep.refl (fun j => j < w.heap.size ∧ j ≠ b) w).alloc (fun k hk => hk.1) _).trans ((hk.mono (fun k hk => ⟨by have := hk.1; simp; omega, hk.2⟩)).trans (h'.mono (fun k hk => by have := hk.1; omega)))

theorem rightB17_len {p : Int} {k : Nat} (h : rightB17 p (k - 1) = true) : k ≤ 9 := by
  unfold rightB17 at h
  split at h
  · simp at h; omega
  · split at h
    · simp at h; omega
    · simp at h; omega
theorem bell1 {xs : List Int} (h : xs.length = 1) : ∃ x, xs = [x] := by
  match xs, h with
  | [x], _ => exact ⟨x, rfl⟩
set_option maxRecDepth 100000 in
set_option maxHeartbeats 4000000 in
theorem mact_any (n : Int) (s : Sp) (c : Cl) (b B : Nat) (v : Value) (st : List Int) (w : World) (hT : ThAt w b n s v c) (hO : WOwn w B v st.length st) (hBw : B ≤ w.heap.size) (hr : rightM n s st = true) (hl : st.length ≤ 10000)
    (ht0 : 0 ≤ c.thread) (ht1 : c.thread < n) (hk0 : 0 ≤ c.kind) (hk1 : c.kind < actsT s.kind s.p) (ha : U64 c.a) (_hb9 : U64 c.b) (hu : ∀ z ∈ st, U64 z) :
    Calls Tryz.prog 79 #[.pointer (some ⟨b, 0, none⟩)] w (ThPost n s c b B (actM n s st c) w) := by
  have hr' := hr
  unfold rightM at hr'
  simp only [Bool.and_eq_true, decide_eq_true_eq] at hr'
  obtain ⟨hE, hsh⟩ := hr'
  obtain ⟨⟨hn1, hn2⟩, ⟨hg1, hg2⟩, hrt⟩ := sizeE_zero hE
  obtain ⟨a0, a1, a2, a3, a4, a5, a6, a7, a8, a9, a10, f4, hb⟩ := hT.cells
  have hTr : ThAt (resW w) b n s v c := hT.of_block (heap_alloc_old w _ hb)
  have hOr : WOwn (resW w) B v st.length st := World.ownsRow.alloc hO _
  have hBr : B ≤ (resW w).heap.size := by simp; omega
  unfold shapeM at hsh
  clear hr hE
  rcases (by omega : s.kind = 0 ∨ s.kind = 1 ∨ s.kind = 2 ∨ s.kind = 3 ∨ s.kind = 4 ∨ s.kind = 5 ∨ s.kind = 6 ∨ s.kind = 7 ∨ s.kind = 8 ∨ s.kind = 9) with hk | hk | hk | hk | hk | hk | hk | hk | hk | hk
  all_goals
    rw [hk] at hrt hk1 a1 hsh
    simp [rightT, actsT, newM, hk] at hrt hk1 hsh
  · have hA : actM n s st c = cellM s st c := by unfold actM; rw [if_pos hk]
    have N0 := mcell_any n s c b B v st (resW w) hTr hOr hBr hrt.1 hrt.2 (by omega) ha hk0 hk1
    clear hTr hOr hBr hrt hk1 hsh hu
    obtain ⟨R, hR⟩ : ∃ R, R = actM n s st c := ⟨_, rfl⟩
    rw [← hA, ← hR] at N0
    rw [← hR]
    clear hA hR hT hO
    go_enter Tryz.func79, Tryz.ntmps79
    go_wp2_with fail
    refine N0.mono ?_
    rintro e w3 ⟨v', L, rfl, hT3, hO3, hL3, hk3⟩
    have hk3' : Keep (fun j => j < (resW w).heap.size ∧ j ≠ b) (resW w) w3 := by first | exact hk3 | exact (Keep.refl _ _).drew.trans hk3
    obtain ⟨st', ⟨E, V, l⟩⟩ := R
    simp only [] at hO3 hL3 ⊢
    obtain ⟨LA, Lc, rfl⟩ := own_slice hL3
    obtain ⟨r0, r1, r2, g0, g1, g2, rz⟩ := res_cells hk3' hb
    have HT3 := hide hT3
    have HO3 := hide hO3
    have HL3 := hide hL3
    have HK3 := hide hk3'
    clear hT3 hO3 hL3 hk3 hk3'
    go_wp2
    refine bodyPost_ret (v := .agg #[.int .i64 E, .int .u64 V, .slice LA l.length Lc]) (by simp [results, Tryz.results79, go_sem, *]) rfl ?_
    exact act_fin (R := (st', ⟨E, V, l⟩)) hb HT3.out HO3.out HL3.out HK3.out (by (repeat' (first | exact Keep.refl _ _ | refine Keep.setCell ?_ (by simp) _ | refine Keep.drew ?_)))
  · obtain ⟨x, rfl⟩ := bell1 hsh
    have hA : actM n s [x] c = consM [x] c := by unfold actM; rw [if_neg (by omega), if_pos hk]
    have N0 := mcons_any n s c b B v x (resW w) hTr hOr hBr ha (hu x (by simp)) hk0 hk1
    clear hTr hOr hBr hk1 hsh hu
    obtain ⟨R, hR⟩ : ∃ R, R = actM n s [x] c := ⟨_, rfl⟩
    rw [← hA, ← hR] at N0
    rw [← hR]
    clear hA hR hT hO
    go_enter Tryz.func79, Tryz.ntmps79
    go_wp2_with fail
    refine N0.mono ?_
    rintro e w3 ⟨v', L, rfl, hT3, hO3, hL3, hk3⟩
    have hk3' : Keep (fun j => j < (resW w).heap.size ∧ j ≠ b) (resW w) w3 := by first | exact hk3 | exact (Keep.refl _ _).drew.trans hk3
    obtain ⟨st', ⟨E, V, l⟩⟩ := R
    simp only [] at hO3 hL3 ⊢
    obtain ⟨LA, Lc, rfl⟩ := own_slice hL3
    obtain ⟨r0, r1, r2, g0, g1, g2, rz⟩ := res_cells hk3' hb
    have HT3 := hide hT3
    have HO3 := hide hO3
    have HL3 := hide hL3
    have HK3 := hide hk3'
    clear hT3 hO3 hL3 hk3 hk3'
    go_wp2
    refine bodyPost_ret (v := .agg #[.int .i64 E, .int .u64 V, .slice LA l.length Lc]) (by simp [results, Tryz.results79, go_sem, *]) rfl ?_
    exact act_fin (R := (st', ⟨E, V, l⟩)) hb HT3.out HO3.out HL3.out HK3.out (by (repeat' (first | exact Keep.refl _ _ | refine Keep.setCell ?_ (by simp) _ | refine Keep.drew ?_)))
  · obtain ⟨x, rfl⟩ := bell1 hsh
    have hA : actM n s [x] c = numM s [x] c := by unfold actM; rw [if_neg (by omega), if_neg (by omega), if_pos (Or.inl hk)]
    have N0 := mnum_any n s c b B v x (resW w) hTr hOr hBr ha (hu x (by simp)) hk0 (Or.inl ⟨hk, hk1⟩)
    clear hTr hOr hBr hk1 hsh hu
    obtain ⟨R, hR⟩ : ∃ R, R = actM n s [x] c := ⟨_, rfl⟩
    rw [← hA, ← hR] at N0
    rw [← hR]
    clear hA hR hT hO
    go_enter Tryz.func79, Tryz.ntmps79
    go_wp2_with fail
    refine N0.mono ?_
    rintro e w3 ⟨v', L, rfl, hT3, hO3, hL3, hk3⟩
    have hk3' : Keep (fun j => j < (resW w).heap.size ∧ j ≠ b) (resW w) w3 := by first | exact hk3 | exact (Keep.refl _ _).drew.trans hk3
    obtain ⟨st', ⟨E, V, l⟩⟩ := R
    simp only [] at hO3 hL3 ⊢
    obtain ⟨LA, Lc, rfl⟩ := own_slice hL3
    obtain ⟨r0, r1, r2, g0, g1, g2, rz⟩ := res_cells hk3' hb
    have HT3 := hide hT3
    have HO3 := hide hO3
    have HL3 := hide hL3
    have HK3 := hide hk3'
    clear hT3 hO3 hL3 hk3 hk3'
    go_wp2
    refine bodyPost_ret (v := .agg #[.int .i64 E, .int .u64 V, .slice LA l.length Lc]) (by simp [results, Tryz.results79, go_sem, *]) rfl ?_
    exact act_fin (R := (st', ⟨E, V, l⟩)) hb HT3.out HO3.out HL3.out HK3.out (by (repeat' (first | exact Keep.refl _ _ | refine Keep.setCell ?_ (by simp) _ | refine Keep.drew ?_)))
  · obtain ⟨x, rfl⟩ := bell1 hsh
    have hA : actM n s [x] c = numM s [x] c := by unfold actM; rw [if_neg (by omega), if_neg (by omega), if_pos (Or.inr hk)]
    have N0 := mnum_any n s c b B v x (resW w) hTr hOr hBr ha (hu x (by simp)) hk0 (Or.inr ⟨hk, hk1⟩)
    clear hTr hOr hBr hk1 hsh hu
    obtain ⟨R, hR⟩ : ∃ R, R = actM n s [x] c := ⟨_, rfl⟩
    rw [← hA, ← hR] at N0
    rw [← hR]
    clear hA hR hT hO
    go_enter Tryz.func79, Tryz.ntmps79
    go_wp2_with fail
    refine N0.mono ?_
    rintro e w3 ⟨v', L, rfl, hT3, hO3, hL3, hk3⟩
    have hk3' : Keep (fun j => j < (resW w).heap.size ∧ j ≠ b) (resW w) w3 := by first | exact hk3 | exact (Keep.refl _ _).drew.trans hk3
    obtain ⟨st', ⟨E, V, l⟩⟩ := R
    simp only [] at hO3 hL3 ⊢
    obtain ⟨LA, Lc, rfl⟩ := own_slice hL3
    obtain ⟨r0, r1, r2, g0, g1, g2, rz⟩ := res_cells hk3' hb
    have HT3 := hide hT3
    have HO3 := hide hO3
    have HL3 := hide hL3
    have HK3 := hide hk3'
    clear hT3 hO3 hL3 hk3 hk3'
    go_wp2
    refine bodyPost_ret (v := .agg #[.int .i64 E, .int .u64 V, .slice LA l.length Lc]) (by simp [results, Tryz.results79, go_sem, *]) rfl ?_
    exact act_fin (R := (st', ⟨E, V, l⟩)) hb HT3.out HO3.out HL3.out HK3.out (by (repeat' (first | exact Keep.refl _ _ | refine Keep.setCell ?_ (by simp) _ | refine Keep.drew ?_)))
  · obtain ⟨x, rfl⟩ := bell1 hsh
    have hA : actM n s [x] c = maxM s [x] c := by unfold actM; rw [if_neg (by omega), if_neg (by omega), if_neg (by omega), if_pos hk]
    have N0 := mmax_any n s c b B v x (resW w) hTr hOr hBr ha (hu x (by simp)) hk0 hk1 hrt.1 hrt.2
    clear hTr hOr hBr hk1 hsh hu hrt
    obtain ⟨R, hR⟩ : ∃ R, R = actM n s [x] c := ⟨_, rfl⟩
    rw [← hA, ← hR] at N0
    rw [← hR]
    clear hA hR hT hO
    go_enter Tryz.func79, Tryz.ntmps79
    go_wp2_with fail
    refine N0.mono ?_
    rintro e w3 ⟨v', L, rfl, hT3, hO3, hL3, hk3⟩
    have hk3' : Keep (fun j => j < (resW w).heap.size ∧ j ≠ b) (resW w) w3 := by first | exact hk3 | exact (Keep.refl _ _).drew.trans hk3
    obtain ⟨st', ⟨E, V, l⟩⟩ := R
    simp only [] at hO3 hL3 ⊢
    obtain ⟨LA, Lc, rfl⟩ := own_slice hL3
    obtain ⟨r0, r1, r2, g0, g1, g2, rz⟩ := res_cells hk3' hb
    have HT3 := hide hT3
    have HO3 := hide hO3
    have HL3 := hide hL3
    have HK3 := hide hk3'
    clear hT3 hO3 hL3 hk3 hk3'
    go_wp2
    refine bodyPost_ret (v := .agg #[.int .i64 E, .int .u64 V, .slice LA l.length Lc]) (by simp [results, Tryz.results79, go_sem, *]) rfl ?_
    exact act_fin (R := (st', ⟨E, V, l⟩)) hb HT3.out HO3.out HL3.out HK3.out (by (repeat' (first | exact Keep.refl _ _ | refine Keep.setCell ?_ (by simp) _ | refine Keep.drew ?_)))
  · obtain ⟨nn, hnn⟩ : ∃ nn : Nat, n = (nn : Int) := ⟨n.toNat, by omega⟩
    obtain ⟨tt, htt⟩ : ∃ tt : Nat, c.thread = (tt : Int) := ⟨c.thread.toNat, by omega⟩
    have hA : actM n s st c = partsM n s.p c.thread c.a st c := by unfold actM; rw [if_neg (by omega), if_neg (by omega), if_neg (by omega), if_neg (by omega), if_pos hk]
    have hw : IntKind.u64.wrap c.thread = c.thread := by rw [IntKind.wrap_u64]; omega
    have N0 : Calls Tryz.prog 149 #[.pointer (some ⟨b, 0, none⟩), .int .i64 n, .int .i64 s.p, .int .u64 (IntKind.u64.wrap c.thread), .int .u64 c.a] ((resW w).drew) (ThPost n s c b B (partsM n s.p c.thread c.a st c) ((resW w).drew)) := by
      rw [hw]
      have h := mparts_any nn tt s.p c.thread c.a n s c b B v st ((resW w).drew) hTr hOr hBr (by omega) (by omega) htt (by omega) ⟨by omega, by omega⟩ (by omega) (by omega) hk0 hk1 hu
      rw [← hnn] at h
      exact h
    clear hTr hOr hBr hk1 hsh hu hrt hnn htt hw
    obtain ⟨R, hR⟩ : ∃ R, R = actM n s st c := ⟨_, rfl⟩
    rw [← hA, ← hR] at N0
    rw [← hR]
    clear hA hR hT hO
    go_enter Tryz.func79, Tryz.ntmps79
    go_wp2_with fail
    refine wp_region_seql (Below w.heap.size w) [21, 22] (.take 0 <| .take 1 <| .take 2 <| .take 3 <| .take 4 <| .take 5 <| .take 6 <| .take 7 <| .take 8 <| .take 9 <| .take 10 <| .take 11 <| .take 12 <| .take 13 <| .take 14 <| .take 15 <| .take 16 <| .take 17 <| .take 18 <| .take 19 <| .take 20 <| .run 21 <| .run 22 <| .done) (by kernel_rfl) (by kernel_rfl) (by kernel_rfl) (by (repeat' (first | exact Below.refl _ _ | assumption | refine Below.drew ?_ | refine below_drewN ?_ _ | refine Below.alloc ?_ (by simp <;> omega) _ | refine Below.setCell ?_ (by simp <;> omega) _))) ?_
    repeat (refine seql_take (v := ?_) rfl (by rfl) ?_ ?_; rotate_left; (focus (intro wS hS; have z0 := (hS.cell (p := ⟨b, 0, none⟩) hb).trans a0; have z1 := (hS.cell (p := ⟨b, 1, none⟩) hb).trans a1; have z2 := (hS.cell (p := ⟨b, 2, none⟩) hb).trans a2; have z3 := (hS.cell (p := ⟨b, 3, none⟩) hb).trans a3; have z5 := (hS.cell (p := ⟨b, 5, none⟩) hb).trans a5; have z8 := (hS.cell (p := ⟨b, 8, none⟩) hb).trans a8; have z9 := (hS.cell (p := ⟨b, 9, none⟩) hb).trans a9; go_simp; exact rfl)); simp only [Act.put, List.setIfInBounds_toArray, List.set_cons_zero, List.set_cons_succ])
    refine seql_late rfl rfl (by rfl) (fun K hK => ?_)
    go_simp
    refine N0.mono ?_
    rintro e w3 ⟨v', L, rfl, hT3, hO3, hL3, hk3⟩
    have hk3' : Keep (fun j => j < (resW w).heap.size ∧ j ≠ b) (resW w) w3 := by first | exact hk3 | exact (Keep.refl _ _).drew.trans hk3
    obtain ⟨st', ⟨E, V, l⟩⟩ := R
    simp only [] at hO3 hL3 ⊢
    obtain ⟨LA, Lc, rfl⟩ := own_slice hL3
    obtain ⟨r0, r1, r2, g0, g1, g2, rz⟩ := res_cells hk3' hb
    have HT3 := hide hT3
    have HO3 := hide hO3
    have HL3 := hide hL3
    have HK3 := hide hk3'
    clear hT3 hO3 hL3 hk3 hk3'
    refine hK _ _ ?_
    clear hK K
    refine seql_late rfl rfl (by rfl) (fun K hK => ?_)
    go_simp
    refine hK _ _ ?_
    clear hK K
    refine seql_nil ?_
    go_wp2
    refine bodyPost_ret (v := .agg #[.int .i64 E, .int .u64 V, .slice LA l.length Lc]) (by simp [results, Tryz.results79, go_sem, *]) rfl ?_
    exact act_fin (R := (st', ⟨E, V, l⟩)) hb HT3.out HO3.out HL3.out HK3.out (by (repeat' (first | exact Keep.refl _ _ | refine Keep.setCell ?_ (by simp) _ | refine Keep.drew ?_)))
  · obtain ⟨pp, hpp⟩ : ∃ pp : Nat, s.p = (pp : Int) := ⟨s.p.toNat, by omega⟩
    obtain ⟨tt, htt⟩ : ∃ tt : Nat, c.thread = (tt : Int) := ⟨c.thread.toNat, by omega⟩
    have hA : actM n s st c = partsM s.p s.q c.a c.b st c := by unfold actM; rw [if_neg (by omega), if_neg (by omega), if_neg (by omega), if_neg (by omega), if_neg (by omega), if_pos hk]
    have N0 : Calls Tryz.prog 149 #[.pointer (some ⟨b, 0, none⟩), .int .i64 s.p, .int .i64 s.q, .int .u64 c.a, .int .u64 c.b] ((resW w).drew) (ThPost n s c b B (partsM s.p s.q c.a c.b st c) ((resW w).drew)) := by
      have h := mparts_any pp tt s.q c.a c.b n s c b B v st ((resW w).drew) hTr hOr hBr (by omega) (by omega) htt (by omega) ha (by omega) (by omega) hk0 hk1 hu
      rw [← hpp] at h
      exact h
    clear hTr hOr hBr hk1 hsh hu hrt hpp htt
    obtain ⟨R, hR⟩ : ∃ R, R = actM n s st c := ⟨_, rfl⟩
    rw [← hA, ← hR] at N0
    rw [← hR]
    clear hA hR hT hO
    go_enter Tryz.func79, Tryz.ntmps79
    go_wp2_with fail
    refine wp_region_seql (Below w.heap.size w) [21, 22] (.take 0 <| .take 1 <| .take 2 <| .take 3 <| .take 4 <| .take 5 <| .take 6 <| .take 7 <| .take 8 <| .take 9 <| .take 10 <| .take 11 <| .take 12 <| .take 13 <| .take 14 <| .take 15 <| .take 16 <| .take 17 <| .take 18 <| .take 19 <| .take 20 <| .run 21 <| .run 22 <| .done) (by kernel_rfl) (by kernel_rfl) (by kernel_rfl) (by (repeat' (first | exact Below.refl _ _ | assumption | refine Below.drew ?_ | refine below_drewN ?_ _ | refine Below.alloc ?_ (by simp <;> omega) _ | refine Below.setCell ?_ (by simp <;> omega) _))) ?_
    repeat (refine seql_take (v := ?_) rfl (by rfl) ?_ ?_; rotate_left; (focus (intro wS hS; have z0 := (hS.cell (p := ⟨b, 0, none⟩) hb).trans a0; have z1 := (hS.cell (p := ⟨b, 1, none⟩) hb).trans a1; have z2 := (hS.cell (p := ⟨b, 2, none⟩) hb).trans a2; have z3 := (hS.cell (p := ⟨b, 3, none⟩) hb).trans a3; have z5 := (hS.cell (p := ⟨b, 5, none⟩) hb).trans a5; have z8 := (hS.cell (p := ⟨b, 8, none⟩) hb).trans a8; have z9 := (hS.cell (p := ⟨b, 9, none⟩) hb).trans a9; go_simp; exact rfl)); simp only [Act.put, List.setIfInBounds_toArray, List.set_cons_zero, List.set_cons_succ])
    refine seql_late rfl rfl (by rfl) (fun K hK => ?_)
    go_simp
    refine N0.mono ?_
    rintro e w3 ⟨v', L, rfl, hT3, hO3, hL3, hk3⟩
    have hk3' : Keep (fun j => j < (resW w).heap.size ∧ j ≠ b) (resW w) w3 := by first | exact hk3 | exact (Keep.refl _ _).drew.trans hk3
    obtain ⟨st', ⟨E, V, l⟩⟩ := R
    simp only [] at hO3 hL3 ⊢
    obtain ⟨LA, Lc, rfl⟩ := own_slice hL3
    obtain ⟨r0, r1, r2, g0, g1, g2, rz⟩ := res_cells hk3' hb
    have HT3 := hide hT3
    have HO3 := hide hO3
    have HL3 := hide hL3
    have HK3 := hide hk3'
    clear hT3 hO3 hL3 hk3 hk3'
    refine hK _ _ ?_
    clear hK K
    refine seql_late rfl rfl (by rfl) (fun K hK => ?_)
    go_simp
    refine hK _ _ ?_
    clear hK K
    refine seql_nil ?_
    go_wp2
    refine bodyPost_ret (v := .agg #[.int .i64 E, .int .u64 V, .slice LA l.length Lc]) (by simp [results, Tryz.results79, go_sem, *]) rfl ?_
    exact act_fin (R := (st', ⟨E, V, l⟩)) hb HT3.out HO3.out HL3.out HK3.out (by (repeat' (first | exact Keep.refl _ _ | refine Keep.setCell ?_ (by simp) _ | refine Keep.drew ?_)))
  · have hA : actM n s st c = sharedM s st c := by unfold actM; rw [if_neg (by omega), if_neg (by omega), if_neg (by omega), if_neg (by omega), if_neg (by omega), if_neg (by omega), if_pos hk]
    have hlen : st.length ≤ 9 := rightB17_len hsh.2
    have N0 := mshared_any n s c b B v st (resW w) hTr hOr hBr hsh.1 hlen hsh.2 ha hk0 hk1 hrt.2.1 hrt.2.2 hu
    clear hTr hOr hBr hk1 hsh hu hrt
    obtain ⟨R, hR⟩ : ∃ R, R = actM n s st c := ⟨_, rfl⟩
    rw [← hA, ← hR] at N0
    rw [← hR]
    clear hA hR hT hO
    go_enter Tryz.func79, Tryz.ntmps79
    go_wp2_with fail
    refine N0.mono ?_
    rintro e w3 ⟨v', L, rfl, hT3, hO3, hL3, hk3⟩
    have hk3' : Keep (fun j => j < (resW w).heap.size ∧ j ≠ b) (resW w) w3 := by first | exact hk3 | exact (Keep.refl _ _).drew.trans hk3
    obtain ⟨st', ⟨E, V, l⟩⟩ := R
    simp only [] at hO3 hL3 ⊢
    obtain ⟨LA, Lc, rfl⟩ := own_slice hL3
    obtain ⟨r0, r1, r2, g0, g1, g2, rz⟩ := res_cells hk3' hb
    have HT3 := hide hT3
    have HO3 := hide hO3
    have HL3 := hide hL3
    have HK3 := hide hk3'
    clear hT3 hO3 hL3 hk3 hk3'
    go_wp2
    refine bodyPost_ret (v := .agg #[.int .i64 E, .int .u64 V, .slice LA l.length Lc]) (by simp [results, Tryz.results79, go_sem, *]) rfl ?_
    exact act_fin (R := (st', ⟨E, V, l⟩)) hb HT3.out HO3.out HL3.out HK3.out (by (repeat' (first | exact Keep.refl _ _ | refine Keep.setCell ?_ (by simp) _ | refine Keep.drew ?_)))
  · have hA : actM n s st c = queueM st c := by unfold actM; rw [if_neg (by omega), if_neg (by omega), if_neg (by omega), if_neg (by omega), if_neg (by omega), if_neg (by omega), if_neg (by omega), if_pos hk]
    have N0 := mqueue_any n s c b B v st (resW w) hTr hOr hBr hl hsh ha hk0 hk1 ht0 (by omega)
    clear hTr hOr hBr hk1 hsh hu hrt
    obtain ⟨R, hR⟩ : ∃ R, R = actM n s st c := ⟨_, rfl⟩
    rw [← hA, ← hR] at N0
    rw [← hR]
    clear hA hR hT hO
    go_enter Tryz.func79, Tryz.ntmps79
    go_wp2_with fail
    refine N0.mono ?_
    rintro e w3 ⟨v', L, rfl, hT3, hO3, hL3, hk3⟩
    have hk3' : Keep (fun j => j < (resW w).heap.size ∧ j ≠ b) (resW w) w3 := by first | exact hk3 | exact (Keep.refl _ _).drew.trans hk3
    obtain ⟨st', ⟨E, V, l⟩⟩ := R
    simp only [] at hO3 hL3 ⊢
    obtain ⟨LA, Lc, rfl⟩ := own_slice hL3
    obtain ⟨r0, r1, r2, g0, g1, g2, rz⟩ := res_cells hk3' hb
    have HT3 := hide hT3
    have HO3 := hide hO3
    have HL3 := hide hL3
    have HK3 := hide hk3'
    clear hT3 hO3 hL3 hk3 hk3'
    go_wp2
    refine bodyPost_ret (v := .agg #[.int .i64 E, .int .u64 V, .slice LA l.length Lc]) (by simp [results, Tryz.results79, go_sem, *]) rfl ?_
    exact act_fin (R := (st', ⟨E, V, l⟩)) hb HT3.out HO3.out HL3.out HK3.out (by (repeat' (first | exact Keep.refl _ _ | refine Keep.setCell ?_ (by simp) _ | refine Keep.drew ?_)))
  · have hA : actM n s st c = pinM st c := by unfold actM; rw [if_neg (by omega), if_neg (by omega), if_neg (by omega), if_neg (by omega), if_neg (by omega), if_neg (by omega), if_neg (by omega), if_neg (by omega)]
    have N0 := mpin_any n s c b B v st (resW w) hTr hOr hBr (by omega) ha hk0 hk1
    clear hTr hOr hBr hk1 hsh hu hrt
    obtain ⟨R, hR⟩ : ∃ R, R = actM n s st c := ⟨_, rfl⟩
    rw [← hA, ← hR] at N0
    rw [← hR]
    clear hA hR hT hO
    go_enter Tryz.func79, Tryz.ntmps79
    go_wp2_with fail
    refine N0.mono ?_
    rintro e w3 ⟨v', L, rfl, hT3, hO3, hL3, hk3⟩
    have hk3' : Keep (fun j => j < (resW w).heap.size ∧ j ≠ b) (resW w) w3 := by first | exact hk3 | exact (Keep.refl _ _).drew.trans hk3
    obtain ⟨st', ⟨E, V, l⟩⟩ := R
    simp only [] at hO3 hL3 ⊢
    obtain ⟨LA, Lc, rfl⟩ := own_slice hL3
    obtain ⟨r0, r1, r2, g0, g1, g2, rz⟩ := res_cells hk3' hb
    have HT3 := hide hT3
    have HO3 := hide hO3
    have HL3 := hide hL3
    have HK3 := hide hk3'
    clear hT3 hO3 hL3 hk3 hk3'
    go_wp2
    refine bodyPost_ret (v := .agg #[.int .i64 E, .int .u64 V, .slice LA l.length Lc]) (by simp [results, Tryz.results79, go_sem, *]) rfl ?_
    exact act_fin (R := (st', ⟨E, V, l⟩)) hb HT3.out HO3.out HL3.out HK3.out (by (repeat' (first | exact Keep.refl _ _ | refine Keep.setCell ?_ (by simp) _ | refine Keep.drew ?_)))
end Go.Proofs.YtmiimpmfkjcjlaaGreat

namespace Go.Proofs.YtmiimpmfkjcjlaaGreat
open Go.RowKit
attribute [local go_sem] run_store_fn run_store_nilfn

set_option maxRecDepth 100000 in
set_option maxHeartbeats 1000000 in
theorem mright_7 (n p q : Int) (A : Option Addr) (m vc : Nat) (st : List Int) (w : World) (h : SlW w (.slice A m vc) st) (hm : st.length = m) (hl : (m : Int) ≤ 9223372036854775807) (hE : sizeE n ⟨7, p, q⟩ = 0) :
    Calls Tryz.prog 11 #[.int .i64 n, .agg #[.int .i64 7, .int .i64 p, .int .i64 q], .slice A m vc] w fun e w' => e = .returned (.bool (decide (0 < m) && rightB17 p (m - 1))) ∧ Below w.heap.size w w' := by
  have N0 : ∀ W, Calls Tryz.prog 9 #[.int .i64 n, .agg #[.int .i64 7, .int .i64 p, .int .i64 q]] W (NewMPost n ⟨7, p, q⟩ W) := fun W => modelNew n ⟨7, p, q⟩ W
  unfold NewMPost at N0
  have hm63 : (m : Int) ≤ 9223372036854775807 := hl
  have HNL := newM_len n _ hE
  rw [hE] at N0
  simp only [ne_eq, not_true_eq_false, false_and, false_or, true_and] at N0
  generalize newM n ⟨7, p, q⟩ = NL at *
  by_cases h0 : m = 0
  · subst h0
    clear hE HNL
    go_enter Tryz.func11, Tryz.ntmps11
    go_wp2_with fail
    refine (N0 _).mono ?_
    rintro e w1 ⟨v, rfl, _, hb⟩
    have hbx : Below (w.heap.size + 1) (w.alloc (.cells #[.int .i64 7, .int .i64 p, .int .i64 q] 23)) w1 := hb.mono (by simp)
    obtain ⟨s0, s1, s2, _⟩ := cells3 ((hbx.block w.heap.size (by simp)).trans (heap_alloc_new _ _))
    have HB1 : Hid (Below w.heap.size w w1) := hide (((Below.refl _ w).alloc (Nat.le_refl _) _).trans (hbx.mono (by simp)))
    have hz1 : w.heap.size < w1.heap.size := by have := hbx.size; simp at this; omega
    clear hb hbx
    go_wp2_with fail
    refine wp_region_seq (Below w1.heap.size w1) (.take 0 <| .take 1 <| .take 2 <| .take 3 <| .take 4 <| .take 5 <| .take 6 <| .take 7 <| .run 8 <| .take 9 <| .take 10 <| .done) (by kernel_rfl) (by kernel_rfl) (by kernel_rfl) (by (repeat' (first | exact Below.refl _ _ | assumption | refine Below.drew ?_ | refine below_drewN ?_ _ | refine Below.alloc ?_ (by simp <;> omega) _ | refine Below.setCell ?_ (by simp <;> omega) _))) ?_
    repeat (first | (refine seq_take (v := ?_) rfl (by rfl) ?_ ?_; rotate_left; (focus (intro wS hS; have z0 := (hS.cell (p := ⟨w.heap.size, 0, none⟩) hz1).trans s0; have z1 := (hS.cell (p := ⟨w.heap.size, 1, none⟩) hz1).trans s1; go_simp; exact rfl)); simp only [Act.put, List.setIfInBounds_toArray, List.set_cons_zero, List.set_cons_succ]) | (refine seq_skip rfl (by rfl) ?_; simp only [Act.put, List.setIfInBounds_toArray, List.set_cons_zero, List.set_cons_succ]))
    refine seq_pass rfl (by rfl) (by (repeat' (first | exact Below.refl _ _ | assumption | refine Below.drew ?_ | refine below_drewN ?_ _ | refine Below.alloc ?_ (by simp <;> omega) _ | refine Below.setCell ?_ (by simp <;> omega) _))) ?_
    simp only [Act.put, List.setIfInBounds_toArray, List.set_cons_zero, List.set_cons_succ]
    repeat (first | (refine seq_take (v := ?_) rfl (by rfl) ?_ ?_; rotate_left; (focus (intro wS hS; have z0 := (hS.cell (p := ⟨w.heap.size, 0, none⟩) hz1).trans s0; have z1 := (hS.cell (p := ⟨w.heap.size, 1, none⟩) hz1).trans s1; go_simp; exact rfl)); simp only [Act.put, List.setIfInBounds_toArray, List.set_cons_zero, List.set_cons_succ]) | (refine seq_skip rfl (by rfl) ?_; simp only [Act.put, List.setIfInBounds_toArray, List.set_cons_zero, List.set_cons_succ]))
    refine seq_nil ?_
    go_wp2
    go_ret
    exact ⟨ret_bool (by simp), by have := HB1.out; (repeat' (first | exact Below.refl _ _ | assumption | refine Below.drew ?_ | refine below_drewN ?_ _ | refine Below.alloc ?_ (by simp <;> omega) _ | refine Below.setCell ?_ (by simp <;> omega) _))⟩
  · have hm0 : 0 < m := by omega
    have q0 : (0 : Int) < (m : Int) := by omega
    have q1 : (1 : Int) ≤ (m : Int) := by omega
    have d0 : decide ((0 : Int) < (m : Int)) = true := by simpa using hm0
    have e0 : decide (0 < m) = true := by simpa using hm0
    rw [e0, Bool.true_and]
    obtain ⟨x, hx⟩ : ∃ x, st[0]? = some x := ⟨_, List.getElem?_eq_getElem (by omega)⟩
    obtain ⟨sb, so, rfl, _, hsb⟩ := sl_at h 0 x hx
    have hsl0 := h
    obtain ⟨X, hX, hXs⟩ := sl_drop (k := 1) h (by omega)
    unfold sliced at hX
    have hdl : (st.drop 1).length = m - 1 := by rw [List.length_drop, hm]
    have hvm : m ≤ vc := by obtain ⟨_, _, e, h1, _⟩ := h; cases e; omega
    by_cases hvc : vc = 1
    · rw [if_pos hvc] at hX
      subst hvc
      obtain rfl : m = 1 := by omega
      subst hX
      clear h0 e0 hx
      have N1 := fun v W (h : SlW W v (st.drop 1)) => right_any v (st.drop 1) p W h
      rw [hdl] at N1
      have HX := hide hXs
      have HM := hide hm
      clear hXs hE HNL hdl hsl0 h
      go_enter Tryz.func11, Tryz.ntmps11
      go_wp2_with fail
      refine (N0 _).mono ?_
      rintro e w1 ⟨v, rfl, _, hb⟩
      have hbx : Below (w.heap.size + 1) (w.alloc (.cells #[.int .i64 7, .int .i64 p, .int .i64 q] 23)) w1 := hb.mono (by simp)
      obtain ⟨s0, s1, s2, _⟩ := cells3 ((hbx.block w.heap.size (by simp)).trans (heap_alloc_new _ _))
      have HB1 : Hid (Below w.heap.size w w1) := hide (((Below.refl _ w).alloc (Nat.le_refl _) _).trans (hbx.mono (by simp)))
      have hz1 : w.heap.size < w1.heap.size := by have := hbx.size; simp at this; omega
      clear hb hbx
      go_wp2_with fail
      refine wp_region_seq (Below w1.heap.size w1) (.take 0 <| .take 1 <| .take 2 <| .take 3 <| .take 4 <| .take 5 <| .take 6 <| .take 7 <| .run 8 <| .take 9 <| .take 10 <| .done) (by kernel_rfl) (by kernel_rfl) (by kernel_rfl) (by (repeat' (first | exact Below.refl _ _ | assumption | refine Below.drew ?_ | refine below_drewN ?_ _ | refine Below.alloc ?_ (by simp <;> omega) _ | refine Below.setCell ?_ (by simp <;> omega) _))) ?_
      repeat (first | (refine seq_take (v := ?_) rfl (by rfl) ?_ ?_; rotate_left; (focus (intro wS hS; have z0 := (hS.cell (p := ⟨w.heap.size, 0, none⟩) hz1).trans s0; have z1 := (hS.cell (p := ⟨w.heap.size, 1, none⟩) hz1).trans s1; go_simp; exact rfl)); simp only [Act.put, List.setIfInBounds_toArray, List.set_cons_zero, List.set_cons_succ]) | (refine seq_skip rfl (by rfl) ?_; simp only [Act.put, List.setIfInBounds_toArray, List.set_cons_zero, List.set_cons_succ]))
      refine seq_run rfl (by rfl) (fun K hK => ?_)
      go_simp
      refine (N1 _ _ ?_).mono ?_
      · exact HX.out.below HB1.out.drew (Nat.le_refl _)
      rintro e w2 ⟨rfl, hb2⟩
      have hB2 : Below w1.heap.size w1 w2 := (Below.refl _ _).drew.trans (hb2.mono (by simp))
      refine hK _ _ hB2 ?_
      clear hK K
      repeat (first | (refine seq_take (v := ?_) rfl (by rfl) ?_ ?_; rotate_left; (focus (intro wS hS; have z0 := (hS.cell (p := ⟨w.heap.size, 0, none⟩) hz1).trans s0; have z1 := (hS.cell (p := ⟨w.heap.size, 1, none⟩) hz1).trans s1; go_simp; exact rfl)); simp only [Act.put, List.setIfInBounds_toArray, List.set_cons_zero, List.set_cons_succ]) | (refine seq_skip rfl (by rfl) ?_; simp only [Act.put, List.setIfInBounds_toArray, List.set_cons_zero, List.set_cons_succ]))
      refine seq_nil ?_
      have HB2 : Hid (Below w.heap.size w w2) := hide (HB1.out.trans (hB2.mono (by omega)))
      clear hb2 hB2
      go_wp2
      go_ret
      exact ⟨ret_bool (by first | rfl | simp), HB2.out⟩
    · rw [if_neg hvc] at hX
      simp only [Option.map_some, Addr.add, Nat.mul_one] at hX
      rw [if_neg (by omega)] at hX
      subst hX
      clear h0 e0 hx
      have N1 := fun v W (h : SlW W v (st.drop 1)) => right_any v (st.drop 1) p W h
      rw [hdl] at N1
      have HX := hide hXs
      have HM := hide hm
      clear hXs hE HNL hdl hsl0 h
      go_enter Tryz.func11, Tryz.ntmps11
      go_wp2_with fail
      refine (N0 _).mono ?_
      rintro e w1 ⟨v, rfl, _, hb⟩
      have hbx : Below (w.heap.size + 1) (w.alloc (.cells #[.int .i64 7, .int .i64 p, .int .i64 q] 23)) w1 := hb.mono (by simp)
      obtain ⟨s0, s1, s2, _⟩ := cells3 ((hbx.block w.heap.size (by simp)).trans (heap_alloc_new _ _))
      have HB1 : Hid (Below w.heap.size w w1) := hide (((Below.refl _ w).alloc (Nat.le_refl _) _).trans (hbx.mono (by simp)))
      have hz1 : w.heap.size < w1.heap.size := by have := hbx.size; simp at this; omega
      clear hb hbx
      go_wp2_with fail
      refine wp_region_seq (Below w1.heap.size w1) (.take 0 <| .take 1 <| .take 2 <| .take 3 <| .take 4 <| .take 5 <| .take 6 <| .take 7 <| .run 8 <| .take 9 <| .take 10 <| .done) (by kernel_rfl) (by kernel_rfl) (by kernel_rfl) (by (repeat' (first | exact Below.refl _ _ | assumption | refine Below.drew ?_ | refine below_drewN ?_ _ | refine Below.alloc ?_ (by simp <;> omega) _ | refine Below.setCell ?_ (by simp <;> omega) _))) ?_
      repeat (first | (refine seq_take (v := ?_) rfl (by rfl) ?_ ?_; rotate_left; (focus (intro wS hS; have z0 := (hS.cell (p := ⟨w.heap.size, 0, none⟩) hz1).trans s0; have z1 := (hS.cell (p := ⟨w.heap.size, 1, none⟩) hz1).trans s1; go_simp; exact rfl)); simp only [Act.put, List.setIfInBounds_toArray, List.set_cons_zero, List.set_cons_succ]) | (refine seq_skip rfl (by rfl) ?_; simp only [Act.put, List.setIfInBounds_toArray, List.set_cons_zero, List.set_cons_succ]))
      refine seq_run rfl (by rfl) (fun K hK => ?_)
      go_simp
      refine (N1 _ _ ?_).mono ?_
      · exact HX.out.below HB1.out.drew (Nat.le_refl _)
      rintro e w2 ⟨rfl, hb2⟩
      have hB2 : Below w1.heap.size w1 w2 := (Below.refl _ _).drew.trans (hb2.mono (by simp))
      refine hK _ _ hB2 ?_
      clear hK K
      repeat (first | (refine seq_take (v := ?_) rfl (by rfl) ?_ ?_; rotate_left; (focus (intro wS hS; have z0 := (hS.cell (p := ⟨w.heap.size, 0, none⟩) hz1).trans s0; have z1 := (hS.cell (p := ⟨w.heap.size, 1, none⟩) hz1).trans s1; go_simp; exact rfl)); simp only [Act.put, List.setIfInBounds_toArray, List.set_cons_zero, List.set_cons_succ]) | (refine seq_skip rfl (by rfl) ?_; simp only [Act.put, List.setIfInBounds_toArray, List.set_cons_zero, List.set_cons_succ]))
      refine seq_nil ?_
      have HB2 : Hid (Below w.heap.size w w2) := hide (HB1.out.trans (hB2.mono (by omega)))
      clear hb2 hB2
      go_wp2
      go_ret
      exact ⟨ret_bool (by first | rfl | simp), HB2.out⟩
set_option maxRecDepth 100000 in
set_option maxHeartbeats 1000000 in
theorem mright_o (n k p q : Int) (A : Option Addr) (m vc : Nat) (st : List Int) (w : World) (hm : st.length = m) (hl : (m : Int) ≤ 9223372036854775807) (hE : sizeE n ⟨k, p, q⟩ = 0) (h7 : k ≠ 7) :
    Calls Tryz.prog 11 #[.int .i64 n, .agg #[.int .i64 k, .int .i64 p, .int .i64 q], .slice A m vc] w fun e w' => e = .returned (.bool (shapeM n ⟨k, p, q⟩ st)) ∧ Below w.heap.size w w' := by
  have N0 : ∀ W, Calls Tryz.prog 9 #[.int .i64 n, .agg #[.int .i64 k, .int .i64 p, .int .i64 q]] W (NewMPost n ⟨k, p, q⟩ W) := fun W => modelNew n ⟨k, p, q⟩ W
  unfold NewMPost at N0
  have hm63 : (m : Int) ≤ 9223372036854775807 := hl
  have HNL := newM_len n _ hE
  rw [hE] at N0
  simp only [ne_eq, not_true_eq_false, false_and, false_or, true_and] at N0
  have hS : shapeM n ⟨k, p, q⟩ st = if k = 8 then decide (m % 2 = 0) else decide (m = (newM n ⟨k, p, q⟩).length) := by unfold shapeM; rw [if_neg h7, hm]
  rw [hS]
  have d7 : (k == 7) = false := by simpa using h7
  generalize newM n ⟨k, p, q⟩ = NL at *
  have hNL : (NL.length : Int) ≤ 80 := by omega
  clear hS hE h7
  by_cases h8 : k = 8
  · subst h8
    rw [if_pos rfl]
    have d2 : ((m : Int).tmod 2 == 0) = decide (m % 2 = 0) := by
      rw [Bool.eq_iff_iff]
      simp
      rw [Int.tmod_eq_emod_of_nonneg (by omega)]
      omega
    go_enter Tryz.func11, Tryz.ntmps11
    go_wp2_with fail
    refine (N0 _).mono ?_
    rintro e w1 ⟨v, rfl, _, hb⟩
    have hbx : Below (w.heap.size + 1) (w.alloc (.cells #[.int .i64 8, .int .i64 p, .int .i64 q] 23)) w1 := hb.mono (by simp)
    obtain ⟨s0, s1, s2, _⟩ := cells3 ((hbx.block w.heap.size (by simp)).trans (heap_alloc_new _ _))
    have HB1 : Hid (Below w.heap.size w w1) := hide (((Below.refl _ w).alloc (Nat.le_refl _) _).trans (hbx.mono (by simp)))
    have hz1 : w.heap.size < w1.heap.size := by have := hbx.size; simp at this; omega
    clear hb hbx
    go_wp2
    go_ret
    exact ⟨ret_bool (by first | exact d2 | (rw [← d2]) | (simp; omega)), HB1.out⟩
  · rw [if_neg h8]
    have d8 : (k == 8) = false := by simpa using h8
    have d2 : ((m : Int) == (NL.length : Int)) = decide (m = NL.length) := by
      rw [Bool.eq_iff_iff]
      simp
      omega
    go_enter Tryz.func11, Tryz.ntmps11
    go_wp2_with fail
    refine (N0 _).mono ?_
    rintro e w1 ⟨v, rfl, hown, hb⟩
    obtain ⟨nA, nc, rfl⟩ := own_slice hown
    clear hown h8
    have hbx : Below (w.heap.size + 1) (w.alloc (.cells #[.int .i64 k, .int .i64 p, .int .i64 q] 23)) w1 := hb.mono (by simp)
    obtain ⟨s0, s1, s2, _⟩ := cells3 ((hbx.block w.heap.size (by simp)).trans (heap_alloc_new _ _))
    have HB1 : Hid (Below w.heap.size w w1) := hide (((Below.refl _ w).alloc (Nat.le_refl _) _).trans (hbx.mono (by simp)))
    have hz1 : w.heap.size < w1.heap.size := by have := hbx.size; simp at this; omega
    clear hb hbx
    go_wp2
    go_ret
    exact ⟨ret_bool (by first | exact d2 | (rw [← d2]) | (simp; omega)), HB1.out⟩
set_option maxRecDepth 100000 in
set_option maxHeartbeats 1000000 in
theorem mright_e (n k p q : Int) (A : Option Addr) (m vc : Nat) (w : World) (hE : sizeE n ⟨k, p, q⟩ ≠ 0) :
    Calls Tryz.prog 11 #[.int .i64 n, .agg #[.int .i64 k, .int .i64 p, .int .i64 q], .slice A m vc] w fun e w' => e = .returned (.bool false) ∧ Below w.heap.size w w' := by
  have N0 : ∀ W, Calls Tryz.prog 9 #[.int .i64 n, .agg #[.int .i64 k, .int .i64 p, .int .i64 q]] W (NewMPost n ⟨k, p, q⟩ W) := fun W => modelNew n ⟨k, p, q⟩ W
  unfold NewMPost at N0
  generalize sizeE n ⟨k, p, q⟩ = E at *
  have he : (E != 0) = true := by simpa using hE
  go_enter Tryz.func11, Tryz.ntmps11
  go_wp2_with fail
  refine (N0 _).mono ?_
  rintro e w1 (⟨_, rfl, hb⟩ | ⟨h, _⟩)
  · have hbx : Below (w.heap.size + 1) (w.alloc (.cells #[.int .i64 k, .int .i64 p, .int .i64 q] 23)) w1 := hb.mono (by simp)
    obtain ⟨s0, s1, s2, _⟩ := cells3 ((hbx.block w.heap.size (by simp)).trans (heap_alloc_new _ _))
    have HB1 : Hid (Below w.heap.size w w1) := hide (((Below.refl _ w).alloc (Nat.le_refl _) _).trans (hbx.mono (by simp)))
    have hz1 : w.heap.size < w1.heap.size := by have := hbx.size; simp at this; omega
    clear hb hbx
    go_wp2
    go_ret
    exact ⟨rfl, HB1.out⟩
  · exact absurd h hE
theorem mright_any (n : Int) (s : Sp) (A : Option Addr) (m vc : Nat) (st : List Int) (w : World) (h : SlW w (.slice A m vc) st) (hm : st.length = m) (hl : (m : Int) ≤ 9223372036854775807) :
    Calls Tryz.prog 11 #[.int .i64 n, spV s, .slice A m vc] w fun e w' => e = .returned (.bool (rightM n s st)) ∧ Below w.heap.size w w' := by
  obtain ⟨k, p, q⟩ := s
  by_cases hE : sizeE n ⟨k, p, q⟩ = 0
  · have hR : rightM n ⟨k, p, q⟩ st = shapeM n ⟨k, p, q⟩ st := by unfold rightM; rw [decide_eq_true hE]; rfl
    rw [hR]
    by_cases h7 : k = 7
    · subst h7
      have hS : shapeM n ⟨7, p, q⟩ st = (decide (0 < m) && rightB17 p (m - 1)) := by unfold shapeM; rw [if_pos rfl, hm]
      rw [hS]
      exact mright_7 n p q A m vc st w h hm hl hE
    · exact mright_o n k p q A m vc st w hm hl hE h7
  · have hR : rightM n ⟨k, p, q⟩ st = false := by unfold rightM; rw [decide_eq_false hE]; rfl
    rw [hR]
    exact mright_e n k p q A m vc w hE
end Go.Proofs.YtmiimpmfkjcjlaaGreat
