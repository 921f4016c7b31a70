import Derived.Test.YtmiimpmfkjcjlaaGreatBun21
namespace Go.Proofs.YtmiimpmfkjcjlaaGreat
open Go.RowKit
attribute [local go_sem] run_store_fn run_store_nilfn
def pinMix (a : Int) (st : List Int) (i : Nat) : List Int := pinL a i ++ st.drop i
theorem pinL_len (a : Int) (k : Nat) : (pinL a k).length = k := by simp [pinL]
theorem pinMix_zero (a : Int) (st : List Int) : pinMix a st 0 = st := by simp [pinMix, pinL]
theorem pinMix_all (a : Int) (st : List Int) : pinMix a st st.length = pinL a st.length := by simp [pinMix]
theorem pinMix_len (a : Int) (st : List Int) (i : Nat) (h : i ≤ st.length) : (pinMix a st i).length = st.length := by
  unfold pinMix
  rw [List.length_append, pinL_len, List.length_drop]
  omega
theorem pinMix_set (a : Int) (st : List Int) (i : Nat) (h : i < st.length) : (pinMix a st i).set i ((a + i) % 18446744073709551616) = pinMix a st (i + 1) := by
  unfold pinMix
  rw [List.set_append, if_neg (by rw [pinL_len]; omega), pinL_len, Nat.sub_self]
  have hd : st.drop i = st[i] :: st.drop (i + 1) := List.drop_eq_getElem_cons h
  rw [hd, List.set_cons_zero]
  unfold pinL
  rw [List.range_succ, List.map_append]
  simp
set_option maxRecDepth 100000 in
set_option maxHeartbeats 1000000 in
theorem pin1_any (g L b bt : Nat) (a : Int) (st : List Int) (W : World) (h : W.heap[g]? = some (.cells (wordC st) 25 (0, 0))) (hL : st.length = L) (hl : L ≤ 1000) (ha : U64 a)
    (hbt : W.cell? ⟨bt, 0, none⟩ = some (.pointer (some ⟨b, 0, none⟩))) (hb : W.cell? ⟨b, 8, none⟩ = some (.int .u64 a)) (hg1 : bt < g) (hg2 : b < g) (_hz : g < W.heap.size) :
    Calls Tryz.prog 199 #[.slice (some ⟨g, 0, none⟩) L L, .pointer (some ⟨bt, 0, none⟩)] W fun e W' =>
      e = .returned (.tuple #[]) ∧ W'.heap[g]? = some (.cells (wordC (pinL a L)) 25 (0, 0)) ∧ Below g W W' := by
  have hl63 : (L : Int) ≤ 1000 := by omega
  obtain ⟨ha0, ha1⟩ := ha
  have H := hide h
  have HL := hide hL
  clear h hL
  go_enter Tryz.func199, Tryz.ntmps199
  go_wp2
  go_loopw [6] (fun i wr => ∃ k : Nat, k ≤ L ∧ i = .int .i64 k ∧ Hid (wr.heap[g]? = some (.cells (wordC (pinMix a st k)) 25 (0, 0))) ∧ Hid (Below g W wr)) (fun i _ => L - (intOf i).toNat)
  case atStart => exact ⟨0, Nat.zero_le _, rfl, hide (by rw [pinMix_zero]; exact H.out), hide (Below.refl _ _)⟩
  case round =>
    obtain ⟨k, hk, rfl, hG, hB⟩ := hrel
    by_cases hlt : k < L
    · have c0 := word_cell (i := k) hG.out (List.getElem?_eq_getElem (by rw [pinMix_len _ _ _ (by have := HL.out; omega)]; have := HL.out; omega))
      have f0 := frozen_of_row wr g k _ _ hG.out
      have hgl := (Array.getElem?_eq_some_iff.1 hG.out).1
      have t0 := (hB.out.cell (p := ⟨bt, 0, none⟩) hg1).trans hbt
      have t1 := (hB.out.cell (p := ⟨b, 8, none⟩) hg2).trans hb
      have q0 : (0 : Int) ≤ (k : Int) := by omega
      have q1 : (k : Int) < (L : Int) := by omega
      have q2 : (k : Int) ≤ 1000 := by omega
      have HG1 := hide (word_set (i := k) (x := (a + k) % 18446744073709551616) hG.out)
      have HM := hide (pinMix_set a st k (by have := HL.out; omega))
      go_wp2
      go_roundw
      case rel => exact ⟨k + 1, by omega, by go_num, hide (by rw [← HM.out]; exact HG1.out), hide (hB.out.setCell (by simp) _)⟩
      case measure => simp [intOf] <;> omega
    · obtain rfl : k = L := by omega
      go_wp2
      go_end0
      refine ⟨rfl, ?_, hB.out⟩
      have h := hG.out
      rw [← HL.out, pinMix_all, HL.out] at h
      exact h
abbrev pinW (w : World) (b : Nat) : World := (w.alloc (.cells #[.pointer (some ⟨b, 0, none⟩)] 144)).alloc (.cells #[.int .i64 0, .int .u64 0, .slice none 0 0] 57)
theorem pinW_below (w : World) (b : Nat) : Below w.heap.size w (pinW w b) := ((Below.refl _ w).alloc (Nat.le_refl _) _).alloc (by simp) _
theorem pinW_res (w : World) (b : Nat) : (pinW w b).heap[w.heap.size + 1]? = some (.cells #[.int .i64 0, .int .u64 0, .slice none 0 0] 57 (0, 0)) := by
  have := heap_alloc_new (w.alloc (.cells #[.pointer (some ⟨b, 0, none⟩)] 144)) (.cells #[.int .i64 0, .int .u64 0, .slice none 0 0] 57)
  simpa using this
set_option maxRecDepth 100000 in
set_option maxHeartbeats 4000000 in
theorem mpin_any (n : Int) (s : Sp) (c : Cl) (b B : Nat) (v : Value) (st : List Int) (w : World) (hT : ThAt w b n s v c) (hO : WOwn w B v st.length st) (hBw : B ≤ w.heap.size) (hl : st.length ≤ 1000)
    (ha : U64 c.a) (hk0 : 0 ≤ c.kind) (hk1 : c.kind < 2) :
    Calls Tryz.prog 152 #[.pointer (some ⟨b, 0, none⟩)] w (ThPost n s c b B (pinM st c) w) := by
  obtain ⟨a0, a1, a2, a3, a4, a5, a6, a7, a8, a9, a10, f4, hb⟩ := hT.cells
  have hsl : SlW w v st := wrow_sl hO (by unfold maxLen; omega)
  obtain ⟨vA, vc, rfl⟩ := own_slice hO
  have HT := hide hT
  have HO := hide hO
  have HS := hide hsl
  have hb1 : b < w.heap.size + 1 := by omega
  by_cases hk : c.kind = 1
  · have hM : pinM st c = (st, ⟨0, 0, st⟩) := by unfold pinM; rw [if_pos hk]
    rw [hM]
    rw [hk] at a7
    have N0 := fun W h => clone_any (.slice vA st.length vc) st W h (by omega)
    clear hT hO hsl hM hk
    go_enter Tryz.func152, Tryz.ntmps152
    go_wp2_with fail
    refine (N0 _ ?_).mono ?_
    · exact HS.out.below (pinW_below w b) (Nat.le_refl _)
    rintro e w4 ⟨v4, rfl, hown, hb4⟩
    have hB4 : Below (w.heap.size + 2) (pinW w b) w4 := hb4.mono (by simp)
    have hBw4 : Below w.heap.size w w4 := (pinW_below w b).trans (hB4.mono (by omega))
    have hown4 : WOwn w4 (w.heap.size + 2) v4 st.length st := World.ownsRow.mono hown (by simp)
    obtain ⟨A4, c4, rfl⟩ := own_slice hown4
    obtain ⟨r0, r1, r2, g0, g1, g2, rz⟩ := cells3 ((hB4.block (w.heap.size + 1) (by omega)).trans (pinW_res w b))
    have HW4 := hide hBw4
    have HO4 := hide hown4
    clear hown hb4 hB4 hBw4 hown4
    go_wp2
    refine bodyPost_ret (v := .agg #[.int .i64 0, .int .u64 0, .slice A4 st.length c4]) (by simp [results, Tryz.results152, go_sem, *]) rfl ?_
    exact mpost_list (r := w.heap.size + 1) (B' := w.heap.size + 2) hb HT.out HO.out HW4.out HO4.out (by omega) (by omega) hBw rfl (by (repeat' (first | exact Keep.refl _ _ | refine Keep.setCell ?_ (by simp) _ | refine Keep.drew ?_)))
  · have hk9 : c.kind = 0 := by omega
    rw [hk9] at a7
    by_cases h0 : c.thread = 0
    · have hM : pinM st c = (pinL c.a st.length, ⟨0, 0, []⟩) := by unfold pinM; rw [if_neg hk, if_neg (by omega)]; rfl
      rw [hM]
      rw [h0] at a5
      have hB0 := pinW_below w b
      have t0 : (pinW w b).cell? ⟨w.heap.size, 0, none⟩ = some (.pointer (some ⟨b, 0, none⟩)) := by unfold pinW; go_simp
      have t8 := (hB0.cell (p := ⟨b, 8, none⟩) hb).trans a8
      have N1 := change_any 199 b B #[.pointer (some ⟨w.heap.size, 0, none⟩)] n s c (.slice vA st.length vc) st (pinL c.a st.length) (pinW w b)
        (enter_of Tryz.func199 (by kernel_rfl) (by kernel_rfl)) (hT.of_block (hB0.block b hb)) (WOwn.below hO hB0 (Nat.le_refl _)) (by omega)
        (fun W hB hg hz => by
          have hB' : Below (w.heap.size + 2) (pinW w b) W := hB.mono (by simp)
          refine (pin1_any _ st.length b w.heap.size c.a st W hg rfl hl ha ((hB'.cell (p := ⟨w.heap.size, 0, none⟩) (by show w.heap.size < _; omega)).trans t0) ((hB'.cell (p := ⟨b, 8, none⟩) (by show b < _; omega)).trans t8) (by simp; omega) (by simp; omega) hz).mono ?_
          rintro e w' ⟨h1, h2, h3⟩
          exact ⟨h1, h2, h3⟩)
      have HN1 := hide N1
      have HB0 := hide hB0
      clear hT hO hsl hM hk h0 N1 hB0 t0 t8
      go_enter Tryz.func152, Tryz.ntmps152
      go_wp2_with fail
      refine HN1.out.mono ?_
      rintro e w3 ⟨rfl, hT3, hg3, hk3⟩
      obtain ⟨r0, r1, r2, g0, g1, g2, rz⟩ := cells3 ((hk3.block (w.heap.size + 1) ⟨by simp, by omega⟩).trans (pinW_res w b))
      have HT3 := hide hT3
      have HG3 := hide hg3
      have HK3 := hide hk3
      clear hT3 hg3 hk3
      go_wp2
      refine bodyPost_ret (v := .agg #[.int .i64 0, .int .u64 0, .slice none 0 0]) (by simp [results, Tryz.results152, go_sem, *]) rfl ?_
      refine mpost_new' (r := w.heap.size + 1) (B' := w.heap.size + 2) (L := st.length) HT3.out ?_ (by omega) (by omega) hBw hb rfl (by rw [pinL_len]) ?_ (by (repeat' (first | exact Keep.refl _ _ | refine Keep.setCell ?_ (by simp) _ | refine Keep.drew ?_)))
      · have h := word_own (B := w.heap.size + 2) HG3.out (by simp) (by rw [pinL_len]; omega)
        rw [pinL_len] at h
        exact h
      · exact (Keep.of_below (K := fun j => j < w.heap.size ∧ j ≠ b) HB0.out (fun k hk => hk.1)).trans (HK3.out.mono (fun k hk => ⟨by have := hk.1; simp; omega, hk.2⟩))
    · have hM : pinM st c = (st, ⟨11, 0, []⟩) := by unfold pinM; rw [if_neg hk, if_pos h0]; rfl
      rw [hM]
      have d0 : (c.thread != 0) = true := by simpa using h0
      clear hT hO hsl hM hk h0
      go_enter Tryz.func152, Tryz.ntmps152
      go_wp2_with fail
      refine (mno_any _ _).mono ?_
      rintro e w1 ⟨rfl, rfl⟩
      go_wp2
      refine bodyPost_ret (v := .agg #[.int .i64 11, .int .u64 0, .slice none 0 0]) (by simp [results, Tryz.results152, go_sem, *]) rfl ?_
      exact mpost_keep hb HT.out HO.out rfl (by (repeat' (first | exact Below.refl _ _ | assumption | refine Below.drew ?_ | refine Below.alloc ?_ (by first | omega | (simp; done) | (simp; omega)) _ | refine Below.setCell ?_ (by first | omega | (simp; done) | (simp; omega)) _)))
end Go.Proofs.YtmiimpmfkjcjlaaGreat
