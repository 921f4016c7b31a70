import Derived.Test.YtmiimpmfkjcjlaaGreatBun25
namespace Go.Proofs.YtmiimpmfkjcjlaaGreat
open Go.RowKit
attribute [local go_sem] run_store_fn run_store_nilfn
theorem ra_list {w w' : World} {B m : Nat} {v : Value} {st : List Int} (hO : WOwn w B v m st) (hl : st.length = m) (hmx : m ≤ maxLen) (hB : B ≤ w.heap.size) (h' : Keep (fun k => k < w.heap.size) w w') :
    RPost B (st, ⟨0, 0, st⟩) w (.returned (.tuple #[v, .agg #[.int .i64 0, .int .u64 0, v]])) w' := by
  have h1 : WOwn w' B v m st := owns_keepB hO h' (fun j _ hj => hj)
  have hs : SlW w' v st := wrow_sl (show WRow _ B _ st from by unfold WRow; rw [hl]; exact h1) (by rw [hl]; exact hmx)
  exact ⟨_, _, rfl, hs, hs, h'.below (fun k hk => by omega), tw_own h1, tw_own h1⟩
theorem ra_fin {w w5 w' : World} {B g m cap r : Nat} {st : List Int} (hO : WOwn w5 B (.slice (some ⟨g, 0, none⟩) m cap) m st) (hl : st.length = m) (hmx : m ≤ maxLen) (hb : Below B w w5) (hne : g ≠ r) (hr : B ≤ r) (h' : Keep (fun k => k ≠ r) w5 w') :
    RPost B (st, ⟨0, 0, []⟩) w (.returned (.tuple #[.slice (some ⟨g, 0, none⟩) m cap, .agg #[.int .i64 0, .int .u64 0, .slice none 0 0]])) w' := by
  have h1 : WOwn w' B (.slice (some ⟨g, 0, none⟩) m cap) m st := by
    obtain ⟨q1, ⟨q2, _⟩ | ⟨g', cap', cur, e1, e2, e3, e4⟩⟩ := hO
    · cases q2
    · cases e1
      exact ⟨q1, Or.inr ⟨g, cap, cur, rfl, e2, (h'.block g hne).trans e3, e4⟩⟩
  exact ⟨_, _, rfl, wrow_sl (show WRow _ B _ st from by unfold WRow; rw [hl]; exact h1) (by rw [hl]; exact hmx), slw_none _, hb.trans (h'.below (fun k hk => by omega)), tw_own h1, tw_none _ _ _⟩
abbrev rpinW (w : World) (s : Sp) (c : Cl) : World := ((w.alloc (.cells #[.int .i64 s.kind, .int .i64 s.p, .int .i64 s.q] 23)).alloc (.cells #[.int .i64 c.thread, .int .i64 c.obj, .int .i64 c.kind, .int .u64 c.a, .int .u64 c.b, .int .u64 c.c] 27)).alloc (.cells #[.int .i64 0, .int .u64 0, .slice none 0 0] 57)
set_option maxRecDepth 100000 in
set_option maxHeartbeats 2000000 in
theorem rpin_any (s : Sp) (c : Cl) (B m : Nat) (v : Value) (st : List Int) (w : World) (hO : WOwn w B v m st) (hm : 0 < m) (hm1 : m ≤ 1000) (hB : B ≤ w.heap.size) (ha : U64 c.a) :
    Calls Tryz.prog 91 #[spV s, v, clV c] w (RPost B (if ¬ (0 ≤ c.kind ∧ c.kind < 2) then (st, anE 9) else pinM st c) w) := by
  obtain ⟨g, cap, rfl, hBg, hg, hl, hmx, hf⟩ := wo_parts hO hm
  have hm2 : (m : Int) ≤ 1000 := by omega
  obtain ⟨ha0, ha1⟩ := ha
  have HO := hide hO
  have HL := hide hl
  clear hO hl hf
  rcases (by omega : c.kind = 1 ∨ c.kind = 0 ∨ ¬ (0 ≤ c.kind ∧ c.kind < 2)) with hk | hk | hk
  · have hR : (if ¬ (0 ≤ c.kind ∧ c.kind < 2) then (st, anE 9) else pinM st c) = (st, ⟨0, 0, st⟩) := by
      unfold pinM
      rw [if_neg (by omega), if_pos hk]
    rw [hR]
    have d1 : (c.kind == 1) = true := by simpa using hk
    clear hR hk
    go_enter Tryz.func91, Tryz.ntmps91
    go_wp2
    refine bodyPost_ret (v := .tuple #[.slice (some ⟨g, 0, none⟩) m cap, .agg #[.int .i64 0, .int .u64 0, .slice (some ⟨g, 0, none⟩) m cap]]) (by simp [results, Tryz.results91, go_sem, *]) rfl ?_
    refine ra_list HO.out HL.out hmx hB ?_
    (repeat' (first | exact Keep.refl _ _ | refine Keep.alloc ?_ (fun k (hk : k < w.heap.size) => by first | exact hk | (simp; omega)) _ | refine Keep.setCell ?_ (by first | (simp; done) | (simp; omega)) _ | refine Keep.drew ?_))
  · have d1 : (c.kind == 1) = false := by simp; omega
    have n0 : (c.kind != 0) = false := by simp; omega
    by_cases ht : c.thread = 0
    · have hR : (if ¬ (0 ≤ c.kind ∧ c.kind < 2) then (st, anE 9) else pinM st c) = (pinL c.a st.length, ⟨0, 0, []⟩) := by
        unfold pinM
        rw [if_neg (by omega), if_neg (by omega), if_neg (by omega)]
        rfl
      rw [hR]
      have t0 : (c.thread != 0) = false := by simpa using ht
      clear hR hk ht
      go_enter Tryz.func91, Tryz.ntmps91
      go_wp2
      go_loopw [27] (fun i wr => ∃ k : Nat, k ≤ m ∧ i = .int .i64 k ∧ Hid (WOwn wr B (.slice (some ⟨g, 0, none⟩) m cap) m (pinMix c.a st k)) ∧ Hid (Keep (fun j => j ≠ g) (rpinW w s c) wr)) (fun i _ => m - (intOf i).toNat)
      case atStart => exact ⟨0, Nat.zero_le _, rfl, hide (by rw [pinMix_zero]; exact World.ownsRow.alloc (World.ownsRow.alloc (World.ownsRow.alloc HO.out _) _) _), hide (Keep.refl _ _)⟩
      case round =>
        obtain ⟨k, hk, rfl, hG, hK⟩ := hrel
        have hzr := hK.out.size
        have hB2 : Below B w wr := ((((Below.refl B w).alloc hB _).alloc (by simp; omega) _).alloc (by simp; omega) _).trans (hK.out.below (fun k hk => by omega))
        simp at hzr
        have hlm := HL.out
        by_cases hlt : k < m
        · have hpl := pinMix_len c.a st k (by omega)
          obtain ⟨y, hy⟩ : ∃ y, (pinMix c.a st k)[k]? = some y := ⟨_, List.getElem?_eq_getElem (by omega)⟩
          have c0 := wo_cell hG.out hy
          have f0 := World.ownsRow.frozenAt hG.out k
          have hgr : g < wr.heap.size := by omega
          have p3 : wr.cell? ⟨w.heap.size + 1, 3, none⟩ = some (.int .u64 c.a) := (hK.out.cell (p := ⟨w.heap.size + 1, 3, none⟩) (by show w.heap.size + 1 ≠ g; omega)).trans (by go_simp)
          have q0 : (0 : Int) ≤ (k : Int) := by omega
          have q1 : (k : Int) < (m : Int) := by omega
          have q2 : (k : Int) ≤ 1000 := by omega
          have HG1 := hide (World.ownsRow.stored hG.out k (.int .u64 ((c.a + k) % 18446744073709551616))).1
          have HM := hide (pinMix_set c.a st k (by omega))
          clear hpl hlm hB2 hzr hy
          go_wp2
          go_roundw
          case rel => exact ⟨k + 1, by omega, by go_num, hide (by rw [← HM.out]; unfold WOwn; rw [List.map_set]; exact HG1.out), hide (hK.out.setCell (by simp) _)⟩
          case measure => simp [intOf] <;> omega
        · obtain rfl : k = m := by omega
          have HB2 := hide hB2
          have r2 := (hK.out.block (w.heap.size + 2) (by omega)).trans (legW_blocks w s c 0 0 (.slice none 0 0)).2.2
          obtain ⟨z0, z1, z2, g0, g1, g2, rz⟩ := cells3 r2
          clear r2 hB2 hlm
          go_wp2
          refine bodyPost_ret (v := .tuple #[.slice (some ⟨g, 0, none⟩) k cap, .agg #[.int .i64 0, .int .u64 0, .slice none 0 0]]) (by simp [results, Tryz.results91, go_sem, *]) rfl ?_
          have h := hG.out
          have hpe : pinMix c.a st k = pinL c.a st.length := by rw [← HL.out]; exact pinMix_all c.a st
          rw [hpe] at h
          refine ra_fin h (by rw [pinL_len]; exact HL.out) hmx HB2.out (r := w.heap.size + 2) (by omega) (by omega) ?_
          (repeat' (first | exact Keep.refl _ _ | refine Keep.setCell ?_ (by simp) _ | refine Keep.drew ?_))
    · have hR : (if ¬ (0 ≤ c.kind ∧ c.kind < 2) then (st, anE 9) else pinM st c) = (st, ⟨11, 0, []⟩) := by
        unfold pinM
        rw [if_neg (by omega), if_neg (by omega), if_pos ht]
        rfl
      rw [hR]
      have t0 : (c.thread != 0) = true := by simpa using ht
      clear hR hk ht
      go_enter Tryz.func91, Tryz.ntmps91
      go_wp2
      refine bodyPost_ret (v := .tuple #[.slice (some ⟨g, 0, none⟩) m cap, .agg #[.int .i64 11, .int .u64 0, .slice none 0 0]]) (by simp [results, Tryz.results91, go_sem, *]) rfl ?_
      refine ra_same HO.out HL.out hmx hB ?_
      (repeat' (first | exact Keep.refl _ _ | refine Keep.alloc ?_ (fun k (hk : k < w.heap.size) => by first | exact hk | (simp; omega)) _ | refine Keep.setCell ?_ (by first | (simp; done) | (simp; omega)) _ | refine Keep.drew ?_))
  · have hR : (if ¬ (0 ≤ c.kind ∧ c.kind < 2) then (st, anE 9) else pinM st c) = (st, ⟨9, 0, []⟩) := by
      rw [if_pos hk]
      rfl
    rw [hR]
    have d1 : (c.kind == 1) = false := by simp; omega
    have n0 : (c.kind != 0) = true := by simp; omega
    clear hR hk
    go_enter Tryz.func91, Tryz.ntmps91
    go_wp2
    refine bodyPost_ret (v := .tuple #[.slice (some ⟨g, 0, none⟩) m cap, .agg #[.int .i64 9, .int .u64 0, .slice none 0 0]]) (by simp [results, Tryz.results91, go_sem, *]) rfl ?_
    refine ra_same HO.out HL.out hmx hB ?_
    (repeat' (first | exact Keep.refl _ _ | refine Keep.alloc ?_ (fun k (hk : k < w.heap.size) => by first | exact hk | (simp; omega)) _ | refine Keep.setCell ?_ (by first | (simp; done) | (simp; omega)) _ | refine Keep.drew ?_))
end Go.Proofs.YtmiimpmfkjcjlaaGreat

namespace Go.Proofs.YtmiimpmfkjcjlaaGreat
open Go.RowKit
attribute [local go_sem] run_store_fn run_store_nilfn
theorem ra_put2 {w w' : World} {B g m cap i j : Nat} {st : List Int} {E V x y : Int} (hO : WOwn w B (.slice (some ⟨g, 0, none⟩) m cap) m st) (hl : st.length = m) (hmx : m ≤ maxLen) (hB : B ≤ w.heap.size) (hBg : B ≤ g) (hg : g < w.heap.size)
    (h' : Keep (fun k => k < w.heap.size) ((w.setCell ⟨g, i, none⟩ (.int .u64 x)).setCell ⟨g, j, none⟩ (.int .u64 y)) w') :
    RPost B ((st.set i x).set j y, ⟨E, V, []⟩) w (.returned (.tuple #[.slice (some ⟨g, 0, none⟩) m cap, .agg #[.int .i64 E, .int .u64 V, .slice none 0 0]])) w' := by
  obtain ⟨h1, h2⟩ := ra_set (j := i) (y := x) hO hB hBg hg (Keep.refl _ _)
  have hs : (w.setCell ⟨g, i, none⟩ (.int .u64 x)).heap.size = w.heap.size := by simp
  obtain ⟨v, L, e, q1, q2, q3, q4⟩ := ra_put (E := E) (V := V) h1 (by rw [List.length_set]; exact hl) hmx (by rw [hs]; exact hB) hBg (by rw [hs]; exact hg) (h'.mono (fun k hk => by rw [hs] at hk; exact hk))
  exact ⟨v, L, e, q1, q2, h2.trans q3, q4⟩
set_option maxRecDepth 100000 in
set_option maxHeartbeats 2000000 in
theorem rsnap_any (mm tt M : Nat) (most n : Int) (c u : Cl) (B : Nat) (v : Value) (st : List Int) (w : World) (hO : WOwn w B v M st) (hM : mm + tt < M) (hM1 : M ≤ 1000) (hmm : 0 < mm) (hB : B ≤ w.heap.size) (ha : U64 u.a) (hu : ∀ z ∈ st, U64 z)
    (hn : (tt : Int) < n) (hmo : 0 ≤ most) (hmo2 : most < 1000000) (hct : c.thread = (tt : Int)) (hk1 : c.kind ≠ 1) :
    Calls Tryz.prog 88 #[.int .i64 (mm : Int), .int .i64 most, .int .i64 n, v, .int .i64 (tt : Int), clV c, clV u] w (RPost B (if ¬ (0 ≤ c.kind ∧ c.kind < 2) then (st, anE 9) else partsM mm most u.a u.b st c) w) := by
  obtain ⟨g, cap, rfl, hBg, hg, hl, hmx, hf⟩ := wo_parts hO (by omega)
  have hm2 : (M : Int) ≤ 1000 := by omega
  have hm3 : (mm : Int) + (tt : Int) < (M : Int) := by omega
  obtain ⟨ha0, ha1⟩ := ha
  obtain ⟨y, hy⟩ : ∃ y, st[mm + tt]? = some y := ⟨_, List.getElem?_eq_getElem (by omega)⟩
  obtain ⟨hy0, hy1⟩ := hu y (List.mem_of_getElem? hy)
  have hat : at0 st ((mm : Int) + c.thread).toNat = y := by rw [hct]; unfold at0; rw [show ((mm : Int) + (tt : Int)).toNat = mm + tt from by omega, hy]; rfl
  have c0 := wo_cell hO hy
  have f0 := hf (mm + tt)
  have wm : IntKind.u64.wrap (mm : Int) = mm := by rw [IntKind.wrap_u64]; omega
  have wo : IntKind.u64.wrap most = most := by rw [IntKind.wrap_u64]; omega
  have wi : IntKind.i64.wrap ((mm : Int) + (tt : Int)) = (mm : Int) + (tt : Int) := wrap_i64 (by omega) (by omega)
  have hg1 : g < w.heap.size + 1 := by omega
  have hg2 : g < w.heap.size + 1 + 1 := by omega
  have hg3 : g < w.heap.size + 2 := by omega
  have HO := hide hO
  have HL := hide hl
  have d1 : (c.kind == 1) = false := by simpa using hk1
  have t0 : decide ((tt : Int) < 0) = false := by simp
  have t1 : decide (n ≤ (tt : Int)) = false := by simp; omega
  have x0 : (0 : Int) ≤ (mm : Int) + (tt : Int) := by omega
  have x1 : ((mm : Int) + (tt : Int)).toNat = mm + tt := by omega
  by_cases hk : c.kind = 0
  · have n0 : (c.kind != 0) = false := by simpa using hk
    by_cases hp : (mm : Int) ≤ u.a
    · have hR : (if ¬ (0 ≤ c.kind ∧ c.kind < 2) then (st, anE 9) else partsM mm most u.a u.b st c) = (st, ⟨10, 0, []⟩) := by
        unfold partsM
        rw [if_neg (by omega), if_neg hk1, if_pos hp]
        rfl
      rw [hR]
      have e0 : decide ((mm : Int) ≤ u.a) = true := by simpa using hp
      clear hR hk hk1 hp hO hl hf hy hu hat
      go_enter Tryz.func88, Tryz.ntmps88
      go_wp2
      refine bodyPost_ret (v := .tuple #[.slice (some ⟨g, 0, none⟩) M cap, .agg #[.int .i64 10, .int .u64 0, .slice none 0 0]]) (by simp [results, Tryz.results88, go_sem, *]) rfl ?_
      refine ra_same HO.out HL.out hmx hB ?_
      (repeat' (first | exact Keep.refl _ _ | refine Keep.alloc ?_ (fun k (hk : k < w.heap.size) => by first | exact hk | (simp; omega)) _ | refine Keep.setCell ?_ (by first | (simp; done) | (simp; omega)) _ | refine Keep.drew ?_))
    · have e0 : decide ((mm : Int) ≤ u.a) = false := by simpa using hp
      by_cases hq : most ≤ y
      · have hR : (if ¬ (0 ≤ c.kind ∧ c.kind < 2) then (st, anE 9) else partsM mm most u.a u.b st c) = (st, ⟨6, 0, []⟩) := by
          unfold partsM
          rw [if_neg (by omega), if_neg hk1, if_neg hp, hat, if_pos hq]
          rfl
        rw [hR]
        have e1 : decide (most ≤ y) = true := by simpa using hq
        clear hR hk hk1 hp hO hl hf hy hu hat hq
        go_enter Tryz.func88, Tryz.ntmps88
        go_wp2
        refine bodyPost_ret (v := .tuple #[.slice (some ⟨g, 0, none⟩) M cap, .agg #[.int .i64 6, .int .u64 0, .slice none 0 0]]) (by simp [results, Tryz.results88, go_sem, *]) rfl ?_
        refine ra_same HO.out HL.out hmx hB ?_
        (repeat' (first | exact Keep.refl _ _ | refine Keep.alloc ?_ (fun k (hk : k < w.heap.size) => by first | exact hk | (simp; omega)) _ | refine Keep.setCell ?_ (by first | (simp; done) | (simp; omega)) _ | refine Keep.drew ?_))
      · obtain ⟨pp, hpp⟩ : ∃ pp : Nat, u.a = (pp : Int) := ⟨u.a.toNat, by omega⟩
        have hp2 : pp < M := by omega
        have hR : (if ¬ (0 ≤ c.kind ∧ c.kind < 2) then (st, anE 9) else partsM mm most u.a u.b st c) = ((st.set pp u.b).set (mm + tt) (y + 1), ⟨0, 0, []⟩) := by
          unfold partsM
          rw [if_neg (by omega), if_neg hk1, if_neg hp, hat, if_neg hq, hct, show ((mm : Int) + (tt : Int)).toNat = mm + tt from by omega, hpp, Int.toNat_natCast]
          rfl
        rw [hR]
        obtain ⟨z, hz⟩ : ∃ z, st[pp]? = some z := ⟨_, List.getElem?_eq_getElem (by omega)⟩
        have c1 := wo_cell hO hz
        have f1 := hf pp
        have e1 : decide (most ≤ y) = false := by simpa using hq
        have wp : IntKind.i64.wrap u.a = (pp : Int) := by rw [wrap_i64 (by omega) (by omega)]; exact hpp
        have wy : IntKind.u64.wrap (y + 1) = y + 1 := by rw [IntKind.wrap_u64]; omega
        have p0 : (pp : Int) < (M : Int) := by omega
        have p1 : pp ≠ mm + tt := by omega
        have p2 : ¬ (mm + tt = pp) := by omega
        clear hR hk hk1 hp hO hl hf hy hu hat hq hz hpp
        go_enter Tryz.func88, Tryz.ntmps88
        go_wp2
        refine bodyPost_ret (v := .tuple #[.slice (some ⟨g, 0, none⟩) M cap, .agg #[.int .i64 0, .int .u64 0, .slice none 0 0]]) (by simp [results, Tryz.results88, go_sem, *]) rfl ?_
        refine ra_put2 HO.out HL.out hmx hB hBg hg ?_
        (repeat' (first | exact Keep.refl _ _ | refine Keep.alloc ?_ (fun k (hk : k < w.heap.size) => by first | exact hk | (simp; omega)) _ | refine Keep.setCell ?_ (by first | (simp; done) | (simp; omega)) _ | refine Keep.drew ?_))
  · have hR : (if ¬ (0 ≤ c.kind ∧ c.kind < 2) then (st, anE 9) else partsM mm most u.a u.b st c) = (st, ⟨9, 0, []⟩) := by
      rw [if_pos (by omega)]
      rfl
    rw [hR]
    have n0 : (c.kind != 0) = true := by simpa using hk
    clear hR hk hk1 hO hl hf hy hu hat
    go_enter Tryz.func88, Tryz.ntmps88
    go_wp2
    refine bodyPost_ret (v := .tuple #[.slice (some ⟨g, 0, none⟩) M cap, .agg #[.int .i64 9, .int .u64 0, .slice none 0 0]]) (by simp [results, Tryz.results88, go_sem, *]) rfl ?_
    refine ra_same HO.out HL.out hmx hB ?_
    (repeat' (first | exact Keep.refl _ _ | refine Keep.alloc ?_ (fun k (hk : k < w.heap.size) => by first | exact hk | (simp; omega)) _ | refine Keep.setCell ?_ (by first | (simp; done) | (simp; omega)) _ | refine Keep.drew ?_))
end Go.Proofs.YtmiimpmfkjcjlaaGreat

namespace Go.Proofs.YtmiimpmfkjcjlaaGreat
open Go.RowKit
attribute [local go_sem] run_store_fn run_store_nilfn
theorem wpList_dup {W0 : World} {ops : Array Oper} {rest : List Oper} {o : Oper} {a : Act} {Q : Exit → Act → World → Prop} (hgd : o.guard = none) (s x : Operand)
    (ho : o.op = .call { callee := .builtin .append, args := #[s, x], argTypes := #[24, 24] }) {b : Nat} (hs : a.eval s = .slice (some ⟨b, 0, none⟩) 0 0) (hb : b = W0.heap.size)
    {src : Value} (hx : a.eval x = src) {st : List Int} (h : SlW W0 src st) (hm : st.length ≤ 1000000)
    (hK : ∀ v' w', WOwn w' b v' st.length st → Below b W0 w' → wpList Tryz.prog ops Q rest (a.put o.dst v') w') : wpList Tryz.prog ops Q (o :: rest) a (W0.alloc (.cells #[] 25)) := by
  subst hb
  obtain ⟨i0, hi, hz0, hz1, hz2⟩ := info_parts info_word
  have h' := h.alloc (.cells #[] 25)
  obtain ⟨A, c, rfl, _⟩ := id h
  refine wpList_append_sl (kk := .u64) hgd s x 24 ho W0.heap.size 25 i0 (.int .u64 0) 8 Tryz.underlying24 hi hz0 hz1 hz2 rfl _ 0 [] hs (World.ownsRow_made W0 #[] 0 (Nat.le_refl _) (Nat.zero_le _) rfl) A _ c st hx h' (by unfold maxLen; omega) (by omega) (by simp) ?_
  intro v' w' h1 h2 _
  refine hK v' w' ?_ (((Below.refl _ W0).alloc (Nat.le_refl _) _).grown h2 (by simp) (fun k hk => ?_))
  · simpa using h1
  · have := Option.some.inj (show some W0.heap.size = some k from hk)
    omega
theorem ra_lists {w w5 w' : World} {B m r : Nat} {v L : Value} {st l : List Int} (hO : WOwn w B v m st) (hl : st.length = m) (hmx : m ≤ maxLen) (hB : B ≤ w.heap.size) (hb : Below w.heap.size w w5) (hL : WOwn w5 r L l.length l) (hlx : l.length ≤ maxLen) (_hr : w.heap.size ≤ r)
    (h' : Keep (fun j => j < w.heap.size ∨ r ≤ j) w5 w') : RPost B (st, ⟨0, 0, l⟩) w (.returned (.tuple #[v, .agg #[.int .i64 0, .int .u64 0, L]])) w' := by
  have hb' : Below w.heap.size w w' := hb.trans (h'.below (fun k hk => Or.inl hk))
  have h1 : WOwn w' B v m st := owns_keepB hO (Keep.of_below hb' (fun k hk => hk)) (fun j _ hj => hj)
  have h2 : WOwn w' r L l.length l := owns_keepB hL h' (fun j hj _ => Or.inr hj)
  exact ⟨_, _, rfl, wrow_sl (show WRow _ B _ st from by unfold WRow; rw [hl]; exact h1) (by rw [hl]; exact hmx), wrow_sl (show WRow _ r _ l from h2) hlx, hb'.mono hB, tw_own h1, tw_own h2⟩
theorem ra_ans3 (w : World) (a b d : Obj) : (((w.alloc a).alloc b).alloc d).heap[w.heap.size + 2]? = some d := by
  have hs : ((w.alloc a).alloc b).heap.size = w.heap.size + 2 := by simp
  have h := heap_alloc_new ((w.alloc a).alloc b) d
  rw [hs] at h
  exact h
set_option maxRecDepth 100000 in
set_option maxHeartbeats 2000000 in
theorem rsnap_1 (mm M : Nat) (most n t : Int) (c u : Cl) (B : Nat) (v : Value) (st : List Int) (w : World) (hO : WOwn w B v M st) (hM : mm < M) (hM1 : M ≤ 1000) (hB : B ≤ w.heap.size) (hk1 : c.kind = 1) :
    Calls Tryz.prog 88 #[.int .i64 (mm : Int), .int .i64 most, .int .i64 n, v, .int .i64 t, clV c, clV u] w (RPost B (st, ⟨0, 0, st.take mm⟩) w) := by
  obtain ⟨g, cap, rfl, hBg, hg, hl, hmx, hf⟩ := wo_parts hO (by omega)
  have hm2 : (M : Int) ≤ 1000 := by omega
  have hm3 : (mm : Int) ≤ (M : Int) := by omega
  have hm4 : mm ≤ M := by omega
  have hcap : M ≤ cap := by rcases hO.2 with ⟨h, _⟩ | ⟨_, _, _, h, _, _, h1, _⟩ <;> cases h; exact h1
  have hm5 : mm ≤ cap := by omega
  have hm6 : (mm : Int) ≤ (cap : Int) := by omega
  have d1 : (c.kind == 1) = true := by simpa using hk1
  have hlt : (st.take mm).length = mm := by rw [List.length_take]; omega
  have hst : SlW w (.slice (some ⟨g, 0, none⟩) mm cap) (st.take mm) := sl_take (wrow_sl (show WRow w B _ st from by unfold WRow; rw [hl]; exact hO) (by rw [hl]; exact hmx)) (by omega)
  have HO := hide hO
  have HL := hide hl
  have HT := hide hlt
  have HS := hide hst
  generalize st.take mm = tk at *
  clear hO hl hf hk1 hlt hst hcap
  go_enter Tryz.func88, Tryz.ntmps88
  go_wp2_with (at_builtin; refine wpList_dup rfl _ _ rfl rfl (by first | rfl | (simp; done) | simp) rfl (((HS.out.alloc _).alloc _).alloc _) (by rw [HT.out]; omega) ?_; intro v5 w5 hown5 hB5; have hans : w5.heap[w.heap.size + 2]? = some (.cells #[.int .i64 0, .int .u64 0, .slice none 0 0] 57 (0, 0)) := (hB5.block _ (by omega)).trans (ra_ans3 w _ _ _); obtain ⟨A5, c5, rfl⟩ := own_slice hown5; obtain ⟨z0, z1, z2, g0, g1, g2, rz⟩ := cells3 hans; have HO5 := hide hown5; have HB5 : Hid (Below w.heap.size w w5) := hide ((((Below.refl _ w).alloc (Nat.le_refl _) _).alloc (by simp) _ |>.alloc (by simp; omega) _).trans (hB5.mono (by omega))); clear hans hown5 hB5)
  refine bodyPost_ret (v := .tuple #[.slice (some ⟨g, 0, none⟩) M cap, .agg #[.int .i64 0, .int .u64 0, .slice A5 tk.length c5]]) (by simp [results, Tryz.results88, go_sem, *]) rfl ?_
  refine ra_lists HO.out HL.out hmx hB HB5.out HO5.out (by rw [HT.out]; omega) (by omega) ?_
  repeat' (first | exact Keep.refl _ _ | refine Keep.setCell ?_ (by simp; omega) _ | refine Keep.drew ?_)
end Go.Proofs.YtmiimpmfkjcjlaaGreat
