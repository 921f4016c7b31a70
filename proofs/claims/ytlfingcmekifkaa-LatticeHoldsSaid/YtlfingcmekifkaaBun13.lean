/- A lattice's scans (package snap): differs. -/
/- Arrays of words: equality; a scan's two collects are held against one another. -/
/- Stores of many cells into a row's block. -/
import Derived.Test.YtlfingcmekifkaaLw1
import Derived.Test.YtlfingcmekifkaaBun6
namespace Go.Proofs.Ytlfingcmekifkaa
open Go.RowKit

theorem fndN_first {n t : Nat} {s : Sc} (ht : t < n) (h : s.old t ≠ s.now t ∧ s.diff t = true) (hf : ∀ i, i < t → ¬ (s.old i ≠ s.now i ∧ s.diff i = true)) : fndN n s = some t := by
  unfold fndN
  rw [List.find?_range_eq_some]
  refine ⟨by rw [decide_eq_true h.1, h.2]; rfl, List.mem_range.2 ht, fun j hj => ?_⟩
  have := hf j hj
  simp only [Bool.not_eq_true', Bool.and_eq_false_iff, decide_eq_false_iff_not]
  by_cases h1 : s.old j = s.now j
  · exact Or.inl (fun h => h h1)
  · refine Or.inr ?_
    rcases hd : s.diff j with _ | _
    · rfl
    · exact absurd ⟨h1, hd⟩ this
theorem fndN_none {n : Nat} {s : Sc} (hf : ∀ i, i < n → ¬ (s.old i ≠ s.now i ∧ s.diff i = true)) : fndN n s = none := by
  unfold fndN
  rw [List.find?_eq_none]
  intro i hi
  have := hf i (List.mem_range.1 hi)
  simpa using this
theorem markN_zero (s : Sc) : markN 0 s = s.diff := by
  funext i
  unfold markN
  simp
theorem markN_same {t : Nat} {s : Sc} (h : s.old t = s.now t) : markN (t + 1) s = markN t s := by
  funext i
  unfold markN
  by_cases e : i = t
  · subst e
    rw [h]
    simp
  · rw [show decide (i < t + 1) = decide (i < t) by apply decide_eq_decide.2; omega]
theorem markN_next {t : Nat} {s : Sc} (h : s.old t ≠ s.now t) (i : Nat) : markN (t + 1) s i = if i = t then true else markN t s i := by
  unfold markN
  by_cases e : i = t
  · subst e
    rw [if_pos rfl, decide_eq_true h]
    simp
  · rw [if_neg e, show decide (i < t + 1) = decide (i < t) by apply decide_eq_decide.2; omega]
def difV (n : Nat) (s : Sc) : Int × Bool × (Nat → Bool) := match fndN n s with
  | some t => (s.now t, true, markN t s)
  | none => (0, false, markN n s)
set_option maxRecDepth 100000 in
set_option maxHeartbeats 2000000 in
theorem scDiffers {w : World} {bs ps n : Nat} {lv : Value} {s : Sc} (h : ScAt w bs ps lv s) (hn : w.cell? ⟨ps, 1, none⟩ = some (.int .i64 (n : Int))) (hp : ps < w.heap.size ∧ ps ≠ bs) (hn16 : n ≤ 16) :
    Calls Try.prog 130 #[.pointer (some ⟨bs, 0, none⟩)] w fun e w' => e = .returned (.tuple #[.int .u64 (difV n s).1, .bool (difV n s).2.1]) ∧ ScAt w' bs ps lv { s with diff := (difV n s).2.2 } ∧ Keep (fun k => k < w.heap.size ∧ k ≠ bs) w w' := by
  obtain ⟨f, hrow, hf⟩ := h.row
  have c0 := hrow.cell (i := 0) (by omega)
  rw [hf.p] at c0
  obtain ⟨RES, hRES⟩ : ∃ R, difV n s = R := ⟨_, rfl⟩
  rw [hRES]
  have HRES := hide hRES
  have HH := hide h
  have HPS := hide hp
  have HFF := hide hf
  have hn' : (n : Int) ≤ 16 := by omega
  have zb := hrow.lt
  clear h hp hf hrow hRES
  go_enter Try.func130, Try.ntmps130
  go_wp2
  go_loopw [12] (fun i wr => ∃ t : Nat, t ≤ n ∧ i = .int .i64 (t : Int) ∧ Hid (ScAt wr bs ps lv { s with diff := markN t s }) ∧ Hid (Keep (fun k => k < w.heap.size ∧ k ≠ bs) w wr) ∧ Hid (∀ i, i < t → ¬ (s.old i ≠ s.now i ∧ s.diff i = true))) (fun i _ => n - (intOf i).toNat)
  case atStart => exact ⟨0, Nat.zero_le _, rfl, hide (by rw [markN_zero]; exact HH.out), hide (Keep.refl _ _), hide (fun i hi => absurd hi (Nat.not_lt_zero i))⟩
  case round =>
    obtain ⟨t, htn, rfl, hS, hK, hN⟩ := hrel
    by_cases hlt : t < n
    · obtain ⟨f, hrow, hf⟩ := hS.out.row
      obtain ⟨x, hx⟩ : ∃ x, s.old t = x := ⟨_, rfl⟩
      obtain ⟨y, hy⟩ : ∃ y, s.now t = y := ⟨_, rfl⟩
      have q0 := hrow.cell (i := 4 + t) (by omega)
      have q1 := hrow.cell (i := 20 + t) (by omega)
      have q2 := hrow.cell (i := 37 + t) (by omega)
      rw [hf.old t (by omega)] at q0
      rw [hf.now t (by omega)] at q1
      rw [hf.diff t (by omega)] at q2
      have hmt : markN t s t = s.diff t := by unfold markN; simp
      replace q0 : wr.cell? ⟨bs, 4 + t, none⟩ = some (.int .u64 x) := by rw [q0]; show some (Value.int .u64 (s.old t)) = _; rw [hx]
      replace q1 : wr.cell? ⟨bs, 20 + t, none⟩ = some (.int .u64 y) := by rw [q1]; show some (Value.int .u64 (s.now t)) = _; rw [hy]
      replace q2 : wr.cell? ⟨bs, 37 + t, none⟩ = some (.bool (s.diff t)) := by rw [q2]; show some (Value.bool (markN t s t)) = _; rw [hmt]
      have g2 := hrow.frozen (37 + t)
      have zb := hrow.lt
      have hlt' : (t : Int) < (n : Int) := by omega
      have ht' : (t : Int) < 16 := by omega
      have HX := hide hx
      have HY := hide hy
      have HMT := hide hmt
      clear hf hrow hx hy hmt
      by_cases hxy : x = y
      · have d0 : (x == y) = true := by simpa using hxy
        have HE := hide (show s.old t = s.now t by rw [HX.out, HY.out, hxy])
        clear hxy
        go_wp2
        refine wp_region_seq (fun Y => Y.cell? ⟨bs, 4 + t, none⟩ = some (.int .u64 x) ∧ Y.cell? ⟨bs, 20 + t, none⟩ = some (.int .u64 y)) (.take 0 <| .take 1 <| .take 2 <| .take 3 <| .take 4 <| .take 5 <| .take 6 <| .take 7 <| .take 8 <| .take 9 <| .take 10 <| .take 11 <| .take 12 <| .done) (by kernel_rfl) (by kernel_rfl) (by kernel_rfl) (by refine ⟨?_, ?_⟩ <;> go_simp) ?_
        iterate 13 (refine seq_take (v := ?_) rfl (by rfl) ?_ ?_; rotate_left; (focus (intro wS hS; obtain ⟨s0, s1⟩ := hS; go_simp; exact rfl)); simp only [Act.put, List.setIfInBounds_toArray, List.set_cons_zero, List.set_cons_succ])
        refine seq_nil ?_
        go_wp2
        go_roundw
        case rel => exact ⟨t + 1, by omega, by go_num, hide (by rw [markN_same HE.out]; exact hS.out.keep ((Keep.refl (fun _ => True) wr).drew) trivial (fun _ _ => trivial)), hide hK.out.drew, hide (fun i hi => by
          by_cases e : i = t
          · subst e
            exact fun h => h.1 HE.out
          · exact hN.out i (by omega))⟩
        case measure => first | (simp [intOf]; done) | (simp [intOf]; omega)
      · have d0 : (x == y) = false := by simpa using hxy
        have HE := hide (show s.old t ≠ s.now t by rw [HX.out, HY.out]; exact hxy)
        clear hxy
        rcases hd : s.diff t with _ | _
        · rw [hd] at q2
          have HD := hide hd
          clear hd
          go_wp2
          refine wp_region_seq (fun Y => Y.cell? ⟨bs, 4 + t, none⟩ = some (.int .u64 x) ∧ Y.cell? ⟨bs, 20 + t, none⟩ = some (.int .u64 y)) (.take 0 <| .take 1 <| .take 2 <| .take 3 <| .take 4 <| .take 5 <| .take 6 <| .take 7 <| .take 8 <| .take 9 <| .take 10 <| .take 11 <| .take 12 <| .done) (by kernel_rfl) (by kernel_rfl) (by kernel_rfl) (by refine ⟨?_, ?_⟩ <;> go_simp) ?_
          iterate 13 (refine seq_take (v := ?_) rfl (by rfl) ?_ ?_; rotate_left; (focus (intro wS hS; obtain ⟨s0, s1⟩ := hS; go_simp; exact rfl)); simp only [Act.put, List.setIfInBounds_toArray, List.set_cons_zero, List.set_cons_succ])
          refine seq_nil ?_
          go_wp2
          go_roundw
          case rel =>
            have h0 := hS.out.keep ((Keep.refl (fun _ => True) wr).drew) trivial (fun _ _ => trivial)
            have h1 := h0.set (s' := { s with diff := markN (t + 1) s }) (37 + t) (.bool true) rfl (fun f hf => by
              obtain ⟨b0, b1, b2, b3, b4, b5, b6, b7, b8, b9, b10⟩ := hf
              refine ⟨?_, ?_, ?_, ?_, fun i hi => ?_, fun i hi => ?_, ?_, fun i hi => ?_, ?_, ?_, ?_⟩
              all_goals first | (rw [if_neg (by omega)]; first | assumption | exact b4 i hi | exact b5 i hi) | skip
              show _ = Value.bool (markN (t + 1) s i)
              rw [markN_next HE.out]
              by_cases e : i = t
              · subst e
                rw [if_pos rfl, if_pos rfl]
              · rw [if_neg (by omega), if_neg e]
                exact b7 i hi)
            exact ⟨t + 1, by omega, by go_num, hide h1, hide (hK.out.drew.setCell (fun hh => hh.2 rfl) _), hide (fun i hi => by
              by_cases e : i = t
              · subst e
                exact fun h => by rw [HD.out] at h; cases h.2
              · exact hN.out i (by omega))⟩
          case measure => first | (simp [intOf]; done) | (simp [intOf]; omega)
        · rw [hd] at q2
          have hR : RES = (s.now t, true, markN t s) := by rw [← HRES.out]; unfold difV; rw [fndN_first hlt ⟨HE.out, hd⟩ hN.out]
          have HR := hide hR
          clear hd hR
          go_wp2
          refine wp_region_seq (fun Y => Y.cell? ⟨bs, 4 + t, none⟩ = some (.int .u64 x) ∧ Y.cell? ⟨bs, 20 + t, none⟩ = some (.int .u64 y)) (.take 0 <| .take 1 <| .take 2 <| .take 3 <| .take 4 <| .take 5 <| .take 6 <| .take 7 <| .take 8 <| .take 9 <| .take 10 <| .take 11 <| .take 12 <| .done) (by kernel_rfl) (by kernel_rfl) (by kernel_rfl) (by refine ⟨?_, ?_⟩ <;> go_simp) ?_
          iterate 13 (refine seq_take (v := ?_) rfl (by rfl) ?_ ?_; rotate_left; (focus (intro wS hS; obtain ⟨s0, s1⟩ := hS; go_simp; exact rfl)); simp only [Act.put, List.setIfInBounds_toArray, List.set_cons_zero, List.set_cons_succ])
          refine seq_nil ?_
          go_wp2
          try simp only [Exit.inBlock, Exit.then]
          refine bodyPost_ret (v := .tuple #[.int .u64 y, .bool true]) (by simp [results, Try.results130, go_sem]) rfl ?_
          rw [HR.out]
          exact ⟨by rw [HY.out], hS.out.keep ((Keep.refl (fun _ => True) wr).drew) trivial (fun _ _ => trivial), hK.out.drew⟩
    · obtain rfl : t = n := by omega
      have hR : RES = (0, false, markN t s) := by rw [← HRES.out]; unfold difV; rw [fndN_none hN.out]
      have HR := hide hR
      clear hR
      go_wp2
      try simp only [Exit.inBlock, Exit.then]
      refine bodyPost_ret (v := .tuple #[.int .u64 0, .bool false]) (by simp [results, Try.results130, go_sem]) rfl ?_
      rw [HR.out]
      exact ⟨rfl, hS.out, hK.out⟩
end Go.Proofs.Ytlfingcmekifkaa

namespace Go.Proofs.Ytlfingcmekifkaa
open Go.RowKit

theorem all_range_int : ∀ (xs ys : List Int), xs.length = ys.length → ((List.range xs.length).all fun i => xs.getD i 0 == ys.getD i 0) = (xs == ys)
  | [], [], _ => rfl
  | x :: xs, y :: ys, h => by
    have ih := all_range_int xs ys (by simpa using h)
    rw [List.length_cons, List.range_succ_eq_map, List.all_cons, List.all_map]
    simp only [List.getD_cons_zero, Function.comp_def, List.getD_cons_succ, ih]
    simp [List.cons_beq_cons]
  | [], _ :: _, h => by simp at h
  | _ :: _, [], h => by simp at h
theorem run_equalIn_words {P : Program} (w : World) (d : Nat) (t e : TypeId) (n : Nat) (ht : P.underlying t = some (.array n e)) (he : P.underlying e = some (.int .u64)) (hsz : ∀ w, (sizeOf e).run P w = .ok 1 w)
    (xs ys : List Int) (hx : xs.length = n) (hy : ys.length = n) :
    (Op.equalIn (d + 2) t (.agg (xs.map (Value.int .u64)).toArray) (.agg (ys.map (Value.int .u64)).toArray)).run P w = .ok (xs == ys) w := by
  rw [← all_range_int xs ys (hx.trans hy.symm), hx, List.range_eq_range', Op.equalIn]
  simp only [Sem.run_bind, run_underlying ht, Result.andThen_ok, hsz, Std.Legacy.Range.forIn_eq_forIn_range', Std.Legacy.Range.size, Nat.sub_zero, Nat.add_sub_cancel, Nat.div_one]
  have hl : ∀ i ∈ List.range' 0 n 1, i < n := fun i hi => by simpa using (List.mem_range'_1.1 hi).2
  generalize List.range' 0 n 1 = l at hl ⊢
  induction l with
  | nil => simp
  | cons i l ih =>
    have hi : i < n := hl i (by simp)
    have px : (part e (xs.map (Value.int .u64)).toArray (i * 1)).run P w = .ok (.int .u64 (xs.getD i 0)) w := by
      simp [part, isAgg, run_underlying he, List.getD, List.getElem?_eq_getElem (show i < xs.length by omega)]
    have py : (part e (ys.map (Value.int .u64)).toArray (i * 1)).run P w = .ok (.int .u64 (ys.getD i 0)) w := by
      simp [part, isAgg, run_underlying he, List.getD, List.getElem?_eq_getElem (show i < ys.length by omega)]
    have pe : (Op.equalIn (d + 1) e (.int .u64 (xs.getD i 0)) (.int .u64 (ys.getD i 0))).run P w = .ok (xs.getD i 0 == ys.getD i 0) w := run_equalIn_int w d e .u64 .u64 _ _ he
    simp only [List.forIn_cons, Sem.run_bind, px, py, pe, Result.andThen_ok, List.all_cons]
    cases hb : (xs.getD i 0 == ys.getD i 0)
    · simp
    · simp only [Bool.not_true, Bool.false_eq_true, if_false, Sem.run_pure, Result.andThen_ok, Bool.true_and]
      exact ih fun j hj => hl j (by simp [hj])
def row16 (f : Nat → Int) : List Int := [f 0, f 1, f 2, f 3, f 4, f 5, f 6, f 7, f 8, f 9, f 10, f 11, f 12, f 13, f 14, f 15]
theorem eq_cells (f g : Nat → Int) (w : World) : (Op.equalIn 10000 197 (.agg #[.int .u64 (f 0), .int .u64 (f 1), .int .u64 (f 2), .int .u64 (f 3), .int .u64 (f 4), .int .u64 (f 5), .int .u64 (f 6), .int .u64 (f 7), .int .u64 (f 8), .int .u64 (f 9), .int .u64 (f 10), .int .u64 (f 11), .int .u64 (f 12), .int .u64 (f 13), .int .u64 (f 14), .int .u64 (f 15)]) (.agg #[.int .u64 (g 0), .int .u64 (g 1), .int .u64 (g 2), .int .u64 (g 3), .int .u64 (g 4), .int .u64 (g 5), .int .u64 (g 6), .int .u64 (g 7), .int .u64 (g 8), .int .u64 (g 9), .int .u64 (g 10), .int .u64 (g 11), .int .u64 (g 12), .int .u64 (g 13), .int .u64 (g 14), .int .u64 (g 15)])).run Try.prog w = .ok (row16 f == row16 g) w :=
  run_equalIn_words w 9998 197 37 16 (by kernel_rfl) (by kernel_rfl) (fun w => by kernel_rfl) (row16 f) (row16 g) rfl rfl
theorem row16_eq {n : Nat} {s : Sc} (hn : n ≤ 16) (h0 : ∀ i, n ≤ i → s.old i = 0 ∧ s.now i = 0) : (row16 s.old == row16 s.now) = eqN n s := by
  rw [Bool.eq_iff_iff]
  have h1 : (row16 s.old == row16 s.now) = true ↔ ∀ i, i < 16 → s.old i = s.now i := by
    rw [beq_iff_eq]
    unfold row16
    constructor
    · intro h i hi
      simp only [List.cons.injEq, and_true] at h
      obtain ⟨a0, a1, a2, a3, a4, a5, a6, a7, a8, a9, a10, a11, a12, a13, a14, a15⟩ := h
      match i, hi with
      | 0, _ => exact a0
      | 1, _ => exact a1
      | 2, _ => exact a2
      | 3, _ => exact a3
      | 4, _ => exact a4
      | 5, _ => exact a5
      | 6, _ => exact a6
      | 7, _ => exact a7
      | 8, _ => exact a8
      | 9, _ => exact a9
      | 10, _ => exact a10
      | 11, _ => exact a11
      | 12, _ => exact a12
      | 13, _ => exact a13
      | 14, _ => exact a14
      | 15, _ => exact a15
      | j + 16, hj => exact absurd hj (by omega)
    · intro h
      rw [h 0 (by decide), h 1 (by decide), h 2 (by decide), h 3 (by decide), h 4 (by decide), h 5 (by decide), h 6 (by decide), h 7 (by decide), h 8 (by decide), h 9 (by decide), h 10 (by decide), h 11 (by decide), h 12 (by decide), h 13 (by decide), h 14 (by decide), h 15 (by decide)]
  rw [h1]
  constructor
  · intro h
    exact List.all_eq_true.2 fun i hi => decide_eq_true (h i (by have := List.mem_range.1 hi; omega))
  · intro h i hi
    by_cases hin : i < n
    · exact of_decide_eq_true (List.all_eq_true.1 h i (List.mem_range.2 hin))
    · have := h0 i (by omega)
      rw [this.1, this.2]
end Go.Proofs.Ytlfingcmekifkaa

namespace Go.Proofs.Ytlfingcmekifkaa
open Go.RowKit

theorem rowIs_setCells {b n : Nat} {t : TypeId} : ∀ (vs : List Value) {w : World} {f : Nat → Value} (o : Nat), w.rowIs b t n f → (w.setCells b o vs).rowIs b t n (fun i => if o ≤ i ∧ i < o + vs.length then (vs[i - o]?).getD (f i) else f i)
  | [], w, f, o, h => h.congr fun i _ => by rw [if_neg (by simp)]
  | v :: vs, w, f, o, h => (rowIs_setCells vs (o + 1) (h.set o v)).congr fun i _ => by
    show (if o + 1 ≤ i ∧ i < o + 1 + vs.length then (vs[i - (o + 1)]?).getD (if i = o then v else f i) else if i = o then v else f i) = (if o ≤ i ∧ i < o + (v :: vs).length then ((v :: vs)[i - o]?).getD (f i) else f i)
    have hl : (v :: vs).length = vs.length + 1 := rfl
    by_cases h1 : o + 1 ≤ i ∧ i < o + 1 + vs.length
    · rw [if_pos h1, if_neg (show ¬ i = o by omega), if_pos (show o ≤ i ∧ i < o + (v :: vs).length by omega)]
      obtain ⟨j, rfl⟩ : ∃ j, i = o + 1 + j := ⟨i - (o + 1), by omega⟩
      rw [show o + 1 + j - (o + 1) = j by omega, show o + 1 + j - o = j + 1 by omega]
      rfl
    · rw [if_neg h1]
      by_cases h2 : i = o
      · subst h2
        simp
      · rw [if_neg h2, if_neg (show ¬ (o ≤ i ∧ i < o + (v :: vs).length) by omega)]
theorem setCells2 (w : World) (b o : Nat) (x y : Value) (l : List Value) : w.setCells b o (x :: y :: l) = ((w.setCell ⟨b, o, none⟩ x).setCell ⟨b, o + 1, none⟩ y).setCells b (o + 1 + 1) l := rfl
theorem keep_setCells {K : Nat → Prop} {b : Nat} (hb : ¬ K b) : ∀ (vs : List Value) {a w : World} (o : Nat), Keep K a w → Keep K a (w.setCells b o vs)
  | [], _, _, _, h => h
  | v :: vs, _, _, o, h => keep_setCells hb vs (o + 1) (h.setCell (p := ⟨b, o, none⟩) hb v)
end Go.Proofs.Ytlfingcmekifkaa
