/- Agreeing (package cons): a proposal begins, steps, answers; the object is one that a loom plays (cnTh_ok). -/
import Derived.Test.YtfghmlpjbedomaaGreatBun12
namespace Go.Proofs.YtfghmlpjbedomaaGreat
open Go.RowKit

theorem hlt_of {w : World} {b : Nat} {o : Obj} (h : w.heap[b]? = some o) : b < w.heap.size := (Array.getElem?_eq_some_iff.1 h).1
def cnA (t pc : Nat) (v : Int) : Array Value := #[.int .i64 0, .int .i64 (t : Int), .int .i64 (pc : Int), .int .u64 v]
def cnPr (w : World) (F : Nat → Prop) (v : Value) (t pc : Nat) (vv : Int) : Prop := ∃ b, v = .iface 276 (.pointer (some ⟨b, 0, none⟩)) ∧ w.heap[b]? = some (.cells (cnA t pc vv) 278 (0, 0)) ∧ ∀ k, F k ↔ k = b
def cnML (w : World) (F : Nat → Prop) (v : Value) : CM → Prop
  | .no e => NoAt w F v e
  | .prop t pc vv => cnPr w F v t pc vv
def cnAL (w : World) (F : Nat → Prop) (v : Value) : CM → Prop
  | .no e => NoAl w F v e
  | .prop t pc vv => cnPr w F v t pc vv
def cnOB (_ : World) (F : Nat → Prop) (_ : Unit) : Prop := ∀ k, ¬ F k
theorem cnPr_keep {w w' : World} {F S : Nat → Prop} {v : Value} {t pc : Nat} {vv : Int} (h : cnPr w F v t pc vv) (hk : Keep S w w') (hS : ∀ k, F k → S k) : cnPr w' F v t pc vv := by
  obtain ⟨b, h1, h2, h4⟩ := h
  exact ⟨b, h1, (hk.block b (hS b ((h4 b).2 rfl))).trans h2, h4⟩
theorem cnPr_lt {w : World} {F : Nat → Prop} {v : Value} {t pc : Nat} {vv : Int} (h : cnPr w F v t pc vv) : ∀ k, F k → k < w.heap.size := by
  obtain ⟨b, h1, h2, h4⟩ := h
  intro k hk
  rw [(h4 k).1 hk]
  exact (Array.getElem?_eq_some_iff.1 h2).1
theorem cnLate (v : Value) : LateNo (.iface 276 v) := fun w => run_typeAssert_lacksB Tryz.underlying201 (by kernel_rfl) (by kernel_rfl) _ _ w
def cnV : Value := .iface 171 (.agg #[.int .i64 0])
theorem cnDispStart : Disp Tryz.prog cnV "Start" 178 (.agg #[.int .i64 0]) := fun _ _ => by kernel_rfl
theorem cnDispStep (b : Nat) : Disp Tryz.prog (.iface 276 (.pointer (some ⟨b, 0, none⟩))) "Step" 230 (.pointer (some ⟨b, 0, none⟩)) := fun _ _ => by kernel_rfl
theorem cnDispAnswer (b : Nat) : Disp Tryz.prog (.iface 276 (.pointer (some ⟨b, 0, none⟩))) "Answer" 229 (.pointer (some ⟨b, 0, none⟩)) := fun _ _ => by kernel_rfl
set_option maxRecDepth 100000 in
theorem cnAnswerW {b t pc : Nat} {vv : Int} (w : World) (hb : w.heap[b]? = some (.cells (cnA t pc vv) 278 (0, 0))) :
    Calls Tryz.prog 229 #[.pointer (some ⟨b, 0, none⟩)] w fun e w' => e = .returned (.tuple #[.agg #[.int .i64 0, .int .u64 vv, .slice none 0 0], .slice none 0 0]) ∧ Below w.heap.size w w' := by
  unfold cnA at hb
  obtain ⟨c0, c1, c2, c3, hz⟩ := cells4 hb
  clear hb
  go_enter Tryz.func229, Tryz.ntmps229
  go_wp2
  refine bodyPost_ret (v := .tuple #[.agg #[.int .i64 0, .int .u64 vv, .slice none 0 0], .slice none 0 0]) (by simp [results, Tryz.results229, go_sem, *]) rfl ⟨rfl, ?_⟩
  (repeat' (first | exact Below.refl _ _ | assumption | refine Below.drew ?_ | refine below_drewN ?_ _ | refine Below.alloc ?_ (by simp <;> omega) _ | refine Below.setCell ?_ (by simp <;> omega) _))
set_option maxRecDepth 100000 in
set_option maxHeartbeats 1000000 in
theorem cnStartW {w : World} {t : Nat} {c : Cl} (hk : cnCl c) (pw : Nat) :
    Calls Tryz.prog 178 #[.agg #[.int .i64 0], .pointer (some ⟨pw, 0, none⟩), .int .i64 t, clV c] w fun e w' => ∃ b, e = .returned (.iface 276 (.pointer (some ⟨b, 0, none⟩))) ∧ w'.heap[b]? = some (.cells (cnA t 0 c.a) 278 (0, 0)) ∧ w.heap.size ≤ b ∧ Below w.heap.size w w' := by
  have e0 : (c.kind == 1) = false := by rw [hk.1]; rfl
  have e1 : (c.kind != 0) = false := by rw [hk.1]; rfl
  have e2 : decide (4294967296 ≤ c.a) = false := by rw [decide_eq_false_iff_not]; have := hk.2; omega
  clear hk
  unfold clV cnA
  go_enter Tryz.func178, Tryz.ntmps178
  go_wp2
  go_ret
  have hz : ((w.alloc (.cells #[.int .i64 0] 171)).alloc (.cells #[.int .i64 c.thread, .int .i64 c.obj, .int .i64 c.kind, .int .u64 c.a, .int .u64 c.b, .int .u64 c.c] 54)).heap.size = w.heap.size + 1 + 1 := by simp
  refine ⟨w.heap.size + 1 + 1, rfl, ?_, by omega, ?_⟩
  · rw [← hz]
    exact heap_alloc_new _ _
  · (repeat' (first | with_reducible assumption | with_reducible exact Below.refl _ _ | with_reducible refine Below.drew ?_ | with_reducible refine below_drewN ?_ _ | with_reducible refine Below.alloc ?_ ?_ _ | with_reducible refine Below.setCell ?_ ?_ _ | omega | (simp; done) | (simp; omega)))
set_option maxRecDepth 100000 in
theorem tickW {pw : Nat} {now : Int} {w : World} (h : w.cell? ⟨pw, 1, none⟩ = some (.int .i64 now)) (_hz : pw < w.heap.size) (hn : 0 ≤ now ∧ now ≤ 1048576) :
    Calls Tryz.prog 101 #[.pointer (some ⟨pw, 0, none⟩)] w fun e w' => e = .returned (.slice (some ⟨w.heap.size, 0, none⟩) 1 1) ∧ w' = w.alloc (.cells #[.int .i64 (2 * now)] 3) := by
  have k1 : IntKind.i64.wrap (2 * now) = 2 * now := wrap_i64 (by omega) (by omega)
  clear hn
  go_enter Tryz.func101, Tryz.ntmps101
  go_wp2
  go_ret
  exact ⟨rfl, rfl⟩
set_option maxRecDepth 100000 in
set_option maxHeartbeats 1000000 in
theorem markW {pw t : Nat} {A : Option Addr} {n c : Nat} {l : List Int} {f : Nat → Value} {w : World} (ht : t < 16) (hr : w.rowIs pw 134 35 f) (hl : SlI w (.slice A n c) l) (hb : l.length ≤ 1000) :
    Calls Tryz.prog 231 #[.pointer (some ⟨pw, 0, none⟩), .int .i64 (t : Int), .slice A n c] w fun e w' => e = .returned (.tuple #[]) ∧ ∃ v' w1, Below w.heap.size w w1 ∧ IOwn w1 w.heap.size v' l.length l ∧ w' = w1.setCell ⟨pw, 18 + t, none⟩ v' := by
  have ht' : (t : Int) < 16 := by omega
  have ht0 : (0 : Int) ≤ (t : Int) := by omega
  have N := iclone_any (.slice A n c) l w.drew (sl_at_keep (S := fun _ => True) hl (Keep.refl _ w).drew (fun _ _ _ _ _ _ _ => trivial)) (by omega)
  have hz := hr.lt
  have HR := hide hr
  have HN := hide N
  clear N hr hl hb
  go_enter Tryz.func231, Tryz.ntmps231
  go_upto_region 1 with fail
  refine wp_region_seq (fun _ => True) (.take 0 <| .take 1 <| .take 2 <| .take 4 <| .take 5 <| .run 3 <| .take 6 <| .run 7 <| .done) (by kernel_rfl) (by kernel_rfl) (by kernel_rfl) trivial ?_
  iterate 5 (refine seq_take (v := ?_) rfl (by rfl) ?_ ?_; rotate_left; (focus (intro wS hS; go_simp; exact rfl)); simp only [Act.put, List.setIfInBounds_toArray, List.set_cons_zero, List.set_cons_succ])
  (refine seq_run rfl (by rfl) (fun K hK => ?_); go_simp)
  refine HN.out.mono ?_
  rintro e w1 ⟨v', rfl, ho, hk⟩
  refine hK _ _ trivial ?_
  clear hK K
  have hr1 := rowIs_keep HR.out (Keep.of_below (K := fun k => k < w.heap.size) ((Below.refl _ w).drew.trans hk) (fun k h => h)) hz
  have c1 := hr1.cell (i := 18 + t) (by omega)
  have f1 := hr1.frozen (18 + t)
  have z1 := hr1.lt
  have HO := hide ho
  have HK := hide hk
  obtain ⟨Av, cv, hv⟩ := own_slice ho
  subst hv
  clear ho hk hr1 HN
  (refine seq_take (v := ?_) rfl (by rfl) ?_ ?_; rotate_left; (focus (intro wS hS; go_simp; exact rfl)); simp only [Act.put, List.setIfInBounds_toArray, List.set_cons_zero, List.set_cons_succ])
  (refine seq_run rfl (by rfl) (fun K hK => ?_); go_simp)
  refine hK _ _ trivial ?_
  clear hK K
  refine seq_nil ?_
  go_wp2
  go_end0
  exact ⟨rfl, _, w1, (Below.refl _ w).drew.trans HK.out, HO.out, rfl⟩
set_option maxRecDepth 100000 in
set_option maxHeartbeats 2000000 in
theorem cnStep0W {w : World} {b t : Nat} {v : Int} {ad : Adr} {Mu Mu' : Nat → Prop} {lw : Lw} (hW : WL w ad Mu lw) (hb : w.heap[b]? = some (.cells (cnA t 0 v) 278 (0, 0))) (hne : ¬ ad.four b) (ht : t < 16) (hv : 0 ≤ v ∧ v < 4294967296) (hnow : 0 ≤ lw.now ∧ lw.now ≤ 1048576) (h4 : ∀ k, ad.four k → Mu k) (hMb : Mu b) (hM : ∀ k, Mu' k → k < w.heap.size ∧ Mu k) :
    Calls Tryz.prog 230 #[.pointer (some ⟨b, 0, none⟩), .pointer (some ⟨ad.pw, 0, none⟩)] w fun e w' => e = .returned (.bool false) ∧ w'.heap[b]? = some (.cells (cnA t 1 v) 278 (0, 0)) ∧ WL w' ad Mu' { lw with mem := lw.mem.acc 2 0 0 (v + 1), marks := upd lw.marks t [2 * lw.now] } ∧ Keep (fun k => k < w.heap.size ∧ k ≠ b ∧ ¬ ad.four k) w w' := by
  obtain ⟨n1, n2, n3, n4⟩ : b ≠ ad.pw ∧ b ≠ ad.pm ∧ b ≠ ad.px ∧ b ≠ ad.pt := ⟨fun e => hne (Or.inl e), fun e => hne (Or.inr (Or.inl e)), fun e => hne (Or.inr (Or.inr (Or.inl e))), fun e => hne (Or.inr (Or.inr (Or.inr e)))⟩
  have HB := hide hb
  unfold cnA at hb
  obtain ⟨c0, c1, c2, c3, hz⟩ := cells4 hb
  have cw := hW.ptr
  have zw := hW.lt
  obtain ⟨q1, q2, q3, q4, q5, q6⟩ := hW.ne
  have k1 : IntKind.u64.wrap (v + 1) = v + 1 := by rw [IntKind.wrap_u64]; omega
  have N := memSwap ad.pm ad.px 0 0 (v + 1) lw.mem w.drew (hW.mem.of_blocks rfl rfl)
  obtain ⟨f, f1, f2, f3, f4, f5⟩ := hW.cells
  have zw1 := zw.1
  have HW := hide hW
  have HN := hide N
  have HF := hide f1
  have HF3 := hide f3
  have HF0 := hide (And.intro f2 f4)
  have HNW := hide hnow
  clear N hW hb f1 f2 f3 f4 hv hnow
  go_enter Tryz.func230, Tryz.ntmps230
  go_upto_region 2 with fail
  refine wp_region_seq (fun Y => Y.cell? ⟨ad.pw, 0, none⟩ = some (.pointer (some ⟨ad.pm, 0, none⟩)) ∧ Y.cell? ⟨b, 0, none⟩ = some (.int .i64 0) ∧ Y.cell? ⟨b, 3, none⟩ = some (.int .u64 v)) (.take 0 <| .take 1 <| .take 2 <| .take 3 <| .take 4 <| .take 5 <| .take 6 <| .take 7 <| .take 8 <| .take 9 <| .take 10 <| .take 11 <| .take 12 <| .run 13 <| .done) (by kernel_rfl) (by kernel_rfl) (by kernel_rfl) (by refine ⟨?_, ?_, ?_⟩ <;> go_simp) ?_
  iterate 13 (refine seq_take (v := ?_) rfl (by rfl) ?_ ?_; rotate_left; (focus (intro wS hS; obtain ⟨s0, s1, s2⟩ := hS; go_simp; exact rfl)); simp only [Act.put, List.setIfInBounds_toArray, List.set_cons_zero, List.set_cons_succ])
  (refine seq_run rfl (by rfl) (fun K hK => ?_); go_simp)
  refine HN.out.mono ?_
  rintro e w1 ⟨d, _, rfl, hm1, hk1⟩
  have hk1' : Keep (fun k => k ≠ ad.pm ∧ k ≠ ad.px ∧ k < w.heap.size) w w1 := ((Keep.refl _ w).drew).trans hk1
  have hb1 := (hk1'.block b ⟨n2, n3, hz⟩).trans HB.out
  have HB1 := hide hb1
  unfold cnA at hb1
  obtain ⟨d0, d1, d2, d3, hz1⟩ := cells4 hb1
  refine hK _ _ ⟨(hk1'.cell (p := ⟨ad.pw, 0, none⟩) ⟨q1, q2, zw1⟩).trans cw, d0, d3⟩ ?_
  have hf1 := rowIs_keep HF.out hk1' ⟨q1, q2, zw1⟩
  have x1 := hf1.cell (i := 1) (by omega)
  rw [HF3.out] at x1
  have NT := tickW (w := w1.drew) x1 hf1.lt HNW.out
  have HM1 := hide hm1
  have HK1 := hide hk1'
  have HF1 := hide hf1
  have HNT := hide NT
  have zw2 := hf1.lt
  clear hK K hm1 hk1 hk1' hb1 HN NT hf1 c0 c1 c2 c3 cw
  refine seq_nil ?_
  go_upto_region 3 with fail
  refine wp_region_seq (fun Y => Y.cell? ⟨b, 1, none⟩ = some (.int .i64 (t : Int))) (.take 0 <| .take 1 <| .take 2 <| .take 3 <| .take 4 <| .take 5 <| .run 6 <| .run 7 <| .done) (by kernel_rfl) (by kernel_rfl) (by kernel_rfl) (by go_simp) ?_
  iterate 6 (refine seq_take (v := ?_) rfl (by rfl) ?_ ?_; rotate_left; (focus (intro wS hS; go_simp; exact rfl)); simp only [Act.put, List.setIfInBounds_toArray, List.set_cons_zero, List.set_cons_succ])
  (refine seq_run rfl (by rfl) (fun K hK => ?_); go_simp)
  refine HNT.out.mono ?_
  rintro e w2 ⟨rfl, rfl⟩
  refine hK _ _ (by go_simp) ?_
  clear hK K
  (refine seq_run rfl (by rfl) (fun K hK => ?_); go_simp)
  obtain ⟨w2, hw2⟩ : ∃ X, X = (w1.alloc (.cells #[.int .i64 (2 * lw.now)] 3)).drew := ⟨_, rfl⟩
  rw [← hw2]
  have hk2 : Keep (fun k => k < w1.heap.size) w1 w2 := by rw [hw2]; exact ((Keep.refl _ w1).alloc (fun k hk => hk) _).drew
  have hg2 : w2.heap[w1.heap.size]? = some (.cells #[.int .i64 (2 * lw.now)] 3 (0, 0)) := by rw [hw2]; exact heap_alloc_new w1 _
  have hs2 : SlI w2 (.slice (some ⟨w1.heap.size, 0, none⟩) 1 1) [2 * lw.now] := sl_of_owns (kk := .i64) (base := 0) (xs := [2 * lw.now]) ⟨rfl, Or.inr ⟨_, 1, _, rfl, Nat.zero_le _, hg2, Nat.le_refl _, by unfold maxLen; decide, rfl, rfl⟩⟩ (by unfold maxLen; simp)
  have hf2 := rowIs_keep HF1.out hk2 zw2
  have NM := markW ht hf2 hs2 (by simp)
  have hb2 := (hk2.block b hz1).trans HB1.out
  have HB2 := hide hb2
  have HK2 := hide hk2
  have HF2 := hide hf2
  have hz2 := hlt_of hb2
  clear hw2 hg2 hs2 hf2 hk2 hb2 HNT d0 d1 d2 d3 x1
  refine NM.mono ?_
  rintro e w3 ⟨rfl, v', w4, hb4, ho4, rfl⟩
  clear NM
  have hk4 : Keep (fun k => k < w2.heap.size ∧ k ≠ ad.pw) w2 (w4.setCell ⟨ad.pw, 18 + t, none⟩ v') := (Keep.of_below (K := fun k => k < w2.heap.size ∧ k ≠ ad.pw) hb4 (fun k hk => hk.1)).trans ((Keep.refl _ w4).setCell (fun hh => hh.2 rfl) _)
  have hb5 := (hk4.block b ⟨hz2, n1⟩).trans HB2.out
  have HB5 := hide hb5
  unfold cnA at hb5
  obtain ⟨e0, e1, e2, e3, hz5⟩ := cells4 hb5
  have g2 := frozen_of_row _ b 2 _ _ hb5
  have hf4 := (rowIs_keep HF2.out (Keep.of_below (K := fun k => k < w2.heap.size) hb4 (fun k hk => hk)) HF2.out.lt).set (18 + t) v'
  have HO4 := hide ho4
  have HK4 := hide hk4
  have HF4 := hide hf4
  have HBL4 := hide hb4
  have hpb : ¬ ad.pw = b := fun e => n1 e.symm
  obtain ⟨w5, hw5⟩ : ∃ X, X = w4.setCell ⟨ad.pw, 18 + t, none⟩ v' := ⟨_, rfl⟩
  rw [← hw5] at HB5 e0 e1 e2 e3 hz5 g2 HK4 HF4 hb5 hk4 hf4 ⊢
  refine hK _ _ e1 ?_
  have hsz5 : w5.heap.size = w4.heap.size := by rw [hw5]; simp
  have HO5 := hide (show IOwn w5 w2.heap.size v' 1 [2 * lw.now] from by
    rw [hw5]
    refine owns_keepV HO4.out ((Keep.refl (fun k => k ≠ ad.pw) w4).setCell (by simp) v') (fun k hk e => ?_)
    have h := (HO4.out.lt k hk).1
    have h1 := HF2.out.lt
    omega)
  clear hK K hb4 ho4 hk4 hb5 hf4 hw5 HO4
  refine seq_nil ?_
  go_wp2
  go_ret
  have hk56 : Keep (fun k => k ≠ b) w5 (w5.setCell ⟨b, 2, none⟩ (.int .i64 1)) := (Keep.refl _ w5).setCell (by simp) _
  have z1 := HK1.out.size
  have z2 := HK2.out.size
  have hk16 : Keep (fun k => k < w1.heap.size ∧ k ≠ ad.pw ∧ k ≠ b) w1 _ := ((HK2.out.mono (fun k hk => hk.1)).trans (HK4.out.mono (fun k hk => ⟨Nat.lt_of_lt_of_le hk.1 z2, hk.2.1⟩))).trans (hk56.mono (fun k hk => hk.2.2))
  have hk06 : Keep (fun k => k < w.heap.size ∧ k ≠ ad.pm ∧ k ≠ ad.px ∧ k ≠ ad.pw ∧ k ≠ b) w _ := (HK1.out.mono (fun k hk => ⟨hk.2.1, hk.2.2.1, hk.1⟩)).trans (hk16.mono (fun k hk => ⟨Nat.lt_of_lt_of_le hk.1 z1, hk.2.2.2⟩))
  have hSk : ∀ k, k < w.heap.size → ¬ Mu k → (k < w.heap.size ∧ k ≠ ad.pm ∧ k ≠ ad.px ∧ k ≠ ad.pw ∧ k ≠ b) := fun k h1 h2 => ⟨h1, fun e => h2 (h4 k (Or.inr (Or.inl e))), fun e => h2 (h4 k (Or.inr (Or.inr (Or.inl e)))), fun e => h2 (h4 k (Or.inl e)), fun e => h2 (e ▸ hMb)⟩
  have hMk : ∀ k, k < w.heap.size → Mu' k → Mu k := fun k _ hk => (hM k hk).2
  obtain ⟨mp, mp1, mp2⟩ := HW.out.notes
  have zm := HM1.out.lt
  refine ⟨rfl, (cells_set HB5.out).trans rfl, ⟨HM1.out.of_blocks (hk16.block _ ⟨zm.1, Ne.symm q1, Ne.symm n2⟩) (hk16.block _ ⟨zm.2, Ne.symm q2, Ne.symm n3⟩), ⟨_, rowIs_keep HF4.out hk56 hpb, ?_, ?_, ?_, fun s hs => ?_⟩, mp, mp1.of_block (hk06.block _ ⟨zw.2.2.2, q4, q5, Ne.symm q3, Ne.symm n4⟩), fun a => ?_⟩, hk06.mono (fun k hk => ⟨hk.1, fun e => hk.2.2 (Or.inr (Or.inl e)), fun e => hk.2.2 (Or.inr (Or.inr (Or.inl e))), fun e => hk.2.2 (Or.inl e), hk.2.1⟩)⟩
  · show (if 0 = 18 + t then _ else f 0) = _
    rw [if_neg (by omega)]; exact HF0.out.1
  · show (if 1 = 18 + t then _ else f 1) = _
    rw [if_neg (by omega)]; exact HF3.out
  · show (if 34 = 18 + t then _ else f 34) = _
    rw [if_neg (by omega)]; exact HF0.out.2
  · refine ⟨?_, ?_⟩
    · show (if 2 + s = 18 + t then _ else f (2 + s)) = _
      rw [if_neg (by omega)]
      exact (f5 s hs).1
    · show KeyIs _ Mu' (if 18 + s = 18 + t then v' else f (18 + s)) (upd lw.marks t [2 * lw.now] s)
      by_cases e : s = t
      · subst e
        rw [if_pos rfl, upd_same]
        have hO6 := owns_keepV HO5.out hk56 (fun k hk e => by
          have h := (HO5.out.lt k hk).1
          have h1 : w2.heap.size ≤ k := h
          omega)
        obtain ⟨A, c, rfl⟩ := own_slice hO6
        refine ⟨A, c, rfl, ?_, sl_of_owns (kk := .i64) hO6 (by unfold maxLen; simp), fun a ha => ?_⟩
        · constructor
          · intro h
            subst h
            rcases hO6.2 with ⟨h, _⟩ | ⟨_, _, _, h, _⟩
            · cases h
            · cases h
          · intro h
            cases h
        · subst ha
          have hl := hO6.lt a.block rfl
          have hl1 : w2.heap.size ≤ a.block := hl.1
          exact ⟨fun hm => by have := (hM _ hm).1; omega, hl.2⟩
      · rw [if_neg (by omega), upd_other e]
        exact (f5 s hs).2.keep hk06 hSk hMk
  · rcases mp2 a with h | ⟨x, h1, h2⟩
    · exact Or.inl h
    · exact Or.inr ⟨x, h1, h2.keep hk06 hSk hMk⟩
end Go.Proofs.YtfghmlpjbedomaaGreat
