/- A tally whose accesses are told: it begins, answers, and makes its first step. -/
import Derived.Test.YtfghmlpjbedomaaGreatBun9
import Derived.Deep.DeepCutAuto
namespace Go.Proofs.YtfghmlpjbedomaaGreat
open Go.RowKit

def cntA (t : Nat) (v : Int) (seen : Bool) : Array Value := #[.int .i64 0, .int .i64 2, .int .i64 (t : Int), .int .u64 v, .bool seen]
def taPr (w : World) (F : Nat → Prop) (u : Value) (t : Nat) (v : Int) (seen : Bool) : Prop := ∃ b, u = .iface 284 (.pointer (some ⟨b, 0, none⟩)) ∧ w.heap[b]? = some (.cells (cntA t v seen) 286 (0, 0)) ∧ ∀ k, F k ↔ k = b
def taML (w : World) (F : Nat → Prop) (u : Value) : TM → Prop
  | .no e => NoAt w F u e
  | .cnt t v s => taPr w F u t v s
def taAL (w : World) (F : Nat → Prop) (u : Value) : TM → Prop
  | .no e => NoAl w F u e
  | .cnt t v s => taPr w F u t v s
theorem taPr_keep {w w' : World} {F S : Nat → Prop} {u : Value} {t : Nat} {v : Int} {s : Bool} (h : taPr w F u t v s) (hk : Keep S w w') (hS : ∀ k, F k → S k) : taPr w' F u t v s := by
  obtain ⟨b, h1, h2, h4⟩ := h
  exact ⟨b, h1, (hk.block b (hS b ((h4 b).2 rfl))).trans h2, h4⟩
theorem taPr_lt {w : World} {F : Nat → Prop} {u : Value} {t : Nat} {v : Int} {s : Bool} (h : taPr w F u t v s) : ∀ k, F k → k < w.heap.size := by
  obtain ⟨b, h1, h2, h4⟩ := h
  intro k hk
  rw [(h4 k).1 hk]
  exact (Array.getElem?_eq_some_iff.1 h2).1
theorem taLate (v : Value) : LateNo (.iface 284 v) := fun w => run_typeAssert_lacksB Tryz.underlying201 (by kernel_rfl) (by kernel_rfl) _ _ w
def taV : Value := .iface 174 (.agg #[.int .i64 0, .int .i64 2])
theorem taDispStart : Disp Tryz.prog taV "Start" 184 (.agg #[.int .i64 0, .int .i64 2]) := fun _ _ => by kernel_rfl
theorem taDispStep (b : Nat) : Disp Tryz.prog (.iface 284 (.pointer (some ⟨b, 0, none⟩))) "Step" 233 (.pointer (some ⟨b, 0, none⟩)) := fun _ _ => by kernel_rfl
theorem taDispAnswer (b : Nat) : Disp Tryz.prog (.iface 284 (.pointer (some ⟨b, 0, none⟩))) "Answer" 232 (.pointer (some ⟨b, 0, none⟩)) := fun _ _ => by kernel_rfl
set_option maxRecDepth 100000 in
theorem taAnswerW {b : Nat} (w : World) :
    Calls Tryz.prog 232 #[.pointer (some ⟨b, 0, none⟩)] w fun e w' => e = .returned (.tuple #[.agg #[.int .i64 0, .int .u64 0, .slice none 0 0], .slice none 0 0]) ∧ Below w.heap.size w w' := by
  go_enter Tryz.func232, Tryz.ntmps232
  go_wp2
  refine bodyPost_ret (v := .tuple #[.agg #[.int .i64 0, .int .u64 0, .slice none 0 0], .slice none 0 0]) (by simp [results, Tryz.results232, go_sem, *]) rfl ⟨rfl, ?_⟩
  (repeat' (first | exact Below.refl _ _ | assumption | refine Below.drew ?_ | refine below_drewN ?_ _ | refine Below.alloc ?_ (by simp <;> omega) _ | refine Below.setCell ?_ (by simp <;> omega) _))
set_option maxRecDepth 100000 in
set_option maxHeartbeats 1000000 in
theorem taStartW {w : World} {t : Nat} {c : Cl} (hk : c.kind = 0) (pw : Nat) :
    Calls Tryz.prog 184 #[.agg #[.int .i64 0, .int .i64 2], .pointer (some ⟨pw, 0, none⟩), .int .i64 t, clV c] w fun e w' => ∃ b, e = .returned (.iface 284 (.pointer (some ⟨b, 0, none⟩))) ∧ w'.heap[b]? = some (.cells (cntA t 0 false) 286 (0, 0)) ∧ w.heap.size ≤ b ∧ Below w.heap.size w w' := by
  have e0 : (c.kind == 0) = true := by rw [hk]; rfl
  clear hk
  unfold clV cntA
  go_enter Tryz.func184, Tryz.ntmps184
  go_wp2
  go_ret
  have hz : ((w.alloc (.cells #[.int .i64 0, .int .i64 2] 174)).alloc (.cells #[.int .i64 c.thread, .int .i64 c.obj, .int .i64 c.kind, .int .u64 c.a, .int .u64 c.b, .int .u64 c.c] 54)).heap.size = w.heap.size + 1 + 1 := by simp
  refine ⟨w.heap.size + 1 + 1, rfl, ?_, by omega, ?_⟩
  · rw [← hz]
    exact heap_alloc_new _ _
  · (repeat' (first | with_reducible assumption | with_reducible exact Below.refl _ _ | with_reducible refine Below.drew ?_ | with_reducible refine below_drewN ?_ _ | with_reducible refine Below.alloc ?_ ?_ _ | with_reducible refine Below.setCell ?_ ?_ _ | omega | (simp; done) | (simp; omega)))
/-- What a step of a tally leaves in memory. -/
def TaPost (w : World) (b ob B : Nat) (ad : Adr) (m' : Mm) (v : Value) (l : List Ac) (x : Ac) (t : Nat) (vv : Int) (w' : World) : Prop :=
  w'.heap[b]? = some (.cells (cntA t vv true) 286 (0, 0)) ∧ MemAt w' ad.pm ad.px ad.hk m' ∧ ∃ v', AcRow w' ob B v' (l ++ [x]) ∧ (v'.ownBlock = v.ownBlock ∨ ∃ b, v'.ownBlock = some b ∧ w.heap.size ≤ b)
set_option maxRecDepth 100000 in
set_option maxHeartbeats 2000000 in
theorem taStep0W {w : World} {b t ob tb qb pp B : Nat} {vv : Int} {ad : Adr} {Mu : Nat → Prop} {lw : Lw} {v : Value} {l : List Ac} (hW : WL w ad Mu lw) (hhk : ad.hk = hookV tb qb) (hb : w.heap[b]? = some (.cells (cntA t vv false) 286 (0, 0))) (hne : ¬ ad.four b) (hr : AcRow w ob B v l) (hh : HookAt w ob tb qb pp ad.pw lw.now t) (hB : B ≤ w.heap.size) (hl : l.length ≤ 2000000) (hlow : tb < B ∧ qb < B ∧ pp < B ∧ ad.pw < B) (hap : HkAp w ad.pm ad.px ob tb qb pp ad.pw v) (hbo : b ≠ ob ∧ v.ownBlock ≠ some b) (ht : t < lw.mem.words.length) (ht2 : t < 2) :
    Calls Tryz.prog 233 #[.pointer (some ⟨b, 0, none⟩), .pointer (some ⟨ad.pw, 0, none⟩)] w fun e w' => e = .returned (.bool false) ∧ TaPost w b ob B ad (lw.mem.acc 0 t 0 0) v l ⟨lw.now, t, 0, t, lw.mem.at t, lw.mem.at t⟩ t (lw.mem.at t) w' ∧ Keep (fun k => k < w.heap.size ∧ k ≠ b ∧ k ≠ ad.pm ∧ k ≠ ad.px ∧ k ≠ ob ∧ v.ownBlock ≠ some k) w w' := by
  obtain ⟨n1, n2, n3⟩ : b ≠ ad.pw ∧ b ≠ ad.pm ∧ b ≠ ad.px := ⟨fun e => hne (Or.inl e), fun e => hne (Or.inr (Or.inl e)), fun e => hne (Or.inr (Or.inr (Or.inl e)))⟩
  have HB := hide hb
  have hz := (Array.getElem?_eq_some_iff.1 hb).1
  have c0 : w.cell? ⟨b, 0, none⟩ = some (.int .i64 0) := cell_of_row _ _ 0 _ _ _ hb
  have c2 : w.cell? ⟨b, 2, none⟩ = some (.int .i64 (t : Int)) := cell_of_row _ _ 2 _ _ _ hb
  have c4 : w.cell? ⟨b, 4, none⟩ = some (.bool false) := cell_of_row _ _ 4 _ _ _ hb
  have cw := hW.ptr
  have zw1 := hW.lt.1
  obtain ⟨q1, q2, _⟩ := hW.ne
  have hm := hW.mem
  rw [hhk] at hm
  have kd : Keep (fun _ => True) w w.drew := (Keep.refl _ w).drew
  have N := memReadH (w := w.drew) (hm.of_blocks rfl rfl) ht (hr.keep kd trivial (fun _ _ => trivial)) (hh.keep kd trivial trivial trivial trivial) hB hl hlow ⟨hap.m, hap.x⟩
  have k0 : IntKind.i64.wrap (t : Int) = (t : Int) := wrap_i64 (by omega) (by omega)
  obtain ⟨y, hy⟩ : ∃ y, lw.mem.at t = y := ⟨_, rfl⟩
  rw [hy] at N ⊢
  have hbv := hbo.2
  have hob := hbo.1
  have hwo : ad.pw ≠ ob ∧ v.ownBlock ≠ some ad.pw := by
    refine ⟨fun e => ?_, fun e => by have := (World.ownsRow.lt hr.row _ e).1; omega⟩
    have c1 : w.cell? ⟨ob, 1, none⟩ = none := cell_of_row _ _ 1 _ _ _ hr.box
    rw [← e, hh.w1] at c1
    cases c1
  have HN := hide N
  have HY := hide hy
  have HHK := hide hhk
  clear N hW hb hr hh hap hy hm hhk hbo
  go_enter Tryz.func233, Tryz.ntmps233
  go_upto_region 2 with fail
  refine wp_region_seq (fun Y => Y.cell? ⟨ad.pw, 0, none⟩ = some (.pointer (some ⟨ad.pm, 0, none⟩)) ∧ Y.cell? ⟨b, 0, none⟩ = some (.int .i64 0) ∧ Y.cell? ⟨b, 2, none⟩ = some (.int .i64 (t : Int))) (.take 0 <| .take 1 <| .take 2 <| .take 3 <| .take 4 <| .take 5 <| .take 6 <| .take 7 <| .take 8 <| .take 9 <| .take 10 <| .take 11 <| .take 12 <| .take 13 <| .take 14 <| .run 15 <| .take 16 <| .take 17 <| .run 18 <| .done) (by kernel_rfl) (by kernel_rfl) (by kernel_rfl) (by refine ⟨?_, ?_, ?_⟩ <;> go_simp) ?_
  iterate 15 (refine seq_take (v := ?_) rfl (by rfl) ?_ ?_; rotate_left; (focus (intro wS hS; obtain ⟨s0, s1, s2⟩ := hS; go_simp; exact rfl)); simp only [Act.put, List.setIfInBounds_toArray, List.set_cons_zero, List.set_cons_succ])
  (refine seq_run rfl (by rfl) (fun K hK => ?_); go_simp)
  refine HN.out.mono ?_
  rintro e w1 ⟨rfl, hm1, v', hr1, hv1, hk1⟩
  have hk1' : Keep (fun k => k < w.heap.size ∧ k ≠ ad.pm ∧ k ≠ ad.px ∧ k ≠ ob ∧ v.ownBlock ≠ some k) w w1 := ((Keep.refl _ w).drew).trans hk1
  have hb1 := (hk1'.block b ⟨hz, n2, n3, hob, hbv⟩).trans HB.out
  have HB1 := hide hb1
  have d0 : w1.cell? ⟨b, 0, none⟩ = some (.int .i64 0) := cell_of_row _ _ 0 _ _ _ hb1
  have d2 : w1.cell? ⟨b, 2, none⟩ = some (.int .i64 (t : Int)) := cell_of_row _ _ 2 _ _ _ hb1
  have d3 : w1.cell? ⟨b, 3, none⟩ = some (.int .u64 vv) := cell_of_row _ _ 3 _ _ _ hb1
  have d4 : w1.cell? ⟨b, 4, none⟩ = some (.bool false) := cell_of_row _ _ 4 _ _ _ hb1
  have f3 := frozen_of_row w1 b 3 _ _ hb1
  have f4 := frozen_of_row w1 b 4 _ _ hb1
  have hz1 := (Array.getElem?_eq_some_iff.1 hb1).1
  have dw := (hk1'.cell (p := ⟨ad.pw, 0, none⟩) ⟨zw1, q1, q2, hwo.1, hwo.2⟩).trans cw
  refine hK _ _ ⟨dw, d0, d2⟩ ?_
  have HM1 := hide hm1
  have HK1 := hide hk1'
  have HR1 := hide hr1
  have HV1 := hide hv1
  have hpb : ¬ ad.pw = b := fun e => n1 e.symm
  clear hK K hm1 hk1 hk1' hb1 HN c0 c2 c4 cw hr1 hv1
  iterate 2 (refine seq_take (v := ?_) rfl (by rfl) ?_ ?_; rotate_left; (focus (intro wS hS; obtain ⟨s0, s1, s2⟩ := hS; go_simp; exact rfl)); simp only [Act.put, List.setIfInBounds_toArray, List.set_cons_zero, List.set_cons_succ])
  (refine seq_run rfl (by rfl) (fun K hK => ?_); go_simp)
  refine hK _ _ (by refine ⟨?_, ?_, ?_⟩ <;> go_simp) ?_
  clear hK K
  refine seq_nil ?_
  go_wp2
  go_ret
  have hk2 : Keep (fun k => k ≠ b) w1 ((w1.setCell ⟨b, 3, none⟩ (.int .u64 y)).setCell ⟨b, 4, none⟩ (.bool true)) := ((Keep.refl _ w1).setCell (by simp) _).setCell (by simp) _
  refine ⟨rfl, ⟨(cells_set (cells_set HB1.out)).trans rfl, ?_, v', HR1.out.keep hk2 (Ne.symm hob) (fun k hk e => ?_), HV1.out⟩, (HK1.out.mono (fun k hk => ⟨hk.1, hk.2.2⟩)).trans (hk2.mono (fun k hk => hk.2.1))⟩
  · rw [HHK.out]
    exact HM1.out.of_blocks (hk2.block _ (Ne.symm n2)) (hk2.block _ (Ne.symm n3))
  · subst e
    obtain ⟨c, hc⟩ := HR1.out.type hk
    exact type_ne hc HB1.out (by decide) rfl
end Go.Proofs.YtfghmlpjbedomaaGreat
