/- A lattice's scans (package snap): a reader starts (Snap.Start). -/
/- A lattice (package lattice): what tellers, givers and writers answer; a scan begins. -/
/- A lattice (package lattice): a giver's step: its machine goes on; it tells; it may not. -/
import Derived.Test.YtlfingcmekifkaaBun16
import Derived.Test.YtlfingcmekifkaaBun7
namespace Go.Proofs.Ytlfingcmekifkaa
open Go.RowKit

set_option maxRecDepth 100000 in
set_option maxHeartbeats 2000000 in
theorem snStartR {ps pw : Nat} {w : World} {t : Nat} {c : Cl} (hk : c.kind = 1) :
    Calls Try.prog 95 #[.pointer (some ⟨ps, 0, none⟩), .pointer (some ⟨pw, 0, none⟩), .int .i64 t, clV c] w fun e w' => e = .returned (.iface 187 (.pointer (some ⟨w.heap.size + 2, 0, none⟩))) ∧ w' = ((w.alloc (.cells #[.int .i64 c.thread, .int .i64 c.obj, .int .i64 c.kind, .int .u64 c.a, .int .u64 c.b, .int .u64 c.c] 43)).alloc (.cells (scA56 ps) 199)).alloc (.cells #[.pointer (some ⟨w.heap.size + 1, 0, none⟩), .slice none 0 0] 191) := by
  have hd : (c.kind == 1) = true := by simp [hk]
  have N := snNewScan ps (w.alloc (.cells #[.int .i64 c.thread, .int .i64 c.obj, .int .i64 c.kind, .int .u64 c.a, .int .u64 c.b, .int .u64 c.c] 43))
  unfold clV
  clear hk
  go_enter Try.func95, Try.ntmps95
  go_wp2_with fail
  refine N.mono ?_
  rintro e w1 ⟨rfl, rfl⟩
  go_wp2
  go_ret
  exact ⟨by simp, rfl⟩
set_option maxRecDepth 100000 in
set_option maxHeartbeats 2000000 in
theorem snStartN {ps pw : Nat} {w : World} {t : Nat} {c : Cl} (hk : c.kind ≠ 0 ∧ c.kind ≠ 1) :
    Calls Try.prog 95 #[.pointer (some ⟨ps, 0, none⟩), .pointer (some ⟨pw, 0, none⟩), .int .i64 t, clV c] w fun e w' => ∃ b b1, e = .returned (onceV b) ∧ OnceNo w' b b1 9 ∧ w.heap.size ≤ b ∧ w.heap.size ≤ b1 ∧ Below w.heap.size w w' := by
  have d1 : (c.kind == 1) = false := by simpa using hk.2
  have d0 : (c.kind != 0) = true := by simpa using hk.1
  have hb1 : Below w.heap.size w (w.alloc (.cells #[.int .i64 c.thread, .int .i64 c.obj, .int .i64 c.kind, .int .u64 c.a, .int .u64 c.b, .int .u64 c.c] 43)) := (Below.refl _ w).alloc (Nat.le_refl _) _
  have N := refuseMake 9 (w.alloc (.cells #[.int .i64 c.thread, .int .i64 c.obj, .int .i64 c.kind, .int .u64 c.a, .int .u64 c.b, .int .u64 c.c] 43))
  have HB1 := hide hb1
  unfold clV
  clear hk hb1
  go_enter Try.func95, Try.ntmps95
  go_wp2_with fail
  refine N.mono ?_
  rintro e w1 ⟨b, b1, rfl, hno, z1, z2, hb2⟩
  have HNO := hide hno
  have HB2 := hide hb2
  clear hno hb2 N
  unfold onceV
  go_wp2
  go_ret
  have hs : w.heap.size ≤ (w.alloc (.cells #[.int .i64 c.thread, .int .i64 c.obj, .int .i64 c.kind, .int .u64 c.a, .int .u64 c.b, .int .u64 c.c] 43)).heap.size := HB1.out.size
  exact ⟨b, b1, rfl, HNO.out, Nat.le_trans hs z1, Nat.le_trans hs z2, HB1.out.trans (HB2.out.mono hs)⟩
set_option maxRecDepth 100000 in
set_option maxHeartbeats 2000000 in
theorem snStartF {ps pw : Nat} {w : World} {t u p : Nat} {c : Cl} (hk : c.kind = 0) (ht : t < 16) (hu : w.cell? ⟨ps, 3 + t, none⟩ = some (.int .i64 (u : Int))) (hp : w.cell? ⟨ps, 2, none⟩ = some (.int .i64 (p : Int))) (hpu : p ≤ u) (hz : ps < w.heap.size) :
    Calls Try.prog 95 #[.pointer (some ⟨ps, 0, none⟩), .pointer (some ⟨pw, 0, none⟩), .int .i64 t, clV c] w fun e w' => ∃ b b1, e = .returned (onceV b) ∧ OnceNo w' b b1 6 ∧ w.heap.size ≤ b ∧ w.heap.size ≤ b1 ∧ Below w.heap.size w w' := by
  have d1 : (c.kind == 1) = false := by simp [hk]
  have d0 : (c.kind != 0) = false := by simp [hk]
  have hq : (p : Int) ≤ (u : Int) := by omega
  have hq' : ¬ (u : Int) < (p : Int) := by omega
  have ht' : (t : Int) < 16 := by omega
  have hb1 : Below w.heap.size w (w.alloc (.cells #[.int .i64 c.thread, .int .i64 c.obj, .int .i64 c.kind, .int .u64 c.a, .int .u64 c.b, .int .u64 c.c] 43)).drew := ((Below.refl _ w).alloc (Nat.le_refl _) _).drew
  have N := refuseMake 6 (w.alloc (.cells #[.int .i64 c.thread, .int .i64 c.obj, .int .i64 c.kind, .int .u64 c.a, .int .u64 c.b, .int .u64 c.c] 43)).drew
  have HB1 := hide hb1
  unfold clV
  clear hb1 hk
  go_enter Try.func95, Try.ntmps95
  go_upto_region 5 with fail
  refine wp_region_seq (fun Y => Y.cell? ⟨ps, 3 + t, none⟩ = some (.int .i64 (u : Int)) ∧ Y.cell? ⟨ps, 2, none⟩ = some (.int .i64 (p : Int))) (.take 0 <| .take 1 <| .take 2 <| .take 3 <| .take 4 <| .take 5 <| .take 6 <| .take 7 <| .take 8 <| .take 9 <| .take 10 <| .take 11 <| .done) (by kernel_rfl) (by kernel_rfl) (by kernel_rfl) (by refine ⟨?_, ?_⟩ <;> go_simp) ?_
  iterate 12 (refine seq_take (v := ?_) rfl (by rfl) ?_ ?_; rotate_left; (focus (intro wS hS; obtain ⟨s0, s1⟩ := hS; go_simp; exact rfl)); simp only [Act.put, List.setIfInBounds_toArray, List.set_cons_zero, List.set_cons_succ])
  refine seq_nil ?_
  go_wp2_with fail
  refine N.mono ?_
  rintro e w1 ⟨b, b1, rfl, hno, z1, z2, hb2⟩
  have HNO := hide hno
  have HB2 := hide hb2
  clear hno hb2 N
  unfold onceV
  go_wp2
  go_ret
  have hs : w.heap.size ≤ (w.alloc (.cells #[.int .i64 c.thread, .int .i64 c.obj, .int .i64 c.kind, .int .u64 c.a, .int .u64 c.b, .int .u64 c.c] 43)).drew.heap.size := HB1.out.size
  exact ⟨b, b1, rfl, HNO.out, Nat.le_trans hs z1, Nat.le_trans hs z2, HB1.out.trans (HB2.out.mono hs)⟩
end Go.Proofs.Ytlfingcmekifkaa

namespace Go.Proofs.Ytlfingcmekifkaa
open Go.RowKit

theorem tlDispStep (b : Nat) : Disp Try.prog (tlV b) "Step" 124 (.pointer (some ⟨b, 0, none⟩)) := fun _ _ => by kernel_rfl
theorem tlDispAnswer (b : Nat) : Disp Try.prog (tlV b) "Answer" 123 (.pointer (some ⟨b, 0, none⟩)) := fun _ _ => by kernel_rfl
theorem gvDispStep (b : Nat) : Disp Try.prog (gvV b) "Step" 122 (.pointer (some ⟨b, 0, none⟩)) := fun _ _ => by kernel_rfl
theorem gvDispAnswer (b : Nat) : Disp Try.prog (gvV b) "Answer" 121 (.pointer (some ⟨b, 0, none⟩)) := fun _ _ => by kernel_rfl
theorem upDispStep (b : Nat) : Disp Try.prog (.iface 192 (.pointer (some ⟨b, 0, none⟩))) "Step" 133 (.pointer (some ⟨b, 0, none⟩)) := fun _ _ => by kernel_rfl
theorem upDispAnswer (b : Nat) : Disp Try.prog (.iface 192 (.pointer (some ⟨b, 0, none⟩))) "Answer" 132 (.pointer (some ⟨b, 0, none⟩)) := fun _ _ => by kernel_rfl
theorem laDispStart (pe : Nat) : Disp Try.prog (.iface 64 (.pointer (some ⟨pe, 0, none⟩))) "Start" 93 (.pointer (some ⟨pe, 0, none⟩)) := fun _ _ => by kernel_rfl
theorem gvLate (b : Nat) : LateNo (gvV b) := fun w => run_typeAssert_lacksB Try.underlying136 (by kernel_rfl) (by kernel_rfl) _ _ w
theorem tlLate (b : Nat) : LateNo (tlV b) := fun w => run_typeAssert_lacksB Try.underlying136 (by kernel_rfl) (by kernel_rfl) _ _ w
def laV (e v : Int) : Value := .tuple #[.agg #[.int .i64 e, .int .u64 v, .slice none 0 0], .slice none 0 0]
set_option maxRecDepth 100000 in
theorem upAnswerW (bu : Nat) (w : World) : Calls Try.prog 132 #[.pointer (some ⟨bu, 0, none⟩)] w fun e w' => e = .returned (laV 0 0) ∧ Below w.heap.size w w' := by
  unfold laV
  go_enter Try.func132, Try.ntmps132
  go_wp2
  refine bodyPost_ret (v := .tuple #[.agg #[.int .i64 0, .int .u64 0, .slice none 0 0], .slice none 0 0]) (by simp [results, Try.results132, go_sem, *]) rfl ⟨rfl, ?_⟩
  (repeat' (first | exact Below.refl _ _ | assumption | refine Below.drew ?_ | refine below_drewN ?_ _ | refine Below.alloc ?_ (by simp <;> omega) _ | refine Below.setCell ?_ (by simp <;> omega) _))
set_option maxRecDepth 100000 in
theorem tlAnswerW {bt : Nat} {x : Value} {all : Int} {w : World} (hb : w.heap[bt]? = some (.cells #[x, .int .u64 all] 196 (0, 0))) :
    Calls Try.prog 123 #[.pointer (some ⟨bt, 0, none⟩)] w fun e w' => e = .returned (laV 0 all) ∧ Below w.heap.size w w' := by
  have c1 := cell_of_row w bt 1 _ _ _ hb
  have zb := heap_lt hb
  clear hb
  unfold laV
  go_enter Try.func123, Try.ntmps123
  go_wp2
  refine bodyPost_ret (v := .tuple #[.agg #[.int .i64 0, .int .u64 all, .slice none 0 0], .slice none 0 0]) (by simp [results, Try.results123, go_sem, *]) rfl ⟨rfl, ?_⟩
  (repeat' (first | exact Below.refl _ _ | assumption | refine Below.drew ?_ | refine below_drewN ?_ _ | refine Below.alloc ?_ (by simp <;> omega) _ | refine Below.setCell ?_ (by simp <;> omega) _))
set_option maxRecDepth 100000 in
theorem gvAnswerN {bg pe t : Nat} {m : Value} {v : Int} {w : World} (hb : w.heap[bg]? = some (.cells (gvA pe m t v 6 false) 184 (0, 0))) :
    Calls Try.prog 121 #[.pointer (some ⟨bg, 0, none⟩)] w fun e w' => e = .returned (laV 6 0) ∧ Below w.heap.size w w' := by
  unfold gvA at hb
  obtain ⟨c0, c1, c2, c3, c4, c5, zb⟩ := cells6 hb
  clear hb c1
  unfold laV
  go_enter Try.func121, Try.ntmps121
  go_wp2
  refine bodyPost_ret (v := .tuple #[.agg #[.int .i64 6, .int .u64 0, .slice none 0 0], .slice none 0 0]) (by simp [results, Try.results121, go_sem, *]) rfl ⟨rfl, ?_⟩
  (repeat' (first | exact Below.refl _ _ | assumption | refine Below.drew ?_ | refine below_drewN ?_ _ | refine Below.alloc ?_ (by simp <;> omega) _ | refine Below.setCell ?_ (by simp <;> omega) _))
set_option maxRecDepth 100000 in
theorem gvAnswerW {bg bt pe t : Nat} {x : Value} {v all : Int} {w : World} (hb : w.heap[bg]? = some (.cells (gvA pe (tlV bt) t v 0 true) 184 (0, 0))) (ht : w.heap[bt]? = some (.cells #[x, .int .u64 all] 196 (0, 0))) :
    Calls Try.prog 121 #[.pointer (some ⟨bg, 0, none⟩)] w fun e w' => e = .returned (laV 0 all) ∧ Below w.heap.size w w' := by
  unfold gvA tlV at hb
  obtain ⟨c0, c1, c2, c3, c4, c5, zb⟩ := cells6 hb
  have zt := heap_lt ht
  have HT := hide ht
  clear hb ht
  go_enter Try.func121, Try.ntmps121
  go_wp2_with fail
  refine upon_disp0 (tlDispAnswer bt) (by kernel_rfl) (tlAnswerW ((heap_alloc_old _ _ zt).trans HT.out)) ?_
  rintro e w1 ⟨rfl, hb⟩
  refine ⟨_, rfl, ?_⟩
  simp only [Act.put, List.setIfInBounds_toArray, List.set_cons_zero, List.set_cons_succ]
  unfold laV
  have zs : w.heap.size < w1.heap.size := by have := hb.size; simp at this; omega
  have hr : w1.heap[w.heap.size]? = some (.cells #[.int .i64 0, .int .u64 0, .slice none 0 0] 39 (0, 0)) := (hb.block _ (by simp)).trans (heap_alloc_new _ _)
  have e0 := cell_of_row w1 w.heap.size 0 _ _ _ hr
  have e1 := cell_of_row w1 w.heap.size 1 _ _ _ hr
  have e2 := cell_of_row w1 w.heap.size 2 _ _ _ hr
  have f0 := frozen_of_row w1 w.heap.size 0 _ _ hr
  have f1 := frozen_of_row w1 w.heap.size 1 _ _ hr
  have f2 := frozen_of_row w1 w.heap.size 2 _ _ hr
  have HB := hide hb
  clear hb hr c1
  go_wp2
  refine bodyPost_ret (v := .tuple #[.agg #[.int .i64 0, .int .u64 all, .slice none 0 0], .slice none 0 0]) (by simp [results, Try.results121, go_sem, *]) rfl ⟨rfl, ?_⟩
  have hb := (((Below.refl _ w).alloc (Nat.le_refl _) (.cells #[.int .i64 0, .int .u64 0, .slice none 0 0] 39)).trans (HB.out.mono (by simp)))
  (repeat' (first | exact Below.refl _ _ | assumption | refine Below.drew ?_ | refine below_drewN ?_ _ | refine Below.alloc ?_ (by simp <;> omega) _ | refine Below.setCell ?_ (by simp <;> omega) _))
set_option maxRecDepth 100000 in
set_option maxHeartbeats 1000000 in
theorem laScan {pe ps pw t : Nat} {w : World} (h0 : w.cell? ⟨pe, 0, none⟩ = some (.pointer (some ⟨ps, 0, none⟩))) :
    Calls Try.prog 96 #[.pointer (some ⟨pe, 0, none⟩), .pointer (some ⟨pw, 0, none⟩), .int .i64 t] w fun e w' => e = .returned (.pointer (some ⟨w.heap.size + 3, 0, none⟩)) ∧ TlAt w' (w.heap.size + 3) (w.heap.size + 2) (w.heap.size + 1) ps (.slice none 0 0) Sc.new 0 ∧ Below w.heap.size w w' := by
  have N := snStartR (ps := ps) (pw := pw) (w := w) (t := t) (c := ⟨0, 0, 1, 0, 0, 0⟩) rfl
  unfold clV at N
  dsimp only at N
  go_enter Try.func96, Try.ntmps96
  go_wp2_with fail
  refine N.mono ?_
  rintro e w1 ⟨rfl, rfl⟩
  go_wp2
  go_ret
  have hz : (w.alloc (.cells #[.int .i64 0, .int .i64 0, .int .i64 1, .int .u64 0, .int .u64 0, .int .u64 0] 43)).heap.size = w.heap.size + 1 := by simp
  obtain ⟨m0, m1, m2⟩ := allocs3 (w.alloc (.cells #[.int .i64 0, .int .i64 0, .int .i64 1, .int .u64 0, .int .u64 0, .int .u64 0] 43)) (.cells (scA56 ps) 199) (.cells #[.pointer (some ⟨w.heap.size + 1, 0, none⟩), .slice none 0 0] 191) (.cells #[.iface 187 (.pointer (some ⟨w.heap.size + 2, 0, none⟩)), .int .u64 0] 196)
  rw [hz] at m0 m1 m2
  refine ⟨rfl, ⟨m2, ⟨_, m1⟩, scAt_new m0, by omega, by omega, by omega, by simp [Value.ownBlock], by simp [Value.ownBlock]⟩, ?_⟩
  (repeat' (first | with_reducible assumption | with_reducible exact Below.refl _ _ | with_reducible refine Below.drew ?_ | with_reducible refine below_drewN ?_ _ | with_reducible refine Below.alloc ?_ ?_ _ | with_reducible refine Below.setCell ?_ ?_ _ | omega | (simp; done) | (simp; omega)))
end Go.Proofs.Ytlfingcmekifkaa

namespace Go.Proofs.Ytlfingcmekifkaa
open Go.RowKit

set_option maxRecDepth 100000 in
set_option maxHeartbeats 1000000 in
/-- The machine at hand goes on. -/
theorem gvStepF {w : World} {bg pe t pw : Nat} {tm : TypeId} {um r : Value} {f : FuncId} {v x : Int} {sc : Bool} {R : Ending → World → Prop} (hb : w.heap[bg]? = some (.cells (gvA pe (.iface tm um) t v x sc) 184 (0, 0))) (hd : Disp Try.prog (.iface tm um) "Step" f r) (hc : Calls Try.prog f #[r, .pointer (some ⟨pw, 0, none⟩)] w R) (hR : ∀ e w', R e w' → e = .returned (.bool false)) :
    Calls Try.prog 122 #[.pointer (some ⟨bg, 0, none⟩), .pointer (some ⟨pw, 0, none⟩)] w R := by
  unfold gvA at hb
  have c1 := cell_of_row w bg 1 _ _ _ hb
  have zb := heap_lt hb
  have HC := hide hc
  have HD := hide hd
  have HR := hide hR
  clear hb hc hd hR
  go_enter Try.func122, Try.ntmps122
  go_wp2_with fail
  refine upon_disp1 HD.out (by kernel_rfl) HC.out ?_
  intro e w1 h
  obtain rfl := HR.out e w1 h
  refine ⟨_, rfl, ?_⟩
  simp only [Act.put, List.setIfInBounds_toArray, List.set_cons_zero, List.set_cons_succ]
  have H := hide h
  clear h HC HD HR c1
  go_wp2
  exact H.out
set_option maxRecDepth 100000 in
set_option maxHeartbeats 1000000 in
/-- The teller at hand is done. -/
theorem gvStepT {w : World} {bg pe t pw : Nat} {tm : TypeId} {um r : Value} {f : FuncId} {v x : Int} {R : Ending → World → Prop} (hb : w.heap[bg]? = some (.cells (gvA pe (.iface tm um) t v x true) 184 (0, 0))) (hd : Disp Try.prog (.iface tm um) "Step" f r) (hc : Calls Try.prog f #[r, .pointer (some ⟨pw, 0, none⟩)] w R) (hR : ∀ e w', R e w' → e = .returned (.bool true) ∧ w'.heap[bg]? = w.heap[bg]?) :
    Calls Try.prog 122 #[.pointer (some ⟨bg, 0, none⟩), .pointer (some ⟨pw, 0, none⟩)] w R := by
  have HB := hide hb
  unfold gvA at hb
  have c1 := cell_of_row w bg 1 _ _ _ hb
  have zb := heap_lt hb
  have HC := hide hc
  have HD := hide hd
  have HR := hide hR
  clear hb hc hd hR
  go_enter Try.func122, Try.ntmps122
  go_wp2_with fail
  refine upon_disp1 HD.out (by kernel_rfl) HC.out ?_
  intro e w1 h
  obtain ⟨rfl, h1⟩ := HR.out e w1 h
  refine ⟨_, rfl, ?_⟩
  simp only [Act.put, List.setIfInBounds_toArray, List.set_cons_zero, List.set_cons_succ]
  have hb1 := h1.trans HB.out
  unfold gvA at hb1
  have c5 := cell_of_row w1 bg 5 _ _ _ hb1
  have zb1 := heap_lt hb1
  have H := hide h
  clear h HC HD HR c1 hb1 h1
  go_wp2
  exact H.out
set_option maxRecDepth 100000 in
set_option maxHeartbeats 1000000 in
/-- The giver may not. -/
theorem gvStepN {w : World} {bg b b1 pe t pw : Nat} {v x : Int} (h : FuAt w bg b b1 pe t v x) :
    Calls Try.prog 122 #[.pointer (some ⟨bg, 0, none⟩), .pointer (some ⟨pw, 0, none⟩)] w fun e w' => e = .returned (.bool true) ∧ FuAt w' bg b b1 pe t v 6 ∧ Keep (fun k => k < w.heap.size ∧ k ≠ bg ∧ k ≠ b) w w' := by
  obtain ⟨hb, hno, e1, e2, e3⟩ := h
  have HB := hide hb
  unfold gvA onceV at hb
  have c1 := cell_of_row w bg 1 _ _ _ hb
  have zb := heap_lt hb
  have HNO := hide hno
  clear hb hno
  go_enter Try.func122, Try.ntmps122
  go_wp2_with fail
  refine upon_disp1 (onceDispStep b) (by kernel_rfl) (refuseStep b b1 pw 6 w HNO.out) ?_
  rintro e w1 ⟨rfl, h1, h2, h3⟩
  refine ⟨_, rfl, ?_⟩
  simp only [Act.put, List.setIfInBounds_toArray, List.set_cons_zero, List.set_cons_succ]
  have hb1 := (h3.block bg ⟨e1, zb⟩).trans HB.out
  have HB1 := hide hb1
  unfold gvA onceV at hb1
  have d1 := cell_of_row w1 bg 1 _ _ _ hb1
  have d5 := cell_of_row w1 bg 5 _ _ _ hb1
  have zb1 := heap_lt hb1
  have NA := onceAnswer b 6 0 (.slice none 0 0) _ w1 h2 ⟨_, _, _, rfl⟩
  have HNA := hide NA
  have H1 := hide h1
  have H3 := hide h3
  clear h1 h2 h3 hb1 NA c1 HNO
  go_wp2_with fail
  refine upon_disp0 (onceDispAnswer b) (by kernel_rfl) HNA.out ?_
  rintro e w2 ⟨rfl, hbl⟩
  refine ⟨_, rfl, ?_⟩
  simp only [Act.put, List.setIfInBounds_toArray, List.set_cons_zero, List.set_cons_succ]
  have hb2 := (hbl.block bg zb1).trans HB1.out
  have HB2 := hide hb2
  unfold gvA onceV at hb2
  have f4 := frozen_of_row w2 bg 4 _ _ hb2
  have x4 := cell_of_row w2 bg 4 _ _ _ hb2
  have zb2 := heap_lt hb2
  have HBL := hide hbl
  clear hb2 hbl HNA d1 d5
  go_wp2
  go_ret
  have hk1 : Keep (fun k => k < w1.heap.size ∧ k ≠ bg) w1 ((w2.setCell ⟨bg, 4, none⟩ (.int .i64 6)).alloc (.cells #[.int .i64 6, .int .u64 0, .slice none 0 0] 39)) := (Keep.of_below HBL.out (fun k hk => hk.1)).trans (((Keep.refl (fun k => k < w2.heap.size ∧ k ≠ bg) w2).setCell (fun hh => hh.2 rfl) _).alloc (fun k hk => by simpa using hk.1) _ |>.mono (fun k hk => ⟨Nat.lt_of_lt_of_le hk.1 HBL.out.size, hk.2⟩))
  refine ⟨rfl, ⟨?_, H1.out.keep hk1 ⟨H1.out.lt.1, Ne.symm e1⟩ ⟨H1.out.lt.2, Ne.symm e2⟩, e1, e2, e3⟩, (H3.out.mono (fun k hk => ⟨hk.2.2, hk.1⟩)).trans (hk1.mono (fun k hk => ⟨Nat.lt_of_lt_of_le hk.1 H3.out.size, hk.2.1⟩))⟩
  exact (heap_alloc_old _ _ (by simpa using zb2)).trans ((cells_set HB2.out).trans rfl)
end Go.Proofs.Ytlfingcmekifkaa
