/- Operations that are done whole (package solo): one operation. -/
/- Operations that are done whole (package solo): one operation, of an object that there is. -/
import Derived.Test.YtmiimpmfkjcjlaaGreatSo3
namespace Go.Proofs.YtmiimpmfkjcjlaaGreat
open Go.RowKit
attribute [local go_sem] run_store_fn run_store_nilfn

def soDo (n : Int) (specs : List Sp) (sts : List (List Int)) (last : List Int) (c : Cl) : (List (List Int) × List Int) × An :=
  if ¬ (0 ≤ c.obj ∧ c.obj < specs.length) then ((sts, last), anE 12) else
  if ((specs[c.obj.toNat]?).getD ⟨0, 0, 0⟩).kind = 8 ∧ (applyM n ((specs[c.obj.toNat]?).getD ⟨0, 0, 0⟩) ((sts[c.obj.toNat]?).getD []) c).2.err = 0 ∧ c.kind = 0 ∧
    ((specs[c.obj.toNat]?).getD ⟨0, 0, 0⟩).p ≤ (ownN ((sts[c.obj.toNat]?).getD []) c.thread : Nat) + (if (last[c.obj.toNat]?).getD (-1) = c.thread then 1 else 0) then ((sts, last), anE 6) else
  if ((specs[c.obj.toNat]?).getD ⟨0, 0, 0⟩).kind = 8 ∧ (applyM n ((specs[c.obj.toNat]?).getD ⟨0, 0, 0⟩) ((sts[c.obj.toNat]?).getD []) c).2.err = 0 ∧ c.kind = 1 then
    ((sts.set c.obj.toNat (applyM n ((specs[c.obj.toNat]?).getD ⟨0, 0, 0⟩) ((sts[c.obj.toNat]?).getD []) c).1, last.set c.obj.toNat (at0 ((sts[c.obj.toNat]?).getD []) 0)), (applyM n ((specs[c.obj.toNat]?).getD ⟨0, 0, 0⟩) ((sts[c.obj.toNat]?).getD []) c).2)
  else ((sts.set c.obj.toNat (applyM n ((specs[c.obj.toNat]?).getD ⟨0, 0, 0⟩) ((sts[c.obj.toNat]?).getD []) c).1, last), (applyM n ((specs[c.obj.toNat]?).getD ⟨0, 0, 0⟩) ((sts[c.obj.toNat]?).getD []) c).2)
theorem soDo_out {n : Int} {specs : List Sp} {sts : List (List Int)} {last : List Int} {c : Cl} (h : ¬ (0 ≤ c.obj ∧ c.obj < specs.length)) : soDo n specs sts last c = ((sts, last), anE 12) := by unfold soDo; rw [if_pos h]
theorem soDo_in {n : Int} {specs : List Sp} {sts : List (List Int)} {last : List Int} {c : Cl} {o : Nat} {s : Sp} {x : List Int} {t : Int} (ho : c.obj = (o : Int)) (hs : specs[o]? = some s) (hx : sts[o]? = some x) (ht : last[o]? = some t) :
    soDo n specs sts last c = if s.kind = 8 ∧ (applyM n s x c).2.err = 0 ∧ c.kind = 0 ∧ s.p ≤ (ownN x c.thread : Nat) + (if t = c.thread then 1 else 0) then ((sts, last), anE 6) else
      if s.kind = 8 ∧ (applyM n s x c).2.err = 0 ∧ c.kind = 1 then ((sts.set o (applyM n s x c).1, last.set o (at0 x 0)), (applyM n s x c).2) else ((sts.set o (applyM n s x c).1, last), (applyM n s x c).2) := by
  have hlt := (List.getElem?_eq_some_iff.1 hs).1
  unfold soDo
  rw [if_neg (by omega), ho, Int.toNat_natCast, hs, hx, ht]
  rfl
theorem lastMap_set {last : List Int} {o : Nat} {y : Int} (ho : o < last.length) (hy : y ≠ -1) : (fun x => if x = (o : Int) then some (Value.agg #[.bool true, .int .u64 y]) else lastMap last x) = lastMap (last.set o y) := by
  funext x
  by_cases hx : x = (o : Int)
  · subst hx
    rw [if_pos rfl, lastMap_some (by rw [List.getElem?_set_self ho]) hy]
  · rw [if_neg hx]
    unfold lastMap
    by_cases h0 : 0 ≤ x
    · rw [if_pos h0, if_pos h0, List.getElem?_set_ne (by omega)]
    · rw [if_neg h0, if_neg h0]
def DoPost (n : Int) (sp v : Value) (b mb B : Nat) (R : (List (List Int) × List Int) × An) (w : World) (e : Ending) (w' : World) : Prop :=
  ∃ (L : Value) (ps' : List StP), e = .returned (.agg #[.int .i64 R.2.err, .int .u64 R.2.val, L]) ∧ SlW w' L R.2.list ∧ Tw w' L ∧ SoAt w' b n sp v mb ∧ StRow w' B v ps' ∧ ps'.map Prod.fst = R.1.1 ∧ IMap w' mb .i64 (lastMap R.1.2) ∧
    Keep (fun j => j < w.heap.size ∧ some j ≠ v.ownBlock ∧ j ≠ mb) w w'
theorem wp_upd_imap {P : Program} {w : World} {o : Oper} {a : Act} {K : Act → World → Prop} {Q : Exit → Act → World → Prop} (xm x xv : Operand) (t : TypeId) (hop : o.op = Op.mapUpdate t xm x xv) (k e : TypeId) (kk : IntKind) (ht : P.underlying t = some (.map k e)) (hk : P.underlying k = some (.int kk))
    (b : Nat) (m : Int → Option Value) (hm : a.eval xm = .map (some b)) (h : IMap w b kk m) (n : Int) (u : Value) (hx : a.eval x = .int kk n) (hv : a.eval xv = u)
    (hK : ∀ w', IMap w' b kk (fun x => if x = n then some u else m x) → w.grownBy w' (some b) → w'.heap.size = w.heap.size → K (a.put o.dst undef) w') : Oper.wp P o a w K Q := by
  obtain ⟨w', hrun, r1, r2, r3⟩ := run_update_imap ht hk h n u
  unfold Oper.wp
  simp [execOp, hop, hm, hx, hv, hrun, Result.andThen]
  exact hK w' r1 r2 r3

theorem doPost_keep {n : Int} {sp v L : Value} {b mb B : Nat} {ps : List StP} {last l : List Int} {E V : Int} {w w' : World} (hSo : SoAt w b n sp v mb) (hSt : StRow w B v ps) (hM : IMap w mb .i64 (lastMap last)) (hk : Keep (fun j => j < w.heap.size) w w') (hsl : SlW w' L l) (htw : Tw w' L) :
    DoPost n sp v b mb B ((ps.map Prod.fst, last), ⟨E, V, l⟩) w (.returned (.agg #[.int .i64 E, .int .u64 V, L])) w' :=
  ⟨L, ps, rfl, hsl, htw, (hk.block b (Array.getElem?_eq_some_iff.1 hSo).1).trans hSo, ob_keep hSt hk (fun j cs t fr hj _ => (Array.getElem?_eq_some_iff.1 hj).1), rfl, hM.of_block (hk.block mb hM.lt), hk.mono (fun k h => h.1)⟩
set_option maxRecDepth 100000 in
set_option maxHeartbeats 4000000 in
theorem sdo_out (n : Int) (As : Option Addr) (ms cs b mb B : Nat) (v : Value) (specs : List Sp) (ps : List StP) (last : List Int) (c : Cl) (w : World) (hSo : SoAt w b n (.slice As ms cs) v mb) (hSt : StRow w B v ps) (hM : IMap w mb .i64 (lastMap last)) (hms : specs.length = ms) (hm8 : ms ≤ 8)
    (ho : ¬ (0 ≤ c.obj ∧ c.obj < specs.length)) :
    Calls Tryz.prog 46 #[.pointer (some ⟨b, 0, none⟩), clV c] w (DoPost n (.slice As ms cs) v b mb B (soDo n specs (ps.map Prod.fst) last c) w) := by
  obtain ⟨vA, vc, rfl, _⟩ := ob_len stEn_len hSt
  rw [soDo_out ho]
  have HSo := hide hSo
  have HSt := hide hSt
  have HM := hide hM
  have hm63 : (ms : Int) ≤ 8 := by omega
  obtain ⟨a0, a1, a2, a3, bz⟩ := cells4 hSo
  obtain ⟨W, hW⟩ : ∃ W, W = (w.alloc (.cells #[.int .i64 c.thread, .int .i64 c.obj, .int .i64 c.kind, .int .u64 c.a, .int .u64 c.b, .int .u64 c.c] 27)).alloc (.cells #[.int .i64 0, .int .u64 0, .slice none 0 0] 57) := ⟨_, rfl⟩
  have hBW : Below w.heap.size w W := by rw [hW]; exact ((Below.refl _ _).alloc (Nat.le_refl _) _).alloc (by simp) _
  have hzW : W.heap.size = w.heap.size + 2 := by rw [hW]; simp
  have HCB : Hid (W.heap[w.heap.size]? = some (.cells #[.int .i64 c.thread, .int .i64 c.obj, .int .i64 c.kind, .int .u64 c.a, .int .u64 c.b, .int .u64 c.c] 27 (0, 0))) := hide (by rw [hW]; exact (heap_alloc_old _ _ (by simp)).trans (heap_alloc_new _ _))
  have HRB : Hid (W.heap[w.heap.size + 1]? = some (.cells #[.int .i64 0, .int .u64 0, .slice none 0 0] 57 (0, 0))) := hide (by
    rw [hW]
    have h := heap_alloc_new (w.alloc (.cells #[.int .i64 c.thread, .int .i64 c.obj, .int .i64 c.kind, .int .u64 c.a, .int .u64 c.b, .int .u64 c.c] 27)) (.cells #[.int .i64 0, .int .u64 0, .slice none 0 0] 57)
    simpa using h)
  obtain ⟨c0, c1, c2, c3, c4, c5, cz⟩ := cells6 HCB.out
  replace a0 := (hBW.cell (p := ⟨b, 0, none⟩) bz).trans a0
  replace a1 := (hBW.cell (p := ⟨b, 1, none⟩) bz).trans a1
  replace a2 := (hBW.cell (p := ⟨b, 2, none⟩) bz).trans a2
  replace bz : b < W.heap.size := by omega
  have HBW := hide hBW
  have hko : decide (c.obj < 0) = true ∨ (decide (c.obj < 0) = false ∧ decide ((ms : Int) ≤ c.obj) = true) := by
    by_cases h : c.obj < 0
    · exact Or.inl (by simpa using h)
    · refine Or.inr ⟨by simpa using h, ?_⟩
      simp
      omega
  clear hSo hSt hM ho hms hBW
  rcases hko with d0 | ⟨d0, d1⟩
  all_goals
    go_enter Tryz.func46, Tryz.ntmps46
    go_wp2_with fail
    rw [← hW]
    clear hW
    refine wp_region_seq (Below W.heap.size W) (.take 0 <| .take 1 <| .take 2 <| .take 3 <| .take 4 <| .take 5 <| .take 6 <| .take 7 <| .take 8 <| .take 9 <| .take 10 <| .take 11 <| .take 12 <| .done) (by kernel_rfl) (by kernel_rfl) (by kernel_rfl) (by (repeat' (first | with_reducible assumption | with_reducible exact Below.refl _ _ | with_reducible refine Below.drew ?_ | with_reducible refine below_drewN ?_ _ | with_reducible refine Below.alloc ?_ ?_ _ | with_reducible refine Below.setCell ?_ ?_ _ | omega | (simp; done) | (simp; omega)))) ?_
    repeat (first | (refine seq_take (v := ?_) rfl (by rfl) ?_ ?_; rotate_left; (focus (intro wS hS; have z0 := (hS.cell (p := ⟨b, 0, none⟩) bz).trans a0; have z1 := (hS.cell (p := ⟨b, 1, none⟩) bz).trans a1; have z2 := (hS.cell (p := ⟨b, 2, none⟩) bz).trans a2; have y1 := (hS.cell (p := ⟨w.heap.size, 1, none⟩) cz).trans c1; go_simp; exact rfl)); simp only [Act.put, List.setIfInBounds_toArray, List.set_cons_zero, List.set_cons_succ]) | (refine seq_skip rfl (by rfl) ?_; simp only [Act.put, List.setIfInBounds_toArray, List.set_cons_zero, List.set_cons_succ]))
    refine seq_nil ?_
    obtain ⟨r0, r1, r2, f0, f1, f2, rz⟩ := cells3 HRB.out
    go_wp2
    refine bodyPost_ret (v := .agg #[.int .i64 12, .int .u64 0, .slice none 0 0]) (by simp [results, Tryz.results46, go_sem, *]) rfl ?_
    have hk : Keep (fun j => j < w.heap.size) w W := Keep.of_below HBW.out (fun _ h => h)
    refine doPost_keep HSo.out HSt.out HM.out (hk.trans ?_) (slw_none _) (tw_none _ _ _)
    (repeat' (first | with_reducible assumption | with_reducible exact Keep.refl _ _ | with_reducible refine Keep.drew ?_ | with_reducible refine Keep.drewN ?_ _ | with_reducible refine Keep.setCell ?_ ?_ _ | with_reducible refine Keep.alloc ?_ ?_ _ | (intro k hk; omega) | (intro k hk; simp at hk ⊢; omega) | omega | (simp; done) | (simp; omega)))
end Go.Proofs.YtmiimpmfkjcjlaaGreat

namespace Go.Proofs.YtmiimpmfkjcjlaaGreat
open Go.RowKit
attribute [local go_sem] run_store_fn run_store_nilfn

theorem own_max {w : World} {B n : Nat} {e : TypeId} {sz : Nat} {v : Value} {xs : List Value} (h : w.ownsRow B e sz v n xs) : n ≤ maxLen := by
  rcases h.2 with ⟨_, h0⟩ | ⟨g, cap, cur, _, _, _, h1, h2, _⟩
  · omega
  · omega
theorem wown_sl {w : World} {B m : Nat} {v : Value} {l : List Int} (h : WOwn w B v m l) : SlW w v l := by
  have h1 := own_len h
  have h2 := own_max h
  simp at h1
  subst h1
  exact wrow_sl (show WRow w B v l from h) h2
theorem own_setT {w : World} {B n b j : Nat} {T T' : TypeId} {sz : Nat} {v u : Value} {xs : List Value} {cs : Array Value} {fr : Nat × Nat} (h : w.ownsRow B T sz v n xs) (hb : w.heap[b]? = some (.cells cs T' fr)) (hne : T' ≠ T) : (w.setCell ⟨b, j, none⟩ u).ownsRow B T sz v n xs := by
  have hn := own_ne h hb hne
  obtain ⟨h1, h2 | ⟨g, cap, cur, rfl, e2, e3, e4⟩⟩ := h
  · exact ⟨h1, Or.inl h2⟩
  · exact ⟨h1, Or.inr ⟨g, cap, cur, rfl, e2, (Below.heap_setCell _ _ _ _ (fun e => hn (congrArg some e.symm))).trans e3, e4⟩⟩
theorem setT {w : World} {b j : Nat} {T' : TypeId} {u : Value} {cs : Array Value} {fr : Nat × Nat} (h : w.heap[b]? = some (.cells cs T' fr)) : ∃ cs', (w.setCell ⟨b, j, none⟩ u).heap[b]? = some (.cells cs' T' fr) := by
  simp [World.setCell, Array.getElem?_modify, h]
theorem doPost_set {n : Int} {sp : Value} {b mb B gr o rcap r A5c c6 : Nat} {A5 A6 : Option Addr} {ps : List StP} {last' R1 R3 : List Int} {E V : Int} {w Z F : World} {cs : Array Value} {fr : Nat × Nat} (hSo : SoAt Z b n sp (.slice (some ⟨gr, 0, none⟩) ps.length rcap) mb) (hSt : StRow Z B (.slice (some ⟨gr, 0, none⟩) ps.length rcap) ps)
    (hM : IMap Z mb .i64 (lastMap last')) (hkZ : Keep (fun j => j < w.heap.size ∧ j ≠ mb) w Z) (hO1 : WOwn Z w.heap.size (.slice A5 R1.length A5c) R1.length R1) (hO3 : WOwn Z w.heap.size (.slice A6 R3.length c6) R3.length R3)
    (hr : Z.heap[r]? = some (.cells cs 57 fr)) (hr2 : w.heap.size ≤ r) (hk : Keep (fun j => j ≠ r) (Z.setCell ⟨gr, o, none⟩ (.slice A5 R1.length A5c)) F) :
    DoPost n sp (.slice (some ⟨gr, 0, none⟩) ps.length rcap) b mb B ((((ps.map Prod.fst).set o R1), last'), ⟨E, V, R3⟩) w (.returned (.agg #[.int .i64 E, .int .u64 V, .slice A6 R3.length c6])) F := by
  have hgr : ∃ cur, Z.heap[gr]? = some (.cells cur 24 (0, 0)) := by
    rcases hSt.1.2 with ⟨e, _⟩ | ⟨g', cap', cur, e, _, hg, _⟩
    · cases e
    · cases e; exact ⟨_, hg⟩
  obtain ⟨cur, hgr⟩ := hgr
  have hbg : b ≠ gr := by
    intro e
    unfold SoAt at hSo
    rw [e, hgr] at hSo
    cases hSo
  have hrg : r ≠ gr := by
    intro e
    rw [e, hgr] at hr
    cases hr
  have hbr : b ≠ r := by
    intro e
    unfold SoAt at hSo
    rw [e, hr] at hSo
    cases hSo
  have hmr : mb ≠ r := by
    intro e
    obtain ⟨es, cl, h, _⟩ := hM
    rw [e, hr] at h
    cases h
  have hSt1 := st_set (p := (R1, A5, A5c)) (k := o) hSt (wown_sl hO1) (tw_own hO1) rfl
  have hO31 := own_setT (j := o) (u := .slice A5 R1.length A5c) hO3 hgr (by decide)
  have hr1 : ∃ cs' fr', (Z.setCell ⟨gr, o, none⟩ (.slice A5 R1.length A5c)).heap[r]? = some (.cells cs' 57 fr') := ⟨cs, fr, (Below.heap_setCell _ _ _ _ (fun e => hrg e)).trans hr⟩
  obtain ⟨cs', fr', hr1⟩ := hr1
  have hS : ∀ j cs t fr, (Z.setCell ⟨gr, o, none⟩ (.slice A5 R1.length A5c)).heap[j]? = some (.cells cs t fr) → t = 25 ∨ (t = 24 ∧ B ≤ j) → j ≠ r := by
    intro j cs2 t fr2 hj ht e
    rw [e, hr1] at hj
    cases hj
    rcases ht with ht | ⟨ht, _⟩ <;> cases ht
  have hS' : ∀ j cs fr, (Z.setCell ⟨gr, o, none⟩ (.slice A5 R1.length A5c)).heap[j]? = some (.cells cs 25 fr) → j ≠ r := fun j cs fr hj => hS j cs _ fr hj (Or.inl rfl)
  refine ⟨.slice A6 R3.length c6, ps.set o (R1, A5, A5c), rfl, sl_keepT (wown_sl hO31) (tw_own hO31) hk hS', (tw_own hO31).keep hk hS', ?_, ob_keep (v := .slice (some ⟨gr, 0, none⟩) ps.length rcap) hSt1 hk hS, ?_, ?_, ?_⟩
  · exact (hk.block b hbr).trans ((Below.heap_setCell _ _ _ _ (fun e => hbg e)).trans hSo)
  · rw [List.map_set]
  · exact (hM.setCell _ _).of_block (hk.block mb hmr)
  · refine (hkZ.mono (fun k hk => ⟨hk.1, hk.2.2⟩)).trans (Keep.trans ((Keep.refl _ _).setCell (fun h => h.2.1 rfl) _) (hk.mono (fun k h => by omega)))
end Go.Proofs.YtmiimpmfkjcjlaaGreat
