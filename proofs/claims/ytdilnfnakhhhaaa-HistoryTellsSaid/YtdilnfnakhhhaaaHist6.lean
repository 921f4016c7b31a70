/- History: Width. -/
import Derived.Test.YtdilnfnakhhhaaaHist5
namespace Go.Proofs.Ytdilnfnakhhhaaa
open Go.RowKit Go.Shelf

attribute [local go_sem] Oper.semAt_some

def widthTo (es : List Ev) : Nat → Nat
  | 0 => 0
  | k + 1 => max (widthTo es k) (match es[k]? with | some e => (ixTo es (withinB e.inv) es.length).length | none => 0)

theorem widthTo_succ {es : List Ev} {k : Nat} {e : Ev} (he : es[k]? = some e) : widthTo es (k + 1) = max (widthTo es k) (ixTo es (withinB e.inv) es.length).length := by rw [widthTo, he]

theorem widthTo_le (es : List Ev) (k : Nat) : widthTo es k ≤ es.length := by
  induction k with
  | zero => simp [widthTo]
  | succ k ih =>
    unfold widthTo
    split
    · have := ixTo_length es (withinB ‹Ev›.inv) es.length; omega
    · omega

set_option maxHeartbeats 1000000 in
theorem within_asks (w : World) (Ba : Nat) (at_ : Ev) (hB : Ba < w.heap.size) (ha : w.cell? ⟨Ba, 1, none⟩ = some (.int .i64 at_.inv)) (K : Nat → Prop) (hK : K Ba) :
    Asks K w 54 #[.pointer (some ⟨Ba, 0, none⟩)] (withinB at_.inv) := by
  refine ⟨enters_of Try.func54 (by kernel_rfl) rfl, fun e W hW => ?_⟩
  have ha' := (hW.cell (p := ⟨Ba, 1, none⟩) hK).trans ha
  have hB' := Nat.lt_of_lt_of_le hB hW.size
  clear ha hB hK
  show Calls Try.prog 54 #[.agg #[.int .i64 e.call, .int .i64 e.inv, .int .i64 e.resp, .int .i64 e.steps, .int .i64 e.err, .int .u64 e.val, .slice e.lA e.lN e.lC, .slice e.kA e.kN e.kC], .pointer (some ⟨Ba, 0, none⟩)] W _
  by_cases h1 : e.inv ≤ at_.inv
  · by_cases h2 : e.resp = 0
    · have HF : Hid (withinB at_.inv e = true) := by show _ = _; unfold withinB; simp [h1, h2]
      have r1 : (e.resp == 0) = true := by simp [h2]
      rw [HF.out]
      clear h2
      go_enter Try.func54, Try.ntmps54
      go_wp2
      all_goals (go_ret; refine ⟨ret_bool (by (first | rfl | (simp; done) | (simp <;> omega) | (simp [*]; done) | (simp [*] <;> omega))), ?_⟩; (repeat' (first | exact Below.refl _ _ | assumption | refine Below.drew ?_ | refine below_drewN ?_ _ | refine Below.alloc ?_ (by simp <;> omega) _ | refine Below.setCell ?_ (by simp <;> omega) _)))
    · have HF : Hid (withinB at_.inv e = decide (at_.inv ≤ e.resp)) := by show _ = _; unfold withinB; simp [h1, h2]
      have r1 : (e.resp == 0) = false := by simp [h2]
      rw [HF.out]
      clear h2
      go_enter Try.func54, Try.ntmps54
      go_wp2
      all_goals (go_ret; refine ⟨ret_bool (by (first | rfl | (simp; done) | (simp <;> omega) | (simp [*]; done) | (simp [*] <;> omega))), ?_⟩; (repeat' (first | exact Below.refl _ _ | assumption | refine Below.drew ?_ | refine below_drewN ?_ _ | refine Below.alloc ?_ (by simp <;> omega) _ | refine Below.setCell ?_ (by simp <;> omega) _)))
  · have HF : Hid (withinB at_.inv e = false) := by show _ = _; unfold withinB; simp [h1]
    rw [HF.out]
    go_enter Try.func54, Try.ntmps54
    go_wp2
    all_goals (go_ret; refine ⟨ret_bool (by (first | rfl | (simp; done) | (simp <;> omega) | (simp [*]; done) | (simp [*] <;> omega))), ?_⟩; (repeat' (first | exact Below.refl _ _ | assumption | refine Below.drew ?_ | refine below_drewN ?_ _ | refine Below.alloc ?_ (by simp <;> omega) _ | refine Below.setCell ?_ (by simp <;> omega) _)))

def mark (D : Nat) : Deferred := { target := .collected D, args := #[] }

/-- Blocks that wait to be shut when the frame leaves. -/
def Marks (B : Nat) (w : World) (Ds : List Nat) : Prop := Ds.Nodup ∧ ∀ D ∈ Ds, B ≤ D ∧ w.heap[D]? = some (.deferred (some []))

theorem marks_leave {F : Fence} {n : Nat} {P : Program} {fn : Func} {tmps : Array Value} {R : Ending → World → Prop} {B : Nat} (w0 : World) (hB : B ≤ w0.heap.size) (v : Value)
    (hres : ∀ w, Below B w0 w → (results fn tmps).run P w = .ok v w) (hR : ∀ w, Below B w0 w → R (.returned v) w) :
    ∀ (Ds : List Nat) (w : World), Below B w0 w → Marks B w Ds → LeavesInM F n P fn tmps R (Ds.map mark) .returning w := by
  intro Ds
  induction Ds with
  | nil => intro w hw _; exact ⟨_, hres w hw, hR w hw⟩
  | cons D Ds ih =>
    intro w hw hm
    obtain ⟨hn, hall⟩ := hm
    obtain ⟨hD, hk⟩ := hall D (by simp)
    refine ⟨by simp, .inl ⟨D, _, rfl, run_takeDeferred hk, ih _ ?_ ?_⟩⟩
    · exact hw.trans ((Below.refl _ _).grown (grownBy_putObj' w D _) (Nat.le_trans hB hw.size) (fun k e => by cases e; exact hD))
    · refine ⟨(List.nodup_cons.1 hn).2, fun D' hD' => ⟨(hall D' (by simp [hD'])).1, ?_⟩⟩
      have hne : D' ≠ D := fun e => (List.nodup_cons.1 hn).1 (e ▸ hD')
      exact ((grownBy_putObj' w D _).block D' (Array.getElem?_eq_some_iff.1 (hall D' (by simp [hD'])).2).1 (fun e => hne (by cases e; rfl))).trans (hall D' (by simp [hD'])).2

theorem width_world (wr : World) (cs : Array Value) (sv fv : Value) (t1 t2 t3 t4 : TypeId) :
    Boxed ((((wr.alloc (.cells cs t1)).alloc (.cells #[.int .i64 0] t2)).alloc (.cells #[sv] t3)).alloc (.cells #[fv] t4)) (wr.heap.size + 1) t2 (.int .i64 0) ∧
    Boxed ((((wr.alloc (.cells cs t1)).alloc (.cells #[.int .i64 0] t2)).alloc (.cells #[sv] t3)).alloc (.cells #[fv] t4)) (wr.heap.size + 1 + 1) t3 sv ∧
    Boxed ((((wr.alloc (.cells cs t1)).alloc (.cells #[.int .i64 0] t2)).alloc (.cells #[sv] t3)).alloc (.cells #[fv] t4)) (wr.heap.size + 1 + 1 + 1) t4 fv ∧
    (∀ j, ((((wr.alloc (.cells cs t1)).alloc (.cells #[.int .i64 0] t2)).alloc (.cells #[sv] t3)).alloc (.cells #[fv] t4)).cell? ⟨wr.heap.size, j, none⟩ = cs[j]?) ∧
    Below wr.heap.size wr ((((wr.alloc (.cells cs t1)).alloc (.cells #[.int .i64 0] t2)).alloc (.cells #[sv] t3)).alloc (.cells #[fv] t4)) ∧
    ((((wr.alloc (.cells cs t1)).alloc (.cells #[.int .i64 0] t2)).alloc (.cells #[sv] t3)).alloc (.cells #[fv] t4)).heap.size = wr.heap.size + 4 := by
  have b2 := Boxed.new (wr.alloc (.cells cs t1)) t2 (.int .i64 0)
  have b3 := Boxed.new ((wr.alloc (.cells cs t1)).alloc (.cells #[.int .i64 0] t2)) t3 sv
  have b4 := Boxed.new (((wr.alloc (.cells cs t1)).alloc (.cells #[.int .i64 0] t2)).alloc (.cells #[sv] t3)) t4 fv
  simp only [World.size_alloc] at b2 b3 b4
  refine ⟨(b2.alloc _).alloc _, b3.alloc _, b4, fun j => ?_, by (repeat' (first | exact Below.refl _ _ | assumption | refine Below.drew ?_ | refine below_drewN ?_ _ | refine Below.alloc ?_ (by simp <;> omega) _ | refine Below.setCell ?_ (by simp <;> omega) _)), by simp⟩
  have e : ((((wr.alloc (.cells cs t1)).alloc (.cells #[.int .i64 0] t2)).alloc (.cells #[sv] t3)).alloc (.cells #[fv] t4)).heap[wr.heap.size]? = some (.cells cs t1) := by
    rw [Below.heap_alloc _ _ _ (by simp; omega), Below.heap_alloc _ _ _ (by simp; omega), Below.heap_alloc _ _ _ (by simp)]
    exact heap_alloc_new wr _
  exact cell_of_row _ _ j cs t1 (0, 0) e

def WI (w : World) (sv : Value) (es : List Ev) (a : Act) (wr : World) : Prop :=
  ∃ u5 u6 u10 u11 u12 u13 u14 u15 u16 u17 u18 u19 u20 u21 u22 u23 : Value, ∃ (k : Nat) (Ds : List Nat), k ≤ es.length ∧ Below w.heap.size w wr ∧ Marks w.heap.size wr Ds ∧
    a = { tmps := #[sv, undef, .int .i64 0, .int .i64 (widthTo es k : Nat), undef, u5, u6, sv, .int .i64 es.length, .int .i64 k, u10, u11, u12, u13, u14, u15, u16, u17, u18, u19, u20, u21, u22, u23], defers := Ds.map mark }

set_option maxRecDepth 100000 in
set_option maxHeartbeats 2000000 in
theorem width_any (sv : Value) (es : List Ev) (w : World) (hes : SlEv w sv es) (hsz : es.length ≤ 1000000) :
    Calls Try.prog 21 #[sv] w fun e W' => e = .returned (.int .i64 (widthTo es es.length : Nat)) ∧ Below w.heap.size w W' := by
  have hes' := hes
  obtain ⟨A, cap, rfl, h1, h2, h3⟩ := hes
  refine (callsIn_wide (n := 8)).1 ?_
  refine callsIn_of_wp_marks Try.func21 rfl trivial ?_ rfl
  simp only [Try.ntmps21, List.size_toArray, List.length_cons, List.length_nil, Nat.reduceAdd, Nat.reduceSub, Array.replicate_succ, Array.replicate_zero, List.push_toArray, List.append_toArray, List.nil_append, List.cons_append]
  gi_wp2
  refine wpIn_loop (WI w (.slice A es.length cap) es) (fun a _ => es.length - (intOf (a.tmps.getD 9 undef)).toNat) ?start ?round
  case start => exact ⟨undef, undef, undef, undef, undef, undef, undef, undef, undef, undef, undef, undef, undef, undef, undef, undef, 0, [], by omega, Below.refl _ _, ⟨List.nodup_nil, by simp⟩, rfl⟩
  case round =>
    rintro a wr ⟨u5, u6, u10, u11, u12, u13, u14, u15, u16, u17, u18, u19, u20, u21, u22, u23, k, Ds, hk, hbw, hm, rfl⟩
    by_cases hlt : k < es.length
    · obtain ⟨e, hee⟩ : ∃ e, es[k]? = some e := ⟨_, List.getElem?_eq_getElem hlt⟩
      obtain ⟨b, o, rfl, hb, hce⟩ := h3 k e hee
      obtain ⟨c0, c1, c2, c3, c4, c5, c6, c7⟩ := ev_cells (hce.of_block (w' := wr) (hbw.block b hb))
      have hesr : SlEv wr (.slice (some ⟨b, o, none⟩) es.length cap) es := hes'.below hbw (Nat.le_refl _)
      have hlen : (es.length : Int) ≤ 9223372036854775807 := by omega
      have Hee := hide hee
      clear hce hee
      gi_wp2_with (refine ⟨trivial, ?_⟩; gi_at_call 53; refine (callsIn_wide.2 ((callsIn_wide (n := 1)).1 (which_any (some ⟨b, o, none⟩) es.length cap _ 54 #[.pointer (some ⟨wr.heap.size, 0, none⟩)] rfl _))).mono ?_; rintro e w' ⟨rfl, rfl⟩)
      obtain ⟨b2, b3, b4, hcl, hBw, hsz0⟩ := width_world wr #[.int .i64 e.call, .int .i64 e.inv, .int .i64 e.resp, .int .i64 e.steps, .int .i64 e.err, .int .u64 e.val, .slice e.lA e.lN e.lC, .slice e.kA e.kN e.kC] (.slice (some ⟨b, o, none⟩) es.length cap) (.func (.func 54) #[] #[.pointer (some ⟨wr.heap.size, 0, none⟩)]) 37 3 24 89
      generalize hW0 : (World.alloc (World.alloc _ _) _) = W0 at b2 b3 b4 hcl hBw hsz0 ⊢
      clear hW0
      have hinv : W0.cell? ⟨wr.heap.size, 1, none⟩ = some (.int .i64 e.inv) := hcl 1
      have hB0 : Below w.heap.size w W0 := hbw.trans (hBw.mono hbw.size)
      have hes0 : SlEv W0 (.slice (some ⟨b, o, none⟩) es.length cap) es := hesr.below hBw (Nat.le_refl _)
      have hK0 : ∀ j, (j < W0.heap.size ∧ j ≠ wr.heap.size + 1) → j < W0.heap.size := fun j h => h.1
      have hasks := within_asks W0 wr.heap.size e (by omega) hinv (fun j => j < W0.heap.size ∧ j ≠ wr.heap.size + 1) ⟨by omega, by omega⟩
      refine wpIn_rangeFunc_ownG (F := Fence.wide) (n := 8) rfl (by omega) (gf := 74) (lb := #[.pointer (some ⟨wr.heap.size + 1 + 1, 0, none⟩), .pointer (some ⟨wr.heap.size + 1 + 1 + 1, 0, none⟩)]) rfl trivial (enters_of Try.func74 (by kernel_rfl) rfl)
        (which_stops 7 (by omega) (fun j => j < W0.heap.size ∧ j ≠ wr.heap.size + 1) (wr.heap.size + 1 + 1) (wr.heap.size + 1 + 1 + 1) _ _ (.slice (some ⟨b, o, none⟩) es.length cap) es (withinB e.inv) W0 ⟨by omega, by omega⟩ ⟨by omega, by omega⟩ hK0 ?hKe b3.cell b4.cell hes0 hasks)
        keepK_t (keepK_b hK0) (Below.refl _ _) ?hps
        (fun pre W => Boxed W (wr.heap.size + 1) 3 (.int .i64 (pre.length : Nat)) ∧ Keep (fun j => j < W0.heap.size ∧ j ≠ wr.heap.size + 1) W0 W)
        (fun _ _ _ => False)
        ?hI (fun _ _ _ _ _ hs _ _ => hs) ⟨b2, Keep.refl _ _⟩
        (fun x => { tmps := #[.slice (some ⟨b, o, none⟩) es.length cap, undef, .int .i64 0, .int .i64 (widthTo es k : Nat), undef, .pointer (some ⟨wr.heap.size, 0, none⟩), .pointer (some ⟨wr.heap.size + 1, 0, none⟩), .slice (some ⟨b, o, none⟩) es.length cap, .int .i64 es.length, .int .i64 k, .bool true, .pointer (some ⟨b, o + k * 8, none⟩),
          .agg #[.int .i64 e.call, .int .i64 e.inv, .int .i64 e.resp, .int .i64 e.steps, .int .i64 e.err, .int .u64 e.val, .slice e.lA e.lN e.lC, .slice e.kA e.kN e.kC], .slice (some ⟨b, o, none⟩) es.length cap, .func (.func 54) #[] #[.pointer (some ⟨wr.heap.size, 0, none⟩)], .func (.func 74) #[] #[.pointer (some ⟨wr.heap.size + 1 + 1, 0, none⟩), .pointer (some ⟨wr.heap.size + 1 + 1 + 1, 0, none⟩)],
          .int .i64 x, u17, u18, u19, u20, u21, u22, u23], defers := [] }) ?assign ?body ?done ?stop
      case hps => intro x; rfl
      case hKe =>
        intro k' x hx A' n' c' he b' o' hA
        cases he
        cases hA
        have := hbw.size
        exact ⟨by omega, by omega⟩
      case hI =>
        refine OwnFrom.and (Own.from (boxed_own _ _ (fun pre : List Nat => Value.int .i64 (pre.length : Nat))) _) (fun s W W' row hs hg hr => hs.grown hg (fun j hj => Nat.lt_of_lt_of_le hj.1 hs.size) (fun j e hj => by have := (hr j e).1; omega))
      case assign =>
        intro l x W K hK
        gi_wp2
        simpa using hK
      case body =>
        rintro l pre x W ⟨hv, hkp⟩ hl
        have hc := hv.cell
        have hf := hv.frozen
        have hpl : (pre.length : Int) ≤ 1000000 := by omega
        gi_wp2
        have e1 : Value.int .i64 ((pre.length : Int) + 1) = .int .i64 ((pre ++ [x]).length : Nat) := by simp
        rw [e1]
        refine ⟨(KeepsOthers.setCell _ _ _).from _, (Keep.refl _ _).setCell (by rintro ⟨_, h⟩; exact h rfl) _, hv.set _, hkp.setCell (by rintro ⟨_, h⟩; exact h rfl) _⟩
      case done =>
        rintro D ys W hD rfl ⟨hv, hkp⟩ hK
        have hc := hv.cell
        have hww := hbw.size
        have hbW : Below w.heap.size w W := hB0.trans (hkp.below (fun j hj => ⟨by omega, by omega⟩))
        have hmW : Marks w.heap.size W (D :: Ds) := by
          refine ⟨List.nodup_cons.2 ⟨fun h => ?_, hm.1⟩, ?_⟩
          · have := (Array.getElem?_eq_some_iff.1 (hm.2 D h).2).1; omega
          · intro D' hD'
            rcases List.mem_cons.1 hD' with rfl | hD'
            · exact ⟨by omega, hK⟩
            · obtain ⟨g1, g2⟩ := hm.2 D' hD'
              have g3 := (Array.getElem?_eq_some_iff.1 g2).1
              exact ⟨g1, (hkp.block D' ⟨by omega, by omega⟩).trans ((hBw.block D' g3).trans g2)⟩
        have hwk : Hid (widthTo es (k + 1) = max (widthTo es k) (ixTo es (withinB e.inv) es.length).length) := widthTo_succ Hee.out
        gi_wp2
        · have e1 : Value.int .i64 ((ixTo es (withinB e.inv) es.length).length : Nat) = .int .i64 (widthTo es (k + 1) : Nat) := by
            rw [hwk.out]; congr 1; omega
          rw [e1]
          exact ⟨⟨_, _, _, _, _, _, _, _, _, _, _, _, _, _, _, _, k + 1, D :: Ds, by omega, hbW, hmW, rfl⟩, by simp [intOf]; omega⟩
        · have e1 : Value.int .i64 (widthTo es k : Nat) = .int .i64 (widthTo es (k + 1) : Nat) := by
            rw [hwk.out]; congr 1; omega
          rw [e1]
          exact ⟨⟨_, _, _, _, _, _, _, _, _, _, _, _, _, _, _, _, k + 1, D :: Ds, by omega, hbW, hmW, rfl⟩, by simp [intOf]; omega⟩
      case stop =>
        rintro D c pre W _ _ h _
        exact h.elim
    · obtain rfl : k = es.length := by omega
      gi_wp2
      exact marks_leave w (Nat.le_refl _) _ (fun w' _ => results_tmp rfl _ _ _) (fun w' h => ⟨rfl, h⟩) Ds wr hbw hm
end Go.Proofs.Ytdilnfnakhhhaaa
