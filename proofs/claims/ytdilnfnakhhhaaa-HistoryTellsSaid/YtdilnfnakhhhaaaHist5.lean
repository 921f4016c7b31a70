/- History: Pending, Of. -/
import Derived.Test.YtdilnfnakhhhaaaHist4
namespace Go.Proofs.Ytdilnfnakhhhaaa
open Go.RowKit Go.Shelf

def pendB (e : Ev) : Bool := decide (e.resp = 0)
def ofB (cs : List Cl) (t : Int) (e : Ev) : Bool := decide ((evCall cs e).map (·.thread) = some t)
def withinB (at_ : Int) (e : Ev) : Bool := decide (e.inv ≤ at_) && (decide (e.resp = 0) || decide (at_ ≤ e.resp))

set_option maxHeartbeats 400000 in
theorem pend_asks (K : Nat → Prop) (w : World) : Asks K w 51 #[] pendB := by
  refine ⟨enters_of Try.func51 (by kernel_rfl) rfl, fun e W _ => ?_⟩
  show Calls Try.prog 51 #[.agg #[.int .i64 e.call, .int .i64 e.inv, .int .i64 e.resp, .int .i64 e.steps, .int .i64 e.err, .int .u64 e.val, .slice e.lA e.lN e.lC, .slice e.kA e.kN e.kC]] W _
  unfold pendB
  go_enter Try.func51, Try.ntmps51
  go_wp2
  (go_ret; refine ⟨ret_bool (by (first | rfl | (simp; done) | (simp <;> omega) | (simp [*]; done) | (simp [*] <;> omega))), ?_⟩; (repeat' (first | exact Below.refl _ _ | assumption | refine Below.drew ?_ | refine below_drewN ?_ _ | refine Below.alloc ?_ (by simp <;> omega) _ | refine Below.setCell ?_ (by simp <;> omega) _)))

theorem pending_any (sv : Value) (es : List Ev) (w : World) (hes : SlEv w sv es) (hsz : es.length ≤ 1000000) :
    Calls Try.prog 19 #[sv] w fun e W' => ∃ v, e = .returned v ∧ W'.ownsRow w.heap.size 3 1 v (ixTo es pendB es.length).length ((ixTo es pendB es.length).map fun k : Nat => Value.int .i64 (k : Int)) ∧ Below w.heap.size w W' := by
  have hes' := hes
  obtain ⟨A, cap, rfl, h1, h2, h3⟩ := hes
  go_enter Try.func19, Try.ntmps19
  go_wp2_with (go_at_call 50; refine (numbers_any _ _ _ #[] rfl es pendB _ hes' (pend_asks _ _) hsz).mono ?_; rintro e w1 ⟨v, rfl, hown, hb⟩)
  go_ret
  exact ⟨v, rfl, hown, hb⟩

set_option maxHeartbeats 1000000 in
theorem of_asks (w : World) (Bc Bt : Nat) (cv : Value) (cs : List Cl) (t : Int) (hBc : Bc < w.heap.size) (hBt : Bt < w.heap.size) (hc : w.cell? ⟨Bc, 0, none⟩ = some cv) (ht : w.cell? ⟨Bt, 0, none⟩ = some (.int .i64 t)) (hcs : SlCl w cv cs) :
    Asks (· < w.heap.size) w 52 #[.pointer (some ⟨Bc, 0, none⟩), .pointer (some ⟨Bt, 0, none⟩)] (ofB cs t) := by
  refine ⟨enters_of Try.func52 (by kernel_rfl) rfl, fun e W hK => ?_⟩
  have hW : Below w.heap.size w W := hK.below (fun _ h => h)
  have hc' := (hW.cell (p := ⟨Bc, 0, none⟩) hBc).trans hc
  have ht' := (hW.cell (p := ⟨Bt, 0, none⟩) hBt).trans ht
  have hcsW := hcs.below hW (Nat.le_refl _)
  have hBc' := Nat.lt_of_lt_of_le hBc hW.size
  have hBt' := Nat.lt_of_lt_of_le hBt hW.size
  clear hc ht hK hW hBc hBt hcs
  have hcv := hcsW
  obtain ⟨Ac, capc, rfl, _, _, _⟩ := hcsW
  show Calls Try.prog 52 #[.agg #[.int .i64 e.call, .int .i64 e.inv, .int .i64 e.resp, .int .i64 e.steps, .int .i64 e.err, .int .u64 e.val, .slice e.lA e.lN e.lC, .slice e.kA e.kN e.kC], .pointer (some ⟨Bc, 0, none⟩), .pointer (some ⟨Bt, 0, none⟩)] W _
  rcases hcc : evCall cs e with _ | c
  · have HF : Hid (ofB cs t e = false) := by show _ = _; unfold ofB; rw [hcc]; simp
    have Hc := hide hcc
    rw [HF.out]
    clear hcc
    go_enter Try.func52, Try.ntmps52
    go_wp2_with (go_at_call 48; refine (call_none _ cs e _ (hcv.alloc _) Hc).mono ?_; rintro en w1 ⟨rfl, hb1⟩; have hz1 := hb1.size; have hb1' : Below W.heap.size W w1 := ((Below.refl _ _).alloc (Nat.le_refl _) _).trans (hb1.mono (by simp)))
    go_ret
    exact ⟨rfl, hb1'.alloc hb1'.size _⟩
  · have HF : Hid (ofB cs t e = decide (c.thread = t)) := by show _ = _; unfold ofB; rw [hcc]; simp
    have Hc := hide hcc
    rw [HF.out]
    clear hcc
    go_enter Try.func52, Try.ntmps52
    go_wp2_with (go_at_call 48; refine (call_some _ cs e c _ (hcv.alloc _) Hc).mono ?_; rintro en w1 ⟨rfl, hb1⟩; have hz1 := hb1.size; have hb1' : Below W.heap.size W w1 := ((Below.refl _ _).alloc (Nat.le_refl _) _).trans (hb1.mono (by simp)); have htt := (hb1'.cell (p := ⟨Bt, 0, none⟩) hBt').trans ht'; have hBt1 : Bt < w1.heap.size := (Nat.lt_of_lt_of_le hBt' hb1'.size); clear hb1)
    go_ret
    exact ⟨ret_bool (by first | rfl | simp), hb1'.alloc hb1'.size _⟩

theorem of_any (cv sv : Value) (cs : List Cl) (es : List Ev) (t : Int) (w : World) (hcs : SlCl w cv cs) (hes : SlEv w sv es) (hsz : es.length ≤ 1000000) :
    Calls Try.prog 20 #[cv, sv, .int .i64 t] w fun e W' => ∃ v, e = .returned v ∧ W'.ownsRow w.heap.size 3 1 v (ixTo es (ofB cs t) es.length).length ((ixTo es (ofB cs t) es.length).map fun k : Nat => Value.int .i64 (k : Int)) ∧ Below w.heap.size w W' := by
  have hes' := hes
  have hcs' := hcs
  obtain ⟨A, cap, rfl, h1, h2, h3⟩ := hes
  obtain ⟨Ac, capc, rfl, g1, g2, g3⟩ := hcs
  have ha := of_asks ((w.alloc (.cells #[.slice Ac cs.length capc] 23)).alloc (.cells #[.int .i64 t] 3)) w.heap.size (w.heap.size + 1) (.slice Ac cs.length capc) cs t (by simp; omega) (by simp) (by go_simp) (by go_simp) ((hcs'.alloc _).alloc _)
  have hes2 := (hes'.alloc (.cells #[.slice Ac cs.length capc] 23)).alloc (.cells #[.int .i64 t] 3)
  clear g3 h3
  go_enter Try.func20, Try.ntmps20
  go_wp2_with (go_at_call 50; refine (numbers_any _ _ _ _ rfl es (ofB cs t) _ hes2 ha hsz).mono ?_; rintro e w1 ⟨v, rfl, hown, hb⟩)
  go_ret
  refine ⟨v, rfl, ⟨hown.1, ?_⟩, (((Below.refl _ _).alloc (Nat.le_refl _) _).alloc (by simp) _).trans (hb.mono (by simp; omega))⟩
  rcases hown.2 with h | ⟨g, cap, cur, hv, hg, r⟩
  · exact .inl h
  · exact .inr ⟨g, cap, cur, hv, by simp at hg; omega, r⟩
end Go.Proofs.Ytdilnfnakhhhaaa
