/- History: the events that are so (which, numbers), for whatever function that asks an event. -/
import Derived.RangeFuncNested
import Derived.RangeFuncBound
import Derived.RangeFuncCalls
import Derived.RangeFuncLeaves
import Derived.RangeFuncBox
import Derived.RangeFuncWrites
import Derived.Shelf.Abstract
import Derived.Shelf.RegionOpen
import Derived.WalkKit
import Derived.OwnWalkIn
import Derived.TacticsInMore
import Derived.LoopNIn
import Derived.LoopIn
import Derived.Test.YtdilnfnakhhhaaaHist1
namespace Go.Proofs.Ytdilnfnakhhhaaa
open Go.RowKit Go.Shelf

attribute [local go_sem] Oper.semAt_some

/-- The numbers below k of events that are so. -/
def ixTo (es : List Ev) (p : Ev → Bool) (k : Nat) : List Nat := (List.range k).filter fun j => ((es[j]?).map p).getD false
theorem ixTo_hit {es : List Ev} {p : Ev → Bool} {k : Nat} {e : Ev} (he : es[k]? = some e) (h : p e = true) : ixTo es p (k + 1) = ixTo es p k ++ [k] := by
  unfold ixTo; rw [List.range_succ, List.filter_append]; simp [he, h]
theorem ixTo_miss {es : List Ev} {p : Ev → Bool} {k : Nat} {e : Ev} (he : es[k]? = some e) (h : p e = false) : ixTo es p (k + 1) = ixTo es p k := by
  unfold ixTo; rw [List.range_succ, List.filter_append]; simp [he, h]
theorem ixTo_length (es : List Ev) (p : Ev → Bool) (k : Nat) : (ixTo es p k).length ≤ k := by
  unfold ixTo; exact Nat.le_trans (List.length_filter_le _ _) (by simp)

/-- f, with what it has captured, asks an event whether p. -/
def Asks (K : Nat → Prop) (w : World) (f : Nat) (lbs : Array Value) (p : Ev → Bool) : Prop :=
  (∀ args w, (callFunc f args).run Try.prog w = .ok (.enter f args) w) ∧
  ∀ (e : Ev) (W : World), Keep K w W → Calls Try.prog f (#[.agg (evEnc e).toArray] ++ lbs) W fun en W' => en = .returned (.bool (p e)) ∧ Below W.heap.size W W'

set_option maxRecDepth 100000 in
set_option maxHeartbeats 2000000 in
theorem which1_in (n : Nat) (hn : 1 ≤ n) (K : Nat → Prop) (l Bs Bp f : Nat) (lbs : Array Value) (sv : Value) (es : List Ev) (p : Ev → Bool) (J Jx : List Nat → World → Prop) (W : World) (hJ : AbidesFrom W.heap.size J)
    (hKp : K Bp) (hKl : ∀ k, K k → k < W.heap.size) (hKe : ∀ (k : Nat) (x : Ev), es[k]? = some x → ∀ A n c, sv = .slice A n c → ∀ b o, A = some ⟨b, o, none⟩ → K b)
    (hBs : W.cell? ⟨Bs, 0, none⟩ = some sv) (hBp : W.cell? ⟨Bp, 0, none⟩ = some (.func (.func f) #[] lbs)) (hes : SlEv W sv es) (his : Asks K W f lbs p)
    (hY : ∀ pre x W1, J pre W1 → pre.length < es.length → YieldAt Fence.wide (n - 1) Try.prog l #[.int .i64 (x : Nat)] W1 fun e W' =>
      (e = .returned (.bool true) ∧ J (pre ++ [x]) W' ∧ Keep K W1 W') ∨ (e = .returned (.bool false) ∧ Jx (pre ++ [x]) W'))
    (h0 : J [] W) :
    CallsIn Fence.wide n Try.prog 74 #[.func (.yield l) #[] #[], .pointer (some ⟨Bs, 0, none⟩), .pointer (some ⟨Bp, 0, none⟩)] W fun e W' => (∃ v, e = .returned v) ∧
      ((∃ ys, ys = ixTo es p es.length ∧ J ys W') ∨ (∃ pre, (∃ k, k ≤ es.length ∧ pre = ixTo es p k) ∧ Jx pre W')) := by
  obtain ⟨A, cap, rfl, h1, h2, h3⟩ := hes
  obtain ⟨hent, hask⟩ := his
  have hent' := hent
  clear hent
  refine callsIn_of_wp Try.func74 rfl trivial ?_ rfl
  simp only [Try.ntmps74, List.size_toArray, List.length_cons, List.length_nil, Nat.reduceAdd, Nat.reduceSub, Array.replicate_succ, Array.replicate_zero, List.push_toArray, List.append_toArray, List.nil_append, List.cons_append]
  gi_wp2
  gi_loopw [8] (fun i wr => ∃ k : Nat, k ≤ es.length ∧ i = .int .i64 k ∧ J (ixTo es p k) wr ∧ Keep K W wr) (fun i _ => es.length - (intOf i).toNat)
  case atStart => exact ⟨0, Nat.zero_le _, rfl, h0, Keep.refl _ _⟩
  case round =>
    obtain ⟨k, hk, rfl, hJs, hkw⟩ := hrel
    have hlen : (es.length : Int) ≤ 9223372036854775807 := by unfold maxLen at h2; omega
    by_cases hlt : k < es.length
    · obtain ⟨e, hee⟩ : ∃ e, es[k]? = some e := ⟨_, List.getElem?_eq_getElem hlt⟩
      obtain ⟨b, o, rfl, hb, hce⟩ := h3 k e hee
      obtain ⟨c0, c1, c2, c3, c4, c5, c6, c7⟩ := ev_cells (hce.of_block (w' := wr) (hkw.block b (hKe k e hee _ _ _ rfl b o rfl)))
      have hBp' := (hkw.cell (p := ⟨Bp, 0, none⟩) hKp).trans hBp
      have hbl := Nat.lt_of_lt_of_le (hKl Bp hKp) hkw.size
      have hea := hent'
      have Hee := hide hee
      clear hce h3 hee
      gi_wp2
      rcases hp : p e with _ | _
      · have HP := hide hp
        clear hp
        refine ⟨trivial, (callsIn_wide.2 (hask e _ (hkw.alloc (fun k hk => Nat.lt_of_lt_of_le (hKl k hk) hkw.size) _))).mono ?_⟩
        rw [HP.out]
        rintro en w1 ⟨rfl, hb1⟩
        have hJ1 : J (ixTo es p k) w1 := hJ _ _ _ none (hJ _ _ _ none hJs (World.grownBy_alloc _ _ none) (fun _ e => by cases e)) (grown_of_below hb1 none) (fun _ e => by cases e)
        have hkw1 : Keep K W w1 := (hkw.alloc (fun k hk => Nat.lt_of_lt_of_le (hKl k hk) hkw.size) _).trans (Keep.of_below hb1 (fun k hk => by have := hKl k hk; have := hkw.size; simp; omega))
        gi_wp2
        refine ⟨fun _ h => (by cases h), ?_⟩
        gi_wp2
        go_roundw
        case rel => exact ⟨k + 1, by omega, by simp, by rw [ixTo_miss Hee.out HP.out]; exact hJ1, hkw1⟩
        case measure => simp [intOf] <;> omega
      · have HP := hide hp
        clear hp
        refine ⟨trivial, (callsIn_wide.2 (hask e _ (hkw.alloc (fun k hk => Nat.lt_of_lt_of_le (hKl k hk) hkw.size) _))).mono ?_⟩
        rw [HP.out]
        rintro en w1 ⟨rfl, hb1⟩
        have hJ1 : J (ixTo es p k) w1 := hJ _ _ _ none (hJ _ _ _ none hJs (World.grownBy_alloc _ _ none) (fun _ e => by cases e)) (grown_of_below hb1 none) (fun _ e => by cases e)
        have hkw1 : Keep K W w1 := (hkw.alloc (fun k hk => Nat.lt_of_lt_of_le (hKl k hk) hkw.size) _).trans (Keep.of_below hb1 (fun k hk => by have := hKl k hk; have := hkw.size; simp; omega))
        obtain ⟨fn, tmps, assign, body, hy, hR⟩ := hY _ k w1 hJ1 (by have := ixTo_length es p k; omega)
        gi_wp2
        refine hR.mono ?_
        rintro en W3 (⟨rfl, hJ3, hk3⟩ | ⟨rfl, hJx3⟩)
        · gi_wp2
          go_roundw
          case rel => exact ⟨k + 1, by omega, by simp, by rw [ixTo_hit Hee.out HP.out]; exact hJ3, hkw1.trans hk3⟩
          case measure => simp [intOf] <;> omega
        · gi_wp2
          refine bodyPost_ret (results_none rfl _ _ _) rfl ?_
          exact ⟨⟨_, rfl⟩, .inr ⟨_, ⟨k + 1, by omega, (ixTo_hit Hee.out HP.out).symm⟩, hJx3⟩⟩
    · obtain rfl : k = es.length := by omega
      gi_wp2
      go_end0
      exact ⟨⟨_, rfl⟩, .inl ⟨_, rfl, hJs⟩⟩

theorem which_any (a : Option Addr) (len cap : Nat) (fv : Value) (f : Nat) (lbs : Array Value) (hf : fv = .func (.func f) #[] lbs) (w : World) :
    CallsIn Fence.wide 1 Try.prog 53 #[.slice a len cap, fv] w fun e w' => e = .returned (.func (.func 74) #[] #[.pointer (some ⟨w.heap.size, 0, none⟩), .pointer (some ⟨w.heap.size + 1, 0, none⟩)]) ∧
      w' = (w.alloc (.cells #[.slice a len cap] 24)).alloc (.cells #[fv] 89) := by
  subst hf
  refine callsIn_of_wp Try.func53 rfl trivial ?_ rfl
  simp only [Try.ntmps53, List.size_toArray, List.length_cons, List.length_nil, Nat.reduceAdd, Nat.reduceSub, Array.replicate_succ, Array.replicate_zero, List.push_toArray, List.append_toArray, List.nil_append, List.cons_append]
  gi_wp2
  go_ret
  exact ⟨rfl, rfl⟩

theorem info_int : (Try.prog.info? 3).map (fun i => (i.zero, i.size, i.bytes)) = some (some (.int .i64 0), 1, 8) := by kernel_rfl

/-- The value which hands back stops: it gives the numbers of the events that are so. -/
theorem which_stops (n : Nat) (hn : 1 ≤ n) (K : Nat → Prop) (Bs Bp f : Nat) (lbs : Array Value) (sv : Value) (es : List Ev) (p : Ev → Bool) (w : World)
    (hKs : K Bs) (hKp : K Bp) (hKl : ∀ k, K k → k < w.heap.size) (hKe : ∀ (k : Nat) (x : Ev), es[k]? = some x → ∀ A n c, sv = .slice A n c → ∀ b o, A = some ⟨b, o, none⟩ → K b)
    (hBs : w.cell? ⟨Bs, 0, none⟩ = some sv) (hBp : w.cell? ⟨Bp, 0, none⟩ = some (.func (.func f) #[] lbs)) (hes : SlEv w sv es) (his : Asks K w f lbs p) :
    SeqStopsK Fence.wide n Try.prog 74 #[.pointer (some ⟨Bs, 0, none⟩), .pointer (some ⟨Bp, 0, none⟩)] (fun x : Nat => #[Value.int .i64 x]) (Keep K) (fun ys => ys = ixTo es p es.length) (fun pre => ∃ k, k ≤ es.length ∧ pre = ixTo es p k) es.length w :=
  fun l J Jx W hW hJ _ hY h0 => by
    have hk : Keep K w W := Keep.of_below hW hKl
    refine which1_in n hn K l Bs Bp f lbs sv es p J Jx W hJ hKp (fun k h => Nat.lt_of_lt_of_le (hKl k h) hW.size) hKe ((hk.cell (p := ⟨Bs, 0, none⟩) hKs).trans hBs) ((hk.cell (p := ⟨Bp, 0, none⟩) hKp).trans hBp) (hes.below hW (Nat.le_refl _)) ⟨his.1, fun e W' hW' => his.2 e W' (hk.trans hW')⟩ hY h0

theorem keepK_t {K : Nat → Prop} {A B C : World} (h : Keep K A B) (k : Keep K B C) : Keep K A C := h.trans k
theorem keepK_b {K : Nat → Prop} {w : World} (hK : ∀ k, K k → k < w.heap.size) (W : World) (l : Nat) (o o' : Obj) (hl : w.heap.size ≤ l) (h : W.heap[l]? = some o) (_ : o.isCells = false) (_ : o.isWalk = false) : Keep K W (W.putObj l o') :=
  have hg := grownBy_putObj' W l o'
  ⟨hg.os, hg.tape, hg.output, hg.size, fun k hk => hg.block k (by have := (Array.getElem?_eq_some_iff.1 h).1; have := hK k hk; omega) (fun e => by have := hK k hk; cases e; omega)⟩

set_option maxRecDepth 100000 in
set_option maxHeartbeats 2000000 in
theorem numbers_any (sv fv : Value) (f : Nat) (lbs : Array Value) (hf : fv = .func (.func f) #[] lbs) (es : List Ev) (p : Ev → Bool) (w : World) (hes : SlEv w sv es) (his : Asks (· < w.heap.size) w f lbs p) (hsz : es.length ≤ 1000000) :
    Calls Try.prog 50 #[sv, fv] w fun e W' => ∃ v, e = .returned v ∧ W'.ownsRow w.heap.size 3 1 v (ixTo es p es.length).length ((ixTo es p es.length).map fun k : Nat => Value.int .i64 (k : Int)) ∧ Below w.heap.size w W' := by
  have hes' := hes
  obtain ⟨A, cap, rfl, h1, h2, h3⟩ := hes
  subst hf
  obtain ⟨i0, hi, hz0, hz1, hz2⟩ := info_parts info_int
  refine (callsIn_wide (n := 8)).1 ?_
  refine callsIn_of_wp_marks Try.func50 rfl trivial ?_ rfl
  simp only [Try.ntmps50, List.size_toArray, List.length_cons, List.length_nil, Nat.reduceAdd, Nat.reduceSub, Array.replicate_succ, Array.replicate_zero, List.push_toArray, List.append_toArray, List.nil_append, List.cons_append]
  gi_wp2_with (refine ⟨trivial, ?_⟩; gi_at_call 53; refine (callsIn_wide.2 ((callsIn_wide (n := 1)).1 (which_any A es.length cap _ f lbs rfl _))).mono ?_; rintro e w' ⟨rfl, rfl⟩)
  have bO := Boxed.new w 35 (.slice none 0 0)
  have bS := Boxed.new (w.alloc (.cells #[.slice none 0 0] 35)) 24 (.slice A es.length cap)
  have bP := Boxed.new ((w.alloc (.cells #[.slice none 0 0] 35)).alloc (.cells #[.slice A es.length cap] 24)) 89 (.func (.func f) #[] lbs)
  have hB0 : Below w.heap.size w (((w.alloc (.cells #[.slice none 0 0] 35)).alloc (.cells #[.slice A es.length cap] 24)).alloc (.cells #[.func (.func f) #[] lbs] 89)) := by (repeat' (first | exact Below.refl _ _ | assumption | refine Below.drew ?_ | refine below_drewN ?_ _ | refine Below.alloc ?_ (by simp <;> omega) _ | refine Below.setCell ?_ (by simp <;> omega) _))
  simp only [World.size_alloc] at bS bP
  have hE0 := hes'.below hB0 (Nat.le_refl _)
  have hK0 : ∀ k, (k < w.heap.size ∨ k = w.heap.size + 1 ∨ k = w.heap.size + 2) → k < w.heap.size + 1 + 1 + 1 := by omega
  refine wpIn_rangeFunc_ownG (F := Fence.wide) (n := 8) rfl (by omega) (gf := 74) (lb := #[.pointer (some ⟨w.heap.size + 1, 0, none⟩), .pointer (some ⟨w.heap.size + 1 + 1, 0, none⟩)]) rfl trivial (enters_of Try.func74 (by kernel_rfl) rfl)
    (which_stops 7 (by omega) (fun k => k < w.heap.size ∨ k = w.heap.size + 1 ∨ k = w.heap.size + 2) (w.heap.size + 1) (w.heap.size + 1 + 1) f lbs (.slice A es.length cap) es p _ (.inr (.inl rfl)) (.inr (.inr rfl)) (by simpa using hK0) ?hKe ((bS.alloc _).cell) bP.cell hE0 ⟨his.1, fun e W hW => his.2 e W (Keep.trans (Keep.of_below hB0 (fun _ h => h)) (hW.mono (fun _ h => .inl h)))⟩)
    keepK_t (keepK_b (by simpa using hK0)) (Below.refl _ _) ?hps
    (fun pre W => (∃ v, Boxed W w.heap.size 35 v ∧ W.ownsRow w.heap.size 3 1 v pre.length (pre.map fun k : Nat => Value.int .i64 (k : Int)) ∧ True) ∧ Below w.heap.size w W ∧ Boxed W (w.heap.size + 1) 24 (.slice A es.length cap) ∧ Boxed W (w.heap.size + 1 + 1) 89 (.func (.func f) #[] lbs))
    (fun _ _ _ => False)
    ?hI (fun _ _ _ _ _ hs _ _ => hs) ⟨⟨_, (bO.alloc _).alloc _, World.ownsRow_nil _ _ _ _, trivial⟩, hB0, bS.alloc _, bP⟩
    (fun x => { tmps := #[.slice A es.length cap, .func (.func f) #[] lbs, undef, undef, .slice none 0 0, .pointer (some ⟨w.heap.size, 0, none⟩), .int .i64 x, .slice A es.length cap, .func (.func f) #[] lbs, .func (.func 74) #[] #[.pointer (some ⟨w.heap.size + 1, 0, none⟩), .pointer (some ⟨w.heap.size + 1 + 1, 0, none⟩)], .int .i64 x, undef, undef, undef, undef, undef], defers := [] }) ?assign ?body ?done ?stop
  case hps => intro x; rfl
  case hKe =>
    intro k x hx A' n' c' he b o hA
    cases he
    subst hA
    obtain ⟨b', o', hA', hb', _⟩ := h3 k x hx
    cases hA'
    exact .inl hb'
  case hI =>
    refine OwnFrom.and (Own.from (holdsRow_own w.heap.size w.heap.size 35 3 1 (fun pre : List Nat => pre.length) (fun pre => pre.map fun k : Nat => Value.int .i64 (k : Int)) (fun _ _ => True)) _) (OwnFrom.and (ownFrom_below (Nat.le_refl _) (by simp; omega)) (OwnFrom.and (Own.from (boxed_own _ _ (fun _ => _)) _) (Own.from (boxed_own _ _ (fun _ => _)) _)))
  case assign =>
    intro l x W K hK
    gi_wp2
    exact hK
  case body =>
    rintro l pre x W ⟨⟨v, hv, hrow, _⟩, hB, hS, hP⟩ hlt
    have hc := hv.cell
    gi_wp2_with (gi_at_builtin; refine wpListIn_append_own _ rfl _ _ 35 rfl w.heap.size 3 i0 (.int .i64 0) 1 8 Try.underlying35 hi hz0 hz1 hz2 rfl (by decide) _ _ _ rfl (hrow.alloc _) ⟨W.heap.size, 0, none⟩ 1 1 [.int .i64 x] rfl rfl (cell_one_new _ _ _) (by simp [Value.oneCell']) (by simp only [maxLen]; omega) (by omega) (by have := hB.size; simp; omega) ?_; intro v' w1 hown' hgrow _; obtain ⟨g', cap', rfl⟩ := ownsRow_succ hown'; obtain ⟨hv1, hv2, hr2, hk2, hb2⟩ := hv.appended (by decide) hrow hB.size (Nat.le_refl _) hown' hgrow; have hc1 := hv1.cell; have hf1 := hv1.frozen)
    have hS2 := ((hS.alloc _).kept hgrow (hS.not_row (by decide) hrow)).other (B' := w.heap.size) (by omega) (.slice (some ⟨g', 0, none⟩) (pre.length + 1) cap')
    have hP2 := ((hP.alloc _).kept hgrow (hP.not_row (by decide) hrow)).other (B' := w.heap.size) (by omega) (.slice (some ⟨g', 0, none⟩) (pre.length + 1) cap')
    refine ⟨hk2.from _, ⟨hb2.os, hb2.tape, hb2.output, hb2.size, ?_⟩, ⟨_, hv2, by simpa using hr2, trivial⟩, hB.trans hb2, hS2, hP2⟩
    rintro k (hk | rfl | rfl)
    · exact hb2.block k hk
    · exact (show _ = _ from hS2).trans (show _ = _ from hS).symm
    · exact (show _ = _ from hP2).trans (show _ = _ from hP).symm
  case done =>
    rintro D ys W hD rfl ⟨⟨v, hv, hrow, _⟩, hB, _⟩ hK
    have hc := hv.cell
    gi_wp2
    refine ⟨by simp, .inl ⟨_, _, rfl, run_takeDeferred hK, ?_⟩⟩
    exact ⟨_, results_tmp rfl _ _ _, v, rfl, ownsRow_putObj hrow _ hK rfl, hB.trans (belowK_b (w := w) (Nat.le_refl _) W D _ _ (by simp at hD; omega) hK rfl rfl)⟩
  case stop =>
    rintro D c pre W _ _ h _
    exact h.elim
end Go.Proofs.Ytdilnfnakhhhaaa
