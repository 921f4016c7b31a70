/- All rows of picks (explore.rows, each): two threads, four picks. -/
/- Whether two plays answer alike (explore.alike): it answers. -/
import Derived.RangeFuncNested
import Derived.RangeFuncBound
import Derived.RangeFuncCalls
import Derived.RangeFuncLeaves
import Derived.RangeFuncBox
import Derived.RangeFuncWrites
import Derived.WalkKit
import Derived.OwnWalkIn
import Derived.TacticsInMore
import Derived.LoopNIn
import Derived.LoopIn
import Derived.Test.YtfghmlpjbedomaaGreatEx2
import Derived.Test.YtfghmlpjbedomaaGreatRfq
import Derived.Maps.RangeWalk
import Derived.Maps.OwnSet
import Derived.Maps.OwnIn
namespace Go.Proofs.YtfghmlpjbedomaaGreat
open Go.RowKit

set_option maxRecDepth 100000 in
set_option maxHeartbeats 2000000 in
theorem rows24 (w : World) : Calls Tryz.prog 30 #[.int .i64 2, .int .i64 4] w fun e w' => e = .returned (.int .i64 16) ∧ w' = w := by
  go_enter Tryz.func30, Tryz.ntmps30
  go_wp2
  go_loopw [7, 5] (fun i v wr => ∃ k : Nat, k ≤ 4 ∧ i = .int .i64 k ∧ v = .int .i64 ((2 ^ k : Nat) : Int) ∧ wr = w) (fun i _ _ => 4 - (intOf i).toNat)
  case atStart => exact ⟨0, Nat.zero_le _, rfl, rfl, rfl⟩
  case round =>
    obtain ⟨k, hk, rfl, rfl, rfl⟩ := hrel
    have h5 : k = 0 ∨ k = 1 ∨ k = 2 ∨ k = 3 ∨ k = 4 := by omega
    rcases h5 with rfl | rfl | rfl | rfl | rfl
    all_goals go_wp2
    · go_roundw
      case rel => exact ⟨1, by omega, by first | rfl | trivial | simp, by first | rfl | trivial | simp, by first | rfl | trivial | simp⟩
      case measure => simp [intOf]
    · go_roundw
      case rel => exact ⟨2, by omega, by first | rfl | trivial | simp, by first | rfl | trivial | simp, by first | rfl | trivial | simp⟩
      case measure => simp [intOf]
    · go_roundw
      case rel => exact ⟨3, by omega, by first | rfl | trivial | simp, by first | rfl | trivial | simp, by first | rfl | trivial | simp⟩
      case measure => simp [intOf]
    · go_roundw
      case rel => exact ⟨4, by omega, by first | rfl | trivial | simp, by first | rfl | trivial | simp, by first | rfl | trivial | simp⟩
      case measure => simp [intOf]
    · go_ret
      exact ⟨rfl, rfl⟩
theorem each24 (w : World) : Calls Tryz.prog 31 #[.int .i64 2, .int .i64 4] w fun e w' => e = .returned (.func (.func 47) #[] #[.pointer (some ⟨w.heap.size, 0, none⟩), .pointer (some ⟨w.heap.size + 1, 0, none⟩)]) ∧ w' = (w.alloc (.cells #[.int .i64 2] 3)).alloc (.cells #[.int .i64 4] 3) := by
  go_enter Tryz.func31, Tryz.ntmps31
  go_wp2
  go_ret
  exact ⟨rfl, rfl⟩
/-- A row of picks as it is handed back: its place, and which it is. -/
abbrev PkV := (Nat × Nat) × Nat
def pkEnc (x : PkV) : Array Value := #[.slice (some ⟨x.1.1, 0, none⟩) 4 x.1.2]
def pkPm (x : PkV) (w : World) : Prop := SlI w (.slice (some ⟨x.1.1, 0, none⟩) 4 x.1.2) (rowD 2 4 x.2) ∧ x.2 < 16
theorem int_row {w : World} {g : Nat} {k : Nat} (h : w.heap[g]? = some (.cells ((rowD 2 4 k).map (Value.int .i64)).toArray 3 (0, 0))) : SlI w (.slice (some ⟨g, 0, none⟩) 4 4) (rowD 2 4 k) := by
  have h2 := Sl.of_block (enc := ntEnc .i64) (sz := 1) (xs := rowD 2 4 k) (c := 4) h (by rw [rowD_len]; exact Nat.le_refl _) (by unfold maxLen; omega) (fun i x hx j u hu => by
    rcases j with _ | j
    · simp [ntEnc] at hu
      subst hu
      simp [hx]
    · simp [ntEnc] at hu)
  rw [rowD_len] at h2
  exact h2
theorem keepP_t {K : Nat → Prop} {A B C : World} (h : Keep K A B) (k : Keep K B C) : Keep K A C := h.trans k
theorem pk_put (x : PkV) (W : World) (l : Nat) (o o' : Obj) (h : pkPm x W) (ho : W.heap[l]? = some o) (hc : o.isCells = false) : pkPm x (W.putObj l o') := by
  refine ⟨?_, h.2⟩
  obtain ⟨A, c, hv, h1, h2, h3⟩ := h.1
  refine ⟨A, c, hv, h1, h2, fun k u hu => ?_⟩
  obtain ⟨b, o2, hA, hlt, hcells⟩ := h3 k u hu
  have hne : b ≠ l := by
    rintro rfl
    obtain ⟨o1, ho1, hc1⟩ := cells_of_cell (hcells 0 (.int .i64 u) rfl)
    rw [ho] at ho1
    cases ho1
    rw [hc] at hc1
    cases hc1
  have hg := grownBy_putObj' W l o'
  refine ⟨b, o2, hA, Nat.lt_of_lt_of_le hlt hg.size, fun j y hy => ?_⟩
  exact (Keep.cell (K := fun k => k = b) ⟨hg.os, hg.tape, hg.output, hg.size, fun k hk => hg.block k (by rw [hk]; exact hlt) (fun e => hne (by cases e; exact hk.symm))⟩ rfl).trans (hcells j y hy)
set_option maxRecDepth 100000 in
set_option maxHeartbeats 2000000 in
theorem each1_in (n : Nat) (hn : 1 ≤ n) (K : Nat → Prop) (l hs : Nat) (J Jx : List PkV → World → Prop) (W : World) (hJ : AbidesNew J) (hK1 : K hs) (hK2 : K (hs + 1)) (hKl : ∀ k, K k → k < W.heap.size) (c0 : W.cell? ⟨hs, 0, none⟩ = some (.int .i64 2)) (c1 : W.cell? ⟨hs + 1, 0, none⟩ = some (.int .i64 4))
    (hY : ∀ pre x W1, J pre W1 → pre.length < 16 → pkPm x W1 → YieldAt Fence.wide (n - 1) Tryz.prog l (pkEnc x) W1 fun e W' => (e = .returned (.bool true) ∧ J (pre ++ [x]) W' ∧ Keep K W1 W') ∨ (e = .returned (.bool false) ∧ Jx (pre ++ [x]) W'))
    (h0 : J [] W) :
    CallsIn Fence.wide n Tryz.prog 47 #[.func (.yield l) #[] #[], .pointer (some ⟨hs, 0, none⟩), .pointer (some ⟨hs + 1, 0, none⟩)] W fun e W' => (∃ v, e = .returned v) ∧ ((∃ xs : List PkV, xs.map (·.2) = List.range 16 ∧ J xs W') ∨ (∃ pre : List PkV, True ∧ Jx pre W')) := by
  refine callsIn_of_wp Tryz.func47 rfl trivial ?_ rfl
  simp only [Tryz.ntmps47, List.size_toArray, List.length_cons, List.length_nil, Nat.reduceAdd, Nat.reduceSub, Array.replicate_succ, Array.replicate_zero, List.push_toArray, List.append_toArray, List.nil_append, List.cons_append]
  gi_wp2
  refine ⟨trivial, (callsIn_wide.2 (rows24 W)).mono ?_⟩
  rintro e w1 ⟨rfl, rfl⟩
  gi_wp2
  gi_loopw [8] (fun i wr => ∃ k : Nat, k ≤ 16 ∧ i = .int .i64 k ∧ (∃ pre : List PkV, pre.map (·.2) = List.range k ∧ J pre wr) ∧ Keep K w1 wr) (fun i _ => 16 - (intOf i).toNat)
  case atStart => exact ⟨0, Nat.zero_le _, rfl, ⟨[], rfl, h0⟩, Keep.refl _ _⟩
  case round =>
    obtain ⟨k, hk, rfl, ⟨pre, hpre, hJs⟩, hkw⟩ := hrel
    have hpl : pre.length = k := by have := congrArg List.length hpre; simpa using this
    by_cases hlt : k < 16
    · have a0 := (hkw.cell (p := ⟨hs, 0, none⟩) hK1).trans c0
      have a1 := (hkw.cell (p := ⟨hs + 1, 0, none⟩) hK2).trans c1
      gi_wp2
      refine ⟨trivial, (callsIn_wide.2 (nthW (n := 2) (L := 4) (i := k) wr (by omega) (by omega) (by omega))).mono ?_⟩
      rintro e w2 ⟨hb, ⟨_, rfl, hrow⟩ | ⟨hz, _⟩⟩
      · have hJ2 : J pre w2 := hJ _ _ _ hJs (grown_of_below hb none)
        have hk2 : Keep K w1 w2 := hkw.trans (Keep.of_below hb (fun k hk => by have := hKl k hk; have := hkw.size; omega))
        have hPm : pkPm ((wr.heap.size, 4), k) w2 := by
          refine ⟨?_, hlt⟩
          exact int_row hrow
        obtain ⟨fn, tmps, assign, body, hy, hR⟩ := hY pre ((wr.heap.size, 4), k) w2 hJ2 (by omega) hPm
        unfold pkEnc at hy
        gi_wp2
        refine hR.mono ?_
        rintro en W3 (⟨rfl, hJ3, hk3⟩ | ⟨rfl, hJx3⟩)
        · gi_wp2
          go_roundw
          case rel => exact ⟨k + 1, by omega, by go_num, ⟨_, by rw [List.map_append, hpre, List.range_succ]; rfl, hJ3⟩, hk2.trans hk3⟩
          case measure => simp [intOf] <;> omega
        · gi_wp2
          refine bodyPost_ret (results_none rfl _ _ _) rfl ?_
          exact ⟨⟨_, rfl⟩, .inr ⟨_, trivial, hJx3⟩⟩
      · exact absurd (Nat.div_eq_of_lt (by simpa using hlt)) hz
    · obtain rfl : k = 16 := by omega
      gi_wp2
      go_end0
      exact ⟨⟨_, rfl⟩, .inl ⟨pre, hpre, hJs⟩⟩
theorem each_stops (n : Nat) (hn : 1 ≤ n) (hs : Nat) (w : World) (hz : hs + 1 < w.heap.size) (c0 : w.cell? ⟨hs, 0, none⟩ = some (.int .i64 2)) (c1 : w.cell? ⟨hs + 1, 0, none⟩ = some (.int .i64 4)) :
    StopsQ Fence.wide n Tryz.prog 47 #[.pointer (some ⟨hs, 0, none⟩), .pointer (some ⟨hs + 1, 0, none⟩)] pkEnc pkPm (Keep fun k => k = hs ∨ k = hs + 1) (fun xs : List PkV => xs.map (·.2) = List.range 16) (fun _ => True) 16 w :=
  fun l J Jx W hW hJ _ hY h0 => each1_in n hn _ l hs J Jx W hJ (Or.inl rfl) (Or.inr rfl) (fun k hk => by have := hW.size; omega) ((hW.cell (p := ⟨hs, 0, none⟩) (by show hs < _; omega)).trans c0) ((hW.cell (p := ⟨hs + 1, 0, none⟩) hz).trans c1) hY h0
end Go.Proofs.YtfghmlpjbedomaaGreat

namespace Go.Proofs.YtfghmlpjbedomaaGreat
open Go.RowKit Go.Maps

def ansV (er va : Int) (A : Option Addr) (c : Nat) : Value := .agg #[.int .i64 er, .int .u64 va, .slice A 0 c]
open Classical in
/-- An answer with no list. -/
noncomputable def ansR (v : Value) : Option (DataW Unit × List MemPlace) := if ∃ er va A c, v = ansV er va A c then some (.lit (.bool true), []) else none
theorem ansR_mk (er va : Int) (A : Option Addr) (c : Nat) : ansR (ansV er va A c) = some (.lit (.bool true), []) := if_pos ⟨_, _, _, _, rfl⟩
abbrev AnsC := Int × Int × Option Addr × Nat
abbrev ansMk (c : AnsC) : Value := .agg #[.int .i64 c.1, .int .u64 c.2.1, .slice c.2.2.1 0 c.2.2.2]
theorem ansR_inv {v : Value} {y : DataW Unit × List MemPlace} (h : ansR v = some y) : ∃ c : AnsC, v = ansMk c := by
  unfold ansR at h
  split at h
  · rename_i h1
    obtain ⟨er, va, A, c, e⟩ := h1
    exact ⟨(er, va, A, c), e⟩
  · cases h
theorem ans_keyed : Keyed Tryz.prog 3 := int_keyed Tryz.underlying3
theorem ans_zero (w : World) : (zeroValue 64).run Tryz.prog w = .ok (ansV 0 0 none 0) w := by kernel_rfl
def AnsM (w : World) (b n : Nat) (D : DataW Unit) : Prop := w.ownsMap Tryz.prog 3 ansR b n D
theorem AnsM.keep {w w' : World} {b n : Nat} {D : DataW Unit} {K : Nat → Prop} (h : AnsM w b n D) (hk : Keep K w w') (hb : K b) : AnsM w' b n D := by
  obtain ⟨es, clock, h1, h2⟩ := h
  exact ⟨es, clock, (hk.block b hb).trans h1, h2⟩
theorem AnsM.lt {w : World} {b n : Nat} {D : DataW Unit} (h : AnsM w b n D) : b < w.heap.size := World.ownsMap.lt h
theorem wpList_lookup_ans (w : World) {ops : Array Oper} {rest : List Oper} {o : Oper} {a : Act} {Q : Exit → Act → World → Prop} (hg : o.guard = none) (m x : Operand) (hop : o.op = Op.lookup 84 m x true) (b n : Nat) (D : DataW Unit) (hm : a.eval m = .map (some b)) (hown : w.ownsMap Tryz.prog 3 ansR b n D) (key : Value) (kl : Lit) (hx : a.eval x = key) (hkey : keyOf Tryz.prog 3 key = some kl)
    (hK : ∀ (er va : Int) (A : Option Addr) (c : Nat) (ok : Bool), wpList Tryz.prog ops Q rest (a.put o.dst (.tuple #[.agg #[.int .i64 er, .int .u64 va, .slice A 0 c], .bool ok])) w) : wpList Tryz.prog ops Q (o :: rest) a w :=
  wpList_lookup_own_ok w hg m x 84 hop 3 64 ans_keyed Tryz.underlying84 ansR (ans_zero _) _ [] (ansR_mk 0 0 none 0) b n D hm hown key kl hx hkey (fun v ps hv => by
    obtain ⟨c, rfl⟩ := ansR_inv hv
    exact hK c.1 c.2.1 c.2.2.1 c.2.2.2 _)
set_option maxRecDepth 100000 in
theorem equal00 (A B : Option Addr) (c d : Nat) (w : World) : Calls Tryz.prog 48 #[.slice A 0 c, .slice B 0 d] w fun e w' => e = .returned (.bool true) ∧ w' = w := by
  go_enter Tryz.func48, Tryz.ntmps48
  go_wp2
  refine wp_loop_rounds 1 ?_
  rw [rounds_succ]
  go_wp2
  go_ret
  exact ⟨rfl, rfl⟩
set_option maxRecDepth 100000 in
set_option maxHeartbeats 2000000 in
theorem alikeW {a b na nb : Nat} {Da Db : DataW Unit} (w : World) (ha : AnsM w a na Da) (hb : AnsM w b nb Db) : Calls Tryz.prog 32 #[.map (some a), .map (some b)] w fun e w' => (∃ r, e = .returned (.bool r)) ∧ Below w.heap.size w w' := by
  have hza := ha.lt
  have hzb := hb.lt
  unfold AnsM at ha hb
  obtain ⟨sa, hsa⟩ : ∃ s : Nat, Maps.size Da = s := ⟨_, rfl⟩
  obtain ⟨sb, hsb⟩ : ∃ s : Nat, Maps.size Db = s := ⟨_, rfl⟩
  have la := ha.len Tryz.underlying84
  have lb := hb.len Tryz.underlying84
  rw [hsa] at la
  rw [hsb] at lb
  by_cases hne : sa = sb
  · subst hne
    go_enter Tryz.func32, Tryz.ntmps32
    go_wp2_with (first | (at_range; refine wpList_range_own _ rfl _ 84 rfl 3 64 ans_keyed Tryz.underlying84 _ a na Da rfl ha ?_; intro w0 hrg0 hg0 hs0) | go_in)
    go_frame
    have hB0 : Below w.heap.size w w0 := (Below.refl _ w).grown hg0 (Nat.le_refl _) (fun k e => by cases e)
    go_loopw [] (fun wr => ∃ left cnt, wr.ranges Tryz.prog 3 ansR a w.heap.size na Da left cnt ∧ Hid (Below w.heap.size w wr)) (fun wr => wr.rangeLeft a w.heap.size)
    case atStart => exact ⟨_, _, hrg0, hide hB0⟩
    case round =>
      obtain ⟨left, cnt, hrg, hBr⟩ := hrel
      have hb2 : wr.ownsMap Tryz.prog 3 ansR b nb Db := AnsM.keep hb (Keep.of_below (K := fun k => k < w.heap.size) hBr.out (fun k hk => hk)) hzb
      go_wp2_with (first | (at_next; refine wpList_next_ranges _ rfl _ rfl 3 ans_keyed ansR (Value.int .i64) ansMk (fun key kl hkey => by obtain ⟨x, rfl, _⟩ := Maps.keyOf_int_inv Tryz.underlying3 hkey; exact ⟨x, rfl⟩) (fun v y hv => ansR_inv hv) a w.heap.size na Da _ _ rfl hrg ?_ ?_) | go_in)
      · intro hc0 hl0
        go_wp2
        go_ret
        exact ⟨⟨_, rfl⟩, hBr.out⟩
      · intro x er va A c kl yd yp w1 cnt1 hkx hlx hvx hat hrg1 hlt hg1 hs1 hen
        have hB1 : Below w.heap.size w w1 := hBr.out.grown hg1 hBr.out.size (fun k e => by cases e; exact Nat.le_refl _)
        have hb3 : w1.ownsMap Tryz.prog 3 ansR b nb Db := AnsM.keep hb (Keep.of_below (K := fun k => k < w.heap.size) hB1 (fun k hk => hk)) hzb
        have hb4 := hb3.alloc (.cells #[.int .i64 er, .int .u64 va, .slice A 0 c] 64)
        have hen' : (Instr.entry (.pointer (some ⟨w.heap.size, 0, none⟩))).run Tryz.prog w1 = .ok (.tuple #[.int .i64 x, .agg #[.int .i64 er, .int .u64 va, .slice A 0 c]]) w1 := hen
        have HB1 := hide hB1
        clear hen hB1 hb3 hg0 hB0
        simp only [ansMk]
        go_wp2_with (first | (at_lookup; refine wpList_lookup_ans _ rfl _ _ rfl b nb Db rfl hb4 _ kl rfl hkx ?_; intro er2 va2 A2 c2 ok) | (refine (equal00 _ _ _ _ _).mono ?_; rintro e w' ⟨rfl, rfl⟩))
        all_goals first
          | (go_ret; exact ⟨⟨_, rfl⟩, (HB1.out.alloc HB1.out.size _).alloc (by have := HB1.out.size; simp; omega) _⟩)
          | skip
        go_roundw
        case rel => exact ⟨_, _, (hrg1.alloc _).alloc _, hide ((HB1.out.alloc HB1.out.size _).alloc (by have := HB1.out.size; simp; omega) _)⟩
        case measure =>
          rw [((hrg1.alloc _).alloc _).left_eq, hrg.left_eq]
          exact hlt
  · have hne' : (sa : Int) ≠ (sb : Int) := by omega
    go_enter Tryz.func32, Tryz.ntmps32
    go_wp2
    all_goals first
      | (go_ret; exact ⟨⟨_, rfl⟩, Below.refl _ _⟩)
      | skip
end Go.Proofs.YtfghmlpjbedomaaGreat
