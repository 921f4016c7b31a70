/- Words of a memory at first: node.At, queue.Init, table.Words. -/
import Derived.Test.YtdilnfnakhhhaaaGreatTb7
import Derived.Test.YtdilnfnakhhhaaaGreatSeq
import Derived.Test.YtdilnfnakhhhaaaGreatSq1
import Derived.Deep.OwnRows
namespace Go.Proofs.YtdilnfnakhhhaaaGreat
open Go.RowKit

theorem nodeAt (n p : Int) (hn1 : 1 ≤ n) (hn2 : n ≤ 16) (h1 : 1 ≤ p) (h2 : p ≤ 32) (w : World) : Calls Tryz.prog 30 #[.int .i64 n, .int .i64 p, .int .i64 1, .int .i64 3] w fun e w' => e = .returned (.tuple #[.int .i64 (n + 5), .bool true]) ∧ Below w.heap.size w w' := by
  obtain ⟨a1, a2⟩ := mul_bd (show 0 ≤ n by omega) hn2 (show 0 ≤ p by omega) h2
  have d1 : decide (1 + n * p < 1) = false := by simp; omega
  go_enter Tryz.func30, Tryz.ntmps30
  go_wp2_with fail
  refine (nodeRight n p hn1 hn2 h1 h2 _).mono ?_
  rintro e w1 ⟨rfl, rfl⟩
  go_wp2
  go_ret2
  exact ⟨by first | rfl | (congr 3; simp; omega), by (repeat' (first | exact Below.refl _ _ | assumption | refine Below.drew ?_ | refine below_drewN ?_ _ | refine Below.alloc ?_ (by simp <;> omega) _ | refine Below.setCell ?_ (by simp <;> omega) _))⟩

def setW (ws : List Int) (n b : Int) : List Int := ((ws.set b.toNat 1).set (b.toNat + 1) 1).set (b.toNat + (n.toNat + 5)) 1
theorem setW_length (ws : List Int) (n b : Int) : (setW ws n b).length = ws.length := by simp [setW]
abbrev UOwn (w : World) (B : Nat) (v : Value) (n : Nat) (xs : List Int) : Prop := w.ownsRow B 53 1 v n (xs.map (Value.int .u64))

theorem grown_setCell (w : World) (g j : Nat) (u : Value) : w.grownBy (w.setCell ⟨g, j, none⟩ u) (some g) := by
  refine ⟨rfl, rfl, rfl, by simp [World.setCell], fun k hk hne => ?_⟩
  have hgk : g ≠ k := fun e => hne (by rw [e])
  simp [World.setCell, Array.getElem?_modify, hgk]

theorem grown_then {a b c : World} {g : Nat} {r : Option Nat} (h : a.grownBy b r) (hr : r = none ∨ r = some g) (k : b.grownBy c (some g)) : a.grownBy c (some g) :=
  ⟨k.os.trans h.os, k.tape.trans h.tape, k.output.trans h.output, Nat.le_trans h.size k.size, fun i hi hne => (k.block i (Nat.lt_of_lt_of_le hi h.size) hne).trans (h.block i hi (by rcases hr with rfl | rfl; (simp); exact hne))⟩

set_option maxRecDepth 100000 in
set_option maxHeartbeats 1000000 in
theorem queueInit (B g N : Nat) (xs : List Int) (n p : Int) (b : Nat) (w : World) (hown : UOwn w B (.slice (some ⟨g, 0, none⟩) N N) N xs) (hN : N ≤ 65536) (hn1 : 1 ≤ n) (hn2 : n ≤ 16) (h1 : 1 ≤ p) (h2 : p ≤ 32) (hb : (b : Int) + n + 5 < N) (hB : B ≤ w.heap.size) :
    Calls Tryz.prog 24 #[.slice (some ⟨g, 0, none⟩) N N, .int .i64 b, .int .i64 n, .int .i64 p] w fun e w' =>
      e = .returned (.tuple #[]) ∧ UOwn w' B (.slice (some ⟨g, 0, none⟩) N N) N (setW xs n b) ∧ w.grownBy w' (some g) := by
  have N0 := fun W => nodeAt n p hn1 hn2 h1 h2 W
  obtain ⟨n', rfl⟩ := Int.eq_ofNat_of_zero_le (show 0 ≤ n by omega)
  have hg := hown.lt g rfl
  have HO := hide hown
  clear hown
  go_enter Tryz.func24, Tryz.ntmps24
  go_wp2_with fail
  refine (N0 _).mono ?_
  rintro e w1 ⟨rfl, hb1⟩
  have hgr : w.grownBy w1 none := grown_of_below hb1 none
  have hown1 : UOwn w1 B (.slice (some ⟨g, 0, none⟩) N N) N xs := World.ownsRow.kept HO.out hgr (Or.inr (by intro h; cases h))
  have hlen : xs.length = N := by have := hown1.1; simpa using this
  have hcell : ∀ j : Nat, j < N → ∃ x, w1.cell? ⟨g, j, none⟩ = some (.int .u64 x) := by
    intro j hj
    refine ⟨xs[j]'(by omega), ?_⟩
    rw [hown1.cellAt j (by omega), List.getElem?_map, List.getElem?_eq_getElem (by omega)]
    rfl
  obtain ⟨y0, c0⟩ := hcell b (by omega)
  obtain ⟨y1, c1⟩ := hcell (b + 1) (by omega)
  obtain ⟨y2, c2⟩ := hcell (b + (n' + 5)) (by omega)
  have f0 := hown1.frozenAt b
  have f1 := hown1.frozenAt (b + 1)
  have f2 := hown1.frozenAt (b + (n' + 5))
  have q0 : (0 : Int) ≤ (b : Int) := by omega
  have q1 : (b : Int) < (N : Int) := by omega
  have q2 : (b : Int) + 1 < (N : Int) := by omega
  have q3 : (b : Int) + ((n' : Int) + 5) < (N : Int) := by omega
  have e3 : ((b : Int) + ((n' : Int) + 5)).toNat = b + (n' + 5) := by omega
  clear hcell hb1
  have s0 := (hown1.stored b (.int .u64 1)).1
  have s1 := (s0.stored (b + 1) (.int .u64 1)).1
  have s2 := (s1.stored (b + (n' + 5)) (.int .u64 1)).1
  have hG := grown_then (grown_then (grown_then hgr (Or.inl rfl) (grown_setCell w1 g b (.int .u64 1))) (Or.inr rfl) (grown_setCell _ g (b + 1) (.int .u64 1))) (Or.inr rfl) (grown_setCell _ g (b + (n' + 5)) (.int .u64 1))
  have hW : (((xs.map (Value.int .u64)).set b (.int .u64 1)).set (b + 1) (.int .u64 1)).set (b + (n' + 5)) (.int .u64 1) = (setW xs (n' : Int) (b : Int)).map (Value.int .u64) := by
    unfold setW
    rw [List.map_set, List.map_set, List.map_set, Int.toNat_natCast, Int.toNat_natCast]
  have S2 := hide s2
  have HG := hide hG
  have HW := hide hW
  clear s0 s1 s2 hG hW
  go_wp2
  go_end0
  refine ⟨rfl, ?_, HG.out⟩
  have := S2.out
  rw [HW.out] at this
  exact this
end Go.Proofs.YtdilnfnakhhhaaaGreat
