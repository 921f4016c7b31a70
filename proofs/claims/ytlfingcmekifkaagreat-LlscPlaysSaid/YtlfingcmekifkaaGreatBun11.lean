import Derived.Test.YtlfingcmekifkaaGreatBun9
import Derived.Test.YtlfingcmekifkaaGreatBun10
import Derived.Deep.OwnRows
namespace Go.Proofs.YtlfingcmekifkaaGreat
open Go.RowKit
structure RmF (f : Nat → Value) (wv : Value) (m : Mm) : Prop where
  v : f 0 = wv
  rd : f 1 = .int .i64 (wrap64 m.rd)
  wr : f 2 = .int .i64 (wrap64 m.wr)
  sw : f 3 = .int .i64 (wrap64 m.sw)
  ad : f 4 = .int .i64 (wrap64 m.ad)
  ft : f 5 = .int .i64 (wrap64 m.ft)
structure RmAt (w : World) (wp B : Nat) (f : Nat → Value) (wv : Value) (m : Mm) : Prop where
  row : w.rowIs wp 95 10 f
  is : RmF f wv m
  own : WRow w B wv m.words
  ne : ∀ k, wv.ownBlock = some k → k ≠ wp
  len : m.words.length ≤ 65536
def RmP (w : World) (wp B : Nat) (f : Nat → Value) (wv : Value) (m' : Mm) (val : Int) (e : Ending) (w' : World) : Prop :=
  e = .returned (.int .u64 val) ∧ ∃ f', RmAt w' wp B f' wv m' ∧ (∀ i, 6 ≤ i → f' i = f i) ∧ Keep (fun k => k ≠ wp ∧ wv.ownBlock ≠ some k) w w' ∧ w'.heap.size = w.heap.size
theorem RmF.set1 {f : Nat → Value} {wv : Value} {m m' : Mm} {j : Nat} (h : RmF f wv m) (hj : 1 ≤ j) (v : Int) (h1 : wrap64 m'.rd = if j = 1 then v else wrap64 m.rd) (h2 : wrap64 m'.wr = if j = 2 then v else wrap64 m.wr) (h3 : wrap64 m'.sw = if j = 3 then v else wrap64 m.sw) (h4 : wrap64 m'.ad = if j = 4 then v else wrap64 m.ad) (h5 : wrap64 m'.ft = if j = 5 then v else wrap64 m.ft) : RmF (fun i => if i = j then .int .i64 v else f i) wv m' := by
  refine ⟨?_, ?_, ?_, ?_, ?_, ?_⟩
  · show (if 0 = j then _ else f 0) = _
    rw [if_neg (by omega)]
    exact h.v
  · show (if 1 = j then _ else f 1) = _
    rw [h1, h.rd]
    by_cases e : j = 1
    · subst e; simp
    · rw [if_neg (fun e' => e e'.symm), if_neg e]
  · show (if 2 = j then _ else f 2) = _
    rw [h2, h.wr]
    by_cases e : j = 2
    · subst e; simp
    · rw [if_neg (fun e' => e e'.symm), if_neg e]
  · show (if 3 = j then _ else f 3) = _
    rw [h3, h.sw]
    by_cases e : j = 3
    · subst e; simp
    · rw [if_neg (fun e' => e e'.symm), if_neg e]
  · show (if 4 = j then _ else f 4) = _
    rw [h4, h.ad]
    by_cases e : j = 4
    · subst e; simp
    · rw [if_neg (fun e' => e e'.symm), if_neg e]
  · show (if 5 = j then _ else f 5) = _
    rw [h5, h.ft]
    by_cases e : j = 5
    · subst e; simp
    · rw [if_neg (fun e' => e e'.symm), if_neg e]
set_option maxRecDepth 100000 in
set_option maxHeartbeats 1000000 in
theorem rmOut {w : World} {wp B : Nat} {f : Nat → Value} {wv : Value} {m : Mm} (k a x y : Int) (h : RmAt w wp B f wv m) (ho : ¬ m.in a) : Calls Tryz.prog 136 #[.pointer (some ⟨wp, 0, none⟩), .int .i64 k, .int .i64 a, .int .u64 x, .int .u64 y] w (RmP w wp B f wv (m.acc k a x y) (m.tell k a x)) := by
  have HH := hide h
  obtain ⟨hrow, ⟨e0, e1, e2, e3, e4, e5⟩, hown, hne, hlen⟩ := h
  have c0 := hrow.cell (i := 0) (by omega)
  have c1 := hrow.cell (i := 1) (by omega)
  have c2 := hrow.cell (i := 2) (by omega)
  have c3 := hrow.cell (i := 3) (by omega)
  have c4 := hrow.cell (i := 4) (by omega)
  have c5 := hrow.cell (i := 5) (by omega)
  rw [e0] at c0
  rw [e1] at c1
  rw [e2] at c2
  rw [e3] at c3
  rw [e4] at c4
  rw [e5] at c5
  have fz1 := hrow.frozen 1
  have fz2 := hrow.frozen 2
  have fz3 := hrow.frozen 3
  have fz4 := hrow.frozen 4
  have fz5 := hrow.frozen 5
  have hwz := hrow.lt
  have ht : m.tell k a x = 0 := if_neg ho
  have hacc : m.acc k a x y = { m with ft := m.ft + 1 } := if_neg ho
  rw [ht, hacc]
  obtain ⟨A, c, rfl⟩ := own_slice hown
  have hol : (m.words.length : Int) ≤ 65536 := by omega
  have hoo : a < 0 ∨ (m.words.length : Int) ≤ a := by unfold Mm.in at ho; omega
  clear ho hown hrow ht hacc e0 e1 e2 e3 e4 e5
  rcases hoo with ha | ha
  all_goals
    go_enter Tryz.func136, Tryz.ntmps136
    go_wp2
    go_ret
    have h := HH.out
    refine ⟨rfl, _, ⟨h.row.set 5 _, h.is.set1 (by decide) _ rfl rfl rfl rfl ?_, ?_, h.ne, h.len⟩, fun i hi => ?_, (Keep.refl _ w).setCell (fun hk => hk.1 rfl) _, by simp⟩
    · show wrap64 (m.ft + 1) = if 5 = 5 then _ else _
      rw [if_pos rfl, ← wrap64_one]
    · exact owns_keepV h.own ((Keep.refl (fun k => k ≠ wp) w).setCell (by simp) _) (fun k hk => h.ne k hk)
    · show (if i = 5 then _ else f i) = f i
      rw [if_neg (by omega)]
theorem own_frozen {w : World} {B n g cap sz : Nat} {T : TypeId} {xs : List Value} (h : w.ownsRow B T sz (.slice (some ⟨g, 0, none⟩) n cap) n xs) (j : Nat) : w.frozen? ⟨g, j, none⟩ = false := by
  rcases h.2 with ⟨h', _⟩ | ⟨g', cap', cur, h', _, hg, _⟩
  · cases h'
  · cases h'
    exact frozen_of_row w g j _ _ hg
theorem acc_in_eq {m : Mm} {k a x y : Int} (h : m.in a) : m.acc k a x y = { m.bump k with words := m.words.set a.toNat (acY k (m.at a) x y) } := if_pos h
theorem set_get_same {l : List Int} {a : Nat} {z : Int} (h : l[a]? = some z) : l.set a z = l := by
  apply List.ext_getElem?
  intro i
  rw [List.getElem?_set]
  by_cases e : a = i
  · subst e
    rw [if_pos rfl, if_pos (List.getElem?_eq_some_iff.1 h).1, h]
  · rw [if_neg e]
set_option maxRecDepth 100000 in
set_option maxHeartbeats 1000000 in
theorem rmIn0 {w : World} {wp B : Nat} {f : Nat → Value} {wv : Value} {m : Mm} (a : Nat) (x y z : Int) (h : RmAt w wp B f wv m) (hx : m.words[a]? = some z) : Calls Tryz.prog 136 #[.pointer (some ⟨wp, 0, none⟩), .int .i64 0, .int .i64 a, .int .u64 x, .int .u64 y] w (RmP w wp B f wv (m.acc 0 a x y) (m.tell 0 a x)) := by
  have HH := hide h
  obtain ⟨hrow, ⟨e0, e1, e2, e3, e4, e5⟩, hown, hne, hlen⟩ := h
  have c0 := hrow.cell (i := 0) (by omega)
  have c1 := hrow.cell (i := 1) (by omega)
  have c2 := hrow.cell (i := 2) (by omega)
  have c3 := hrow.cell (i := 3) (by omega)
  have c4 := hrow.cell (i := 4) (by omega)
  have c5 := hrow.cell (i := 5) (by omega)
  rw [e0] at c0
  rw [e1] at c1
  rw [e2] at c2
  rw [e3] at c3
  rw [e4] at c4
  rw [e5] at c5
  have fz1 := hrow.frozen 1
  have fz2 := hrow.frozen 2
  have fz3 := hrow.frozen 3
  have fz4 := hrow.frozen 4
  have fz5 := hrow.frozen 5
  have hwz := hrow.lt
  have hal : a < m.words.length := (List.getElem?_eq_some_iff.1 hx).1
  obtain ⟨g, c, rfl, hg, hgz⟩ := own_some' hown (by omega)
  have hin : m.in a := by unfold Mm.in; omega
  have hat : m.at a = z := by unfold Mm.at; rw [Int.toNat_natCast, hx]; rfl
  have hng : g ≠ wp := hne g rfl
  have cx : w.cell? ⟨g, a, none⟩ = some (.int .u64 z) := by
    rw [World.ownsRow.cellAt hown a (by omega), List.getElem?_map, hx]
    rfl
  have fx : w.frozen? ⟨g, a, none⟩ = false := own_frozen hown a
  have hall : ¬ (m.words.length : Int) ≤ (a : Int) := by omega
  have hal2 : (a : Int) < (m.words.length : Int) := by omega
  have hol : (m.words.length : Int) ≤ 65536 := by omega
  clear hown hrow e0 e1 e2 e3 e4 e5
  rw [acc_in_eq hin, show m.tell 0 a x = z by unfold Mm.tell; rw [if_pos hin, hat]; rfl, hat, show acY 0 z x y = z from rfl, Int.toNat_natCast, set_get_same hx]
  clear hin hat hal
  go_enter Tryz.func136, Tryz.ntmps136
  go_wp2
  go_ret
  have h := HH.out
  refine ⟨rfl, _, ⟨h.row.set 1 _, h.is.set1 (by decide) _ ?_ rfl rfl rfl rfl, ?_, h.ne, h.len⟩, fun i hi => ?_, (Keep.refl _ w).setCell (fun hk => hk.1 rfl) _, by simp⟩
  · show wrap64 (m.rd + 1) = if 1 = 1 then _ else _
    rw [if_pos rfl, ← wrap64_one]
  · exact owns_keepV h.own ((Keep.refl (fun k => k ≠ wp) w).setCell (by simp) _) (fun k hk => h.ne k hk)
  · show (if i = 1 then _ else f i) = f i
    rw [if_neg (by omega)]
set_option maxRecDepth 100000 in
set_option maxHeartbeats 1000000 in
theorem rmIn1 {w : World} {wp B : Nat} {f : Nat → Value} {wv : Value} {m : Mm} (a : Nat) (x y z : Int) (h : RmAt w wp B f wv m) (hx : m.words[a]? = some z) : Calls Tryz.prog 136 #[.pointer (some ⟨wp, 0, none⟩), .int .i64 1, .int .i64 a, .int .u64 x, .int .u64 y] w (RmP w wp B f wv (m.acc 1 a x y) (m.tell 1 a x)) := by
  have HH := hide h
  obtain ⟨hrow, ⟨e0, e1, e2, e3, e4, e5⟩, hown, hne, hlen⟩ := h
  have c0 := hrow.cell (i := 0) (by omega)
  have c1 := hrow.cell (i := 1) (by omega)
  have c2 := hrow.cell (i := 2) (by omega)
  have c3 := hrow.cell (i := 3) (by omega)
  have c4 := hrow.cell (i := 4) (by omega)
  have c5 := hrow.cell (i := 5) (by omega)
  rw [e0] at c0
  rw [e1] at c1
  rw [e2] at c2
  rw [e3] at c3
  rw [e4] at c4
  rw [e5] at c5
  have fz1 := hrow.frozen 1
  have fz2 := hrow.frozen 2
  have fz3 := hrow.frozen 3
  have fz4 := hrow.frozen 4
  have fz5 := hrow.frozen 5
  have hwz := hrow.lt
  have hal : a < m.words.length := (List.getElem?_eq_some_iff.1 hx).1
  obtain ⟨g, c, rfl, hg, hgz⟩ := own_some' hown (by omega)
  have hin : m.in a := by unfold Mm.in; omega
  have hat : m.at a = z := by unfold Mm.at; rw [Int.toNat_natCast, hx]; rfl
  have hng : g ≠ wp := hne g rfl
  have cx : w.cell? ⟨g, a, none⟩ = some (.int .u64 z) := by
    rw [World.ownsRow.cellAt hown a (by omega), List.getElem?_map, hx]
    rfl
  have fx : w.frozen? ⟨g, a, none⟩ = false := own_frozen hown a
  have hall : ¬ (m.words.length : Int) ≤ (a : Int) := by omega
  have hal2 : (a : Int) < (m.words.length : Int) := by omega
  have hol : (m.words.length : Int) ≤ 65536 := by omega
  clear hown hrow e0 e1 e2 e3 e4 e5
  rw [acc_in_eq hin, show m.tell 1 a x = 0 by unfold Mm.tell; rw [if_pos hin]; rfl, hat, show acY 1 z x y = x from rfl, Int.toNat_natCast]
  clear hin hat hal
  go_enter Tryz.func136, Tryz.ntmps136
  go_wp2
  go_ret
  have h := HH.out
  refine ⟨rfl, _, ⟨(h.row.set 2 _).setOther hng.symm _, h.is.set1 (by decide) _ rfl ?_ rfl rfl rfl, ?_, h.ne, by simpa using h.len⟩, fun i hi => ?_, ((Keep.refl _ w).setCell (fun hk => hk.1 rfl) _).setCell (fun hk => hk.2 rfl) _, by simp⟩
  · show wrap64 (m.wr + 1) = if 2 = 2 then _ else _
    rw [if_pos rfl, ← wrap64_one]
  · have h1 := owns_keepV h.own ((Keep.refl (fun k => k ≠ wp) w).setCell (p := ⟨wp, 2, none⟩) (by simp) (.int .i64 (wrap64 (wrap64 m.wr + 1)))) (fun k hk => h.ne k hk)
    have h2 := (World.ownsRow.stored h1 a (.int .u64 x)).1
    rw [← List.map_set] at h2
    have hl : (m.words.set a x).length = m.words.length := by simp
    show WRow _ _ _ (m.words.set a x)
    unfold WRow
    rw [hl]
    exact h2
  · show (if i = 2 then _ else f i) = f i
    rw [if_neg (by omega)]
set_option maxRecDepth 100000 in
set_option maxHeartbeats 1000000 in
theorem rmIn2 {w : World} {wp B : Nat} {f : Nat → Value} {wv : Value} {m : Mm} (a : Nat) (x y z : Int) (h : RmAt w wp B f wv m) (hx : m.words[a]? = some z) : Calls Tryz.prog 136 #[.pointer (some ⟨wp, 0, none⟩), .int .i64 2, .int .i64 a, .int .u64 x, .int .u64 y] w (RmP w wp B f wv (m.acc 2 a x y) (m.tell 2 a x)) := by
  have HH := hide h
  obtain ⟨hrow, ⟨e0, e1, e2, e3, e4, e5⟩, hown, hne, hlen⟩ := h
  have c0 := hrow.cell (i := 0) (by omega)
  have c1 := hrow.cell (i := 1) (by omega)
  have c2 := hrow.cell (i := 2) (by omega)
  have c3 := hrow.cell (i := 3) (by omega)
  have c4 := hrow.cell (i := 4) (by omega)
  have c5 := hrow.cell (i := 5) (by omega)
  rw [e0] at c0
  rw [e1] at c1
  rw [e2] at c2
  rw [e3] at c3
  rw [e4] at c4
  rw [e5] at c5
  have fz1 := hrow.frozen 1
  have fz2 := hrow.frozen 2
  have fz3 := hrow.frozen 3
  have fz4 := hrow.frozen 4
  have fz5 := hrow.frozen 5
  have hwz := hrow.lt
  have hal : a < m.words.length := (List.getElem?_eq_some_iff.1 hx).1
  obtain ⟨g, c, rfl, hg, hgz⟩ := own_some' hown (by omega)
  have hin : m.in a := by unfold Mm.in; omega
  have hat : m.at a = z := by unfold Mm.at; rw [Int.toNat_natCast, hx]; rfl
  have hng : g ≠ wp := hne g rfl
  have cx : w.cell? ⟨g, a, none⟩ = some (.int .u64 z) := by
    rw [World.ownsRow.cellAt hown a (by omega), List.getElem?_map, hx]
    rfl
  have fx : w.frozen? ⟨g, a, none⟩ = false := own_frozen hown a
  have hall : ¬ (m.words.length : Int) ≤ (a : Int) := by omega
  have hal2 : (a : Int) < (m.words.length : Int) := by omega
  have hol : (m.words.length : Int) ≤ 65536 := by omega
  clear hown hrow e0 e1 e2 e3 e4 e5
  rw [acc_in_eq hin, show m.tell 2 a x = (if z = x then 1 else 0) by unfold Mm.tell; rw [if_pos hin, hat]; rfl, hat, show acY 2 z x y = (if z = x then y else z) from rfl, Int.toNat_natCast]
  have HX := hide hx
  clear hin hat hal hx
  by_cases hq : z = x
  · rw [if_pos hq, if_pos hq]
    have dq : (z != x) = false := by simpa using hq
    clear hq
    go_enter Tryz.func136, Tryz.ntmps136
    go_wp2
    go_ret
    have h := HH.out
    refine ⟨rfl, _, ⟨(h.row.set 3 _).setOther hng.symm _, h.is.set1 (by decide) _ rfl rfl ?_ rfl rfl, ?_, h.ne, by simpa using h.len⟩, fun i hi => ?_, ((Keep.refl _ w).setCell (fun hk => hk.1 rfl) _).setCell (fun hk => hk.2 rfl) _, by simp⟩
    · show wrap64 (m.sw + 1) = if 3 = 3 then _ else _
      rw [if_pos rfl, ← wrap64_one]
    · have h1 := owns_keepV h.own ((Keep.refl (fun k => k ≠ wp) w).setCell (p := ⟨wp, 3, none⟩) (by simp) (.int .i64 (wrap64 (wrap64 m.sw + 1)))) (fun k hk => h.ne k hk)
      have h2 := (World.ownsRow.stored h1 a (.int .u64 y)).1
      rw [← List.map_set] at h2
      have hl : (m.words.set a y).length = m.words.length := by simp
      show WRow _ _ _ (m.words.set a y)
      unfold WRow
      rw [hl]
      exact h2
    · show (if i = 3 then _ else f i) = f i
      rw [if_neg (by omega)]
  · rw [if_neg hq, if_neg hq, set_get_same HX.out]
    have dq : (z != x) = true := by simpa using hq
    clear hq
    go_enter Tryz.func136, Tryz.ntmps136
    go_wp2
    go_ret
    have h := HH.out
    refine ⟨rfl, _, ⟨h.row.set 3 _, h.is.set1 (by decide) _ rfl rfl ?_ rfl rfl, ?_, h.ne, h.len⟩, fun i hi => ?_, (Keep.refl _ w).setCell (fun hk => hk.1 rfl) _, by simp⟩
    · show wrap64 (m.sw + 1) = if 3 = 3 then _ else _
      rw [if_pos rfl, ← wrap64_one]
    · exact owns_keepV h.own ((Keep.refl (fun k => k ≠ wp) w).setCell (by simp) _) (fun k hk => h.ne k hk)
    · show (if i = 3 then _ else f i) = f i
      rw [if_neg (by omega)]
set_option maxRecDepth 100000 in
set_option maxHeartbeats 1000000 in
theorem rmIn3 {w : World} {wp B : Nat} {f : Nat → Value} {wv : Value} {m : Mm} (a : Nat) (x y z : Int) (h : RmAt w wp B f wv m) (hx : m.words[a]? = some z) : Calls Tryz.prog 136 #[.pointer (some ⟨wp, 0, none⟩), .int .i64 3, .int .i64 a, .int .u64 x, .int .u64 y] w (RmP w wp B f wv (m.acc 3 a x y) (m.tell 3 a x)) := by
  have HH := hide h
  obtain ⟨hrow, ⟨e0, e1, e2, e3, e4, e5⟩, hown, hne, hlen⟩ := h
  have c0 := hrow.cell (i := 0) (by omega)
  have c1 := hrow.cell (i := 1) (by omega)
  have c2 := hrow.cell (i := 2) (by omega)
  have c3 := hrow.cell (i := 3) (by omega)
  have c4 := hrow.cell (i := 4) (by omega)
  have c5 := hrow.cell (i := 5) (by omega)
  rw [e0] at c0
  rw [e1] at c1
  rw [e2] at c2
  rw [e3] at c3
  rw [e4] at c4
  rw [e5] at c5
  have fz1 := hrow.frozen 1
  have fz2 := hrow.frozen 2
  have fz3 := hrow.frozen 3
  have fz4 := hrow.frozen 4
  have fz5 := hrow.frozen 5
  have hwz := hrow.lt
  have hal : a < m.words.length := (List.getElem?_eq_some_iff.1 hx).1
  obtain ⟨g, c, rfl, hg, hgz⟩ := own_some' hown (by omega)
  have hin : m.in a := by unfold Mm.in; omega
  have hat : m.at a = z := by unfold Mm.at; rw [Int.toNat_natCast, hx]; rfl
  have hng : g ≠ wp := hne g rfl
  have cx : w.cell? ⟨g, a, none⟩ = some (.int .u64 z) := by
    rw [World.ownsRow.cellAt hown a (by omega), List.getElem?_map, hx]
    rfl
  have fx : w.frozen? ⟨g, a, none⟩ = false := own_frozen hown a
  have hall : ¬ (m.words.length : Int) ≤ (a : Int) := by omega
  have hal2 : (a : Int) < (m.words.length : Int) := by omega
  have hol : (m.words.length : Int) ≤ 65536 := by omega
  clear hown hrow e0 e1 e2 e3 e4 e5
  rw [acc_in_eq hin, show m.tell 3 a x = z by unfold Mm.tell; rw [if_pos hin, hat]; rfl, hat, show acY 3 z x y = (z + x) % 18446744073709551616 from rfl, Int.toNat_natCast]
  have hwz' : IntKind.u64.wrap (z + x) = (z + x) % 18446744073709551616 := IntKind.wrap_u64 _
  clear hin hat hal hx
  go_enter Tryz.func136, Tryz.ntmps136
  go_wp2
  go_ret
  have h := HH.out
  refine ⟨rfl, _, ⟨(h.row.set 4 _).setOther hng.symm _, h.is.set1 (by decide) _ rfl rfl rfl ?_ rfl, ?_, h.ne, by simpa using h.len⟩, fun i hi => ?_, ((Keep.refl _ w).setCell (fun hk => hk.1 rfl) _).setCell (fun hk => hk.2 rfl) _, by simp⟩
  · show wrap64 (m.ad + 1) = if 4 = 4 then _ else _
    rw [if_pos rfl, ← wrap64_one]
  · have h1 := owns_keepV h.own ((Keep.refl (fun k => k ≠ wp) w).setCell (p := ⟨wp, 4, none⟩) (by simp) (.int .i64 (wrap64 (wrap64 m.ad + 1)))) (fun k hk => h.ne k hk)
    have h2 := (World.ownsRow.stored h1 a (.int .u64 ((z + x) % 18446744073709551616))).1
    rw [← List.map_set] at h2
    have hl : (m.words.set a ((z + x) % 18446744073709551616)).length = m.words.length := by simp
    show WRow _ _ _ (m.words.set a ((z + x) % 18446744073709551616))
    unfold WRow
    rw [hl]
    exact h2
  · show (if i = 4 then _ else f i) = f i
    rw [if_neg (by omega)]
theorem rmAccess {w : World} {wp B : Nat} {f : Nat → Value} {wv : Value} {m : Mm} (k a x y : Int) (hk : 0 ≤ k ∧ k ≤ 3) (h : RmAt w wp B f wv m) : Calls Tryz.prog 136 #[.pointer (some ⟨wp, 0, none⟩), .int .i64 k, .int .i64 a, .int .u64 x, .int .u64 y] w (RmP w wp B f wv (m.acc k a x y) (m.tell k a x)) := by
  by_cases hin : m.in a
  · obtain ⟨n, rfl⟩ : ∃ n : Nat, a = n := ⟨a.toNat, by unfold Mm.in at hin; omega⟩
    have hn : n < m.words.length := by unfold Mm.in at hin; omega
    have hx : m.words[n]? = some m.words[n] := List.getElem?_eq_getElem hn
    rcases (by omega : k = 0 ∨ k = 1 ∨ k = 2 ∨ k = 3) with rfl | rfl | rfl | rfl
    · exact rmIn0 n x y _ h hx
    · exact rmIn1 n x y _ h hx
    · exact rmIn2 n x y _ h hx
    · exact rmIn3 n x y _ h hx
  · exact rmOut k a x y h hin
end Go.Proofs.YtlfingcmekifkaaGreat

namespace Go.Proofs.YtlfingcmekifkaaGreat
open Go.RowKit
def acEnc (x : Ac) : List Value := [.int .i64 x.tick, .int .i64 x.thread, .int .i64 x.kind, .int .i64 x.at_, .int .u64 x.old, .int .u64 x.now]
structure Rv where
  wv : Value
  lg : Value
  gv : Value
  tv : Value
  pv : Value
  lv : Value
  kv : Value
structure TpF (g : Nat → Value) (q wp : Nat) (th : Nat) (X : Rv) (T : Tp) : Prop where
  w : g q = .pointer (some ⟨wp, 0, none⟩)
  th : g (q + 1) = .int .i64 th
  inv : g (q + 2) = .int .i64 T.inv
  got : g (q + 3) = X.gv
  tks : g (q + 4) = X.tv
  at_ : g (q + 5) = .int .i64 T.at_
  fresh : g (q + 6) = .bool T.fresh
  halt : g (q + 7) = .bool T.halt
  priv : g (q + 8) = X.pv
  err : g (q + 9) = .int .i64 T.err
  val : g (q + 10) = .int .u64 T.val
  list : g (q + 11) = X.lv
  key : g (q + 12) = X.kv
def Apt (a b : Value) : Prop := ∀ k, a.ownBlock = some k → b.ownBlock ≠ some k
def Rv.four (X : Rv) (k : Nat) : Prop := X.wv.ownBlock = some k ∨ X.lg.ownBlock = some k ∨ X.gv.ownBlock = some k ∨ X.tv.ownBlock = some k
structure RtAt (w : World) (hb wp q nh th : Nat) (g f : Nat → Value) (X : Rv) (T : Tp) (W : Rw) : Prop where
  mem : RmAt w wp 0 f X.wv W.mem
  now : f 6 = .int .i64 W.now
  lgf : f 9 = X.lg
  hrow : w.rowIs hb 102 nh g
  qn : q + 13 ≤ nh
  tp : TpF g q wp th X T
  got : WRow w 0 X.gv T.got
  tks : w.ownsRow 0 3 1 X.tv T.tks.length (T.tks.map (Value.int .i64))
  log : w.ownsRow 0 222 6 X.lg W.log.length (W.log.flatMap acEnc)
  hw : hb ≠ wp
  ne : ∀ k, X.four k → k ≠ hb ∧ k ≠ wp
  a1 : Apt X.wv X.lg
  a2 : Apt X.wv X.gv
  a3 : Apt X.wv X.tv
  a4 : Apt X.lg X.gv
  a5 : Apt X.lg X.tv
  a6 : Apt X.gv X.tv
  bg : T.got.length ≤ 100000
  bt : T.tks.length ≤ 100000
  bl : W.log.length ≤ 100000
  ba : T.at_ ≤ T.got.length
def RtP (w : World) (hb wp q nh th : Nat) (g f : Nat → Value) (X : Rv) (val : Int) (T' : Tp) (W' : Rw) (e : Ending) (w' : World) : Prop :=
  e = .returned (.int .u64 val) ∧ ∃ g' f' X', RtAt w' hb wp q nh th g' f' X' T' W' ∧ X'.wv = X.wv ∧ X'.pv = X.pv ∧ X'.lv = X.lv ∧ X'.kv = X.kv ∧ (∀ i, (i < q ∨ q + 13 ≤ i) → g' i = g i) ∧ (∀ i, i = 7 ∨ i = 8 → f' i = f i) ∧
    (∀ k, X'.four k → X.four k ∨ w.heap.size ≤ k) ∧ Keep (fun k => k < w.heap.size ∧ k ≠ hb ∧ k ≠ wp ∧ ¬ X.four k) w w'
theorem RtAt.cell {w : World} {hb wp q nh th : Nat} {g f : Nat → Value} {X : Rv} {T T' : Tp} {W : Rw} (h : RtAt w hb wp q nh th g f X T W) {j : Nat} (v : Value) (_hj : j < 13) (ht : TpF (fun i => if i = q + j then v else g i) q wp th X T') (e1 : T'.got = T.got) (e2 : T'.tks = T.tks) (e3 : T'.at_ ≤ T'.got.length) :
    RtAt (w.setCell ⟨hb, q + j, none⟩ v) hb wp q nh th (fun i => if i = q + j then v else g i) f X T' W := by
  have hk : Keep (fun k => k ≠ hb) w (w.setCell ⟨hb, q + j, none⟩ v) := (Keep.refl _ w).setCell (by simp) _
  have hn : ∀ k, X.four k → k ≠ hb := fun k hk => (h.ne k hk).1
  refine ⟨⟨rowIs_keep h.mem.row hk h.hw.symm, h.mem.is, owns_keepV h.mem.own hk (fun k hk => hn k (Or.inl hk)), h.mem.ne, h.mem.len⟩, h.now, h.lgf, h.hrow.set (q + j) v, h.qn, ht, ?_, ?_, ?_, h.hw, h.ne, h.a1, h.a2, h.a3, h.a4, h.a5, h.a6, by rw [e1]; exact h.bg, by rw [e2]; exact h.bt, h.bl, e3⟩
  · rw [e1]; exact owns_keepV h.got hk (fun k hk => hn k (Or.inr (Or.inr (Or.inl hk))))
  · rw [e2]; exact owns_keepV h.tks hk (fun k hk => hn k (Or.inr (Or.inr (Or.inr hk))))
  · exact owns_keepV h.log hk (fun k hk => hn k (Or.inr (Or.inl hk)))
theorem RtAt.drewN {w : World} {hb wp q nh th n : Nat} {g f : Nat → Value} {X : Rv} {T : Tp} {W : Rw} (h : RtAt w hb wp q nh th g f X T W) : RtAt (w.drewN n) hb wp q nh th g f X T W := by
  have hk : Keep (fun _ => True) w (w.drewN n) := (Keep.refl _ w).drewN n
  exact ⟨⟨rowIs_keep h.mem.row hk trivial, h.mem.is, owns_keepV h.mem.own hk (fun _ _ => trivial), h.mem.ne, h.mem.len⟩, h.now, h.lgf, rowIs_keep h.hrow hk trivial, h.qn, h.tp, owns_keepV h.got hk (fun _ _ => trivial), owns_keepV h.tks hk (fun _ _ => trivial), owns_keepV h.log hk (fun _ _ => trivial), h.hw, h.ne, h.a1, h.a2, h.a3, h.a4, h.a5, h.a6, h.bg, h.bt, h.bl, h.ba⟩
theorem RtAt.cells {w : World} {hb wp q nh th : Nat} {g f : Nat → Value} {X : Rv} {T : Tp} {W : Rw} (h : RtAt w hb wp q nh th g f X T W) : w.cell? ⟨hb, q, none⟩ = some (.pointer (some ⟨wp, 0, none⟩)) ∧ w.cell? ⟨hb, q + 1, none⟩ = some (.int .i64 th) ∧ w.cell? ⟨hb, q + 3, none⟩ = some X.gv ∧ w.cell? ⟨hb, q + 4, none⟩ = some X.tv ∧ w.cell? ⟨hb, q + 5, none⟩ = some (.int .i64 T.at_) ∧ w.cell? ⟨hb, q + 6, none⟩ = some (.bool T.fresh) ∧ w.cell? ⟨hb, q + 7, none⟩ = some (.bool T.halt) ∧
    w.cell? ⟨wp, 0, none⟩ = some X.wv ∧ w.cell? ⟨wp, 6, none⟩ = some (.int .i64 W.now) ∧ w.cell? ⟨wp, 9, none⟩ = some X.lg := by
  have hq := h.qn
  have c := fun i (hi : i < nh) => h.hrow.cell (i := i) hi
  have d := fun i (hi : i < 10) => h.mem.row.cell (i := i) hi
  refine ⟨?_, ?_, ?_, ?_, ?_, ?_, ?_, ?_, ?_, ?_⟩
  · rw [c _ (by omega), h.tp.w]
  · rw [c _ (by omega), h.tp.th]
  · rw [c _ (by omega), h.tp.got]
  · rw [c _ (by omega), h.tp.tks]
  · rw [c _ (by omega), h.tp.at_]
  · rw [c _ (by omega), h.tp.fresh]
  · rw [c _ (by omega), h.tp.halt]
  · rw [d 0 (by omega), h.mem.is.v]
  · rw [d 6 (by omega), h.now]
  · rw [d 9 (by omega), h.lgf]
section
variable {w : World} {hb wp q nh th : Nat} {g f : Nat → Value} {X : Rv} {T : Tp} {W : Rw}
set_option maxRecDepth 100000 in
set_option maxHeartbeats 1000000 in
theorem tapeHalt (k a x y : Int) (h : RtAt w hb wp q nh th g f X T W) (hh : T.halt = true) : Calls Tryz.prog 121 #[.pointer (some ⟨hb, q, none⟩), .int .i64 k, .int .i64 a, .int .u64 x, .int .u64 y] w (RtP w hb wp q nh th g f X 0 T W) := by
  obtain ⟨t0, t1, t3, t4, t5, t6, t7, x0, x6, x9⟩ := h.cells
  have hz := h.hrow.lt
  have HH := hide h
  rw [hh] at t7
  clear h hh
  go_enter Tryz.func121, Tryz.ntmps121
  go_wp2
  go_ret
  exact ⟨rfl, g, f, X, HH.out, rfl, rfl, rfl, rfl, fun _ _ => rfl, fun _ _ => rfl, fun k hk => Or.inl hk, Keep.refl _ _⟩
set_option maxRecDepth 100000 in
set_option maxHeartbeats 1000000 in
theorem tapeNo (k a x y : Int) (h : RtAt w hb wp q nh th g f X T W) (hh : T.halt = false) (hf : T.fresh = false) (hl : T.at_ = T.got.length) : Calls Tryz.prog 121 #[.pointer (some ⟨hb, q, none⟩), .int .i64 k, .int .i64 a, .int .u64 x, .int .u64 y] w (RtP w hb wp q nh th g f X 0 { T with halt := true } W) := by
  obtain ⟨t0, t1, t3, t4, t5, t6, t7, x0, x6, x9⟩ := h.cells
  have hz := h.hrow.lt
  have hwz := h.mem.row.lt
  have hbg : (T.got.length : Int) ≤ 100000 := by have := h.bg; omega
  have hba : (T.at_ : Int) ≤ (T.got.length : Int) := by have := h.ba; omega
  have hown := h.got
  obtain ⟨Ag, cg, hgv⟩ := own_slice hown
  rw [hgv] at t3
  have HH := hide h
  have fz := h.hrow.frozen (q + 7)
  rw [hh] at t7
  rw [hf] at t6
  have hlt : ¬ (T.at_ : Int) < (T.got.length : Int) := by omega
  clear h hh hf hown hl
  go_enter Tryz.func121, Tryz.ntmps121
  go_wp2
  refine wp_region_seq (fun Y => Y.cell? ⟨hb, q + 5, none⟩ = some (.int .i64 T.at_) ∧ Y.cell? ⟨hb, q + 3, none⟩ = some (.slice Ag T.got.length cg)) (.take 0 <| .take 1 <| .take 2 <| .take 3 <| .take 4 <| .take 5 <| .take 6 <| .take 7 <| .take 8 <| .take 9 <| .done) (by kernel_rfl) (by kernel_rfl) (by kernel_rfl) (by refine ⟨?_, ?_⟩ <;> go_simp) ?_
  repeat (refine seq_take (v := ?_) rfl (by rfl) ?_ ?_; rotate_left; (focus (intro wS hS; obtain ⟨s0, s1⟩ := hS; go_simp; exact rfl)); simp only [Act.put, List.setIfInBounds_toArray, List.set_cons_zero, List.set_cons_succ])
  refine seq_nil ?_
  go_wp2
  go_ret
  have h := HH.out
  have hR := (h.cell (T' := { T with halt := true }) (.bool true) (show 7 < 13 by decide) (by obtain ⟨b0, b1, b2, b3, b4, b5, b6, b7, b8, b9, b10, b11, b12⟩ := h.tp; refine ⟨?_, ?_, ?_, ?_, ?_, ?_, ?_, ?_, ?_, ?_, ?_, ?_, ?_⟩; all_goals first | (rw [if_neg (by omega)]; assumption) | (rw [if_pos (by omega)]; rfl) | (rw [if_pos (by omega)])) rfl rfl h.ba).drewN (n := 1)
  exact ⟨rfl, _, f, X, hR, rfl, rfl, rfl, rfl, fun i hi => if_neg (by omega), fun _ _ => rfl, fun k hk => Or.inl hk, (((Keep.refl _ w).setCell (fun hk => hk.2.1 rfl) _).drewN 1)⟩
set_option maxRecDepth 100000 in
set_option maxHeartbeats 1000000 in
theorem tapeOld (k a x y v : Int) (h : RtAt w hb wp q nh th g f X T W) (hh : T.halt = false) (hv : T.got[T.at_]? = some v) : Calls Tryz.prog 121 #[.pointer (some ⟨hb, q, none⟩), .int .i64 k, .int .i64 a, .int .u64 x, .int .u64 y] w (RtP w hb wp q nh th g f X v { T with at_ := T.at_ + 1 } W) := by
  have hl := (List.getElem?_eq_some_iff.1 hv).1
  obtain ⟨t0, t1, t3, t4, t5, t6, t7, x0, x6, x9⟩ := h.cells
  have hz := h.hrow.lt
  have hwz := h.mem.row.lt
  have hbg : (T.got.length : Int) ≤ 100000 := by have := h.bg; omega
  have hba : (T.at_ : Int) ≤ (T.got.length : Int) := by have := h.ba; omega
  have hown := h.got
  obtain ⟨Ag, cg, hgv⟩ := own_slice hown
  rw [hgv] at t3
  have HH := hide h
  have fz := h.hrow.frozen (q + 5)
  rw [hh] at t7
  have hlt : (T.at_ : Int) < (T.got.length : Int) := by omega
  rw [hgv] at hown
  obtain ⟨gg, cap, hge, _, hgz⟩ := own_some' hown (by omega)
  cases hge
  have hgn := (h.ne gg (Or.inr (Or.inr (Or.inl (by rw [hgv]; rfl))))).1
  have cx : w.cell? ⟨gg, T.at_, none⟩ = some (.int .u64 v) := by
    rw [World.ownsRow.cellAt hown T.at_ (by omega), List.getElem?_map, hv]
    rfl
  have hw1 : IntKind.i64.wrap ((T.at_ : Int) + 1) = (T.at_ : Int) + 1 := wrap_i64 (by omega) (by omega)
  have hw2 : IntKind.i64.wrap ((T.at_ : Int) + 1 - 1) = (T.at_ : Int) := by rw [Int.add_sub_cancel]; exact wrap_i64 (by omega) (by omega)
  have hw3 : (T.at_ : Int) + 1 - 1 = T.at_ := by omega
  have hw4 : IntKind.i64.wrap (T.at_ : Int) = (T.at_ : Int) := wrap_i64 (by omega) (by omega)
  have HL := hide hl
  clear h hh hown hl hv
  go_enter Tryz.func121, Tryz.ntmps121
  go_wp2
  refine wp_region_seq (fun Y => Y.cell? ⟨hb, q + 5, none⟩ = some (.int .i64 T.at_) ∧ Y.cell? ⟨hb, q + 3, none⟩ = some (.slice (some ⟨gg, 0, none⟩) T.got.length cg)) (.take 0 <| .take 1 <| .take 2 <| .take 3 <| .take 4 <| .take 5 <| .take 6 <| .take 7 <| .take 8 <| .take 9 <| .done) (by kernel_rfl) (by kernel_rfl) (by kernel_rfl) (by refine ⟨?_, ?_⟩ <;> go_simp) ?_
  repeat (refine seq_take (v := ?_) rfl (by rfl) ?_ ?_; rotate_left; (focus (intro wS hS; obtain ⟨s0, s1⟩ := hS; go_simp; exact rfl)); simp only [Act.put, List.setIfInBounds_toArray, List.set_cons_zero, List.set_cons_succ])
  refine seq_nil ?_
  go_wp2
  refine wp_region_seq (fun Y => Y.cell? ⟨hb, q + 5, none⟩ = some (.int .i64 ((T.at_ : Int) + 1)) ∧ Y.cell? ⟨hb, q + 3, none⟩ = some (.slice (some ⟨gg, 0, none⟩) T.got.length cg) ∧ Y.cell? ⟨gg, T.at_, none⟩ = some (.int .u64 v)) (.take 0 <| .take 1 <| .take 2 <| .take 3 <| .take 4 <| .take 5 <| .take 6 <| .take 7 <| .take 8 <| .take 9 <| .take 10 <| .take 11 <| .done) (by kernel_rfl) (by kernel_rfl) (by kernel_rfl) (by refine ⟨?_, ?_, ?_⟩ <;> go_simp) ?_
  repeat (refine seq_take (v := ?_) rfl (by rfl) ?_ ?_; rotate_left; (focus (intro wS hS; obtain ⟨s0, s1, s2⟩ := hS; go_simp; exact rfl)); simp only [Act.put, List.setIfInBounds_toArray, List.set_cons_zero, List.set_cons_succ])
  refine seq_nil ?_
  go_wp2
  go_ret
  have h := HH.out
  have hR := (h.cell (T' := { T with at_ := T.at_ + 1 }) (.int .i64 ((T.at_ : Int) + 1)) (show 5 < 13 by decide) (by obtain ⟨b0, b1, b2, b3, b4, b5, b6, b7, b8, b9, b10, b11, b12⟩ := h.tp; refine ⟨?_, ?_, ?_, ?_, ?_, ?_, ?_, ?_, ?_, ?_, ?_, ?_, ?_⟩; all_goals first | (rw [if_neg (by omega)]; assumption) | (rw [if_pos (by omega)]; rfl) | (rw [if_pos (by omega)])) rfl rfl (by show T.at_ + 1 ≤ T.got.length; have := HL.out; omega)).drewN (n := 2)
  exact ⟨rfl, _, f, X, hR, rfl, rfl, rfl, rfl, fun i hi => if_neg (by omega), fun _ _ => rfl, fun k hk => Or.inl hk, (((Keep.refl _ w).setCell (fun hk => hk.2.1 rfl) _).drewN 2)⟩
end
end Go.Proofs.YtlfingcmekifkaaGreat
