import Derived.Test.YtlfingcmekifkaaGreatBun8
import Derived.Test.YtlfingcmekifkaaGreatBun9
import Derived.Deep.OwnRows
namespace Go.Proofs.YtlfingcmekifkaaGreat
open Go.RowKit
structure RmF (f : Nat → Value) (wv : Value) (m : Mm) : Prop where
  v : f 0 = wv
  rd : f 1 = .int .i64 (wrap64 m.rd)
  wr : f 2 = .int .i64 (wrap64 m.wr)
  sw : f 3 = .int .i64 (wrap64 m.sw)
  ad : f 4 = .int .i64 (wrap64 m.ad)
  ft : f 5 = .int .i64 (wrap64 m.ft)
structure RmAt (w : World) (wp B : Nat) (f : Nat → Value) (wv : Value) (m : Mm) : Prop where
  row : w.rowIs wp 95 10 f
  is : RmF f wv m
  own : WRow w B wv m.words
  ne : ∀ k, wv.ownBlock = some k → k ≠ wp
  len : m.words.length ≤ 65536
def RmP (w : World) (wp B : Nat) (f : Nat → Value) (wv : Value) (m' : Mm) (val : Int) (e : Ending) (w' : World) : Prop :=
  e = .returned (.int .u64 val) ∧ ∃ f', RmAt w' wp B f' wv m' ∧ (∀ i, 6 ≤ i → f' i = f i) ∧ Keep (fun k => k ≠ wp ∧ wv.ownBlock ≠ some k) w w' ∧ w'.heap.size = w.heap.size
theorem RmF.set1 {f : Nat → Value} {wv : Value} {m m' : Mm} {j : Nat} (h : RmF f wv m) (hj : 1 ≤ j) (v : Int) (h1 : wrap64 m'.rd = if j = 1 then v else wrap64 m.rd) (h2 : wrap64 m'.wr = if j = 2 then v else wrap64 m.wr) (h3 : wrap64 m'.sw = if j = 3 then v else wrap64 m.sw) (h4 : wrap64 m'.ad = if j = 4 then v else wrap64 m.ad) (h5 : wrap64 m'.ft = if j = 5 then v else wrap64 m.ft) : RmF (fun i => if i = j then .int .i64 v else f i) wv m' := by
  refine ⟨?_, ?_, ?_, ?_, ?_, ?_⟩
  · show (if 0 = j then _ else f 0) = _
    rw [if_neg (by omega)]
    exact h.v
  · show (if 1 = j then _ else f 1) = _
    rw [h1, h.rd]
    by_cases e : j = 1
    · subst e; simp
    · rw [if_neg (fun e' => e e'.symm), if_neg e]
  · show (if 2 = j then _ else f 2) = _
    rw [h2, h.wr]
    by_cases e : j = 2
    · subst e; simp
    · rw [if_neg (fun e' => e e'.symm), if_neg e]
  · show (if 3 = j then _ else f 3) = _
    rw [h3, h.sw]
    by_cases e : j = 3
    · subst e; simp
    · rw [if_neg (fun e' => e e'.symm), if_neg e]
  · show (if 4 = j then _ else f 4) = _
    rw [h4, h.ad]
    by_cases e : j = 4
    · subst e; simp
    · rw [if_neg (fun e' => e e'.symm), if_neg e]
  · show (if 5 = j then _ else f 5) = _
    rw [h5, h.ft]
    by_cases e : j = 5
    · subst e; simp
    · rw [if_neg (fun e' => e e'.symm), if_neg e]
set_option maxRecDepth 100000 in
set_option maxHeartbeats 1000000 in
theorem rmOut {w : World} {wp B : Nat} {f : Nat → Value} {wv : Value} {m : Mm} (k a x y : Int) (h : RmAt w wp B f wv m) (ho : ¬ m.in a) : Calls Tryz.prog 136 #[.pointer (some ⟨wp, 0, none⟩), .int .i64 k, .int .i64 a, .int .u64 x, .int .u64 y] w (RmP w wp B f wv (m.acc k a x y) (m.tell k a x)) := by
  have HH := hide h
  obtain ⟨hrow, ⟨e0, e1, e2, e3, e4, e5⟩, hown, hne, hlen⟩ := h
  have c0 := hrow.cell (i := 0) (by omega)
  have c1 := hrow.cell (i := 1) (by omega)
  have c2 := hrow.cell (i := 2) (by omega)
  have c3 := hrow.cell (i := 3) (by omega)
  have c4 := hrow.cell (i := 4) (by omega)
  have c5 := hrow.cell (i := 5) (by omega)
  rw [e0] at c0
  rw [e1] at c1
  rw [e2] at c2
  rw [e3] at c3
  rw [e4] at c4
  rw [e5] at c5
  have fz1 := hrow.frozen 1
  have fz2 := hrow.frozen 2
  have fz3 := hrow.frozen 3
  have fz4 := hrow.frozen 4
  have fz5 := hrow.frozen 5
  have hwz := hrow.lt
  have ht : m.tell k a x = 0 := if_neg ho
  have hacc : m.acc k a x y = { m with ft := m.ft + 1 } := if_neg ho
  rw [ht, hacc]
  obtain ⟨A, c, rfl⟩ := own_slice hown
  have hol : (m.words.length : Int) ≤ 65536 := by omega
  have hoo : a < 0 ∨ (m.words.length : Int) ≤ a := by unfold Mm.in at ho; omega
  clear ho hown hrow ht hacc e0 e1 e2 e3 e4 e5
  rcases hoo with ha | ha
  all_goals
    go_enter Tryz.func136, Tryz.ntmps136
    go_wp2
    go_ret
    have h := HH.out
    refine ⟨rfl, _, ⟨h.row.set 5 _, h.is.set1 (by decide) _ rfl rfl rfl rfl ?_, ?_, h.ne, h.len⟩, fun i hi => ?_, (Keep.refl _ w).setCell (fun hk => hk.1 rfl) _, by simp⟩
    · show wrap64 (m.ft + 1) = if 5 = 5 then _ else _
      rw [if_pos rfl, ← wrap64_one]
    · exact owns_keepV h.own ((Keep.refl (fun k => k ≠ wp) w).setCell (by simp) _) (fun k hk => h.ne k hk)
    · show (if i = 5 then _ else f i) = f i
      rw [if_neg (by omega)]
theorem own_frozen {w : World} {B n g cap sz : Nat} {T : TypeId} {xs : List Value} (h : w.ownsRow B T sz (.slice (some ⟨g, 0, none⟩) n cap) n xs) (j : Nat) : w.frozen? ⟨g, j, none⟩ = false := by
  rcases h.2 with ⟨h', _⟩ | ⟨g', cap', cur, h', _, hg, _⟩
  · cases h'
  · cases h'
    exact frozen_of_row w g j _ _ hg
theorem acc_in_eq {m : Mm} {k a x y : Int} (h : m.in a) : m.acc k a x y = { m.bump k with words := m.words.set a.toNat (acY k (m.at a) x y) } := if_pos h
theorem set_get_same {l : List Int} {a : Nat} {z : Int} (h : l[a]? = some z) : l.set a z = l := by
  apply List.ext_getElem?
  intro i
  rw [List.getElem?_set]
  by_cases e : a = i
  · subst e
    rw [if_pos rfl, if_pos (List.getElem?_eq_some_iff.1 h).1, h]
  · rw [if_neg e]
set_option maxRecDepth 100000 in
set_option maxHeartbeats 1000000 in
theorem rmIn0 {w : World} {wp B : Nat} {f : Nat → Value} {wv : Value} {m : Mm} (a : Nat) (x y z : Int) (h : RmAt w wp B f wv m) (hx : m.words[a]? = some z) : Calls Tryz.prog 136 #[.pointer (some ⟨wp, 0, none⟩), .int .i64 0, .int .i64 a, .int .u64 x, .int .u64 y] w (RmP w wp B f wv (m.acc 0 a x y) (m.tell 0 a x)) := by
  have HH := hide h
  obtain ⟨hrow, ⟨e0, e1, e2, e3, e4, e5⟩, hown, hne, hlen⟩ := h
  have c0 := hrow.cell (i := 0) (by omega)
  have c1 := hrow.cell (i := 1) (by omega)
  have c2 := hrow.cell (i := 2) (by omega)
  have c3 := hrow.cell (i := 3) (by omega)
  have c4 := hrow.cell (i := 4) (by omega)
  have c5 := hrow.cell (i := 5) (by omega)
  rw [e0] at c0
  rw [e1] at c1
  rw [e2] at c2
  rw [e3] at c3
  rw [e4] at c4
  rw [e5] at c5
  have fz1 := hrow.frozen 1
  have fz2 := hrow.frozen 2
  have fz3 := hrow.frozen 3
  have fz4 := hrow.frozen 4
  have fz5 := hrow.frozen 5
  have hwz := hrow.lt
  have hal : a < m.words.length := (List.getElem?_eq_some_iff.1 hx).1
  obtain ⟨g, c, rfl, hg, hgz⟩ := own_some' hown (by omega)
  have hin : m.in a := by unfold Mm.in; omega
  have hat : m.at a = z := by unfold Mm.at; rw [Int.toNat_natCast, hx]; rfl
  have hng : g ≠ wp := hne g rfl
  have cx : w.cell? ⟨g, a, none⟩ = some (.int .u64 z) := by
    rw [World.ownsRow.cellAt hown a (by omega), List.getElem?_map, hx]
    rfl
  have fx : w.frozen? ⟨g, a, none⟩ = false := own_frozen hown a
  have hall : ¬ (m.words.length : Int) ≤ (a : Int) := by omega
  have hal2 : (a : Int) < (m.words.length : Int) := by omega
  have hol : (m.words.length : Int) ≤ 65536 := by omega
  clear hown hrow e0 e1 e2 e3 e4 e5
  rw [acc_in_eq hin, show m.tell 0 a x = z by unfold Mm.tell; rw [if_pos hin, hat]; rfl, hat, show acY 0 z x y = z from rfl, Int.toNat_natCast, set_get_same hx]
  clear hin hat hal
  go_enter Tryz.func136, Tryz.ntmps136
  go_wp2
  go_ret
  have h := HH.out
  refine ⟨rfl, _, ⟨h.row.set 1 _, h.is.set1 (by decide) _ ?_ rfl rfl rfl rfl, ?_, h.ne, h.len⟩, fun i hi => ?_, (Keep.refl _ w).setCell (fun hk => hk.1 rfl) _, by simp⟩
  · show wrap64 (m.rd + 1) = if 1 = 1 then _ else _
    rw [if_pos rfl, ← wrap64_one]
  · exact owns_keepV h.own ((Keep.refl (fun k => k ≠ wp) w).setCell (by simp) _) (fun k hk => h.ne k hk)
  · show (if i = 1 then _ else f i) = f i
    rw [if_neg (by omega)]
set_option maxRecDepth 100000 in
set_option maxHeartbeats 1000000 in
theorem rmIn1 {w : World} {wp B : Nat} {f : Nat → Value} {wv : Value} {m : Mm} (a : Nat) (x y z : Int) (h : RmAt w wp B f wv m) (hx : m.words[a]? = some z) : Calls Tryz.prog 136 #[.pointer (some ⟨wp, 0, none⟩), .int .i64 1, .int .i64 a, .int .u64 x, .int .u64 y] w (RmP w wp B f wv (m.acc 1 a x y) (m.tell 1 a x)) := by
  have HH := hide h
  obtain ⟨hrow, ⟨e0, e1, e2, e3, e4, e5⟩, hown, hne, hlen⟩ := h
  have c0 := hrow.cell (i := 0) (by omega)
  have c1 := hrow.cell (i := 1) (by omega)
  have c2 := hrow.cell (i := 2) (by omega)
  have c3 := hrow.cell (i := 3) (by omega)
  have c4 := hrow.cell (i := 4) (by omega)
  have c5 := hrow.cell (i := 5) (by omega)
  rw [e0] at c0
  rw [e1] at c1
  rw [e2] at c2
  rw [e3] at c3
  rw [e4] at c4
  rw [e5] at c5
  have fz1 := hrow.frozen 1
  have fz2 := hrow.frozen 2
  have fz3 := hrow.frozen 3
  have fz4 := hrow.frozen 4
  have fz5 := hrow.frozen 5
  have hwz := hrow.lt
  have hal : a < m.words.length := (List.getElem?_eq_some_iff.1 hx).1
  obtain ⟨g, c, rfl, hg, hgz⟩ := own_some' hown (by omega)
  have hin : m.in a := by unfold Mm.in; omega
  have hat : m.at a = z := by unfold Mm.at; rw [Int.toNat_natCast, hx]; rfl
  have hng : g ≠ wp := hne g rfl
  have cx : w.cell? ⟨g, a, none⟩ = some (.int .u64 z) := by
    rw [World.ownsRow.cellAt hown a (by omega), List.getElem?_map, hx]
    rfl
  have fx : w.frozen? ⟨g, a, none⟩ = false := own_frozen hown a
  have hall : ¬ (m.words.length : Int) ≤ (a : Int) := by omega
  have hal2 : (a : Int) < (m.words.length : Int) := by omega
  have hol : (m.words.length : Int) ≤ 65536 := by omega
  clear hown hrow e0 e1 e2 e3 e4 e5
  rw [acc_in_eq hin, show m.tell 1 a x = 0 by unfold Mm.tell; rw [if_pos hin]; rfl, hat, show acY 1 z x y = x from rfl, Int.toNat_natCast]
  clear hin hat hal
  go_enter Tryz.func136, Tryz.ntmps136
  go_wp2
  go_ret
  have h := HH.out
  refine ⟨rfl, _, ⟨(h.row.set 2 _).setOther hng.symm _, h.is.set1 (by decide) _ rfl ?_ rfl rfl rfl, ?_, h.ne, by simpa using h.len⟩, fun i hi => ?_, ((Keep.refl _ w).setCell (fun hk => hk.1 rfl) _).setCell (fun hk => hk.2 rfl) _, by simp⟩
  · show wrap64 (m.wr + 1) = if 2 = 2 then _ else _
    rw [if_pos rfl, ← wrap64_one]
  · have h1 := owns_keepV h.own ((Keep.refl (fun k => k ≠ wp) w).setCell (p := ⟨wp, 2, none⟩) (by simp) (.int .i64 (wrap64 (wrap64 m.wr + 1)))) (fun k hk => h.ne k hk)
    have h2 := (World.ownsRow.stored h1 a (.int .u64 x)).1
    rw [← List.map_set] at h2
    have hl : (m.words.set a x).length = m.words.length := by simp
    show WRow _ _ _ (m.words.set a x)
    unfold WRow
    rw [hl]
    exact h2
  · show (if i = 2 then _ else f i) = f i
    rw [if_neg (by omega)]
set_option maxRecDepth 100000 in
set_option maxHeartbeats 1000000 in
theorem rmIn2 {w : World} {wp B : Nat} {f : Nat → Value} {wv : Value} {m : Mm} (a : Nat) (x y z : Int) (h : RmAt w wp B f wv m) (hx : m.words[a]? = some z) : Calls Tryz.prog 136 #[.pointer (some ⟨wp, 0, none⟩), .int .i64 2, .int .i64 a, .int .u64 x, .int .u64 y] w (RmP w wp B f wv (m.acc 2 a x y) (m.tell 2 a x)) := by
  have HH := hide h
  obtain ⟨hrow, ⟨e0, e1, e2, e3, e4, e5⟩, hown, hne, hlen⟩ := h
  have c0 := hrow.cell (i := 0) (by omega)
  have c1 := hrow.cell (i := 1) (by omega)
  have c2 := hrow.cell (i := 2) (by omega)
  have c3 := hrow.cell (i := 3) (by omega)
  have c4 := hrow.cell (i := 4) (by omega)
  have c5 := hrow.cell (i := 5) (by omega)
  rw [e0] at c0
  rw [e1] at c1
  rw [e2] at c2
  rw [e3] at c3
  rw [e4] at c4
  rw [e5] at c5
  have fz1 := hrow.frozen 1
  have fz2 := hrow.frozen 2
  have fz3 := hrow.frozen 3
  have fz4 := hrow.frozen 4
  have fz5 := hrow.frozen 5
  have hwz := hrow.lt
  have hal : a < m.words.length := (List.getElem?_eq_some_iff.1 hx).1
  obtain ⟨g, c, rfl, hg, hgz⟩ := own_some' hown (by omega)
  have hin : m.in a := by unfold Mm.in; omega
  have hat : m.at a = z := by unfold Mm.at; rw [Int.toNat_natCast, hx]; rfl
  have hng : g ≠ wp := hne g rfl
  have cx : w.cell? ⟨g, a, none⟩ = some (.int .u64 z) := by
    rw [World.ownsRow.cellAt hown a (by omega), List.getElem?_map, hx]
    rfl
  have fx : w.frozen? ⟨g, a, none⟩ = false := own_frozen hown a
  have hall : ¬ (m.words.length : Int) ≤ (a : Int) := by omega
  have hal2 : (a : Int) < (m.words.length : Int) := by omega
  have hol : (m.words.length : Int) ≤ 65536 := by omega
  clear hown hrow e0 e1 e2 e3 e4 e5
  rw [acc_in_eq hin, show m.tell 2 a x = (if z = x then 1 else 0) by unfold Mm.tell; rw [if_pos hin, hat]; rfl, hat, show acY 2 z x y = (if z = x then y else z) from rfl, Int.toNat_natCast]
  have HX := hide hx
  clear hin hat hal hx
  by_cases hq : z = x
  · rw [if_pos hq, if_pos hq]
    have dq : (z != x) = false := by simpa using hq
    clear hq
    go_enter Tryz.func136, Tryz.ntmps136
    go_wp2
    go_ret
    have h := HH.out
    refine ⟨rfl, _, ⟨(h.row.set 3 _).setOther hng.symm _, h.is.set1 (by decide) _ rfl rfl ?_ rfl rfl, ?_, h.ne, by simpa using h.len⟩, fun i hi => ?_, ((Keep.refl _ w).setCell (fun hk => hk.1 rfl) _).setCell (fun hk => hk.2 rfl) _, by simp⟩
    · show wrap64 (m.sw + 1) = if 3 = 3 then _ else _
      rw [if_pos rfl, ← wrap64_one]
    · have h1 := owns_keepV h.own ((Keep.refl (fun k => k ≠ wp) w).setCell (p := ⟨wp, 3, none⟩) (by simp) (.int .i64 (wrap64 (wrap64 m.sw + 1)))) (fun k hk => h.ne k hk)
      have h2 := (World.ownsRow.stored h1 a (.int .u64 y)).1
      rw [← List.map_set] at h2
      have hl : (m.words.set a y).length = m.words.length := by simp
      show WRow _ _ _ (m.words.set a y)
      unfold WRow
      rw [hl]
      exact h2
    · show (if i = 3 then _ else f i) = f i
      rw [if_neg (by omega)]
  · rw [if_neg hq, if_neg hq, set_get_same HX.out]
    have dq : (z != x) = true := by simpa using hq
    clear hq
    go_enter Tryz.func136, Tryz.ntmps136
    go_wp2
    go_ret
    have h := HH.out
    refine ⟨rfl, _, ⟨h.row.set 3 _, h.is.set1 (by decide) _ rfl rfl ?_ rfl rfl, ?_, h.ne, h.len⟩, fun i hi => ?_, (Keep.refl _ w).setCell (fun hk => hk.1 rfl) _, by simp⟩
    · show wrap64 (m.sw + 1) = if 3 = 3 then _ else _
      rw [if_pos rfl, ← wrap64_one]
    · exact owns_keepV h.own ((Keep.refl (fun k => k ≠ wp) w).setCell (by simp) _) (fun k hk => h.ne k hk)
    · show (if i = 3 then _ else f i) = f i
      rw [if_neg (by omega)]
set_option maxRecDepth 100000 in
set_option maxHeartbeats 1000000 in
theorem rmIn3 {w : World} {wp B : Nat} {f : Nat → Value} {wv : Value} {m : Mm} (a : Nat) (x y z : Int) (h : RmAt w wp B f wv m) (hx : m.words[a]? = some z) : Calls Tryz.prog 136 #[.pointer (some ⟨wp, 0, none⟩), .int .i64 3, .int .i64 a, .int .u64 x, .int .u64 y] w (RmP w wp B f wv (m.acc 3 a x y) (m.tell 3 a x)) := by
  have HH := hide h
  obtain ⟨hrow, ⟨e0, e1, e2, e3, e4, e5⟩, hown, hne, hlen⟩ := h
  have c0 := hrow.cell (i := 0) (by omega)
  have c1 := hrow.cell (i := 1) (by omega)
  have c2 := hrow.cell (i := 2) (by omega)
  have c3 := hrow.cell (i := 3) (by omega)
  have c4 := hrow.cell (i := 4) (by omega)
  have c5 := hrow.cell (i := 5) (by omega)
  rw [e0] at c0
  rw [e1] at c1
  rw [e2] at c2
  rw [e3] at c3
  rw [e4] at c4
  rw [e5] at c5
  have fz1 := hrow.frozen 1
  have fz2 := hrow.frozen 2
  have fz3 := hrow.frozen 3
  have fz4 := hrow.frozen 4
  have fz5 := hrow.frozen 5
  have hwz := hrow.lt
  have hal : a < m.words.length := (List.getElem?_eq_some_iff.1 hx).1
  obtain ⟨g, c, rfl, hg, hgz⟩ := own_some' hown (by omega)
  have hin : m.in a := by unfold Mm.in; omega
  have hat : m.at a = z := by unfold Mm.at; rw [Int.toNat_natCast, hx]; rfl
  have hng : g ≠ wp := hne g rfl
  have cx : w.cell? ⟨g, a, none⟩ = some (.int .u64 z) := by
    rw [World.ownsRow.cellAt hown a (by omega), List.getElem?_map, hx]
    rfl
  have fx : w.frozen? ⟨g, a, none⟩ = false := own_frozen hown a
  have hall : ¬ (m.words.length : Int) ≤ (a : Int) := by omega
  have hal2 : (a : Int) < (m.words.length : Int) := by omega
  have hol : (m.words.length : Int) ≤ 65536 := by omega
  clear hown hrow e0 e1 e2 e3 e4 e5
  rw [acc_in_eq hin, show m.tell 3 a x = z by unfold Mm.tell; rw [if_pos hin, hat]; rfl, hat, show acY 3 z x y = (z + x) % 18446744073709551616 from rfl, Int.toNat_natCast]
  have hwz' : IntKind.u64.wrap (z + x) = (z + x) % 18446744073709551616 := IntKind.wrap_u64 _
  clear hin hat hal hx
  go_enter Tryz.func136, Tryz.ntmps136
  go_wp2
  go_ret
  have h := HH.out
  refine ⟨rfl, _, ⟨(h.row.set 4 _).setOther hng.symm _, h.is.set1 (by decide) _ rfl rfl rfl ?_ rfl, ?_, h.ne, by simpa using h.len⟩, fun i hi => ?_, ((Keep.refl _ w).setCell (fun hk => hk.1 rfl) _).setCell (fun hk => hk.2 rfl) _, by simp⟩
  · show wrap64 (m.ad + 1) = if 4 = 4 then _ else _
    rw [if_pos rfl, ← wrap64_one]
  · have h1 := owns_keepV h.own ((Keep.refl (fun k => k ≠ wp) w).setCell (p := ⟨wp, 4, none⟩) (by simp) (.int .i64 (wrap64 (wrap64 m.ad + 1)))) (fun k hk => h.ne k hk)
    have h2 := (World.ownsRow.stored h1 a (.int .u64 ((z + x) % 18446744073709551616))).1
    rw [← List.map_set] at h2
    have hl : (m.words.set a ((z + x) % 18446744073709551616)).length = m.words.length := by simp
    show WRow _ _ _ (m.words.set a ((z + x) % 18446744073709551616))
    unfold WRow
    rw [hl]
    exact h2
  · show (if i = 4 then _ else f i) = f i
    rw [if_neg (by omega)]
theorem rmAccess {w : World} {wp B : Nat} {f : Nat → Value} {wv : Value} {m : Mm} (k a x y : Int) (hk : 0 ≤ k ∧ k ≤ 3) (h : RmAt w wp B f wv m) : Calls Tryz.prog 136 #[.pointer (some ⟨wp, 0, none⟩), .int .i64 k, .int .i64 a, .int .u64 x, .int .u64 y] w (RmP w wp B f wv (m.acc k a x y) (m.tell k a x)) := by
  by_cases hin : m.in a
  · obtain ⟨n, rfl⟩ : ∃ n : Nat, a = n := ⟨a.toNat, by unfold Mm.in at hin; omega⟩
    have hn : n < m.words.length := by unfold Mm.in at hin; omega
    have hx : m.words[n]? = some m.words[n] := List.getElem?_eq_getElem hn
    rcases (by omega : k = 0 ∨ k = 1 ∨ k = 2 ∨ k = 3) with rfl | rfl | rfl | rfl
    · exact rmIn0 n x y _ h hx
    · exact rmIn1 n x y _ h hx
    · exact rmIn2 n x y _ h hx
    · exact rmIn3 n x y _ h hx
  · exact rmOut k a x y h hin
end Go.Proofs.YtlfingcmekifkaaGreat
