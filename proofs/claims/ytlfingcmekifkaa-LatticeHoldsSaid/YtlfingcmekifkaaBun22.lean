/- A lattice (package lattice): an operation starts (Lattice.Start). -/
/- A lattice (package lattice): the object is one that a loom plays (latTh_ok). -/
import Derived.Test.YtlfingcmekifkaaBun17
import Derived.Test.YtlfingcmekifkaaBun21
import Derived.Laws.BitsAllLaws
namespace Go.Proofs.Ytlfingcmekifkaa
open Go.RowKit

def laStartQ (pe ps : Nat) (w : World) (Fo : Nat → Prop) (r : Lat × LM) (e : Ending) (w' : World) : Prop :=
  ∃ Fo' Fm' u, e = .returned u ∧ LaOB pe ps w' Fo' r.1 ∧ latML pe ps w' Fm' u r.2 ∧ (∀ k, Fo' k → Fo k ∨ w.heap.size ≤ k) ∧ (∀ k, Fm' k → Fo k ∨ w.heap.size ≤ k) ∧ (∀ k, Fo' k → ¬ Fm' k) ∧ Keep (fun k => k < w.heap.size ∧ ¬ Fo k) w w'
/-- A new machine, and all else as it was. -/
theorem laStartQ_of {pe ps : Nat} {w w' : World} {Fo Fm' : Nat → Prop} {o : Lat} {m : LM} {u : Value} (hO : LaOB pe ps w Fo o) (hm : latML pe ps w' Fm' u m) (hF : ∀ k, Fm' k → w.heap.size ≤ k) (hb : Below w.heap.size w w') : laStartQ pe ps w Fo (o, m) (.returned u) w' := by
  have hk : Keep (fun k => k < w.heap.size) w w' := Keep.of_below hb (fun k hk => hk)
  refine ⟨Fo, Fm', u, rfl, hO.keep hk hO.lt, hm, fun k hk => Or.inl hk, fun k hk => Or.inr (hF k hk), fun k h1 h2 => ?_, hk.mono (fun k hk => hk.1)⟩
  have := hO.lt k h1
  have := hF k h2
  omega
theorem zero_giver (w : World) : (zeroValue 184).run Try.prog w = .ok (.agg #[.pointer none, .nilIface, .int .i64 0, .int .u64 0, .int .i64 0, .bool false]) w := by kernel_rfl
theorem OnceNo.ne {w : World} {b b1 : Nat} {e : Int} (h : OnceNo w b b1 e) : b ≠ b1 := by
  intro h'
  have hx := h.box
  rw [← h'] at hx
  rcases h.once with h | h <;> (rw [hx] at h; cases h)
section
variable {pe ps : Nat} {w : World} {Fo : Nat → Prop} {o : Lat} {t : Nat} {c : Cl}
set_option maxRecDepth 100000 in
set_option maxHeartbeats 1000000 in
theorem laStartN (hO : LaOB pe ps w Fo o) (ht : t < 16) (hk : c.kind ≠ 0 ∧ c.kind ≠ 1) (pw : Nat) :
    Calls Try.prog 93 #[.pointer (some ⟨pe, 0, none⟩), .pointer (some ⟨pw, 0, none⟩), .int .i64 t, clV c] w (laStartQ pe ps w Fo (o, .no 9)) := by
  obtain ⟨hF, hpp, ⟨f, hf, f0, f1⟩, g, hg, g0, g1, g2, g3⟩ := hO
  have hO : LaOB pe ps w Fo o := ⟨hF, hpp, ⟨f, hf, f0, f1⟩, g, hg, g0, g1, g2, g3⟩
  have c0 := hf.cell (i := 0) (by omega)
  rw [f0] at c0
  have ct := hf.cell (i := 1 + t) (by omega)
  rw [f1 t ht] at ct
  have zp := hf.lt
  have zs := hg.lt
  have d0 := hg.cell (i := 0) (by omega)
  rw [g0] at d0
  have d1 := hg.cell (i := 1) (by omega)
  rw [g1] at d1
  have d2 := hg.cell (i := 2) (by omega)
  rw [g2] at d2
  have dt := hg.cell (i := 3 + t) (by omega)
  rw [g3 t ht] at dt
  have hb1 : Below w.heap.size w (w.alloc (.cells #[.int .i64 c.thread, .int .i64 c.obj, .int .i64 c.kind, .int .u64 c.a, .int .u64 c.b, .int .u64 c.c] 43)) := (Below.refl _ w).alloc (Nat.le_refl _) _
  have HO := hide hO
  have HB1 := hide hb1
  clear hO hb1 hF f0 f1 hf hg g0 g1 g2 g3
  have e0 : (c.kind == 0) = false := by simpa using hk.1
  have e1 : (c.kind == 1) = false := by simpa using hk.2
  have N := refuseMake 9 (w.alloc (.cells #[.int .i64 c.thread, .int .i64 c.obj, .int .i64 c.kind, .int .u64 c.a, .int .u64 c.b, .int .u64 c.c] 43))
  unfold clV
  clear hk
  go_enter Try.func93, Try.ntmps93
  go_wp2_with fail
  refine N.mono ?_
  rintro e w1 ⟨b, b1, rfl, hno, z1, z2, hb2⟩
  have HNO := hide hno
  have HB2 := hide hb2
  clear hno hb2 N
  unfold onceV
  go_wp2
  go_ret
  have hs := HB1.out.size
  refine laStartQ_of HO.out (noAt_made HNO.out) (fun k hk => ?_) (HB1.out.trans (HB2.out.mono hs))
  rcases hk with rfl | rfl <;> omega
set_option maxRecDepth 100000 in
set_option maxHeartbeats 1000000 in
theorem laStartT (hO : LaOB pe ps w Fo o) (ht : t < 16) (hk : c.kind = 1) (pw : Nat) :
    Calls Try.prog 93 #[.pointer (some ⟨pe, 0, none⟩), .pointer (some ⟨pw, 0, none⟩), .int .i64 t, clV c] w (laStartQ pe ps w Fo (o, .tell Sc.new 0)) := by
  obtain ⟨hF, hpp, ⟨f, hf, f0, f1⟩, g, hg, g0, g1, g2, g3⟩ := hO
  have hO : LaOB pe ps w Fo o := ⟨hF, hpp, ⟨f, hf, f0, f1⟩, g, hg, g0, g1, g2, g3⟩
  have c0 := hf.cell (i := 0) (by omega)
  rw [f0] at c0
  have ct := hf.cell (i := 1 + t) (by omega)
  rw [f1 t ht] at ct
  have zp := hf.lt
  have zs := hg.lt
  have d0 := hg.cell (i := 0) (by omega)
  rw [g0] at d0
  have d1 := hg.cell (i := 1) (by omega)
  rw [g1] at d1
  have d2 := hg.cell (i := 2) (by omega)
  rw [g2] at d2
  have dt := hg.cell (i := 3 + t) (by omega)
  rw [g3 t ht] at dt
  have hb1 : Below w.heap.size w (w.alloc (.cells #[.int .i64 c.thread, .int .i64 c.obj, .int .i64 c.kind, .int .u64 c.a, .int .u64 c.b, .int .u64 c.c] 43)) := (Below.refl _ w).alloc (Nat.le_refl _) _
  have HO := hide hO
  have HB1 := hide hb1
  clear hO hb1 hF f0 f1 hf hg g0 g1 g2 g3
  have e0 : (c.kind == 0) = false := by simp [hk]
  have e1 : (c.kind == 1) = true := by simp [hk]
  have N := laScan (pw := pw) (t := t) (w := w.alloc (.cells #[.int .i64 c.thread, .int .i64 c.obj, .int .i64 c.kind, .int .u64 c.a, .int .u64 c.b, .int .u64 c.c] 43)) (Lib.cell?_alloc_some _ c0)
  unfold clV
  clear hk
  go_enter Try.func93, Try.ntmps93
  go_wp2_with fail
  refine N.mono ?_
  rintro e w1 ⟨rfl, hT, hb2⟩
  have hz : (w.alloc (.cells #[.int .i64 c.thread, .int .i64 c.obj, .int .i64 c.kind, .int .u64 c.a, .int .u64 c.b, .int .u64 c.c] 43)).heap.size = w.heap.size + 1 := by simp
  rw [hz] at hT
  have HT := hide hT
  have HB2 := hide hb2
  clear hT hb2 N
  go_wp2
  go_ret
  have hs := HB1.out.size
  refine laStartQ_of HO.out (m := .tell Sc.new 0) ⟨_, _, _, _, rfl, HT.out, fun k => Iff.rfl⟩ (fun k hk => ?_) (HB1.out.trans (HB2.out.mono hs))
  rcases hk with h | h | h | h
  · omega
  · omega
  · omega
  · cases h
set_option maxRecDepth 100000 in
set_option maxHeartbeats 2000000 in
theorem laStartF (hO : LaOB pe ps w Fo o) (ht : t < 16) (hk : c.kind = 0) (hu : ClU c) (hown : 0 ≤ o.own t ∧ o.own t < 18446744073709551616) (hpu : o.p ≤ o.used t) (pw : Nat) :
    Calls Try.prog 93 #[.pointer (some ⟨pe, 0, none⟩), .pointer (some ⟨pw, 0, none⟩), .int .i64 t, clV c] w (laStartQ pe ps w Fo (o, .full)) := by
  obtain ⟨hF, hpp, ⟨f, hf, f0, f1⟩, g, hg, g0, g1, g2, g3⟩ := hO
  have hO : LaOB pe ps w Fo o := ⟨hF, hpp, ⟨f, hf, f0, f1⟩, g, hg, g0, g1, g2, g3⟩
  have c0 := hf.cell (i := 0) (by omega)
  rw [f0] at c0
  have ct := hf.cell (i := 1 + t) (by omega)
  rw [f1 t ht] at ct
  have zp := hf.lt
  have zs := hg.lt
  have d0 := hg.cell (i := 0) (by omega)
  rw [g0] at d0
  have d1 := hg.cell (i := 1) (by omega)
  rw [g1] at d1
  have d2 := hg.cell (i := 2) (by omega)
  rw [g2] at d2
  have dt := hg.cell (i := 3 + t) (by omega)
  rw [g3 t ht] at dt
  have hb1 : Below w.heap.size w (w.alloc (.cells #[.int .i64 c.thread, .int .i64 c.obj, .int .i64 c.kind, .int .u64 c.a, .int .u64 c.b, .int .u64 c.c] 43)) := (Below.refl _ w).alloc (Nat.le_refl _) _
  have HO := hide hO
  have HB1 := hide hb1
  clear hO hb1 hF f0 f1 hf hg g0 g1 g2 g3
  have e0 : (c.kind == 0) = true := by simp [hk]
  have hor : bits .or .u64 (o.own t) c.a = orI (o.own t) c.a := u64_or _ _ hown.1 hown.2 hu.1.1 hu.1.2
  obtain ⟨V, hV⟩ : ∃ V, V = orI (o.own t) c.a := ⟨_, rfl⟩
  rw [← hV] at hor
  have ht' : (t : Int) < 16 := by omega
  have N := snStartF (ps := ps) (pw := pw) (w := (w.alloc (.cells #[.int .i64 c.thread, .int .i64 c.obj, .int .i64 c.kind, .int .u64 c.a, .int .u64 c.b, .int .u64 c.c] 43)).drew) (t := t) (u := o.used t) (p := o.p) (c := ⟨0, 0, 0, V, 0, 0⟩) rfl ht (by go_simp) (by go_simp) hpu (by simp; omega)
  unfold clV at N
  dsimp only at N
  have hzt := zero_giver
  unfold clV
  clear hk hV hu hown
  go_enter Try.func93, Try.ntmps93
  go_upto_region 3 with fail
  refine wp_region_seq (fun Y => Y.cell? ⟨pe, 1 + t, none⟩ = some (.int .u64 (o.own t)) ∧ Y.cell? ⟨w.heap.size, 3, none⟩ = some (.int .u64 c.a)) (.take 0 <| .take 1 <| .take 2 <| .take 3 <| .take 4 <| .take 5 <| .take 6 <| .take 7 <| .take 8 <| .take 9 <| .done) (by kernel_rfl) (by kernel_rfl) (by kernel_rfl) (by refine ⟨?_, ?_⟩ <;> go_simp) ?_
  iterate 10 (refine seq_take (v := ?_) rfl (by rfl) ?_ ?_; rotate_left; (focus (intro wS hS; obtain ⟨s0, s1⟩ := hS; go_simp; exact rfl)); simp only [Act.put, List.setIfInBounds_toArray, List.set_cons_zero, List.set_cons_succ])
  refine seq_nil ?_
  go_wp2_with fail
  refine N.mono ?_
  rintro e w1 ⟨b, b1, rfl, hno, z1, z2, hb2⟩
  have HNO := hide hno
  have HB2 := hide hb2
  clear hno hb2 N
  unfold onceV
  go_wp2
  go_ret
  have hs := HB1.out.size
  have hs1 : (w.alloc (.cells #[.int .i64 c.thread, .int .i64 c.obj, .int .i64 c.kind, .int .u64 c.a, .int .u64 c.b, .int .u64 c.c] 43)).drew.heap.size = w.heap.size + 1 := by simp
  rw [hs1] at z1 z2 HB2
  have hl := HNO.out.lt
  have hz2 := HB2.out.size
  have hal : Below w.heap.size w1 (w1.alloc (.cells (gvA pe (onceV b) t V 0 false) 184)) := (Below.refl _ w1).alloc (by omega) _
  have hka := (Keep.refl (fun k => k < w1.heap.size) w1).alloc (fun k hk => hk) (.cells (gvA pe (onceV b) t V 0 false) 184)
  refine laStartQ_of HO.out (m := .full) (Fm' := fun k => k = w1.heap.size ∨ k = b ∨ k = b1) ⟨w1.heap.size, b, b1, t, V, 0, rfl, ⟨heap_alloc_new _ _, HNO.out.keep hka hl.1 hl.2, by omega, by omega, HNO.out.ne⟩, fun k => Iff.rfl⟩ (fun k hk => ?_) (((HB1.out.drew).trans (HB2.out.mono (by omega))).trans hal)
  rcases hk with h | h | h <;> omega
set_option maxRecDepth 100000 in
set_option maxHeartbeats 2000000 in
theorem laStartG {n p : Nat} (hO : LaOB pe ps w Fo o) (hon : o.n = n ∧ o.p = p) (ht : t < 16) (hk : c.kind = 0) (hu : ClU c) (hown : 0 ≤ o.own t ∧ o.own t < 18446744073709551616) (hpu : o.used t < p) (hp64 : p ≤ 64) (hn16 : n ≤ 16) (pw : Nat) :
    Calls Try.prog 93 #[.pointer (some ⟨pe, 0, none⟩), .pointer (some ⟨pw, 0, none⟩), .int .i64 t, clV c] w (laStartQ pe ps w Fo (o, .upd t (orI (o.own t) c.a) (recA n p t (o.used t)) Sc.new false 0)) := by
  obtain ⟨hF, hpp, ⟨f, hf, f0, f1⟩, g, hg, g0, g1, g2, g3⟩ := hO
  have hO : LaOB pe ps w Fo o := ⟨hF, hpp, ⟨f, hf, f0, f1⟩, g, hg, g0, g1, g2, g3⟩
  have c0 := hf.cell (i := 0) (by omega)
  rw [f0] at c0
  have ct := hf.cell (i := 1 + t) (by omega)
  rw [f1 t ht] at ct
  have zp := hf.lt
  have zs := hg.lt
  have d0 := hg.cell (i := 0) (by omega)
  rw [g0] at d0
  have d1 := hg.cell (i := 1) (by omega)
  rw [g1] at d1
  have d2 := hg.cell (i := 2) (by omega)
  rw [g2] at d2
  have dt := hg.cell (i := 3 + t) (by omega)
  rw [g3 t ht] at dt
  have hb1 : Below w.heap.size w (w.alloc (.cells #[.int .i64 c.thread, .int .i64 c.obj, .int .i64 c.kind, .int .u64 c.a, .int .u64 c.b, .int .u64 c.c] 43)) := (Below.refl _ w).alloc (Nat.le_refl _) _
  have HO := hide hO
  have HB1 := hide hb1
  clear hO hb1 hF f0 f1 hf hg g0 g1 g2 g3
  rw [hon.1] at d1
  rw [hon.2] at d2
  have e0 : (c.kind == 0) = true := by simp [hk]
  have hor : bits .or .u64 (o.own t) c.a = orI (o.own t) c.a := u64_or _ _ hown.1 hown.2 hu.1.1 hu.1.2
  obtain ⟨V, hV⟩ : ∃ V, V = orI (o.own t) c.a := ⟨_, rfl⟩
  rw [← hV] at hor ⊢
  have ht' : (t : Int) < 16 := by omega
  have N := snStartW (ps := ps) (pw := pw) (w := (w.alloc (.cells #[.int .i64 c.thread, .int .i64 c.obj, .int .i64 c.kind, .int .u64 c.a, .int .u64 c.b, .int .u64 c.c] 43)).drew) (t := t) (u := o.used t) (p := p) (n := n) (c := ⟨0, 0, 0, V, 0, 0⟩) rfl ht (by go_simp) (by go_simp) (by go_simp) (by go_simp) hpu hp64 hn16 (by simp; omega)
  unfold clV at N
  dsimp only at N
  have hzt := zero_giver
  unfold clV
  clear hk hV hu hown hon
  go_enter Try.func93, Try.ntmps93
  go_upto_region 3 with fail
  refine wp_region_seq (fun Y => Y.cell? ⟨pe, 1 + t, none⟩ = some (.int .u64 (o.own t)) ∧ Y.cell? ⟨w.heap.size, 3, none⟩ = some (.int .u64 c.a)) (.take 0 <| .take 1 <| .take 2 <| .take 3 <| .take 4 <| .take 5 <| .take 6 <| .take 7 <| .take 8 <| .take 9 <| .done) (by kernel_rfl) (by kernel_rfl) (by kernel_rfl) (by refine ⟨?_, ?_⟩ <;> go_simp) ?_
  iterate 10 (refine seq_take (v := ?_) rfl (by rfl) ?_ ?_; rotate_left; (focus (intro wS hS; obtain ⟨s0, s1⟩ := hS; go_simp; exact rfl)); simp only [Act.put, List.setIfInBounds_toArray, List.set_cons_zero, List.set_cons_succ])
  refine seq_nil ?_
  go_wp2_with fail
  refine N.mono ?_
  rintro e w1 ⟨rfl, rfl⟩
  clear N
  go_wp2
  go_ret
  have hz2 : ((w.alloc (.cells #[.int .i64 c.thread, .int .i64 c.obj, .int .i64 c.kind, .int .u64 c.a, .int .u64 c.b, .int .u64 c.c] 43)).alloc (.cells #[.int .i64 0, .int .i64 0, .int .i64 0, .int .u64 V, .int .u64 0, .int .u64 0] 43)).heap.size = w.heap.size + 1 + 1 := by simp
  obtain ⟨m0, m1, m2⟩ := allocs3 ((w.alloc (.cells #[.int .i64 c.thread, .int .i64 c.obj, .int .i64 c.kind, .int .u64 c.a, .int .u64 c.b, .int .u64 c.c] 43)).alloc (.cells #[.int .i64 0, .int .i64 0, .int .i64 0, .int .u64 V, .int .u64 0, .int .u64 0] 43)) (.cells (scA56 ps) 199) (.cells #[.pointer (some ⟨w.heap.size + 1 + 1, 0, none⟩), .int .i64 t, .int .i64 ((n : Int) + ((t : Int) * (p : Int) + (o.used t : Int)) * ((n : Int) + 1)), .int .i64 0, .int .u64 V, .bool false] 194) (.cells #[.pointer (some ⟨pe, 0, none⟩), .iface 192 (.pointer (some ⟨w.heap.size + 1 + 2, 0, none⟩)), .int .i64 t, .int .u64 V, .int .i64 0, .bool false] 184)
  rw [hz2] at m0 m1 m2
  have hrec : (n : Int) + ((t : Int) * (p : Int) + (o.used t : Int)) * ((n : Int) + 1) = (recA n p t (o.used t) : Nat) := by
    unfold recA
    push_cast
    rfl
  rw [hrec] at m0 m1 m2 ⊢
  refine laStartQ_of HO.out (m := .upd t V (recA n p t (o.used t)) Sc.new false 0) (Fm' := fun k => k = w.heap.size + 1 + 1 + 1 + 1 ∨ k = w.heap.size + 1 + 2 ∨ k = w.heap.size + 1 + 1 ∨ (Value.slice none 0 0).ownBlock = some k) ⟨w.heap.size + 1 + 1 + 1 + 1, w.heap.size + 1 + 2, w.heap.size + 1 + 1, .slice none 0 0, rfl, ⟨m2, m1, scAt_new m0, by omega, by omega, by omega, by simp [Value.ownBlock], by simp [Value.ownBlock]⟩, fun k => Iff.rfl⟩ (fun k hk => ?_) ?_
  · rcases hk with h | h | h | h
    · omega
    · omega
    · omega
    · cases h
  · (repeat' (first | with_reducible assumption | with_reducible exact Below.refl _ _ | with_reducible refine Below.drew ?_ | with_reducible refine below_drewN ?_ _ | with_reducible refine Below.alloc ?_ ?_ _ | with_reducible refine Below.setCell ?_ ?_ _ | omega | (simp; done) | (simp; omega)))
end
end Go.Proofs.Ytlfingcmekifkaa

namespace Go.Proofs.Ytlfingcmekifkaa
open Go.RowKit

def latTh (pe ps n p : Nat) : Th LM Lat := ⟨latG, [.iface 64 (.pointer (some ⟨pe, 0, none⟩))], LaOB pe ps, latML pe ps, latAL pe ps, latGood n p, latGoodT n p, n⟩
theorem latTh_ok (pe ps n p : Nat) : (latTh pe ps n p).Ok := by
  refine ⟨fun h hk hS => LaOB.keep h hk hS, fun h => LaOB.lt h, fun h hk hS => latML_keep h hk hS, fun h hk hS => latAL_keep h hk hS, fun h => latML_lt h, ?_, ?_, ?_, ?_, ?_, latG_still, ?_, ?_, ?_, ?_, ?_⟩
  · intro w F v m h
    cases m with
    | no e => exact NoAt.iface h
    | full => obtain ⟨bg, b, b1, t, vv, x, rfl, _⟩ := h; exact ⟨_, _, rfl⟩
    | tell s all => obtain ⟨bt, br, bs, lv, rfl, _⟩ := h; exact ⟨_, _, rfl⟩
    | upd t vv r s sc next => obtain ⟨bg, bu, bs, lv, rfl, _⟩ := h; exact ⟨_, _, rfl⟩
    | gtl t vv s all => obtain ⟨bg, bt, br, bs, lv, rfl, _⟩ := h; exact ⟨_, _, rfl⟩
  · intro v hv
    have := List.mem_singleton.1 hv
    exact ⟨_, _, this⟩
  · intro w Fo o lw hs t j c v hO hg hn ht hc hu hj hv
    have hj0 : j = 0 := by
      rcases j with _ | j
      · rfl
      · simp [latTh] at hv
    subst hj0
    have hv : v = .iface 64 (.pointer (some ⟨pe, 0, none⟩)) := by
      simp [latTh] at hv
      exact hv.symm
    subst hv
    obtain ⟨N, _, hw, hG⟩ := hg
    have hO : LaOB pe ps w Fo o := hO
    have hown := hG.own t
    obtain ⟨o1, o2⟩ := hG.on
    obtain ⟨⟨_, q2⟩, _, q4⟩ := hG.np
    have hz : ¬ c.obj ≠ 0 := by simpa using hj
    refine ⟨_, _, laDispStart pe, fun pw => ?_⟩
    show Calls Try.prog _ _ w (laStartQ pe ps w Fo (latStart o t c))
    unfold latStart
    rw [if_neg hz]
    by_cases h0 : c.kind = 0
    · rw [if_pos h0]
      by_cases h1 : o.p ≤ o.used t
      · rw [if_pos h1]
        exact laStartF hO ht h0 hu hown h1 pw
      · rw [if_neg h1, o1, o2]
        exact laStartG hO ⟨o1, o2⟩ ht h0 hu hown (by omega) q4 q2 pw
    · rw [if_neg h0]
      by_cases h1 : c.kind = 1
      · rw [if_pos h1]
        exact laStartT hO ht h1 pw
      · rw [if_neg h1]
        exact laStartN hO ht ⟨h0, h1⟩ pw
  · intro o t c h
    have hne : c.obj ≠ 0 := fun e => h (by rw [e]; simp [latTh])
    have hst : latStart o t c = (o, .no 12) := by unfold latStart; rw [if_pos hne]
    refine ⟨?_, fun w b b1 hno => ?_⟩
    · show (latStart o t c).1 = o
      rw [hst]
    · show latML pe ps w _ _ (latStart o t c).2
      rw [hst]
      exact noAt_made hno
  · intro w Fo Fm v m o lw hs ad Mu t hO hM hW hh hg hn0 hn1 ht c1 c2 c3 c4 c5
    obtain ⟨N, _, hw, hG⟩ := hg
    have hO : LaOB pe ps w Fo o := hO
    have hM : latML pe ps w Fm v m := hM
    have hFl := latML_lt hM
    show ∃ f r, Disp Try.prog v "Step" f r ∧ Calls Try.prog f #[r, .pointer (some ⟨ad.pw, 0, none⟩)] w (latStepQ pe ps w Fo Fm ad Mu v (latStep o lw m))
    have hzm := hW.lt
    have n4 : ¬ Fm ad.pm ∧ ¬ Fm ad.px := ⟨fun h => c2 _ h (Or.inr (Or.inl rfl)), fun h => c2 _ h (Or.inr (Or.inr (Or.inl rfl)))⟩
    cases m with
    | no e =>
      obtain ⟨f, r, hd, hc⟩ := NoAt.step hM ad.pw
      refine ⟨f, r, hd, hc.mono ?_⟩
      rintro x w' ⟨rfl, a1, a2, a3⟩
      exact lat_after (mm := lw.mem) (m' := .no e) hO hW hFl c1 c2 c3 rfl a1 (fun _ => a2) (hW.mem.of_blocks (a3.block _ ⟨hzm.2.1, n4.1⟩) (a3.block _ ⟨hzm.2.2.1, n4.2⟩)) (fun k hk => Or.inl hk) (a3.mono (fun k hk => ⟨hk.1, hk.2.1⟩))
    | full =>
      obtain ⟨bg, b, b1, t', vv, x, rfl, hF, hFm⟩ := hM
      refine ⟨_, _, gvDispStep bg, (gvStepN hF).mono ?_⟩
      rintro x' w' ⟨rfl, a1, a3⟩
      have a3' : Keep (fun k => k < w.heap.size ∧ ¬ Fm k) w w' := a3.mono (fun k hk => ⟨hk.1, fun e => hk.2 ((hFm k).2 (Or.inl e)), fun e => hk.2 ((hFm k).2 (Or.inr (Or.inl e)))⟩)
      exact lat_after (mm := lw.mem) (m' := .full) hO hW hFl c1 c2 c3 rfl ⟨bg, b, b1, t', vv, 6, rfl, a1, hFm⟩ (fun _ => ⟨bg, b, b1, t', vv, rfl, a1, hFm⟩) (hW.mem.of_blocks (a3'.block _ ⟨hzm.2.1, n4.1⟩) (a3'.block _ ⟨hzm.2.2.1, n4.2⟩)) (fun k hk => Or.inl hk) (a3'.mono (fun k hk => ⟨hk.1, hk.2.1⟩))
    | tell s all => exact latStepTl hG hw hO hM hW hh hn1 c1 c2 c3
    | upd t' vv r s sc next => exact latStepUp hG hw hO hM hW hh ht c1 c2 c3 c5
    | gtl t' vv s all => exact latStepGt hG hw hO hM hW hh hn1 c1 c2 c3
  · intro w Fm v m o h
    have h : latAL pe ps w Fm v m := h
    cases m with
    | no e => exact NoAl.ans h _
    | full =>
      obtain ⟨bg, b, b1, t, vv, rfl, hF, _⟩ := h
      refine ⟨_, _, gvDispAnswer bg, (gvAnswerN hF.hg).mono ?_⟩
      rintro x w' ⟨rfl, hb⟩
      exact ⟨_, _, rfl, LstIs.nil _ _, KeyIs.nil _ _, hb⟩
    | tell s all =>
      obtain ⟨bt, br, bs, lv, rfl, hT, _⟩ := h
      refine ⟨_, _, tlDispAnswer bt, (tlAnswerW hT.hb).mono ?_⟩
      rintro x w' ⟨rfl, hb⟩
      exact ⟨_, _, rfl, LstIs.nil _ _, KeyIs.nil _ _, hb⟩
    | upd t vv r s sc next => exact h.elim
    | gtl t vv s all =>
      obtain ⟨bg, bt, br, bs, lv, rfl, hT, _⟩ := h
      refine ⟨_, _, gvDispAnswer bg, (gvAnswerW hT.hg hT.tl.hb).mono ?_⟩
      rintro x w' ⟨rfl, hb⟩
      exact ⟨_, _, rfl, LstIs.nil _ _, KeyIs.nil _ _, hb⟩
  · intro w Fm v m h
    have h : latML pe ps w Fm v m := h
    refine ⟨?_, fun _ _ => rfl⟩
    cases m with
    | no e => exact NoAt.late h
    | full => obtain ⟨bg, b, b1, t, vv, x, rfl, _⟩ := h; exact gvLate bg
    | tell s all => obtain ⟨bt, br, bs, lv, rfl, _⟩ := h; exact tlLate bt
    | upd t vv r s sc next => obtain ⟨bg, bu, bs, lv, rfl, _⟩ := h; exact gvLate bg
    | gtl t vv s all => obtain ⟨bg, bt, br, bs, lv, rfl, _⟩ := h; exact gvLate bg
  · intro o lw hs t c hg hn ht htn hc hu
    exact latGood_start hg hn htn hc hu
  · intro o lw hs hg
    exact latGood_tick hg
  · intro o lw hs t m hg hm ht
    exact latGood_step hg hm
end Go.Proofs.Ytlfingcmekifkaa
