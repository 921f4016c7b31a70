import Derived.Test.YtmiimpmfkjcjlaaGreatBun38
import Derived.Test.YtmiimpmfkjcjlaaGreatBun29
namespace Go.Proofs.YtmiimpmfkjcjlaaGreat
open Go.ChangeShapes Go.WideShapes Go.ChangeAt Go.RowKit Go.Deep
theorem c_call : Tryz.prog.cellsOf 27 = 6 := by kernel_rfl
theorem c_event : Tryz.prog.cellsOf 62 = 8 := by kernel_rfl
theorem c_answer : Tryz.prog.cellsOf 57 = 3 := by kernel_rfl
theorem c_errno : Tryz.prog.cellsOf 30 = 1 := by kernel_rfl
theorem c_words : Tryz.prog.cellsOf 24 = 1 := by kernel_rfl
theorem c_ints : Tryz.prog.cellsOf 42 = 1 := by kernel_rfl
section
variable {H : Type} {enc : TypeId × Value → H} {W : World}
theorem trod_sl {t e : TypeId} {n : Nat} {c : Value} {x : DataW H × List MemPlace} (ht : Tryz.prog.underlying t = some (.slice e)) (h : DataW.trod enc Tryz.prog W 0 (fun _ => true) true n t [c] = some x) :
    ∃ a len cap, c = .slice a len cap := by
  rcases open_slice ht h with ⟨hcs, _⟩ | ⟨a, len, cap, m, _, _, _, hcs, _⟩
  · cases hcs; exact ⟨_, _, _, rfl⟩
  · cases hcs; exact ⟨_, _, _, rfl⟩
structure EvDeep (W : World) (e : Ev) : Prop where
  wf : EvWf e
  err : (Lit.int .i64 e.err).wf = true
  val : (Lit.int .u64 e.val).wf = true
  list : ∃ l, SlW W (.slice e.lA e.lN e.lC) l ∧ (∀ x ∈ l, (Lit.int .u64 x).wf = true)
  key : ∃ l, SlI W (.slice e.kA e.kN e.kC) l ∧ (∀ x ∈ l, (Lit.int .i64 x).wf = true)
theorem EvDeep.below {W W' : World} {e : Ev} (h : EvDeep W e) (hb : Below W.heap.size W W') : EvDeep W' e := by
  obtain ⟨h1, h2, h3, ⟨l, h4, h5⟩, ⟨k, h6, h7⟩⟩ := h
  exact ⟨h1, h2, h3, ⟨l, h4.below hb (Nat.le_refl _), h5⟩, ⟨k, h6.below hb (Nat.le_refl _), h7⟩⟩
def ClWf (c : Cl) : Prop := (Lit.int .i64 c.thread).wf = true ∧ (Lit.int .i64 c.obj).wf = true ∧ (Lit.int .i64 c.kind).wf = true ∧ (Lit.int .u64 c.a).wf = true ∧ (Lit.int .u64 c.b).wf = true ∧ (Lit.int .u64 c.c).wf = true
theorem read_call (n : Nat) (cs : List Value) (x : DataW H × List MemPlace) (hl : cs.length = 6) (h : DataW.trod enc Tryz.prog W 0 (fun _ => true) true n 27 cs = some x) : ∃ c : Cl, cs = clEnc c ∧ ClWf c := by
  match cs, hl with
  | [v0, v1, v2, v3, v4, v5], _ =>
    obtain ⟨xs, m, _, _, _, hxl, hf⟩ := DataW.trod_struct Tryz.underlying27 h
    match xs, hxl with
    | [x0, x1, x2, x3, x4, x5], _ =>
      have g0 : DataW.trod enc Tryz.prog W 0 (fun _ => true) true m 3 (List.take (Tryz.prog.cellsOf 3) (List.drop 0 [v0, v1, v2, v3, v4, v5])) = some x0 := hf 0 _ rfl
      have g1 : DataW.trod enc Tryz.prog W 0 (fun _ => true) true m 3 (List.take (Tryz.prog.cellsOf 3) (List.drop 1 [v0, v1, v2, v3, v4, v5])) = some x1 := hf 1 _ rfl
      have g2 : DataW.trod enc Tryz.prog W 0 (fun _ => true) true m 3 (List.take (Tryz.prog.cellsOf 3) (List.drop 2 [v0, v1, v2, v3, v4, v5])) = some x2 := hf 2 _ rfl
      have g3 : DataW.trod enc Tryz.prog W 0 (fun _ => true) true m 25 (List.take (Tryz.prog.cellsOf 25) (List.drop 3 [v0, v1, v2, v3, v4, v5])) = some x3 := hf 3 _ rfl
      have g4 : DataW.trod enc Tryz.prog W 0 (fun _ => true) true m 25 (List.take (Tryz.prog.cellsOf 25) (List.drop 4 [v0, v1, v2, v3, v4, v5])) = some x4 := hf 4 _ rfl
      have g5 : DataW.trod enc Tryz.prog W 0 (fun _ => true) true m 25 (List.take (Tryz.prog.cellsOf 25) (List.drop 5 [v0, v1, v2, v3, v4, v5])) = some x5 := hf 5 _ rfl
      simp only [c_int, c_u64] at g0 g1 g2 g3 g4 g5
      obtain ⟨a0, e0, _, w0⟩ := DataW.trod_int Tryz.underlying3 g0
      obtain ⟨a1, e1, _, w1⟩ := DataW.trod_int Tryz.underlying3 g1
      obtain ⟨a2, e2, _, w2⟩ := DataW.trod_int Tryz.underlying3 g2
      obtain ⟨a3, e3, _, w3⟩ := DataW.trod_int Tryz.underlying25 g3
      obtain ⟨a4, e4, _, w4⟩ := DataW.trod_int Tryz.underlying25 g4
      obtain ⟨a5, e5, _, w5⟩ := DataW.trod_int Tryz.underlying25 g5
      cases e0; cases e1; cases e2; cases e3; cases e4; cases e5
      exact ⟨⟨a0, a1, a2, a3, a4, a5⟩, rfl, w0, w1, w2, w3, w4, w5⟩
theorem read_event (n : Nat) (cs : List Value) (x : DataW H × List MemPlace) (hl : cs.length = 8) (h : DataW.trod enc Tryz.prog W 0 (fun _ => true) true n 62 cs = some x) : ∃ e : Ev, cs = evEnc e ∧ EvDeep W e := by
  match cs, hl with
  | [v0, v1, v2, v3, v4, v5, v6, v7], _ =>
    obtain ⟨xs, m, _, _, _, hxl, hf⟩ := DataW.trod_struct Tryz.underlying62 h
    match xs, hxl with
    | [x0, x1, x2, x3, x4, x5], _ =>
      have g0 : DataW.trod enc Tryz.prog W 0 (fun _ => true) true m 3 (List.take (Tryz.prog.cellsOf 3) (List.drop 0 [v0, v1, v2, v3, v4, v5, v6, v7])) = some x0 := hf 0 _ rfl
      have g1 : DataW.trod enc Tryz.prog W 0 (fun _ => true) true m 3 (List.take (Tryz.prog.cellsOf 3) (List.drop 1 [v0, v1, v2, v3, v4, v5, v6, v7])) = some x1 := hf 1 _ rfl
      have g2 : DataW.trod enc Tryz.prog W 0 (fun _ => true) true m 3 (List.take (Tryz.prog.cellsOf 3) (List.drop 2 [v0, v1, v2, v3, v4, v5, v6, v7])) = some x2 := hf 2 _ rfl
      have g3 : DataW.trod enc Tryz.prog W 0 (fun _ => true) true m 3 (List.take (Tryz.prog.cellsOf 3) (List.drop 3 [v0, v1, v2, v3, v4, v5, v6, v7])) = some x3 := hf 3 _ rfl
      have g4 : DataW.trod enc Tryz.prog W 0 (fun _ => true) true m 57 (List.take (Tryz.prog.cellsOf 57) (List.drop 4 [v0, v1, v2, v3, v4, v5, v6, v7])) = some x4 := hf 4 _ rfl
      have g5 : DataW.trod enc Tryz.prog W 0 (fun _ => true) true m 42 (List.take (Tryz.prog.cellsOf 42) (List.drop 7 [v0, v1, v2, v3, v4, v5, v6, v7])) = some x5 := hf 5 _ rfl
      simp only [c_int, c_answer, c_ints] at g0 g1 g2 g3 g4 g5
      obtain ⟨ys, m', _, _, _, hyl, hy⟩ := DataW.trod_struct Tryz.underlying57 g4
      match ys, hyl with
      | [y0, y1, y2], _ =>
        have k0 : DataW.trod enc Tryz.prog W 0 (fun _ => true) true m' 30 (List.take (Tryz.prog.cellsOf 30) (List.drop 0 [v4, v5, v6])) = some y0 := hy 0 _ rfl
        have k1 : DataW.trod enc Tryz.prog W 0 (fun _ => true) true m' 25 (List.take (Tryz.prog.cellsOf 25) (List.drop 1 [v4, v5, v6])) = some y1 := hy 1 _ rfl
        have k2 : DataW.trod enc Tryz.prog W 0 (fun _ => true) true m' 24 (List.take (Tryz.prog.cellsOf 24) (List.drop 2 [v4, v5, v6])) = some y2 := hy 2 _ rfl
        simp only [c_errno, c_u64, c_words] at k0 k1 k2
        obtain ⟨a0, e0, _, w0⟩ := DataW.trod_int Tryz.underlying3 g0
        obtain ⟨a1, e1, _, w1⟩ := DataW.trod_int Tryz.underlying3 g1
        obtain ⟨a2, e2, _, w2⟩ := DataW.trod_int Tryz.underlying3 g2
        obtain ⟨a3, e3, _, w3⟩ := DataW.trod_int Tryz.underlying3 g3
        obtain ⟨a4, e4, _, w4⟩ := DataW.trod_int Tryz.underlying30 k0
        obtain ⟨a5, e5, _, w5⟩ := DataW.trod_int Tryz.underlying25 k1
        obtain ⟨l1, l2, l3, rfl⟩ := trod_sl (c := v6) Tryz.underlying24 k2
        obtain ⟨m1, m2, m3, rfl⟩ := trod_sl (c := v7) Tryz.underlying42 g5
        cases e0; cases e1; cases e2; cases e3; cases e4; cases e5
        obtain ⟨ll, hl1, hl2, _⟩ := read_slv (v := .slice l1 l2 l3) (ntEnc .u64) 1 (fun x => (Lit.int .u64 x).wf = true) Tryz.underlying24 c_u64 (fun n cs x _ hx => by obtain ⟨a, e, _, w⟩ := DataW.trod_int Tryz.underlying25 hx; exact ⟨a, e, w⟩) ⟨_, _, _, rfl⟩ ⟨m', k2⟩ (by decide)
        obtain ⟨kk, hk1, hk2, _⟩ := read_slv (v := .slice m1 m2 m3) (ntEnc .i64) 1 (fun x => (Lit.int .i64 x).wf = true) Tryz.underlying42 c_int (fun n cs x _ hx => by obtain ⟨a, e, _, w⟩ := DataW.trod_int Tryz.underlying3 hx; exact ⟨a, e, w⟩) ⟨_, _, _, rfl⟩ ⟨m, g5⟩ (by decide)
        exact ⟨⟨a0, a1, a2, a3, a4, a5, l1, l2, l3, m1, m2, m3⟩, rfl, ⟨w0, w1, w2, w3⟩, w4, w5, ⟨ll, hl1, hl2⟩, ⟨kk, hk1, hk2⟩⟩
end
theorem c_specs : Tryz.prog.cellsOf 40 = 1 := by kernel_rfl
theorem c_calls : Tryz.prog.cellsOf 41 = 1 := by kernel_rfl
theorem c_scene : Tryz.prog.cellsOf 44 = 4 := by kernel_rfl
section
variable {H : Type} {enc : TypeId × Value → H} {W : World} {r : Reach} {b0 : Nat} {v : Value} {d : DataW H} {p : List MemPlace}
structure ScAt (W : World) (n : Int) (S C P : Value) (sp : List Sp) (cs : List Cl) (ps : List Int) : Prop where
  n : (Lit.int .i64 n).wf = true
  specs : SlSp W S sp ∧ (∀ x ∈ sp, SpWf x)
  calls : SlCl W C cs ∧ (∀ x ∈ cs, ClWf x)
  picks : SlI W P ps ∧ (∀ x ∈ ps, (Lit.int .i64 x).wf = true)
theorem read_scene_cells (n : Nat) (cs : List Value) (x : DataW H × List MemPlace) (hl : cs.length = 4) (h : DataW.trod enc Tryz.prog W 0 (fun _ => true) true n 44 cs = some x) :
    ∃ a S C P sp cl ps, cs = [.int .i64 a, S, C, P] ∧ ScAt W a S C P sp cl ps := by
  match cs, hl with
  | [v0, v1, v2, v3], _ =>
    obtain ⟨xs, m, _, _, _, hxl, hf⟩ := DataW.trod_struct Tryz.underlying44 h
    match xs, hxl with
    | [x0, x1, x2, x3], _ =>
      have g0 : DataW.trod enc Tryz.prog W 0 (fun _ => true) true m 3 (List.take (Tryz.prog.cellsOf 3) (List.drop 0 [v0, v1, v2, v3])) = some x0 := hf 0 _ rfl
      have g1 : DataW.trod enc Tryz.prog W 0 (fun _ => true) true m 40 (List.take (Tryz.prog.cellsOf 40) (List.drop 1 [v0, v1, v2, v3])) = some x1 := hf 1 _ rfl
      have g2 : DataW.trod enc Tryz.prog W 0 (fun _ => true) true m 41 (List.take (Tryz.prog.cellsOf 41) (List.drop 2 [v0, v1, v2, v3])) = some x2 := hf 2 _ rfl
      have g3 : DataW.trod enc Tryz.prog W 0 (fun _ => true) true m 42 (List.take (Tryz.prog.cellsOf 42) (List.drop 3 [v0, v1, v2, v3])) = some x3 := hf 3 _ rfl
      simp only [c_int, c_specs, c_calls, c_ints] at g0 g1 g2 g3
      obtain ⟨a0, e0, _, w0⟩ := DataW.trod_int Tryz.underlying3 g0
      obtain ⟨s1, s2, s3, rfl⟩ := trod_sl (c := v1) Tryz.underlying40 g1
      obtain ⟨l1, l2, l3, rfl⟩ := trod_sl (c := v2) Tryz.underlying41 g2
      obtain ⟨m1, m2, m3, rfl⟩ := trod_sl (c := v3) Tryz.underlying42 g3
      cases e0
      obtain ⟨sp, hs1, hs2, _⟩ := read_slv (v := .slice s1 s2 s3) spEnc 3 SpWf Tryz.underlying40 c_spec (fun n cs x hl hx => read_spec n cs x hl hx) ⟨_, _, _, rfl⟩ ⟨m, g1⟩ (by decide)
      obtain ⟨cl, hc1, hc2, _⟩ := read_slv (v := .slice l1 l2 l3) clEnc 6 ClWf Tryz.underlying41 c_call (fun n cs x hl hx => read_call n cs x hl hx) ⟨_, _, _, rfl⟩ ⟨m, g2⟩ (by decide)
      obtain ⟨ps, hp1, hp2, _⟩ := read_slv (v := .slice m1 m2 m3) (ntEnc .i64) 1 (fun x => (Lit.int .i64 x).wf = true) Tryz.underlying42 c_int (fun n cs x _ hx => by obtain ⟨a, e, _, w⟩ := DataW.trod_int Tryz.underlying3 hx; exact ⟨a, e, w⟩) ⟨_, _, _, rfl⟩ ⟨m, g3⟩ (by decide)
      exact ⟨a0, _, _, _, sp, cl, ps, rfl, w0, ⟨hs1, hs2⟩, ⟨hc1, hc2⟩, ⟨hp1, hp2⟩⟩
end
end Go.Proofs.YtmiimpmfkjcjlaaGreat

namespace Go.Proofs.YtmiimpmfkjcjlaaGreat
open Go.ChangeShapes Go.WideShapes Go.ChangeAt Go.RowKit Go.Deep
theorem c_evs28 : Tryz.prog.cellsOf 59 = 1 := by kernel_rfl
theorem c_law28 : Tryz.prog.cellsOf 73 = 6 := by kernel_rfl
section
variable {H : Type} {enc : TypeId × Value → H} {W : World} {r : Reach} {b0 : Nat} {v : Value} {d : DataW H} {p : List MemPlace}
set_option maxRecDepth 100000 in
theorem read_ev28_cells (n : Nat) (cs : List Value) (x : DataW H × List MemPlace) (hl : cs.length = 6) (h : DataW.trod enc Tryz.prog W 0 (fun _ => true) true n 73 cs = some x) :
    ∃ a S C P L t sp cl ps es, cs = [.int .i64 a, S, C, P, L, .int .i64 t] ∧ ScAt W a S C P sp cl ps ∧ (SlEv W L es ∧ ∀ x ∈ es, EvDeep W x) := by
  match cs, hl with
  | [v0, v1, v2, v3, v4, v5], _ =>
    obtain ⟨xs, m, _, _, _, hxl, hf⟩ := DataW.trod_struct Tryz.underlying73 h
    match xs, hxl with
    | [x0, x1, x2], _ =>
      have g0 : DataW.trod enc Tryz.prog W 0 (fun _ => true) true m 44 (List.take (Tryz.prog.cellsOf 44) (List.drop 0 [v0, v1, v2, v3, v4, v5])) = some x0 := hf 0 _ rfl
      have g1 : DataW.trod enc Tryz.prog W 0 (fun _ => true) true m 59 (List.take (Tryz.prog.cellsOf 59) (List.drop 4 [v0, v1, v2, v3, v4, v5])) = some x1 := hf 1 _ rfl
      have g2 : DataW.trod enc Tryz.prog W 0 (fun _ => true) true m 3 (List.take (Tryz.prog.cellsOf 3) (List.drop 5 [v0, v1, v2, v3, v4, v5])) = some x2 := hf 2 _ rfl
      rw [c_scene] at g0
      rw [c_evs28] at g1
      rw [c_int] at g2
      obtain ⟨a2, e2, _, w2⟩ := DataW.trod_int Tryz.underlying3 g2
      obtain ⟨s1, s2, s3, rfl⟩ := trod_sl (c := v4) Tryz.underlying59 g1
      obtain ⟨a, S, C, P, sp, cl, ps, hs, hw⟩ := read_scene_cells m _ _ (by simp) g0
      obtain ⟨es, he1, he2, _⟩ := read_slv (v := .slice s1 s2 s3) evEnc 8 (EvDeep W) Tryz.underlying59 c_event (fun n cs x hl hx => read_event n cs x hl hx) ⟨_, _, _, rfl⟩ ⟨m, g1⟩ (by decide)
      cases e2
      simp only [List.drop_zero, List.take_succ_cons, List.take_zero] at hs
      injection hs with i0 hs
      injection hs with i1 hs
      injection hs with i2 hs
      injection hs with i3 hs
      subst i0 i1 i2 i3
      exact ⟨a, _, _, _, _, a2, sp, cl, ps, es, rfl, hw, he1, he2⟩
set_option maxRecDepth 100000 in
theorem read_ev28 (hv : Value.okWide Tryz.prog W r b0 73 v) (h : DataW.Trod enc Tryz.prog W 0 (fun _ => true) true 73 v d p) :
    ∃ a S C P L t sp cl ps es, v = .agg #[.int .i64 a, S, C, P, L, .int .i64 t] ∧ ScAt W a S C P sp cl ps ∧ (SlEv W L es ∧ ∀ x ∈ es, EvDeep W x) := by
  obtain ⟨cs, rfl, hsz⟩ := okWide_struct Tryz.underlying73 hv
  rw [c_law28] at hsz
  obtain ⟨fuel, hf⟩ := h
  have hf' : DataW.trod enc Tryz.prog W 0 (fun _ => true) true fuel 73 cs.toList = some (d, p) := hf
  obtain ⟨a, S, C, P, L, t, sp, cl, ps, es, hs, hw, he⟩ := read_ev28_cells fuel cs.toList _ (by simpa using hsz) hf'
  refine ⟨a, S, C, P, L, t, sp, cl, ps, es, ?_, hw, he⟩
  have : cs = [Value.int .i64 a, S, C, P, L, Value.int .i64 t].toArray := by rw [← hs]
  rw [this]
end
end Go.Proofs.YtmiimpmfkjcjlaaGreat
