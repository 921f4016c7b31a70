import Derived.Test.YtlfingcmekifkaaGreatBun31
namespace Go.Proofs.YtlfingcmekifkaaGreat
open Go.ChangeShapes Go.WideShapes Go.ChangeAt Go.RowKit Go.Deep
theorem c_call : Tryz.prog.cellsOf 48 = 6 := by kernel_rfl
section
variable {H : Type} {enc : TypeId × Value → H} {W : World}
def ClWf (c : Cl) : Prop := (Lit.int .i64 c.thread).wf = true ∧ (Lit.int .i64 c.obj).wf = true ∧ (Lit.int .i64 c.kind).wf = true ∧ (Lit.int .u64 c.a).wf = true ∧ (Lit.int .u64 c.b).wf = true ∧ (Lit.int .u64 c.c).wf = true
theorem read_call (n : Nat) (cs : List Value) (x : DataW H × List MemPlace) (hl : cs.length = 6) (h : DataW.trod enc Tryz.prog W 0 (fun _ => true) true n 48 cs = some x) : ∃ c : Cl, cs = clEnc c ∧ ClWf c := by
  match cs, hl with
  | [v0, v1, v2, v3, v4, v5], _ =>
    obtain ⟨xs, m, _, _, _, hxl, hf⟩ := DataW.trod_struct Tryz.underlying48 h
    match xs, hxl with
    | [x0, x1, x2, x3, x4, x5], _ =>
      have g0 : DataW.trod enc Tryz.prog W 0 (fun _ => true) true m 3 (List.take (Tryz.prog.cellsOf 3) (List.drop 0 [v0, v1, v2, v3, v4, v5])) = some x0 := hf 0 _ rfl
      have g1 : DataW.trod enc Tryz.prog W 0 (fun _ => true) true m 3 (List.take (Tryz.prog.cellsOf 3) (List.drop 1 [v0, v1, v2, v3, v4, v5])) = some x1 := hf 1 _ rfl
      have g2 : DataW.trod enc Tryz.prog W 0 (fun _ => true) true m 3 (List.take (Tryz.prog.cellsOf 3) (List.drop 2 [v0, v1, v2, v3, v4, v5])) = some x2 := hf 2 _ rfl
      have g3 : DataW.trod enc Tryz.prog W 0 (fun _ => true) true m 46 (List.take (Tryz.prog.cellsOf 46) (List.drop 3 [v0, v1, v2, v3, v4, v5])) = some x3 := hf 3 _ rfl
      have g4 : DataW.trod enc Tryz.prog W 0 (fun _ => true) true m 46 (List.take (Tryz.prog.cellsOf 46) (List.drop 4 [v0, v1, v2, v3, v4, v5])) = some x4 := hf 4 _ rfl
      have g5 : DataW.trod enc Tryz.prog W 0 (fun _ => true) true m 46 (List.take (Tryz.prog.cellsOf 46) (List.drop 5 [v0, v1, v2, v3, v4, v5])) = some x5 := hf 5 _ rfl
      simp only [c_int, c_u64] at g0 g1 g2 g3 g4 g5
      obtain ⟨a0, e0, _, w0⟩ := DataW.trod_int Tryz.underlying3 g0
      obtain ⟨a1, e1, _, w1⟩ := DataW.trod_int Tryz.underlying3 g1
      obtain ⟨a2, e2, _, w2⟩ := DataW.trod_int Tryz.underlying3 g2
      obtain ⟨a3, e3, _, w3⟩ := DataW.trod_int Tryz.underlying46 g3
      obtain ⟨a4, e4, _, w4⟩ := DataW.trod_int Tryz.underlying46 g4
      obtain ⟨a5, e5, _, w5⟩ := DataW.trod_int Tryz.underlying46 g5
      cases e0; cases e1; cases e2; cases e3; cases e4; cases e5
      exact ⟨⟨a0, a1, a2, a3, a4, a5⟩, rfl, w0, w1, w2, w3, w4, w5⟩
end
section
variable {H : Type} {enc : TypeId × Value → H} {W : World} {r : Reach} {b0 : Nat} {v : Value} {d : DataW H} {p : List MemPlace}
set_option maxRecDepth 100000 in
theorem read_calls (hv : Value.okWide Tryz.prog W r b0 23 v) (h : DataW.Trod enc Tryz.prog W 0 (fun _ => true) true 23 v d p) : ∃ cs : List Cl, SlCl W v cs ∧ (∀ x ∈ cs, ClWf x) ∧ cs.length ≤ maxLen :=
  read_sl clEnc 6 ClWf Tryz.underlying23 c_call (fun n cs x hl hx => read_call n cs x hl hx) hv h (by decide)
end
end Go.Proofs.YtlfingcmekifkaaGreat
