/- Reading what objects are made by: api.Spec, and slices of it. -/
import Derived.Test.YtmiimpmfkjcjlaaGreatRow0
import Derived.Test.YtmiimpmfkjcjlaaGreatSp0
namespace Go.Proofs.YtmiimpmfkjcjlaaGreat
open Go.ChangeShapes Go.WideShapes Go.ChangeAt Go.RowKit Go.Deep

/-- The numbers of a spec fit. -/
def SpWf (s : Sp) : Prop := (Lit.int .i64 s.kind).wf = true ∧ (Lit.int .i64 s.p).wf = true ∧ (Lit.int .i64 s.q).wf = true
theorem c_spec : Tryz.prog.cellsOf 23 = 3 := by kernel_rfl

section
variable {H : Type} {enc : TypeId × Value → H} {W : World}

theorem read_spec (n : Nat) (cs : List Value) (x : DataW H × List MemPlace) (hl : cs.length = 3) (h : DataW.trod enc Tryz.prog W 0 (fun _ => true) true n 23 cs = some x) : ∃ s : Sp, cs = spEnc s ∧ SpWf s := by
  match cs, hl with
  | [v0, v1, v2], _ =>
    obtain ⟨xs, m, _, _, _, hxl, hf⟩ := DataW.trod_struct Tryz.underlying23 h
    match xs, hxl with
    | [x0, x1, x2], _ =>
      have g0 : DataW.trod enc Tryz.prog W 0 (fun _ => true) true m 3 (List.take (Tryz.prog.cellsOf 3) (List.drop 0 [v0, v1, v2])) = some x0 := hf 0 _ rfl
      have g1 : DataW.trod enc Tryz.prog W 0 (fun _ => true) true m 3 (List.take (Tryz.prog.cellsOf 3) (List.drop 1 [v0, v1, v2])) = some x1 := hf 1 _ rfl
      have g2 : DataW.trod enc Tryz.prog W 0 (fun _ => true) true m 3 (List.take (Tryz.prog.cellsOf 3) (List.drop 2 [v0, v1, v2])) = some x2 := hf 2 _ rfl
      simp only [c_int] at g0 g1 g2
      obtain ⟨a0, e0, _, w0⟩ := DataW.trod_int Tryz.underlying3 g0
      obtain ⟨a1, e1, _, w1⟩ := DataW.trod_int Tryz.underlying3 g1
      obtain ⟨a2, e2, _, w2⟩ := DataW.trod_int Tryz.underlying3 g2
      cases e0; cases e1; cases e2
      exact ⟨⟨a0, a1, a2⟩, rfl, w0, w1, w2⟩
end

section
variable {H : Type} {enc : TypeId × Value → H} {W : World} {r : Reach} {b0 : Nat} {v : Value} {d : DataW H} {p : List MemPlace}

set_option maxRecDepth 100000 in
theorem read_specv (hv : Value.okWide Tryz.prog W r b0 23 v) (h : DataW.Trod enc Tryz.prog W 0 (fun _ => true) true 23 v d p) : ∃ s : Sp, v = spV s ∧ SpWf s := by
  obtain ⟨cs, rfl, hsz⟩ := okWide_struct Tryz.underlying23 hv
  rw [c_spec] at hsz
  obtain ⟨fuel, hf⟩ := h
  have hf' : DataW.trod enc Tryz.prog W 0 (fun _ => true) true fuel 23 cs.toList = some (d, p) := hf
  obtain ⟨s, hs, hw⟩ := read_spec fuel cs.toList _ (by simpa using hsz) hf'
  refine ⟨s, ?_, hw⟩
  have : cs = (spEnc s).toArray := by rw [← hs]
  rw [this]
  rfl
set_option maxRecDepth 100000 in
theorem read_specs (hv : Value.okWide Tryz.prog W r b0 40 v) (h : DataW.Trod enc Tryz.prog W 0 (fun _ => true) true 40 v d p) : ∃ l : List Sp, SlSp W v l ∧ (∀ x ∈ l, SpWf x) ∧ l.length ≤ maxLen :=
  read_sl spEnc 3 SpWf Tryz.underlying40 c_spec (fun n cs x hl hx => read_spec n cs x hl hx) hv h (by decide)
end
end Go.Proofs.YtmiimpmfkjcjlaaGreat
