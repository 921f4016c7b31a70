/- Rows: reading a model's thing (roundelaylaw27.Thing). -/
import Derived.Test.YtmiimpmfkjcjlaaGreatRowE
import Derived.Test.YtmiimpmfkjcjlaaGreatMoE
namespace Go.Proofs.YtmiimpmfkjcjlaaGreat
open Go.ChangeShapes Go.WideShapes Go.ChangeAt Go.RowKit Go.Deep

theorem c_thing : Tryz.prog.cellsOf 29 = 11 := by kernel_rfl
structure TgAt (W : World) (n : Int) (s : Sp) (S : Value) (st : List Int) (c : Cl) : Prop where
  n : (Lit.int .i64 n).wf = true
  spec : SpWf s
  state : SlW W S st
  words : ∀ x ∈ st, (Lit.int .u64 x).wf = true
  call : ClWf c

section
variable {H : Type} {enc : TypeId × Value → H} {W : World} {r : Reach} {b0 : Nat} {v : Value} {d : DataW H} {p : List MemPlace}

theorem read_thing_cells (n : Nat) (cs : List Value) (x : DataW H × List MemPlace) (hl : cs.length = 11) (h : DataW.trod enc Tryz.prog W 0 (fun _ => true) true n 29 cs = some x) :
    ∃ a s S st c, cs = [.int .i64 a, .int .i64 s.kind, .int .i64 s.p, .int .i64 s.q, S, .int .i64 c.thread, .int .i64 c.obj, .int .i64 c.kind, .int .u64 c.a, .int .u64 c.b, .int .u64 c.c] ∧ TgAt W a s S st c := by
  match cs, hl with
  | [v0, v1, v2, v3, v4, v5, v6, v7, v8, v9, v10], _ =>
    obtain ⟨xs, m, _, _, _, hxl, hf⟩ := DataW.trod_struct Tryz.underlying29 h
    match xs, hxl with
    | [x0, x1, x2, x3], _ =>
      have g0 : DataW.trod enc Tryz.prog W 0 (fun _ => true) true m 3 (List.take (Tryz.prog.cellsOf 3) (List.drop 0 [v0, v1, v2, v3, v4, v5, v6, v7, v8, v9, v10])) = some x0 := hf 0 _ rfl
      have g1 : DataW.trod enc Tryz.prog W 0 (fun _ => true) true m 23 (List.take (Tryz.prog.cellsOf 23) (List.drop 1 [v0, v1, v2, v3, v4, v5, v6, v7, v8, v9, v10])) = some x1 := hf 1 _ rfl
      have g2 : DataW.trod enc Tryz.prog W 0 (fun _ => true) true m 24 (List.take (Tryz.prog.cellsOf 24) (List.drop 4 [v0, v1, v2, v3, v4, v5, v6, v7, v8, v9, v10])) = some x2 := hf 2 _ rfl
      have g3 : DataW.trod enc Tryz.prog W 0 (fun _ => true) true m 27 (List.take (Tryz.prog.cellsOf 27) (List.drop 5 [v0, v1, v2, v3, v4, v5, v6, v7, v8, v9, v10])) = some x3 := hf 3 _ rfl
      simp only [c_int, c_spec, c_words, c_call] at g0 g1 g2 g3
      obtain ⟨a0, e0, _, w0⟩ := DataW.trod_int Tryz.underlying3 g0
      obtain ⟨s, hs, hsw⟩ := read_spec m [v1, v2, v3] _ rfl g1
      obtain ⟨l1, l2, l3, rfl⟩ := trod_sl (c := v4) Tryz.underlying24 g2
      obtain ⟨c, hc, hcw⟩ := read_call m [v5, v6, v7, v8, v9, v10] _ rfl g3
      obtain ⟨st, hp1, hp2, _⟩ := read_slv (v := .slice l1 l2 l3) (ntEnc .u64) 1 (fun x => (Lit.int .u64 x).wf = true) Tryz.underlying24 c_u64 (fun n cs x _ hx => by obtain ⟨a, e, _, w⟩ := DataW.trod_int Tryz.underlying25 hx; exact ⟨a, e, w⟩) ⟨_, _, _, rfl⟩ ⟨m, g2⟩ (by decide)
      cases e0
      unfold spEnc at hs
      unfold clEnc at hc
      cases hs
      cases hc
      exact ⟨a0, s, _, st, c, rfl, w0, hsw, hp1, hp2, hcw⟩

set_option maxRecDepth 100000 in
theorem read_thing (hv : Value.okWide Tryz.prog W r b0 29 v) (h : DataW.Trod enc Tryz.prog W 0 (fun _ => true) true 29 v d p) :
    ∃ a s S st c, v = thV a s S c ∧ TgAt W a s S st c := by
  obtain ⟨cs, rfl, hsz⟩ := okWide_struct Tryz.underlying29 hv
  rw [c_thing] at hsz
  obtain ⟨fuel, hf⟩ := h
  have hf' : DataW.trod enc Tryz.prog W 0 (fun _ => true) true fuel 29 cs.toList = some (d, p) := hf
  obtain ⟨a, s, S, st, c, hs, hw⟩ := read_thing_cells fuel cs.toList _ (by simpa using hsz) hf'
  refine ⟨a, s, S, st, c, ?_, hw⟩
  have : cs = [Value.int .i64 a, .int .i64 s.kind, .int .i64 s.p, .int .i64 s.q, S, .int .i64 c.thread, .int .i64 c.obj, .int .i64 c.kind, .int .u64 c.a, .int .u64 c.b, .int .u64 c.c].toArray := by rw [← hs]
  rw [this]
end
end Go.Proofs.YtmiimpmfkjcjlaaGreat
