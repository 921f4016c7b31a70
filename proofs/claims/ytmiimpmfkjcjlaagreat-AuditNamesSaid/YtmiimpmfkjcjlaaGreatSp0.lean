/- What objects are made by (api.Spec), as plain data. -/
import Derived.Test.YtmiimpmfkjcjlaaGreatBase
namespace Go.Proofs.YtmiimpmfkjcjlaaGreat
open Go.RowKit

/-- What an object is made by. -/
structure Sp where
  kind : Int
  p : Int
  q : Int
def spEnc (s : Sp) : List Value := [.int .i64 s.kind, .int .i64 s.p, .int .i64 s.q]
abbrev spV (s : Sp) : Value := .agg #[.int .i64 s.kind, .int .i64 s.p, .int .i64 s.q]
abbrev SlSp := Sl spEnc 3

theorem spec_cells {w : World} {b p : Nat} {e : Sp} (h : CellsAt w b p (spEnc e)) :
    w.cell? ⟨b, p, none⟩ = some (.int .i64 e.kind) ∧ w.cell? ⟨b, p + 1, none⟩ = some (.int .i64 e.p) ∧ w.cell? ⟨b, p + 2, none⟩ = some (.int .i64 e.q) :=
  ⟨h 0 _ rfl, h 1 _ rfl, h 2 _ rfl⟩
end Go.Proofs.YtmiimpmfkjcjlaaGreat
