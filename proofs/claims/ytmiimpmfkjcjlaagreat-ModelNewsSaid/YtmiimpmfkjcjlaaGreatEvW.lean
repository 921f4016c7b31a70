/- The numbers of an event fit. -/
import Derived.Test.YtmiimpmfkjcjlaaGreatBase
namespace Go.Proofs.YtmiimpmfkjcjlaaGreat
open Go.RowKit

/-- The numbers of an event fit. -/
def EvWf (e : Ev) : Prop := (Lit.int .i64 e.call).wf = true ∧ (Lit.int .i64 e.inv).wf = true ∧ (Lit.int .i64 e.resp).wf = true ∧ (Lit.int .i64 e.steps).wf = true
end Go.Proofs.YtmiimpmfkjcjlaaGreat
