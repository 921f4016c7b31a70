/- Rows of numbers that a call owns. -/
import Derived.Test.YtmiimpmfkjcjlaaGreatCmp
import Derived.Test.YtmiimpmfkjcjlaaGreatProg
import Derived.Maps.AppendAt
namespace Go.Proofs.YtmiimpmfkjcjlaaGreat
open Go.RowKit

theorem info_int : (Tryz.prog.info? 3).map (fun i => (i.zero, i.size, i.bytes)) = some (some (.int .i64 0), 1, 8) := by kernel_rfl
abbrev IOwn (w : World) (B : Nat) (v : Value) (n : Nat) (xs : List Int) : Prop := w.ownsRow B 3 1 v n (xs.map (Value.int .i64))
end Go.Proofs.YtmiimpmfkjcjlaaGreat
