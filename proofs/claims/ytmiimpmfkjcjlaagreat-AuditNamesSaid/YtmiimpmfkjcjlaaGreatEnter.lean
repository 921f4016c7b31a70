/- A function that has a body is entered. -/
import Derived.Test.YtmiimpmfkjcjlaaGreatBase
namespace Go.Proofs.YtmiimpmfkjcjlaaGreat
open Go.RowKit

theorem enter_of {P : Program} {g : Nat} {fn : Func} (hf : P.funcs[g]? = some fn) (hname : (fn.name == "runtime.NumGoroutine") = false) (hb : fn.body.isNone = false) (args : Array Value) (w : World) : (callFunc g args).run P w = .ok (.enter g args) w := by
  have h1 : fn.name ≠ "runtime.NumGoroutine" := by simpa using hname
  have h2 : fn.body ≠ none := by intro h; rw [h] at hb; simp at hb
  simp [callFunc, hf, h1, h2]
end Go.Proofs.YtmiimpmfkjcjlaaGreat
