/-
  No cell of these rows narrows 'for every input' (looked for: loops, veiled, ifaces, maps, wideKeys, modest, calm, conditions, laid).
  DERIVED. THE GIVEN ROWS OF THIS SEAT. 5 by the template 'for every input the law returns true; each argument reads behind the call as it read before'; 0 by the template 'total and deterministic' (their statements: YtlfingcmekifkaaGreatTotals.lean).
  GIVEN WITH THE SEED: the statements are not yours to turn. If you find one false, say at which input.
  Laid BY PROGRAM, IN A SANDBOX (cutbox-rows.mjs): the forced cells as the released guide's own fill.sh prints them over the translation 35d185ed2a07d706… (all of the seat's roots in one cut). By AI agents, Wed Nov 11 2026. No macro, syntax, notation, axiom, sorry.
-/
import Derived.Test.YtlfingcmekifkaaGreatChecked
import GoSem.Claim
import GoSem.ClaimJoined
import GoSem.ClaimMapViews
import Derived.JoinedTies
import Derived.KernelRfl
namespace Go.Proofs.YtlfingcmekifkaaGreat
/- THE CELL 'sum', in the pinned program and in every row, IS THE sha256 OF THE DUMP (.gsa) THAT YtlfingcmekifkaaGreatProg.lean LOADS. Nothing in Lean hashes anything: it is a label: what it is worth is what the hold of that sum in a sandbox is worth. -/
noncomputable def Tryz.pinned : Pinned := { name := "ytlfingcmekifkaagreat", sum := "35d185ed2a07d706964dd39f73fc8e7231e969fc18fd4d2b0bef682c1655f0df", checked := Tryz.checked }
namespace Rows
def none {H : Type} : Left H := { results := [], args := [] }

/-- 'roundelaylaw38.LlscPlays': WHATEVER THE INPUT: true; the input reads as it did. -/
def llscPlaysSpec : ChangeSpec := { name := "llscPlays", fn := fun _ => fun
  | [d1, d2, d3] => { results := [.lit (.bool true)], args := [d1, d2, d3] }
  | _ => none }
def llscPlaysRow : OpenClaim := { program := "ytlfingcmekifkaagreat", sum := "35d185ed2a07d706964dd39f73fc8e7231e969fc18fd4d2b0bef682c1655f0df", func := "roundelay/roundelaylaw38.LlscPlays", spec := "llscPlays", unfollowed := true, recurses := true, apart := false }
def LlscPlaysSaid : Prop := llscPlaysRow.holds Tryz.pinned (OpenSpec.ofChange llscPlaysSpec)

/-- ITS FALSE NEIGHBOUR: 'it returns false'. Refute it at one input. -/
def llscPlaysWrong : ChangeSpec := { name := "llscPlays", fn := fun _ => fun
  | [d1, d2, d3] => { results := [.lit (.bool false)], args := [d1, d2, d3] }
  | _ => none }
def LlscPlaysWrongFalsely : Prop := llscPlaysRow.holds Tryz.pinned (OpenSpec.ofChange llscPlaysWrong)

/-- 'roundelaylaw39.SplitPlays': WHATEVER THE INPUT: true; the input reads as it did. -/
def splitPlaysSpec : ChangeSpec := { name := "splitPlays", fn := fun _ => fun
  | [d1, d2, d3] => { results := [.lit (.bool true)], args := [d1, d2, d3] }
  | _ => none }
def splitPlaysRow : OpenClaim := { program := "ytlfingcmekifkaagreat", sum := "35d185ed2a07d706964dd39f73fc8e7231e969fc18fd4d2b0bef682c1655f0df", func := "roundelay/roundelaylaw39.SplitPlays", spec := "splitPlays", unfollowed := true, recurses := true, apart := false }
def SplitPlaysSaid : Prop := splitPlaysRow.holds Tryz.pinned (OpenSpec.ofChange splitPlaysSpec)

/-- ITS FALSE NEIGHBOUR: 'it returns false'. Refute it at one input. -/
def splitPlaysWrong : ChangeSpec := { name := "splitPlays", fn := fun _ => fun
  | [d1, d2, d3] => { results := [.lit (.bool false)], args := [d1, d2, d3] }
  | _ => none }
def SplitPlaysWrongFalsely : Prop := splitPlaysRow.holds Tryz.pinned (OpenSpec.ofChange splitPlaysWrong)

/-- 'roundelaylaw40.AdoptPlays': WHATEVER THE INPUT: true; the input reads as it did. -/
def adoptPlaysSpec : ChangeSpec := { name := "adoptPlays", fn := fun _ => fun
  | [d1, d2, d3] => { results := [.lit (.bool true)], args := [d1, d2, d3] }
  | _ => none }
def adoptPlaysRow : OpenClaim := { program := "ytlfingcmekifkaagreat", sum := "35d185ed2a07d706964dd39f73fc8e7231e969fc18fd4d2b0bef682c1655f0df", func := "roundelay/roundelaylaw40.AdoptPlays", spec := "adoptPlays", unfollowed := true, recurses := true, apart := false }
def AdoptPlaysSaid : Prop := adoptPlaysRow.holds Tryz.pinned (OpenSpec.ofChange adoptPlaysSpec)

/-- ITS FALSE NEIGHBOUR: 'it returns false'. Refute it at one input. -/
def adoptPlaysWrong : ChangeSpec := { name := "adoptPlays", fn := fun _ => fun
  | [d1, d2, d3] => { results := [.lit (.bool false)], args := [d1, d2, d3] }
  | _ => none }
def AdoptPlaysWrongFalsely : Prop := adoptPlaysRow.holds Tryz.pinned (OpenSpec.ofChange adoptPlaysWrong)

/-- 'roundelaylaw41.LatticePlays': WHATEVER THE INPUT: true; the input reads as it did. -/
def latticePlaysSpec : ChangeSpec := { name := "latticePlays", fn := fun _ => fun
  | [d1, d2, d3] => { results := [.lit (.bool true)], args := [d1, d2, d3] }
  | _ => none }
def latticePlaysRow : OpenClaim := { program := "ytlfingcmekifkaagreat", sum := "35d185ed2a07d706964dd39f73fc8e7231e969fc18fd4d2b0bef682c1655f0df", func := "roundelay/roundelaylaw41.LatticePlays", spec := "latticePlays", unfollowed := true, recurses := true, apart := false }
def LatticePlaysSaid : Prop := latticePlaysRow.holds Tryz.pinned (OpenSpec.ofChange latticePlaysSpec)

/-- ITS FALSE NEIGHBOUR: 'it returns false'. Refute it at one input. -/
def latticePlaysWrong : ChangeSpec := { name := "latticePlays", fn := fun _ => fun
  | [d1, d2, d3] => { results := [.lit (.bool false)], args := [d1, d2, d3] }
  | _ => none }
def LatticePlaysWrongFalsely : Prop := latticePlaysRow.holds Tryz.pinned (OpenSpec.ofChange latticePlaysWrong)

/-- 'roundelaylaw42.ElectPlays': WHATEVER THE INPUT: true; the input reads as it did. -/
def electPlaysSpec : ChangeSpec := { name := "electPlays", fn := fun _ => fun
  | [d1, d2, d3] => { results := [.lit (.bool true)], args := [d1, d2, d3] }
  | _ => none }
def electPlaysRow : OpenClaim := { program := "ytlfingcmekifkaagreat", sum := "35d185ed2a07d706964dd39f73fc8e7231e969fc18fd4d2b0bef682c1655f0df", func := "roundelay/roundelaylaw42.ElectPlays", spec := "electPlays", unfollowed := true, recurses := true, apart := false }
def ElectPlaysSaid : Prop := electPlaysRow.holds Tryz.pinned (OpenSpec.ofChange electPlaysSpec)

/-- ITS FALSE NEIGHBOUR: 'it returns false'. Refute it at one input. -/
def electPlaysWrong : ChangeSpec := { name := "electPlays", fn := fun _ => fun
  | [d1, d2, d3] => { results := [.lit (.bool false)], args := [d1, d2, d3] }
  | _ => none }
def ElectPlaysWrongFalsely : Prop := electPlaysRow.holds Tryz.pinned (OpenSpec.ofChange electPlaysWrong)

/- THE SECOND FORM. 'bulk': how many values and letters a reading holds, each counted each time it is reached (what is shared counts as often as it is met; a slice's spare places count too). A statement '..UptoSaid' is the law's where the arguments, and the package variables that the reading takes, are together of bulk at most 1048576: NARROWER than '..Said'. Prove '..Said' where nothing that the law and all that it calls make is longer than what came in: it says more and counts as full. Else prove '..UptoSaid'. A law counts once. -/
mutual
def uptoBulk {H : Type} : DataW H → Nat
  | .lit (.string bytes) => bytes.length + 1
  | .lit _ => 1
  | .nil => 1
  | .ptr d => uptoBulk d + 1
  | .slice elems spare => uptoBulkAll elems + uptoBulkAll spare + 1
  | .agg parts => uptoBulkAll parts + 1
  | .iface _ d => uptoBulk d + 1
  | .map entries => uptoBulkEntries entries + 1
  | .held _ => 1
def uptoBulkAll {H : Type} : List (DataW H) → Nat
  | [] => 0
  | d :: r => uptoBulk d + uptoBulkAll r
def uptoBulkEntries {H : Type} : List (Lit × DataW H) → Nat
  | [] => 0
  | x :: r => uptoBulkEntry x + uptoBulkEntries r
def uptoBulkEntry {H : Type} : Lit × DataW H → Nat
  | (.string bytes, d) => bytes.length + uptoBulk d + 1
  | (_, d) => uptoBulk d + 1
 end
def uptoSmall : (H : Type) → List (DataW H) → Bool := fun _ ds => decide (uptoBulkAll ds ≤ 1048576)
def OpenSpec.upto (s : _root_.Go.ChangeSpec) : _root_.Go.OpenSpec := { _root_.Go.OpenSpec.ofChange s with cond := some uptoSmall }

/-- 'roundelaylaw38.LlscPlays', WHERE WHAT IT READS IS OF BULK AT MOST 1048576: true; the input reads as it did. -/
def llscPlaysUptoRow : OpenClaim := { program := "ytlfingcmekifkaagreat", sum := "35d185ed2a07d706964dd39f73fc8e7231e969fc18fd4d2b0bef682c1655f0df", func := "roundelay/roundelaylaw38.LlscPlays", spec := "llscPlays", unfollowed := true, recurses := true, apart := false, narrowed := true }
def LlscPlaysUptoSaid : Prop := llscPlaysUptoRow.holds Tryz.pinned (OpenSpec.upto llscPlaysSpec)

/-- 'roundelaylaw39.SplitPlays', WHERE WHAT IT READS IS OF BULK AT MOST 1048576: true; the input reads as it did. -/
def splitPlaysUptoRow : OpenClaim := { program := "ytlfingcmekifkaagreat", sum := "35d185ed2a07d706964dd39f73fc8e7231e969fc18fd4d2b0bef682c1655f0df", func := "roundelay/roundelaylaw39.SplitPlays", spec := "splitPlays", unfollowed := true, recurses := true, apart := false, narrowed := true }
def SplitPlaysUptoSaid : Prop := splitPlaysUptoRow.holds Tryz.pinned (OpenSpec.upto splitPlaysSpec)

/-- 'roundelaylaw40.AdoptPlays', WHERE WHAT IT READS IS OF BULK AT MOST 1048576: true; the input reads as it did. -/
def adoptPlaysUptoRow : OpenClaim := { program := "ytlfingcmekifkaagreat", sum := "35d185ed2a07d706964dd39f73fc8e7231e969fc18fd4d2b0bef682c1655f0df", func := "roundelay/roundelaylaw40.AdoptPlays", spec := "adoptPlays", unfollowed := true, recurses := true, apart := false, narrowed := true }
def AdoptPlaysUptoSaid : Prop := adoptPlaysUptoRow.holds Tryz.pinned (OpenSpec.upto adoptPlaysSpec)

/-- 'roundelaylaw41.LatticePlays', WHERE WHAT IT READS IS OF BULK AT MOST 1048576: true; the input reads as it did. -/
def latticePlaysUptoRow : OpenClaim := { program := "ytlfingcmekifkaagreat", sum := "35d185ed2a07d706964dd39f73fc8e7231e969fc18fd4d2b0bef682c1655f0df", func := "roundelay/roundelaylaw41.LatticePlays", spec := "latticePlays", unfollowed := true, recurses := true, apart := false, narrowed := true }
def LatticePlaysUptoSaid : Prop := latticePlaysUptoRow.holds Tryz.pinned (OpenSpec.upto latticePlaysSpec)

/-- 'roundelaylaw42.ElectPlays', WHERE WHAT IT READS IS OF BULK AT MOST 1048576: true; the input reads as it did. -/
def electPlaysUptoRow : OpenClaim := { program := "ytlfingcmekifkaagreat", sum := "35d185ed2a07d706964dd39f73fc8e7231e969fc18fd4d2b0bef682c1655f0df", func := "roundelay/roundelaylaw42.ElectPlays", spec := "electPlays", unfollowed := true, recurses := true, apart := false, narrowed := true }
def ElectPlaysUptoSaid : Prop := electPlaysUptoRow.holds Tryz.pinned (OpenSpec.upto electPlaysSpec)

end Rows
end Go.Proofs.YtlfingcmekifkaaGreat
