/-
  No cell of these rows narrows 'for every input' (looked for: loops, veiled, ifaces, maps, wideKeys, modest, calm, conditions, laid).
  DERIVED. THE GIVEN ROWS OF THIS SEAT. 4 by the template 'for every input the law returns true; each argument reads behind the call as it read before'; 0 by the template 'total and deterministic' (their statements: YtfghmlpjbedomaaGreatTotals.lean).
  GIVEN WITH THE SEED: the statements are not yours to turn. If you find one false, say at which input.
  Laid BY PROGRAM, IN A SANDBOX (cutbox-rows.mjs): the forced cells as the released guide's own fill.sh prints them over the translation 152de209bc4b22c6… (all of the seat's roots in one cut). By AI agents, Wed Nov 11 2026. No macro, syntax, notation, axiom, sorry.
-/
import Derived.Test.YtfghmlpjbedomaaGreatChecked
import GoSem.Claim
import GoSem.ClaimJoined
import GoSem.ClaimMapViews
import Derived.JoinedTies
import Derived.KernelRfl
namespace Go.Proofs.YtfghmlpjbedomaaGreat
/- THE CELL 'sum', in the pinned program and in every row, IS THE sha256 OF THE DUMP (.gsa) THAT YtfghmlpjbedomaaGreatProg.lean LOADS. Nothing in Lean hashes anything: it is a label: what it is worth is what the hold of that sum in a sandbox is worth. -/
noncomputable def Tryz.pinned : Pinned := { name := "ytfghmlpjbedomaagreat", sum := "152de209bc4b22c6e5833960a598f81d08405958f0ce1c957edac24f5a43ad7d", checked := Tryz.checked }
namespace Rows
def none {H : Type} : Left H := { results := [], args := [] }

/-- 'roundelaylaw35.ExploreRows': WHATEVER THE INPUT: true; the input reads as it did. -/
def exploreRowsSpec : ChangeSpec := { name := "exploreRows", fn := fun _ => fun
  | [d1, d2, d3] => { results := [.lit (.bool true)], args := [d1, d2, d3] }
  | _ => none }
def exploreRowsRow : OpenClaim := { program := "ytfghmlpjbedomaagreat", sum := "152de209bc4b22c6e5833960a598f81d08405958f0ce1c957edac24f5a43ad7d", func := "roundelay/roundelaylaw35.ExploreRows", spec := "exploreRows", unfollowed := true, recurses := true, apart := false }
def ExploreRowsSaid : Prop := exploreRowsRow.holds Tryz.pinned (OpenSpec.ofChange exploreRowsSpec)

/-- ITS FALSE NEIGHBOUR: 'it returns false'. Refute it at one input. -/
def exploreRowsWrong : ChangeSpec := { name := "exploreRows", fn := fun _ => fun
  | [d1, d2, d3] => { results := [.lit (.bool false)], args := [d1, d2, d3] }
  | _ => none }
def ExploreRowsWrongFalsely : Prop := exploreRowsRow.holds Tryz.pinned (OpenSpec.ofChange exploreRowsWrong)

/-- 'roundelaylaw30.CrashWithout': WHATEVER THE INPUT: true; the input reads as it did. -/
def crashWithoutSpec : ChangeSpec := { name := "crashWithout", fn := fun _ => fun
  | [d1, d2] => { results := [.lit (.bool true)], args := [d1, d2] }
  | _ => none }
def crashWithoutRow : OpenClaim := { program := "ytfghmlpjbedomaagreat", sum := "152de209bc4b22c6e5833960a598f81d08405958f0ce1c957edac24f5a43ad7d", func := "roundelay/roundelaylaw30.CrashWithout", spec := "crashWithout", unfollowed := true, recurses := true, apart := false }
def CrashWithoutSaid : Prop := crashWithoutRow.holds Tryz.pinned (OpenSpec.ofChange crashWithoutSpec)

/-- ITS FALSE NEIGHBOUR: 'it returns false'. Refute it at one input. -/
def crashWithoutWrong : ChangeSpec := { name := "crashWithout", fn := fun _ => fun
  | [d1, d2] => { results := [.lit (.bool false)], args := [d1, d2] }
  | _ => none }
def CrashWithoutWrongFalsely : Prop := crashWithoutRow.holds Tryz.pinned (OpenSpec.ofChange crashWithoutWrong)

/-- 'roundelaylaw44.AccessApplies': WHATEVER THE INPUT: true; the input reads as it did. -/
def accessAppliesSpec : ChangeSpec := { name := "accessApplies", fn := fun _ => fun
  | [d1, d2] => { results := [.lit (.bool true)], args := [d1, d2] }
  | _ => none }
def accessAppliesRow : OpenClaim := { program := "ytfghmlpjbedomaagreat", sum := "152de209bc4b22c6e5833960a598f81d08405958f0ce1c957edac24f5a43ad7d", func := "roundelay/roundelaylaw44.AccessApplies", spec := "accessApplies", unfollowed := true, recurses := true, apart := false }
def AccessAppliesSaid : Prop := accessAppliesRow.holds Tryz.pinned (OpenSpec.ofChange accessAppliesSpec)

/-- ITS FALSE NEIGHBOUR: 'it returns false'. Refute it at one input. -/
def accessAppliesWrong : ChangeSpec := { name := "accessApplies", fn := fun _ => fun
  | [d1, d2] => { results := [.lit (.bool false)], args := [d1, d2] }
  | _ => none }
def AccessAppliesWrongFalsely : Prop := accessAppliesRow.holds Tryz.pinned (OpenSpec.ofChange accessAppliesWrong)

/-- 'roundelaylaw44.AccessTells': WHATEVER THE INPUT: true; the input reads as it did. -/
def accessTellsSpec : ChangeSpec := { name := "accessTells", fn := fun _ => fun
  | [d1, d2, d3] => { results := [.lit (.bool true)], args := [d1, d2, d3] }
  | _ => none }
def accessTellsRow : OpenClaim := { program := "ytfghmlpjbedomaagreat", sum := "152de209bc4b22c6e5833960a598f81d08405958f0ce1c957edac24f5a43ad7d", func := "roundelay/roundelaylaw44.AccessTells", spec := "accessTells", unfollowed := true, recurses := true, apart := false }
def AccessTellsSaid : Prop := accessTellsRow.holds Tryz.pinned (OpenSpec.ofChange accessTellsSpec)

/-- ITS FALSE NEIGHBOUR: 'it returns false'. Refute it at one input. -/
def accessTellsWrong : ChangeSpec := { name := "accessTells", fn := fun _ => fun
  | [d1, d2, d3] => { results := [.lit (.bool false)], args := [d1, d2, d3] }
  | _ => none }
def AccessTellsWrongFalsely : Prop := accessTellsRow.holds Tryz.pinned (OpenSpec.ofChange accessTellsWrong)

/- THE SECOND FORM. 'bulk': how many values and letters a reading holds, each counted each time it is reached (what is shared counts as often as it is met; a slice's spare places count too). A statement '..UptoSaid' is the law's where the arguments, and the package variables that the reading takes, are together of bulk at most 1048576: NARROWER than '..Said'. Prove '..Said' where nothing that the law and all that it calls make is longer than what came in: it says more and counts as full. Else prove '..UptoSaid'. A law counts once. -/
mutual
def uptoBulk {H : Type} : DataW H → Nat
  | .lit (.string bytes) => bytes.length + 1
  | .lit _ => 1
  | .nil => 1
  | .ptr d => uptoBulk d + 1
  | .slice elems spare => uptoBulkAll elems + uptoBulkAll spare + 1
  | .agg parts => uptoBulkAll parts + 1
  | .iface _ d => uptoBulk d + 1
  | .map entries => uptoBulkEntries entries + 1
  | .held _ => 1
def uptoBulkAll {H : Type} : List (DataW H) → Nat
  | [] => 0
  | d :: r => uptoBulk d + uptoBulkAll r
def uptoBulkEntries {H : Type} : List (Lit × DataW H) → Nat
  | [] => 0
  | x :: r => uptoBulkEntry x + uptoBulkEntries r
def uptoBulkEntry {H : Type} : Lit × DataW H → Nat
  | (.string bytes, d) => bytes.length + uptoBulk d + 1
  | (_, d) => uptoBulk d + 1
 end
def uptoSmall : (H : Type) → List (DataW H) → Bool := fun _ ds => decide (uptoBulkAll ds ≤ 1048576)
def OpenSpec.upto (s : _root_.Go.ChangeSpec) : _root_.Go.OpenSpec := { _root_.Go.OpenSpec.ofChange s with cond := some uptoSmall }

/-- 'roundelaylaw35.ExploreRows', WHERE WHAT IT READS IS OF BULK AT MOST 1048576: true; the input reads as it did. -/
def exploreRowsUptoRow : OpenClaim := { program := "ytfghmlpjbedomaagreat", sum := "152de209bc4b22c6e5833960a598f81d08405958f0ce1c957edac24f5a43ad7d", func := "roundelay/roundelaylaw35.ExploreRows", spec := "exploreRows", unfollowed := true, recurses := true, apart := false, narrowed := true }
def ExploreRowsUptoSaid : Prop := exploreRowsUptoRow.holds Tryz.pinned (OpenSpec.upto exploreRowsSpec)

/-- 'roundelaylaw30.CrashWithout', WHERE WHAT IT READS IS OF BULK AT MOST 1048576: true; the input reads as it did. -/
def crashWithoutUptoRow : OpenClaim := { program := "ytfghmlpjbedomaagreat", sum := "152de209bc4b22c6e5833960a598f81d08405958f0ce1c957edac24f5a43ad7d", func := "roundelay/roundelaylaw30.CrashWithout", spec := "crashWithout", unfollowed := true, recurses := true, apart := false, narrowed := true }
def CrashWithoutUptoSaid : Prop := crashWithoutUptoRow.holds Tryz.pinned (OpenSpec.upto crashWithoutSpec)

/-- 'roundelaylaw44.AccessApplies', WHERE WHAT IT READS IS OF BULK AT MOST 1048576: true; the input reads as it did. -/
def accessAppliesUptoRow : OpenClaim := { program := "ytfghmlpjbedomaagreat", sum := "152de209bc4b22c6e5833960a598f81d08405958f0ce1c957edac24f5a43ad7d", func := "roundelay/roundelaylaw44.AccessApplies", spec := "accessApplies", unfollowed := true, recurses := true, apart := false, narrowed := true }
def AccessAppliesUptoSaid : Prop := accessAppliesUptoRow.holds Tryz.pinned (OpenSpec.upto accessAppliesSpec)

/-- 'roundelaylaw44.AccessTells', WHERE WHAT IT READS IS OF BULK AT MOST 1048576: true; the input reads as it did. -/
def accessTellsUptoRow : OpenClaim := { program := "ytfghmlpjbedomaagreat", sum := "152de209bc4b22c6e5833960a598f81d08405958f0ce1c957edac24f5a43ad7d", func := "roundelay/roundelaylaw44.AccessTells", spec := "accessTells", unfollowed := true, recurses := true, apart := false, narrowed := true }
def AccessTellsUptoSaid : Prop := accessTellsUptoRow.holds Tryz.pinned (OpenSpec.upto accessTellsSpec)

end Rows
end Go.Proofs.YtfghmlpjbedomaaGreat
