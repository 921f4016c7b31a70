/-
  No cell of these rows narrows 'for every input' (looked for: loops, veiled, ifaces, maps, wideKeys, modest, calm, conditions, laid).
  DERIVED. THE GIVEN ROWS OF THIS SEAT. 6 by the template 'for every input the law returns true; each argument reads behind the call as it read before'; 0 by the template 'total and deterministic' (their statements: YtmiimpmfkjcjlaaGreatTotals.lean).
  GIVEN WITH THE SEED: the statements are not yours to turn. If you find one false, say at which input.
  Laid BY PROGRAM, IN A SANDBOX (cutbox-rows.mjs): the forced cells as the released guide's own fill.sh prints them over the translation 4349ad5aa420cc66… (all of the seat's roots in one cut). By AI agents, Wed Nov 11 2026. No macro, syntax, notation, axiom, sorry.
-/
import Derived.Test.YtmiimpmfkjcjlaaGreatChecked
import GoSem.Claim
import GoSem.ClaimJoined
import GoSem.ClaimMapViews
import Derived.JoinedTies
import Derived.KernelRfl
namespace Go.Proofs.YtmiimpmfkjcjlaaGreat
/- THE CELL 'sum', in the pinned program and in every row, IS THE sha256 OF THE DUMP (.gsa) THAT YtmiimpmfkjcjlaaGreatProg.lean LOADS. Nothing in Lean hashes anything: it is a label: what it is worth is what the hold of that sum in a sandbox is worth. -/
noncomputable def Tryz.pinned : Pinned := { name := "ytmiimpmfkjcjlaagreat", sum := "4349ad5aa420cc663ca262b1718a2bcaa5ab2b7f6edf75a9a7d7d9281f80a354", checked := Tryz.checked }
namespace Rows
def none {H : Type} : Left H := { results := [], args := [] }

/-- 'roundelaylaw27.ModelNews': WHATEVER THE INPUT: true; the input reads as it did. -/
def modelNewsSpec : ChangeSpec := { name := "modelNews", fn := fun _ => fun
  | [d] => { results := [.lit (.bool true)], args := [d] }
  | _ => none }
def modelNewsRow : OpenClaim := { program := "ytmiimpmfkjcjlaagreat", sum := "4349ad5aa420cc663ca262b1718a2bcaa5ab2b7f6edf75a9a7d7d9281f80a354", func := "roundelay/roundelaylaw27.ModelNews", spec := "modelNews", unfollowed := true, recurses := true, apart := false }
def ModelNewsSaid : Prop := modelNewsRow.holds Tryz.pinned (OpenSpec.ofChange modelNewsSpec)

/-- ITS FALSE NEIGHBOUR: 'it returns false'. Refute it at one input. -/
def modelNewsWrong : ChangeSpec := { name := "modelNews", fn := fun _ => fun
  | [d] => { results := [.lit (.bool false)], args := [d] }
  | _ => none }
def ModelNewsWrongFalsely : Prop := modelNewsRow.holds Tryz.pinned (OpenSpec.ofChange modelNewsWrong)

/-- 'roundelaylaw29.SoloAnswers': WHATEVER THE INPUT: true; the input reads as it did. -/
def soloAnswersSpec : ChangeSpec := { name := "soloAnswers", fn := fun _ => fun
  | [d1, d2] => { results := [.lit (.bool true)], args := [d1, d2] }
  | _ => none }
def soloAnswersRow : OpenClaim := { program := "ytmiimpmfkjcjlaagreat", sum := "4349ad5aa420cc663ca262b1718a2bcaa5ab2b7f6edf75a9a7d7d9281f80a354", func := "roundelay/roundelaylaw29.SoloAnswers", spec := "soloAnswers", unfollowed := true, recurses := true, apart := false }
def SoloAnswersSaid : Prop := soloAnswersRow.holds Tryz.pinned (OpenSpec.ofChange soloAnswersSpec)

/-- ITS FALSE NEIGHBOUR: 'it returns false'. Refute it at one input. -/
def soloAnswersWrong : ChangeSpec := { name := "soloAnswers", fn := fun _ => fun
  | [d1, d2] => { results := [.lit (.bool false)], args := [d1, d2] }
  | _ => none }
def SoloAnswersWrongFalsely : Prop := soloAnswersRow.holds Tryz.pinned (OpenSpec.ofChange soloAnswersWrong)

/-- 'roundelaylaw43.SearchKeys': WHATEVER THE INPUT: true; the input reads as it did. -/
def searchKeysSpec : ChangeSpec := { name := "searchKeys", fn := fun _ => fun
  | [d1, d2, d3] => { results := [.lit (.bool true)], args := [d1, d2, d3] }
  | _ => none }
def searchKeysRow : OpenClaim := { program := "ytmiimpmfkjcjlaagreat", sum := "4349ad5aa420cc663ca262b1718a2bcaa5ab2b7f6edf75a9a7d7d9281f80a354", func := "roundelay/roundelaylaw43.SearchKeys", spec := "searchKeys", unfollowed := true, recurses := true, apart := false }
def SearchKeysSaid : Prop := searchKeysRow.holds Tryz.pinned (OpenSpec.ofChange searchKeysSpec)

/-- ITS FALSE NEIGHBOUR: 'it returns false'. Refute it at one input. -/
def searchKeysWrong : ChangeSpec := { name := "searchKeys", fn := fun _ => fun
  | [d1, d2, d3] => { results := [.lit (.bool false)], args := [d1, d2, d3] }
  | _ => none }
def SearchKeysWrongFalsely : Prop := searchKeysRow.holds Tryz.pinned (OpenSpec.ofChange searchKeysWrong)

/-- 'roundelaylaw28.LinearWrong': WHATEVER THE INPUT: true; the input reads as it did. -/
def linearWrongSpec : ChangeSpec := { name := "linearWrong", fn := fun _ => fun
  | [d] => { results := [.lit (.bool true)], args := [d] }
  | _ => none }
def linearWrongRow : OpenClaim := { program := "ytmiimpmfkjcjlaagreat", sum := "4349ad5aa420cc663ca262b1718a2bcaa5ab2b7f6edf75a9a7d7d9281f80a354", func := "roundelay/roundelaylaw28.LinearWrong", spec := "linearWrong", unfollowed := true, recurses := true, apart := false }
def LinearWrongSaid : Prop := linearWrongRow.holds Tryz.pinned (OpenSpec.ofChange linearWrongSpec)

/-- ITS FALSE NEIGHBOUR: 'it returns false'. Refute it at one input. -/
def linearWrongWrong : ChangeSpec := { name := "linearWrong", fn := fun _ => fun
  | [d] => { results := [.lit (.bool false)], args := [d] }
  | _ => none }
def LinearWrongWrongFalsely : Prop := linearWrongRow.holds Tryz.pinned (OpenSpec.ofChange linearWrongWrong)

/-- 'roundelaylaw28.LinearWhole': WHATEVER THE INPUT: true; the input reads as it did. -/
def linearWholeSpec : ChangeSpec := { name := "linearWhole", fn := fun _ => fun
  | [d] => { results := [.lit (.bool true)], args := [d] }
  | _ => none }
def linearWholeRow : OpenClaim := { program := "ytmiimpmfkjcjlaagreat", sum := "4349ad5aa420cc663ca262b1718a2bcaa5ab2b7f6edf75a9a7d7d9281f80a354", func := "roundelay/roundelaylaw28.LinearWhole", spec := "linearWhole", unfollowed := true, recurses := true, apart := false }
def LinearWholeSaid : Prop := linearWholeRow.holds Tryz.pinned (OpenSpec.ofChange linearWholeSpec)

/-- ITS FALSE NEIGHBOUR: 'it returns false'. Refute it at one input. -/
def linearWholeWrong : ChangeSpec := { name := "linearWhole", fn := fun _ => fun
  | [d] => { results := [.lit (.bool false)], args := [d] }
  | _ => none }
def LinearWholeWrongFalsely : Prop := linearWholeRow.holds Tryz.pinned (OpenSpec.ofChange linearWholeWrong)

/-- 'roundelaylaw34.AuditNames': WHATEVER THE INPUT: true; the input reads as it did. -/
def auditNamesSpec : ChangeSpec := { name := "auditNames", fn := fun _ => fun
  | [d1, d2] => { results := [.lit (.bool true)], args := [d1, d2] }
  | _ => none }
def auditNamesRow : OpenClaim := { program := "ytmiimpmfkjcjlaagreat", sum := "4349ad5aa420cc663ca262b1718a2bcaa5ab2b7f6edf75a9a7d7d9281f80a354", func := "roundelay/roundelaylaw34.AuditNames", spec := "auditNames", unfollowed := true, recurses := true, apart := false }
def AuditNamesSaid : Prop := auditNamesRow.holds Tryz.pinned (OpenSpec.ofChange auditNamesSpec)

/-- ITS FALSE NEIGHBOUR: 'it returns false'. Refute it at one input. -/
def auditNamesWrong : ChangeSpec := { name := "auditNames", fn := fun _ => fun
  | [d1, d2] => { results := [.lit (.bool false)], args := [d1, d2] }
  | _ => none }
def AuditNamesWrongFalsely : Prop := auditNamesRow.holds Tryz.pinned (OpenSpec.ofChange auditNamesWrong)

/- THE SECOND FORM. 'bulk': how many values and letters a reading holds, each counted each time it is reached (what is shared counts as often as it is met; a slice's spare places count too). A statement '..UptoSaid' is the law's where the arguments, and the package variables that the reading takes, are together of bulk at most 1048576: NARROWER than '..Said'. Prove '..Said' where nothing that the law and all that it calls make is longer than what came in: it says more and counts as full. Else prove '..UptoSaid'. A law counts once. -/
mutual
def uptoBulk {H : Type} : DataW H → Nat
  | .lit (.string bytes) => bytes.length + 1
  | .lit _ => 1
  | .nil => 1
  | .ptr d => uptoBulk d + 1
  | .slice elems spare => uptoBulkAll elems + uptoBulkAll spare + 1
  | .agg parts => uptoBulkAll parts + 1
  | .iface _ d => uptoBulk d + 1
  | .map entries => uptoBulkEntries entries + 1
  | .held _ => 1
def uptoBulkAll {H : Type} : List (DataW H) → Nat
  | [] => 0
  | d :: r => uptoBulk d + uptoBulkAll r
def uptoBulkEntries {H : Type} : List (Lit × DataW H) → Nat
  | [] => 0
  | x :: r => uptoBulkEntry x + uptoBulkEntries r
def uptoBulkEntry {H : Type} : Lit × DataW H → Nat
  | (.string bytes, d) => bytes.length + uptoBulk d + 1
  | (_, d) => uptoBulk d + 1
 end
def uptoSmall : (H : Type) → List (DataW H) → Bool := fun _ ds => decide (uptoBulkAll ds ≤ 1048576)
def OpenSpec.upto (s : _root_.Go.ChangeSpec) : _root_.Go.OpenSpec := { _root_.Go.OpenSpec.ofChange s with cond := some uptoSmall }

/-- 'roundelaylaw27.ModelNews', WHERE WHAT IT READS IS OF BULK AT MOST 1048576: true; the input reads as it did. -/
def modelNewsUptoRow : OpenClaim := { program := "ytmiimpmfkjcjlaagreat", sum := "4349ad5aa420cc663ca262b1718a2bcaa5ab2b7f6edf75a9a7d7d9281f80a354", func := "roundelay/roundelaylaw27.ModelNews", spec := "modelNews", unfollowed := true, recurses := true, apart := false, narrowed := true }
def ModelNewsUptoSaid : Prop := modelNewsUptoRow.holds Tryz.pinned (OpenSpec.upto modelNewsSpec)

/-- 'roundelaylaw29.SoloAnswers', WHERE WHAT IT READS IS OF BULK AT MOST 1048576: true; the input reads as it did. -/
def soloAnswersUptoRow : OpenClaim := { program := "ytmiimpmfkjcjlaagreat", sum := "4349ad5aa420cc663ca262b1718a2bcaa5ab2b7f6edf75a9a7d7d9281f80a354", func := "roundelay/roundelaylaw29.SoloAnswers", spec := "soloAnswers", unfollowed := true, recurses := true, apart := false, narrowed := true }
def SoloAnswersUptoSaid : Prop := soloAnswersUptoRow.holds Tryz.pinned (OpenSpec.upto soloAnswersSpec)

/-- 'roundelaylaw43.SearchKeys', WHERE WHAT IT READS IS OF BULK AT MOST 1048576: true; the input reads as it did. -/
def searchKeysUptoRow : OpenClaim := { program := "ytmiimpmfkjcjlaagreat", sum := "4349ad5aa420cc663ca262b1718a2bcaa5ab2b7f6edf75a9a7d7d9281f80a354", func := "roundelay/roundelaylaw43.SearchKeys", spec := "searchKeys", unfollowed := true, recurses := true, apart := false, narrowed := true }
def SearchKeysUptoSaid : Prop := searchKeysUptoRow.holds Tryz.pinned (OpenSpec.upto searchKeysSpec)

/-- 'roundelaylaw28.LinearWrong', WHERE WHAT IT READS IS OF BULK AT MOST 1048576: true; the input reads as it did. -/
def linearWrongUptoRow : OpenClaim := { program := "ytmiimpmfkjcjlaagreat", sum := "4349ad5aa420cc663ca262b1718a2bcaa5ab2b7f6edf75a9a7d7d9281f80a354", func := "roundelay/roundelaylaw28.LinearWrong", spec := "linearWrong", unfollowed := true, recurses := true, apart := false, narrowed := true }
def LinearWrongUptoSaid : Prop := linearWrongUptoRow.holds Tryz.pinned (OpenSpec.upto linearWrongSpec)

/-- 'roundelaylaw28.LinearWhole', WHERE WHAT IT READS IS OF BULK AT MOST 1048576: true; the input reads as it did. -/
def linearWholeUptoRow : OpenClaim := { program := "ytmiimpmfkjcjlaagreat", sum := "4349ad5aa420cc663ca262b1718a2bcaa5ab2b7f6edf75a9a7d7d9281f80a354", func := "roundelay/roundelaylaw28.LinearWhole", spec := "linearWhole", unfollowed := true, recurses := true, apart := false, narrowed := true }
def LinearWholeUptoSaid : Prop := linearWholeUptoRow.holds Tryz.pinned (OpenSpec.upto linearWholeSpec)

/-- 'roundelaylaw34.AuditNames', WHERE WHAT IT READS IS OF BULK AT MOST 1048576: true; the input reads as it did. -/
def auditNamesUptoRow : OpenClaim := { program := "ytmiimpmfkjcjlaagreat", sum := "4349ad5aa420cc663ca262b1718a2bcaa5ab2b7f6edf75a9a7d7d9281f80a354", func := "roundelay/roundelaylaw34.AuditNames", spec := "auditNames", unfollowed := true, recurses := true, apart := false, narrowed := true }
def AuditNamesUptoSaid : Prop := auditNamesUptoRow.holds Tryz.pinned (OpenSpec.upto auditNamesSpec)

end Rows
end Go.Proofs.YtmiimpmfkjcjlaaGreat
