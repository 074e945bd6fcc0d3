/-
  NARROWER THAN 'FOR EVERY INPUT', by the rows' own cells (each row's printed sentence says how): FnExactReplaceDef: loops · FnExactAffectedDefs: loops.
  DERIVED. THE GIVEN ROWS OF THIS SEAT. 2 by the template 'for every input the law returns true; each argument reads behind the call as it read before'; 0 by the template 'total and deterministic' (their statements: YtcidmkcicagpaaaGreatTotals.lean).
  GIVEN WITH THE SEED: the statements are not yours to turn. If you find one false, say at which input.
  Laid BY PROGRAM, IN A SANDBOX (cutbox-rows.mjs): the forced cells as the released guide's own fill.sh prints them over the translation 87db83ad1bdfab0d… (all of the seat's roots in one cut). By AI agents, Wed Nov 11 2026. No macro, syntax, notation, axiom, sorry.
-/
import Derived.Test.YtcidmkcicagpaaaGreatChecked
import GoSem.Claim
import GoSem.ClaimJoined
import GoSem.ClaimMapViews
import Derived.JoinedTies
import Derived.KernelRfl
namespace Go.Proofs.YtcidmkcicagpaaaGreat
/- THE CELL 'sum', in the pinned program and in every row, IS THE sha256 OF THE DUMP (.gsa) THAT YtcidmkcicagpaaaGreatProg.lean LOADS. Nothing in Lean hashes anything: it is a label: what it is worth is what the hold of that sum in a sandbox is worth. -/
noncomputable def Tryz.pinned : Pinned := { name := "ytcidmkcicagpaaagreat", sum := "87db83ad1bdfab0d257050e10db15ae30c2a388c206f7c3430dc3189afa81487", checked := Tryz.checked }
namespace Rows
def none {H : Type} : Left H := { results := [], args := [] }

/-- 'laws.FnExactReplaceDef': WHATEVER THE INPUT: true; the input reads as it did. -/
def fnExactReplaceDefSpec : ChangeSpec := { name := "fnExactReplaceDef", fn := fun _ => fun
  | [d1, d2] => { results := [.lit (.bool true)], args := [d1, d2] }
  | _ => none }
def fnExactReplaceDefRow : OpenClaim := { program := "ytcidmkcicagpaaagreat", sum := "87db83ad1bdfab0d257050e10db15ae30c2a388c206f7c3430dc3189afa81487", func := "loop.example/g01074/laws.FnExactReplaceDef", spec := "fnExactReplaceDef", unfollowed := true, recurses := true, loops := true, apart := false }
def FnExactReplaceDefSaid : Prop := fnExactReplaceDefRow.holds Tryz.pinned (OpenSpec.ofChange fnExactReplaceDefSpec)

/-- ITS FALSE NEIGHBOUR: 'it returns false'. Refute it at one input. -/
def fnExactReplaceDefWrong : ChangeSpec := { name := "fnExactReplaceDef", fn := fun _ => fun
  | [d1, d2] => { results := [.lit (.bool false)], args := [d1, d2] }
  | _ => none }
def FnExactReplaceDefWrongFalsely : Prop := fnExactReplaceDefRow.holds Tryz.pinned (OpenSpec.ofChange fnExactReplaceDefWrong)

/-- 'laws.FnExactAffectedDefs': WHATEVER THE INPUT: true; the input reads as it did. -/
def fnExactAffectedDefsSpec : ChangeSpec := { name := "fnExactAffectedDefs", fn := fun _ => fun
  | [d1, d2] => { results := [.lit (.bool true)], args := [d1, d2] }
  | _ => none }
def fnExactAffectedDefsRow : OpenClaim := { program := "ytcidmkcicagpaaagreat", sum := "87db83ad1bdfab0d257050e10db15ae30c2a388c206f7c3430dc3189afa81487", func := "loop.example/g01074/laws.FnExactAffectedDefs", spec := "fnExactAffectedDefs", unfollowed := true, recurses := true, loops := true, apart := false }
def FnExactAffectedDefsSaid : Prop := fnExactAffectedDefsRow.holds Tryz.pinned (OpenSpec.ofChange fnExactAffectedDefsSpec)

/-- ITS FALSE NEIGHBOUR: 'it returns false'. Refute it at one input. -/
def fnExactAffectedDefsWrong : ChangeSpec := { name := "fnExactAffectedDefs", fn := fun _ => fun
  | [d1, d2] => { results := [.lit (.bool false)], args := [d1, d2] }
  | _ => none }
def FnExactAffectedDefsWrongFalsely : Prop := fnExactAffectedDefsRow.holds Tryz.pinned (OpenSpec.ofChange fnExactAffectedDefsWrong)

/- THE SECOND FORM. 'bulk': how many values and letters a reading holds, each counted each time it is reached (what is shared counts as often as it is met; a slice's spare places count too). A statement '..UptoSaid' is the law's where the arguments, and the package variables that the reading takes, are together of bulk at most 1048576: NARROWER than '..Said'. Prove '..Said' where nothing that the law and all that it calls make is longer than what came in: it says more and counts as full. Else prove '..UptoSaid'. A law counts once. -/
mutual
def uptoBulk {H : Type} : DataW H → Nat
  | .lit (.string bytes) => bytes.length + 1
  | .lit _ => 1
  | .nil => 1
  | .ptr d => uptoBulk d + 1
  | .slice elems spare => uptoBulkAll elems + uptoBulkAll spare + 1
  | .agg parts => uptoBulkAll parts + 1
  | .iface _ d => uptoBulk d + 1
  | .map entries => uptoBulkEntries entries + 1
  | .held _ => 1
def uptoBulkAll {H : Type} : List (DataW H) → Nat
  | [] => 0
  | d :: r => uptoBulk d + uptoBulkAll r
def uptoBulkEntries {H : Type} : List (Lit × DataW H) → Nat
  | [] => 0
  | x :: r => uptoBulkEntry x + uptoBulkEntries r
def uptoBulkEntry {H : Type} : Lit × DataW H → Nat
  | (.string bytes, d) => bytes.length + uptoBulk d + 1
  | (_, d) => uptoBulk d + 1
 end
def uptoSmall : (H : Type) → List (DataW H) → Bool := fun _ ds => decide (uptoBulkAll ds ≤ 1048576)
def OpenSpec.upto (s : _root_.Go.ChangeSpec) : _root_.Go.OpenSpec := { _root_.Go.OpenSpec.ofChange s with cond := some uptoSmall }

/-- 'laws.FnExactReplaceDef', WHERE WHAT IT READS IS OF BULK AT MOST 1048576: true; the input reads as it did. -/
def fnExactReplaceDefUptoRow : OpenClaim := { program := "ytcidmkcicagpaaagreat", sum := "87db83ad1bdfab0d257050e10db15ae30c2a388c206f7c3430dc3189afa81487", func := "loop.example/g01074/laws.FnExactReplaceDef", spec := "fnExactReplaceDef", unfollowed := true, recurses := true, loops := true, apart := false, narrowed := true }
def FnExactReplaceDefUptoSaid : Prop := fnExactReplaceDefUptoRow.holds Tryz.pinned (OpenSpec.upto fnExactReplaceDefSpec)

/-- 'laws.FnExactAffectedDefs', WHERE WHAT IT READS IS OF BULK AT MOST 1048576: true; the input reads as it did. -/
def fnExactAffectedDefsUptoRow : OpenClaim := { program := "ytcidmkcicagpaaagreat", sum := "87db83ad1bdfab0d257050e10db15ae30c2a388c206f7c3430dc3189afa81487", func := "loop.example/g01074/laws.FnExactAffectedDefs", spec := "fnExactAffectedDefs", unfollowed := true, recurses := true, loops := true, apart := false, narrowed := true }
def FnExactAffectedDefsUptoSaid : Prop := fnExactAffectedDefsUptoRow.holds Tryz.pinned (OpenSpec.upto fnExactAffectedDefsSpec)

end Rows
end Go.Proofs.YtcidmkcicagpaaaGreat
