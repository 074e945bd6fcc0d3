/-
  NARROWER THAN 'FOR EVERY INPUT', by the rows' own cells (each row's printed sentence says how): FnExactSameCache: loops · FnExactValidCache: loops.
  DERIVED. THE GIVEN ROWS OF THIS SEAT. 3 by the template 'for every input the law returns true; each argument reads behind the call as it read before'; 0 by the template 'total and deterministic' (their statements: YtjdeehcbhpakhaaTotals.lean).
  GIVEN WITH THE SEED: the statements are not yours to turn. If you find one false, say at which input.
  Laid BY PROGRAM, IN A SANDBOX (cutbox-rows.mjs): the forced cells as the released guide's own fill.sh prints them over the translation ecdb2a5309411aac… (all of the seat's roots in one cut). By AI agents, Wed Nov 11 2026. No macro, syntax, notation, axiom, sorry.
-/
import Derived.Test.YtjdeehcbhpakhaaChecked
import GoSem.Claim
import GoSem.ClaimJoined
import GoSem.ClaimMapViews
import Derived.JoinedTies
import Derived.KernelRfl
namespace Go.Proofs.Ytjdeehcbhpakhaa
/- THE CELL 'sum', in the pinned program and in every row, IS THE sha256 OF THE DUMP (.gsa) THAT YtjdeehcbhpakhaaProg.lean LOADS. Nothing in Lean hashes anything: it is a label: what it is worth is what the hold of that sum in a sandbox is worth. -/
noncomputable def Try.pinned : Pinned := { name := "ytjdeehcbhpakhaa", sum := "ecdb2a5309411aac2240c7f2c29668b61f97e7533be6c5fc9c8772eaa53a303a", checked := Try.checked }
namespace Rows
def none {H : Type} : Left H := { results := [], args := [] }

/-- 'laws.FnExactNewCache': WHATEVER THE INPUT: true; the input reads as it did. -/
def fnExactNewCacheSpec : ChangeSpec := { name := "fnExactNewCache", fn := fun _ => fun
  | [d] => { results := [.lit (.bool true)], args := [d] }
  | _ => none }
def fnExactNewCacheRow : OpenClaim := { program := "ytjdeehcbhpakhaa", sum := "ecdb2a5309411aac2240c7f2c29668b61f97e7533be6c5fc9c8772eaa53a303a", func := "loop.example/g01074/laws.FnExactNewCache", spec := "fnExactNewCache", recurses := true, apart := false }
def FnExactNewCacheSaid : Prop := fnExactNewCacheRow.holds Try.pinned (OpenSpec.ofChange fnExactNewCacheSpec)

/-- ITS FALSE NEIGHBOUR: 'it returns false'. Refute it at one input. -/
def fnExactNewCacheWrong : ChangeSpec := { name := "fnExactNewCache", fn := fun _ => fun
  | [d] => { results := [.lit (.bool false)], args := [d] }
  | _ => none }
def FnExactNewCacheWrongFalsely : Prop := fnExactNewCacheRow.holds Try.pinned (OpenSpec.ofChange fnExactNewCacheWrong)

/-- 'laws.FnExactSameCache': WHATEVER THE INPUT: true; the input reads as it did. -/
def fnExactSameCacheSpec : ChangeSpec := { name := "fnExactSameCache", fn := fun _ => fun
  | [d1, d2] => { results := [.lit (.bool true)], args := [d1, d2] }
  | _ => none }
def fnExactSameCacheRow : OpenClaim := { program := "ytjdeehcbhpakhaa", sum := "ecdb2a5309411aac2240c7f2c29668b61f97e7533be6c5fc9c8772eaa53a303a", func := "loop.example/g01074/laws.FnExactSameCache", spec := "fnExactSameCache", unfollowed := true, recurses := true, loops := true, apart := false }
def FnExactSameCacheSaid : Prop := fnExactSameCacheRow.holds Try.pinned (OpenSpec.ofChange fnExactSameCacheSpec)

/-- ITS FALSE NEIGHBOUR: 'it returns false'. Refute it at one input. -/
def fnExactSameCacheWrong : ChangeSpec := { name := "fnExactSameCache", fn := fun _ => fun
  | [d1, d2] => { results := [.lit (.bool false)], args := [d1, d2] }
  | _ => none }
def FnExactSameCacheWrongFalsely : Prop := fnExactSameCacheRow.holds Try.pinned (OpenSpec.ofChange fnExactSameCacheWrong)

/-- 'laws.FnExactValidCache': WHATEVER THE INPUT: true; the input reads as it did. -/
def fnExactValidCacheSpec : ChangeSpec := { name := "fnExactValidCache", fn := fun _ => fun
  | [d] => { results := [.lit (.bool true)], args := [d] }
  | _ => none }
def fnExactValidCacheRow : OpenClaim := { program := "ytjdeehcbhpakhaa", sum := "ecdb2a5309411aac2240c7f2c29668b61f97e7533be6c5fc9c8772eaa53a303a", func := "loop.example/g01074/laws.FnExactValidCache", spec := "fnExactValidCache", unfollowed := true, recurses := true, loops := true, apart := false }
def FnExactValidCacheSaid : Prop := fnExactValidCacheRow.holds Try.pinned (OpenSpec.ofChange fnExactValidCacheSpec)

/-- ITS FALSE NEIGHBOUR: 'it returns false'. Refute it at one input. -/
def fnExactValidCacheWrong : ChangeSpec := { name := "fnExactValidCache", fn := fun _ => fun
  | [d] => { results := [.lit (.bool false)], args := [d] }
  | _ => none }
def FnExactValidCacheWrongFalsely : Prop := fnExactValidCacheRow.holds Try.pinned (OpenSpec.ofChange fnExactValidCacheWrong)

/- THE SECOND FORM. 'bulk': how many values and letters a reading holds, each counted each time it is reached (what is shared counts as often as it is met; a slice's spare places count too). A statement '..UptoSaid' is the law's where the arguments, and the package variables that the reading takes, are together of bulk at most 1048576: NARROWER than '..Said'. Prove '..Said' where nothing that the law and all that it calls make is longer than what came in: it says more and counts as full. Else prove '..UptoSaid'. A law counts once. -/
mutual
def uptoBulk {H : Type} : DataW H → Nat
  | .lit (.string bytes) => bytes.length + 1
  | .lit _ => 1
  | .nil => 1
  | .ptr d => uptoBulk d + 1
  | .slice elems spare => uptoBulkAll elems + uptoBulkAll spare + 1
  | .agg parts => uptoBulkAll parts + 1
  | .iface _ d => uptoBulk d + 1
  | .map entries => uptoBulkEntries entries + 1
  | .held _ => 1
def uptoBulkAll {H : Type} : List (DataW H) → Nat
  | [] => 0
  | d :: r => uptoBulk d + uptoBulkAll r
def uptoBulkEntries {H : Type} : List (Lit × DataW H) → Nat
  | [] => 0
  | x :: r => uptoBulkEntry x + uptoBulkEntries r
def uptoBulkEntry {H : Type} : Lit × DataW H → Nat
  | (.string bytes, d) => bytes.length + uptoBulk d + 1
  | (_, d) => uptoBulk d + 1
 end
def uptoSmall : (H : Type) → List (DataW H) → Bool := fun _ ds => decide (uptoBulkAll ds ≤ 1048576)
def OpenSpec.upto (s : _root_.Go.ChangeSpec) : _root_.Go.OpenSpec := { _root_.Go.OpenSpec.ofChange s with cond := some uptoSmall }

/-- 'laws.FnExactNewCache', WHERE WHAT IT READS IS OF BULK AT MOST 1048576: true; the input reads as it did. -/
def fnExactNewCacheUptoRow : OpenClaim := { program := "ytjdeehcbhpakhaa", sum := "ecdb2a5309411aac2240c7f2c29668b61f97e7533be6c5fc9c8772eaa53a303a", func := "loop.example/g01074/laws.FnExactNewCache", spec := "fnExactNewCache", recurses := true, apart := false, narrowed := true }
def FnExactNewCacheUptoSaid : Prop := fnExactNewCacheUptoRow.holds Try.pinned (OpenSpec.upto fnExactNewCacheSpec)

/-- 'laws.FnExactSameCache', WHERE WHAT IT READS IS OF BULK AT MOST 1048576: true; the input reads as it did. -/
def fnExactSameCacheUptoRow : OpenClaim := { program := "ytjdeehcbhpakhaa", sum := "ecdb2a5309411aac2240c7f2c29668b61f97e7533be6c5fc9c8772eaa53a303a", func := "loop.example/g01074/laws.FnExactSameCache", spec := "fnExactSameCache", unfollowed := true, recurses := true, loops := true, apart := false, narrowed := true }
def FnExactSameCacheUptoSaid : Prop := fnExactSameCacheUptoRow.holds Try.pinned (OpenSpec.upto fnExactSameCacheSpec)

/-- 'laws.FnExactValidCache', WHERE WHAT IT READS IS OF BULK AT MOST 1048576: true; the input reads as it did. -/
def fnExactValidCacheUptoRow : OpenClaim := { program := "ytjdeehcbhpakhaa", sum := "ecdb2a5309411aac2240c7f2c29668b61f97e7533be6c5fc9c8772eaa53a303a", func := "loop.example/g01074/laws.FnExactValidCache", spec := "fnExactValidCache", unfollowed := true, recurses := true, loops := true, apart := false, narrowed := true }
def FnExactValidCacheUptoSaid : Prop := fnExactValidCacheUptoRow.holds Try.pinned (OpenSpec.upto fnExactValidCacheSpec)

end Rows
end Go.Proofs.Ytjdeehcbhpakhaa
