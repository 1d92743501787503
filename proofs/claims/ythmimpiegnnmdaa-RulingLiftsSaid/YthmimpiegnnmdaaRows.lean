/-
  NARROWER THAN 'FOR EVERY INPUT', by the rows' own cells (each row's printed sentence says how): RulingMatchesReference: loops · RulingTakes: loops · RulingOrder: loops · RulingKnown: loops · RulingFinal: loops · RulingLifts: loops.
  DERIVED. THE GIVEN ROWS OF THIS SEAT. 6 by the template 'for every input the law returns true; each argument reads behind the call as it read before'; 0 by the template 'total and deterministic' (their statements: YthmimpiegnnmdaaTotals.lean).
  GIVEN WITH THE SEED: the statements are not yours to turn. If you find one false, say at which input.
  Laid BY PROGRAM, IN A SANDBOX (cutbox-rows.mjs): the forced cells as the released guide's own fill.sh prints them over the translation 9ab8ebf5d000e683… (all of the seat's roots in one cut). By AI agents, Wed Nov 11 2026. No macro, syntax, notation, axiom, sorry.
-/
import Derived.Test.YthmimpiegnnmdaaChecked
import GoSem.Claim
import GoSem.ClaimJoined
import GoSem.ClaimMapViews
import Derived.JoinedTies
import Derived.KernelRfl
namespace Go.Proofs.Ythmimpiegnnmdaa
/- THE CELL 'sum', in the pinned program and in every row, IS THE sha256 OF THE DUMP (.gsa) THAT YthmimpiegnnmdaaProg.lean LOADS. Nothing in Lean hashes anything: it is a label: what it is worth is what the hold of that sum in a sandbox is worth. -/
noncomputable def Try.pinned : Pinned := { name := "ythmimpiegnnmdaa", sum := "9ab8ebf5d000e683724b0fd189f58af0cad741cdea27fa2c7d1cdc6c2aad3a00", checked := Try.checked }
namespace Rows
def none {H : Type} : Left H := { results := [], args := [] }

/-- 'pandectlaw26.RulingMatchesReference': WHATEVER THE INPUT: true; the input reads as it did. -/
def rulingMatchesReferenceSpec : ChangeSpec := { name := "rulingMatchesReference", fn := fun _ => fun
  | [d1, d2, d3, d4] => { results := [.lit (.bool true)], args := [d1, d2, d3, d4] }
  | _ => none }
def rulingMatchesReferenceRow : OpenClaim := { program := "ythmimpiegnnmdaa", sum := "9ab8ebf5d000e683724b0fd189f58af0cad741cdea27fa2c7d1cdc6c2aad3a00", func := "pandect/pandectlaw26.RulingMatchesReference", spec := "rulingMatchesReference", unfollowed := true, recurses := true, loops := true, apart := false }
def RulingMatchesReferenceSaid : Prop := rulingMatchesReferenceRow.holds Try.pinned (OpenSpec.ofChange rulingMatchesReferenceSpec)

/-- ITS FALSE NEIGHBOUR: 'it returns false'. Refute it at one input. -/
def rulingMatchesReferenceWrong : ChangeSpec := { name := "rulingMatchesReference", fn := fun _ => fun
  | [d1, d2, d3, d4] => { results := [.lit (.bool false)], args := [d1, d2, d3, d4] }
  | _ => none }
def RulingMatchesReferenceWrongFalsely : Prop := rulingMatchesReferenceRow.holds Try.pinned (OpenSpec.ofChange rulingMatchesReferenceWrong)

/-- 'pandectlaw26.RulingTakes': WHATEVER THE INPUT: true; the input reads as it did. -/
def rulingTakesSpec : ChangeSpec := { name := "rulingTakes", fn := fun _ => fun
  | [d1, d2, d3] => { results := [.lit (.bool true)], args := [d1, d2, d3] }
  | _ => none }
def rulingTakesRow : OpenClaim := { program := "ythmimpiegnnmdaa", sum := "9ab8ebf5d000e683724b0fd189f58af0cad741cdea27fa2c7d1cdc6c2aad3a00", func := "pandect/pandectlaw26.RulingTakes", spec := "rulingTakes", unfollowed := true, recurses := true, loops := true, apart := false }
def RulingTakesSaid : Prop := rulingTakesRow.holds Try.pinned (OpenSpec.ofChange rulingTakesSpec)

/-- ITS FALSE NEIGHBOUR: 'it returns false'. Refute it at one input. -/
def rulingTakesWrong : ChangeSpec := { name := "rulingTakes", fn := fun _ => fun
  | [d1, d2, d3] => { results := [.lit (.bool false)], args := [d1, d2, d3] }
  | _ => none }
def RulingTakesWrongFalsely : Prop := rulingTakesRow.holds Try.pinned (OpenSpec.ofChange rulingTakesWrong)

/-- 'pandectlaw26.RulingOrder': WHATEVER THE INPUT: true; the input reads as it did. -/
def rulingOrderSpec : ChangeSpec := { name := "rulingOrder", fn := fun _ => fun
  | [d1, d2, d3] => { results := [.lit (.bool true)], args := [d1, d2, d3] }
  | _ => none }
def rulingOrderRow : OpenClaim := { program := "ythmimpiegnnmdaa", sum := "9ab8ebf5d000e683724b0fd189f58af0cad741cdea27fa2c7d1cdc6c2aad3a00", func := "pandect/pandectlaw26.RulingOrder", spec := "rulingOrder", unfollowed := true, recurses := true, loops := true, apart := false }
def RulingOrderSaid : Prop := rulingOrderRow.holds Try.pinned (OpenSpec.ofChange rulingOrderSpec)

/-- ITS FALSE NEIGHBOUR: 'it returns false'. Refute it at one input. -/
def rulingOrderWrong : ChangeSpec := { name := "rulingOrder", fn := fun _ => fun
  | [d1, d2, d3] => { results := [.lit (.bool false)], args := [d1, d2, d3] }
  | _ => none }
def RulingOrderWrongFalsely : Prop := rulingOrderRow.holds Try.pinned (OpenSpec.ofChange rulingOrderWrong)

/-- 'pandectlaw26.RulingKnown': WHATEVER THE INPUT: true; the input reads as it did. -/
def rulingKnownSpec : ChangeSpec := { name := "rulingKnown", fn := fun _ => fun
  | [d1, d2, d3, d4] => { results := [.lit (.bool true)], args := [d1, d2, d3, d4] }
  | _ => none }
def rulingKnownRow : OpenClaim := { program := "ythmimpiegnnmdaa", sum := "9ab8ebf5d000e683724b0fd189f58af0cad741cdea27fa2c7d1cdc6c2aad3a00", func := "pandect/pandectlaw26.RulingKnown", spec := "rulingKnown", unfollowed := true, recurses := true, loops := true, apart := false }
def RulingKnownSaid : Prop := rulingKnownRow.holds Try.pinned (OpenSpec.ofChange rulingKnownSpec)

/-- ITS FALSE NEIGHBOUR: 'it returns false'. Refute it at one input. -/
def rulingKnownWrong : ChangeSpec := { name := "rulingKnown", fn := fun _ => fun
  | [d1, d2, d3, d4] => { results := [.lit (.bool false)], args := [d1, d2, d3, d4] }
  | _ => none }
def RulingKnownWrongFalsely : Prop := rulingKnownRow.holds Try.pinned (OpenSpec.ofChange rulingKnownWrong)

/-- 'pandectlaw26.RulingFinal': WHATEVER THE INPUT: true; the input reads as it did. -/
def rulingFinalSpec : ChangeSpec := { name := "rulingFinal", fn := fun _ => fun
  | [d1, d2] => { results := [.lit (.bool true)], args := [d1, d2] }
  | _ => none }
def rulingFinalRow : OpenClaim := { program := "ythmimpiegnnmdaa", sum := "9ab8ebf5d000e683724b0fd189f58af0cad741cdea27fa2c7d1cdc6c2aad3a00", func := "pandect/pandectlaw26.RulingFinal", spec := "rulingFinal", unfollowed := true, recurses := true, loops := true, apart := false }
def RulingFinalSaid : Prop := rulingFinalRow.holds Try.pinned (OpenSpec.ofChange rulingFinalSpec)

/-- ITS FALSE NEIGHBOUR: 'it returns false'. Refute it at one input. -/
def rulingFinalWrong : ChangeSpec := { name := "rulingFinal", fn := fun _ => fun
  | [d1, d2] => { results := [.lit (.bool false)], args := [d1, d2] }
  | _ => none }
def RulingFinalWrongFalsely : Prop := rulingFinalRow.holds Try.pinned (OpenSpec.ofChange rulingFinalWrong)

/-- 'pandectlaw26.RulingLifts': WHATEVER THE INPUT: true; the input reads as it did. -/
def rulingLiftsSpec : ChangeSpec := { name := "rulingLifts", fn := fun _ => fun
  | [d1, d2, d3] => { results := [.lit (.bool true)], args := [d1, d2, d3] }
  | _ => none }
def rulingLiftsRow : OpenClaim := { program := "ythmimpiegnnmdaa", sum := "9ab8ebf5d000e683724b0fd189f58af0cad741cdea27fa2c7d1cdc6c2aad3a00", func := "pandect/pandectlaw26.RulingLifts", spec := "rulingLifts", unfollowed := true, recurses := true, loops := true, apart := false }
def RulingLiftsSaid : Prop := rulingLiftsRow.holds Try.pinned (OpenSpec.ofChange rulingLiftsSpec)

/-- ITS FALSE NEIGHBOUR: 'it returns false'. Refute it at one input. -/
def rulingLiftsWrong : ChangeSpec := { name := "rulingLifts", fn := fun _ => fun
  | [d1, d2, d3] => { results := [.lit (.bool false)], args := [d1, d2, d3] }
  | _ => none }
def RulingLiftsWrongFalsely : Prop := rulingLiftsRow.holds Try.pinned (OpenSpec.ofChange rulingLiftsWrong)

/- THE SECOND FORM. 'bulk': how many values and letters a reading holds, each counted each time it is reached (what is shared counts as often as it is met; a slice's spare places count too). A statement '..UptoSaid' is the law's where the arguments, and the package variables that the reading takes, are together of bulk at most 1048576: NARROWER than '..Said'. Prove '..Said' where nothing that the law and all that it calls make is longer than what came in: it says more and counts as full. Else prove '..UptoSaid'. A law counts once. -/
mutual
def uptoBulk {H : Type} : DataW H → Nat
  | .lit (.string bytes) => bytes.length + 1
  | .lit _ => 1
  | .nil => 1
  | .ptr d => uptoBulk d + 1
  | .slice elems spare => uptoBulkAll elems + uptoBulkAll spare + 1
  | .agg parts => uptoBulkAll parts + 1
  | .iface _ d => uptoBulk d + 1
  | .map entries => uptoBulkEntries entries + 1
  | .held _ => 1
def uptoBulkAll {H : Type} : List (DataW H) → Nat
  | [] => 0
  | d :: r => uptoBulk d + uptoBulkAll r
def uptoBulkEntries {H : Type} : List (Lit × DataW H) → Nat
  | [] => 0
  | x :: r => uptoBulkEntry x + uptoBulkEntries r
def uptoBulkEntry {H : Type} : Lit × DataW H → Nat
  | (.string bytes, d) => bytes.length + uptoBulk d + 1
  | (_, d) => uptoBulk d + 1
 end
def uptoSmall : (H : Type) → List (DataW H) → Bool := fun _ ds => decide (uptoBulkAll ds ≤ 1048576)
def OpenSpec.upto (s : _root_.Go.ChangeSpec) : _root_.Go.OpenSpec := { _root_.Go.OpenSpec.ofChange s with cond := some uptoSmall }

/-- 'pandectlaw26.RulingMatchesReference', WHERE WHAT IT READS IS OF BULK AT MOST 1048576: true; the input reads as it did. -/
def rulingMatchesReferenceUptoRow : OpenClaim := { program := "ythmimpiegnnmdaa", sum := "9ab8ebf5d000e683724b0fd189f58af0cad741cdea27fa2c7d1cdc6c2aad3a00", func := "pandect/pandectlaw26.RulingMatchesReference", spec := "rulingMatchesReference", unfollowed := true, recurses := true, loops := true, apart := false, narrowed := true }
def RulingMatchesReferenceUptoSaid : Prop := rulingMatchesReferenceUptoRow.holds Try.pinned (OpenSpec.upto rulingMatchesReferenceSpec)

/-- 'pandectlaw26.RulingTakes', WHERE WHAT IT READS IS OF BULK AT MOST 1048576: true; the input reads as it did. -/
def rulingTakesUptoRow : OpenClaim := { program := "ythmimpiegnnmdaa", sum := "9ab8ebf5d000e683724b0fd189f58af0cad741cdea27fa2c7d1cdc6c2aad3a00", func := "pandect/pandectlaw26.RulingTakes", spec := "rulingTakes", unfollowed := true, recurses := true, loops := true, apart := false, narrowed := true }
def RulingTakesUptoSaid : Prop := rulingTakesUptoRow.holds Try.pinned (OpenSpec.upto rulingTakesSpec)

/-- 'pandectlaw26.RulingOrder', WHERE WHAT IT READS IS OF BULK AT MOST 1048576: true; the input reads as it did. -/
def rulingOrderUptoRow : OpenClaim := { program := "ythmimpiegnnmdaa", sum := "9ab8ebf5d000e683724b0fd189f58af0cad741cdea27fa2c7d1cdc6c2aad3a00", func := "pandect/pandectlaw26.RulingOrder", spec := "rulingOrder", unfollowed := true, recurses := true, loops := true, apart := false, narrowed := true }
def RulingOrderUptoSaid : Prop := rulingOrderUptoRow.holds Try.pinned (OpenSpec.upto rulingOrderSpec)

/-- 'pandectlaw26.RulingKnown', WHERE WHAT IT READS IS OF BULK AT MOST 1048576: true; the input reads as it did. -/
def rulingKnownUptoRow : OpenClaim := { program := "ythmimpiegnnmdaa", sum := "9ab8ebf5d000e683724b0fd189f58af0cad741cdea27fa2c7d1cdc6c2aad3a00", func := "pandect/pandectlaw26.RulingKnown", spec := "rulingKnown", unfollowed := true, recurses := true, loops := true, apart := false, narrowed := true }
def RulingKnownUptoSaid : Prop := rulingKnownUptoRow.holds Try.pinned (OpenSpec.upto rulingKnownSpec)

/-- 'pandectlaw26.RulingFinal', WHERE WHAT IT READS IS OF BULK AT MOST 1048576: true; the input reads as it did. -/
def rulingFinalUptoRow : OpenClaim := { program := "ythmimpiegnnmdaa", sum := "9ab8ebf5d000e683724b0fd189f58af0cad741cdea27fa2c7d1cdc6c2aad3a00", func := "pandect/pandectlaw26.RulingFinal", spec := "rulingFinal", unfollowed := true, recurses := true, loops := true, apart := false, narrowed := true }
def RulingFinalUptoSaid : Prop := rulingFinalUptoRow.holds Try.pinned (OpenSpec.upto rulingFinalSpec)

/-- 'pandectlaw26.RulingLifts', WHERE WHAT IT READS IS OF BULK AT MOST 1048576: true; the input reads as it did. -/
def rulingLiftsUptoRow : OpenClaim := { program := "ythmimpiegnnmdaa", sum := "9ab8ebf5d000e683724b0fd189f58af0cad741cdea27fa2c7d1cdc6c2aad3a00", func := "pandect/pandectlaw26.RulingLifts", spec := "rulingLifts", unfollowed := true, recurses := true, loops := true, apart := false, narrowed := true }
def RulingLiftsUptoSaid : Prop := rulingLiftsUptoRow.holds Try.pinned (OpenSpec.upto rulingLiftsSpec)

end Rows
end Go.Proofs.Ythmimpiegnnmdaa
