/-
  No cell of these rows narrows 'for every input' (looked for: loops, veiled, ifaces, maps, wideKeys, modest, calm, conditions, laid).
  DERIVED. THE GIVEN ROWS OF THIS SEAT. 16 by the template 'for every input the law returns true; each argument reads behind the call as it read before'; 0 by the template 'total and deterministic' (their statements: YtjllidnkndhgmaaTotals.lean).
  GIVEN WITH THE SEED: the statements are not yours to turn. If you find one false, say at which input.
  Laid BY PROGRAM, IN A SANDBOX (cutbox-rows.mjs): the forced cells as the released guide's own fill.sh prints them over the translation c0fdfa89298121ae… (all of the seat's roots in one cut). By AI agents, Wed Nov 11 2026. No macro, syntax, notation, axiom, sorry.
-/
import Derived.Test.YtjllidnkndhgmaaChecked
import GoSem.Claim
import GoSem.ClaimJoined
import GoSem.ClaimMapViews
import Derived.JoinedTies
import Derived.KernelRfl
namespace Go.Proofs.Ytjllidnkndhgmaa
/- THE CELL 'sum', in the pinned program and in every row, IS THE sha256 OF THE DUMP (.gsa) THAT YtjllidnkndhgmaaProg.lean LOADS. Nothing in Lean hashes anything: it is a label: what it is worth is what the hold of that sum in a sandbox is worth. -/
noncomputable def Try.pinned : Pinned := { name := "ytjllidnkndhgmaa", sum := "c0fdfa89298121aedab10a93c12ca58869afce51b930be7a1d82ba83ad5dc2c8", checked := Try.checked }
namespace Rows
def none {H : Type} : Left H := { results := [], args := [] }

/-- 'laws.FnExactFromFixed': WHATEVER THE INPUT: true; the input reads as it did. -/
def fnExactFromFixedSpec : ChangeSpec := { name := "fnExactFromFixed", fn := fun _ => fun
  | [d] => { results := [.lit (.bool true)], args := [d] }
  | _ => none }
def fnExactFromFixedRow : OpenClaim := { program := "ytjllidnkndhgmaa", sum := "c0fdfa89298121aedab10a93c12ca58869afce51b930be7a1d82ba83ad5dc2c8", func := "loop.example/g03321/laws.FnExactFromFixed", spec := "fnExactFromFixed", apart := false }
def FnExactFromFixedSaid : Prop := fnExactFromFixedRow.holds Try.pinned (OpenSpec.ofChange fnExactFromFixedSpec)

/-- ITS FALSE NEIGHBOUR: 'it returns false'. Refute it at one input. -/
def fnExactFromFixedWrong : ChangeSpec := { name := "fnExactFromFixed", fn := fun _ => fun
  | [d] => { results := [.lit (.bool false)], args := [d] }
  | _ => none }
def FnExactFromFixedWrongFalsely : Prop := fnExactFromFixedRow.holds Try.pinned (OpenSpec.ofChange fnExactFromFixedWrong)

/-- 'laws.FnExactRoot': WHATEVER THE INPUT: true; the input reads as it did. -/
def fnExactRootSpec : ChangeSpec := { name := "fnExactRoot", fn := fun _ => fun
  | [d] => { results := [.lit (.bool true)], args := [d] }
  | _ => none }
def fnExactRootRow : OpenClaim := { program := "ytjllidnkndhgmaa", sum := "c0fdfa89298121aedab10a93c12ca58869afce51b930be7a1d82ba83ad5dc2c8", func := "loop.example/g03321/laws.FnExactRoot", spec := "fnExactRoot", apart := false }
def FnExactRootSaid : Prop := fnExactRootRow.holds Try.pinned (OpenSpec.ofChange fnExactRootSpec)

/-- ITS FALSE NEIGHBOUR: 'it returns false'. Refute it at one input. -/
def fnExactRootWrong : ChangeSpec := { name := "fnExactRoot", fn := fun _ => fun
  | [d] => { results := [.lit (.bool false)], args := [d] }
  | _ => none }
def FnExactRootWrongFalsely : Prop := fnExactRootRow.holds Try.pinned (OpenSpec.ofChange fnExactRootWrong)

/-- 'laws.FnExactTurn': WHATEVER THE INPUT: true; the input reads as it did. -/
def fnExactTurnSpec : ChangeSpec := { name := "fnExactTurn", fn := fun _ => fun
  | [d] => { results := [.lit (.bool true)], args := [d] }
  | _ => none }
def fnExactTurnRow : OpenClaim := { program := "ytjllidnkndhgmaa", sum := "c0fdfa89298121aedab10a93c12ca58869afce51b930be7a1d82ba83ad5dc2c8", func := "loop.example/g03321/laws.FnExactTurn", spec := "fnExactTurn", apart := false }
def FnExactTurnSaid : Prop := fnExactTurnRow.holds Try.pinned (OpenSpec.ofChange fnExactTurnSpec)

/-- ITS FALSE NEIGHBOUR: 'it returns false'. Refute it at one input. -/
def fnExactTurnWrong : ChangeSpec := { name := "fnExactTurn", fn := fun _ => fun
  | [d] => { results := [.lit (.bool false)], args := [d] }
  | _ => none }
def FnExactTurnWrongFalsely : Prop := fnExactTurnRow.holds Try.pinned (OpenSpec.ofChange fnExactTurnWrong)

/-- 'laws.FnRoots': WHATEVER THE INPUT: true; the input reads as it did. -/
def fnRootsSpec : ChangeSpec := { name := "fnRoots", fn := fun _ => fun
  | [d] => { results := [.lit (.bool true)], args := [d] }
  | _ => none }
def fnRootsRow : OpenClaim := { program := "ytjllidnkndhgmaa", sum := "c0fdfa89298121aedab10a93c12ca58869afce51b930be7a1d82ba83ad5dc2c8", func := "loop.example/g03321/laws.FnRoots", spec := "fnRoots", apart := false }
def FnRootsSaid : Prop := fnRootsRow.holds Try.pinned (OpenSpec.ofChange fnRootsSpec)

/-- ITS FALSE NEIGHBOUR: 'it returns false'. Refute it at one input. -/
def fnRootsWrong : ChangeSpec := { name := "fnRoots", fn := fun _ => fun
  | [d] => { results := [.lit (.bool false)], args := [d] }
  | _ => none }
def FnRootsWrongFalsely : Prop := fnRootsRow.holds Try.pinned (OpenSpec.ofChange fnRootsWrong)

/-- 'laws.FnClamped': WHATEVER THE INPUT: true; the input reads as it did. -/
def fnClampedSpec : ChangeSpec := { name := "fnClamped", fn := fun _ => fun
  | [d] => { results := [.lit (.bool true)], args := [d] }
  | _ => none }
def fnClampedRow : OpenClaim := { program := "ytjllidnkndhgmaa", sum := "c0fdfa89298121aedab10a93c12ca58869afce51b930be7a1d82ba83ad5dc2c8", func := "loop.example/g03321/laws.FnClamped", spec := "fnClamped", apart := false }
def FnClampedSaid : Prop := fnClampedRow.holds Try.pinned (OpenSpec.ofChange fnClampedSpec)

/-- ITS FALSE NEIGHBOUR: 'it returns false'. Refute it at one input. -/
def fnClampedWrong : ChangeSpec := { name := "fnClamped", fn := fun _ => fun
  | [d] => { results := [.lit (.bool false)], args := [d] }
  | _ => none }
def FnClampedWrongFalsely : Prop := fnClampedRow.holds Try.pinned (OpenSpec.ofChange fnClampedWrong)

/-- 'laws.FnWindsBack': WHATEVER THE INPUT: true; the input reads as it did. -/
def fnWindsBackSpec : ChangeSpec := { name := "fnWindsBack", fn := fun _ => fun
  | [d] => { results := [.lit (.bool true)], args := [d] }
  | _ => none }
def fnWindsBackRow : OpenClaim := { program := "ytjllidnkndhgmaa", sum := "c0fdfa89298121aedab10a93c12ca58869afce51b930be7a1d82ba83ad5dc2c8", func := "loop.example/g03321/laws.FnWindsBack", spec := "fnWindsBack", apart := false }
def FnWindsBackSaid : Prop := fnWindsBackRow.holds Try.pinned (OpenSpec.ofChange fnWindsBackSpec)

/-- ITS FALSE NEIGHBOUR: 'it returns false'. Refute it at one input. -/
def fnWindsBackWrong : ChangeSpec := { name := "fnWindsBack", fn := fun _ => fun
  | [d] => { results := [.lit (.bool false)], args := [d] }
  | _ => none }
def FnWindsBackWrongFalsely : Prop := fnWindsBackRow.holds Try.pinned (OpenSpec.ofChange fnWindsBackWrong)

/-- 'laws.FnBetweenAside': WHATEVER THE INPUT: true; the input reads as it did. -/
def fnBetweenAsideSpec : ChangeSpec := { name := "fnBetweenAside", fn := fun _ => fun
  | [d] => { results := [.lit (.bool true)], args := [d] }
  | _ => none }
def fnBetweenAsideRow : OpenClaim := { program := "ytjllidnkndhgmaa", sum := "c0fdfa89298121aedab10a93c12ca58869afce51b930be7a1d82ba83ad5dc2c8", func := "loop.example/g03321/laws.FnBetweenAside", spec := "fnBetweenAside", apart := false }
def FnBetweenAsideSaid : Prop := fnBetweenAsideRow.holds Try.pinned (OpenSpec.ofChange fnBetweenAsideSpec)

/-- ITS FALSE NEIGHBOUR: 'it returns false'. Refute it at one input. -/
def fnBetweenAsideWrong : ChangeSpec := { name := "fnBetweenAside", fn := fun _ => fun
  | [d] => { results := [.lit (.bool false)], args := [d] }
  | _ => none }
def FnBetweenAsideWrongFalsely : Prop := fnBetweenAsideRow.holds Try.pinned (OpenSpec.ofChange fnBetweenAsideWrong)

/-- 'laws.FnExactToFixed': WHATEVER THE INPUT: true; the input reads as it did. -/
def fnExactToFixedSpec : ChangeSpec := { name := "fnExactToFixed", fn := fun _ => fun
  | [d] => { results := [.lit (.bool true)], args := [d] }
  | _ => none }
def fnExactToFixedRow : OpenClaim := { program := "ytjllidnkndhgmaa", sum := "c0fdfa89298121aedab10a93c12ca58869afce51b930be7a1d82ba83ad5dc2c8", func := "loop.example/g03321/laws.FnExactToFixed", spec := "fnExactToFixed", inPlace := ["math.Float64bits", "math.Float64frombits"], apart := false }
def FnExactToFixedSaid : Prop := fnExactToFixedRow.holds Try.pinned (OpenSpec.ofChange fnExactToFixedSpec)

/-- ITS FALSE NEIGHBOUR: 'it returns false'. Refute it at one input. -/
def fnExactToFixedWrong : ChangeSpec := { name := "fnExactToFixed", fn := fun _ => fun
  | [d] => { results := [.lit (.bool false)], args := [d] }
  | _ => none }
def FnExactToFixedWrongFalsely : Prop := fnExactToFixedRow.holds Try.pinned (OpenSpec.ofChange fnExactToFixedWrong)

/-- 'laws.FnTurnsBack': WHATEVER THE INPUT: true; the input reads as it did. -/
def fnTurnsBackSpec : ChangeSpec := { name := "fnTurnsBack", fn := fun _ => fun
  | [d] => { results := [.lit (.bool true)], args := [d] }
  | _ => none }
def fnTurnsBackRow : OpenClaim := { program := "ytjllidnkndhgmaa", sum := "c0fdfa89298121aedab10a93c12ca58869afce51b930be7a1d82ba83ad5dc2c8", func := "loop.example/g03321/laws.FnTurnsBack", spec := "fnTurnsBack", inPlace := ["math.Float64bits", "math.Float64frombits"], unfollowed := true, recurses := true, apart := false }
def FnTurnsBackSaid : Prop := fnTurnsBackRow.holds Try.pinned (OpenSpec.ofChange fnTurnsBackSpec)

/-- ITS FALSE NEIGHBOUR: 'it returns false'. Refute it at one input. -/
def fnTurnsBackWrong : ChangeSpec := { name := "fnTurnsBack", fn := fun _ => fun
  | [d] => { results := [.lit (.bool false)], args := [d] }
  | _ => none }
def FnTurnsBackWrongFalsely : Prop := fnTurnsBackRow.holds Try.pinned (OpenSpec.ofChange fnTurnsBackWrong)

/-- 'laws.FnMeanAlike': WHATEVER THE INPUT: true; the input reads as it did. -/
def fnMeanAlikeSpec : ChangeSpec := { name := "fnMeanAlike", fn := fun _ => fun
  | [d] => { results := [.lit (.bool true)], args := [d] }
  | _ => none }
def fnMeanAlikeRow : OpenClaim := { program := "ytjllidnkndhgmaa", sum := "c0fdfa89298121aedab10a93c12ca58869afce51b930be7a1d82ba83ad5dc2c8", func := "loop.example/g03321/laws.FnMeanAlike", spec := "fnMeanAlike", apart := false }
def FnMeanAlikeSaid : Prop := fnMeanAlikeRow.holds Try.pinned (OpenSpec.ofChange fnMeanAlikeSpec)

/-- ITS FALSE NEIGHBOUR: 'it returns false'. Refute it at one input. -/
def fnMeanAlikeWrong : ChangeSpec := { name := "fnMeanAlike", fn := fun _ => fun
  | [d] => { results := [.lit (.bool false)], args := [d] }
  | _ => none }
def FnMeanAlikeWrongFalsely : Prop := fnMeanAlikeRow.holds Try.pinned (OpenSpec.ofChange fnMeanAlikeWrong)

/-- 'laws.FnFixedFloat': WHATEVER THE INPUT: true; the input reads as it did. -/
def fnFixedFloatSpec : ChangeSpec := { name := "fnFixedFloat", fn := fun _ => fun
  | [d] => { results := [.lit (.bool true)], args := [d] }
  | _ => none }
def fnFixedFloatRow : OpenClaim := { program := "ytjllidnkndhgmaa", sum := "c0fdfa89298121aedab10a93c12ca58869afce51b930be7a1d82ba83ad5dc2c8", func := "loop.example/g03321/laws.FnFixedFloat", spec := "fnFixedFloat", inPlace := ["math.Float64bits", "math.Float64frombits"], apart := false }
def FnFixedFloatSaid : Prop := fnFixedFloatRow.holds Try.pinned (OpenSpec.ofChange fnFixedFloatSpec)

/-- ITS FALSE NEIGHBOUR: 'it returns false'. Refute it at one input. -/
def fnFixedFloatWrong : ChangeSpec := { name := "fnFixedFloat", fn := fun _ => fun
  | [d] => { results := [.lit (.bool false)], args := [d] }
  | _ => none }
def FnFixedFloatWrongFalsely : Prop := fnFixedFloatRow.holds Try.pinned (OpenSpec.ofChange fnFixedFloatWrong)

/-- 'laws.FnDampStill': WHATEVER THE INPUT: true; the input reads as it did. -/
def fnDampStillSpec : ChangeSpec := { name := "fnDampStill", fn := fun _ => fun
  | [d] => { results := [.lit (.bool true)], args := [d] }
  | _ => none }
def fnDampStillRow : OpenClaim := { program := "ytjllidnkndhgmaa", sum := "c0fdfa89298121aedab10a93c12ca58869afce51b930be7a1d82ba83ad5dc2c8", func := "loop.example/g03321/laws.FnDampStill", spec := "fnDampStill", apart := false }
def FnDampStillSaid : Prop := fnDampStillRow.holds Try.pinned (OpenSpec.ofChange fnDampStillSpec)

/-- ITS FALSE NEIGHBOUR: 'it returns false'. Refute it at one input. -/
def fnDampStillWrong : ChangeSpec := { name := "fnDampStill", fn := fun _ => fun
  | [d] => { results := [.lit (.bool false)], args := [d] }
  | _ => none }
def FnDampStillWrongFalsely : Prop := fnDampStillRow.holds Try.pinned (OpenSpec.ofChange fnDampStillWrong)

/-- 'laws.FnUnits': WHATEVER THE INPUT: true; the input reads as it did. -/
def fnUnitsSpec : ChangeSpec := { name := "fnUnits", fn := fun _ => fun
  | [d] => { results := [.lit (.bool true)], args := [d] }
  | _ => none }
def fnUnitsRow : OpenClaim := { program := "ytjllidnkndhgmaa", sum := "c0fdfa89298121aedab10a93c12ca58869afce51b930be7a1d82ba83ad5dc2c8", func := "loop.example/g03321/laws.FnUnits", spec := "fnUnits", inPlace := ["math.Float64bits", "math.Float64frombits"], apart := false }
def FnUnitsSaid : Prop := fnUnitsRow.holds Try.pinned (OpenSpec.ofChange fnUnitsSpec)

/-- ITS FALSE NEIGHBOUR: 'it returns false'. Refute it at one input. -/
def fnUnitsWrong : ChangeSpec := { name := "fnUnits", fn := fun _ => fun
  | [d] => { results := [.lit (.bool false)], args := [d] }
  | _ => none }
def FnUnitsWrongFalsely : Prop := fnUnitsRow.holds Try.pinned (OpenSpec.ofChange fnUnitsWrong)

/-- 'laws.FnBearingTwice': WHATEVER THE INPUT: true; the input reads as it did. -/
def fnBearingTwiceSpec : ChangeSpec := { name := "fnBearingTwice", fn := fun _ => fun
  | [d] => { results := [.lit (.bool true)], args := [d] }
  | _ => none }
def fnBearingTwiceRow : OpenClaim := { program := "ytjllidnkndhgmaa", sum := "c0fdfa89298121aedab10a93c12ca58869afce51b930be7a1d82ba83ad5dc2c8", func := "loop.example/g03321/laws.FnBearingTwice", spec := "fnBearingTwice", inPlace := ["math.Float64bits", "math.Float64frombits"], unfollowed := true, recurses := true, apart := false }
def FnBearingTwiceSaid : Prop := fnBearingTwiceRow.holds Try.pinned (OpenSpec.ofChange fnBearingTwiceSpec)

/-- ITS FALSE NEIGHBOUR: 'it returns false'. Refute it at one input. -/
def fnBearingTwiceWrong : ChangeSpec := { name := "fnBearingTwice", fn := fun _ => fun
  | [d] => { results := [.lit (.bool false)], args := [d] }
  | _ => none }
def FnBearingTwiceWrongFalsely : Prop := fnBearingTwiceRow.holds Try.pinned (OpenSpec.ofChange fnBearingTwiceWrong)

/-- 'laws.FnDampedSteady': WHATEVER THE INPUT: true; the input reads as it did. -/
def fnDampedSteadySpec : ChangeSpec := { name := "fnDampedSteady", fn := fun _ => fun
  | [d] => { results := [.lit (.bool true)], args := [d] }
  | _ => none }
def fnDampedSteadyRow : OpenClaim := { program := "ytjllidnkndhgmaa", sum := "c0fdfa89298121aedab10a93c12ca58869afce51b930be7a1d82ba83ad5dc2c8", func := "loop.example/g03321/laws.FnDampedSteady", spec := "fnDampedSteady", apart := false }
def FnDampedSteadySaid : Prop := fnDampedSteadyRow.holds Try.pinned (OpenSpec.ofChange fnDampedSteadySpec)

/-- ITS FALSE NEIGHBOUR: 'it returns false'. Refute it at one input. -/
def fnDampedSteadyWrong : ChangeSpec := { name := "fnDampedSteady", fn := fun _ => fun
  | [d] => { results := [.lit (.bool false)], args := [d] }
  | _ => none }
def FnDampedSteadyWrongFalsely : Prop := fnDampedSteadyRow.holds Try.pinned (OpenSpec.ofChange fnDampedSteadyWrong)

/-- 'laws.FnVeerBack': WHATEVER THE INPUT: true; the input reads as it did. -/
def fnVeerBackSpec : ChangeSpec := { name := "fnVeerBack", fn := fun _ => fun
  | [d] => { results := [.lit (.bool true)], args := [d] }
  | _ => none }
def fnVeerBackRow : OpenClaim := { program := "ytjllidnkndhgmaa", sum := "c0fdfa89298121aedab10a93c12ca58869afce51b930be7a1d82ba83ad5dc2c8", func := "loop.example/g03321/laws.FnVeerBack", spec := "fnVeerBack", inPlace := ["math.Float64bits", "math.Float64frombits"], unfollowed := true, recurses := true, apart := false }
def FnVeerBackSaid : Prop := fnVeerBackRow.holds Try.pinned (OpenSpec.ofChange fnVeerBackSpec)

/-- ITS FALSE NEIGHBOUR: 'it returns false'. Refute it at one input. -/
def fnVeerBackWrong : ChangeSpec := { name := "fnVeerBack", fn := fun _ => fun
  | [d] => { results := [.lit (.bool false)], args := [d] }
  | _ => none }
def FnVeerBackWrongFalsely : Prop := fnVeerBackRow.holds Try.pinned (OpenSpec.ofChange fnVeerBackWrong)

/- THE SECOND FORM. 'bulk': how many values and letters a reading holds, each counted each time it is reached (what is shared counts as often as it is met; a slice's spare places count too). A statement '..UptoSaid' is the law's where the arguments, and the package variables that the reading takes, are together of bulk at most 1048576: NARROWER than '..Said'. Prove '..Said' where nothing that the law and all that it calls make is longer than what came in: it says more and counts as full. Else prove '..UptoSaid'. A law counts once. -/
mutual
def uptoBulk {H : Type} : DataW H → Nat
  | .lit (.string bytes) => bytes.length + 1
  | .lit _ => 1
  | .nil => 1
  | .ptr d => uptoBulk d + 1
  | .slice elems spare => uptoBulkAll elems + uptoBulkAll spare + 1
  | .agg parts => uptoBulkAll parts + 1
  | .iface _ d => uptoBulk d + 1
  | .map entries => uptoBulkEntries entries + 1
  | .held _ => 1
def uptoBulkAll {H : Type} : List (DataW H) → Nat
  | [] => 0
  | d :: r => uptoBulk d + uptoBulkAll r
def uptoBulkEntries {H : Type} : List (Lit × DataW H) → Nat
  | [] => 0
  | x :: r => uptoBulkEntry x + uptoBulkEntries r
def uptoBulkEntry {H : Type} : Lit × DataW H → Nat
  | (.string bytes, d) => bytes.length + uptoBulk d + 1
  | (_, d) => uptoBulk d + 1
 end
def uptoSmall : (H : Type) → List (DataW H) → Bool := fun _ ds => decide (uptoBulkAll ds ≤ 1048576)
def OpenSpec.upto (s : _root_.Go.ChangeSpec) : _root_.Go.OpenSpec := { _root_.Go.OpenSpec.ofChange s with cond := some uptoSmall }

/-- 'laws.FnExactFromFixed', WHERE WHAT IT READS IS OF BULK AT MOST 1048576: true; the input reads as it did. -/
def fnExactFromFixedUptoRow : OpenClaim := { program := "ytjllidnkndhgmaa", sum := "c0fdfa89298121aedab10a93c12ca58869afce51b930be7a1d82ba83ad5dc2c8", func := "loop.example/g03321/laws.FnExactFromFixed", spec := "fnExactFromFixed", apart := false, narrowed := true }
def FnExactFromFixedUptoSaid : Prop := fnExactFromFixedUptoRow.holds Try.pinned (OpenSpec.upto fnExactFromFixedSpec)

/-- 'laws.FnExactRoot', WHERE WHAT IT READS IS OF BULK AT MOST 1048576: true; the input reads as it did. -/
def fnExactRootUptoRow : OpenClaim := { program := "ytjllidnkndhgmaa", sum := "c0fdfa89298121aedab10a93c12ca58869afce51b930be7a1d82ba83ad5dc2c8", func := "loop.example/g03321/laws.FnExactRoot", spec := "fnExactRoot", apart := false, narrowed := true }
def FnExactRootUptoSaid : Prop := fnExactRootUptoRow.holds Try.pinned (OpenSpec.upto fnExactRootSpec)

/-- 'laws.FnExactTurn', WHERE WHAT IT READS IS OF BULK AT MOST 1048576: true; the input reads as it did. -/
def fnExactTurnUptoRow : OpenClaim := { program := "ytjllidnkndhgmaa", sum := "c0fdfa89298121aedab10a93c12ca58869afce51b930be7a1d82ba83ad5dc2c8", func := "loop.example/g03321/laws.FnExactTurn", spec := "fnExactTurn", apart := false, narrowed := true }
def FnExactTurnUptoSaid : Prop := fnExactTurnUptoRow.holds Try.pinned (OpenSpec.upto fnExactTurnSpec)

/-- 'laws.FnRoots', WHERE WHAT IT READS IS OF BULK AT MOST 1048576: true; the input reads as it did. -/
def fnRootsUptoRow : OpenClaim := { program := "ytjllidnkndhgmaa", sum := "c0fdfa89298121aedab10a93c12ca58869afce51b930be7a1d82ba83ad5dc2c8", func := "loop.example/g03321/laws.FnRoots", spec := "fnRoots", apart := false, narrowed := true }
def FnRootsUptoSaid : Prop := fnRootsUptoRow.holds Try.pinned (OpenSpec.upto fnRootsSpec)

/-- 'laws.FnClamped', WHERE WHAT IT READS IS OF BULK AT MOST 1048576: true; the input reads as it did. -/
def fnClampedUptoRow : OpenClaim := { program := "ytjllidnkndhgmaa", sum := "c0fdfa89298121aedab10a93c12ca58869afce51b930be7a1d82ba83ad5dc2c8", func := "loop.example/g03321/laws.FnClamped", spec := "fnClamped", apart := false, narrowed := true }
def FnClampedUptoSaid : Prop := fnClampedUptoRow.holds Try.pinned (OpenSpec.upto fnClampedSpec)

/-- 'laws.FnWindsBack', WHERE WHAT IT READS IS OF BULK AT MOST 1048576: true; the input reads as it did. -/
def fnWindsBackUptoRow : OpenClaim := { program := "ytjllidnkndhgmaa", sum := "c0fdfa89298121aedab10a93c12ca58869afce51b930be7a1d82ba83ad5dc2c8", func := "loop.example/g03321/laws.FnWindsBack", spec := "fnWindsBack", apart := false, narrowed := true }
def FnWindsBackUptoSaid : Prop := fnWindsBackUptoRow.holds Try.pinned (OpenSpec.upto fnWindsBackSpec)

/-- 'laws.FnBetweenAside', WHERE WHAT IT READS IS OF BULK AT MOST 1048576: true; the input reads as it did. -/
def fnBetweenAsideUptoRow : OpenClaim := { program := "ytjllidnkndhgmaa", sum := "c0fdfa89298121aedab10a93c12ca58869afce51b930be7a1d82ba83ad5dc2c8", func := "loop.example/g03321/laws.FnBetweenAside", spec := "fnBetweenAside", apart := false, narrowed := true }
def FnBetweenAsideUptoSaid : Prop := fnBetweenAsideUptoRow.holds Try.pinned (OpenSpec.upto fnBetweenAsideSpec)

/-- 'laws.FnExactToFixed', WHERE WHAT IT READS IS OF BULK AT MOST 1048576: true; the input reads as it did. -/
def fnExactToFixedUptoRow : OpenClaim := { program := "ytjllidnkndhgmaa", sum := "c0fdfa89298121aedab10a93c12ca58869afce51b930be7a1d82ba83ad5dc2c8", func := "loop.example/g03321/laws.FnExactToFixed", spec := "fnExactToFixed", inPlace := ["math.Float64bits", "math.Float64frombits"], apart := false, narrowed := true }
def FnExactToFixedUptoSaid : Prop := fnExactToFixedUptoRow.holds Try.pinned (OpenSpec.upto fnExactToFixedSpec)

/-- 'laws.FnTurnsBack', WHERE WHAT IT READS IS OF BULK AT MOST 1048576: true; the input reads as it did. -/
def fnTurnsBackUptoRow : OpenClaim := { program := "ytjllidnkndhgmaa", sum := "c0fdfa89298121aedab10a93c12ca58869afce51b930be7a1d82ba83ad5dc2c8", func := "loop.example/g03321/laws.FnTurnsBack", spec := "fnTurnsBack", inPlace := ["math.Float64bits", "math.Float64frombits"], unfollowed := true, recurses := true, apart := false, narrowed := true }
def FnTurnsBackUptoSaid : Prop := fnTurnsBackUptoRow.holds Try.pinned (OpenSpec.upto fnTurnsBackSpec)

/-- 'laws.FnMeanAlike', WHERE WHAT IT READS IS OF BULK AT MOST 1048576: true; the input reads as it did. -/
def fnMeanAlikeUptoRow : OpenClaim := { program := "ytjllidnkndhgmaa", sum := "c0fdfa89298121aedab10a93c12ca58869afce51b930be7a1d82ba83ad5dc2c8", func := "loop.example/g03321/laws.FnMeanAlike", spec := "fnMeanAlike", apart := false, narrowed := true }
def FnMeanAlikeUptoSaid : Prop := fnMeanAlikeUptoRow.holds Try.pinned (OpenSpec.upto fnMeanAlikeSpec)

/-- 'laws.FnFixedFloat', WHERE WHAT IT READS IS OF BULK AT MOST 1048576: true; the input reads as it did. -/
def fnFixedFloatUptoRow : OpenClaim := { program := "ytjllidnkndhgmaa", sum := "c0fdfa89298121aedab10a93c12ca58869afce51b930be7a1d82ba83ad5dc2c8", func := "loop.example/g03321/laws.FnFixedFloat", spec := "fnFixedFloat", inPlace := ["math.Float64bits", "math.Float64frombits"], apart := false, narrowed := true }
def FnFixedFloatUptoSaid : Prop := fnFixedFloatUptoRow.holds Try.pinned (OpenSpec.upto fnFixedFloatSpec)

/-- 'laws.FnDampStill', WHERE WHAT IT READS IS OF BULK AT MOST 1048576: true; the input reads as it did. -/
def fnDampStillUptoRow : OpenClaim := { program := "ytjllidnkndhgmaa", sum := "c0fdfa89298121aedab10a93c12ca58869afce51b930be7a1d82ba83ad5dc2c8", func := "loop.example/g03321/laws.FnDampStill", spec := "fnDampStill", apart := false, narrowed := true }
def FnDampStillUptoSaid : Prop := fnDampStillUptoRow.holds Try.pinned (OpenSpec.upto fnDampStillSpec)

/-- 'laws.FnUnits', WHERE WHAT IT READS IS OF BULK AT MOST 1048576: true; the input reads as it did. -/
def fnUnitsUptoRow : OpenClaim := { program := "ytjllidnkndhgmaa", sum := "c0fdfa89298121aedab10a93c12ca58869afce51b930be7a1d82ba83ad5dc2c8", func := "loop.example/g03321/laws.FnUnits", spec := "fnUnits", inPlace := ["math.Float64bits", "math.Float64frombits"], apart := false, narrowed := true }
def FnUnitsUptoSaid : Prop := fnUnitsUptoRow.holds Try.pinned (OpenSpec.upto fnUnitsSpec)

/-- 'laws.FnBearingTwice', WHERE WHAT IT READS IS OF BULK AT MOST 1048576: true; the input reads as it did. -/
def fnBearingTwiceUptoRow : OpenClaim := { program := "ytjllidnkndhgmaa", sum := "c0fdfa89298121aedab10a93c12ca58869afce51b930be7a1d82ba83ad5dc2c8", func := "loop.example/g03321/laws.FnBearingTwice", spec := "fnBearingTwice", inPlace := ["math.Float64bits", "math.Float64frombits"], unfollowed := true, recurses := true, apart := false, narrowed := true }
def FnBearingTwiceUptoSaid : Prop := fnBearingTwiceUptoRow.holds Try.pinned (OpenSpec.upto fnBearingTwiceSpec)

/-- 'laws.FnDampedSteady', WHERE WHAT IT READS IS OF BULK AT MOST 1048576: true; the input reads as it did. -/
def fnDampedSteadyUptoRow : OpenClaim := { program := "ytjllidnkndhgmaa", sum := "c0fdfa89298121aedab10a93c12ca58869afce51b930be7a1d82ba83ad5dc2c8", func := "loop.example/g03321/laws.FnDampedSteady", spec := "fnDampedSteady", apart := false, narrowed := true }
def FnDampedSteadyUptoSaid : Prop := fnDampedSteadyUptoRow.holds Try.pinned (OpenSpec.upto fnDampedSteadySpec)

/-- 'laws.FnVeerBack', WHERE WHAT IT READS IS OF BULK AT MOST 1048576: true; the input reads as it did. -/
def fnVeerBackUptoRow : OpenClaim := { program := "ytjllidnkndhgmaa", sum := "c0fdfa89298121aedab10a93c12ca58869afce51b930be7a1d82ba83ad5dc2c8", func := "loop.example/g03321/laws.FnVeerBack", spec := "fnVeerBack", inPlace := ["math.Float64bits", "math.Float64frombits"], unfollowed := true, recurses := true, apart := false, narrowed := true }
def FnVeerBackUptoSaid : Prop := fnVeerBackUptoRow.holds Try.pinned (OpenSpec.upto fnVeerBackSpec)

end Rows
end Go.Proofs.Ytjllidnkndhgmaa
