/-
  No cell of these rows narrows 'for every input' (looked for: loops, veiled, ifaces, maps, wideKeys, modest, calm, conditions, laid).
  DERIVED. THE GIVEN ROWS OF THIS SEAT. 7 by the template 'for every input the law returns true; each argument reads behind the call as it read before'; 0 by the template 'total and deterministic' (their statements: YtgjfpclpnobggaaTotals.lean).
  GIVEN WITH THE SEED: the statements are not yours to turn. If you find one false, say at which input.
  Laid BY PROGRAM, IN A SANDBOX (cutbox-rows.mjs): the forced cells as the released guide's own fill.sh prints them over the translation a7171d48d187d807… (all of the seat's roots in one cut). By AI agents, Wed Nov 11 2026. No macro, syntax, notation, axiom, sorry.
-/
import Derived.Test.YtgjfpclpnobggaaChecked
import GoSem.Claim
import GoSem.ClaimJoined
import GoSem.ClaimMapViews
import Derived.JoinedTies
import Derived.KernelRfl
namespace Go.Proofs.Ytgjfpclpnobggaa
/- THE CELL 'sum', in the pinned program and in every row, IS THE sha256 OF THE DUMP (.gsa) THAT YtgjfpclpnobggaaProg.lean LOADS. Nothing in Lean hashes anything: it is a label: what it is worth is what the hold of that sum in a sandbox is worth. -/
noncomputable def Try.pinned : Pinned := { name := "ytgjfpclpnobggaa", sum := "a7171d48d187d807030715694ca67e04711f7d7dd3f49914c60a118fb4ae0e2a", checked := Try.checked }
namespace Rows
def none {H : Type} : Left H := { results := [], args := [] }

/-- 'laws.FnExactPolarOk': WHATEVER THE INPUT: true; the input reads as it did. -/
def fnExactPolarOkSpec : ChangeSpec := { name := "fnExactPolarOk", fn := fun _ => fun
  | [d] => { results := [.lit (.bool true)], args := [d] }
  | _ => none }
def fnExactPolarOkRow : OpenClaim := { program := "ytgjfpclpnobggaa", sum := "a7171d48d187d807030715694ca67e04711f7d7dd3f49914c60a118fb4ae0e2a", func := "loop.example/g03321/laws.FnExactPolarOk", spec := "fnExactPolarOk", unfollowed := true, recurses := true, apart := false }
def FnExactPolarOkSaid : Prop := fnExactPolarOkRow.holds Try.pinned (OpenSpec.ofChange fnExactPolarOkSpec)

/-- ITS FALSE NEIGHBOUR: 'it returns false'. Refute it at one input. -/
def fnExactPolarOkWrong : ChangeSpec := { name := "fnExactPolarOk", fn := fun _ => fun
  | [d] => { results := [.lit (.bool false)], args := [d] }
  | _ => none }
def FnExactPolarOkWrongFalsely : Prop := fnExactPolarOkRow.holds Try.pinned (OpenSpec.ofChange fnExactPolarOkWrong)

/-- 'laws.FnPolarPoints': WHATEVER THE INPUT: true; the input reads as it did. -/
def fnPolarPointsSpec : ChangeSpec := { name := "fnPolarPoints", fn := fun _ => fun
  | [d] => { results := [.lit (.bool true)], args := [d] }
  | _ => none }
def fnPolarPointsRow : OpenClaim := { program := "ytgjfpclpnobggaa", sum := "a7171d48d187d807030715694ca67e04711f7d7dd3f49914c60a118fb4ae0e2a", func := "loop.example/g03321/laws.FnPolarPoints", spec := "fnPolarPoints", unfollowed := true, recurses := true, apart := false }
def FnPolarPointsSaid : Prop := fnPolarPointsRow.holds Try.pinned (OpenSpec.ofChange fnPolarPointsSpec)

/-- ITS FALSE NEIGHBOUR: 'it returns false'. Refute it at one input. -/
def fnPolarPointsWrong : ChangeSpec := { name := "fnPolarPoints", fn := fun _ => fun
  | [d] => { results := [.lit (.bool false)], args := [d] }
  | _ => none }
def FnPolarPointsWrongFalsely : Prop := fnPolarPointsRow.holds Try.pinned (OpenSpec.ofChange fnPolarPointsWrong)

/-- 'laws.FnExactSpeedAt': WHATEVER THE INPUT: true; the input reads as it did. -/
def fnExactSpeedAtSpec : ChangeSpec := { name := "fnExactSpeedAt", fn := fun _ => fun
  | [d1, d2, d3] => { results := [.lit (.bool true)], args := [d1, d2, d3] }
  | _ => none }
def fnExactSpeedAtRow : OpenClaim := { program := "ytgjfpclpnobggaa", sum := "a7171d48d187d807030715694ca67e04711f7d7dd3f49914c60a118fb4ae0e2a", func := "loop.example/g03321/laws.FnExactSpeedAt", spec := "fnExactSpeedAt", unfollowed := true, recurses := true, apart := false }
def FnExactSpeedAtSaid : Prop := fnExactSpeedAtRow.holds Try.pinned (OpenSpec.ofChange fnExactSpeedAtSpec)

/-- ITS FALSE NEIGHBOUR: 'it returns false'. Refute it at one input. -/
def fnExactSpeedAtWrong : ChangeSpec := { name := "fnExactSpeedAt", fn := fun _ => fun
  | [d1, d2, d3] => { results := [.lit (.bool false)], args := [d1, d2, d3] }
  | _ => none }
def FnExactSpeedAtWrongFalsely : Prop := fnExactSpeedAtRow.holds Try.pinned (OpenSpec.ofChange fnExactSpeedAtWrong)

/-- 'laws.FnScaleOne': WHATEVER THE INPUT: true; the input reads as it did. -/
def fnScaleOneSpec : ChangeSpec := { name := "fnScaleOne", fn := fun _ => fun
  | [d] => { results := [.lit (.bool true)], args := [d] }
  | _ => none }
def fnScaleOneRow : OpenClaim := { program := "ytgjfpclpnobggaa", sum := "a7171d48d187d807030715694ca67e04711f7d7dd3f49914c60a118fb4ae0e2a", func := "loop.example/g03321/laws.FnScaleOne", spec := "fnScaleOne", unfollowed := true, recurses := true, apart := false }
def FnScaleOneSaid : Prop := fnScaleOneRow.holds Try.pinned (OpenSpec.ofChange fnScaleOneSpec)

/-- ITS FALSE NEIGHBOUR: 'it returns false'. Refute it at one input. -/
def fnScaleOneWrong : ChangeSpec := { name := "fnScaleOne", fn := fun _ => fun
  | [d] => { results := [.lit (.bool false)], args := [d] }
  | _ => none }
def FnScaleOneWrongFalsely : Prop := fnScaleOneRow.holds Try.pinned (OpenSpec.ofChange fnScaleOneWrong)

/-- 'laws.FnExactScalePolar': WHATEVER THE INPUT: true; the input reads as it did. -/
def fnExactScalePolarSpec : ChangeSpec := { name := "fnExactScalePolar", fn := fun _ => fun
  | [d1, d2] => { results := [.lit (.bool true)], args := [d1, d2] }
  | _ => none }
def fnExactScalePolarRow : OpenClaim := { program := "ytgjfpclpnobggaa", sum := "a7171d48d187d807030715694ca67e04711f7d7dd3f49914c60a118fb4ae0e2a", func := "loop.example/g03321/laws.FnExactScalePolar", spec := "fnExactScalePolar", unfollowed := true, recurses := true, apart := false }
def FnExactScalePolarSaid : Prop := fnExactScalePolarRow.holds Try.pinned (OpenSpec.ofChange fnExactScalePolarSpec)

/-- ITS FALSE NEIGHBOUR: 'it returns false'. Refute it at one input. -/
def fnExactScalePolarWrong : ChangeSpec := { name := "fnExactScalePolar", fn := fun _ => fun
  | [d1, d2] => { results := [.lit (.bool false)], args := [d1, d2] }
  | _ => none }
def FnExactScalePolarWrongFalsely : Prop := fnExactScalePolarRow.holds Try.pinned (OpenSpec.ofChange fnExactScalePolarWrong)

/-- 'laws.FnExactMadeUp': WHATEVER THE INPUT: true; the input reads as it did. -/
def fnExactMadeUpSpec : ChangeSpec := { name := "fnExactMadeUp", fn := fun _ => fun
  | [d1, d2, d3] => { results := [.lit (.bool true)], args := [d1, d2, d3] }
  | _ => none }
def fnExactMadeUpRow : OpenClaim := { program := "ytgjfpclpnobggaa", sum := "a7171d48d187d807030715694ca67e04711f7d7dd3f49914c60a118fb4ae0e2a", func := "loop.example/g03321/laws.FnExactMadeUp", spec := "fnExactMadeUp", unfollowed := true, recurses := true, apart := false }
def FnExactMadeUpSaid : Prop := fnExactMadeUpRow.holds Try.pinned (OpenSpec.ofChange fnExactMadeUpSpec)

/-- ITS FALSE NEIGHBOUR: 'it returns false'. Refute it at one input. -/
def fnExactMadeUpWrong : ChangeSpec := { name := "fnExactMadeUp", fn := fun _ => fun
  | [d1, d2, d3] => { results := [.lit (.bool false)], args := [d1, d2, d3] }
  | _ => none }
def FnExactMadeUpWrongFalsely : Prop := fnExactMadeUpRow.holds Try.pinned (OpenSpec.ofChange fnExactMadeUpWrong)

/-- 'laws.FnExactFastest': WHATEVER THE INPUT: true; the input reads as it did. -/
def fnExactFastestSpec : ChangeSpec := { name := "fnExactFastest", fn := fun _ => fun
  | [d1, d2] => { results := [.lit (.bool true)], args := [d1, d2] }
  | _ => none }
def fnExactFastestRow : OpenClaim := { program := "ytgjfpclpnobggaa", sum := "a7171d48d187d807030715694ca67e04711f7d7dd3f49914c60a118fb4ae0e2a", func := "loop.example/g03321/laws.FnExactFastest", spec := "fnExactFastest", unfollowed := true, recurses := true, apart := false }
def FnExactFastestSaid : Prop := fnExactFastestRow.holds Try.pinned (OpenSpec.ofChange fnExactFastestSpec)

/-- ITS FALSE NEIGHBOUR: 'it returns false'. Refute it at one input. -/
def fnExactFastestWrong : ChangeSpec := { name := "fnExactFastest", fn := fun _ => fun
  | [d1, d2] => { results := [.lit (.bool false)], args := [d1, d2] }
  | _ => none }
def FnExactFastestWrongFalsely : Prop := fnExactFastestRow.holds Try.pinned (OpenSpec.ofChange fnExactFastestWrong)

/- THE SECOND FORM. 'bulk': how many values and letters a reading holds, each counted each time it is reached (what is shared counts as often as it is met; a slice's spare places count too). A statement '..UptoSaid' is the law's where the arguments, and the package variables that the reading takes, are together of bulk at most 1048576: NARROWER than '..Said'. Prove '..Said' where nothing that the law and all that it calls make is longer than what came in: it says more and counts as full. Else prove '..UptoSaid'. A law counts once. -/
mutual
def uptoBulk {H : Type} : DataW H → Nat
  | .lit (.string bytes) => bytes.length + 1
  | .lit _ => 1
  | .nil => 1
  | .ptr d => uptoBulk d + 1
  | .slice elems spare => uptoBulkAll elems + uptoBulkAll spare + 1
  | .agg parts => uptoBulkAll parts + 1
  | .iface _ d => uptoBulk d + 1
  | .map entries => uptoBulkEntries entries + 1
  | .held _ => 1
def uptoBulkAll {H : Type} : List (DataW H) → Nat
  | [] => 0
  | d :: r => uptoBulk d + uptoBulkAll r
def uptoBulkEntries {H : Type} : List (Lit × DataW H) → Nat
  | [] => 0
  | x :: r => uptoBulkEntry x + uptoBulkEntries r
def uptoBulkEntry {H : Type} : Lit × DataW H → Nat
  | (.string bytes, d) => bytes.length + uptoBulk d + 1
  | (_, d) => uptoBulk d + 1
 end
def uptoSmall : (H : Type) → List (DataW H) → Bool := fun _ ds => decide (uptoBulkAll ds ≤ 1048576)
def OpenSpec.upto (s : _root_.Go.ChangeSpec) : _root_.Go.OpenSpec := { _root_.Go.OpenSpec.ofChange s with cond := some uptoSmall }

/-- 'laws.FnExactPolarOk', WHERE WHAT IT READS IS OF BULK AT MOST 1048576: true; the input reads as it did. -/
def fnExactPolarOkUptoRow : OpenClaim := { program := "ytgjfpclpnobggaa", sum := "a7171d48d187d807030715694ca67e04711f7d7dd3f49914c60a118fb4ae0e2a", func := "loop.example/g03321/laws.FnExactPolarOk", spec := "fnExactPolarOk", unfollowed := true, recurses := true, apart := false, narrowed := true }
def FnExactPolarOkUptoSaid : Prop := fnExactPolarOkUptoRow.holds Try.pinned (OpenSpec.upto fnExactPolarOkSpec)

/-- 'laws.FnPolarPoints', WHERE WHAT IT READS IS OF BULK AT MOST 1048576: true; the input reads as it did. -/
def fnPolarPointsUptoRow : OpenClaim := { program := "ytgjfpclpnobggaa", sum := "a7171d48d187d807030715694ca67e04711f7d7dd3f49914c60a118fb4ae0e2a", func := "loop.example/g03321/laws.FnPolarPoints", spec := "fnPolarPoints", unfollowed := true, recurses := true, apart := false, narrowed := true }
def FnPolarPointsUptoSaid : Prop := fnPolarPointsUptoRow.holds Try.pinned (OpenSpec.upto fnPolarPointsSpec)

/-- 'laws.FnExactSpeedAt', WHERE WHAT IT READS IS OF BULK AT MOST 1048576: true; the input reads as it did. -/
def fnExactSpeedAtUptoRow : OpenClaim := { program := "ytgjfpclpnobggaa", sum := "a7171d48d187d807030715694ca67e04711f7d7dd3f49914c60a118fb4ae0e2a", func := "loop.example/g03321/laws.FnExactSpeedAt", spec := "fnExactSpeedAt", unfollowed := true, recurses := true, apart := false, narrowed := true }
def FnExactSpeedAtUptoSaid : Prop := fnExactSpeedAtUptoRow.holds Try.pinned (OpenSpec.upto fnExactSpeedAtSpec)

/-- 'laws.FnScaleOne', WHERE WHAT IT READS IS OF BULK AT MOST 1048576: true; the input reads as it did. -/
def fnScaleOneUptoRow : OpenClaim := { program := "ytgjfpclpnobggaa", sum := "a7171d48d187d807030715694ca67e04711f7d7dd3f49914c60a118fb4ae0e2a", func := "loop.example/g03321/laws.FnScaleOne", spec := "fnScaleOne", unfollowed := true, recurses := true, apart := false, narrowed := true }
def FnScaleOneUptoSaid : Prop := fnScaleOneUptoRow.holds Try.pinned (OpenSpec.upto fnScaleOneSpec)

/-- 'laws.FnExactScalePolar', WHERE WHAT IT READS IS OF BULK AT MOST 1048576: true; the input reads as it did. -/
def fnExactScalePolarUptoRow : OpenClaim := { program := "ytgjfpclpnobggaa", sum := "a7171d48d187d807030715694ca67e04711f7d7dd3f49914c60a118fb4ae0e2a", func := "loop.example/g03321/laws.FnExactScalePolar", spec := "fnExactScalePolar", unfollowed := true, recurses := true, apart := false, narrowed := true }
def FnExactScalePolarUptoSaid : Prop := fnExactScalePolarUptoRow.holds Try.pinned (OpenSpec.upto fnExactScalePolarSpec)

/-- 'laws.FnExactMadeUp', WHERE WHAT IT READS IS OF BULK AT MOST 1048576: true; the input reads as it did. -/
def fnExactMadeUpUptoRow : OpenClaim := { program := "ytgjfpclpnobggaa", sum := "a7171d48d187d807030715694ca67e04711f7d7dd3f49914c60a118fb4ae0e2a", func := "loop.example/g03321/laws.FnExactMadeUp", spec := "fnExactMadeUp", unfollowed := true, recurses := true, apart := false, narrowed := true }
def FnExactMadeUpUptoSaid : Prop := fnExactMadeUpUptoRow.holds Try.pinned (OpenSpec.upto fnExactMadeUpSpec)

/-- 'laws.FnExactFastest', WHERE WHAT IT READS IS OF BULK AT MOST 1048576: true; the input reads as it did. -/
def fnExactFastestUptoRow : OpenClaim := { program := "ytgjfpclpnobggaa", sum := "a7171d48d187d807030715694ca67e04711f7d7dd3f49914c60a118fb4ae0e2a", func := "loop.example/g03321/laws.FnExactFastest", spec := "fnExactFastest", unfollowed := true, recurses := true, apart := false, narrowed := true }
def FnExactFastestUptoSaid : Prop := fnExactFastestUptoRow.holds Try.pinned (OpenSpec.upto fnExactFastestSpec)

end Rows
end Go.Proofs.Ytgjfpclpnobggaa
