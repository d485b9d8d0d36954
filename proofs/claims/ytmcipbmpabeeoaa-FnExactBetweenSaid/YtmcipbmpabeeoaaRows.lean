/-
  No cell of these rows narrows 'for every input' (looked for: loops, veiled, ifaces, maps, wideKeys, modest, calm, conditions, laid).
  DERIVED. THE GIVEN ROWS OF THIS SEAT. 7 by the template 'for every input the law returns true; each argument reads behind the call as it read before'; 0 by the template 'total and deterministic' (their statements: YtmcipbmpabeeoaaTotals.lean).
  GIVEN WITH THE SEED: the statements are not yours to turn. If you find one false, say at which input.
  Laid BY PROGRAM, IN A SANDBOX (cutbox-rows.mjs): the forced cells as the released guide's own fill.sh prints them over the translation 95bcf5f03385920b… (all of the seat's roots in one cut). By AI agents, Wed Nov 11 2026. No macro, syntax, notation, axiom, sorry.
-/
import Derived.Test.YtmcipbmpabeeoaaChecked
import GoSem.Claim
import GoSem.ClaimJoined
import GoSem.ClaimMapViews
import Derived.JoinedTies
import Derived.KernelRfl
namespace Go.Proofs.Ytmcipbmpabeeoaa
/- THE CELL 'sum', in the pinned program and in every row, IS THE sha256 OF THE DUMP (.gsa) THAT YtmcipbmpabeeoaaProg.lean LOADS. Nothing in Lean hashes anything: it is a label: what it is worth is what the hold of that sum in a sandbox is worth. -/
noncomputable def Try.pinned : Pinned := { name := "ytmcipbmpabeeoaa", sum := "95bcf5f03385920b91bfeeb7210712f45aff8b3490a0a1333216394f1458cc4a", checked := Try.checked }
namespace Rows
def none {H : Type} : Left H := { results := [], args := [] }

/-- 'laws.FnExactConstants': WHATEVER THE INPUT: true; the input reads as it did. -/
def fnExactConstantsSpec : ChangeSpec := { name := "fnExactConstants", fn := fun _ => fun
  | [] => { results := [.lit (.bool true)], args := [] }
  | _ => none }
def fnExactConstantsRow : OpenClaim := { program := "ytmcipbmpabeeoaa", sum := "95bcf5f03385920b91bfeeb7210712f45aff8b3490a0a1333216394f1458cc4a", func := "loop.example/g03321/laws.FnExactConstants", spec := "fnExactConstants", apart := false }
def FnExactConstantsSaid : Prop := fnExactConstantsRow.holds Try.pinned (OpenSpec.ofChange fnExactConstantsSpec)

/-- ITS FALSE NEIGHBOUR: 'it returns false'. Refute it at one input. -/
def fnExactConstantsWrong : ChangeSpec := { name := "fnExactConstants", fn := fun _ => fun
  | [] => { results := [.lit (.bool false)], args := [] }
  | _ => none }
def FnExactConstantsWrongFalsely : Prop := fnExactConstantsRow.holds Try.pinned (OpenSpec.ofChange fnExactConstantsWrong)

/-- 'laws.FnExactBetween': WHATEVER THE INPUT: true; the input reads as it did. -/
def fnExactBetweenSpec : ChangeSpec := { name := "fnExactBetween", fn := fun _ => fun
  | [d1, d2] => { results := [.lit (.bool true)], args := [d1, d2] }
  | _ => none }
def fnExactBetweenRow : OpenClaim := { program := "ytmcipbmpabeeoaa", sum := "95bcf5f03385920b91bfeeb7210712f45aff8b3490a0a1333216394f1458cc4a", func := "loop.example/g03321/laws.FnExactBetween", spec := "fnExactBetween", apart := false }
def FnExactBetweenSaid : Prop := fnExactBetweenRow.holds Try.pinned (OpenSpec.ofChange fnExactBetweenSpec)

/-- ITS FALSE NEIGHBOUR: 'it returns false'. Refute it at one input. -/
def fnExactBetweenWrong : ChangeSpec := { name := "fnExactBetween", fn := fun _ => fun
  | [d1, d2] => { results := [.lit (.bool false)], args := [d1, d2] }
  | _ => none }
def FnExactBetweenWrongFalsely : Prop := fnExactBetweenRow.holds Try.pinned (OpenSpec.ofChange fnExactBetweenWrong)

/-- 'laws.FnExactClamp': WHATEVER THE INPUT: true; the input reads as it did. -/
def fnExactClampSpec : ChangeSpec := { name := "fnExactClamp", fn := fun _ => fun
  | [d1, d2, d3] => { results := [.lit (.bool true)], args := [d1, d2, d3] }
  | _ => none }
def fnExactClampRow : OpenClaim := { program := "ytmcipbmpabeeoaa", sum := "95bcf5f03385920b91bfeeb7210712f45aff8b3490a0a1333216394f1458cc4a", func := "loop.example/g03321/laws.FnExactClamp", spec := "fnExactClamp", apart := false }
def FnExactClampSaid : Prop := fnExactClampRow.holds Try.pinned (OpenSpec.ofChange fnExactClampSpec)

/-- ITS FALSE NEIGHBOUR: 'it returns false'. Refute it at one input. -/
def fnExactClampWrong : ChangeSpec := { name := "fnExactClamp", fn := fun _ => fun
  | [d1, d2, d3] => { results := [.lit (.bool false)], args := [d1, d2, d3] }
  | _ => none }
def FnExactClampWrongFalsely : Prop := fnExactClampRow.holds Try.pinned (OpenSpec.ofChange fnExactClampWrong)

/-- 'laws.FnExactAside': WHATEVER THE INPUT: true; the input reads as it did. -/
def fnExactAsideSpec : ChangeSpec := { name := "fnExactAside", fn := fun _ => fun
  | [d1, d2] => { results := [.lit (.bool true)], args := [d1, d2] }
  | _ => none }
def fnExactAsideRow : OpenClaim := { program := "ytmcipbmpabeeoaa", sum := "95bcf5f03385920b91bfeeb7210712f45aff8b3490a0a1333216394f1458cc4a", func := "loop.example/g03321/laws.FnExactAside", spec := "fnExactAside", apart := false }
def FnExactAsideSaid : Prop := fnExactAsideRow.holds Try.pinned (OpenSpec.ofChange fnExactAsideSpec)

/-- ITS FALSE NEIGHBOUR: 'it returns false'. Refute it at one input. -/
def fnExactAsideWrong : ChangeSpec := { name := "fnExactAside", fn := fun _ => fun
  | [d1, d2] => { results := [.lit (.bool false)], args := [d1, d2] }
  | _ => none }
def FnExactAsideWrongFalsely : Prop := fnExactAsideRow.holds Try.pinned (OpenSpec.ofChange fnExactAsideWrong)

/-- 'laws.FnExactFromFixed': WHATEVER THE INPUT: true; the input reads as it did. -/
def fnExactFromFixedSpec : ChangeSpec := { name := "fnExactFromFixed", fn := fun _ => fun
  | [d] => { results := [.lit (.bool true)], args := [d] }
  | _ => none }
def fnExactFromFixedRow : OpenClaim := { program := "ytmcipbmpabeeoaa", sum := "95bcf5f03385920b91bfeeb7210712f45aff8b3490a0a1333216394f1458cc4a", func := "loop.example/g03321/laws.FnExactFromFixed", spec := "fnExactFromFixed", apart := false }
def FnExactFromFixedSaid : Prop := fnExactFromFixedRow.holds Try.pinned (OpenSpec.ofChange fnExactFromFixedSpec)

/-- ITS FALSE NEIGHBOUR: 'it returns false'. Refute it at one input. -/
def fnExactFromFixedWrong : ChangeSpec := { name := "fnExactFromFixed", fn := fun _ => fun
  | [d] => { results := [.lit (.bool false)], args := [d] }
  | _ => none }
def FnExactFromFixedWrongFalsely : Prop := fnExactFromFixedRow.holds Try.pinned (OpenSpec.ofChange fnExactFromFixedWrong)

/-- 'laws.FnExactRoot': WHATEVER THE INPUT: true; the input reads as it did. -/
def fnExactRootSpec : ChangeSpec := { name := "fnExactRoot", fn := fun _ => fun
  | [d] => { results := [.lit (.bool true)], args := [d] }
  | _ => none }
def fnExactRootRow : OpenClaim := { program := "ytmcipbmpabeeoaa", sum := "95bcf5f03385920b91bfeeb7210712f45aff8b3490a0a1333216394f1458cc4a", func := "loop.example/g03321/laws.FnExactRoot", spec := "fnExactRoot", apart := false }
def FnExactRootSaid : Prop := fnExactRootRow.holds Try.pinned (OpenSpec.ofChange fnExactRootSpec)

/-- ITS FALSE NEIGHBOUR: 'it returns false'. Refute it at one input. -/
def fnExactRootWrong : ChangeSpec := { name := "fnExactRoot", fn := fun _ => fun
  | [d] => { results := [.lit (.bool false)], args := [d] }
  | _ => none }
def FnExactRootWrongFalsely : Prop := fnExactRootRow.holds Try.pinned (OpenSpec.ofChange fnExactRootWrong)

/-- 'laws.FnExactTurn': WHATEVER THE INPUT: true; the input reads as it did. -/
def fnExactTurnSpec : ChangeSpec := { name := "fnExactTurn", fn := fun _ => fun
  | [d] => { results := [.lit (.bool true)], args := [d] }
  | _ => none }
def fnExactTurnRow : OpenClaim := { program := "ytmcipbmpabeeoaa", sum := "95bcf5f03385920b91bfeeb7210712f45aff8b3490a0a1333216394f1458cc4a", func := "loop.example/g03321/laws.FnExactTurn", spec := "fnExactTurn", apart := false }
def FnExactTurnSaid : Prop := fnExactTurnRow.holds Try.pinned (OpenSpec.ofChange fnExactTurnSpec)

/-- ITS FALSE NEIGHBOUR: 'it returns false'. Refute it at one input. -/
def fnExactTurnWrong : ChangeSpec := { name := "fnExactTurn", fn := fun _ => fun
  | [d] => { results := [.lit (.bool false)], args := [d] }
  | _ => none }
def FnExactTurnWrongFalsely : Prop := fnExactTurnRow.holds Try.pinned (OpenSpec.ofChange fnExactTurnWrong)

/- THE SECOND FORM. 'bulk': how many values and letters a reading holds, each counted each time it is reached (what is shared counts as often as it is met; a slice's spare places count too). A statement '..UptoSaid' is the law's where the arguments, and the package variables that the reading takes, are together of bulk at most 1048576: NARROWER than '..Said'. Prove '..Said' where nothing that the law and all that it calls make is longer than what came in: it says more and counts as full. Else prove '..UptoSaid'. A law counts once. -/
mutual
def uptoBulk {H : Type} : DataW H → Nat
  | .lit (.string bytes) => bytes.length + 1
  | .lit _ => 1
  | .nil => 1
  | .ptr d => uptoBulk d + 1
  | .slice elems spare => uptoBulkAll elems + uptoBulkAll spare + 1
  | .agg parts => uptoBulkAll parts + 1
  | .iface _ d => uptoBulk d + 1
  | .map entries => uptoBulkEntries entries + 1
  | .held _ => 1
def uptoBulkAll {H : Type} : List (DataW H) → Nat
  | [] => 0
  | d :: r => uptoBulk d + uptoBulkAll r
def uptoBulkEntries {H : Type} : List (Lit × DataW H) → Nat
  | [] => 0
  | x :: r => uptoBulkEntry x + uptoBulkEntries r
def uptoBulkEntry {H : Type} : Lit × DataW H → Nat
  | (.string bytes, d) => bytes.length + uptoBulk d + 1
  | (_, d) => uptoBulk d + 1
 end
def uptoSmall : (H : Type) → List (DataW H) → Bool := fun _ ds => decide (uptoBulkAll ds ≤ 1048576)
def OpenSpec.upto (s : _root_.Go.ChangeSpec) : _root_.Go.OpenSpec := { _root_.Go.OpenSpec.ofChange s with cond := some uptoSmall }

/-- 'laws.FnExactConstants', WHERE WHAT IT READS IS OF BULK AT MOST 1048576: true; the input reads as it did. -/
def fnExactConstantsUptoRow : OpenClaim := { program := "ytmcipbmpabeeoaa", sum := "95bcf5f03385920b91bfeeb7210712f45aff8b3490a0a1333216394f1458cc4a", func := "loop.example/g03321/laws.FnExactConstants", spec := "fnExactConstants", apart := false, narrowed := true }
def FnExactConstantsUptoSaid : Prop := fnExactConstantsUptoRow.holds Try.pinned (OpenSpec.upto fnExactConstantsSpec)

/-- 'laws.FnExactBetween', WHERE WHAT IT READS IS OF BULK AT MOST 1048576: true; the input reads as it did. -/
def fnExactBetweenUptoRow : OpenClaim := { program := "ytmcipbmpabeeoaa", sum := "95bcf5f03385920b91bfeeb7210712f45aff8b3490a0a1333216394f1458cc4a", func := "loop.example/g03321/laws.FnExactBetween", spec := "fnExactBetween", apart := false, narrowed := true }
def FnExactBetweenUptoSaid : Prop := fnExactBetweenUptoRow.holds Try.pinned (OpenSpec.upto fnExactBetweenSpec)

/-- 'laws.FnExactClamp', WHERE WHAT IT READS IS OF BULK AT MOST 1048576: true; the input reads as it did. -/
def fnExactClampUptoRow : OpenClaim := { program := "ytmcipbmpabeeoaa", sum := "95bcf5f03385920b91bfeeb7210712f45aff8b3490a0a1333216394f1458cc4a", func := "loop.example/g03321/laws.FnExactClamp", spec := "fnExactClamp", apart := false, narrowed := true }
def FnExactClampUptoSaid : Prop := fnExactClampUptoRow.holds Try.pinned (OpenSpec.upto fnExactClampSpec)

/-- 'laws.FnExactAside', WHERE WHAT IT READS IS OF BULK AT MOST 1048576: true; the input reads as it did. -/
def fnExactAsideUptoRow : OpenClaim := { program := "ytmcipbmpabeeoaa", sum := "95bcf5f03385920b91bfeeb7210712f45aff8b3490a0a1333216394f1458cc4a", func := "loop.example/g03321/laws.FnExactAside", spec := "fnExactAside", apart := false, narrowed := true }
def FnExactAsideUptoSaid : Prop := fnExactAsideUptoRow.holds Try.pinned (OpenSpec.upto fnExactAsideSpec)

/-- 'laws.FnExactFromFixed', WHERE WHAT IT READS IS OF BULK AT MOST 1048576: true; the input reads as it did. -/
def fnExactFromFixedUptoRow : OpenClaim := { program := "ytmcipbmpabeeoaa", sum := "95bcf5f03385920b91bfeeb7210712f45aff8b3490a0a1333216394f1458cc4a", func := "loop.example/g03321/laws.FnExactFromFixed", spec := "fnExactFromFixed", apart := false, narrowed := true }
def FnExactFromFixedUptoSaid : Prop := fnExactFromFixedUptoRow.holds Try.pinned (OpenSpec.upto fnExactFromFixedSpec)

/-- 'laws.FnExactRoot', WHERE WHAT IT READS IS OF BULK AT MOST 1048576: true; the input reads as it did. -/
def fnExactRootUptoRow : OpenClaim := { program := "ytmcipbmpabeeoaa", sum := "95bcf5f03385920b91bfeeb7210712f45aff8b3490a0a1333216394f1458cc4a", func := "loop.example/g03321/laws.FnExactRoot", spec := "fnExactRoot", apart := false, narrowed := true }
def FnExactRootUptoSaid : Prop := fnExactRootUptoRow.holds Try.pinned (OpenSpec.upto fnExactRootSpec)

/-- 'laws.FnExactTurn', WHERE WHAT IT READS IS OF BULK AT MOST 1048576: true; the input reads as it did. -/
def fnExactTurnUptoRow : OpenClaim := { program := "ytmcipbmpabeeoaa", sum := "95bcf5f03385920b91bfeeb7210712f45aff8b3490a0a1333216394f1458cc4a", func := "loop.example/g03321/laws.FnExactTurn", spec := "fnExactTurn", apart := false, narrowed := true }
def FnExactTurnUptoSaid : Prop := fnExactTurnUptoRow.holds Try.pinned (OpenSpec.upto fnExactTurnSpec)

end Rows
end Go.Proofs.Ytmcipbmpabeeoaa
