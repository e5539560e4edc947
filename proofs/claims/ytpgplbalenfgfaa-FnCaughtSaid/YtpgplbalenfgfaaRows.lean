/-
  No cell of these rows narrows 'for every input' (looked for: loops, veiled, ifaces, maps, wideKeys, modest, calm, conditions, laid).
  DERIVED. THE GIVEN ROWS OF THIS SEAT. 8 by the template 'for every input the law returns true; each argument reads behind the call as it read before'; 0 by the template 'total and deterministic' (their statements: YtpgplbalenfgfaaTotals.lean).
  GIVEN WITH THE SEED: the statements are not yours to turn. If you find one false, say at which input.
  Laid BY PROGRAM, IN A SANDBOX (cutbox-rows.mjs): the forced cells as the released guide's own fill.sh prints them over the translation f60f011148739293… (all of the seat's roots in one cut). By AI agents, Wed Nov 11 2026. No macro, syntax, notation, axiom, sorry.
-/
import Derived.Test.YtpgplbalenfgfaaChecked
import GoSem.Claim
import GoSem.ClaimJoined
import GoSem.ClaimMapViews
import Derived.JoinedTies
import Derived.KernelRfl
namespace Go.Proofs.Ytpgplbalenfgfaa
/- THE CELL 'sum', in the pinned program and in every row, IS THE sha256 OF THE DUMP (.gsa) THAT YtpgplbalenfgfaaProg.lean LOADS. Nothing in Lean hashes anything: it is a label: what it is worth is what the hold of that sum in a sandbox is worth. -/
noncomputable def Try.pinned : Pinned := { name := "ytpgplbalenfgfaa", sum := "f60f011148739293cdb40a8ec0ff75abe079a7202048eeccd12ef6a7283080e0", checked := Try.checked }
namespace Rows
def none {H : Type} : Left H := { results := [], args := [] }

/-- 'laws.FnDelayed': WHATEVER THE INPUT: true; the input reads as it did. -/
def fnDelayedSpec : ChangeSpec := { name := "fnDelayed", fn := fun _ => fun
  | [d] => { results := [.lit (.bool true)], args := [d] }
  | _ => none }
def fnDelayedRow : OpenClaim := { program := "ytpgplbalenfgfaa", sum := "f60f011148739293cdb40a8ec0ff75abe079a7202048eeccd12ef6a7283080e0", func := "loop.example/g00119/laws.FnDelayed", spec := "fnDelayed", unfollowed := true, recurses := true, apart := false }
def FnDelayedSaid : Prop := fnDelayedRow.holds Try.pinned (OpenSpec.ofChange fnDelayedSpec)

/-- ITS FALSE NEIGHBOUR: 'it returns false'. Refute it at one input. -/
def fnDelayedWrong : ChangeSpec := { name := "fnDelayed", fn := fun _ => fun
  | [d] => { results := [.lit (.bool false)], args := [d] }
  | _ => none }
def FnDelayedWrongFalsely : Prop := fnDelayedRow.holds Try.pinned (OpenSpec.ofChange fnDelayedWrong)

/-- 'laws.FnOnce': WHATEVER THE INPUT: true; the input reads as it did. -/
def fnOnceSpec : ChangeSpec := { name := "fnOnce", fn := fun _ => fun
  | [d] => { results := [.lit (.bool true)], args := [d] }
  | _ => none }
def fnOnceRow : OpenClaim := { program := "ytpgplbalenfgfaa", sum := "f60f011148739293cdb40a8ec0ff75abe079a7202048eeccd12ef6a7283080e0", func := "loop.example/g00119/laws.FnOnce", spec := "fnOnce", unfollowed := true, recurses := true, apart := false }
def FnOnceSaid : Prop := fnOnceRow.holds Try.pinned (OpenSpec.ofChange fnOnceSpec)

/-- ITS FALSE NEIGHBOUR: 'it returns false'. Refute it at one input. -/
def fnOnceWrong : ChangeSpec := { name := "fnOnce", fn := fun _ => fun
  | [d] => { results := [.lit (.bool false)], args := [d] }
  | _ => none }
def FnOnceWrongFalsely : Prop := fnOnceRow.holds Try.pinned (OpenSpec.ofChange fnOnceWrong)

/-- 'laws.FnFit': WHATEVER THE INPUT: true; the input reads as it did. -/
def fnFitSpec : ChangeSpec := { name := "fnFit", fn := fun _ => fun
  | [d] => { results := [.lit (.bool true)], args := [d] }
  | _ => none }
def fnFitRow : OpenClaim := { program := "ytpgplbalenfgfaa", sum := "f60f011148739293cdb40a8ec0ff75abe079a7202048eeccd12ef6a7283080e0", func := "loop.example/g00119/laws.FnFit", spec := "fnFit", unfollowed := true, recurses := true, apart := false }
def FnFitSaid : Prop := fnFitRow.holds Try.pinned (OpenSpec.ofChange fnFitSpec)

/-- ITS FALSE NEIGHBOUR: 'it returns false'. Refute it at one input. -/
def fnFitWrong : ChangeSpec := { name := "fnFit", fn := fun _ => fun
  | [d] => { results := [.lit (.bool false)], args := [d] }
  | _ => none }
def FnFitWrongFalsely : Prop := fnFitRow.holds Try.pinned (OpenSpec.ofChange fnFitWrong)

/-- 'laws.FnMoved': WHATEVER THE INPUT: true; the input reads as it did. -/
def fnMovedSpec : ChangeSpec := { name := "fnMoved", fn := fun _ => fun
  | [d] => { results := [.lit (.bool true)], args := [d] }
  | _ => none }
def fnMovedRow : OpenClaim := { program := "ytpgplbalenfgfaa", sum := "f60f011148739293cdb40a8ec0ff75abe079a7202048eeccd12ef6a7283080e0", func := "loop.example/g00119/laws.FnMoved", spec := "fnMoved", inPlace := ["slices.overlaps[loop.example/g00119/impl.Run]"], unfollowed := true, recurses := true, apart := false }
def FnMovedSaid : Prop := fnMovedRow.holds Try.pinned (OpenSpec.ofChange fnMovedSpec)

/-- ITS FALSE NEIGHBOUR: 'it returns false'. Refute it at one input. -/
def fnMovedWrong : ChangeSpec := { name := "fnMoved", fn := fun _ => fun
  | [d] => { results := [.lit (.bool false)], args := [d] }
  | _ => none }
def FnMovedWrongFalsely : Prop := fnMovedRow.holds Try.pinned (OpenSpec.ofChange fnMovedWrong)

/-- 'laws.FnPlans': WHATEVER THE INPUT: true; the input reads as it did. -/
def fnPlansSpec : ChangeSpec := { name := "fnPlans", fn := fun _ => fun
  | [d] => { results := [.lit (.bool true)], args := [d] }
  | _ => none }
def fnPlansRow : OpenClaim := { program := "ytpgplbalenfgfaa", sum := "f60f011148739293cdb40a8ec0ff75abe079a7202048eeccd12ef6a7283080e0", func := "loop.example/g00119/laws.FnPlans", spec := "fnPlans", unfollowed := true, recurses := true, apart := false }
def FnPlansSaid : Prop := fnPlansRow.holds Try.pinned (OpenSpec.ofChange fnPlansSpec)

/-- ITS FALSE NEIGHBOUR: 'it returns false'. Refute it at one input. -/
def fnPlansWrong : ChangeSpec := { name := "fnPlans", fn := fun _ => fun
  | [d] => { results := [.lit (.bool false)], args := [d] }
  | _ => none }
def FnPlansWrongFalsely : Prop := fnPlansRow.holds Try.pinned (OpenSpec.ofChange fnPlansWrong)

/-- 'laws.FnObeyed': WHATEVER THE INPUT: true; the input reads as it did. -/
def fnObeyedSpec : ChangeSpec := { name := "fnObeyed", fn := fun _ => fun
  | [d] => { results := [.lit (.bool true)], args := [d] }
  | _ => none }
def fnObeyedRow : OpenClaim := { program := "ytpgplbalenfgfaa", sum := "f60f011148739293cdb40a8ec0ff75abe079a7202048eeccd12ef6a7283080e0", func := "loop.example/g00119/laws.FnObeyed", spec := "fnObeyed", unfollowed := true, recurses := true, apart := false }
def FnObeyedSaid : Prop := fnObeyedRow.holds Try.pinned (OpenSpec.ofChange fnObeyedSpec)

/-- ITS FALSE NEIGHBOUR: 'it returns false'. Refute it at one input. -/
def fnObeyedWrong : ChangeSpec := { name := "fnObeyed", fn := fun _ => fun
  | [d] => { results := [.lit (.bool false)], args := [d] }
  | _ => none }
def FnObeyedWrongFalsely : Prop := fnObeyedRow.holds Try.pinned (OpenSpec.ofChange fnObeyedWrong)

/-- 'laws.FnSkipped': WHATEVER THE INPUT: true; the input reads as it did. -/
def fnSkippedSpec : ChangeSpec := { name := "fnSkipped", fn := fun _ => fun
  | [d] => { results := [.lit (.bool true)], args := [d] }
  | _ => none }
def fnSkippedRow : OpenClaim := { program := "ytpgplbalenfgfaa", sum := "f60f011148739293cdb40a8ec0ff75abe079a7202048eeccd12ef6a7283080e0", func := "loop.example/g00119/laws.FnSkipped", spec := "fnSkipped", inPlace := ["internal/bytealg.abigen_runtime_cmpstring", "slices.overlaps[loop.example/g00119/impl.Obj]"], unfollowed := true, recurses := true, apart := false }
def FnSkippedSaid : Prop := fnSkippedRow.holds Try.pinned (OpenSpec.ofChange fnSkippedSpec)

/-- ITS FALSE NEIGHBOUR: 'it returns false'. Refute it at one input. -/
def fnSkippedWrong : ChangeSpec := { name := "fnSkipped", fn := fun _ => fun
  | [d] => { results := [.lit (.bool false)], args := [d] }
  | _ => none }
def FnSkippedWrongFalsely : Prop := fnSkippedRow.holds Try.pinned (OpenSpec.ofChange fnSkippedWrong)

/-- 'laws.FnCaught': WHATEVER THE INPUT: true; the input reads as it did. -/
def fnCaughtSpec : ChangeSpec := { name := "fnCaught", fn := fun _ => fun
  | [d] => { results := [.lit (.bool true)], args := [d] }
  | _ => none }
def fnCaughtRow : OpenClaim := { program := "ytpgplbalenfgfaa", sum := "f60f011148739293cdb40a8ec0ff75abe079a7202048eeccd12ef6a7283080e0", func := "loop.example/g00119/laws.FnCaught", spec := "fnCaught", inPlace := ["internal/bytealg.abigen_runtime_cmpstring", "slices.overlaps[loop.example/g00119/impl.Obj]"], unfollowed := true, recurses := true, apart := false }
def FnCaughtSaid : Prop := fnCaughtRow.holds Try.pinned (OpenSpec.ofChange fnCaughtSpec)

/-- ITS FALSE NEIGHBOUR: 'it returns false'. Refute it at one input. -/
def fnCaughtWrong : ChangeSpec := { name := "fnCaught", fn := fun _ => fun
  | [d] => { results := [.lit (.bool false)], args := [d] }
  | _ => none }
def FnCaughtWrongFalsely : Prop := fnCaughtRow.holds Try.pinned (OpenSpec.ofChange fnCaughtWrong)

/- THE SECOND FORM. 'bulk': how many values and letters a reading holds, each counted each time it is reached (what is shared counts as often as it is met; a slice's spare places count too). A statement '..UptoSaid' is the law's where the arguments, and the package variables that the reading takes, are together of bulk at most 1048576: NARROWER than '..Said'. Prove '..Said' where nothing that the law and all that it calls make is longer than what came in: it says more and counts as full. Else prove '..UptoSaid'. A law counts once. -/
mutual
def uptoBulk {H : Type} : DataW H → Nat
  | .lit (.string bytes) => bytes.length + 1
  | .lit _ => 1
  | .nil => 1
  | .ptr d => uptoBulk d + 1
  | .slice elems spare => uptoBulkAll elems + uptoBulkAll spare + 1
  | .agg parts => uptoBulkAll parts + 1
  | .iface _ d => uptoBulk d + 1
  | .map entries => uptoBulkEntries entries + 1
  | .held _ => 1
def uptoBulkAll {H : Type} : List (DataW H) → Nat
  | [] => 0
  | d :: r => uptoBulk d + uptoBulkAll r
def uptoBulkEntries {H : Type} : List (Lit × DataW H) → Nat
  | [] => 0
  | x :: r => uptoBulkEntry x + uptoBulkEntries r
def uptoBulkEntry {H : Type} : Lit × DataW H → Nat
  | (.string bytes, d) => bytes.length + uptoBulk d + 1
  | (_, d) => uptoBulk d + 1
 end
def uptoSmall : (H : Type) → List (DataW H) → Bool := fun _ ds => decide (uptoBulkAll ds ≤ 1048576)
def OpenSpec.upto (s : _root_.Go.ChangeSpec) : _root_.Go.OpenSpec := { _root_.Go.OpenSpec.ofChange s with cond := some uptoSmall }

/-- 'laws.FnDelayed', WHERE WHAT IT READS IS OF BULK AT MOST 1048576: true; the input reads as it did. -/
def fnDelayedUptoRow : OpenClaim := { program := "ytpgplbalenfgfaa", sum := "f60f011148739293cdb40a8ec0ff75abe079a7202048eeccd12ef6a7283080e0", func := "loop.example/g00119/laws.FnDelayed", spec := "fnDelayed", unfollowed := true, recurses := true, apart := false, narrowed := true }
def FnDelayedUptoSaid : Prop := fnDelayedUptoRow.holds Try.pinned (OpenSpec.upto fnDelayedSpec)

/-- 'laws.FnOnce', WHERE WHAT IT READS IS OF BULK AT MOST 1048576: true; the input reads as it did. -/
def fnOnceUptoRow : OpenClaim := { program := "ytpgplbalenfgfaa", sum := "f60f011148739293cdb40a8ec0ff75abe079a7202048eeccd12ef6a7283080e0", func := "loop.example/g00119/laws.FnOnce", spec := "fnOnce", unfollowed := true, recurses := true, apart := false, narrowed := true }
def FnOnceUptoSaid : Prop := fnOnceUptoRow.holds Try.pinned (OpenSpec.upto fnOnceSpec)

/-- 'laws.FnFit', WHERE WHAT IT READS IS OF BULK AT MOST 1048576: true; the input reads as it did. -/
def fnFitUptoRow : OpenClaim := { program := "ytpgplbalenfgfaa", sum := "f60f011148739293cdb40a8ec0ff75abe079a7202048eeccd12ef6a7283080e0", func := "loop.example/g00119/laws.FnFit", spec := "fnFit", unfollowed := true, recurses := true, apart := false, narrowed := true }
def FnFitUptoSaid : Prop := fnFitUptoRow.holds Try.pinned (OpenSpec.upto fnFitSpec)

/-- 'laws.FnMoved', WHERE WHAT IT READS IS OF BULK AT MOST 1048576: true; the input reads as it did. -/
def fnMovedUptoRow : OpenClaim := { program := "ytpgplbalenfgfaa", sum := "f60f011148739293cdb40a8ec0ff75abe079a7202048eeccd12ef6a7283080e0", func := "loop.example/g00119/laws.FnMoved", spec := "fnMoved", inPlace := ["slices.overlaps[loop.example/g00119/impl.Run]"], unfollowed := true, recurses := true, apart := false, narrowed := true }
def FnMovedUptoSaid : Prop := fnMovedUptoRow.holds Try.pinned (OpenSpec.upto fnMovedSpec)

/-- 'laws.FnPlans', WHERE WHAT IT READS IS OF BULK AT MOST 1048576: true; the input reads as it did. -/
def fnPlansUptoRow : OpenClaim := { program := "ytpgplbalenfgfaa", sum := "f60f011148739293cdb40a8ec0ff75abe079a7202048eeccd12ef6a7283080e0", func := "loop.example/g00119/laws.FnPlans", spec := "fnPlans", unfollowed := true, recurses := true, apart := false, narrowed := true }
def FnPlansUptoSaid : Prop := fnPlansUptoRow.holds Try.pinned (OpenSpec.upto fnPlansSpec)

/-- 'laws.FnObeyed', WHERE WHAT IT READS IS OF BULK AT MOST 1048576: true; the input reads as it did. -/
def fnObeyedUptoRow : OpenClaim := { program := "ytpgplbalenfgfaa", sum := "f60f011148739293cdb40a8ec0ff75abe079a7202048eeccd12ef6a7283080e0", func := "loop.example/g00119/laws.FnObeyed", spec := "fnObeyed", unfollowed := true, recurses := true, apart := false, narrowed := true }
def FnObeyedUptoSaid : Prop := fnObeyedUptoRow.holds Try.pinned (OpenSpec.upto fnObeyedSpec)

/-- 'laws.FnSkipped', WHERE WHAT IT READS IS OF BULK AT MOST 1048576: true; the input reads as it did. -/
def fnSkippedUptoRow : OpenClaim := { program := "ytpgplbalenfgfaa", sum := "f60f011148739293cdb40a8ec0ff75abe079a7202048eeccd12ef6a7283080e0", func := "loop.example/g00119/laws.FnSkipped", spec := "fnSkipped", inPlace := ["internal/bytealg.abigen_runtime_cmpstring", "slices.overlaps[loop.example/g00119/impl.Obj]"], unfollowed := true, recurses := true, apart := false, narrowed := true }
def FnSkippedUptoSaid : Prop := fnSkippedUptoRow.holds Try.pinned (OpenSpec.upto fnSkippedSpec)

/-- 'laws.FnCaught', WHERE WHAT IT READS IS OF BULK AT MOST 1048576: true; the input reads as it did. -/
def fnCaughtUptoRow : OpenClaim := { program := "ytpgplbalenfgfaa", sum := "f60f011148739293cdb40a8ec0ff75abe079a7202048eeccd12ef6a7283080e0", func := "loop.example/g00119/laws.FnCaught", spec := "fnCaught", inPlace := ["internal/bytealg.abigen_runtime_cmpstring", "slices.overlaps[loop.example/g00119/impl.Obj]"], unfollowed := true, recurses := true, apart := false, narrowed := true }
def FnCaughtUptoSaid : Prop := fnCaughtUptoRow.holds Try.pinned (OpenSpec.upto fnCaughtSpec)

end Rows
end Go.Proofs.Ytpgplbalenfgfaa
