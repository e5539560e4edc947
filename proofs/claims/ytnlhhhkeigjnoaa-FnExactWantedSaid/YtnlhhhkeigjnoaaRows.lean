/-
  NARROWER THAN 'FOR EVERY INPUT', by the rows' own cells (each row's printed sentence says how): FnExactWorksOk: loops · FnExactMsgOk: loops · FnExactIsleOk: loops · FnExactWanted: loops.
  DERIVED. THE GIVEN ROWS OF THIS SEAT. 12 by the template 'for every input the law returns true; each argument reads behind the call as it read before'; 0 by the template 'total and deterministic' (their statements: YtnlhhhkeigjnoaaTotals.lean).
  GIVEN WITH THE SEED: the statements are not yours to turn. If you find one false, say at which input.
  Laid BY PROGRAM, IN A SANDBOX (cutbox-rows.mjs): the forced cells as the released guide's own fill.sh prints them over the translation 282dc188d5da5bef… (all of the seat's roots in one cut). By AI agents, Wed Nov 11 2026. No macro, syntax, notation, axiom, sorry.
-/
import Derived.Test.YtnlhhhkeigjnoaaChecked
import GoSem.Claim
import GoSem.ClaimJoined
import GoSem.ClaimMapViews
import Derived.JoinedTies
import Derived.KernelRfl
namespace Go.Proofs.Ytnlhhhkeigjnoaa
/- THE CELL 'sum', in the pinned program and in every row, IS THE sha256 OF THE DUMP (.gsa) THAT YtnlhhhkeigjnoaaProg.lean LOADS. Nothing in Lean hashes anything: it is a label: what it is worth is what the hold of that sum in a sandbox is worth. -/
noncomputable def Try.pinned : Pinned := { name := "ytnlhhhkeigjnoaa", sum := "282dc188d5da5bef46b4b90a28b1e18a4c6cfe3e5665c8905db186b84165d51b", checked := Try.checked }
namespace Rows
def none {H : Type} : Left H := { results := [], args := [] }

/-- 'laws.FnExactIslandOk': WHATEVER THE INPUT: true; the input reads as it did. -/
def fnExactIslandOkSpec : ChangeSpec := { name := "fnExactIslandOk", fn := fun _ => fun
  | [d] => { results := [.lit (.bool true)], args := [d] }
  | _ => none }
def fnExactIslandOkRow : OpenClaim := { program := "ytnlhhhkeigjnoaa", sum := "282dc188d5da5bef46b4b90a28b1e18a4c6cfe3e5665c8905db186b84165d51b", func := "loop.example/g00119/laws.FnExactIslandOk", spec := "fnExactIslandOk", apart := false }
def FnExactIslandOkSaid : Prop := fnExactIslandOkRow.holds Try.pinned (OpenSpec.ofChange fnExactIslandOkSpec)

/-- ITS FALSE NEIGHBOUR: 'it returns false'. Refute it at one input. -/
def fnExactIslandOkWrong : ChangeSpec := { name := "fnExactIslandOk", fn := fun _ => fun
  | [d] => { results := [.lit (.bool false)], args := [d] }
  | _ => none }
def FnExactIslandOkWrongFalsely : Prop := fnExactIslandOkRow.holds Try.pinned (OpenSpec.ofChange fnExactIslandOkWrong)

/-- 'laws.FnExactWeightOf': WHATEVER THE INPUT: true; the input reads as it did. -/
def fnExactWeightOfSpec : ChangeSpec := { name := "fnExactWeightOf", fn := fun _ => fun
  | [d1, d2] => { results := [.lit (.bool true)], args := [d1, d2] }
  | _ => none }
def fnExactWeightOfRow : OpenClaim := { program := "ytnlhhhkeigjnoaa", sum := "282dc188d5da5bef46b4b90a28b1e18a4c6cfe3e5665c8905db186b84165d51b", func := "loop.example/g00119/laws.FnExactWeightOf", spec := "fnExactWeightOf", apart := false }
def FnExactWeightOfSaid : Prop := fnExactWeightOfRow.holds Try.pinned (OpenSpec.ofChange fnExactWeightOfSpec)

/-- ITS FALSE NEIGHBOUR: 'it returns false'. Refute it at one input. -/
def fnExactWeightOfWrong : ChangeSpec := { name := "fnExactWeightOf", fn := fun _ => fun
  | [d1, d2] => { results := [.lit (.bool false)], args := [d1, d2] }
  | _ => none }
def FnExactWeightOfWrongFalsely : Prop := fnExactWeightOfRow.holds Try.pinned (OpenSpec.ofChange fnExactWeightOfWrong)

/-- 'laws.FnExactQueueOk': WHATEVER THE INPUT: true; the input reads as it did. -/
def fnExactQueueOkSpec : ChangeSpec := { name := "fnExactQueueOk", fn := fun _ => fun
  | [d] => { results := [.lit (.bool true)], args := [d] }
  | _ => none }
def fnExactQueueOkRow : OpenClaim := { program := "ytnlhhhkeigjnoaa", sum := "282dc188d5da5bef46b4b90a28b1e18a4c6cfe3e5665c8905db186b84165d51b", func := "loop.example/g00119/laws.FnExactQueueOk", spec := "fnExactQueueOk", unfollowed := true, recurses := true, apart := false }
def FnExactQueueOkSaid : Prop := fnExactQueueOkRow.holds Try.pinned (OpenSpec.ofChange fnExactQueueOkSpec)

/-- ITS FALSE NEIGHBOUR: 'it returns false'. Refute it at one input. -/
def fnExactQueueOkWrong : ChangeSpec := { name := "fnExactQueueOk", fn := fun _ => fun
  | [d] => { results := [.lit (.bool false)], args := [d] }
  | _ => none }
def FnExactQueueOkWrongFalsely : Prop := fnExactQueueOkRow.holds Try.pinned (OpenSpec.ofChange fnExactQueueOkWrong)

/-- 'laws.FnExactNextAt': WHATEVER THE INPUT: true; the input reads as it did. -/
def fnExactNextAtSpec : ChangeSpec := { name := "fnExactNextAt", fn := fun _ => fun
  | [d] => { results := [.lit (.bool true)], args := [d] }
  | _ => none }
def fnExactNextAtRow : OpenClaim := { program := "ytnlhhhkeigjnoaa", sum := "282dc188d5da5bef46b4b90a28b1e18a4c6cfe3e5665c8905db186b84165d51b", func := "loop.example/g00119/laws.FnExactNextAt", spec := "fnExactNextAt", unfollowed := true, recurses := true, apart := false }
def FnExactNextAtSaid : Prop := fnExactNextAtRow.holds Try.pinned (OpenSpec.ofChange fnExactNextAtSpec)

/-- ITS FALSE NEIGHBOUR: 'it returns false'. Refute it at one input. -/
def fnExactNextAtWrong : ChangeSpec := { name := "fnExactNextAt", fn := fun _ => fun
  | [d] => { results := [.lit (.bool false)], args := [d] }
  | _ => none }
def FnExactNextAtWrongFalsely : Prop := fnExactNextAtRow.holds Try.pinned (OpenSpec.ofChange fnExactNextAtWrong)

/-- 'laws.FnExactIsleNew': WHATEVER THE INPUT: true; the input reads as it did. -/
def fnExactIsleNewSpec : ChangeSpec := { name := "fnExactIsleNew", fn := fun _ => fun
  | [d1, d2] => { results := [.lit (.bool true)], args := [d1, d2] }
  | _ => none }
def fnExactIsleNewRow : OpenClaim := { program := "ytnlhhhkeigjnoaa", sum := "282dc188d5da5bef46b4b90a28b1e18a4c6cfe3e5665c8905db186b84165d51b", func := "loop.example/g00119/laws.FnExactIsleNew", spec := "fnExactIsleNew", recurses := true, apart := false }
def FnExactIsleNewSaid : Prop := fnExactIsleNewRow.holds Try.pinned (OpenSpec.ofChange fnExactIsleNewSpec)

/-- ITS FALSE NEIGHBOUR: 'it returns false'. Refute it at one input. -/
def fnExactIsleNewWrong : ChangeSpec := { name := "fnExactIsleNew", fn := fun _ => fun
  | [d1, d2] => { results := [.lit (.bool false)], args := [d1, d2] }
  | _ => none }
def FnExactIsleNewWrongFalsely : Prop := fnExactIsleNewRow.holds Try.pinned (OpenSpec.ofChange fnExactIsleNewWrong)

/-- 'laws.FnExactWantOk': WHATEVER THE INPUT: true; the input reads as it did. -/
def fnExactWantOkSpec : ChangeSpec := { name := "fnExactWantOk", fn := fun _ => fun
  | [d] => { results := [.lit (.bool true)], args := [d] }
  | _ => none }
def fnExactWantOkRow : OpenClaim := { program := "ytnlhhhkeigjnoaa", sum := "282dc188d5da5bef46b4b90a28b1e18a4c6cfe3e5665c8905db186b84165d51b", func := "loop.example/g00119/laws.FnExactWantOk", spec := "fnExactWantOk", unfollowed := true, recurses := true, apart := false }
def FnExactWantOkSaid : Prop := fnExactWantOkRow.holds Try.pinned (OpenSpec.ofChange fnExactWantOkSpec)

/-- ITS FALSE NEIGHBOUR: 'it returns false'. Refute it at one input. -/
def fnExactWantOkWrong : ChangeSpec := { name := "fnExactWantOk", fn := fun _ => fun
  | [d] => { results := [.lit (.bool false)], args := [d] }
  | _ => none }
def FnExactWantOkWrongFalsely : Prop := fnExactWantOkRow.holds Try.pinned (OpenSpec.ofChange fnExactWantOkWrong)

/-- 'laws.FnExactWorksOk': WHATEVER THE INPUT: true; the input reads as it did. -/
def fnExactWorksOkSpec : ChangeSpec := { name := "fnExactWorksOk", fn := fun _ => fun
  | [d] => { results := [.lit (.bool true)], args := [d] }
  | _ => none }
def fnExactWorksOkRow : OpenClaim := { program := "ytnlhhhkeigjnoaa", sum := "282dc188d5da5bef46b4b90a28b1e18a4c6cfe3e5665c8905db186b84165d51b", func := "loop.example/g00119/laws.FnExactWorksOk", spec := "fnExactWorksOk", recurses := true, loops := true, apart := false }
def FnExactWorksOkSaid : Prop := fnExactWorksOkRow.holds Try.pinned (OpenSpec.ofChange fnExactWorksOkSpec)

/-- ITS FALSE NEIGHBOUR: 'it returns false'. Refute it at one input. -/
def fnExactWorksOkWrong : ChangeSpec := { name := "fnExactWorksOk", fn := fun _ => fun
  | [d] => { results := [.lit (.bool false)], args := [d] }
  | _ => none }
def FnExactWorksOkWrongFalsely : Prop := fnExactWorksOkRow.holds Try.pinned (OpenSpec.ofChange fnExactWorksOkWrong)

/-- 'laws.FnExactMsgOk': WHATEVER THE INPUT: true; the input reads as it did. -/
def fnExactMsgOkSpec : ChangeSpec := { name := "fnExactMsgOk", fn := fun _ => fun
  | [d] => { results := [.lit (.bool true)], args := [d] }
  | _ => none }
def fnExactMsgOkRow : OpenClaim := { program := "ytnlhhhkeigjnoaa", sum := "282dc188d5da5bef46b4b90a28b1e18a4c6cfe3e5665c8905db186b84165d51b", func := "loop.example/g00119/laws.FnExactMsgOk", spec := "fnExactMsgOk", recurses := true, loops := true, apart := false }
def FnExactMsgOkSaid : Prop := fnExactMsgOkRow.holds Try.pinned (OpenSpec.ofChange fnExactMsgOkSpec)

/-- ITS FALSE NEIGHBOUR: 'it returns false'. Refute it at one input. -/
def fnExactMsgOkWrong : ChangeSpec := { name := "fnExactMsgOk", fn := fun _ => fun
  | [d] => { results := [.lit (.bool false)], args := [d] }
  | _ => none }
def FnExactMsgOkWrongFalsely : Prop := fnExactMsgOkRow.holds Try.pinned (OpenSpec.ofChange fnExactMsgOkWrong)

/-- 'laws.FnExactIsleOk': WHATEVER THE INPUT: true; the input reads as it did. -/
def fnExactIsleOkSpec : ChangeSpec := { name := "fnExactIsleOk", fn := fun _ => fun
  | [d] => { results := [.lit (.bool true)], args := [d] }
  | _ => none }
def fnExactIsleOkRow : OpenClaim := { program := "ytnlhhhkeigjnoaa", sum := "282dc188d5da5bef46b4b90a28b1e18a4c6cfe3e5665c8905db186b84165d51b", func := "loop.example/g00119/laws.FnExactIsleOk", spec := "fnExactIsleOk", unfollowed := true, recurses := true, loops := true, apart := false }
def FnExactIsleOkSaid : Prop := fnExactIsleOkRow.holds Try.pinned (OpenSpec.ofChange fnExactIsleOkSpec)

/-- ITS FALSE NEIGHBOUR: 'it returns false'. Refute it at one input. -/
def fnExactIsleOkWrong : ChangeSpec := { name := "fnExactIsleOk", fn := fun _ => fun
  | [d] => { results := [.lit (.bool false)], args := [d] }
  | _ => none }
def FnExactIsleOkWrongFalsely : Prop := fnExactIsleOkRow.holds Try.pinned (OpenSpec.ofChange fnExactIsleOkWrong)

/-- 'laws.FnExactEligible': WHATEVER THE INPUT: true; the input reads as it did. -/
def fnExactEligibleSpec : ChangeSpec := { name := "fnExactEligible", fn := fun _ => fun
  | [d1, d2] => { results := [.lit (.bool true)], args := [d1, d2] }
  | _ => none }
def fnExactEligibleRow : OpenClaim := { program := "ytnlhhhkeigjnoaa", sum := "282dc188d5da5bef46b4b90a28b1e18a4c6cfe3e5665c8905db186b84165d51b", func := "loop.example/g00119/laws.FnExactEligible", spec := "fnExactEligible", unfollowed := true, recurses := true, apart := false }
def FnExactEligibleSaid : Prop := fnExactEligibleRow.holds Try.pinned (OpenSpec.ofChange fnExactEligibleSpec)

/-- ITS FALSE NEIGHBOUR: 'it returns false'. Refute it at one input. -/
def fnExactEligibleWrong : ChangeSpec := { name := "fnExactEligible", fn := fun _ => fun
  | [d1, d2] => { results := [.lit (.bool false)], args := [d1, d2] }
  | _ => none }
def FnExactEligibleWrongFalsely : Prop := fnExactEligibleRow.holds Try.pinned (OpenSpec.ofChange fnExactEligibleWrong)

/-- 'laws.FnExactHubNew': WHATEVER THE INPUT: true; the input reads as it did. -/
def fnExactHubNewSpec : ChangeSpec := { name := "fnExactHubNew", fn := fun _ => fun
  | [] => { results := [.lit (.bool true)], args := [] }
  | _ => none }
def fnExactHubNewRow : OpenClaim := { program := "ytnlhhhkeigjnoaa", sum := "282dc188d5da5bef46b4b90a28b1e18a4c6cfe3e5665c8905db186b84165d51b", func := "loop.example/g00119/laws.FnExactHubNew", spec := "fnExactHubNew", recurses := true, apart := false }
def FnExactHubNewSaid : Prop := fnExactHubNewRow.holds Try.pinned (OpenSpec.ofChange fnExactHubNewSpec)

/-- ITS FALSE NEIGHBOUR: 'it returns false'. Refute it at one input. -/
def fnExactHubNewWrong : ChangeSpec := { name := "fnExactHubNew", fn := fun _ => fun
  | [] => { results := [.lit (.bool false)], args := [] }
  | _ => none }
def FnExactHubNewWrongFalsely : Prop := fnExactHubNewRow.holds Try.pinned (OpenSpec.ofChange fnExactHubNewWrong)

/-- 'laws.FnExactWanted': WHATEVER THE INPUT: true; the input reads as it did. -/
def fnExactWantedSpec : ChangeSpec := { name := "fnExactWanted", fn := fun _ => fun
  | [d1, d2] => { results := [.lit (.bool true)], args := [d1, d2] }
  | _ => none }
def fnExactWantedRow : OpenClaim := { program := "ytnlhhhkeigjnoaa", sum := "282dc188d5da5bef46b4b90a28b1e18a4c6cfe3e5665c8905db186b84165d51b", func := "loop.example/g00119/laws.FnExactWanted", spec := "fnExactWanted", recurses := true, loops := true, apart := false }
def FnExactWantedSaid : Prop := fnExactWantedRow.holds Try.pinned (OpenSpec.ofChange fnExactWantedSpec)

/-- ITS FALSE NEIGHBOUR: 'it returns false'. Refute it at one input. -/
def fnExactWantedWrong : ChangeSpec := { name := "fnExactWanted", fn := fun _ => fun
  | [d1, d2] => { results := [.lit (.bool false)], args := [d1, d2] }
  | _ => none }
def FnExactWantedWrongFalsely : Prop := fnExactWantedRow.holds Try.pinned (OpenSpec.ofChange fnExactWantedWrong)

/- THE SECOND FORM. 'bulk': how many values and letters a reading holds, each counted each time it is reached (what is shared counts as often as it is met; a slice's spare places count too). A statement '..UptoSaid' is the law's where the arguments, and the package variables that the reading takes, are together of bulk at most 1048576: NARROWER than '..Said'. Prove '..Said' where nothing that the law and all that it calls make is longer than what came in: it says more and counts as full. Else prove '..UptoSaid'. A law counts once. -/
mutual
def uptoBulk {H : Type} : DataW H → Nat
  | .lit (.string bytes) => bytes.length + 1
  | .lit _ => 1
  | .nil => 1
  | .ptr d => uptoBulk d + 1
  | .slice elems spare => uptoBulkAll elems + uptoBulkAll spare + 1
  | .agg parts => uptoBulkAll parts + 1
  | .iface _ d => uptoBulk d + 1
  | .map entries => uptoBulkEntries entries + 1
  | .held _ => 1
def uptoBulkAll {H : Type} : List (DataW H) → Nat
  | [] => 0
  | d :: r => uptoBulk d + uptoBulkAll r
def uptoBulkEntries {H : Type} : List (Lit × DataW H) → Nat
  | [] => 0
  | x :: r => uptoBulkEntry x + uptoBulkEntries r
def uptoBulkEntry {H : Type} : Lit × DataW H → Nat
  | (.string bytes, d) => bytes.length + uptoBulk d + 1
  | (_, d) => uptoBulk d + 1
 end
def uptoSmall : (H : Type) → List (DataW H) → Bool := fun _ ds => decide (uptoBulkAll ds ≤ 1048576)
def OpenSpec.upto (s : _root_.Go.ChangeSpec) : _root_.Go.OpenSpec := { _root_.Go.OpenSpec.ofChange s with cond := some uptoSmall }

/-- 'laws.FnExactIslandOk', WHERE WHAT IT READS IS OF BULK AT MOST 1048576: true; the input reads as it did. -/
def fnExactIslandOkUptoRow : OpenClaim := { program := "ytnlhhhkeigjnoaa", sum := "282dc188d5da5bef46b4b90a28b1e18a4c6cfe3e5665c8905db186b84165d51b", func := "loop.example/g00119/laws.FnExactIslandOk", spec := "fnExactIslandOk", apart := false, narrowed := true }
def FnExactIslandOkUptoSaid : Prop := fnExactIslandOkUptoRow.holds Try.pinned (OpenSpec.upto fnExactIslandOkSpec)

/-- 'laws.FnExactWeightOf', WHERE WHAT IT READS IS OF BULK AT MOST 1048576: true; the input reads as it did. -/
def fnExactWeightOfUptoRow : OpenClaim := { program := "ytnlhhhkeigjnoaa", sum := "282dc188d5da5bef46b4b90a28b1e18a4c6cfe3e5665c8905db186b84165d51b", func := "loop.example/g00119/laws.FnExactWeightOf", spec := "fnExactWeightOf", apart := false, narrowed := true }
def FnExactWeightOfUptoSaid : Prop := fnExactWeightOfUptoRow.holds Try.pinned (OpenSpec.upto fnExactWeightOfSpec)

/-- 'laws.FnExactQueueOk', WHERE WHAT IT READS IS OF BULK AT MOST 1048576: true; the input reads as it did. -/
def fnExactQueueOkUptoRow : OpenClaim := { program := "ytnlhhhkeigjnoaa", sum := "282dc188d5da5bef46b4b90a28b1e18a4c6cfe3e5665c8905db186b84165d51b", func := "loop.example/g00119/laws.FnExactQueueOk", spec := "fnExactQueueOk", unfollowed := true, recurses := true, apart := false, narrowed := true }
def FnExactQueueOkUptoSaid : Prop := fnExactQueueOkUptoRow.holds Try.pinned (OpenSpec.upto fnExactQueueOkSpec)

/-- 'laws.FnExactNextAt', WHERE WHAT IT READS IS OF BULK AT MOST 1048576: true; the input reads as it did. -/
def fnExactNextAtUptoRow : OpenClaim := { program := "ytnlhhhkeigjnoaa", sum := "282dc188d5da5bef46b4b90a28b1e18a4c6cfe3e5665c8905db186b84165d51b", func := "loop.example/g00119/laws.FnExactNextAt", spec := "fnExactNextAt", unfollowed := true, recurses := true, apart := false, narrowed := true }
def FnExactNextAtUptoSaid : Prop := fnExactNextAtUptoRow.holds Try.pinned (OpenSpec.upto fnExactNextAtSpec)

/-- 'laws.FnExactIsleNew', WHERE WHAT IT READS IS OF BULK AT MOST 1048576: true; the input reads as it did. -/
def fnExactIsleNewUptoRow : OpenClaim := { program := "ytnlhhhkeigjnoaa", sum := "282dc188d5da5bef46b4b90a28b1e18a4c6cfe3e5665c8905db186b84165d51b", func := "loop.example/g00119/laws.FnExactIsleNew", spec := "fnExactIsleNew", recurses := true, apart := false, narrowed := true }
def FnExactIsleNewUptoSaid : Prop := fnExactIsleNewUptoRow.holds Try.pinned (OpenSpec.upto fnExactIsleNewSpec)

/-- 'laws.FnExactWantOk', WHERE WHAT IT READS IS OF BULK AT MOST 1048576: true; the input reads as it did. -/
def fnExactWantOkUptoRow : OpenClaim := { program := "ytnlhhhkeigjnoaa", sum := "282dc188d5da5bef46b4b90a28b1e18a4c6cfe3e5665c8905db186b84165d51b", func := "loop.example/g00119/laws.FnExactWantOk", spec := "fnExactWantOk", unfollowed := true, recurses := true, apart := false, narrowed := true }
def FnExactWantOkUptoSaid : Prop := fnExactWantOkUptoRow.holds Try.pinned (OpenSpec.upto fnExactWantOkSpec)

/-- 'laws.FnExactWorksOk', WHERE WHAT IT READS IS OF BULK AT MOST 1048576: true; the input reads as it did. -/
def fnExactWorksOkUptoRow : OpenClaim := { program := "ytnlhhhkeigjnoaa", sum := "282dc188d5da5bef46b4b90a28b1e18a4c6cfe3e5665c8905db186b84165d51b", func := "loop.example/g00119/laws.FnExactWorksOk", spec := "fnExactWorksOk", recurses := true, loops := true, apart := false, narrowed := true }
def FnExactWorksOkUptoSaid : Prop := fnExactWorksOkUptoRow.holds Try.pinned (OpenSpec.upto fnExactWorksOkSpec)

/-- 'laws.FnExactMsgOk', WHERE WHAT IT READS IS OF BULK AT MOST 1048576: true; the input reads as it did. -/
def fnExactMsgOkUptoRow : OpenClaim := { program := "ytnlhhhkeigjnoaa", sum := "282dc188d5da5bef46b4b90a28b1e18a4c6cfe3e5665c8905db186b84165d51b", func := "loop.example/g00119/laws.FnExactMsgOk", spec := "fnExactMsgOk", recurses := true, loops := true, apart := false, narrowed := true }
def FnExactMsgOkUptoSaid : Prop := fnExactMsgOkUptoRow.holds Try.pinned (OpenSpec.upto fnExactMsgOkSpec)

/-- 'laws.FnExactIsleOk', WHERE WHAT IT READS IS OF BULK AT MOST 1048576: true; the input reads as it did. -/
def fnExactIsleOkUptoRow : OpenClaim := { program := "ytnlhhhkeigjnoaa", sum := "282dc188d5da5bef46b4b90a28b1e18a4c6cfe3e5665c8905db186b84165d51b", func := "loop.example/g00119/laws.FnExactIsleOk", spec := "fnExactIsleOk", unfollowed := true, recurses := true, loops := true, apart := false, narrowed := true }
def FnExactIsleOkUptoSaid : Prop := fnExactIsleOkUptoRow.holds Try.pinned (OpenSpec.upto fnExactIsleOkSpec)

/-- 'laws.FnExactEligible', WHERE WHAT IT READS IS OF BULK AT MOST 1048576: true; the input reads as it did. -/
def fnExactEligibleUptoRow : OpenClaim := { program := "ytnlhhhkeigjnoaa", sum := "282dc188d5da5bef46b4b90a28b1e18a4c6cfe3e5665c8905db186b84165d51b", func := "loop.example/g00119/laws.FnExactEligible", spec := "fnExactEligible", unfollowed := true, recurses := true, apart := false, narrowed := true }
def FnExactEligibleUptoSaid : Prop := fnExactEligibleUptoRow.holds Try.pinned (OpenSpec.upto fnExactEligibleSpec)

/-- 'laws.FnExactHubNew', WHERE WHAT IT READS IS OF BULK AT MOST 1048576: true; the input reads as it did. -/
def fnExactHubNewUptoRow : OpenClaim := { program := "ytnlhhhkeigjnoaa", sum := "282dc188d5da5bef46b4b90a28b1e18a4c6cfe3e5665c8905db186b84165d51b", func := "loop.example/g00119/laws.FnExactHubNew", spec := "fnExactHubNew", recurses := true, apart := false, narrowed := true }
def FnExactHubNewUptoSaid : Prop := fnExactHubNewUptoRow.holds Try.pinned (OpenSpec.upto fnExactHubNewSpec)

/-- 'laws.FnExactWanted', WHERE WHAT IT READS IS OF BULK AT MOST 1048576: true; the input reads as it did. -/
def fnExactWantedUptoRow : OpenClaim := { program := "ytnlhhhkeigjnoaa", sum := "282dc188d5da5bef46b4b90a28b1e18a4c6cfe3e5665c8905db186b84165d51b", func := "loop.example/g00119/laws.FnExactWanted", spec := "fnExactWanted", recurses := true, loops := true, apart := false, narrowed := true }
def FnExactWantedUptoSaid : Prop := fnExactWantedUptoRow.holds Try.pinned (OpenSpec.upto fnExactWantedSpec)

end Rows
end Go.Proofs.Ytnlhhhkeigjnoaa
