/-
  NARROWER THAN 'FOR EVERY INPUT', by the rows' own cells (each row's printed sentence says how): FnExactRunning: loops · FnExactObey: loops · FnExactMirrorOk: loops · FnExactList: loops · FnExactSince: loops · FnExactTell: loops · FnExactMove: loops · FnExactCalm: loops.
  DERIVED. THE GIVEN ROWS OF THIS SEAT. 12 by the template 'for every input the law returns true; each argument reads behind the call as it read before'; 0 by the template 'total and deterministic' (their statements: YtljkbknnnpjmgaaTotals.lean).
  GIVEN WITH THE SEED: the statements are not yours to turn. If you find one false, say at which input.
  Laid BY PROGRAM, IN A SANDBOX (cutbox-rows.mjs): the forced cells as the released guide's own fill.sh prints them over the translation e597d383c5c8f25a… (all of the seat's roots in one cut). By AI agents, Wed Nov 11 2026. No macro, syntax, notation, axiom, sorry.
-/
import Derived.Test.YtljkbknnnpjmgaaChecked
import GoSem.Claim
import GoSem.ClaimJoined
import GoSem.ClaimMapViews
import Derived.JoinedTies
import Derived.KernelRfl
namespace Go.Proofs.Ytljkbknnnpjmgaa
/- THE CELL 'sum', in the pinned program and in every row, IS THE sha256 OF THE DUMP (.gsa) THAT YtljkbknnnpjmgaaProg.lean LOADS. Nothing in Lean hashes anything: it is a label: what it is worth is what the hold of that sum in a sandbox is worth. -/
noncomputable def Try.pinned : Pinned := { name := "ytljkbknnnpjmgaa", sum := "e597d383c5c8f25ab21eb2ffeaf46efded80b868e28352c02039292e9e4384ae", checked := Try.checked }
namespace Rows
def none {H : Type} : Left H := { results := [], args := [] }

/-- 'laws.FnExactRunning': WHATEVER THE INPUT: true; the input reads as it did. -/
def fnExactRunningSpec : ChangeSpec := { name := "fnExactRunning", fn := fun _ => fun
  | [d1, d2] => { results := [.lit (.bool true)], args := [d1, d2] }
  | _ => none }
def fnExactRunningRow : OpenClaim := { program := "ytljkbknnnpjmgaa", sum := "e597d383c5c8f25ab21eb2ffeaf46efded80b868e28352c02039292e9e4384ae", func := "loop.example/g00119/laws.FnExactRunning", spec := "fnExactRunning", recurses := true, loops := true, apart := false }
def FnExactRunningSaid : Prop := fnExactRunningRow.holds Try.pinned (OpenSpec.ofChange fnExactRunningSpec)

/-- ITS FALSE NEIGHBOUR: 'it returns false'. Refute it at one input. -/
def fnExactRunningWrong : ChangeSpec := { name := "fnExactRunning", fn := fun _ => fun
  | [d1, d2] => { results := [.lit (.bool false)], args := [d1, d2] }
  | _ => none }
def FnExactRunningWrongFalsely : Prop := fnExactRunningRow.holds Try.pinned (OpenSpec.ofChange fnExactRunningWrong)

/-- 'laws.FnExactPass': WHATEVER THE INPUT: true; the input reads as it did. -/
def fnExactPassSpec : ChangeSpec := { name := "fnExactPass", fn := fun _ => fun
  | [d1, d2] => { results := [.lit (.bool true)], args := [d1, d2] }
  | _ => none }
def fnExactPassRow : OpenClaim := { program := "ytljkbknnnpjmgaa", sum := "e597d383c5c8f25ab21eb2ffeaf46efded80b868e28352c02039292e9e4384ae", func := "loop.example/g00119/laws.FnExactPass", spec := "fnExactPass", unfollowed := true, recurses := true, apart := false }
def FnExactPassSaid : Prop := fnExactPassRow.holds Try.pinned (OpenSpec.ofChange fnExactPassSpec)

/-- ITS FALSE NEIGHBOUR: 'it returns false'. Refute it at one input. -/
def fnExactPassWrong : ChangeSpec := { name := "fnExactPass", fn := fun _ => fun
  | [d1, d2] => { results := [.lit (.bool false)], args := [d1, d2] }
  | _ => none }
def FnExactPassWrongFalsely : Prop := fnExactPassRow.holds Try.pinned (OpenSpec.ofChange fnExactPassWrong)

/-- 'laws.FnExactPut': WHATEVER THE INPUT: true; the input reads as it did. -/
def fnExactPutSpec : ChangeSpec := { name := "fnExactPut", fn := fun _ => fun
  | [d1, d2] => { results := [.lit (.bool true)], args := [d1, d2] }
  | _ => none }
def fnExactPutRow : OpenClaim := { program := "ytljkbknnnpjmgaa", sum := "e597d383c5c8f25ab21eb2ffeaf46efded80b868e28352c02039292e9e4384ae", func := "loop.example/g00119/laws.FnExactPut", spec := "fnExactPut", unfollowed := true, recurses := true, apart := false }
def FnExactPutSaid : Prop := fnExactPutRow.holds Try.pinned (OpenSpec.ofChange fnExactPutSpec)

/-- ITS FALSE NEIGHBOUR: 'it returns false'. Refute it at one input. -/
def fnExactPutWrong : ChangeSpec := { name := "fnExactPut", fn := fun _ => fun
  | [d1, d2] => { results := [.lit (.bool false)], args := [d1, d2] }
  | _ => none }
def FnExactPutWrongFalsely : Prop := fnExactPutRow.holds Try.pinned (OpenSpec.ofChange fnExactPutWrong)

/-- 'laws.FnExactObey': WHATEVER THE INPUT: true; the input reads as it did. -/
def fnExactObeySpec : ChangeSpec := { name := "fnExactObey", fn := fun _ => fun
  | [d1, d2, d3] => { results := [.lit (.bool true)], args := [d1, d2, d3] }
  | _ => none }
def fnExactObeyRow : OpenClaim := { program := "ytljkbknnnpjmgaa", sum := "e597d383c5c8f25ab21eb2ffeaf46efded80b868e28352c02039292e9e4384ae", func := "loop.example/g00119/laws.FnExactObey", spec := "fnExactObey", unfollowed := true, recurses := true, loops := true, apart := false }
def FnExactObeySaid : Prop := fnExactObeyRow.holds Try.pinned (OpenSpec.ofChange fnExactObeySpec)

/-- ITS FALSE NEIGHBOUR: 'it returns false'. Refute it at one input. -/
def fnExactObeyWrong : ChangeSpec := { name := "fnExactObey", fn := fun _ => fun
  | [d1, d2, d3] => { results := [.lit (.bool false)], args := [d1, d2, d3] }
  | _ => none }
def FnExactObeyWrongFalsely : Prop := fnExactObeyRow.holds Try.pinned (OpenSpec.ofChange fnExactObeyWrong)

/-- 'laws.FnExactTake': WHATEVER THE INPUT: true; the input reads as it did. -/
def fnExactTakeSpec : ChangeSpec := { name := "fnExactTake", fn := fun _ => fun
  | [d] => { results := [.lit (.bool true)], args := [d] }
  | _ => none }
def fnExactTakeRow : OpenClaim := { program := "ytljkbknnnpjmgaa", sum := "e597d383c5c8f25ab21eb2ffeaf46efded80b868e28352c02039292e9e4384ae", func := "loop.example/g00119/laws.FnExactTake", spec := "fnExactTake", unfollowed := true, recurses := true, apart := false }
def FnExactTakeSaid : Prop := fnExactTakeRow.holds Try.pinned (OpenSpec.ofChange fnExactTakeSpec)

/-- ITS FALSE NEIGHBOUR: 'it returns false'. Refute it at one input. -/
def fnExactTakeWrong : ChangeSpec := { name := "fnExactTake", fn := fun _ => fun
  | [d] => { results := [.lit (.bool false)], args := [d] }
  | _ => none }
def FnExactTakeWrongFalsely : Prop := fnExactTakeRow.holds Try.pinned (OpenSpec.ofChange fnExactTakeWrong)

/-- 'laws.FnExactDone': WHATEVER THE INPUT: true; the input reads as it did. -/
def fnExactDoneSpec : ChangeSpec := { name := "fnExactDone", fn := fun _ => fun
  | [d1, d2, d3] => { results := [.lit (.bool true)], args := [d1, d2, d3] }
  | _ => none }
def fnExactDoneRow : OpenClaim := { program := "ytljkbknnnpjmgaa", sum := "e597d383c5c8f25ab21eb2ffeaf46efded80b868e28352c02039292e9e4384ae", func := "loop.example/g00119/laws.FnExactDone", spec := "fnExactDone", unfollowed := true, recurses := true, apart := false }
def FnExactDoneSaid : Prop := fnExactDoneRow.holds Try.pinned (OpenSpec.ofChange fnExactDoneSpec)

/-- ITS FALSE NEIGHBOUR: 'it returns false'. Refute it at one input. -/
def fnExactDoneWrong : ChangeSpec := { name := "fnExactDone", fn := fun _ => fun
  | [d1, d2, d3] => { results := [.lit (.bool false)], args := [d1, d2, d3] }
  | _ => none }
def FnExactDoneWrongFalsely : Prop := fnExactDoneRow.holds Try.pinned (OpenSpec.ofChange fnExactDoneWrong)

/-- 'laws.FnExactMirrorOk': WHATEVER THE INPUT: true; the input reads as it did. -/
def fnExactMirrorOkSpec : ChangeSpec := { name := "fnExactMirrorOk", fn := fun _ => fun
  | [d] => { results := [.lit (.bool true)], args := [d] }
  | _ => none }
def fnExactMirrorOkRow : OpenClaim := { program := "ytljkbknnnpjmgaa", sum := "e597d383c5c8f25ab21eb2ffeaf46efded80b868e28352c02039292e9e4384ae", func := "loop.example/g00119/laws.FnExactMirrorOk", spec := "fnExactMirrorOk", inPlace := ["internal/bytealg.abigen_runtime_cmpstring"], unfollowed := true, recurses := true, loops := true, apart := false }
def FnExactMirrorOkSaid : Prop := fnExactMirrorOkRow.holds Try.pinned (OpenSpec.ofChange fnExactMirrorOkSpec)

/-- ITS FALSE NEIGHBOUR: 'it returns false'. Refute it at one input. -/
def fnExactMirrorOkWrong : ChangeSpec := { name := "fnExactMirrorOk", fn := fun _ => fun
  | [d] => { results := [.lit (.bool false)], args := [d] }
  | _ => none }
def FnExactMirrorOkWrongFalsely : Prop := fnExactMirrorOkRow.holds Try.pinned (OpenSpec.ofChange fnExactMirrorOkWrong)

/-- 'laws.FnExactList': WHATEVER THE INPUT: true; the input reads as it did. -/
def fnExactListSpec : ChangeSpec := { name := "fnExactList", fn := fun _ => fun
  | [d] => { results := [.lit (.bool true)], args := [d] }
  | _ => none }
def fnExactListRow : OpenClaim := { program := "ytljkbknnnpjmgaa", sum := "e597d383c5c8f25ab21eb2ffeaf46efded80b868e28352c02039292e9e4384ae", func := "loop.example/g00119/laws.FnExactList", spec := "fnExactList", inPlace := ["internal/bytealg.abigen_runtime_cmpstring"], unfollowed := true, recurses := true, loops := true, apart := false }
def FnExactListSaid : Prop := fnExactListRow.holds Try.pinned (OpenSpec.ofChange fnExactListSpec)

/-- ITS FALSE NEIGHBOUR: 'it returns false'. Refute it at one input. -/
def fnExactListWrong : ChangeSpec := { name := "fnExactList", fn := fun _ => fun
  | [d] => { results := [.lit (.bool false)], args := [d] }
  | _ => none }
def FnExactListWrongFalsely : Prop := fnExactListRow.holds Try.pinned (OpenSpec.ofChange fnExactListWrong)

/-- 'laws.FnExactSince': WHATEVER THE INPUT: true; the input reads as it did. -/
def fnExactSinceSpec : ChangeSpec := { name := "fnExactSince", fn := fun _ => fun
  | [d1, d2] => { results := [.lit (.bool true)], args := [d1, d2] }
  | _ => none }
def fnExactSinceRow : OpenClaim := { program := "ytljkbknnnpjmgaa", sum := "e597d383c5c8f25ab21eb2ffeaf46efded80b868e28352c02039292e9e4384ae", func := "loop.example/g00119/laws.FnExactSince", spec := "fnExactSince", inPlace := ["internal/bytealg.abigen_runtime_cmpstring"], unfollowed := true, recurses := true, loops := true, apart := false }
def FnExactSinceSaid : Prop := fnExactSinceRow.holds Try.pinned (OpenSpec.ofChange fnExactSinceSpec)

/-- ITS FALSE NEIGHBOUR: 'it returns false'. Refute it at one input. -/
def fnExactSinceWrong : ChangeSpec := { name := "fnExactSince", fn := fun _ => fun
  | [d1, d2] => { results := [.lit (.bool false)], args := [d1, d2] }
  | _ => none }
def FnExactSinceWrongFalsely : Prop := fnExactSinceRow.holds Try.pinned (OpenSpec.ofChange fnExactSinceWrong)

/-- 'laws.FnExactTell': WHATEVER THE INPUT: true; the input reads as it did. -/
def fnExactTellSpec : ChangeSpec := { name := "fnExactTell", fn := fun _ => fun
  | [d] => { results := [.lit (.bool true)], args := [d] }
  | _ => none }
def fnExactTellRow : OpenClaim := { program := "ytljkbknnnpjmgaa", sum := "e597d383c5c8f25ab21eb2ffeaf46efded80b868e28352c02039292e9e4384ae", func := "loop.example/g00119/laws.FnExactTell", spec := "fnExactTell", unfollowed := true, recurses := true, loops := true, apart := false }
def FnExactTellSaid : Prop := fnExactTellRow.holds Try.pinned (OpenSpec.ofChange fnExactTellSpec)

/-- ITS FALSE NEIGHBOUR: 'it returns false'. Refute it at one input. -/
def fnExactTellWrong : ChangeSpec := { name := "fnExactTell", fn := fun _ => fun
  | [d] => { results := [.lit (.bool false)], args := [d] }
  | _ => none }
def FnExactTellWrongFalsely : Prop := fnExactTellRow.holds Try.pinned (OpenSpec.ofChange fnExactTellWrong)

/-- 'laws.FnExactMove': WHATEVER THE INPUT: true; the input reads as it did. -/
def fnExactMoveSpec : ChangeSpec := { name := "fnExactMove", fn := fun _ => fun
  | [d] => { results := [.lit (.bool true)], args := [d] }
  | _ => none }
def fnExactMoveRow : OpenClaim := { program := "ytljkbknnnpjmgaa", sum := "e597d383c5c8f25ab21eb2ffeaf46efded80b868e28352c02039292e9e4384ae", func := "loop.example/g00119/laws.FnExactMove", spec := "fnExactMove", inPlace := ["slices.overlaps[loop.example/g00119/impl.Run]"], unfollowed := true, recurses := true, loops := true, apart := false }
def FnExactMoveSaid : Prop := fnExactMoveRow.holds Try.pinned (OpenSpec.ofChange fnExactMoveSpec)

/-- ITS FALSE NEIGHBOUR: 'it returns false'. Refute it at one input. -/
def fnExactMoveWrong : ChangeSpec := { name := "fnExactMove", fn := fun _ => fun
  | [d] => { results := [.lit (.bool false)], args := [d] }
  | _ => none }
def FnExactMoveWrongFalsely : Prop := fnExactMoveRow.holds Try.pinned (OpenSpec.ofChange fnExactMoveWrong)

/-- 'laws.FnExactCalm': WHATEVER THE INPUT: true; the input reads as it did. -/
def fnExactCalmSpec : ChangeSpec := { name := "fnExactCalm", fn := fun _ => fun
  | [d] => { results := [.lit (.bool true)], args := [d] }
  | _ => none }
def fnExactCalmRow : OpenClaim := { program := "ytljkbknnnpjmgaa", sum := "e597d383c5c8f25ab21eb2ffeaf46efded80b868e28352c02039292e9e4384ae", func := "loop.example/g00119/laws.FnExactCalm", spec := "fnExactCalm", inPlace := ["slices.overlaps[loop.example/g00119/impl.Run]"], unfollowed := true, recurses := true, loops := true, apart := false }
def FnExactCalmSaid : Prop := fnExactCalmRow.holds Try.pinned (OpenSpec.ofChange fnExactCalmSpec)

/-- ITS FALSE NEIGHBOUR: 'it returns false'. Refute it at one input. -/
def fnExactCalmWrong : ChangeSpec := { name := "fnExactCalm", fn := fun _ => fun
  | [d] => { results := [.lit (.bool false)], args := [d] }
  | _ => none }
def FnExactCalmWrongFalsely : Prop := fnExactCalmRow.holds Try.pinned (OpenSpec.ofChange fnExactCalmWrong)

/- THE SECOND FORM. 'bulk': how many values and letters a reading holds, each counted each time it is reached (what is shared counts as often as it is met; a slice's spare places count too). A statement '..UptoSaid' is the law's where the arguments, and the package variables that the reading takes, are together of bulk at most 1048576: NARROWER than '..Said'. Prove '..Said' where nothing that the law and all that it calls make is longer than what came in: it says more and counts as full. Else prove '..UptoSaid'. A law counts once. -/
mutual
def uptoBulk {H : Type} : DataW H → Nat
  | .lit (.string bytes) => bytes.length + 1
  | .lit _ => 1
  | .nil => 1
  | .ptr d => uptoBulk d + 1
  | .slice elems spare => uptoBulkAll elems + uptoBulkAll spare + 1
  | .agg parts => uptoBulkAll parts + 1
  | .iface _ d => uptoBulk d + 1
  | .map entries => uptoBulkEntries entries + 1
  | .held _ => 1
def uptoBulkAll {H : Type} : List (DataW H) → Nat
  | [] => 0
  | d :: r => uptoBulk d + uptoBulkAll r
def uptoBulkEntries {H : Type} : List (Lit × DataW H) → Nat
  | [] => 0
  | x :: r => uptoBulkEntry x + uptoBulkEntries r
def uptoBulkEntry {H : Type} : Lit × DataW H → Nat
  | (.string bytes, d) => bytes.length + uptoBulk d + 1
  | (_, d) => uptoBulk d + 1
 end
def uptoSmall : (H : Type) → List (DataW H) → Bool := fun _ ds => decide (uptoBulkAll ds ≤ 1048576)
def OpenSpec.upto (s : _root_.Go.ChangeSpec) : _root_.Go.OpenSpec := { _root_.Go.OpenSpec.ofChange s with cond := some uptoSmall }

/-- 'laws.FnExactRunning', WHERE WHAT IT READS IS OF BULK AT MOST 1048576: true; the input reads as it did. -/
def fnExactRunningUptoRow : OpenClaim := { program := "ytljkbknnnpjmgaa", sum := "e597d383c5c8f25ab21eb2ffeaf46efded80b868e28352c02039292e9e4384ae", func := "loop.example/g00119/laws.FnExactRunning", spec := "fnExactRunning", recurses := true, loops := true, apart := false, narrowed := true }
def FnExactRunningUptoSaid : Prop := fnExactRunningUptoRow.holds Try.pinned (OpenSpec.upto fnExactRunningSpec)

/-- 'laws.FnExactPass', WHERE WHAT IT READS IS OF BULK AT MOST 1048576: true; the input reads as it did. -/
def fnExactPassUptoRow : OpenClaim := { program := "ytljkbknnnpjmgaa", sum := "e597d383c5c8f25ab21eb2ffeaf46efded80b868e28352c02039292e9e4384ae", func := "loop.example/g00119/laws.FnExactPass", spec := "fnExactPass", unfollowed := true, recurses := true, apart := false, narrowed := true }
def FnExactPassUptoSaid : Prop := fnExactPassUptoRow.holds Try.pinned (OpenSpec.upto fnExactPassSpec)

/-- 'laws.FnExactPut', WHERE WHAT IT READS IS OF BULK AT MOST 1048576: true; the input reads as it did. -/
def fnExactPutUptoRow : OpenClaim := { program := "ytljkbknnnpjmgaa", sum := "e597d383c5c8f25ab21eb2ffeaf46efded80b868e28352c02039292e9e4384ae", func := "loop.example/g00119/laws.FnExactPut", spec := "fnExactPut", unfollowed := true, recurses := true, apart := false, narrowed := true }
def FnExactPutUptoSaid : Prop := fnExactPutUptoRow.holds Try.pinned (OpenSpec.upto fnExactPutSpec)

/-- 'laws.FnExactObey', WHERE WHAT IT READS IS OF BULK AT MOST 1048576: true; the input reads as it did. -/
def fnExactObeyUptoRow : OpenClaim := { program := "ytljkbknnnpjmgaa", sum := "e597d383c5c8f25ab21eb2ffeaf46efded80b868e28352c02039292e9e4384ae", func := "loop.example/g00119/laws.FnExactObey", spec := "fnExactObey", unfollowed := true, recurses := true, loops := true, apart := false, narrowed := true }
def FnExactObeyUptoSaid : Prop := fnExactObeyUptoRow.holds Try.pinned (OpenSpec.upto fnExactObeySpec)

/-- 'laws.FnExactTake', WHERE WHAT IT READS IS OF BULK AT MOST 1048576: true; the input reads as it did. -/
def fnExactTakeUptoRow : OpenClaim := { program := "ytljkbknnnpjmgaa", sum := "e597d383c5c8f25ab21eb2ffeaf46efded80b868e28352c02039292e9e4384ae", func := "loop.example/g00119/laws.FnExactTake", spec := "fnExactTake", unfollowed := true, recurses := true, apart := false, narrowed := true }
def FnExactTakeUptoSaid : Prop := fnExactTakeUptoRow.holds Try.pinned (OpenSpec.upto fnExactTakeSpec)

/-- 'laws.FnExactDone', WHERE WHAT IT READS IS OF BULK AT MOST 1048576: true; the input reads as it did. -/
def fnExactDoneUptoRow : OpenClaim := { program := "ytljkbknnnpjmgaa", sum := "e597d383c5c8f25ab21eb2ffeaf46efded80b868e28352c02039292e9e4384ae", func := "loop.example/g00119/laws.FnExactDone", spec := "fnExactDone", unfollowed := true, recurses := true, apart := false, narrowed := true }
def FnExactDoneUptoSaid : Prop := fnExactDoneUptoRow.holds Try.pinned (OpenSpec.upto fnExactDoneSpec)

/-- 'laws.FnExactMirrorOk', WHERE WHAT IT READS IS OF BULK AT MOST 1048576: true; the input reads as it did. -/
def fnExactMirrorOkUptoRow : OpenClaim := { program := "ytljkbknnnpjmgaa", sum := "e597d383c5c8f25ab21eb2ffeaf46efded80b868e28352c02039292e9e4384ae", func := "loop.example/g00119/laws.FnExactMirrorOk", spec := "fnExactMirrorOk", inPlace := ["internal/bytealg.abigen_runtime_cmpstring"], unfollowed := true, recurses := true, loops := true, apart := false, narrowed := true }
def FnExactMirrorOkUptoSaid : Prop := fnExactMirrorOkUptoRow.holds Try.pinned (OpenSpec.upto fnExactMirrorOkSpec)

/-- 'laws.FnExactList', WHERE WHAT IT READS IS OF BULK AT MOST 1048576: true; the input reads as it did. -/
def fnExactListUptoRow : OpenClaim := { program := "ytljkbknnnpjmgaa", sum := "e597d383c5c8f25ab21eb2ffeaf46efded80b868e28352c02039292e9e4384ae", func := "loop.example/g00119/laws.FnExactList", spec := "fnExactList", inPlace := ["internal/bytealg.abigen_runtime_cmpstring"], unfollowed := true, recurses := true, loops := true, apart := false, narrowed := true }
def FnExactListUptoSaid : Prop := fnExactListUptoRow.holds Try.pinned (OpenSpec.upto fnExactListSpec)

/-- 'laws.FnExactSince', WHERE WHAT IT READS IS OF BULK AT MOST 1048576: true; the input reads as it did. -/
def fnExactSinceUptoRow : OpenClaim := { program := "ytljkbknnnpjmgaa", sum := "e597d383c5c8f25ab21eb2ffeaf46efded80b868e28352c02039292e9e4384ae", func := "loop.example/g00119/laws.FnExactSince", spec := "fnExactSince", inPlace := ["internal/bytealg.abigen_runtime_cmpstring"], unfollowed := true, recurses := true, loops := true, apart := false, narrowed := true }
def FnExactSinceUptoSaid : Prop := fnExactSinceUptoRow.holds Try.pinned (OpenSpec.upto fnExactSinceSpec)

/-- 'laws.FnExactTell', WHERE WHAT IT READS IS OF BULK AT MOST 1048576: true; the input reads as it did. -/
def fnExactTellUptoRow : OpenClaim := { program := "ytljkbknnnpjmgaa", sum := "e597d383c5c8f25ab21eb2ffeaf46efded80b868e28352c02039292e9e4384ae", func := "loop.example/g00119/laws.FnExactTell", spec := "fnExactTell", unfollowed := true, recurses := true, loops := true, apart := false, narrowed := true }
def FnExactTellUptoSaid : Prop := fnExactTellUptoRow.holds Try.pinned (OpenSpec.upto fnExactTellSpec)

/-- 'laws.FnExactMove', WHERE WHAT IT READS IS OF BULK AT MOST 1048576: true; the input reads as it did. -/
def fnExactMoveUptoRow : OpenClaim := { program := "ytljkbknnnpjmgaa", sum := "e597d383c5c8f25ab21eb2ffeaf46efded80b868e28352c02039292e9e4384ae", func := "loop.example/g00119/laws.FnExactMove", spec := "fnExactMove", inPlace := ["slices.overlaps[loop.example/g00119/impl.Run]"], unfollowed := true, recurses := true, loops := true, apart := false, narrowed := true }
def FnExactMoveUptoSaid : Prop := fnExactMoveUptoRow.holds Try.pinned (OpenSpec.upto fnExactMoveSpec)

/-- 'laws.FnExactCalm', WHERE WHAT IT READS IS OF BULK AT MOST 1048576: true; the input reads as it did. -/
def fnExactCalmUptoRow : OpenClaim := { program := "ytljkbknnnpjmgaa", sum := "e597d383c5c8f25ab21eb2ffeaf46efded80b868e28352c02039292e9e4384ae", func := "loop.example/g00119/laws.FnExactCalm", spec := "fnExactCalm", inPlace := ["slices.overlaps[loop.example/g00119/impl.Run]"], unfollowed := true, recurses := true, loops := true, apart := false, narrowed := true }
def FnExactCalmUptoSaid : Prop := fnExactCalmUptoRow.holds Try.pinned (OpenSpec.upto fnExactCalmSpec)

end Rows
end Go.Proofs.Ytljkbknnnpjmgaa
