/-
  NARROWER THAN 'FOR EVERY INPUT', by the rows' own cells (each row's printed sentence says how): FnExactCatchUp: loops · FnExactUpdate: loops · FnExactRender: loops.
  DERIVED. THE GIVEN ROWS OF THIS SEAT. 3 by the template 'for every input the law returns true; each argument reads behind the call as it read before'; 0 by the template 'total and deterministic' (their statements: YtlobhlnahhjpjaaGreatTotals.lean).
  GIVEN WITH THE SEED: the statements are not yours to turn. If you find one false, say at which input.
  Laid BY PROGRAM, IN A SANDBOX (cutbox-rows.mjs): the forced cells as the released guide's own fill.sh prints them over the translation dcbd2f3d20aeb243… (all of the seat's roots in one cut). By AI agents, Wed Nov 11 2026. No macro, syntax, notation, axiom, sorry.
-/
import Derived.Test.YtlobhlnahhjpjaaGreatChecked
import GoSem.Claim
import GoSem.ClaimJoined
import GoSem.ClaimMapViews
import Derived.JoinedTies
import Derived.KernelRfl
namespace Go.Proofs.YtlobhlnahhjpjaaGreat
/- THE CELL 'sum', in the pinned program and in every row, IS THE sha256 OF THE DUMP (.gsa) THAT YtlobhlnahhjpjaaGreatProg.lean LOADS. Nothing in Lean hashes anything: it is a label: what it is worth is what the hold of that sum in a sandbox is worth. -/
noncomputable def Tryz.pinned : Pinned := { name := "ytlobhlnahhjpjaagreat", sum := "dcbd2f3d20aeb2435605fcc61493f8429b9e829a7c21903cbee21588433ee101", checked := Tryz.checked }
namespace Rows
def none {H : Type} : Left H := { results := [], args := [] }

/-- 'laws.FnExactCatchUp': WHATEVER THE INPUT: true; the input reads as it did. -/
def fnExactCatchUpSpec : ChangeSpec := { name := "fnExactCatchUp", fn := fun _ => fun
  | [d1, d2] => { results := [.lit (.bool true)], args := [d1, d2] }
  | _ => none }
def fnExactCatchUpRow : OpenClaim := { program := "ytlobhlnahhjpjaagreat", sum := "dcbd2f3d20aeb2435605fcc61493f8429b9e829a7c21903cbee21588433ee101", func := "loop.example/g00119/laws.FnExactCatchUp", spec := "fnExactCatchUp", inPlace := ["internal/bytealg.abigen_runtime_cmpstring", "slices.overlaps[loop.example/g00119/impl.Obj]"], unfollowed := true, recurses := true, loops := true, apart := false }
def FnExactCatchUpSaid : Prop := fnExactCatchUpRow.holds Tryz.pinned (OpenSpec.ofChange fnExactCatchUpSpec)

/-- ITS FALSE NEIGHBOUR: 'it returns false'. Refute it at one input. -/
def fnExactCatchUpWrong : ChangeSpec := { name := "fnExactCatchUp", fn := fun _ => fun
  | [d1, d2] => { results := [.lit (.bool false)], args := [d1, d2] }
  | _ => none }
def FnExactCatchUpWrongFalsely : Prop := fnExactCatchUpRow.holds Tryz.pinned (OpenSpec.ofChange fnExactCatchUpWrong)

/-- 'laws.FnExactUpdate': WHATEVER THE INPUT: true; the input reads as it did. -/
def fnExactUpdateSpec : ChangeSpec := { name := "fnExactUpdate", fn := fun _ => fun
  | [d1, d2, d3, d4, d5] => { results := [.lit (.bool true)], args := [d1, d2, d3, d4, d5] }
  | _ => none }
def fnExactUpdateRow : OpenClaim := { program := "ytlobhlnahhjpjaagreat", sum := "dcbd2f3d20aeb2435605fcc61493f8429b9e829a7c21903cbee21588433ee101", func := "loop.example/g00119/laws.FnExactUpdate", spec := "fnExactUpdate", inPlace := ["internal/bytealg.abigen_runtime_cmpstring", "slices.overlaps[loop.example/g00119/impl.Obj]"], unfollowed := true, recurses := true, loops := true, apart := false }
def FnExactUpdateSaid : Prop := fnExactUpdateRow.holds Tryz.pinned (OpenSpec.ofChange fnExactUpdateSpec)

/-- ITS FALSE NEIGHBOUR: 'it returns false'. Refute it at one input. -/
def fnExactUpdateWrong : ChangeSpec := { name := "fnExactUpdate", fn := fun _ => fun
  | [d1, d2, d3, d4, d5] => { results := [.lit (.bool false)], args := [d1, d2, d3, d4, d5] }
  | _ => none }
def FnExactUpdateWrongFalsely : Prop := fnExactUpdateRow.holds Tryz.pinned (OpenSpec.ofChange fnExactUpdateWrong)

/-- 'laws.FnExactRender': WHATEVER THE INPUT: true; the input reads as it did. -/
def fnExactRenderSpec : ChangeSpec := { name := "fnExactRender", fn := fun _ => fun
  | [d1, d2] => { results := [.lit (.bool true)], args := [d1, d2] }
  | _ => none }
def fnExactRenderRow : OpenClaim := { program := "ytlobhlnahhjpjaagreat", sum := "dcbd2f3d20aeb2435605fcc61493f8429b9e829a7c21903cbee21588433ee101", func := "loop.example/g00119/laws.FnExactRender", spec := "fnExactRender", inPlace := ["slices.overlaps[string]", "slices.overlaps[loop.example/g00119/impl.Value]"], unfollowed := true, recurses := true, loops := true, apart := false }
def FnExactRenderSaid : Prop := fnExactRenderRow.holds Tryz.pinned (OpenSpec.ofChange fnExactRenderSpec)

/-- ITS FALSE NEIGHBOUR: 'it returns false'. Refute it at one input. -/
def fnExactRenderWrong : ChangeSpec := { name := "fnExactRender", fn := fun _ => fun
  | [d1, d2] => { results := [.lit (.bool false)], args := [d1, d2] }
  | _ => none }
def FnExactRenderWrongFalsely : Prop := fnExactRenderRow.holds Tryz.pinned (OpenSpec.ofChange fnExactRenderWrong)

/- THE SECOND FORM. 'bulk': how many values and letters a reading holds, each counted each time it is reached (what is shared counts as often as it is met; a slice's spare places count too). A statement '..UptoSaid' is the law's where the arguments, and the package variables that the reading takes, are together of bulk at most 1048576: NARROWER than '..Said'. Prove '..Said' where nothing that the law and all that it calls make is longer than what came in: it says more and counts as full. Else prove '..UptoSaid'. A law counts once. -/
mutual
def uptoBulk {H : Type} : DataW H → Nat
  | .lit (.string bytes) => bytes.length + 1
  | .lit _ => 1
  | .nil => 1
  | .ptr d => uptoBulk d + 1
  | .slice elems spare => uptoBulkAll elems + uptoBulkAll spare + 1
  | .agg parts => uptoBulkAll parts + 1
  | .iface _ d => uptoBulk d + 1
  | .map entries => uptoBulkEntries entries + 1
  | .held _ => 1
def uptoBulkAll {H : Type} : List (DataW H) → Nat
  | [] => 0
  | d :: r => uptoBulk d + uptoBulkAll r
def uptoBulkEntries {H : Type} : List (Lit × DataW H) → Nat
  | [] => 0
  | x :: r => uptoBulkEntry x + uptoBulkEntries r
def uptoBulkEntry {H : Type} : Lit × DataW H → Nat
  | (.string bytes, d) => bytes.length + uptoBulk d + 1
  | (_, d) => uptoBulk d + 1
 end
def uptoSmall : (H : Type) → List (DataW H) → Bool := fun _ ds => decide (uptoBulkAll ds ≤ 1048576)
def OpenSpec.upto (s : _root_.Go.ChangeSpec) : _root_.Go.OpenSpec := { _root_.Go.OpenSpec.ofChange s with cond := some uptoSmall }

/-- 'laws.FnExactCatchUp', WHERE WHAT IT READS IS OF BULK AT MOST 1048576: true; the input reads as it did. -/
def fnExactCatchUpUptoRow : OpenClaim := { program := "ytlobhlnahhjpjaagreat", sum := "dcbd2f3d20aeb2435605fcc61493f8429b9e829a7c21903cbee21588433ee101", func := "loop.example/g00119/laws.FnExactCatchUp", spec := "fnExactCatchUp", inPlace := ["internal/bytealg.abigen_runtime_cmpstring", "slices.overlaps[loop.example/g00119/impl.Obj]"], unfollowed := true, recurses := true, loops := true, apart := false, narrowed := true }
def FnExactCatchUpUptoSaid : Prop := fnExactCatchUpUptoRow.holds Tryz.pinned (OpenSpec.upto fnExactCatchUpSpec)

/-- 'laws.FnExactUpdate', WHERE WHAT IT READS IS OF BULK AT MOST 1048576: true; the input reads as it did. -/
def fnExactUpdateUptoRow : OpenClaim := { program := "ytlobhlnahhjpjaagreat", sum := "dcbd2f3d20aeb2435605fcc61493f8429b9e829a7c21903cbee21588433ee101", func := "loop.example/g00119/laws.FnExactUpdate", spec := "fnExactUpdate", inPlace := ["internal/bytealg.abigen_runtime_cmpstring", "slices.overlaps[loop.example/g00119/impl.Obj]"], unfollowed := true, recurses := true, loops := true, apart := false, narrowed := true }
def FnExactUpdateUptoSaid : Prop := fnExactUpdateUptoRow.holds Tryz.pinned (OpenSpec.upto fnExactUpdateSpec)

/-- 'laws.FnExactRender', WHERE WHAT IT READS IS OF BULK AT MOST 1048576: true; the input reads as it did. -/
def fnExactRenderUptoRow : OpenClaim := { program := "ytlobhlnahhjpjaagreat", sum := "dcbd2f3d20aeb2435605fcc61493f8429b9e829a7c21903cbee21588433ee101", func := "loop.example/g00119/laws.FnExactRender", spec := "fnExactRender", inPlace := ["slices.overlaps[string]", "slices.overlaps[loop.example/g00119/impl.Value]"], unfollowed := true, recurses := true, loops := true, apart := false, narrowed := true }
def FnExactRenderUptoSaid : Prop := fnExactRenderUptoRow.holds Tryz.pinned (OpenSpec.upto fnExactRenderSpec)

end Rows
end Go.Proofs.YtlobhlnahhjpjaaGreat
