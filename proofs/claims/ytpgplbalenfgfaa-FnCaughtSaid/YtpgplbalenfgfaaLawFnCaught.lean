/- FnCaught: the program's function answers as the reference's,for every input. No condition. -/
import Derived.Test.YtpgplbalenfgfaaRows
import Derived.Test.YtpgplbalenfgfaaYFnCaught1
import Derived.KernelRfl
import Derived.WalkKit
import Derived.ProofKit
import Derived.OpenShut
import Derived.ShutString
import Derived.ChangeOld
import Derived.Below
import Derived.SizedLaws
set_option linter.unusedVariables false
set_option linter.unusedSimpArgs false
namespace Go.Proofs.Ytpgplbalenfgfaa
open Go Go.T Go.Proofs
open Go.ChangeShapes Go.WideShapes Go.ChangeAt Go.RowKit
open Go.ChangeMaps (open_string shut_string)
theorem own : ownKnob Try.prog.godebug = none := by kernel_rfl
theorem laidOut : laidOutB Try.prog = true := by kernel_rfl
theorem goodI8_5 {r : List D} (h : RowS Try.prog maxLen 5 r) : RI8 maxLen r := by
 have hh := h.open (show Zq Try.prog 6 5 = [5] from by kernel_rfl)
 obtain ⟨d0,l0,rfl,g0,hh0⟩ := goodR_cons hh
 obtain ⟨c0,rfl,k0⟩ := good_int (k := .u8) (by kernel_rfl) g0
 obtain rfl := goodR_nil hh0
 exact ⟨c0,rfl,k0,trivial⟩
theorem types : lawTys Try.prog [5] = true := by kernel_rfl
set_option maxRecDepth 100000 in
theorem lifted (os : Os) (started : os.Started) (H : Type) (enc : TypeId × Value → H) :
  ReturnsInHanded {} Try.checked os 10 .any (Rows.fnCaughtSpec.pre6 enc Try.prog Try.f10 Rows.fnCaughtRow.domain false) (Rows.fnCaughtSpec.post enc Try.prog Try.f10 false true false false) := by
 refine returnsInHanded_of_change_sized (C := Try.checked) own started (by kernel_rfl) Try.func10
  (ChangeSpec.witness6 (enc := enc) (C := Try.checked) false ⟨#[],#[.slice none 0 0],[]⟩ 8 (by kernel_rfl) (by kernel_rfl) (by kernel_rfl) (by kernel_rfl)) ?_
 intro W base args ds gs before hval0 hW hcnd hsz0 _
 have hval : ∀ (j : Nat) t v,Try.f10.params[j]? = some t → args[j]? = some v → Value.okWide Try.prog W .any base t v := hval0
 have hW' := hW
 obtain ⟨p,q,hA0,hV,rfl,hfz,hnd⟩ := hW
 have hA : DataW.TrodAll enc Try.prog W 0 (fun _ => true) true Try.f10.params.toList args.toList ds p := hA0
 have hpar : Try.f10.params = #[22] := by kernel_rfl
 rw [hpar] at hA hval
 obtain ⟨v0,vs0,d0,ds0,p0,q0,hargs,rfl,rfl,h0,r0⟩ := trodAll_cons hA
 obtain ⟨rfl,rfl,rfl⟩ := trodAll_nil r0
 obtain rfl : args = #[v0] := by cases args; simp_all
 obtain ⟨rfl,rfl⟩ := trodVars_none hV
 have k0 := h0
 have lt0 : ∀ x ∈ p0,x.block < W.heap.size := by obtain ⟨m,hm⟩ := k0; exact DataW.trod_lt m _ _ _ hm
 obtain ⟨sa0,sn0,sc0,rfl⟩ := okWide_slice (e := 5) (by kernel_rfl) (hval 0 22 v0 rfl rfl)
 obtain ⟨ea0,hd0,wa0⟩ := open_cell types (by kernel_rfl) rfl (by kernel_rfl) h0
 obtain ⟨a0,rfl,ka0,ma0⟩ := good_sl (e := 5) (by kernel_rfl) wa0
 clear hA0 hval0 hsz0
 obtain ⟨kb,hkb⟩ : ∃ k,lv 1 ≤ k := ⟨_,Nat.le_refl _⟩
 obtain ⟨z,rfl,hz⟩ := YQ.T ⟨ka0,fun r hr => goodI8_5 (ma0 r hr)⟩
 refine (law_calls (YQ.ok kb) rfl rfl (by kernel_rfl) (aa := [.d (.sl a0)]) (vs := [.slice sa0 sn0 sc0]) ?_ ⟨(),?_⟩).mono fun e W' ⟨he,bel⟩ => ?_
 ·exact (ZO.cons' ⟨rfl,hd0⟩ ZO.nil')
 ·exact (ent_run (YQ.e kb) rfl (congrArg some (hz kb hkb)) rfl)
 ·subst he
  exact ⟨_,rfl,_,_,_,[],_,[],hW',trodAll_mk1 (shut_bool (by kernel_rfl) _),(trodAll_cons_mk (Below.trod laidOut (by kernel_rfl) (of_decide_eq_true (by kernel_rfl)) k0 bel lt0) trodAll_mk0),rfl,bel.frame _,fun h => by cases h⟩
theorem facts1 : joined1 Try.prog 10 Try.f10 Rows.fnCaughtSpec Rows.fnCaughtRow = true := by kernel_rfl
theorem facts2 : joined2 Try.prog 10 Try.f10 Rows.fnCaughtSpec Rows.fnCaughtRow = true := by kernel_rfl
theorem facts3 : joined3 Try.prog 10 Try.f10 Rows.fnCaughtSpec Rows.fnCaughtRow = true := by kernel_rfl
theorem facts4 : joined4 Try.prog 10 Try.f10 Rows.fnCaughtSpec Rows.fnCaughtRow = true := by kernel_rfl
theorem facts5 : joined5 Try.prog 10 Try.f10 Rows.fnCaughtSpec Rows.fnCaughtRow = true := by kernel_rfl
theorem facts6 : joined6 Try.prog 10 Try.f10 Rows.fnCaughtSpec Rows.fnCaughtRow = true := by kernel_rfl
theorem facts7 : joined7 Try.prog 10 Try.f10 Rows.fnCaughtSpec Rows.fnCaughtRow = true := by kernel_rfl
theorem facts8 : joined8 Try.prog 10 Try.f10 Rows.fnCaughtSpec Rows.fnCaughtRow = true := by kernel_rfl
theorem over : Rows.fnCaughtRow.holds Try.pinned (OpenSpec.ofChange Rows.fnCaughtSpec) :=
 OpenClaim.holds_of_wide 10 Try.f10 rfl rfl rfl rfl rfl rfl rfl ⟨rfl,rfl,rfl,rfl,rfl⟩ rfl rfl rfl rfl rfl (by kernel_rfl) Try.func10 (joined_of facts1 facts2 facts3 facts4 facts5 facts6 facts7 facts8)
  (of_decide_eq_true (by kernel_rfl)) (by unfold Func.isWrapper; first | (rw [if_pos (by decide +kernel)]; kernel_rfl) | (rw [if_neg (by decide +kernel)]; exact ⟨rfl,rfl⟩))
  (fun os started H enc _ => lifted os started H enc)
theorem fnCaught_holds : Rows.FnCaughtSaid := over
end Go.Proofs.Ytpgplbalenfgfaa
