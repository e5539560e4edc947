/- From a printed function to its contract; from a law's contract to its row. -/
import Derived.Test.YtlobhlnahhjpjaaGreatTFun3
set_option linter.unusedVariables false
set_option linter.unusedSimpArgs false
namespace Go.T
section
variable {P:Program}
theorem entry_of (hmix:P.follows .mixedOrders=true) (hT:Zar P) {f:FuncId} {fn:Func} {c:Code} (hf:P.funcs[f]? = some fn) (hb:fn.body=some c) {e:Zj} {h:Hints} {k:Nat} {E:Env} (hE:EnvOK P E)
  (hms:ZbH P e.modes (fn.params.toList++List.replicate fn.nfree 0)=true) (hrts:e.rts=fn.resultTypes.toList) (hal:e.al=h.al) (how:e.ow=h.ow) (hent:Zbo P f=true)
  (hrun:∀ (β:Type) (as:List A) (K:List (List C)->List Out->Option β) (r:β),e.run as K=some r->∃ rs os,K rs os=some r/\∃ (σ:Type) (dec:List (List C)->List Out->Option σ) (z:σ),funDen P E h k fn as dec=some z/\
   ∀ rs' os',dec rs' os'=some z->Z2 as os'->rs'=rs/\os'=os) (hlib:e.lib=none:=by rfl):Zf P f e:=by
 refine⟨hent,λβ as K r hr=>?_,λL hL=>by rw[hlib] at hL;cases hL⟩
 obtain⟨rs,os,h1,σ,dec,z,h2,h3⟩:=hrun β as K r hr
 refine⟨rs,os,h1,λw I Q vs F q1 q2 q3 q4=>?_⟩
 refine Calls.mono (fun_sound hmix hT hE hf hb hms hrts hal how h2 w I Q vs F q1 q2 q3 q4) ?_
 rintro ex w' ⟨rs',os',a1,a2,a3⟩
 obtain⟨rfl,rfl⟩:=h3 rs' os' a1 a2
 exact a3
theorem entry_zero {f:FuncId} {e:Zj} (hent:Zbo P f=true) (h:∀ (β:Type) (as:List A) (K:List (List C)->List Out->Option β) (r:β),e.run as K≠some r) (hlib:e.lib=none:=by rfl):Zf P f e:=
 ⟨hent,λβ as K r hr=>absurd hr (h β as K r),λL hL=>by rw[hlib] at hL;cases hL⟩
theorem enter_of {f : FuncId} {fn : Func} (hf : P.funcs[f]? = some fn) (h : (fn.name != "runtime.NumGoroutine" && fn.body.isSome) = true) : Zbo P f = true := by
 unfold Zbo
 rw[hf]
 exact h
theorem env_nil:EnvOK P (λ_=>none):=λf e h=>by cases h
theorem env_cons {n:FuncId} {e:Zj} {E:Env} (h:Zf P n e) (h':EnvOK P E):EnvOK P (λg=>bif g==n then some e else E g):=by
 intro f e' he
 simp only[] at he
 cases hn:(f==n) with
 |true=>
  rw[hn] at he
  simp only[cond_true] at he
  injection he with he
  have:f=n:=by simpa using hn
  rw[this,<- he];exact h
 |false=>
  rw[hn] at he
  simp only[cond_false] at he
  exact h' f e' he
def tyOkB (P:Program):Bool:=(List.range P.types.size).all λt=>Zl P t==0||(ZQ P t).length==Zl P t
theorem elemSz_out {t:TypeId} (h:P.types.size<=t):Zl P t=0:=by
 have:Zah P t=none:=by
  unfold Zah
  rw[if_neg (Nat.not_lt.mpr h)]
 unfold Zl
 rw[this]
theorem tyOk_of (h:tyOkB P=true):Zar P:=by
 intro t ht
 unfold tyOkB at h
 rw[List.all_eq_true] at h
 rcases Nat.lt_or_ge t P.types.size with q|q
 ·have:=h t (List.mem_range.mpr q)
  simp only[Bool.or_eq_true,beq_iff_eq] at this
  exact this.resolve_left ht
 ·exact absurd (elemSz_out q) ht
end
end Go.T
