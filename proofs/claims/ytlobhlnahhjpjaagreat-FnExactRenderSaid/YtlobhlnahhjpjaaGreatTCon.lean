/- What is known of a called function: its contract. -/
import Derived.Test.YtlobhlnahhjpjaaGreatTStore
set_option linter.unusedVariables false
set_option linter.unusedSimpArgs false
namespace Go.T
def ZJ (P:Program) (w:World) (I Q:Nat->Prop):A->Mode×TypeId->Value->List Nat->Prop
 |.d x,(.imm,_),v,F=>F=[]/\RdD w I x v
 |.agg xs,(.imm,_),v,F=>F=[]/\∃ cs:List Value,v=.agg cs.toArray/\cs.length=xs.length/\Zi w I cs.toArray 0 xs
 |.ip xs,(.imm,_),v,F=>F=[]/\∃ b off c e f,v=.pointer (some ⟨b,off,none⟩)/\I b/\w.heap[b]? = some (.cells c e f)/\Zi w I c off xs
 |.nil,(.nil,_),v,F=>F=[]/\∃ a,v=.slice a 0 0
 |.own true cs,(.own,ct),v,F=>∃ vals:List Value,v=.agg vals.toArray/\vals.length=cs.length/\Za P w (λb=>I b/\Q b) vals.toArray cs (Zq P 6 ct) 0 F/\∀ b∈F,Q b
 |.own false cs,(.own,ct),v,F=>Za P w (λb=>I b/\Q b) #[v] cs [ct] 0 F/\∀ b∈F,Q b
 |.box cs,(.box,pt),v,F=>∃ b c e F',v=.pointer (some ⟨b,0,none⟩)/\F=b::F'/\w.heap[b]? = some (.cells c e (0,0))/\c.size=cs.length/\Za P w (λb=>I b/\Q b) c cs (Zq P 6 pt) 0 F'/\∀ b∈F',Q b
 |_,_,_,_=>False
def ZO (P:Program) (w:World) (I Q:Nat->Prop):List A->List (Mode×TypeId)->List Value->List Nat->Prop
 |[],[],vs,F=>vs=[]/\F=[]
 |a::as,m::ms,vs,F=>∃ v vs' F1 F2,vs=v::vs'/\F=F1++F2/\ZJ P w I Q a m v F1/\ZO P w I Q as ms vs' F2
 |_,_,_,_=>False
def Z0 (P:Program) (w:World) (I Q:Nat->Prop):List A->List (Mode×TypeId)->List Value->List Out->List Nat->Prop
 |[],[],_,os,F=>os=[]/\F=[]
 |.own g cs::as,(_,ct)::ms,v::vs,os,F=>(∃ os',os=.lost::os'/\Z0 P w I Q as ms vs os' F)\/
   ∃ cs' os' F1 F2,os=.own cs'::os'/\F=F1++F2/\cs'.length=cs.length/\ZJ P w I Q (.own g cs') (.own,ct) v F1/\Z0 P w I Q as ms vs os' F2
 |.box cs::as,(_,pt)::ms,v::vs,os,F=>∃ cs' os' F1 F2,os=.box cs'::os'/\F=F1++F2/\cs'.length=cs.length/\ZJ P w I Q (.box cs') (.box,pt) v F1/\Z0 P w I Q as ms vs os' F2
 |_::as,_::ms,_::vs,os,F=>Z0 P w I Q as ms vs os F
 |_,_,_,_,_=>False
def BoxRel (w:World) (I:Nat->Prop) (ds:List D) (v:Value) (F:List Nat):Prop:=
 ∃ b c e,v=.pointer (some ⟨b,0,none⟩)/\F=[b]/\w.heap[b]? = some (.cells c e (0,0))/\c.size=ds.length/\Zi w I c 0 ds
def ResVal (P:Program) (w:World) (I:Nat->Prop) (t:TypeId) (c:List C) (v:Value) (F:List Nat):Prop:=
 (Zb5 P t=false/\∃ cells,v=(if ZU P t then .agg cells else cells.getD 0 undef)/\cells.size=c.length/\Za P w I cells c (Zq P 6 t) 0 F)\/
  (Zb5 P t=true/\∃ ds,c=ds.map .d/\BoxRel w I ds v F)
def ZaO (P:Program) (w:World) (I:Nat->Prop):List TypeId->List (List C)->List Value->List Nat->Prop
 |[],[],vs,F=>vs=[]/\F=[]
 |t::ts,c::cs,vs,F=>∃ v vs' F1 F2,vs=v::vs'/\F=F1++F2/\ResVal P w I t c v F1/\ZaO P w I ts cs vs' F2
 |_,_,_,_=>False
theorem BoxRel.weaken {w:World} {I I':Nat->Prop} (h:∀ b,I b->I' b) {ds:List D} {v:Value} {F:List Nat} (r:BoxRel w I ds v F):BoxRel w I' ds v F:=by
 obtain⟨b,c,e,q1,q2,q3,q4,q5⟩:=r
 exact⟨b,c,e,q1,q2,q3,q4,Zi.mono ⟨h,λ_ _=>rfl⟩ q5⟩
theorem ZaO.weaken {P:Program} {w:World} {I I':Nat->Prop} (hI:∀ b,I b->I' b):∀ {tys:List TypeId} {cs:List (List C)} {vs:List Value} {F:List Nat},ZaO P w I tys cs vs F->ZaO P w I' tys cs vs F
 |[],[],_,_,r=>by simpa only[ZaO] using r
 |[],_::_,_,_,r=>by simp only[ZaO] at r
 |_::_,[],_,_,r=>by simp only[ZaO] at r
 |t::tys,c::cs,vs,F,r=>by
  simp only[ZaO] at r⊢
  obtain⟨v,vs',F1,F2,r1,r2,r3,r4⟩:=r
  refine⟨v,vs',F1,F2,r1,r2,?_,ZaO.weaken hI r4⟩
  rcases r3 with⟨q0,cells,q1,q2,q3⟩|⟨q0,ds,q1,q2⟩
  ·exact .inl ⟨q0,cells,q1,q2,Za.weaken hI q3⟩
  ·exact .inr ⟨q0,ds,q1,q2.weaken hI⟩
def packV:List Value->Value
 |[v]=>v
 |vs=>.tuple vs.toArray
def CPost (P:Program) (e:Zj) (as:List A) (w:World) (I Q:Nat->Prop) (vs:List Value) (F:List Nat) (rs:List (List C)) (os:List Out) (ex:Ending) (w':World):Prop:=
 ∃ (v:Value) (vs':List Value) (I':Nat->Prop) (Fr Fo:List Nat),ex=.returned v/\v=packV vs'/\w.heap.size<=w'.heap.size/\w'.os=w.os/\w'.tape=w.tape/\w'.output=w.output/\
   (∀ b,b<w.heap.size->b∉F->w'.heap[b]? = w.heap[b]?)/\(∀ b,I b->I' b)/\(∀ b,I' b->b<w'.heap.size/\(I b\/w.heap.size<=b\/b∈F))/\
   (Fr++Fo).Nodup/\(∀ b∈Fr++Fo,¬ I' b/\b<w'.heap.size/\(b<w.heap.size->b∈F))/\
   Z0 P w' I' (λb=>e.al=false->e.ow=true->w.heap.size<=b\/Q b) as e.modes vs os Fo/\ZaO P w' (λb=>I' b/\(e.al=false->w.heap.size<=b\/(e.ow=true/\Q b))) e.rts rs vs' Fr/\(e.al=false->∀ b∈Fr,w.heap.size<=b\/(e.ow=true/\Q b))
def CallsOK (P:Program) (f:FuncId) (e:Zj) (as:List A) (rs:List (List C)) (os:List Out):Prop:=
 ∀ (w:World) (I Q:Nat->Prop) (vs:List Value) (F:List Nat),ZO P w I Q as e.modes vs F->F.Nodup->(∀ b∈F,¬ I b/\b<w.heap.size)->(∀ b,I b->b<w.heap.size)->
  Calls P f vs.toArray w (CPost P e as w I Q vs F rs os)
def Zbo (P:Program) (f:FuncId):Bool:=
 match P.funcs[f]? with
 | some fn => fn.name != "runtime.NumGoroutine" && fn.body.isSome
 |none=>false
def LArgs (P:Program) (w:World) (I J:Nat->Prop) (ct:TypeId):List Bool->List A->List Value->List Nat->Prop
 |[],[],vs,F=>vs=[]/\F=[]
 |true::bs,.own false [c]::as,vs,F=>∃ v vs' F1 F2,vs=v::vs'/\F=F1++F2/\OwC P w J c ct v F1/\LArgs P w I J ct bs as vs' F2
 |false::bs,a::as,vs,F=>∃ v vs',vs=v::vs'/\ZJ P w I (λ_=>True) a (.imm,0) v []/\LArgs P w I J ct bs as vs' F
 |_,_,_,_=>False
def LPost (P:Program) (ct:TypeId) (w:World) (J:Nat->Prop) (F:List Nat) (ys:List (List C)) (ex:Ending) (w':World):Prop:=
 ∃ (v:Value) (F':List Nat),ex=.returned v/\w.heap.size<=w'.heap.size/\w'.os=w.os/\w'.tape=w.tape/\w'.output=w.output/\
  (∀ b,b<w.heap.size->b∉F->w'.heap[b]? = w.heap[b]?)/\F'.Nodup/\(∀ b∈F',b<w'.heap.size/\(b<w.heap.size->b∈F))/\OwC P w' J (.own ys) ct v F'
def LibCalls (P:Program) (f:FuncId) (L:Lib) (as:List A) (ys:List (List C)):Prop:=
 ∀ (w:World) (I J:Nat->Prop) (vs:List Value) (F:List Nat),LArgs P w I J L.ct L.gives as vs F->F.Nodup->(∀ b∈F,¬ I b/\b<w.heap.size)->(∀ b,J b->I b)->(∀ b,I b->b<w.heap.size)->
  Calls P f vs.toArray w (LPost P L.ct w J F ys)
def LibOK (P:Program) (f:FuncId) (L:Lib):Prop:=
 ∀ (β:Type) (as:List A) (K:List (List C)->Option β) (r:β),L.run as K=some r->∃ ys,K ys=some r/\LibCalls P f L as ys
def Zf (P:Program) (f:FuncId) (e:Zj):Prop:=
 Zbo P f=true/\(∀ (β:Type) (as:List A) (K:List (List C)->List Out->Option β) (r:β),e.run as K=some r->∃ rs os,K rs os=some r/\CallsOK P f e as rs os)/\∀ L,e.lib=some L->LibOK P f L
def EnvOK (P:Program) (E:Env):Prop:=∀ f e,E f=some e->Zf P f e
end Go.T
