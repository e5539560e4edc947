/- The evaluator and why it is right. -/
import Derived.Orders
import Derived.Tactics
set_option linter.unusedVariables false
set_option linter.unusedSimpArgs false
namespace Go.T
theorem Om {p:Prop} (h:p:=by omega):p:=h
theorem De {p:Prop} (h:p:=by decide):p:=h
theorem Sp {p:Prop} (h:p:=by simp):p:=h
theorem Az {p:Prop} (h:p:=by assumption):p:=h
theorem Au {p:Prop} (h:p:=by first|assumption|omega):p:=h
theorem Sm {p:Prop} (h:p:=by(try simp only[]);omega):p:=h
theorem Ly {p:Prop} (h:p:=by first|decide|(simp only[List.length_modify,List.length_append,List.length_cons];omega)):p:=h
theorem Rx {p:Prop} (h:p:=by first|rfl|(exfalso;simp[Ze] at *)):p:=h
theorem Ry {p:Prop} (h:p:=by first|rfl|(exfalso;omega)|(exfalso;simp[Ze] at *)):p:=h
theorem Gd {p:Prop} (h:p:=by first|omega|(simp only[lim,Zh,Zx] at *;omega)|(simp only[lim,Zx] at *;refine⟨?_,?_,?_,?_⟩<;>omega)):p:=h
theorem Gz {p:Prop} (h:p:=by first|omega|(simp only[Zd];assumption)|(simp only[lim,Zh,Zx] at *;omega)|(simp only[lim,Zx] at *;refine⟨?_,?_,?_,?_⟩<;>omega)):p:=h
def cutTys:List TypeId:=[]
def cutTy (t:TypeId):Bool:=cutTys.contains t
def mvTys:List TypeId:=[64]
def mvTy (t:TypeId):Bool:=mvTys.contains t
inductive D where
 |bool (b:Bool)
 |int (k:IntKind) (n:Int)
 |str (s:ByteArray)
 |sl (xs:List (List D))
 |fn (f:FuncId) (caps:List (List D))
 |un
 deriving Inhabited
inductive C where
 |d (x:D)
 |own (xs:List (List C))
 deriving Inhabited
def C.gone:C->C
 |.d x=>.d x
 |.own _=>.d .un
mutual
def C.imm:C->D
 |.d x=>x
 |.own xs=>.sl (C.immRows xs)
def C.immCells:List C->List D
 |[]=>[]
 |c::cs=>c.imm::C.immCells cs
def C.immRows:List (List C)->List (List D)
 |[]=>[]
 |x::xs=>C.immCells x::C.immRows xs
end
inductive T where
 |d (fr:Bool) (x:D)
 |nil
 |agg (ts:List T)
 |tup (ts:List T)
 |row (id:Nat)
 |bp (id off:Nat)
 |ep (id i off:Nat)
 |ip (fr:Bool) (cs:List D)
 |sub (id i off:Nat)
 |clo (f:FuncId) (caps:List T)
 |undef
 |ub
 |any
 deriving Inhabited
inductive Obj where
 |box (org:Option Nat) (t:TypeId) (cs:List T)
 |row (org:Option Nat) (fr:Bool) (ct:TypeId) (xs:List (List C))
 |frz (fr:Bool) (xs:List (List D))
 |fbx (fr:Bool) (cs:List D)
 |gone
 deriving Inhabited
structure St where
 tm:List T
 ob:List Obj
def St.put (st:St) (dst:Option Nat) (t:T):St:=
 match dst with
 |some d=>{ st with tm:=st.tm.set d t }
 |none=>st
def Zaa (id:Nat):T->T
 |.sub j i off=>if j=id then .any else .sub j i off
 |t=>t
def St.setOb (st:St) (id:Nat) (o:Obj):St:=⟨st.tm.map (Zaa id),st.ob.set id o⟩
def St.newOb (st:St) (o:Obj):St:={ st with ob:=st.ob++[o] }
inductive Ex where
 |normal
 |exit (id:Nat)
 |ret
 deriving DecidableEq
inductive A where
 |d (x:D)
 |agg (xs:List D)
 |nil
 |ip (xs:List D)
 |box (cs:List C)
 |own (g:Bool) (cs:List C)
 deriving Inhabited
inductive Out where
 |box (cs:List C)
 |own (cs:List C)
 |lost
 deriving Inhabited
inductive Mode where
 |imm|box|own|nil
 deriving DecidableEq,Inhabited
structure Lib where
 gives:List Bool
 ct:TypeId
 run:{β:Type}->List A->(List (List C)->Option β)->Option β
structure Za0 where
 modes:List (Mode×TypeId)
 rts:List TypeId
 al:Bool
 run:{β:Type}->List A->(List (List C)->List Out->Option β)->Option β
 lib:Option Lib:=none
 ow:Bool:=false
abbrev Env:=FuncId->Option Za0
inductive CK where
 |int (k:IntKind)|bool|str|sl|other
 deriving DecidableEq,Inhabited
def Zaj (P:Program) (t:TypeId):CK:=
 match P.underlying t with
 |some .bool=>.bool
 |some (.int k)=>.int k
 |some .string=>.str
 |some (.slice _)=>.sl
 |_=>.other
def ZA (P:Program):Nat->TypeId->List TypeId
 |0,t=>[t]
 |n+1,t=>
  match P.underlying t with
  |some (.struct fs)=>fs.toList.flatMap λf=>ZA P n f.type
  |some (.array m e)=>(List.replicate m (ZA P n e)).flatten
  |_=>[t]
def ZaC (P:Program) (t:TypeId):List CK:=(ZA P 6 t).map (Zaj P)
def Z4 (P:Program) (t:TypeId):Bool:=
 match P.underlying t with
 |some (.struct _)|some (.array _ _)=>true
 |_=>false
def zeroT:CK->T
 |.int k=>.d true (.int k 0)
 |.bool=>.d true (.bool false)
 |.str=>.d true (.str ⟨#[]⟩)
 |.sl=>.nil
 |.other=>.any
def zeroC:CK->Option C
 |.int k=>some (.d (.int k 0))
 |.bool=>some (.d (.bool false))
 |.str=>some (.d (.str ⟨#[]⟩))
 |.sl=>some (.own [])
 |.other=>none
section
variable {β:Type}
def dInt (q:IntKind) (d:D) (k:Int->Option β):Option β:=
 match d with
 |.int q' n=>if q'=q then k n else none
 |_=>none
def dBool (d:D) (k:Bool->Option β):Option β:=
 match d with
 |.bool b=>k b
 |_=>none
def dStr (d:D) (k:ByteArray->Option β):Option β:=
 match d with
 |.str s=>k s
 |_=>none
def dSl (d:D) (k:List (List D)->Option β):Option β:=
 match d with
 |.sl xs=>k xs
 |_=>none
def Zct {α:Type} (l:List α) (k:α->List α->Option β):Option β:=
 match l with
 |x::r=>k x r
 |[]=>none
def atEnd {α:Type} (l:List α) (k:Option β):Option β:=
 match l with
 |[]=>k
 |_=>none
def asKind (q:CK) (d:D) (k:D->Option β):Option β:=
 match q with
 |.int q=>dInt q d λn=>k (.int q n)
 |.bool=>dBool d λb=>k (.bool b)
 |.str=>dStr d λs=>k (.str s)
 |.sl=>dSl d λxs=>k (.sl xs)
 |.other=>none
def asCells:List CK->List D->(List D->Option β)->Option β
 |[],l,k=>atEnd l (k [])
 |q::qs,l,k=>Zct l λd r=>asKind q d λd'=>asCells qs r λds=>k (d'::ds)
def cOwn (c:C) (k:List (List C)->Option β):Option β:=
 match c with
 |.own xs=>k xs
 |.d _=>none
def Za7 {α:Type} (xs:List α) (i:Nat) (k:α->Option β):Option β:=
 match xs[i]? with
 |some x=>k x
 |none=>none
def Zam {α:Type} (xs:List α) (i:Int) (k:α->Option β):Option β:=
 if 0<=i then Za7 xs i.toNat k else none
def atStr (s:ByteArray) (i:Int) (k:Int->Option β):Option β:=
 if 0<=i then
  match s[i.toNat]? with
  |some b=>k b.toNat
  |none=>none
 else none
def cD (c:C) (k:D->Option β):Option β:=
 match c with
 |.d x=>k x
 |.own _=>none
def Z0 (c:Prop) [Decidable c] (k:Option β):Option β:=if c then k else none
end
end Go.T
namespace Go.T
section
variable {β:Type}
def constT:Value->T
 |.bool b=>.d true (.bool b)
 |.int k n=>.d true (.int k n)
 |.string s=>.d true (.str s)
 |.slice none 0 0=>.nil
 |_=>.any
def St.ev (st:St):Operand->T
 |.tmp t=>st.tm.getD t .any
 |.const v=>constT v
 |.global _=>.any
 |.func f=>.clo f []
def Zaq (P:Program) (t:TypeId):Option TypeId:=
 if t<P.types.size then
  match P.underlying t with
  |some (.slice e)=>some e
  |_=>none
 else none
def Zs (P:Program) (ct:TypeId):Nat:=
 match Zaq P ct with
 |some e=>P.cellsOf e
 |_=>0
def ZX (P:Program) (ct:TypeId):List TypeId:=
 match Zaq P ct with
 |some e=>ZA P 6 e
 |_=>[]
def Zak:D->Bool
 |.bool _|.int _ _|.str _=>true
 |_=>false
def cellD (s:Bool) (st:St):T->Option (Bool×D)
 |.d fr x=>some (fr,x)
 |.nil=>some (true,.sl [])
 |.row id=>
  match st.ob[id]? with
  |some (.row _ fr _ xs)=>bif s then none else some (fr,.sl (C.immRows xs))
  |some (.frz fr xs)=>some (fr,.sl xs)
  |_=>none
 |_=>none
def ZbR (s:Bool) (st:St):List T->Option (Bool×List D)
 |[]=>some (true,[])
 |t::ts=>
  match cellD s st t,ZbR s st ts with
  |some (f,x),some (g,xs)=>some ((f||Zak x)&&g,x::xs)
  |_,_=>none
def capD (s:Bool) (st:St):T->Option (List D)
 |.bp id 0=>
  match st.ob[id]? with
  |some (.box _ _ cs)=>bif s then none else(ZbR s st cs).map (·.2)
  |some (.fbx _ cs)=>some cs
  |_=>none
 |.ip _ cs=>some cs
 |_=>none
def capsD (s:Bool) (st:St):List T->Option (List (List D))
 |[]=>some []
 |t::ts=>
  match capD s st t,capsD s st ts with
  |some x,some xs=>some (x::xs)
  |_,_=>none
def argD (s:Bool) (st:St):T->Option A
 |.agg ts=>(ZbR s st ts).map λr=>.agg r.2
 |.clo f caps=>(capsD s st caps).map λr=>.d (.fn f r)
 |.ip _ cs=>some (.ip cs)
 |t=>(cellD s st t).map λr=>.d r.2
def cellC (st:St) (ct:TypeId):T->Option (Bool×C×St)
 |.d fr x=>some (fr||Zak x,.d x,st)
 |.nil=>some (true,.own [],st)
 |.row id=>
  match st.ob[id]? with
  |some (.row _ fr rt xs)=>if rt=ct then some (fr,.own xs,st.setOb id .gone) else none
  |some (.frz fr xs)=>some (fr,.d (.sl xs),st)
  |_=>none
 |_=>none
def cellsC (st:St):List TypeId->List T->Option (Bool×List C×St)
 |[],[]=>some (true,[],st)
 |ct::cts,t::ts=>
  match cellC st ct t with
  |some (f,c,st')=>
   match cellsC st' cts ts with
   |some (g,cs,st'')=>some (f&&g,c::cs,st'')
   |none=>none
  |none=>none
 |_,_=>none
def Zbk:T->Bool
 |.agg _|.tup _|.sub _ _ _|.undef|.ub|.any=>false
 |_=>true
def ZK:T->List T
 |.agg ts=>ts
 |t=>[t]
def bornC (P:Program) (fr:Bool):St->List TypeId->List C->Option (List T×St)
 |st,_::cts,.d x::cs=>
  match bornC P fr st cts cs with
  |some (ts,st')=>some (.d fr x::ts,st')
  |none=>none
 |st,ct::cts,.own xs::cs=>
  match bornC P fr (st.newOb (.row none fr ct xs)) cts cs with
  |some (ts,st')=>some (.row st.ob.length::ts,st')
  |none=>none
 |st,[],[]=>some ([],st)
 |_,_,_=>none
def wrapT (P:Program) (t:TypeId) (ts:List T):T:=if Z4 P t then .agg ts else ts.headD .any
def asKindC (q:CK) (fr:Bool) (c:C) (k:T->Option β):Option β:=
 cD c λx=>asKind q x λy=>k (.d fr y)
def asCellsC (fr:Bool):List CK->List C->(List T->Option β)->Option β
 |[],_,k=>k []
 |q::qs,l,k=>Zct l λc r=>asKindC q fr c λt=>asCellsC fr qs r λts=>k (t::ts)
def subD (st:St) (id i off:Nat) (k:Bool->List (List D)->Option β):Option β:=
 match st.ob[id]? with
 |some (.row _ fr _ xs)=>Za7 xs i λc=>Zct (c.drop off) λx _=>dSl x.imm λys=>k fr ys
 |_=>none
def loadDen (P:Program) (st:St) (t:TypeId) (a:T) (k:T->Option β):Option β:=
 if(P.underlying t).isSome=true/\0<P.cellsOf t/\(ZA P 6 t).length=P.cellsOf t/\(Z4 P t=false->P.cellsOf t=1) then
 match a with
 |.bp id off=>
  match st.ob[id]? with
  |some (.box _ _ cs)=>
   if Z4 P t then
    (if off+P.cellsOf t<=cs.length then k (.agg ((cs.drop off).take (P.cellsOf t))) else none)
   else match cs[off]? with
    |some c=>k c
    |none=>none
  |some (.fbx fr cs)=>
   if Z4 P t then
    (if off+P.cellsOf t<=cs.length then k (.agg (((cs.drop off).take (P.cellsOf t)).map (.d fr))) else none)
   else match cs[off]? with
    |some c=>k (.d fr c)
    |none=>none
  |_=>none
 |.ip fr cs=>
  if Z4 P t then
   (if P.cellsOf t<=cs.length then k (.agg ((cs.take (P.cellsOf t)).map (.d fr))) else none)
  else match cs with
   |c::_=>k (.d fr c)
   |[]=>none
 |.ep id i off=>
  match st.ob[id]? with
  |some (.row _ fr rt xs)=>
   if Zaj P t=.sl then(if(ZX P rt)[off]? = some t/\(ZX P rt).length=Zs P rt then k (.sub id i off) else none)
   else if(ZX P rt).length=Zs P rt/\off+P.cellsOf t<=Zs P rt then
    Za7 xs i λc=>asCellsC fr (ZaC P t) (c.drop off) λts=>k (wrapT P t ts)
   else none
  |_=>none
 |_=>none
 else none
def ZcG:List CK->List C->(List C->Option β)->Option β
 |[],l,k=>atEnd l (k [])
 |.sl::qs,l,k=>Zct l λc r=>cOwn c λxs=>ZcG qs r λcs=>k (.own xs::cs)
 |q::qs,l,k=>Zct l λc r=>cD c λx=>asKind q x λy=>ZcG qs r λcs=>k (.d y::cs)
def takeDen (P:Program) (st:St) (t:TypeId) (id i off:Nat) (k:T->St->Option β):Option β:=
 match st.ob[id]? with
 |some (.row og fr rt xs)=>
  if off=0/\(P.underlying t).isSome=true/\0<P.cellsOf t/\Z4 P t=true/\ZA P 6 t=ZX P rt/\(ZX P rt).length=Zs P rt/\P.cellsOf t=Zs P rt then
   Za7 xs i λc=>ZcG (ZaC P t) c λcs=>
    match bornC P fr (st.setOb id (.row og fr rt (xs.modify i λc=>c.map C.gone))) (ZX P rt) cs with
    |some (ts,st')=>k (.agg ts) st'
    |none=>none
  else none
 |_=>none
def ZE {α:Type} (l:List α) (off:Nat) (new:List α):List α:=l.take off++new++l.drop (off+new.length)
def storeDen (P:Program) (st:St) (t:TypeId) (a x:T) (k:St->Option β):Option β:=
 if(ZK x).length=P.cellsOf t/\0<P.cellsOf t/\(ZK x).all Zbk=true then
  match a with
  |.bp id off=>
   match st.ob[id]? with
   |some (.box bo bt cs)=>
    if off+(ZK x).length<=cs.length then k (st.setOb id (.box bo bt (ZE cs off (ZK x)))) else none
   |_=>none
  |.ep id i off=>
   match cellsC st (ZA P 6 t) (ZK x) with
   |some (f,new,st')=>
    match st'.ob[id]? with
    |some (.row ro fr rt xs)=>
     if off+new.length<=Zs P rt/\((ZX P rt).drop off).take new.length=ZA P 6 t/\(ZX P rt).length=Zs P rt then
      Z0 (i<xs.length) (k (st'.setOb id (.row ro (fr&&f) rt (xs.modify i λc=>ZE c off new))))
     else none
    |_=>none
   |none=>none
  |_=>none
 else none
def ZP (a b:ByteArray):Bool:=a.toList==b.toList
def Za3 (a b:ByteArray):Bool:=Op.bytesLess a.toList b.toList
def binInt (op:BinOp) (q:IntKind) (a b:Int) (k:D->Option β):Option β:=
 match op with
 |.add=>k (.int q (q.wrap (a+b)))
 |.sub=>k (.int q (q.wrap (a-b)))
 |.mul=>k (.int q (q.wrap (a*b)))
 |.quo=>Z0 (b≠0) (k (.int q (q.wrap (a.tdiv b))))
 |.rem=>Z0 (b≠0) (k (.int q (a.tmod b)))
 |.and=>k (.int q (q.wrap (BitVec.ofInt q.bits a &&& BitVec.ofInt q.bits b).toNat))
 |.or=>k (.int q (q.wrap (BitVec.ofInt q.bits a ||| BitVec.ofInt q.bits b).toNat))
 |.xor=>k (.int q (q.wrap (BitVec.ofInt q.bits a ^^^ BitVec.ofInt q.bits b).toNat))
 |.andNot=>k (.int q (q.wrap (BitVec.ofInt q.bits a &&& ~~~BitVec.ofInt q.bits b).toNat))
 |.eql=>k (.bool (a==b))
 |.neq=>k (.bool (a !=b))
 |.lss=>k (.bool (decide (a<b)))
 |.leq=>k (.bool (decide (a<=b)))
 |.gtr=>k (.bool (decide (a>b)))
 |.geq=>k (.bool (decide (a>=b)))
 |_=>none
def binStr (op:BinOp) (a b:ByteArray) (k:D->Option β):Option β:=
 match op with
 |.add=>Z0 (((a.size+b.size:Nat):Int)<=9223372036854775807) (k (.str (a++b)))
 |.eql=>k (.bool (ZP a b))
 |.neq=>k (.bool !(ZP a b))
 |.lss=>k (.bool (Za3 a b))
 |.leq=>k (.bool (Za3 a b||ZP a b))
 |.gtr=>k (.bool !(Za3 a b||ZP a b))
 |.geq=>k (.bool !(Za3 a b))
 |_=>none
def twoInts (P:Program) (t:TypeId) (q1 q2:IntKind):Bool:=
 !P.stoodInHeld t&&!P.eqGuardType P.depth t&&(match P.underlying t with
 |some (.struct fs)=>match fs.toList with
  | [f1, f2] => (f1.name != "_") && (f2.name != "_") && decide (f1.offset = 0 ∧ f2.offset = 1 ∧ Zaj P f1.type = .int q1 ∧ Zaj P f2.type = .int q2)
  |_=>false
 |_=>false)
def binDen (P:Program) (op:BinOp) (t:TypeId) (x y:T) (k:T->Option β):Option β:=
 match x,y with
 |.agg [.d _ (.int q1 a1),.d _ (.int q2 a2)],.agg [.d _ (.int q1' b1),.d _ (.int q2' b2)]=>
  if twoInts P t q1 q2=true/\q1'=q1/\q2'=q2 then
   match op with
   |.eql=>k (.d true (.bool (a1==b1&&a2==b2)))
   |.neq=>k (.d true (.bool !(a1==b1&&a2==b2)))
   |_=>none
  else none
 |.d _ (.int q a),.d _ (.int q' b)=>
  match op with
  |.shl=>Z0 (0<=b) (k (.d true (.int q (q.wrap (a*2^(min b.toNat q.bits))))))
  |.shr=>Z0 (0<=b) (k (.d true (.int q (a.fdiv (2^(min b.toNat q.bits))))))
  |_=>if q=q' then binInt op q a b λd=>k (.d true d) else none
 |.d _ (.str a),.d _ (.str b)=>binStr op a b λd=>k (.d true d)
 |.d _ (.bool a),.d _ (.bool b)=>
  if Zaj P t=.bool then
   match op with
   |.eql=>k (.d true (.bool (a==b)))
   |.neq=>k (.d true (.bool !(a==b)))
   |_=>none
  else none
 |_,_=>none
noncomputable def both (a b:Option β):Option β:=
 letI:=Classical.propDecidable (a=b)
 if a=b then a else none
def nilSl (xs:List (List D)) (a b:Option β):Option β:=
 match xs with
 |[]=>a
 |_::_=>b
def cmpDen (P:Program) (op:BinOp) (t:TypeId) (y:Operand) (x z:T) (k:T->Option β):Option β:=
 match y,x with
 |.const (.slice none 0 0),.d _ (.sl xs)=>
  if Zaj P t=.sl then
   match op with
   |.eql=>nilSl xs (k .ub) (k (.d true (.bool false)))
   |.neq=>nilSl xs (k .ub) (k (.d true (.bool true)))
   |_=>none
  else none
 |_,_=>binDen P op t x z k
def unDen (op:UnOp) (x:T) (k:T->Option β):Option β:=
 match op,x with
 |.neg,.d _ (.int q n)=>k (.d true (.int q (q.wrap (0-n))))
 |.not,.d _ (.bool b)=>k (.d true (.bool !b))
 |_,_=>none
def bytesOf:List (List D)->(List UInt8->Option β)->Option β
 |[],k=>k []
 |x::xs,k=>Zct x λd r=>atEnd r (dInt .u8 d λn=>bytesOf xs λbs=>k (UInt8.ofNat n.toNat::bs))
def convDen (P:Program) (st:St) (src dst:TypeId) (x:T) (k:T->Option β):Option β:=
 match Zaj P src,Zaj P dst,x with
 |.int _,.int q,.d _ (.int _ n)=>k (.d true (.int q (q.wrap n)))
 |.int _,.str,.d _ (.int _ n)=>k (.d true (.str (Utf8.encode n)))
 |.str,.str,.d _ (.str s)=>k (.d true (.str s))
 |.sl,.str,x=>
  match P.underlying src with
  |some (.slice e)=>
   if Zaj P e=.int .u8 then
    match cellD false st x with
    |some (_,.sl xs)=>bytesOf xs λbs=>k (.d true (.str ⟨bs.toArray⟩))
    |_=>none
   else none
  |_=>none
 |_,_,_=>none
def asIntT (x:T) (k:Int->Option β):Option β:=
 match x with
 |.d _ (.int _ n)=>k n
 |_=>none
def asBoolT (x:T) (k:Bool->Option β):Option β:=
 match x with
 |.d _ (.bool b)=>k b
 |_=>none
def indexAddrDen (P:Program) (st:St) (t:TypeId) (x i:T) (k:T->Option β):Option β:=
 match Zaq P t with
 |none=>none
 |some e=>
  if 0<P.cellsOf e/\(ZA P 6 e).length=P.cellsOf e then
  asIntT i λn=>
   match x with
   |.d fr (.sl xs)=>Zam xs n λc=>asCells (ZaC P e) c λds=>k (.ip fr ds)
   |.row id=>
    match st.ob[id]? with
    |some (.row _ _ rt xs)=>if Zs P rt=P.cellsOf e then Z0 (0<=n/\n<xs.length) (k (.ep id n.toNat 0)) else none
    |some (.frz fr xs)=>Zam xs n λc=>asCells (ZaC P e) c λds=>k (.ip fr ds)
    |_=>none
   |_=>none
  else none
def indexDen (P:Program) (t:TypeId) (x i:T) (k:T->Option β):Option β:=
 match x with
 |.d _ (.str s)=>
  if Zaj P t=.str then
   asIntT i λn=>atStr s n λb=>k (.d true (.int .u8 b))
  else none
 |_=>none
def ZbQ (x:Option T) (dflt:Int) (k:Int->Option β):Option β:=
 match x with
 |some t=>asIntT t k
 |none=>k dflt
def rowsOk (sz:Nat) (xs:List (List D)):Prop:=∀ x∈xs,x.length=sz
instance (sz:Nat) (xs:List (List D)):Decidable (rowsOk sz xs):=inferInstanceAs (Decidable (∀ x∈xs,x.length=sz))
def ZcV (sz:Nat) (xs:List (List D)):Prop:=∀ x∈xs,x.length=sz/\∀ d∈x,Zak d=true
instance (sz:Nat) (xs:List (List D)):Decidable (ZcV sz xs):=inferInstanceAs (Decidable (∀ x∈xs,x.length=sz/\∀ d∈x,Zak d=true))
def flatB (P:Program) (e:TypeId):Bool:=
 (ZaC P e).all λq=>
  match q with
  |.sl|.other=>false
  |_=>true
def sliceDen (P:Program) (st:St) (t:TypeId) (x:T) (lo hi mx:Option T) (k:T->St->Option β):Option β:=
 match mx with
 |some m=>
  if Zaj P t=.sl/\Zs P t≠0 then
   match lo,hi,m,x with
   |none,some (.d _ (.int _ h)),.d _ (.int _ m'),.d _ (.sl _)=>if h=0/\m'=0 then k .nil st else none
   |none,some (.d _ (.int _ h)),.d _ (.int _ m'),.nil=>if h=0/\m'=0 then k .nil st else none
   |none,some (.d _ (.int _ h)),.d _ (.int _ m'),.row id=>
    match st.ob[id]? with
    |some (.row _ _ _ _)=>if h=0/\m'=0 then k .nil st else none
    |some (.frz _ _)=>if h=0/\m'=0 then k .nil st else none
    |_=>none
   |_,_,_,_=>none
  else none
 |none=>
  match Zaj P t,x with
  |.str,.d _ (.str s)=>
   ZbQ lo 0 λl=>ZbQ hi s.size λh=>
    Z0 (0<=l/\l<=h/\h<=s.size) (k (.d true (.str (s.extract l.toNat h.toNat))) st)
  |.sl,.d fr (.sl xs)=>
   if Zs P t=0 then none else
   ZbQ lo 0 λl=>ZbQ hi xs.length λh=>
    Z0 (0<=l/\l<=h/\h<=xs.length/\rowsOk (Zs P t) xs) (k (.d fr (.sl ((xs.drop l.toNat).take (h.toNat-l.toNat)))) st)
  |.sl,.nil=>
   if Zs P t=0 then none else ZbQ lo 0 λl=>ZbQ hi 0 λh=>Z0 (0<=l/\l<=h/\h<=0) (k .nil st)
  |.sl,.row id=>
   match st.ob[id]? with
   |some (.row _ fr rt xs)=>
    if rt≠t\/Zs P t=0 then none else
    match lo with
    |none=>ZbQ hi xs.length λh=>
     Z0 (0<=h/\h<=xs.length) (k (.row st.ob.length) ((st.setOb id .gone).newOb (.row none fr rt (xs.take h.toNat))))
    |some _=>
    if cutTy rt=true/\hi.isNone=true then
     ZbQ lo 0 λl=>
      Z0 (0<=l/\l<=xs.length) (k (.row st.ob.length) ((st.setOb id .gone).newOb (.row none fr rt (xs.drop l.toNat))))
    else
    ZbQ lo 0 λl=>ZbQ hi xs.length λh=>
     Z0 (0<=l/\l<=h/\h<=xs.length)
      (k (.d fr (.sl (((C.immRows xs).drop l.toNat).take (h.toNat-l.toNat)))) (st.setOb id (.frz fr (C.immRows xs))))
   |some (.frz fr xs)=>
    if Zs P t=0 then none else
    ZbQ lo 0 λl=>ZbQ hi xs.length λh=>
     Z0 (0<=l/\l<=h/\h<=xs.length/\rowsOk (Zs P t) xs) (k (.d fr (.sl ((xs.drop l.toNat).take (h.toNat-l.toNat)))) st)
   |_=>none
  |_,_=>none
def lenDen (P:Program) (st:St) (t:TypeId) (x:T) (k:T->Option β):Option β:=
 match Zaj P t,x with
 |.str,.d _ (.str s)=>k (.d true (.int .i64 s.size))
 |.sl,.d _ (.sl xs)=>k (.d true (.int .i64 xs.length))
 |.sl,.nil=>k (.d true (.int .i64 0))
 |.sl,.row id=>
  match st.ob[id]? with
  |some (.row _ _ _ xs)=>k (.d true (.int .i64 xs.length))
  |some (.frz _ xs)=>k (.d true (.int .i64 xs.length))
  |_=>none
 |.sl,.sub id i off=>subD st id i off λ_ xs=>k (.d true (.int .i64 xs.length))
 |_,_=>none
def Zx:Nat:=68719476736
def isZeroV:CK->Value->Bool
 |.int k,.int k' n=>decide (k'=k)&&n==0
 |.bool,.bool b=>!b
 |.str,.string s=>s.size==0
 |.sl,.slice none 0 0=>true
 |_,_=>false
def ZcP:List CK->List Value->Bool
 |[],[]=>true
 |q::qs,v::vs=>isZeroV q v&&ZcP qs vs
 |_,_=>false
def zeroOk (P:Program) (t:TypeId):Bool:=
 match(P.info? t).bind (·.zero) with
 |some z=>ZcP (ZaC P t) z.cells.toList
 |none=>false
def zeroCells (P:Program) (t:TypeId):Option (List T):=
 if zeroOk P t=true then some ((ZaC P t).map zeroT) else none
def zeroCellsC (P:Program) (t:TypeId):Option (List C):=
 if zeroOk P t=true then some ((ZaC P t).filterMap zeroC) else none
def appSrc (P:Program) (st:St) (t1 e t2:TypeId) (x:T) (k:Bool->List (List C)->St->Option β):Option β:=
 match Zaj P t2,x with
 |.sl,.d fr (.sl ys)=>bif !fr&&flatB P e then Z0 (ZcV (P.cellsOf e) ys) (k true (ys.map (·.map .d)) st) else Z0 (rowsOk (P.cellsOf e) ys) (k fr (ys.map (·.map .d)) st)
 |.sl,.nil=>k true [] st
 |.sl,.row id=>
  match st.ob[id]? with
  |some (.row _ fr rt ys)=>if rt=t1 then k fr ys (st.setOb id .gone) else none
  |some (.frz fr ys)=>bif !fr&&flatB P e then Z0 (ZcV (P.cellsOf e) ys) (k true (ys.map (·.map .d)) st) else Z0 (rowsOk (P.cellsOf e) ys) (k fr (ys.map (·.map .d)) st)
  |_=>none
 |.sl,.sub id i off=>if flatB P e=true then subD st id i off λ_ ys=>Z0 (ZcV (P.cellsOf e) ys) (k true (ys.map (·.map .d)) st) else none
 |.str,.d _ (.str s)=>k true (s.data.toList.map λb=>[.d (.int .u8 b.toNat)]) st
 |.int _,.d _ (.int _ n)=>
  match zeroCellsC P e with
  |some z=>Z0 (0<=n/\n<=Zx) (k true (List.replicate n.toNat z) st)
  |none=>none
 |_,_=>none
def appendDen (P:Program) (st:St) (t1 t2:TypeId) (s x:T) (k:T->St->Option β):Option β:=
 match Zaq P t1 with
 |none=>none
 |some e=>
  if 0<P.cellsOf e/\P.bytesOf e<=1000/\(Zaj P t2=.sl->(Zaq P t2).map P.cellsOf=some (P.cellsOf e))/\(Zaj P t2=.str->P.cellsOf e=1)/\zeroOk P e=true then
   appSrc P st t1 e t2 x λf ys st'=>
    match s with
    |.nil=>Z0 (ys.length<=Zx) (k (.row st'.ob.length) (st'.newOb (.row none f t1 ys)))
    |.row id=>
     match st'.ob[id]? with
     |some (.row _ fr rt xs)=>
      if rt=t1 then
       Z0 (xs.length+ys.length<=Zx)
        (k (.row st'.ob.length) ((st'.setOb id .gone).newOb (.row none (fr&&f) t1 (xs++ys))))
      else none
     |_=>none
    |_=>none
  else none
def makeDen (P:Program) (st:St) (t:TypeId) (l c:T) (k:T->St->Option β):Option β:=
 match Zaq P t with
 |none=>none
 |some e=>
  if 0<P.cellsOf e/\P.bytesOf e<=1000 then
   match zeroCellsC P e with
   |none=>none
   |some z=>asIntT l λn=>asIntT c λm=>
     Z0 (0<=n/\n<=Zx/\m<=n/\n<=m) (k (.row st.ob.length) (st.newOb (.row none true t (List.replicate n.toNat z))))
  else none
def fillT (fs:List (Nat×Nat×Bool)):List T->List (Nat×T)->Option (List T)
 |cs,[]=>some cs
 |cs,(i,x)::r=>
  match fs[i]? with
  |some (off,n,_)=>if(ZK x).length=n/\(ZK x).all Zbk=true/\off+n<=cs.length then fillT fs (ZE cs off (ZK x)) r else none
  |none=>none
def Zbi (P:Program) (t:TypeId):Option (List (Nat×Nat×Bool)):=
 match P.underlying t with
 |some (.struct fs)=>if(fs.toList.all λf=>(P.underlying f.type).isSome)=true then some (fs.toList.map λf=>(f.offset,P.cellsOf f.type,Z4 P f.type)) else none
 |_=>none
def litRows (cts:List TypeId):St->Nat->List (Nat×T)->Option (Bool×List (List C)×St)
 |st,_,[]=>some (true,[],st)
 |st,j,(i,x)::r=>
  if i=j then
   match cellsC st cts (ZK x) with
   |some (f,c,st')=>
    match litRows cts st' (j+1) r with
    |some (g,cs,st'')=>some (f&&g,c::cs,st'')
    |none=>none
   |none=>none
  else none
def Za0.wide (e:Za0):Bool:=e.al||e.ow||e.modes.any λm=>m.1==.box||m.1==.own
def Zbf (st:St):List TypeId->List T->Option (List C×St)
 |[],[]=>some ([],st)
 |ct::cts,t::ts=>
  match t with
  |.row id=>
   match st.ob[id]? with
   |some (.row _ _ rt xs)=>
    if rt=ct then
     match Zbf (st.setOb id .gone) cts ts with
     |some (cs,st')=>some (.own xs::cs,st')
     |none=>none
    else none
   |_=>none
  |.nil=>
   match Zbf st cts ts with
   |some (cs,st')=>some (.own []::cs,st')
   |none=>none
  |.d _ x=>
   match Zbf st cts ts with
   |some (cs,st')=>some (.d x::cs,st')
   |none=>none
  |_=>none
 |_,_=>none
def datTs:List T->Option (List D)
 |[]=>some []
 |.d _ x::ts=>
  match datTs ts with
  |some ds=>some (x::ds)
  |none=>none
 |_=>none
def datCs:List C->Option (List D)
 |[]=>some []
 |.d x::cs=>
  match datCs cs with
  |some ds=>some (x::ds)
  |none=>none
 |_=>none
def Zbb (P:Program) (s:Bool):St->List (Mode×TypeId)->List T->(List A->St->Option β)->Option β
 |st,[],[],k=>k [] st
 |st,(.imm,_)::ms,t::ts,k=>
  match t with
  |.sub id i off=>bif s then none else subD st id i off λ_ ys=>Zbb P s st ms ts λas st'=>k (.d (.sl ys)::as) st'
  |t=>
   match argD s st t with
   |some a=>Zbb P s st ms ts λas st'=>k (a::as) st'
   |none=>none
 |st,(.nil,_)::ms,.nil::ts,k=>Zbb P s st ms ts λas st'=>k (.nil::as) st'
 |st,(.own,ct)::ms,.row id::ts,k=>
  match st.ob[id]? with
  |some (.row _ _ rt xs)=>if rt=ct then Zbb P s (st.setOb id .gone) ms ts λas st'=>k (.own false [.own xs]::as) st' else none
  |_=>none
 |st,(.own,ct)::ms,.agg cs::ts,k=>
  match Zbf st (ZA P 6 ct) cs with
  |some (c,st')=>Zbb P s st' ms ts λas st''=>k (.own true c::as) st''
  |none=>none
 |st,(.own,ct)::ms,.sub id i off::ts,k=>
  match st.ob[id]? with
  |some (.row _ _ rt xs)=>
   if(ZX P rt)[off]? = some ct then
    Za7 xs i λc=>Zct (c.drop off) λx _=>cOwn x λys=>
     Zbb P s (st.setOb id .gone) ms ts λas st'=>k (.own false [.own ys]::as) st'
   else none
  |_=>none
 |st,(.box,pt)::ms,.bp id off::ts,k=>
  match st.ob[id]? with
  |some (.box _ bt cs)=>
   if bt=pt/\off=0 then
    match Zbf (st.setOb id .gone) (ZA P 6 pt) cs with
    |some (c,st1)=>Zbb P s st1 ms ts λas st'=>k (.box c::as) st'
    |none=>none
   else none
  |_=>none
 |_,_,_,_=>none
def ZaL (st:St):T->St
 |.row id=>
  match st.ob[id]? with
  |some (.row _ fr _ xs)=>st.setOb id (.frz fr (C.immRows xs))
  |_=>st
 |_=>st
def ZbH (st:St) (ts:List T):St:=ts.foldl ZaL st
def freezeCap (st:St):T->St
 |.bp id _=>
  match st.ob[id]? with
  |some (.box _ _ cs)=>
   match ZbR true (ZbH st cs) cs with
   |some (f,ds)=>(ZbH st cs).setOb id (.fbx f ds)
   |none=>st
  |_=>st
 |_=>st
def freezeT (st:St):T->St
 |.agg ts=>ZbH st ts
 |.clo _ caps=>caps.foldl freezeCap st
 |.sub id _ _=>ZaL st (.row id)
 |t=>ZaL st t
def ZbI:St->List (Mode×TypeId)->List T->St
 |st,(.imm,_)::ms,t::ts=>ZbI (freezeT st t) ms ts
 |st,_::ms,_::ts=>ZbI st ms ts
 |st,_,_=>st
def Z2 (old:St):St->List T->List C->(St->Option β)->Option β
 |st,[],[],k=>k st
 |st,t::ts,c::cs,k=>
  match t with
  |.row id=>
   match old.ob[id]? with
   |some (.row og _ rt ys)=>
    cOwn c λxs=>Z0 (xs.length=ys.length) (Z2 old (st.setOb id (.row og false rt xs)) ts cs k)
   |_=>none
  |_=>Z2 old st ts cs k
 |_,_,_,_=>none
def ZaG (st:St):List T->Bool
 |[]=>true
 |t::ts=>
  match t with
  |.d fr x=>(fr||Zak x)&&ZaG st ts
  |.nil=>ZaG st ts
  |.row id=>
   match st.ob[id]? with
   |some (.row _ fr _ _)=>fr&&ZaG st ts
   |_=>false
  |_=>false
def Z5 (old:St):List (Mode×TypeId)->List T->Bool
 |(.own,_)::ms,t::ts=>
  match t with
  |.row id=>
   match old.ob[id]? with
   |some (.row _ fr _ _)=>fr&&Z5 old ms ts
   |_=>false
  |.agg cs=>ZaG old cs&&Z5 old ms ts
  |_=>false
 |(.box,_)::ms,t::ts=>
  match t with
  |.bp id _=>
   match old.ob[id]? with
   |some (.box _ _ cs)=>ZaG old cs&&Z5 old ms ts
   |_=>false
  |_=>false
 |_::ms,_::ts=>Z5 old ms ts
 |_,_=>true
def lentFr (old:St):List (Mode×TypeId)->List T->Bool
 |(.own,_)::ms,t::ts=>
  match t with
  |.row id=>
   match old.ob[id]? with
   |some (.row _ fr _ _)=>fr&&lentFr old ms ts
   |_=>false
  |_=>false
 |(.box,_)::_,_::_=>false
 |_::ms,_::ts=>lentFr old ms ts
 |_,_=>true
def flatTy (P:Program) (rt:TypeId):Bool:=
 (ZX P rt).all λt=>
  match Zaj P t with
  |.sl|.other=>false
  |_=>true
def scalC:C->Bool
 |.d x=>Zak x
 |.own _=>false
def flatC (xs:List (List C)):Bool:=xs.all (·.all scalC)
def goneAll:List Nat->St->St
 |[],st=>st
 |id::r,st=>goneAll r (st.setOb id .gone)
def Zcu:List T->List Nat
 |[]=>[]
 |t::ts=>
  match t with
  |.row id=>id::Zcu ts
  |_=>Zcu ts
def ZC (P:Program) (fo fa:Bool):St->St->List (Mode×TypeId)->List T->List Out->(St->Option β)->Option β
 |old,st,(.imm,_)::ms,_::ts,os,k=>ZC P fo fa old st ms ts os k
 |old,st,(.nil,_)::ms,_::ts,os,k=>ZC P fo fa old st ms ts os k
 |old,st,(.own,_)::ms,.row id::ts,.lost::os,k=>ZC P fo fa old (st.setOb id .gone) ms ts os k
 |old,st,(.box,_)::ms,.bp id _::ts,.box cs::os,k=>
  match old.ob[id]? with
  |some (.box og bt ys)=>
   match bornC P fo st (ZA P 6 bt) cs with
   |some (l,st1)=>Z0 (cs.length=ys.length) (ZC P fo fa old (goneAll (Zcu ys) (st1.setOb id (.box og bt l))) ms ts os k)
   |none=>none
  |_=>none
 |old,st,(.own,_)::ms,.row id::ts,.own [c]::os,k=>
  match old.ob[id]? with
  |some (.row og _ rt ys)=>cOwn c λxs=>
   bif fo then Z0 (xs.length=ys.length) (ZC P fo fa old (st.setOb id (.row og true rt xs)) ms ts os k)
   else bif fa&&flatTy P rt then Z0 (xs.length=ys.length/\flatC xs=true) (ZC P fo fa old (st.setOb id (.row og true rt xs)) ms ts os k)
   else Z0 (xs.length=ys.length) (ZC P fo fa old (st.setOb id (.row og false rt xs)) ms ts os k)
  |_=>none
 |old,st,(.own,_)::ms,.agg ts'::ts,.lost::os,k=>ZC P fo fa old (goneAll (Zcu ts') st) ms ts os k
 |old,st,(.own,_)::ms,.agg ts'::ts,.own cs::os,k=>Z2 old st ts' cs λst'=>ZC P fo fa old st' ms ts os k
 |old,st,(.own,_)::ms,.sub id i off::ts,.own [c]::os,k=>
  match old.ob[id]? with
  |some (.row og _ rt xs)=>ZC P fo fa old (st.setOb id (.row og false rt (xs.modify i λr=>r.set off c))) ms ts os k
  |_=>none
 |_,st,[],[],[],k=>k st
 |_,_,_,_,_,_=>none
def Zb2 (P:Program) (t:TypeId):Bool:=
 match P.underlying t with
 |some (.pointer _)=>true
 |_=>false
def Zby (P:Program) (t:TypeId):TypeId:=
 match P.underlying t with
 |some (.pointer e)=>e
 |_=>0
def Zba (P:Program) (fr:Bool):St->List TypeId->List (List C)->Option (List T×St)
 |st,t::ts,c::cs=>
  bif Zb2 P t then
   match datCs c with
   |some ds=>
    match Zba P fr (st.newOb (.box none (Zby P t) (ds.map (.d fr)))) ts cs with
    |some (rs,st'')=>some (.bp st.ob.length 0::rs,st'')
    |none=>none
   |none=>none
  else
  match bornC P fr st (ZA P 6 t) c with
  |some (r,st')=>
   match Zba P fr st' ts cs with
   |some (rs,st'')=>some (wrapT P t r::rs,st'')
   |none=>none
  |none=>none
 |st,[],[]=>some ([],st)
 |_,_,_=>none
def resTypes (P:Program) (t:TypeId):List TypeId:=
 match P.underlying t with
 |some (.tuple ts)=>ts.toList
 |_=>[t]
def isTupB (P:Program) (t:TypeId):Bool:=
 match P.underlying t with
 |some (.tuple _)=>true
 |_=>false
def resT (P:Program) (t:TypeId) (ts:List T):T:=
 match P.underlying t with
 |some (.tuple _)=>.tup ts
 |_=>ts.headD .any
def callDen (P:Program) (E:Env) (st:St) (t:TypeId) (f:FuncId) (ts:List T) (k:T->St->Option β):Option β:=
 match E f with
 |none=>none
 |some e=>
  let st0:=bif e.wide then ZbI st e.modes ts else st
  if resTypes P t=e.rts/\isTupB P t=(e.rts.length !=1)/\(e.ow=true->Z5 st0 e.modes ts=true) then
  Zbb P e.wide st0 e.modes ts λas st1=>
   e.run as λrs os=>
    match Zba P (!e.al) st1 e.rts rs with
    |none=>none
    |some (r,st2)=>
     ZC P (!e.al&&e.ow) (lentFr st0 e.modes ts) st0 st2 e.modes ts os λst3=>k (resT P t r) st3
  else none
def libMv:List Bool->List T->List Nat
 |true::bs,.row id::ts=>id::libMv bs ts
 |_::bs,_::ts=>libMv bs ts
 |_,_=>[]
def Zap (ct:TypeId) (s0 st1:St):List Bool->List T->Option (List A)
 |[],[]=>some []
 |true::bs,.row id::ts=>
  match s0.ob[id]? with
  |some (.row _ _ rt xs)=>
   if rt=ct then
    match Zap ct s0 st1 bs ts with
    |some as=>some (.own false [.own xs]::as)
    |none=>none
   else none
  |_=>none
 |true::bs,.nil::ts=>
  match Zap ct s0 st1 bs ts with
  |some as=>some (.own false [.own []]::as)
  |none=>none
 |false::bs,t::ts=>
  match argD false st1 t with
  |some a=>
   match Zap ct s0 st1 bs ts with
   |some as=>some (a::as)
   |none=>none
  |none=>none
 |_,_=>none
def libFr (st:St):List Nat->Bool
 |[]=>true
 |id::r=>
  match st.ob[id]? with
  |some (.row _ fr _ _)=>fr&&libFr st r
  |_=>false
def libDen (L:Lib) (st:St) (ts:List T) (k:T->St->Option β):Option β:=
 if(libMv L.gives ts).Nodup then
  match Zap L.ct st (goneAll (libMv L.gives ts) st) L.gives ts with
  |some as=>L.run as λys=>k (.row st.ob.length) ((goneAll (libMv L.gives ts) st).newOb (.row none (libFr st (libMv L.gives ts)) L.ct ys))
  |none=>none
 else none
def capT (st:St) (t:T):T:=
 match capD false st t with
 |some cs=>.ip false cs
 |none=>.any
def Z1 (P:Program) (E:Env) (o:Oper) (st:St) (k:St->Option β):Option β:=
 let put (t:T):Option β:=k (st.put o.dst t)
 let put2 (t:T) (st':St):Option β:=k (st'.put o.dst t)
 match o.op with
 |.move x|.assign x=>put (st.ev x)
 |.pick c a b=>asBoolT (st.ev c) λt=>bif t then put (st.ev a) else put (st.ev b)
 |.alloc t=>
  match zeroCells P t with
  |some cs=>put2 (.bp st.ob.length 0) (st.newOb (.box none t cs))
  |none=>none
 |.box t x=>if(ZK (st.ev x)).length=P.cellsOf t/\(ZK (st.ev x)).all Zbk=true then put2 (.bp st.ob.length 0) (st.newOb (.box none t (ZK (st.ev x)))) else none
 |.build t parts=>
  match Zbi P t,zeroCells P t with
  |some fs,some z=>
   match fillT fs z (parts.toList.map λp=>(p.1,st.ev p.2)) with
   |some cs=>put (.agg cs)
   |none=>none
  |_,_=>none
 |.buildSlice t len parts=>
  match Zaq P t with
  |some e=>
   if parts.size=len/\len*P.cellsOf e<=1000/\0<P.cellsOf e/\(ZA P 6 e).length=P.cellsOf e/\((P.info? e).bind (·.zero)).isSome=true then
    match litRows (ZA P 6 e) st 0 (parts.toList.map λp=>(p.1,st.ev p.2)) with
    |some (f,cs,st')=>put2 (.row st'.ob.length) (st'.newOb (.row none f t cs))
    |none=>none
   else none
  |none=>none
 |.load t a=>
  match mvTy t,st.ev a with
  |true,.ep id i off=>takeDen P st t id i off put2
  |_,x=>loadDen P st t x put
 |.store t a x=>storeDen P st t (st.ev a) (st.ev x) λst'=>k (st'.put o.dst .undef)
 |.nilCheck x=>
  match st.ev x with
  |.bp a b=>put (.bp a b)
  |.ep a b c=>put (.ep a b c)
  |.ip a b=>put (.ip a b)
  |.clo f cs=>put (.clo f cs)
  |.d a (.fn f cs)=>put (.d a (.fn f cs))
  |_=>none
 |.binOp op t x y _=>cmpDen P op t y (st.ev x) (st.ev y) put
 |.unOp op _ x=>unDen op (st.ev x) put
 |.convert src dst x=>convDen P st src dst (st.ev x) put
 |.makeInterface t _=>
  match P.underlying t with
  |some (.interface _)=>none
  |some _=>put .any
  |none=>none
 |.makeFunc (.func f) first captured=>if first.size=0/\(captured.toList.map st.ev).all Zbk=true then put (.clo f (captured.toList.map st.ev)) else none
 |.makeSlice t l c=>makeDen P st t (st.ev l) (st.ev c) put2
 |.slice t x lo hi mx=>sliceDen P st t (st.ev x) (lo.map st.ev) (hi.map st.ev) (mx.map st.ev) put2
 |.fieldAddr s x f=>
  match Zbi P s with
  |some fs=>
   match fs[f]? with
   |some (off,n,_)=>
    if n=0 then none else
    match st.ev x with
    |.bp id a=>put (.bp id (a+off))
    |.ep id i a=>put (.ep id i (a+off))
    |.ip fr cs=>put (.ip fr (cs.drop off))
    |_=>none
   |none=>none
  |none=>none
 |.field s x f=>
  match Zbi P s,st.ev x with
  |some fs,.agg ts=>
   match fs[f]? with
   |some (off,n,g)=>if n=0\/ts.length<off+n then none else put (if g then .agg ((ts.drop off).take n) else(ts.drop off).headD .any)
   |none=>none
  |_,_=>none
 |.indexAddr t x i=>indexAddrDen P st t (st.ev x) (st.ev i) put
 |.index t x i=>indexDen P t (st.ev x) (st.ev i) put
 |.extract x i=>
  match st.ev x with
  |.tup ts=>match ts[i]? with
   |some t=>put t
   |none=>none
  |_=>none
 |.call c=>
  match c.callee with
  |.builtin .len=>
   match c.args.toList,c.argTypes.toList with
   |[x],[t]=>lenDen P st t (st.ev x) put
   |_,_=>none
  |.builtin .cap=>
   match c.args.toList.map st.ev,c.argTypes.toList with
   |[.nil],[t]=>if Zaj P t=.sl then put (.d true (.int .i64 0)) else none
   |_,_=>none
  |.builtin .append=>
   match c.args.toList,c.argTypes.toList with
   |[s,x],[t1,t2]=>appendDen P st t1 t2 (st.ev s) (st.ev x) put2
   |_,_=>none
  |.builtin .min=>
   match c.args.toList.map st.ev with
   |[.d _ (.int q a),.d _ (.int _ b)]=>put (.d true (.int q (if b<a then b else a)))
   |_=>none
  |.builtin .max=>
   match c.args.toList.map st.ev with
   |[.d _ (.int q a),.d _ (.int _ b)]=>put (.d true (.int q (if b>a then b else a)))
   |_=>none
  |.value f=>
   match st.ev f with
   |.clo g caps=>
    match(E g).bind (·.lib) with
    |some L=>if caps.isEmpty=true then libDen L st (c.args.toList.map st.ev) put2 else none
    |none=>
    if caps.isEmpty=true\/(E g).any (λe=>!e.wide)=true then callDen P E st o.type g (c.args.toList.map st.ev++caps.map (capT st)) put2 else none
   |.d _ (.fn g caps)=>callDen P E st o.type g (c.args.toList.map st.ev++caps.map (.ip false)) put2
   |_=>none
  |_=>none
 |_=>none
def Zcv (P:Program) (E:Env) (ops:Array Oper):List Oper->St->(St->Option β)->Option β
 |[],st,k=>k st
 |o::r,st,k=>
  match o.guard with
  |none=>Z1 P E o st λst'=>Zcv P E ops r st' k
  |some (j,want)=>
   match(ops[j]?).bind (·.dst) with
   |none=>none
   |some d=>
    match st.tm.getD d .any with
    |.d f (.bool b)=>
     bif b then
      (bif want then Z1 P E o (st.put (some d) (.d f (.bool true))) λst'=>Zcv P E ops r st' k
       else Zcv P E ops r ((st.put (some d) (.d f (.bool true))).put o.dst .undef) k)
     else
      (bif want then Zcv P E ops r ((st.put (some d) (.d f (.bool false))).put o.dst .undef) k
       else Z1 P E o (st.put (some d) (.d f (.bool false))) λst'=>Zcv P E ops r st' k)
    |.undef=>Zcv P E ops r (st.put o.dst .undef) k
    |_=>none
def tagOf:Obj->Nat
 |.box _ _ _=>0
 |.row _ _ _ _=>1
 |.frz _ _=>2
 |.gone=>3
 |.fbx _ _=>4
def flatBox (st:St) (t:T):Bool:=
 match t with
 |.bp id _=>
  match st.ob[id]? with
  |some (.box _ _ cs)=>(datTs cs).isSome
  |_=>true
 |_=>true
def goneIn (st':St) (id:Nat):Bool:=
 match st'.ob[id]? with
 |some .gone=>true
 |_=>false
def Zci (st st':St) (own:Bool) (t:T):Bool:=
 match t with
 |.row id=>!own||goneIn st' id
 |.agg cs=>!own||(Zcu cs).all (goneIn st')
 |.sub _ _ _=>!own
 |t=>flatBox st t
def quietOp (E:Env) (o:Oper) (st st':St):Bool:=
 match o.op with
 |.call c=>
  match c.callee with
  |.value f=>
   match st.ev f with
   |.clo g _|.d _ (.fn g _)=>
    match E g with
    |some e=>c.args.toList.all λx=>Zci st st' (e.modes.any λm=>m.1==.own) (st.ev x)
    |none=>false
   |_=>false
  |_=>true
 |_=>true
def ZO (st:St):T->List Nat
 |.row id=>[id]
 |.ep id _ _=>[id]
 |.sub id _ _=>[id]
 |.bp id _=>[id]
 |.agg ts=>ts.flatMap λt=>match t with|.row id=>[id]|_=>[]
 |.clo _ ts=>ts.flatMap λt=>
  match t with
  |.bp id _=>
   match st.ob[id]? with
   |some (.box _ _ cs)=>id::cs.flatMap λt=>match t with|.row id=>[id]|_=>[]
   |_=>[id]
  |_=>[]
 |_=>[]
def isMove:Op->Bool
 |.move _|.assign _=>true
 |_=>false
def lookSub:T->List Nat
 |.sub id _ _=>[id]
 |_=>[]
def ZaO (st:St) (t:T):List Nat:=ZO st t ++
 match t with
 |.bp id _=>
  match st.ob[id]? with
  |some (.box _ _ cs)=>Zcu cs
  |_=>[]
 |_=>[]
def isCall:Op->Bool
 |.call _=>true
 |_=>false
def Zbm (o:Oper) (st:St):List Nat:=o.op.operands.toList.flatMap λx=>bif isMove o.op then lookSub (st.ev x) else bif isCall o.op then ZaO st (st.ev x) else ZO st (st.ev x)
def subOf (st:St):Option Nat->List Nat
 |some d=>
  match st.tm.getD d .any with
  |.sub id _ _=>[id]
  |_=>[]
 |none=>[]
def changed (st st':St):List Nat:=(List.range st.ob.length).filter λi=>(st.ob[i]?).map tagOf !=(st'.ob[i]?).map tagOf
def bpIds:T->List Nat
 |.bp id _=>[id]
 |_=>[]
def storeAt (o:Oper) (st:St):List Nat:=
 match o.op with
 |.store _ a _=>
  match st.ev a with
  |.bp id _=>[id]
  |.ep id _ _=>[id]
  |_=>[]
 |.call c=>c.args.toList.flatMap λx=>bpIds (st.ev x)
 |.load t a=>bif mvTy t then(match st.ev a with|.ep id _ _=>[id]|_=>[]) else[]
 |_=>[]
def turned (o:Oper) (st st':St):List Nat:=storeAt o st++changed st st'
def madeIn (st st':St):List Nat:=List.range' st.ob.length (st'.ob.length-st.ob.length)
def meets (a b:List Nat):Bool:=a.any λx=>b.contains x
structure Past where
 i:Nat
 tch:List Nat
 chg:List Nat
def ZaM (bs:Array Nat) (n i:Nat):Bool:=
 (List.range n).all λj=>if j<i then(bs.getD i 0).testBit j else if i<j then(bs.getD j 0).testBit i else true
def drawOk (ops:Array Oper):Bool:=
 let bs:=Region.before ops
 (List.range ops.size).all λj=>
  match ops[j]? with
  |none=>false
  |some oj=>
   (oj.after.all λe=>!Region.binds .any e||decide (e.on<j)) &&
   (match oj.op with|.select _ _=>false|_=>true) &&
   (List.range j).all λi=>
    match ops[i]? with
    |none=>false
    |some oi=>(bs.getD j 0).testBit i||(oi.apart ops oj&&oj.apart ops oi)
def pastOk (bs:Array Nat) (i:Nat) (tch chg:List Nat) (hs:List Past):Bool:=
 hs.all λh=>(bs.getD i 0).testBit h.i||!(meets h.tch chg||meets h.chg tch||meets h.chg chg)
def drawOp (P:Program) (E:Env) (n:Nat) (bs:Array Nat) (o:Oper) (i:Nat) (st:St) (hs:List Past) (kk:St->List Past->Option β):Option β:=
 bif ZaM bs n i then Z1 P E o st λst'=>kk st' []
 else Z1 P E o st λst'=>bif quietOp E o st st' then
  (bif pastOk bs i (Zbm o st++subOf st' o.dst) (turned o st st'++madeIn st st') hs then kk st' (⟨i,Zbm o st++subOf st' o.dst,turned o st st'++madeIn st st'⟩::hs) else none)
 else none
def ZbO (P:Program) (E:Env) (ops:Array Oper) (bs:Array Nat):List Oper->Nat->List Past->St->(St->Option β)->Option β
 |[],_,_,st,k=>k st
 |o::r,i,hs,st,k=>
  match o.guard with
  |none=>drawOp P E ops.size bs o i st hs λst' hs'=>ZbO P E ops bs r (i+1) hs' st' k
  |some (j,want)=>
   match(ops[j]?).bind (·.dst) with
   |none=>none
   |some d=>
    match st.tm.getD d .any with
    |.d f (.bool b)=>
     bif b then
      (bif want then drawOp P E ops.size bs o i (st.put (some d) (.d f (.bool true))) hs λst' hs'=>ZbO P E ops bs r (i+1) hs' st' k
       else ZbO P E ops bs r (i+1) hs ((st.put (some d) (.d f (.bool true))).put o.dst .undef) k)
     else
      (bif want then ZbO P E ops bs r (i+1) hs ((st.put (some d) (.d f (.bool false))).put o.dst .undef) k
       else drawOp P E ops.size bs o i (st.put (some d) (.d f (.bool false))) hs λst' hs'=>ZbO P E ops bs r (i+1) hs' st' k)
    |.undef=>ZbO P E ops bs r (i+1) hs (st.put o.dst .undef) k
    |_=>none
def orgOf:Obj->Option Nat
 |.box og _ _=>og
 |.row og _ _ _=>og
 |_=>none
inductive KA where
 |asis
 |row (fr:Bool) (ct:TypeId)
 |dat (fr:Bool)
 |flt (fr:Bool) (ct:TypeId)
structure Keep where
 slots:List (Nat×KA)
 cells:List (Nat×Nat×KA)
def Zcq (xs:List (List C)):List (List C):=xs.map λc=>c.map λx=>.d x.imm
def actT (ka:KA) (st:St) (t:T):Option (T×St):=
 match ka with
 |.asis=>some (t,st)
 |.row fr ct=>
  match t with
  |.nil=>some (.row st.ob.length,st.newOb (.row none fr ct []))
  |.row id=>
   match st.ob[id]? with
   |some (.row ro f z xs)=>some (.row id,st.setOb id (.row ro (f&&fr) z xs))
   |_=>none
  |_=>none
 |.dat fr=>
  match t with
  |.nil=>some (.d fr (.sl []),st)
  |.d f x=>some (.d (f&&fr) x,st)
  |.row id=>
   match st.ob[id]? with
   |some (.row _ f _ xs)=>some (.d (f&&fr) (.sl (C.immRows xs)),st.setOb id (.frz f (C.immRows xs)))
   |some (.frz f xs)=>some (.d (f&&fr) (.sl xs),st)
   |_=>none
  |_=>none
 |.flt fr ct=>
  match t with
  |.nil=>some (.row st.ob.length,st.newOb (.row none fr ct []))
  |.row id=>
   match st.ob[id]? with
   |some (.row ro f z xs)=>some (.row id,st.setOb id (.row ro (f&&fr) z (Zcq xs)))
   |_=>none
  |_=>none
def actSlots:List (Nat×KA)->St->Option St
 |[],st=>some st
 |(i,ka)::r,st=>
  match actT ka st (st.tm.getD i .any) with
  |some (t,st')=>actSlots r { st' with tm:=st'.tm.set i t }
  |none=>none
def actCells:List (Nat×Nat×KA)->St->Option St
 |[],st=>some st
 |(i,j,ka)::r,st=>
  match st.tm.getD i .any with
  |.bp id _=>
   match st.ob[id]? with
   |some (.box og t cs)=>
    match actT ka st (cs.getD j .any) with
    |some (x,st')=>actCells r (st'.setOb id (.box og t (cs.set j x)))
    |none=>none
   |_=>none
  |_=>none
mutual
def idsT:T->List Nat
 |.row id=>[id]
 |.bp id _=>[id]
 |.ep id _ _=>[id]
 |.sub id _ _=>[id]
 |.agg ts=>idsTs ts
 |.tup ts=>idsTs ts
 |.clo _ ts=>idsTs ts
 |_=>[]
def idsTs:List T->List Nat
 |[]=>[]
 |t::ts=>idsT t++idsTs ts
end
mutual
def renT (l:List Nat):T->Option T
 |.row id=>(l.idxOf? id).map .row
 |.bp id off=>(l.idxOf? id).map (.bp · off)
 |.ep id i off=>(l.idxOf? id).map (.ep · i off)
 |.sub id i off=>(l.idxOf? id).map (.sub · i off)
 |.agg ts=>(renTs l ts).map .agg
 |.tup ts=>(renTs l ts).map .tup
 |.clo f ts=>(renTs l ts).map (.clo f)
 |t=>some t
def renTs (l:List Nat):List T->Option (List T)
 |[]=>some []
 |t::ts=>
  match renT l t,renTs l ts with
  |some x,some xs=>some (x::xs)
  |_,_=>none
end
def renObj (l:List Nat):Obj->Option Obj
 |.box og t cs=>(renTs l cs).map (.box og t)
 |o=>some o
def idsObj:Option Obj->List Nat
 |some (.box _ _ cs)=>idsTs cs
 |_=>[]
def keepT (keep:List (Nat×KA)):Nat->List T->List T
 |_,[]=>[]
 |i,t::ts=>(bif keep.any (·.1==i) then t else .any)::keepT keep (i+1) ts
def mapObs (l:List Nat) (ob:List Obj):List Nat->Option (List Obj)
 |[]=>some []
 |id::r=>
  match ob[id]? with
  |some o=>
   match renObj l o,mapObs l ob r with
   |some x,some xs=>some (x::xs)
   |_,_=>none
  |none=>none
def forget (keep:Keep) (st:St):Option St:=
 let tm:=keepT keep.slots 0 st.tm
 let l1:=(((List.range st.ob.length).filter λi=>((st.ob[i]?).bind orgOf).isSome)++idsTs tm).eraseDups
 let l2:=(l1++l1.flatMap λid=>idsObj st.ob[id]?).eraseDups
 let l3:=(l2++l2.flatMap λid=>idsObj st.ob[id]?).eraseDups
 match renTs l3 tm,mapObs l3 st.ob l3 with
 |some tm',some ob'=>some ⟨tm',ob'⟩
 |_,_=>none
def canon (keep:Keep) (st:St):Option St:=
 match actSlots keep.slots st with
 |some st1=>
  match actCells keep.cells st1 with
  |some st2=>forget keep st2
  |none=>none
 |none=>none
def Za6:Code->Nat
 |.region id _ _=>id
 |.seq a _=>Za6 a
 |.block _ a=>Za6 a
 |.loop a=>Za6 a
 |.scope a=>Za6 a
 |_=>0
def seqK (J:Nat->Option Keep) (b:Code) (go:St->(Ex->St->Option β)->Option β) (K:Ex->St->Option β) (ex:Ex) (st':St):Option β:=
 match ex with
 |.normal=>
  match J (Za6 b) with
  |none=>go st' K
  |some keep=>
   match canon keep st' with
   |some s=>go s K
   |none=>none
 |e=>K e st'
def blockK (id:Nat) (K:Ex->St->Option β) (ex:Ex) (st':St):Option β:=
 match ex with
 |.exit i=>if i=id then K .normal st' else K (.exit i) st'
 |e=>K e st'
def backK (keep:Keep) (L:St->Option β) (K:Ex->St->Option β) (ex:Ex) (st':St):Option β:=
 match ex with
 |.normal=>
  match canon keep st' with
  |some s=>L s
  |none=>none
 |e=>K e st'
def ZcQ (b:St->(Ex->St->Option β)->Option β) (keep:Keep):Nat->St->(Ex->St->Option β)->Option β
 |0,_,_=>none
 |k+1,st,K=>b st (backK keep (λs=>ZcQ b keep k s K) K)
def atJ (J:Nat->Option Keep) (a:Code) (go:St->Option β) (st:St):Option β:=
 match J (Za6 a) with
 |none=>go st
 |some keep=>
  match canon keep st with
  |some s=>go s
  |none=>none
noncomputable def den (P:Program) (E:Env) (H:Nat->Keep) (J:Nat->Option Keep) (k:Nat):Code->St->(Ex->St->Option β)->Option β
 |.skip,st,K=>K .normal st
 |.region _ ops draw,st,K=>
  bif draw then
   (bif drawOk ops then ZbO P E ops (Region.before ops) ops.toList 0 [] st λst'=>K .normal st' else none)
  else Zcv P E ops ops.toList st λst'=>K .normal st'
 |.seq a b,st,K=>den P E H J k a st (seqK J b (λs K'=>den P E H J k b s K') K)
 |.cond c a b,st,K=>
  match st.ev c with
  |.ub=>both (atJ J a (λs=>den P E H J k a s K) st) (atJ J b (λs=>den P E H J k b s K) st)
  |x=>asBoolT x λt=>bif t then atJ J a (λs=>den P E H J k a s K) st else atJ J b (λs=>den P E H J k b s K) st
 |.block id a,st,K=>den P E H J k a st (blockK id K)
 |.loop a,st,K=>
  match canon (H (Za6 a)) st with
  |some s=>ZcQ (λs' K'=>den P E H J k a s' K') (H (Za6 a)) k s K
  |none=>none
 |.exit id,st,K=>K (.exit id) st
 |.ret,st,K=>K .ret st
 |_,_,_=>none
def ZbM (P:Program) (ow:Bool):St->Nat->List TypeId->List C->Option (List T×St)
 |st,j,_::cts,.d x::cs=>
  match ZbM P ow st (j+1) cts cs with
  |some (ts,st')=>some (.d ow x::ts,st')
  |none=>none
 |st,j,ct::cts,.own xs::cs=>
  match ZbM P ow (st.newOb (.row (some j) ow ct xs)) (j+1) cts cs with
  |some (ts,st')=>some (.row st.ob.length::ts,st')
  |none=>none
 |st,_,[],[]=>some ([],st)
 |_,_,_,_=>none
def Zai (P:Program) (ow:Bool):St->Nat->List TypeId->List A->Option (List T×St)
 |st,j,_::ts,.d x::as=>
  match Zai P ow st (j+1) ts as with
  |some (l,st')=>some (.d false x::l,st')
  |none=>none
 |st,j,_::ts,.agg xs::as=>
  match Zai P ow st (j+1) ts as with
  |some (l,st')=>some (.agg (xs.map (.d false))::l,st')
  |none=>none
 |st,j,_::ts,.nil::as=>
  match Zai P ow st (j+1) ts as with
  |some (l,st')=>some (.nil::l,st')
  |none=>none
 |st,j,_::ts,.ip xs::as=>
  match Zai P ow st (j+1) ts as with
  |some (l,st')=>some (.ip false xs::l,st')
  |none=>none
 |st,j,t::ts,.box cs::as=>
  match bornC P ow st (ZA P 6 (Zby P t)) cs with
  |some (l0,st1)=>
   match Zai P ow (st1.newOb (.box (some (1000*j)) (Zby P t) l0)) (j+1) ts as with
   |some (l,st')=>some (.bp st1.ob.length 0::l,st')
   |none=>none
  |none=>none
 |st,j,t::ts,.own g cs::as=>
  if cs.length<=1000/\(g=true\/ZA P 6 t=[t]) then
  match ZbM P ow st (1000*j) (ZA P 6 t) cs with
  |some (cells,st1)=>
   match Zai P ow st1 (j+1) ts as with
   |some (l,st')=>some ((bif g then .agg cells else cells.headD .any)::l,st')
   |none=>none
  |none=>none
  else none
 |st,_,[],[]=>some ([],st)
 |_,_,_,_=>none
def Za5:St->Nat->List TypeId->List C->Option (List C×St)
 |st,_,_,[]=>some ([],st)
 |st,j,_::cts,.d x::cs=>
  match Za5 st (j+1) cts cs with
  |some (l,st')=>some (.d x::l,st')
  |none=>none
 |st,j,ct::cts,.own _::cs=>
  match st.ob.findIdx? λo=>orgOf o==some j with
  |some id=>
   match st.ob[id]? with
   |some (.row _ _ rt xs)=>
    if rt=ct then
    match Za5 (st.setOb id .gone) (j+1) cts cs with
    |some (l,st')=>some (.own xs::l,st')
    |none=>none
    else none
   |_=>none
  |none=>none
 |_,_,_,_=>none
def Zcj (P:Program) (lo:Bool):St->Nat->List TypeId->List A->Option (List Out×St)
 |st,j,t::ts,.own _ cs::as=>
  match(bif lo then none else Za5 st (1000*j) (ZA P 6 t) cs) with
  |some (c,st1)=>
   match Zcj P lo st1 (j+1) ts as with
   |some (os,st'')=>some (.own c::os,st'')
   |none=>none
  |none=>
   match Zcj P lo st (j+1) ts as with
   |some (os,st'')=>some (.lost::os,st'')
   |none=>none
 |st,j,t::ts,.box cs::as=>
  match st.ob.findIdx? λo=>orgOf o==some (1000*j) with
  |some id=>
   match st.ob[id]? with
   |some (.box _ bt cells)=>
    if bt=Zby P t/\cells.length=cs.length then
     match Zbf (st.setOb id .gone) (ZA P 6 bt) cells with
     |some (c,st1)=>
      match Zcj P lo st1 (j+1) ts as with
      |some (os,st'')=>some (.box c::os,st'')
      |none=>none
     |none=>none
    else none
   |_=>none
  |none=>none
 |st,j,_::ts,_::as=>Zcj P lo st (j+1) ts as
 |st,_,_,[]=>some ([],st)
 |_,_,_,_=>none
def ZbV (st:St):List Bool->List T->Option (List T×St)
 |true::bs,t::ts=>
  match actT (.dat true) st t with
  |some (x,st')=>
   match ZbV st' bs ts with
   |some (xs,st'')=>some (x::xs,st'')
   |none=>none
  |none=>none
 |bs,t::ts=>
  match ZbV st bs.tail ts with
  |some (xs,st'')=>some (t::xs,st'')
  |none=>none
 |_,[]=>some ([],st)
def isAggT:T->Bool
 |.agg _=>true
 |_=>false
def resCells (P:Program) (st:St) (t:TypeId):ResultVar->Option (List T)
 |.tmp i=>if isAggT (st.tm.getD i .any)=Z4 P t/\(ZK (st.tm.getD i .any)).all Zbk=true then some (ZK (st.tm.getD i .any)) else none
 |.cell a t'=>
  match st.tm.getD a .any with
  |.bp id 0=>
   match st.ob[id]? with
   |some (.box _ _ cells)=>
    if t'=t/\(P.underlying t).isSome=true/\0<P.cellsOf t/\(Z4 P t=false->P.cellsOf t=1)/\cells.length=P.cellsOf t then some cells else none
   |_=>none
  |_=>none
def resBox (st:St):ResultVar->Option (List D×Nat)
 |.tmp i=>
  match st.tm.getD i .any with
  |.bp id 0=>
   match st.ob[id]? with
   |some (.box _ _ cells)=>(datTs cells).map λds=>(ds,id)
   |_=>none
  |_=>none
 |.cell _ _=>none
def resOf (P:Program) (st:St):List (List Bool)->List TypeId->List ResultVar->Option (Bool×List (List C)×St)
 |_,[],[]=>some (true,[],st)
 |ra,t::tys,r::rs=>
  bif Zb2 P t then
   match resBox st r with
   |some (ds,id)=>
    match resOf P (st.setOb id .gone) ra.tail tys rs with
    |some (_,cs,st'')=>some (false,ds.map .d::cs,st'')
    |none=>none
   |none=>none
  else
  match resCells P st t r with
  |some ts=>
   match ZbV st (ra.headD []) ts with
   |some (ts',st1)=>
    match cellsC st1 (ZA P 6 t) ts' with
    |some (f,c,st')=>
     match resOf P st' ra.tail tys rs with
     |some (g,cs,st'')=>some (f&&g,c::cs,st'')
     |none=>none
    |none=>none
   |none=>none
  |none=>none
 |_,_,_=>none
structure Hints where
 H:Nat->Keep
 J:Nat->Option Keep
 al:Bool
 ra:List (List Bool)
 ow:Bool:=false
 lo:Bool:=false
def freshOuts (st:St):Bool:=st.ob.all λo=>
 match o with
 |.row (some _) fr _ _=>fr
 |.box (some _) _ cs=>ZaG st cs
 |_=>true
def subRes:List ResultVar->St->(St->Option β)->Option β
 |[],st,k=>k st
 |.cell _ _::rs,st,k=>subRes rs st k
 |.tmp i::rs,st,k=>
  match st.tm.getD i .any with
  |.sub id r off=>subD st id r off λfr ys=>subRes rs { ZaL st (.row id) with tm:=(ZaL st (.row id)).tm.set i (.d fr (.sl ys)) } k
  |_=>subRes rs st k
def finDen (P:Program) (fn:Func) (h:Hints) (as:List A) (K:List (List C)->List Out->Option β):Ex->St->Option β
 |.exit _,_=>none
 |_,st=>subRes fn.results.toList st λst=>
  match resOf P st h.ra fn.resultTypes.toList fn.results.toList with
  |none=>none
  |some (f,rs,st')=>
   match Zcj P h.lo st' 0 (fn.params.toList++List.replicate fn.nfree 0) as with
   |some (os,_)=>bif h.al||(f&&(!h.ow||freshOuts st')) then K rs os else none
   |none=>none
noncomputable def funDen (P:Program) (E:Env) (h:Hints) (k:Nat) (fn:Func) (as:List A) (K:List (List C)->List Out->Option β):Option β:=
 match fn.body with
 |none=>none
 |some c=>
  match Zai P h.ow ⟨[],[]⟩ 0 (fn.params.toList++List.replicate fn.nfree 0) as with
  |none=>none
  |some (l,st)=>
   den P E h.H h.J k c ⟨l++List.replicate (fn.ntmps-l.length) .undef,st.ob⟩ (finDen P fn h as K)
def codeAt:List Nat->Code->Code
 |0::p,.seq a _=>codeAt p a
 |_::p,.seq _ b=>codeAt p b
 |0::p,.cond _ a _=>codeAt p a
 |_::p,.cond _ _ b=>codeAt p b
 |_::p,.block _ a=>codeAt p a
 |_::p,.loop a=>codeAt p a
 |_,c=>c
noncomputable def contAt (P:Program) (E:Env) (h:Hints) (k:Nat):List Nat->Code->(Ex->St->Option β)->Ex->St->Option β
 |0::p,.seq a b,K=>contAt P E h k p a (seqK h.J b (λs K'=>den P E h.H h.J k b s K') K)
 |_::p,.seq _ b,K=>contAt P E h k p b K
 |0::p,.cond _ a _,K=>contAt P E h k p a K
 |_::p,.cond _ _ b,K=>contAt P E h k p b K
 |_::p,.block id a,K=>contAt P E h k p a (blockK id K)
 |_,_,K=>K
def codeOf (fn:Func):Code:=fn.body.getD .skip
def Za1 {V:Type} (b:(V->Option β)->V->Option β):Nat->V->Option β
 |0,_=>none
 |k+1,v=>b (Za1 b k) v
theorem pair_eq {α γ:Type} {a a':α} {b b':γ} (h:a=a') (g:b=b'):(a,b)=(a',b'):=by rw[h,g]
theorem loop_eq {V:Type} {b:St->(Ex->St->Option β)->Option β} {keep:Keep} {K:Ex->St->Option β} (s:V->St) (lb:(V->Option β)->V->Option β)
  (h:∀ (L:St->Option β) (v:V),b (s v) (backK keep L K)=lb (λv=>L (s v)) v):∀ (k:Nat) (v:V),ZcQ b keep k (s v) K=Za1 lb k v
 |0,_=>rfl
 |k+1,v=>by
  have ih:(λv=>ZcQ b keep k (s v) K)=Za1 lb k:=funext λv=>loop_eq s lb h k v
  show b (s v) (backK keep (λs=>ZcQ b keep k s K) K)=lb (Za1 lb k) v;rw[h,ih]
end
end Go.T
namespace Go.T
mutual
def RdD (w:World) (I:Nat->Prop):D->Value->Prop
 |.bool b,v=>v=.bool b
 |.int k n,v=>v=.int k n
 |.str s,v=>v=.string s
 |.sl xs,v=>∃ a len cap,v=.slice a len cap/\len=xs.length/\len<=cap/\
   (xs=[]\/∃ b off c e fr sz,a=some ⟨b,off,none⟩/\I b/\w.heap[b]? = some (.cells c e fr)/\0<sz/\ZM w I c sz off xs)
 |.fn f caps,v=>∃ vs:List Value,v=.func (.func f) #[] vs.toArray/\Zaz w I caps vs
 |.un,v=>∃ a len cap,v=.slice a len cap
def Zt (w:World) (I:Nat->Prop) (c:Array Value):Nat->List D->Prop
 |_,[]=>True
 |p,d::ds=>(∃ v,c[p]? = some v/\RdD w I d v)/\Zt w I c (p+1) ds
def ZM (w:World) (I:Nat->Prop) (c:Array Value) (sz:Nat):Nat->List (List D)->Prop
 |_,[]=>True
 |p,x::xs=>(x.length=sz/\Zt w I c p x)/\ZM w I c sz (p+sz) xs
def Zaz (w:World) (I:Nat->Prop):List (List D)->List Value->Prop
 |[],vs=>vs=[]
 |x::xs,vs=>∃ b off c e fr vs',vs=.pointer (some ⟨b,off,none⟩)::vs'/\I b/\w.heap[b]? = some (.cells c e fr)/\Zt w I c off x/\Zaz w I xs vs'
end
mutual
def OwC (P:Program) (w:World) (I:Nat->Prop):C->TypeId->Value->List Nat->Prop
 |.d x,_,v,F=>F=[]/\RdD w I x v
 |.own xs,ct,v,F=>∃ a cap,v=.slice a xs.length cap/\
   ((xs=[]/\cap=0/\F=[])\/
    ∃ b o c e F',a=some ⟨b,o,none⟩/\(cutTy ct=false->o=0)/\F=b::F'/\w.heap[b]? = some (.cells c e (0,0))/\0<Zs P ct/\c.size=o+cap*Zs P ct/\xs.length<=cap/\
     Zj P w I c (ZX P ct) (Zs P ct) xs o F')
def Zf (P:Program) (w:World) (I:Nat->Prop) (c:Array Value):List C->List TypeId->Nat->List Nat->Prop
 |[],cts,_,F=>F=[]/\cts=[]
 |x::xs,cts,p,F=>∃ ct cts' v F1 F2,cts=ct::cts'/\F=F1++F2/\c[p]? = some v/\OwC P w I x ct v F1/\Zf P w I c xs cts' (p+1) F2
def Zj (P:Program) (w:World) (I:Nat->Prop) (c:Array Value) (cts:List TypeId) (sz:Nat):List (List C)->Nat->List Nat->Prop
 |[],_,F=>F=[]
 |x::xs,p,F=>∃ F1 F2,F=F1++F2/\Zf P w I c x cts p F1/\Zj P w I c cts sz xs (p+sz) F2
end
structure Keeps (w w':World) (I I':Nat->Prop):Prop where
 imp:∀ b,I b->I' b
 same:∀ b,I b->w'.heap[b]? = w.heap[b]?
theorem Keeps.refl (w:World) (I:Nat->Prop):Keeps w w I I:=⟨λ_ h=>h,λ_ _=>rfl⟩
mutual
theorem RdD.mono {w w':World} {I I':Nat->Prop} (h:Keeps w w' I I'):∀ {d:D} {v:Value},RdD w I d v->RdD w' I' d v
 |.bool _,_,r=>r
 |.int _ _,_,r=>r
 |.str _,_,r=>r
 |.sl xs,v,r=>by
  simp only[RdD] at r⊢;obtain⟨a,len,cap,hv,hl,hc,r⟩:=r;refine⟨a,len,cap,hv,hl,hc,?_⟩
  rcases r with r|⟨b,off,c,e,fr,sz,ha,hI,hb,hs,r⟩
  ·exact .inl r
  ·exact .inr ⟨b,off,c,e,fr,sz,ha,h.imp b hI,by rw[h.same b hI];exact hb,hs,ZM.mono h r⟩
 |.fn f caps,v,r=>by
  simp only[RdD] at r⊢;obtain⟨vs,hv,r⟩:=r;exact⟨vs,hv,Zaz.mono h r⟩
 |.un,v,r=>by simp only[RdD] at r⊢;exact r
theorem Zt.mono {w w':World} {I I':Nat->Prop} (h:Keeps w w' I I') {c:Array Value}:∀ {ds:List D} {p:Nat},Zt w I c p ds->Zt w' I' c p ds
 |[],_,_=>by simp only[Zt]
 |d::ds,p,r=>by
  simp only[Zt] at r⊢;obtain⟨⟨v,hv,r1⟩,r2⟩:=r;exact⟨⟨v,hv,RdD.mono h r1⟩,Zt.mono h r2⟩
theorem ZM.mono {w w':World} {I I':Nat->Prop} (h:Keeps w w' I I') {c:Array Value} {sz:Nat}:∀ {xs:List (List D)} {p:Nat},ZM w I c sz p xs->ZM w' I' c sz p xs
 |[],_,_=>by simp only[ZM]
 |x::xs,p,r=>by
  simp only[ZM] at r⊢;exact⟨⟨r.1.1,Zt.mono h r.1.2⟩,ZM.mono h r.2⟩
theorem Zaz.mono {w w':World} {I I':Nat->Prop} (h:Keeps w w' I I'):∀ {xs:List (List D)} {vs:List Value},Zaz w I xs vs->Zaz w' I' xs vs
 |[],_,r=>by simp only[Zaz] at r⊢;exact r
 |x::xs,vs,r=>by
  simp only[Zaz] at r⊢;obtain⟨b,off,c,e,fr,vs',hv,hI,hb,r1,r2⟩:=r;exact⟨b,off,c,e,fr,vs',hv,h.imp b hI,by rw[h.same b hI];exact hb,Zt.mono h r1,Zaz.mono h r2⟩
end
structure KeepsO (w w':World) (I I':Nat->Prop) (F:List Nat):Prop extends Keeps w w' I I' where
 own:∀ b,b∈F->w'.heap[b]? = w.heap[b]?
mutual
theorem OwC.mono {P:Program} {w w':World} {I I':Nat->Prop}:∀ {x:C} {ct:TypeId} {v:Value} {F:List Nat},KeepsO w w' I I' F->OwC P w I x ct v F->OwC P w' I' x ct v F
 |.d x,ct,v,F,h,r=>by
  simp only[OwC] at r⊢;exact⟨r.1,RdD.mono h.toKeeps r.2⟩
 |.own xs,ct,v,F,h,r=>by
  simp only[OwC] at r⊢;obtain⟨a,cap,hv,r⟩:=r;refine⟨a,cap,hv,?_⟩
  rcases r with r|⟨b,o,c,e,F',ha,ho,hF,hb,h0,hs,hl,r⟩
  ·exact .inl r
  ·subst hF;exact .inr ⟨b,o,c,e,F',ha,ho,rfl,by rw[h.own b Sp];exact hb,h0,hs,hl,Zj.mono ⟨h.toKeeps,λb hb=>h.own b (by simp[hb])⟩ r⟩
theorem Zf.mono {P:Program} {w w':World} {I I':Nat->Prop} {c:Array Value}:∀ {xs:List C} {cts:List TypeId} {p:Nat} {F:List Nat},KeepsO w w' I I' F->Zf P w I c xs cts p F->Zf P w' I' c xs cts p F
 |[],_,_,_,_,r=>by simp only[Zf] at r⊢;exact r
 |x::xs,cts,p,F,h,r=>by
  simp only[Zf] at r⊢;obtain⟨ct,cts',v,F1,F2,hc,hF,hv,r1,r2⟩:=r;subst hF;exact⟨ct,cts',v,F1,F2,hc,rfl,hv,OwC.mono ⟨h.toKeeps,λb hb=>h.own b (by simp[hb])⟩ r1,Zf.mono ⟨h.toKeeps,λb hb=>h.own b (by simp[hb])⟩ r2⟩
theorem Zj.mono {P:Program} {w w':World} {I I':Nat->Prop} {c:Array Value} {cts:List TypeId} {sz:Nat}:∀ {xs:List (List C)} {p:Nat} {F:List Nat},KeepsO w w' I I' F->Zj P w I c cts sz xs p F->Zj P w' I' c cts sz xs p F
 |[],_,_,_,r=>by simp only[Zj] at r⊢;exact r
 |x::xs,p,F,h,r=>by
  simp only[Zj] at r⊢;obtain⟨F1,F2,hF,r1,r2⟩:=r;subst hF;exact⟨F1,F2,rfl,Zf.mono ⟨h.toKeeps,λb hb=>h.own b (by simp[hb])⟩ r1,Zj.mono ⟨h.toKeeps,λb hb=>h.own b (by simp[hb])⟩ r2⟩
end
theorem Zf.length {P:Program} {w:World} {I:Nat->Prop} {c:Array Value}:∀ {xs:List C} {cts:List TypeId} {p:Nat} {F:List Nat},Zf P w I c xs cts p F->xs.length=cts.length
 |[],_,_,_,r=>by simp only[Zf] at r;simp[r.2]
 |x::xs,cts,p,F,r=>by
  simp only[Zf] at r;obtain⟨ct,cts',v,F1,F2,hc,hF,hv,r1,r2⟩:=r;subst hc;simp[Zf.length r2]
theorem C.immRows_length:∀ (xs:List (List C)),(C.immRows xs).length=xs.length
 |[]=>rfl
 |x::xs=>by simp[C.immRows,C.immRows_length xs]
theorem C.immCells_length:∀ (xs:List C),(C.immCells xs).length=xs.length
 |[]=>rfl
 |x::xs=>by simp[C.immCells,C.immCells_length xs]
mutual
theorem OwC.imm {P:Program} {w:World} {I J:Nat->Prop} (hJ:∀ b,I b->J b):∀ {x:C} {ct:TypeId} {v:Value} {F:List Nat},(∀ b,b∈F->J b)->(∀ ct:TypeId,Zs P ct≠0->(ZX P ct).length=Zs P ct)->OwC P w I x ct v F->RdD w J x.imm v
 |.d x,ct,v,F,hF,hT,r=>by
  simp only[OwC] at r;simp only[C.imm]
  exact RdD.mono ⟨hJ,λ_ _=>rfl⟩ r.2
 |.own xs,ct,v,F,hF,hT,r=>by
  simp only[OwC] at r;simp only[C.imm,RdD]
  obtain⟨a,cap,hv,r⟩:=r;rcases r with⟨rfl,h0,_⟩|⟨b,o,c,e,F',ha,_,rfl,hb,h0,hs,hl,r⟩
  ·exact⟨a,0,cap,by simpa using hv,by simp[C.immRows],by simp,.inl (by simp[C.immRows])⟩
  ·refine⟨a,xs.length,cap,hv,by simp[C.immRows_length],hl,.inr ⟨b,o,c,e,(0,0),Zs P ct,ha,hF b Sp,hb,h0,?_⟩⟩
   exact Zj.imm hJ (λb hb=>hF b (by simp[hb])) hT (hT ct Om) r
theorem Zf.imm {P:Program} {w:World} {I J:Nat->Prop} (hJ:∀ b,I b->J b) {c:Array Value}:∀ {xs:List C} {cts:List TypeId} {p:Nat} {F:List Nat},(∀ b,b∈F->J b)->(∀ ct:TypeId,Zs P ct≠0->(ZX P ct).length=Zs P ct)->Zf P w I c xs cts p F->Zt w J c p (C.immCells xs)
 |[],_,_,_,_,_,_=>by simp only[C.immCells,Zt]
 |x::xs,cts,p,F,hF,hT,r=>by
  simp only[Zf] at r;obtain⟨ct,cts',v,F1,F2,hc,rfl,hv,r1,r2⟩:=r;simp only[C.immCells,Zt]
  exact⟨⟨v,hv,OwC.imm hJ (λb hb=>hF b (by simp[hb])) hT r1⟩,Zf.imm hJ (λb hb=>hF b (by simp[hb])) hT r2⟩
theorem Zj.imm {P:Program} {w:World} {I J:Nat->Prop} (hJ:∀ b,I b->J b) {c:Array Value} {cts:List TypeId} {sz:Nat}:∀ {xs:List (List C)} {p:Nat} {F:List Nat},(∀ b,b∈F->J b)->(∀ ct:TypeId,Zs P ct≠0->(ZX P ct).length=Zs P ct)->cts.length=sz->Zj P w I c cts sz xs p F->ZM w J c sz p (C.immRows xs)
 |[],_,_,_,_,_,_=>by simp only[C.immRows,ZM]
 |x::xs,p,F,hF,hT,hs,r=>by
  simp only[Zj] at r;obtain⟨F1,F2,rfl,r1,r2⟩:=r;simp only[C.immRows,ZM]
  exact⟨⟨by rw[C.immCells_length,Zf.length r1,hs],Zf.imm hJ (λb hb=>hF b (by simp[hb])) hT r1⟩,Zj.imm hJ (λb hb=>hF b (by simp[hb])) hT hs r2⟩
end
end Go.T
