/- The evaluator on abstract data: what each operation,each piece of code and each call does. -/
import Derived.Test.YtlobhlnahhjpjaaGreatTDef
namespace Go.T
section
variable {β:Type}
def constT:Value->T
 |.bool b=>.d true (.bool b)
 |.int k n=>.d true (.int k n)
 |.string s=>.d true (.str s)
 |.slice none 0 0=>.nil
 |_=>.any
def St.ev (st:St):Operand->T
 |.tmp t=>st.tm.getD t .any
 |.const v=>constT v
 |.global _=>.any
 |.func f=>.clo f []
def Zah (P:Program) (t:TypeId):Option TypeId:=
 if t<P.types.size then
  match P.underlying t with
  |some (.slice e)=>some e
  |_=>none
 else none
def Zl (P:Program) (ct:TypeId):Nat:=
 match Zah P ct with
 |some e=>P.cellsOf e
 |_=>0
def ZQ (P:Program) (ct:TypeId):List TypeId:=
 match Zah P ct with
 |some e=>Zq P 6 e
 |_=>[]
def Zag:D->Bool
 |.bool _|.int _ _|.str _=>true
 |_=>false
def cellD (s:Bool) (st:St):T->Option (Bool×D)
 |.d fr x=>some (fr,x)
 |.nil=>some (true,.sl [])
 |.row id=>
  match st.ob[id]? with
  |some (.row _ fr _ xs)=>bif s then none else some (fr,.sl (C.immRows xs))
  |some (.frz fr xs)=>some (fr,.sl xs)
  |_=>none
 |_=>none
def ZbD (s:Bool) (st:St):List T->Option (Bool×List D)
 |[]=>some (true,[])
 |t::ts=>
  match cellD s st t,ZbD s st ts with
  |some (f,x),some (g,xs)=>some ((f||Zag x)&&g,x::xs)
  |_,_=>none
def capD (s:Bool) (st:St):T->Option (List D)
 |.bp id 0=>
  match st.ob[id]? with
  |some (.box _ _ cs)=>bif s then none else(ZbD s st cs).map (·.2)
  |some (.fbx _ cs)=>some cs
  |_=>none
 |.ip _ cs=>some cs
 |_=>none
def capsD (s:Bool) (st:St):List T->Option (List (List D))
 |[]=>some []
 |t::ts=>
  match capD s st t,capsD s st ts with
  |some x,some xs=>some (x::xs)
  |_,_=>none
def argD (s:Bool) (st:St):T->Option A
 |.agg ts=>(ZbD s st ts).map λr=>.agg r.2
 |.clo f caps=>(capsD s st caps).map λr=>.d (.fn f r)
 |.ip _ cs=>some (.ip cs)
 |t=>(cellD s st t).map λr=>.d r.2
def cellC (st:St) (ct:TypeId):T->Option (Bool×C×St)
 |.d fr x=>some (fr||Zag x,.d x,st)
 |.nil=>some (true,.own [],st)
 |.row id=>
  match st.ob[id]? with
  |some (.row _ fr rt xs)=>if rt=ct then some (fr,.own xs,st.setOb id .gone) else none
  |some (.frz fr xs)=>some (fr,.d (.sl xs),st)
  |_=>none
 |_=>none
def cellsC (st:St):List TypeId->List T->Option (Bool×List C×St)
 |[],[]=>some (true,[],st)
 |ct::cts,t::ts=>
  match cellC st ct t with
  |some (f,c,st')=>
   match cellsC st' cts ts with
   |some (g,cs,st'')=>some (f&&g,c::cs,st'')
   |none=>none
  |none=>none
 |_,_=>none
def Za8:T->Bool
 |.agg _|.tup _|.sub _ _ _|.undef|.ub|.any=>false
 |_=>true
def Zy:T->List T
 |.agg ts=>ts
 |t=>[t]
def bornC (P:Program) (fr:Bool):St->List TypeId->List C->Option (List T×St)
 |st,_::cts,.d x::cs=>
  match bornC P fr st cts cs with
  |some (ts,st')=>some (.d fr x::ts,st')
  |none=>none
 |st,ct::cts,.own xs::cs=>
  match bornC P fr (st.newOb (.row none fr ct xs)) cts cs with
  |some (ts,st')=>some (.row st.ob.length::ts,st')
  |none=>none
 |st,[],[]=>some ([],st)
 |_,_,_=>none
def wrapT (P:Program) (t:TypeId) (ts:List T):T:=if ZU P t then .agg ts else ts.headD .any
def asKindC (q:CK) (fr:Bool) (c:C) (k:T->Option β):Option β:=
 cD c λx=>asKind q x λy=>k (.d fr y)
def asCellsC (fr:Bool):List CK->List C->(List T->Option β)->Option β
 |[],_,k=>k []
 |q::qs,l,k=>ZaJ l λc r=>asKindC q fr c λt=>asCellsC fr qs r λts=>k (t::ts)
def subD (st:St) (id i off:Nat) (k:Bool->List (List D)->Option β):Option β:=
 match st.ob[id]? with
 |some (.row _ fr _ xs)=>ZaR xs i λc=>ZaJ (c.drop off) λx _=>dSl x.imm λys=>k fr ys
 |_=>none
def loadDen (P:Program) (st:St) (t:TypeId) (a:T) (k:T->Option β):Option β:=
 if(P.underlying t).isSome=true/\0<P.cellsOf t/\(Zq P 6 t).length=P.cellsOf t/\(ZU P t=false->P.cellsOf t=1) then
 match a with
 |.bp id off=>
  match st.ob[id]? with
  |some (.box _ _ cs)=>
   if ZU P t then
    (if off+P.cellsOf t<=cs.length then k (.agg ((cs.drop off).take (P.cellsOf t))) else none)
   else match cs[off]? with
    |some c=>k c
    |none=>none
  |some (.fbx fr cs)=>
   if ZU P t then
    (if off+P.cellsOf t<=cs.length then k (.agg (((cs.drop off).take (P.cellsOf t)).map (.d fr))) else none)
   else match cs[off]? with
    |some c=>k (.d fr c)
    |none=>none
  |_=>none
 |.ip fr cs=>
  if ZU P t then
   (if P.cellsOf t<=cs.length then k (.agg ((cs.take (P.cellsOf t)).map (.d fr))) else none)
  else match cs with
   |c::_=>k (.d fr c)
   |[]=>none
 |.ep id i off=>
  match st.ob[id]? with
  |some (.row _ fr rt xs)=>
   if Zam P t=.sl then(if(ZQ P rt)[off]? = some t/\(ZQ P rt).length=Zl P rt then k (.sub id i off) else none)
   else if(ZQ P rt).length=Zl P rt/\off+P.cellsOf t<=Zl P rt then
    ZaR xs i λc=>asCellsC fr (ZaM P t) (c.drop off) λts=>k (wrapT P t ts)
   else none
  |_=>none
 |_=>none
 else none
def ownCells:List CK->List C->(List C->Option β)->Option β
 |[],l,k=>atEnd l (k [])
 |.sl::qs,l,k=>ZaJ l λc r=>cOwn c λxs=>ownCells qs r λcs=>k (.own xs::cs)
 |q::qs,l,k=>ZaJ l λc r=>cD c λx=>asKind q x λy=>ownCells qs r λcs=>k (.d y::cs)
def takeDen (P:Program) (st:St) (t:TypeId) (id i off:Nat) (k:T->St->Option β):Option β:=
 match st.ob[id]? with
 |some (.row og fr rt xs)=>
  if off=0/\(P.underlying t).isSome=true/\0<P.cellsOf t/\ZU P t=true/\Zq P 6 t=ZQ P rt/\(ZQ P rt).length=Zl P rt/\P.cellsOf t=Zl P rt then
   ZaR xs i λc=>ownCells (ZaM P t) c λcs=>
    match bornC P fr (st.setOb id (.row og fr rt (xs.modify i λc=>c.map C.gone))) (ZQ P rt) cs with
    |some (ts,st')=>k (.agg ts) st'
    |none=>none
  else none
 |_=>none
def Zs {α:Type} (l:List α) (off:Nat) (new:List α):List α:=l.take off++new++l.drop (off+new.length)
def storeDen (P:Program) (st:St) (t:TypeId) (a x:T) (k:St->Option β):Option β:=
 if(Zy x).length=P.cellsOf t/\0<P.cellsOf t/\(Zy x).all Za8=true then
  match a with
  |.bp id off=>
   match st.ob[id]? with
   |some (.box bo bt cs)=>
    if off+(Zy x).length<=cs.length then k (st.setOb id (.box bo bt (Zs cs off (Zy x)))) else none
   |_=>none
  |.ep id i off=>
   match cellsC st (Zq P 6 t) (Zy x) with
   |some (f,new,st')=>
    match st'.ob[id]? with
    |some (.row ro fr rt xs)=>
     if off+new.length<=Zl P rt/\((ZQ P rt).drop off).take new.length=Zq P 6 t/\(ZQ P rt).length=Zl P rt then
      Zd (i<xs.length) (k (st'.setOb id (.row ro (fr&&f) rt (xs.modify i λc=>Zs c off new))))
     else none
    |_=>none
   |none=>none
  |_=>none
 else none
def Zae (a b:ByteArray):Bool:=a.toList==b.toList
def strLt (a b:ByteArray):Bool:=Op.bytesLess a.toList b.toList
def binInt (op:BinOp) (q:IntKind) (a b:Int) (k:D->Option β):Option β:=
 match op with
 |.add=>k (.int q (q.wrap (a+b)))
 |.sub=>k (.int q (q.wrap (a-b)))
 |.mul=>k (.int q (q.wrap (a*b)))
 |.quo=>Zd (b≠0) (k (.int q (q.wrap (a.tdiv b))))
 |.rem=>Zd (b≠0) (k (.int q (a.tmod b)))
 |.and=>k (.int q (q.wrap (BitVec.ofInt q.bits a &&& BitVec.ofInt q.bits b).toNat))
 |.or=>k (.int q (q.wrap (BitVec.ofInt q.bits a ||| BitVec.ofInt q.bits b).toNat))
 |.xor=>k (.int q (q.wrap (BitVec.ofInt q.bits a ^^^ BitVec.ofInt q.bits b).toNat))
 |.andNot=>k (.int q (q.wrap (BitVec.ofInt q.bits a &&& ~~~BitVec.ofInt q.bits b).toNat))
 |.eql=>k (.bool (a==b))
 |.neq=>k (.bool (a !=b))
 |.lss=>k (.bool (decide (a<b)))
 |.leq=>k (.bool (decide (a<=b)))
 |.gtr=>k (.bool (decide (a>b)))
 |.geq=>k (.bool (decide (a>=b)))
 |_=>none
def binStr (op:BinOp) (a b:ByteArray) (k:D->Option β):Option β:=
 match op with
 |.add=>Zd (((a.size+b.size:Nat):Int)<=9223372036854775807) (k (.str (a++b)))
 |.eql=>k (.bool (Zae a b))
 |.neq=>k (.bool !(Zae a b))
 |.lss=>k (.bool (strLt a b))
 |.leq=>k (.bool (strLt a b||Zae a b))
 |.gtr=>k (.bool !(strLt a b||Zae a b))
 |.geq=>k (.bool !(strLt a b))
 |_=>none
def twoInts (P:Program) (t:TypeId) (q1 q2:IntKind):Bool:=
 !P.stoodInHeld t&&!P.eqGuardType P.depth t&&(match P.underlying t with
 |some (.struct fs)=>match fs.toList with
  | [f1, f2] => (f1.name != "_") && (f2.name != "_") && decide (f1.offset = 0 ∧ f2.offset = 1 ∧ Zam P f1.type = .int q1 ∧ Zam P f2.type = .int q2)
  |_=>false
 |_=>false)
def binDen (P:Program) (op:BinOp) (t:TypeId) (x y:T) (k:T->Option β):Option β:=
 match x,y with
 |.agg [.d _ (.int q1 a1),.d _ (.int q2 a2)],.agg [.d _ (.int q1' b1),.d _ (.int q2' b2)]=>
  if twoInts P t q1 q2=true/\q1'=q1/\q2'=q2 then
   match op with
   |.eql=>k (.d true (.bool (a1==b1&&a2==b2)))
   |.neq=>k (.d true (.bool !(a1==b1&&a2==b2)))
   |_=>none
  else none
 |.d _ (.int q a),.d _ (.int q' b)=>
  match op with
  |.shl=>Zd (0<=b) (k (.d true (.int q (q.wrap (a*2^(min b.toNat q.bits))))))
  |.shr=>Zd (0<=b) (k (.d true (.int q (a.fdiv (2^(min b.toNat q.bits))))))
  |_=>if q=q' then binInt op q a b λd=>k (.d true d) else none
 |.d _ (.str a),.d _ (.str b)=>binStr op a b λd=>k (.d true d)
 |.d _ (.bool a),.d _ (.bool b)=>
  if Zam P t=.bool then
   match op with
   |.eql=>k (.d true (.bool (a==b)))
   |.neq=>k (.d true (.bool !(a==b)))
   |_=>none
  else none
 |_,_=>none
noncomputable def both (a b:Option β):Option β:=
 letI:=Classical.propDecidable (a=b)
 if a=b then a else none
def nilSl (xs:List (List D)) (a b:Option β):Option β:=
 match xs with
 |[]=>a
 |_::_=>b
def cmpDen (P:Program) (op:BinOp) (t:TypeId) (y:Operand) (x z:T) (k:T->Option β):Option β:=
 match y,x with
 |.const (.slice none 0 0),.d _ (.sl xs)=>
  if Zam P t=.sl then
   match op with
   |.eql=>nilSl xs (k .ub) (k (.d true (.bool false)))
   |.neq=>nilSl xs (k .ub) (k (.d true (.bool true)))
   |_=>none
  else none
 |_,_=>binDen P op t x z k
def unDen (op:UnOp) (x:T) (k:T->Option β):Option β:=
 match op,x with
 |.neg,.d _ (.int q n)=>k (.d true (.int q (q.wrap (0-n))))
 |.not,.d _ (.bool b)=>k (.d true (.bool !b))
 |_,_=>none
def bytesOf:List (List D)->(List UInt8->Option β)->Option β
 |[],k=>k []
 |x::xs,k=>ZaJ x λd r=>atEnd r (dInt .u8 d λn=>bytesOf xs λbs=>k (UInt8.ofNat n.toNat::bs))
def convDen (P:Program) (st:St) (src dst:TypeId) (x:T) (k:T->Option β):Option β:=
 match Zam P src,Zam P dst,x with
 |.int _,.int q,.d _ (.int _ n)=>k (.d true (.int q (q.wrap n)))
 |.int _,.str,.d _ (.int _ n)=>k (.d true (.str (Utf8.encode n)))
 |.str,.str,.d _ (.str s)=>k (.d true (.str s))
 |.sl,.str,x=>
  match P.underlying src with
  |some (.slice e)=>
   if Zam P e=.int .u8 then
    match cellD false st x with
    |some (_,.sl xs)=>bytesOf xs λbs=>k (.d true (.str ⟨bs.toArray⟩))
    |_=>none
   else none
  |_=>none
 |_,_,_=>none
def asIntT (x:T) (k:Int->Option β):Option β:=
 match x with
 |.d _ (.int _ n)=>k n
 |_=>none
def asBoolT (x:T) (k:Bool->Option β):Option β:=
 match x with
 |.d _ (.bool b)=>k b
 |_=>none
def indexAddrDen (P:Program) (st:St) (t:TypeId) (x i:T) (k:T->Option β):Option β:=
 match Zah P t with
 |none=>none
 |some e=>
  if 0<P.cellsOf e/\(Zq P 6 e).length=P.cellsOf e then
  asIntT i λn=>
   match x with
   |.d fr (.sl xs)=>atRow xs n λc=>asCells (ZaM P e) c λds=>k (.ip fr ds)
   |.row id=>
    match st.ob[id]? with
    |some (.row _ _ rt xs)=>if Zl P rt=P.cellsOf e then Zd (0<=n/\n<xs.length) (k (.ep id n.toNat 0)) else none
    |some (.frz fr xs)=>atRow xs n λc=>asCells (ZaM P e) c λds=>k (.ip fr ds)
    |_=>none
   |_=>none
  else none
def indexDen (P:Program) (t:TypeId) (x i:T) (k:T->Option β):Option β:=
 match x with
 |.d _ (.str s)=>
  if Zam P t=.str then
   asIntT i λn=>atStr s n λb=>k (.d true (.int .u8 b))
  else none
 |_=>none
def ZbL (x:Option T) (dflt:Int) (k:Int->Option β):Option β:=
 match x with
 |some t=>asIntT t k
 |none=>k dflt
def Zbk (sz:Nat) (xs:List (List D)):Prop:=∀ x∈xs,x.length=sz
instance (sz:Nat) (xs:List (List D)):Decidable (Zbk sz xs):=inferInstanceAs (Decidable (∀ x∈xs,x.length=sz))
def Zcg (sz:Nat) (xs:List (List D)):Prop:=∀ x∈xs,x.length=sz/\∀ d∈x,Zag d=true
instance (sz:Nat) (xs:List (List D)):Decidable (Zcg sz xs):=inferInstanceAs (Decidable (∀ x∈xs,x.length=sz/\∀ d∈x,Zag d=true))
def flatB (P:Program) (e:TypeId):Bool:=
 (ZaM P e).all λq=>
  match q with
  |.sl|.other=>false
  |_=>true
def sliceDen (P:Program) (st:St) (t:TypeId) (x:T) (lo hi mx:Option T) (k:T->St->Option β):Option β:=
 match mx with
 |some m=>
  if Zam P t=.sl/\Zl P t≠0 then
   match lo,hi,m,x with
   |none,some (.d _ (.int _ h)),.d _ (.int _ m'),.d _ (.sl _)=>if h=0/\m'=0 then k .nil st else none
   |none,some (.d _ (.int _ h)),.d _ (.int _ m'),.nil=>if h=0/\m'=0 then k .nil st else none
   |none,some (.d _ (.int _ h)),.d _ (.int _ m'),.row id=>
    match st.ob[id]? with
    |some (.row _ _ _ _)=>if h=0/\m'=0 then k .nil st else none
    |some (.frz _ _)=>if h=0/\m'=0 then k .nil st else none
    |_=>none
   |_,_,_,_=>none
  else none
 |none=>
  match Zam P t,x with
  |.str,.d _ (.str s)=>
   ZbL lo 0 λl=>ZbL hi s.size λh=>
    Zd (0<=l/\l<=h/\h<=s.size) (k (.d true (.str (s.extract l.toNat h.toNat))) st)
  |.sl,.d fr (.sl xs)=>
   if Zl P t=0 then none else
   ZbL lo 0 λl=>ZbL hi xs.length λh=>
    Zd (0<=l/\l<=h/\h<=xs.length/\Zbk (Zl P t) xs) (k (.d fr (.sl ((xs.drop l.toNat).take (h.toNat-l.toNat)))) st)
  |.sl,.nil=>
   if Zl P t=0 then none else ZbL lo 0 λl=>ZbL hi 0 λh=>Zd (0<=l/\l<=h/\h<=0) (k .nil st)
  |.sl,.row id=>
   match st.ob[id]? with
   |some (.row _ fr rt xs)=>
    if rt≠t\/Zl P t=0 then none else
    match lo with
    |none=>ZbL hi xs.length λh=>
     Zd (0<=h/\h<=xs.length) (k (.row st.ob.length) ((st.setOb id .gone).newOb (.row none fr rt (xs.take h.toNat))))
    |some _=>
    if cutTy rt=true/\hi.isNone=true then
     ZbL lo 0 λl=>
      Zd (0<=l/\l<=xs.length) (k (.row st.ob.length) ((st.setOb id .gone).newOb (.row none fr rt (xs.drop l.toNat))))
    else
    ZbL lo 0 λl=>ZbL hi xs.length λh=>
     Zd (0<=l/\l<=h/\h<=xs.length)
      (k (.d fr (.sl (((C.immRows xs).drop l.toNat).take (h.toNat-l.toNat)))) (st.setOb id (.frz fr (C.immRows xs))))
   |some (.frz fr xs)=>
    if Zl P t=0 then none else
    ZbL lo 0 λl=>ZbL hi xs.length λh=>
     Zd (0<=l/\l<=h/\h<=xs.length/\Zbk (Zl P t) xs) (k (.d fr (.sl ((xs.drop l.toNat).take (h.toNat-l.toNat)))) st)
   |_=>none
  |_,_=>none
def lenDen (P:Program) (st:St) (t:TypeId) (x:T) (k:T->Option β):Option β:=
 match Zam P t,x with
 |.str,.d _ (.str s)=>k (.d true (.int .i64 s.size))
 |.sl,.d _ (.sl xs)=>k (.d true (.int .i64 xs.length))
 |.sl,.nil=>k (.d true (.int .i64 0))
 |.sl,.row id=>
  match st.ob[id]? with
  |some (.row _ _ _ xs)=>k (.d true (.int .i64 xs.length))
  |some (.frz _ xs)=>k (.d true (.int .i64 xs.length))
  |_=>none
 |.sl,.sub id i off=>subD st id i off λ_ xs=>k (.d true (.int .i64 xs.length))
 |_,_=>none
def Z8:Nat:=68719476736
def isZeroV:CK->Value->Bool
 |.int k,.int k' n=>decide (k'=k)&&n==0
 |.bool,.bool b=>!b
 |.str,.string s=>s.size==0
 |.sl,.slice none 0 0=>true
 |_,_=>false
def Zcs:List CK->List Value->Bool
 |[],[]=>true
 |q::qs,v::vs=>isZeroV q v&&Zcs qs vs
 |_,_=>false
def zeroOk (P:Program) (t:TypeId):Bool:=
 match(P.info? t).bind (·.zero) with
 |some z=>Zcs (ZaM P t) z.cells.toList
 |none=>false
def zeroCells (P:Program) (t:TypeId):Option (List T):=
 if zeroOk P t=true then some ((ZaM P t).map zeroT) else none
def zeroCellsC (P:Program) (t:TypeId):Option (List C):=
 if zeroOk P t=true then some ((ZaM P t).filterMap zeroC) else none
def appSrc (P:Program) (st:St) (t1 e t2:TypeId) (x:T) (k:Bool->List (List C)->St->Option β):Option β:=
 match Zam P t2,x with
 |.sl,.d fr (.sl ys)=>bif !fr&&flatB P e then Zd (Zcg (P.cellsOf e) ys) (k true (ys.map (·.map .d)) st) else Zd (Zbk (P.cellsOf e) ys) (k fr (ys.map (·.map .d)) st)
 |.sl,.nil=>k true [] st
 |.sl,.row id=>
  match st.ob[id]? with
  |some (.row _ fr rt ys)=>if rt=t1 then k fr ys (st.setOb id .gone) else none
  |some (.frz fr ys)=>bif !fr&&flatB P e then Zd (Zcg (P.cellsOf e) ys) (k true (ys.map (·.map .d)) st) else Zd (Zbk (P.cellsOf e) ys) (k fr (ys.map (·.map .d)) st)
  |_=>none
 |.sl,.sub id i off=>if flatB P e=true then subD st id i off λ_ ys=>Zd (Zcg (P.cellsOf e) ys) (k true (ys.map (·.map .d)) st) else none
 |.str,.d _ (.str s)=>k true (s.data.toList.map λb=>[.d (.int .u8 b.toNat)]) st
 |.int _,.d _ (.int _ n)=>
  match zeroCellsC P e with
  |some z=>Zd (0<=n/\n<=Z8) (k true (List.replicate n.toNat z) st)
  |none=>none
 |_,_=>none
def appendDen (P:Program) (st:St) (t1 t2:TypeId) (s x:T) (k:T->St->Option β):Option β:=
 match Zah P t1 with
 |none=>none
 |some e=>
  if 0<P.cellsOf e/\P.bytesOf e<=1000/\(Zam P t2=.sl->(Zah P t2).map P.cellsOf=some (P.cellsOf e))/\(Zam P t2=.str->P.cellsOf e=1)/\zeroOk P e=true then
   appSrc P st t1 e t2 x λf ys st'=>
    match s with
    |.nil=>Zd (ys.length<=Z8) (k (.row st'.ob.length) (st'.newOb (.row none f t1 ys)))
    |.row id=>
     match st'.ob[id]? with
     |some (.row _ fr rt xs)=>
      if rt=t1 then
       Zd (xs.length+ys.length<=Z8)
        (k (.row st'.ob.length) ((st'.setOb id .gone).newOb (.row none (fr&&f) t1 (xs++ys))))
      else none
     |_=>none
    |_=>none
  else none
def makeDen (P:Program) (st:St) (t:TypeId) (l c:T) (k:T->St->Option β):Option β:=
 match Zah P t with
 |none=>none
 |some e=>
  if 0<P.cellsOf e/\P.bytesOf e<=1000 then
   match zeroCellsC P e with
   |none=>none
   |some z=>asIntT l λn=>asIntT c λm=>
     Zd (0<=n/\n<=Z8/\m<=n/\n<=m) (k (.row st.ob.length) (st.newOb (.row none true t (List.replicate n.toNat z))))
  else none
def fillT (fs:List (Nat×Nat×Bool)):List T->List (Nat×T)->Option (List T)
 |cs,[]=>some cs
 |cs,(i,x)::r=>
  match fs[i]? with
  |some (off,n,_)=>if(Zy x).length=n/\(Zy x).all Za8=true/\off+n<=cs.length then fillT fs (Zs cs off (Zy x)) r else none
  |none=>none
def Za5 (P:Program) (t:TypeId):Option (List (Nat×Nat×Bool)):=
 match P.underlying t with
 |some (.struct fs)=>if(fs.toList.all λf=>(P.underlying f.type).isSome)=true then some (fs.toList.map λf=>(f.offset,P.cellsOf f.type,ZU P f.type)) else none
 |_=>none
def litRows (cts:List TypeId):St->Nat->List (Nat×T)->Option (Bool×List (List C)×St)
 |st,_,[]=>some (true,[],st)
 |st,j,(i,x)::r=>
  if i=j then
   match cellsC st cts (Zy x) with
   |some (f,c,st')=>
    match litRows cts st' (j+1) r with
    |some (g,cs,st'')=>some (f&&g,c::cs,st'')
    |none=>none
   |none=>none
  else none
def Zj.wide (e:Zj):Bool:=e.al||e.ow||e.modes.any λm=>m.1==.box||m.1==.own
def Za2 (st:St):List TypeId->List T->Option (List C×St)
 |[],[]=>some ([],st)
 |ct::cts,t::ts=>
  match t with
  |.row id=>
   match st.ob[id]? with
   |some (.row _ _ rt xs)=>
    if rt=ct then
     match Za2 (st.setOb id .gone) cts ts with
     |some (cs,st')=>some (.own xs::cs,st')
     |none=>none
    else none
   |_=>none
  |.nil=>
   match Za2 st cts ts with
   |some (cs,st')=>some (.own []::cs,st')
   |none=>none
  |.d _ x=>
   match Za2 st cts ts with
   |some (cs,st')=>some (.d x::cs,st')
   |none=>none
  |_=>none
 |_,_=>none
def datTs:List T->Option (List D)
 |[]=>some []
 |.d _ x::ts=>
  match datTs ts with
  |some ds=>some (x::ds)
  |none=>none
 |_=>none
def datCs:List C->Option (List D)
 |[]=>some []
 |.d x::cs=>
  match datCs cs with
  |some ds=>some (x::ds)
  |none=>none
 |_=>none
def ZaY (P:Program) (s:Bool):St->List (Mode×TypeId)->List T->(List A->St->Option β)->Option β
 |st,[],[],k=>k [] st
 |st,(.imm,_)::ms,t::ts,k=>
  match t with
  |.sub id i off=>bif s then none else subD st id i off λ_ ys=>ZaY P s st ms ts λas st'=>k (.d (.sl ys)::as) st'
  |t=>
   match argD s st t with
   |some a=>ZaY P s st ms ts λas st'=>k (a::as) st'
   |none=>none
 |st,(.nil,_)::ms,.nil::ts,k=>ZaY P s st ms ts λas st'=>k (.nil::as) st'
 |st,(.own,ct)::ms,.row id::ts,k=>
  match st.ob[id]? with
  |some (.row _ _ rt xs)=>if rt=ct then ZaY P s (st.setOb id .gone) ms ts λas st'=>k (.own false [.own xs]::as) st' else none
  |_=>none
 |st,(.own,ct)::ms,.agg cs::ts,k=>
  match Za2 st (Zq P 6 ct) cs with
  |some (c,st')=>ZaY P s st' ms ts λas st''=>k (.own true c::as) st''
  |none=>none
 |st,(.own,ct)::ms,.sub id i off::ts,k=>
  match st.ob[id]? with
  |some (.row _ _ rt xs)=>
   if(ZQ P rt)[off]? = some ct then
    ZaR xs i λc=>ZaJ (c.drop off) λx _=>cOwn x λys=>
     ZaY P s (st.setOb id .gone) ms ts λas st'=>k (.own false [.own ys]::as) st'
   else none
  |_=>none
 |st,(.box,pt)::ms,.bp id off::ts,k=>
  match st.ob[id]? with
  |some (.box _ bt cs)=>
   if bt=pt/\off=0 then
    match Za2 (st.setOb id .gone) (Zq P 6 pt) cs with
    |some (c,st1)=>ZaY P s st1 ms ts λas st'=>k (.box c::as) st'
    |none=>none
   else none
  |_=>none
 |_,_,_,_=>none
def Zbw (st:St):T->St
 |.row id=>
  match st.ob[id]? with
  |some (.row _ fr _ xs)=>st.setOb id (.frz fr (C.immRows xs))
  |_=>st
 |_=>st
def Zbv (st:St) (ts:List T):St:=ts.foldl Zbw st
def freezeCap (st:St):T->St
 |.bp id _=>
  match st.ob[id]? with
  |some (.box _ _ cs)=>
   match ZbD true (Zbv st cs) cs with
   |some (f,ds)=>(Zbv st cs).setOb id (.fbx f ds)
   |none=>st
  |_=>st
 |_=>st
def freezeT (st:St):T->St
 |.agg ts=>Zbv st ts
 |.clo _ caps=>caps.foldl freezeCap st
 |.sub id _ _=>Zbw st (.row id)
 |t=>Zbw st t
def Zbx:St->List (Mode×TypeId)->List T->St
 |st,(.imm,_)::ms,t::ts=>Zbx (freezeT st t) ms ts
 |st,_::ms,_::ts=>Zbx st ms ts
 |st,_,_=>st
def ZP (old:St):St->List T->List C->(St->Option β)->Option β
 |st,[],[],k=>k st
 |st,t::ts,c::cs,k=>
  match t with
  |.row id=>
   match old.ob[id]? with
   |some (.row og _ rt ys)=>
    cOwn c λxs=>Zd (xs.length=ys.length) (ZP old (st.setOb id (.row og false rt xs)) ts cs k)
   |_=>none
  |_=>ZP old st ts cs k
 |_,_,_,_=>none
def Zas (st:St):List T->Bool
 |[]=>true
 |t::ts=>
  match t with
  |.d fr x=>(fr||Zag x)&&Zas st ts
  |.nil=>Zas st ts
  |.row id=>
   match st.ob[id]? with
   |some (.row _ fr _ _)=>fr&&Zas st ts
   |_=>false
  |_=>false
def ZV (old:St):List (Mode×TypeId)->List T->Bool
 |(.own,_)::ms,t::ts=>
  match t with
  |.row id=>
   match old.ob[id]? with
   |some (.row _ fr _ _)=>fr&&ZV old ms ts
   |_=>false
  |.agg cs=>Zas old cs&&ZV old ms ts
  |_=>false
 |(.box,_)::ms,t::ts=>
  match t with
  |.bp id _=>
   match old.ob[id]? with
   |some (.box _ _ cs)=>Zas old cs&&ZV old ms ts
   |_=>false
  |_=>false
 |_::ms,_::ts=>ZV old ms ts
 |_,_=>true
def lentFr (old:St):List (Mode×TypeId)->List T->Bool
 |(.own,_)::ms,t::ts=>
  match t with
  |.row id=>
   match old.ob[id]? with
   |some (.row _ fr _ _)=>fr&&lentFr old ms ts
   |_=>false
  |_=>false
 |(.box,_)::_,_::_=>false
 |_::ms,_::ts=>lentFr old ms ts
 |_,_=>true
def flatTy (P:Program) (rt:TypeId):Bool:=
 (ZQ P rt).all λt=>
  match Zam P t with
  |.sl|.other=>false
  |_=>true
def scalC:C->Bool
 |.d x=>Zag x
 |.own _=>false
def flatC (xs:List (List C)):Bool:=xs.all (·.all scalC)
def goneAll:List Nat->St->St
 |[],st=>st
 |id::r,st=>goneAll r (st.setOb id .gone)
def rowIds:List T->List Nat
 |[]=>[]
 |t::ts=>
  match t with
  |.row id=>id::rowIds ts
  |_=>rowIds ts
def Zr (P:Program) (fo fa:Bool):St->St->List (Mode×TypeId)->List T->List Out->(St->Option β)->Option β
 |old,st,(.imm,_)::ms,_::ts,os,k=>Zr P fo fa old st ms ts os k
 |old,st,(.nil,_)::ms,_::ts,os,k=>Zr P fo fa old st ms ts os k
 |old,st,(.own,_)::ms,.row id::ts,.lost::os,k=>Zr P fo fa old (st.setOb id .gone) ms ts os k
 |old,st,(.box,_)::ms,.bp id _::ts,.box cs::os,k=>
  match old.ob[id]? with
  |some (.box og bt ys)=>
   match bornC P fo st (Zq P 6 bt) cs with
   |some (l,st1)=>Zd (cs.length=ys.length) (Zr P fo fa old (goneAll (rowIds ys) (st1.setOb id (.box og bt l))) ms ts os k)
   |none=>none
  |_=>none
 |old,st,(.own,_)::ms,.row id::ts,.own [c]::os,k=>
  match old.ob[id]? with
  |some (.row og _ rt ys)=>cOwn c λxs=>
   bif fo then Zd (xs.length=ys.length) (Zr P fo fa old (st.setOb id (.row og true rt xs)) ms ts os k)
   else bif fa&&flatTy P rt then Zd (xs.length=ys.length/\flatC xs=true) (Zr P fo fa old (st.setOb id (.row og true rt xs)) ms ts os k)
   else Zd (xs.length=ys.length) (Zr P fo fa old (st.setOb id (.row og false rt xs)) ms ts os k)
  |_=>none
 |old,st,(.own,_)::ms,.agg ts'::ts,.lost::os,k=>Zr P fo fa old (goneAll (rowIds ts') st) ms ts os k
 |old,st,(.own,_)::ms,.agg ts'::ts,.own cs::os,k=>ZP old st ts' cs λst'=>Zr P fo fa old st' ms ts os k
 |old,st,(.own,_)::ms,.sub id i off::ts,.own [c]::os,k=>
  match old.ob[id]? with
  |some (.row og _ rt xs)=>Zr P fo fa old (st.setOb id (.row og false rt (xs.modify i λr=>r.set off c))) ms ts os k
  |_=>none
 |_,st,[],[],[],k=>k st
 |_,_,_,_,_,_=>none
def Zb5 (P:Program) (t:TypeId):Bool:=
 match P.underlying t with
 |some (.pointer _)=>true
 |_=>false
def Zbn (P:Program) (t:TypeId):TypeId:=
 match P.underlying t with
 |some (.pointer e)=>e
 |_=>0
def ZaX (P:Program) (fr:Bool):St->List TypeId->List (List C)->Option (List T×St)
 |st,t::ts,c::cs=>
  bif Zb5 P t then
   match datCs c with
   |some ds=>
    match ZaX P fr (st.newOb (.box none (Zbn P t) (ds.map (.d fr)))) ts cs with
    |some (rs,st'')=>some (.bp st.ob.length 0::rs,st'')
    |none=>none
   |none=>none
  else
  match bornC P fr st (Zq P 6 t) c with
  |some (r,st')=>
   match ZaX P fr st' ts cs with
   |some (rs,st'')=>some (wrapT P t r::rs,st'')
   |none=>none
  |none=>none
 |st,[],[]=>some ([],st)
 |_,_,_=>none
def resTypes (P:Program) (t:TypeId):List TypeId:=
 match P.underlying t with
 |some (.tuple ts)=>ts.toList
 |_=>[t]
def isTupB (P:Program) (t:TypeId):Bool:=
 match P.underlying t with
 |some (.tuple _)=>true
 |_=>false
def resT (P:Program) (t:TypeId) (ts:List T):T:=
 match P.underlying t with
 |some (.tuple _)=>.tup ts
 |_=>ts.headD .any
def callDen (P:Program) (E:Env) (st:St) (t:TypeId) (f:FuncId) (ts:List T) (k:T->St->Option β):Option β:=
 match E f with
 |none=>none
 |some e=>
  let st0:=bif e.wide then Zbx st e.modes ts else st
  if resTypes P t=e.rts/\isTupB P t=(e.rts.length !=1)/\(e.ow=true->ZV st0 e.modes ts=true) then
  ZaY P e.wide st0 e.modes ts λas st1=>
   e.run as λrs os=>
    match ZaX P (!e.al) st1 e.rts rs with
    |none=>none
    |some (r,st2)=>
     Zr P (!e.al&&e.ow) (lentFr st0 e.modes ts) st0 st2 e.modes ts os λst3=>k (resT P t r) st3
  else none
def libMv:List Bool->List T->List Nat
 |true::bs,.row id::ts=>id::libMv bs ts
 |_::bs,_::ts=>libMv bs ts
 |_,_=>[]
def Zaf (ct:TypeId) (s0 st1:St):List Bool->List T->Option (List A)
 |[],[]=>some []
 |true::bs,.row id::ts=>
  match s0.ob[id]? with
  |some (.row _ _ rt xs)=>
   if rt=ct then
    match Zaf ct s0 st1 bs ts with
    |some as=>some (.own false [.own xs]::as)
    |none=>none
   else none
  |_=>none
 |true::bs,.nil::ts=>
  match Zaf ct s0 st1 bs ts with
  |some as=>some (.own false [.own []]::as)
  |none=>none
 |false::bs,t::ts=>
  match argD false st1 t with
  |some a=>
   match Zaf ct s0 st1 bs ts with
   |some as=>some (a::as)
   |none=>none
  |none=>none
 |_,_=>none
def libFr (st:St):List Nat->Bool
 |[]=>true
 |id::r=>
  match st.ob[id]? with
  |some (.row _ fr _ _)=>fr&&libFr st r
  |_=>false
def libDen (L:Lib) (st:St) (ts:List T) (k:T->St->Option β):Option β:=
 if(libMv L.gives ts).Nodup then
  match Zaf L.ct st (goneAll (libMv L.gives ts) st) L.gives ts with
  |some as=>L.run as λys=>k (.row st.ob.length) ((goneAll (libMv L.gives ts) st).newOb (.row none (libFr st (libMv L.gives ts)) L.ct ys))
  |none=>none
 else none
def capT (st:St) (t:T):T:=
 match capD false st t with
 |some cs=>.ip false cs
 |none=>.any
def ZL (P:Program) (E:Env) (o:Oper) (st:St) (k:St->Option β):Option β:=
 let put (t:T):Option β:=k (st.put o.dst t)
 let put2 (t:T) (st':St):Option β:=k (st'.put o.dst t)
 match o.op with
 |.move x|.assign x=>put (st.ev x)
 |.pick c a b=>asBoolT (st.ev c) λt=>bif t then put (st.ev a) else put (st.ev b)
 |.alloc t=>
  match zeroCells P t with
  |some cs=>put2 (.bp st.ob.length 0) (st.newOb (.box none t cs))
  |none=>none
 |.box t x=>if(Zy (st.ev x)).length=P.cellsOf t/\(Zy (st.ev x)).all Za8=true then put2 (.bp st.ob.length 0) (st.newOb (.box none t (Zy (st.ev x)))) else none
 |.build t parts=>
  match Za5 P t,zeroCells P t with
  |some fs,some z=>
   match fillT fs z (parts.toList.map λp=>(p.1,st.ev p.2)) with
   |some cs=>put (.agg cs)
   |none=>none
  |_,_=>none
 |.buildSlice t len parts=>
  match Zah P t with
  |some e=>
   if parts.size=len/\len*P.cellsOf e<=1000/\0<P.cellsOf e/\(Zq P 6 e).length=P.cellsOf e/\((P.info? e).bind (·.zero)).isSome=true then
    match litRows (Zq P 6 e) st 0 (parts.toList.map λp=>(p.1,st.ev p.2)) with
    |some (f,cs,st')=>put2 (.row st'.ob.length) (st'.newOb (.row none f t cs))
    |none=>none
   else none
  |none=>none
 |.load t a=>
  match mvTy t,st.ev a with
  |true,.ep id i off=>takeDen P st t id i off put2
  |_,x=>loadDen P st t x put
 |.store t a x=>storeDen P st t (st.ev a) (st.ev x) λst'=>k (st'.put o.dst .undef)
 |.nilCheck x=>
  match st.ev x with
  |.bp a b=>put (.bp a b)
  |.ep a b c=>put (.ep a b c)
  |.ip a b=>put (.ip a b)
  |.clo f cs=>put (.clo f cs)
  |.d a (.fn f cs)=>put (.d a (.fn f cs))
  |_=>none
 |.binOp op t x y _=>cmpDen P op t y (st.ev x) (st.ev y) put
 |.unOp op _ x=>unDen op (st.ev x) put
 |.convert src dst x=>convDen P st src dst (st.ev x) put
 |.makeInterface t _=>
  match P.underlying t with
  |some (.interface _)=>none
  |some _=>put .any
  |none=>none
 |.makeFunc (.func f) first captured=>if first.size=0/\(captured.toList.map st.ev).all Za8=true then put (.clo f (captured.toList.map st.ev)) else none
 |.makeSlice t l c=>makeDen P st t (st.ev l) (st.ev c) put2
 |.slice t x lo hi mx=>sliceDen P st t (st.ev x) (lo.map st.ev) (hi.map st.ev) (mx.map st.ev) put2
 |.fieldAddr s x f=>
  match Za5 P s with
  |some fs=>
   match fs[f]? with
   |some (off,n,_)=>
    if n=0 then none else
    match st.ev x with
    |.bp id a=>put (.bp id (a+off))
    |.ep id i a=>put (.ep id i (a+off))
    |.ip fr cs=>put (.ip fr (cs.drop off))
    |_=>none
   |none=>none
  |none=>none
 |.field s x f=>
  match Za5 P s,st.ev x with
  |some fs,.agg ts=>
   match fs[f]? with
   |some (off,n,g)=>if n=0\/ts.length<off+n then none else put (if g then .agg ((ts.drop off).take n) else(ts.drop off).headD .any)
   |none=>none
  |_,_=>none
 |.indexAddr t x i=>indexAddrDen P st t (st.ev x) (st.ev i) put
 |.index t x i=>indexDen P t (st.ev x) (st.ev i) put
 |.extract x i=>
  match st.ev x with
  |.tup ts=>match ts[i]? with
   |some t=>put t
   |none=>none
  |_=>none
 |.call c=>
  match c.callee with
  |.builtin .len=>
   match c.args.toList,c.argTypes.toList with
   |[x],[t]=>lenDen P st t (st.ev x) put
   |_,_=>none
  |.builtin .cap=>
   match c.args.toList.map st.ev,c.argTypes.toList with
   |[.nil],[t]=>if Zam P t=.sl then put (.d true (.int .i64 0)) else none
   |_,_=>none
  |.builtin .append=>
   match c.args.toList,c.argTypes.toList with
   |[s,x],[t1,t2]=>appendDen P st t1 t2 (st.ev s) (st.ev x) put2
   |_,_=>none
  |.builtin .min=>
   match c.args.toList.map st.ev with
   |[.d _ (.int q a),.d _ (.int _ b)]=>put (.d true (.int q (if b<a then b else a)))
   |_=>none
  |.builtin .max=>
   match c.args.toList.map st.ev with
   |[.d _ (.int q a),.d _ (.int _ b)]=>put (.d true (.int q (if b>a then b else a)))
   |_=>none
  |.value f=>
   match st.ev f with
   |.clo g caps=>
    match(E g).bind (·.lib) with
    |some L=>if caps.isEmpty=true then libDen L st (c.args.toList.map st.ev) put2 else none
    |none=>
    if caps.isEmpty=true\/(E g).any (λe=>!e.wide)=true then callDen P E st o.type g (c.args.toList.map st.ev++caps.map (capT st)) put2 else none
   |.d _ (.fn g caps)=>callDen P E st o.type g (c.args.toList.map st.ev++caps.map (.ip false)) put2
   |_=>none
  |_=>none
 |_=>none
def Zb9 (P:Program) (E:Env) (ops:Array Oper):List Oper->St->(St->Option β)->Option β
 |[],st,k=>k st
 |o::r,st,k=>
  match o.guard with
  |none=>ZL P E o st λst'=>Zb9 P E ops r st' k
  |some (j,want)=>
   match(ops[j]?).bind (·.dst) with
   |none=>none
   |some d=>
    match st.tm.getD d .any with
    |.d f (.bool b)=>
     bif b then
      (bif want then ZL P E o (st.put (some d) (.d f (.bool true))) λst'=>Zb9 P E ops r st' k
       else Zb9 P E ops r ((st.put (some d) (.d f (.bool true))).put o.dst .undef) k)
     else
      (bif want then Zb9 P E ops r ((st.put (some d) (.d f (.bool false))).put o.dst .undef) k
       else ZL P E o (st.put (some d) (.d f (.bool false))) λst'=>Zb9 P E ops r st' k)
    |.undef=>Zb9 P E ops r (st.put o.dst .undef) k
    |_=>none
def tagOf:Obj->Nat
 |.box _ _ _=>0
 |.row _ _ _ _=>1
 |.frz _ _=>2
 |.gone=>3
 |.fbx _ _=>4
def flatBox (st:St) (t:T):Bool:=
 match t with
 |.bp id _=>
  match st.ob[id]? with
  |some (.box _ _ cs)=>(datTs cs).isSome
  |_=>true
 |_=>true
def goneIn (st':St) (id:Nat):Bool:=
 match st'.ob[id]? with
 |some .gone=>true
 |_=>false
def ZbZ (st st':St) (own:Bool) (t:T):Bool:=
 match t with
 |.row id=>!own||goneIn st' id
 |.agg cs=>!own||(rowIds cs).all (goneIn st')
 |.sub _ _ _=>!own
 |t=>flatBox st t
def quietOp (E:Env) (o:Oper) (st st':St):Bool:=
 match o.op with
 |.call c=>
  match c.callee with
  |.value f=>
   match st.ev f with
   |.clo g _|.d _ (.fn g _)=>
    match E g with
    |some e=>c.args.toList.all λx=>ZbZ st st' (e.modes.any λm=>m.1==.own) (st.ev x)
    |none=>false
   |_=>false
  |_=>true
 |_=>true
def ZE (st:St):T->List Nat
 |.row id=>[id]
 |.ep id _ _=>[id]
 |.sub id _ _=>[id]
 |.bp id _=>[id]
 |.agg ts=>ts.flatMap λt=>match t with|.row id=>[id]|_=>[]
 |.clo _ ts=>ts.flatMap λt=>
  match t with
  |.bp id _=>
   match st.ob[id]? with
   |some (.box _ _ cs)=>id::cs.flatMap λt=>match t with|.row id=>[id]|_=>[]
   |_=>[id]
  |_=>[]
 |_=>[]
def isMove:Op->Bool
 |.move _|.assign _=>true
 |_=>false
def lookSub:T->List Nat
 |.sub id _ _=>[id]
 |_=>[]
def ZaB (st:St) (t:T):List Nat:=ZE st t ++
 match t with
 |.bp id _=>
  match st.ob[id]? with
  |some (.box _ _ cs)=>rowIds cs
  |_=>[]
 |_=>[]
def isCall:Op->Bool
 |.call _=>true
 |_=>false
def Za9 (o:Oper) (st:St):List Nat:=o.op.operands.toList.flatMap λx=>bif isMove o.op then lookSub (st.ev x) else bif isCall o.op then ZaB st (st.ev x) else ZE st (st.ev x)
def subOf (st:St):Option Nat->List Nat
 |some d=>
  match st.tm.getD d .any with
  |.sub id _ _=>[id]
  |_=>[]
 |none=>[]
def changed (st st':St):List Nat:=(List.range st.ob.length).filter λi=>(st.ob[i]?).map tagOf !=(st'.ob[i]?).map tagOf
def bpIds:T->List Nat
 |.bp id _=>[id]
 |_=>[]
def storeAt (o:Oper) (st:St):List Nat:=
 match o.op with
 |.store _ a _=>
  match st.ev a with
  |.bp id _=>[id]
  |.ep id _ _=>[id]
  |_=>[]
 |.call c=>c.args.toList.flatMap λx=>bpIds (st.ev x)
 |.load t a=>bif mvTy t then(match st.ev a with|.ep id _ _=>[id]|_=>[]) else[]
 |_=>[]
def turned (o:Oper) (st st':St):List Nat:=storeAt o st++changed st st'
def madeIn (st st':St):List Nat:=List.range' st.ob.length (st'.ob.length-st.ob.length)
def meets (a b:List Nat):Bool:=a.any λx=>b.contains x
structure Past where
 i:Nat
 tch:List Nat
 chg:List Nat
def Zaz (bs:Array Nat) (n i:Nat):Bool:=
 (List.range n).all λj=>if j<i then(bs.getD i 0).testBit j else if i<j then(bs.getD j 0).testBit i else true
def drawOk (ops:Array Oper):Bool:=
 let bs:=Region.before ops
 (List.range ops.size).all λj=>
  match ops[j]? with
  |none=>false
  |some oj=>
   (oj.after.all λe=>!Region.binds .any e||decide (e.on<j)) &&
   (match oj.op with|.select _ _=>false|_=>true) &&
   (List.range j).all λi=>
    match ops[i]? with
    |none=>false
    |some oi=>(bs.getD j 0).testBit i||(oi.apart ops oj&&oj.apart ops oi)
def pastOk (bs:Array Nat) (i:Nat) (tch chg:List Nat) (hs:List Past):Bool:=
 hs.all λh=>(bs.getD i 0).testBit h.i||!(meets h.tch chg||meets h.chg tch||meets h.chg chg)
def drawOp (P:Program) (E:Env) (n:Nat) (bs:Array Nat) (o:Oper) (i:Nat) (st:St) (hs:List Past) (kk:St->List Past->Option β):Option β:=
 bif Zaz bs n i then ZL P E o st λst'=>kk st' []
 else ZL P E o st λst'=>bif quietOp E o st st' then
  (bif pastOk bs i (Za9 o st++subOf st' o.dst) (turned o st st'++madeIn st st') hs then kk st' (⟨i,Za9 o st++subOf st' o.dst,turned o st st'++madeIn st st'⟩::hs) else none)
 else none
def ZbC (P:Program) (E:Env) (ops:Array Oper) (bs:Array Nat):List Oper->Nat->List Past->St->(St->Option β)->Option β
 |[],_,_,st,k=>k st
 |o::r,i,hs,st,k=>
  match o.guard with
  |none=>drawOp P E ops.size bs o i st hs λst' hs'=>ZbC P E ops bs r (i+1) hs' st' k
  |some (j,want)=>
   match(ops[j]?).bind (·.dst) with
   |none=>none
   |some d=>
    match st.tm.getD d .any with
    |.d f (.bool b)=>
     bif b then
      (bif want then drawOp P E ops.size bs o i (st.put (some d) (.d f (.bool true))) hs λst' hs'=>ZbC P E ops bs r (i+1) hs' st' k
       else ZbC P E ops bs r (i+1) hs ((st.put (some d) (.d f (.bool true))).put o.dst .undef) k)
     else
      (bif want then ZbC P E ops bs r (i+1) hs ((st.put (some d) (.d f (.bool false))).put o.dst .undef) k
       else drawOp P E ops.size bs o i (st.put (some d) (.d f (.bool false))) hs λst' hs'=>ZbC P E ops bs r (i+1) hs' st' k)
    |.undef=>ZbC P E ops bs r (i+1) hs (st.put o.dst .undef) k
    |_=>none
def orgOf:Obj->Option Nat
 |.box og _ _=>og
 |.row og _ _ _=>og
 |_=>none
inductive KA where
 |asis
 |row (fr:Bool) (ct:TypeId)
 |dat (fr:Bool)
 |flt (fr:Bool) (ct:TypeId)
structure Keep where
 slots:List (Nat×KA)
 cells:List (Nat×Nat×KA)
def Zb6 (xs:List (List C)):List (List C):=xs.map λc=>c.map λx=>.d x.imm
def actT (ka:KA) (st:St) (t:T):Option (T×St):=
 match ka with
 |.asis=>some (t,st)
 |.row fr ct=>
  match t with
  |.nil=>some (.row st.ob.length,st.newOb (.row none fr ct []))
  |.row id=>
   match st.ob[id]? with
   |some (.row ro f z xs)=>some (.row id,st.setOb id (.row ro (f&&fr) z xs))
   |_=>none
  |_=>none
 |.dat fr=>
  match t with
  |.nil=>some (.d fr (.sl []),st)
  |.d f x=>some (.d (f&&fr) x,st)
  |.row id=>
   match st.ob[id]? with
   |some (.row _ f _ xs)=>some (.d (f&&fr) (.sl (C.immRows xs)),st.setOb id (.frz f (C.immRows xs)))
   |some (.frz f xs)=>some (.d (f&&fr) (.sl xs),st)
   |_=>none
  |_=>none
 |.flt fr ct=>
  match t with
  |.nil=>some (.row st.ob.length,st.newOb (.row none fr ct []))
  |.row id=>
   match st.ob[id]? with
   |some (.row ro f z xs)=>some (.row id,st.setOb id (.row ro (f&&fr) z (Zb6 xs)))
   |_=>none
  |_=>none
def actSlots:List (Nat×KA)->St->Option St
 |[],st=>some st
 |(i,ka)::r,st=>
  match actT ka st (st.tm.getD i .any) with
  |some (t,st')=>actSlots r { st' with tm:=st'.tm.set i t }
  |none=>none
def actCells:List (Nat×Nat×KA)->St->Option St
 |[],st=>some st
 |(i,j,ka)::r,st=>
  match st.tm.getD i .any with
  |.bp id _=>
   match st.ob[id]? with
   |some (.box og t cs)=>
    match actT ka st (cs.getD j .any) with
    |some (x,st')=>actCells r (st'.setOb id (.box og t (cs.set j x)))
    |none=>none
   |_=>none
  |_=>none
mutual
def idsT:T->List Nat
 |.row id=>[id]
 |.bp id _=>[id]
 |.ep id _ _=>[id]
 |.sub id _ _=>[id]
 |.agg ts=>idsTs ts
 |.tup ts=>idsTs ts
 |.clo _ ts=>idsTs ts
 |_=>[]
def idsTs:List T->List Nat
 |[]=>[]
 |t::ts=>idsT t++idsTs ts
end
mutual
def renT (l:List Nat):T->Option T
 |.row id=>(l.idxOf? id).map .row
 |.bp id off=>(l.idxOf? id).map (.bp · off)
 |.ep id i off=>(l.idxOf? id).map (.ep · i off)
 |.sub id i off=>(l.idxOf? id).map (.sub · i off)
 |.agg ts=>(renTs l ts).map .agg
 |.tup ts=>(renTs l ts).map .tup
 |.clo f ts=>(renTs l ts).map (.clo f)
 |t=>some t
def renTs (l:List Nat):List T->Option (List T)
 |[]=>some []
 |t::ts=>
  match renT l t,renTs l ts with
  |some x,some xs=>some (x::xs)
  |_,_=>none
end
def renObj (l:List Nat):Obj->Option Obj
 |.box og t cs=>(renTs l cs).map (.box og t)
 |o=>some o
def idsObj:Option Obj->List Nat
 |some (.box _ _ cs)=>idsTs cs
 |_=>[]
def keepT (keep:List (Nat×KA)):Nat->List T->List T
 |_,[]=>[]
 |i,t::ts=>(bif keep.any (·.1==i) then t else .any)::keepT keep (i+1) ts
def mapObs (l:List Nat) (ob:List Obj):List Nat->Option (List Obj)
 |[]=>some []
 |id::r=>
  match ob[id]? with
  |some o=>
   match renObj l o,mapObs l ob r with
   |some x,some xs=>some (x::xs)
   |_,_=>none
  |none=>none
def forget (keep:Keep) (st:St):Option St:=
 let tm:=keepT keep.slots 0 st.tm
 let l1:=(((List.range st.ob.length).filter λi=>((st.ob[i]?).bind orgOf).isSome)++idsTs tm).eraseDups
 let l2:=(l1++l1.flatMap λid=>idsObj st.ob[id]?).eraseDups
 let l3:=(l2++l2.flatMap λid=>idsObj st.ob[id]?).eraseDups
 match renTs l3 tm,mapObs l3 st.ob l3 with
 |some tm',some ob'=>some ⟨tm',ob'⟩
 |_,_=>none
def canon (keep:Keep) (st:St):Option St:=
 match actSlots keep.slots st with
 |some st1=>
  match actCells keep.cells st1 with
  |some st2=>forget keep st2
  |none=>none
 |none=>none
def Za4:Code->Nat
 |.region id _ _=>id
 |.seq a _=>Za4 a
 |.block _ a=>Za4 a
 |.loop a=>Za4 a
 |.scope a=>Za4 a
 |_=>0
def seqK (J:Nat->Option Keep) (b:Code) (go:St->(Ex->St->Option β)->Option β) (K:Ex->St->Option β) (ex:Ex) (st':St):Option β:=
 match ex with
 |.normal=>
  match J (Za4 b) with
  |none=>go st' K
  |some keep=>
   match canon keep st' with
   |some s=>go s K
   |none=>none
 |e=>K e st'
def blockK (id:Nat) (K:Ex->St->Option β) (ex:Ex) (st':St):Option β:=
 match ex with
 |.exit i=>if i=id then K .normal st' else K (.exit i) st'
 |e=>K e st'
def backK (keep:Keep) (L:St->Option β) (K:Ex->St->Option β) (ex:Ex) (st':St):Option β:=
 match ex with
 |.normal=>
  match canon keep st' with
  |some s=>L s
  |none=>none
 |e=>K e st'
def Zct (b:St->(Ex->St->Option β)->Option β) (keep:Keep):Nat->St->(Ex->St->Option β)->Option β
 |0,_,_=>none
 |k+1,st,K=>b st (backK keep (λs=>Zct b keep k s K) K)
def atJ (J:Nat->Option Keep) (a:Code) (go:St->Option β) (st:St):Option β:=
 match J (Za4 a) with
 |none=>go st
 |some keep=>
  match canon keep st with
  |some s=>go s
  |none=>none
noncomputable def den (P:Program) (E:Env) (H:Nat->Keep) (J:Nat->Option Keep) (k:Nat):Code->St->(Ex->St->Option β)->Option β
 |.skip,st,K=>K .normal st
 |.region _ ops draw,st,K=>
  bif draw then
   (bif drawOk ops then ZbC P E ops (Region.before ops) ops.toList 0 [] st λst'=>K .normal st' else none)
  else Zb9 P E ops ops.toList st λst'=>K .normal st'
 |.seq a b,st,K=>den P E H J k a st (seqK J b (λs K'=>den P E H J k b s K') K)
 |.cond c a b,st,K=>
  match st.ev c with
  |.ub=>both (atJ J a (λs=>den P E H J k a s K) st) (atJ J b (λs=>den P E H J k b s K) st)
  |x=>asBoolT x λt=>bif t then atJ J a (λs=>den P E H J k a s K) st else atJ J b (λs=>den P E H J k b s K) st
 |.block id a,st,K=>den P E H J k a st (blockK id K)
 |.loop a,st,K=>
  match canon (H (Za4 a)) st with
  |some s=>Zct (λs' K'=>den P E H J k a s' K') (H (Za4 a)) k s K
  |none=>none
 |.exit id,st,K=>K (.exit id) st
 |.ret,st,K=>K .ret st
 |_,_,_=>none
def ZbA (P:Program) (ow:Bool):St->Nat->List TypeId->List C->Option (List T×St)
 |st,j,_::cts,.d x::cs=>
  match ZbA P ow st (j+1) cts cs with
  |some (ts,st')=>some (.d ow x::ts,st')
  |none=>none
 |st,j,ct::cts,.own xs::cs=>
  match ZbA P ow (st.newOb (.row (some j) ow ct xs)) (j+1) cts cs with
  |some (ts,st')=>some (.row st.ob.length::ts,st')
  |none=>none
 |st,_,[],[]=>some ([],st)
 |_,_,_,_=>none
def Z7 (P:Program) (ow:Bool):St->Nat->List TypeId->List A->Option (List T×St)
 |st,j,_::ts,.d x::as=>
  match Z7 P ow st (j+1) ts as with
  |some (l,st')=>some (.d false x::l,st')
  |none=>none
 |st,j,_::ts,.agg xs::as=>
  match Z7 P ow st (j+1) ts as with
  |some (l,st')=>some (.agg (xs.map (.d false))::l,st')
  |none=>none
 |st,j,_::ts,.nil::as=>
  match Z7 P ow st (j+1) ts as with
  |some (l,st')=>some (.nil::l,st')
  |none=>none
 |st,j,_::ts,.ip xs::as=>
  match Z7 P ow st (j+1) ts as with
  |some (l,st')=>some (.ip false xs::l,st')
  |none=>none
 |st,j,t::ts,.box cs::as=>
  match bornC P ow st (Zq P 6 (Zbn P t)) cs with
  |some (l0,st1)=>
   match Z7 P ow (st1.newOb (.box (some (1000*j)) (Zbn P t) l0)) (j+1) ts as with
   |some (l,st')=>some (.bp st1.ob.length 0::l,st')
   |none=>none
  |none=>none
 |st,j,t::ts,.own g cs::as=>
  if cs.length<=1000/\(g=true\/Zq P 6 t=[t]) then
  match ZbA P ow st (1000*j) (Zq P 6 t) cs with
  |some (cells,st1)=>
   match Z7 P ow st1 (j+1) ts as with
   |some (l,st')=>some ((bif g then .agg cells else cells.headD .any)::l,st')
   |none=>none
  |none=>none
  else none
 |st,_,[],[]=>some ([],st)
 |_,_,_,_=>none
def Za0:St->Nat->List TypeId->List C->Option (List C×St)
 |st,_,_,[]=>some ([],st)
 |st,j,_::cts,.d x::cs=>
  match Za0 st (j+1) cts cs with
  |some (l,st')=>some (.d x::l,st')
  |none=>none
 |st,j,ct::cts,.own _::cs=>
  match st.ob.findIdx? λo=>orgOf o==some j with
  |some id=>
   match st.ob[id]? with
   |some (.row _ _ rt xs)=>
    if rt=ct then
    match Za0 (st.setOb id .gone) (j+1) cts cs with
    |some (l,st')=>some (.own xs::l,st')
    |none=>none
    else none
   |_=>none
  |none=>none
 |_,_,_,_=>none
def Zb0 (P:Program) (lo:Bool):St->Nat->List TypeId->List A->Option (List Out×St)
 |st,j,t::ts,.own _ cs::as=>
  match(bif lo then none else Za0 st (1000*j) (Zq P 6 t) cs) with
  |some (c,st1)=>
   match Zb0 P lo st1 (j+1) ts as with
   |some (os,st'')=>some (.own c::os,st'')
   |none=>none
  |none=>
   match Zb0 P lo st (j+1) ts as with
   |some (os,st'')=>some (.lost::os,st'')
   |none=>none
 |st,j,t::ts,.box cs::as=>
  match st.ob.findIdx? λo=>orgOf o==some (1000*j) with
  |some id=>
   match st.ob[id]? with
   |some (.box _ bt cells)=>
    if bt=Zbn P t/\cells.length=cs.length then
     match Za2 (st.setOb id .gone) (Zq P 6 bt) cells with
     |some (c,st1)=>
      match Zb0 P lo st1 (j+1) ts as with
      |some (os,st'')=>some (.box c::os,st'')
      |none=>none
     |none=>none
    else none
   |_=>none
  |none=>none
 |st,j,_::ts,_::as=>Zb0 P lo st (j+1) ts as
 |st,_,_,[]=>some ([],st)
 |_,_,_,_=>none
def ZbF (st:St):List Bool->List T->Option (List T×St)
 |true::bs,t::ts=>
  match actT (.dat true) st t with
  |some (x,st')=>
   match ZbF st' bs ts with
   |some (xs,st'')=>some (x::xs,st'')
   |none=>none
  |none=>none
 |bs,t::ts=>
  match ZbF st bs.tail ts with
  |some (xs,st'')=>some (t::xs,st'')
  |none=>none
 |_,[]=>some ([],st)
def isAggT:T->Bool
 |.agg _=>true
 |_=>false
def resCells (P:Program) (st:St) (t:TypeId):ResultVar->Option (List T)
 |.tmp i=>if isAggT (st.tm.getD i .any)=ZU P t/\(Zy (st.tm.getD i .any)).all Za8=true then some (Zy (st.tm.getD i .any)) else none
 |.cell a t'=>
  match st.tm.getD a .any with
  |.bp id 0=>
   match st.ob[id]? with
   |some (.box _ _ cells)=>
    if t'=t/\(P.underlying t).isSome=true/\0<P.cellsOf t/\(ZU P t=false->P.cellsOf t=1)/\cells.length=P.cellsOf t then some cells else none
   |_=>none
  |_=>none
def resBox (st:St):ResultVar->Option (List D×Nat)
 |.tmp i=>
  match st.tm.getD i .any with
  |.bp id 0=>
   match st.ob[id]? with
   |some (.box _ _ cells)=>(datTs cells).map λds=>(ds,id)
   |_=>none
  |_=>none
 |.cell _ _=>none
def resOf (P:Program) (st:St):List (List Bool)->List TypeId->List ResultVar->Option (Bool×List (List C)×St)
 |_,[],[]=>some (true,[],st)
 |ra,t::tys,r::rs=>
  bif Zb5 P t then
   match resBox st r with
   |some (ds,id)=>
    match resOf P (st.setOb id .gone) ra.tail tys rs with
    |some (_,cs,st'')=>some (false,ds.map .d::cs,st'')
    |none=>none
   |none=>none
  else
  match resCells P st t r with
  |some ts=>
   match ZbF st (ra.headD []) ts with
   |some (ts',st1)=>
    match cellsC st1 (Zq P 6 t) ts' with
    |some (f,c,st')=>
     match resOf P st' ra.tail tys rs with
     |some (g,cs,st'')=>some (f&&g,c::cs,st'')
     |none=>none
    |none=>none
   |none=>none
  |none=>none
 |_,_,_=>none
structure Hints where
 H:Nat->Keep
 J:Nat->Option Keep
 al:Bool
 ra:List (List Bool)
 ow:Bool:=false
 lo:Bool:=false
def freshOuts (st:St):Bool:=st.ob.all λo=>
 match o with
 |.row (some _) fr _ _=>fr
 |.box (some _) _ cs=>Zas st cs
 |_=>true
def subRes:List ResultVar->St->(St->Option β)->Option β
 |[],st,k=>k st
 |.cell _ _::rs,st,k=>subRes rs st k
 |.tmp i::rs,st,k=>
  match st.tm.getD i .any with
  |.sub id r off=>subD st id r off λfr ys=>subRes rs { Zbw st (.row id) with tm:=(Zbw st (.row id)).tm.set i (.d fr (.sl ys)) } k
  |_=>subRes rs st k
def finDen (P:Program) (fn:Func) (h:Hints) (as:List A) (K:List (List C)->List Out->Option β):Ex->St->Option β
 |.exit _,_=>none
 |_,st=>subRes fn.results.toList st λst=>
  match resOf P st h.ra fn.resultTypes.toList fn.results.toList with
  |none=>none
  |some (f,rs,st')=>
   match Zb0 P h.lo st' 0 (fn.params.toList++List.replicate fn.nfree 0) as with
   |some (os,_)=>bif h.al||(f&&(!h.ow||freshOuts st')) then K rs os else none
   |none=>none
noncomputable def funDen (P:Program) (E:Env) (h:Hints) (k:Nat) (fn:Func) (as:List A) (K:List (List C)->List Out->Option β):Option β:=
 match fn.body with
 |none=>none
 |some c=>
  match Z7 P h.ow ⟨[],[]⟩ 0 (fn.params.toList++List.replicate fn.nfree 0) as with
  |none=>none
  |some (l,st)=>
   den P E h.H h.J k c ⟨l++List.replicate (fn.ntmps-l.length) .undef,st.ob⟩ (finDen P fn h as K)
def codeAt:List Nat->Code->Code
 |0::p,.seq a _=>codeAt p a
 |_::p,.seq _ b=>codeAt p b
 |0::p,.cond _ a _=>codeAt p a
 |_::p,.cond _ _ b=>codeAt p b
 |_::p,.block _ a=>codeAt p a
 |_::p,.loop a=>codeAt p a
 |_,c=>c
noncomputable def contAt (P:Program) (E:Env) (h:Hints) (k:Nat):List Nat->Code->(Ex->St->Option β)->Ex->St->Option β
 |0::p,.seq a b,K=>contAt P E h k p a (seqK h.J b (λs K'=>den P E h.H h.J k b s K') K)
 |_::p,.seq _ b,K=>contAt P E h k p b K
 |0::p,.cond _ a _,K=>contAt P E h k p a K
 |_::p,.cond _ _ b,K=>contAt P E h k p b K
 |_::p,.block id a,K=>contAt P E h k p a (blockK id K)
 |_,_,K=>K
def ZI (fn:Func):Code:=fn.body.getD .skip
def ZA {V:Type} (b:(V->Option β)->V->Option β):Nat->V->Option β
 |0,_=>none
 |k+1,v=>b (ZA b k) v
theorem pair_eq {α γ:Type} {a a':α} {b b':γ} (h:a=a') (g:b=b'):(a,b)=(a',b'):=by rw[h,g]
theorem Zz {V:Type} {b:St->(Ex->St->Option β)->Option β} {keep:Keep} {K:Ex->St->Option β} (s:V->St) (lb:(V->Option β)->V->Option β)
  (h:∀ (L:St->Option β) (v:V),b (s v) (backK keep L K)=lb (λv=>L (s v)) v):∀ (k:Nat) (v:V),Zct b keep k (s v) K=ZA lb k v
 |0,_=>rfl
 |k+1,v=>by
  have ih:(λv=>Zct b keep k (s v) K)=ZA lb k:=funext λv=>Zz s lb h k v
  show b (s v) (backK keep (λs=>Zct b keep k s K) K)=lb (ZA lb k) v
  rw[h,ih]
end
end Go.T
