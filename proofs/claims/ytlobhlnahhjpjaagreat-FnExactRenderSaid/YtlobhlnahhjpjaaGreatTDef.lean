/- The evaluator on abstract data: its definitions. -/
import Derived.Orders
import Derived.Tactics
namespace Go.T
def cutTys:List TypeId:=[]
def cutTy (t:TypeId):Bool:=cutTys.contains t
def mvTys:List TypeId:=[54]
def mvTy (t:TypeId):Bool:=mvTys.contains t
inductive D where
 |bool (b:Bool)
 |int (k:IntKind) (n:Int)
 |str (s:ByteArray)
 |sl (xs:List (List D))
 |fn (f:FuncId) (caps:List (List D))
 |un
 deriving Inhabited
inductive C where
 |d (x:D)
 |own (xs:List (List C))
 deriving Inhabited
def C.gone:C->C
 |.d x=>.d x
 |.own _=>.d .un
mutual
def C.imm:C->D
 |.d x=>x
 |.own xs=>.sl (C.immRows xs)
def C.immCells:List C->List D
 |[]=>[]
 |c::cs=>c.imm::C.immCells cs
def C.immRows:List (List C)->List (List D)
 |[]=>[]
 |x::xs=>C.immCells x::C.immRows xs
end
inductive T where
 |d (fr:Bool) (x:D)
 |nil
 |agg (ts:List T)
 |tup (ts:List T)
 |row (id:Nat)
 |bp (id off:Nat)
 |ep (id i off:Nat)
 |ip (fr:Bool) (cs:List D)
 |sub (id i off:Nat)
 |clo (f:FuncId) (caps:List T)
 |undef
 |ub
 |any
 deriving Inhabited
inductive Obj where
 |box (org:Option Nat) (t:TypeId) (cs:List T)
 |row (org:Option Nat) (fr:Bool) (ct:TypeId) (xs:List (List C))
 |frz (fr:Bool) (xs:List (List D))
 |fbx (fr:Bool) (cs:List D)
 |gone
 deriving Inhabited
structure St where
 tm:List T
 ob:List Obj
def St.put (st:St) (dst:Option Nat) (t:T):St:=
 match dst with
 |some d=>{ st with tm:=st.tm.set d t }
 |none=>st
def ZX (id:Nat):T->T
 |.sub j i off=>if j=id then .any else .sub j i off
 |t=>t
def St.setOb (st:St) (id:Nat) (o:Obj):St:=⟨st.tm.map (ZX id),st.ob.set id o⟩
def St.newOb (st:St) (o:Obj):St:={ st with ob:=st.ob++[o] }
inductive Ex where
 |normal
 |exit (id:Nat)
 |ret
 deriving DecidableEq
inductive A where
 |d (x:D)
 |agg (xs:List D)
 |nil
 |ip (xs:List D)
 |box (cs:List C)
 |own (g:Bool) (cs:List C)
 deriving Inhabited
inductive Out where
 |box (cs:List C)
 |own (cs:List C)
 |lost
 deriving Inhabited
inductive Mode where
 |imm|box|own|nil
 deriving DecidableEq,Inhabited
structure Lib where
 gives:List Bool
 ct:TypeId
 run:{β:Type}->List A->(List (List C)->Option β)->Option β
structure Zj where
 modes:List (Mode×TypeId)
 rts:List TypeId
 al:Bool
 run:{β:Type}->List A->(List (List C)->List Out->Option β)->Option β
 lib:Option Lib:=none
 ow:Bool:=false
abbrev Env:=FuncId->Option Zj
inductive CK where
 |int (k:IntKind)|bool|str|sl|other
 deriving DecidableEq,Inhabited
def Zam (P:Program) (t:TypeId):CK:=
 match P.underlying t with
 |some .bool=>.bool
 |some (.int k)=>.int k
 |some .string=>.str
 |some (.slice _)=>.sl
 |_=>.other
def Zq (P:Program):Nat->TypeId->List TypeId
 |0,t=>[t]
 |n+1,t=>
  match P.underlying t with
  |some (.struct fs)=>fs.toList.flatMap λf=>Zq P n f.type
  |some (.array m e)=>(List.replicate m (Zq P n e)).flatten
  |_=>[t]
def ZaM (P:Program) (t:TypeId):List CK:=(Zq P 6 t).map (Zam P)
def ZU (P:Program) (t:TypeId):Bool:=
 match P.underlying t with
 |some (.struct _)|some (.array _ _)=>true
 |_=>false
def zeroT:CK->T
 |.int k=>.d true (.int k 0)
 |.bool=>.d true (.bool false)
 |.str=>.d true (.str ⟨#[]⟩)
 |.sl=>.nil
 |.other=>.any
def zeroC:CK->Option C
 |.int k=>some (.d (.int k 0))
 |.bool=>some (.d (.bool false))
 |.str=>some (.d (.str ⟨#[]⟩))
 |.sl=>some (.own [])
 |.other=>none
section
variable {β:Type}
def dInt (q:IntKind) (d:D) (k:Int->Option β):Option β:=
 match d with
 |.int q' n=>if q'=q then k n else none
 |_=>none
def dBool (d:D) (k:Bool->Option β):Option β:=
 match d with
 |.bool b=>k b
 |_=>none
def dStr (d:D) (k:ByteArray->Option β):Option β:=
 match d with
 |.str s=>k s
 |_=>none
def dSl (d:D) (k:List (List D)->Option β):Option β:=
 match d with
 |.sl xs=>k xs
 |_=>none
def ZaJ {α:Type} (l:List α) (k:α->List α->Option β):Option β:=
 match l with
 |x::r=>k x r
 |[]=>none
def atEnd {α:Type} (l:List α) (k:Option β):Option β:=
 match l with
 |[]=>k
 |_=>none
def asKind (q:CK) (d:D) (k:D->Option β):Option β:=
 match q with
 |.int q=>dInt q d λn=>k (.int q n)
 |.bool=>dBool d λb=>k (.bool b)
 |.str=>dStr d λs=>k (.str s)
 |.sl=>dSl d λxs=>k (.sl xs)
 |.other=>none
def asCells:List CK->List D->(List D->Option β)->Option β
 |[],l,k=>atEnd l (k [])
 |q::qs,l,k=>ZaJ l λd r=>asKind q d λd'=>asCells qs r λds=>k (d'::ds)
def cOwn (c:C) (k:List (List C)->Option β):Option β:=
 match c with
 |.own xs=>k xs
 |.d _=>none
def ZaR {α:Type} (xs:List α) (i:Nat) (k:α->Option β):Option β:=
 match xs[i]? with
 |some x=>k x
 |none=>none
def atRow {α:Type} (xs:List α) (i:Int) (k:α->Option β):Option β:=
 if 0<=i then ZaR xs i.toNat k else none
def atStr (s:ByteArray) (i:Int) (k:Int->Option β):Option β:=
 if 0<=i then
  match s[i.toNat]? with
  |some b=>k b.toNat
  |none=>none
 else none
def cD (c:C) (k:D->Option β):Option β:=
 match c with
 |.d x=>k x
 |.own _=>none
def Zd (c:Prop) [Decidable c] (k:Option β):Option β:=if c then k else none
end
end Go.T
