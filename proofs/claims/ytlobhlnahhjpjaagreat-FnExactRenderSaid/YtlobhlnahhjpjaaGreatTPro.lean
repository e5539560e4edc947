/- The protocol of a printed function,by the ZaM of its arguments' and results' cells: one contract for all. -/
import Derived.Test.YtlobhlnahhjpjaaGreatTLaw
set_option linter.unusedVariables false
set_option linter.unusedSimpArgs false
namespace Go.T
inductive Q where
 |i (k:IntKind)|b|s|l|o
abbrev Q.n:Q:=.i .i64
abbrev Q.ty:Q->Type
 |.i _=>Int|.b=>Bool|.s=>ByteArray|.l=>List (List D)|.o=>List (List C)
def Q.c:(q:Q)->q.ty->C
 |.i k,n=>.d (.int k n)|.b,x=>.d (.bool x)|.s,x=>.d (.str x)|.l,x=>.d (.sl x)|.o,x=>.own x
def Q.dd:(q:Q)->q.ty->D
 |.i k,n=>.int k n|.b,x=>.bool x|.s,x=>.str x|.l,x=>.sl x|.o,_=>.sl []
def Q.rd:(q:Q)->D->Option q.ty
 |.i k,d=>dInt k d some|.b,d=>dBool d some|.s,d=>dStr d some|.l,d=>dSl d some|.o,_=>none
def Q.rc:(q:Q)->C->Option q.ty
 |.i k,c=>cD c λd=>dInt k d some|.b,c=>cD c λd=>dBool d some|.s,c=>cD c λd=>dStr d some|.l,c=>cD c λd=>dSl d some|.o,c=>cOwn c some
theorem Q.rd_some {q:Q} {d:D} {x:q.ty} (h:q.rd d=some x):d=q.dd x:=by
 cases q with
 |i k=>obtain⟨n,rfl,h2⟩:=dInt_some h;obtain rfl:=Option.some.inj h2;rfl
 |b=>obtain⟨n,rfl,h2⟩:=dBool_some h;obtain rfl:=Option.some.inj h2;rfl
 |s=>obtain⟨n,rfl,h2⟩:=dStr_some h;obtain rfl:=Option.some.inj h2;rfl
 |l=>obtain⟨n,rfl,h2⟩:=dSl_some h;obtain rfl:=Option.some.inj h2;rfl
 |o=>cases h
theorem Q.rc_some {q:Q} {d:C} {x:q.ty} (h:q.rc d=some x):d=q.c x:=by
 cases q with
 |i k=>obtain⟨d,rfl,h2⟩:=cD_some h;obtain⟨n,rfl,h3⟩:=dInt_some h2;obtain rfl:=Option.some.inj h3;rfl
 |b=>obtain⟨d,rfl,h2⟩:=cD_some h;obtain⟨n,rfl,h3⟩:=dBool_some h2;obtain rfl:=Option.some.inj h3;rfl
 |s=>obtain⟨d,rfl,h2⟩:=cD_some h;obtain⟨n,rfl,h3⟩:=dStr_some h2;obtain rfl:=Option.some.inj h3;rfl
 |l=>obtain⟨d,rfl,h2⟩:=cD_some h;obtain⟨n,rfl,h3⟩:=dSl_some h2;obtain rfl:=Option.some.inj h3;rfl
 |o=>obtain⟨n,rfl,h2⟩:=Zcx h;obtain rfl:=Option.some.inj h2;rfl
abbrev CurQ (r:Type):List Q->Type
 |[]=>r
 |q::l=>q.ty->CurQ r l
abbrev CurQQ (r:Type):List (List Q)->Type
 |[]=>r
 |q::l=>CurQ (CurQQ r l) q
inductive AQ where
 |d (q:Q)|agg (l:List Q)|ip (l:List Q)|own (g:Bool) (ct:TypeId) (l:List Q)|box (ct:TypeId) (l:List Q)|fn (g:Nat) (l:List (List Q))|nil
abbrev AQ.cur (r:Type):AQ->Type
 |.d q=>q.ty->r|.agg l=>CurQ r l|.ip l=>CurQ r l|.own _ _ l=>CurQ r l|.box _ l=>CurQ r l|.fn _ l=>CurQQ r l|.nil=>r
abbrev CurA (r:Type):List AQ->Type
 |[]=>r
 |a::as=>a.cur (CurA r as)
def AQ.mode:AQ->Mode×TypeId
 |.own _ ct _=>(.own,ct)|.box ct _=>(.box,ct)|.nil=>(.nil,0)|_=>(.imm,0)
section
variable {r:Type}
def prsD:(l:List Q)->List D->CurQ r l->Option r
 |[],[],F=>some F
 |q::l,d::ds,F=>
  match q.rd d with
  |some x=>prsD l ds (F x)
  |none=>none
 |_,_,_=>none
def prsC:(l:List Q)->List C->CurQ r l->Option r
 |[],[],F=>some F
 |q::l,d::ds,F=>
  match q.rc d with
  |some x=>prsC l ds (F x)
  |none=>none
 |_,_,_=>none
def prsDD:(l:List (List Q))->List (List D)->CurQQ r l->Option r
 |[],[],F=>some F
 |q::l,d::ds,F=>
  match prsD q d F with
  |some x=>prsDD l ds x
  |none=>none
 |_,_,_=>none
def AQ.prs:(a:AQ)->A->a.cur r->Option r
 |.d q,.d x,F=>
  match q.rd x with
  |some y=>some (F y)
  |none=>none
 |.agg l,.agg ds,F=>prsD l ds F
 |.ip l,.ip ds,F=>prsD l ds F
 |.own g _ l,.own g' cs,F=>bif g==g' then prsC l cs F else none
 |.box _ l,.box cs,F=>prsC l cs F
 |.fn g l,.d (.fn g' cs),F=>bif g==g' then prsDD l cs F else none
 |.nil,.nil,F=>some F
 |_,_,_=>none
def prsA:(as:List AQ)->List A->CurA r as->Option r
 |[],[],F=>some F
 |a::as,x::l,F=>
  match a.prs x F with
  |some y=>prsA as l y
  |none=>none
 |_,_,_=>none
def AllD:(l:List Q)->(List D->r->Prop)->CurQ r l->Prop
 |[],p,F=>p [] F
 |q::l,p,F=>∀ x:q.ty,AllD l (λds=>p (q.dd x::ds)) (F x)
def AllC:(l:List Q)->(List C->r->Prop)->CurQ r l->Prop
 |[],p,F=>p [] F
 |q::l,p,F=>∀ x:q.ty,AllC l (λds=>p (q.c x::ds)) (F x)
def AllDD:(l:List (List Q))->(List (List D)->r->Prop)->CurQQ r l->Prop
 |[],p,F=>p [] F
 |q::l,p,F=>AllD q (λds F'=>AllDD l (λc=>p (ds::c)) F') F
def AQ.all:(a:AQ)->(A->r->Prop)->a.cur r->Prop
 |.d q,p,F=>∀ x:q.ty,p (.d (q.dd x)) (F x)
 |.agg l,p,F=>AllD l (λds=>p (.agg ds)) F
 |.ip l,p,F=>AllD l (λds=>p (.ip ds)) F
 |.own g _ l,p,F=>AllC l (λds=>p (.own g ds)) F
 |.box _ l,p,F=>AllC l (λds=>p (.box ds)) F
 |.fn g l,p,F=>AllDD l (λc=>p (.d (.fn g c))) F
 |.nil,p,F=>p .nil F
def AllA:(as:List AQ)->(List A->r->Prop)->CurA r as->Prop
 |[],p,F=>p [] F
 |a::as,p,F=>a.all (λx F'=>AllA as (λl=>p (x::l)) F') F
end
section
theorem prsD_all {r:Type}:∀ {l:List Q} {ds:List D} {F:CurQ r l} {p:List D->r->Prop} {z:r},prsD l ds F=some z->AllD l p F->p ds z
 |[],[],F,p,z,h,g=>by injection h with h;subst h;exact g
 |[],_::_,F,p,z,h,g=>by cases h
 |_::_,[],F,p,z,h,g=>by cases h
 |q::l,d::ds,F,p,z,h,g=>by
  simp only[prsD] at h
  split at h
  ·rename_i x hx
   rw[Q.rd_some hx]
   exact prsD_all (p:=λds=>p (q.dd x::ds)) h (g x)
  ·cases h
theorem prsC_all {r:Type}:∀ {l:List Q} {ds:List C} {F:CurQ r l} {p:List C->r->Prop} {z:r},prsC l ds F=some z->AllC l p F->p ds z
 |[],[],F,p,z,h,g=>by injection h with h;subst h;exact g
 |[],_::_,F,p,z,h,g=>by cases h
 |_::_,[],F,p,z,h,g=>by cases h
 |q::l,d::ds,F,p,z,h,g=>by
  simp only[prsC] at h
  split at h
  ·rename_i x hx
   rw[Q.rc_some hx]
   exact prsC_all (p:=λds=>p (q.c x::ds)) h (g x)
  ·cases h
theorem prsDD_all {r:Type}:∀ {l:List (List Q)} {ds:List (List D)} {F:CurQQ r l} {p:List (List D)->r->Prop} {z:r},prsDD l ds F=some z->AllDD l p F->p ds z
 |[],[],F,p,z,h,g=>by injection h with h;subst h;exact g
 |[],_::_,F,p,z,h,g=>by cases h
 |_::_,[],F,p,z,h,g=>by cases h
 |q::l,d::ds,F,p,z,h,g=>by
  simp only[prsDD] at h
  split at h
  ·rename_i x hx
   exact prsDD_all (p:=λc=>p (d::c)) h (prsD_all (p:=λds F'=>AllDD l (λc=>p (ds::c)) F') hx g)
  ·cases h
theorem AQ.prs_all {r:Type} {a:AQ} {x:A} {F:a.cur r} {p:A->r->Prop} {z:r} (h:a.prs x F=some z) (g:a.all p F):p x z:=by
 unfold AQ.prs at h
 split at h
 ·split at h
  ·rename_i y hy
   injection h with h
   subst h
   rw[Q.rd_some hy]
   exact g y
  ·cases h
 ·exact prsD_all h g
 ·exact prsD_all h g
 ·rename_i g1 _ _ g2 _ _
  cases hg:g1==g2 with
  |false=>rw[hg] at h;cases h
  |true=>rw[hg] at h;obtain rfl:=eq_of_beq hg;exact prsC_all h g
 ·exact prsC_all h g
 ·rename_i g1 _ g2 _ _
  cases hg:g1==g2 with
  |false=>rw[hg] at h;cases h
  |true=>rw[hg] at h;obtain rfl:=eq_of_beq hg;exact prsDD_all h g
 ·injection h with h;subst h;exact g
 ·cases h
theorem prsA_all {r:Type}:∀ {as:List AQ} {l:List A} {F:CurA r as} {p:List A->r->Prop} {z:r},prsA as l F=some z->AllA as p F->p l z
 |[],[],F,p,z,h,g=>by injection h with h;subst h;exact g
 |[],_::_,F,p,z,h,g=>by cases h
 |_::_,[],F,p,z,h,g=>by cases h
 |a::as,x::l,F,p,z,h,g=>by
  simp only[prsA] at h
  split at h
  ·rename_i y hy
   exact prsA_all (p:=λl=>p (x::l)) h (AQ.prs_all (p:=λx F'=>AllA as (λl=>p (x::l)) F') hy g)
  ·cases h
end
abbrev Res:List Q->Type
 |[]=>Unit
 |[q]=>q.ty
 |q::q'::l=>q.ty×Res (q'::l)
def Res.cells:(R:List Q)->Res R->List C
 |[],_=>[]
 |[q],x=>[q.c x]
 |q::q'::l,x=>q.c x.1::Res.cells (q'::l) x.2
def Res.read:(R:List Q)->List C->Option (Res R)
 |[],[]=>some ()
 |[q],[c]=>q.rc c
 |q::q'::l,c::cs=>
  match q.rc c with
  |some x=>
   match Res.read (q'::l) cs with
   |some y=>some (x,y)
   |none=>none
  |none=>none
 |_,_=>none
theorem Res.read_some:∀ {R:List Q} {cs:List C} {z:Res R},Res.read R cs=some z->cs=Res.cells R z
 |[],[],z,h=>rfl
 |[],_::_,z,h=>by simp[Res.read] at h
 |[q],[],z,h=>by simp[Res.read] at h
 |[q],[c],z,h=>by simp only[Res.read] at h;rw[Q.rc_some h];rfl
 |[q],c::c'::cs,z,h=>by simp[Res.read] at h
 |q::q'::l,[],z,h=>by simp[Res.read] at h
 |q::q'::l,c::cs,z,h=>by
  simp only[Res.read] at h
  split at h
  ·rename_i x hx
   split at h
   ·rename_i y hy
    injection h with h
    subst h
    rw[Q.rc_some hx,Res.read_some hy]
    rfl
   ·cases h
  ·cases h
def ownC:List C->List C->Option (List C)
 |[],[]=>some []
 |.own _::cs,x::xs=>
  match ownC cs xs with
  |some l=>some (x::l)
  |none=>none
 |.d _::cs,_::xs=>ownC cs xs
 |_,_=>none
def ownA (lo:Bool):List A->List Out->Option (List C)
 |[],[]=>some []
 |.own _ cs::l,os=>
  bif lo then
   match os with
   |.lost::os=>ownA lo l os
   |_=>none
  else
  match os with
  |.own xs::os=>
   match ownC cs xs with
   |some a=>
    match ownA lo l os with
    |some b=>some (a++b)
    |none=>none
   |none=>none
  |_=>none
 |.box _::l,os=>
  match os with
  |.box xs::os=>
   match ownA lo l os with
   |some b=>some (xs++b)
   |none=>none
  |_=>none
 |_::l,os=>ownA lo l os
 |[],_::_=>none
def putC:List C->List C->List C×List C
 |[],ws=>([],ws)
 |.d x::cs,ws=>(.d x::(putC cs ws).1,(putC cs ws).2)
 |.own _::cs,w::ws=>(w::(putC cs ws).1,(putC cs ws).2)
 |.own _::_,[]=>([],[])
def putO (lo:Bool):List A->List C->List Out
 |[],_=>[]
 |.own _ cs::l,ws=>bif lo then .lost::putO lo l ws else .own (putC cs ws).1::putO lo l (putC cs ws).2
 |.box cs::l,ws=>.box (ws.take cs.length)::putO lo l (ws.drop cs.length)
 |_::l,ws=>putO lo l ws
theorem putC_own:∀ {cs xs a:List C} (ws:List C),ownC cs xs=some a->(∀ (i:Nat) (x:D),cs[i]? = some (.d x)->xs[i]? = some (.d x))->putC cs (a++ws)=(xs,ws)
 |[],[],a,ws,h,_=>by obtain rfl:=Option.some.inj h;rfl
 |[],_::_,a,ws,h,_=>by simp[ownC] at h
 |.own _::cs,[],a,ws,h,_=>by simp[ownC] at h
 |.own _::cs,x::xs,a,ws,h,g=>by
  simp only[ownC] at h
  split at h
  ·rename_i l hl
   injection h with h
   subst h
   simp only[List.cons_append,putC,putC_own ws hl (λi y hy=>g (i+1) y hy)]
  ·cases h
 |.d _::cs,[],a,ws,h,_=>by simp[ownC] at h
 |.d y::cs,x::xs,a,ws,h,g=>by
  simp only[ownC] at h
  have e:=g 0 y rfl
  simp at e
  subst e
  simp only[putC,putC_own ws h (λi y hy=>g (i+1) y hy)]
theorem putO_own {lo:Bool} {l:List A}:∀ {os:List Out} {a:List C},ownA lo l os=some a->Z2 l os->putO lo l a=os:=by
 induction l with
 |nil=>
  intro os a h g
  simp only[Z2] at g
  subst g
  rfl
 |cons x l ih=>
  intro os a h g
  cases x with
  |own _ cs=>
   simp only[Z2] at g
   simp only[ownA] at h
   cases lo with
   |true=>
    simp only[cond_true] at h
    split at h
    ·rename_i os'
     rcases g with⟨os2,e,g⟩|⟨cs',os2,e,_⟩
     ·injection e with _ e
      subst e
      simp only[putO,cond_true,ih h g]
     ·cases e
    ·cases h
   |false=>
    simp only[cond_false] at h
    split at h
    ·rename_i xs os'
     rcases g with⟨os2,e,g⟩|⟨cs',os2,e,g1,g2,g3⟩
     ·cases e
     ·injection e with e1 e2
      injection e1 with e1
      subst e1 e2
      split at h
      ·rename_i a1 h1
       split at h
       ·rename_i b hb
        obtain rfl:=Option.some.inj h
        simp only[putO,cond_false,putC_own b h1 g2,ih hb g3]
       ·cases h
      ·cases h
    ·cases h
  |box cs=>
   simp only[Z2] at g
   obtain⟨cs',os',rfl,g1,g2⟩:=g
   simp only[ownA] at h
   split at h
   ·rename_i b hb
    obtain rfl:=Option.some.inj h
    simp only[putO,<- g1,List.take_left,List.drop_left,ih hb g2]
   ·cases h
  |_=>
   simp only[Z2] at g
   simp only[ownA] at h
   exact ih h g
def cutL:List Nat->List C->List (List C)×List C
 |[],cs=>([],cs)
 |n::sh,cs=>(cs.take n::(cutL sh (cs.drop n)).1,(cutL sh (cs.drop n)).2)
def lensB:List (List C)->List Nat->Bool
 |[],[]=>true
 |r::rs,n::sh=>r.length==n&&lensB rs sh
 |_,_=>false
theorem cutL_join:∀ {sh:List Nat} {rs:List (List C)} (ws:List C),lensB rs sh=true->cutL sh (rs.flatten++ws)=(rs,ws)
 |[],[],ws,_=>rfl
 |[],_::_,ws,h=>by cases h
 |_::_,[],ws,h=>by cases h
 |n::sh,r::rs,ws,h=>by
  simp only[lensB,Bool.and_eq_true,beq_iff_eq] at h
  obtain⟨h1,h2⟩:=h
  subst h1
  simp[cutL,cutL_join ws h2]
def decA (lo:Bool) (l:List A) (sh:List Nat) (R:List Q) (rs:List (List C)) (os:List Out):Option (Res R):=
 bif lensB rs sh then
  match ownA lo l os with
  |some ws=>Res.read R (rs.flatten++ws)
  |none=>none
 else none
def encA {β:Type} (lo:Bool) (l:List A) (sh:List Nat) (R:List Q) (K:List (List C)->List Out->Option β) (z:Res R):Option β:=
 K (cutL sh (Res.cells R z)).1 (putO lo l (cutL sh (Res.cells R z)).2)
theorem decA_inj {lo:Bool} {l:List A} {sh:List Nat} {R:List Q} {rs:List (List C)} {os:List Out} {z:Res R} (h:decA lo l sh R rs os=some z) (g:Z2 l os):
  rs=(cutL sh (Res.cells R z)).1/\os=putO lo l (cutL sh (Res.cells R z)).2:=by
 unfold decA at h
 cases hl:lensB rs sh with
 |false=>rw[hl] at h;cases h
 |true=>
  rw[hl] at h
  simp only[cond_true] at h
  split at h
  ·rename_i ws hw
   rw[<- Res.read_some h,cutL_join ws hl]
   exact⟨rfl,(putO_own hw g).symm⟩
  ·cases h
def entRun {β:Type} (lo:Bool) {as:List AQ} {sh:List Nat} {R:List Q} (t:CurA (Option (Res R)) as) (l:List A) (K:List (List C)->List Out->Option β):Option β:=
 match prsA as l t with
 |some o=>
  match o with
  |some z=>encA lo l sh R K z
  |none=>none
 |none=>none
def ent (as:List AQ) (sh:List Nat) (R:List Q) (rts:List TypeId) (al:Bool) (t:CurA (Option (Res R)) as) (lo:Bool:=false) (ow:Bool:=false):Zj:=
 { modes:=as.map AQ.mode,rts:=rts,al:=al,ow:=ow,run:=λl K=>entRun lo (sh:=sh) t l K }
def Env.of:List (Nat×Zj)->Env
 |[]=>λ_=>none
 |x::l=>λg=>bif g==x.1 then some x.2 else Env.of l g
def AllE (P:Program):List (Nat×Zj)->Prop
 |[]=>True
 |[x]=>Zf P x.1 x.2
 |x::y::l=>Zf P x.1 x.2/\AllE P (y::l)
theorem AllE.env {P:Program}:∀ {l:List (Nat×Zj)},AllE P l->EnvOK P (Env.of l)
 |[],_=>env_nil
 |[x],h=>env_cons h env_nil
 |x::y::l,h=>env_cons h.1 (AllE.env (l:=y::l) h.2)
structure Pro where
 P:Program
 E:List (Nat×Zj)
 h:Hints
 k:Nat
noncomputable def Pro.run {β:Type} (p:Pro) (fn:Func) (l:List A) (K:List (List C)->List Out->Option β):Option β:=funDen p.P (Env.of p.E) p.h p.k fn l K
noncomputable def Pro.fin (p:Pro) (fn:Func) (l:List A) (sh:List Nat) (R:List Q) (lo:Bool:=false):Ex->St->Option (Res R):=finDen p.P fn p.h l (decA lo l sh R)
noncomputable def Pro.lp {β:Type} (p:Pro) (c:Code) (rid:Nat) (path:List Nat) (K:Ex->St->Option β) (k:Nat) (s:St):Option β:=
 Zct (λs K=>den p.P (Env.of p.E) p.h.H p.h.J p.k (codeAt (path++[0]) c) s K) (p.h.H rid) k s (contAt p.P (Env.of p.E) p.h p.k path c K)
noncomputable def Pro.ct {β:Type} (p:Pro) (c:Code) (path:List Nat) (K:Ex->St->Option β):Ex->St->Option β:=contAt p.P (Env.of p.E) p.h p.k path c K
def keepAt:List (Nat×Keep)->Nat->Keep
 |[],_=>⟨[],[]⟩
 |x::l,n=>bif n==x.1 then x.2 else keepAt l n
def Zv (l:List (Nat×Keep)) (al:Bool) (ra:List (List Bool)) (ow:Bool:=false) (lo:Bool:=false):Hints:=⟨keepAt l,λ_=>none,al,ra,ow,lo⟩
def kp (l:List Nat) (m:List (Nat×KA):=[]) (c:List (Nat×Nat×KA):=[]):Keep:=⟨l.map (λi=>(i,.asis))++m,c⟩
def slotsAt:Nat->Nat->List (Nat×T)->List T
 |0,_,_=>[]
 |n+1,i,[]=>.any::slotsAt n (i+1) []
 |n+1,i,x::l=>bif i==x.1 then x.2::slotsAt n (i+1) l else .any::slotsAt n (i+1) (x::l)
def ZaA (n:Nat) (l:List (Nat×T)) (ob:List Obj):St:=⟨slotsAt n 0 l,ob⟩
def proOk (fn:Func) (as:List AQ) (rts:List TypeId) (al ow:Bool) (p:Pro):Bool:=
 fn.name != "runtime.NumGoroutine" && fn.body.isSome && ZbH p.P (as.map AQ.mode) (fn.params.toList ++ List.replicate fn.nfree 0) && rts == fn.resultTypes.toList && al == p.h.al && ow == p.h.ow
theorem Zk (p:Pro) (hmix:p.P.follows .mixedOrders=true) (hT:Zar p.P) {f:FuncId} {fn:Func} (hf:p.P.funcs[f]? = some fn) {as:List AQ} {sh:List Nat} {R:List Q} {rts:List TypeId} {al:Bool} {t:CurA (Option (Res R)) as} {lo ow:Bool}
  (hE:AllE p.P p.E) (hc:proOk fn as rts al ow p=true) (heq:AllA as (λl z=>p.run fn l (decA lo l sh R)=z) t):Zf p.P f (ent as sh R rts al t lo ow):=by
 simp only[proOk,Bool.and_eq_true,beq_iff_eq] at hc
 obtain⟨⟨⟨⟨⟨h1,h2⟩,h3⟩,h4⟩,h5⟩,h6⟩:=hc
 obtain⟨c,hb⟩:=Option.isSome_iff_exists.mp h2
 refine entry_of hmix hT (h:=p.h) (k:=p.k) hf hb hE.env h3 h4 h5 h6 (enter_of hf (by rw[h1,h2];rfl)) (λβ l K r hr=>?_)
 simp only[ent,entRun] at hr
 split at hr
 ·rename_i o hz
  split at hr
  ·rename_i z
   exact⟨_,_,hr,_,decA lo l sh R,z,prsA_all hz heq,λrs os h ho=>decA_inj h ho⟩
  ·cases hr
 ·cases hr
theorem Zba {P : Program} {f : FuncId} {fn : Func} (hf : P.funcs[f]? = some fn) {as : List AQ} {sh : List Nat} {R : List Q} {rts : List TypeId} {al : Bool} {t : CurA (Option (Res R)) as} {lo ow : Bool} (hc : (fn.name != "runtime.NumGoroutine" && fn.body.isSome) = true)
  (heq:AllA as (λ_ z=>z=none) t):Zf P f (ent as sh R rts al t lo ow):=by
 refine entry_zero (enter_of hf hc) λβ l K r h=>?_
 simp only[ent,entRun] at h
 split at h
 ·rename_i o hz
  have:=prsA_all hz heq
  subst this
  cases h
 ·cases h
theorem ent_run (e:Zj) {as:List AQ} {sh:List Nat} {R:List Q} {rts:List TypeId} {al:Bool} {t:CurA (Option (Res R)) as} {lo ow:Bool} (he:e=ent as sh R rts al t lo ow) {β:Type} {l:List A} {K:List (List C)->List Out->Option β} {r:Option β} {z:Res R}
  (h:prsA as l t=some (some z)) (hr:encA lo l sh R K z=r):e.run l K=r:=by
 subst he
 simp only[ent,entRun,h]
 exact hr
def Q.ask {β:Type}:(q:Q)->D->(q.ty->Option β)->Option β
 |.i k,d,F=>dInt k d F
 |.b,d,F=>dBool d F
 |.s,d,F=>dStr d F
 |.l,d,F=>dSl d F
 |.o,_,_=>none
def rdQ {β:Type}:(l:List Q)->List D->CurQ (Option β) l->Option β
 |[],ds,F=>atEnd ds F
 |q::l,ds,F=>ZaJ ds λd r=>q.ask d λx=>rdQ l r (F x)
def Q.askC {β:Type}:(q:Q)->C->(q.ty->Option β)->Option β
 |.i k,c,F=>cD c λd=>dInt k d F
 |.b,c,F=>cD c λd=>dBool d F
 |.s,c,F=>cD c λd=>dStr d F
 |.l,c,F=>cD c λd=>dSl d F
 |.o,c,F=>cOwn c F
def rcQ {β:Type}:(l:List Q)->List C->CurQ (Option β) l->Option β
 |[],cs,F=>atEnd cs F
 |q::l,cs,F=>ZaJ cs λc r=>q.askC c λx=>rcQ l r (F x)
def atC {β:Type} (xs:List (List C)) (i:Nat) (l:List Q) (F:CurQ (Option β) l):Option β:=ZaR xs i λc=>rcQ l c F
def atR {β:Type} (xs:List (List D)) (i:Int) (l:List Q) (F:CurQ (Option β) l):Option β:=atRow xs i λc=>rdQ l c F
section
variable {α₁ α₂ α₃ α₄ α₅ α₆ β:Type}
def bd1 (t:Option α₁) (K:α₁->Option β):Option β:=match t with|some z=>K z|none=>none
def bd2 (t:Option (α₁×α₂)) (K:α₁->α₂->Option β):Option β:=match t with|some z=>K z.1 z.2|none=>none
def bd3 (t:Option (α₁×α₂×α₃)) (K:α₁->α₂->α₃->Option β):Option β:=match t with|some z=>K z.1 z.2.1 z.2.2|none=>none
def bd4 (t:Option (α₁×α₂×α₃×α₄)) (K:α₁->α₂->α₃->α₄->Option β):Option β:=match t with|some z=>K z.1 z.2.1 z.2.2.1 z.2.2.2|none=>none
def bd5 (t:Option (α₁×α₂×α₃×α₄×α₅)) (K:α₁->α₂->α₃->α₄->α₅->Option β):Option β:=match t with|some z=>K z.1 z.2.1 z.2.2.1 z.2.2.2.1 z.2.2.2.2|none=>none
end
end Go.T
