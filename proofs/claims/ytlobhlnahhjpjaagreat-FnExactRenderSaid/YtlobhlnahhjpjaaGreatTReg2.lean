/- Regions whose order is drawn: what each operation did in the text's order,and which may change places. -/
import Derived.Test.YtlobhlnahhjpjaaGreatTReg1
set_option linter.unusedVariables false
set_option linter.unusedSimpArgs false
namespace Go.T
structure ZF where
 s:St
 o:Oper
 ran:Bool
 e:Eff
def ZF.act (d:ZF) (σ:St):St:=σ.eff d.o.dst d.s.ob.length d.e
def ZF.next (d:ZF):St:=d.s.app d.o.dst d.e
def ZF.tch (d:ZF):List Nat:=bif d.ran then Za9 d.o d.s++subOf d.next d.o.dst else[]
def ZF.chg (d:ZF):List Nat:=bif d.ran then turned d.o d.s d.next++madeIn d.s d.next else[]
def Zbd:St->List ZF->St->Prop
 |st,[],st'=>st=st'
 |st,d::ds,st'=>d.s=st/\Zbd d.next ds st'
def SepH (h:Past) (d:ZF):Prop:=(∀ x∈d.chg,x∉h.tch)/\(∀ x∈d.tch,x∉h.chg)/\∀ x∈d.chg,x∉h.chg
def SepD (d d':ZF):Prop:=(∀ x∈d'.chg,x∉d.tch)/\(∀ x∈d'.tch,x∉d.chg)/\∀ x∈d'.chg,x∉d.chg
structure DOk (P:Program) (ops:Array Oper) (bs:Array Nat) (n m:Nat) (d:ZF):Prop where
 lt:∀ p∈d.e.chg,p.1<d.s.ob.length
 skip:d.ran=false->d.e=⟨.undef,[],[]⟩/\∃ j want dd,d.o.guard=some (j,want)/\(ops[j]?).bind (·.dst)=some dd/\((∃ f,d.s.tm.getD dd .any=.d f (.bool (!want)))\/d.s.tm.getD dd .any=.undef)
 run:d.ran=true->(∀ X w0,OpOk P X w0 d.o d.s d.e)/\(d.o.guard=none\/∃ j want dd f,d.o.guard=some (j,want)/\(ops[j]?).bind (·.dst)=some dd/\d.s.tm.getD dd .any=.d f (.bool want))
 seen:d.ran=true->Zaz bs n m=true\/∀ p∈d.e.chg,p.1∈d.chg
def SeqIn (bs:Array Nat) (n i j:Nat):Prop:=∃ p,i<=p/\p<=j/\Zaz bs n p=true
theorem meets_false {a b:List Nat} (h:meets a b=false):∀ x∈a,x∉b:=by
 intro x hx hb
 have:meets a b=true:=by
  unfold meets
  rw[List.any_eq_true]
  exact⟨x,hx,by simpa using hb⟩
 rw[h] at this;cases this
section
variable {P:Program} {E:Env} {β:Type} {r:β}
theorem drawOp_inv (hT:Zar P) (hE:EnvOK P E) {n:Nat} {bs:Array Nat} {o:Oper} {i:Nat} {st:St} {hs:List Past} {kk:St->List Past->Option β} (h:drawOp P E n bs o i st hs kk=some r):
  ∃ e:Eff,∃ hs',kk (st.app o.dst e) hs'=some r/\(∀ p∈e.chg,p.1<st.ob.length)/\(∀ X w0,OpOk P X w0 o st e)/\
   ((Zaz bs n i=true/\hs'=[])\/((∀ p∈e.chg,p.1∈(ZF.mk st o true e).chg)/\hs'=⟨i,(ZF.mk st o true e).tch,(ZF.mk st o true e).chg⟩::hs/\∀ h∈hs,(bs.getD i 0).testBit h.i=true\/SepH h (ZF.mk st o true e))):=by
 unfold drawOp at h
 cases hq:Zaz bs n i with
 |true=>
  rw[hq] at h
  simp only[cond_true] at h
  obtain⟨e,h1,h2,_,h4⟩:=op_sound hT hE h
  exact⟨e,[],h1,h2,h4,.inl ⟨rfl,rfl⟩⟩
 |false=>
  rw[hq] at h
  simp only[cond_false] at h
  obtain⟨e,h1,h2,h3,h4⟩:=op_sound hT hE h
  simp only[] at h1
  cases hqq:quietOp E o st (st.app o.dst e) with
  |false=>rw[hqq] at h1;simp at h1
  |true=>
   rw[hqq] at h1
   simp only[cond_true] at h1
   cases hp:pastOk bs i (Za9 o st++subOf (st.app o.dst e) o.dst) (turned o st (st.app o.dst e)++madeIn st (st.app o.dst e)) hs with
   |false=>rw[hp] at h1;simp at h1
   |true=>
    rw[hp] at h1
    simp only[cond_true] at h1
    refine⟨e,_,h1,h2,h4,.inr ⟨λp hp=>?_,rfl,λx hx=>?_⟩⟩
    ·exact List.mem_append_left _ (h3 hqq p hp)
    ·unfold pastOk at hp
     rw[List.all_eq_true] at hp
     have:=hp x hx
     simp only[Bool.or_eq_true,Bool.not_eq_true'] at this
     rcases this with q|q
     ·exact .inl q
     ·simp only[Bool.or_eq_false_iff] at q
      obtain⟨⟨q1,q2⟩,q3⟩:=q
      refine .inr ⟨λy hy hz=>meets_false q1 y hz hy,λy hy hz=>meets_false q2 y hz hy,λy hy hz=>meets_false q3 y hz hy⟩
theorem draw_trace (hT:Zar P) (hE:EnvOK P E) {ops:Array Oper} {bs:Array Nat} {k:St->Option β}:∀ {l:List Oper} {i:Nat} {hs:List Past} {st:St},ZbC P E ops bs l i hs st k=some r->
  ∃ ds st',ds.map (·.o)=l/\Zbd st ds st'/\k st'=some r/\(∀ m d,ds[m]? = some d->DOk P ops bs ops.size (i+m) d)/\
   (∀ m d,ds[m]? = some d->d.ran=true->∀ h∈hs,(bs.getD (i+m) 0).testBit h.i=true\/SeqIn bs ops.size i (i+m)\/SepH h d)/\
   (∀ m m' d d',m<m'->ds[m]? = some d->ds[m']? = some d'->d.ran=true->d'.ran=true->(bs.getD (i+m') 0).testBit (i+m)=true\/SeqIn bs ops.size (i+m) (i+m')\/SepD d d')
 |[],i,hs,st,h=>by
  simp only[ZbC] at h
  exact⟨[],st,rfl,rfl,h,by simp,by simp,by simp⟩
 |o::l,i,hs,st,h=>by
  have skip:∀ (_:ZbC P E ops bs l (i+1) hs (st.put o.dst .undef) k=some r) (hw:∃ j want dd,o.guard=some (j,want)/\(ops[j]?).bind (·.dst)=some dd/\((∃ f,st.tm.getD dd .any=.d f (.bool (!want)))\/st.tm.getD dd .any=.undef)),
    ∃ ds st',ds.map (·.o)=o::l/\Zbd st ds st'/\k st'=some r/\(∀ m d,ds[m]? = some d->DOk P ops bs ops.size (i+m) d)/\
     (∀ m d,ds[m]? = some d->d.ran=true->∀ h∈hs,(bs.getD (i+m) 0).testBit h.i=true\/SeqIn bs ops.size i (i+m)\/SepH h d)/\
     (∀ m m' d d',m<m'->ds[m]? = some d->ds[m']? = some d'->d.ran=true->d'.ran=true->(bs.getD (i+m') 0).testBit (i+m)=true\/SeqIn bs ops.size (i+m) (i+m')\/SepD d d'):=by
   intro h hw
   obtain⟨ds,st',e1,e2,e3,e4,e5,e6⟩:=draw_trace hT hE h
   refine⟨⟨st,o,false,⟨.undef,[],[]⟩⟩::ds,st',by simp[e1],⟨rfl,by rw[ZF.next,app_pure];exact e2⟩,e3,λm d hd=>?_,λm d hd hr=>?_,λm m' d d' hm hd hd' hr hr'=>?_⟩
   ·cases m with
    |zero=>simp at hd;subst hd;exact⟨by simp,λ_=>⟨rfl,hw⟩,by simp,by simp⟩
    |succ m=>rw[show i+(m+1)=i+1+m from by omega];exact e4 m d (by simpa using hd)
   ·cases m with
    |zero=>simp at hd;subst hd;simp at hr
    |succ m=>
     intro x hx
     rw[show i+(m+1)=i+1+m from by omega]
     rcases e5 m d (by simpa using hd) hr x hx with q|⟨p,q1,q2,q3⟩|q
     ·exact .inl q
     ·exact .inr (.inl ⟨p,by omega,q2,q3⟩)
     ·exact .inr (.inr q)
   ·cases m' with
    |zero=>omega
    |succ m'=>
     cases m with
     |zero=>simp at hd;subst hd;simp at hr
     |succ m=>
      rw[show i+(m+1)=i+1+m from by omega,show i+(m'+1)=i+1+m' from by omega]
      exact e6 m m' d d' (by omega) (by simpa using hd) (by simpa using hd') hr hr'
  have run:∀ (_:drawOp P E ops.size bs o i st hs (λst' hs'=>ZbC P E ops bs l (i+1) hs' st' k)=some r) (hw:o.guard=none\/∃ j want dd f,o.guard=some (j,want)/\(ops[j]?).bind (·.dst)=some dd/\st.tm.getD dd .any=.d f (.bool want)),
    ∃ ds st',ds.map (·.o)=o::l/\Zbd st ds st'/\k st'=some r/\(∀ m d,ds[m]? = some d->DOk P ops bs ops.size (i+m) d)/\
     (∀ m d,ds[m]? = some d->d.ran=true->∀ h∈hs,(bs.getD (i+m) 0).testBit h.i=true\/SeqIn bs ops.size i (i+m)\/SepH h d)/\
     (∀ m m' d d',m<m'->ds[m]? = some d->ds[m']? = some d'->d.ran=true->d'.ran=true->(bs.getD (i+m') 0).testBit (i+m)=true\/SeqIn bs ops.size (i+m) (i+m')\/SepD d d'):=by
   intro h hw
   obtain⟨e,hs',h1,h2,h3,h4⟩:=drawOp_inv hT hE h
   obtain⟨ds,st',e1,e2,e3,e4,e5,e6⟩:=draw_trace hT hE h1
   refine⟨⟨st,o,true,e⟩::ds,st',by simp[e1],⟨rfl,e2⟩,e3,λm d hd=>?_,λm d hd hr=>?_,λm m' d d' hm hd hd' hr hr'=>?_⟩
   ·cases m with
    |zero=>
     simp at hd;subst hd
     refine⟨h2,by simp,λ_=>⟨h3,hw⟩,λ_=>?_⟩
     rcases h4 with⟨q,_⟩|⟨q,_,_⟩
     ·exact .inl q
     ·exact .inr q
    |succ m=>rw[show i+(m+1)=i+1+m from by omega];exact e4 m d (by simpa using hd)
   ·intro x hx
    cases m with
    |zero=>
     simp at hd;subst hd
     rcases h4 with⟨q,_⟩|⟨_,_,q⟩
     ·exact .inr (.inl ⟨i,Nat.le_refl _,by omega,q⟩)
     ·rcases q x hx with q|q
      ·exact .inl q
      ·exact .inr (.inr q)
    |succ m=>
     rw[show i+(m+1)=i+1+m from by omega]
     rcases h4 with⟨q,_⟩|⟨_,rfl,_⟩
     ·exact .inr (.inl ⟨i,Nat.le_refl _,by omega,q⟩)
     ·rcases e5 m d (by simpa using hd) hr x (by simp[hx]) with q|⟨p,q1,q2,q3⟩|q
      ·exact .inl q
      ·exact .inr (.inl ⟨p,by omega,q2,q3⟩)
      ·exact .inr (.inr q)
   ·cases m' with
    |zero=>omega
    |succ m'=>
     cases m with
     |zero=>
      simp at hd;subst hd
      rw[show i+(m'+1)=i+1+m' from by omega]
      rcases h4 with⟨q,_⟩|⟨_,rfl,_⟩
      ·exact .inr (.inl ⟨i,by omega,by omega,q⟩)
      ·rcases e5 m' d' (by simpa using hd') hr' _ (List.mem_cons_self) with q|⟨p,q1,q2,q3⟩|q
       ·exact .inl (by simpa using q)
       ·exact .inr (.inl ⟨p,by omega,q2,q3⟩)
       ·exact .inr (.inr q)
     |succ m=>
      rw[show i+(m+1)=i+1+m from by omega,show i+(m'+1)=i+1+m' from by omega]
      exact e6 m m' d d' (by omega) (by simpa using hd) (by simpa using hd') hr hr'
  simp only[ZbC] at h
  split at h
  ·rename_i hg
   exact run h (.inl hg)
  ·rename_i j want hg
   split at h
   case h_1=>cases h
   rename_i d hd
   split at h
   ·rename_i f b ht
    cases b with
    |true=>
     rw[put_same ht (by simp)] at h
     cases want with
     |true=>exact run h (.inr ⟨j,true,d,f,hg,hd,ht⟩)
     |false=>exact skip h ⟨j,false,d,hg,hd,.inl ⟨f,ht⟩⟩
    |false=>
     rw[put_same ht (by simp)] at h
     cases want with
     |true=>exact skip h ⟨j,true,d,hg,hd,.inl ⟨f,ht⟩⟩
     |false=>exact run h (.inr ⟨j,false,d,f,hg,hd,ht⟩)
   ·rename_i ht
    exact skip h ⟨j,want,d,hg,hd,.inr ht⟩
   ·cases h
end
def Zcc (n:Nat):List Obj->List (Nat×Obj)
 |[]=>[]
 |o::os=>(n,o)::Zcc (n+1) os
theorem setNews_chg:∀ (os:List Obj) (ob:List Obj) (n:Nat),Zbm ob n os=ZG ob (Zcc n os)
 |[],_,_=>rfl
 |o::os,ob,n=>by
  show Zbm (ob.set n o) (n+1) os=ZG (ob.set n o) (Zcc (n+1) os)
  exact setNews_chg os _ _
theorem newsChg_mem:∀ {os:List Obj} {n:Nat} {p:Nat×Obj},p∈Zcc n os->n<=p.1/\p.1<n+os.length
 |[],_,_,h=>by cases h
 |o::os,n,p,h=>by
  rcases List.mem_cons.mp h with rfl|h
  ·simp
  ·have:=newsChg_mem h
   simp;omega
theorem eff_eq (st:St) (dst:Option Nat) (n:Nat) (e:Eff):st.eff dst n e=(St.mk (st.tm.map (Zw e.chg)) (ZG st.ob (e.chg++Zcc n e.news))).put dst e.t:=by
 simp only[St.eff,setNews_chg,Zbg]
theorem setObs_comm_one (l:List (Nat×Obj)):∀ (ob:List Obj) (i:Nat) (o:Obj),(∀ p∈l,p.1≠i)->ZG (ob.set i o) l=(ZG ob l).set i o:=by
 induction l with
 |nil=>intro ob i o _;rfl
 |cons p l ih=>
  intro ob i o h
  show ZG ((ob.set i o).set p.1 p.2) l=(ZG (ob.set p.1 p.2) l).set i o
  rw[<- ih _ i o (λq hq=>h q (by simp[hq])),List.set_comm _ _ (λe=>h p (by simp) e.symm)]
theorem setObs_comm:∀ (l1 l2:List (Nat×Obj)) (ob:List Obj),(∀ p∈l1,∀ q∈l2,p.1≠q.1)->ZG (ZG ob l1) l2=ZG (ZG ob l2) l1
 |[],_,_,_=>rfl
 |p::l1,l2,ob,h=>by
  show ZG (ZG (ob.set p.1 p.2) l1) l2=ZG ((ZG ob l2).set p.1 p.2) l1
  rw[setObs_comm l1 l2 _ (λa ha b hb=>h a (by simp[ha]) b hb),setObs_comm_one l2 _ _ _ (λq hq e=>h p (by simp) q hq e.symm)]
theorem killSub_comm (i j:Nat) (t:T):ZX i (ZX j t)=ZX j (ZX i t):=by
 cases t with
 |sub k a b=>
  by_cases h1:k=i<;>by_cases h2:k=j<;>simp[ZX,h1,h2]<;>(try subst h1)<;>simp_all [ZX]
 |_=>rfl
theorem killAll_one (l:List (Nat×Obj)):∀ (i:Nat) (t:T),Zw l (ZX i t)=ZX i (Zw l t):=by
 induction l with
 |nil=>intro i t;rfl
 |cons p l ih=>
  intro i t
  show Zw l (ZX p.1 (ZX i t))=ZX i (Zw l (ZX p.1 t))
  rw[killSub_comm,ih]
theorem killAll_comm:∀ (l1 l2:List (Nat×Obj)) (t:T),Zw l1 (Zw l2 t)=Zw l2 (Zw l1 t)
 |[],_,_=>rfl
 |p::l1,l2,t=>by
  show Zw l1 (ZX p.1 (Zw l2 t))=Zw l2 (Zw l1 (ZX p.1 t))
  rw[<- killAll_one l2,killAll_comm l1 l2]
theorem killAll_id (l:List (Nat×Obj)) (t:T) (h:∀ id j off,t=.sub id j off->∀ p∈l,p.1≠id):Zw l t=t:=by
 induction l with
 |nil=>rfl
 |cons p l ih=>
  show Zw l (ZX p.1 t)=t
  have:ZX p.1 t=t:=by
   cases t with
   |sub id j off=>
    have:=h id j off rfl p (by simp)
    simp only[ZX]
    rw[if_neg (λe=>this e.symm)]
   |_=>rfl
  rw[this]
  exact ih λid j off e q hq=>h id j off e q (by simp[hq])
structure Swap (N:Nat) (d d':ZF):Prop where
 dst:∀ x,d.o.dst=some x->d'.o.dst≠some x
 ids:∀ p∈d.e.chg++Zcc d.s.ob.length d.e.news,∀ q∈d'.e.chg++Zcc d'.s.ob.length d'.e.news,p.1≠q.1
 kill:∀ x,d.o.dst=some x->x<N->∀ id j off,d.e.t=.sub id j off->∀ p∈d'.e.chg,p.1≠id
 kill':∀ x,d'.o.dst=some x->x<N->∀ id j off,d'.e.t=.sub id j off->∀ p∈d.e.chg,p.1≠id
theorem put_kill (σ:St) (dst:Option Nat) (t:T) (l m:List (Nat×Obj)) (h:∀ x,dst=some x->x<σ.tm.length->Zw l t=t):St.mk (((σ.put dst t).tm).map (Zw l)) (ZG (σ.put dst t).ob m)=(St.mk (σ.tm.map (Zw l)) (ZG σ.ob m)).put dst t:=by
 cases dst with
 |none=>rfl
 |some x=>
  simp only[St.put]
  rw[List.map_set]
  rcases Nat.lt_or_ge x σ.tm.length with q|q
  ·rw[h x rfl q]
  ·rw[List.set_eq_of_length_le (by simpa using q),List.set_eq_of_length_le (by simpa using q)]
theorem put_put (σ:St) (x y:Option Nat) (t u:T) (h:∀ d,x=some d->y≠some d):(σ.put x t).put y u=(σ.put y u).put x t:=by
 cases x with
 |none=>rfl
 |some x=>
  cases y with
  |none=>rfl
  |some y=>
   simp only[St.put]
   rw[List.set_comm _ _ (λe=>h x rfl (by rw[e]))]
theorem Swap.comm {N:Nat} {d d':ZF} (h:Swap N d d') (σ:St) (hN:σ.tm.length=N):d'.act (d.act σ)=d.act (d'.act σ):=by
 simp only[ZF.act,eff_eq]
 rw[put_kill _ _ _ _ _ (λx hx hl=>killAll_id _ _ (h.kill x hx (by simpa[hN] using hl))),put_kill _ _ _ _ _ (λx hx hl=>killAll_id _ _ (h.kill' x hx (by simpa[hN] using hl)))]
 rw[put_put _ _ _ _ _ h.dst]
 simp only[List.map_map]
 rw[setObs_comm _ _ _ h.ids]
 have:Zw d'.e.chg∘Zw d.e.chg=Zw d.e.chg∘Zw d'.e.chg:=funext λt=>killAll_comm _ _ t
 rw[this]
end Go.T
