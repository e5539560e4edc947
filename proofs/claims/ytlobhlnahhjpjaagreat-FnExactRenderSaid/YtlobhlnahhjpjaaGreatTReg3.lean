/- Regions whose order is drawn: what waits for what; the state behind a part of the operations. -/
import Derived.Test.YtlobhlnahhjpjaaGreatTReg2
set_option linter.unusedVariables false
set_option linter.unusedSimpArgs false
namespace Go.T
def ZcF (acc:Array Nat) (o:Oper):Nat:=o.after.foldl (λs e=>if Region.binds .any e then s ||| 2^e.on ||| acc.getD e.on 0 else s) 0
theorem before_eq (ops:Array Oper):Region.before ops=ops.toList.foldl (λacc o=>acc.push (ZcF acc o)) #[]:=by
 unfold Region.before
 rw[<- Array.foldl_toList]
 rfl
theorem beforeOf_bit (acc:Array Nat) (o:Oper) (j:Nat) (h:(ZcF acc o).testBit j=true):∃ e∈o.after,Region.binds .any e=true/\(j=e.on\/(acc.getD e.on 0).testBit j=true):=by
 have gen:∀ (l:List Edge) (s:Nat),(l.foldl (λs e=>if Region.binds .any e then s ||| 2^e.on ||| acc.getD e.on 0 else s) s).testBit j=true->s.testBit j=true\/∃ e∈l,Region.binds .any e=true/\(j=e.on\/(acc.getD e.on 0).testBit j=true):=by
  intro l
  induction l with
  |nil=>intro s h;exact .inl h
  |cons e l ih=>
   intro s h
   rw[List.foldl_cons] at h
   rcases ih _ h with q|⟨e',he',q⟩
   ·split at q
    ·rename_i hb
     rw[Nat.testBit_or,Nat.testBit_or,Bool.or_eq_true,Bool.or_eq_true] at q
     rcases q with(q|q)|q
     ·exact .inl q
     ·rw[Nat.testBit_two_pow] at q
      exact .inr ⟨e,by simp,hb,.inl (by simp at q;exact q.symm)⟩
     ·exact .inr ⟨e,by simp,hb,.inr q⟩
    ·exact .inl q
   ·exact .inr ⟨e',by simp[he'],q⟩
 unfold ZcF at h
 rw[<- Array.foldl_toList] at h
 rcases gen o.after.toList 0 h with q|⟨e,he,q⟩
 ·simp at q
 ·exact⟨e,Array.mem_toList_iff.mp he,q⟩
theorem pushes_get {f:Array Nat->Oper->Nat}:∀ (l:List Oper) (acc:Array Nat) (i:Nat),i<acc.size->(l.foldl (λacc o=>acc.push (f acc o)) acc)[i]? = acc[i]?
 |[],_,_,_=>rfl
 |o::l,acc,i,h=>by
  rw[List.foldl_cons,pushes_get l _ i (by simp;omega),Array.getElem?_push,if_neg (by omega)]
theorem pushes_size {f:Array Nat->Oper->Nat}:∀ (l:List Oper) (acc:Array Nat),(l.foldl (λacc o=>acc.push (f acc o)) acc).size=acc.size+l.length
 |[],_=>rfl
 |o::l,acc=>by
  rw[List.foldl_cons,pushes_size l]
  simp;omega
theorem before_bit {ops:Array Oper} (hlt:∀ (j:Nat) (o:Oper),ops[j]? = some o->∀ e∈o.after,Region.binds .any e=true->e.on<j) {i j:Nat} {o:Oper} (ho:ops[i]? = some o) (h:((Region.before ops).getD i 0).testBit j=true):
  ∃ e∈o.after,Region.binds .any e=true/\(j=e.on\/((Region.before ops).getD e.on 0).testBit j=true):=by
 have hi:i<ops.toList.length:=by simpa using(Array.getElem?_eq_some_iff.mp ho).1
 have hl:ops.toList=ops.toList.take i++o::ops.toList.drop (i+1):=by
  have:ops.toList[i]=o:=by
   have:=(Array.getElem?_eq_some_iff.mp ho).2
   simpa using this
  rw[<- this,<- List.drop_eq_getElem_cons hi,List.take_append_drop]
 have htl:(ops.toList.take i).length=i:=by simp;simp at hi;omega
 have hsz:=pushes_size (f:=ZcF) (ops.toList.take i) #[]
 rw[htl] at hsz
 simp only[List.size_toArray,List.length_nil,Nat.zero_add] at hsz
 have hat:(Region.before ops)[i]? = some (ZcF ((ops.toList.take i).foldl (λacc o=>acc.push (ZcF acc o)) #[]) o):=by
  rw[before_eq,hl,List.foldl_append,List.foldl_cons,pushes_get _ _ _ (by simp;omega),Array.getElem?_push,if_pos hsz.symm]
  rw[<- hl]
 have hpre:∀ k,k<i->(Region.before ops)[k]? = ((ops.toList.take i).foldl (λacc o=>acc.push (ZcF acc o)) #[])[k]?:=by
  intro k hk
  rw[before_eq]
  conv=>lhs;rw[hl]
  rw[List.foldl_append,pushes_get _ _ _ (by omega)]
 rw[Array.getD_eq_getD_getElem?,hat,Option.getD_some] at h
 obtain⟨e,he,hb,q⟩:=beforeOf_bit _ _ _ h
 refine⟨e,he,hb,q.imp id λq=>?_⟩
 rw[Array.getD_eq_getD_getElem?] at q⊢
 rw[hpre e.on (hlt i o ho e he hb)]
 exact q
def Cl (bs:Array Nat) (L:Nat->Bool):Prop:=∀ i,L i=true->∀ j,(bs.getD i 0).testBit j=true->L j=true
theorem Zcb {bs:Array Nat} {n p:Nat} (h:Zaz bs n p=true) {j:Nat} (hj:j<n):(j<p->(bs.getD p 0).testBit j=true)/\(p<j->(bs.getD j 0).testBit p=true):=by
 unfold Zaz at h
 rw[List.all_eq_true] at h
 have:=h j (List.mem_range.mpr hj)
 constructor
 ·intro q
  rw[if_pos q] at this;exact this
 ·intro q
  rw[if_neg (by omega),if_pos q] at this;exact this
theorem dep_in {bs:Array Nat} {n:Nat} {L:Nat->Bool} (hc:Cl bs L) {m m':Nat} (hm:m<m') (hn:m'<n) (hp:∀ j,(bs.getD m' 0).testBit j=true->L j=true) (h:(bs.getD m' 0).testBit m=true\/SeqIn bs n m m'):L m=true:=by
 rcases h with h|⟨p,q1,q2,q3⟩
 ·exact hp m h
 ·by_cases e1:p=m'
  ·subst e1
   exact hp m ((Zcb q3 (j:=m) (by omega)).1 hm)
  ·by_cases e2:p=m
   ·subst e2
    exact hp p ((Zcb q3 hn).2 hm)
   ·have h1:=hp p ((Zcb q3 hn).2 (by omega))
    exact hc p h1 m ((Zcb q3 (j:=m) (by omega)).1 (by omega))
def ZR (L:Nat->Bool):List ZF->Nat->St->St
 |[],_,σ=>σ
 |d::ds,m,σ=>ZR L ds (m+1) (bif L m then d.act σ else σ)
theorem foldL_append (L:Nat->Bool):∀ (a b:List ZF) (m:Nat) (σ:St),ZR L (a++b) m σ=ZR L b (m+a.length) (ZR L a m σ)
 |[],_,_,_=>rfl
 |d::a,b,m,σ=>by
  show ZR L (a++b) (m+1) _=ZR L b (m+(a.length+1)) (ZR L a (m+1) _)
  rw[foldL_append L a b (m+1),show m+1+a.length=m+(a.length+1) from by omega]
theorem ZbU {L L':Nat->Bool}:∀ (ds:List ZF) (m:Nat) (σ:St),(∀ k,k<ds.length->L (m+k)=L' (m+k))->ZR L ds m σ=ZR L' ds m σ
 |[],_,_,_=>rfl
 |d::ds,m,σ,h=>by
  show ZR L ds (m+1) _=ZR L' ds (m+1) _
  have:=h 0 (by simp)
  rw[Nat.add_zero] at this
  rw[this]
  exact ZbU ds (m+1) _ λk hk=>by
   have:=h (k+1) (by simpa using hk)
   rwa[show m+1+k=m+(k+1) from by omega]
theorem foldL_none:∀ (ds:List ZF) (m:Nat) (σ:St),ZR (λ_=>false) ds m σ=σ
 |[],_,_=>rfl
 |d::ds,m,σ=>foldL_none ds (m+1) σ
theorem act_tm (d:ZF) (σ:St):(d.act σ).tm.length=σ.tm.length:=by
 simp only[ZF.act,eff_eq]
 cases d.o.dst<;>simp[St.put]
theorem act_ob (d:ZF) (σ:St):(d.act σ).ob=ZG σ.ob (d.e.chg++Zcc d.s.ob.length d.e.news):=by
 simp only[ZF.act,eff_eq,put_ob]
theorem foldL_tm (L:Nat->Bool):∀ (ds:List ZF) (m:Nat) (σ:St),(ZR L ds m σ).tm.length=σ.tm.length
 |[],_,_=>rfl
 |d::ds,m,σ=>by
  show(ZR L ds (m+1) _).tm.length=_
  rw[foldL_tm L ds]
  cases L m
  ·rfl
  ·exact act_tm d σ
theorem foldL_swap {N:Nat} {L:Nat->Bool} {d:ZF}:∀ (ds:List ZF) (m:Nat) (σ:St),σ.tm.length=N->(∀ k d',ds[k]? = some d'->L (m+k)=true->Swap N d d')->ZR L ds m (d.act σ)=d.act (ZR L ds m σ)
 |[],_,_,_,_=>rfl
 |d'::ds,m,σ,hN,h=>by
  show ZR L ds (m+1) _=d.act (ZR L ds (m+1) _)
  have hrest:∀ k d'',ds[k]? = some d''->L (m+1+k)=true->Swap N d d'':=λk d'' hd hl=>h (k+1) d'' (by simpa using hd) (by rwa[show m+(k+1)=m+1+k from by omega])
  cases hl:L m with
  |false=>exact foldL_swap ds (m+1) σ hN hrest
  |true=>
   simp only[cond_true]
   rw[(h 0 d' (by simp) hl).comm σ hN]
   exact foldL_swap ds (m+1) (d'.act σ) ((act_tm d' σ).trans hN) hrest
theorem foldL_add {N:Nat} {L:Nat->Bool} {ds:List ZF} {i:Nat} {d:ZF} {σ:St} (hd:ds[i]? = some d) (hi:L i=false) (hN:σ.tm.length=N) (h:∀ k d',ds[k]? = some d'->i<k->L k=true->Swap N d d'):
  ZR (λk=>k==i||L k) ds 0 σ=d.act (ZR L ds 0 σ):=by
 have hl:i<ds.length:=(List.getElem?_eq_some_iff.mp hd).1
 have hsp:ds=ds.take i++d::ds.drop (i+1):=by
  have:=(List.getElem?_eq_some_iff.mp hd).2
  rw[<- this,<- List.drop_eq_getElem_cons hl,List.take_append_drop]
 have htl:(ds.take i).length=i:=by simp;omega
 have key:∀ L',ZR L' ds 0 σ=ZR L' (ds.drop (i+1)) (i+1) (bif L' i then d.act (ZR L' (ds.take i) 0 σ) else ZR L' (ds.take i) 0 σ):=by
  intro L'
  conv=>lhs;rw[hsp]
  rw[foldL_append,htl,Nat.zero_add]
  rfl
 rw[key,key L,hi]
 simp only[beq_self_eq_true,Bool.true_or,cond_true,cond_false]
 rw[ZbU (L:=λk=>k==i||L k) (L':=L) (ds.take i) 0 σ (λk hk=>by
  rw[htl] at hk
  have:(0+k==i)=false:=by simp;omega
  simp[this];omega)]
 rw[ZbU (L:=λk=>k==i||L k) (L':=L) (ds.drop (i+1)) (i+1) _ (λk hk=>by
  have:(i+1+k==i)=false:=by simp;omega
  simp[this])]
 exact foldL_swap _ _ _ ((foldL_tm L _ _ _).trans hN) λk d' hd' hk=>h (i+1+k) d' (by simpa using hd') (by omega) hk
theorem ZbE (d:ZF):d.next.ob.length=d.s.ob.length+d.e.news.length:=by
 simp only[ZF.next,St.app,put_ob,List.length_append,Zx]
theorem next_tm (d:ZF):d.next.tm.length=d.s.tm.length:=by
 simp only[ZF.next,St.app]
 cases d.o.dst<;>simp[St.put]
theorem Zbd.get:∀ {ds:List ZF} {st st':St},Zbd st ds st'->∀ {i:Nat} {d:ZF},ds[i]? = some d->st.ob.length<=d.s.ob.length/\d.s.ob.length+d.e.news.length<=st'.ob.length/\d.s.tm.length=st.tm.length
 |[],_,_,_,i,d,h=>by simp at h
 |d0::ds,st,st',hc,i,d,h=>by
  obtain⟨rfl,hc⟩:=hc
  have hmono:∀ {ds:List ZF} {st st':St},Zbd st ds st'->st.ob.length<=st'.ob.length:=by
   intro ds
   induction ds with
   |nil=>intro st st' h;rw[show st=st' from h];exact Nat.le_refl _
   |cons d ds ih=>
    intro st st' h
    obtain⟨rfl,h⟩:=h
    have:=ih h
    rw[ZbE] at this
    omega
  cases i with
  |zero=>
   simp at h;subst h
   have:=hmono hc
   rw[ZbE] at this
   exact⟨Nat.le_refl _,this,rfl⟩
  |succ i=>
   obtain⟨h1,h2,h3⟩:=Zbd.get hc (i:=i) (d:=d) (by simpa using h)
   rw[ZbE] at h1
   rw[next_tm] at h3
   exact⟨by omega,h2,h3⟩
theorem Zbd.mono:∀ {ds:List ZF} {st st':St},Zbd st ds st'->∀ {i j:Nat} {d d':ZF},i<j->ds[i]? = some d->ds[j]? = some d'->d.s.ob.length+d.e.news.length<=d'.s.ob.length
 |[],_,_,_,i,j,d,d',_,h,_=>by simp at h
 |d0::ds,st,st',hc,i,j,d,d',hij,h,h'=>by
  obtain⟨rfl,hc⟩:=hc
  cases j with
  |zero=>omega
  |succ j=>
   cases i with
   |zero=>
    simp at h;subst h
    have:=(Zbd.get hc (i:=j) (d:=d') (by simpa using h')).1
    rwa[ZbE] at this
   |succ i=>exact Zbd.mono hc (i:=i) (j:=j) (by omega) (by simpa using h) (by simpa using h')
theorem Zbd.end_le {ds:List ZF} {st st':St} (h:Zbd st ds st'):st.ob.length<=st'.ob.length:=by
 cases ds with
 |nil=>rw[show st=st' from h];exact Nat.le_refl _
 |cons d ds=>
  have:=Zbd.get h (i:=0) (d:=d) (by simp)
  omega
theorem Zbd.all:∀ {ds:List ZF} {st st':St} {m M:Nat},Zbd st ds st'->(∀ (i:Nat) (d:ZF),ds[i]? = some d->∀ p∈d.e.chg,p.1<d.s.ob.length)->st'.ob.length<=st.ob.length+M->
  ZR (λ_=>true) ds m (st.pad M)=st'.pad (M-(st'.ob.length-st.ob.length))
 |[],st,st',m,M,h,_,hM=>by
  rw[show st=st' from h]
  simp[ZR]
 |d::ds,st,st',m,M,h,hlt,hM=>by
  obtain⟨rfl,h⟩:=h
  have h1:=h.end_le
  rw[ZbE] at h1
  show ZR (λ_=>true) ds (m+1) (d.act (d.s.pad M))=_
  have:d.act (d.s.pad M)=d.next.pad (M-d.e.news.length):=eff_pad (hlt 0 d (by simp)) (by omega)
  rw[this,Zbd.all h (λi d' hd'=>hlt (i+1) d' (by simpa using hd')) (by rw[ZbE];omega),ZbE]
  congr 1
  omega
theorem Zbd.cover:∀ {ds:List ZF} {st st':St},Zbd st ds st'->∀ {id:Nat},st.ob.length<=id->id<st'.ob.length->∃ (i:Nat) (d:ZF),ds[i]? = some d/\d.s.ob.length<=id/\id<d.s.ob.length+d.e.news.length
 |[],st,st',hc,id,h1,h2=>by
  rw[show st=st' from hc] at h1
  omega
 |d::ds,st,st',hc,id,h1,h2=>by
  obtain⟨rfl,hc⟩:=hc
  rcases Nat.lt_or_ge id (d.s.ob.length+d.e.news.length) with q|q
  ·exact⟨0,d,by simp,h1,q⟩
  ·obtain⟨i,d',h3,h4⟩:=Zbd.cover hc (by rw[ZbE];exact q) h2
   exact⟨i+1,d',by simpa using h3,h4⟩
theorem Zbd.split:∀ {ds:List ZF} {st st':St},Zbd st ds st'->∀ {i:Nat} {d:ZF},ds[i]? = some d->Zbd st (ds.take i) d.s
 |[],_,_,_,i,d,h=>by simp at h
 |d0::ds,st,st',hc,i,d,h=>by
  obtain⟨rfl,hc⟩:=hc
  cases i with
  |zero=>simp at h;subst h;exact rfl
  |succ i=>exact⟨rfl,Zbd.split hc (by simpa using h)⟩
end Go.T
