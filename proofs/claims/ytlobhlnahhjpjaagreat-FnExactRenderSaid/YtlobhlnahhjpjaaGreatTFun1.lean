/- Functions: what they are handed. -/
import Derived.Test.YtlobhlnahhjpjaaGreatTCode
set_option linter.unusedVariables false
set_option linter.unusedSimpArgs false
namespace Go.T
def AvOk (X:Fix) (j:Nat) (vs:List Value):Prop:=
 ∀ (i:Nat) (v:Value),vs[i]? = some v->(∀ vals:List Value,v=.agg vals.toArray->∀ q,q<1000->X.av (1000*(j+i)+q)=vals[q]?)/\(∀ a len cap,v=.slice a len cap->X.av (1000*(j+i))=some v)/\∀ a,v=.pointer a->X.av (1000*(j+i))=some v
def avOf (vs:List Value) (m:Nat):Option Value:=
 (vs[m/1000]?).bind λv=>
  match v with
  |.agg cs=>cs[m%1000]?
  |v=>if m%1000=0 then some v else none
theorem avOf_ok {X:Fix} {vs:List Value} (h:X.av=avOf vs):AvOk X 0 vs:=by
 intro i v hv
 rw[h]
 refine⟨λvals e q hq=>?_,λa len cap e=>?_,λa e=>?_⟩
 ·subst e
  unfold avOf
  rw[show(1000*(0+i)+q)/1000=i from by omega,show(1000*(0+i)+q)%1000=q from by omega,hv]
  simp
 ·subst e
  unfold avOf
  rw[show(1000*(0+i))/1000=i from by omega,show(1000*(0+i))%1000=0 from by omega,hv]
  rfl
 ·subst e
  unfold avOf
  rw[show(1000*(0+i))/1000=i from by omega,show(1000*(0+i))%1000=0 from by omega,hv]
  rfl
theorem AvOk.tail {X:Fix} {j:Nat} {v:Value} {vs:List Value} (h:AvOk X j (v::vs)):AvOk X (j+1) vs:=by
 intro i u hu
 have:=h (i+1) u (by simpa using hu)
 rwa[show j+(i+1)=j+1+i from by omega] at this
def ZbH (P:Program):List (Mode×TypeId)->List TypeId->Bool
 |[],[]=>true
 |(m,ct)::ms,t::ts=>(m !=.own||ct==t)&&(m !=.box||ct==Zbn P t)&&ZbH P ms ts
 |_,_=>false
def InOk (P:Program) (X:Fix) (w:World) (I:Nat->Prop) (ow:Bool) (N:G->Prop) (n:Nw):Prop:=
 (∃ m ct xs,n.ob=.row m ow ct xs/\OwC P w I (.own xs) ct n.hv n.fp/\(ow=true->∀ b∈n.fp,X.new b)/\n.sz=Zl P ct/\∀ j,m=some j->X.av j=some n.hv)\/
  ∃ m t l b c e,n.ob=.box (some m) t l/\n.hv=.pointer (some ⟨b,0,none⟩)/\n.fp=[b]/\w.heap[b]? = some (.cells c e (0,0))/\(∀ g,N g->Zh X w g l c.toList)/\X.av m=some n.hv
theorem InOk.mono {P:Program} {X:Fix} {w:World} {I:Nat->Prop} {ow:Bool} {N N':G->Prop} {n:Nw} (h:InOk P X w I ow N n) (hN:∀ g,N' g->N g):InOk P X w I ow N' n:=by
 rcases h with h|⟨m,t,l,b,c,e,q1,q2,q3,q4,q5,q6⟩
 ·exact .inl h
 ·exact .inr ⟨m,t,l,b,c,e,q1,q2,q3,q4,λg hg=>q5 g (hN g hg),q6⟩
theorem ZbI {P:Program} {X:Fix} {w:World} {I:Nat->Prop} {ow:Bool} {c:Array Value}:∀ {cts:List TypeId} {cs:List C} {st st':St} {ts:List T} {j p:Nat} {F:List Nat},ZbA P ow st j cts cs=some (ts,st')->Za P w I c cs cts p F->(ow=true->∀ b∈F,X.new b)->
  (∀ (i:Nat) (v:Value),(∃ xs,cs[i]? = some (.own xs))->c[p+i]? = some v->X.av (j+i)=some v)->
  ∃ ns:List Nw,st'=⟨st.tm,st.ob++ns.map (·.ob)⟩/\F=ns.flatMap (·.fp)/\(∀ x∈ns,∀ N,InOk P X w I ow N x)/\∀ g:G,NwAt X I ow g st.ob.length ns->∃ vs,Zh X w g ts vs/\vs.length=cs.length/\∀ (j:Nat) (v:Value),vs[j]? = some v->c[p+j]? = some v
 |ct::cts,.d x::cs,st,st',ts,j,p,F,h,r,hnw,hav=>by
  simp only[ZbA] at h
  split at h
  case h_2=>cases h
  rename_i ts1 st1 h1
  injection h with h;injection h with e1 e2;subst e1 e2
  simp only[Za] at r
  obtain⟨ct',cts',v,F1,F2,e,rfl,hv,r1,r2⟩:=r
  injection e with e1 e2;subst e1 e2
  simp only[OwC] at r1
  obtain⟨rfl,r1⟩:=r1
  obtain⟨ns,a1,a2,a3,a4⟩:=ZbI (X:=X) h1 r2 (λq b hb=>hnw q b (by simp[hb])) (λi u hi hu=>by
   have:=hav (i+1) u (by simpa using hi) (by rwa[show p+(i+1)=p+1+i from by omega])
   rwa[show j+(i+1)=j+1+i from by omega] at this)
  refine⟨ns,a1,by simpa using a2,a3,λg hg=>?_⟩
  obtain⟨vs,b1,b2,b3⟩:=a4 g hg
  refine⟨v::vs,?_,by simp[b2],λj u hu=>?_⟩
  ·simp only[Zh]
   exact⟨v,vs,rfl,rfl,by simp only[Zb];exact RdD.weaken hg.2 r1,b1⟩
  ·cases j with
   |zero=>simp at hu;subst hu;simpa using hv
   |succ j=>
    have:=b3 j u (by simpa using hu)
    rwa[show p+(j+1)=p+1+j from by omega]
 |ct::cts,.own xs::cs,st,st',ts,j,p,F,h,r,hnw,hav=>by
  simp only[ZbA] at h
  split at h
  case h_2=>cases h
  rename_i ts1 st1 h1
  injection h with h;injection h with e1 e2;subst e1 e2
  simp only[Za] at r
  obtain⟨ct',cts',v,F1,F2,e,rfl,hv,r1,r2⟩:=r
  injection e with e1 e2;subst e1 e2
  obtain⟨ns,a1,a2,a3,a4⟩:=ZbI (X:=X) h1 r2 (λq b hb=>hnw q b (by simp[hb])) (λi u hi hu=>by
   have:=hav (i+1) u (by simpa using hi) (by rwa[show p+(i+1)=p+1+i from by omega])
   rwa[show j+(i+1)=j+1+i from by omega] at this)
  refine⟨⟨.row (some j) ow ct xs,F1,v,Zl P ct⟩::ns,by rw[a1];simp[St.newOb],by simp[a2],λx hx=>?_,λg hg=>?_⟩
  ·rcases List.mem_cons.mp hx with rfl|hx
   ·exact λN=>.inl ⟨some j,ct,xs,rfl,r1,λq b hb=>hnw q b (by simp[hb]),rfl,λj' hj=>by injection hj with hj;subst hj;simpa using hav 0 v ⟨xs,by simp⟩ (by simpa using hv)⟩
   ·exact a3 x hx
  ·obtain⟨vs,b1,b2,b3⟩:=a4 g ⟨λj x hx=>by
    have:=hg.1 (j+1) x (by simpa using hx)
    simp only[St.newOb,List.length_append,List.length_singleton]
    rwa[show st.ob.length+1+j=st.ob.length+(j+1) from by omega],hg.2⟩
   obtain⟨hB,hh⟩:=hg.1 0 _ rfl
   refine⟨v::vs,?_,by simp[b2],λj u hu=>?_⟩
   ·simp only[Zh]
    exact⟨v,vs,rfl,rfl,by simp only[Zb];exact⟨by simpa using hB,by simpa using hh.symm⟩,b1⟩
   ·cases j with
    |zero=>simp at hu;subst hu;simpa using hv
    |succ j=>
     have:=b3 j u (by simpa using hu)
     rwa[show p+(j+1)=p+1+j from by omega]
 |[],[],st,st',ts,j,p,F,h,r,hnw,hav=>by
  simp only[ZbA] at h
  injection h with h;injection h with e1 e2;subst e1 e2
  simp only[Za] at r
  obtain⟨rfl,_⟩:=r
  exact⟨[],by simp,by simp,by simp,λg hg=>⟨[],by simp[Zh],rfl,by simp⟩⟩
 |_::_,[],_,_,_,_,_,_,h,_,_,_=>by simp[ZbA] at h
 |[],_::_,_,_,_,_,_,_,h,_,_,_=>by simp[ZbA] at h
def RelL (X:Fix) (w:World) (g:G) (l:List T) (vs:List Value):Prop:=l.length=vs.length/\∀ (i:Nat) (t:T),l[i]? = some t->∃ v,vs[i]? = some v/\Zb X w g t v
theorem RelL.cons {X:Fix} {w:World} {g:G} {t:T} {v:Value} {l:List T} {vs:List Value} (h:Zb X w g t v) (r:RelL X w g l vs):RelL X w g (t::l) (v::vs):=by
 refine⟨by simp[r.1],λi u hu=>?_⟩
 cases i with
 |zero=>simp at hu;subst hu;exact⟨v,by simp,h⟩
 |succ i=>simpa using r.2 i u (by simpa using hu)
theorem Zbu {P:Program} {X:Fix} {w:World} {I Q:Nat->Prop} {ow:Bool} (hpre:ow=true->∀ b,Q b->X.new b):∀ {as:List A} {ms:List (Mode×TypeId)} {tys:List TypeId} {vs:List Value} {F:List Nat} {st st':St} {l:List T} {j:Nat},Z7 P ow st j tys as=some (l,st')->ZO P w I Q as ms vs F->ZbH P ms tys=true->AvOk X j vs->
  ∃ ns:List Nw,st'=⟨st.tm,st.ob++ns.map (·.ob)⟩/\F.Perm (ns.flatMap (·.fp))/\(∀ x∈ns,InOk P X w (λb=>I b/\Q b) ow (λg=>NwAt X (λb=>I b/\Q b) ow g st.ob.length ns) x)/\∀ g:G,NwAt X (λb=>I b/\Q b) ow g st.ob.length ns->(∀ b,I b->g.IM X false b)->RelL X w g l vs
 |[],[],tys,vs,F,st,st',l,j,h,r,hm,hav=>by
  cases tys with
  |cons _ _=>simp[ZbH] at hm
  |nil=>
   simp only[Z7] at h
   injection h with h;injection h with e1 e2;subst e1 e2
   simp only[ZO] at r
   obtain⟨rfl,rfl⟩:=r
   exact⟨[],by simp,by simp,by simp,λg _ _=>⟨rfl,by simp⟩⟩
 |[],_::_,_,_,_,_,_,_,_,_,r,_,_=>by simp[ZO] at r
 |_::_,[],_,_,_,_,_,_,_,_,r,_,_=>by simp[ZO] at r
 |a::as,(m,ct)::ms,tys,vs,F,st,st',l,j,h,r,hm,hav=>by
  cases tys with
  |nil=>simp[ZbH] at hm
  |cons t tys=>
   simp only[ZO] at r
   obtain⟨v,vs',F1,F2,rfl,rfl,r1,r2⟩:=r
   simp only[ZbH,Bool.and_eq_true] at hm
   obtain⟨⟨hm1,hmb⟩,hm2⟩:=hm
   have simple:∀ (tt:T) (l1:List T),F1=[]->Z7 P ow st (j+1) tys as=some (l1,st')->l=tt::l1->(∀ g:G,(∀ b,I b->g.IM X false b)->Zb X w g tt v)->
     ∃ ns:List Nw,st'=⟨st.tm,st.ob++ns.map (·.ob)⟩/\(F1++F2).Perm (ns.flatMap (·.fp))/\(∀ x∈ns,InOk P X w (λb=>I b/\Q b) ow (λg=>NwAt X (λb=>I b/\Q b) ow g st.ob.length ns) x)/\∀ g:G,NwAt X (λb=>I b/\Q b) ow g st.ob.length ns->(∀ b,I b->g.IM X false b)->RelL X w g l (v::vs'):=by
    intro tt l1 hF h1 hl hr
    obtain⟨ns,a1,a2,a3,a4⟩:=Zbu hpre h1 r2 hm2 hav.tail
    refine⟨ns,a1,by rw[hF];simpa using a2,a3,λg hg hg2=>?_⟩
    rw[hl]
    exact(a4 g hg hg2).cons (hr g hg2)
   cases a with
   |d x=>
    cases m<;>simp only[ZJ] at r1
    obtain⟨hF,r1⟩:=r1
    simp only[Z7] at h
    split at h
    case h_2=>cases h
    rename_i l1 st1 h1
    injection h with h;injection h with e1 e2;subst e1 e2
    exact simple _ l1 hF h1 rfl λg hg=>by simp only[Zb];exact RdD.weaken hg r1
   |agg xs=>
    cases m<;>simp only[ZJ] at r1
    obtain⟨hF,cs,rfl,hcl,r1⟩:=r1
    simp only[Z7] at h
    split at h
    case h_2=>cases h
    rename_i l1 st1 h1
    injection h with h;injection h with e1 e2;subst e1 e2
    refine simple _ l1 hF h1 rfl λg hg=>?_
    simp only[Zb]
    exact⟨cs,rfl,Zh.ofCells hg hcl (λj u hu=>by simpa using hu) r1⟩
   |nil=>
    cases m<;>simp only[ZJ] at r1
    obtain⟨hF,r1⟩:=r1
    simp only[Z7] at h
    split at h
    case h_2=>cases h
    rename_i l1 st1 h1
    injection h with h;injection h with e1 e2;subst e1 e2
    exact simple _ l1 hF h1 rfl λg hg=>by simp only[Zb];exact r1
   |ip xs=>
    cases m<;>simp only[ZJ] at r1
    obtain⟨hF,b,off,c,e,f,rfl,q1,q2,q3⟩:=r1
    simp only[Z7] at h
    split at h
    case h_2=>cases h
    rename_i l1 st1 h1
    injection h with h;injection h with e1 e2;subst e1 e2
    refine simple _ l1 hF h1 rfl λg hg=>?_
    simp only[Zb]
    exact⟨b,off,c,e,f,rfl,hg b q1,q2,Zi.mono ⟨hg,λ_ _=>rfl⟩ q3⟩
   |box cs=>
    cases m<;>simp only[ZJ] at r1
    obtain⟨b,c,e,F',rfl,rfl,hb,hsz,oc,hqb⟩:=r1
    have hpt:ct=Zbn P t:=by simpa using hmb
    subst hpt
    simp only[Z7] at h
    split at h
    case h_2=>cases h
    rename_i l0 st1 hbo
    obtain⟨n1,rfl,a2,a3,a4⟩:=Zci (X:=X) hbo oc
    subst a2
    split at h
    case h_2=>cases h
    rename_i l1 st2 h1
    injection h with h;injection h with e1 e2;subst e1 e2
    obtain⟨n2,b1,b2,b3,b4⟩:=Zbu hpre h1 r2 hm2 hav.tail
    have hl1:((⟨st.tm,st.ob++n1.map (·.ob)⟩:St).newOb (.box (some (1000*j)) (Zbn P t) l0)).ob.length=st.ob.length+(n1++[(⟨.box (some (1000*j)) (Zbn P t) l0,[b],.pointer (some ⟨b,0,none⟩),0⟩:Nw)]).length:=by
     simp[St.newOb,Nat.add_assoc]
    rw[hl1] at b3 b4
    have hsp:∀ x:Nw,n1++x::n2=(n1++[x])++n2:=λx=>by simp
    refine⟨n1++⟨.box (some (1000*j)) (Zbn P t) l0,[b],.pointer (some ⟨b,0,none⟩),0⟩::n2,by rw[b1];simp[St.newOb],?_,λx hx=>?_,λg hg hgI=>?_⟩
    ·rw[List.flatMap_append,List.flatMap_cons]
     simp only[List.cons_append,List.nil_append]
     exact(List.Perm.cons b (List.Perm.append_left _ b2)).trans List.perm_middle.symm
    ·rcases List.mem_append.mp hx with q|q
     ·obtain⟨ct',xs',z1,z2,z3⟩:=a3 x q
      exact .inl ⟨none,ct',xs',z1,z2,λq' b hb=>hpre q' b (hqb b (List.mem_flatMap.mpr ⟨x,q,hb⟩)),z3,by simp⟩
     ·rcases List.mem_cons.mp q with rfl|q
      ·refine .inr ⟨1000*j,_,l0,b,c,e,rfl,rfl,rfl,hb,λg hg=>?_,by simpa using(hav 0 _ (by simp)).2.2 _ rfl⟩
       obtain⟨us,u1,u2,u3⟩:=a4 g hg.left
       have:us=c.toList:=by
        apply List.ext_getElem?
        intro i
        have e:c.toList[i]? = c[i]?:=by simp
        rw[e]
        cases hi:us[i]? with
        |some u=>
         have:=u3 i u hi
         rw[Nat.zero_add] at this
         exact this.symm
        |none=>
         rw[List.getElem?_eq_none_iff] at hi
         exact(Array.getElem?_eq_none_iff.mpr (by omega)).symm
       rw[<- this]
       exact u1
      ·exact(b3 x q).mono λg hg=>by
        rw[hsp] at hg
        exact hg.right rfl
    ·obtain⟨hB,hh⟩:=hg.1 n1.length ⟨.box (some (1000*j)) (Zbn P t) l0,[b],.pointer (some ⟨b,0,none⟩),0⟩ (by simp)
     refine(b4 g (by rw[hsp] at hg;exact hg.right rfl) hgI).cons ?_
     simp only[Zb,List.length_append,List.length_map]
     exact⟨hB,b,hh,rfl⟩
   |own gg cs=>
    have hmo:m=.own:=by
     cases m<;>cases gg<;>simp only[ZJ] at r1
     all_goals rfl
    subst hmo
    have htt:ct=t:=by simpa using hm1
    subst htt
    simp only[Z7] at h
    split at h
    case isFalse=>cases h
    rename_i hck
    obtain⟨hlen,hflat⟩:=hck
    split at h
    case h_2=>cases h
    rename_i cells st1 h1
    split at h
    case h_2=>cases h
    rename_i l1 st2 h2
    injection h with h;injection h with e1 e2;subst e1 e2
    have hav0:=hav 0 v (by simp)
    cases gg with
    |true=>
     simp only[ZJ] at r1
     obtain⟨vals,rfl,hvl,oc,hqb⟩:=r1
     obtain⟨n1,rfl,a2,a3,a4⟩:=ZbI (X:=X) h1 oc (λq b hb=>hpre q b (hqb b hb)) (λi u hi hu=>by
      obtain⟨xs,hi⟩:=hi
      have hi:=(List.getElem?_eq_some_iff.mp hi).1
      have:=hav0.1 vals rfl i (by omega)
      rw[Nat.add_zero] at this
      rw[this]
      simpa using hu)
     obtain⟨n2,b1,b2,b3,b4⟩:=Zbu hpre h2 r2 hm2 hav.tail
     refine⟨n1++n2,by rw[b1];simp,by rw[a2,List.flatMap_append];exact List.Perm.append_left _ b2,λx hx=>?_,λg hg hgI=>?_⟩
     ·rcases List.mem_append.mp hx with q|q
      ·exact a3 x q _
      ·exact(b3 x q).mono λg hg=>hg.right (by simp)
     ·have hg1:NwAt X (λb=>I b/\Q b) ow g st.ob.length n1:=⟨λj x hx=>hg.1 j x (by rw[List.getElem?_append_left (List.getElem?_eq_some_iff.mp hx).1];exact hx),hg.2⟩
      have hg2:NwAt X (λb=>I b/\Q b) ow g (st.ob++n1.map (·.ob)).length n2:=⟨λj x hx=>by
       have:=hg.1 (n1.length+j) x (by rw[List.getElem?_append_right (by omega)];simpa using hx)
       simpa[Nat.add_assoc] using this,hg.2⟩
      obtain⟨us,c1,c2,c3⟩:=a4 g hg1
      refine(b4 g hg2 hgI).cons ?_
      simp only[cond_true,Zb]
      have:us=vals:=by
       apply List.ext_getElem?
       intro j
       cases hj:us[j]? with
       |some u=>have:=c3 j u hj;simpa using this.symm
       |none=>
        rw[List.getElem?_eq_none_iff] at hj
        rw[List.getElem?_eq_none (by omega)]
      rw[<- this]
      exact⟨us,rfl,c1⟩
    |false=>
     have hflat:=hflat.resolve_left (by simp)
     rw[hflat] at h1
     simp only[ZJ] at r1
     obtain⟨r1,hqb⟩:=r1
     have hcs:cs.length=1:=by simpa using Za.length r1
     obtain⟨n1,rfl,a2,a3,a4⟩:=ZbI (X:=X) h1 r1 (λq b hb=>hpre q b (hqb b hb)) (λi u hi hu=>by
      obtain⟨xs,hi⟩:=hi
      have hi1:=(List.getElem?_eq_some_iff.mp hi).1
      have hi0:i=0:=by omega
      subst hi0
      simp at hu
      subst hu
      simp only[Nat.add_zero] at hav0⊢
      match cs,hcs,hi with
      |[c0],_,hi=>
       simp at hi
       subst hi
       simp only[Za,OwC] at r1
       obtain⟨_,_,v',_,_,_,_,hv',⟨a,cap,hvv,_⟩,_⟩:=r1
       simp at hv'
       subst hv'
       exact hav0.2.1 _ _ _ hvv)
     obtain⟨n2,b1,b2,b3,b4⟩:=Zbu hpre h2 r2 hm2 hav.tail
     refine⟨n1++n2,by rw[b1];simp,by rw[a2,List.flatMap_append];exact List.Perm.append_left _ b2,λx hx=>?_,λg hg hgI=>?_⟩
     ·rcases List.mem_append.mp hx with q|q
      ·exact a3 x q _
      ·exact(b3 x q).mono λg hg=>hg.right (by simp)
     ·have hg1:NwAt X (λb=>I b/\Q b) ow g st.ob.length n1:=⟨λj x hx=>hg.1 j x (by rw[List.getElem?_append_left (List.getElem?_eq_some_iff.mp hx).1];exact hx),hg.2⟩
      have hg2:NwAt X (λb=>I b/\Q b) ow g (st.ob++n1.map (·.ob)).length n2:=⟨λj x hx=>by
       have:=hg.1 (n1.length+j) x (by rw[List.getElem?_append_right (by omega)];simpa using hx)
       simpa[Nat.add_assoc] using this,hg.2⟩
      obtain⟨us,c1,c2,c3⟩:=a4 g hg1
      refine(b4 g hg2 hgI).cons ?_
      simp only[cond_false]
      cases cells with
      |nil=>simp[Zb]
      |cons t0 cells=>
       simp only[Zh] at c1
       obtain⟨u,us',rfl,_,q,_⟩:=c1
       have:=c3 0 u (by simp)
       simp at this
       subst this
       exact q
end Go.T
