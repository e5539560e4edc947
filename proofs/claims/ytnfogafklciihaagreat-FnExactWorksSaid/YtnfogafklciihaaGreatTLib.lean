/- The evaluator and why it is right. -/
import Derived.Test.YtnfogafklciihaaGreatTApp2
set_option linter.unusedVariables false
set_option linter.unusedSimpArgs false
namespace Go.T
def ZaA (st:St) (cts:List TypeId):List T->Bool->List (List C)->List Nat->Prop
 |[],f,cs,mv=>f=true/\cs=[]/\mv=[]
 |x::xs,f,cs,mv=>∃ f1 f2 c cs' m1 mv',f=(f1&&f2)/\cs=c::cs'/\mv=m1++mv'/\ZG st cts (ZK x) f1 c m1/\ZaA st cts xs f2 cs' mv'
theorem ZaA.back {st st1:St} (hb:∀ (id:Nat) (o:Obj),st1.ob[id]? = some o->o≠.gone->st.ob[id]? = some o) {cts:List TypeId}:∀ {ts:List T} {f:Bool} {cs:List (List C)} {mv:List Nat},ZaA st1 cts ts f cs mv->ZaA st cts ts f cs mv
 |[],_,_,_,h=>h
 |t::ts,f,cs,mv,h=>by
  simp only[ZaA] at h⊢;obtain⟨f1,f2,c,cs',m1,mv',e1,e2,e3,h1,h2⟩:=h;exact⟨f1,f2,c,cs',m1,mv',e1,e2,e3,ZG.back hb h1,ZaA.back hb h2⟩
theorem ZaA.rows {st:St} {cts:List TypeId}:∀ {ts:List T} {f:Bool} {cs:List (List C)} {mv:List Nat},ZaA st cts ts f cs mv->∀ id∈mv,(∃ og f ct xs,st.ob[id]? = some (.row og f ct xs))/\∃ x∈ts,id∈ZO st x
 |[],_,_,_,h,id,hid=>by simp only[ZaA] at h;rw[h.2.2] at hid;cases hid
 |t::ts,f,cs,mv,h,id,hid=>by
  simp only[ZaA] at h;obtain⟨f1,f2,c,cs',m1,mv',e1,e2,rfl,h1,h2⟩:=h;rcases List.mem_append.mp hid with q|q
  ·obtain⟨h3,h4⟩:=ZG.rows h1 id q;exact⟨h3,t,by simp,rowsOf_look id (rowsOf_mem h4)⟩
  ·obtain⟨h3,x,h4,h5⟩:=ZaA.rows h2 id q;exact⟨h3,x,by simp[h4],h5⟩
theorem litRows_mv {cts:List TypeId}:∀ {ps:List (Nat×T)} {st st':St} {j:Nat} {f:Bool} {cs:List (List C)},litRows cts st j ps=some (f,cs,st')->
  (∀ (k:Nat) (p:Nat×T),ps[k]? = some p->p.1=j+k)/\∃ mv,ZaA st cts (ps.map (·.2)) f cs mv/\mv.Nodup/\st'=st.gones mv
 |[],st,st',j,f,cs,h=>by
  simp only[litRows] at h;injection h with h;injection h with h1 h;injection h with h2 h3;subst h1 h2 h3;exact⟨by simp,[],by simp[ZaA],by simp,by rw[St.gones_nil]⟩
 |(i,x)::ps,st,st',j,f,cs,h=>by
  simp only[litRows] at h;split at h;case isFalse=>cases h
  rename_i hij;subst hij;split at h;case h_2=>cases h
  rename_i f1 c st1 h1;split at h;case h_2=>cases h
  rename_i f2 cs' st2 h2;injection h with h;injection h with e1 h;injection h with e2 e3;subst e1 e2 e3;obtain⟨m1,a1,a2,rfl⟩:=cellsC_mv h1;obtain⟨hk,mv',b1,b2,rfl⟩:=litRows_mv h2;have hb:∀ (id:Nat) (o:Obj),(st.gones m1).ob[id]? = some o->o≠.gone->st.ob[id]? = some o:=λid o h ho=>(St.gones_ob h ho).2
  refine⟨λk p hp=>?_,m1++mv',⟨f1,f2,c,cs',m1,mv',rfl,rfl,rfl,a1,ZaA.back hb b1⟩,?_,by rw[St.gones_append]⟩
  ·cases k with
   |zero=>simp at hp;subst hp;rfl
   |succ k=>have:=hk k p (by simpa using hp);omega
  ·refine List.nodup_append.mpr ⟨a2,b2,λx hx y hy e=>?_⟩;subst e;obtain⟨⟨og,f,ct',xs,h3⟩,_⟩:=ZaA.rows b1 x hy;exact(St.gones_ob h3 Sp).1 hx
theorem ZG.plain {st:St}:∀ {cts:List TypeId} {ts:List T} {f:Bool} {cs:List C} {mv:List Nat},ZG st cts ts f cs mv->ts.all Zbk=true/\cts.length=ts.length
 |[],[],_,_,_,h=>by simp
 |ct::cts,t::ts,f,cs,mv,h=>by
  simp only[ZG] at h;obtain⟨f1,f2,c,cs',m1,mv',e1,e2,rfl,h1,h2⟩:=h;obtain⟨h3,h4⟩:=ZG.plain h2;refine⟨?_,by simp[h4]⟩
  rw[List.all_cons,h3,Bool.and_true];unfold ZaZ at h1;split at h1<;>first|rfl|exact absurd h1 id
 |[],_::_,_,_,_,h=>by simp only[ZG] at h
 |_::_,[],_,_,_,h=>by simp only[ZG] at h
theorem ZaA.sound {P:Program} {X:Fix} {w:World} {g:G} {stL st:St} {a:Act} (hr:Rel P X w g stL a) {c:Array Value} {cts:List TypeId} {sz:Nat}:∀ {ts:List T} {f:Bool} {cs:List (List C)} {mv:List Nat} {vs:List Value} {p:Nat},ZaA st cts ts f cs mv->(∀ x∈ts,Z9 g stL st (ZO st x))->
  (∀ (k:Nat) (t:T),ts[k]? = some t->∃ v,vs[k]? = some v/\Zi X w g t v)->(∀ (k jj:Nat) (v u:Value),vs[k]? = some v->v.cells.toList[jj]? = some u->c[p+k*sz+jj]? = some u)->
  Zj P w (g.IM X f) c cts sz cs p (mv.flatMap g.fp)/\(f=true->∀ b,b∈mv.flatMap g.fp->X.new b)
 |[],f,cs,mv,vs,p,h,hs,r,hc=>by
  simp only[ZaA] at h;obtain⟨rfl,rfl,rfl⟩:=h;simp[Zj]
 |t::ts,f,cs,mv,vs,p,h,hs,r,hc=>by
  simp only[ZaA] at h;obtain⟨f1,f2,c0,cs',m1,mv',rfl,rfl,rfl,h1,h2⟩:=h;obtain⟨v,hv,rv⟩:=r 0 t Sp;cases vs with
  |nil=>simp at hv
  |cons v' vs=>
   simp at hv;subst hv;obtain⟨rc,_⟩:=Zi.cells hr (ZG.plain h1).1 rv;have hs1:Z9 g stL st (ZD (ZK t)):=(hs t Sp).sub rowsOf_look;obtain⟨i1,i2⟩:=ZaA.sound hr (p:=p+sz) h2 (λx hx=>hs x (by simp[hx])) (λk t ht=>by simpa using r (k+1) t (by simpa using ht)) (λk jj v u hv hu=>by
    have:=hc (k+1) jj v u (by simpa using hv) hu;rwa[Nat.succ_mul,show p+(k*sz+sz)+jj=p+sz+k*sz+jj from by omega] at this)
   refine⟨?_,λhf b hb=>?_⟩
   ·simp only[Zj]
    refine⟨m1.flatMap g.fp,mv'.flatMap g.fp,by simp,Zf.weaken (λb hb=>IM_and hb) (ZG.sound hr h1 hs1 rc λj u hu=>?_),Zj.weaken (λb hb=>IM_and' hb) i1⟩
    have:=hc 0 j v' u Sp hu;simpa using this
   ·simp at hf;rw[List.flatMap_append] at hb;rcases List.mem_append.mp hb with hb|hb
    ·exact ZG.fresh hr h1 hs1 hf.1 b hb
    ·exact i2 hf.2 b hb
theorem splice_append {α:Type} {l a b:List α} {off:Nat} (h:off+(a.length+b.length)<=l.length):ZE (ZE l off a) (off+a.length) b=ZE l off (a++b):=by
 apply List.ext_getElem?;intro j;have h1:(ZE l off a).length=l.length:=Zbq Om;have g1:=ZaV (l:=ZE l off a) (new:=b) (off:=off+a.length) Om j;have g2:=ZaV (l:=l) (new:=a) (off:=off) Om j;have g3:=ZaV (l:=l) (new:=a++b) (off:=off) (by rw[List.length_append];omega) j;rw[g1,g2,g3];by_cases c1:off+a.length<=j/\j<off+a.length+b.length
 ·rw[if_pos c1,if_pos (by rw[List.length_append];omega),List.getElem?_append_right Om];congr 1;omega
 ·rw[if_neg c1];by_cases c2:off<=j/\j<off+a.length
  ·rw[if_pos c2,if_pos (by rw[List.length_append];omega),List.getElem?_append_left Om]
  ·rw[if_neg c2,if_neg (by rw[List.length_append];omega)]
theorem fill_rows {sz:Nat}:∀ (ps:List (Nat×Value)) (j:Nat) (cells:Array Value),(∀ (k:Nat) (p:Nat×Value),ps[k]? = some p->p.1=j+k/\p.2.cells.size=sz)->(j+ps.length)*sz<=cells.size->
  ∃ cells',Instr.fill (λi=>some (i*sz,sz)) cells ps=some cells'/\cells'.toList=ZE cells.toList (j*sz) (ps.flatMap λp=>p.2.cells.toList)
 |[],j,cells,_,_=>⟨cells,rfl,by simp[splice_nil]⟩
 |(i,v)::ps,j,cells,hp,hl=>by
  obtain⟨hi,hv⟩:=hp 0 (i,v) Sp;simp at hi hv;subst hi;have hm:(i+(ps.length+1))*sz=i*sz+sz+ps.length*sz:=by rw[Nat.add_mul,Nat.succ_mul];omega
  simp only[List.length_cons] at hl;have hsp:=fold_splice' (i*sz) v.cells cells Om;have hflat:(ps.flatMap λp=>p.2.cells.toList).length=ps.length*sz:=by
   have:∀ (qs:List (Nat×Value)),(∀ q∈qs,q.2.cells.size=sz)->(qs.flatMap λp=>p.2.cells.toList).length=qs.length*sz:=by
    intro qs;induction qs with
    |nil=>simp
    |cons q qs ih=>intro h;rw[List.flatMap_cons,List.length_append,ih (λx hx=>h x (by simp[hx])),List.length_cons,Nat.succ_mul,Array.length_toList,h q Sp];omega
   refine this ps λq hq=>?_
   obtain⟨k,hk⟩:=List.getElem?_of_mem hq;exact(hp (k+1) q (by simpa using hk)).2
  have hsz':(v.cells.zipIdx.foldl (λcs (c,j)=>cs.setIfInBounds (i*sz+j) c) cells).size=cells.size:=by
   have:=congrArg List.length hsp;rw[Zbq (by simp;omega)] at this;simpa using this
  obtain⟨cells',hf,hc⟩:=fill_rows ps (i+1) (v.cells.zipIdx.foldl (λcs (c,j)=>cs.setIfInBounds (i*sz+j) c) cells) (λk p hk=>by
   have:=hp (k+1) p (by simpa using hk);exact⟨Om,this.2⟩) (by rw[hsz',Nat.add_mul,Nat.succ_mul];omega)
  refine⟨cells',?_,?_⟩
  ·simp only[Instr.fill]
   rw[if_neg (by simp;omega)];exact hf
  ·rw[hc,hsp,List.flatMap_cons,<- splice_append (by simp[hflat];omega)];congr 1;rw[Nat.succ_mul,Array.length_toList,hv]
section
variable {P:Program} {E:Env} {st:St} {β:Type} {k:St->Option β} {r:β} {dst:Option Nat} {ty:TypeId} {pos:String} {af:Array Edge} {gd:Option (Nat×Bool)}
theorem flat_get {sz:Nat}:∀ (vs:List Value) (k jj:Nat) (v u:Value),(∀ v∈vs,v.cells.size=sz)->vs[k]? = some v->v.cells.toList[jj]? = some u->(vs.flatMap λv=>v.cells.toList)[k*sz+jj]? = some u
 |[],k,jj,v,u,_,h,_=>by simp at h
 |w::vs,0,jj,v,u,hs,h,hu=>by
  simp at h;subst h;rw[List.flatMap_cons,Nat.zero_mul,Nat.zero_add,List.getElem?_append_left (List.getElem?_eq_some_iff.mp hu).1];exact hu
 |w::vs,k+1,jj,v,u,hs,h,hu=>by
  have hw:=hs w Sp;rw[List.flatMap_cons,List.getElem?_append_right (by simp[hw,Nat.succ_mul];omega)];have:=flat_get vs k jj v u (λx hx=>hs x (by simp[hx])) (by simpa using h) hu;rw[show(k+1)*sz+jj-w.cells.toList.length=k*sz+jj from by rw[Array.length_toList,hw,Nat.succ_mul];omega];exact this
theorem opBuildSlice {t:TypeId} {len:Nat} {parts:Array (Nat×Operand)} (h:Z1 P E ⟨dst,.buildSlice t len parts,ty,pos,af,gd⟩ st k=some r):ZN P E ⟨dst,.buildSlice t len parts,ty,pos,af,gd⟩ st k r:=by
 simp only[Z1] at h;split at h;case h_2=>cases h
 rename_i e he;have hu:=ZaS he;split at h;case isFalse=>cases h
 rename_i hck;obtain⟨hpl,hsmall,h0,hfl,hz⟩:=hck;split at h;case h_2=>cases h
 rename_i f cs st' hlit;obtain⟨hidx,mv,hmv,hnd,rfl⟩:=litRows_mv hlit;have hse:=ZaU he;have hte:=Zcw he;have hlen:(st.gones mv).ob.length=st.ob.length:=by simp[St.gones,ZH]
 rw[hlen] at h;have hrows:=ZaA.rows hmv;obtain⟨i,hi,hisz⟩:=Zcr h0;obtain⟨z,hzv⟩:∃ z,i.zero=some z:=by rw[hi] at hz;exact Option.isSome_iff_exists.mp (by simpa using hz)
 have hlk:∀ y∈parts.toList.map (·.2),∀ id∈ZO st (st.ev y),id∈Zbm ⟨dst,.buildSlice t len parts,ty,pos,af,gd⟩ st:=λy hy=>ZaF (o:=⟨dst,.buildSlice t len parts,ty,pos,af,gd⟩) (by simpa[Op.operands] using hy)
 have hmap:(parts.toList.map λp=>(p.1,st.ev p.2)).map (·.2)=(parts.toList.map (·.2)).map st.ev:=by simp[List.map_map]
 rw[hmap] at hmv hrows;refine ZN.moved (λid hid=>(hrows id hid).1) h λX w0=>Zbh.one (λid hid=>by obtain⟨⟨_,_,_,_,ho⟩,_⟩:=hrows id hid;exact(List.getElem?_eq_some_iff.mp ho).1) λstL g a w hr hs hR hl hn=>?_
 have hmB:∀ id∈mv,g.B id:=λid hid=>by
  obtain⟨⟨_,_,_,_,ho⟩,x,hx,hid'⟩:=hrows id hid;obtain⟨y,hy,rfl⟩:=List.mem_map.mp hx;exact(hl id (hlk y hy id hid') (by rw[ho];rfl)).2
 -- the values
 have hvals:∀ y∈parts.toList.map (·.2),Zi X w g (st.ev y) (a.eval y):=λy hy=>hR y (by simpa[Op.operands] using hy)
 have hcl:∀ y∈parts.toList.map (·.2),(a.eval y).cells.size=P.cellsOf e:=by
  have gen:∀ (ys:List Operand) (f:Bool) (cs:List (List C)) (mv:List Nat),ZaA st (ZA P 6 e) (ys.map st.ev) f cs mv->∀ y∈ys,(ZK (st.ev y)).all Zbk=true/\(ZK (st.ev y)).length=P.cellsOf e:=by
   intro ys;induction ys with
   |nil=>intro _ _ _ _ y hy;cases hy
   |cons y ys ih=>
    intro f cs mv h y' hy';simp only[List.map_cons,ZaA] at h;obtain⟨f1,f2,c,cs',m1,mv',_,_,_,h1,h2⟩:=h;rcases List.mem_cons.mp hy' with rfl|hy'
    ·obtain⟨p1,p2⟩:=ZG.plain h1;exact⟨p1,Om⟩
    ·exact ih f2 cs' mv' h2 y' hy'
  intro y hy;obtain⟨p1,p2⟩:=gen _ _ _ _ hmv y hy;obtain⟨rc,_⟩:=Zi.cells hr p1 (hvals y hy);have:=Zo.length rc;simp at this;omega
 have hpl':parts.toList.length=len:=by simpa using hpl
 let zr:Array Value:=if len*P.cellsOf e=0 then #[] else z.cells
 obtain⟨cells',hfill,hcells⟩:=fill_rows (sz:=P.cellsOf e) (parts.toList.map λp=>(p.1,a.eval p.2)) 0 ((Array.range (len*P.cellsOf e)).map (zr[·%zr.size]!)) (λk p hk=>by
   rw[List.getElem?_map] at hk;obtain⟨q,hq,rfl⟩:=Option.map_eq_some_iff.mp hk;refine⟨?_,hcl q.2 (List.mem_map.mpr ⟨q,List.mem_of_getElem? hq,rfl⟩)⟩
   have:=hidx k (q.1,st.ev q.2) (by rw[List.getElem?_map,hq];rfl);exact this) (by simp[hpl'])
 have hflat:((parts.toList.map λp=>(p.1,a.eval p.2)).flatMap λp=>p.2.cells.toList)=((parts.toList.map (·.2)).map a.eval).flatMap λv=>v.cells.toList:=by
  simp[List.flatMap_map]
 have hfl2:(((parts.toList.map (·.2)).map a.eval).flatMap λv=>v.cells.toList).length=len*P.cellsOf e:=by
  have:∀ (vs:List Value),(∀ v∈vs,v.cells.size=P.cellsOf e)->(vs.flatMap λv=>v.cells.toList).length=vs.length*P.cellsOf e:=by
   intro vs;induction vs with
   |nil=>simp
   |cons v vs ih=>intro h;rw[List.flatMap_cons,List.length_append,ih (λx hx=>h x (by simp[hx])),List.length_cons,Nat.succ_mul,Array.length_toList,h v Sp];omega
  rw[this _ (λv hv=>by obtain⟨y,hy,rfl⟩:=List.mem_map.mp hv;exact hcl y hy)];simp[hpl]
 have hcells2:cells'.toList=((parts.toList.map (·.2)).map a.eval).flatMap λv=>v.cells.toList:=by
  rw[hcells,hflat,Nat.zero_mul];unfold ZE;rw[hfl2];simp
 have hrun:(Instr.buildSlice t len (parts.map λ(i,x)=>(i,a.eval x))).run P w=.ok (.slice (some ⟨w.heap.size,0,none⟩) len len) (w.alloc (.cells cells' e)):=by
  have hpm:(parts.map λ(i,x)=>(i,a.eval x)).toList=parts.toList.map λp=>(p.1,a.eval p.2):=by simp
  show(Sem.bind (underlying t) _).run P w=_;rw[Zz,Zk hu];show(Sem.bind (sizeOf e) _).run P w=_;rw[Zz,Zb9 h0];simp only[]
  rw[if_neg Om];by_cases hzz:len*P.cellsOf e=0
  ·simp only[zr,hzz,if_true] at hfill;have hl0:len=0:=by
    rcases Nat.mul_eq_zero.mp hzz with q|q
    ·exact q
    ·omega
   subst hl0;have hp0:parts=#[]:=Array.eq_empty_of_size_eq_zero hpl;subst hp0;simp[Instr.fill] at hfill;subst hfill;simp[newRow,Instr.fill]
  ·simp only[zr,hzz,if_false] at hfill;simp[hzz,hpm,zeroValue,typeInfo,hi,hzv,newRow];rw[hfill];rfl
 have hkeep:∀ b,b<w.heap.size->b∉mv.flatMap g.fp->(w.alloc (.cells cells' e)).heap[b]? = w.heap[b]?:=λb hb _=>by rw[Zbw,if_neg Om]
 have hmine:∀ b∈mv.flatMap g.fp,b<w.heap.size:=by
  intro b hb;obtain⟨id,hid,hb⟩:=List.mem_flatMap.mp hb;exact(hr.sep.mine id (hmB id hid) b hb).2.1
 obtain⟨i1,i2⟩:=ZaA.sound (P:=P) hr (c:=cells') (sz:=P.cellsOf e) (vs:=(parts.toList.map (·.2)).map a.eval) (p:=0) hmv (λx hx=>by
   obtain⟨y,hy,rfl⟩:=List.mem_map.mp hx;exact hl.sub (hlk y hy)) (λk t ht=>by
   rw[List.getElem?_map] at ht;obtain⟨y,hy,rfl⟩:=Option.map_eq_some_iff.mp ht;exact⟨a.eval y,by rw[List.getElem?_map,hy];rfl,hvals y (List.mem_of_getElem? hy)⟩) (λk jj v u hv hu=>by
   have:=flat_get (sz:=P.cellsOf e) _ k jj v u (λv hv=>by obtain⟨y,hy,rfl⟩:=List.mem_map.mp hv;exact hcl y hy) hv hu;rw[<- hcells2] at this;simpa using this)
 have hcsl:cs.length=len:=by
  have gen:∀ (ts:List T) (f:Bool) (cs:List (List C)) (mv:List Nat),ZaA st (ZA P 6 e) ts f cs mv->cs.length=ts.length:=by
   intro ts;induction ts with
   |nil=>intro f cs mv h;simp only[ZaA] at h;simp[h.2.1]
   |cons t ts ih=>intro f cs mv h;simp only[ZaA] at h;obtain⟨_,f2,c,cs',_,mv',_,rfl,_,_,h2⟩:=h;simp[ih f2 cs' mv' h2]
  rw[gen _ _ _ _ hmv];simp[hpl]
 refine⟨_,_,w.heap.size::mv.flatMap g.fp,.slice (some ⟨w.heap.size,0,none⟩) len len,Zs P t,ZaN hrun,by rw[ZaX];omega,rfl,rfl,rfl,hkeep,?_,λb hb=>?_,hmB,?_,?_⟩
 ·refine List.nodup_cons.mpr ⟨λhb=>?_,ZcT hr.sep hnd hmB⟩;exact absurd (hmine _ hb) Om
 ·rcases List.mem_cons.mp hb with rfl|hb
  ·exact⟨by rw[ZaX];omega,λh=>by omega⟩
  ·exact⟨by rw[ZaX];have:=hmine b hb;omega,λ_=>hb⟩
 ·simp only[Zy,G.one_hv,G.one_fp,G.one_sz]
  refine⟨⟨?_,trivial⟩,λq b hb=>?_,by simp⟩
  ·simp only[OwC]
   refine⟨_,len,by rw[hcsl],.inr ⟨w.heap.size,0,cells',e,mv.flatMap g.fp,rfl,λ_=>rfl,rfl,by rw[Zbw,if_pos rfl],Om,?_,Om,?_⟩⟩
   ·have:=congrArg List.length hcells2;rw[hfl2] at this;rw[hse];simpa using this
   ·rw[hte,hse];refine Zj.mono ⟨⟨λ_ h=>h,λb hb=>?_⟩,λb hb=>?_⟩ i1
    ·rw[Zbw,if_neg (by have:=hr.sep.imm b hb.1;omega)]
    ·rw[Zbw,if_neg (by have:=hmine b hb;omega)]
  ·rcases List.mem_cons.mp hb with rfl|hb
   ·exact .inl (Nat.le_trans hs.base hs.size)
   ·exact i2 q b hb
 ·simp only[Zi]
  exact⟨G.one_B,G.one_hv.symm⟩
end
end Go.T
namespace Go.T
theorem Array.getList {α:Type} {c:Array α} {l:List α} (h:c.toList=l) (j:Nat):c[j]? = l[j]?:=by rw[<- h,Array.getElem?_toList]
theorem Zj.set {P:Program} {w:World} {I:Nat->Prop} {c c':Array Value} {cts:List TypeId} {sz:Nat} (hsz:cts.length=sz) {xs:List (List C)} {F Fn:List Nat} {i off p0:Nat} {new:List C} {vals:List Value} (r:Zj P w I c cts sz xs p0 F) (hi:i<xs.length) (hoff:off+new.length<=sz)
  (hc':c'.toList=ZE c.toList (p0+(i*sz+off)) vals) (hv:vals.length=new.length) (hcs:p0+xs.length*sz<=c.size)
  (hn:Zf P w I c' new ((cts.drop off).take new.length) (p0+(i*sz+off)) Fn):
  ∃ A R B,F=A++R++B/\Zj P w I c' cts sz (xs.modify i λx=>ZE x off new) p0 (A++Fn++B):=by
 have hisz:i*sz+sz<=xs.length*sz:=by rw[<- Nat.succ_mul];exact Nat.mul_le_mul_right _ hi
 have hfit:p0+(i*sz+off)+vals.length<=c.toList.length:=by simp;omega
 have hget:∀ j,c'[j]? = if p0+(i*sz+off)<=j/\j<p0+(i*sz+off)+vals.length then vals[j-(p0+(i*sz+off))]? else c[j]?:=by
  intro j;rw[Array.getList hc',ZaV hfit];simp
 rw[List.modify_eq_take_cons_drop hi];have hxs:xs=xs.take i++xs[i]::xs.drop (i+1):=by rw[<- List.drop_eq_getElem_cons hi,List.take_append_drop]
 have htl:(xs.take i).length=i:=by simp;omega
 rw[hxs] at r;obtain⟨Fp,Fr,rfl,r1,r2⟩:=Zj.append.mp r;simp only[Zj] at r2;obtain⟨Fx,Fq,rfl,r3,r4⟩:=r2;have hxl:(xs[i]).length=sz:=by rw[Zf.length r3,hsz]
 have hx:xs[i]=xs[i].take off++((xs[i].drop off).take new.length++xs[i].drop (off+new.length)):=by
  rw[<- List.drop_drop,List.take_append_drop,List.take_append_drop]
 rw[hx] at r3;obtain⟨Fa,Fb,rfl,r5,r6⟩:=Zf.append.mp r3;obtain⟨Fm,Fc,rfl,r7,r8⟩:=Zf.append.mp r6;have l1:(xs[i].take off).length=off:=by simp;omega
 have l2:((xs[i].drop off).take new.length).length=new.length:=by simp;omega
 rw[l1] at r5 r6 r7 r8;rw[l2] at r7 r8;simp only[htl] at r3 r4 r5 r7 r8;refine⟨Fp++Fa,Fm,Fc++Fq,by simp,?_⟩
 rw[show Fp++Fa++Fn++(Fc++Fq)=Fp++((Fa++(Fn++Fc))++Fq) from by simp];refine Zj.append.mpr ⟨Fp,_,rfl,Zj.congr hsz (λj v hj hv=>?_) r1,?_⟩
 ·rw[htl] at hj;rw[hget,if_neg Om];exact hv
 ·simp only[Zj]
  refine⟨_,Fq,rfl,?_,Zj.congr hsz (λj v hj hv=>?_) r4⟩
  ·unfold ZE;rw[List.append_assoc];refine Zf.append.mpr ⟨Fa,_,rfl,?_,Zf.append.mpr ⟨Fn,Fc,rfl,?_,?_⟩⟩
   ·rw[l1];refine Zf.congr (λj v hj hv=>?_) r5;rw[l1] at hj;rw[htl,hget,if_neg Om];exact hv
   ·rw[l1,htl,Nat.add_assoc];exact hn
   ·rw[l1,htl];refine Zf.congr (λj v hj hv=>?_) r8;rw[List.length_drop,hxl] at hj;rw[hget,if_neg Om];exact hv
  ·rw[htl];rw[hget,if_neg Om];exact hv
def G.re (g:G) (mv:List Nat) (id:Nat) (F:List Nat):G where
 I:=g.I
 B:=g.B
 fp i:=if i=id then F else if i∈mv then[] else g.fp i
 hv:=g.hv
 sz:=g.sz
section
variable {P:Program} {E:Env} {st:St} {β:Type} {k:St->Option β} {r:β} {dst:Option Nat} {ty:TypeId} {pos:String} {af:Array Edge} {gd:Option (Nat×Bool)}
theorem opStore {t:TypeId} {x y:Operand} (hT:Zax P) (h:Z1 P E ⟨dst,.store t x y,ty,pos,af,gd⟩ st k=some r):ZN P E ⟨dst,.store t x y,ty,pos,af,gd⟩ st k r:=by
 simp only[Z1] at h;unfold storeDen at h;have mem_x:x∈(Op.store t x y).operands.toList:=by simp[Op.operands]
 have mem_y:y∈(Op.store t x y).operands.toList:=by simp[Op.operands]
 have run:∀ (a:Act) (w w':World),(Instr.storeAt t (a.eval x) (a.eval y)).run P w=.ok () w'->(execOp a.eval ⟨dst,.store t x y,ty,pos,af,gd⟩).run P w=.ok .skip w':=λa w w' h=>run_u h
 split at h;case isFalse=>cases h
 rename_i hck;obtain⟨hl,h0,hpl⟩:=hck;split at h
 ·-- a box
  rename_i id off hx;split at h;case h_2=>cases h
  rename_i bo bt cs ho;split at h;case isFalse=>cases h
  rename_i hfit;have hlt:=(List.getElem?_eq_some_iff.mp ho).1;refine⟨⟨.undef,[(id,.box bo bt (ZE cs off (ZK (st.ev y))))],[]⟩,?_,by simpa using hlt,λ_ p hp=>(by simp at hp;subst hp;exact List.mem_append_left _ (by simp[storeAt,hx])),λX w0=>?_⟩
  ·have:st.app dst ⟨.undef,[(id,.box bo bt (ZE cs off (ZK (st.ev y))))],[]⟩=(st.setOb id (.box bo bt (ZE cs off (ZK (st.ev y))))).put dst .undef:=by
    simp only[St.app,St.setOb,List.append_nil];rfl
   rw[this];exact h
  ·refine Zbh.make' (by simpa using hlt) λstL g a w hr hs hR hl' _=>?_
   obtain⟨_,hB,⟨b,c,e,hh,hfp,hb,rc⟩,horg⟩:=hl'.obj hr (ZaF (o:=⟨dst,.store t x y,ty,pos,af,gd⟩) mem_x rfl id (by rw[hx];simp[ZO])) ho;have rx:=hR x mem_x;rw[hx] at rx;simp only[Zi] at rx;obtain⟨_,b',hh',hvx⟩:=rx;rw[hh] at hh';injection hh' with hh';injection hh' with hh';injection hh' with hh' _ _;subst hh';obtain⟨ry,r1⟩:=Zi.cells hr hpl (hR y mem_y);have lcs:=Zo.length rc;have lny:=Zo.length ry;simp at lcs lny;obtain⟨w',c',hst,hset,hc'⟩:=run_storeAt (P:=P) (t:=t) hb h0 Om (off:=off) Om r1;have hU:∀ i,Eff.U ⟨.undef,[(id,.box bo bt (ZE cs off (ZK (st.ev y))))],[]⟩ st.ob.length i↔i=id:=by
    intro i;simp[Eff.U,eq_comm];omega
   have hpool:∀ q,Pool g (Eff.U ⟨.undef,[(id,.box bo bt (ZE cs off (ZK (st.ev y))))],[]⟩ st.ob.length) q↔q=b:=by
    intro q;constructor
    ·rintro⟨i,hi,_,hq⟩;rw[(hU i).mp hi,hfp] at hq;simpa using hq
    ·rintro rfl;exact⟨id,(hU id).mpr rfl,hB,by rw[hfp];simp⟩
   have turn:Turn X w w' g g (Eff.U ⟨.undef,[(id,.box bo bt (ZE cs off (ZK (st.ev y))))],[]⟩ st.ob.length):=by
    refine⟨by rw[hset.size];omega,hset.os,hset.tape,hset.output,λq _ hq=>hset.keep q (λe=>hq ((hpool q).mpr e)),λ_ h=>h,λ_ h=>h,λ_ _=>rfl,λ_ _=>rfl,λ_ _=>⟨λh=>h,λ_=>rfl⟩,λi hi hBi=>?_,λi i' hi hi' hne=>absurd (((hU i).mp hi).trans ((hU i').mp hi').symm) hne,λq hq=>⟨by rw[hset.size];exact hr.sep.imm q hq,.inl hq⟩⟩
    rw[(hU i).mp hi];refine⟨hr.sep.nodup id hB,λq hq=>⟨(hr.sep.mine id hB q hq).1,by rw[hset.size];exact(hr.sep.mine id hB q hq).2.1,λ_=>(hpool q).mpr (by rw[hfp] at hq;simpa using hq)⟩⟩
   refine⟨undef,w',g,λK Q hk=>wp_skip (run a w w' (by rw[hvx];exact hst)) hk,turn,λi=>by simp;omega,λp hp _=>?_,by simp,by simp[Zi]⟩
   simp at hp;subst hp;have ext:=turn.ext hr.sep;simp only[Zy]
   refine⟨⟨b,c',e,hh,hfp,hset.at_,?_⟩,horg⟩
   rw[hc'];exact Zo.splice (Zo.mono ext rc) (Zo.mono ext ry) Om
 ·-- an element of an own row
  rename_i id i off hx;split at h;case h_2=>cases h
  rename_i f new st' hcc;obtain⟨mv,hmv,hnd,rfl⟩:=cellsC_mv hcc;split at h;case h_2=>cases h
  rename_i ro fr rt xs ho';split at h;case isFalse=>cases h
  rename_i hck2;obtain⟨hoff,htys,hct⟩:=hck2;obtain⟨hi,h⟩:=ZB h;obtain⟨hnm,ho⟩:=St.gones_ob ho' Sp;have hrows:=ZG.rows hmv;have hnl:new.length=(ZK (st.ev y)).length:=by
   have gen:∀ (cts:List TypeId) (ts:List T) (f:Bool) (cs:List C) (mv:List Nat),ZG st cts ts f cs mv->cs.length=ts.length:=by
    intro cts;induction cts with
    |nil=>intro ts f cs mv h;cases ts<;>simp only[ZG] at h;simp[h.2.1]
    |cons ct cts ih=>intro ts f cs mv h;cases ts with
     |nil=>simp only[ZG] at h
     |cons t ts=>simp only[ZG] at h;obtain⟨_,f2,c,cs',_,mv',_,rfl,_,_,h2⟩:=h;simp[ih ts f2 cs' mv' h2]
   exact gen _ _ _ _ _ hmv
  let row':Obj:=.row ro (fr&&f) rt (xs.modify i λc=>ZE c off new)
  have hltid:=(List.getElem?_eq_some_iff.mp ho).1;have hltmv:∀ j∈mv,j<st.ob.length:=λj hj=>by obtain⟨⟨_,_,_,_,h1⟩,_⟩:=hrows j hj;exact(List.getElem?_eq_some_iff.mp h1).1
  have quiet:∀ p∈mv.map (·,Obj.gone)++[(id,row')],p.1∈turned ⟨dst,.store t x y,ty,pos,af,gd⟩ st (st.app dst ⟨.undef,mv.map (·,.gone)++[(id,row')],[]⟩):=by
   intro p hp;rcases List.mem_append.mp hp with hp|hp
   ·obtain⟨j,hj,rfl⟩:=List.mem_map.mp hp;obtain⟨⟨og,f0,ct0,xs0,hoj⟩,_⟩:=hrows j hj;have hjid:id≠j:=λe=>hnm (e▸hj)
    refine List.mem_append_right _ (ZbJ hoj (o':=.gone) ?_ (by simp[tagOf]));obtain⟨o',h1,h2⟩:=ZbZ (mv.map (·,Obj.gone)) st.ob j ⟨(j,.gone),List.mem_map.mpr ⟨j,hj,rfl⟩,rfl⟩ (hltmv j hj);obtain⟨q,_,hq⟩:=List.mem_map.mp h1;injection hq with _ hq;subst hq;simp only[St.app,put_ob,List.append_nil,ZS,List.foldl_append,List.foldl_cons,List.foldl_nil]
    rw[List.getElem?_set_ne hjid];exact h2
   ·simp at hp;subst hp;exact List.mem_append_left _ (by simp[storeAt,hx])
  refine⟨⟨.undef,mv.map (·,.gone)++[(id,row')],[]⟩,?_,?_,λ_=>quiet,λX w0=>?_⟩
  ·have:st.app dst ⟨.undef,mv.map (·,.gone)++[(id,row')],[]⟩=((st.gones mv).setOb id row').put dst .undef:=by
    simp only[St.app,St.setOb,St.gones,List.append_nil,List.map_map]
    congr 2
    ·apply List.map_congr_left;intro t' _;simp[ZI,List.foldl_append]
    ·simp[ZS,List.foldl_append]
   rw[this];exact h
  ·intro p hp;rcases List.mem_append.mp hp with hp|hp
   ·obtain⟨j,hj,rfl⟩:=List.mem_map.mp hp;exact hltmv j hj
   ·simp at hp;subst hp;exact hltid
  ·refine Zbh.make' (λp hp=>?_) λstL g a w hr hs hR hl' _=>?_
   ·rcases List.mem_append.mp hp with hp|hp
    ·obtain⟨j,hj,rfl⟩:=List.mem_map.mp hp;exact hltmv j hj
    ·simp at hp;subst hp;exact hltid
   have lk:∀ z,z∈(Op.store t x y).operands.toList->∀ j∈ZO st (st.ev z),j∈Zbm ⟨dst,.store t x y,ty,pos,af,gd⟩ st:=λz hz=>ZaF (o:=⟨dst,.store t x y,ty,pos,af,gd⟩) hz
   obtain⟨_,hB,⟨row,hsz⟩,hfr,horg⟩:=hl'.obj hr (lk x mem_x id (by rw[hx];simp[ZO])) ho;have hsY:Z9 g stL st (ZD (ZK (st.ev y))):=hl'.sub λj hj=>lk y mem_y j (rowsOf_look j hj)
   have hmB:∀ j∈mv,g.B j:=ZG.held hr hmv hsY;have rx:=hR x mem_x;rw[hx] at rx;simp only[Zi] at rx;obtain⟨_,b,o,len,cap,hh,hil,hvx⟩:=rx;obtain⟨a',cap',hv',hrow⟩:=OwC.row row;rw[hh] at hv';injection hv' with e1 e2 e3;subst e1 e2 e3;rcases hrow with⟨rfl,_,_⟩|⟨b',o',c,e,F0,ea,ho0,hF,hb,hz,hcs,hle,rows⟩
   ·simp at hi
   injection ea with ea;injection ea with ea eo _;subst ea eo;obtain⟨ry,r1⟩:=Zi.cells hr hpl (hR y mem_y);have lny:=Zo.length ry;simp at lny;have hisz:i*Zs P rt+Zs P rt<=cap*Zs P rt:=by rw[<- Nat.succ_mul];exact Nat.mul_le_mul_right _ Om
   have hlen0:xs.length*Zs P rt<=cap*Zs P rt:=Nat.mul_le_mul_right _ hle;obtain⟨w',c',hst,hset,hc'⟩:=run_storeAt (P:=P) (t:=t) hb h0 Om (off:=o+(i*Zs P rt+off)) Om r1
   -- what is held
   have hdisj:∀ q,q∈mv.flatMap g.fp->q∉g.fp id:=by
    intro q hq hq';obtain⟨j,hj,hq⟩:=List.mem_flatMap.mp hq;exact hr.sep.apart j id (hmB j hj) hB (λe=>hnm (e▸hj)) q hq hq'
   have hbI:¬ g.I b:=(hr.sep.mine id hB b (by rw[hF];simp)).1;have hbn:b∉F0:=by
    have:=hr.sep.nodup id hB;rw[hF] at this;exact(List.nodup_cons.mp this).1
   have hbm:b∉mv.flatMap g.fp:=λq=>hdisj b q (by rw[hF];simp)
   have hnew:=ZG.sound (P:=P) (c:=c') (p:=o+(i*Zs P rt+off)) hr hmv hsY ry (λj v hv=>by
    have hj:=(List.getElem?_eq_some_iff.mp hv).1;rw[Array.getList hc',ZaV (by simp at hj⊢;omega),if_pos Om,Nat.add_sub_cancel_left];exact hv)
   have hfresh:=ZG.fresh (P:=P) hr hmv hsY;have rows':Zj P w (g.IM X (fr&&f)) c (ZX P rt) (Zs P rt) xs o F0:=Zj.weaken (λb hb=>IM_and hb) rows;obtain⟨A,R,B,hABR,hset'⟩:=Zj.set (Fn:=mv.flatMap g.fp) (new:=new) (off:=off) (i:=i) hct rows' hi hoff hc' (by simp;omega) Om (by rw[htys];exact Zf.weaken (λb hb=>IM_and' hb) hnew);have hsubF:∀ q∈b::(A++mv.flatMap g.fp++B),q∈g.fp id\/q∈mv.flatMap g.fp:=by
    intro q hq;rw[hF,hABR];simp only[List.mem_cons,List.mem_append] at hq⊢;rcases hq with h|(h|h)|h
    ·exact .inl (.inl h)
    ·exact .inl (.inr (.inl (.inl h)))
    ·exact .inr h
    ·exact .inl (.inr (.inr h))
   have hndF:(b::(A++mv.flatMap g.fp++B)).Nodup:=by
    have h1:=hr.sep.nodup id hB;rw[hF,hABR] at h1;have h2:=ZcT hr.sep hnd hmB;have h3:(A++B).Nodup:=by
     have:=(List.nodup_cons.mp h1).2;refine List.Sublist.nodup ?_ this;exact List.Sublist.append (List.sublist_append_left _ _) (List.Sublist.refl _)
    have h4:∀ q∈A++B,q∈g.fp id:=by
     intro q hq;rw[hF,hABR];simp only[List.mem_append,List.mem_cons] at hq⊢;rcases hq with h|h
     ·exact .inr (.inl (.inl h))
     ·exact .inr (.inr h)
    have h5:=List.nodup_append.mp h3;refine List.nodup_cons.mpr ⟨λhq=>?_,?_⟩
    ·rcases hsubF b (List.mem_cons_of_mem _ hq) with q|q
     ·simp only[List.mem_append] at hq;rcases hq with(h|h)|h
      ·exact hbn (by rw[hABR];simp[h])
      ·exact hbm h
      ·exact hbn (by rw[hABR];simp[h])
     ·exact hbm q
    ·rw[List.append_assoc];refine List.nodup_append.mpr ⟨h5.1,List.nodup_append.mpr ⟨h2,h5.2.1,λq hq q' hq' e=>?_⟩,λq hq q' hq' e=>?_⟩
     ·subst e;exact hdisj q hq (h4 q (by simp[hq']))
     ·subst e;rcases List.mem_append.mp hq' with hq'|hq'
      ·exact hdisj q hq' (h4 q (by simp[hq]))
      ·exact h5.2.2 q hq q hq' rfl
   have hU:∀ j,Eff.U ⟨.undef,mv.map (·,Obj.gone)++[(id,row')],[]⟩ st.ob.length j↔j=id\/j∈mv:=by
    intro j;simp only[Eff.U,List.mem_append,List.mem_map,List.mem_singleton,List.length_nil]
    constructor
    ·rintro(⟨p,⟨q,hq,rfl⟩|rfl,rfl⟩|h)
     ·exact .inr hq
     ·exact .inl rfl
     ·omega
    ·rintro(rfl|h)
     ·exact .inl ⟨(j,row'),.inr rfl,rfl⟩
     ·exact .inl ⟨(j,.gone),.inl ⟨j,h,rfl⟩,rfl⟩
   have hpool:∀ q,Pool g (Eff.U ⟨.undef,mv.map (·,Obj.gone)++[(id,row')],[]⟩ st.ob.length) q↔q∈g.fp id\/q∈mv.flatMap g.fp:=by
    intro q;constructor
    ·rintro⟨j,hj,_,hq⟩;rcases(hU j).mp hj with rfl|hj
     ·exact .inl hq
     ·exact .inr (List.mem_flatMap.mpr ⟨j,hj,hq⟩)
    ·rintro(hq|hq)
     ·exact⟨id,(hU id).mpr (.inl rfl),hB,hq⟩
     ·obtain⟨j,hj,hq⟩:=List.mem_flatMap.mp hq;exact⟨j,(hU j).mpr (.inr hj),hmB j hj,hq⟩
   have hmine:∀ q,q∈g.fp id\/q∈mv.flatMap g.fp->¬ g.I q/\q<w.heap.size:=by
    rintro q (hq|hq)
    ·exact⟨(hr.sep.mine id hB q hq).1,(hr.sep.mine id hB q hq).2.1⟩
    ·obtain⟨j,hj,hq⟩:=List.mem_flatMap.mp hq;exact⟨(hr.sep.mine j (hmB j hj) q hq).1,(hr.sep.mine j (hmB j hj) q hq).2.1⟩
   have turn:Turn X w w' g (g.re mv id (b::(A++mv.flatMap g.fp++B))) (Eff.U ⟨.undef,mv.map (·,Obj.gone)++[(id,row')],[]⟩ st.ob.length):=by
    refine⟨by rw[hset.size];omega,hset.os,hset.tape,hset.output,λq _ hq=>hset.keep q (λe=>hq ((hpool q).mpr (.inl (by rw[e,hF];simp)))),λ_ h=>h,λ_ h=>h,λ_ _=>rfl,λ_ _=>rfl,λj hj=>⟨λh=>h,λ_=>?_⟩,λj hj hBj=>?_,λj j' hj hj' hne hBj hBj' q hq hq'=>?_,λq hq=>⟨by rw[hset.size];exact hr.sep.imm q hq,.inl hq⟩⟩
    ·rw[hU] at hj;simp only[G.re]
     rw[if_neg (λe=>hj (.inl e)),if_neg (λe=>hj (.inr e))]
    ·simp only[G.re]
     by_cases hji:j=id
     ·rw[if_pos hji];refine⟨hndF,λq hq=>?_⟩
      have:=hsubF q hq;exact⟨(hmine q this).1,by rw[hset.size];exact(hmine q this).2,λ_=>(hpool q).mpr this⟩
     ·rw[if_neg hji,if_pos (((hU j).mp hj).resolve_left hji)];simp
    ·simp only[G.re] at hq hq';by_cases hji:j=id
     ·have hj'i:¬ j'=id:=λe=>hne (hji.trans e.symm)
      rw[if_neg hj'i,if_pos (((hU j').mp hj').resolve_left hj'i)] at hq';cases hq'
     ·rw[if_neg hji,if_pos (((hU j).mp hj).resolve_left hji)] at hq;cases hq
   refine⟨undef,w',g.re mv id (b::(A++mv.flatMap g.fp++B)),λK Q hk=>wp_skip (run a w w' (by rw[hvx,hsz];exact hst)) hk,turn,λj=>by simp[G.re];omega,λp hp _=>?_,by simp,by simp[Zi]⟩
   rcases List.mem_append.mp hp with hp|hp
   ·obtain⟨j,hj,rfl⟩:=List.mem_map.mp hp;have hji:¬ j=id:=λe=>hnm (e▸hj)
    simp only[Zy,G.re]
    rw[if_neg hji,if_pos hj];obtain⟨o',_,ro'⟩:=hr.obs j (hmB j hj);exact⟨rfl,ro'.one⟩
   ·simp at hp;subst hp;simp only[row',Zy]
    have hfpid:(g.re mv id (b::(A++mv.flatMap g.fp++B))).fp id=b::(A++mv.flatMap g.fp++B):=by simp[G.re]
    have hhv:(g.re mv id (b::(A++mv.flatMap g.fp++B))).hv=g.hv:=rfl;rw[hfpid,hhv];refine⟨⟨?_,hsz⟩,λq bb hbb=>?_,horg⟩
    ·simp only[OwC]
     refine⟨some ⟨b,o,none⟩,cap,by rw[hh];simp,.inr ⟨b,o,c',e,A++mv.flatMap g.fp++B,rfl,ho0,rfl,hset.at_,hz,?_,by simpa using hle,?_⟩⟩
     ·have:=congrArg List.length hc';rw[Zbq (by simp;omega)] at this;simp at this;omega
     ·refine Zj.mono ⟨⟨λ_ h=>h,λq hq=>hset.keep q (λe=>hbI (e▸hq.1))⟩,λq hq=>hset.keep q (λe=>?_)⟩ hset';subst e;exact(List.nodup_cons.mp hndF).1 hq
    ·simp at q;rcases hsubF bb hbb with hq|hq
     ·exact hfr q.1 bb hq
     ·exact hfresh q.2 bb hq
 ·cases h
end
end Go.T
namespace Go.T
def ZV (P:Program) (w:World) (I Q:Nat->Prop):A->Mode×TypeId->Value->List Nat->Prop
 |.d x,(.imm,_),v,F=>F=[]/\RdD w I x v
 |.agg xs,(.imm,_),v,F=>F=[]/\∃ cs:List Value,v=.agg cs.toArray/\cs.length=xs.length/\Zt w I cs.toArray 0 xs
 |.ip xs,(.imm,_),v,F=>F=[]/\∃ b off c e f,v=.pointer (some ⟨b,off,none⟩)/\I b/\w.heap[b]? = some (.cells c e f)/\Zt w I c off xs
 |.nil,(.nil,_),v,F=>F=[]/\∃ a,v=.slice a 0 0
 |.own true cs,(.own,ct),v,F=>∃ vals:List Value,v=.agg vals.toArray/\vals.length=cs.length/\Zf P w (λb=>I b/\Q b) vals.toArray cs (ZA P 6 ct) 0 F/\∀ b∈F,Q b
 |.own false cs,(.own,ct),v,F=>Zf P w (λb=>I b/\Q b) #[v] cs [ct] 0 F/\∀ b∈F,Q b
 |.box cs,(.box,pt),v,F=>∃ b c e F',v=.pointer (some ⟨b,0,none⟩)/\F=b::F'/\w.heap[b]? = some (.cells c e (0,0))/\c.size=cs.length/\Zf P w (λb=>I b/\Q b) c cs (ZA P 6 pt) 0 F'/\∀ b∈F',Q b
 |_,_,_,_=>False
def ZY (P:Program) (w:World) (I Q:Nat->Prop):List A->List (Mode×TypeId)->List Value->List Nat->Prop
 |[],[],vs,F=>vs=[]/\F=[]
 |a::as,m::ms,vs,F=>∃ v vs' F1 F2,vs=v::vs'/\F=F1++F2/\ZV P w I Q a m v F1/\ZY P w I Q as ms vs' F2
 |_,_,_,_=>False
def Zac (P:Program) (w:World) (I Q:Nat->Prop):List A->List (Mode×TypeId)->List Value->List Out->List Nat->Prop
 |[],[],_,os,F=>os=[]/\F=[]
 |.own g cs::as,(_,ct)::ms,v::vs,os,F=>(∃ os',os=.lost::os'/\Zac P w I Q as ms vs os' F)\/
   ∃ cs' os' F1 F2,os=.own cs'::os'/\F=F1++F2/\cs'.length=cs.length/\ZV P w I Q (.own g cs') (.own,ct) v F1/\Zac P w I Q as ms vs os' F2
 |.box cs::as,(_,pt)::ms,v::vs,os,F=>∃ cs' os' F1 F2,os=.box cs'::os'/\F=F1++F2/\cs'.length=cs.length/\ZV P w I Q (.box cs') (.box,pt) v F1/\Zac P w I Q as ms vs os' F2
 |_::as,_::ms,_::vs,os,F=>Zac P w I Q as ms vs os F
 |_,_,_,_,_=>False
def BoxRel (w:World) (I:Nat->Prop) (ds:List D) (v:Value) (F:List Nat):Prop:=
 ∃ b c e,v=.pointer (some ⟨b,0,none⟩)/\F=[b]/\w.heap[b]? = some (.cells c e (0,0))/\c.size=ds.length/\Zt w I c 0 ds
def ResVal (P:Program) (w:World) (I:Nat->Prop) (t:TypeId) (c:List C) (v:Value) (F:List Nat):Prop:=
 (Zb2 P t=false/\∃ cells,v=(if Z4 P t then .agg cells else cells.getD 0 undef)/\cells.size=c.length/\Zf P w I cells c (ZA P 6 t) 0 F)\/
  (Zb2 P t=true/\∃ ds,c=ds.map .d/\BoxRel w I ds v F)
def ZaY (P:Program) (w:World) (I:Nat->Prop):List TypeId->List (List C)->List Value->List Nat->Prop
 |[],[],vs,F=>vs=[]/\F=[]
 |t::ts,c::cs,vs,F=>∃ v vs' F1 F2,vs=v::vs'/\F=F1++F2/\ResVal P w I t c v F1/\ZaY P w I ts cs vs' F2
 |_,_,_,_=>False
theorem BoxRel.weaken {w:World} {I I':Nat->Prop} (h:∀ b,I b->I' b) {ds:List D} {v:Value} {F:List Nat} (r:BoxRel w I ds v F):BoxRel w I' ds v F:=by
 obtain⟨b,c,e,q1,q2,q3,q4,q5⟩:=r;exact⟨b,c,e,q1,q2,q3,q4,Zt.mono ⟨h,λ_ _=>rfl⟩ q5⟩
theorem ZaY.weaken {P:Program} {w:World} {I I':Nat->Prop} (hI:∀ b,I b->I' b):∀ {tys:List TypeId} {cs:List (List C)} {vs:List Value} {F:List Nat},ZaY P w I tys cs vs F->ZaY P w I' tys cs vs F
 |[],[],_,_,r=>by simpa only[ZaY] using r
 |[],_::_,_,_,r=>by simp only[ZaY] at r
 |_::_,[],_,_,r=>by simp only[ZaY] at r
 |t::tys,c::cs,vs,F,r=>by
  simp only[ZaY] at r⊢;obtain⟨v,vs',F1,F2,r1,r2,r3,r4⟩:=r;refine⟨v,vs',F1,F2,r1,r2,?_,ZaY.weaken hI r4⟩
  rcases r3 with⟨q0,cells,q1,q2,q3⟩|⟨q0,ds,q1,q2⟩
  ·exact .inl ⟨q0,cells,q1,q2,Zf.weaken hI q3⟩
  ·exact .inr ⟨q0,ds,q1,q2.weaken hI⟩
def packV:List Value->Value
 |[v]=>v
 |vs=>.tuple vs.toArray
def CPost (P:Program) (e:Za0) (as:List A) (w:World) (I Q:Nat->Prop) (vs:List Value) (F:List Nat) (rs:List (List C)) (os:List Out) (ex:Ending) (w':World):Prop:=
 ∃ (v:Value) (vs':List Value) (I':Nat->Prop) (Fr Fo:List Nat),ex=.returned v/\v=packV vs'/\w.heap.size<=w'.heap.size/\w'.os=w.os/\w'.tape=w.tape/\w'.output=w.output/\
   (∀ b,b<w.heap.size->b∉F->w'.heap[b]? = w.heap[b]?)/\(∀ b,I b->I' b)/\(∀ b,I' b->b<w'.heap.size/\(I b\/w.heap.size<=b\/b∈F))/\
   (Fr++Fo).Nodup/\(∀ b∈Fr++Fo,¬ I' b/\b<w'.heap.size/\(b<w.heap.size->b∈F))/\
   Zac P w' I' (λb=>e.al=false->e.ow=true->w.heap.size<=b\/Q b) as e.modes vs os Fo/\ZaY P w' (λb=>I' b/\(e.al=false->w.heap.size<=b\/(e.ow=true/\Q b))) e.rts rs vs' Fr/\(e.al=false->∀ b∈Fr,w.heap.size<=b\/(e.ow=true/\Q b))
def CallsOK (P:Program) (f:FuncId) (e:Za0) (as:List A) (rs:List (List C)) (os:List Out):Prop:=
 ∀ (w:World) (I Q:Nat->Prop) (vs:List Value) (F:List Nat),ZY P w I Q as e.modes vs F->F.Nodup->(∀ b∈F,¬ I b/\b<w.heap.size)->(∀ b,I b->b<w.heap.size)->
  Calls P f vs.toArray w (CPost P e as w I Q vs F rs os)
def Zbl (P:Program) (f:FuncId):Bool:=
 match P.funcs[f]? with
 | some fn => fn.name != "runtime.NumGoroutine" && fn.body.isSome
 |none=>false
def LArgs (P:Program) (w:World) (I J:Nat->Prop) (ct:TypeId):List Bool->List A->List Value->List Nat->Prop
 |[],[],vs,F=>vs=[]/\F=[]
 |true::bs,.own false [c]::as,vs,F=>∃ v vs' F1 F2,vs=v::vs'/\F=F1++F2/\OwC P w J c ct v F1/\LArgs P w I J ct bs as vs' F2
 |false::bs,a::as,vs,F=>∃ v vs',vs=v::vs'/\ZV P w I (λ_=>True) a (.imm,0) v []/\LArgs P w I J ct bs as vs' F
 |_,_,_,_=>False
def LPost (P:Program) (ct:TypeId) (w:World) (J:Nat->Prop) (F:List Nat) (ys:List (List C)) (ex:Ending) (w':World):Prop:=
 ∃ (v:Value) (F':List Nat),ex=.returned v/\w.heap.size<=w'.heap.size/\w'.os=w.os/\w'.tape=w.tape/\w'.output=w.output/\
  (∀ b,b<w.heap.size->b∉F->w'.heap[b]? = w.heap[b]?)/\F'.Nodup/\(∀ b∈F',b<w'.heap.size/\(b<w.heap.size->b∈F))/\OwC P w' J (.own ys) ct v F'
def LibCalls (P:Program) (f:FuncId) (L:Lib) (as:List A) (ys:List (List C)):Prop:=
 ∀ (w:World) (I J:Nat->Prop) (vs:List Value) (F:List Nat),LArgs P w I J L.ct L.gives as vs F->F.Nodup->(∀ b∈F,¬ I b/\b<w.heap.size)->(∀ b,J b->I b)->(∀ b,I b->b<w.heap.size)->
  Calls P f vs.toArray w (LPost P L.ct w J F ys)
def LibOK (P:Program) (f:FuncId) (L:Lib):Prop:=
 ∀ (β:Type) (as:List A) (K:List (List C)->Option β) (r:β),L.run as K=some r->∃ ys,K ys=some r/\LibCalls P f L as ys
def Zas (P:Program) (f:FuncId) (e:Za0):Prop:=
 Zbl P f=true/\(∀ (β:Type) (as:List A) (K:List (List C)->List Out->Option β) (r:β),e.run as K=some r->∃ rs os,K rs os=some r/\CallsOK P f e as rs os)/\∀ L,e.lib=some L->LibOK P f L
def EnvOK (P:Program) (E:Env):Prop:=∀ f e,E f=some e->Zas P f e
end Go.T
namespace Go.T
def G.tab (g:G) (J:Nat->Prop) (n m:Nat) (l:List (Nat×List Nat)) (hv:Nat->Value) (sz:Nat->Nat):G where
 I b:=g.I b\/J b
 B id:=g.B id\/(n<=id/\id<n+m)
 fp id:=(l.lookup id).getD (g.fp id)
 hv id:=if n<=id/\id<n+m then hv id else g.hv id
 sz id:=if n<=id/\id<n+m then sz id else g.sz id
theorem lookup_mem {l:List (Nat×List Nat)} {id:Nat} {F:List Nat} (h:l.lookup id=some F):(id,F)∈l:=by
 induction l with
 |nil=>simp at h
 |cons p l ih=>
  obtain⟨i,G⟩:=p;rw[List.lookup_cons] at h;split at h
  ·rename_i he;have:id=i:=by simpa using he
   injection h with h;subst this h;simp
  ·exact List.mem_cons_of_mem _ (ih h)
theorem lookup_some {l:List (Nat×List Nat)} {id:Nat} (h:id∈l.map (·.1)):∃ F,l.lookup id=some F:=by
 induction l with
 |nil=>simp at h
 |cons p l ih=>
  obtain⟨i,G⟩:=p;rw[List.lookup_cons];by_cases he:id=i
  ·exact⟨G,by simp[he]⟩
  ·have h1:(id==i)=false:=by simpa using he
   rw[h1];exact ih (by simpa[he] using h)
theorem Turn.tab {X:Fix} {w w':World} {g:G} (hsep:Sep X w g) {U:Nat->Prop} {J:Nat->Prop} {n m:Nat} {l:List (Nat×List Nat)} {hv:Nat->Value} {sz:Nat->Nat}
  (hU:∀ id,U id↔id∈l.map (·.1)) (hnew:∀ id,n<=id->id<n+m->U id/\¬ g.B id)
  (size:w.heap.size<=w'.heap.size) (os:w'.os=w.os) (tape:w'.tape=w.tape) (output:w'.output=w.output)
  (keep:∀ b,b<w.heap.size->¬ Pool g U b->w'.heap[b]? = w.heap[b]?)
  (hkeys:(l.map (·.1)).Nodup) (hnd:(l.flatMap (·.2)).Nodup) (hF:∀ b∈l.flatMap (·.2),¬ J b/\b<w'.heap.size/\(b<w.heap.size->Pool g U b))
  (hJ:∀ b,J b->b<w'.heap.size/\(w.heap.size<=b\/Pool g U b)):Turn X w w' g (g.tab J n m l hv sz) U:=by
 have hfp:∀ id,U id->∃ F,(g.tab J n m l hv sz).fp id=F/\(id,F)∈l:=by
  intro id hu;obtain⟨F,hF⟩:=lookup_some ((hU id).mp hu);exact⟨F,by simp[G.tab,hF],lookup_mem hF⟩
 have hpI:∀ b,Pool g U b->¬ g.I b:=λb ⟨id,_,hB,hb⟩=>(hsep.mine id hB b hb).1
 refine⟨size,os,tape,output,keep,λb hb=>.inl hb,λid hB=>.inl hB,λid hB=>?_,λid hB=>?_,λid hu=>?_,λid hu hB=>?_,λid id' hu hu' hne hB hB' b hb hb'=>?_,λb hb=>?_⟩
 ·simp only[G.tab];rw[if_neg (λq=>(hnew id q.1 q.2).2 hB)]
 ·simp only[G.tab];rw[if_neg (λq=>(hnew id q.1 q.2).2 hB)]
 ·refine⟨λhB=>hB.resolve_right λq=>hu (hnew id q.1 q.2).1,λ_=>?_⟩
  simp only[G.tab]
  cases hl:l.lookup id with
  |none=>rfl
  |some F=>exact absurd ((hU id).mpr (List.mem_map.mpr ⟨_,lookup_mem hl,rfl⟩)) hu
 ·obtain⟨F,he,hm⟩:=hfp id hu;rw[he];refine⟨?_,λb hb=>?_⟩
  ·have key:∀ (l:List (Nat×List Nat)),(l.flatMap (·.2)).Nodup->(id,F)∈l->F.Nodup:=by
    intro l;induction l with
    |nil=>intro _ h;cases h
    |cons p l ih=>
     intro hnd h1;rw[List.flatMap_cons] at hnd;have h3:=List.nodup_append.mp hnd;rcases List.mem_cons.mp h1 with rfl|h1
     ·exact h3.1
     ·exact ih h3.2.1 h1
   exact key l hnd hm
  ·obtain⟨h1,h2,h3⟩:=hF b (List.mem_flatMap.mpr ⟨_,hm,hb⟩);refine⟨λhI=>?_,h2,h3⟩
   rcases hI with hI|hI
   ·exact hpI b (h3 (hsep.imm b hI)) hI
   ·exact h1 hI
 ·obtain⟨F,he,hm⟩:=hfp id hu;obtain⟨F',he',hm'⟩:=hfp id' hu';rw[he] at hb;rw[he'] at hb';have key:∀ (l:List (Nat×List Nat)),(l.flatMap (·.2)).Nodup->(id,F)∈l->(id',F')∈l->False:=by
   intro l;induction l with
   |nil=>intro _ h;cases h
   |cons p l ih=>
    intro hnd h1 h2;rw[List.flatMap_cons] at hnd;have h3:=List.nodup_append.mp hnd;rcases List.mem_cons.mp h1 with e1|h1'<;>rcases List.mem_cons.mp h2 with e2|h2'
    ·rw[<- e1] at e2;injection e2 with e2 _;exact hne e2.symm
    ·subst e1;exact h3.2.2 b hb b (List.mem_flatMap.mpr ⟨(id',F'),h2',hb'⟩) rfl
    ·subst e2;exact h3.2.2 b hb' b (List.mem_flatMap.mpr ⟨(id,F),h1',hb⟩) rfl
    ·exact ih h3.2.1 h1' h2'
  exact key l hnd hm hm'
 ·rcases hb with hb|hb
  ·exact⟨Nat.lt_of_lt_of_le (hsep.imm b hb) size,.inl hb⟩
  ·exact⟨(hJ b hb).1,.inr (hJ b hb).2⟩
end Go.T
namespace Go.T
def St.sets (st:St) (l:List (Nat×Obj)):St:=⟨st.tm.map (ZI l),ZS st.ob l⟩
theorem St.sets_nil (st:St):st.sets []=st:=by
 have:ZI []=id:=funext λt=>rfl
 simp[St.sets,this,ZS]
theorem St.sets_cons (st:St) (p:Nat×Obj) (l:List (Nat×Obj)):st.sets (p::l)=(st.setOb p.1 p.2).sets l:=by
 simp only[St.sets,St.setOb,List.map_map]
 rfl
theorem St.sets_append (st:St) (l1 l2:List (Nat×Obj)):st.sets (l1++l2)=(st.sets l1).sets l2:=by
 induction l1 generalizing st with
 |nil=>rw[List.nil_append,St.sets_nil]
 |cons x l1 ih=>rw[List.cons_append,St.sets_cons,St.sets_cons,ih]
theorem St.sets_gones (st:St) (mv:List Nat):st.gones mv=st.sets (mv.map (·,.gone)):=rfl
inductive Frz:St->List (Nat×Obj)->Prop
 |nil (st:St):Frz st []
 |row {st:St} {id:Nat} {og:Option Nat} {fr:Bool} {ct:TypeId} {xs:List (List C)} {l:List (Nat×Obj)} (h:st.ob[id]? = some (.row og fr ct xs)) (r:Frz (st.setOb id (.frz fr (C.immRows xs))) l):
   Frz st ((id,.frz fr (C.immRows xs))::l)
 |box {st:St} {id:Nat} {og:Option Nat} {t:TypeId} {cs:List T} {f:Bool} {ds:List D} {l:List (Nat×Obj)} (h:st.ob[id]? = some (.box og t cs)) (hd:ZbR true st cs=some (f,ds)) (r:Frz (st.setOb id (.fbx f ds)) l):
   Frz st ((id,.fbx f ds)::l)
theorem Frz.append {st:St} {l1 l2:List (Nat×Obj)} (h1:Frz st l1) (h2:Frz (st.sets l1) l2):Frz st (l1++l2):=by
 induction h1 with
 |nil st=>rw[St.sets_nil] at h2;exact h2
 |row h r ih=>rw[St.sets_cons] at h2;exact .row h (ih h2)
 |box h hd r ih=>rw[St.sets_cons] at h2;exact .box h hd (ih h2)
section
variable {P:Program} {X:Fix} {w:World} {g:G} {stL st:St} {a:Act}
theorem cellD_strict (hr:Rel P X w g stL a) {t:T} {f:Bool} {x:D} {v:Value} (h:cellD true st t=some (f,x)) (hs:Z9 g stL st (ZD [t])) (r:Zi X w g t v):RdD w (g.IM X (f||Zak x)) x v:=by
 unfold cellD at h;split at h
 ·injection h with h;injection h with h1 h2;subst h1 h2;simp only[Zi] at r;rename_i fr x;cases hsc:Zak x with
  |true=>
   have hv:=Zi.scal_eq (X:=X) (w:=w) (g:=g) (fr:=fr) (v:=v) hsc (by simpa only[Zi] using r);subst hv;exact RdD.scal hsc
  |false=>simpa using r
 ·injection h with h;injection h with h1 h2;subst h1 h2;simp only[Zi] at r;obtain⟨ad,rfl⟩:=r;simp only[RdD]
  exact⟨ad,0,0,rfl,rfl,Om,.inl trivial⟩
 ·rename_i id;simp only[Zi] at r;split at h
  ·simp at h
  ·rename_i ho;injection h with h;injection h with h1 h2;subst h1 h2;obtain⟨_,_,hrd,_⟩:=hs.obj hr (by simp[ZD]) ho;rw[r.2];simpa[Zak] using hrd
  ·cases h
 ·cases h
theorem Zdi (hr:Rel P X w g stL a) {c:Array Value}:∀ {ts:List T} {f:Bool} {ds:List D} {vs:List Value} {p:Nat},ZbR true st ts=some (f,ds)->Z9 g stL st (ZD ts)->Zo X w g ts vs->
  (∀ (j:Nat) (v:Value),vs[j]? = some v->c[p+j]? = some v)->Zt w (g.IM X f) c p ds/\ds.length=ts.length
 |[],f,ds,vs,p,h,hs,r,hc=>by
  simp only[ZbR] at h;injection h with h;injection h with h1 h2;subst h1 h2;simp[Zt]
 |t::ts,f,ds,vs,p,h,hs,r,hc=>by
  simp only[ZbR] at h;split at h;case h_2=>cases h
  rename_i f1 x f2 xs h1 h2;injection h with h;injection h with e1 e2;subst e1 e2;simp only[Zo] at r;obtain⟨v,vs',rfl,_,r1,r2⟩:=r;have hs1:Z9 g stL st (ZD [t]):=hs.sub λid hid=>by
   simp only[ZD,List.flatMap_cons,List.mem_append] at hid⊢;exact .inl (by simpa using hid)
  have hs2:Z9 g stL st (ZD ts):=hs.sub λid hid=>by
   simp only[ZD,List.flatMap_cons,List.mem_append] at hid⊢;exact .inr hid
  obtain⟨i1,i2⟩:=Zdi hr (p:=p+1) h2 hs2 r2 (λj u hu=>by
   have:=hc (j+1) u (by simpa using hu);rwa[show p+1+j=p+(j+1) from by omega])
  simp only[Zt]
  refine⟨⟨⟨v,by simpa using hc 0 v Sp,RdD.weaken (λb hb=>IM_and hb) (cellD_strict hr h1 hs1 r1)⟩,?_⟩,by simp[i2]⟩
  exact Zt.mono ⟨λb hb=>IM_and' hb,λ_ _=>rfl⟩ i1
theorem cellD_all (hT:Zax P) (hr:Rel P X w g stL a) {J:Nat->Prop} (hI:∀ b,g.I b->J b) (hJ:∀ id,g.B id->∀ b∈g.fp id,J b) {s:Bool} {t:T} {f:Bool} {x:D} {v:Value} (h:cellD s st t=some (f,x)) (hs:Z9 g stL st (ZD [t])) (r:Zi X w g t v):RdD w J x v:=by
 unfold cellD at h;split at h
 ·injection h with h;injection h with h1 h2;subst h1 h2;simp only[Zi] at r;exact RdD.weaken (λb hb=>hI b hb.1) r
 ·injection h with h;injection h with h1 h2;subst h1 h2;simp only[Zi] at r;obtain⟨ad,rfl⟩:=r;simp only[RdD]
  exact⟨ad,0,0,rfl,rfl,Om,.inl trivial⟩
 ·rename_i id;simp only[Zi] at r;split at h
  ·rename_i ho;cases s with
   |true=>simp at h
   |false=>
    simp only[cond_false] at h;injection h with h;injection h with h1 h2;subst h1 h2;obtain⟨_,hB,⟨row,_⟩,_⟩:=hs.obj hr (by simp[ZD]) ho;rw[r.2];have:=OwC.imm (J:=J) (λb hb=>hI b hb.1) (λb hb=>hJ id hB b hb) hT row;simpa only[C.imm] using this
  ·rename_i ho;injection h with h;injection h with h1 h2;subst h1 h2;obtain⟨_,_,hrd,_⟩:=hs.obj hr (by simp[ZD]) ho;rw[r.2];exact RdD.weaken (λb hb=>hI b hb.1) hrd
  ·cases h
 ·cases h
theorem cellsD_all (hT:Zax P) (hr:Rel P X w g stL a) {J:Nat->Prop} (hI:∀ b,g.I b->J b) (hJ:∀ id,g.B id->∀ b∈g.fp id,J b) {s:Bool} {c:Array Value}:∀ {ts:List T} {f:Bool} {ds:List D} {vs:List Value} {p:Nat},ZbR s st ts=some (f,ds)->Z9 g stL st (ZD ts)->Zo X w g ts vs->
  (∀ (j:Nat) (v:Value),vs[j]? = some v->c[p+j]? = some v)->Zt w J c p ds/\ds.length=ts.length
 |[],f,ds,vs,p,h,hs,r,hc=>by
  simp only[ZbR] at h;injection h with h;injection h with h1 h2;subst h1 h2;simp[Zt]
 |t::ts,f,ds,vs,p,h,hs,r,hc=>by
  simp only[ZbR] at h;split at h;case h_2=>cases h
  rename_i f1 x f2 xs h1 h2;injection h with h;injection h with e1 e2;subst e1 e2;simp only[Zo] at r;obtain⟨v,vs',rfl,_,r1,r2⟩:=r;have hs1:Z9 g stL st (ZD [t]):=hs.sub λid hid=>by
   simp only[ZD,List.flatMap_cons,List.mem_append] at hid⊢;exact .inl (by simpa using hid)
  have hs2:Z9 g stL st (ZD ts):=hs.sub λid hid=>by
   simp only[ZD,List.flatMap_cons,List.mem_append] at hid⊢;exact .inr hid
  obtain⟨i1,i2⟩:=cellsD_all hT hr hI hJ (p:=p+1) h2 hs2 r2 (λj u hu=>by
   have:=hc (j+1) u (by simpa using hu);rwa[show p+1+j=p+(j+1) from by omega])
  simp only[Zt]
  exact⟨⟨⟨v,by simpa using hc 0 v Sp,cellD_all hT hr hI hJ h1 hs1 r1⟩,i1⟩,by simp[i2]⟩
end
end Go.T
namespace Go.T
theorem Rel.freezeBox {P:Program} {X:Fix} {w0 w:World} {g:G} {stL st:St} {a:Act} (hr:Rel P X w g stL a) (hs:Zal X w0 w) {id:Nat} {og:Option Nat} {t:TypeId} {cs:List T} {f:Bool} {ds:List D}
  (ho:stL.ob[id]? = some (.box og t cs)) (hB:g.B id) (hd:ZbR true st cs=some (f,ds)) (hS:Z9 g stL st (ZD cs)):Rel P X w (g.frz id) (stL.setOb id (.fbx f ds)) a:=by
 obtain⟨o',ho',ro⟩:=hr.obs id hB;rw[ho] at ho';injection ho' with ho';subst ho';simp only[Zy] at ro;obtain⟨⟨b,c,e,hh,hfp,hb,rc⟩,horg⟩:=ro;obtain⟨rd,_⟩:=Zdi hr (c:=c) (p:=0) hd hS rc (λj v hv=>by simpa using hv);have hx:=G.frz_ext hr.sep id;refine Rel.update (λi=>i=id) hr hs ?_ rfl ⟨by simp[St.setOb,hr.tms.1],?_⟩ ?_ ?_
 ·refine⟨Nat.le_refl _,rfl,rfl,rfl,λ_ _ _=>rfl,λb hb=>.inl hb,λ_ h=>h,λ_ _=>rfl,λ_ _=>rfl,λi hi=>⟨λh=>h,λ_=>by simp only[G.frz];rw[if_neg hi]⟩,λi hi _=>by simp only[G.frz];rw[if_pos hi];simp,λi i' hi hi' hne=>absurd (hi.trans hi'.symm) hne,λb hb=>?_⟩
  rcases hb with hb|hb
  ·exact⟨hr.sep.imm b hb,.inl hb⟩
  ·exact⟨(hr.sep.mine id hB b hb).2.1,.inr (.inr ⟨id,rfl,hB,hb⟩)⟩
 ·intro i t ht;rw[List.getElem?_map] at ht;obtain⟨t0,ht0,rfl⟩:=Option.map_eq_some_iff.mp ht;obtain⟨v0,hv0,_⟩:=hr.tms.2 i t0 ht0;rcases Zbv [(id,Obj.gone)] t0 with⟨hk,hsub⟩|hk
  ·have hk':Zaa id t0=t0:=hk;refine .inr (.inr ⟨by rw[hk'];exact ht0,rfl,λid' j off e=>?_⟩);rw[hk'] at e;exact λe'=>hsub id' j off e (id,.gone) Sp e'.symm
  ·exact .inl ⟨hk,v0,hv0⟩
 ·intro i hi;rw[List.getElem?_set_ne (λe=>hi e.symm)]
 ·intro i hi _;subst hi;refine⟨.fbx f ds,?_,?_⟩
  ·rw[List.getElem?_set_self (List.getElem?_eq_some_iff.mp ho).1]
  ·simp only[Zy]
   refine⟨⟨b,c,e,(0,0),hh,.inr (by rw[hfp];simp),hb,Zt.mono (hx.keeps f) rd⟩,by simp[G.frz]⟩
theorem Z9.set {g g':G} {stL st:St} {l:List Nat} (h:Z9 g stL st l) (hB:∀ i,g.B i->g'.B i) {id:Nat} (hid:id∈l) (o:Obj):Z9 g' (stL.setOb id o) (st.setOb id o) l:=by
 intro i hi hsome;simp only[St.setOb] at hsome⊢;have hl:(st.ob[i]?).isSome:=by
  rw[List.getElem?_set] at hsome;split at hsome
  ·split at hsome
   ·rename_i h1 h2;subst h1;simp[h2]
   ·simp at hsome
  ·exact hsome
 obtain⟨h1,h2⟩:=h i hi hl;refine⟨?_,hB i h2⟩
 by_cases he:id=i
 ·subst he;have l1:id<st.ob.length:=by simpa using hl
  have l2:id<stL.ob.length:=by
   have:(stL.ob[id]?).isSome:=by rw[h1];exact hl
   simpa using this
  rw[List.getElem?_set_self l2,List.getElem?_set_self l1]
 ·rw[List.getElem?_set_ne he,List.getElem?_set_ne he];exact h1
theorem Frz.sound {P:Program} {X:Fix} {w0 w:World} {a:Act} (hT:Zax P) (hs:Zal X w0 w) {l0:List Nat} {st:St} {l:List (Nat×Obj)} (h:Frz st l):∀ {g:G} {stL:St},Rel P X w g stL a->Z9 g stL st l0->(∀ p∈l,p.1∈l0)->
  (∀ (id:Nat) (f:Bool) (ds:List D) (og:Option Nat) (t:TypeId) (cs:List T),(id,Obj.fbx f ds)∈l->st.ob[id]? = some (.box og t cs)->∀ j∈ZD cs,j∈l0)->
  ∃ g',Rel P X w g' (stL.sets l) a/\Z9 g' (stL.sets l) (st.sets l) l0/\Ext w w g g' (λ_=>False)/\(∀ id,g'.B id↔g.B id)/\(∀ b,g'.I b->g.I b\/∃ id,g.B id/\b∈g.fp id)/\∀ id,id∉l.map (·.1)->g'.fp id=g.fp id:=by
 induction h with
 |nil st=>
  intro g stL hr hS _ _;rw[St.sets_nil,St.sets_nil];exact⟨g,hr,hS,⟨λ_ h=>h,λ_ _ _=>rfl,λ_ _ h=>h,hr.sep.imm,λ_ h=>h,λ_ _=>rfl,λ_ _=>rfl⟩,λ_=>Iff.rfl,λ_ h=>.inl h,λ_ _=>rfl⟩
 |@row st id og fr ct xs l ho r ih=>
  intro g stL hr hS hl hbx;have hid:=hl _ (List.mem_cons_self);obtain⟨h1,h2⟩:=hS id hid (by rw[ho];rfl);rw[ho] at h1;have hr2:=Rel.freeze hT hr hs h1 h2;obtain⟨g',q1,q2,q3,q4,q5,q6⟩:=ih hr2 (hS.set (g':=g.frz id) (λ_ h=>h) hid _) (λp hp=>hl p (List.mem_cons_of_mem _ hp)) (λi f' ds' og' t' cs' hi hb j hj=>by
   simp only[St.setOb] at hb;rw[List.getElem?_set] at hb;split at hb
   ·split at hb<;>simp at hb
   ·exact hbx i f' ds' og' t' cs' (List.mem_cons_of_mem _ hi) hb j hj)
  rw[St.sets_cons,St.sets_cons];have e1:=G.frz_ext hr.sep id;refine⟨g',q1,q2,⟨λb hb=>q3.imp b (.inl hb),λ_ _ _=>rfl,λ_ _ h=>h,hr.sep.imm,λi h=>q3.B i h,λi h=>q3.hv i h,λi h=>q3.sz i h⟩,q4,λb hb=>?_,λi hi=>by
   simp only[List.map_cons,List.mem_cons,not_or] at hi;rw[q6 i hi.2];simp only[G.frz]
   rw[if_neg hi.1]⟩
  rcases q5 b hb with(q|q)|⟨i,hi,hb'⟩
  ·exact .inl q
  ·exact .inr ⟨id,h2,q⟩
  ·simp only[G.frz] at hb';split at hb'
   ·cases hb'
   ·exact .inr ⟨i,hi,hb'⟩
 |@box st id og t cs f ds l ho hd r ih=>
  intro g stL hr hS hl hbx;have hid:=hl _ (List.mem_cons_self);obtain⟨h1,h2⟩:=hS id hid (by rw[ho];rfl);rw[ho] at h1;have hr2:=Rel.freezeBox hr hs h1 h2 hd (hS.sub (hbx id f ds og t cs (List.mem_cons_self) ho));obtain⟨g',q1,q2,q3,q4,q5,q6⟩:=ih hr2 (hS.set (g':=g.frz id) (λ_ h=>h) hid _) (λp hp=>hl p (List.mem_cons_of_mem _ hp)) (λi f' ds' og' t' cs' hi hb j hj=>by
   simp only[St.setOb] at hb;rw[List.getElem?_set] at hb;split at hb
   ·split at hb<;>simp at hb
   ·exact hbx i f' ds' og' t' cs' (List.mem_cons_of_mem _ hi) hb j hj)
  rw[St.sets_cons,St.sets_cons];refine⟨g',q1,q2,⟨λb hb=>q3.imp b (.inl hb),λ_ _ _=>rfl,λ_ _ h=>h,hr.sep.imm,λi h=>q3.B i h,λi h=>q3.hv i h,λi h=>q3.sz i h⟩,q4,λb hb=>?_,λi hi=>by
   simp only[List.map_cons,List.mem_cons,not_or] at hi;rw[q6 i hi.2];simp only[G.frz]
   rw[if_neg hi.1]⟩
  rcases q5 b hb with(q|q)|⟨i,hi,hb'⟩
  ·exact .inl q
  ·exact .inr ⟨id,h2,q⟩
  ·simp only[G.frz] at hb';split at hb'
   ·cases hb'
   ·exact .inr ⟨i,hi,hb'⟩
end Go.T
namespace Go.T
structure JOk (g:G) (s:Bool) (J:Nat->Prop):Prop where
 imp:∀ b,g.I b->J b
 all:s=false->∀ id,g.B id->∀ b∈g.fp id,J b
def ZaQ (st:St) (t:T):List Nat:=
 match t with
 |.bp id _=>
  match st.ob[id]? with
  |some (.box _ _ cs)=>id::ZD cs
  |_=>[id]
 |_=>[]
theorem ZcS (st:St) (f:FuncId) (ts:List T):ZO st (.clo f ts)=ts.flatMap (ZaQ st):=rfl
theorem lookT_agg (st:St) (ts:List T):ZO st (.agg ts)=ZD ts:=rfl
def ZaI (st1 st:St):Prop:=∀ (id:Nat) (o:Obj),st1.ob[id]? = some o->o≠.gone->st.ob[id]? = some o
theorem ZaI.refl (st:St):ZaI st st:=λ_ _ h _=>h
theorem ZaI.gones (st:St) (mv:List Nat):ZaI (st.gones mv) st:=λ_ _ h ho=>(St.gones_ob h ho).2
theorem ZaI.setOb (st:St) (id:Nat):ZaI (st.setOb id .gone) st:=by
 have:=ZaI.gones st [id];rwa[St.gones_cons,St.gones_nil] at this
theorem ZaI.trans {a b c:St} (h1:ZaI a b) (h2:ZaI b c):ZaI a c:=λid o h ho=>h2 id o (h1 id o h ho) ho
section
variable {s:Bool} {st1 st:St}
theorem cellD_under (hb:ZaI st1 st) {t:T} {r:Bool×D} (h:cellD s st1 t=some r):cellD s st t=some r:=by
 unfold cellD at h⊢;split at h
 ·exact h
 ·exact h
 ·split at h
  ·rename_i ho;rw[hb _ _ ho Sp];exact h
  ·rename_i ho;rw[hb _ _ ho Sp];exact h
  ·cases h
 ·cases h
theorem cellsD_under (hb:ZaI st1 st):∀ {ts:List T} {r:Bool×List D},ZbR s st1 ts=some r->ZbR s st ts=some r
 |[],r,h=>h
 |t::ts,r,h=>by
  simp only[ZbR] at h⊢;split at h;case h_2=>cases h
  rename_i h1 h2;rw[cellD_under hb h1,cellsD_under hb h2];exact h
theorem capD_under (hb:ZaI st1 st) {t:T} {r:List D} (h:capD s st1 t=some r):capD s st t=some r:=by
 unfold capD at h⊢;split at h
 ·split at h
  ·rename_i ho;rw[hb _ _ ho Sp];cases s with
   |true=>exact h
   |false=>
    simp only[cond_false] at h⊢;obtain⟨q,hq,e⟩:=Option.map_eq_some_iff.mp h;rw[cellsD_under hb hq];simpa using e
  ·rename_i ho;rw[hb _ _ ho Sp];exact h
  ·cases h
 ·exact h
 ·cases h
theorem capsD_under (hb:ZaI st1 st):∀ {ts:List T} {r:List (List D)},capsD s st1 ts=some r->capsD s st ts=some r
 |[],r,h=>h
 |t::ts,r,h=>by
  simp only[capsD] at h⊢;split at h;case h_2=>cases h
  rename_i h1 h2;rw[capD_under hb h1,capsD_under hb h2];exact h
theorem argD_under (hb:ZaI st1 st) {t:T} {a:A} (h:argD s st1 t=some a):argD s st t=some a:=by
 unfold argD at h⊢;split at h
 ·obtain⟨q,hq,e⟩:=Option.map_eq_some_iff.mp h;rw[cellsD_under hb hq];simpa using e
 ·obtain⟨q,hq,e⟩:=Option.map_eq_some_iff.mp h;rw[capsD_under hb hq];simpa using e
 ·exact h
 ·rename_i n1 n2 n3;obtain⟨q,hq,e⟩:=Option.map_eq_some_iff.mp h;rw[cellD_under hb hq];simpa using e
end
section
variable {P:Program} {X:Fix} {w:World} {g:G} {stL st:St} {a:Act} {s:Bool} {J:Nat->Prop}
theorem cellD_J (hT:Zax P) (hr:Rel P X w g stL a) (hJ:JOk g s J) {t:T} {f:Bool} {x:D} {v:Value} (h:cellD s st t=some (f,x)) (hs:Z9 g stL st (ZD [t])) (r:Zi X w g t v):RdD w J x v:=by
 cases s with
 |true=>exact RdD.weaken (λb hb=>hJ.imp b hb.1) (cellD_strict hr h hs r)
 |false=>exact cellD_all hT hr hJ.imp (hJ.all rfl) h hs r
theorem cellsD_J (hT:Zax P) (hr:Rel P X w g stL a) (hJ:JOk g s J) {c:Array Value} {ts:List T} {f:Bool} {ds:List D} {vs:List Value} {p:Nat} (h:ZbR s st ts=some (f,ds)) (hs:Z9 g stL st (ZD ts)) (r:Zo X w g ts vs)
  (hc:∀ (j:Nat) (v:Value),vs[j]? = some v->c[p+j]? = some v):Zt w J c p ds/\ds.length=ts.length:=by
 cases s with
 |true=>
  obtain⟨h1,h2⟩:=Zdi hr h hs r hc;exact⟨Zt.mono ⟨λb hb=>hJ.imp b hb.1,λ_ _=>rfl⟩ h1,h2⟩
 |false=>exact cellsD_all hT hr hJ.imp (hJ.all rfl) h hs r hc
def PtrRd (w:World) (J:Nat->Prop) (cs:List D) (v:Value):Prop:=
 ∃ b off c e f,v=.pointer (some ⟨b,off,none⟩)/\J b/\w.heap[b]? = some (.cells c e f)/\Zt w J c off cs
theorem capD_J (hT:Zax P) (hr:Rel P X w g stL a) (hJ:JOk g s J) {t:T} {cs:List D} {v:Value} (h:capD s st t=some cs) (hs:Z9 g stL st (ZaQ st t)) (r:Zi X w g t v):PtrRd w J cs v:=by
 unfold capD at h;split at h
 ·rename_i id;simp only[Zi] at r;obtain⟨_,b,hh,rfl⟩:=r;split at h
  ·rename_i cs0 ho;cases s with
   |true=>simp at h
   |false=>
    simp only[cond_false] at h;obtain⟨q,hq,rfl⟩:=Option.map_eq_some_iff.mp h;have hl:ZaQ st (.bp id 0)=id::ZD cs0:=by simp only[ZaQ,ho]
    rw[hl] at hs;obtain⟨_,hB,⟨b',c,e,hh',hfp,hb,rc⟩,_⟩:=hs.obj hr Sp ho;rw[hh] at hh';injection hh' with hh';injection hh' with hh';injection hh' with hh' _ _;subst hh';obtain⟨q1,q2⟩:=q;obtain⟨rd,_⟩:=cellsD_J hT hr hJ (c:=c) (p:=0) hq (hs.sub λi hi=>List.mem_cons_of_mem _ hi) rc (λj u hu=>by simpa using hu);exact⟨b,0,c,e,(0,0),rfl,hJ.all rfl id hB b (by rw[hfp];simp),hb,rd⟩
  ·rename_i ho;injection h with h;subst h;obtain⟨_,hB,⟨b',c,e,f,hh',hI,hb,rc⟩,_⟩:=hs.obj hr (by simp only[ZaQ,ho];simp) ho;rw[hh] at hh';injection hh' with hh';injection hh' with hh';injection hh' with hh' _ _;subst hh';exact⟨b,0,c,e,f,rfl,hJ.imp b hI,hb,Zt.mono ⟨λb hb=>hJ.imp b hb.1,λ_ _=>rfl⟩ rc⟩
  ·cases h
 ·injection h with h;subst h;simp only[Zi] at r;obtain⟨b,off,c,e,f,rfl,hI,hb,rc⟩:=r;exact⟨b,off,c,e,f,rfl,hJ.imp b hI.1,hb,Zt.mono ⟨λb hb=>hJ.imp b hb.1,λ_ _=>rfl⟩ rc⟩
 ·cases h
theorem capsD_J (hT:Zax P) (hr:Rel P X w g stL a) (hJ:JOk g s J):∀ {ts:List T} {cs:List (List D)} {vs:List Value},capsD s st ts=some cs->(∀ t∈ts,Z9 g stL st (ZaQ st t))->Zo X w g ts vs->Zaz w J cs vs
 |[],cs,vs,h,_,r=>by
  simp only[capsD] at h;injection h with h;subst h;simpa only[Zaz,Zo] using r
 |t::ts,cs,vs,h,hs,r=>by
  simp only[capsD] at h;split at h;case h_2=>cases h
  rename_i h1 h2;injection h with h;subst h;simp only[Zo] at r;obtain⟨v,vs',rfl,_,r1,r2⟩:=r;obtain⟨b,off,c,e,f,rfl,hI,hb,rc⟩:=capD_J hT hr hJ h1 (hs t Sp) r1;simp only[Zaz]
  exact⟨b,off,c,e,f,vs',rfl,hI,hb,rc,capsD_J hT hr hJ h2 (λt ht=>hs t (by simp[ht])) r2⟩
theorem argD_J (hT:Zax P) (hr:Rel P X w g stL a) (hJ:JOk g s J) {t:T} {x:A} {v:Value} {ct:TypeId} {Q:Nat->Prop} (h:argD s st t=some x) (hs:Z9 g stL st (ZO st t)) (r:Zi X w g t v):ZV P w J Q x (.imm,ct) v []:=by
 unfold argD at h;split at h
 ·obtain⟨⟨q1,q2⟩,hq,rfl⟩:=Option.map_eq_some_iff.mp h;simp only[Zi] at r;obtain⟨cs,rfl,rs⟩:=r;obtain⟨rd,hl⟩:=cellsD_J hT hr hJ (c:=cs.toArray) (p:=0) hq hs rs (λj u hu=>by simpa using hu);simp only[ZV]
  exact⟨trivial,cs,rfl,by rw[Zo.length rs,hl],rd⟩
 ·obtain⟨q,hq,rfl⟩:=Option.map_eq_some_iff.mp h;simp only[Zi] at r;obtain⟨vs,rfl,rs⟩:=r;simp only[ZV,RdD]
  refine⟨trivial,vs,rfl,capsD_J hT hr hJ hq (λt ht=>hs.sub λid hid=>?_) rs⟩
  rw[ZcS];exact List.mem_flatMap.mpr ⟨t,ht,hid⟩
 ·injection h with h;subst h;simp only[Zi] at r;obtain⟨b,off,c,e,f,rfl,hI,hb,rc⟩:=r;simp only[ZV]
  exact⟨trivial,b,off,c,e,f,rfl,hJ.imp b hI.1,hb,Zt.mono ⟨λb hb=>hJ.imp b hb.1,λ_ _=>rfl⟩ rc⟩
 ·obtain⟨⟨q1,q2⟩,hq,rfl⟩:=Option.map_eq_some_iff.mp h;simp only[ZV]
  refine⟨trivial,cellD_J hT hr hJ hq (hs.sub λid hid=>?_) r⟩
  simp only[ZD,List.flatMap_cons,List.flatMap_nil,List.append_nil] at hid;split at hid
  ·simp[ZO];simpa using hid
  ·cases hid
end
section
variable {P:Program} {w:World} {I:Nat->Prop}
theorem Zf.cut {c:Array Value}:∀ {xs:List C} {cts:List TypeId} {p j:Nat} {F:List Nat} {x:C},Zf P w I c xs cts p F->xs[j]? = some x->
  ∃ ct v A R B,cts[j]? = some ct/\F=A++R++B/\c[p+j]? = some v/\OwC P w I x ct v R/\∀ {w':World} {I':Nat->Prop} {y:C} {R':List Nat},KeepsO w w' I I' (A++B)->OwC P w' I' y ct v R'->Zf P w' I' c (xs.set j y) cts p (A++R'++B)
 |[],_,_,_,_,_,_,h=>by simp at h
 |x0::xs,cts,p,j,F,x,r,h=>by
  simp only[Zf] at r;obtain⟨ct0,cts',v0,F1,F2,rfl,rfl,hv,r1,r2⟩:=r;cases j with
  |zero=>
   simp at h;subst h;refine⟨ct0,v0,[],F1,F2,by simp,by simp,by simpa using hv,r1,λhk hy=>?_⟩
   simp only[List.set_cons_zero,Zf]
   exact⟨ct0,cts',v0,_,F2,rfl,by simp,hv,hy,Zf.mono ⟨hk.toKeeps,λb hb=>hk.own b (by simp[hb])⟩ r2⟩
  |succ j=>
   obtain⟨ct,v,A,R,B,h1,rfl,h3,h4,h5⟩:=Zf.cut r2 (j:=j) (by simpa using h);refine⟨ct,v,F1++A,R,B,by simpa using h1,by simp,by rwa[show p+(j+1)=p+1+j from by omega],h4,λ{w' I' y R'} hk hy=>?_⟩
   simp only[List.set_cons_succ,Zf]
   refine⟨ct0,cts',v0,F1,A++R'++B,rfl,by simp,hv,OwC.mono ⟨hk.toKeeps,λb hb=>hk.own b (by simp[hb])⟩ r1,h5 ⟨hk.toKeeps,λb hb=>hk.own b ?_⟩ hy⟩
   rcases List.mem_append.mp hb with q|q<;>simp[q]
theorem Zj.cut {c:Array Value} {cts:List TypeId} {sz:Nat}:∀ {xs:List (List C)} {p i j:Nat} {F:List Nat} {row:List C} {x:C},Zj P w I c cts sz xs p F->xs[i]? = some row->row[j]? = some x->
  ∃ ct v A R B,cts[j]? = some ct/\F=A++R++B/\c[p+i*sz+j]? = some v/\OwC P w I x ct v R/\∀ {w':World} {I':Nat->Prop} {y:C} {R':List Nat},KeepsO w w' I I' (A++B)->OwC P w' I' y ct v R'->Zj P w' I' c cts sz (xs.modify i λr=>r.set j y) p (A++R'++B)
 |[],_,_,_,_,_,_,_,h,_=>by simp at h
 |x0::xs,p,i,j,F,row,x,r,h,hx=>by
  simp only[Zj] at r;obtain⟨F1,F2,rfl,r1,r2⟩:=r;cases i with
  |zero=>
   simp at h;subst h;obtain⟨ct,v,A,R,B,h1,rfl,h3,h4,h5⟩:=Zf.cut r1 hx;refine⟨ct,v,A,R,B++F2,h1,by simp,by simpa using h3,h4,λ{w' I' y R'} hk hy=>?_⟩
   simp only[List.modify_zero_cons,Zj]
   refine⟨A++R'++B,F2,by simp,h5 ⟨hk.toKeeps,λb hb=>hk.own b ?_⟩ hy,Zj.mono ⟨hk.toKeeps,λb hb=>hk.own b (by simp[hb])⟩ r2⟩
   rcases List.mem_append.mp hb with q|q<;>simp[q]
  |succ i=>
   obtain⟨ct,v,A,R,B,h1,rfl,h3,h4,h5⟩:=Zj.cut r2 (i:=i) (by simpa using h) hx;refine⟨ct,v,F1++A,R,B,h1,by simp,by rwa[show p+(i+1)*sz+j=p+sz+i*sz+j from by rw[Nat.succ_mul];omega],h4,λ{w' I' y R'} hk hy=>?_⟩
   simp only[List.modify_succ_cons,Zj]
   refine⟨F1,A++R'++B,by simp,Zf.mono ⟨hk.toKeeps,λb hb=>hk.own b (by simp[hb])⟩ r1,h5 ⟨hk.toKeeps,λb hb=>hk.own b ?_⟩ hy⟩
   rcases List.mem_append.mp hb with q|q<;>simp[q]
end
inductive ZaT (st:St):List TypeId->List T->List C->List Nat->Prop
 |nil:ZaT st [] [] [] []
 |row {ct:TypeId} {cts:List TypeId} {id:Nat} {og:Option Nat} {fr:Bool} {xs:List (List C)} {ts:List T} {cs:List C} {mv:List Nat} (h:st.ob[id]? = some (.row og fr ct xs)) (r:ZaT st cts ts cs mv):
   ZaT st (ct::cts) (.row id::ts) (.own xs::cs) (id::mv)
 |none {ct:TypeId} {cts:List TypeId} {ts:List T} {cs:List C} {mv:List Nat} (r:ZaT st cts ts cs mv):ZaT st (ct::cts) (.nil::ts) (.own []::cs) mv
 |dat {ct:TypeId} {cts:List TypeId} {f:Bool} {x:D} {ts:List T} {cs:List C} {mv:List Nat} (r:ZaT st cts ts cs mv):ZaT st (ct::cts) (.d f x::ts) (.d x::cs) mv
inductive Lent (P:Program) (s:Bool) (st:St):List (Mode×TypeId)->List T->List A->List Nat->Prop
 |done:Lent P s st [] [] [] []
 |imm {ct:TypeId} {ms:List (Mode×TypeId)} {t:T} {ts:List T} {a:A} {as:List A} {mv:List Nat} (h:argD s st t=some a) (r:Lent P s st ms ts as mv):Lent P s st ((.imm,ct)::ms) (t::ts) (a::as) mv
 |immSub {ct:TypeId} {ms:List (Mode×TypeId)} {id i off:Nat} {og:Option Nat} {fr:Bool} {rt:TypeId} {xs:List (List C)} {c:List C} {x:C} {rest:List C} {ys:List (List D)} {ts:List T} {as:List A} {mv:List Nat} (hs:s=false)
   (h:st.ob[id]? = some (.row og fr rt xs)) (hc:xs[i]? = some c) (hd:c.drop off=x::rest) (hy:x.imm=.sl ys) (r:Lent P s st ms ts as mv):Lent P s st ((.imm,ct)::ms) (.sub id i off::ts) (.d (.sl ys)::as) mv
 |nil {ct:TypeId} {ms:List (Mode×TypeId)} {ts:List T} {as:List A} {mv:List Nat} (r:Lent P s st ms ts as mv):Lent P s st ((.nil,ct)::ms) (.nil::ts) (.nil::as) mv
 |row {ct:TypeId} {ms:List (Mode×TypeId)} {id:Nat} {og:Option Nat} {fr:Bool} {xs:List (List C)} {ts:List T} {as:List A} {mv:List Nat} (h:st.ob[id]? = some (.row og fr ct xs)) (r:Lent P s st ms ts as mv):
   Lent P s st ((.own,ct)::ms) (.row id::ts) (.own false [.own xs]::as) (id::mv)
 |agg {ct:TypeId} {ms:List (Mode×TypeId)} {cs:List T} {c:List C} {m:List Nat} {ts:List T} {as:List A} {mv:List Nat} (h:ZaT st (ZA P 6 ct) cs c m) (r:Lent P s st ms ts as mv):
   Lent P s st ((.own,ct)::ms) (.agg cs::ts) (.own true c::as) (m++mv)
 |sub {ct:TypeId} {ms:List (Mode×TypeId)} {id i off:Nat} {og:Option Nat} {fr:Bool} {rt:TypeId} {xs:List (List C)} {c:List C} {ys:List (List C)} {ts:List T} {as:List A} {mv:List Nat}
   (h:st.ob[id]? = some (.row og fr rt xs)) (ht:(ZX P rt)[off]? = some ct) (hc:xs[i]? = some c) (hx:c[off]? = some (.own ys)) (r:Lent P s st ms ts as mv):
   Lent P s st ((.own,ct)::ms) (.sub id i off::ts) (.own false [.own ys]::as) (id::mv)
 |box {pt:TypeId} {ms:List (Mode×TypeId)} {id:Nat} {og:Option Nat} {cs:List T} {c:List C} {m:List Nat} {ts:List T} {as:List A} {mv:List Nat} (h:st.ob[id]? = some (.box og pt cs)) (hd:ZaT st (ZA P 6 pt) cs c m) (r:Lent P s st ms ts as mv):
   Lent P s st ((.box,pt)::ms) (.bp id 0::ts) (.box c::as) (id::(m++mv))
theorem ZaT.back {st1 st:St} (hb:ZaI st1 st) {cts:List TypeId} {ts:List T} {cs:List C} {mv:List Nat} (h:ZaT st1 cts ts cs mv):ZaT st cts ts cs mv:=by
 induction h with
 |nil=>exact .nil
 |row h r ih=>exact .row (hb _ _ h Sp) ih
 |none r ih=>exact .none ih
 |dat r ih=>exact .dat ih
theorem Lent.back {P:Program} {s:Bool} {st1 st:St} (hb:ZaI st1 st) {ms:List (Mode×TypeId)} {ts:List T} {as:List A} {mv:List Nat} (h:Lent P s st1 ms ts as mv):Lent P s st ms ts as mv:=by
 induction h with
 |done=>exact .done
 |imm h r ih=>exact .imm (argD_under hb h) ih
 |immSub hs h hc hd hy r ih=>exact .immSub hs (hb _ _ h Sp) hc hd hy ih
 |nil r ih=>exact .nil ih
 |row h r ih=>exact .row (hb _ _ h Sp) ih
 |agg h r ih=>exact .agg (h.back hb) ih
 |sub h ht hc hx r ih=>exact .sub (hb _ _ h Sp) ht hc hx ih
 |box h hd r ih=>exact .box (hb _ _ h Sp) (hd.back hb) ih
theorem ZaT.ids {st:St} {cts:List TypeId} {ts:List T} {cs:List C} {mv:List Nat} (h:ZaT st cts ts cs mv):Zcu ts=mv:=by
 induction h with
 |nil=>rfl
 |row h r ih=>simp only[Zcu,ih]
 |none r ih=>simp only[Zcu,ih]
 |dat r ih=>simp only[Zcu,ih]
theorem ZaT.rows {st:St} {cts:List TypeId} {ts:List T} {cs:List C} {mv:List Nat} (h:ZaT st cts ts cs mv):∀ id∈mv,∃ og fr ct xs,st.ob[id]? = some (.row og fr ct xs):=by
 induction h with
 |nil=>simp
 |row h r ih=>
  intro id hid;rcases List.mem_cons.mp hid with rfl|hid
  ·exact⟨_,_,_,_,h⟩
  ·exact ih id hid
 |none r ih=>exact ih
 |dat r ih=>exact ih
theorem Lent.rows {P:Program} {s:Bool} {st:St} {ms:List (Mode×TypeId)} {ts:List T} {as:List A} {mv:List Nat} (h:Lent P s st ms ts as mv):∀ id∈mv,∃ o,st.ob[id]? = some o/\o≠.gone/\((∃ og fr ct xs,o=.row og fr ct xs)\/∃ og t cs,o=.box og t cs):=by
 induction h with
 |done=>simp
 |imm h r ih=>exact ih
 |immSub hs h hc hd hy r ih=>exact ih
 |nil r ih=>exact ih
 |row h r ih=>
  intro id hid;rcases List.mem_cons.mp hid with rfl|hid
  ·exact⟨_,h,by simp,.inl ⟨_,_,_,_,rfl⟩⟩
  ·exact ih id hid
 |agg h r ih=>
  intro id hid;rcases List.mem_append.mp hid with q|q
  ·obtain⟨og,fr,ct,xs,q⟩:=h.rows id q;exact⟨_,q,by simp,.inl ⟨_,_,_,_,rfl⟩⟩
  ·exact ih id q
 |sub h ht hc hx r ih=>
  intro id hid;rcases List.mem_cons.mp hid with rfl|hid
  ·exact⟨_,h,by simp,.inl ⟨_,_,_,_,rfl⟩⟩
  ·exact ih id hid
 |box h hd r ih=>
  intro id hid;rcases List.mem_cons.mp hid with rfl|hid
  ·exact⟨_,h,by simp,.inr ⟨_,_,_,rfl⟩⟩
  ·rcases List.mem_append.mp hid with q|q
   ·obtain⟨og,fr,ct,xs,q⟩:=hd.rows id q;exact⟨_,q,by simp,.inl ⟨_,_,_,_,rfl⟩⟩
   ·exact ih id q
theorem gones_mem {st:St} {m:List Nat} {id:Nat} {o:Obj} (h:(st.gones m).ob[id]? = some o) (ho:o≠.gone):id∉m:=(St.gones_ob h ho).1
theorem setOb_row {st:St} {id:Nat} {og:Option Nat} {fr:Bool} {ct:TypeId} {xs:List (List C)} (q:(st.setOb id .gone).ob[id]? = some (.row og fr ct xs)):False:=by
 have:(st.gones [id]).ob[id]? = some (.row og fr ct xs):=by rw[St.gones_cons,St.gones_nil];exact q
 exact gones_mem this Sp Sp
theorem setOb_some {st:St} {id:Nat} {o:Obj} (ho:o≠.gone) (q:(st.setOb id .gone).ob[id]? = some o):False:=by
 have:(st.gones [id]).ob[id]? = some o:=by rw[St.gones_cons,St.gones_nil];exact q
 exact gones_mem this ho Sp
theorem Zbe:∀ {cts:List TypeId} {ts:List T} {st st':St} {cs:List C},Zbf st cts ts=some (cs,st')->∃ mv,ZaT st cts ts cs mv/\mv.Nodup/\st'=st.gones mv
 |[],[],st,st',cs,h=>by
  simp only[Zbf] at h;injection h with h;injection h with h1 h2;subst h1 h2;exact⟨[],.nil,by simp,by rw[St.gones_nil]⟩
 |ct::cts,t::ts,st,st',cs,h=>by
  simp only[Zbf] at h;split at h
  ·rename_i id;split at h
   ·rename_i og fr rt xs ho;split at h;case isFalse=>cases h
    rename_i hct;subst hct;split at h;case h_2=>cases h
    rename_i cs1 st1 h1;injection h with h;injection h with e1 e2;subst e1 e2;obtain⟨mv,a1,a2,rfl⟩:=Zbe h1;refine⟨id::mv,.row ho (a1.back (ZaI.setOb _ _)),List.nodup_cons.mpr ⟨λhm=>?_,a2⟩,by rw[St.gones_cons]⟩
    obtain⟨_,_,_,_,q⟩:=a1.rows id hm;exact setOb_row q
   ·cases h
  ·split at h;case h_2=>cases h
   rename_i cs1 st1 h1;injection h with h;injection h with e1 e2;subst e1 e2;obtain⟨mv,a1,a2,rfl⟩:=Zbe h1;exact⟨mv,.none a1,a2,rfl⟩
  ·split at h;case h_2=>cases h
   rename_i cs1 st1 h1;injection h with h;injection h with e1 e2;subst e1 e2;obtain⟨mv,a1,a2,rfl⟩:=Zbe h1;exact⟨mv,.dat a1,a2,rfl⟩
  ·cases h
 |[],_::_,_,_,_,h=>by simp[Zbf] at h
 |_::_,[],_,_,_,h=>by simp[Zbf] at h
theorem Zcf {β:Type} {P:Program} {s:Bool}:∀ {ms:List (Mode×TypeId)} {ts:List T} {st:St} {k:List A->St->Option β} {r:β},Zbb P s st ms ts k=some r->
  ∃ as mv,k as (st.gones mv)=some r/\Lent P s st ms ts as mv/\mv.Nodup
 |[],[],st,k,r,h=>by
  simp only[Zbb] at h;exact⟨[],[],by rw[St.gones_nil];exact h,.done,by simp⟩
 |[],_::_,st,k,r,h=>by simp[Zbb] at h
 |(m,ct)::ms,[],st,k,r,h=>by cases m<;>simp[Zbb] at h
 |(.box,ct)::ms,t::ts,st,k,r,h=>by
  cases t<;>simp only[Zbb] at h<;>try (cases h;done)
  rename_i id off;split at h;case h_2=>cases h
  rename_i og bt cs ho;split at h;case isFalse=>cases h
  rename_i hbt;obtain⟨rfl,rfl⟩:=hbt;split at h;case h_2=>cases h
  rename_i c st1 hl;obtain⟨m,a1,a2,rfl⟩:=Zbe hl;obtain⟨as,mv,h1,h2,h3⟩:=Zcf h;refine⟨_,id::(m++mv),by rw[St.gones_cons,St.gones_append];exact h1,.box ho (a1.back (ZaI.setOb _ _)) (h2.back ((ZaI.gones _ _).trans (ZaI.setOb _ _))),List.nodup_cons.mpr ⟨λhm=>?_,List.nodup_append.mpr ⟨a2,h3,λx hx y hy e=>?_⟩⟩⟩
  ·rcases List.mem_append.mp hm with hm|hm
   ·obtain⟨_,_,_,_,q⟩:=a1.rows id hm;exact setOb_row q
   ·obtain⟨o,q,hne,_⟩:=h2.rows id hm;exact setOb_some hne (ZaI.gones _ _ _ _ q hne)
  ·subst e;obtain⟨o,q,hne,_⟩:=h2.rows x hy;exact gones_mem q hne hx
 |(.imm,ct)::ms,t::ts,st,k,r,h=>by
  simp only[Zbb] at h;split at h
  ·cases s with
   |true=>simp at h
   |false=>
    simp only[cond_false] at h;obtain⟨og,fr,rt,xs,c,x,rest,ys,ho,hc,hd,hy,h⟩:=subD_some h;obtain⟨as,mv,h1,h2,h3⟩:=Zcf h;exact⟨_,mv,h1,.immSub rfl ho hc hd hy h2,h3⟩
  ·split at h;case h_2=>cases h
   rename_i a ha;obtain⟨as,mv,h1,h2,h3⟩:=Zcf h;exact⟨_,mv,h1,.imm ha h2,h3⟩
 |(.nil,ct)::ms,t::ts,st,k,r,h=>by
  cases t<;>simp only[Zbb] at h<;>try (cases h;done)
  obtain⟨as,mv,h1,h2,h3⟩:=Zcf h;exact⟨_,mv,h1,.nil h2,h3⟩
 |(.own,ct)::ms,t::ts,st,k,r,h=>by
  have fresh:∀ (id:Nat) (as:List A) (mv:List Nat),Lent P s (st.setOb id .gone) ms ts as mv->id∉mv:=by
   intro id as mv a1 hm;obtain⟨o,q,hne,_⟩:=a1.rows id hm;exact setOb_some hne q
  cases t<;>simp only[Zbb] at h<;>try (cases h;done)
  ·rename_i cs;split at h;case h_2=>cases h
   rename_i c st' hl;obtain⟨m,a1,a2,rfl⟩:=Zbe hl;obtain⟨as,mv,h1,h2,h3⟩:=Zcf h;refine⟨_,m++mv,by rw[St.gones_append];exact h1,.agg a1 (h2.back (ZaI.gones _ _)),List.nodup_append.mpr ⟨a2,h3,λx hx y hy e=>?_⟩⟩
   subst e;obtain⟨o,q,hne,_⟩:=h2.rows x hy;exact gones_mem q hne hx
  ·rename_i id;split at h;case h_2=>cases h
   rename_i og fr rt xs ho;split at h;case isFalse=>cases h
   rename_i hct;subst hct;obtain⟨as,mv,h1,h2,h3⟩:=Zcf h;exact⟨_,id::mv,by rw[St.gones_cons];exact h1,.row ho (h2.back (ZaI.setOb _ _)),List.nodup_cons.mpr ⟨fresh id as mv h2,h3⟩⟩
  ·rename_i id i off;split at h;case h_2=>cases h
   rename_i og fr rt xs ho;split at h;case isFalse=>cases h
   rename_i hct;obtain⟨c,hc,h⟩:=Zc4 h;obtain⟨x,rest,hd,h⟩:=ZbC h;obtain⟨ys,rfl,h⟩:=Zcx h;obtain⟨as,mv,h1,h2,h3⟩:=Zcf h;have hx:c[off]? = some (.own ys):=by
    have:=congrArg (·[0]?) hd;simpa using this
   exact⟨_,id::mv,by rw[St.gones_cons];exact h1,.sub ho hct hc hx (h2.back (ZaI.setOb _ _)),List.nodup_cons.mpr ⟨fresh id as mv h2,h3⟩⟩
end Go.T
namespace Go.T
theorem Zo.ofCells {X:Fix} {w:World} {g:G} {I:Nat->Prop} {fr:Bool} (hI:∀ b,I b->g.IM X fr b):∀ {xs:List D} {cs:List Value} {c:Array Value} {p:Nat},cs.length=xs.length->(∀ (j:Nat) (v:Value),cs[j]? = some v->c[p+j]? = some v)->Zt w I c p xs->Zo X w g (xs.map (.d fr)) cs
 |[],[],c,p,_,_,_=>by simp[Zo]
 |[],_::_,_,_,h,_,_=>by simp at h
 |_::_,[],_,_,h,_,_=>by simp at h
 |x::xs,v::cs,c,p,hl,hc,r=>by
  simp only[Zt] at r;obtain⟨⟨u,hu,ru⟩,r2⟩:=r;have:=hc 0 v Sp;rw[Nat.add_zero,hu] at this;injection this with this;subst this;simp only[List.map_cons,Zo]
  refine⟨u,cs,rfl,rfl,by simp only[Zi];exact RdD.weaken hI ru,Zo.ofCells hI (c:=c) (p:=p+1) (by simpa using hl) (λj z hz=>?_) r2⟩
  have:=hc (j+1) z (by simpa using hz);rwa[show p+(j+1)=p+1+j from by omega] at this
structure Nw where
 ob:Obj
 fp:List Nat
 hv:Value
 sz:Nat
def NwRow (P:Program) (w:World) (I:Nat->Prop) (fr:Bool) (n:Nw):Prop:=∃ ct xs,n.ob=.row none fr ct xs/\OwC P w I (.own xs) ct n.hv n.fp/\n.sz=Zs P ct
def NwOk (P:Program) (w:World) (I:Nat->Prop) (fr:Bool) (n:Nw):Prop:=NwRow P w I fr n\/∃ t ds,n.ob=.box none t (ds.map (.d fr))/\BoxRel w I ds n.hv n.fp
def NwAt (X:Fix) (I:Nat->Prop) (fr:Bool) (g:G) (n:Nat) (ns:List Nw):Prop:=(∀ (j:Nat) (x:Nw),ns[j]? = some x->g.B (n+j)/\g.hv (n+j)=x.hv)/\∀ b,I b->g.IM X fr b
theorem bornC_syn {P:Program} {fr:Bool}:∀ {cts:List TypeId} {cs:List C} {st st':St} {ts:List T},bornC P fr st cts cs=some (ts,st')->∃ news,st'=⟨st.tm,st.ob++news⟩
 |ct::cts,.d x::cs,st,st',ts,h=>by
  simp only[bornC] at h;split at h;case h_2=>cases h
  rename_i ts1 st1 h1;injection h with h;injection h with e1 e2;subst e1 e2;exact bornC_syn h1
 |ct::cts,.own xs::cs,st,st',ts,h=>by
  simp only[bornC] at h;split at h;case h_2=>cases h
  rename_i ts1 st1 h1;injection h with h;injection h with e1 e2;subst e1 e2;obtain⟨news,rfl⟩:=bornC_syn h1;exact⟨_::news,by simp[St.newOb];rfl⟩
 |[],[],st,st',ts,h=>by
  simp only[bornC] at h;injection h with h;injection h with e1 e2;subst e1 e2;exact⟨[],by simp⟩
 |_::_,[],_,_,_,h=>by simp[bornC] at h
 |[],_::_,_,_,_,h=>by simp[bornC] at h
theorem Zce {P:Program} {X:Fix} {w:World} {I:Nat->Prop} {fr:Bool} {c:Array Value}:∀ {cts:List TypeId} {cs:List C} {st st':St} {ts:List T} {p:Nat} {F:List Nat},bornC P fr st cts cs=some (ts,st')->Zf P w I c cs cts p F->
  ∃ ns:List Nw,st'=⟨st.tm,st.ob++ns.map (·.ob)⟩/\F=ns.flatMap (·.fp)/\(∀ x∈ns,NwRow P w I fr x)/\∀ g:G,NwAt X I fr g st.ob.length ns->∃ vs,Zo X w g ts vs/\vs.length=cs.length/\∀ (j:Nat) (v:Value),vs[j]? = some v->c[p+j]? = some v
 |ct::cts,.d x::cs,st,st',ts,p,F,h,r=>by
  simp only[bornC] at h;split at h;case h_2=>cases h
  rename_i ts1 st1 h1;injection h with h;injection h with e1 e2;subst e1 e2;simp only[Zf] at r;obtain⟨ct',cts',v,F1,F2,e,rfl,hv,r1,r2⟩:=r;injection e with e1 e2;subst e1 e2;simp only[OwC] at r1;obtain⟨rfl,r1⟩:=r1;obtain⟨ns,a1,a2,a3,a4⟩:=Zce h1 r2;refine⟨ns,a1,by simpa using a2,a3,λg hg=>?_⟩
  obtain⟨vs,b1,b2,b3⟩:=a4 g hg;refine⟨v::vs,?_,by simp[b2],λj u hu=>?_⟩
  ·simp only[Zo]
   exact⟨v,vs,rfl,rfl,by simp only[Zi];exact RdD.weaken hg.2 r1,b1⟩
  ·cases j with
   |zero=>simp at hu;subst hu;simpa using hv
   |succ j=>
    have:=b3 j u (by simpa using hu);rwa[show p+(j+1)=p+1+j from by omega]
 |ct::cts,.own xs::cs,st,st',ts,p,F,h,r=>by
  simp only[bornC] at h;split at h;case h_2=>cases h
  rename_i ts1 st1 h1;injection h with h;injection h with e1 e2;subst e1 e2;simp only[Zf] at r;obtain⟨ct',cts',v,F1,F2,e,rfl,hv,r1,r2⟩:=r;injection e with e1 e2;subst e1 e2;obtain⟨ns,a1,a2,a3,a4⟩:=Zce h1 r2;refine⟨⟨.row none fr ct xs,F1,v,Zs P ct⟩::ns,by rw[a1];simp[St.newOb],by simp[a2],λx hx=>?_,λg hg=>?_⟩
  ·rcases List.mem_cons.mp hx with rfl|hx
   ·exact⟨ct,xs,rfl,r1,rfl⟩
   ·exact a3 x hx
  ·obtain⟨vs,b1,b2,b3⟩:=a4 g ⟨λj x hx=>by
    have:=hg.1 (j+1) x (by simpa using hx);simp only[St.newOb,List.length_append,List.length_singleton]
    rwa[show st.ob.length+1+j=st.ob.length+(j+1) from by omega],hg.2⟩
   obtain⟨hB,hh⟩:=hg.1 0 _ rfl;refine⟨v::vs,?_,by simp[b2],λj u hu=>?_⟩
   ·simp only[Zo]
    exact⟨v,vs,rfl,rfl,by simp only[Zi];exact⟨by simpa using hB,by simpa using hh.symm⟩,b1⟩
   ·cases j with
    |zero=>simp at hu;subst hu;simpa using hv
    |succ j=>
     have:=b3 j u (by simpa using hu);rwa[show p+(j+1)=p+1+j from by omega]
 |[],[],st,st',ts,p,F,h,r=>by
  simp only[bornC] at h;injection h with h;injection h with e1 e2;subst e1 e2;simp only[Zf] at r;obtain⟨rfl,_⟩:=r;exact⟨[],by simp,by simp,by simp,λg hg=>⟨[],by simp[Zo],rfl,by simp⟩⟩
 |_::_,[],_,_,_,_,_,h,_=>by simp[bornC] at h
 |[],_::_,_,_,_,_,_,h,_=>by simp[bornC] at h
def St.more (st:St) (news:List Obj):St:=⟨st.tm,st.ob++news⟩
theorem Zbr (ob:List Obj) (l1 l2:List (Nat×Obj)):ZS ob (l1++l2)=ZS (ZS ob l1) l2:=by
 simp[ZS,List.foldl_append]
theorem killAll_append (l1 l2:List (Nat×Obj)) (t:T):ZI (l1++l2) t=ZI l2 (ZI l1 t):=by
 simp[ZI,List.foldl_append]
theorem Zb7:∀ (l:List (Nat×Obj)) (ob news:List Obj),(∀ p∈l,p.1<ob.length)->ZS (ob++news) l=ZS ob l++news
 |[],_,_,_=>rfl
 |p::l,ob,news,h=>by
  show ZS ((ob++news).set p.1 p.2) l=ZS (ob.set p.1 p.2) l++news;rw[List.set_append_left _ _ (h p Sp)];exact Zb7 l _ news (λq hq=>by simpa using h q (by simp[hq]))
theorem ZbG:∀ (mv:List Nat) (st:St),goneAll mv st=st.gones mv
 |[],st=>by rw[St.gones_nil];rfl
 |id::mv,st=>by rw[St.gones_cons];exact ZbG mv _
theorem St.more_nil (st:St):st.more []=st:=by simp[St.more]
theorem St.more_more (st:St) (a b:List Obj):(st.more a).more b=st.more (a++b):=by simp[St.more]
theorem St.sets_more {st:St} {l:List (Nat×Obj)} {news:List Obj} (h:∀ p∈l,p.1<st.ob.length):(st.sets l).more news=(st.more news).sets l:=by
 simp only[St.more,St.sets,Zb7 _ _ _ h]
theorem St.setOb_more {st:St} {id:Nat} {o:Obj} {news:List Obj} (h:id<st.ob.length):(st.setOb id o).more news=(st.more news).setOb id o:=by
 simp only[St.more,St.setOb,List.set_append_left _ _ h]
theorem ob_lt {st:St} {id:Nat} {o:Obj} (h:st.ob[id]? = some o):id<st.ob.length:=(List.getElem?_eq_some_iff.mp h).1
theorem rowsOf_ids:∀ ts:List T,ZD ts=Zcu ts
 |[]=>rfl
 |t::ts=>by
  have ih:=rowsOf_ids ts;simp only[ZD] at ih;cases t<;>simp[ZD,Zcu,ih]
structure Ln where
 id:Nat
 kept:List Nat
 f:List Nat
structure Bk where
 id:Nat
 ob:Obj
 fp:List Nat
 kept:List Nat
 fo:List Nat
def BkOk (P:Program) (X:Fix) (fo fa:Bool) (st:St) (g:G) (w':World) (I' Q':Nat->Prop) (n:Nat) (nw:List Nw) (y:Bk):Prop:=
 y.fp.Perm (y.kept++y.fo)/\((∃ og ct xs fr ys fr',y.ob=.row og fr' ct xs/\(fr'=true->y.kept=[]/\(fo=true/\(∀ b∈y.fo,Q' b)\/fa=true/\flatC xs=true))/\st.ob[y.id]? = some (.row og fr ct ys)/\OwC P w' (λb=>I' b/\Q' b) (.own xs) ct (g.hv y.id) y.fp)\/
  (y.ob=.gone/\y.fp=[]/\∃ og fr ct ys,st.ob[y.id]? = some (.row og fr ct ys))\/
  ∃ og t cs l b c e,y.ob=.box og t l/\st.ob[y.id]? = some (.box og t cs)/\g.hv y.id=.pointer (some ⟨b,0,none⟩)/\y.fp=[b]/\w'.heap[b]? = some (.cells c e (0,0))/\∀ g2:G,NwAt X (λb=>I' b/\Q' b) fo g2 n nw->Zo X w' g2 l c.toList)
theorem NwAt.left {X:Fix} {I:Nat->Prop} {fr:Bool} {g:G} {n:Nat} {n1 n2:List Nw} (h:NwAt X I fr g n (n1++n2)):NwAt X I fr g n n1:=⟨λj x hx=>h.1 j x (by rw[List.getElem?_append_left (List.getElem?_eq_some_iff.mp hx).1];exact hx),h.2⟩
theorem NwAt.right {X:Fix} {I:Nat->Prop} {fr:Bool} {g:G} {n m:Nat} {n1 n2:List Nw} (hm:m=n+n1.length) (h:NwAt X I fr g n (n1++n2)):NwAt X I fr g m n2:=⟨λj x hx=>by
 have:=h.1 (n1.length+j) x (by rw[List.getElem?_append_right Om];simpa using hx);rwa[show n+(n1.length+j)=m+j from by omega] at this,h.2⟩
theorem BkOk.shift {P:Program} {X:Fix} {fo fa:Bool} {st:St} {g:G} {w':World} {I' Q':Nat->Prop} {n m:Nat} {n1 n2:List Nw} {y:Bk} (hm:m=n+n1.length) (h:BkOk P X fo fa st g w' I' Q' m n2 y):BkOk P X fo fa st g w' I' Q' n (n1++n2) y:=by
 obtain⟨h1,h2⟩:=h;refine⟨h1,?_⟩
 rcases h2 with h2|h2|⟨og,t,cs,l,b,c,e,q1,q2,q3,q4,q5,q6⟩
 ·exact .inl h2
 ·exact .inr (.inl h2)
 ·exact .inr (.inr ⟨og,t,cs,l,b,c,e,q1,q2,q3,q4,q5,λg2 hg=>q6 g2 (hg.right hm)⟩)
def Zbz (l:List Bk):List (Nat×Obj):=l.map λy=>(y.id,y.ob)
def ArgT (X:Fix) (w:World) (g:G) (J:Nat->Prop) (t:T) (v:Value):Prop:=Zi X w g t v\/∃ fr cs,t=.ip fr cs/\PtrRd w J cs v
def Zao (X:Fix) (w:World) (g:G) (J:Nat->Prop):List T->List Value->Prop
 |[],vs=>vs=[]
 |t::ts,vs=>∃ v vs',vs=v::vs'/\ArgT X w g J t v/\Zao X w g J ts vs'
section
variable {P:Program} {X:Fix} {w:World} {g:G} {stL st:St} {a:Act} {s:Bool} {J:Nat->Prop}
theorem Za4 {t:T} {ts:List T} (h:Z9 g stL st (ZD (t::ts))):Z9 g stL st (ZD [t])/\Z9 g stL st (ZD ts):=
 ⟨h.sub λid hid=>by
   simp only[ZD,List.flatMap_cons,List.mem_append] at hid⊢;exact .inl (by simpa using hid),
  h.sub λid hid=>by
   simp only[ZD,List.flatMap_cons,List.mem_append] at hid⊢;exact .inr hid⟩
theorem ZaT.sound (hr:Rel P X w g stL a) {c:Array Value} {cts:List TypeId} {ts:List T} {cs:List C} {mv:List Nat} (h:ZaT st cts ts cs mv):∀ {vs:List Value} {p:Nat},Z9 g stL st (ZD ts)->Zo X w g ts vs->(∀ (j:Nat) (v:Value),vs[j]? = some v->c[p+j]? = some v)->
  Zf P w g.I c cs cts p (mv.flatMap g.fp)/\(∀ id∈mv,g.B id)/\cs.length=ts.length:=by
 induction h with
 |nil=>intro vs p hs r hc;simp[Zf]
 |@row ct cts id og fr xs ts cs mv h r ih=>
  intro vs p hs rs hc;simp only[Zo] at rs;obtain⟨v,vs',rfl,_,r1,r2⟩:=rs;obtain⟨hs1,hs2⟩:=Za4 hs;obtain⟨_,hB,⟨row,_⟩,_⟩:=hs1.obj hr (by simp[ZD]) h;obtain⟨i1,i2,i3⟩:=ih (p:=p+1) hs2 r2 (λj u hu=>by
   have:=hc (j+1) u (by simpa using hu);rwa[show p+1+j=p+(j+1) from by omega])
  simp only[Zi] at r1;refine⟨?_,λi hi=>?_,by simp[i3]⟩
  ·simp only[Zf]
   exact⟨ct,cts,v,g.fp id,mv.flatMap g.fp,rfl,by simp,by simpa using hc 0 v Sp,by rw[r1.2];exact OwC.weaken (λb hb=>hb.1) row,i1⟩
  ·rcases List.mem_cons.mp hi with rfl|hi
   ·exact hB
   ·exact i2 i hi
 |@none ct cts ts cs mv r ih=>
  intro vs p hs rs hc;simp only[Zo] at rs;obtain⟨v,vs',rfl,_,r1,r2⟩:=rs;obtain⟨hs1,hs2⟩:=Za4 hs;obtain⟨i1,i2,i3⟩:=ih (p:=p+1) hs2 r2 (λj u hu=>by
   have:=hc (j+1) u (by simpa using hu);rwa[show p+1+j=p+(j+1) from by omega])
  simp only[Zi] at r1;obtain⟨ad,rfl⟩:=r1;refine⟨?_,i2,by simp[i3]⟩
  simp only[Zf]
  exact⟨ct,cts,.slice ad 0 0,[],mv.flatMap g.fp,rfl,by simp,by simpa using hc 0 (.slice ad 0 0) Sp,by simp[OwC],i1⟩
 |@dat ct cts f x ts cs mv r ih=>
  intro vs p hs rs hc;simp only[Zo] at rs;obtain⟨v,vs',rfl,_,r1,r2⟩:=rs;obtain⟨hs1,hs2⟩:=Za4 hs;obtain⟨i1,i2,i3⟩:=ih (p:=p+1) hs2 r2 (λj u hu=>by
   have:=hc (j+1) u (by simpa using hu);rwa[show p+1+j=p+(j+1) from by omega])
  simp only[Zi] at r1;refine⟨?_,i2,by simp[i3]⟩
  simp only[Zf]
  exact⟨ct,cts,v,[],mv.flatMap g.fp,rfl,by simp,by simpa using hc 0 _ Sp,by simp only[OwC];exact⟨trivial,RdD.weaken (λb hb=>hb.1) r1⟩,i1⟩
theorem ZaT.soundF (hr:Rel P X w g stL a) {c:Array Value} {cts:List TypeId} {ts:List T} {cs:List C} {mv:List Nat} (h:ZaT st cts ts cs mv):∀ {vs:List Value} {p:Nat},ZaG st ts=true->Z9 g stL st (ZD ts)->Zo X w g ts vs->(∀ (j:Nat) (v:Value),vs[j]? = some v->c[p+j]? = some v)->
  Zf P w (g.IM X true) c cs cts p (mv.flatMap g.fp)/\∀ id∈mv,∀ b∈g.fp id,X.new b:=by
 induction h with
 |nil=>intro vs p _ hs r hc;simp[Zf]
 |@row ct cts id og fr xs ts cs mv h r ih=>
  intro vs p hf hs rs hc;simp only[ZaG,h,Bool.and_eq_true] at hf;obtain⟨rfl,hf⟩:=hf;simp only[Zo] at rs;obtain⟨v,vs',rfl,_,r1,r2⟩:=rs;obtain⟨hs1,hs2⟩:=Za4 hs;obtain⟨_,hB,⟨row,_⟩,hnew,_⟩:=hs1.obj hr (by simp[ZD]) h;obtain⟨i1,i2⟩:=ih (p:=p+1) hf hs2 r2 (λj u hu=>by
   have:=hc (j+1) u (by simpa using hu);rwa[show p+1+j=p+(j+1) from by omega])
  simp only[Zi] at r1;refine⟨?_,λi hi=>?_⟩
  ·simp only[Zf]
   exact⟨ct,cts,v,g.fp id,mv.flatMap g.fp,rfl,by simp,by simpa using hc 0 v Sp,by rw[r1.2];exact row,i1⟩
  ·rcases List.mem_cons.mp hi with rfl|hi
   ·exact hnew rfl
   ·exact i2 i hi
 |@none ct cts ts cs mv r ih=>
  intro vs p hf hs rs hc;simp only[ZaG] at hf;simp only[Zo] at rs;obtain⟨v,vs',rfl,_,r1,r2⟩:=rs;obtain⟨hs1,hs2⟩:=Za4 hs;obtain⟨i1,i2⟩:=ih (p:=p+1) hf hs2 r2 (λj u hu=>by
   have:=hc (j+1) u (by simpa using hu);rwa[show p+1+j=p+(j+1) from by omega])
  simp only[Zi] at r1;obtain⟨ad,rfl⟩:=r1;refine⟨?_,i2⟩
  simp only[Zf]
  exact⟨ct,cts,.slice ad 0 0,[],mv.flatMap g.fp,rfl,by simp,by simpa using hc 0 (.slice ad 0 0) Sp,by simp[OwC],i1⟩
 |@dat ct cts f x ts cs mv r ih=>
  intro vs p hf hs rs hc;simp only[ZaG,Bool.and_eq_true,Bool.or_eq_true] at hf;obtain⟨hf0,hf⟩:=hf;simp only[Zo] at rs;obtain⟨v,vs',rfl,_,r1,r2⟩:=rs;obtain⟨hs1,hs2⟩:=Za4 hs;obtain⟨i1,i2⟩:=ih (p:=p+1) hf hs2 r2 (λj u hu=>by
   have:=hc (j+1) u (by simpa using hu);rwa[show p+1+j=p+(j+1) from by omega])
  refine⟨?_,i2⟩
  simp only[Zf]
  refine⟨ct,cts,v,[],mv.flatMap g.fp,rfl,by simp,by simpa using hc 0 _ Sp,?_,i1⟩
  simp only[OwC]
  refine⟨trivial,?_⟩
  rcases hf0 with rfl|hsc
  ·simpa only[Zi] using r1
  ·have hv:=Zi.scal_eq (X:=X) (w:=w) (g:=g) (fr:=f) (v:=v) hsc r1;subst hv;exact RdD.scal hsc
theorem lent_cells {Q:Nat->Prop} (hr:Rel P X w g stL a) (hJ:JOk g s J) {c:Array Value} {cts:List TypeId} {ts:List T} {cs:List C} {mv:List Nat} (h:ZaT st cts ts cs mv) (hQ:∀ b,(ZaG st ts=true->X.new b)->Q b) {vs:List Value} {p:Nat}
  (r0:Zf P w g.I c cs cts p (mv.flatMap g.fp)) (hs:Z9 g stL st (ZD ts)) (rs:Zo X w g ts vs) (hc:∀ (j:Nat) (v:Value),vs[j]? = some v->c[p+j]? = some v):Zf P w (λb=>J b/\Q b) c cs cts p (mv.flatMap g.fp)/\∀ b∈mv.flatMap g.fp,Q b:=by
 cases hf:ZaG st ts with
 |false=>exact⟨Zf.weaken (λb hb=>⟨hJ.imp b hb,hQ b λq=>by rw[hf] at q;cases q⟩) r0,λb _=>hQ b λq=>by rw[hf] at q;cases q⟩
 |true=>
  obtain⟨z1,z2⟩:=h.soundF hr hf hs rs hc;refine⟨Zf.weaken (λb hb=>⟨hJ.imp b hb.1,hQ b λ_=>hb.2 rfl⟩) z1,λb hb=>?_⟩
  obtain⟨id,hid,hb⟩:=List.mem_flatMap.mp hb;exact hQ b λ_=>z2 id hid b hb
theorem ZaT.outs {fo fa:Bool} {β:Type} (hr:Rel P X w g stL a) {c:Array Value} {w':World} {I' Q':Nat->Prop} {r:β} {k:St->Option β} {cts:List TypeId} {ts:List T} {cs:List C} {mv:List Nat} (h:ZaT st cts ts cs mv):∀ {vs:List Value} {p:Nat} {cs':List C} {Fo:List Nat} {st2:St},Z9 g stL st (ZD ts)->Zo X w g ts vs->(∀ (j:Nat) (v:Value),vs[j]? = some v->c[p+j]? = some v)->
  Zf P w' (λb=>I' b/\Q' b) c cs' cts p Fo->Z2 st st2 ts cs' k=some r->
  ∃ back:List Bk,back.map (·.id)=mv/\(∀ y∈back,y.kept=[]/\∀ (n:Nat) (nw:List Nw),BkOk P X fo fa st g w' I' Q' n nw y)/\k (st2.sets (Zbz back))=some r/\(back.flatMap (·.fo)).Sublist Fo:=by
 induction h with
 |nil=>
  intro vs p cs' Fo st2 hs rs hc ho h;cases cs' with
  |cons _ _=>simp[Z2] at h
  |nil=>
   simp only[Z2] at h;exact⟨[],rfl,by simp,by simpa[Zbz,St.sets_nil] using h,by simp⟩
 |@row ct cts id og fr xs ts cs mv h r ih=>
  intro vs p cs' Fo st2 hs rs hc ho hb;cases cs' with
  |nil=>simp[Z2] at hb
  |cons x cs'=>
   simp only[Zo] at rs;obtain⟨v,vs',rfl,_,r1,r2⟩:=rs;obtain⟨hs1,hs2⟩:=Za4 hs;simp only[Z2,h] at hb;obtain⟨zs,rfl,hb⟩:=Zcx hb;obtain⟨_,hb⟩:=ZB hb;simp only[Zf] at ho;obtain⟨ct',cts',v',F1,F2,e1,rfl,hv',o1,o2⟩:=ho;injection e1 with e1 e2;subst e1 e2;have hv:=hc 0 v Sp;rw[Nat.add_zero,hv'] at hv;injection hv with hv;subst hv;simp only[Zi] at r1;obtain⟨back,b1,b2,b3,b4⟩:=ih (p:=p+1) hs2 r2 (λj u hu=>by
    have:=hc (j+1) u (by simpa using hu);rwa[show p+1+j=p+(j+1) from by omega]) o2 hb
   refine⟨⟨id,.row og false ct zs,F1,[],F1⟩::back,by simp[b1],λy hy=>?_,by simpa[Zbz,St.sets_cons] using b3,by simpa using b4⟩
   rcases List.mem_cons.mp hy with rfl|hy
   ·exact⟨rfl,λ_ _=>⟨List.Perm.refl _,.inl ⟨og,ct,zs,fr,xs,false,rfl,by simp,h,by rw[<- r1.2];exact o1⟩⟩⟩
   ·exact b2 y hy
 |@none ct cts ts cs mv r ih=>
  intro vs p cs' Fo st2 hs rs hc ho hb;cases cs' with
  |nil=>simp[Z2] at hb
  |cons x cs'=>
   simp only[Zo] at rs;obtain⟨v,vs',rfl,_,r1,r2⟩:=rs;obtain⟨hs1,hs2⟩:=Za4 hs;simp only[Z2] at hb;simp only[Zf] at ho;obtain⟨ct',cts',v',F1,F2,e1,rfl,hv',o1,o2⟩:=ho;injection e1 with e1 e2;subst e1 e2;obtain⟨back,b1,b2,b3,b4⟩:=ih (p:=p+1) hs2 r2 (λj u hu=>by
    have:=hc (j+1) u (by simpa using hu);rwa[show p+1+j=p+(j+1) from by omega]) o2 hb
   exact⟨back,b1,b2,b3,b4.trans (List.sublist_append_right _ _)⟩
 |@dat ct cts f x ts cs mv r ih=>
  intro vs p cs' Fo st2 hs rs hc ho hb;cases cs' with
  |nil=>simp[Z2] at hb
  |cons x cs'=>
   simp only[Zo] at rs;obtain⟨v,vs',rfl,_,r1,r2⟩:=rs;obtain⟨hs1,hs2⟩:=Za4 hs;simp only[Z2] at hb;simp only[Zf] at ho;obtain⟨ct',cts',v',F1,F2,e1,rfl,hv',o1,o2⟩:=ho;injection e1 with e1 e2;subst e1 e2;obtain⟨back,b1,b2,b3,b4⟩:=ih (p:=p+1) hs2 r2 (λj u hu=>by
    have:=hc (j+1) u (by simpa using hu);rwa[show p+1+j=p+(j+1) from by omega]) o2 hb
   exact⟨back,b1,b2,b3,b4.trans (List.sublist_append_right _ _)⟩
def Backs (P:Program) (X:Fix) (fo fa:Bool) (st:St) (g:G) (w w':World) (I' Q':Nat->Prop) (Fs:List Ln) (as:List A) (ms:List (Mode×TypeId)) (ts:List T) (vs:List Value):Prop:=
 ∀ (os:List Out) (Fo:List Nat),Zac P w' I' Q' as ms vs os Fo->(∀ b,g.I b->w'.heap[b]? = w.heap[b]?)->(Z5 st ms ts=false->∀ b,g.I b->I' b/\Q' b)->(∀ x∈Fs,∀ b∈x.kept,w'.heap[b]? = w.heap[b]?)->
  ∀ {β:Type} (st2:St) (k:St->Option β) (r:β),st.ob.length<=st2.ob.length->ZC P fo fa st st2 ms ts os k=some r->
   ∃ (back:List Bk) (nw:List Nw),back.map (λy=>(y.id,y.kept))=Fs.map (λx=>(x.id,x.kept))/\(∀ y∈back,BkOk P X fo fa st g w' I' Q' st2.ob.length nw y)/\(∀ x∈nw,NwOk P w' (λb=>I' b/\Q' b) fo x/\∀ b∈x.fp,Q' b)/\
    k ((st2.more (nw.map (·.ob))).sets (Zbz back))=some r/\(back=[]->nw=[])/\∃ l:List Nat,l.Perm (back.flatMap (·.fo)++nw.flatMap (·.fp))/\l.Sublist Fo
theorem ArgT.rel {t:T} {v:Value} (h:ArgT X w g J t v) (hn:∀ fr cs,t≠.ip fr cs):Zi X w g t v:=by
 rcases h with h|⟨fr,cs,h,_⟩
 ·exact h
 ·exact absurd h (hn fr cs)
theorem datCs_map:∀ ds:List D,datCs (ds.map .d)=some ds
 |[]=>rfl
 |x::ds=>by simp only[List.map_cons,datCs,datCs_map ds]
theorem datTs_rd {c:Array Value}:∀ {ts:List T} {ds:List D} {vs:List Value} {p:Nat},datTs ts=some ds->Zo X w g ts vs->(∀ (j:Nat) (v:Value),vs[j]? = some v->c[p+j]? = some v)->Zt w g.I c p ds/\ds.length=ts.length
 |[],ds,vs,p,h,r,hc=>by
  simp only[datTs] at h;injection h with h;subst h;exact⟨by simp only[Zt],rfl⟩
 |t::ts,ds,vs,p,h,r,hc=>by
  cases t<;>simp only[datTs] at h<;>try (cases h;done)
  rename_i fr x;split at h;case h_2=>cases h
  rename_i ds' hd;injection h with h;subst h;simp only[Zo] at r;obtain⟨v,vs',rfl,_,r1,r2⟩:=r;obtain⟨i1,i2⟩:=datTs_rd (p:=p+1) hd r2 (λj u hu=>by
   have:=hc (j+1) u (by simpa using hu);rwa[show p+1+j=p+(j+1) from by omega])
  simp only[Zi] at r1;refine⟨?_,by simp[i2]⟩
  simp only[Zt]
  exact⟨⟨v,by simpa using hc 0 v Sp,RdD.weaken (λb hb=>hb.1) r1⟩,i1⟩
theorem Lent.sound {fo fa:Bool} {Q:Nat->Prop} (hT:Zax P) (hr:Rel P X w g stL a) (hJ:JOk g s J) {ms:List (Mode×TypeId)} {ts:List T} {as:List A} {mv:List Nat} (h:Lent P s st ms ts as mv):∀ {vs:List Value},(∀ b,(Z5 st ms ts=true->X.new b)->Q b)->(∀ t∈ts,Z9 g stL st (ZaO st t))->Zao X w g J ts vs->
  ∃ Fs:List Ln,Fs.map (·.id)=mv/\ZY P w J Q as ms vs (Fs.flatMap (·.f))/\(∀ x∈Fs,g.B x.id/\(g.fp x.id).Perm (x.kept++x.f))/\∀ (w':World) (I' Q':Nat->Prop),Backs P X fo fa st g w w' I' Q' Fs as ms ts vs:=by
 induction h with
 |done=>
  intro vs hQ hs r;simp only[Zao] at r;subst r;refine⟨[],rfl,by simp[ZY],by simp,λw' I' Q' os Fo ho hi hi2 hk β st2 k r hlen h=>?_⟩
  simp only[Zac] at ho;obtain⟨rfl,rfl⟩:=ho;simp only[ZC] at h;exact⟨[],[],rfl,by simp,by simp,by simpa[Zbz,St.sets_nil,St.more_nil] using h,by simp,[],by simp,by simp⟩
 |@imm ct ms t ts x as mv h r ih=>
  intro vs hQ hs rs;simp only[Zao] at rs;obtain⟨v,vs',rfl,r1,r2⟩:=rs;obtain⟨Fs,a1,a2,a3,a4⟩:=ih (λb hb=>hQ b λq=>hb (by simpa only[Z5] using q)) (λt ht=>hs t (by simp[ht])) r2;have hx:ZV P w J Q x (.imm,ct) v []:=by
   rcases r1 with r1|⟨fr,cs,rfl,b,off,c,e,f,rfl,q1,q2,q3⟩
   ·exact argD_J hT hr hJ h ((hs t Sp).sub λi hi=>List.mem_append_left _ hi) r1
   ·simp only[argD] at h;injection h with h;subst h;simp only[ZV]
    exact⟨trivial,b,off,c,e,f,rfl,q1,q2,q3⟩
  refine⟨Fs,a1,?_,a3,λw' I' Q' os Fo ho hi hi2 hk β st2 k r hlen h=>?_⟩
  ·simp only[ZY]
   exact⟨v,vs',[],_,rfl,by simp,hx,a2⟩
  ·have ho':Zac P w' I' Q' as ms vs' os Fo:=by
    cases x with
    |own g' cs'=>simp only[ZV] at hx
    |box cs'=>simp only[ZV] at hx
    |_=>simpa only[Zac] using ho
   have h':ZC P fo fa st st2 ms ts os k=some r:=by simpa only[ZC] using h
   exact a4 w' I' Q' os Fo ho' hi (λq=>hi2 (by simpa only[Z5] using q)) hk st2 k r hlen h'
 |@immSub ct ms id i off og fr rt xs c x rest ys ts as mv hsf h hc hd hy r ih=>
  intro vs hQ hs rs;simp only[Zao] at rs;obtain⟨v,vs',rfl,r1,r2⟩:=rs;obtain⟨Fs,a1,a2,a3,a4⟩:=ih (λb hb=>hQ b λq=>hb (by simpa only[Z5] using q)) (λt ht=>hs t (by simp[ht])) r2;have r1:=r1.rel Sp;have hS:Z9 g stL st [id]:=(hs (.sub id i off) Sp).sub (by simp[ZaO,ZO]);have hB:g.B id:=(hS id Sp (by rw[h];rfl)).2;obtain⟨ct',F',ow,_,hF⟩:=sub_cell hr hS h hc hd r1;have hx:ZV P w J Q (.d (.sl ys)) (.imm,ct) v []:=by
   simp only[ZV]
   refine⟨trivial,?_⟩
   have:=OwC.imm (J:=J) (λb hb=>hJ.imp b hb.1) (λb hb=>hJ.all hsf id hB b (hF b hb)) hT ow;rwa[hy] at this
  refine⟨Fs,a1,?_,a3,λw' I' Q' os Fo ho hi hi2 hk β st2 k r hlen h=>?_⟩
  ·simp only[ZY]
   exact⟨v,vs',[],_,rfl,by simp,hx,a2⟩
  ·have ho':Zac P w' I' Q' as ms vs' os Fo:=by simpa only[Zac] using ho
   have h':ZC P fo fa st st2 ms ts os k=some r:=by simpa only[ZC] using h
   exact a4 w' I' Q' os Fo ho' hi (λq=>hi2 (by simpa only[Z5] using q)) hk st2 k r hlen h'
 |@nil ct ms ts as mv r ih=>
  intro vs hQ hs rs;simp only[Zao] at rs;obtain⟨v,vs',rfl,r1,r2⟩:=rs;obtain⟨Fs,a1,a2,a3,a4⟩:=ih (λb hb=>hQ b λq=>hb (by simpa only[Z5] using q)) (λt ht=>hs t (by simp[ht])) r2;have r1:=r1.rel Sp;simp only[Zi] at r1;refine⟨Fs,a1,?_,a3,λw' I' Q' os Fo ho hi hi2 hk β st2 k r hlen h=>?_⟩
  ·simp only[ZY]
   exact⟨v,vs',[],_,rfl,by simp,by simp only[ZV];exact⟨trivial,r1⟩,a2⟩
  ·have ho':Zac P w' I' Q' as ms vs' os Fo:=by simpa only[Zac] using ho
   have h':ZC P fo fa st st2 ms ts os k=some r:=by simpa only[ZC] using h
   exact a4 w' I' Q' os Fo ho' hi (λq=>hi2 (by simpa only[Z5] using q)) hk st2 k r hlen h'
 |@row ct ms id og fr xs ts as mv h r ih=>
  intro vs hQ hs rs;simp only[Zao] at rs;obtain⟨v,vs',rfl,r1,r2⟩:=rs;obtain⟨Fs,a1,a2,a3,a4⟩:=ih (λb hb=>hQ b λq=>hb (by simp[Z5,h] at q;exact q.2)) (λt ht=>hs t (by simp[ht])) r2;have r1:=r1.rel Sp;have hS:Z9 g stL st [id]:=(hs (.row id) Sp).sub (by simp[ZaO,ZO]);obtain⟨_,hB,⟨row,_⟩,hnew,_⟩:=hS.obj hr Sp h;simp only[Zi] at r1;have hfr:Z5 st ((.own,ct)::ms) (.row id::ts)=true->fr=true:=λq=>by simp[Z5,h] at q;exact q.1
  refine⟨⟨id,[],g.fp id⟩::Fs,by simp[a1],?_,λx hx=>?_,λw' I' Q' os Fo ho hi hi2 hk β st2 k r hlen hd=>?_⟩
  ·simp only[ZY]
   refine⟨v,vs',g.fp id,_,rfl,by simp,?_,a2⟩
   simp only[ZV,Zf]
   exact⟨⟨ct,[],v,g.fp id,[],rfl,by simp,by simp,by rw[r1.2];exact OwC.weaken (λb hb=>⟨hJ.imp b hb.1,hQ b λq=>hb.2 (hfr q)⟩) row,by simp⟩,λb hb=>hQ b λq=>hnew (hfr q) b hb⟩
  ·rcases List.mem_cons.mp hx with rfl|hx
   ·exact⟨hB,List.Perm.refl _⟩
   ·exact a3 x hx
  ·simp only[Zac] at ho;rcases ho with⟨os',rfl,o2⟩|⟨cs',os',F1,F2,rfl,rfl,hl,o1,o2⟩
   ·simp only[ZC] at hd;obtain⟨back,nw,b1,b2,bn,b3,be,l,b4,b5⟩:=a4 w' I' Q' os' Fo o2 hi (λq=>hi2 (by simp[Z5,h,q])) (λx hx=>hk x (by simp[hx])) _ k _ (by simpa[St.setOb] using hlen) hd;rw[St.setOb_more (Nat.lt_of_lt_of_le (ob_lt h) hlen)] at b3;simp only[St.setOb,List.length_set] at b2;refine⟨⟨id,.gone,[],[],[]⟩::back,nw,by simp[b1],λy hy=>?_,bn,by simpa[Zbz,St.sets_cons] using b3,by simp,l,by simpa using b4,b5⟩
    rcases List.mem_cons.mp hy with rfl|hy
    ·exact⟨List.Perm.refl _,.inr (.inl ⟨rfl,rfl,og,fr,ct,xs,h⟩)⟩
    ·exact b2 y hy
   obtain⟨z,rfl⟩:∃ z,cs'=[z]:=by
    match cs',hl with
    |[z],_=>exact⟨z,rfl⟩
   simp only[ZC,h] at hd;obtain⟨zs,rfl,hd⟩:=Zcx hd;simp only[ZV,Zf] at o1;obtain⟨⟨ct',cts',v',G1,G2,e1,rfl,hv',ow,rfl,rfl⟩,hqb⟩:=o1;injection e1 with e1 e2;subst e1;simp at hv';subst hv';obtain⟨fr',hfr',hd⟩:∃ fr':Bool,(fr'=true->fo=true\/fa=true/\flatC zs=true)/\ZC P fo fa st (st2.setOb id (.row og fr' ct zs)) ms ts os' k=some r:=by
    cases hfo:fo with
    |true=>
     rw[hfo] at hd;simp only[cond_true] at hd;obtain⟨_,hd⟩:=ZB hd;exact⟨true,λ_=>.inl rfl,hd⟩
    |false=>
    rw[hfo] at hd;simp only[cond_false] at hd;cases hf:(fa&&flatTy P ct) with
    |true=>
     rw[hf] at hd;simp only[cond_true] at hd;obtain⟨⟨_,q⟩,hd⟩:=ZB hd;simp only[Bool.and_eq_true] at hf;exact⟨true,λ_=>.inr ⟨hf.1,q⟩,hd⟩
    |false=>
     rw[hf] at hd;simp only[cond_false] at hd;obtain⟨_,hd⟩:=ZB hd;exact⟨false,by simp,hd⟩
   obtain⟨back,nw,b1,b2,bn,b3,be,l,b4,b5⟩:=a4 w' I' Q' os' F2 o2 hi (λq=>hi2 (by simp[Z5,h,q])) (λx hx=>hk x (by simp[hx])) _ k _ (by simpa[St.setOb] using hlen) hd;rw[St.setOb_more (Nat.lt_of_lt_of_le (ob_lt h) hlen)] at b3;simp only[St.setOb,List.length_set] at b2;refine⟨⟨id,.row og fr' ct zs,G1,[],G1⟩::back,nw,by simp[b1],λy hy=>?_,bn,by simpa[Zbz,St.sets_cons] using b3,by simp,G1++l,by simpa using List.Perm.append_left G1 b4,by simpa using b5⟩
   rcases List.mem_cons.mp hy with rfl|hy
   ·exact⟨List.Perm.refl _,.inl ⟨og,ct,zs,fr,xs,fr',rfl,λq=>⟨rfl,(hfr' q).imp (λz=>⟨z,λb hb=>hqb b (by simpa using hb)⟩) λz=>z⟩,h,by rw[<- r1.2];exact ow⟩⟩
   ·exact b2 y hy
 |@agg ct ms cs c m ts as mv h r ih=>
  intro vs hQ hs rs;simp only[Zao] at rs;obtain⟨v,vs',rfl,r1,r2⟩:=rs;obtain⟨Fs,a1,a2,a3,a4⟩:=ih (λb hb=>hQ b λq=>hb (by simp[Z5] at q;exact q.2)) (λt ht=>hs t (by simp[ht])) r2;have r1:=r1.rel Sp;have hS:Z9 g stL st (ZD cs):=(hs (.agg cs) Sp).sub λi hi=>List.mem_append_left _ hi
  simp only[Zi] at r1;obtain⟨vals,rfl,rv⟩:=r1;have hget:∀ (j:Nat) (u:Value),vals[j]? = some u->vals.toArray[0+j]? = some u:=λj u hu=>by simpa using hu
  obtain⟨c1,c2,c3⟩:=h.sound hr (c:=vals.toArray) hS rv hget;refine⟨m.map (λid=>⟨id,[],g.fp id⟩)++Fs,by simp[a1,Function.comp_def],?_,λx hx=>?_,λw' I' Q' os Fo ho hi hi2 hk β st2 k r hlen hd=>?_⟩
  ·simp only[ZY]
   refine⟨_,vs',m.flatMap g.fp,_,rfl,by simp[List.flatMap_map],?_,a2⟩
   simp only[ZV]
   exact⟨vals,rfl,by rw[Zo.length rv,c3],lent_cells hr hJ h (λb hb=>hQ b λq=>hb (by simp[Z5] at q;exact q.1)) c1 hS rv hget⟩
  ·rcases List.mem_append.mp hx with hx|hx
   ·obtain⟨id,hid,rfl⟩:=List.mem_map.mp hx;exact⟨c2 id hid,List.Perm.refl _⟩
   ·exact a3 x hx
  ·simp only[Zac] at ho;rcases ho with⟨os',rfl,o2⟩|⟨cs',os',F1,F2,rfl,rfl,hl,o1,o2⟩
   ·simp only[ZC] at hd;rw[ZbG,h.ids] at hd;have hm:∀ p∈m.map (·,Obj.gone),p.1<st2.ob.length:=λp hp=>by
     obtain⟨i,hi',rfl⟩:=List.mem_map.mp hp;obtain⟨_,_,_,_,q⟩:=h.rows i hi';exact Nat.lt_of_lt_of_le (ob_lt q) hlen
    rw[St.sets_gones] at hd;obtain⟨back,nw,b1,b2,bn,b3,be,l,b4,b5⟩:=a4 w' I' Q' os' Fo o2 hi (λq=>hi2 (by simp[Z5,q])) (λx hx=>hk x (by simp[hx])) _ k _ (by simp only[St.sets,ZH];exact hlen) hd;rw[St.sets_more hm] at b3;simp only[St.sets,ZH] at b2;have hg0:(m.map (λi=>(⟨i,.gone,[],[],[]⟩:Bk))).flatMap (·.fo)=[]:=by simp[List.flatMap_map]
    refine⟨m.map (λi=>⟨i,.gone,[],[],[]⟩)++back,nw,by simp[b1,Function.comp_def],λy hy=>?_,bn,?_,λq=>be (List.append_eq_nil_iff.mp q).2,l,by rw[List.flatMap_append,hg0,List.nil_append];exact b4,b5⟩
    ·rcases List.mem_append.mp hy with hy|hy
     ·obtain⟨i,hi',rfl⟩:=List.mem_map.mp hy;obtain⟨og',fr',ct',xs',q⟩:=h.rows i hi';exact⟨List.Perm.refl _,.inr (.inl ⟨rfl,rfl,og',fr',ct',xs',q⟩)⟩
     ·exact b2 y hy
    ·have:Zbz (m.map (λi=>⟨i,.gone,[],[],[]⟩)++back)=m.map (·,Obj.gone)++Zbz back:=by simp[Zbz,Function.comp_def]
     rw[this,St.sets_append];exact b3
   simp only[ZC] at hd;simp only[ZV] at o1;obtain⟨vals',e,_,ow,_⟩:=o1;injection e with e;have e:vals=vals':=by simpa using e
   subst e;obtain⟨back1,d1,d2,d3,d4⟩:=h.outs (fa:=fa) hr (c:=vals.toArray) hS rv hget ow hd;obtain⟨back,nw,b1,b2,bn,b3,be,l,b4,b5⟩:=a4 w' I' Q' os' F2 o2 hi (λq=>hi2 (by simp[Z5,q])) (λx hx=>hk x (by simp[hx])) _ k _ (by simp only[St.sets,ZH];exact hlen) d3;rw[St.sets_more (λp hp=>by
    obtain⟨y,hy,rfl⟩:=List.mem_map.mp hp;have:y.id∈m:=by rw[<- d1];exact List.mem_map.mpr ⟨y,hy,rfl⟩
    obtain⟨_,_,_,_,q⟩:=h.rows _ this;exact Nat.lt_of_lt_of_le (ob_lt q) hlen)] at b3
   simp only[St.sets,ZH] at b2;refine⟨back1++back,nw,?_,λy hy=>?_,bn,?_,λq=>be (List.append_eq_nil_iff.mp q).2,back1.flatMap (·.fo)++l,?_,?_⟩
   ·rw[List.map_append,List.map_append,b1,List.map_map,<- d1,List.map_map];congr 1;refine List.map_congr_left λy hy=>?_
    simp only[Function.comp]
    rw[(d2 y hy).1]
   ·rcases List.mem_append.mp hy with hy|hy
    ·exact(d2 y hy).2 _ _
    ·exact b2 y hy
   ·have:Zbz (back1++back)=Zbz back1++Zbz back:=by simp[Zbz]
    rw[this,St.sets_append];exact b3
   ·rw[List.flatMap_append,List.append_assoc];exact List.Perm.append_left _ b4
   ·exact d4.append b5
 |@sub ct ms id i off og fr rt xs c ys ts as mv h ht hc hx r ih=>
  intro vs hQ hs rs;simp only[Zao] at rs;obtain⟨v,vs',rfl,r1,r2⟩:=rs;obtain⟨Fs,a1,a2,a3,a4⟩:=ih (λb hb=>hQ b λq=>by simp[Z5] at q) (λt ht=>hs t (by simp[ht])) r2;have r1:=r1.rel Sp;have hS:Z9 g stL st [id]:=(hs (.sub id i off) Sp).sub (by simp[ZaO,ZO]);obtain⟨_,hB,⟨row,hgs⟩,_⟩:=hS.obj hr Sp h;simp only[Zi] at r1;obtain⟨_,b,o0,len,cap,cc,e,f,hh,hfp,hb,hv⟩:=r1;obtain⟨a',cap',hv',hrow⟩:=OwC.row row;rw[hh] at hv';injection hv' with e1 e2 e3;subst e1 e2 e3;rcases hrow with⟨rfl,_,_⟩|⟨b',o1,c',e',F',ea,ho0,hF,hb',hz,hcs,hle,rows⟩
  ·simp at hc
  injection ea with ea;injection ea with ea eo _;subst ea eo;have hb2:=hb';rw[hb] at hb';injection hb' with hb';injection hb' with hb' hb3 hb4;subst hb' hb3 hb4;obtain⟨ct',v',A,R,B,t1,hFc,t3,t4,t5⟩:=Zj.cut rows hc hx;rw[t1] at ht;injection ht with ht;subst ht;rw[hgs] at hv;rw[show o0+i*Zs P rt+off=o0+(i*Zs P rt+off) from by omega,hv] at t3;injection t3 with t3;subst t3;have hperm:∀ Z:List Nat,(b::(A++Z++B)).Perm ((b::(A++B))++Z):=by
   intro Z;simp only[List.cons_append]
   refine List.Perm.cons b ?_;rw[List.append_assoc,List.append_assoc];exact List.Perm.append_left A List.perm_append_comm
  refine⟨⟨id,b::(A++B),R⟩::Fs,by simp[a1],?_,λx hx=>?_,λw' I' Q' os Fo ho hi hi2 hk β st2 k r hlen hd=>?_⟩
  ·simp only[ZY]
   refine⟨v,vs',R,_,rfl,by simp,?_,a2⟩
   simp only[ZV,Zf]
   exact⟨⟨ct',[],v,R,[],rfl,by simp,by simp,OwC.weaken (λb hb=>⟨hJ.imp b hb.1,hQ b λq=>by simp[Z5] at q⟩) t4,by simp⟩,λb _=>hQ b λq=>by simp[Z5] at q⟩
  ·rcases List.mem_cons.mp hx with rfl|hx
   ·refine⟨hB,?_⟩
    rw[hF,hFc];exact hperm R
   ·exact a3 x hx
  ·simp only[Zac] at ho;rcases ho with⟨os',rfl,_⟩|⟨cs',os',F1,F2,rfl,rfl,hl,o1,o2⟩
   ·simp[ZC] at hd
   obtain⟨z,rfl⟩:∃ z,cs'=[z]:=by
    match cs',hl with
    |[z],_=>exact⟨z,rfl⟩
   simp only[ZC,h] at hd;simp only[ZV,Zf] at o1;obtain⟨⟨ct'',cts',v',G1,G2,e1,rfl,hv',ow,rfl,rfl⟩,hqb⟩:=o1;injection e1 with e1 e2;subst e1;simp at hv';subst hv';obtain⟨back,nw,b1,b2,bn,b3,be,l,b4,b5⟩:=a4 w' I' Q' os' F2 o2 hi (λq=>hi2 (by simp[Z5])) (λx hx=>hk x (by simp[hx])) _ k _ (by simpa[St.setOb] using hlen) hd;rw[St.setOb_more (Nat.lt_of_lt_of_le (ob_lt h) hlen)] at b3;simp only[St.setOb,List.length_set] at b2;have hkeep:=hk _ (List.mem_cons_self);simp only[] at hkeep;refine⟨⟨id,.row og false rt (xs.modify i λr=>r.set off z),b::(A++G1++B),b::(A++B),G1⟩::back,nw,by simp[b1],λy hy=>?_,bn,by simpa[Zbz,St.sets_cons] using b3,by simp,G1++l,by simpa using List.Perm.append_left G1 b4,by simpa using b5⟩
   rcases List.mem_cons.mp hy with rfl|hy
   ·refine⟨hperm G1,.inl ⟨og,rt,_,fr,xs,false,rfl,by simp,h,?_⟩⟩
    simp only[OwC]
    refine⟨_,_,by rw[hh,List.length_modify],.inr ⟨b,o0,cc,e,_,rfl,ho0,rfl,by rw[hkeep b Sp];exact hb,hz,hcs,by rw[List.length_modify];exact hle,t5 ⟨⟨λb hb=>hi2 (by simp[Z5]) b hb.1,λb hb=>hi b hb.1⟩,λq hq=>hkeep q (List.mem_cons_of_mem _ hq)⟩ ow⟩⟩
   ·exact b2 y hy
 |@box pt ms id og cs cc m ts as mv h hds r ih=>
  intro vs hQ hs rs;simp only[Zao] at rs;obtain⟨v,vs',rfl,r1,r2⟩:=rs;obtain⟨Fs,a1,a2,a3,a4⟩:=ih (λb hb=>hQ b λq=>hb (by simp[Z5,h] at q;exact q.2)) (λt ht=>hs t (by simp[ht])) r2;have r1:=r1.rel Sp;have hS:Z9 g stL st [id]:=(hs (.bp id 0) Sp).sub (by simp[ZaO,ZO]);obtain⟨_,hB,⟨⟨b,c,e,hh,hfp,hb,rc⟩,_⟩⟩:=hS.obj hr Sp h;have hSr:Z9 g stL st (ZD cs):=(hs (.bp id 0) Sp).sub (by rw[rowsOf_ids];intro i hi;refine List.mem_append_right _ ?_;simp only[h];exact hi);simp only[Zi] at r1;obtain⟨c1,c2,c3⟩:=hds.sound hr (c:=c) (p:=0) hSr rc (λj u hu=>by simpa using hu);have hsz:c.size=cc.length:=by rw[c3,<- Zo.length rc];simp
  obtain⟨_,bb,hbb,rfl⟩:=r1;rw[hh] at hbb;injection hbb with hbb;injection hbb with hbb;injection hbb with hbb;subst hbb;refine⟨⟨id,[],g.fp id⟩::(m.map (λi=>⟨i,[],g.fp i⟩)++Fs),by simp[a1,Function.comp_def],?_,λx hx=>?_,λw' I' Q' os Fo ho hi hi2 hk β st2 k r hlen hd=>?_⟩
  ·simp only[ZY]
   refine⟨_,vs',g.fp id++m.flatMap g.fp,_,rfl,by simp[List.flatMap_map],?_,a2⟩
   simp only[ZV]
   exact⟨b,c,e,m.flatMap g.fp,rfl,by rw[hfp];rfl,hb,hsz,lent_cells hr hJ hds (λb hb=>hQ b λq=>hb (by simp[Z5,h] at q;exact q.1)) c1 hSr rc (λj u hu=>by simpa using hu)⟩
  ·rcases List.mem_cons.mp hx with rfl|hx
   ·exact⟨hB,List.Perm.refl _⟩
   ·rcases List.mem_append.mp hx with hx|hx
    ·obtain⟨i,hid,rfl⟩:=List.mem_map.mp hx;exact⟨c2 i hid,List.Perm.refl _⟩
    ·exact a3 x hx
  ·simp only[Zac] at ho;obtain⟨cs',os',F1,F2,rfl,rfl,hl,o1,o2⟩:=ho;simp only[ZV] at o1;obtain⟨b',c',e',F',hv',rfl,hb',hsz',ow,hqb⟩:=o1;injection hv' with hv';injection hv' with hv';injection hv' with hv';subst hv';simp only[ZC,h] at hd;split at hd;case h_2=>cases hd
   rename_i l0 st1 hbo;obtain⟨_,hd⟩:=ZB hd;obtain⟨n1,rfl,f1,f2,f3⟩:=Zce (X:=X) hbo ow;subst f1;rw[ZbG,hds.ids] at hd;have hm:∀ p∈((id,Obj.box og pt l0)::m.map (·,Obj.gone)),p.1<st2.ob.length:=λp hp=>by
    rcases List.mem_cons.mp hp with rfl|hp
    ·exact Nat.lt_of_lt_of_le (ob_lt h) hlen
    ·obtain⟨i,hi',rfl⟩:=List.mem_map.mp hp;obtain⟨_,_,_,_,q⟩:=hds.rows i hi';exact Nat.lt_of_lt_of_le (ob_lt q) hlen
   have hst:((⟨st2.tm,st2.ob++n1.map (·.ob)⟩:St).setOb id (.box og pt l0)).gones m=(st2.more (n1.map (·.ob))).sets ((id,.box og pt l0)::m.map (·,.gone)):=by
    rw[St.sets_cons,<- St.sets_gones];rfl
   rw[hst] at hd;have hln:((st2.more (n1.map (·.ob))).sets ((id,.box og pt l0)::m.map (·,.gone))).ob.length=st2.ob.length+n1.length:=by simp[St.sets,St.more,ZH]
   obtain⟨back,nw,b1,b2,bn,b3,be,l,b4,b5⟩:=a4 w' I' Q' os' F2 o2 hi (λq=>hi2 (by simp[Z5,h,q])) (λx hx=>hk x (by simp[hx])) _ k _ Om hd;rw[St.sets_more (λp hp=>by have:=hm p hp;simp only[St.more,List.length_append];omega),St.more_more] at b3;rw[hln] at b2;refine⟨⟨id,.box og pt l0,[b],[],[b]⟩::(m.map (λi=>⟨i,.gone,[],[],[]⟩)++back),n1++nw,by simp[b1,Function.comp_def],λy hy=>?_,λx hx=>?_,?_,by simp,b::(n1.flatMap (·.fp)++l),?_,?_⟩
   ·rcases List.mem_cons.mp hy with rfl|hy
    ·refine⟨List.Perm.refl _,.inr (.inr ⟨og,pt,cs,l0,b,c',e',rfl,h,hh,rfl,hb',λg2 hg=>?_⟩)⟩
     obtain⟨us,u1,u2,u3⟩:=f3 g2 hg.left;have:us=c'.toList:=by
      apply List.ext_getElem?;intro j;have e:c'.toList[j]? = c'[j]?:=by simp
      rw[e];cases hj:us[j]? with
      |some u=>
       have:=u3 j u hj;rw[Nat.zero_add] at this;exact this.symm
      |none=>
       rw[List.getElem?_eq_none_iff] at hj;exact(Array.getElem?_eq_none_iff.mpr Om).symm
     rw[<- this];exact u1
    ·rcases List.mem_append.mp hy with hy|hy
     ·obtain⟨i,hi',rfl⟩:=List.mem_map.mp hy;obtain⟨og',fr',ct',xs',q⟩:=hds.rows i hi';exact⟨List.Perm.refl _,.inr (.inl ⟨rfl,rfl,og',fr',ct',xs',q⟩)⟩
     ·exact(b2 y hy).shift rfl
   ·rcases List.mem_append.mp hx with q|q
    ·exact⟨.inl (f2 x q),λb hb=>hqb b (List.mem_flatMap.mpr ⟨x,q,hb⟩)⟩
    ·exact bn x q
   ·rw[List.map_append];have:Zbz (⟨id,.box og pt l0,[b],[],[b]⟩::(m.map (λi=>⟨i,.gone,[],[],[]⟩)++back))=((id,Obj.box og pt l0)::m.map (·,Obj.gone))++Zbz back:=by simp[Zbz,Function.comp_def]
    rw[this,St.sets_append];exact b3
   ·have hg0:(m.map (λi=>(⟨i,.gone,[],[],[]⟩:Bk))).flatMap (·.fo)=[]:=by simp[List.flatMap_map]
    simp only[List.flatMap_cons,List.flatMap_append,hg0,List.nil_append,List.cons_append]
    exact List.Perm.cons b ((List.Perm.append_left _ b4).trans (List.perm_append_comm_assoc _ _ _))
   ·simp only[List.cons_append]
    exact List.Sublist.cons_cons b ((List.Sublist.refl _).append b5)
end
end Go.T
namespace Go.T
theorem St.sets_ob (st:St) (l:List (Nat×Obj)):(st.sets l).ob=ZS st.ob l:=rfl
theorem St.sets_length (st:St) (l:List (Nat×Obj)):(st.sets l).ob.length=st.ob.length:=ZH _ _
theorem Zbj {st:St} {id i:Nat} {o:Obj} (h:i≠id):(st.setOb id o).ob[i]? = st.ob[i]?:=by
 simp only[St.setOb]
 rw[List.getElem?_set_ne (λe=>h e.symm)]
theorem Zbc {st:St} {id i:Nat} {o o':Obj} (h:(st.setOb id o).ob[i]? = some o'):i=id/\o'=o\/i≠id/\st.ob[i]? = some o':=by
 by_cases e:i=id
 ·subst e;simp only[St.setOb] at h;rw[List.getElem?_set] at h;split at h
  ·split at h
   ·injection h with h;exact .inl ⟨rfl,h.symm⟩
   ·cases h
  ·rename_i q;exact absurd rfl q
 ·rw[Zbj e] at h;exact .inr ⟨e,h⟩
theorem Frz.mem {st:St} {l:List (Nat×Obj)} (h:Frz st l):∀ p∈l,(∃ og fr ct xs,st.ob[p.1]? = some (.row og fr ct xs)/\p.2=.frz fr (C.immRows xs))\/(∃ og t cs f ds,st.ob[p.1]? = some (.box og t cs)/\p.2=.fbx f ds):=by
 induction h with
 |nil=>simp
 |row h r ih=>
  intro p hp;rcases List.mem_cons.mp hp with rfl|hp
  ·exact .inl ⟨_,_,_,_,h,rfl⟩
  ·rcases ih p hp with⟨og,fr,ct,xs,q,e⟩|⟨og,t,cs,f,ds,q,e⟩
   ·rcases Zbc q with⟨_,q⟩|⟨_,q⟩
    ·cases q
    ·exact .inl ⟨og,fr,ct,xs,q,e⟩
   ·rcases Zbc q with⟨_,q⟩|⟨_,q⟩
    ·cases q
    ·exact .inr ⟨og,t,cs,f,ds,q,e⟩
 |box h hd r ih=>
  intro p hp;rcases List.mem_cons.mp hp with rfl|hp
  ·exact .inr ⟨_,_,_,_,_,h,rfl⟩
  ·rcases ih p hp with⟨og,fr,ct,xs,q,e⟩|⟨og,t,cs,f,ds,q,e⟩
   ·rcases Zbc q with⟨_,q⟩|⟨_,q⟩
    ·cases q
    ·exact .inl ⟨og,fr,ct,xs,q,e⟩
   ·rcases Zbc q with⟨_,q⟩|⟨_,q⟩
    ·cases q
    ·exact .inr ⟨og,t,cs,f,ds,q,e⟩
theorem Frz.final {st:St} {l:List (Nat×Obj)} (h:Frz st l):∀ p∈l,(st.sets l).ob[p.1]? = some p.2:=by
 have key:∀ (st:St) (id:Nat) (o:Obj) (l:List (Nat×Obj)),id<st.ob.length->(∀ og f ct xs,o≠.row og f ct xs)->(∀ og t cs,o≠.box og t cs)->Frz (st.setOb id o) l->(∀ p∈l,((st.setOb id o).sets l).ob[p.1]? = some p.2)->∀ p∈(id,o)::l,(st.sets ((id,o)::l)).ob[p.1]? = some p.2:=by
  intro st id o l hl h1 h2 r ih p hp;rw[St.sets_cons];rcases List.mem_cons.mp hp with rfl|hp
  ·rw[St.sets_ob,Zay]
   ·simp only[St.setOb];rw[List.getElem?_set_self hl]
   ·intro p hp e;rcases r.mem p hp with⟨og,fr,ct,xs,q,_⟩|⟨og,t,cs,f,ds,q,_⟩
    ·rw[e] at q;rcases Zbc q with⟨_,q⟩|⟨q,_⟩
     ·exact h1 _ _ _ _ q.symm
     ·exact q rfl
    ·rw[e] at q;rcases Zbc q with⟨_,q⟩|⟨q,_⟩
     ·exact h2 _ _ _ q.symm
     ·exact q rfl
  ·exact ih p hp
 induction h with
 |nil=>simp
 |row h r ih=>exact key _ _ _ _ (List.getElem?_eq_some_iff.mp h).1 Sp Sp r ih
 |box h hd r ih=>exact key _ _ _ _ (List.getElem?_eq_some_iff.mp h).1 Sp Sp r ih
theorem Frz.under {st:St} {l:List (Nat×Obj)} (h:Frz st l) {id:Nat} {o:Obj} (ho:(st.sets l).ob[id]? = some o) (h1:∀ f xs,o≠.frz f xs) (h2:∀ f xs,o≠.fbx f xs):id∉l.map (·.1)/\st.ob[id]? = some o:=by
 have hn:id∉l.map (·.1):=by
  intro hm;obtain⟨p,hp,rfl⟩:=List.mem_map.mp hm;rw[h.final p hp] at ho;injection ho with ho;rcases h.mem p hp with⟨og,fr,ct,xs,_,e⟩|⟨og,t,cs,f,ds,_,e⟩
  ·exact h1 _ _ (ho.symm.trans e)
  ·exact h2 _ _ (ho.symm.trans e)
 refine⟨hn,?_⟩
 rw[St.sets_ob,Zay _ _ _ (λp hp e=>hn (List.mem_map.mpr ⟨p,hp,e⟩))] at ho;exact ho
def Za9 (st:St) (L:List Nat) (st':St):Prop:=
 ∃ l,st'=st.sets l/\Frz st l/\(∀ p∈l,p.1∈L)/\∀ (id:Nat) (f:Bool) (ds:List D) (og:Option Nat) (t:TypeId) (cs:List T),(id,Obj.fbx f ds)∈l->st.ob[id]? = some (.box og t cs)->∀ j∈ZD cs,j∈L
theorem Za9.refl (st:St) (L:List Nat):Za9 st L st:=⟨[],by rw[St.sets_nil],.nil st,by simp,by simp⟩
theorem Za9.trans {st st1 st2:St} {L:List Nat} (h1:Za9 st L st1) (h2:Za9 st1 L st2):Za9 st L st2:=by
 obtain⟨l1,rfl,a1,a2,a3⟩:=h1;obtain⟨l2,rfl,b1,b2,b3⟩:=h2;refine⟨l1++l2,by rw[St.sets_append],a1.append b1,λp hp=>?_,λid f ds og t cs hm ho=>?_⟩
 ·rcases List.mem_append.mp hp with q|q
  ·exact a2 p q
  ·exact b2 p q
 ·rcases List.mem_append.mp hm with q|q
  ·exact a3 id f ds og t cs q ho
  ·rcases b1.mem _ q with⟨_,_,_,_,_,e⟩|⟨og',t',cs',f',ds',ho',e⟩
   ·cases e
   ·have:=(a1.under ho' Sp Sp).2;simp only[] at this;rw[ho] at this;injection this with this;injection this with e1 e2 e3;subst e1 e2 e3;exact b3 id f ds _ _ _ q ho'
theorem Za9.mono {st st':St} {L L':List Nat} (h:Za9 st L st') (hL:∀ i∈L,i∈L'):Za9 st L' st':=by
 obtain⟨l,e,a1,a2,a3⟩:=h;exact⟨l,e,a1,λp hp=>hL _ (a2 p hp),λid f ds og t cs hm ho j hj=>hL _ (a3 id f ds og t cs hm ho j hj)⟩
theorem Za9.box {st st':St} {L:List Nat} (h:Za9 st L st') {id:Nat} {og:Option Nat} {t:TypeId} {cs:List T} (ho:st'.ob[id]? = some (.box og t cs)):st.ob[id]? = some (.box og t cs):=by
 obtain⟨l,rfl,a1,_,_⟩:=h;exact(a1.under ho Sp Sp).2
theorem freezeCell_frz (st:St) (t:T):∃ l,ZaL st t=st.sets l/\Frz st l/\(∀ p∈l,p.1∈ZD [t])/\∀ p∈l,∃ f xs,p.2=.frz f xs:=by
 unfold ZaL;split
 ·rename_i id;split
  ·rename_i og fr ct xs ho;exact⟨[(id,.frz fr (C.immRows xs))],by rw[St.sets_cons,St.sets_nil],.row ho (.nil _),by simp[ZD],by simp⟩
  ·exact⟨[],by rw[St.sets_nil],.nil st,by simp,by simp⟩
 ·exact⟨[],by rw[St.sets_nil],.nil st,by simp,by simp⟩
theorem ZcK:∀ (ts:List T) (st:St),∃ l,ZbH st ts=st.sets l/\Frz st l/\(∀ p∈l,p.1∈ZD ts)/\∀ p∈l,∃ f xs,p.2=.frz f xs
 |[],st=>⟨[],by rw[St.sets_nil];rfl,.nil st,by simp,by simp⟩
 |t::ts,st=>by
  obtain⟨l1,e1,a1,a2,a3⟩:=freezeCell_frz st t;obtain⟨l2,e2,b1,b2,b3⟩:=ZcK ts (ZaL st t);rw[e1] at b1;refine⟨l1++l2,?_,a1.append b1,λp hp=>?_,λp hp=>?_⟩
  ·show ZbH (ZaL st t) ts=_;rw[e2,e1,St.sets_append]
  ·simp only[ZD,List.flatMap_cons,List.mem_append] at a2 b2⊢;rcases List.mem_append.mp hp with q|q
   ·exact .inl (by simpa using a2 p q)
   ·exact .inr (b2 p q)
  ·rcases List.mem_append.mp hp with q|q
   ·exact a3 p q
   ·exact b3 p q
theorem Za9.cells (st:St) (ts:List T):Za9 st (ZD ts) (ZbH st ts):=by
 obtain⟨l,e,a1,a2,a3⟩:=ZcK ts st;refine⟨l,e,a1,a2,λid f ds og t cs hm _=>?_⟩
 obtain⟨_,_,q⟩:=a3 _ hm;cases q
theorem Za9.cell (st:St) (t:T):Za9 st (ZD [t]) (ZaL st t):=Za9.cells st [t]
theorem Za9.cap (st:St) (t:T):Za9 st (ZaQ st t) (freezeCap st t):=by
 unfold freezeCap;split
 ·rename_i id off;split
  ·rename_i og bt cs ho;split
   ·rename_i f ds hd;have hl:ZaQ st (.bp id off)=id::ZD cs:=by simp only[ZaQ,ho]
    rw[hl];obtain⟨l,e,a1,a2,a3⟩:=ZcK cs st;have hn:id∉l.map (·.1):=by
     intro hm;obtain⟨p,hp,he⟩:=List.mem_map.mp hm;rcases a1.mem p hp with⟨og,fr,ct,xs,q,_⟩|⟨og,t,cs,f,ds,_,q⟩
     ·rw[he,ho] at q;cases q
     ·obtain⟨_,_,q'⟩:=a3 p hp;rw[q'] at q;cases q
    have ho':(ZbH st cs).ob[id]? = some (.box og bt cs):=by
     rw[e,St.sets_ob,Zay _ _ _ (λp hp e=>hn (List.mem_map.mpr ⟨p,hp,e⟩))];exact ho
    refine⟨l++[(id,.fbx f ds)],by rw[St.sets_append,<- e,St.sets_cons,St.sets_nil],a1.append ?_,λp hp=>?_,λid' f' ds' og' t' cs' hm hb=>?_⟩
    ·rw[<- e];exact .box ho' hd (.nil _)
    ·rcases List.mem_append.mp hp with q|q
     ·exact List.mem_cons_of_mem _ (a2 p q)
     ·simp at q;subst q;simp
    ·rcases List.mem_append.mp hm with q|q
     ·obtain⟨_,_,q'⟩:=a3 _ q;cases q'
     ·simp at q;obtain⟨rfl,_,_⟩:=q;rw[ho] at hb;injection hb with hb;injection hb with _ _ hb;subst hb;exact λj hj=>List.mem_cons_of_mem _ hj
   ·exact Za9.refl _ _
  ·exact Za9.refl _ _
 ·exact Za9.refl _ _
theorem lookCap_under {st st':St} {L:List Nat} (h:Za9 st L st') (t:T):∀ i∈ZaQ st' t,i∈ZaQ st t:=by
 intro i hi;unfold ZaQ at hi⊢;split at hi
 ·split at hi
  ·rename_i ho;rw[h.box ho];exact hi
  ·simp at hi;subst hi;split<;>simp
 ·cases hi
theorem Za9.caps {L:List Nat} {st0:St}:∀ (ts:List T) (st:St),Za9 st0 L st->(∀ t∈ts,∀ i∈ZaQ st0 t,i∈L)->Za9 st0 L (ts.foldl freezeCap st)
 |[],st,h,_=>h
 |t::ts,st,h,hL=>by
  refine Za9.caps ts (freezeCap st t) (h.trans ((Za9.cap st t).mono λi hi=>hL t Sp i (lookCap_under h t i hi))) λt ht=>hL t (by simp[ht])
theorem Za9.arg {L:List Nat} {st0 st:St} (t:T) (h:Za9 st0 L st) (hL:∀ i∈ZO st0 t,i∈L):Za9 st0 L (freezeT st t):=by
 unfold freezeT;split
 ·exact h.trans ((Za9.cells st _).mono hL)
 ·exact Za9.caps _ st h λt ht i hi=>hL i (by rw[ZcS];exact List.mem_flatMap.mpr ⟨t,ht,hi⟩)
 ·rename_i id i off;exact h.trans ((Za9.cell st (.row id)).mono λi hi=>hL i (by simpa[ZD,ZO] using hi))
 ·refine h.trans ((Za9.cell st t).mono λi hi=>hL i ?_);simp only[ZD,List.flatMap_cons,List.flatMap_nil,List.append_nil] at hi;split at hi
  ·simpa[ZO] using hi
  ·cases hi
theorem Za9.args {L:List Nat} {st0:St}:∀ (ms:List (Mode×TypeId)) (ts:List T) (st:St),Za9 st0 L st->(∀ t∈ts,∀ i∈ZO st0 t,i∈L)->Za9 st0 L (ZbI st ms ts)
 |[],ts,st,h,_=>by cases ts<;>simpa only[ZbI] using h
 |(m,ct)::ms,[],st,h,_=>by cases m<;>simpa only[ZbI] using h
 |(m,ct)::ms,t::ts,st,h,hL=>by
  cases m<;>simp only[ZbI]
  ·exact Za9.args ms ts _ (h.arg t (hL t Sp)) λt ht=>hL t (by simp[ht])
  all_goals exact Za9.args ms ts st h λt ht=>hL t (by simp[ht])
theorem bornRes_syn {P:Program} {fr:Bool}:∀ {tys:List TypeId} {cs:List (List C)} {st st':St} {ts:List T},Zba P fr st tys cs=some (ts,st')->∃ news,st'=⟨st.tm,st.ob++news⟩
 |t::tys,c::cs,st,st',ts,h=>by
  simp only[Zba] at h;cases hp:Zb2 P t with
  |true=>
   rw[hp] at h;simp only[cond_true] at h;split at h;case h_2=>cases h
   split at h;case h_2=>cases h
   rename_i h2;injection h with h;injection h with e1 e2;subst e1 e2;obtain⟨n2,rfl⟩:=bornRes_syn h2;exact⟨_::n2,by simp[St.newOb];rfl⟩
  |false=>
   rw[hp] at h;simp only[cond_false] at h;split at h;case h_2=>cases h
   rename_i r st1 h1;split at h;case h_2=>cases h
   rename_i rs st2 h2;injection h with h;injection h with e1 e2;subst e1 e2;obtain⟨n1,rfl⟩:=bornC_syn h1;obtain⟨n2,rfl⟩:=bornRes_syn h2;exact⟨n1++n2,by simp⟩
 |[],[],st,st',ts,h=>by
  simp only[Zba] at h;injection h with h;injection h with e1 e2;subst e1 e2;exact⟨[],by simp⟩
 |_::_,[],_,_,_,h=>by simp[Zba] at h
 |[],_::_,_,_,_,h=>by simp[Zba] at h
theorem Zdk {P:Program} {X:Fix} {w:World} {I:Nat->Prop} {fr:Bool}:∀ {tys:List TypeId} {cs:List (List C)} {st st':St} {ts:List T} {vs:List Value} {F:List Nat},Zba P fr st tys cs=some (ts,st')->ZaY P w I tys cs vs F->
  ∃ ns:List Nw,st'=⟨st.tm,st.ob++ns.map (·.ob)⟩/\F=ns.flatMap (·.fp)/\(∀ x∈ns,NwOk P w I fr x)/\∀ g:G,NwAt X I fr g st.ob.length ns->Zo X w g ts vs
 |t::tys,c::cs,st,st',ts,vs,F,h,r=>by
  simp only[Zba] at h;simp only[ZaY] at r;obtain⟨v,vs',F1,F2,rfl,rfl,rv,r2⟩:=r;rcases rv with⟨hp,cells,hv,hsz,r1⟩|⟨hp,ds,rfl,hbox⟩
  rotate_left
  ·rw[hp] at h;simp only[cond_true,datCs_map] at h;split at h;case h_2=>cases h
   rename_i rs st2 h2;injection h with h;injection h with e1 e2;subst e1 e2;obtain⟨ns,a1,a2,a3,a4⟩:=Zdk (X:=X) h2 r2;refine⟨⟨.box none (Zby P t) (ds.map (.d fr)),F1,v,0⟩::ns,by rw[a1];simp[St.newOb],by simp[a2],λx hx=>?_,λg hg=>?_⟩
   ·rcases List.mem_cons.mp hx with rfl|hx
    ·exact .inr ⟨_,ds,rfl,hbox⟩
    ·exact a3 x hx
   ·obtain⟨hB,hh⟩:=hg.1 0 _ rfl;obtain⟨b,c,e,hv,_⟩:=hbox;simp only[Zo]
    refine⟨v,vs',rfl,rfl,?_,a4 g ⟨λi x hx=>?_,hg.2⟩⟩
    ·simp only[Zi]
     exact⟨by simpa using hB,b,by rw[<- hv];simpa using hh,hv⟩
    ·have:=hg.1 (i+1) x (by simpa using hx);simp only[St.newOb,List.length_append,List.length_singleton]
     rwa[show st.ob.length+1+i=st.ob.length+(i+1) from by omega]
  rw[hp] at h;simp only[cond_false] at h;split at h;case h_2=>cases h
  rename_i rt st1 h1;split at h;case h_2=>cases h
  rename_i rs st2 h2;injection h with h;injection h with e1 e2;subst e1 e2;obtain⟨n1,rfl,a2,a3,a4⟩:=Zce (X:=X) h1 r1;obtain⟨n2,b1,b2,b3,b4⟩:=Zdk (X:=X) h2 r2;refine⟨n1++n2,by rw[b1];simp,by simp[a2,b2],λx hx=>?_,λg hg=>?_⟩
  ·rcases List.mem_append.mp hx with q|q
   ·exact .inl (a3 x q)
   ·exact b3 x q
  ·have hg1:NwAt X I fr g st.ob.length n1:=⟨λj x hx=>hg.1 j x (by rw[List.getElem?_append_left (List.getElem?_eq_some_iff.mp hx).1];exact hx),hg.2⟩
   have hg2:NwAt X I fr g (st.ob++n1.map (·.ob)).length n2:=⟨λj x hx=>by
    have:=hg.1 (n1.length+j) x (by rw[List.getElem?_append_right Om];simpa using hx);simpa[Nat.add_assoc] using this,hg.2⟩
   obtain⟨us,c1,c2,c3⟩:=a4 g hg1;simp only[Zo]
   refine⟨v,vs',rfl,?_,?_,b4 g hg2⟩
   ·have key:∀ (ts:List T) (us:List Value),Zo X w g ts us->Zcp (ts.headD .any)=false:=by
     intro ts us r;cases ts with
     |nil=>rfl
     |cons t ts=>simp only[Zo] at r;obtain⟨_,_,_,q,_⟩:=r;exact q
    unfold wrapT;split
    ·rfl
    ·exact key rt us c1
   ·unfold wrapT;have hus:cells.toList=us:=by
     apply List.ext_getElem?;intro j;rw[Array.getElem?_toList];cases hj:us[j]? with
     |some u=>simpa using c3 j u hj
     |none=>
      rw[List.getElem?_eq_none_iff] at hj;simp;omega
    split at hv
    ·rename_i hg';rw[if_pos hg'];simp only[Zi]
     exact⟨us,by rw[hv,<- hus],c1⟩
    ·rename_i hg';rw[if_neg hg'];cases rt with
     |nil=>simp[Zi]
     |cons t0 rt=>
      simp only[Zo] at c1;obtain⟨u,us',rfl,_,q,_⟩:=c1;simp only[List.headD_cons]
      have:=c3 0 u Sp;rw[hv];have h0:cells.getD 0 undef=u:=by
       rw[Array.getD_eq_getD_getElem?];simp at this;simp[this]
      rw[h0];exact q
 |[],[],st,st',ts,vs,F,h,r=>by
  simp only[Zba] at h;injection h with h;injection h with e1 e2;subst e1 e2;simp only[ZaY] at r;obtain⟨rfl,rfl⟩:=r;exact⟨[],by simp,by simp,by simp,λg hg=>by simp[Zo]⟩
 |_::_,[],_,_,_,_,_,h,_=>by simp[Zba] at h
 |[],_::_,_,_,_,_,_,h,_=>by simp[Zba] at h
end Go.T
namespace Go.T
theorem Rel.eff {P:Program} {X:Fix} {w0 w w':World} {g g':G} {stL:St} {a:Act} {dst:Option Nat} {n:Nat} {e:Eff} {v:Value} (hr:Rel P X w g stL a) (hs:Zal X w0 w)
  (hn:∀ j,j<e.news.length->stL.ob[n+j]? = some .gone/\¬ g.B (n+j)) (hchg:∀ p∈e.chg,p.1<n)
  (hx:Turn X w w' g g' (e.U n)) (hB:∀ id,g'.B id↔g.B id\/(n<=id/\id<n+e.news.length))
  (hch:∀ id o,(∃ p∈e.chg,p.1=id)->(ZS stL.ob e.chg)[id]? = some o->g.B id->Zy P X w' g' id o)
  (hnw:∀ j ob,e.news[j]? = some ob->Zy P X w' g' (n+j) ob) (hT:Zi X w' g' e.t v):Rel P X w' g' (stL.eff dst n e) (a.put dst v):=by
 refine Rel.put ?_ dst hT;have hlen:∀ j,j<e.news.length->n+j<stL.ob.length:=λj hj=>(List.getElem?_eq_some_iff.mp (hn j hj).1).1
 refine Rel.update (e.U n) hr hs hx rfl ⟨by simp[hr.tms.1],?_⟩ ?_ ?_
 ·intro i t ht;rw[List.getElem?_map] at ht;obtain⟨t0,ht0,rfl⟩:=Option.map_eq_some_iff.mp ht;obtain⟨v0,hv0,rv0⟩:=hr.tms.2 i t0 ht0;rcases Zbv e.chg t0 with⟨hk,hsub⟩|hk
  ·refine .inr (.inr ⟨by rw[hk];exact ht0,rfl,λid j off e' hU=>?_⟩);rw[hk] at e';subst e';simp only[Zi] at rv0;rcases hU with⟨p,hp,e⟩|⟨q1,q2⟩
   ·exact hsub id j off rfl p hp e
   ·exact(hn (id-n) Om).2 (by rw[show n+(id-n)=id from by omega];exact rv0.1)
  ·exact .inl ⟨hk,v0,hv0⟩
 ·intro id hU;rw[Zb8 _ _ _ _ (by
   rcases Nat.lt_or_ge id n with q|q
   ·exact .inl q
   ·exact .inr (Nat.le_of_not_lt λq2=>hU (.inr ⟨q,q2⟩)))]
  exact Zay _ _ _ λp hp e=>hU (.inl ⟨p,hp,e⟩)
 ·intro id hU hb;by_cases hn2:n<=id/\id<n+e.news.length
  ·obtain⟨j,rfl⟩:∃ j,id=n+j:=⟨id-n,Om⟩
   have hj:j<e.news.length:=by omega
   refine⟨e.news[j],?_,hnw j _ (by simp[hj])⟩
   rw[setNews_hit _ _ _ _ hj (by rw[ZH];exact hlen j hj)];simp[hj]
  ·have hc:=hU.resolve_right hn2;have hlt:id<n:=by obtain⟨p,hp,rfl⟩:=hc;exact hchg p hp
   rw[Zb8 _ _ _ _ Om];have hb0:=((hB id).mp hb).resolve_right hn2;obtain⟨o0,ho0,_⟩:=hr.obs id hb0;obtain⟨o',hm,ho'⟩:=ZbZ e.chg stL.ob id hc (List.getElem?_eq_some_iff.mp ho0).1;exact⟨o',ho',hch id o' hc ho' hb0⟩
theorem eff_split (st:St) (dst:Option Nat) (n:Nat) (t:T) (l1 l2:List (Nat×Obj)) (news:List Obj):st.eff dst n ⟨t,l1++l2,news⟩=(st.sets l1).eff dst n ⟨t,l2,news⟩:=by
 simp only[St.eff,St.sets,Zbr,List.map_map]
 have:(ZI (l1++l2))=(ZI l2∘ZI l1):=funext λt=>killAll_append l1 l2 t
 rw[this]
theorem ZaT.syn {st:St} {cts:List TypeId} {ts:List T} {cs:List C} {mv:List Nat} (h:ZaT st cts ts cs mv):∀ {β:Type} {cs':List C} {st2:St} {k:St->Option β} {r:β},Z2 st st2 ts cs' k=some r->
  ∃ chg:List (Nat×Obj),chg.map (·.1)=mv/\∀ {β':Type} (k':St->Option β'),Z2 st st2 ts cs' k'=k' (st2.sets chg):=by
 induction h with
 |nil=>
  intro β cs' st2 k r h;cases cs' with
  |cons _ _=>simp[Z2] at h
  |nil=>exact⟨[],rfl,λk'=>by simp only[Z2,St.sets_nil]⟩
 |@row ct cts id og fr xs ts cs mv h r ih=>
  intro β cs' st2 k r hb;cases cs' with
  |nil=>simp[Z2] at hb
  |cons x cs'=>
   simp only[Z2,h] at hb;obtain⟨zs,rfl,hb⟩:=Zcx hb;obtain⟨hg,hb⟩:=ZB hb;obtain⟨chg,b1,b2⟩:=ih hb;refine⟨(id,.row og false ct zs)::chg,by simp[b1],λk'=>?_⟩
   simp only[Z2,h,cOwn,Z0,hg,if_true,St.sets_cons]
   exact b2 k'
 |@none ct cts ts cs mv r ih=>
  intro β cs' st2 k r hb;cases cs' with
  |nil=>simp[Z2] at hb
  |cons x cs'=>
   simp only[Z2] at hb;obtain⟨chg,b1,b2⟩:=ih hb;exact⟨chg,b1,λk'=>by simp only[Z2];exact b2 k'⟩
 |@dat ct cts f x ts cs mv r ih=>
  intro β cs' st2 k r hb;cases cs' with
  |nil=>simp[Z2] at hb
  |cons x cs'=>
   simp only[Z2] at hb;obtain⟨chg,b1,b2⟩:=ih hb;exact⟨chg,b1,λk'=>by simp only[Z2];exact b2 k'⟩
theorem Lent.syn {P:Program} {fo fa:Bool} {s:Bool} {st:St} {ms:List (Mode×TypeId)} {ts:List T} {as:List A} {mv:List Nat} (h:Lent P s st ms ts as mv):∀ {β:Type} {os:List Out} {st2:St} {k:St->Option β} {r:β},st.ob.length<=st2.ob.length->ZC P fo fa st st2 ms ts os k=some r->
  ∃ (chg:List (Nat×Obj)) (news:List Obj),chg.map (·.1)=mv/\∀ {β':Type} (k':St->Option β'),ZC P fo fa st st2 ms ts os k'=k' ((st2.more news).sets chg):=by
 induction h with
 |done=>
  intro β os st2 k r hlen h;cases os with
  |cons _ _=>simp[ZC] at h
  |nil=>exact⟨[],[],rfl,λk'=>by simp only[ZC,St.sets_nil,St.more_nil]⟩
 |imm h r ih=>
  intro β os st2 k r hlen hb;simp only[ZC] at hb;obtain⟨chg,news,b1,b2⟩:=ih hlen hb;exact⟨chg,news,b1,λk'=>by simp only[ZC];exact b2 k'⟩
 |immSub hs h hc hd hy r ih=>
  intro β os st2 k r hlen hb;simp only[ZC] at hb;obtain⟨chg,news,b1,b2⟩:=ih hlen hb;exact⟨chg,news,b1,λk'=>by simp only[ZC];exact b2 k'⟩
 |nil r ih=>
  intro β os st2 k r hlen hb;simp only[ZC] at hb;obtain⟨chg,news,b1,b2⟩:=ih hlen hb;exact⟨chg,news,b1,λk'=>by simp only[ZC];exact b2 k'⟩
 |@row ct ms id og fr xs ts as mv h r ih=>
  intro β os st2 k r hlen hb;cases os with
  |nil=>simp[ZC] at hb
  |cons o os=>
   cases o with
   |box _=>simp[ZC] at hb
   |lost=>
    simp only[ZC] at hb;obtain⟨chg,news,b1,b2⟩:=ih (by simpa[St.setOb] using hlen) hb;refine⟨(id,.gone)::chg,news,by simp[b1],λk'=>?_⟩
    simp only[ZC,St.sets_cons]
    rw[b2 k',St.setOb_more (Nat.lt_of_lt_of_le (ob_lt h) hlen)]
   |own cs'=>
    match cs',hb with
    |[],hb=>simp[ZC] at hb
    |[c'],hb=>
     simp only[ZC,h] at hb;obtain⟨zs,rfl,hb⟩:=Zcx hb;cases hfo:fo with
     |true=>
      rw[hfo] at hb;simp only[cond_true] at hb;obtain⟨hg,hb⟩:=ZB hb;rw[hfo] at ih;obtain⟨chg,news,b1,b2⟩:=ih (by simpa[St.setOb] using hlen) hb;refine⟨(id,.row og true ct zs)::chg,news,by simp[b1],λk'=>?_⟩
      simp only[ZC,h,cOwn,cond_true,Z0,if_pos hg,St.sets_cons]
      rw[b2 k',St.setOb_more (Nat.lt_of_lt_of_le (ob_lt h) hlen)]
     |false=>
     rw[hfo] at hb ih;simp only[cond_false] at hb;cases hf:(fa&&flatTy P ct) with
     |true=>
      rw[hf] at hb;simp only[cond_true] at hb;obtain⟨hg,hb⟩:=ZB hb;obtain⟨chg,news,b1,b2⟩:=ih (by simpa[St.setOb] using hlen) hb;refine⟨(id,.row og true ct zs)::chg,news,by simp[b1],λk'=>?_⟩
      simp only[ZC,h,cOwn,hf,cond_true,cond_false,Z0,if_pos hg,St.sets_cons]
      rw[b2 k',St.setOb_more (Nat.lt_of_lt_of_le (ob_lt h) hlen)]
     |false=>
      rw[hf] at hb;simp only[cond_false] at hb;obtain⟨hg,hb⟩:=ZB hb;obtain⟨chg,news,b1,b2⟩:=ih (by simpa[St.setOb] using hlen) hb;refine⟨(id,.row og false ct zs)::chg,news,by simp[b1],λk'=>?_⟩
      simp only[ZC,h,cOwn,hf,cond_true,cond_false,Z0,if_pos hg,St.sets_cons]
      rw[b2 k',St.setOb_more (Nat.lt_of_lt_of_le (ob_lt h) hlen)]
    |_::_::_,hb=>simp[ZC] at hb
 |@agg ct ms cs c m ts as mv h r ih=>
  intro β os st2 k r hlen hb;cases os with
  |nil=>simp[ZC] at hb
  |cons o os=>
   cases o with
   |box _=>simp[ZC] at hb
   |lost=>
    simp only[ZC] at hb;have hm:∀ p∈m.map (·,Obj.gone),p.1<st2.ob.length:=λp hp=>by
     obtain⟨i,hi',rfl⟩:=List.mem_map.mp hp;obtain⟨_,_,_,_,q⟩:=h.rows i hi';exact Nat.lt_of_lt_of_le (ob_lt q) hlen
    rw[ZbG,h.ids,St.sets_gones] at hb;obtain⟨chg,news,b1,b2⟩:=ih (by simp only[St.sets,ZH];exact hlen) hb;refine⟨m.map (·,Obj.gone)++chg,news,by simp[b1,Function.comp_def],λk'=>?_⟩
    simp only[ZC]
    rw[ZbG,h.ids,St.sets_gones,b2,St.sets_append,St.sets_more hm]
   |own cs'=>
    simp only[ZC] at hb;obtain⟨chg1,a1,a2⟩:=h.syn hb;rw[a2] at hb;obtain⟨chg,news,b1,b2⟩:=ih (by simp only[St.sets,ZH];exact hlen) hb;refine⟨chg1++chg,news,by simp[a1,b1],λk'=>?_⟩
    simp only[ZC]
    rw[a2,b2,St.sets_append,St.sets_more λp hp=>?_];have:p.1∈m:=by rw[<- a1];exact List.mem_map.mpr ⟨p,hp,rfl⟩
    obtain⟨_,_,_,_,q⟩:=h.rows _ this;exact Nat.lt_of_lt_of_le (ob_lt q) hlen
 |@sub ct ms id i off og fr rt xs c ys ts as mv h ht hc hx r ih=>
  intro β os st2 k r hlen hb;cases os with
  |nil=>simp[ZC] at hb
  |cons o os=>
   cases o with
   |box _=>simp[ZC] at hb
   |lost=>simp[ZC] at hb
   |own cs'=>
    match cs',hb with
    |[],hb=>simp[ZC] at hb
    |[c'],hb=>
     simp only[ZC,h] at hb;obtain⟨chg,news,b1,b2⟩:=ih (by simpa[St.setOb] using hlen) hb;refine⟨(id,.row og false rt (xs.modify i λr=>r.set off c'))::chg,news,by simp[b1],λk'=>?_⟩
     simp only[ZC,h,St.sets_cons]
     rw[b2 k',St.setOb_more (Nat.lt_of_lt_of_le (ob_lt h) hlen)]
    |_::_::_,hb=>simp[ZC] at hb
 |@box pt ms id og cs cc m ts as mv h hds r ih=>
  intro β os st2 k r hlen hb;cases os with
  |nil=>simp[ZC] at hb
  |cons o os=>
   cases o with
   |own _=>simp[ZC] at hb
   |lost=>simp[ZC] at hb
   |box cs'=>
    simp only[ZC,h] at hb;split at hb;case h_2=>cases hb
    rename_i l0 st1 hbo;obtain⟨hg,hb⟩:=ZB hb;obtain⟨n1,rfl⟩:=bornC_syn hbo;rw[ZbG,hds.ids] at hb;have hm:∀ p∈((id,Obj.box og pt l0)::m.map (·,Obj.gone)),p.1<(st2.more n1).ob.length:=λp hp=>by
     simp only[St.more,List.length_append]
     rcases List.mem_cons.mp hp with rfl|hp
     ·have:=ob_lt h;omega
     ·obtain⟨i,hi',rfl⟩:=List.mem_map.mp hp;obtain⟨_,_,_,_,q⟩:=hds.rows i hi';have:=ob_lt q;omega
    have hst:((⟨st2.tm,st2.ob++n1⟩:St).setOb id (.box og pt l0)).gones m=(st2.more n1).sets ((id,.box og pt l0)::m.map (·,.gone)):=by
     rw[St.sets_cons,<- St.sets_gones];rfl
    rw[hst] at hb;obtain⟨chg,news,b1,b2⟩:=ih (by simp only[St.sets,St.more,ZH,List.length_append];omega) hb;refine⟨((id,.box og pt l0)::m.map (·,.gone))++chg,n1++news,by simp[b1,Function.comp_def],λk'=>?_⟩
    simp only[ZC,h,hbo,Z0,if_pos hg]
    rw[ZbG,hds.ids,hst,b2 k',St.sets_more hm,St.more_more,St.sets_append]
theorem ZaT.flat {st:St} {cts:List TypeId} {ts:List T} {cs:List C} {mv:List Nat} (h:ZaT st cts ts cs mv):(datTs ts).isSome=true->mv=[]:=by
 induction h with
 |nil=>exact λ_=>rfl
 |row h r ih=>intro q;simp[datTs] at q
 |none r ih=>intro q;simp[datTs] at q
 |dat r ih=>
  intro q;simp only[datTs] at q;split at q
  ·rename_i hd;exact ih (by rw[hd];rfl)
  ·cases q
theorem Lent.quiet {P:Program} {s:Bool} {st:St} {ms:List (Mode×TypeId)} {ts:List T} {as:List A} {mv:List Nat} (h:Lent P s st ms ts as mv):
  (∀ id off og t cs,T.bp id off∈ts->st.ob[id]? = some (.box og t cs)->(datTs cs).isSome=true)->(∀ m∈ms,m.1=.own->∀ t∈ts,∀ i j k,t≠.sub i j k)->∀ id∈mv,(∃ off,T.bp id off∈ts)\/((T.row id∈ts\/∃ cs,T.agg cs∈ts/\id∈Zcu cs)/\∃ m∈ms,m.1=.own):=by
 induction h with
 |done=>simp
 |imm h r ih=>
  exact λhf ho id hid=>(ih (λi o og t cs q=>hf i o og t cs (by simp[q])) (λm hm e t ht=>ho m (by simp[hm]) e t (by simp[ht])) id hid).imp (λ⟨off,q⟩=>⟨off,by simp[q]⟩) λ⟨q,m,hm,e⟩=>⟨q.imp (λq=>by simp[q]) λ⟨cs,a,b⟩=>⟨cs,by simp[a],b⟩,m,by simp[hm],e⟩
 |immSub hs h hc hd hy r ih=>
  exact λhf ho id hid=>(ih (λi o og t cs q=>hf i o og t cs (by simp[q])) (λm hm e t ht=>ho m (by simp[hm]) e t (by simp[ht])) id hid).imp (λ⟨off,q⟩=>⟨off,by simp[q]⟩) λ⟨q,m,hm,e⟩=>⟨q.imp (λq=>by simp[q]) λ⟨cs,a,b⟩=>⟨cs,by simp[a],b⟩,m,by simp[hm],e⟩
 |nil r ih=>
  exact λhf ho id hid=>(ih (λi o og t cs q=>hf i o og t cs (by simp[q])) (λm hm e t ht=>ho m (by simp[hm]) e t (by simp[ht])) id hid).imp (λ⟨off,q⟩=>⟨off,by simp[q]⟩) λ⟨q,m,hm,e⟩=>⟨q.imp (λq=>by simp[q]) λ⟨cs,a,b⟩=>⟨cs,by simp[a],b⟩,m,by simp[hm],e⟩
 |@row ct ms id0 og fr xs ts as mv h r ih=>
  intro hf ho id hid;rcases List.mem_cons.mp hid with rfl|hid
  ·exact .inr ⟨.inl Sp,(.own,ct),by simp,rfl⟩
  ·exact(ih (λi o og t cs q=>hf i o og t cs (by simp[q])) (λm hm e t ht=>ho m (by simp[hm]) e t (by simp[ht])) id hid).imp (λ⟨off,q⟩=>⟨off,by simp[q]⟩) λ⟨q,m,hm,e⟩=>⟨q.imp (λq=>by simp[q]) λ⟨cs,a,b⟩=>⟨cs,by simp[a],b⟩,m,by simp[hm],e⟩
 |@agg ct ms cs c m ts as mv h r ih=>
  intro hf ho id hid;rcases List.mem_append.mp hid with hid|hid
  ·exact .inr ⟨.inr ⟨cs,by simp,by rw[h.ids];exact hid⟩,(.own,ct),by simp,rfl⟩
  ·exact(ih (λi o og t cs q=>hf i o og t cs (by simp[q])) (λm hm e t ht=>ho m (by simp[hm]) e t (by simp[ht])) id hid).imp (λ⟨off,q⟩=>⟨off,by simp[q]⟩) λ⟨q,m,hm,e⟩=>⟨q.imp (λq=>by simp[q]) λ⟨cs,a,b⟩=>⟨cs,by simp[a],b⟩,m,by simp[hm],e⟩
 |@sub ct ms id0 i off og fr rt xs c ys ts as mv h ht hc hx r ih=>
  intro hf ho;exact absurd rfl ((ho (.own,ct) Sp rfl (.sub id0 i off) Sp) id0 i off)
 |box h hd r ih=>
  intro hf ho id hid;have:=hd.flat (hf _ 0 _ _ _ Sp h);subst this;rcases List.mem_cons.mp hid with rfl|hid
  ·exact .inl ⟨0,by simp⟩
  ·exact(ih (λi o og t cs q=>hf i o og t cs (by simp[q])) (λm hm e t ht=>ho m (by simp[hm]) e t (by simp[ht])) id (by simpa using hid)).imp (λ⟨off,q⟩=>⟨off,by simp[q]⟩) λ⟨q,m,hm,e⟩=>⟨q.imp (λq=>by simp[q]) λ⟨cs,a,b⟩=>⟨cs,by simp[a],b⟩,m,by simp[hm],e⟩
theorem Lent.nowide {P:Program} {s:Bool} {st:St} {ms:List (Mode×TypeId)} {ts:List T} {as:List A} {mv:List Nat} (h:Lent P s st ms ts as mv) (hm:∀ m∈ms,m.1≠.own/\m.1≠.box):mv=[]:=by
 induction h with
 |done=>rfl
 |imm h r ih=>exact ih λm q=>hm m (by simp[q])
 |immSub hs h hc hd hy r ih=>exact ih λm q=>hm m (by simp[q])
 |nil r ih=>exact ih λm q=>hm m (by simp[q])
 |row h r ih=>exact absurd rfl (hm _ (List.mem_cons_self)).1
 |agg h r ih=>exact absurd rfl (hm _ (List.mem_cons_self)).1
 |sub h ht hc hx r ih=>exact absurd rfl (hm _ (List.mem_cons_self)).1
 |box h hd r ih=>exact absurd rfl (hm _ (List.mem_cons_self)).2
theorem Lent.fresh {P:Program} {s:Bool} {st:St} {ms:List (Mode×TypeId)} {ts:List T} {as:List A} {mv:List Nat} (h:Lent P s st ms ts as mv) (hf:lentFr st ms ts=true):∀ id∈mv,∃ og ct xs,st.ob[id]? = some (.row og true ct xs):=by
 induction h with
 |done=>simp
 |imm h r ih=>simp only[lentFr] at hf;exact ih hf
 |immSub hs h hc hd hy r ih=>simp only[lentFr] at hf;exact ih hf
 |nil r ih=>simp only[lentFr] at hf;exact ih hf
 |row h r ih=>
  simp only[lentFr,h,Bool.and_eq_true] at hf;intro id hid;rcases List.mem_cons.mp hid with rfl|hid
  ·rw[hf.1] at h;exact⟨_,_,_,h⟩
  ·exact ih hf.2 id hid
 |agg h r ih=>simp[lentFr] at hf
 |sub h ht hc hx r ih=>simp[lentFr] at hf
 |box h hd r ih=>simp[lentFr] at hf
mutual
theorem scal_any {P:Program} {w:World} {I I':Nat->Prop}:∀ {c:C} {ct:TypeId} {v:Value} {F:List Nat},scalC c=true->OwC P w I c ct v F->OwC P w I' c ct v F
 |.d x,ct,v,F,h,r=>by
  simp only[OwC] at r⊢;refine⟨r.1,?_⟩
  have r2:=r.2;cases x<;>first|(simpa only[RdD] using r2)|(simp[scalC,Zak] at h)
 |.own xs,_,_,_,h,_=>by simp[scalC] at h
end
theorem scals_any {P:Program} {w:World} {I I':Nat->Prop} {c:Array Value}:∀ {xs:List C} {cts:List TypeId} {p:Nat} {F:List Nat},(∀ x∈xs,scalC x=true)->Zf P w I c xs cts p F->Zf P w I' c xs cts p F
 |[],_,_,_,_,r=>by simpa only[Zf] using r
 |x::xs,_,_,_,h,r=>by
  simp only[Zf] at r⊢;obtain⟨ct,cts',v,F1,F2,e1,e2,e3,r1,r2⟩:=r;exact⟨ct,cts',v,F1,F2,e1,e2,e3,scal_any (h x Sp) r1,scals_any (λy hy=>h y (by simp[hy])) r2⟩
theorem flatR_any {P:Program} {w:World} {I I':Nat->Prop} {c:Array Value} {cts:List TypeId} {sz:Nat}:∀ {xs:List (List C)} {p:Nat} {F:List Nat},(∀ r∈xs,∀ x∈r,scalC x=true)->Zj P w I c cts sz xs p F->Zj P w I' c cts sz xs p F
 |[],_,_,_,r=>by simpa only[Zj] using r
 |x::xs,_,_,h,r=>by
  simp only[Zj] at r⊢;obtain⟨F1,F2,e,r1,r2⟩:=r;exact⟨F1,F2,e,scals_any (h x Sp) r1,flatR_any (λy hy=>h y (by simp[hy])) r2⟩
theorem flatC_any {P:Program} {w:World} {I I':Nat->Prop} {xs:List (List C)} {ct:TypeId} {v:Value} {F:List Nat} (h:flatC xs=true) (r:OwC P w I (.own xs) ct v F):OwC P w I' (.own xs) ct v F:=by
 have h':∀ r∈xs,∀ x∈r,scalC x=true:=by
  unfold flatC at h;simp only[List.all_eq_true] at h;exact h
 simp only[OwC] at r⊢;obtain⟨a,cap,e,r⟩:=r;refine⟨a,cap,e,?_⟩
 rcases r with r|⟨b,o,c,e',F',q1,q0,q2,q3,q4,q5,q6,q7⟩
 ·exact .inl r
 ·exact .inr ⟨b,o,c,e',F',q1,q0,q2,q3,q4,q5,q6,flatR_any h' q7⟩
theorem Lent.subs {P:Program} {s:Bool} {st:St} {ms:List (Mode×TypeId)} {ts:List T} {as:List A} {mv:List Nat} (h:Lent P s st ms ts as mv):∀ id i off,.sub id i off∈ts->∃ og fr ct xs,st.ob[id]? = some (.row og fr ct xs):=by
 induction h with
 |done=>simp
 |imm h r ih=>
  intro id i off hm;rcases List.mem_cons.mp hm with rfl|hm
  ·simp[argD,cellD] at h
  ·exact ih id i off hm
 |immSub hs h hc hd hy r ih=>
  intro id i off hm;rcases List.mem_cons.mp hm with e|hm
  ·injection e with e;subst e;exact⟨_,_,_,_,h⟩
  ·exact ih id i off hm
 |nil r ih=>
  intro id i off hm;rcases List.mem_cons.mp hm with e|hm
  ·cases e
  ·exact ih id i off hm
 |row h r ih=>
  intro id i off hm;rcases List.mem_cons.mp hm with e|hm
  ·cases e
  ·exact ih id i off hm
 |agg h r ih=>
  intro id i off hm;rcases List.mem_cons.mp hm with e|hm
  ·cases e
  ·exact ih id i off hm
 |sub h ht hc hx r ih=>
  intro id i off hm;rcases List.mem_cons.mp hm with e|hm
  ·injection e with e;subst e;exact⟨_,_,_,_,h⟩
  ·exact ih id i off hm
 |box h hd r ih=>
  intro id i off hm;rcases List.mem_cons.mp hm with e|hm
  ·cases e
  ·exact ih id i off hm
theorem flatMap_perm {α:Type} (A B:α->List Nat):∀ (l:List α),(l.flatMap λx=>A x++B x).Perm (l.flatMap A++l.flatMap B)
 |[]=>by simp
 |x::l=>by
  simp only[List.flatMap_cons]
  refine(List.Perm.append_left _ (flatMap_perm A B l)).trans ?_;rw[List.append_assoc,List.append_assoc];refine List.Perm.append_left _ ?_;rw[<- List.append_assoc,<- List.append_assoc];exact List.Perm.append_right _ List.perm_append_comm
theorem Zb3 {α:Type} {A B:α->List Nat}:∀ {l:List α},(∀ x∈l,(A x).Perm (B x))->(l.flatMap A).Perm (l.flatMap B)
 |[],_=>by simp
 |x::l,h=>by
  simp only[List.flatMap_cons]
  exact(h x Sp).append (Zb3 λy hy=>h y (by simp[hy]))
end Go.T
namespace Go.T
theorem nodup_shift (n m:Nat):((List.range m).map λj=>n+j).Nodup:=by
 unfold List.Nodup;rw[List.pairwise_map];exact List.Pairwise.imp (λh e=>h (Nat.add_left_cancel e)) List.nodup_range
theorem setObs_at:∀ {l:List (Nat×Obj)} {ob:List Obj},(l.map (·.1)).Nodup->∀ p∈l,p.1<ob.length->(ZS ob l)[p.1]? = some p.2
 |[],_,_,p,hp,_=>by cases hp
 |q::l,ob,hn,p,hp,hl=>by
  simp only[List.map_cons,List.nodup_cons] at hn;show(ZS (ob.set q.1 q.2) l)[p.1]? = some p.2;rcases List.mem_cons.mp hp with rfl|hp
  ·rw[Zay _ _ _ (λr hr e=>hn.1 (List.mem_map.mpr ⟨r,hr,e⟩)),List.getElem?_set_self hl]
  ·exact setObs_at hn.2 p hp (by simpa using hl)
theorem setObs_inj {l1 l2:List (Nat×Obj)} {ob:List Obj} (h:l1.map (·.1)=l2.map (·.1)) (hn:(l1.map (·.1)).Nodup) (hl:∀ p∈l1,p.1<ob.length) (he:ZS ob l1=ZS ob l2):l1=l2:=by
 have hlen:l1.length=l2.length:=by simpa using congrArg List.length h
 refine List.ext_getElem hlen λi h1 h2=>?_
 have e1:l1[i].1=l2[i].1:=by
  have:=congrArg (·[i]?) h;simpa[h1,h2] using this
 have a1:=setObs_at hn l1[i] (List.getElem_mem h1) (hl _ (List.getElem_mem h1));have a2:=setObs_at (h▸hn) l2[i] (List.getElem_mem h2) (by rw[<- e1];exact hl _ (List.getElem_mem h1));rw[<- e1,<- he,a1] at a2;injection a2 with a2;exact Prod.ext e1 a2
theorem run_call {P:Program} {a:Act} {w:World} {dst:Option Nat} {ty:TypeId} {pos:String} {af:Array Edge} {gd:Option (Nat×Bool)} {c:Call} {f:Operand} (hc:c.callee=.value f) {g:FuncId} {caps:Array Value}
  (hf:a.eval f=.func (.func g) #[] caps) (he:Zbl P g=true):(execOp a.eval ⟨dst,.call c,ty,pos,af,gd⟩).run P w=.ok (.enter g (c.args.map a.eval++caps)) w:=by
 show(Sem.bind (resolve a.eval c ty) _).run P w=_;rw[Zz];have:(resolve a.eval c ty).run P w=.ok { target:=.fn (.func g) caps,args:=#[]++c.args.map a.eval } w:=by
  unfold resolve;rw[hc];simp only[hf,Deferred.ofValue]
  rfl
 rw[this];simp only[Array.empty_append]
 unfold Zbl at he;split at he
 ·rename_i fn hfn;simp only[Bool.and_eq_true,bne_iff_ne,ne_eq] at he;obtain⟨h1,h2⟩:=he;show(callFunc g (c.args.map a.eval++caps)).run P w=_;unfold callFunc;show(Sem.bind program _).run P w=_;rw[Zz];show(match P.funcs[g]? with|none=>_|some fn=>_:Sem Next).run P w=_;rw[hfn];have h3:fn.body.isNone=false:=by simpa using h2
  simp only[beq_iff_eq,h1,if_false,h3,Bool.false_eq_true]
  rfl
 ·cases he
theorem Zi.frz {X:Fix} {w:World} {g g1:G} (he:Ext w w g g1 (λ_=>False)) {t:T} {v:Value} (hsub:∀ id i off,t=.sub id i off->g1.fp id=g.fp id/\∀ b∈g.fp id,b<w.heap.size) (r:Zi X w g t v):Zi X w g1 t v:=
 Zi.mono he (λid i off e b hb=>by
  obtain⟨h1,h2⟩:=hsub id i off e;exact⟨by rw[h1];exact hb,h2 b hb,λh=>h⟩) r
theorem Zao.imp {X:Fix} {w:World} {g g1:G} {J J1:Nat->Prop}:∀ {ts:List T} {vs:List Value},(∀ t∈ts,∀ v,ArgT X w g J t v->ArgT X w g1 J1 t v)->Zao X w g J ts vs->Zao X w g1 J1 ts vs
 |[],_,_,h=>by simp only[Zao] at h⊢;exact h
 |t::ts,vs,hi,h=>by
  simp only[Zao] at h⊢;obtain⟨v,vs',e,h1,h2⟩:=h;exact⟨v,vs',e,hi t Sp v h1,Zao.imp (λt ht=>hi t (by simp[ht])) h2⟩
theorem resT_rel {P:Program} {X:Fix} {w:World} {g:G} {t:TypeId} {n:Nat} {ts:List T} {vs:List Value} (h:isTupB P t=(n !=1)) (hl:ts.length=n) (r:Zo X w g ts vs):Zi X w g (resT P t ts) (packV vs):=by
 have hv:=Zo.length r;cases hb:isTupB P t with
 |true=>
  have e:resT P t ts=.tup ts:=by
   unfold isTupB at hb;unfold resT;split at hb
   ·rename_i hu;simp[hu]
   ·cases hb
  rw[e];simp only[Zi]
  refine⟨vs,?_,r⟩
  rw[hb] at h;have hne:n≠1:=by simpa using h.symm
  unfold packV;split
  ·simp at hv;omega
  ·rfl
 |false=>
  have e:resT P t ts=ts.headD .any:=by
   unfold isTupB at hb;unfold resT;split
   ·rename_i hu;simp[hu] at hb
   ·rfl
  rw[e];rw[hb] at h;have h1:n=1:=by simpa using h.symm
  match ts,vs,r,hv,hl with
  |[t0],[v0],r,_,_=>
   simp only[Zo] at r;obtain⟨u,us,e1,_,q,_⟩:=r;injection e1 with e1 _;subst e1;simpa[packV] using q
  |[],_,_,_,q=>simp at q;omega
  |_::_::_,_,_,_,q=>simp at q;omega
  |[t0],[],_,q,_=>simp at q
  |[t0],_::_::_,_,q,_=>simp at q
theorem ZaT.look {st0:St} {cts:List TypeId} {ts:List T} {cs:List C} {mv:List Nat} (h:ZaT st0 cts ts cs mv):∀ id∈mv,id∈ZD ts:=by
 induction h with
 |nil=>simp
 |row h r ih=>
  intro id hid;rcases List.mem_cons.mp hid with rfl|hid
  ·simp[ZD]
  ·have:=ih id hid;simp only[ZD,List.flatMap_cons,List.mem_append] at this⊢;exact .inr this
 |none r ih=>
  intro id hid;have:=ih id hid;simp only[ZD,List.flatMap_cons,List.mem_append] at this⊢;exact .inr this
 |dat r ih=>
  intro id hid;have:=ih id hid;simp only[ZD,List.flatMap_cons,List.mem_append] at this⊢;exact .inr this
theorem Lent.look {P:Program} {s:Bool} {st0:St} {ms:List (Mode×TypeId)} {ts:List T} {as:List A} {mv:List Nat} (h:Lent P s st0 ms ts as mv):∀ id∈mv,∃ u∈ts,id∈ZaO st0 u:=by
 induction h with
 |done=>simp
 |imm h r ih=>intro id hid;obtain⟨u,hu,q⟩:=ih id hid;exact⟨u,by simp[hu],q⟩
 |immSub hs h hc hd hy r ih=>intro id hid;obtain⟨u,hu,q⟩:=ih id hid;exact⟨u,by simp[hu],q⟩
 |nil r ih=>intro id hid;obtain⟨u,hu,q⟩:=ih id hid;exact⟨u,by simp[hu],q⟩
 |row h r ih=>
  intro id hid;rcases List.mem_cons.mp hid with rfl|hid
  ·exact⟨.row id,by simp,by simp[ZaO,ZO]⟩
  ·obtain⟨u,hu,q⟩:=ih id hid;exact⟨u,by simp[hu],q⟩
 |@agg ct ms cs c m ts as mv h r ih=>
  intro id hid;rcases List.mem_append.mp hid with hid|hid
  ·exact⟨.agg cs,by simp,List.mem_append_left _ (by rw[lookT_agg];exact h.look id hid)⟩
  ·obtain⟨u,hu,q⟩:=ih id hid;exact⟨u,by simp[hu],q⟩
 |@sub ct ms id0 i off og fr rt xs c ys ts as mv h ht hc hx r ih=>
  intro id hid;rcases List.mem_cons.mp hid with rfl|hid
  ·exact⟨.sub id i off,by simp,by simp[ZaO,ZO]⟩
  ·obtain⟨u,hu,q⟩:=ih id hid;exact⟨u,by simp[hu],q⟩
 |@box pt ms id0 og cs cc m ts as mv h hd r ih=>
  intro id hid;rcases List.mem_cons.mp hid with rfl|hid
  ·exact⟨.bp id 0,by simp,by simp[ZaO,ZO]⟩
  ·rcases List.mem_append.mp hid with hid|hid
   ·refine⟨.bp id0 0,by simp,List.mem_append_right _ ?_⟩
    simp only[h]
    rw[hd.ids];exact hid
   ·obtain⟨u,hu,q⟩:=ih id hid;exact⟨u,by simp[hu],q⟩
section
variable {P:Program} {E:Env} {st:St} {β:Type}
theorem callSound (hT:Zax P) (hE:EnvOK P E) {o:Oper} {r:β} {f:FuncId} {ts:List T} {t:TypeId} {k:T->St->Option β} (h:callDen P E st t f ts k=some r)
  (hlk:∀ u∈ts,∀ id∈ZaO st u,id∈Zbm o st)
  (hq:∀ st',quietOp E o st st'=true->∀ e,E f=some e->∀ u∈ts,Zci st st' (e.modes.any λm=>m.1==.own) u=true) (hst:∀ id off,T.bp id off∈ts->id∈storeAt o st)
  (hrun:∀ (e:Za0),E f=some e->∀ (X:Fix) (stL:St) (g:G) (a:Act) (w:World),Rel P X w g stL a->(∀ x∈o.op.operands.toList,Zi X w g (st.ev x) (a.eval x))->Z9 g stL st (Zbm o st)->
   ∃ vs:List Value,(execOp a.eval o).run P w=.ok (.enter f vs.toArray) w/\Zao X w g (λb=>g.I b\/(e.wide=false/\∃ id,g.B id/\b∈g.fp id)) ts vs):
  ∃ e:Eff,k e.t ⟨st.tm.map (ZI e.chg),ZS st.ob e.chg++e.news⟩=some r/\(∀ p∈e.chg,p.1<st.ob.length)/\(quietOp E o st (st.app o.dst e)=true->∀ p∈e.chg,p.1∈turned o st (st.app o.dst e))/\∀ X w0,Zbh P X w0 o st e:=by
 unfold callDen at h;split at h;case h_1=>cases h
 rename_i e he;simp only[] at h;split at h;case isFalse=>cases h
 rename_i hres;obtain⟨hrt,htup,how⟩:=hres;obtain⟨l,hl0,hfrz,hlL,hlB,hlw⟩:∃ l,(bif e.wide then ZbI st e.modes ts else st)=st.sets l/\Frz st l/\(∀ p∈l,p.1∈ts.flatMap (ZaO st))/\
   (∀ (id:Nat) (f:Bool) (ds:List D) (og:Option Nat) (t:TypeId) (cs:List T),(id,Obj.fbx f ds)∈l->st.ob[id]? = some (.box og t cs)->∀ j∈ZD cs,j∈ts.flatMap (ZaO st))/\(e.wide=false->l=[]):=by
  cases hw:e.wide with
  |true=>
   obtain⟨l,a1,a2,a3,a4⟩:=Za9.args (L:=ts.flatMap (ZaO st)) e.modes ts st (Za9.refl _ _) (λu hu i hi=>List.mem_flatMap.mpr ⟨u,hu,List.mem_append_left _ hi⟩);exact⟨l,a1,a2,a3,a4,by simp⟩
  |false=>exact⟨[],by rw[St.sets_nil];rfl,.nil _,by simp,by simp,λ_=>rfl⟩
 rw[hl0] at h how;obtain⟨as,mv,h,hlent,hnd⟩:=Zcf h;obtain⟨hent,hok,_⟩:=hE f e he;obtain⟨rs,os,h,hcalls⟩:=hok _ as _ r h;split at h;case h_1=>cases h
 rename_i rT st2 hborn;obtain⟨newsR,rfl⟩:=bornRes_syn hborn;have hlen2:(st.sets l).ob.length<=(⟨((st.sets l).gones mv).tm,((st.sets l).gones mv).ob++newsR⟩:St).ob.length:=by
  simp only[St.gones,ZH,List.length_append]
  omega
 obtain⟨chg,newsB,hchg,hsyn⟩:=hlent.syn hlen2 h;simp only[St.more,List.append_assoc] at hsyn;obtain⟨news,hnews0⟩:∃ news,news=newsR++newsB:=⟨_,rfl⟩
 rw[<- hnews0] at hsyn;rw[hsyn] at h;have hlen:(st.sets l).ob.length=st.ob.length:=St.sets_length _ _;have hmvlt:∀ id∈mv,id<st.ob.length:=by
  intro id hid;obtain⟨_,q,_⟩:=hlent.rows id hid;have:=(List.getElem?_eq_some_iff.mp q).1;omega
 have hchlt:∀ p∈chg,p.1<st.ob.length:=λp hp=>hmvlt p.1 (by rw[<- hchg];exact List.mem_map.mpr ⟨p,hp,rfl⟩)
 have hllt:∀ p∈l,p.1<st.ob.length:=by
  intro p hp;rcases hfrz.mem p hp with⟨_,_,_,_,q,_⟩|⟨_,_,_,_,_,q,_⟩<;>exact(List.getElem?_eq_some_iff.mp q).1
 have hmvw:mv≠[]->e.wide=true:=by
  intro hne;cases hw:e.wide with
  |true=>rfl
  |false=>
   refine absurd (hlent.nowide λm hm=>?_) hne;simp only[Za0.wide,Bool.or_eq_false_iff,List.any_eq_false] at hw;have:=hw.2 m hm;refine⟨λhmo=>?_,λhmo=>?_⟩<;>simp[hmo] at this
 have hgl:(((st.sets l).gones mv).ob).length=st.ob.length:=by simp only[St.gones,ZH,hlen]
 refine⟨⟨resT P t rT,l++(mv.map (·,.gone)++chg),news⟩,?_,?_,?_,?_⟩
 ·have:(⟨st.tm.map (ZI (l++(mv.map (·,Obj.gone)++chg))),ZS st.ob (l++(mv.map (·,.gone)++chg))++news⟩:St)=(St.mk ((st.sets l).gones mv).tm (((st.sets l).gones mv).ob++news)).sets chg:=by
   simp only[St.sets,St.gones]
   rw[Zb7 _ _ _ (by simpa[ZH] using hchlt),Zbr,Zbr];congr 1;rw[List.map_map,List.map_map];congr 1;funext u;simp only[Function.comp,killAll_append]
  show k (resT P t rT) _=some r;rw[this];exact h
 ·intro p hp;rcases List.mem_append.mp hp with q|q
  ·exact hllt p q
  ·rcases List.mem_append.mp q with q|q
   ·obtain⟨id,hid,rfl⟩:=List.mem_map.mp q;exact hmvlt id hid
   ·exact hchlt p q
 ·intro hqo p hp;by_cases hpm:p.1∈mv
  ·have hqa:=hq _ hqo e he;rcases hlent.quiet (λid off og t0 cs hm ho=>by
    have q:=(hfrz.under ho Sp Sp).2;have:=hqa _ hm;simpa only[Zci,flatBox,q] using this) (λm hm hmo u hu=>by
    have hown:(e.modes.any λm=>m.1==.own)=true:=List.any_eq_true.mpr ⟨m,hm,by simp[hmo]⟩;have:=hqa u hu;rw[hown] at this;intro i j k hc;subst hc;simp[Zci] at this) p.1 hpm with⟨off,hb⟩|⟨hrow,m,hm,hmo⟩
   ·exact List.mem_append_left _ (hst p.1 off hb)
   ·have hown:(e.modes.any λm=>m.1==.own)=true:=List.any_eq_true.mpr ⟨m,hm,by simp[hmo]⟩;have this:goneIn (st.app o.dst ⟨resT P t rT,l++(mv.map (·,.gone)++chg),news⟩) p.1=true:=by
     rcases hrow with hrow|⟨cs,hrow,hcs⟩
     ·have:=hqa _ hrow;rw[hown] at this;simpa only[Zci,Bool.not_true,Bool.false_or] using this
     ·have:=hqa _ hrow;rw[hown] at this;simp only[Zci,Bool.not_true,Bool.false_or,List.all_eq_true] at this;exact this _ hcs
    unfold goneIn at this;split at this;case h_2=>cases this
    rename_i hgone;obtain⟨o0,ho0,hne,hk⟩:=hlent.rows p.1 hpm;refine List.mem_append_right _ ?_;rcases hk with⟨og,fr,ct,xs,rfl⟩|⟨og,t0,cs,rfl⟩
    ·exact ZbJ (hfrz.under ho0 Sp Sp).2 hgone (by simp[tagOf])
    ·exact ZbJ (hfrz.under ho0 Sp Sp).2 hgone (by simp[tagOf])
  ·have hp':p∈l:=by
    rcases List.mem_append.mp hp with q|q
    ·exact q
    ·rcases List.mem_append.mp q with q|q
     ·obtain⟨id,hid,rfl⟩:=List.mem_map.mp q;exact absurd hid hpm
     ·exact absurd (by rw[<- hchg];exact List.mem_map.mpr ⟨p,q,rfl⟩) hpm
   refine List.mem_append_right _ ?_;have hfin:=hfrz.final p hp';rw[St.sets_ob] at hfin;have hfin':(st.app o.dst ⟨resT P t rT,l++(mv.map (·,.gone)++chg),news⟩).ob[p.1]? = some p.2:=by
    simp only[St.app,put_ob]
    rw[List.getElem?_append_left (by rw[ZH];exact hllt p hp'),Zbr,Zay _ _ _ (λq hq e=>hpm ?_)]
    ·exact hfin
    ·rw[<- e];rcases List.mem_append.mp hq with z|z
     ·obtain⟨id,hid,rfl⟩:=List.mem_map.mp z;exact hid
     ·rw[<- hchg];exact List.mem_map.mpr ⟨q,z,rfl⟩
   rcases hfrz.mem p hp' with⟨_,_,_,_,q,e⟩|⟨_,_,_,_,_,q,e⟩
   ·exact ZbJ q hfin' (by rw[e];simp[tagOf])
   ·exact ZbJ q hfin' (by rw[e];simp[tagOf])
 ·intro X w0 stL g a w hr hs ha hsee hn K Q hK;have hR:=λx hx=>Zbh.args hr (ha x hx)
  obtain⟨vs,hexec,hargs⟩:=hrun e he X stL g a w hr hR hsee;have hS0:Z9 g stL st (ts.flatMap (ZaO st)):=hsee.sub λid hid=>by
   obtain⟨u,hu,hi⟩:=List.mem_flatMap.mp hid;exact hlk u hu id hi
  -- the freezing
  obtain⟨g1,hr1,hS1,hext,hB1,hI1,hfp1,hg1⟩:∃ g1,Rel P X w g1 (stL.sets l) a/\Z9 g1 (stL.sets l) (st.sets l) (ts.flatMap (ZaO st))/\Ext w w g g1 (λ_=>False)/\(∀ id,g1.B id↔g.B id)/\
    (∀ b,g1.I b->g.I b\/∃ id,g.B id/\b∈g.fp id)/\(∀ id,id∉l.map (·.1)->g1.fp id=g.fp id)/\(e.wide=false->g1=g):=by
   cases hw:e.wide with
   |true=>
    obtain⟨g1,a1,a2,a3,a4,a5,a6⟩:=Frz.sound hT hs hfrz hr hS0 hlL hlB;exact⟨g1,a1,a2,a3,a4,a5,a6,by simp⟩
   |false=>
    have:=hlw hw;subst this;rw[St.sets_nil,St.sets_nil];exact⟨g,hr,hS0,⟨λ_ h=>h,λ_ _ _=>rfl,λ_ _ h=>h,hr.sep.imm,λ_ h=>h,λ_ _=>rfl,λ_ _=>rfl⟩,λ_=>Iff.rfl,λ_ h=>.inl h,λ_ _=>rfl,λ_=>rfl⟩
  let J:Nat->Prop:=λb=>g1.I b\/(e.wide=false/\∃ id,g1.B id/\b∈g1.fp id)
  have hJ:JOk g1 e.wide J:=⟨λb hb=>.inl hb,λhw id hB b hb=>.inr ⟨hw,id,hB,hb⟩⟩
  have hJlt:∀ b,J b->b<w.heap.size:=by
   rintro b (hb|⟨_,id,hB,hb⟩)
   ·exact hr1.sep.imm b hb
   ·exact(hr1.sep.mine id hB b hb).2.1
  have hargs1:Zao X w g1 J ts vs:=by
   refine Zao.imp (λu hu v hv=>?_) hargs;rcases hv with hv|⟨fr,cs,rfl,b,off,c,e',f',rfl,hb,q2,q3⟩
   ·refine .inl (Zi.frz hext (λid i off eu=>?_) hv);subst eu;obtain⟨_,_,_,_,q⟩:=hlent.subs id i off hu;have hB:g.B id:=by simp only[Zi] at hv;exact hv.1
    exact⟨hfp1 id (hfrz.under q Sp Sp).1,λb hb=>(hr.sep.mine id hB b hb).2.1⟩
   ·have himp:∀ b,(g.I b\/(e.wide=false/\∃ id,g.B id/\b∈g.fp id))->J b:=by
     rintro b (hb|⟨hw,id,hB,hb⟩)
     ·exact .inl (hext.imp b hb)
     ·have:=hg1 hw;subst this;exact .inr ⟨hw,id,hB,hb⟩
    exact .inr ⟨fr,cs,rfl,b,off,c,e',f',rfl,himp b hb,q2,Zt.mono ⟨himp,λ_ _=>rfl⟩ q3⟩
  have hsubA:∀ u∈ts,∀ id∈ZaO (st.sets l) u,id∈ts.flatMap (ZaO st):=λu hu id hid=>by
   rcases Classical.em (l=[]) with q|q
   ·subst q;rw[St.sets_nil] at hid;exact List.mem_flatMap.mpr ⟨u,hu,hid⟩
   ·have hfr:Za9 st (ts.flatMap (ZaO st)) (st.sets l):=⟨l,rfl,hfrz,hlL,hlB⟩
    have:∀ i∈ZO (st.sets l) u,i∈ZO st u:=by
     intro i hi;cases u<;>try exact hi
     rw[ZcS] at hi⊢;obtain⟨u',hu',hi⟩:=List.mem_flatMap.mp hi;exact List.mem_flatMap.mpr ⟨u',hu',lookCap_under hfr u' i hi⟩
    refine List.mem_flatMap.mpr ⟨u,hu,?_⟩;rcases List.mem_append.mp hid with hid|hid
    ·exact List.mem_append_left _ (this id hid)
    ·refine List.mem_append_right _ ?_;split at hid
     ·rename_i i off;split at hid
      ·rename_i og bt cs ho;simp only[hfr.box ho]
       exact hid
      ·cases hid
     ·cases hid
  let Q:Nat->Prop:=λb=>Z5 (st.sets l) e.modes ts=true->X.new b
  obtain⟨Fs,f1,f2,f3,f4⟩:=hlent.sound (fo:=!e.al&&e.ow) (fa:=lentFr (st.sets l) e.modes ts) (Q:=Q) hT hr1 hJ (λb hb=>hb) (λu hu=>hS1.sub λid hid=>hsubA u hu id hid) hargs1;have hFsB:∀ x∈Fs,g1.B x.id:=λx hx=>(f3 x hx).1
  have hFsmv:∀ x∈Fs,x.id∈mv:=λx hx=>by rw[<- f1];exact List.mem_map.mpr ⟨x,hx,rfl⟩
  have hmvB:∀ id∈mv,g1.B id:=by
   intro id hid;rw[<- f1] at hid;obtain⟨x,hx,rfl⟩:=List.mem_map.mp hid;exact hFsB x hx
  have hFnd:((Fs.flatMap (·.kept))++(Fs.flatMap (·.f))).Nodup:=by
   have h1:(Fs.flatMap λx=>g1.fp x.id).Nodup:=by
    have:=ZcT hr1.sep (mv:=mv) hnd hmvB;rw[<- f1,List.flatMap_map] at this;exact this
   exact((Zb3 (λx hx=>(f3 x hx).2)).trans (flatMap_perm (λx:Ln=>x.kept) (λx=>x.f) Fs)).nodup_iff.mp h1
  obtain⟨hnk,hnf,hdis⟩:=List.nodup_append.mp hFnd;have hFfp:∀ b∈Fs.flatMap (·.f),∃ id∈mv,g1.B id/\b∈g1.fp id:=by
   intro b hb;obtain⟨x,hx,hb⟩:=List.mem_flatMap.mp hb;exact⟨x.id,hFsmv x hx,hFsB x hx,(f3 x hx).2.mem_iff.mpr (by simp[hb])⟩
  have hKfp:∀ x∈Fs,∀ b∈x.kept,b∈g1.fp x.id:=λx hx b hb=>(f3 x hx).2.mem_iff.mpr (by simp[hb])
  have hwF:∀ b∈Fs.flatMap (·.f),e.wide=true:=by
   intro b hb;obtain⟨id,hid,_⟩:=hFfp b hb;exact hmvw (λe=>by rw[e] at hid;cases hid)
  have hJF:∀ b∈Fs.flatMap (·.f),¬ J b/\b<w.heap.size:=by
   intro b hb;obtain⟨id,_,hB,hb'⟩:=hFfp b hb;obtain⟨m1,m2,_⟩:=hr1.sep.mine id hB b hb';refine⟨?_,m2⟩
   rintro(q|⟨q,_⟩)
   ·exact m1 q
   ·rw[hwF b hb] at q;cases q
  have hcall:=hcalls w J Q vs (Fs.flatMap (·.f)) f2 hnf hJF hJlt;unfold Oper.wp;rw[hexec,Oper.upon_enter];refine Calls.mono hcall ?_;rintro ex w' ⟨v,vs',I',Fr,Fo,rfl,rfl,hsz,hos,htp,hou,hkeep,hII,hI',hnd',hFF,houts,hresR,hFr⟩;simp only[]
  -- what is known behind the call
  have hIh:∀ b,g1.I b->w'.heap[b]? = w.heap[b]?:=λb hb=>hkeep b (hr1.sep.imm b hb) (λq=>(hJF b q).1 (.inl hb))
  let Qo:Nat->Prop:=λb=>e.al=false->e.ow=true->w.heap.size<=b\/Q b
  let OP:Nat->Prop:=λb=>I' b/\Qo b
  have hOP2:Z5 (st.sets l) e.modes ts=false->∀ b,g1.I b->OP b:=λhla b hb=>⟨hII b (.inl hb),λ_ how'=>.inr λq=>by rw[hla] at q;cases q⟩
  have hkk:∀ x∈Fs,∀ b∈x.kept,w'.heap[b]? = w.heap[b]?:=by
   intro x hx b hb;refine hkeep b (hr1.sep.mine _ (hFsB x hx) b (hKfp x hx b hb)).2.1 λq=>?_
   exact hdis b (List.mem_flatMap.mpr ⟨x,hx,hb⟩) b q rfl
  obtain⟨back,nsB,b1,b2,bn,b3,be,lF,b4p,b4s⟩:=f4 w' I' Qo os Fo houts hIh hOP2 hkk _ some _ hlen2 (hsyn some);have hbid:back.map (·.id)=mv:=by
   have:=congrArg (List.map Prod.fst) b1;simp only[List.map_map] at this;rw[<- f1];exact this
  have hbcn:Zbz back=chg/\newsR++nsB.map (·.ob)=news:=by
   have e1:(Zbz back).map (·.1)=mv:=by simp only[Zbz,List.map_map];exact hbid
   have hlt:∀ p∈Zbz back,p.1<((st.sets l).gones mv).ob.length:=λp hp=>by
    have:p.1∈mv:=by rw[<- e1];exact List.mem_map.mpr ⟨p,hp,rfl⟩
    rw[hgl];exact hmvlt _ this
   injection b3 with b3;have b3:=congrArg St.ob b3;simp only[St.more,St.sets_ob,List.append_assoc] at b3;rw[Zb7 _ _ _ hlt,Zb7 _ _ _ (by rw[hgl];exact hchlt)] at b3;obtain⟨z1,z2⟩:=List.append_inj b3 (by rw[ZH,ZH]);exact⟨setObs_inj (e1.trans hchg.symm) (e1▸hnd) hlt z1,z2⟩
  obtain⟨hbc,hbn⟩:=hbcn;obtain⟨nsR,n1,n2,n3,n4⟩:=Zdk (X:=X) hborn hresR;have hnewsR:newsR=nsR.map (·.ob):=by
   have:=congrArg St.ob n1;simpa using this
  obtain⟨ns,hns⟩:∃ ns,ns=nsR++nsB:=⟨_,rfl⟩
  have hnews:news=ns.map (·.ob):=by rw[<- hbn,hnewsR,hns,List.map_append]
  subst hnews;obtain⟨hndr0,hndo0,hdro0⟩:=List.nodup_append.mp hnd';have hBN:(back.flatMap (·.fo)++nsB.flatMap (·.fp)).Nodup:=b4p.nodup_iff.mp (b4s.nodup hndo0);have hBNs:∀ b∈back.flatMap (·.fo)++nsB.flatMap (·.fp),b∈Fo:=λb hb=>b4s.subset (b4p.mem_iff.mpr hb)
  obtain⟨hndo,hndn,hdon⟩:=List.nodup_append.mp hBN;obtain⟨Fr',hFr'⟩:∃ Fr',Fr'=Fr++nsB.flatMap (·.fp):=⟨_,rfl⟩
  have n2':Fr'=ns.flatMap (·.fp):=by rw[hFr',hns,List.flatMap_append,n2]
  have hFrn:∀ b∈Fr',¬ I' b/\b<w'.heap.size/\(b<w.heap.size->b∈Fs.flatMap (·.f)):=λb hb=>by
   rw[hFr'] at hb;rcases List.mem_append.mp hb with q|q
   ·exact hFF b (List.mem_append_left _ q)
   ·exact hFF b (List.mem_append_right _ (hBNs b (List.mem_append_right _ q)))
  have hndr:Fr'.Nodup:=by
   rw[hFr'];exact List.nodup_append.mpr ⟨hndr0,hndn,λx hx y hy e=>hdro0 x hx y (hBNs y (List.mem_append_right _ hy)) e⟩
  have hdro:∀ x∈Fr',∀ y∈back.flatMap (·.fo),x≠y:=λx hx y hy e=>by
   rw[hFr'] at hx;rcases List.mem_append.mp hx with q|q
   ·exact hdro0 x q y (hBNs y (List.mem_append_left _ hy)) e
   ·exact hdon y hy x q e.symm
  simp only[eff_split _ _ _ _ l] at hK
  -- the table
  let Jn:Nat->Prop:=λb=>I' b/\(w.heap.size<=b\/b∈Fs.flatMap (·.f))
  let tab:List (Nat×List Nat):=back.map (λy=>(y.id,y.fp))++((List.range ns.length).map λj=>(st.ob.length+j,(ns.map (·.fp)).getD j []))
  let g2:G:=g1.tab Jn st.ob.length ns.length tab (λid=>(ns.map (·.hv)).getD (id-st.ob.length) undef) (λid=>(ns.map (·.sz)).getD (id-st.ob.length) 0)
  have htabm:tab.map (·.1)=mv++(List.range ns.length).map λj=>st.ob.length+j:=by
   simp only[tab,List.map_append,List.map_map]
   rw[<- hbid];rfl
  have htabn:(((List.range ns.length).map λj=>(st.ob.length+j,(ns.map (·.fp)).getD j [])).flatMap (·.2))=Fr':=by
   rw[n2',List.flatMap_map];have gen:∀ (ns:List Nw),((List.range ns.length).flatMap λj=>(ns.map (·.fp)).getD j [])=ns.flatMap (·.fp):=by
    intro ns;induction ns with
    |nil=>rfl
    |cons x ns ih=>
     rw[List.length_cons,List.range_succ_eq_map,List.flatMap_cons,List.flatMap_map];simp only[List.map_cons,List.getD_cons_zero,List.getD_cons_succ,List.flatMap_cons]
     rw[ih]
   exact gen ns
  have hbp:(back.flatMap (·.fp)).Perm (Fs.flatMap (·.kept)++back.flatMap (·.fo)):=by
   have h1:=(Zb3 (λy hy=>(b2 y hy).1)).trans (flatMap_perm (λy:Bk=>y.kept) (λy=>y.fo) back);have h2:back.flatMap (·.kept)=Fs.flatMap (·.kept):=by
    have:=congrArg (List.flatMap Prod.snd) b1;rw[List.flatMap_map,List.flatMap_map] at this;exact this
   rwa[h2] at h1
  have htabf:tab.flatMap (·.2)=back.flatMap (·.fp)++Fr':=by
   simp only[tab,List.flatMap_append,htabn]
   rw[List.flatMap_map]
  have hkI:∀ b∈Fs.flatMap (·.kept),¬ I' b/\b<w.heap.size/\b∉Fs.flatMap (·.f):=by
   intro b hb;have hnotF:b∉Fs.flatMap (·.f):=λq=>hdis b hb b q rfl
   obtain⟨x,hx,hb'⟩:=List.mem_flatMap.mp hb;obtain⟨m1,m2,_⟩:=hr1.sep.mine _ (hFsB x hx) b (hKfp x hx b hb');refine⟨λq=>?_,m2,hnotF⟩
   rcases(hI' b q).2 with q|q|q
   ·rcases q with q|⟨q,_⟩
    ·exact m1 q
    ·rw[hmvw (λe=>by have:=hFsmv x hx;rw[e] at this;cases this)] at q;cases q
   ·omega
   ·exact hnotF q
  have hFon:∀ b∈back.flatMap (·.fo),¬ I' b/\b<w'.heap.size/\(b<w.heap.size->b∈Fs.flatMap (·.f)):=λb hb=>hFF b (List.mem_append_right _ (hBNs b (List.mem_append_left _ hb)))
  have hback:∀ b∈back.flatMap (·.fp),b∈Fs.flatMap (·.kept)\/b∈back.flatMap (·.fo):=λb hb=>List.mem_append.mp (hbp.mem_iff.mp hb)
  have htabnd:(tab.flatMap (·.2)).Nodup:=by
   rw[htabf];refine List.nodup_append.mpr ⟨hbp.nodup_iff.mpr (List.nodup_append.mpr ⟨hnk,hndo,λx hx y hy e=>?_⟩),hndr,λx hx y hy e=>?_⟩
   ·subst e;obtain⟨_,q2,q3⟩:=hkI x hx;exact q3 ((hFon x hy).2.2 q2)
   ·subst e;rcases hback x hx with q|q
    ·obtain⟨_,q2,q3⟩:=hkI x q;exact q3 ((hFrn x hy).2.2 q2)
    ·exact hdro x hy x q rfl
  have hUiff:∀ id,Eff.U ⟨resT P t rT,mv.map (·,.gone)++chg,ns.map (·.ob)⟩ st.ob.length id↔id∈tab.map (·.1):=by
   intro id;rw[htabm];simp only[Eff.U,List.mem_append,List.mem_map,List.mem_range,List.length_map]
   constructor
   ·rintro(⟨p,(⟨q,hq,rfl⟩|hp),rfl⟩|⟨h1,h2⟩)
    ·exact .inl hq
    ·exact .inl (by rw[<- hchg];exact List.mem_map.mpr ⟨p,hp,rfl⟩)
    ·exact .inr ⟨id-st.ob.length,Om,Om⟩
   ·rintro(h1|⟨j,h1,rfl⟩)
    ·exact .inl ⟨(id,.gone),.inl ⟨id,h1,rfl⟩,rfl⟩
    ·exact .inr ⟨Om,Om⟩
  have hn':∀ j,j<ns.length->(stL.sets l).ob[st.ob.length+j]? = some .gone/\¬ g1.B (st.ob.length+j):=by
   intro j hj;obtain⟨q1,q2⟩:=hn j (by simpa using hj);refine⟨?_,λq=>q2 ((hB1 _).mp q)⟩
   rw[St.sets_ob,Zay _ _ _ (λp hp e=>by have:=hllt p hp;omega)];exact q1
  have hpoolF:∀ b∈Fs.flatMap (·.f),Pool g1 (Eff.U ⟨resT P t rT,mv.map (·,.gone)++chg,ns.map (·.ob)⟩ st.ob.length) b:=by
   intro b hb;obtain⟨id,hid,hB,hb⟩:=hFfp b hb;exact⟨id,(hUiff id).mpr (by rw[htabm];simp[hid]),hB,hb⟩
  have turn:Turn X w w' g1 g2 (Eff.U ⟨resT P t rT,mv.map (·,.gone)++chg,ns.map (·.ob)⟩ st.ob.length):=by
   refine Turn.tab hr1.sep hUiff (λid q1 q2=>⟨(hUiff id).mpr ?_,?_⟩) hsz hos htp hou (λb hb hp=>hkeep b hb λq=>hp (hpoolF b q)) ?_ htabnd ?_ ?_
   ·rw[htabm];exact List.mem_append_right _ (List.mem_map.mpr ⟨id-st.ob.length,by rw[List.mem_range];omega,Om⟩)
   ·have:=(hn' (id-st.ob.length) Om).2;rwa[show st.ob.length+(id-st.ob.length)=id from by omega] at this
   ·rw[htabm];refine List.nodup_append.mpr ⟨hnd,?_,λx hx y hy e=>?_⟩
    ·exact nodup_shift _ _
    ·subst e;obtain⟨j,_,rfl⟩:=List.mem_map.mp hy;have:=hmvlt _ hx;omega
   ·intro b hb;rw[htabf] at hb;rcases List.mem_append.mp hb with q|q
    ·rcases hback b q with q|q
     ·obtain⟨q1,q2,q3⟩:=hkI b q;refine⟨λz=>q1 z.1,Nat.lt_of_lt_of_le q2 hsz,λ_=>?_⟩
      obtain⟨x,hx,hb'⟩:=List.mem_flatMap.mp q;exact⟨x.id,(hUiff _).mpr (by rw[htabm];simp[hFsmv x hx]),hFsB x hx,hKfp x hx b hb'⟩
     ·obtain⟨q1,q2,q3⟩:=hFon b q;exact⟨λz=>q1 z.1,q2,λz=>hpoolF b (q3 z)⟩
    ·obtain⟨q1,q2,q3⟩:=hFrn b q;exact⟨λz=>q1 z.1,q2,λz=>hpoolF b (q3 z)⟩
   ·rintro b ⟨q1,q2⟩;refine⟨(hI' b q1).1,?_⟩
    rcases q2 with q2|q2
    ·exact .inl q2
    ·exact .inr (hpoolF b q2)
  have hI2w:e.wide=true->∀ b,I' b->g2.I b:=by
   intro hw b hb;rcases(hI' b hb).2 with q|q|q
   ·rcases q with q|⟨q,_⟩
    ·exact .inl q
    ·rw[hw] at q;cases q
   ·exact .inr ⟨hb,.inl q⟩
   ·exact .inr ⟨hb,.inr q⟩
  have hlookB:∀ y∈back,g2.fp y.id=y.fp:=by
   intro y hy;have hkey:(tab.map (·.1)).Nodup:=by
    rw[htabm];refine List.nodup_append.mpr ⟨hnd,nodup_shift _ _,λx hx z hz e=>?_⟩;subst e;obtain⟨j,_,rfl⟩:=List.mem_map.mp hz;have:=hmvlt _ hx;omega
   have hm:(y.id,y.fp)∈tab:=List.mem_append_left _ (List.mem_map.mpr ⟨y,hy,rfl⟩);have gen:∀ (tb:List (Nat×List Nat)),(tb.map (·.1)).Nodup->∀ p∈tb,tb.lookup p.1=some p.2:=by
    intro tb;induction tb with
    |nil=>intro _ p hp;cases hp
    |cons q tb ih=>
     intro hn p hp;obtain⟨q1,q2⟩:=q;simp only[List.map_cons,List.nodup_cons] at hn;rw[List.lookup_cons];rcases List.mem_cons.mp hp with rfl|hp
     ·simp
     ·have hne:(p.1==q1)=false:=by
       simp only[beq_eq_false_iff_ne,ne_eq]
       intro e;exact hn.1 (e▸List.mem_map.mpr ⟨p,hp,rfl⟩)
      rw[hne];exact ih hn.2 p hp
   show((tab.lookup y.id).getD (g1.fp y.id))=y.fp;rw[gen tab hkey _ hm];rfl
  have hlookN:∀ (j:Nat) (x:Nw),ns[j]? = some x->g2.fp (st.ob.length+j)=x.fp/\g2.hv (st.ob.length+j)=x.hv/\g2.sz (st.ob.length+j)=x.sz/\g2.B (st.ob.length+j):=by
   intro j x hj;have hjl:j<ns.length:=(List.getElem?_eq_some_iff.mp hj).1;have hrange:st.ob.length<=st.ob.length+j/\st.ob.length+j<st.ob.length+ns.length:=by omega
   refine⟨?_,?_,?_,.inr hrange⟩
   ·have hl1:∀ (bk:List Bk),(∀ y∈bk,y.id<st.ob.length)->∀ (tl:List (Nat×List Nat)),(bk.map (λy=>(y.id,y.fp))++tl).lookup (st.ob.length+j)=tl.lookup (st.ob.length+j):=by
     intro bk;induction bk with
     |nil=>intro _ tl;rfl
     |cons y bk ih=>
      intro hy tl;simp only[List.map_cons,List.cons_append,List.lookup_cons]
      have:(st.ob.length+j==y.id)=false:=by
       have:=hy y Sp;simp only[beq_eq_false_iff_ne,ne_eq]
       omega
      rw[this];exact ih (λz hz=>hy z (by simp[hz])) tl
    have hl2:∀ (js:List Nat) (F:Nat->List Nat),j∈js->(js.map λi=>(st.ob.length+i,F i)).lookup (st.ob.length+j)=some (F j):=by
     intro js F;induction js with
     |nil=>intro h;cases h
     |cons i js ih=>
      intro h;simp only[List.map_cons,List.lookup_cons]
      by_cases e:i=j
      ·subst e;simp
      ·have:(st.ob.length+j==st.ob.length+i)=false:=by
        simp only[beq_eq_false_iff_ne,ne_eq]
        omega
       rw[this];exact ih ((List.mem_cons.mp h).resolve_left (λq=>e q.symm))
    show((tab.lookup (st.ob.length+j)).getD _)=x.fp;simp only[tab]
    rw[hl1 back (λy hy=>hmvlt _ (by rw[<- hbid];exact List.mem_map.mpr ⟨y,hy,rfl⟩)),hl2 _ (λi=>(ns.map (·.fp)).getD i []) (List.mem_range.mpr hjl)];simp[List.getD,hj]
   ·show(if _ then _ else _)=_;rw[if_pos hrange];simp[List.getD,hj]
   ·show(if _ then _ else _)=_;rw[if_pos hrange];simp[List.getD,hj]
  have hIal:∀ b,(I' b/\(e.al=false->w.heap.size<=b\/(e.ow=true/\Q b)))->g2.IM X (!e.al) b:=by
   rintro b ⟨q1,q2⟩;refine⟨?_,λq=>?_⟩
   ·cases hal:e.al with
    |true=>exact hI2w (by simp[Za0.wide,hal]) b q1
    |false=>
     rcases q2 hal with z|⟨z,_⟩
     ·exact .inr ⟨q1,.inl z⟩
     ·exact hI2w (by simp[Za0.wide,z]) b q1
   ·rcases q2 (by simpa using q) with z|⟨z1,z2⟩
    ·exact .inl (Nat.le_trans hs.base (Nat.le_trans hs.size z))
    ·exact z2 (how z1)
  have hnsR:∀ (j:Nat) (x:Nw),nsR[j]? = some x->ns[j]? = some x:=λj x hj=>by
   rw[hns,List.getElem?_append_left (List.getElem?_eq_some_iff.mp hj).1];exact hj
  have hnsB:∀ (j:Nat) (x:Nw),nsB[j]? = some x->ns[nsR.length+j]? = some x:=λj x hj=>by
   rw[hns,List.getElem?_append_right Om];simpa using hj
  have hnat:NwAt X (λb=>I' b/\(e.al=false->w.heap.size<=b\/(e.ow=true/\Q b))) (!e.al) g2 (((st.sets l).gones mv).ob).length nsR:=by
   refine⟨λj x hj=>?_,hIal⟩
   rw[hgl];exact⟨(hlookN j x (hnsR j x hj)).2.2.2,(hlookN j x (hnsR j x hj)).2.1⟩
  have hQo:(!e.al&&e.ow)=true->∀ b,Qo b->X.new b:=λhfo b hb=>by
   simp only[Bool.and_eq_true,Bool.not_eq_true'] at hfo;rcases hb hfo.1 hfo.2 with z|z
   ·exact .inl (Nat.le_trans hs.base (Nat.le_trans hs.size z))
   ·exact z (how hfo.2)
  have hOPim:e.wide=true->∀ b,OP b->g2.IM X (!e.al&&e.ow) b:=λhw b hb=>⟨hI2w hw b hb.1,λq=>hQo q b hb.2⟩
  have hnatB:e.wide=true->NwAt X OP (!e.al&&e.ow) g2 (((st.sets l).gones mv).ob++newsR).length nsB:=λhw=>by
   refine⟨λj x hj=>?_,hOPim hw⟩
   obtain⟨_,z2,_,z4⟩:=hlookN _ x (hnsB j x hj);rw[List.length_append,hgl,hnewsR,List.length_map,Nat.add_assoc];exact⟨z4,z2⟩
  have hgen:∀ x∈ns,∃ (I'':Nat->Prop) (fr'':Bool),NwOk P w' I'' fr'' x/\(∀ b,I'' b->g2.IM X fr'' b)/\(fr''=true->∀ b∈x.fp,X.new b):=λx hx=>by
   rw[hns] at hx;rcases List.mem_append.mp hx with q|q
   ·refine⟨_,_,n3 x q,hIal,λhal b hb=>?_⟩
    rcases hFr (by simpa using hal) b (by rw[n2];exact List.mem_flatMap.mpr ⟨x,q,hb⟩) with z|⟨z1,z2⟩
    ·exact .inl (Nat.le_trans hs.base (Nat.le_trans hs.size z))
    ·exact z2 (how z1)
   ·have hw:e.wide=true:=hmvw λem=>by
     have:back=[]:=by
      have:=hbid;rw[em] at this;exact List.map_eq_nil_iff.mp this
     rw[be this] at q;cases q
    exact⟨OP,_,(bn x q).1,hOPim hw,λhfo b hb=>hQo hfo b ((bn x q).2 b hb)⟩
  have hB2:∀ id,g2.B id↔g1.B id\/(st.ob.length<=id/\id<st.ob.length+ns.length):=λid=>Iff.rfl
  refine hK g2 w' _ (Rel.eff (n:=st.ob.length) (e:=⟨resT P t rT,mv.map (·,.gone)++chg,ns.map (·.ob)⟩) hr1 hs (by simpa using hn') ?_ turn (by simpa using hB2) ?_ ?_ ?_) (turn.since hr1.sep hs) ?_
  ·intro p hp;rcases List.mem_append.mp hp with q|q
   ·obtain⟨id,hid,rfl⟩:=List.mem_map.mp q;exact hmvlt id hid
   ·exact hchlt p q
  ·intro id ob hm ho hB;have hid:id∈mv:=by
    obtain⟨p,hp,rfl⟩:=hm;rcases List.mem_append.mp hp with q|q
    ·obtain⟨id,hid,rfl⟩:=List.mem_map.mp q;exact hid
    ·rw[<- hchg];exact List.mem_map.mpr ⟨p,q,rfl⟩
   rw[<- hbid] at hid;obtain⟨y,hy,rfl⟩:=List.mem_map.mp hid;have hyid:y.id∈mv:=by rw[<- hbid];exact List.mem_map.mpr ⟨y,hy,rfl⟩
   obtain⟨o0,ho0,_⟩:=hr1.obs y.id hB;have hyl:=(List.getElem?_eq_some_iff.mp ho0).1;rw[Zbr,<- hbc] at ho;have:=setObs_at (l:=Zbz back) (ob:=ZS (stL.sets l).ob (mv.map (·,.gone))) (by simp only[Zbz,List.map_map];exact hbid▸hnd) (y.id,y.ob) (List.mem_map.mpr ⟨y,hy,rfl⟩) (by rw[ZH];exact hyl);rw[this] at ho;injection ho with ho;subst ho;obtain⟨hbk0,hbk⟩:=b2 y hy;have hw:e.wide=true:=hmvw (λe=>by rw[e] at hyid;cases hyid);have hnr:¬ (st.ob.length<=y.id/\y.id<st.ob.length+ns.length):=by have:=hmvlt _ hyid;omega
   have hhv:g2.hv y.id=g1.hv y.id:=if_neg hnr;have hsz':g2.sz y.id=g1.sz y.id:=if_neg hnr;have hin:y.id∈ts.flatMap (ZaO st)\/True:=.inr trivial;rcases hbk with⟨og,ct,xs,fr,ys,fr',e1,efr,e2,e3⟩|⟨e1,e2,og,fr,ct,ys,e3⟩|⟨og,t0,cs0,l0,b,c0,e0,e1,e2,e3,e4,e5,e6⟩
   case inr.inl=>
    obtain⟨o1,ho1,ro1⟩:=hr1.obs y.id hB;have hsame:(stL.sets l).ob[y.id]? = (st.sets l).ob[y.id]?:=by
     have hmem:y.id∈ts.flatMap (ZaO st):=by
      obtain⟨u,hu,q⟩:=hlent.look y.id hyid;exact hsubA u hu _ q
     exact(hS1 y.id hmem (by rw[e3];rfl)).1
    rw[hsame,e3] at ho1;injection ho1 with ho1;subst ho1;simp only[Zy] at ro1;rw[e1];simp only[Zy]
    refine⟨by rw[hlookB y hy,e2],?_⟩
    rw[hhv];obtain⟨⟨row,_⟩,_⟩:=ro1;obtain⟨a',cap',hv',_⟩:=OwC.row row;rw[hv'];rfl
   case inr.inr=>
    obtain⟨o1,ho1,ro1⟩:=hr1.obs y.id hB;have hsame:(stL.sets l).ob[y.id]? = (st.sets l).ob[y.id]?:=by
     have hmem:y.id∈ts.flatMap (ZaO st):=by
      obtain⟨u,hu,q⟩:=hlent.look y.id hyid;exact hsubA u hu _ q
     exact(hS1 y.id hmem (by rw[e2];rfl)).1
    rw[hsame,e2] at ho1;injection ho1 with ho1;subst ho1;simp only[Zy] at ro1;rw[e1];simp only[Zy]
    refine⟨⟨b,c0,e0,by rw[hhv];exact e3,by rw[hlookB y hy];exact e4,e5,e6 g2 (hnatB hw)⟩,λj hj=>?_⟩
    rw[hhv];exact ro1.2 j hj
   have hobj:Zy P X w g1 y.id (.row og fr ct ys):=by
    obtain⟨o1,ho1,ro1⟩:=hr1.obs y.id hB;have hlk':=f4;have hsame:(stL.sets l).ob[y.id]? = (st.sets l).ob[y.id]?:=by
     have hmem:y.id∈ts.flatMap (ZaO st):=by
      obtain⟨u,hu,q⟩:=hlent.look y.id hyid;exact hsubA u hu _ q
     exact(hS1 y.id hmem (by rw[e2];rfl)).1
    rw[hsame,e2] at ho1;injection ho1 with ho1;subst ho1;exact ro1
   simp only[Zy] at hobj;obtain⟨⟨_,hszo⟩,_,horg⟩:=hobj;rw[e1];simp only[Zy]
   refine⟨⟨?_,by rw[hsz'];exact hszo⟩,λhf b hb=>?_,λj hj=>by rw[hhv];exact horg j hj⟩
   ·rw[hhv,hlookB y hy];cases fr' with
    |false=>exact OwC.weaken (λb hb=>⟨hI2w hw b hb.1,by simp⟩) e3
    |true=>
     rcases(efr rfl).2 with⟨hfo,_⟩|hfl
     ·exact OwC.weaken (λb hb=>⟨hI2w hw b hb.1,λ_=>hQo hfo b hb.2⟩) e3
     ·exact flatC_any hfl.2 e3
   ·rw[hlookB y hy] at hb;rcases(efr hf).2 with⟨hfo,hfb⟩|hfl
    ·have hb':=hbk0.mem_iff.mp hb;rw[(efr hf).1,List.nil_append] at hb';exact hQo hfo b (hfb b hb')
    have hall:=hlent.fresh hfl.1;have hbase:∀ z∈mv,∀ b∈g1.fp z,X.new b:=by
     intro z hz b hb;obtain⟨og',ct',xs',ho'⟩:=hall z hz;have hzB:=hmvB z hz;obtain⟨o1,ho1,ro1⟩:=hr1.obs z hzB;have hsame:(stL.sets l).ob[z]? = (st.sets l).ob[z]?:=by
      have hmem:z∈ts.flatMap (ZaO st):=by
       obtain⟨u,hu,q⟩:=hlent.look z hz;exact hsubA u hu _ q
      exact(hS1 z hmem (by rw[ho'];rfl)).1
     rw[hsame,ho'] at ho1;injection ho1 with ho1;subst ho1;simp only[Zy] at ro1;exact ro1.2.1 trivial b hb
    have hold:∀ b∈Fs.flatMap (·.f),X.new b:=by
     intro b hb;obtain⟨id,hid,_,hb⟩:=hFfp b hb;exact hbase id hid b hb
    rcases hback b (List.mem_flatMap.mpr ⟨y,hy,hb⟩) with q|q
    ·obtain⟨x,hx,hb'⟩:=List.mem_flatMap.mp q;exact hbase x.id (hFsmv x hx) b (hKfp x hx b hb')
    ·by_cases hlt:b<w.heap.size
     ·exact hold b ((hFon b q).2.2 hlt)
     ·exact .inl (by have:=hs.base;have:=hs.size;omega)
  ·intro j ob hj;rw[List.getElem?_map] at hj;obtain⟨x,hx,rfl⟩:=Option.map_eq_some_iff.mp hj;obtain⟨p1,p2,p3,p4⟩:=hlookN j x hx;obtain⟨I'',fr'',hok',hIal',hbase'⟩:=hgen x (List.mem_of_getElem? hx);rcases hok' with⟨ct,xs,q1,q2,q3⟩|⟨bt,ds,q1,b,c,e',z1,z2,z3,z4,z5⟩
   rotate_left
   ·rw[q1];simp only[Zy]
    exact⟨⟨b,c,e',by rw[p2];exact z1,by rw[p1];exact z2,z3,Zo.ofCells (c:=c) (p:=0) hIal' (by rw[Array.length_toList];exact z4) (λj v hv=>by simpa using hv) z5⟩,by simp⟩
   rw[q1];simp only[Zy]
   refine⟨⟨?_,by rw[p3];exact q3⟩,λhal b hb=>?_,by simp⟩
   ·rw[p1,p2];exact OwC.weaken hIal' q2
   ·rw[p1] at hb;exact hbase' hal b hb
  ·have hrel:=n4 g2 hnat;have hl:=Zo.length hrel;have hrl:rT.length=e.rts.length:=by
    have gen:∀ (tys:List TypeId) (cs:List (List C)) (st st':St) (ts:List T),Zba P (!e.al) st tys cs=some (ts,st')->ts.length=tys.length:=by
     intro tys;induction tys with
     |nil=>
      intro cs st st' ts h;cases cs<;>simp only[Zba] at h
      ·injection h with h;injection h with e1 e2;subst e1;rfl
      ·cases h
     |cons t tys ih=>
      intro cs st st' ts h;cases cs<;>simp only[Zba] at h
      ·cases h
      ·cases hp:Zb2 P t with
       |true=>
        rw[hp] at h;simp only[cond_true] at h;split at h;case h_2=>cases h
        split at h;case h_2=>cases h
        rename_i h2;injection h with h;injection h with e1 e2;subst e1;simp[ih _ _ _ _ h2]
       |false=>
        rw[hp] at h;simp only[cond_false] at h;split at h;case h_2=>cases h
        split at h;case h_2=>cases h
        rename_i h2;injection h with h;injection h with e1 e2;subst e1;simp[ih _ _ _ _ h2]
    exact gen _ _ _ _ _ hborn
   exact resT_rel htup hrl hrel
  ·intro id;rw[hB2,hB1];simp
end
end Go.T
namespace Go.T
theorem killSub_cases (id:Nat) (t:T):Zaa id t=t/\(∀ j off,t≠.sub id j off)\/Zaa id t=.any:=by
 cases t with
 |sub k j off=>
  simp only[Zaa]
  split
  ·exact .inr rfl
  ·rename_i h;exact .inl ⟨rfl,λ_ _ e=>h (by injection e)⟩
 |_=>exact .inl ⟨rfl,by simp⟩
def G.less (g:G) (id:Nat):G:={ g with fp:=λi=>if i=id then[] else g.fp i }
section
variable {P:Program} {X:Fix} {w0 w:World} {g:G} {st:St} {a:Act}
theorem G.less_ext (hsep:Sep X w g) (id:Nat):Ext w w g (g.less id) (λ_=>False):=
 ⟨λ_ h=>h,λ_ _ _=>rfl,λ_ _ h=>h,hsep.imm,λ_ h=>h,λ_ _=>rfl,λ_ _=>rfl⟩
theorem Rel.gone1 (hr:Rel P X w g st a) {id:Nat} {o:Obj} (ho:st.ob[id]? = some o) (hB:g.B id):Rel P X w (g.less id) (st.setOb id .gone) a:=by
 have ext:=G.less_ext hr.sep id;have hfp:∀ i,i≠id->(g.less id).fp i=g.fp i:=λi hi=>by simp[G.less,hi]
 have hsub:∀ i,∀ b∈(g.less id).fp i,b∈g.fp i:=λi b hb=>by
  simp only[G.less] at hb;split at hb
  ·cases hb
  ·exact hb
 refine⟨⟨by simp only[St.setOb,List.length_map];exact hr.tms.1,λi t ht=>?_⟩,λi hBi=>?_,⟨λi hBi=>?_,λi i' hBi hBi' hne b hb hb'=>?_,λi hBi b hb=>?_,hr.sep.imm,hr.sep.old,hr.sep.keep⟩,hr.def_⟩
 ·simp only[St.setOb] at ht;rw[List.getElem?_map] at ht;obtain⟨t0,ht0,rfl⟩:=Option.map_eq_some_iff.mp ht;obtain⟨v,hv,rv⟩:=hr.tms.2 i t0 ht0;rcases killSub_cases id t0 with⟨h,hn⟩|h
  ·rw[h];refine⟨v,hv,Zi.mono ext (λi' j off e b hb=>?_) rv⟩
   subst e;simp only[Zi] at rv;exact⟨by rw[hfp i' (λe=>hn j off (by rw[e]))];exact hb,(hr.sep.mine i' rv.1 b hb).2.1,λq=>q⟩
  ·rw[h];exact⟨v,hv,by simp[Zi]⟩
 ·obtain⟨o0,ho0,r0⟩:=hr.obs i hBi;by_cases e:i=id
  ·subst e;refine⟨.gone,?_,?_⟩
   ·simp only[St.setOb]
    rw[List.getElem?_set_self (List.getElem?_eq_some_iff.mp ho0).1]
   ·simp only[Zy]
    exact⟨by simp[G.less],(Zy.one r0:(g.hv i).oneCell'=true)⟩
  ·refine⟨o0,by rw[Zbj e];exact ho0,Zy.mono ext hBi (hfp i e) (λb hb=>⟨λq=>q,(hr.sep.mine i hBi b hb).2.1⟩) r0⟩
 ·by_cases e:i=id
  ·subst e;simp[G.less]
  ·rw[hfp i e];exact hr.sep.nodup i hBi
 ·exact hr.sep.apart i i' hBi hBi' hne b (hsub i b hb) (hsub i' b hb')
 ·exact hr.sep.mine i hBi b (hsub i b hb)
theorem Rel.gones:∀ {mv:List Nat} {g:G} {stL st:St} {l:List Nat},Rel P X w g stL a->mv.Nodup->(∀ id∈mv,id∈l)->(∀ id∈mv,(∃ o,st.ob[id]? = some o))->Z9 g stL st l->
  ∃ g',Rel P X w g' (stL.gones mv) a/\g'.I=g.I/\(∀ id,g'.B id↔g.B id)/\(∀ id,id∉mv->g'.fp id=g.fp id)/\(∀ id∈mv,g'.fp id=[])/\Ext w w g g' (λ_=>False)/\Z9 g' (stL.gones mv) (st.gones mv) l
 |[],g,stL,st,l,hr,_,_,_,hs=>⟨g,by rw[St.gones_nil];exact hr,rfl,λ_=>Iff.rfl,λ_ _=>rfl,by simp,⟨λ_ h=>h,λ_ _ _=>rfl,λ_ _ h=>h,hr.sep.imm,λ_ h=>h,λ_ _=>rfl,λ_ _=>rfl⟩,by rw[St.gones_nil,St.gones_nil];exact hs⟩
 |id::mv,g,stL,st,l,hr,hnd,hin,hex,hs=>by
  simp only[List.nodup_cons] at hnd;obtain⟨o,ho⟩:=hex id Sp;obtain⟨hoL,hB⟩:=hs id (hin id Sp) (by rw[ho];rfl);rw[ho] at hoL;obtain⟨g',q1,q2,q3,q4,q5,q6,q7⟩:=Rel.gones (mv:=mv) (g:=g.less id) (stL:=stL.setOb id .gone) (st:=st.setOb id .gone) (l:=l) (hr.gone1 hoL hB) hnd.2 (λi hi=>hin i (by simp[hi])) (λi hi=>by
   obtain⟨o',ho'⟩:=hex i (by simp[hi]);exact⟨o',by rw[Zbj (λe:i=id=>hnd.1 (e▸hi))];exact ho'⟩) (hs.set (g':=g.less id) (λ_ h=>h) (hin id Sp) .gone)
  refine⟨g',by rw[St.gones_cons];exact q1,q2,q3,λi hi=>?_,λi hi=>?_,⟨λb hb=>q6.imp b hb,λ_ _ _=>rfl,λ_ _ h=>h,hr.sep.imm,λi h=>q6.B i h,λi h=>q6.hv i h,λi h=>q6.sz i h⟩,by rw[St.gones_cons,St.gones_cons];exact q7⟩
  ·simp only[List.mem_cons,not_or] at hi;rw[q4 i hi.2];simp[G.less,hi.1]
  ·by_cases him:i∈mv
   ·exact q5 i him
   ·rcases List.mem_cons.mp hi with rfl|hi
    ·rw[q4 i him];simp[G.less]
    ·exact absurd hi him
end
inductive LTaken (ct:TypeId) (s0 st1:St):List Bool->List T->List A->List Nat->Prop
 |done:LTaken ct s0 st1 [] [] [] []
 |row {bs:List Bool} {id:Nat} {og:Option Nat} {fr:Bool} {xs:List (List C)} {ts:List T} {as:List A} {mv:List Nat} (h:s0.ob[id]? = some (.row og fr ct xs)) (r:LTaken ct s0 st1 bs ts as mv):
   LTaken ct s0 st1 (true::bs) (.row id::ts) (.own false [.own xs]::as) (id::mv)
 |nil {bs:List Bool} {ts:List T} {as:List A} {mv:List Nat} (r:LTaken ct s0 st1 bs ts as mv):LTaken ct s0 st1 (true::bs) (.nil::ts) (.own false [.own []]::as) mv
 |imm {bs:List Bool} {t:T} {ts:List T} {a:A} {as:List A} {mv:List Nat} (h:argD false st1 t=some a) (r:LTaken ct s0 st1 bs ts as mv):LTaken ct s0 st1 (false::bs) (t::ts) (a::as) mv
theorem ZcA {ct:TypeId} {s0 st1:St}:∀ {bs:List Bool} {ts:List T} {as:List A},Zap ct s0 st1 bs ts=some as->LTaken ct s0 st1 bs ts as (libMv bs ts)
 |[],[],as,h=>by
  simp only[Zap] at h;injection h with h;subst h;exact .done
 |true::bs,.row id::ts,as,h=>by
  simp only[Zap] at h;split at h;case h_2=>cases h
  rename_i ho;split at h;case isFalse=>cases h
  rename_i hc;subst hc;split at h;case h_2=>cases h
  rename_i h1;injection h with h;subst h;exact .row ho (ZcA h1)
 |true::bs,.nil::ts,as,h=>by
  simp only[Zap] at h;split at h;case h_2=>cases h
  rename_i h1;injection h with h;subst h;exact .nil (ZcA h1)
 |false::bs,t::ts,as,h=>by
  simp only[Zap] at h;split at h;case h_2=>cases h
  rename_i h0;split at h;case h_2=>cases h
  rename_i h1;injection h with h;subst h;have:libMv (false::bs) (t::ts)=libMv bs ts:=by cases t<;>rfl
  rw[this];exact .imm h0 (ZcA h1)
 |[],_::_,_,h=>by simp[Zap] at h
 |true::_,[],_,h=>by simp[Zap] at h
 |false::_,[],_,h=>by simp[Zap] at h
 |true::_,.d _ _::_,_,h=>by simp[Zap] at h
 |true::_,.agg _::_,_,h=>by simp[Zap] at h
 |true::_,.tup _::_,_,h=>by simp[Zap] at h
 |true::_,.bp _ _::_,_,h=>by simp[Zap] at h
 |true::_,.ep _ _ _::_,_,h=>by simp[Zap] at h
 |true::_,.ip _ _::_,_,h=>by simp[Zap] at h
 |true::_,.sub _ _ _::_,_,h=>by simp[Zap] at h
 |true::_,.clo _ _::_,_,h=>by simp[Zap] at h
 |true::_,.undef::_,_,h=>by simp[Zap] at h
 |true::_,.ub::_,_,h=>by simp[Zap] at h
 |true::_,.any::_,_,h=>by simp[Zap] at h
theorem LTaken.rows {ct:TypeId} {s0 st1:St} {bs:List Bool} {ts:List T} {as:List A} {mv:List Nat} (h:LTaken ct s0 st1 bs ts as mv):∀ id∈mv,(∃ og fr xs,s0.ob[id]? = some (.row og fr ct xs))/\.row id∈ts:=by
 induction h with
 |done=>simp
 |row h r ih=>
  intro i hi;rcases List.mem_cons.mp hi with rfl|hi
  ·exact⟨⟨_,_,_,h⟩,by simp⟩
  ·exact⟨(ih i hi).1,by simp[(ih i hi).2]⟩
 |nil r ih=>intro i hi;exact⟨(ih i hi).1,by simp[(ih i hi).2]⟩
 |imm h r ih=>intro i hi;exact⟨(ih i hi).1,by simp[(ih i hi).2]⟩
theorem libFr_all {st:St}:∀ {mv:List Nat},libFr st mv=true->∀ id∈mv,∀ og fr ct xs,st.ob[id]? = some (.row og fr ct xs)->fr=true
 |[],_,id,hid,_,_,_,_,_=>by cases hid
 |i::mv,h,id,hid,og,fr,ct,xs,ho=>by
  simp only[libFr] at h;split at h;case h_2=>cases h
  rename_i f0 _ _ h0;simp only[Bool.and_eq_true] at h;rcases List.mem_cons.mp hid with rfl|hid
  ·rw[h0] at ho;injection ho with ho;injection ho with _ e _ _;exact e▸h.1
  ·exact libFr_all h.2 id hid og fr ct xs ho
section
variable {P:Program} {X:Fix} {w0 w:World} {a:Act}
theorem LTaken.sound (hT:Zax P) {g g1:G} {stL stL1 s0 st1:St} {J I:Nat->Prop} (hr:Rel P X w g stL a) (hr1:Rel P X w g1 stL1 a) (hJ:∀ b,g1.I b->I b) (hall:∀ id,g1.B id->∀ b∈g1.fp id,I b) {ct:TypeId} {bs:List Bool} {ts:List T} {as:List A} {mv:List Nat} (h:LTaken ct s0 st1 bs ts as mv):
  ∀ {vs:List Value},(∀ t∈ts,Z9 g1 stL1 st1 (ZO st1 t))->(∀ id∈mv,Z9 g stL s0 [id])->(∀ id∈mv,∀ og fr ct xs,s0.ob[id]? = some (.row og fr ct xs)->∀ b,g.IM X fr b->J b)->(ts.length=vs.length)->(∀ (i:Nat) (t:T) (v:Value),ts[i]? = some t->vs[i]? = some v->Zi X w g t v/\(Zcp t=false->Zi X w g1 t v))->
   LArgs P w I J ct bs as vs (mv.flatMap g.fp):=by
 induction h with
 |done=>
  intro vs _ _ _ hl _;cases vs with
  |nil=>simp[LArgs]
  |cons _ _=>simp at hl
 |@row bs id og fr xs ts as mv h r ih=>
  intro vs hs hsg hj hl hv;cases vs with
  |nil=>simp at hl
  |cons v vs=>
   simp only[LArgs]
   obtain⟨_,hB,⟨row,_⟩,_⟩:=(hsg id Sp).obj hr Sp h;have rv:=(hv 0 (.row id) v rfl rfl).1;simp only[Zi] at rv;refine⟨v,vs,g.fp id,_,rfl,by simp,?_,ih (λt ht=>hs t (by simp[ht])) (λi hi=>hsg i (by simp[hi])) (λi hi=>hj i (by simp[hi])) (by simpa using hl) (λi t u ht hu=>hv (i+1) t u (by simpa using ht) (by simpa using hu))⟩
   rw[rv.2];exact OwC.weaken (hj id Sp og fr ct xs h) row
 |@nil bs ts as mv r ih=>
  intro vs hs hsg hj hl hv;cases vs with
  |nil=>simp at hl
  |cons v vs=>
   simp only[LArgs]
   have rv:=(hv 0 .nil v rfl rfl).1;simp only[Zi] at rv;obtain⟨ad,rfl⟩:=rv;refine⟨_,vs,[],_,rfl,by simp,?_,ih (λt ht=>hs t (by simp[ht])) hsg hj (by simpa using hl) (λi t u ht hu=>hv (i+1) t u (by simpa using ht) (by simpa using hu))⟩
   simp only[OwC]
   exact⟨ad,0,rfl,.inl Sp⟩
 |@imm bs t ts x as mv h r ih=>
  intro vs hs hsg hj hl hv;cases vs with
  |nil=>simp at hl
  |cons v vs=>
   have hx:LArgs P w I J ct (false::bs) (x::as) (v::vs) (mv.flatMap g.fp)↔∃ v' vs',v::vs=v'::vs'/\ZV P w I (λ_=>True) x (.imm,0) v' []/\LArgs P w I J ct bs as vs' (mv.flatMap g.fp):=by
    simp only[LArgs]
   rw[hx];have hns:Zcp t=false:=by
    cases t<;>first|rfl|(simp[argD,cellD] at h)
   exact⟨v,vs,rfl,argD_J hT hr1 ⟨hJ,λ_=>hall⟩ h (hs t Sp) ((hv 0 t v rfl rfl).2 hns),ih (λt ht=>hs t (by simp[ht])) hsg hj (by simpa using hl) (λi t u ht hu=>hv (i+1) t u (by simpa using ht) (by simpa using hu))⟩
end
theorem Zbh.callOne {P:Program} {X:Fix} {w0:World} {o:Oper} {st:St} {mv:List Nat} {t:T} {ob:Obj} (hmv:∀ id∈mv,id<st.ob.length)
  (h:∀ (stL:St) (g:G) (a:Act) (w:World),Rel P X w g stL a->Zal X w0 w->(∀ x∈o.op.operands.toList,Zi X w g (st.ev x) (a.eval x))->Z9 g stL st (Zbm o st)->¬ g.B st.ob.length->
   ∃ f vs,(execOp a.eval o).run P w=.ok (.enter f vs) w/\(∀ id∈mv,g.B id)/\Calls P f vs w λex w'=>∃ v F hdr z,ex=.returned v/\w.heap.size<=w'.heap.size/\w'.os=w.os/\w'.tape=w.tape/\w'.output=w.output/\
    (∀ b,b<w.heap.size->b∉mv.flatMap g.fp->w'.heap[b]? = w.heap[b]?)/\F.Nodup/\(∀ b∈F,b<w'.heap.size/\(b<w.heap.size->b∈mv.flatMap g.fp))/\
    Zy P X w' (g.one mv st.ob.length F hdr z) st.ob.length ob/\Zi X w' (g.one mv st.ob.length F hdr z) t v):
  Zbh P X w0 o st ⟨t,mv.map (·,.gone),[ob]⟩:=by
 intro stL g a w hr hs ha hl hn K Q hK;have hn0:¬ g.B st.ob.length:=by simpa using(hn 0 Sp).2
 obtain⟨f,vs,hexec,hmB,hcall⟩:=h stL g a w hr hs (λx hx=>Zbh.args hr (ha x hx)) hl hn0;unfold Oper.wp;rw[hexec,Oper.upon_enter];refine Calls.mono hcall ?_;rintro ex w' ⟨v,F,hdr,z,rfl,hsz,hos,htp,hou,hkeep,hnd,hF,hobj,hT⟩;have hU:∀ id,Eff.U ⟨t,mv.map (·,.gone),[ob]⟩ st.ob.length id↔id∈mv\/id=st.ob.length:=by
  intro id;simp only[Eff.U,List.mem_map,List.length_singleton]
  constructor
  ·rintro(⟨p,⟨q,hq,rfl⟩,rfl⟩|h)
   ·exact .inl hq
   ·exact .inr Om
  ·rintro(h|h)
   ·exact .inl ⟨(id,.gone),⟨id,h,rfl⟩,rfl⟩
   ·exact .inr Om
 have hpool:∀ b,Pool g (Eff.U ⟨t,mv.map (·,.gone),[ob]⟩ st.ob.length) b↔b∈mv.flatMap g.fp:=by
  intro b;rw[List.mem_flatMap];constructor
  ·rintro⟨id,hu,hB,hb⟩;rcases(hU id).mp hu with q|rfl
   ·exact⟨id,q,hb⟩
   ·exact absurd hB hn0
  ·rintro⟨id,q,hb⟩;exact⟨id,(hU id).mpr (.inl q),hmB id q,hb⟩
 have hmn:∀ id∈mv,id≠st.ob.length:=λid q e=>absurd (hmB id q) (e▸hn0)
 have hlt:∀ b,b∈mv.flatMap g.fp->¬ g.I b:=by
  intro b hb;obtain⟨id,q,hb⟩:=List.mem_flatMap.mp hb;exact(hr.sep.mine id (hmB id q) b hb).1
 have turn:Turn X w w' g (g.one mv st.ob.length F hdr z) (Eff.U ⟨t,mv.map (·,.gone),[ob]⟩ st.ob.length):=by
  refine⟨hsz,hos,htp,hou,λb hb hp=>hkeep b hb (λq=>hp ((hpool b).mpr q)),λb hb=>hb,λid hB=>.inl hB,?_,?_,?_,?_,?_,?_⟩
  ·intro id hB;simp only[G.one];rw[if_neg (show ¬ id=st.ob.length from λe=>hn0 (e▸hB))]
  ·intro id hB;simp only[G.one];rw[if_neg (show ¬ id=st.ob.length from λe=>hn0 (e▸hB))]
  ·intro id hu;rw[hU] at hu;refine⟨λhB=>hB.resolve_right λe=>hu (.inr e),λhB=>?_⟩
   simp only[G.one]
   rw[if_neg (λe=>hu (.inr e)),if_neg (λe=>hu (.inl e))]
  ·intro id hu hB;simp only[G.one]
   by_cases hid:id=st.ob.length
   ·rw[if_pos hid];refine⟨hnd,λb hb=>⟨λhI=>?_,(hF b hb).1,λhlt'=>(hpool b).mpr ((hF b hb).2 hlt')⟩⟩
    have:=hr.sep.imm b hI;exact hlt b ((hF b hb).2 this) hI
   ·rw[if_neg hid];rcases(hU id).mp hu with q|q
    ·rw[if_pos q];simp
    ·exact absurd q hid
  ·intro id id' hu hu' hne hB hB' b hb hb';simp only[G.one] at hb hb';by_cases hid:id=st.ob.length
   ·rw[if_neg (λe=>hne (hid.trans e.symm))] at hb';rcases(hU id').mp hu' with q|q
    ·rw[if_pos q] at hb';cases hb'
    ·exact hne (hid.trans q.symm)
   ·rw[if_neg hid] at hb;rcases(hU id).mp hu with q|q
    ·rw[if_pos q] at hb;cases hb
    ·exact hid q
  ·intro b hI;exact⟨Nat.lt_of_lt_of_le (hr.sep.imm b hI) hsz,.inl hI⟩
 refine hK (g.one mv st.ob.length F hdr z) w' _ (Rel.eff (n:=st.ob.length) (e:=⟨t,mv.map (·,.gone),[ob]⟩) hr hs hn (by simpa using hmv) turn ?_ ?_ ?_ hT) (turn.since hr.sep hs) ?_
 ·intro id;simp only[G.one,List.length_singleton]
  constructor
  ·rintro(h|h)
   ·exact .inl h
   ·exact .inr Om
  ·rintro(h|h)
   ·exact .inl h
   ·exact .inr Om
 ·intro id o' hm ho hB;have hidm:id∈mv:=by
   obtain⟨p,hp,rfl⟩:=hm;obtain⟨q,hq,rfl⟩:=List.mem_map.mp hp;exact hq
  obtain⟨o0,ho0,r0⟩:=hr.obs id hB;obtain⟨o1,h1,h2⟩:=ZbZ (mv.map (·,Obj.gone)) stL.ob id hm (List.getElem?_eq_some_iff.mp ho0).1;rw[h2] at ho;injection ho with ho;obtain⟨q,_,hq⟩:=List.mem_map.mp h1;injection hq with _ hq;rw[<- ho,<- hq];simp only[Zy,G.one]
  rw[if_neg (hmn id hidm),if_pos hidm,if_neg (hmn id hidm)];exact⟨rfl,r0.one⟩
 ·intro j ob' hj;cases j with
  |zero=>simp at hj;subst hj;exact hobj
  |succ j=>simp at hj
 ·intro id;simp only[G.one,List.length_singleton]
  constructor
  ·rintro(h|h)
   ·exact .inl h
   ·exact .inr Om
  ·rintro(h|h)
   ·exact .inl h
   ·exact .inr Om
section
variable {P:Program} {E:Env} {st:St} {β:Type} {k:St->Option β} {r:β} {dst:Option Nat} {ty:TypeId} {pos:String} {af:Array Edge} {gd:Option (Nat×Bool)}
theorem opLib (hT:Zax P) (hE:EnvOK P E) {c:Call} {f:Operand} (hc:c.callee=.value f) {g:FuncId} (hf:st.ev f=.clo g []) (hfm:f∈(Op.call c).operands.toList) {e:Za0} {L:Lib} (he:E g=some e) (hL:e.lib=some L)
  (h:libDen L st (c.args.toList.map st.ev) (λt st'=>k (st'.put dst t))=some r):ZN P E ⟨dst,.call c,ty,pos,af,gd⟩ st k r:=by
 unfold libDen at h;split at h;case isFalse=>cases h
 rename_i hnd;split at h;case h_2=>cases h
 rename_i as has;have htk:=ZcA has;obtain⟨hent,_,hlib⟩:=hE g e he;obtain⟨ys,hk,hcalls⟩:=hlib L hL _ as _ r h;rw[ZbG] at htk hk;have hrows:=htk.rows;have hlk:∀ id∈libMv L.gives (c.args.toList.map st.ev),id∈Zbm ⟨dst,.call c,ty,pos,af,gd⟩ st:=by
  intro id hid;obtain⟨x,hx,e⟩:=List.mem_map.mp (hrows id hid).2;exact ZbD hx id (by rw[e];simp[ZO])
 refine ZN.moved (mv:=libMv L.gives (c.args.toList.map st.ev)) (λid hid=>by obtain⟨⟨og,fr,xs,q⟩,_⟩:=hrows id hid;exact⟨og,fr,_,xs,q⟩) hk λX w0=>Zbh.callOne (λid hid=>by obtain⟨⟨_,_,_,ho⟩,_⟩:=hrows id hid;exact(List.getElem?_eq_some_iff.mp ho).1) λstL g1 a w hr hs hR hl hn=>?_
 obtain⟨mv,hmv⟩:∃ mv,mv=libMv L.gives (c.args.toList.map st.ev):=⟨_,rfl⟩
 rw[<- hmv] at hnd htk hk hrows hlk⊢;have hF:=hR f hfm;rw[hf] at hF;simp only[Zi,Zo] at hF;obtain⟨vs,hv,rfl⟩:=hF;obtain⟨g2,r1,r2,r3,r4,r5,r6,r7⟩:=Rel.gones (mv:=mv) (st:=st) hr hnd hlk (λid hid=>by obtain⟨⟨_,_,_,ho⟩,_⟩:=hrows id hid;exact⟨_,ho⟩) hl;have hmB:∀ id∈mv,g1.B id:=λid hid=>by
  obtain⟨⟨_,_,_,ho⟩,_⟩:=hrows id hid;exact(hl id (hlk id hid) (by rw[ho];rfl)).2
 have hmine:∀ b∈mv.flatMap g1.fp,¬ g1.I b/\b<w.heap.size/\(X.base<=b\/b∈X.lent):=by
  intro b hb;obtain⟨id,hid,hb⟩:=List.mem_flatMap.mp hb;exact hr.sep.mine id (hmB id hid) b hb
 let I:Nat->Prop:=λb=>g2.I b\/∃ id,g2.B id/\b∈g2.fp id
 have hIlt:∀ b,I b->b<w.heap.size:=by
  rintro b (hb|⟨id,hB,hb⟩)
  ·exact r1.sep.imm b hb
  ·exact(r1.sep.mine id hB b hb).2.1
 have hIF:∀ b∈mv.flatMap g1.fp,¬ I b/\b<w.heap.size:=by
  intro b hb;refine⟨?_,(hmine b hb).2.1⟩
  obtain⟨id,hid,hb'⟩:=List.mem_flatMap.mp hb;rintro(q|⟨id',hB',q⟩)
  ·rw[r2] at q;exact(hmine b hb).1 q
  ·by_cases e:id'∈mv
   ·rw[r5 id' e] at q;cases q
   ·rw[r4 id' e] at q;exact hr.sep.apart id id' (hmB id hid) ((r3 id').mp hB') (λe'=>e (e'▸hid)) b hb' q
 have hJI:∀ b,g1.IM X (libFr st mv) b->I b:=λb hb=>.inl (by rw[r2];exact hb.1)
 have hargs:LArgs P w I (g1.IM X (libFr st mv)) L.ct L.gives as (c.args.toList.map a.eval) (mv.flatMap g1.fp):=by
  refine htk.sound hT hr r1 (λb hb=>.inl hb) (λid hB b hb=>.inr ⟨id,hB,hb⟩) (λt ht=>?_) (λid hid=>hl.sub λi hi=>by simp at hi;subst hi;exact hlk _ hid) (λid hid og fr ct xs ho b hb=>⟨hb.1,λq=>hb.2 (libFr_all q id hid og fr ct xs ho)⟩) Sp λi t v ht hv'=>?_
  ·obtain⟨x,hx,rfl⟩:=List.mem_map.mp ht;refine r7.sub λid hid=>ZbD hx id ?_
   have:∀ (u:T),∀ i∈ZO (st.gones mv) u,i∈ZO st u:=by
    intro u i hi;cases u<;>try exact hi
    rw[ZcS] at hi⊢;obtain⟨u',hu',hi⟩:=List.mem_flatMap.mp hi;refine List.mem_flatMap.mpr ⟨u',hu',?_⟩;unfold ZaQ at hi⊢;split at hi
    ·split at hi
     ·rename_i ho;rw[(St.gones_ob ho Sp).2];exact hi
     ·simp at hi;subst hi;split<;>simp
    ·cases hi
   exact this _ id hid
  ·rw[List.getElem?_map] at ht hv';obtain⟨x,hx,rfl⟩:=Option.map_eq_some_iff.mp ht;rw[hx] at hv';simp only[Option.map_some,Option.some.injEq] at hv';subst hv';have rv:=hR x (Zaf (List.mem_of_getElem? hx));exact⟨rv,λhns=>Zi.mono r6 (λid i off e=>by rw[e] at hns;cases hns) rv⟩
 refine⟨g,(c.args.toList.map a.eval).toArray,?_,hmB,?_⟩
 ·rw[run_call hc hv hent];have e0:(c.args.toList.map a.eval).toArray=c.args.map a.eval:=by apply Array.ext';simp
  rw[e0];simp
 refine Calls.mono (hcalls w I _ _ _ hargs (ZcT hr.sep hnd hmB) hIF hJI hIlt) ?_;rintro ex w' ⟨v,F',rfl,q1,q2,q3,q4,q5,q6,q7,q8⟩;refine⟨v,F',v,Zs P L.ct,rfl,q1,q2,q3,q4,q5,q6,q7,?_,?_⟩
 ·simp only[Zy,G.one_hv,G.one_fp,G.one_sz]
  refine⟨⟨q8,trivial⟩,λhfr b hb=>?_,by simp⟩
  by_cases hlt:b<w.heap.size
  ·obtain⟨id,hid,hb'⟩:=List.mem_flatMap.mp ((q7 b hb).2 hlt);obtain⟨⟨og,fr,xs,ho⟩,_⟩:=hrows id hid;obtain⟨_,_,_,hfr',_⟩:=hl.obj hr (hlk id hid) ho;exact hfr' (libFr_all hfr id hid og fr _ xs ho) b hb'
  ·exact .inl (by have:=hs.base;have:=hs.size;omega)
 ·simp only[Zi]
  exact⟨G.one_B,G.one_hv.symm⟩
end
end Go.T
