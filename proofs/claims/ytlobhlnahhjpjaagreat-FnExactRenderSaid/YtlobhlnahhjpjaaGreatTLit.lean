/- Slice literals; stores. -/
import Derived.Test.YtlobhlnahhjpjaaGreatTApp2
set_option linter.unusedVariables false
set_option linter.unusedSimpArgs false
namespace Go.T
def Zap (st:St) (cts:List TypeId):List T->Bool->List (List C)->List Nat->Prop
 |[],f,cs,mv=>f=true/\cs=[]/\mv=[]
 |x::xs,f,cs,mv=>∃ f1 f2 c cs' m1 mv',f=(f1&&f2)/\cs=c::cs'/\mv=m1++mv'/\Zt st cts (Zy x) f1 c m1/\Zap st cts xs f2 cs' mv'
theorem Zap.back {st st1:St} (hb:∀ (id:Nat) (o:Obj),st1.ob[id]? = some o->o≠.gone->st.ob[id]? = some o) {cts:List TypeId}:∀ {ts:List T} {f:Bool} {cs:List (List C)} {mv:List Nat},Zap st1 cts ts f cs mv->Zap st cts ts f cs mv
 |[],_,_,_,h=>h
 |t::ts,f,cs,mv,h=>by
  simp only[Zap] at h⊢
  obtain⟨f1,f2,c,cs',m1,mv',e1,e2,e3,h1,h2⟩:=h
  exact⟨f1,f2,c,cs',m1,mv',e1,e2,e3,Zt.back hb h1,Zap.back hb h2⟩
theorem Zap.rows {st:St} {cts:List TypeId}:∀ {ts:List T} {f:Bool} {cs:List (List C)} {mv:List Nat},Zap st cts ts f cs mv->∀ id∈mv,(∃ og f ct xs,st.ob[id]? = some (.row og f ct xs))/\∃ x∈ts,id∈ZE st x
 |[],_,_,_,h,id,hid=>by simp only[Zap] at h;rw[h.2.2] at hid;cases hid
 |t::ts,f,cs,mv,h,id,hid=>by
  simp only[Zap] at h
  obtain⟨f1,f2,c,cs',m1,mv',e1,e2,rfl,h1,h2⟩:=h
  rcases List.mem_append.mp hid with q|q
  ·obtain⟨h3,h4⟩:=Zt.rows h1 id q
   exact⟨h3,t,by simp,rowsOf_look id (rowsOf_mem h4)⟩
  ·obtain⟨h3,x,h4,h5⟩:=Zap.rows h2 id q
   exact⟨h3,x,by simp[h4],h5⟩
theorem litRows_mv {cts:List TypeId}:∀ {ps:List (Nat×T)} {st st':St} {j:Nat} {f:Bool} {cs:List (List C)},litRows cts st j ps=some (f,cs,st')->
  (∀ (k:Nat) (p:Nat×T),ps[k]? = some p->p.1=j+k)/\∃ mv,Zap st cts (ps.map (·.2)) f cs mv/\mv.Nodup/\st'=st.gones mv
 |[],st,st',j,f,cs,h=>by
  simp only[litRows] at h
  injection h with h;injection h with h1 h;injection h with h2 h3;subst h1 h2 h3
  exact⟨by simp,[],by simp[Zap],by simp,by rw[St.gones_nil]⟩
 |(i,x)::ps,st,st',j,f,cs,h=>by
  simp only[litRows] at h
  split at h
  case isFalse=>cases h
  rename_i hij
  subst hij
  split at h
  case h_2=>cases h
  rename_i f1 c st1 h1
  split at h
  case h_2=>cases h
  rename_i f2 cs' st2 h2
  injection h with h;injection h with e1 h;injection h with e2 e3;subst e1 e2 e3
  obtain⟨m1,a1,a2,rfl⟩:=cellsC_mv h1
  obtain⟨hk,mv',b1,b2,rfl⟩:=litRows_mv h2
  have hb:∀ (id:Nat) (o:Obj),(st.gones m1).ob[id]? = some o->o≠.gone->st.ob[id]? = some o:=λid o h ho=>(St.gones_ob h ho).2
  refine⟨λk p hp=>?_,m1++mv',⟨f1,f2,c,cs',m1,mv',rfl,rfl,rfl,a1,Zap.back hb b1⟩,?_,by rw[St.gones_append]⟩
  ·cases k with
   |zero=>simp at hp;subst hp;rfl
   |succ k=>have:=hk k p (by simpa using hp);omega
  ·refine List.nodup_append.mpr ⟨a2,b2,λx hx y hy e=>?_⟩
   subst e
   obtain⟨⟨og,f,ct',xs,h3⟩,_⟩:=Zap.rows b1 x hy
   exact(St.gones_ob h3 (by simp)).1 hx
theorem Zt.plain {st:St}:∀ {cts:List TypeId} {ts:List T} {f:Bool} {cs:List C} {mv:List Nat},Zt st cts ts f cs mv->ts.all Za8=true/\cts.length=ts.length
 |[],[],_,_,_,h=>by simp
 |ct::cts,t::ts,f,cs,mv,h=>by
  simp only[Zt] at h
  obtain⟨f1,f2,c,cs',m1,mv',e1,e2,rfl,h1,h2⟩:=h
  obtain⟨h3,h4⟩:=Zt.plain h2
  refine⟨?_,by simp[h4]⟩
  rw[List.all_cons,h3,Bool.and_true]
  unfold ZaP at h1
  split at h1<;>first|rfl|exact absurd h1 id
 |[],_::_,_,_,_,h=>by simp only[Zt] at h
 |_::_,[],_,_,_,h=>by simp only[Zt] at h
theorem Zap.sound {P:Program} {X:Fix} {w:World} {g:G} {stL st:St} {a:Act} (hr:Rel P X w g stL a) {c:Array Value} {cts:List TypeId} {sz:Nat}:∀ {ts:List T} {f:Bool} {cs:List (List C)} {mv:List Nat} {vs:List Value} {p:Nat},Zap st cts ts f cs mv->(∀ x∈ts,ZW g stL st (ZE st x))->
  (∀ (k:Nat) (t:T),ts[k]? = some t->∃ v,vs[k]? = some v/\Zb X w g t v)->(∀ (k jj:Nat) (v u:Value),vs[k]? = some v->v.cells.toList[jj]? = some u->c[p+k*sz+jj]? = some u)->
  Ze P w (g.IM X f) c cts sz cs p (mv.flatMap g.fp)/\(f=true->∀ b,b∈mv.flatMap g.fp->X.new b)
 |[],f,cs,mv,vs,p,h,hs,r,hc=>by
  simp only[Zap] at h
  obtain⟨rfl,rfl,rfl⟩:=h
  simp[Ze]
 |t::ts,f,cs,mv,vs,p,h,hs,r,hc=>by
  simp only[Zap] at h
  obtain⟨f1,f2,c0,cs',m1,mv',rfl,rfl,rfl,h1,h2⟩:=h
  obtain⟨v,hv,rv⟩:=r 0 t (by simp)
  cases vs with
  |nil=>simp at hv
  |cons v' vs=>
   simp at hv
   subst hv
   obtain⟨rc,_⟩:=Zb.cells hr (Zt.plain h1).1 rv
   have hs1:ZW g stL st (Zo (Zy t)):=(hs t (by simp)).sub rowsOf_look
   obtain⟨i1,i2⟩:=Zap.sound hr (p:=p+sz) h2 (λx hx=>hs x (by simp[hx])) (λk t ht=>by simpa using r (k+1) t (by simpa using ht)) (λk jj v u hv hu=>by
    have:=hc (k+1) jj v u (by simpa using hv) hu
    rwa[Nat.succ_mul,show p+(k*sz+sz)+jj=p+sz+k*sz+jj from by omega] at this)
   refine⟨?_,λhf b hb=>?_⟩
   ·simp only[Ze]
    refine⟨m1.flatMap g.fp,mv'.flatMap g.fp,by simp,Za.weaken (λb hb=>IM_and hb) (Zt.sound hr h1 hs1 rc λj u hu=>?_),Ze.weaken (λb hb=>IM_and' hb) i1⟩
    have:=hc 0 j v' u (by simp) hu
    simpa using this
   ·simp at hf
    rw[List.flatMap_append] at hb
    rcases List.mem_append.mp hb with hb|hb
    ·exact Zt.fresh hr h1 hs1 hf.1 b hb
    ·exact i2 hf.2 b hb
theorem splice_append {α:Type} {l a b:List α} {off:Nat} (h:off+(a.length+b.length)<=l.length):Zs (Zs l off a) (off+a.length) b=Zs l off (a++b):=by
 apply List.ext_getElem?
 intro j
 have h1:(Zs l off a).length=l.length:=Zbf (by omega)
 have g1:=ZaK (l:=Zs l off a) (new:=b) (off:=off+a.length) (by omega) j
 have g2:=ZaK (l:=l) (new:=a) (off:=off) (by omega) j
 have g3:=ZaK (l:=l) (new:=a++b) (off:=off) (by rw[List.length_append];omega) j
 rw[g1,g2,g3]
 by_cases c1:off+a.length<=j/\j<off+a.length+b.length
 ·rw[if_pos c1,if_pos (by rw[List.length_append];omega),List.getElem?_append_right (by omega)]
  congr 1;omega
 ·rw[if_neg c1]
  by_cases c2:off<=j/\j<off+a.length
  ·rw[if_pos c2,if_pos (by rw[List.length_append];omega),List.getElem?_append_left (by omega)]
  ·rw[if_neg c2,if_neg (by rw[List.length_append];omega)]
theorem fill_rows {sz:Nat}:∀ (ps:List (Nat×Value)) (j:Nat) (cells:Array Value),(∀ (k:Nat) (p:Nat×Value),ps[k]? = some p->p.1=j+k/\p.2.cells.size=sz)->(j+ps.length)*sz<=cells.size->
  ∃ cells',Instr.fill (λi=>some (i*sz,sz)) cells ps=some cells'/\cells'.toList=Zs cells.toList (j*sz) (ps.flatMap λp=>p.2.cells.toList)
 |[],j,cells,_,_=>⟨cells,rfl,by simp[splice_nil]⟩
 |(i,v)::ps,j,cells,hp,hl=>by
  obtain⟨hi,hv⟩:=hp 0 (i,v) (by simp)
  simp at hi hv
  subst hi
  have hm:(i+(ps.length+1))*sz=i*sz+sz+ps.length*sz:=by rw[Nat.add_mul,Nat.succ_mul];omega
  simp only[List.length_cons] at hl
  have hsp:=fold_splice' (i*sz) v.cells cells (by omega)
  have hflat:(ps.flatMap λp=>p.2.cells.toList).length=ps.length*sz:=by
   have:∀ (qs:List (Nat×Value)),(∀ q∈qs,q.2.cells.size=sz)->(qs.flatMap λp=>p.2.cells.toList).length=qs.length*sz:=by
    intro qs
    induction qs with
    |nil=>simp
    |cons q qs ih=>intro h;rw[List.flatMap_cons,List.length_append,ih (λx hx=>h x (by simp[hx])),List.length_cons,Nat.succ_mul,Array.length_toList,h q (by simp)];omega
   refine this ps λq hq=>?_
   obtain⟨k,hk⟩:=List.getElem?_of_mem hq
   exact(hp (k+1) q (by simpa using hk)).2
  have hsz':(v.cells.zipIdx.foldl (λcs (c,j)=>cs.setIfInBounds (i*sz+j) c) cells).size=cells.size:=by
   have:=congrArg List.length hsp
   rw[Zbf (by simp;omega)] at this
   simpa using this
  obtain⟨cells',hf,hc⟩:=fill_rows ps (i+1) (v.cells.zipIdx.foldl (λcs (c,j)=>cs.setIfInBounds (i*sz+j) c) cells) (λk p hk=>by
   have:=hp (k+1) p (by simpa using hk)
   exact⟨by omega,this.2⟩) (by rw[hsz',Nat.add_mul,Nat.succ_mul];omega)
  refine⟨cells',?_,?_⟩
  ·simp only[Instr.fill]
   rw[if_neg (by simp;omega)]
   exact hf
  ·rw[hc,hsp,List.flatMap_cons,<- splice_append (by simp[hflat];omega)]
   congr 1
   rw[Nat.succ_mul,Array.length_toList,hv]
section
variable {P:Program} {E:Env} {st:St} {β:Type} {k:St->Option β} {r:β} {dst:Option Nat} {ty:TypeId} {pos:String} {af:Array Edge} {gd:Option (Nat×Bool)}
theorem flat_get {sz:Nat}:∀ (vs:List Value) (k jj:Nat) (v u:Value),(∀ v∈vs,v.cells.size=sz)->vs[k]? = some v->v.cells.toList[jj]? = some u->(vs.flatMap λv=>v.cells.toList)[k*sz+jj]? = some u
 |[],k,jj,v,u,_,h,_=>by simp at h
 |w::vs,0,jj,v,u,hs,h,hu=>by
  simp at h
  subst h
  rw[List.flatMap_cons,Nat.zero_mul,Nat.zero_add,List.getElem?_append_left (List.getElem?_eq_some_iff.mp hu).1]
  exact hu
 |w::vs,k+1,jj,v,u,hs,h,hu=>by
  have hw:=hs w (by simp)
  rw[List.flatMap_cons,List.getElem?_append_right (by simp[hw,Nat.succ_mul];omega)]
  have:=flat_get vs k jj v u (λx hx=>hs x (by simp[hx])) (by simpa using h) hu
  rw[show(k+1)*sz+jj-w.cells.toList.length=k*sz+jj from by rw[Array.length_toList,hw,Nat.succ_mul];omega]
  exact this
theorem opBuildSlice {t:TypeId} {len:Nat} {parts:Array (Nat×Operand)} (h:ZL P E ⟨dst,.buildSlice t len parts,ty,pos,af,gd⟩ st k=some r):ZD P E ⟨dst,.buildSlice t len parts,ty,pos,af,gd⟩ st k r:=by
 simp only[ZL] at h
 split at h
 case h_2=>cases h
 rename_i e he
 have hu:=ZaG he
 split at h
 case isFalse=>cases h
 rename_i hck
 obtain⟨hpl,hsmall,h0,hfl,hz⟩:=hck
 split at h
 case h_2=>cases h
 rename_i f cs st' hlit
 obtain⟨hidx,mv,hmv,hnd,rfl⟩:=litRows_mv hlit
 have hse:=ZaI he
 have hte:=Zca he
 have hlen:(st.gones mv).ob.length=st.ob.length:=by simp[St.gones,Zx]
 rw[hlen] at h
 have hrows:=Zap.rows hmv
 obtain⟨i,hi,hisz⟩:=Zb7 h0
 obtain⟨z,hzv⟩:∃ z,i.zero=some z:=by rw[hi] at hz;exact Option.isSome_iff_exists.mp (by simpa using hz)
 have hlk:∀ y∈parts.toList.map (·.2),∀ id∈ZE st (st.ev y),id∈Za9 ⟨dst,.buildSlice t len parts,ty,pos,af,gd⟩ st:=λy hy=>ZaS (o:=⟨dst,.buildSlice t len parts,ty,pos,af,gd⟩) (by simpa[Op.operands] using hy)
 have hmap:(parts.toList.map λp=>(p.1,st.ev p.2)).map (·.2)=(parts.toList.map (·.2)).map st.ev:=by simp[List.map_map]
 rw[hmap] at hmv hrows
 refine ZD.moved (λid hid=>(hrows id hid).1) h λX w0=>OpOk.one (λid hid=>by obtain⟨⟨_,_,_,_,ho⟩,_⟩:=hrows id hid;exact(List.getElem?_eq_some_iff.mp ho).1) λstL g a w hr hs hR hl hn=>?_
 have hmB:∀ id∈mv,g.B id:=λid hid=>by
  obtain⟨⟨_,_,_,_,ho⟩,x,hx,hid'⟩:=hrows id hid
  obtain⟨y,hy,rfl⟩:=List.mem_map.mp hx
  exact(hl id (hlk y hy id hid') (by rw[ho];rfl)).2
 -- the values
 have hvals:∀ y∈parts.toList.map (·.2),Zb X w g (st.ev y) (a.eval y):=λy hy=>hR y (by simpa[Op.operands] using hy)
 have hcl:∀ y∈parts.toList.map (·.2),(a.eval y).cells.size=P.cellsOf e:=by
  have gen:∀ (ys:List Operand) (f:Bool) (cs:List (List C)) (mv:List Nat),Zap st (Zq P 6 e) (ys.map st.ev) f cs mv->∀ y∈ys,(Zy (st.ev y)).all Za8=true/\(Zy (st.ev y)).length=P.cellsOf e:=by
   intro ys
   induction ys with
   |nil=>intro _ _ _ _ y hy;cases hy
   |cons y ys ih=>
    intro f cs mv h y' hy'
    simp only[List.map_cons,Zap] at h
    obtain⟨f1,f2,c,cs',m1,mv',_,_,_,h1,h2⟩:=h
    rcases List.mem_cons.mp hy' with rfl|hy'
    ·obtain⟨p1,p2⟩:=Zt.plain h1
     exact⟨p1,by omega⟩
    ·exact ih f2 cs' mv' h2 y' hy'
  intro y hy
  obtain⟨p1,p2⟩:=gen _ _ _ _ hmv y hy
  obtain⟨rc,_⟩:=Zb.cells hr p1 (hvals y hy)
  have:=Zh.length rc
  simp at this
  omega
 have hpl':parts.toList.length=len:=by simpa using hpl
 let zr:Array Value:=if len*P.cellsOf e=0 then #[] else z.cells
 obtain⟨cells',hfill,hcells⟩:=fill_rows (sz:=P.cellsOf e) (parts.toList.map λp=>(p.1,a.eval p.2)) 0 ((Array.range (len*P.cellsOf e)).map (zr[·%zr.size]!)) (λk p hk=>by
   rw[List.getElem?_map] at hk
   obtain⟨q,hq,rfl⟩:=Option.map_eq_some_iff.mp hk
   refine⟨?_,hcl q.2 (List.mem_map.mpr ⟨q,List.mem_of_getElem? hq,rfl⟩)⟩
   have:=hidx k (q.1,st.ev q.2) (by rw[List.getElem?_map,hq];rfl)
   exact this) (by simp[hpl'])
 have hflat:((parts.toList.map λp=>(p.1,a.eval p.2)).flatMap λp=>p.2.cells.toList)=((parts.toList.map (·.2)).map a.eval).flatMap λv=>v.cells.toList:=by
  simp[List.flatMap_map]
 have hfl2:(((parts.toList.map (·.2)).map a.eval).flatMap λv=>v.cells.toList).length=len*P.cellsOf e:=by
  have:∀ (vs:List Value),(∀ v∈vs,v.cells.size=P.cellsOf e)->(vs.flatMap λv=>v.cells.toList).length=vs.length*P.cellsOf e:=by
   intro vs
   induction vs with
   |nil=>simp
   |cons v vs ih=>intro h;rw[List.flatMap_cons,List.length_append,ih (λx hx=>h x (by simp[hx])),List.length_cons,Nat.succ_mul,Array.length_toList,h v (by simp)];omega
  rw[this _ (λv hv=>by obtain⟨y,hy,rfl⟩:=List.mem_map.mp hv;exact hcl y hy)]
  simp[hpl]
 have hcells2:cells'.toList=((parts.toList.map (·.2)).map a.eval).flatMap λv=>v.cells.toList:=by
  rw[hcells,hflat,Nat.zero_mul]
  unfold Zs
  rw[hfl2]
  simp
 have hrun:(Instr.buildSlice t len (parts.map λ(i,x)=>(i,a.eval x))).run P w=.ok (.slice (some ⟨w.heap.size,0,none⟩) len len) (w.alloc (.cells cells' e)):=by
  have hpm:(parts.map λ(i,x)=>(i,a.eval x)).toList=parts.toList.map λp=>(p.1,a.eval p.2):=by simp
  show(Sem.bind (underlying t) _).run P w=_
  rw[Zm,Zg hu]
  show(Sem.bind (sizeOf e) _).run P w=_
  rw[Zm,ZbQ h0]
  simp only[]
  rw[if_neg (by omega)]
  by_cases hzz:len*P.cellsOf e=0
  ·simp only[zr,hzz,if_true] at hfill
   have hl0:len=0:=by
    rcases Nat.mul_eq_zero.mp hzz with q|q
    ·exact q
    ·omega
   subst hl0
   have hp0:parts=#[]:=Array.eq_empty_of_size_eq_zero hpl
   subst hp0
   simp[Instr.fill] at hfill
   subst hfill
   simp[newRow,Instr.fill]
  ·simp only[zr,hzz,if_false] at hfill
   simp[hzz,hpm,zeroValue,typeInfo,hi,hzv,newRow]
   rw[hfill]
   rfl
 have hkeep:∀ b,b<w.heap.size->b∉mv.flatMap g.fp->(w.alloc (.cells cells' e)).heap[b]? = w.heap[b]?:=λb hb _=>by rw[Zbj,if_neg (by omega)]
 have hmine:∀ b∈mv.flatMap g.fp,b<w.heap.size:=by
  intro b hb
  obtain⟨id,hid,hb⟩:=List.mem_flatMap.mp hb
  exact(hr.sep.mine id (hmB id hid) b hb).2.1
 obtain⟨i1,i2⟩:=Zap.sound (P:=P) hr (c:=cells') (sz:=P.cellsOf e) (vs:=(parts.toList.map (·.2)).map a.eval) (p:=0) hmv (λx hx=>by
   obtain⟨y,hy,rfl⟩:=List.mem_map.mp hx
   exact hl.sub (hlk y hy)) (λk t ht=>by
   rw[List.getElem?_map] at ht
   obtain⟨y,hy,rfl⟩:=Option.map_eq_some_iff.mp ht
   exact⟨a.eval y,by rw[List.getElem?_map,hy];rfl,hvals y (List.mem_of_getElem? hy)⟩) (λk jj v u hv hu=>by
   have:=flat_get (sz:=P.cellsOf e) _ k jj v u (λv hv=>by obtain⟨y,hy,rfl⟩:=List.mem_map.mp hv;exact hcl y hy) hv hu
   rw[<- hcells2] at this
   simpa using this)
 have hcsl:cs.length=len:=by
  have gen:∀ (ts:List T) (f:Bool) (cs:List (List C)) (mv:List Nat),Zap st (Zq P 6 e) ts f cs mv->cs.length=ts.length:=by
   intro ts
   induction ts with
   |nil=>intro f cs mv h;simp only[Zap] at h;simp[h.2.1]
   |cons t ts ih=>intro f cs mv h;simp only[Zap] at h;obtain⟨_,f2,c,cs',_,mv',_,rfl,_,_,h2⟩:=h;simp[ih f2 cs' mv' h2]
  rw[gen _ _ _ _ hmv];simp[hpl]
 refine⟨_,_,w.heap.size::mv.flatMap g.fp,.slice (some ⟨w.heap.size,0,none⟩) len len,Zl P t,ZaF hrun,by rw[ZaN];omega,rfl,rfl,rfl,hkeep,?_,λb hb=>?_,hmB,?_,?_⟩
 ·refine List.nodup_cons.mpr ⟨λhb=>?_,Zcw hr.sep hnd hmB⟩
  exact absurd (hmine _ hb) (by omega)
 ·rcases List.mem_cons.mp hb with rfl|hb
  ·exact⟨by rw[ZaN];omega,λh=>by omega⟩
  ·exact⟨by rw[ZaN];have:=hmine b hb;omega,λ_=>hb⟩
 ·simp only[Zn,G.one_hv,G.one_fp,G.one_sz]
  refine⟨⟨?_,trivial⟩,λq b hb=>?_,by simp⟩
  ·simp only[OwC]
   refine⟨_,len,by rw[hcsl],.inr ⟨w.heap.size,0,cells',e,mv.flatMap g.fp,rfl,λ_=>rfl,rfl,by rw[Zbj,if_pos rfl],by omega,?_,by omega,?_⟩⟩
   ·have:=congrArg List.length hcells2
    rw[hfl2] at this
    rw[hse]
    simpa using this
   ·rw[hte,hse]
    refine Ze.mono ⟨⟨λ_ h=>h,λb hb=>?_⟩,λb hb=>?_⟩ i1
    ·rw[Zbj,if_neg (by have:=hr.sep.imm b hb.1;omega)]
    ·rw[Zbj,if_neg (by have:=hmine b hb;omega)]
  ·rcases List.mem_cons.mp hb with rfl|hb
   ·exact .inl (Nat.le_trans hs.base hs.size)
   ·exact i2 q b hb
 ·simp only[Zb]
  exact⟨G.one_B,G.one_hv.symm⟩
end
end Go.T
