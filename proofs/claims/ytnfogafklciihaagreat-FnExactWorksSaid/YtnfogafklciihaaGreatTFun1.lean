/- The evaluator and why it is right. -/
import Derived.Test.YtnfogafklciihaaGreatTLib
set_option linter.unusedVariables false
set_option linter.unusedSimpArgs false
namespace Go.T
section
variable {P:Program} {w:World} {I:Nat->Prop}
theorem Zf.taken {c:Array Value}:∀ {xs:List C} {cts:List TypeId} {p:Nat} {F:List Nat},Zf P w I c xs cts p F->Zf P w I c (xs.map C.gone) cts p []
 |[],_,_,_,r=>by simp only[Zf] at r;simp only[List.map_nil,Zf];exact⟨trivial,r.2⟩
 |x::xs,cts,p,F,r=>by
  simp only[Zf] at r;obtain⟨ct,cts',v,F1,F2,rfl,rfl,hv,r1,r2⟩:=r;simp only[List.map_cons,Zf]
  refine⟨ct,cts',v,[],[],rfl,rfl,hv,?_,Zf.taken r2⟩
  cases x with
  |d y=>simp only[OwC] at r1;simp only[C.gone,OwC];exact⟨trivial,r1.2⟩
  |own ys=>obtain⟨a,cap,rfl,_⟩:=OwC.row r1;simp only[C.gone,OwC,RdD];exact⟨trivial,_,_,_,rfl⟩
theorem Zj.taken {c:Array Value} {cts:List TypeId} {sz:Nat}:∀ {xs:List (List C)} {p i:Nat} {F:List Nat} {row:List C},Zj P w I c cts sz xs p F->xs[i]? = some row->
  ∃ A R B,F=A++R++B/\Zf P w I c row cts (p+i*sz) R/\Zj P w I c cts sz (xs.modify i λr=>r.map C.gone) p (A++B)
 |[],_,_,_,_,_,h=>by simp at h
 |x0::xs,p,i,F,row,r,h=>by
  simp only[Zj] at r;obtain⟨F1,F2,rfl,r1,r2⟩:=r;cases i with
  |zero=>
   simp at h;subst h;refine⟨[],F1,F2,by simp,by simpa using r1,?_⟩
   simp only[List.modify_zero_cons,Zj]
   exact⟨[],F2,rfl,Zf.taken r1,r2⟩
  |succ i=>
   obtain⟨A,R,B,rfl,h1,h2⟩:=Zj.taken r2 (by simpa using h);refine⟨F1++A,R,B,by simp,by rwa[show p+(i+1)*sz=p+sz+i*sz from by rw[Nat.succ_mul];omega],?_⟩
   simp only[List.modify_succ_cons,Zj]
   exact⟨F1,A++B,by simp,r1,h2⟩
theorem Zdh {β:Type}:∀ {qs:List CK} {l:List C} {k:List C->Option β} {y:β},ZcG qs l k=some y->k l=some y
 |[],l,k,y,h=>by simp only[ZcG] at h;obtain⟨rfl,h⟩:=atEnd_some h;exact h
 |q::qs,l,k,y,h=>by
  cases q;case sl=>
   simp only[ZcG] at h;obtain⟨c,r,rfl,h1⟩:=ZbC h;obtain⟨xs,rfl,h2⟩:=Zcx h1;exact Zdh (k:=λcs=>k (.own xs::cs)) h2
  all_goals
   simp only[ZcG] at h;obtain⟨c,r,rfl,h1⟩:=ZbC h;obtain⟨x,rfl,h2⟩:=cD_some h1;exact Zdh (k:=λcs=>k (.d x::cs)) (asKind_some (k:=λy=>ZcG qs r λcs=>k (.d y::cs)) h2)
end
section
variable {P:Program} {E:Env} {st:St} {β:Type} {k:St->Option β} {r:β} {dst:Option Nat} {ty:TypeId} {pos:String} {af:Array Edge} {gd:Option (Nat×Bool)}
theorem opTake {t:TypeId} {x:Operand} (hT:Zax P) {id i off:Nat} (hmv:mvTy t=true) (hx:st.ev x=.ep id i off) (h:takeDen P st t id i off (λu st'=>k (st'.put dst u))=some r):ZN P E ⟨dst,.load t x,ty,pos,af,gd⟩ st k r:=by
 unfold takeDen at h;split at h;case h_2=>cases h
 rename_i og fr rt xs ho;split at h;case isFalse=>cases h
 rename_i hck;obtain⟨rfl,hu,h0,hagg,hft,hel,hsz⟩:=hck;obtain⟨c,hc,h⟩:=Zc4 h;have h:=Zdh h;split at h;case h_2=>cases h
 rename_i ts st1 hbo;have hlt:=(List.getElem?_eq_some_iff.mp ho).1
 let row':Obj:=.row og fr rt (xs.modify i λc=>c.map C.gone)
 obtain⟨news,hst1⟩:=bornC_syn hbo;refine⟨⟨.agg ts,[(id,row')],news⟩,?_,by simpa using hlt,λ_ p hp=>?_,λX w0=>?_⟩
 ·have:st.app dst ⟨.agg ts,[(id,row')],news⟩=st1.put dst (.agg ts):=by
   rw[hst1];simp only[St.app,St.setOb];rfl
  rw[this];exact h
 ·simp at hp;subst hp;exact List.mem_append_left _ (by simp[storeAt,hx,hmv])
 refine Zbh.make (by simpa using hlt) λstL g a w hr hs hR hl hn=>?_
 have mem_x:x∈(Op.load t x).operands.toList:=by simp[Op.operands]
 obtain⟨_,hB,⟨row,hgs⟩,hfr,horg⟩:=hl.obj hr (ZaF (o:=⟨dst,.load t x,ty,pos,af,gd⟩) mem_x rfl id (by rw[hx];simp[ZO])) ho;have rx:=hR x mem_x;rw[hx] at rx;simp only[Zi] at rx;obtain⟨_,b,o,len,cap,hh,hi,hvx⟩:=rx;obtain⟨a',cap',hv',hrow⟩:=OwC.row row;rw[hh] at hv';injection hv' with e1 e2 e3;subst e1 e2 e3;rcases hrow with⟨rfl,_,_⟩|⟨b',o',cc,e,F',ea,ho0,hF,hb',hz,hcs,hle,rows⟩
 ·simp at hi
 injection ea with ea;injection ea with ea eo _;subst ea eo;obtain⟨A,R,B,hABR,hcell,hrest⟩:=Zj.taken rows hc;obtain⟨ns,n1,n2,n3,n4⟩:=Zce (X:=X) hbo hcell;have hnews:news=ns.map (·.ob):=by
  rw[hst1] at n1;have:=congrArg St.ob n1;simp only[St.setOb] at this;exact List.append_cancel_left this
 have hln:news.length=ns.length:=by rw[hnews,List.length_map]
 subst hnews;have hobl:(st.setOb id row').ob.length=st.ob.length:=by simp[St.setOb]
 have hcl:c.length=P.cellsOf t:=by rw[Zf.length hcell,hel,hsz]
 -- the blocks
 have hnd0:=hr.sep.nodup id hB;have hmine:=hr.sep.mine id hB;have hperm:(b::F').Perm ((b::(A++B))++R):=by
  rw[hABR,List.cons_append];refine List.Perm.cons b ?_;rw[List.append_assoc,List.append_assoc];exact List.Perm.append_left A List.perm_append_comm
 let tabN:List (Nat×List Nat):=(List.range ns.length).map λj=>(st.ob.length+j,(ns.map (·.fp)).getD j [])
 let tab:List (Nat×List Nat):=(id,b::(A++B))::tabN
 have htabN:tabN.flatMap (·.2)=R:=by
  rw[n2,List.flatMap_map];simp only[tabN,List.flatMap_map]
  have:∀ (l:List Nw),(List.range l.length).flatMap (λj=>(l.map (·.fp)).getD j [])=l.flatMap (·.fp):=by
   intro l;induction l with
   |nil=>rfl
   |cons y l ih=>
    rw[List.length_cons,List.range_succ_eq_map,List.flatMap_cons,List.flatMap_map,List.flatMap_cons,<- ih];simp
  exact this ns
 have htab:tab.flatMap (·.2)=(b::(A++B))++R:=by
  show(b::(A++B))++tabN.flatMap (·.2)=_;rw[htabN]
 let U:=Eff.U ⟨.agg ts,[(id,row')],ns.map (·.ob)⟩ st.ob.length
 have hUiff:∀ j,U j↔j∈tab.map (·.1):=by
  intro j;simp only[U,Eff.U,tab,tabN,List.map_cons,List.map_map,List.mem_cons,List.mem_map,List.mem_range,List.length_map,List.not_mem_nil,or_false]
  constructor
  ·rintro(⟨p,rfl,rfl⟩|⟨q1,q2⟩)
   ·exact .inl rfl
   ·exact .inr ⟨j-st.ob.length,Om,by simp only[Function.comp];omega⟩
  ·rintro(rfl|⟨m,q1,rfl⟩)
   ·exact .inl ⟨_,rfl,rfl⟩
   ·exact .inr (by simp only[Function.comp];omega)
 have hpool:∀ q,q∈g.fp id->Pool g U q:=λq hq=>⟨id,(hUiff id).mpr (by simp[tab]),hB,hq⟩
 let g':G:=g.tab (λ_=>False) st.ob.length ns.length tab (λj=>(ns.map (·.hv)).getD (j-st.ob.length) undef) (λj=>(ns.map (·.sz)).getD (j-st.ob.length) 0)
 have hkeys:(tab.map (·.1)).Nodup:=by
  simp only[tab,tabN,List.map_cons,List.map_map]
  refine List.nodup_cons.mpr ⟨λhm=>?_,?_⟩
  ·obtain⟨m,_,q⟩:=List.mem_map.mp hm;simp only[Function.comp] at q;omega
  ·refine List.Pairwise.map _ (λa b hab=>?_) List.nodup_range;simp only[Function.comp]
   omega
 have hfpin:∀ q,q∈tab.flatMap (·.2)->q∈g.fp id:=λq hq=>by
  rw[htab] at hq;rw[hF];exact hperm.mem_iff.mpr hq
 have turn:Turn X w w g g' U:=by
  refine Turn.tab hr.sep hUiff (λj q1 q2=>⟨.inr ⟨q1,by simpa using q2⟩,?_⟩) (Nat.le_refl _) rfl rfl rfl (λ_ _ _=>rfl) hkeys ?_ (λq hq=>?_) (λ_ q=>q.elim)
  ·have:=hn (j-st.ob.length) (by simp;omega);rwa[show st.ob.length+(j-st.ob.length)=j from by omega] at this
  ·rw[htab];rw[hF] at hnd0;exact hperm.nodup_iff.mp hnd0
  ·have:=hmine q (hfpin q hq);exact⟨λz=>z,this.2.1,λ_=>hpool q (hfpin q hq)⟩
 have hkeepsR:∀ q,q∈R->q∈g.fp id:=λq hq=>by rw[hF];exact hperm.mem_iff.mpr (List.mem_append_right _ hq)
 have himp:∀ q,g.IM X fr q->g'.IM X fr q:=λq hq=>⟨.inl hq.1,hq.2⟩
 have hnil:∀ j,st.ob.length<=j->id≠j:=λj hj e=>by omega
 have hlook:∀ j,j<ns.length->tab.lookup (st.ob.length+j)=some ((ns.map (·.fp)).getD j []):=by
  intro j hj;have hmem:(st.ob.length+j,(ns.map (·.fp)).getD j [])∈tab:=List.mem_cons_of_mem _ (List.mem_map.mpr ⟨j,List.mem_range.mpr hj,rfl⟩);obtain⟨F,hF⟩:=lookup_some (l:=tab) (id:=st.ob.length+j) (List.mem_map.mpr ⟨_,hmem,rfl⟩);have h2:=lookup_mem hF;have:∀ (l:List (Nat×List Nat)),(l.map (·.1)).Nodup->∀ {i F G},(i,F)∈l->(i,G)∈l->F=G:=by
   intro l;induction l with
   |nil=>intro _ i F G h;cases h
   |cons p l ih=>
    intro hnd i F G h1 h2;rw[List.map_cons] at hnd;obtain⟨hn1,hn2⟩:=List.nodup_cons.mp hnd;rcases List.mem_cons.mp h1 with e1|h1'<;>rcases List.mem_cons.mp h2 with e2|h2'
    ·rw[<- e1] at e2;injection e2 with _ e2;exact e2.symm
    ·exact absurd (List.mem_map.mpr ⟨_,h2',by rw[<- e1]⟩) hn1
    ·exact absurd (List.mem_map.mpr ⟨_,h1',by rw[<- e2]⟩) hn1
    ·exact ih hn2 h1' h2'
  rw[hF,this tab hkeys h2 hmem]
 have hB':∀ j,j<ns.length->g'.B (st.ob.length+j):=λj hj=>.inr Om
 have hnsat:∀ j (y:Nw),ns[j]? = some y->g'.hv (st.ob.length+j)=y.hv/\g'.sz (st.ob.length+j)=y.sz/\g'.fp (st.ob.length+j)=y.fp:=by
  intro j y hy;have hj:=(List.getElem?_eq_some_iff.mp hy).1;refine⟨?_,?_,?_⟩
  ·simp only[g',G.tab]
   rw[if_pos Om,Nat.add_sub_cancel_left,List.getD_eq_getElem?_getD,List.getElem?_map,hy];rfl
  ·simp only[g',G.tab]
   rw[if_pos Om,Nat.add_sub_cancel_left,List.getD_eq_getElem?_getD,List.getElem?_map,hy];rfl
  ·simp only[g',G.tab]
   rw[hlook j hj,List.getD_eq_getElem?_getD,List.getElem?_map,hy];rfl
 obtain⟨vs,v1,v2,v3⟩:=n4 g' ⟨λj y hy=>by
  rw[hobl];exact⟨hB' j (List.getElem?_eq_some_iff.mp hy).1,(hnsat j y hy).1⟩,himp⟩
 refine⟨_,w,g',ZaN (v:=.agg vs.toArray) ?_,turn,λj=>?_,λp hp _=>?_,λj ob hob=>?_,?_⟩
 ·show(Instr.loadAt t (a.eval x)).run P w=_;rw[hvx,hgs];have hvl:vs.length=P.cellsOf t:=by rw[v2,hcl]
  have:=Za8 (P:=P) (t:=t) (off:=o+(i*Zs P rt+0)) hb' hu vs hvl h0 (λq=>by rw[hagg] at q;cases q) (λj v hv=>by
   have:=v3 j v hv;rwa[show o+(i*Zs P rt+0)+j=o+i*Zs P rt+j from by omega])
  rw[this,if_pos hagg]
 ·simp[g',G.tab]
 ·simp at hp;subst hp;simp only[row',Zy]
  have hfpid:g'.fp id=b::(A++B):=by simp[g',G.tab,tab]
  have hhv:g'.hv id=g.hv id:=by simp only[g',G.tab];rw[if_neg Om]
  have hszi:g'.sz id=g.sz id:=by simp only[g',G.tab];rw[if_neg Om]
  rw[hfpid,hhv,hszi];refine⟨⟨?_,hgs⟩,λq bb hbb=>hfr q bb ?_,horg⟩
  ·simp only[OwC]
   refine⟨some ⟨b,o,none⟩,cap,by rw[hh,List.length_modify],.inr ⟨b,o,cc,e,A++B,rfl,ho0,rfl,hb',hz,hcs,by rw[List.length_modify];exact hle,?_⟩⟩
   exact Zj.mono ⟨⟨himp,λ_ _=>rfl⟩,λ_ _=>rfl⟩ hrest
  ·rw[hF];exact hperm.mem_iff.mpr (List.mem_append_left _ hbb)
 ·rw[List.getElem?_map] at hob;obtain⟨y,hy,rfl⟩:=Option.map_eq_some_iff.mp hob;obtain⟨ct,ys,q1,q2,q3⟩:=n3 y (List.mem_of_getElem? hy);obtain⟨h1,h2,h3⟩:=hnsat j y hy;rw[q1];simp only[Zy]
  rw[h1,h2,h3];refine⟨⟨OwC.mono ⟨⟨himp,λ_ _=>rfl⟩,λ_ _=>rfl⟩ q2,q3⟩,λq bb hbb=>hfr q bb (hkeepsR bb ?_),λ_ q=>by cases q⟩
  rw[n2];exact List.mem_flatMap.mpr ⟨y,List.mem_of_getElem? hy,hbb⟩
 ·simp only[Zi]
  exact⟨vs,rfl,v1⟩
end
end Go.T
namespace Go.T
section
variable {P:Program} {E:Env} {st:St} {β:Type} {k:St->Option β} {r:β} {dst:Option Nat} {ty:TypeId} {pos:String} {af:Array Edge} {gd:Option (Nat×Bool)}
theorem Zao.append {X:Fix} {w:World} {g:G} {J:Nat->Prop}:∀ {ts ts':List T} {vs vs':List Value},Zao X w g J ts vs->Zao X w g J ts' vs'->Zao X w g J (ts++ts') (vs++vs')
 |[],_,_,_,h,h'=>by simp only[Zao] at h;subst h;simpa using h'
 |t::ts,_,_,_,h,h'=>by
  simp only[Zao] at h;obtain⟨v,vs1,rfl,h1,h2⟩:=h;simp only[List.cons_append,Zao]
  exact⟨v,_,rfl,h1,h2.append h'⟩
theorem Zao.ops {X:Fix} {w:World} {g:G} {J:Nat->Prop} {a:Act}:∀ {xs:List Operand},(∀ x∈xs,Zi X w g (st.ev x) (a.eval x))->Zao X w g J (xs.map st.ev) (xs.map a.eval)
 |[],_=>by simp[Zao]
 |x::xs,h=>by
  simp only[List.map_cons,Zao]
  exact⟨_,_,rfl,.inl (h x Sp),Zao.ops λy hy=>h y (by simp[hy])⟩
theorem callee_mem {c:Call} {f:Operand} (hc:c.callee=.value f):f∈(Op.call c).operands.toList:=by
 simp[Op.operands,Call.operands,hc]
theorem quiet_modes {c:Call} {f:Operand} {g:FuncId} {us:List T} (hus:∀ st' b,∀ u∈us,Zci st st' b u=true) (hc:c.callee=.value f) (hf:(∃ caps,st.ev f=.clo g caps)\/∃ fr caps,st.ev f=.d fr (.fn g caps)):
  ∀ st',quietOp E ⟨dst,.call c,ty,pos,af,gd⟩ st st'=true->∀ e,E g=some e->∀ u∈c.args.toList.map st.ev++us,Zci st st' (e.modes.any λm=>m.1==.own) u=true:=by
 intro st' h e he u hu;have key:(c.args.toList.all λx=>Zci st st' (e.modes.any λm=>m.1==.own) (st.ev x))=true:=by
  rcases hf with⟨caps,hf⟩|⟨fr,caps,hf⟩<;>(simp only[quietOp,hc,hf,he] at h;exact h)
 rw[List.all_eq_true] at key;rcases List.mem_append.mp hu with q|q
 ·obtain⟨x,hx,rfl⟩:=List.mem_map.mp q;exact key x hx
 ·exact hus st' _ u q
theorem opCallV (hT:Zax P) (hE:EnvOK P E) {c:Call} {f:Operand} (hc:c.callee=.value f) (h:Z1 P E ⟨dst,.call c,ty,pos,af,gd⟩ st k=some r):ZN P E ⟨dst,.call c,ty,pos,af,gd⟩ st k r:=by
 simp only[Z1,hc] at h;have hlkA:∀ u∈c.args.toList.map st.ev,∀ id∈ZaO st u,id∈Zbm ⟨dst,.call c,ty,pos,af,gd⟩ st:=by
  intro u hu id hid;obtain⟨x,hx,rfl⟩:=List.mem_map.mp hu;exact List.mem_flatMap.mpr ⟨x,Zaf hx,hid⟩
 have hstA:∀ us:List T,(∀ u∈us,∀ id off,u≠.bp id off)->∀ id off,T.bp id off∈c.args.toList.map st.ev++us->id∈storeAt ⟨dst,.call c,ty,pos,af,gd⟩ st:=by
  intro us hus id off hu;rcases List.mem_append.mp hu with q|q
  ·obtain⟨x,hx,e⟩:=List.mem_map.mp q;simp only[storeAt]
   exact List.mem_flatMap.mpr ⟨x,hx,by rw[e];simp[bpIds]⟩
  ·exact absurd rfl (hus _ q id off)
 split at h
 ·rename_i g caps hf;split at h
  ·rename_i L hL;split at h;case isFalse=>cases h
   rename_i hce;obtain⟨e,he,hL⟩:=Option.bind_eq_some_iff.mp hL;have:caps=[]:=by simpa using hce
   subst this;exact opLib hT hE hc hf (callee_mem hc) he hL h
  split at h;case isFalse=>cases h
  rename_i hck;refine callSound (o:=⟨dst,.call c,ty,pos,af,gd⟩) (k:=λt st'=>k (st'.put dst t)) hT hE h (λu hu=>?_) (quiet_modes (λ_ _ u hu=>by
   obtain⟨x,hx,rfl⟩:=List.mem_map.mp hu;unfold capT;split<;>rfl) hc (.inl ⟨caps,hf⟩)) (hstA _ λu hu id off e=>by
   obtain⟨x,hx,rfl⟩:=List.mem_map.mp hu;unfold capT at e;split at e<;>cases e) (λe he X stL g' a w hr hR hs=>?_)
  ·rcases List.mem_append.mp hu with q|q
   ·exact hlkA u q
   ·obtain⟨x,hx,rfl⟩:=List.mem_map.mp q;unfold capT;split<;>simp[ZaO,ZO]
  ·have hF:=hR f (callee_mem hc);rw[hf] at hF;simp only[Zi] at hF;obtain⟨vs,hv,rs⟩:=hF;refine⟨c.args.toList.map a.eval++vs,?_,?_⟩
   ·rw[run_call hc hv (hE g e he).1];simp
   ·refine(Zao.ops λx hx=>hR x (Zaf hx)).append ?_;rcases hck with hck|hck
    ·have:caps=[]:=by simpa using hck
     subst this;simp only[Zo] at rs;subst rs;simp[Zao]
    ·have hw:e.wide=false:=by
      rw[he] at hck;simpa using hck
     have hJ:JOk g' false (λb=>g'.I b\/(e.wide=false/\∃ id,g'.B id/\b∈g'.fp id)):=⟨λb hb=>.inl hb,λ_ id hB b hb=>.inr ⟨hw,id,hB,hb⟩⟩
     have hS:∀ t∈caps,Z9 g' stL st (ZaQ st t):=λt ht=>hs.sub λid hid=>by
      refine ZaF (o:=⟨dst,.call c,ty,pos,af,gd⟩) (callee_mem hc) rfl id ?_;rw[hf,ZcS];exact List.mem_flatMap.mpr ⟨t,ht,hid⟩
     have gen:∀ (ts:List T) (us:List Value),(∀ t∈ts,Z9 g' stL st (ZaQ st t))->Zo X w g' ts us->Zao X w g' (λb=>g'.I b\/(e.wide=false/\∃ id,g'.B id/\b∈g'.fp id)) (ts.map (capT st)) us:=by
      intro ts;induction ts with
      |nil=>intro us _ r;simpa only[List.map_nil,Zao,Zo] using r
      |cons t ts ih=>
       intro us hS r;simp only[Zo] at r;obtain⟨v,vs',rfl,_,r1,r2⟩:=r;simp only[List.map_cons,Zao]
       refine⟨v,vs',rfl,?_,ih vs' (λt ht=>hS t (by simp[ht])) r2⟩
       unfold capT;split
       ·rename_i cs hcs;exact .inr ⟨false,cs,rfl,capD_J hT hr hJ hcs (hS t Sp) r1⟩
       ·exact .inl (by simp[Zi])
     exact gen caps vs hS rs
 ·rename_i fr g caps hf;refine callSound (o:=⟨dst,.call c,ty,pos,af,gd⟩) (k:=λt st'=>k (st'.put dst t)) hT hE h (λu hu=>?_) (quiet_modes (λ_ _ u hu=>by
   obtain⟨x,hx,rfl⟩:=List.mem_map.mp hu;rfl) hc (.inr ⟨fr,caps,hf⟩)) (hstA _ λu hu id off e=>by
   obtain⟨x,hx,rfl⟩:=List.mem_map.mp hu;cases e) (λe he X stL g' a w hr hR hs=>?_)
  ·rcases List.mem_append.mp hu with q|q
   ·exact hlkA u q
   ·obtain⟨x,hx,rfl⟩:=List.mem_map.mp q;simp[ZaO,ZO]
  ·have hF:=hR f (callee_mem hc);rw[hf] at hF;simp only[Zi,RdD] at hF;obtain⟨vs,hv,rs⟩:=hF;refine⟨c.args.toList.map a.eval++vs,?_,?_⟩
   ·rw[run_call hc hv (hE g e he).1];simp
   ·refine(Zao.ops λx hx=>hR x (Zaf hx)).append ?_;have gen:∀ (cs:List (List D)) (us:List Value),Zaz w (g'.IM X fr) cs us->Zao X w g' (λb=>g'.I b\/(e.wide=false/\∃ id,g'.B id/\b∈g'.fp id)) (cs.map (.ip false)) us:=by
     intro cs;induction cs with
     |nil=>intro us r;simpa only[List.map_nil,Zao,Zaz] using r
     |cons d cs ih=>
      intro us r;simp only[Zaz] at r;obtain⟨b,off,c,e',f',vs',rfl,hI,hb,r1,r2⟩:=r;simp only[List.map_cons,Zao]
      exact⟨_,vs',rfl,.inr ⟨false,d,rfl,b,off,c,e',f',rfl,.inl hI.1,hb,Zt.mono ⟨λb hb=>.inl hb.1,λ_ _=>rfl⟩ r1⟩,ih vs' r2⟩
    exact gen caps vs rs
 ·cases h
theorem op_sound (hT:Zax P) (hE:EnvOK P E) {o:Oper} (h:Z1 P E o st k=some r):ZN P E o st k r:=by
 obtain⟨dst,op,ty,pos,af,gd⟩:=o;cases op with
 |move x=>exact opMove h
 |assign x=>exact opAssign h
 |pick c x y=>exact opPick h
 |alloc t=>exact opAlloc h
 |box t x=>exact opBox h
 |build t ps=>exact opBuild h
 |buildSlice t n ps=>exact opBuildSlice h
 |load t x=>
  simp only[Z1] at h;split at h
  ·rename_i h1 h2;exact opTake hT h1 h2 h
  ·exact opLoad h
 |store t x y=>exact opStore hT h
 |nilCheck x=>exact opNilCheck h
 |binOp op t x y q=>exact opBin h
 |unOp op t x=>exact opUn h
 |convert s d x=>exact opConvert hT h
 |makeInterface t x=>exact opMakeInterface h
 |makeFunc fn a b=>
  cases fn with
  |func f=>exact opMakeFunc h
  |_=>simp[Z1] at h
 |makeSlice t l c=>exact opMakeSlice hT h
 |slice t x lo hi mx=>exact opSlice hT h
 |fieldAddr s x f=>exact opFieldAddr h
 |field s x f=>exact opField h
 |indexAddr t x i=>exact opIndexAddr h
 |index t x i=>exact opIndex h
 |extract x i=>exact opExtract h
 |call c=>
  cases hc:c.callee with
  |value f=>exact opCallV hT hE hc h
  |invoke a b=>simp[Z1,hc] at h
  |builtin b=>
   cases b with
   |len=>exact opLen hc h
   |cap=>exact opCap hc h
   |append=>exact opAppend hT hc h
   |min=>exact opMin hc h
   |max=>exact opMax hc h
   |_=>simp[Z1,hc] at h
 |_=>simp[Z1] at h
end
end Go.T
namespace Go.T
theorem Rel.pad {P:Program} {X:Fix} {w:World} {g:G} {st:St} {a:Act} (h:Rel P X w g st a) (m:Nat):Rel P X w g (st.pad m) a:=by
 refine⟨h.tms,λid hB=>?_,h.sep,h.def_⟩
 obtain⟨o,ho,r⟩:=h.obs id hB;refine⟨o,?_,r⟩
 simp only[St.pad]
 rw[List.getElem?_append_left (List.getElem?_eq_some_iff.mp ho).1];exact ho
theorem setNews_pad:∀ (news ob:List Obj) (m:Nat),news.length<=m->Zbx (ob++List.replicate m Obj.gone) ob.length news=ob++news++List.replicate (m-news.length) Obj.gone
 |[],ob,m,_=>by simp[Zbx]
 |o::os,ob,0,h=>by simp at h
 |o::os,ob,m+1,h=>by
  show Zbx ((ob++List.replicate (m+1) Obj.gone).set ob.length o) (ob.length+1) os=_;have e:(ob++List.replicate (m+1) Obj.gone).set ob.length o=(ob++[o])++List.replicate m Obj.gone:=by
   rw[List.set_append_right _ _ (Nat.le_refl _)];simp[List.replicate_succ]
  rw[e];have:=setNews_pad os (ob++[o]) m (by simpa using h);rw[List.length_append,List.length_singleton] at this;rw[this];simp
theorem put_pad (st:St) (dst:Option Nat) (t:T) (m:Nat):(st.put dst t).pad m=(st.pad m).put dst t:=by cases dst<;>rfl
theorem eff_pad {st:St} {dst:Option Nat} {e:Eff} {m:Nat} (hc:∀ p∈e.chg,p.1<st.ob.length) (hm:e.news.length<=m):(st.pad m).eff dst st.ob.length e=(st.app dst e).pad (m-e.news.length):=by
 simp only[St.eff,St.app]
 rw[put_pad];congr 1;simp only[St.pad]
 congr 1;rw[Zb7 _ _ _ hc];have:=setNews_pad e.news (ZS st.ob e.chg) m hm;rw[ZH] at this;exact this
theorem Zo.born {X:Fix} {w:World} {g:G}:∀ {ts:List T} {vs:List Value},Zo X w g ts vs->∀ id∈ZD ts,g.B id
 |[],_,_,id,h=>by simp[ZD] at h
 |t::ts,vs,r,id,h=>by
  simp only[Zo] at r;obtain⟨v,vs',rfl,_,r1,r2⟩:=r;simp only[ZD,List.flatMap_cons,List.mem_append] at h;rcases h with h|h
  ·split at h
   ·simp at h;subst h;simp only[Zi] at r1;exact r1.1
   ·cases h
  ·exact Zo.born r2 id h
theorem look_born {P:Program} {X:Fix} {w:World} {g:G} {stL st:St} {a:Act} (hr:Rel P X w g stL a) {t:T} {v:Value} (r:Zi X w g t v) (hag:∀ id∈ZO st t,(st.ob[id]?).isSome->stL.ob[id]? = st.ob[id]?):
  ∀ id∈ZO st t,g.B id:=by
 intro id hid;cases t with
 |row i=>simp[ZO] at hid;subst hid;simp only[Zi] at r;exact r.1
 |ep i j off=>simp[ZO] at hid;subst hid;simp only[Zi] at r;exact r.1
 |sub i j off=>simp[ZO] at hid;subst hid;simp only[Zi] at r;exact r.1
 |bp i off=>simp[ZO] at hid;subst hid;simp only[Zi] at r;exact r.1
 |agg ts=>
  rw[lookT_agg] at hid;simp only[Zi] at r;obtain⟨cs,_,rs⟩:=r;exact rs.born id hid
 |clo f ts=>
  rw[ZcS] at hid hag;simp only[Zi] at r;obtain⟨vs,_,rs⟩:=r;obtain⟨t,ht,hid⟩:=List.mem_flatMap.mp hid;obtain⟨j,hj,rfl⟩:=List.mem_iff_getElem.mp ht;obtain⟨_,u,_,ru⟩:=Zo.get rs (i:=j) (t:=ts[j]) (by simp[hj]);unfold ZaQ at hid;split at hid
  ·rename_i i off he;rw[he] at ru;simp only[Zi] at ru;have hag':∀ i∈ZaQ st ts[j],(st.ob[i]?).isSome->stL.ob[i]? = st.ob[i]?:=λi hi=>hag i (List.mem_flatMap.mpr ⟨ts[j],ht,hi⟩)
   rw[he] at hag';split at hid
   ·rename_i og bt cs ho;rcases List.mem_cons.mp hid with rfl|hid
    ·exact ru.1
    ·have hL:=hag' i (by simp[ZaQ,ho]) (by rw[ho];rfl);obtain⟨o,ho',ro⟩:=hr.obs i ru.1;rw[hL,ho] at ho';injection ho' with ho';subst ho';simp only[Zy] at ro;obtain⟨⟨b,c,e,_,_,_,rc⟩,_⟩:=ro;exact rc.born id hid
   ·simp at hid;subst hid;exact ru.1
  ·cases hid
 |_=>simp[ZO] at hid
theorem put_same {st:St} {d:Nat} {t:T} (h:st.tm.getD d .any=t) (hn:t≠.any):st.put (some d) t=st:=by
 have hl:d<st.tm.length:=by
  rcases Nat.lt_or_ge d st.tm.length with q|q
  ·exact q
  ·exfalso;apply hn;rw[<- h];simp[List.getD,q]
 have:st.tm[d]=t:=by simpa[List.getD,hl] using h
 obtain⟨tm,ob⟩:=st;show St.mk (tm.set d t) ob=_;congr 1;rw[<- this];exact List.set_getElem_self hl
theorem Zb6 {P:Program} {X:Fix} {w:World} {g:G} {st:St} {a:Act} {ops:Array Oper} {o:Oper} {j d:Nat} {want f b:Bool} (hr:Rel P X w g st a) (hg:o.guard=some (j,want)) (hd:(ops[j]?).bind (·.dst)=some d)
  (ht:st.tm.getD d .any=.d f (.bool b)):Region.wanted o (yielded ops a.tmps)=(b==want):=by
 have hs:st.tm[d]? = some (.d f (.bool b)):=by
  rw[List.getD_eq_getElem?_getD] at ht;cases h:st.tm[d]? with
  |none=>rw[h] at ht;simp at ht
  |some t=>rw[h] at ht;simpa using ht
 obtain⟨v,hv,rv⟩:=hr.tms.2 d _ hs;have:=Zi.scal_eq (d:=.bool b) rfl rv;subst this;have hy:yielded ops a.tmps j=some b:=by
  unfold yielded;rw[hd];simp[hv,ZaJ]
 unfold Region.wanted;rw[hg];simp[hy]
theorem wanted_undef {P:Program} {X:Fix} {w:World} {g:G} {st:St} {a:Act} {ops:Array Oper} {o:Oper} {j d:Nat} {want:Bool} (hr:Rel P X w g st a) (hg:o.guard=some (j,want)) (hd:(ops[j]?).bind (·.dst)=some d)
  (ht:st.tm.getD d .any=.undef):Region.wanted o (yielded ops a.tmps)=false:=by
 have hs:st.tm[d]? = some .undef:=by
  rw[List.getD_eq_getElem?_getD] at ht;cases h:st.tm[d]? with
  |none=>rw[h] at ht;simp at ht
  |some t=>rw[h] at ht;simpa using ht
 obtain⟨v,hv,rv⟩:=hr.tms.2 d _ hs;simp only[Zi] at rv;subst rv;have hy:yielded ops a.tmps j=none:=by
  unfold yielded;rw[hd];simp[hv,Go.undef]
 unfold Region.wanted;rw[hg];simp[hy]
theorem wanted_none {o:Oper} {y:Nat->Option Bool} (hg:o.guard=none):Region.wanted o y=true:=by
 unfold Region.wanted;rw[hg]
def ZaB (g:G) (st:St):Prop:=∀ id,id<st.ob.length->g.B id
theorem app_len (st:St) (dst:Option Nat) (e:Eff):(st.app dst e).ob.length=st.ob.length+e.news.length:=by
 simp only[St.app,put_ob,List.length_append,ZH]
theorem ZaB.put {g:G} {st:St} (h:ZaB g st) (dst:Option Nat) (t:T):ZaB g (st.put dst t):=by
 intro id hid;rw[put_ob] at hid;exact h id hid
section
variable {P:Program} {E:Env} {β:Type} {r:β}
theorem lookA_born {P:Program} {X:Fix} {w:World} {g:G} {stL st:St} {a:Act} (hr:Rel P X w g stL a) {t:T} {v:Value} (r:Zi X w g t v) (hag:∀ id∈ZaO st t,(st.ob[id]?).isSome->stL.ob[id]? = st.ob[id]?):
  ∀ id∈ZaO st t,g.B id:=by
 intro id hid;have hag':∀ i∈ZO st t,(st.ob[i]?).isSome->stL.ob[i]? = st.ob[i]?:=λi hi=>hag i (List.mem_append_left _ hi)
 unfold ZaO at hid;rcases List.mem_append.mp hid with hid|hid
 ·exact look_born hr r hag' id hid
 ·split at hid
  ·rename_i i off hx;split at hid
   ·rename_i og bt cs ho;simp only[Zi] at r;obtain⟨o,ho',ro⟩:=hr.obs i r.1;rw[hag' i (by simp[ZO]) (by rw[ho];rfl),ho] at ho';injection ho' with ho';subst ho';simp only[Zy] at ro;obtain⟨⟨b,c,e,_,_,_,rc⟩,_⟩:=ro;exact rc.born id (by rw[rowsOf_ids];exact hid)
   ·cases hid
  ·cases hid
theorem seq_step {o:Oper} {st:St} {k:St->Option β} (h:ZN P E o st k r):∃ st',k st'=some r/\∀ (X:Fix) (w0:World) (g:G) (a:Act) (w:World),Rel P X w g st a->ZaB g st->Zal X w0 w->
  ∀ (K:Act->World->Prop) (Q:Exit->Act->World->Prop),(∀ g' w' a',Rel P X w' g' st' a'->ZaB g' st'->Zal X w0 w'->K a' w')->o.wp P a w K Q:=by
 obtain⟨e,hk,hc,_,hok⟩:=h;refine⟨st.app o.dst e,hk,λX w0 g a w hr hf hs K Q hK=>?_⟩
 have hag:∀ id:Nat,(st.ob[id]?).isSome->(st.pad e.news.length).ob[id]? = st.ob[id]?:=by
  intro id hid;obtain⟨o,ho⟩:=Option.isSome_iff_exists.mp hid;simp only[St.pad]
  rw[List.getElem?_append_left (List.getElem?_eq_some_iff.mp ho).1]
 have hrp:=hr.pad e.news.length;refine hok X w0 (st.pad e.news.length) g a w hrp hs (λx hx=>.inl rfl) (λid hid hsome=>⟨hag id hsome,?_⟩) (λj hj=>⟨?_,λhB=>?_⟩) K Q (λg' w' a' hr' hs' hB'=>?_)
 ·obtain⟨x,hx,hid⟩:=List.mem_flatMap.mp hid;exact lookA_born hrp (hr.ev x) (λi _ hi=>hag i hi) id (lookB_sub hid)
 ·simp only[St.pad]
  rw[List.getElem?_append_right Om];simp[hj]
 ·obtain⟨o,ho,_⟩:=hr.obs _ hB;have:=(List.getElem?_eq_some_iff.mp ho).1;omega
 ·rw[eff_pad hc (Nat.le_refl _)] at hr';simp only[Nat.sub_self,St.pad,List.replicate_zero,List.append_nil] at hr';refine hK g' w' a' hr' (λid hid=>?_) hs';rw[app_len] at hid;rw[hB'];rcases Nat.lt_or_ge id st.ob.length with q|q
  ·exact .inl (hf id q)
  ·exact .inr ⟨q,hid⟩
theorem ops_sound (hT:Zax P) (hE:EnvOK P E) {ops:Array Oper}:∀ {l:List Oper} {st:St} {k:St->Option β},Zcv P E ops l st k=some r->
  ∃ st',k st'=some r/\∀ (X:Fix) (w0:World) (g:G) (a:Act) (w:World),Rel P X w g st a->ZaB g st->Zal X w0 w->∀ (Q:Exit->Act->World->Prop),(∀ g' w' a',Rel P X w' g' st' a'->ZaB g' st'->Zal X w0 w'->Q .normal a' w')->wpList P ops Q l a w
 |[],st,k,h=>by
  simp only[Zcv] at h;exact⟨st,h,λX w0 g a w hr hf hs Q hQ=>hQ g w a hr hf hs⟩
 |o::l,st,k,h=>by
  have run:∀ (_:Z1 P E o st (λst'=>Zcv P E ops l st' k)=some r) (hw:∀ (X:Fix) (w:World) (g:G) (a:Act),Rel P X w g st a->Region.wanted o (yielded ops a.tmps)=true),
    ∃ st',k st'=some r/\∀ (X:Fix) (w0:World) (g:G) (a:Act) (w:World),Rel P X w g st a->ZaB g st->Zal X w0 w->∀ (Q:Exit->Act->World->Prop),(∀ g' w' a',Rel P X w' g' st' a'->ZaB g' st'->Zal X w0 w'->Q .normal a' w')->wpList P ops Q (o::l) a w:=by
   intro h hw;obtain⟨st1,h1,s1⟩:=seq_step (op_sound hT hE h);obtain⟨st2,h2,s2⟩:=ops_sound hT hE h1;refine⟨st2,h2,λX w0 g a w hr hf hs Q hQ=>wpList_step λK hK=>?_⟩
   rw[if_pos (hw X w g a hr)];exact s1 X w0 g a w hr hf hs K Q λg' w' a' hr' hf' hs'=>hK _ _ (s2 X w0 g' a' w' hr' hf' hs' Q hQ)
  have skip:∀ (_:Zcv P E ops l (st.put o.dst .undef) k=some r) (hw:∀ (X:Fix) (w:World) (g:G) (a:Act),Rel P X w g st a->Region.wanted o (yielded ops a.tmps)=false),
    ∃ st',k st'=some r/\∀ (X:Fix) (w0:World) (g:G) (a:Act) (w:World),Rel P X w g st a->ZaB g st->Zal X w0 w->∀ (Q:Exit->Act->World->Prop),(∀ g' w' a',Rel P X w' g' st' a'->ZaB g' st'->Zal X w0 w'->Q .normal a' w')->wpList P ops Q (o::l) a w:=by
   intro h hw;obtain⟨st2,h2,s2⟩:=ops_sound hT hE h;refine⟨st2,h2,λX w0 g a w hr hf hs Q hQ=>wpList_step λK hK=>?_⟩
   rw[if_neg (by rw[hw X w g a hr];simp)];exact hK _ _ (s2 X w0 g _ w (hr.put o.dst (by simp[Zi])) (hf.put _ _) hs Q hQ)
  simp only[Zcv] at h;split at h
  ·rename_i hg;exact run h λX w g a hr=>wanted_none hg
  ·rename_i j want hg;split at h;case h_1=>cases h
   rename_i d hd;split at h
   ·rename_i f b ht;cases b with
    |true=>
     rw[put_same ht Sp] at h;cases want with
     |true=>exact run h λX w g a hr=>by rw[Zb6 hr hg hd ht];rfl
     |false=>exact skip h λX w g a hr=>by rw[Zb6 hr hg hd ht];rfl
    |false=>
     rw[put_same ht Sp] at h;cases want with
     |true=>exact skip h λX w g a hr=>by rw[Zb6 hr hg hd ht];rfl
     |false=>exact run h λX w g a hr=>by rw[Zb6 hr hg hd ht];rfl
   ·rename_i ht;exact skip h λX w g a hr=>wanted_undef hr hg hd ht
   ·cases h
theorem region_seq (hT:Zax P) (hE:EnvOK P E) {ops:Array Oper} {id:Nat} {st:St} {k:St->Option β} (h:Zcv P E ops ops.toList st k=some r):
  ∃ st',k st'=some r/\∀ (X:Fix) (w0:World) (g:G) (a:Act) (w:World),Rel P X w g st a->ZaB g st->Zal X w0 w->∀ (Q:Exit->Act->World->Prop),(∀ g' w' a',Rel P X w' g' st' a'->ZaB g' st'->Zal X w0 w'->Q .normal a' w')->(Code.region id ops false).wp P Q a w:=by
 obtain⟨st',h1,s1⟩:=ops_sound hT hE h;exact⟨st',h1,λX w0 g a w hr hf hs Q hQ=>wp_region_list (s1 X w0 g a w hr hf hs Q hQ)⟩
end
end Go.T
namespace Go.T
structure ZR where
 s:St
 o:Oper
 ran:Bool
 e:Eff
def ZR.act (d:ZR) (σ:St):St:=σ.eff d.o.dst d.s.ob.length d.e
def ZR.next (d:ZR):St:=d.s.app d.o.dst d.e
def ZR.tch (d:ZR):List Nat:=bif d.ran then Zbm d.o d.s++subOf d.next d.o.dst else[]
def ZR.chg (d:ZR):List Nat:=bif d.ran then turned d.o d.s d.next++madeIn d.s d.next else[]
def Zbn:St->List ZR->St->Prop
 |st,[],st'=>st=st'
 |st,d::ds,st'=>d.s=st/\Zbn d.next ds st'
def SepH (h:Past) (d:ZR):Prop:=(∀ x∈d.chg,x∉h.tch)/\(∀ x∈d.tch,x∉h.chg)/\∀ x∈d.chg,x∉h.chg
def SepD (d d':ZR):Prop:=(∀ x∈d'.chg,x∉d.tch)/\(∀ x∈d'.tch,x∉d.chg)/\∀ x∈d'.chg,x∉d.chg
structure DOk (P:Program) (ops:Array Oper) (bs:Array Nat) (n m:Nat) (d:ZR):Prop where
 lt:∀ p∈d.e.chg,p.1<d.s.ob.length
 skip:d.ran=false->d.e=⟨.undef,[],[]⟩/\∃ j want dd,d.o.guard=some (j,want)/\(ops[j]?).bind (·.dst)=some dd/\((∃ f,d.s.tm.getD dd .any=.d f (.bool (!want)))\/d.s.tm.getD dd .any=.undef)
 run:d.ran=true->(∀ X w0,Zbh P X w0 d.o d.s d.e)/\(d.o.guard=none\/∃ j want dd f,d.o.guard=some (j,want)/\(ops[j]?).bind (·.dst)=some dd/\d.s.tm.getD dd .any=.d f (.bool want))
 seen:d.ran=true->ZaM bs n m=true\/∀ p∈d.e.chg,p.1∈d.chg
def SeqIn (bs:Array Nat) (n i j:Nat):Prop:=∃ p,i<=p/\p<=j/\ZaM bs n p=true
theorem meets_false {a b:List Nat} (h:meets a b=false):∀ x∈a,x∉b:=by
 intro x hx hb;have:meets a b=true:=by
  unfold meets;rw[List.any_eq_true];exact⟨x,hx,by simpa using hb⟩
 rw[h] at this;cases this
section
variable {P:Program} {E:Env} {β:Type} {r:β}
theorem drawOp_inv (hT:Zax P) (hE:EnvOK P E) {n:Nat} {bs:Array Nat} {o:Oper} {i:Nat} {st:St} {hs:List Past} {kk:St->List Past->Option β} (h:drawOp P E n bs o i st hs kk=some r):
  ∃ e:Eff,∃ hs',kk (st.app o.dst e) hs'=some r/\(∀ p∈e.chg,p.1<st.ob.length)/\(∀ X w0,Zbh P X w0 o st e)/\
   ((ZaM bs n i=true/\hs'=[])\/((∀ p∈e.chg,p.1∈(ZR.mk st o true e).chg)/\hs'=⟨i,(ZR.mk st o true e).tch,(ZR.mk st o true e).chg⟩::hs/\∀ h∈hs,(bs.getD i 0).testBit h.i=true\/SepH h (ZR.mk st o true e))):=by
 unfold drawOp at h;cases hq:ZaM bs n i with
 |true=>
  rw[hq] at h;simp only[cond_true] at h;obtain⟨e,h1,h2,_,h4⟩:=op_sound hT hE h;exact⟨e,[],h1,h2,h4,.inl ⟨rfl,rfl⟩⟩
 |false=>
  rw[hq] at h;simp only[cond_false] at h;obtain⟨e,h1,h2,h3,h4⟩:=op_sound hT hE h;simp only[] at h1;cases hqq:quietOp E o st (st.app o.dst e) with
  |false=>rw[hqq] at h1;simp at h1
  |true=>
   rw[hqq] at h1;simp only[cond_true] at h1;cases hp:pastOk bs i (Zbm o st++subOf (st.app o.dst e) o.dst) (turned o st (st.app o.dst e)++madeIn st (st.app o.dst e)) hs with
   |false=>rw[hp] at h1;simp at h1
   |true=>
    rw[hp] at h1;simp only[cond_true] at h1;refine⟨e,_,h1,h2,h4,.inr ⟨λp hp=>?_,rfl,λx hx=>?_⟩⟩
    ·exact List.mem_append_left _ (h3 hqq p hp)
    ·unfold pastOk at hp;rw[List.all_eq_true] at hp;have:=hp x hx;simp only[Bool.or_eq_true,Bool.not_eq_true'] at this;rcases this with q|q
     ·exact .inl q
     ·simp only[Bool.or_eq_false_iff] at q;obtain⟨⟨q1,q2⟩,q3⟩:=q;refine .inr ⟨λy hy hz=>meets_false q1 y hz hy,λy hy hz=>meets_false q2 y hz hy,λy hy hz=>meets_false q3 y hz hy⟩
theorem draw_trace (hT:Zax P) (hE:EnvOK P E) {ops:Array Oper} {bs:Array Nat} {k:St->Option β}:∀ {l:List Oper} {i:Nat} {hs:List Past} {st:St},ZbO P E ops bs l i hs st k=some r->
  ∃ ds st',ds.map (·.o)=l/\Zbn st ds st'/\k st'=some r/\(∀ m d,ds[m]? = some d->DOk P ops bs ops.size (i+m) d)/\
   (∀ m d,ds[m]? = some d->d.ran=true->∀ h∈hs,(bs.getD (i+m) 0).testBit h.i=true\/SeqIn bs ops.size i (i+m)\/SepH h d)/\
   (∀ m m' d d',m<m'->ds[m]? = some d->ds[m']? = some d'->d.ran=true->d'.ran=true->(bs.getD (i+m') 0).testBit (i+m)=true\/SeqIn bs ops.size (i+m) (i+m')\/SepD d d')
 |[],i,hs,st,h=>by
  simp only[ZbO] at h;exact⟨[],st,rfl,rfl,h,by simp,by simp,by simp⟩
 |o::l,i,hs,st,h=>by
  have skip:∀ (_:ZbO P E ops bs l (i+1) hs (st.put o.dst .undef) k=some r) (hw:∃ j want dd,o.guard=some (j,want)/\(ops[j]?).bind (·.dst)=some dd/\((∃ f,st.tm.getD dd .any=.d f (.bool (!want)))\/st.tm.getD dd .any=.undef)),
    ∃ ds st',ds.map (·.o)=o::l/\Zbn st ds st'/\k st'=some r/\(∀ m d,ds[m]? = some d->DOk P ops bs ops.size (i+m) d)/\
     (∀ m d,ds[m]? = some d->d.ran=true->∀ h∈hs,(bs.getD (i+m) 0).testBit h.i=true\/SeqIn bs ops.size i (i+m)\/SepH h d)/\
     (∀ m m' d d',m<m'->ds[m]? = some d->ds[m']? = some d'->d.ran=true->d'.ran=true->(bs.getD (i+m') 0).testBit (i+m)=true\/SeqIn bs ops.size (i+m) (i+m')\/SepD d d'):=by
   intro h hw;obtain⟨ds,st',e1,e2,e3,e4,e5,e6⟩:=draw_trace hT hE h;refine⟨⟨st,o,false,⟨.undef,[],[]⟩⟩::ds,st',by simp[e1],⟨rfl,by rw[ZR.next,app_pure];exact e2⟩,e3,λm d hd=>?_,λm d hd hr=>?_,λm m' d d' hm hd hd' hr hr'=>?_⟩
   ·cases m with
    |zero=>simp at hd;subst hd;exact⟨by simp,λ_=>⟨rfl,hw⟩,by simp,by simp⟩
    |succ m=>rw[show i+(m+1)=i+1+m from by omega];exact e4 m d (by simpa using hd)
   ·cases m with
    |zero=>simp at hd;subst hd;simp at hr
    |succ m=>
     intro x hx;rw[show i+(m+1)=i+1+m from by omega];rcases e5 m d (by simpa using hd) hr x hx with q|⟨p,q1,q2,q3⟩|q
     ·exact .inl q
     ·exact .inr (.inl ⟨p,Om,q2,q3⟩)
     ·exact .inr (.inr q)
   ·cases m' with
    |zero=>omega
    |succ m'=>
     cases m with
     |zero=>simp at hd;subst hd;simp at hr
     |succ m=>
      rw[show i+(m+1)=i+1+m from by omega,show i+(m'+1)=i+1+m' from by omega];exact e6 m m' d d' Om (by simpa using hd) (by simpa using hd') hr hr'
  have run:∀ (_:drawOp P E ops.size bs o i st hs (λst' hs'=>ZbO P E ops bs l (i+1) hs' st' k)=some r) (hw:o.guard=none\/∃ j want dd f,o.guard=some (j,want)/\(ops[j]?).bind (·.dst)=some dd/\st.tm.getD dd .any=.d f (.bool want)),
    ∃ ds st',ds.map (·.o)=o::l/\Zbn st ds st'/\k st'=some r/\(∀ m d,ds[m]? = some d->DOk P ops bs ops.size (i+m) d)/\
     (∀ m d,ds[m]? = some d->d.ran=true->∀ h∈hs,(bs.getD (i+m) 0).testBit h.i=true\/SeqIn bs ops.size i (i+m)\/SepH h d)/\
     (∀ m m' d d',m<m'->ds[m]? = some d->ds[m']? = some d'->d.ran=true->d'.ran=true->(bs.getD (i+m') 0).testBit (i+m)=true\/SeqIn bs ops.size (i+m) (i+m')\/SepD d d'):=by
   intro h hw;obtain⟨e,hs',h1,h2,h3,h4⟩:=drawOp_inv hT hE h;obtain⟨ds,st',e1,e2,e3,e4,e5,e6⟩:=draw_trace hT hE h1;refine⟨⟨st,o,true,e⟩::ds,st',by simp[e1],⟨rfl,e2⟩,e3,λm d hd=>?_,λm d hd hr=>?_,λm m' d d' hm hd hd' hr hr'=>?_⟩
   ·cases m with
    |zero=>
     simp at hd;subst hd;refine⟨h2,by simp,λ_=>⟨h3,hw⟩,λ_=>?_⟩
     rcases h4 with⟨q,_⟩|⟨q,_,_⟩
     ·exact .inl q
     ·exact .inr q
    |succ m=>rw[show i+(m+1)=i+1+m from by omega];exact e4 m d (by simpa using hd)
   ·intro x hx;cases m with
    |zero=>
     simp at hd;subst hd;rcases h4 with⟨q,_⟩|⟨_,_,q⟩
     ·exact .inr (.inl ⟨i,Nat.le_refl _,Om,q⟩)
     ·rcases q x hx with q|q
      ·exact .inl q
      ·exact .inr (.inr q)
    |succ m=>
     rw[show i+(m+1)=i+1+m from by omega];rcases h4 with⟨q,_⟩|⟨_,rfl,_⟩
     ·exact .inr (.inl ⟨i,Nat.le_refl _,Om,q⟩)
     ·rcases e5 m d (by simpa using hd) hr x (by simp[hx]) with q|⟨p,q1,q2,q3⟩|q
      ·exact .inl q
      ·exact .inr (.inl ⟨p,Om,q2,q3⟩)
      ·exact .inr (.inr q)
   ·cases m' with
    |zero=>omega
    |succ m'=>
     cases m with
     |zero=>
      simp at hd;subst hd;rw[show i+(m'+1)=i+1+m' from by omega];rcases h4 with⟨q,_⟩|⟨_,rfl,_⟩
      ·exact .inr (.inl ⟨i,Om,Om,q⟩)
      ·rcases e5 m' d' (by simpa using hd') hr' _ (List.mem_cons_self) with q|⟨p,q1,q2,q3⟩|q
       ·exact .inl (by simpa using q)
       ·exact .inr (.inl ⟨p,Om,q2,q3⟩)
       ·exact .inr (.inr q)
     |succ m=>
      rw[show i+(m+1)=i+1+m from by omega,show i+(m'+1)=i+1+m' from by omega];exact e6 m m' d d' Om (by simpa using hd) (by simpa using hd') hr hr'
  simp only[ZbO] at h;split at h
  ·rename_i hg;exact run h (.inl hg)
  ·rename_i j want hg;split at h;case h_1=>cases h
   rename_i d hd;split at h
   ·rename_i f b ht;cases b with
    |true=>
     rw[put_same ht Sp] at h;cases want with
     |true=>exact run h (.inr ⟨j,true,d,f,hg,hd,ht⟩)
     |false=>exact skip h ⟨j,false,d,hg,hd,.inl ⟨f,ht⟩⟩
    |false=>
     rw[put_same ht Sp] at h;cases want with
     |true=>exact skip h ⟨j,true,d,hg,hd,.inl ⟨f,ht⟩⟩
     |false=>exact run h (.inr ⟨j,false,d,f,hg,hd,ht⟩)
   ·rename_i ht;exact skip h ⟨j,want,d,hg,hd,.inr ht⟩
   ·cases h
end
def Zcz (n:Nat):List Obj->List (Nat×Obj)
 |[]=>[]
 |o::os=>(n,o)::Zcz (n+1) os
theorem setNews_chg:∀ (os:List Obj) (ob:List Obj) (n:Nat),Zbx ob n os=ZS ob (Zcz n os)
 |[],_,_=>rfl
 |o::os,ob,n=>by
  show Zbx (ob.set n o) (n+1) os=ZS (ob.set n o) (Zcz (n+1) os);exact setNews_chg os _ _
theorem newsChg_mem:∀ {os:List Obj} {n:Nat} {p:Nat×Obj},p∈Zcz n os->n<=p.1/\p.1<n+os.length
 |[],_,_,h=>by cases h
 |o::os,n,p,h=>by
  rcases List.mem_cons.mp h with rfl|h
  ·simp
  ·have:=newsChg_mem h;simp;omega
theorem eff_eq (st:St) (dst:Option Nat) (n:Nat) (e:Eff):st.eff dst n e=(St.mk (st.tm.map (ZI e.chg)) (ZS st.ob (e.chg++Zcz n e.news))).put dst e.t:=by
 simp only[St.eff,setNews_chg,Zbr]
theorem setObs_comm_one (l:List (Nat×Obj)):∀ (ob:List Obj) (i:Nat) (o:Obj),(∀ p∈l,p.1≠i)->ZS (ob.set i o) l=(ZS ob l).set i o:=by
 induction l with
 |nil=>intro ob i o _;rfl
 |cons p l ih=>
  intro ob i o h;show ZS ((ob.set i o).set p.1 p.2) l=(ZS (ob.set p.1 p.2) l).set i o;rw[<- ih _ i o (λq hq=>h q (by simp[hq])),List.set_comm _ _ (λe=>h p Sp e.symm)]
theorem setObs_comm:∀ (l1 l2:List (Nat×Obj)) (ob:List Obj),(∀ p∈l1,∀ q∈l2,p.1≠q.1)->ZS (ZS ob l1) l2=ZS (ZS ob l2) l1
 |[],_,_,_=>rfl
 |p::l1,l2,ob,h=>by
  show ZS (ZS (ob.set p.1 p.2) l1) l2=ZS ((ZS ob l2).set p.1 p.2) l1;rw[setObs_comm l1 l2 _ (λa ha b hb=>h a (by simp[ha]) b hb),setObs_comm_one l2 _ _ _ (λq hq e=>h p Sp q hq e.symm)]
theorem killSub_comm (i j:Nat) (t:T):Zaa i (Zaa j t)=Zaa j (Zaa i t):=by
 cases t with
 |sub k a b=>
  by_cases h1:k=i<;>by_cases h2:k=j<;>simp[Zaa,h1,h2]<;>(try subst h1)<;>simp_all [Zaa]
 |_=>rfl
theorem killAll_one (l:List (Nat×Obj)):∀ (i:Nat) (t:T),ZI l (Zaa i t)=Zaa i (ZI l t):=by
 induction l with
 |nil=>intro i t;rfl
 |cons p l ih=>
  intro i t;show ZI l (Zaa p.1 (Zaa i t))=Zaa i (ZI l (Zaa p.1 t));rw[killSub_comm,ih]
theorem killAll_comm:∀ (l1 l2:List (Nat×Obj)) (t:T),ZI l1 (ZI l2 t)=ZI l2 (ZI l1 t)
 |[],_,_=>rfl
 |p::l1,l2,t=>by
  show ZI l1 (Zaa p.1 (ZI l2 t))=ZI l2 (ZI l1 (Zaa p.1 t));rw[<- killAll_one l2,killAll_comm l1 l2]
theorem killAll_id (l:List (Nat×Obj)) (t:T) (h:∀ id j off,t=.sub id j off->∀ p∈l,p.1≠id):ZI l t=t:=by
 induction l with
 |nil=>rfl
 |cons p l ih=>
  show ZI l (Zaa p.1 t)=t;have:Zaa p.1 t=t:=by
   cases t with
   |sub id j off=>
    have:=h id j off rfl p Sp;simp only[Zaa]
    rw[if_neg (λe=>this e.symm)]
   |_=>rfl
  rw[this];exact ih λid j off e q hq=>h id j off e q (by simp[hq])
structure Swap (N:Nat) (d d':ZR):Prop where
 dst:∀ x,d.o.dst=some x->d'.o.dst≠some x
 ids:∀ p∈d.e.chg++Zcz d.s.ob.length d.e.news,∀ q∈d'.e.chg++Zcz d'.s.ob.length d'.e.news,p.1≠q.1
 kill:∀ x,d.o.dst=some x->x<N->∀ id j off,d.e.t=.sub id j off->∀ p∈d'.e.chg,p.1≠id
 kill':∀ x,d'.o.dst=some x->x<N->∀ id j off,d'.e.t=.sub id j off->∀ p∈d.e.chg,p.1≠id
theorem put_kill (σ:St) (dst:Option Nat) (t:T) (l m:List (Nat×Obj)) (h:∀ x,dst=some x->x<σ.tm.length->ZI l t=t):St.mk (((σ.put dst t).tm).map (ZI l)) (ZS (σ.put dst t).ob m)=(St.mk (σ.tm.map (ZI l)) (ZS σ.ob m)).put dst t:=by
 cases dst with
 |none=>rfl
 |some x=>
  simp only[St.put]
  rw[List.map_set];rcases Nat.lt_or_ge x σ.tm.length with q|q
  ·rw[h x rfl q]
  ·rw[List.set_eq_of_length_le (by simpa using q),List.set_eq_of_length_le (by simpa using q)]
theorem put_put (σ:St) (x y:Option Nat) (t u:T) (h:∀ d,x=some d->y≠some d):(σ.put x t).put y u=(σ.put y u).put x t:=by
 cases x with
 |none=>rfl
 |some x=>
  cases y with
  |none=>rfl
  |some y=>
   simp only[St.put]
   rw[List.set_comm _ _ (λe=>h x rfl (by rw[e]))]
theorem Swap.comm {N:Nat} {d d':ZR} (h:Swap N d d') (σ:St) (hN:σ.tm.length=N):d'.act (d.act σ)=d.act (d'.act σ):=by
 simp only[ZR.act,eff_eq]
 rw[put_kill _ _ _ _ _ (λx hx hl=>killAll_id _ _ (h.kill x hx (by simpa[hN] using hl))),put_kill _ _ _ _ _ (λx hx hl=>killAll_id _ _ (h.kill' x hx (by simpa[hN] using hl)))];rw[put_put _ _ _ _ _ h.dst];simp only[List.map_map]
 rw[setObs_comm _ _ _ h.ids];have:ZI d'.e.chg∘ZI d.e.chg=ZI d.e.chg∘ZI d'.e.chg:=funext λt=>killAll_comm _ _ t
 rw[this]
end Go.T
namespace Go.T
def Zc3 (acc:Array Nat) (o:Oper):Nat:=o.after.foldl (λs e=>if Region.binds .any e then s ||| 2^e.on ||| acc.getD e.on 0 else s) 0
theorem before_eq (ops:Array Oper):Region.before ops=ops.toList.foldl (λacc o=>acc.push (Zc3 acc o)) #[]:=by
 unfold Region.before;rw[<- Array.foldl_toList];rfl
theorem beforeOf_bit (acc:Array Nat) (o:Oper) (j:Nat) (h:(Zc3 acc o).testBit j=true):∃ e∈o.after,Region.binds .any e=true/\(j=e.on\/(acc.getD e.on 0).testBit j=true):=by
 have gen:∀ (l:List Edge) (s:Nat),(l.foldl (λs e=>if Region.binds .any e then s ||| 2^e.on ||| acc.getD e.on 0 else s) s).testBit j=true->s.testBit j=true\/∃ e∈l,Region.binds .any e=true/\(j=e.on\/(acc.getD e.on 0).testBit j=true):=by
  intro l;induction l with
  |nil=>intro s h;exact .inl h
  |cons e l ih=>
   intro s h;rw[List.foldl_cons] at h;rcases ih _ h with q|⟨e',he',q⟩
   ·split at q
    ·rename_i hb;rw[Nat.testBit_or,Nat.testBit_or,Bool.or_eq_true,Bool.or_eq_true] at q;rcases q with(q|q)|q
     ·exact .inl q
     ·rw[Nat.testBit_two_pow] at q;exact .inr ⟨e,by simp,hb,.inl (by simp at q;exact q.symm)⟩
     ·exact .inr ⟨e,by simp,hb,.inr q⟩
    ·exact .inl q
   ·exact .inr ⟨e',by simp[he'],q⟩
 unfold Zc3 at h;rw[<- Array.foldl_toList] at h;rcases gen o.after.toList 0 h with q|⟨e,he,q⟩
 ·simp at q
 ·exact⟨e,Array.mem_toList_iff.mp he,q⟩
theorem pushes_get {f:Array Nat->Oper->Nat}:∀ (l:List Oper) (acc:Array Nat) (i:Nat),i<acc.size->(l.foldl (λacc o=>acc.push (f acc o)) acc)[i]? = acc[i]?
 |[],_,_,_=>rfl
 |o::l,acc,i,h=>by
  rw[List.foldl_cons,pushes_get l _ i (by simp;omega),Array.getElem?_push,if_neg Om]
theorem pushes_size {f:Array Nat->Oper->Nat}:∀ (l:List Oper) (acc:Array Nat),(l.foldl (λacc o=>acc.push (f acc o)) acc).size=acc.size+l.length
 |[],_=>rfl
 |o::l,acc=>by
  rw[List.foldl_cons,pushes_size l];simp;omega
theorem before_bit {ops:Array Oper} (hlt:∀ (j:Nat) (o:Oper),ops[j]? = some o->∀ e∈o.after,Region.binds .any e=true->e.on<j) {i j:Nat} {o:Oper} (ho:ops[i]? = some o) (h:((Region.before ops).getD i 0).testBit j=true):
  ∃ e∈o.after,Region.binds .any e=true/\(j=e.on\/((Region.before ops).getD e.on 0).testBit j=true):=by
 have hi:i<ops.toList.length:=by simpa using(Array.getElem?_eq_some_iff.mp ho).1
 have hl:ops.toList=ops.toList.take i++o::ops.toList.drop (i+1):=by
  have:ops.toList[i]=o:=by
   have:=(Array.getElem?_eq_some_iff.mp ho).2;simpa using this
  rw[<- this,<- List.drop_eq_getElem_cons hi,List.take_append_drop]
 have htl:(ops.toList.take i).length=i:=by simp;simp at hi;omega
 have hsz:=pushes_size (f:=Zc3) (ops.toList.take i) #[];rw[htl] at hsz;simp only[List.size_toArray,List.length_nil,Nat.zero_add] at hsz;have hat:(Region.before ops)[i]? = some (Zc3 ((ops.toList.take i).foldl (λacc o=>acc.push (Zc3 acc o)) #[]) o):=by
  rw[before_eq,hl,List.foldl_append,List.foldl_cons,pushes_get _ _ _ (by simp;omega),Array.getElem?_push,if_pos hsz.symm];rw[<- hl]
 have hpre:∀ k,k<i->(Region.before ops)[k]? = ((ops.toList.take i).foldl (λacc o=>acc.push (Zc3 acc o)) #[])[k]?:=by
  intro k hk;rw[before_eq];conv=>lhs;rw[hl]
  rw[List.foldl_append,pushes_get _ _ _ Om]
 rw[Array.getD_eq_getD_getElem?,hat,Option.getD_some] at h;obtain⟨e,he,hb,q⟩:=beforeOf_bit _ _ _ h;refine⟨e,he,hb,q.imp id λq=>?_⟩
 rw[Array.getD_eq_getD_getElem?] at q⊢;rw[hpre e.on (hlt i o ho e he hb)];exact q
def Cl (bs:Array Nat) (L:Nat->Bool):Prop:=∀ i,L i=true->∀ j,(bs.getD i 0).testBit j=true->L j=true
theorem Zcy {bs:Array Nat} {n p:Nat} (h:ZaM bs n p=true) {j:Nat} (hj:j<n):(j<p->(bs.getD p 0).testBit j=true)/\(p<j->(bs.getD j 0).testBit p=true):=by
 unfold ZaM at h;rw[List.all_eq_true] at h;have:=h j (List.mem_range.mpr hj);constructor
 ·intro q;rw[if_pos q] at this;exact this
 ·intro q;rw[if_neg Om,if_pos q] at this;exact this
theorem dep_in {bs:Array Nat} {n:Nat} {L:Nat->Bool} (hc:Cl bs L) {m m':Nat} (hm:m<m') (hn:m'<n) (hp:∀ j,(bs.getD m' 0).testBit j=true->L j=true) (h:(bs.getD m' 0).testBit m=true\/SeqIn bs n m m'):L m=true:=by
 rcases h with h|⟨p,q1,q2,q3⟩
 ·exact hp m h
 ·by_cases e1:p=m'
  ·subst e1;exact hp m ((Zcy q3 (j:=m) Om).1 hm)
  ·by_cases e2:p=m
   ·subst e2;exact hp p ((Zcy q3 hn).2 hm)
   ·have h1:=hp p ((Zcy q3 hn).2 Om);exact hc p h1 m ((Zcy q3 (j:=m) Om).1 Om)
def Z3 (L:Nat->Bool):List ZR->Nat->St->St
 |[],_,σ=>σ
 |d::ds,m,σ=>Z3 L ds (m+1) (bif L m then d.act σ else σ)
theorem foldL_append (L:Nat->Bool):∀ (a b:List ZR) (m:Nat) (σ:St),Z3 L (a++b) m σ=Z3 L b (m+a.length) (Z3 L a m σ)
 |[],_,_,_=>rfl
 |d::a,b,m,σ=>by
  show Z3 L (a++b) (m+1) _=Z3 L b (m+(a.length+1)) (Z3 L a (m+1) _);rw[foldL_append L a b (m+1),show m+1+a.length=m+(a.length+1) from by omega]
theorem Zcc {L L':Nat->Bool}:∀ (ds:List ZR) (m:Nat) (σ:St),(∀ k,k<ds.length->L (m+k)=L' (m+k))->Z3 L ds m σ=Z3 L' ds m σ
 |[],_,_,_=>rfl
 |d::ds,m,σ,h=>by
  show Z3 L ds (m+1) _=Z3 L' ds (m+1) _;have:=h 0 Sp;rw[Nat.add_zero] at this;rw[this];exact Zcc ds (m+1) _ λk hk=>by
   have:=h (k+1) (by simpa using hk);rwa[show m+1+k=m+(k+1) from by omega]
theorem foldL_none:∀ (ds:List ZR) (m:Nat) (σ:St),Z3 (λ_=>false) ds m σ=σ
 |[],_,_=>rfl
 |d::ds,m,σ=>foldL_none ds (m+1) σ
theorem act_tm (d:ZR) (σ:St):(d.act σ).tm.length=σ.tm.length:=by
 simp only[ZR.act,eff_eq]
 cases d.o.dst<;>simp[St.put]
theorem act_ob (d:ZR) (σ:St):(d.act σ).ob=ZS σ.ob (d.e.chg++Zcz d.s.ob.length d.e.news):=by
 simp only[ZR.act,eff_eq,put_ob]
theorem foldL_tm (L:Nat->Bool):∀ (ds:List ZR) (m:Nat) (σ:St),(Z3 L ds m σ).tm.length=σ.tm.length
 |[],_,_=>rfl
 |d::ds,m,σ=>by
  show(Z3 L ds (m+1) _).tm.length=_;rw[foldL_tm L ds];cases L m
  ·rfl
  ·exact act_tm d σ
theorem foldL_swap {N:Nat} {L:Nat->Bool} {d:ZR}:∀ (ds:List ZR) (m:Nat) (σ:St),σ.tm.length=N->(∀ k d',ds[k]? = some d'->L (m+k)=true->Swap N d d')->Z3 L ds m (d.act σ)=d.act (Z3 L ds m σ)
 |[],_,_,_,_=>rfl
 |d'::ds,m,σ,hN,h=>by
  show Z3 L ds (m+1) _=d.act (Z3 L ds (m+1) _);have hrest:∀ k d'',ds[k]? = some d''->L (m+1+k)=true->Swap N d d'':=λk d'' hd hl=>h (k+1) d'' (by simpa using hd) (by rwa[show m+(k+1)=m+1+k from by omega])
  cases hl:L m with
  |false=>exact foldL_swap ds (m+1) σ hN hrest
  |true=>
   simp only[cond_true]
   rw[(h 0 d' Sp hl).comm σ hN];exact foldL_swap ds (m+1) (d'.act σ) ((act_tm d' σ).trans hN) hrest
theorem foldL_add {N:Nat} {L:Nat->Bool} {ds:List ZR} {i:Nat} {d:ZR} {σ:St} (hd:ds[i]? = some d) (hi:L i=false) (hN:σ.tm.length=N) (h:∀ k d',ds[k]? = some d'->i<k->L k=true->Swap N d d'):
  Z3 (λk=>k==i||L k) ds 0 σ=d.act (Z3 L ds 0 σ):=by
 have hl:i<ds.length:=(List.getElem?_eq_some_iff.mp hd).1;have hsp:ds=ds.take i++d::ds.drop (i+1):=by
  have:=(List.getElem?_eq_some_iff.mp hd).2;rw[<- this,<- List.drop_eq_getElem_cons hl,List.take_append_drop]
 have htl:(ds.take i).length=i:=by simp;omega
 have key:∀ L',Z3 L' ds 0 σ=Z3 L' (ds.drop (i+1)) (i+1) (bif L' i then d.act (Z3 L' (ds.take i) 0 σ) else Z3 L' (ds.take i) 0 σ):=by
  intro L';conv=>lhs;rw[hsp]
  rw[foldL_append,htl,Nat.zero_add];rfl
 rw[key,key L,hi];simp only[beq_self_eq_true,Bool.true_or,cond_true,cond_false]
 rw[Zcc (L:=λk=>k==i||L k) (L':=L) (ds.take i) 0 σ (λk hk=>by
  rw[htl] at hk;have:(0+k==i)=false:=by simp;omega
  simp[this];omega)]
 rw[Zcc (L:=λk=>k==i||L k) (L':=L) (ds.drop (i+1)) (i+1) _ (λk hk=>by
  have:(i+1+k==i)=false:=by simp;omega
  simp[this])]
 exact foldL_swap _ _ _ ((foldL_tm L _ _ _).trans hN) λk d' hd' hk=>h (i+1+k) d' (by simpa using hd') Om hk
theorem ZbU (d:ZR):d.next.ob.length=d.s.ob.length+d.e.news.length:=by
 simp only[ZR.next,St.app,put_ob,List.length_append,ZH]
theorem next_tm (d:ZR):d.next.tm.length=d.s.tm.length:=by
 simp only[ZR.next,St.app]
 cases d.o.dst<;>simp[St.put]
theorem Zbn.get:∀ {ds:List ZR} {st st':St},Zbn st ds st'->∀ {i:Nat} {d:ZR},ds[i]? = some d->st.ob.length<=d.s.ob.length/\d.s.ob.length+d.e.news.length<=st'.ob.length/\d.s.tm.length=st.tm.length
 |[],_,_,_,i,d,h=>by simp at h
 |d0::ds,st,st',hc,i,d,h=>by
  obtain⟨rfl,hc⟩:=hc;have hmono:∀ {ds:List ZR} {st st':St},Zbn st ds st'->st.ob.length<=st'.ob.length:=by
   intro ds;induction ds with
   |nil=>intro st st' h;rw[show st=st' from h];exact Nat.le_refl _
   |cons d ds ih=>
    intro st st' h;obtain⟨rfl,h⟩:=h;have:=ih h;rw[ZbU] at this;omega
  cases i with
  |zero=>
   simp at h;subst h;have:=hmono hc;rw[ZbU] at this;exact⟨Nat.le_refl _,this,rfl⟩
  |succ i=>
   obtain⟨h1,h2,h3⟩:=Zbn.get hc (i:=i) (d:=d) (by simpa using h);rw[ZbU] at h1;rw[next_tm] at h3;exact⟨Om,h2,h3⟩
theorem Zbn.mono:∀ {ds:List ZR} {st st':St},Zbn st ds st'->∀ {i j:Nat} {d d':ZR},i<j->ds[i]? = some d->ds[j]? = some d'->d.s.ob.length+d.e.news.length<=d'.s.ob.length
 |[],_,_,_,i,j,d,d',_,h,_=>by simp at h
 |d0::ds,st,st',hc,i,j,d,d',hij,h,h'=>by
  obtain⟨rfl,hc⟩:=hc;cases j with
  |zero=>omega
  |succ j=>
   cases i with
   |zero=>
    simp at h;subst h;have:=(Zbn.get hc (i:=j) (d:=d') (by simpa using h')).1;rwa[ZbU] at this
   |succ i=>exact Zbn.mono hc (i:=i) (j:=j) Om (by simpa using h) (by simpa using h')
theorem Zbn.end_le {ds:List ZR} {st st':St} (h:Zbn st ds st'):st.ob.length<=st'.ob.length:=by
 cases ds with
 |nil=>rw[show st=st' from h];exact Nat.le_refl _
 |cons d ds=>
  have:=Zbn.get h (i:=0) (d:=d) Sp;omega
theorem Zbn.all:∀ {ds:List ZR} {st st':St} {m M:Nat},Zbn st ds st'->(∀ (i:Nat) (d:ZR),ds[i]? = some d->∀ p∈d.e.chg,p.1<d.s.ob.length)->st'.ob.length<=st.ob.length+M->
  Z3 (λ_=>true) ds m (st.pad M)=st'.pad (M-(st'.ob.length-st.ob.length))
 |[],st,st',m,M,h,_,hM=>by
  rw[show st=st' from h];simp[Z3]
 |d::ds,st,st',m,M,h,hlt,hM=>by
  obtain⟨rfl,h⟩:=h;have h1:=h.end_le;rw[ZbU] at h1;show Z3 (λ_=>true) ds (m+1) (d.act (d.s.pad M))=_;have:d.act (d.s.pad M)=d.next.pad (M-d.e.news.length):=eff_pad (hlt 0 d Sp) Om;rw[this,Zbn.all h (λi d' hd'=>hlt (i+1) d' (by simpa using hd')) (by rw[ZbU];omega),ZbU];congr 1;omega
theorem Zbn.cover:∀ {ds:List ZR} {st st':St},Zbn st ds st'->∀ {id:Nat},st.ob.length<=id->id<st'.ob.length->∃ (i:Nat) (d:ZR),ds[i]? = some d/\d.s.ob.length<=id/\id<d.s.ob.length+d.e.news.length
 |[],st,st',hc,id,h1,h2=>by
  rw[show st=st' from hc] at h1;omega
 |d::ds,st,st',hc,id,h1,h2=>by
  obtain⟨rfl,hc⟩:=hc;rcases Nat.lt_or_ge id (d.s.ob.length+d.e.news.length) with q|q
  ·exact⟨0,d,by simp,h1,q⟩
  ·obtain⟨i,d',h3,h4⟩:=Zbn.cover hc (by rw[ZbU];exact q) h2;exact⟨i+1,d',by simpa using h3,h4⟩
theorem Zbn.split:∀ {ds:List ZR} {st st':St},Zbn st ds st'->∀ {i:Nat} {d:ZR},ds[i]? = some d->Zbn st (ds.take i) d.s
 |[],_,_,_,i,d,h=>by simp at h
 |d0::ds,st,st',hc,i,d,h=>by
  obtain⟨rfl,hc⟩:=hc;cases i with
  |zero=>simp at h;subst h;exact rfl
  |succ i=>exact⟨rfl,Zbn.split hc (by simpa using h)⟩
end Go.T
namespace Go.T
structure Agr (S:Nat->Prop) (O:Nat->Prop) (σ υ:St):Prop where
 len:σ.tm.length=υ.tm.length
 slot:∀ x,S x->σ.tm.getD x .any=υ.tm.getD x .any\/υ.tm.getD x .any=.any
 obj:∀ id,O id->σ.ob[id]? = υ.ob[id]?
def ZR.ids (d:ZR):List (Nat×Obj):=d.e.chg++Zcz d.s.ob.length d.e.news
theorem act_ids (d:ZR) (σ:St):(d.act σ).ob=ZS σ.ob d.ids:=act_ob d σ
theorem killAll_any (l:List (Nat×Obj)):ZI l .any=.any:=killAll_id l .any Sp
theorem act_slot (d:ZR) (σ:St) (x:Nat):(d.act σ).tm.getD x .any=if d.o.dst=some x/\x<σ.tm.length then d.e.t else ZI d.e.chg (σ.tm.getD x .any):=by
 have hm:(σ.tm.map (ZI d.e.chg)).getD x .any=ZI d.e.chg (σ.tm.getD x .any):=by
  simp only[List.getD_eq_getElem?_getD,List.getElem?_map]
  cases σ.tm[x]? with
  |none=>simp[killAll_any]
  |some t=>rfl
 simp only[ZR.act,eff_eq]
 cases hd:d.o.dst with
 |none=>simpa[St.put] using hm
 |some y=>
  simp only[St.put,List.getD_eq_getElem?_getD,List.getElem?_set,List.length_map,Option.some.injEq] at hm⊢;by_cases e:y=x
  ·subst e;by_cases hl:y<σ.tm.length
   ·simp[hl]
   ·simp only[hl,if_true,if_false,and_false]
    rw[List.getElem?_eq_none (Nat.le_of_not_lt hl)];simp[killAll_any]
  ·simp only[e,if_false,false_and]
   exact hm
theorem setObs_congr:∀ (l:List (Nat×Obj)) (ob ob':List Obj) (id:Nat),ob[id]? = ob'[id]?->(ZS ob l)[id]? = (ZS ob' l)[id]?
 |[],_,_,_,h=>h
 |p::l,ob,ob',id,h=>by
  refine setObs_congr l (ob.set p.1 p.2) (ob'.set p.1 p.2) id ?_;rw[List.getElem?_set,List.getElem?_set];split
  ·rename_i e;rw[e];have:id<ob.length↔id<ob'.length:=by
    constructor
    ·intro q;have:(ob[id]?).isSome:=by simp[q]
     rw[h] at this;simpa using this
    ·intro q;have:(ob'[id]?).isSome:=by simp[q]
     rw[<- h] at this;simpa using this
   by_cases q:id<ob.length
   ·simp[q,this.mp q]
   ·have q':¬ id<ob'.length:=λz=>q (this.mpr z)
    simp[q,q']
  ·exact h
theorem Agr.both {S O:Nat->Prop} {σ υ:St} (h:Agr S O σ υ) (d:ZR):Agr S O (d.act σ) (d.act υ):=by
 refine⟨by rw[act_tm,act_tm,h.len],λx hx=>?_,λid hid=>?_⟩
 ·rw[act_slot,act_slot,h.len];split
  ·exact .inl rfl
  ·rcases h.slot x hx with q|q
   ·rw[q];exact .inl rfl
   ·rw[q,killAll_any];exact .inr rfl
 ·rw[act_ob,act_ob];exact setObs_congr _ _ _ _ (h.obj id hid)
theorem killAll_or (l:List (Nat×Obj)) (t:T):ZI l t=t\/ZI l t=.any:=by
 rcases Zbv l t with⟨h,_⟩|h
 ·exact .inl h
 ·exact .inr h
theorem Agr.right {S O:Nat->Prop} {σ υ:St} (h:Agr S O σ υ) {d:ZR} (h1:∀ x,S x->d.o.dst≠some x) (h2:∀ p∈d.ids,¬ O p.1):Agr S O σ (d.act υ):=by
 refine⟨by rw[act_tm,h.len],λx hx=>?_,λid hid=>?_⟩
 ·rw[act_slot,if_neg (λe=>h1 x hx e.1)];rcases killAll_or d.e.chg (υ.tm.getD x .any) with q|q
  ·rw[q];exact h.slot x hx
  ·exact .inr q
 ·rw[act_ids,Zay _ _ _ (λp hp e=>h2 p hp (e▸hid))];exact h.obj id hid
theorem Agr.left {S O:Nat->Prop} {σ υ:St} (h:Agr S O σ υ) {d:ZR} (h1:∀ x,S x->d.o.dst≠some x) (h2:∀ p∈d.ids,¬ O p.1) (h3:∀ x,S x->ZI d.e.chg (υ.tm.getD x .any)=υ.tm.getD x .any):Agr S O (d.act σ) υ:=by
 refine⟨by rw[act_tm,h.len],λx hx=>?_,λid hid=>?_⟩
 ·rw[act_slot,if_neg (λe=>h1 x hx e.1)];rcases h.slot x hx with q|q
  ·rw[q];exact .inl (h3 x hx)
  ·exact .inr q
 ·rw[act_ids,Zay _ _ _ (λp hp e=>h2 p hp (e▸hid))];exact h.obj id hid
theorem Agr.phase1 {S O:Nat->Prop} {L:Nat->Bool}:∀ {l:List ZR} {m:Nat} {σ υ:St},Agr S O σ υ->(∀ k d,l[k]? = some d->L (m+k)=true\/((∀ x,S x->d.o.dst≠some x)/\∀ p∈d.ids,¬ O p.1))->Agr S O (Z3 L l m σ) (Z3 (λ_=>true) l m υ)
 |[],_,_,_,h,_=>h
 |d::l,m,σ,υ,h,hf=>by
  show Agr S O (Z3 L l (m+1) _) (Z3 _ l (m+1) (d.act υ));have hrest:∀ k d',l[k]? = some d'->L (m+1+k)=true\/((∀ x,S x->d'.o.dst≠some x)/\∀ p∈d'.ids,¬ O p.1):=λk d' hd=>by
   have:=hf (k+1) d' (by simpa using hd);rwa[show m+(k+1)=m+1+k from by omega] at this
  cases hl:L m with
  |true=>exact Agr.phase1 (h.both d) hrest
  |false=>
   rcases hf 0 d Sp with q|⟨q1,q2⟩
   ·rw[Nat.add_zero,hl] at q;cases q
   ·exact Agr.phase1 (h.right q1 q2) hrest
theorem Agr.phase2 {S O:Nat->Prop} {L:Nat->Bool}:∀ {l:List ZR} {m:Nat} {σ υ:St},Agr S O σ υ->(∀ k d,l[k]? = some d->L (m+k)=false\/((∀ x,S x->d.o.dst≠some x)/\(∀ p∈d.ids,¬ O p.1)/\∀ x,S x->ZI d.e.chg (υ.tm.getD x .any)=υ.tm.getD x .any))->Agr S O (Z3 L l m σ) υ
 |[],_,_,_,h,_=>h
 |d::l,m,σ,υ,h,hf=>by
  show Agr S O (Z3 L l (m+1) _) υ;have hrest:∀ k d',l[k]? = some d'->L (m+1+k)=false\/((∀ x,S x->d'.o.dst≠some x)/\(∀ p∈d'.ids,¬ O p.1)/\∀ x,S x->ZI d'.e.chg (υ.tm.getD x .any)=υ.tm.getD x .any):=λk d' hd=>by
   have:=hf (k+1) d' (by simpa using hd);rwa[show m+(k+1)=m+1+k from by omega] at this
  cases hl:L m with
  |false=>exact Agr.phase2 h hrest
  |true=>
   rcases hf 0 d Sp with q|⟨q1,q2,q3⟩
   ·rw[Nat.add_zero,hl] at q;cases q
   ·exact Agr.phase2 (h.left q1 q2 q3) hrest
theorem Rel.drawn {P:Program} {X:Fix} {w w':World} {g:G} {st:St} {a:Act} (h:Rel P X w g st a) (hw:w'.heap=w.heap):Rel P X w' g st a:=by
 have ext:Ext w w' g g (λ_=>False):=⟨λ_ h=>h,λb _ _=>by rw[hw],λ_ _ h=>h,h.sep.imm,λ_ h=>h,λ_ _=>rfl,λ_ _=>rfl⟩
 refine⟨⟨h.tms.1,λi t ht=>?_⟩,λid hB=>?_,⟨h.sep.nodup,h.sep.apart,λid hB b hb=>by rw[hw];exact h.sep.mine id hB b hb,λb hb=>by rw[hw];exact h.sep.imm b hb,h.sep.old,h.sep.keep⟩,h.def_⟩
 ·obtain⟨v,hv,r⟩:=h.tms.2 i t ht;refine⟨v,hv,Zi.mono ext (λid i off e b hb=>?_) r⟩
  subst e;simp only[Zi] at r;exact⟨hb,(h.sep.mine id r.1 b hb).2.1,λq=>q⟩
 ·obtain⟨o,ho,r⟩:=h.obs id hB;exact⟨o,ho,Zy.mono ext hB rfl (λb hb=>⟨λq=>q,(h.sep.mine id hB b hb).2.1⟩) r⟩
theorem drawOk_spec {ops:Array Oper} (h:drawOk ops=true) {j:Nat} {oj:Oper} (hj:ops[j]? = some oj):
  (∀ e∈oj.after,Region.binds .any e=true->e.on<j)/\∀ i oi,i<j->ops[i]? = some oi->((Region.before ops).getD j 0).testBit i=true\/(oi.apart ops oj=true/\oj.apart ops oi=true):=by
 unfold drawOk at h;simp only[] at h;rw[List.all_eq_true] at h;have:=h j (List.mem_range.mpr (Array.getElem?_eq_some_iff.mp hj).1);rw[hj] at this;simp only[Bool.and_eq_true] at this;obtain⟨⟨h1,_⟩,h2⟩:=this;refine⟨λe he hb=>?_,λi oi hij hi=>?_⟩
 ·have:=(Array.all_eq_true_iff_forall_mem.mp h1) e he;simpa[hb] using this
 ·rw[List.all_eq_true] at h2;have:=h2 i (List.mem_range.mpr hij);rw[hi] at this;simpa[Bool.or_eq_true,Bool.and_eq_true] using this
theorem ready_nil_all {ops:Array Oper} {listed:Array Bool} (hsz:listed.size=ops.size) (hlt:∀ (j:Nat) (o:Oper),ops[j]? = some o->∀ e∈o.after,Region.binds .any e=true->e.on<j) (h:Region.ready .any ops listed=[]):
  ∀ i,i<ops.size->listed.getD i false=true:=by
 intro i;induction i using Nat.strongRecOn with
 |ind i ih=>
  intro hi;cases hl:listed.getD i false with
  |true=>rfl
  |false=>
   have:i∈Region.ready .any ops listed:=by
    rw[mem_ready];refine⟨?_,ops[i],by simp[hi],λe he hb=>?_⟩
    ·have h1:i<listed.size:=by omega
     rw[Array.getD_eq_getD_getElem?] at hl⊢;simp[h1] at hl⊢;exact hl
    ·have:=hlt i ops[i] (by simp[hi]) e he hb;exact ih e.on this Om
   rw[h] at this;cases this
section
variable {P:Program} {E:Env} {β:Type} {r:β}
theorem region_draw (hmix:P.follows .mixedOrders=true) (hT:Zax P) (hE:EnvOK P E) {ops:Array Oper} {id0:Nat} {st:St} {k:St->Option β} (hok:drawOk ops=true) (h:ZbO P E ops (Region.before ops) ops.toList 0 [] st k=some r):
  ∃ st',k st'=some r/\∀ (X:Fix) (w0:World) (g:G) (a:Act) (w:World),Rel P X w g st a->ZaB g st->Zal X w0 w->∀ (Q:Exit->Act->World->Prop),(∀ g' w' a',Rel P X w' g' st' a'->ZaB g' st'->Zal X w0 w'->Q .normal a' w')->(Code.region id0 ops true).wp P Q a w:=by
 obtain⟨ds,st',hops,hch,hk,hd,_,hpair⟩:=draw_trace hT hE h;refine⟨st',hk,λX w0 g a w hr hf0 hs Q hQ=>wp_region_any hmix ?_⟩
 -- what is known of the steps
 have hds:∀ (i:Nat) (d:ZR),ds[i]? = some d->ops[i]? = some d.o:=by
  intro i d hi;have:(ds.map (·.o))[i]? = some d.o:=by rw[List.getElem?_map,hi];rfl
  rw[hops] at this;simpa using this
 have hdl:ds.length=ops.size:=by
  have:=congrArg List.length hops;simpa using this
 have hlt:∀ (j:Nat) (o:Oper),ops[j]? = some o->∀ e∈o.after,Region.binds .any e=true->e.on<j:=λj o ho=>(drawOk_spec hok ho).1
 have hD:∀ (i:Nat) (d:ZR),ds[i]? = some d->DOk P ops (Region.before ops) ops.size i d:=λi d hi=>by simpa using hd i d hi
 have hP:∀ (i j:Nat) (d d':ZR),i<j->ds[i]? = some d->ds[j]? = some d'->d.ran=true->d'.ran=true->(((Region.before ops).getD j 0).testBit i=true\/SeqIn (Region.before ops) ops.size i j)\/SepD d d':=λi j d d' hij hi hj hr hr'=>by
  rcases hpair i j d d' hij hi hj hr hr' with q|q|q
  ·exact .inl (.inl (by simpa using q))
  ·exact .inl (.inr (by simpa using q))
  ·exact .inr q
 -- ids of a step
 have hids:∀ (i:Nat) (d:ZR),ds[i]? = some d->∀ p∈d.ids,d.ran=true/\(ZaM (Region.before ops) ops.size i=true\/p.1∈d.chg):=by
  intro i d hi p hp;have hran:d.ran=true:=by
   cases hr:d.ran with
   |true=>rfl
   |false=>
    have:=((hD i d hi).skip hr).1;simp[ZR.ids,this,Zcz] at hp
  refine⟨hran,?_⟩
  rcases List.mem_append.mp hp with q|q
  ·rcases(hD i d hi).seen hran with z|z
   ·exact .inl z
   ·exact .inr (z p q)
  ·refine .inr ?_;have hm:=newsChg_mem q;simp only[ZR.chg,hran,cond_true]
   refine List.mem_append_right _ ?_;unfold madeIn;rw[List.mem_range'_1,ZbU];omega
 have hseq:∀ i j,i<j->j<ops.size->(ZaM (Region.before ops) ops.size i=true\/ZaM (Region.before ops) ops.size j=true)->SeqIn (Region.before ops) ops.size i j:=by
  intro i j hij hj q;rcases q with q|q
  ·exact⟨i,Nat.le_refl _,Om,q⟩
  ·exact⟨j,Om,Nat.le_refl _,q⟩
 let M:=st'.ob.length-st.ob.length
 have hMle:st.ob.length<=st'.ob.length:=hch.end_le;have hB0:∀ id,g.B id->id<st.ob.length:=λid q=>by
  obtain⟨o,ho,_⟩:=hr.obs id q;exact(List.getElem?_eq_some_iff.mp ho).1
 -- the invariant
 have main:∀ (fuel:Nat) (listed:Array Bool) (a:Act) (w:World) (g':G),listed.size=ops.size->Cl (Region.before ops) (λi=>listed.getD i false)->
   ((List.range ops.size).filter λi=>!listed.getD i false).length<=fuel->
   Rel P X w g' (Z3 (λi=>listed.getD i false) ds 0 (st.pad M)) a->Zal X w0 w->
   (∀ id,g'.B id↔g.B id\/∃ (i:Nat) (d:ZR),ds[i]? = some d/\listed.getD i false=true/\d.s.ob.length<=id/\id<d.s.ob.length+d.e.news.length)->
   wpAny P .any ops Q fuel listed a w:=by
  intro fuel;have fin:∀ (listed:Array Bool) (a:Act) (w:World) (g':G),(∀ i,i<ops.size->listed.getD i false=true)->Rel P X w g' (Z3 (λi=>listed.getD i false) ds 0 (st.pad M)) a->Zal X w0 w->
    (∀ id,g'.B id↔g.B id\/∃ (i:Nat) (d:ZR),ds[i]? = some d/\listed.getD i false=true/\d.s.ob.length<=id/\id<d.s.ob.length+d.e.news.length)->Q .normal a w:=by
   intro listed a w g' hall hr hs hB;have:Z3 (λi=>listed.getD i false) ds 0 (st.pad M)=st':=by
    rw[Zcc (L':=λ_=>true) ds 0 _ (λk hk=>by rw[Nat.zero_add];exact hall k Om),hch.all (λi d hi=>(hD i d hi).lt) Om];show st'.pad (M-M)=st';simp[St.pad]
   rw[this] at hr;refine hQ g' w a hr (λid hid=>?_) hs;rw[hB];rcases Nat.lt_or_ge id st.ob.length with q|q
   ·exact .inl (hf0 id q)
   ·obtain⟨i,d,hi,h1,h2⟩:=hch.cover q hid;exact .inr ⟨i,d,hi,hall i (by have:=(List.getElem?_eq_some_iff.mp hi).1;omega),h1,h2⟩
  induction fuel with
  |zero=>
   intro listed a w g' hsz hcl hcnt hr hs hB;have hall:∀ i,i<ops.size->listed.getD i false=true:=by
    intro i hi;cases hl:listed.getD i false with
    |true=>rfl
    |false=>
     have:i∈(List.range ops.size).filter λi=>!listed.getD i false:=by
      rw[List.mem_filter];exact⟨List.mem_range.mpr hi,by simp[hl]⟩
     rw[List.length_eq_zero_iff.mp (Nat.le_zero.mp hcnt)] at this;cases this
   refine⟨?_,fin listed a w g' hall hr hs hB⟩
   cases hrd:Region.ready .any ops listed with
   |nil=>rfl
   |cons i l=>
    have:i∈Region.ready .any ops listed:=by rw[hrd];simp
    obtain⟨h0,o,ho,_⟩:=mem_ready.mp this;have hi:=(Array.getElem?_eq_some_iff.mp ho).1;have h1:=hall i hi;have h2:i<listed.size:=by omega
    rw[Array.getD_eq_getD_getElem?] at h0 h1;simp[h2] at h0 h1;rw[h0] at h1;cases h1
  |succ fuel ih=>
   intro listed a w g' hsz hcl hcnt hr hs hB;refine⟨λhrd=>fin listed a w g' (ready_nil_all hsz hlt hrd) hr hs hB,λi hi=>?_⟩
   obtain⟨h0,o,ho,hall⟩:=mem_ready.mp hi;have hin:i<ops.size:=(Array.getElem?_eq_some_iff.mp ho).1;have hil:listed.getD i false=false:=by
    have h2:i<listed.size:=by omega
    rw[Array.getD_eq_getD_getElem?] at h0⊢;simp[h2] at h0⊢;exact h0
   obtain⟨d,hdi⟩:∃ d,ds[i]? = some d:=⟨ds[i],by simp[hdl,hin]⟩
   have hdo:d.o=o:=by
    have:=hds i d hdi;rw[ho] at this;injection this with this;exact this.symm
   subst hdo
   let L:Nat->Bool:=λi=>listed.getD i false
   -- what i waits for is listed
   have hpre:∀ j,((Region.before ops).getD i 0).testBit j=true->L j=true:=by
    intro j hj;obtain⟨e,he,hb,q⟩:=before_bit hlt ho hj;have hon:=hall e he hb;rcases q with rfl|q
    ·exact hon
    ·exact hcl _ hon j q
   have hearly:∀ (j:Nat) (d':ZR),j<i->ds[j]? = some d'->L j=true\/((d'.o.apart ops d.o=true/\d.o.apart ops d'.o=true)/\(d'.ran=true->d.ran=true->SepD d' d)/\(d'.ran=true->ZaM (Region.before ops) ops.size j=false)):=by
    intro j d' hji hj;cases hl:L j with
    |true=>exact .inl rfl
    |false=>
     have hno:¬ (((Region.before ops).getD i 0).testBit j=true\/SeqIn (Region.before ops) ops.size j i):=λq=>by
      have:=dep_in hcl hji hin hpre q;have hl':listed.getD j false=false:=hl;rw[hl'] at this;cases this
     refine .inr ⟨?_,λr1 r2=>?_,λ_=>?_⟩
     ·rcases(drawOk_spec hok ho).2 j d'.o hji (hds j d' hj) with q|q
      ·exact absurd (.inl q) hno
      ·exact q
     ·rcases hP j i d' d hji hj hdi r1 r2 with q|q
      ·exact absurd q hno
      ·exact q
     ·cases hq:ZaM (Region.before ops) ops.size j with
      |false=>rfl
      |true=>exact absurd (.inr (hseq j i hji hin (.inl hq))) hno
   have hlate:∀ (j:Nat) (d':ZR),i<j->ds[j]? = some d'->L j=false\/((d'.o.apart ops d.o=true/\d.o.apart ops d'.o=true)/\(d'.ran=true->d.ran=true->SepD d d')/\ZaM (Region.before ops) ops.size j=false/\ZaM (Region.before ops) ops.size i=false):=by
    intro j d' hij hj;have hjn:j<ops.size:=by have:=(List.getElem?_eq_some_iff.mp hj).1;omega
    cases hl:L j with
    |false=>exact .inl rfl
    |true=>
     have hno:¬ (((Region.before ops).getD j 0).testBit i=true\/SeqIn (Region.before ops) ops.size i j):=λq=>by
      have:listed.getD i false=true:=dep_in hcl hij hjn (λx hx=>hcl j hl x hx) q;rw[hil] at this;cases this
     refine .inr ⟨?_,λr1 r2=>?_,?_,?_⟩
     ·rcases(drawOk_spec hok (hds j d' hj)).2 i d.o hij ho with q|q
      ·exact absurd (.inl q) hno
      ·exact⟨q.2,q.1⟩
     ·rcases hP i j d d' hij hdi hj r2 r1 with q|q
      ·exact absurd q hno
      ·exact q
     ·cases hq:ZaM (Region.before ops) ops.size j with
      |false=>rfl
      |true=>exact absurd (.inr (hseq i j hij hjn (.inr hq))) hno
     ·cases hq:ZaM (Region.before ops) ops.size i with
      |false=>rfl
      |true=>exact absurd (.inr (hseq i j hij hjn (.inl hq))) hno
   -- the agreement
   let S:Nat->Prop:=λx=>(d.ran=true/\.tmp x∈d.o.op.operands.toList)\/∃ j want,d.o.guard=some (j,want)/\(ops[j]?).bind (·.dst)=some x
   let O:Nat->Prop:=λid=>d.ran=true/\(id∈Zbm d.o d.s\/(d.s.ob.length<=id/\id<d.s.ob.length+d.e.news.length))
   have hSl:∀ x,S x->x∈d.o.looksAt ops:=by
    rintro x (⟨_,q⟩|⟨j,want,q1,q2⟩)
    ·exact List.mem_append_left _ (List.mem_filterMap.mpr ⟨.tmp x,q,rfl⟩)
    ·refine List.mem_append_right _ ?_;rw[q1];simp[q2]
   have hOt:∀ id,O id->id∈d.tch\/id∈d.chg:=by
    rintro id ⟨hran,q|q⟩
    ·left;simp only[ZR.tch,hran,cond_true]
     exact List.mem_append_left _ q
    ·right;simp only[ZR.chg,hran,cond_true]
     refine List.mem_append_right _ ?_;unfold madeIn;rw[List.mem_range'_1,ZbU];omega
   have hgslot:∀ x j want,d.o.guard=some (j,want)->(ops[j]?).bind (·.dst)=some x->(∃ f b,d.s.tm.getD x .any=.d f (.bool b))\/d.s.tm.getD x .any=.undef:=by
    intro x j want q1 q2;cases hran:d.ran with
    |true=>
     rcases((hD i d hdi).run hran).2 with q|⟨j',want',dd,f,z1,z2,z3⟩
     ·rw[q1] at q;cases q
     ·rw[q1] at z1;injection z1 with z1;injection z1 with z1 z1'
      subst z1 z1';rw[q2] at z2;injection z2 with z2;subst z2
      exact .inl ⟨f,_,z3⟩
    |false=>
     obtain⟨_,j',want',dd,z1,z2,z3⟩:=(hD i d hdi).skip hran;rw[q1] at z1;injection z1 with z1;injection z1 with z1 z1'
     subst z1 z1';rw[q2] at z2;injection z2 with z2;subst z2
     rcases z3 with⟨f,z3⟩|z3
     ·exact .inl ⟨f,_,z3⟩
     ·exact .inr z3
   have hcs:=hch.get hdi;have hagr:Agr S O (Z3 L ds 0 (st.pad M)) (d.s.pad (M-(d.s.ob.length-st.ob.length))):=by
    have hl:i<ds.length:=by omega
    have hsp:ds=ds.take i++d::ds.drop (i+1):=by
     have:=(List.getElem?_eq_some_iff.mp hdi).2;rw[<- this,<- List.drop_eq_getElem_cons hl,List.take_append_drop]
    have htl:(ds.take i).length=i:=by simp;omega
    have key:Z3 L ds 0 (st.pad M)=Z3 L (ds.drop (i+1)) (i+1) (Z3 L (ds.take i) 0 (st.pad M)):=by
     conv=>lhs;rw[hsp]
     rw[foldL_append,htl,Nat.zero_add];show Z3 L (ds.drop (i+1)) (i+1) (bif L i then _ else _)=_;have:L i=false:=hil;rw[this];rfl
    rw[key];have p1:Agr S O (Z3 L (ds.take i) 0 (st.pad M)) (d.s.pad (M-(d.s.ob.length-st.ob.length))):=by
     rw[<- (hch.split hdi).all (m:=0) (λj d' hj p hp=>(hD j d' (by rw[List.getElem?_take] at hj;split at hj;exact hj;cases hj)).lt p hp) Om];refine Agr.phase1 ⟨rfl,λ_ _=>.inl rfl,λ_ _=>rfl⟩ λj d' hj=>?_
     rw[List.getElem?_take] at hj;split at hj;case isFalse=>cases hj
     rename_i hji;rw[Nat.zero_add];rcases hearly j d' hji hj with q|⟨⟨q1,q1'⟩,q2,q3⟩
     ·exact .inl q
     ·refine .inr ⟨λx hx e=>?_,λp hp hO=>?_⟩
      ·exact(Oper.apart_spec q1).1 x e (hSl x hx)
      ·obtain⟨hran',hc⟩:=hids j d' hj p hp;rcases hc with hc|hc
       ·rw[q3 hran'] at hc;cases hc
       ·obtain⟨s1,s2,s3⟩:=q2 hran' hO.1;rcases hOt _ hO with z|z
        ·exact s2 _ z hc
        ·exact s3 _ z hc
    refine Agr.phase2 p1 λj d' hj=>?_
    rw[List.getElem?_drop] at hj;rcases hlate (i+1+j) d' Om hj with q|⟨⟨q1,q1'⟩,q2,q3,q4⟩
    ·exact .inl q
    ·refine .inr ⟨λx hx e=>?_,λp hp hO=>?_,λx hx=>?_⟩
     ·exact(Oper.apart_spec q1).1 x e (hSl x hx)
     ·obtain⟨hran',hc⟩:=hids _ d' hj p hp;rcases hc with hc|hc
      ·rw[q3] at hc;cases hc
      ·obtain⟨s1,s2,s3⟩:=q2 hran' hO.1;rcases hOt _ hO with z|z
       ·exact s1 _ hc z
       ·exact s3 _ hc z
     ·refine killAll_id _ _ λid jj off e p hp hpe=>?_
      have hx':d.s.tm.getD x .any=.sub id jj off:=e;rcases hx with⟨hran,hx⟩|⟨j',want,z1,z2⟩
      ·obtain⟨hran',hc⟩:=hids _ d' hj p (List.mem_append_left _ hp);rcases hc with hc|hc
       ·rw[q3] at hc;cases hc
       ·obtain⟨s1,s2,s3⟩:=q2 hran' hran;refine s1 _ hc ?_;simp only[ZR.tch,hran,cond_true]
        rw[hpe];exact List.mem_append_left _ (looks_sub hx hx')
      ·rcases hgslot x j' want z1 z2 with⟨f,b,z⟩|z
       ·rw[hx'] at z;cases z
       ·rw[hx'] at z;cases z
   -- the next state
   have hnext:Z3 (λj=>(listed.setIfInBounds i true).getD j false) ds 0 (st.pad M)=d.act (Z3 L ds 0 (st.pad M)):=by
    have e1:Z3 (λj=>(listed.setIfInBounds i true).getD j false) ds 0 (st.pad M)=Z3 (λj=>j==i||L j) ds 0 (st.pad M):=by
     refine Zcc ds 0 _ λj hj=>?_
     rw[Nat.zero_add];by_cases e:j=i
     ·subst e;have h2:j<listed.size:=by omega
      simp[h2]
     ·rw[getD_set_ne false (Ne.symm e)];simp[e,L]
    rw[e1];refine foldL_add hdi hil (N:=st.tm.length) rfl λj d' hj hij hlj=>?_
    rcases hlate j d' hij hj with q|⟨⟨q1,q1'⟩,q2,q3,q4⟩
    ·rw[hlj] at q;cases q
    ·refine⟨λx e=>(Oper.apart_spec q1').2.1 x e,λp hp q hq e=>?_,λx hx hxl id jj off et p hp hpe=>?_,λx hx hxl id jj off et p hp hpe=>?_⟩
     ·obtain⟨r1,c1⟩:=hids i d hdi p hp;obtain⟨r2,c2⟩:=hids j d' hj q hq;rw[q4] at c1;rw[q3] at c2;have c1:=c1.resolve_left Sp;have c2:=c2.resolve_left Sp;exact(q2 r2 r1).2.2 _ c2 (e▸c1)
     ·have r1:d.ran=true:=by
       cases hr:d.ran with
       |true=>rfl
       |false=>have:=((hD i d hdi).skip hr).1;rw[this] at et;cases et
      obtain⟨r2,c2⟩:=hids j d' hj p (List.mem_append_left _ hp);rw[q3] at c2;have c2:=c2.resolve_left Sp;refine(q2 r2 r1).1 _ c2 ?_;simp only[ZR.tch,r1,cond_true]
      refine List.mem_append_right _ ?_;rw[hx];unfold subOf;have hget:d.next.tm.getD x .any=.sub id jj off:=by
       simp only[ZR.next,St.app,hx,St.put,List.getD_eq_getElem?_getD]
       rw[List.getElem?_set_self (by rw[List.length_map,(hch.get hdi).2.2];exact hxl)];simpa using et
      simp only[hget]
      rw[hpe];simp
     ·have r2:d'.ran=true:=by
       cases hr:d'.ran with
       |true=>rfl
       |false=>have:=((hD j d' hj).skip hr).1;rw[this] at et;cases et
      obtain⟨r1,c1⟩:=hids i d hdi p (List.mem_append_left _ hp);rw[q4] at c1;have c1:=c1.resolve_left Sp;refine(q2 r2 r1).2.1 _ ?_ c1;simp only[ZR.tch,r2,cond_true]
      refine List.mem_append_right _ ?_;rw[hx];unfold subOf;have hget:d'.next.tm.getD x .any=.sub id jj off:=by
       simp only[ZR.next,St.app,hx,St.put,List.getD_eq_getElem?_getD]
       rw[List.getElem?_set_self (by rw[List.length_map,(hch.get hj).2.2];exact hxl)];simpa using et
      simp only[hget]
      rw[hpe];simp
   -- going on
   have goon:∀ (g2:G) (w2:World) (a2:Act),Rel P X w2 g2 (d.act (Z3 L ds 0 (st.pad M))) a2->Zal X w0 w2->(∀ id,g2.B id↔g'.B id\/(d.s.ob.length<=id/\id<d.s.ob.length+d.e.news.length))->
     wpAny P .any ops Q fuel (listed.setIfInBounds i true) a2 w2:=by
    intro g2 w2 a2 hr2 hs2 hB2;have hset:∀ j,(listed.setIfInBounds i true).getD j false=true↔(j=i\/listed.getD j false=true):=by
     intro j;by_cases e:j=i
     ·subst e;have h2:j<listed.size:=by omega
      simp[h2]
     ·rw[getD_set_ne false (Ne.symm e)];simp[e]
    refine ih (listed.setIfInBounds i true) a2 w2 g2 (by simpa using hsz) (λx hx y hy=>?_) ?_ (by rw[hnext];exact hr2) hs2 (λid=>?_)
    ·simp only[] at hx⊢;rw[hset] at hx⊢;rcases hx with rfl|hx
     ·exact .inr (hpre y hy)
     ·exact .inr (hcl x hx y hy)
    ·have hsub:((List.range ops.size).filter λj=>!(listed.setIfInBounds i true).getD j false)=(((List.range ops.size).filter λj=>!listed.getD j false).filter λj=>j !=i):=by
      rw[List.filter_filter];refine List.filter_congr λj hj=>?_
      by_cases e:j=i
      ·subst e;have:=(hset j).mpr (.inl rfl);simp[this]
      ·rw[getD_set_ne false (Ne.symm e)];simp[e]
     rw[hsub];have hm:i∈(List.range ops.size).filter λj=>!listed.getD j false:=by
      rw[List.mem_filter];exact⟨List.mem_range.mpr hin,by simp[hil]⟩
     have:=List.length_filter_lt_length_iff_exists (p:=λj=>j !=i) (l:=(List.range ops.size).filter λj=>!listed.getD j false) |>.mpr ⟨i,hm,by simp⟩
     omega
    ·rw[hB2,hB];constructor
     ·rintro((q|⟨j,d',q1,q2,q3⟩)|q)
      ·exact .inl q
      ·exact .inr ⟨j,d',q1,(hset j).mpr (.inr q2),q3⟩
      ·exact .inr ⟨i,d,hdi,(hset i).mpr (.inl rfl),q⟩
     ·rintro(q|⟨j,d',q1,q2,q3⟩)
      ·exact .inl (.inl q)
      ·rcases(hset j).mp q2 with rfl|q2
       ·rw[hdi] at q1;injection q1 with q1;subst q1
        exact .inr q3
       ·exact .inl (.inr ⟨j,d',q1,q2,q3⟩)
   have hslot:∀ x,S x->(Z3 L ds 0 (st.pad M)).tm.getD x .any=d.s.tm.getD x .any\/d.s.tm.getD x .any=.any:=λx hx=>hagr.slot x hx
   unfold wpOp;rw[ho];simp only[]
   cases hran:d.ran with
   |false=>
    obtain⟨he,j,want,dd,z1,z2,z3⟩:=(hD i d hdi).skip hran;have hsl:=hslot dd (.inr ⟨j,want,z1,z2⟩);have hw:Region.wanted d.o (yielded ops a.tmps)=false:=by
     rcases z3 with⟨f,z3⟩|z3
     ·have:(Z3 L ds 0 (st.pad M)).tm.getD dd .any=.d f (.bool !want):=by
       rcases hsl with q|q
       ·rw[q,z3]
       ·rw[z3] at q;cases q
      rw[Zb6 hr z1 z2 this];cases want<;>rfl
     ·have:(Z3 L ds 0 (st.pad M)).tm.getD dd .any=.undef:=by
       rcases hsl with q|q
       ·rw[q,z3]
       ·rw[z3] at q;cases q
      exact wanted_undef hr z1 z2 this
    rw[hw];simp only[Bool.false_eq_true,if_false]
    refine goon g' w _ ?_ hs (λid=>by rw[he];simp;omega);have:d.act (Z3 L ds 0 (st.pad M))=(Z3 L ds 0 (st.pad M)).put d.o.dst .undef:=by
     simp only[ZR.act,he,eff_pure]
    rw[this];exact hr.put _ (by simp[Zi])
   |true=>
    obtain⟨hop,hgd⟩:=(hD i d hdi).run hran;have hw:Region.wanted d.o (yielded ops a.tmps)=true:=by
     rcases hgd with q|⟨j,want,dd,f,z1,z2,z3⟩
     ·exact wanted_none q
     ·have:(Z3 L ds 0 (st.pad M)).tm.getD dd .any=.d f (.bool want):=by
       rcases hslot dd (.inr ⟨j,want,z1,z2⟩) with q|q
       ·rw[q,z3]
       ·rw[z3] at q;cases q
      rw[Zb6 hr z1 z2 this];cases want<;>rfl
    rw[hw];simp only[if_true]
    left;have hev:∀ x∈d.o.op.operands.toList,(Z3 L ds 0 (st.pad M)).ev x=d.s.ev x\/d.s.ev x=.any:=by
     intro x hx;cases x with
     |tmp t=>exact hslot t (.inl ⟨hran,hx⟩)
     |_=>exact .inl rfl
    have hpadob:∀ id:Nat,(d.s.ob[id]?).isSome->(d.s.pad (M-(d.s.ob.length-st.ob.length))).ob[id]? = d.s.ob[id]?:=by
     intro id hid;obtain⟨o,ho⟩:=Option.isSome_iff_exists.mp hid;simp only[St.pad]
     rw[List.getElem?_append_left (List.getElem?_eq_some_iff.mp ho).1]
    refine hop X w0 (Z3 L ds 0 (st.pad M)) g' a w hr hs hev (λid hid hsome=>?_) (λjj hjj=>⟨?_,λhBn=>?_⟩) _ Q (λg2 w2 a2 hr2 hs2 hB2=>goon g2 w2 a2 hr2 hs2 hB2)
    ·have hag:∀ id∈Zbm d.o d.s,(d.s.ob[id]?).isSome->(Z3 L ds 0 (st.pad M)).ob[id]? = d.s.ob[id]?:=λid hid hsome=>by
      rw[hagr.obj id ⟨hran,.inl hid⟩,hpadob id hsome]
     refine⟨hag id hid hsome,?_⟩
     obtain⟨x,hx,hid'⟩:=List.mem_flatMap.mp hid;cases hm:isMove d.o.op with
     |false=>
      rw[hm] at hid';rw[cond_false] at hid';cases hc:isCall d.o.op with
      |false=>
       rw[hc] at hid';exact look_born hr (Zbh.args hr (hev x hx)) (λy hy=>hag y (List.mem_flatMap.mpr ⟨x,hx,by rw[hm,hc];exact hy⟩)) id hid'
      |true=>
       rw[hc] at hid';exact lookA_born hr (Zbh.args hr (hev x hx)) (λy hy=>hag y (List.mem_flatMap.mpr ⟨x,hx,by rw[hm,hc];exact hy⟩)) id hid'
     |true=>
      rw[hm] at hid';have rv:=Zbh.args hr (hev x hx);generalize d.s.ev x=u at hid' rv;cases u with
      |sub i' j off=>
       simp[lookSub] at hid';subst hid';simp only[Zi] at rv;exact rv.1
      |_=>simp[lookSub] at hid'
    ·rw[hagr.obj _ ⟨hran,.inr ⟨Om,Om⟩⟩];simp only[St.pad]
     rw[List.getElem?_append_right Om];have h1:=hcs.2.1;have h2:=hcs.1;rw[List.getElem?_replicate];rw[if_pos Om]
    ·rcases(hB _).mp hBn with q|⟨j,d',q1,q2,q3,q4⟩
     ·have:=hB0 _ q;omega
     ·rcases Nat.lt_trichotomy i j with e|e|e
      ·have:=hch.mono e hdi q1;omega
      ·subst e;rw[hil] at q2;cases q2
      ·have:=hch.mono e q1 hdi;omega
 have hr0:Rel P X { w with drawn:=w.drawn+1 } g (st.pad M) a:=(hr.drawn (w':={ w with drawn:=w.drawn+1 }) rfl).pad M;refine main ops.size (Array.replicate ops.size false) a _ g Sp (λi hi=>?_) ?_ ?_ ⟨hs.os,hs.tape,hs.output,hs.size,hs.base,hs.block⟩ (λid=>?_)
 ·exfalso;simp only[Array.getD_eq_getD_getElem?,Array.getElem?_replicate] at hi;split at hi<;>simp at hi
 ·refine Nat.le_trans (List.length_filter_le _ _) Sp
 ·have:Z3 (λi=>(Array.replicate ops.size false).getD i false) ds 0 (st.pad M)=st.pad M:=by
   rw[Zcc (L':=λ_=>false) ds 0 _ (λk _=>by simp only[Array.getD_eq_getD_getElem?,Array.getElem?_replicate];split<;>rfl),foldL_none]
  rw[this];exact hr0
 ·constructor
  ·exact .inl
  ·rintro(q|⟨i,d,_,q,_⟩)
   ·exact q
   ·exfalso;simp only[Array.getD_eq_getD_getElem?,Array.getElem?_replicate] at q;split at q<;>simp at q
end
end Go.T
namespace Go.T
section
variable {P:Program} {X:Fix} {w0 w:World} {g:G} {st:St} {a:Act}
theorem nodup_eraseDups:∀ (n:Nat) (l:List Nat),l.length<=n->l.eraseDups.Nodup/\∀ x∈l.eraseDups,x∈l
 |_,[],_=>by simp
 |0,_::_,h=>by simp at h
 |n+1,a::l,h=>by
  rw[List.eraseDups_cons];obtain⟨h1,h2⟩:=nodup_eraseDups n (l.filter λb=>!b==a) (Nat.le_trans (List.length_filter_le _ _) (by simpa using h));refine⟨List.nodup_cons.mpr ⟨λhm=>?_,h1⟩,λx hx=>?_⟩
  ·have:=(List.mem_filter.mp (h2 a hm)).2;simp at this
  ·rcases List.mem_cons.mp hx with rfl|hx
   ·simp
   ·exact List.mem_cons_of_mem _ (List.mem_filter.mp (h2 x hx)).1
theorem Rel.reset (hr:Rel P X w g st a) {id:Nat} {o:Obj} (ro:g.B id->Zy P X w g id o):Rel P X w g (st.setOb id o) a:=by
 refine⟨⟨by simp only[St.setOb,List.length_map];exact hr.tms.1,λi t ht=>?_⟩,λi hB=>?_,hr.sep,hr.def_⟩
 ·simp only[St.setOb] at ht;rw[List.getElem?_map] at ht;obtain⟨t0,ht0,rfl⟩:=Option.map_eq_some_iff.mp ht;obtain⟨v,hv,rv⟩:=hr.tms.2 i t0 ht0;rcases killSub_cases id t0 with⟨h,_⟩|h
  ·rw[h];exact⟨v,hv,rv⟩
  ·rw[h];exact⟨v,hv,by simp[Zi]⟩
 ·obtain⟨o0,ho0,r0⟩:=hr.obs i hB;by_cases e:i=id
  ·subst e;refine⟨o,?_,ro hB⟩
   simp only[St.setOb]
   rw[List.getElem?_set_self (List.getElem?_eq_some_iff.mp ho0).1]
  ·exact⟨o0,by rw[Zbj e];exact ho0,r0⟩
theorem Rel.setTm (hr:Rel P X w g st a) {i:Nat} {t:T} (h:∀ v,a.tmps[i]? = some v->Zi X w g t v):Rel P X w g { st with tm:=st.tm.set i t } a:=by
 refine⟨⟨by simp only[List.length_set];exact hr.tms.1,λj u hu=>?_⟩,hr.obs,hr.sep,hr.def_⟩
 simp only[List.getElem?_set] at hu;split at hu
 ·rename_i e;subst e;split at hu
  ·rename_i hl;injection hu with hu;subst hu;obtain⟨v,hv,_⟩:=hr.tms.2 i (st.tm[i]) (by simp[hl]);exact⟨v,hv,h v hv⟩
  ·cases hu
 ·exact hr.tms.2 j u hu
theorem Rel.nilRow (hr:Rel P X w g st a) (fr:Bool) (ct:TypeId) (ad:Option Addr):Rel P X w (g.one [] st.ob.length [] (.slice ad 0 0) (Zs P ct)) (st.newOb (.row none fr ct [])) a/\Ext w w g (g.one [] st.ob.length [] (.slice ad 0 0) (Zs P ct)) (λ_=>False):=by
 have hn:¬ g.B st.ob.length:=λhB=>by
  obtain⟨o,ho,_⟩:=hr.obs _ hB;have:=(List.getElem?_eq_some_iff.mp ho).1;omega
 have hne:∀ id,g.B id->id≠st.ob.length:=λid hB e=>hn (e▸hB)
 have hfp:∀ id,g.B id->(g.one [] st.ob.length [] (.slice ad 0 0) (Zs P ct)).fp id=g.fp id:=λid hB=>by simp[G.one,hne id hB]
 have ext:Ext w w g (g.one [] st.ob.length [] (.slice ad 0 0) (Zs P ct)) (λ_=>False):=by
  refine⟨λ_ h=>h,λ_ _ _=>rfl,λ_ _ h=>h,hr.sep.imm,λ_ h=>.inl h,λid hB=>?_,λid hB=>?_⟩<;>simp[G.one,hne id hB]
 refine⟨⟨⟨hr.tms.1,λi t ht=>?_⟩,λid hB=>?_,⟨λid hB=>?_,λid id' hB hB' hne' b hb=>?_,λid hB b hb=>?_,hr.sep.imm,hr.sep.old,hr.sep.keep⟩,hr.def_⟩,ext⟩
 ·obtain⟨v,hv,rv⟩:=hr.tms.2 i t ht;refine⟨v,hv,Zi.mono ext (λid j off e b hb=>?_) rv⟩
  subst e;simp only[Zi] at rv;exact⟨by rw[hfp id rv.1];exact hb,(hr.sep.mine id rv.1 b hb).2.1,λq=>q⟩
 ·rcases hB with hB|rfl
  ·obtain⟨o,ho,ro⟩:=hr.obs id hB;refine⟨o,?_,Zy.mono ext hB (hfp id hB) (λb hb=>⟨λq=>q,(hr.sep.mine id hB b hb).2.1⟩) ro⟩
   simp only[St.newOb]
   rw[List.getElem?_append_left (List.getElem?_eq_some_iff.mp ho).1];exact ho
  ·refine⟨.row none fr ct [],by simp[St.newOb],?_⟩
   simp only[Zy]
   refine⟨⟨?_,by simp[G.one]⟩,by simp[G.one],by simp⟩
   simp only[OwC]
   exact⟨ad,0,by simp[G.one],.inl ⟨trivial,rfl,by simp[G.one]⟩⟩
 ·rcases hB with hB|rfl
  ·rw[hfp id hB];exact hr.sep.nodup id hB
  ·simp[G.one]
 ·rcases hB with hB|rfl
  ·rcases hB' with hB'|rfl
   ·rw[hfp id hB] at hb;rw[hfp id' hB'];exact hr.sep.apart id id' hB hB' hne' b hb
   ·simp[G.one]
  ·simp[G.one] at hb
 ·rcases hB with hB|rfl
  ·rw[hfp id hB] at hb;exact hr.sep.mine id hB b hb
  ·simp[G.one] at hb
def G.flt (g:G) (id:Nat):G where
 I b:=g.I b\/b∈(g.fp id).tail
 B:=g.B
 fp i:=if i=id then(g.fp id).take 1 else g.fp i
 hv:=g.hv
 sz:=g.sz
theorem G.flt_ext {X:Fix} {w:World} {g:G} (hsep:Sep X w g) (id:Nat):Ext w w g (g.flt id) (λ_=>False):=
 ⟨λb hb=>.inl hb,λ_ _ _=>rfl,λ_ _ h=>h,hsep.imm,λ_ h=>h,λ_ _=>rfl,λ_ _=>rfl⟩
theorem OwC.flat1 {P:Program} {w:World} {I J:Nat->Prop} (hJ:∀ b,I b->J b) (hT:Zax P) {x:C} {ct:TypeId} {v:Value} {F:List Nat} (hF:∀ b,b∈F->J b) (r:OwC P w I x ct v F):OwC P w J (.d x.imm) ct v []:=by
 simp only[OwC]
 exact⟨trivial,OwC.imm hJ hF hT r⟩
theorem Zf.flat {P:Program} {w:World} {I J:Nat->Prop} (hJ:∀ b,I b->J b) (hT:Zax P) {c:Array Value}:∀ {xs:List C} {cts:List TypeId} {p:Nat} {F:List Nat},(∀ b,b∈F->J b)->Zf P w I c xs cts p F->Zf P w J c (xs.map λx=>.d x.imm) cts p []
 |[],_,_,_,_,r=>by simp only[Zf] at r;simp only[List.map_nil,Zf];exact⟨trivial,r.2⟩
 |x::xs,cts,p,F,hF,r=>by
  simp only[Zf] at r;obtain⟨ct,cts',v,F1,F2,hc,rfl,hv,r1,r2⟩:=r;simp only[List.map_cons,Zf]
  exact⟨ct,cts',v,[],[],hc,rfl,hv,OwC.flat1 hJ hT (λb hb=>hF b (by simp[hb])) r1,Zf.flat hJ hT (λb hb=>hF b (by simp[hb])) r2⟩
theorem Zj.flat {P:Program} {w:World} {I J:Nat->Prop} (hJ:∀ b,I b->J b) (hT:Zax P) {c:Array Value} {cts:List TypeId} {sz:Nat}:∀ {xs:List (List C)} {p:Nat} {F:List Nat},(∀ b,b∈F->J b)->Zj P w I c cts sz xs p F->Zj P w J c cts sz (Zcq xs) p []
 |[],_,_,_,r=>by simp only[Zcq,List.map_nil,Zj]
 |x::xs,p,F,hF,r=>by
  simp only[Zj] at r;obtain⟨F1,F2,rfl,r1,r2⟩:=r;simp only[Zcq,List.map_cons,Zj]
  exact⟨[],[],rfl,Zf.flat hJ hT (λb hb=>hF b (by simp[hb])) r1,Zj.flat hJ hT (λb hb=>hF b (by simp[hb])) r2⟩
theorem OwC.flat {P:Program} {w:World} {I J:Nat->Prop} (hJ:∀ b,I b->J b) (hT:Zax P) {xs:List (List C)} {ct:TypeId} {v:Value} {F:List Nat} (hF:∀ b,b∈F.tail->J b) (r:OwC P w I (.own xs) ct v F):OwC P w J (.own (Zcq xs)) ct v (F.take 1):=by
 simp only[OwC] at r⊢;obtain⟨a,cap,hv,r⟩:=r;refine⟨a,cap,by simpa[Zcq] using hv,?_⟩
 rcases r with⟨rfl,h0,rfl⟩|⟨b,o,c,e,F',ha,ho,rfl,hb,h0,hs,hl,r⟩
 ·exact .inl ⟨rfl,h0,rfl⟩
 ·exact .inr ⟨b,o,c,e,[],ha,ho,rfl,hb,h0,hs,by simpa[Zcq] using hl,Zj.flat hJ hT (λb hb=>hF b (by simpa using hb)) r⟩
theorem Rel.flatten (hT:Zax P) (hr:Rel P X w g st a) (hs:Zal X w0 w) {id:Nat} {og:Option Nat} {f fr:Bool} {ct:TypeId} {xs:List (List C)}
  (ho:st.ob[id]? = some (.row og f ct xs)) (hB:g.B id):Rel P X w (g.flt id) (st.setOb id (.row og (f&&fr) ct (Zcq xs))) a:=by
 obtain⟨o',ho',ro⟩:=hr.obs id hB;rw[ho] at ho';injection ho' with ho';subst ho';simp only[Zy] at ro;obtain⟨⟨row,hz⟩,hfr,horg⟩:=ro;have hnd:=hr.sep.nodup id hB;have hpart:∀ b,b∈(g.fp id).take 1->b∈(g.fp id).tail->False:=by
  intro b h1 h2;cases hfp:g.fp id with
  |nil=>rw[hfp] at h1;simp at h1
  |cons x l=>
   rw[hfp] at h1 h2 hnd;simp at h1 h2;subst h1;exact(List.nodup_cons.mp hnd).1 h2
 refine Rel.update (λi=>i=id) hr hs ?_ rfl ⟨by simp[St.setOb,hr.tms.1],?_⟩ ?_ ?_
 ·refine⟨Nat.le_refl _,rfl,rfl,rfl,λ_ _ _=>rfl,λb hb=>.inl hb,λ_ h=>h,λ_ _=>rfl,λ_ _=>rfl,λi hi=>⟨λh=>h,λ_=>by simp only[G.flt];rw[if_neg hi]⟩,λi hi _=>?_,λi i' hi hi' hne=>absurd (hi.trans hi'.symm) hne,λb hb=>?_⟩
  ·subst hi;simp only[G.flt,if_pos]
   refine⟨hnd.sublist (List.take_sublist 1 _),λb hb=>?_⟩
   have hm:=List.mem_of_mem_take hb;refine⟨λq=>?_,(hr.sep.mine i hB b hm).2.1,λ_=>⟨i,rfl,hB,hm⟩⟩
   rcases q with q|q
   ·exact(hr.sep.mine i hB b hm).1 q
   ·exact hpart b hb q
  ·rcases hb with hb|hb
   ·exact⟨hr.sep.imm b hb,.inl hb⟩
   ·have hm:=List.mem_of_mem_tail hb;exact⟨(hr.sep.mine id hB b hm).2.1,.inr (.inr ⟨id,rfl,hB,hm⟩)⟩
 ·intro i t ht;rw[List.getElem?_map] at ht;obtain⟨t0,ht0,rfl⟩:=Option.map_eq_some_iff.mp ht;obtain⟨v0,hv0,_⟩:=hr.tms.2 i t0 ht0;rcases Zbv [(id,Obj.gone)] t0 with⟨hk,hsub⟩|hk
  ·have hk':Zaa id t0=t0:=hk;refine .inr (.inr ⟨by rw[hk'];exact ht0,rfl,λid' j off e=>?_⟩);rw[hk'] at e;exact λe'=>hsub id' j off e (id,.gone) Sp e'.symm
  ·exact .inl ⟨hk,v0,hv0⟩
 ·intro i hi;rw[List.getElem?_set_ne (λe=>hi e.symm)]
 ·intro i hi _;subst hi;refine⟨.row og (f&&fr) ct (Zcq xs),?_,?_⟩
  ·rw[List.getElem?_set_self (List.getElem?_eq_some_iff.mp ho).1]
  ·simp only[Zy]
   refine⟨⟨?_,hz⟩,λhf b hb=>?_,horg⟩
   ·have:=OwC.flat (J:=(g.flt i).IM X (f&&fr)) (λb hb=>⟨.inl hb.1,λe=>hb.2 (by simp at e;exact e.1)⟩) hT (λb hb=>⟨.inr hb,λe=>hfr (by simp at e;exact e.1) b (List.mem_of_mem_tail hb)⟩) row;simpa[G.flt] using this
   ·simp only[G.flt,if_pos] at hb;exact hfr (by simp at hf;exact hf.1) b (List.mem_of_mem_take hb)
theorem actT_sound (hT:Zax P) (hs:Zal X w0 w) (hr:Rel P X w g st a) {ka:KA} {t t':T} {st':St} {v:Value} (h:actT ka st t=some (t',st')) (r:Zi X w g t v):
  ∃ g',Rel P X w g' st' a/\Zi X w g' t' v/\Ext w w g g' (λ_=>False)/\(Zcp t=false->Zcp t'=false)/\(∀ (id:Nat) (og:Option Nat) (bt:TypeId) (cs:List T),st.ob[id]? = some (.box og bt cs)->st'.ob[id]? = some (.box og bt cs))/\st'.tm.length=st.tm.length/\(ZaB g st->ZaB g' st')/\(∀ b,g'.I b->g.I b\/∃ id,g.B id/\b∈g.fp id)/\(∀ id,g'.B id->∀ b,b∈g'.fp id->g.B id/\b∈g.fp id):=by
 have ext0:Ext w w g g (λ_=>False):=⟨λ_ h=>h,λ_ _ _=>rfl,λ_ _ h=>h,hr.sep.imm,λ_ h=>h,λ_ _=>rfl,λ_ _=>rfl⟩
 unfold actT at h;split at h
 ·injection h with h;injection h with e1 e2;subst e1 e2;exact⟨g,hr,r,ext0,λh=>h,λ_ _ _ _ h=>h,rfl,λh=>h,λ_ h=>.inl h,λ_ hB _ h=>⟨hB,h⟩⟩
 ·rename_i fr ct;split at h
  ·injection h with h;injection h with e1 e2;subst e1 e2;simp only[Zi] at r;obtain⟨ad,rfl⟩:=r;obtain⟨h1,h2⟩:=hr.nilRow fr ct ad;refine⟨_,h1,?_,h2,λ_=>rfl,λid og bt cs ho=>?_,rfl,λhf id hid=>?_,λ_ h=>.inl h,λid hB b hb=>?_⟩
   ·simp only[Zi]
    exact⟨.inr rfl,by simp[G.one]⟩
   ·simp only[St.newOb]
    rw[List.getElem?_append_left (List.getElem?_eq_some_iff.mp ho).1];exact ho
   ·simp only[St.newOb,List.length_append,List.length_singleton] at hid;rcases Nat.lt_or_ge id st.ob.length with q|q
    ·exact .inl (hf id q)
    ·exact .inr Om
   ·simp only[G.one] at hb;rcases hB with hB|rfl
    ·split at hb
     ·cases hb
     ·exact⟨hB,by simpa using hb⟩
    ·simp at hb
  ·rename_i id;split at h;case h_2=>cases h
   rename_i ro f z xs ho;injection h with h;injection h with e1 e2;subst e1 e2;simp only[Zi] at r;obtain⟨o',ho',rel⟩:=hr.obs id r.1;rw[ho] at ho';injection ho' with ho';subst ho';refine⟨g,hr.reset λ_=>?_,by simp only[Zi];exact r,ext0,λ_=>rfl,λi og bt cs hb=>?_,by simp[St.setOb],λhf id hid=>hf id (by simpa[St.setOb] using hid),λ_ h=>.inl h,λ_ hB _ h=>⟨hB,h⟩⟩
   ·simp only[Zy] at rel⊢;obtain⟨⟨q1,q2⟩,q3,q4⟩:=rel;exact⟨⟨OwC.weaken (λb hb=>IM_and hb) q1,q2⟩,λhf=>q3 (by simp at hf;exact hf.1),q4⟩
   ·rw[Zbj (λe=>by rw[e,ho] at hb;cases hb)];exact hb
  ·cases h
 ·rename_i fr;split at h
  ·injection h with h;injection h with e1 e2;subst e1 e2;simp only[Zi] at r;obtain⟨ad,rfl⟩:=r;refine⟨g,hr,?_,ext0,λ_=>rfl,λ_ _ _ _ h=>h,rfl,λh=>h,λ_ h=>.inl h,λ_ hB _ h=>⟨hB,h⟩⟩
   simp only[Zi,RdD]
   exact⟨ad,0,0,rfl,rfl,Nat.le_refl _,.inl trivial⟩
  ·injection h with h;injection h with e1 e2;subst e1 e2;refine⟨g,hr,?_,ext0,λ_=>rfl,λ_ _ _ _ h=>h,rfl,λh=>h,λ_ h=>.inl h,λ_ hB _ h=>⟨hB,h⟩⟩
   simp only[Zi] at r⊢;exact RdD.weaken (λb hb=>IM_and hb) r
  ·rename_i id;simp only[Zi] at r;split at h
   ·rename_i ro f z xs ho;injection h with h;injection h with e1 e2;subst e1 e2;have hr2:=Rel.freeze hT hr hs ho r.1;have hx:=G.frz_ext hr.sep (w:=w) id;refine⟨_,hr2,?_,hx,λ_=>rfl,λi og bt cs hb=>?_,by simp[St.setOb],λhf id hid=>hf id (by simpa[St.setOb] using hid),λb hb=>?_,λi hB b hb=>?_⟩
    rotate_left
    rotate_left
    ·rcases hb with hb|hb
     ·exact .inl hb
     ·exact .inr ⟨id,r.1,hb⟩
    ·simp only[G.frz] at hb;split at hb
     ·cases hb
     ·exact⟨hB,hb⟩
    ·obtain⟨o',ho',rel⟩:=hr2.obs id r.1;simp only[St.setOb] at ho';rw[List.getElem?_set_self (List.getElem?_eq_some_iff.mp ho).1] at ho';injection ho' with ho';subst ho';simp only[Zy] at rel;simp only[Zi]
     rw[r.2];exact RdD.weaken (λb hb=>IM_and hb) rel.1
    ·rw[Zbj (λe=>by rw[e,ho] at hb;cases hb)];exact hb
   ·rename_i f xs ho;injection h with h;injection h with e1 e2;subst e1 e2;obtain⟨o',ho',rel⟩:=hr.obs id r.1;rw[ho] at ho';injection ho' with ho';subst ho';simp only[Zy] at rel;refine⟨g,hr,?_,ext0,λ_=>rfl,λ_ _ _ _ h=>h,rfl,λh=>h,λ_ h=>.inl h,λ_ hB _ h=>⟨hB,h⟩⟩
    simp only[Zi]
    rw[r.2];exact RdD.weaken (λb hb=>IM_and hb) rel.1
   ·cases h
  ·cases h
 ·rename_i fr ct;split at h
  ·injection h with h;injection h with e1 e2;subst e1 e2;simp only[Zi] at r;obtain⟨ad,rfl⟩:=r;obtain⟨h1,h2⟩:=hr.nilRow fr ct ad;refine⟨_,h1,?_,h2,λ_=>rfl,λid og bt cs ho=>?_,rfl,λhf id hid=>?_,λ_ h=>.inl h,λid hB b hb=>?_⟩
   ·simp only[Zi]
    exact⟨.inr rfl,by simp[G.one]⟩
   ·simp only[St.newOb]
    rw[List.getElem?_append_left (List.getElem?_eq_some_iff.mp ho).1];exact ho
   ·simp only[St.newOb,List.length_append,List.length_singleton] at hid;rcases Nat.lt_or_ge id st.ob.length with q|q
    ·exact .inl (hf id q)
    ·exact .inr Om
   ·simp only[G.one] at hb;rcases hB with hB|rfl
    ·split at hb
     ·cases hb
     ·exact⟨hB,by simpa using hb⟩
    ·simp at hb
  ·rename_i id;split at h;case h_2=>cases h
   rename_i ro f z xs ho;injection h with h;injection h with e1 e2;subst e1 e2;simp only[Zi] at r;refine⟨_,Rel.flatten hT hr hs ho r.1,by simp only[Zi];exact r,G.flt_ext hr.sep id,λ_=>rfl,λi og bt cs hb=>?_,by simp[St.setOb],λhf i hid=>hf i (by simpa[St.setOb] using hid),λb hb=>?_,λi hB b hb=>?_⟩
   ·rw[Zbj (λe=>by rw[e,ho] at hb;cases hb)];exact hb
   ·rcases hb with hb|hb
    ·exact .inl hb
    ·exact .inr ⟨id,r.1,List.mem_of_mem_tail hb⟩
   ·simp only[G.flt] at hb;split at hb
    ·rename_i e;subst e;exact⟨hB,List.mem_of_mem_take hb⟩
    ·exact⟨hB,hb⟩
  ·cases h
theorem Rel.getD (hr:Rel P X w g st a) (i:Nat):∃ v,Zi X w g (st.tm.getD i .any) v/\∀ u,a.tmps[i]? = some u->u=v:=by
 cases h:st.tm[i]? with
 |none=>
  refine⟨(a.tmps[i]?).getD undef,by simp[List.getD,h,Zi],λu hu=>by simp[hu]⟩
 |some t=>
  obtain⟨v,hv,rv⟩:=hr.tms.2 i t h;refine⟨v,by simpa[List.getD,h] using rv,λu hu=>?_⟩
  rw[hv] at hu;injection hu with hu;exact hu.symm
theorem actSlots_sound (hT:Zax P) (hs:Zal X w0 w):∀ {l:List (Nat×KA)} {g:G} {st st':St},Rel P X w g st a->ZaB g st->actSlots l st=some st'->∃ g',Rel P X w g' st' a/\ZaB g' st'
 |[],g,st,st',hr,hf,h=>by
  simp only[actSlots] at h;injection h with h;subst h;exact⟨g,hr,hf⟩
 |(i,ka)::l,g,st,st',hr,hf,h=>by
  simp only[actSlots] at h;split at h;case h_2=>cases h
  rename_i t st1 h1;obtain⟨v,rv,hv⟩:=hr.getD i;obtain⟨g1,q1,q2,_,_,_,_,q7,_⟩:=actT_sound hT hs hr h1 rv;exact actSlots_sound hT hs (q1.setTm (i:=i) (t:=t) λu hu=>by rw[hv u hu];exact q2) (q7 hf) h
theorem Zo.set:∀ {ts:List T} {vs:List Value} {j:Nat} {x:T},Zo X w g ts vs->Zcp x=false->(∀ v,vs[j]? = some v->Zi X w g x v)->Zo X w g (ts.set j x) vs
 |[],_,_,_,r,_,_=>by simpa using r
 |t::ts,vs,j,x,r,h1,h2=>by
  simp only[Zo] at r;obtain⟨v,vs',rfl,q1,q2,q3⟩:=r;cases j with
  |zero=>
   simp only[List.set_cons_zero,Zo]
   exact⟨v,vs',rfl,h1,h2 v Sp,q3⟩
  |succ j=>
   simp only[List.set_cons_succ,Zo]
   exact⟨v,vs',rfl,q1,q2,Zo.set q3 h1 λu hu=>h2 u (by simpa using hu)⟩
theorem actCells_sound (hT:Zax P) (hs:Zal X w0 w):∀ {l:List (Nat×Nat×KA)} {g:G} {st st':St},Rel P X w g st a->ZaB g st->actCells l st=some st'->∃ g',Rel P X w g' st' a/\ZaB g' st'
 |[],g,st,st',hr,hf,h=>by
  simp only[actCells] at h;injection h with h;subst h;exact⟨g,hr,hf⟩
 |(i,j,ka)::l,g,st,st',hr,hf,h=>by
  simp only[actCells] at h;split at h;case h_2=>cases h
  rename_i id off ht;split at h;case h_2=>cases h
  rename_i og bt cs ho;split at h;case h_2=>cases h
  rename_i x st1 h1;obtain⟨v,rv,_⟩:=hr.getD i;rw[ht] at rv;simp only[Zi] at rv;obtain⟨hB,_⟩:=rv;obtain⟨o',ho',rel⟩:=hr.obs id hB;rw[ho] at ho';injection ho' with ho';subst ho';simp only[Zy] at rel;obtain⟨⟨b,c,e,hh,hfp,hb,rc⟩,horg⟩:=rel;have hx:∃ u,Zi X w g (cs.getD j .any) u/\Zcp (cs.getD j .any)=false/\∀ u',c.toList[j]? = some u'->u'=u:=by
   cases hj:cs[j]? with
   |none=>
    have:=Zo.length rc;rw[List.getElem?_eq_none_iff] at hj;refine⟨undef,by simp[List.getD,hj,Zi],by simp[List.getD,hj,Zcp],λu' hu'=>?_⟩
    have:=(List.getElem?_eq_some_iff.mp hu').1;omega
   |some t=>
    obtain⟨q1,u,q2,q3⟩:=Zo.get rc hj;refine⟨u,by simpa[List.getD,hj] using q3,by simpa[List.getD,hj] using q1,λu' hu'=>?_⟩
    rw[q2] at hu';injection hu' with hu';exact hu'.symm
  obtain⟨u,ru,hsub,huu⟩:=hx;obtain⟨g1,q1,q2,q3,q4,q5,_,q7,_⟩:=actT_sound hT hs hr h1 ru;have hB1:=q3.B id hB;refine actCells_sound hT hs (q1.reset (id:=id) (o:=.box og bt (cs.set j x)) λ_=>?_) (λi hi=>q7 hf i (by simpa[St.setOb] using hi)) h;obtain⟨o',ho',rel⟩:=q1.obs id hB1;rw[q5 id og bt cs ho] at ho';injection ho' with ho';subst ho';simp only[Zy] at rel⊢;obtain⟨⟨b',c',e',hh',hfp',hb',rc'⟩,horg'⟩:=rel;rw[q3.hv id hB,hh] at hh';injection hh' with hh';injection hh' with hh';injection hh' with hh' _ _;subst hh';rw[hb] at hb';injection hb' with hb';injection hb' with hb' _ _;subst hb';refine⟨⟨b,c,e,by rw[q3.hv id hB];exact hh,hfp',hb,Zo.set rc' (q4 hsub) λu' hu'=>by rw[huu u' hu'];exact q2⟩,horg'⟩
end
section
variable {P:Program} {X:Fix} {w0 w:World} {g:G} {st:St} {a:Act}
def G.ren (g:G) (l:List Nat):G where
 I:=g.I
 B n:=∃ id,l[n]? = some id/\g.B id
 fp n:=g.fp (l.getD n 0)
 hv n:=g.hv (l.getD n 0)
 sz n:=g.sz (l.getD n 0)
theorem idxOf_get {l:List Nat} {id n:Nat} (h:l.idxOf? id=some n):l[n]? = some id:=by
 obtain⟨h1,h2,_⟩:=List.findIdx?_eq_some_iff_getElem.mp h;rw[List.getElem?_eq_getElem h1];simpa using h2
mutual
theorem renT_sound {l:List Nat}:∀ {t t':T} {v:Value},renT l t=some t'->Zi X w g t v->Zi X w (g.ren l) t' v/\Zcp t'=Zcp t
 |.row id,t',v,h,r=>by
  simp only[renT] at h;obtain⟨n,hn,rfl⟩:=Option.map_eq_some_iff.mp h;have hg:=idxOf_get hn;simp only[Zi] at r⊢;exact⟨⟨⟨id,hg,r.1⟩,by simpa[G.ren,List.getD,hg] using r.2⟩,rfl⟩
 |.bp id off,t',v,h,r=>by
  simp only[renT] at h;obtain⟨n,hn,rfl⟩:=Option.map_eq_some_iff.mp h;have hg:=idxOf_get hn;simp only[Zi] at r⊢;exact⟨⟨⟨id,hg,r.1⟩,by simpa[G.ren,List.getD,hg] using r.2⟩,rfl⟩
 |.ep id i off,t',v,h,r=>by
  simp only[renT] at h;obtain⟨n,hn,rfl⟩:=Option.map_eq_some_iff.mp h;have hg:=idxOf_get hn;simp only[Zi] at r⊢;exact⟨⟨⟨id,hg,r.1⟩,by simpa[G.ren,List.getD,hg] using r.2⟩,rfl⟩
 |.sub id i off,t',v,h,r=>by
  simp only[renT] at h;obtain⟨n,hn,rfl⟩:=Option.map_eq_some_iff.mp h;have hg:=idxOf_get hn;simp only[Zi] at r⊢;exact⟨⟨⟨id,hg,r.1⟩,by simpa[G.ren,List.getD,hg] using r.2⟩,rfl⟩
 |.agg ts,t',v,h,r=>by
  simp only[renT] at h;obtain⟨ts',hn,rfl⟩:=Option.map_eq_some_iff.mp h;simp only[Zi] at r⊢;obtain⟨cs,hv,r⟩:=r;exact⟨⟨cs,hv,ZcF hn r⟩,rfl⟩
 |.tup ts,t',v,h,r=>by
  simp only[renT] at h;obtain⟨ts',hn,rfl⟩:=Option.map_eq_some_iff.mp h;simp only[Zi] at r⊢;obtain⟨cs,hv,r⟩:=r;exact⟨⟨cs,hv,ZcF hn r⟩,rfl⟩
 |.clo f ts,t',v,h,r=>by
  simp only[renT] at h;obtain⟨ts',hn,rfl⟩:=Option.map_eq_some_iff.mp h;simp only[Zi] at r⊢;obtain⟨cs,hv,r⟩:=r;exact⟨⟨cs,hv,ZcF hn r⟩,rfl⟩
 |.d fr x,t',v,h,r=>by
  simp only[renT] at h;injection h with h;subst h;simp only[Zi] at r⊢;exact⟨RdD.weaken (λb hb=>hb) r,trivial⟩
 |.nil,t',v,h,r=>by
  simp only[renT] at h;injection h with h;subst h;simp only[Zi] at r⊢;exact⟨r,trivial⟩
 |.ip fr cs,t',v,h,r=>by
  simp only[renT] at h;injection h with h;subst h;simp only[Zi] at r⊢;obtain⟨b,off,c,e,f,q1,q2,q3,q4⟩:=r;exact⟨⟨b,off,c,e,f,q1,q2,q3,Zt.mono ⟨λb hb=>hb,λ_ _=>rfl⟩ q4⟩,trivial⟩
 |.undef,t',v,h,r=>by
  simp only[renT] at h;injection h with h;subst h;simp only[Zi] at r⊢;exact⟨r,trivial⟩
 |.ub,t',v,h,r=>by
  simp only[renT] at h;injection h with h;subst h;simp only[Zi] at r⊢;exact⟨r,trivial⟩
 |.any,t',v,h,r=>by
  simp only[renT] at h;injection h with h;subst h;simp only[Zi]
  exact⟨trivial,trivial⟩
theorem ZcF {l:List Nat}:∀ {ts ts':List T} {vs:List Value},renTs l ts=some ts'->Zo X w g ts vs->Zo X w (g.ren l) ts' vs
 |[],ts',vs,h,r=>by
  simp only[renTs] at h;injection h with h;subst h;simpa only[Zo] using r
 |t::ts,ts',vs,h,r=>by
  simp only[renTs] at h;split at h;case h_2=>cases h
  rename_i x xs h1 h2;injection h with h;subst h;simp only[Zo] at r⊢;obtain⟨v,vs',rfl,hs,r1,r2⟩:=r;obtain⟨q1,q2⟩:=renT_sound h1 r1;exact⟨v,vs',rfl,by rw[q2];exact hs,q1,ZcF h2 r2⟩
end
theorem renTs_get {l:List Nat}:∀ {ts ts':List T},renTs l ts=some ts'->ts'.length=ts.length/\∀ (i:Nat) (t':T),ts'[i]? = some t'->∃ t,ts[i]? = some t/\renT l t=some t'
 |[],ts',h=>by
  simp only[renTs] at h;injection h with h;subst h;simp
 |t::ts,ts',h=>by
  simp only[renTs] at h;split at h;case h_2=>cases h
  rename_i x xs h1 h2;injection h with h;subst h;obtain⟨q1,q2⟩:=renTs_get h2;refine⟨by simp[q1],λi t' ht=>?_⟩
  cases i with
  |zero=>simp at ht;subst ht;exact⟨t,by simp,h1⟩
  |succ i=>simpa using q2 i t' (by simpa using ht)
theorem keepT_get {keep:List (Nat×KA)}:∀ {ts:List T} {m:Nat},(keepT keep m ts).length=ts.length/\∀ (i:Nat) (t':T),(keepT keep m ts)[i]? = some t'->∃ t,ts[i]? = some t/\(t'=t\/t'=.any)
 |[],m=>by simp[keepT]
 |t::ts,m=>by
  obtain⟨q1,q2⟩:=keepT_get (keep:=keep) (ts:=ts) (m:=m+1);simp only[keepT]
  refine⟨by simp[q1],λi t' ht=>?_⟩
  cases i with
  |zero=>
   simp at ht;subst ht;refine⟨t,by simp,?_⟩
   cases keep.any λx=>x.1==m
   ·exact .inr rfl
   ·exact .inl rfl
  |succ i=>simpa using q2 i t' (by simpa using ht)
theorem mapObs_get {l:List Nat} {ob:List Obj}:∀ {ids:List Nat} {os:List Obj},mapObs l ob ids=some os->∀ (n:Nat) (id:Nat),ids[n]? = some id->∃ o o',os[n]? = some o'/\ob[id]? = some o/\renObj l o=some o'
 |[],os,h,n,id,hn=>by simp at hn
 |i::ids,os,h,n,id,hn=>by
  simp only[mapObs] at h;split at h;case h_2=>cases h
  rename_i o ho;split at h;case h_2=>cases h
  rename_i x xs h1 h2;injection h with h;subst h;cases n with
  |zero=>simp at hn;subst hn;exact⟨o,x,by simp,ho,h1⟩
  |succ n=>simpa using mapObs_get h2 n id (by simpa using hn)
theorem mapObs_len {l:List Nat} {ob:List Obj}:∀ {ids:List Nat} {os:List Obj},mapObs l ob ids=some os->os.length=ids.length
 |[],os,h=>by
  simp only[mapObs] at h;injection h with h;subst h;rfl
 |i::ids,os,h=>by
  simp only[mapObs] at h;split at h;case h_2=>cases h
  split at h;case h_2=>cases h
  rename_i h2;injection h with h;subst h;simp[mapObs_len h2]
theorem forget_sound {keep:Keep} {st':St} (hr:Rel P X w g st a) (hf:ZaB g st) (h:forget keep st=some st'):∃ g',Rel P X w g' st' a/\ZaB g' st':=by
 unfold forget at h;simp only[] at h;split at h;case h_2=>cases h
 rename_i tm' ob' h1 h2;injection h with h;subst h
 revert h1 h2
 have hnd0:∀ l:List Nat,l.eraseDups.Nodup:=λl=>(nodup_eraseDups l.length l (Nat.le_refl _)).1
 generalize hl:(List.eraseDups _:List Nat)=l;intro h1 h2;have hnd:l.Nodup:=by rw[<- hl];exact hnd0 _
 obtain⟨k1,k2⟩:=keepT_get (keep:=keep.slots) (ts:=st.tm) (m:=0);obtain⟨r1,r2⟩:=renTs_get h1;have hfp:∀ n id,l[n]? = some id->(g.ren l).fp n=g.fp id/\(g.ren l).hv n=g.hv id/\(g.ren l).sz n=g.sz id:=by
  intro n id hn;simp[G.ren,List.getD,hn]
 refine⟨g.ren l,⟨⟨by rw[r1,k1];exact hr.tms.1,λi t' ht=>?_⟩,λn hB=>?_,⟨λn hB=>?_,λn n' hB hB' hne b hb=>?_,λn hB b hb=>?_,hr.sep.imm,hr.sep.old,hr.sep.keep⟩,hr.def_⟩,λn hn=>?_⟩
 ·obtain⟨t1,ht1,hren⟩:=r2 i t' ht;obtain⟨t0,ht0,hk⟩:=k2 i t1 ht1;obtain⟨v,hv,rv⟩:=hr.tms.2 i t0 ht0;refine⟨v,hv,(renT_sound (g:=g) hren ?_).1⟩
  rcases hk with rfl|rfl
  ·exact rv
  ·simp[Zi]
 ·obtain⟨id,hn,hB⟩:=hB;obtain⟨o,o',ho',ho,hren⟩:=mapObs_get h2 n id hn;obtain⟨o0,ho0,ro⟩:=hr.obs id hB;rw[ho] at ho0;injection ho0 with ho0;subst ho0;obtain⟨f1,f2,f3⟩:=hfp n id hn;refine⟨o',ho',?_⟩
  cases o with
  |box og bt cs=>
   simp only[renObj] at hren;obtain⟨cs',hcs,rfl⟩:=Option.map_eq_some_iff.mp hren;simp only[Zy] at ro⊢;rw[f1,f2];obtain⟨⟨b,c,e,q1,q2,q3,q4⟩,q5⟩:=ro;exact⟨⟨b,c,e,q1,q2,q3,ZcF hcs q4⟩,q5⟩
  |row og fr ct xs=>
   simp only[renObj] at hren;injection hren with hren;subst hren;simp only[Zy] at ro⊢;rw[f1,f2,f3];exact⟨⟨OwC.weaken (λb hb=>hb) ro.1.1,ro.1.2⟩,ro.2⟩
  |frz fr xs=>
   simp only[renObj] at hren;injection hren with hren;subst hren;simp only[Zy] at ro⊢;rw[f1,f2];exact⟨RdD.weaken (λb hb=>hb) ro.1,ro.2⟩
  |fbx fr cs=>
   simp only[renObj] at hren;injection hren with hren;subst hren;simp only[Zy] at ro⊢;rw[f1,f2];obtain⟨⟨b,c,e,f,q1,q2,q3,q4⟩,q5⟩:=ro;exact⟨⟨b,c,e,f,q1,q2,q3,Zt.mono ⟨λb hb=>hb,λ_ _=>rfl⟩ q4⟩,q5⟩
  |gone=>
   simp only[renObj] at hren;injection hren with hren;subst hren;simp only[Zy] at ro⊢;rw[f1,f2];exact ro
 ·obtain⟨id,hn,hB⟩:=hB;rw[(hfp n id hn).1];exact hr.sep.nodup id hB
 ·obtain⟨id,hn,hB⟩:=hB;obtain⟨id',hn',hB'⟩:=hB';rw[(hfp n id hn).1] at hb;rw[(hfp n' id' hn').1];refine hr.sep.apart id id' hB hB' (λe=>hne ?_) b hb;subst e;exact(List.getElem?_inj (List.getElem?_eq_some_iff.mp hn).1 hnd).mp (hn.trans hn'.symm)
 ·obtain⟨id,hn,hB⟩:=hB;rw[(hfp n id hn).1] at hb;exact hr.sep.mine id hB b hb
 ·simp only[] at hn;rw[mapObs_len h2] at hn;obtain⟨o,_,_,ho,_⟩:=mapObs_get h2 n l[n] (by simp[hn]);exact⟨l[n],by simp[hn],hf _ (List.getElem?_eq_some_iff.mp ho).1⟩
theorem Zdd (hT:Zax P) (hs:Zal X w0 w) {keep:Keep} {st':St} (hr:Rel P X w g st a) (hf:ZaB g st) (h:canon keep st=some st'):∃ g',Rel P X w g' st' a/\ZaB g' st':=by
 unfold canon at h;split at h;case h_2=>cases h
 rename_i st1 h1;split at h;case h_2=>cases h
 rename_i st2 h2;obtain⟨g1,q1,f1⟩:=actSlots_sound hT hs hr hf h1;obtain⟨g2,q2,f2⟩:=actCells_sound hT hs q1 f1 h2;exact forget_sound q2 f2 h
end
end Go.T
namespace Go.T
def exOf:Ex->Exit
 |.normal=>.normal
 |.exit id=>.exit id
 |.ret=>.ret
section
variable {P:Program} {E:Env} {β:Type} {r:β}
def QOK (P:Program) (X:Fix) (w0:World) (K:Ex->St->Option β) (r:β) (Q:Exit->Act->World->Prop):Prop:=
 ∀ (ex:Ex) (st':St) (g':G) (w':World) (a':Act),K ex st'=some r->Rel P X w' g' st' a'->ZaB g' st'->Zal X w0 w'->Q (exOf ex) a' w'
theorem least {p:Nat->Prop} (n:Nat) (h:p n):∃ m,p m/\∀ j,j<m->¬ p j:=by
 induction n using Nat.strongRecOn with
 |ind n ih=>
  by_cases hj:∃ j,j<n/\p j
  ·obtain⟨j,h1,h2⟩:=hj;exact ih j h1 h2
  ·exact⟨n,h,λj hj' hp=>hj ⟨j,hj',hp⟩⟩
theorem wp_rounds {c:Code} {Q:Exit->Act->World->Prop} (Inv:Nat->Act->World->Prop) {n:Nat} {a:Act} {w:World} (h0:Inv n a w)
  (round:∀ n a w,Inv n a w->c.wp P (Exit.then (λa' w'=>∃ m,m<n/\Inv m a' w') Q) a w):(Code.loop c).wp P Q a w:=by
 classical
 let μ:Act->World->Nat:=λa w=>if h:∃ m,Inv m a w/\∀ j,j<m->¬ Inv j a w then Classical.choose h else 0
 have hμ:∀ n a w,Inv n a w->Inv (μ a w) a w/\μ a w<=n:=by
  intro n a w h;have hex:=least (p:=λm=>Inv m a w) n h;have e:μ a w=Classical.choose hex:=dif_pos hex;have sp:=Classical.choose_spec hex;rw[<- e] at sp;exact⟨sp.1,Nat.le_of_not_lt λq=>sp.2 n q h⟩
 refine wp_loop (λa w=>∃ n,Inv n a w) μ ⟨n,h0⟩ λa w hI=>?_
 obtain⟨n,hn⟩:=hI;obtain⟨h1,_⟩:=hμ n a w hn;refine wp_mono (round (μ a w) a w h1) λe a' w' hq=>?_
 cases e with
 |normal=>
  obtain⟨m,hm,hi⟩:=hq;exact⟨⟨m,hi⟩,Nat.lt_of_le_of_lt (hμ m a' w' hi).2 hm⟩
 |_=>exact hq
theorem both_some {a b:Option β} (h:both a b=some r):a=some r/\b=some r:=by
 unfold both at h;split at h
 ·rename_i e;exact⟨h,by rw[<- e];exact h⟩
 ·cases h
theorem atJ_sound (hT:Zax P) {J:Nat->Option Keep} {c:Code} {go:St->Option β} {st:St} {X:Fix} {w0 w:World} {g:G} {a:Act} (h:atJ J c go st=some r) (hr:Rel P X w g st a) (hf:ZaB g st) (hs:Zal X w0 w):∃ g' s,go s=some r/\Rel P X w g' s a/\ZaB g' s:=by
 unfold atJ at h;split at h
 ·exact⟨g,st,h,hr,hf⟩
 ·split at h;case h_2=>cases h
  rename_i s hc;obtain⟨g2,hr2,hf2⟩:=Zdd hT hs hr hf hc;exact⟨g2,s,h,hr2,hf2⟩
theorem den_sound (hmix:P.follows .mixedOrders=true) (hT:Zax P) (hE:EnvOK P E) {H:Nat->Keep} {J:Nat->Option Keep} {k:Nat} (X:Fix) (w0:World):∀ (c:Code) {st:St} {K:Ex->St->Option β},den P E H J k c st K=some r->
  ∀ (g:G) (a:Act) (w:World),Rel P X w g st a->ZaB g st->Zal X w0 w->∀ Q,QOK P X w0 K r Q->c.wp P Q a w:=by
 intro c;induction c with
 |skip=>
  intro st K h g a w hr hf hs Q hQ;simp only[den] at h;exact Go.wp_skip (hQ .normal st g w a h hr hf hs)
 |region id ops draw=>
  intro st K h g a w hr hf hs Q hQ;simp only[den] at h;cases draw with
  |true=>
   simp only[cond_true] at h;cases hok:drawOk ops with
   |false=>rw[hok] at h;simp at h
   |true=>
    rw[hok] at h;simp only[cond_true] at h;obtain⟨st',h1,h2⟩:=region_draw (id0:=id) hmix hT hE hok h;exact h2 X w0 g a w hr hf hs Q λg' w' a' hr' hf' hs'=>hQ .normal st' g' w' a' h1 hr' hf' hs'
  |false=>
   simp only[cond_false] at h;obtain⟨st',h1,h2⟩:=region_seq (id:=id) hT hE h;exact h2 X w0 g a w hr hf hs Q λg' w' a' hr' hf' hs'=>hQ .normal st' g' w' a' h1 hr' hf' hs'
 |seq x y ihx ihy=>
  intro st K h g a w hr hf hs Q hQ;simp only[den] at h;refine wp_seq (ihx h g a w hr hf hs _ λex st' g' w' a' hk hr' hf' hs'=>?_);cases ex with
  |normal=>
   show y.wp P Q a' w';simp only[seqK] at hk;split at hk
   ·exact ihy hk g' a' w' hr' hf' hs' Q hQ
   ·split at hk;case h_2=>cases hk
    rename_i s hc;obtain⟨g2,hr2,hf2⟩:=Zdd hT hs' hr' hf' hc;exact ihy hk g2 a' w' hr2 hf2 hs' Q hQ
  |exit i=>exact hQ (.exit i) st' g' w' a' hk hr' hf' hs'
  |ret=>exact hQ .ret st' g' w' a' hk hr' hf' hs'
 |cond o x y ihx ihy=>
  intro st K h g a w hr hf hs Q hQ;simp only[den] at h;have hev:=hr.ev o;split at h
  ·rename_i he;rw[he] at hev;simp only[Zi] at hev;obtain⟨t,ht⟩:=hev;obtain⟨h1,h2⟩:=both_some h;refine wp_cond ht ?_;cases t with
   |true=>
    obtain⟨g2,s,h3,hr2,hf2⟩:=atJ_sound hT h1 hr hf hs;exact ihx h3 g2 a w hr2 hf2 hs Q hQ
   |false=>
    obtain⟨g2,s,h3,hr2,hf2⟩:=atJ_sound hT h2 hr hf hs;exact ihy h3 g2 a w hr2 hf2 hs Q hQ
  ·obtain⟨f,t,ht,h⟩:=asBoolT_some h;rw[ht] at hev;have hv:=Zi.scal_eq (d:=.bool t) rfl hev;refine wp_cond (t:=t) hv ?_;cases t with
   |true=>
    rw[cond_true] at h;obtain⟨g2,s,h3,hr2,hf2⟩:=atJ_sound hT h hr hf hs;exact ihx h3 g2 a w hr2 hf2 hs Q hQ
   |false=>
    rw[cond_false] at h;obtain⟨g2,s,h3,hr2,hf2⟩:=atJ_sound hT h hr hf hs;exact ihy h3 g2 a w hr2 hf2 hs Q hQ
 |block id x ih=>
  intro st K h g a w hr hf hs Q hQ;simp only[den] at h;refine wp_block (ih h g a w hr hf hs _ λex st' g' w' a' hk hr' hf' hs'=>?_);cases ex with
  |normal=>exact hQ .normal st' g' w' a' hk hr' hf' hs'
  |ret=>exact hQ .ret st' g' w' a' hk hr' hf' hs'
  |exit i=>
   simp only[blockK] at hk;show(if i=id then Q .normal a' w' else Q (.exit i) a' w')
   split at hk
   ·rename_i e;rw[if_pos e];exact hQ .normal st' g' w' a' hk hr' hf' hs'
   ·rename_i e;rw[if_neg e];exact hQ (.exit i) st' g' w' a' hk hr' hf' hs'
 |loop x ih=>
  intro st K h g a w hr hf hs Q hQ;simp only[den] at h;split at h;case h_2=>cases h
  rename_i s hc;obtain⟨g1,hr1,hf1⟩:=Zdd hT hs hr hf hc;refine wp_rounds (λn a w=>∃ s g,ZcQ (λs' K'=>den P E H J k x s' K') (H (Za6 x)) n s K=some r/\Rel P X w g s a/\ZaB g s/\Zal X w0 w) (n:=k) ⟨s,g1,h,hr1,hf1,hs⟩ λn a w hI=>?_
  obtain⟨s,g,hl,hr,hf,hs⟩:=hI;cases n with
  |zero=>simp[ZcQ] at hl
  |succ n=>
   simp only[ZcQ] at hl;refine ih hl g a w hr hf hs _ λex st' g' w' a' hk hr' hf' hs'=>?_
   cases ex with
   |normal=>
    simp only[backK] at hk;split at hk;case h_2=>cases hk
    rename_i s' hc';obtain⟨g2,hr2,hf2⟩:=Zdd hT hs' hr' hf' hc';exact⟨n,Nat.lt_succ_self n,s',g2,hk,hr2,hf2,hs'⟩
   |exit i=>exact hQ (.exit i) st' g' w' a' hk hr' hf' hs'
   |ret=>exact hQ .ret st' g' w' a' hk hr' hf' hs'
 |exit id=>
  intro st K h g a w hr hf hs Q hQ;simp only[den] at h;exact wp_exit (hQ (.exit id) st g w a h hr hf hs)
 |ret=>
  intro st K h g a w hr hf hs Q hQ;simp only[den] at h;exact wp_ret (hQ .ret st g w a h hr hf hs)
 |_=>intro st K h;simp[den] at h
end
end Go.T
namespace Go.T
def AvOk (X:Fix) (j:Nat) (vs:List Value):Prop:=
 ∀ (i:Nat) (v:Value),vs[i]? = some v->(∀ vals:List Value,v=.agg vals.toArray->∀ q,q<1000->X.av (1000*(j+i)+q)=vals[q]?)/\(∀ a len cap,v=.slice a len cap->X.av (1000*(j+i))=some v)/\∀ a,v=.pointer a->X.av (1000*(j+i))=some v
def avOf (vs:List Value) (m:Nat):Option Value:=
 (vs[m/1000]?).bind λv=>
  match v with
  |.agg cs=>cs[m%1000]?
  |v=>if m%1000=0 then some v else none
theorem avOf_ok {X:Fix} {vs:List Value} (h:X.av=avOf vs):AvOk X 0 vs:=by
 intro i v hv;rw[h];refine⟨λvals e q hq=>?_,λa len cap e=>?_,λa e=>?_⟩
 ·subst e;unfold avOf;rw[show(1000*(0+i)+q)/1000=i from by omega,show(1000*(0+i)+q)%1000=q from by omega,hv];simp
 ·subst e;unfold avOf;rw[show(1000*(0+i))/1000=i from by omega,show(1000*(0+i))%1000=0 from by omega,hv];rfl
 ·subst e;unfold avOf;rw[show(1000*(0+i))/1000=i from by omega,show(1000*(0+i))%1000=0 from by omega,hv];rfl
theorem AvOk.tail {X:Fix} {j:Nat} {v:Value} {vs:List Value} (h:AvOk X j (v::vs)):AvOk X (j+1) vs:=by
 intro i u hu;have:=h (i+1) u (by simpa using hu);rwa[show j+(i+1)=j+1+i from by omega] at this
def ZbX (P:Program):List (Mode×TypeId)->List TypeId->Bool
 |[],[]=>true
 |(m,ct)::ms,t::ts=>(m !=.own||ct==t)&&(m !=.box||ct==Zby P t)&&ZbX P ms ts
 |_,_=>false
def InOk (P:Program) (X:Fix) (w:World) (I:Nat->Prop) (ow:Bool) (N:G->Prop) (n:Nw):Prop:=
 (∃ m ct xs,n.ob=.row m ow ct xs/\OwC P w I (.own xs) ct n.hv n.fp/\(ow=true->∀ b∈n.fp,X.new b)/\n.sz=Zs P ct/\∀ j,m=some j->X.av j=some n.hv)\/
  ∃ m t l b c e,n.ob=.box (some m) t l/\n.hv=.pointer (some ⟨b,0,none⟩)/\n.fp=[b]/\w.heap[b]? = some (.cells c e (0,0))/\(∀ g,N g->Zo X w g l c.toList)/\X.av m=some n.hv
theorem InOk.mono {P:Program} {X:Fix} {w:World} {I:Nat->Prop} {ow:Bool} {N N':G->Prop} {n:Nw} (h:InOk P X w I ow N n) (hN:∀ g,N' g->N g):InOk P X w I ow N' n:=by
 rcases h with h|⟨m,t,l,b,c,e,q1,q2,q3,q4,q5,q6⟩
 ·exact .inl h
 ·exact .inr ⟨m,t,l,b,c,e,q1,q2,q3,q4,λg hg=>q5 g (hN g hg),q6⟩
theorem ZbY {P:Program} {X:Fix} {w:World} {I:Nat->Prop} {ow:Bool} {c:Array Value}:∀ {cts:List TypeId} {cs:List C} {st st':St} {ts:List T} {j p:Nat} {F:List Nat},ZbM P ow st j cts cs=some (ts,st')->Zf P w I c cs cts p F->(ow=true->∀ b∈F,X.new b)->
  (∀ (i:Nat) (v:Value),(∃ xs,cs[i]? = some (.own xs))->c[p+i]? = some v->X.av (j+i)=some v)->
  ∃ ns:List Nw,st'=⟨st.tm,st.ob++ns.map (·.ob)⟩/\F=ns.flatMap (·.fp)/\(∀ x∈ns,∀ N,InOk P X w I ow N x)/\∀ g:G,NwAt X I ow g st.ob.length ns->∃ vs,Zo X w g ts vs/\vs.length=cs.length/\∀ (j:Nat) (v:Value),vs[j]? = some v->c[p+j]? = some v
 |ct::cts,.d x::cs,st,st',ts,j,p,F,h,r,hnw,hav=>by
  simp only[ZbM] at h;split at h;case h_2=>cases h
  rename_i ts1 st1 h1;injection h with h;injection h with e1 e2;subst e1 e2;simp only[Zf] at r;obtain⟨ct',cts',v,F1,F2,e,rfl,hv,r1,r2⟩:=r;injection e with e1 e2;subst e1 e2;simp only[OwC] at r1;obtain⟨rfl,r1⟩:=r1;obtain⟨ns,a1,a2,a3,a4⟩:=ZbY (X:=X) h1 r2 (λq b hb=>hnw q b (by simp[hb])) (λi u hi hu=>by
   have:=hav (i+1) u (by simpa using hi) (by rwa[show p+(i+1)=p+1+i from by omega]);rwa[show j+(i+1)=j+1+i from by omega] at this)
  refine⟨ns,a1,by simpa using a2,a3,λg hg=>?_⟩
  obtain⟨vs,b1,b2,b3⟩:=a4 g hg;refine⟨v::vs,?_,by simp[b2],λj u hu=>?_⟩
  ·simp only[Zo]
   exact⟨v,vs,rfl,rfl,by simp only[Zi];exact RdD.weaken hg.2 r1,b1⟩
  ·cases j with
   |zero=>simp at hu;subst hu;simpa using hv
   |succ j=>
    have:=b3 j u (by simpa using hu);rwa[show p+(j+1)=p+1+j from by omega]
 |ct::cts,.own xs::cs,st,st',ts,j,p,F,h,r,hnw,hav=>by
  simp only[ZbM] at h;split at h;case h_2=>cases h
  rename_i ts1 st1 h1;injection h with h;injection h with e1 e2;subst e1 e2;simp only[Zf] at r;obtain⟨ct',cts',v,F1,F2,e,rfl,hv,r1,r2⟩:=r;injection e with e1 e2;subst e1 e2;obtain⟨ns,a1,a2,a3,a4⟩:=ZbY (X:=X) h1 r2 (λq b hb=>hnw q b (by simp[hb])) (λi u hi hu=>by
   have:=hav (i+1) u (by simpa using hi) (by rwa[show p+(i+1)=p+1+i from by omega]);rwa[show j+(i+1)=j+1+i from by omega] at this)
  refine⟨⟨.row (some j) ow ct xs,F1,v,Zs P ct⟩::ns,by rw[a1];simp[St.newOb],by simp[a2],λx hx=>?_,λg hg=>?_⟩
  ·rcases List.mem_cons.mp hx with rfl|hx
   ·exact λN=>.inl ⟨some j,ct,xs,rfl,r1,λq b hb=>hnw q b (by simp[hb]),rfl,λj' hj=>by injection hj with hj;subst hj;simpa using hav 0 v ⟨xs,by simp⟩ (by simpa using hv)⟩
   ·exact a3 x hx
  ·obtain⟨vs,b1,b2,b3⟩:=a4 g ⟨λj x hx=>by
    have:=hg.1 (j+1) x (by simpa using hx);simp only[St.newOb,List.length_append,List.length_singleton]
    rwa[show st.ob.length+1+j=st.ob.length+(j+1) from by omega],hg.2⟩
   obtain⟨hB,hh⟩:=hg.1 0 _ rfl;refine⟨v::vs,?_,by simp[b2],λj u hu=>?_⟩
   ·simp only[Zo]
    exact⟨v,vs,rfl,rfl,by simp only[Zi];exact⟨by simpa using hB,by simpa using hh.symm⟩,b1⟩
   ·cases j with
    |zero=>simp at hu;subst hu;simpa using hv
    |succ j=>
     have:=b3 j u (by simpa using hu);rwa[show p+(j+1)=p+1+j from by omega]
 |[],[],st,st',ts,j,p,F,h,r,hnw,hav=>by
  simp only[ZbM] at h;injection h with h;injection h with e1 e2;subst e1 e2;simp only[Zf] at r;obtain⟨rfl,_⟩:=r;exact⟨[],by simp,by simp,by simp,λg hg=>⟨[],by simp[Zo],rfl,by simp⟩⟩
 |_::_,[],_,_,_,_,_,_,h,_,_,_=>by simp[ZbM] at h
 |[],_::_,_,_,_,_,_,_,h,_,_,_=>by simp[ZbM] at h
def RelL (X:Fix) (w:World) (g:G) (l:List T) (vs:List Value):Prop:=l.length=vs.length/\∀ (i:Nat) (t:T),l[i]? = some t->∃ v,vs[i]? = some v/\Zi X w g t v
theorem RelL.cons {X:Fix} {w:World} {g:G} {t:T} {v:Value} {l:List T} {vs:List Value} (h:Zi X w g t v) (r:RelL X w g l vs):RelL X w g (t::l) (v::vs):=by
 refine⟨by simp[r.1],λi u hu=>?_⟩
 cases i with
 |zero=>simp at hu;subst hu;exact⟨v,by simp,h⟩
 |succ i=>simpa using r.2 i u (by simpa using hu)
theorem ZbF {P:Program} {X:Fix} {w:World} {I Q:Nat->Prop} {ow:Bool} (hpre:ow=true->∀ b,Q b->X.new b):∀ {as:List A} {ms:List (Mode×TypeId)} {tys:List TypeId} {vs:List Value} {F:List Nat} {st st':St} {l:List T} {j:Nat},Zai P ow st j tys as=some (l,st')->ZY P w I Q as ms vs F->ZbX P ms tys=true->AvOk X j vs->
  ∃ ns:List Nw,st'=⟨st.tm,st.ob++ns.map (·.ob)⟩/\F.Perm (ns.flatMap (·.fp))/\(∀ x∈ns,InOk P X w (λb=>I b/\Q b) ow (λg=>NwAt X (λb=>I b/\Q b) ow g st.ob.length ns) x)/\∀ g:G,NwAt X (λb=>I b/\Q b) ow g st.ob.length ns->(∀ b,I b->g.IM X false b)->RelL X w g l vs
 |[],[],tys,vs,F,st,st',l,j,h,r,hm,hav=>by
  cases tys with
  |cons _ _=>simp[ZbX] at hm
  |nil=>
   simp only[Zai] at h;injection h with h;injection h with e1 e2;subst e1 e2;simp only[ZY] at r;obtain⟨rfl,rfl⟩:=r;exact⟨[],by simp,by simp,by simp,λg _ _=>⟨rfl,by simp⟩⟩
 |[],_::_,_,_,_,_,_,_,_,_,r,_,_=>by simp[ZY] at r
 |_::_,[],_,_,_,_,_,_,_,_,r,_,_=>by simp[ZY] at r
 |a::as,(m,ct)::ms,tys,vs,F,st,st',l,j,h,r,hm,hav=>by
  cases tys with
  |nil=>simp[ZbX] at hm
  |cons t tys=>
   simp only[ZY] at r;obtain⟨v,vs',F1,F2,rfl,rfl,r1,r2⟩:=r;simp only[ZbX,Bool.and_eq_true] at hm;obtain⟨⟨hm1,hmb⟩,hm2⟩:=hm;have simple:∀ (tt:T) (l1:List T),F1=[]->Zai P ow st (j+1) tys as=some (l1,st')->l=tt::l1->(∀ g:G,(∀ b,I b->g.IM X false b)->Zi X w g tt v)->
     ∃ ns:List Nw,st'=⟨st.tm,st.ob++ns.map (·.ob)⟩/\(F1++F2).Perm (ns.flatMap (·.fp))/\(∀ x∈ns,InOk P X w (λb=>I b/\Q b) ow (λg=>NwAt X (λb=>I b/\Q b) ow g st.ob.length ns) x)/\∀ g:G,NwAt X (λb=>I b/\Q b) ow g st.ob.length ns->(∀ b,I b->g.IM X false b)->RelL X w g l (v::vs'):=by
    intro tt l1 hF h1 hl hr;obtain⟨ns,a1,a2,a3,a4⟩:=ZbF hpre h1 r2 hm2 hav.tail;refine⟨ns,a1,by rw[hF];simpa using a2,a3,λg hg hg2=>?_⟩
    rw[hl];exact(a4 g hg hg2).cons (hr g hg2)
   cases a with
   |d x=>
    cases m<;>simp only[ZV] at r1;obtain⟨hF,r1⟩:=r1;simp only[Zai] at h;split at h;case h_2=>cases h
    rename_i l1 st1 h1;injection h with h;injection h with e1 e2;subst e1 e2;exact simple _ l1 hF h1 rfl λg hg=>by simp only[Zi];exact RdD.weaken hg r1
   |agg xs=>
    cases m<;>simp only[ZV] at r1;obtain⟨hF,cs,rfl,hcl,r1⟩:=r1;simp only[Zai] at h;split at h;case h_2=>cases h
    rename_i l1 st1 h1;injection h with h;injection h with e1 e2;subst e1 e2;refine simple _ l1 hF h1 rfl λg hg=>?_
    simp only[Zi]
    exact⟨cs,rfl,Zo.ofCells hg hcl (λj u hu=>by simpa using hu) r1⟩
   |nil=>
    cases m<;>simp only[ZV] at r1;obtain⟨hF,r1⟩:=r1;simp only[Zai] at h;split at h;case h_2=>cases h
    rename_i l1 st1 h1;injection h with h;injection h with e1 e2;subst e1 e2;exact simple _ l1 hF h1 rfl λg hg=>by simp only[Zi];exact r1
   |ip xs=>
    cases m<;>simp only[ZV] at r1;obtain⟨hF,b,off,c,e,f,rfl,q1,q2,q3⟩:=r1;simp only[Zai] at h;split at h;case h_2=>cases h
    rename_i l1 st1 h1;injection h with h;injection h with e1 e2;subst e1 e2;refine simple _ l1 hF h1 rfl λg hg=>?_
    simp only[Zi]
    exact⟨b,off,c,e,f,rfl,hg b q1,q2,Zt.mono ⟨hg,λ_ _=>rfl⟩ q3⟩
   |box cs=>
    cases m<;>simp only[ZV] at r1;obtain⟨b,c,e,F',rfl,rfl,hb,hsz,oc,hqb⟩:=r1;have hpt:ct=Zby P t:=by simpa using hmb
    subst hpt;simp only[Zai] at h;split at h;case h_2=>cases h
    rename_i l0 st1 hbo;obtain⟨n1,rfl,a2,a3,a4⟩:=Zce (X:=X) hbo oc;subst a2;split at h;case h_2=>cases h
    rename_i l1 st2 h1;injection h with h;injection h with e1 e2;subst e1 e2;obtain⟨n2,b1,b2,b3,b4⟩:=ZbF hpre h1 r2 hm2 hav.tail;have hl1:((⟨st.tm,st.ob++n1.map (·.ob)⟩:St).newOb (.box (some (1000*j)) (Zby P t) l0)).ob.length=st.ob.length+(n1++[(⟨.box (some (1000*j)) (Zby P t) l0,[b],.pointer (some ⟨b,0,none⟩),0⟩:Nw)]).length:=by
     simp[St.newOb,Nat.add_assoc]
    rw[hl1] at b3 b4;have hsp:∀ x:Nw,n1++x::n2=(n1++[x])++n2:=λx=>by simp
    refine⟨n1++⟨.box (some (1000*j)) (Zby P t) l0,[b],.pointer (some ⟨b,0,none⟩),0⟩::n2,by rw[b1];simp[St.newOb],?_,λx hx=>?_,λg hg hgI=>?_⟩
    ·rw[List.flatMap_append,List.flatMap_cons];simp only[List.cons_append,List.nil_append]
     exact(List.Perm.cons b (List.Perm.append_left _ b2)).trans List.perm_middle.symm
    ·rcases List.mem_append.mp hx with q|q
     ·obtain⟨ct',xs',z1,z2,z3⟩:=a3 x q;exact .inl ⟨none,ct',xs',z1,z2,λq' b hb=>hpre q' b (hqb b (List.mem_flatMap.mpr ⟨x,q,hb⟩)),z3,by simp⟩
     ·rcases List.mem_cons.mp q with rfl|q
      ·refine .inr ⟨1000*j,_,l0,b,c,e,rfl,rfl,rfl,hb,λg hg=>?_,by simpa using(hav 0 _ Sp).2.2 _ rfl⟩;obtain⟨us,u1,u2,u3⟩:=a4 g hg.left;have:us=c.toList:=by
        apply List.ext_getElem?;intro i;have e:c.toList[i]? = c[i]?:=by simp
        rw[e];cases hi:us[i]? with
        |some u=>
         have:=u3 i u hi;rw[Nat.zero_add] at this;exact this.symm
        |none=>
         rw[List.getElem?_eq_none_iff] at hi;exact(Array.getElem?_eq_none_iff.mpr Om).symm
       rw[<- this];exact u1
      ·exact(b3 x q).mono λg hg=>by
        rw[hsp] at hg;exact hg.right rfl
    ·obtain⟨hB,hh⟩:=hg.1 n1.length ⟨.box (some (1000*j)) (Zby P t) l0,[b],.pointer (some ⟨b,0,none⟩),0⟩ Sp;refine(b4 g (by rw[hsp] at hg;exact hg.right rfl) hgI).cons ?_;simp only[Zi,List.length_append,List.length_map]
     exact⟨hB,b,hh,rfl⟩
   |own gg cs=>
    have hmo:m=.own:=by
     cases m<;>cases gg<;>simp only[ZV] at r1
     all_goals rfl
    subst hmo;have htt:ct=t:=by simpa using hm1
    subst htt;simp only[Zai] at h;split at h;case isFalse=>cases h
    rename_i hck;obtain⟨hlen,hflat⟩:=hck;split at h;case h_2=>cases h
    rename_i cells st1 h1;split at h;case h_2=>cases h
    rename_i l1 st2 h2;injection h with h;injection h with e1 e2;subst e1 e2;have hav0:=hav 0 v Sp;cases gg with
    |true=>
     simp only[ZV] at r1;obtain⟨vals,rfl,hvl,oc,hqb⟩:=r1;obtain⟨n1,rfl,a2,a3,a4⟩:=ZbY (X:=X) h1 oc (λq b hb=>hpre q b (hqb b hb)) (λi u hi hu=>by
      obtain⟨xs,hi⟩:=hi;have hi:=(List.getElem?_eq_some_iff.mp hi).1;have:=hav0.1 vals rfl i Om;rw[Nat.add_zero] at this;rw[this];simpa using hu)
     obtain⟨n2,b1,b2,b3,b4⟩:=ZbF hpre h2 r2 hm2 hav.tail;refine⟨n1++n2,by rw[b1];simp,by rw[a2,List.flatMap_append];exact List.Perm.append_left _ b2,λx hx=>?_,λg hg hgI=>?_⟩
     ·rcases List.mem_append.mp hx with q|q
      ·exact a3 x q _
      ·exact(b3 x q).mono λg hg=>hg.right Sp
     ·have hg1:NwAt X (λb=>I b/\Q b) ow g st.ob.length n1:=⟨λj x hx=>hg.1 j x (by rw[List.getElem?_append_left (List.getElem?_eq_some_iff.mp hx).1];exact hx),hg.2⟩
      have hg2:NwAt X (λb=>I b/\Q b) ow g (st.ob++n1.map (·.ob)).length n2:=⟨λj x hx=>by
       have:=hg.1 (n1.length+j) x (by rw[List.getElem?_append_right Om];simpa using hx);simpa[Nat.add_assoc] using this,hg.2⟩
      obtain⟨us,c1,c2,c3⟩:=a4 g hg1;refine(b4 g hg2 hgI).cons ?_;simp only[cond_true,Zi]
      have:us=vals:=by
       apply List.ext_getElem?;intro j;cases hj:us[j]? with
       |some u=>have:=c3 j u hj;simpa using this.symm
       |none=>
        rw[List.getElem?_eq_none_iff] at hj;rw[List.getElem?_eq_none Om]
      rw[<- this];exact⟨us,rfl,c1⟩
    |false=>
     have hflat:=hflat.resolve_left Sp;rw[hflat] at h1;simp only[ZV] at r1;obtain⟨r1,hqb⟩:=r1;have hcs:cs.length=1:=by simpa using Zf.length r1
     obtain⟨n1,rfl,a2,a3,a4⟩:=ZbY (X:=X) h1 r1 (λq b hb=>hpre q b (hqb b hb)) (λi u hi hu=>by
      obtain⟨xs,hi⟩:=hi;have hi1:=(List.getElem?_eq_some_iff.mp hi).1;have hi0:i=0:=by omega
      subst hi0;simp at hu;subst hu;simp only[Nat.add_zero] at hav0⊢
      match cs,hcs,hi with
      |[c0],_,hi=>
       simp at hi;subst hi;simp only[Zf,OwC] at r1;obtain⟨_,_,v',_,_,_,_,hv',⟨a,cap,hvv,_⟩,_⟩:=r1;simp at hv';subst hv';exact hav0.2.1 _ _ _ hvv)
     obtain⟨n2,b1,b2,b3,b4⟩:=ZbF hpre h2 r2 hm2 hav.tail;refine⟨n1++n2,by rw[b1];simp,by rw[a2,List.flatMap_append];exact List.Perm.append_left _ b2,λx hx=>?_,λg hg hgI=>?_⟩
     ·rcases List.mem_append.mp hx with q|q
      ·exact a3 x q _
      ·exact(b3 x q).mono λg hg=>hg.right Sp
     ·have hg1:NwAt X (λb=>I b/\Q b) ow g st.ob.length n1:=⟨λj x hx=>hg.1 j x (by rw[List.getElem?_append_left (List.getElem?_eq_some_iff.mp hx).1];exact hx),hg.2⟩
      have hg2:NwAt X (λb=>I b/\Q b) ow g (st.ob++n1.map (·.ob)).length n2:=⟨λj x hx=>by
       have:=hg.1 (n1.length+j) x (by rw[List.getElem?_append_right Om];simpa using hx);simpa[Nat.add_assoc] using this,hg.2⟩
      obtain⟨us,c1,c2,c3⟩:=a4 g hg1;refine(b4 g hg2 hgI).cons ?_;simp only[cond_false]
      cases cells with
      |nil=>simp[Zi]
      |cons t0 cells=>
       simp only[Zo] at c1;obtain⟨u,us',rfl,_,q,_⟩:=c1;have:=c3 0 u Sp;simp at this;subst this;exact q
end Go.T
