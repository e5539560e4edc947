/- Elements taken out of own rows,with the rows in them. -/
import Derived.Test.YtlobhlnahhjpjaaGreatTCall5
set_option linter.unusedVariables false
set_option linter.unusedSimpArgs false
namespace Go.T
section
variable {P:Program} {w:World} {I:Nat->Prop}
theorem Za.taken {c:Array Value}:∀ {xs:List C} {cts:List TypeId} {p:Nat} {F:List Nat},Za P w I c xs cts p F->Za P w I c (xs.map C.gone) cts p []
 |[],_,_,_,r=>by simp only[Za] at r;simp only[List.map_nil,Za];exact⟨trivial,r.2⟩
 |x::xs,cts,p,F,r=>by
  simp only[Za] at r
  obtain⟨ct,cts',v,F1,F2,rfl,rfl,hv,r1,r2⟩:=r
  simp only[List.map_cons,Za]
  refine⟨ct,cts',v,[],[],rfl,rfl,hv,?_,Za.taken r2⟩
  cases x with
  |d y=>simp only[OwC] at r1;simp only[C.gone,OwC];exact⟨trivial,r1.2⟩
  |own ys=>obtain⟨a,cap,rfl,_⟩:=OwC.row r1;simp only[C.gone,OwC,RdD];exact⟨trivial,_,_,_,rfl⟩
theorem Ze.taken {c:Array Value} {cts:List TypeId} {sz:Nat}:∀ {xs:List (List C)} {p i:Nat} {F:List Nat} {row:List C},Ze P w I c cts sz xs p F->xs[i]? = some row->
  ∃ A R B,F=A++R++B/\Za P w I c row cts (p+i*sz) R/\Ze P w I c cts sz (xs.modify i λr=>r.map C.gone) p (A++B)
 |[],_,_,_,_,_,h=>by simp at h
 |x0::xs,p,i,F,row,r,h=>by
  simp only[Ze] at r
  obtain⟨F1,F2,rfl,r1,r2⟩:=r
  cases i with
  |zero=>
   simp at h;subst h
   refine⟨[],F1,F2,by simp,by simpa using r1,?_⟩
   simp only[List.modify_zero_cons,Ze]
   exact⟨[],F2,rfl,Za.taken r1,r2⟩
  |succ i=>
   obtain⟨A,R,B,rfl,h1,h2⟩:=Ze.taken r2 (by simpa using h)
   refine⟨F1++A,R,B,by simp,by rwa[show p+(i+1)*sz=p+sz+i*sz from by rw[Nat.succ_mul];omega],?_⟩
   simp only[List.modify_succ_cons,Ze]
   exact⟨F1,A++B,by simp,r1,h2⟩
theorem ownCells_some {β:Type}:∀ {qs:List CK} {l:List C} {k:List C->Option β} {y:β},ownCells qs l k=some y->k l=some y
 |[],l,k,y,h=>by simp only[ownCells] at h;obtain⟨rfl,h⟩:=atEnd_some h;exact h
 |q::qs,l,k,y,h=>by
  cases q
  case sl=>
   simp only[ownCells] at h
   obtain⟨c,r,rfl,h1⟩:=Zce h
   obtain⟨xs,rfl,h2⟩:=Zcx h1
   exact ownCells_some (k:=λcs=>k (.own xs::cs)) h2
  all_goals
   simp only[ownCells] at h
   obtain⟨c,r,rfl,h1⟩:=Zce h
   obtain⟨x,rfl,h2⟩:=cD_some h1
   exact ownCells_some (k:=λcs=>k (.d x::cs)) (asKind_some (k:=λy=>ownCells qs r λcs=>k (.d y::cs)) h2)
end
section
variable {P:Program} {E:Env} {st:St} {β:Type} {k:St->Option β} {r:β} {dst:Option Nat} {ty:TypeId} {pos:String} {af:Array Edge} {gd:Option (Nat×Bool)}
theorem opTake {t:TypeId} {x:Operand} (hT:Zar P) {id i off:Nat} (hmv:mvTy t=true) (hx:st.ev x=.ep id i off) (h:takeDen P st t id i off (λu st'=>k (st'.put dst u))=some r):ZD P E ⟨dst,.load t x,ty,pos,af,gd⟩ st k r:=by
 unfold takeDen at h
 split at h
 case h_2=>cases h
 rename_i og fr rt xs ho
 split at h
 case isFalse=>cases h
 rename_i hck
 obtain⟨rfl,hu,h0,hagg,hft,hel,hsz⟩:=hck
 obtain⟨c,hc,h⟩:=atNat_some h
 have h:=ownCells_some h
 split at h
 case h_2=>cases h
 rename_i ts st1 hbo
 have hlt:=(List.getElem?_eq_some_iff.mp ho).1
 let row':Obj:=.row og fr rt (xs.modify i λc=>c.map C.gone)
 obtain⟨news,hst1⟩:=bornC_syn hbo
 refine⟨⟨.agg ts,[(id,row')],news⟩,?_,by simpa using hlt,λ_ p hp=>?_,λX w0=>?_⟩
 ·have:st.app dst ⟨.agg ts,[(id,row')],news⟩=st1.put dst (.agg ts):=by
   rw[hst1]
   simp only[St.app,St.setOb];rfl
  rw[this];exact h
 ·simp at hp;subst hp;exact List.mem_append_left _ (by simp[storeAt,hx,hmv])
 refine OpOk.make (by simpa using hlt) λstL g a w hr hs hR hl hn=>?_
 have mem_x:x∈(Op.load t x).operands.toList:=by simp[Op.operands]
 obtain⟨_,hB,⟨row,hgs⟩,hfr,horg⟩:=hl.obj hr (ZaS (o:=⟨dst,.load t x,ty,pos,af,gd⟩) mem_x rfl id (by rw[hx];simp[ZE])) ho
 have rx:=hR x mem_x
 rw[hx] at rx
 simp only[Zb] at rx
 obtain⟨_,b,o,len,cap,hh,hi,hvx⟩:=rx
 obtain⟨a',cap',hv',hrow⟩:=OwC.row row
 rw[hh] at hv'
 injection hv' with e1 e2 e3
 subst e1 e2 e3
 rcases hrow with⟨rfl,_,_⟩|⟨b',o',cc,e,F',ea,ho0,hF,hb',hz,hcs,hle,rows⟩
 ·simp at hi
 injection ea with ea;injection ea with ea eo _
 subst ea eo
 obtain⟨A,R,B,hABR,hcell,hrest⟩:=Ze.taken rows hc
 obtain⟨ns,n1,n2,n3,n4⟩:=Zci (X:=X) hbo hcell
 have hnews:news=ns.map (·.ob):=by
  rw[hst1] at n1
  have:=congrArg St.ob n1
  simp only[St.setOb] at this
  exact List.append_cancel_left this
 have hln:news.length=ns.length:=by rw[hnews,List.length_map]
 subst hnews
 have hobl:(st.setOb id row').ob.length=st.ob.length:=by simp[St.setOb]
 have hcl:c.length=P.cellsOf t:=by rw[Za.length hcell,hel,hsz]
 -- the blocks
 have hnd0:=hr.sep.nodup id hB
 have hmine:=hr.sep.mine id hB
 have hperm:(b::F').Perm ((b::(A++B))++R):=by
  rw[hABR,List.cons_append]
  refine List.Perm.cons b ?_
  rw[List.append_assoc,List.append_assoc]
  exact List.Perm.append_left A List.perm_append_comm
 let tabN:List (Nat×List Nat):=(List.range ns.length).map λj=>(st.ob.length+j,(ns.map (·.fp)).getD j [])
 let tab:List (Nat×List Nat):=(id,b::(A++B))::tabN
 have htabN:tabN.flatMap (·.2)=R:=by
  rw[n2,List.flatMap_map]
  simp only[tabN,List.flatMap_map]
  have:∀ (l:List Nw),(List.range l.length).flatMap (λj=>(l.map (·.fp)).getD j [])=l.flatMap (·.fp):=by
   intro l
   induction l with
   |nil=>rfl
   |cons y l ih=>
    rw[List.length_cons,List.range_succ_eq_map,List.flatMap_cons,List.flatMap_map,List.flatMap_cons,<- ih]
    simp
  exact this ns
 have htab:tab.flatMap (·.2)=(b::(A++B))++R:=by
  show(b::(A++B))++tabN.flatMap (·.2)=_
  rw[htabN]
 let U:=Eff.U ⟨.agg ts,[(id,row')],ns.map (·.ob)⟩ st.ob.length
 have hUiff:∀ j,U j↔j∈tab.map (·.1):=by
  intro j
  simp only[U,Eff.U,tab,tabN,List.map_cons,List.map_map,List.mem_cons,List.mem_map,List.mem_range,List.length_map,List.not_mem_nil,or_false]
  constructor
  ·rintro(⟨p,rfl,rfl⟩|⟨q1,q2⟩)
   ·exact .inl rfl
   ·exact .inr ⟨j-st.ob.length,by omega,by simp only[Function.comp];omega⟩
  ·rintro(rfl|⟨m,q1,rfl⟩)
   ·exact .inl ⟨_,rfl,rfl⟩
   ·exact .inr (by simp only[Function.comp];omega)
 have hpool:∀ q,q∈g.fp id->Pool g U q:=λq hq=>⟨id,(hUiff id).mpr (by simp[tab]),hB,hq⟩
 let g':G:=g.tab (λ_=>False) st.ob.length ns.length tab (λj=>(ns.map (·.hv)).getD (j-st.ob.length) undef) (λj=>(ns.map (·.sz)).getD (j-st.ob.length) 0)
 have hkeys:(tab.map (·.1)).Nodup:=by
  simp only[tab,tabN,List.map_cons,List.map_map]
  refine List.nodup_cons.mpr ⟨λhm=>?_,?_⟩
  ·obtain⟨m,_,q⟩:=List.mem_map.mp hm
   simp only[Function.comp] at q
   omega
  ·refine List.Pairwise.map _ (λa b hab=>?_) List.nodup_range
   simp only[Function.comp]
   omega
 have hfpin:∀ q,q∈tab.flatMap (·.2)->q∈g.fp id:=λq hq=>by
  rw[htab] at hq
  rw[hF]
  exact hperm.mem_iff.mpr hq
 have turn:Turn X w w g g' U:=by
  refine Turn.tab hr.sep hUiff (λj q1 q2=>⟨.inr ⟨q1,by simpa using q2⟩,?_⟩) (Nat.le_refl _) rfl rfl rfl (λ_ _ _=>rfl) hkeys ?_ (λq hq=>?_) (λ_ q=>q.elim)
  ·have:=hn (j-st.ob.length) (by simp;omega)
   rwa[show st.ob.length+(j-st.ob.length)=j from by omega] at this
  ·rw[htab]
   rw[hF] at hnd0
   exact hperm.nodup_iff.mp hnd0
  ·have:=hmine q (hfpin q hq)
   exact⟨λz=>z,this.2.1,λ_=>hpool q (hfpin q hq)⟩
 have hkeepsR:∀ q,q∈R->q∈g.fp id:=λq hq=>by rw[hF];exact hperm.mem_iff.mpr (List.mem_append_right _ hq)
 have himp:∀ q,g.IM X fr q->g'.IM X fr q:=λq hq=>⟨.inl hq.1,hq.2⟩
 have hnil:∀ j,st.ob.length<=j->id≠j:=λj hj e=>by omega
 have hlook:∀ j,j<ns.length->tab.lookup (st.ob.length+j)=some ((ns.map (·.fp)).getD j []):=by
  intro j hj
  have hmem:(st.ob.length+j,(ns.map (·.fp)).getD j [])∈tab:=List.mem_cons_of_mem _ (List.mem_map.mpr ⟨j,List.mem_range.mpr hj,rfl⟩)
  obtain⟨F,hF⟩:=lookup_some (l:=tab) (id:=st.ob.length+j) (List.mem_map.mpr ⟨_,hmem,rfl⟩)
  have h2:=lookup_mem hF
  have:∀ (l:List (Nat×List Nat)),(l.map (·.1)).Nodup->∀ {i F G},(i,F)∈l->(i,G)∈l->F=G:=by
   intro l
   induction l with
   |nil=>intro _ i F G h;cases h
   |cons p l ih=>
    intro hnd i F G h1 h2
    rw[List.map_cons] at hnd
    obtain⟨hn1,hn2⟩:=List.nodup_cons.mp hnd
    rcases List.mem_cons.mp h1 with e1|h1'<;>rcases List.mem_cons.mp h2 with e2|h2'
    ·rw[<- e1] at e2;injection e2 with _ e2;exact e2.symm
    ·exact absurd (List.mem_map.mpr ⟨_,h2',by rw[<- e1]⟩) hn1
    ·exact absurd (List.mem_map.mpr ⟨_,h1',by rw[<- e2]⟩) hn1
    ·exact ih hn2 h1' h2'
  rw[hF,this tab hkeys h2 hmem]
 have hB':∀ j,j<ns.length->g'.B (st.ob.length+j):=λj hj=>.inr (by omega)
 have hnsat:∀ j (y:Nw),ns[j]? = some y->g'.hv (st.ob.length+j)=y.hv/\g'.sz (st.ob.length+j)=y.sz/\g'.fp (st.ob.length+j)=y.fp:=by
  intro j y hy
  have hj:=(List.getElem?_eq_some_iff.mp hy).1
  refine⟨?_,?_,?_⟩
  ·simp only[g',G.tab]
   rw[if_pos (by omega),Nat.add_sub_cancel_left,List.getD_eq_getElem?_getD,List.getElem?_map,hy]
   rfl
  ·simp only[g',G.tab]
   rw[if_pos (by omega),Nat.add_sub_cancel_left,List.getD_eq_getElem?_getD,List.getElem?_map,hy]
   rfl
  ·simp only[g',G.tab]
   rw[hlook j hj,List.getD_eq_getElem?_getD,List.getElem?_map,hy]
   rfl
 obtain⟨vs,v1,v2,v3⟩:=n4 g' ⟨λj y hy=>by
  rw[hobl]
  exact⟨hB' j (List.getElem?_eq_some_iff.mp hy).1,(hnsat j y hy).1⟩,himp⟩
 refine⟨_,w,g',ZaF (v:=.agg vs.toArray) ?_,turn,λj=>?_,λp hp _=>?_,λj ob hob=>?_,?_⟩
 ·show(Instr.loadAt t (a.eval x)).run P w=_
  rw[hvx,hgs]
  have hvl:vs.length=P.cellsOf t:=by rw[v2,hcl]
  have:=Za7 (P:=P) (t:=t) (off:=o+(i*Zl P rt+0)) hb' hu vs hvl h0 (λq=>by rw[hagg] at q;cases q) (λj v hv=>by
   have:=v3 j v hv
   rwa[show o+(i*Zl P rt+0)+j=o+i*Zl P rt+j from by omega])
  rw[this,if_pos hagg]
 ·simp[g',G.tab]
 ·simp at hp
  subst hp
  simp only[row',Zn]
  have hfpid:g'.fp id=b::(A++B):=by simp[g',G.tab,tab]
  have hhv:g'.hv id=g.hv id:=by simp only[g',G.tab];rw[if_neg (by omega)]
  have hszi:g'.sz id=g.sz id:=by simp only[g',G.tab];rw[if_neg (by omega)]
  rw[hfpid,hhv,hszi]
  refine⟨⟨?_,hgs⟩,λq bb hbb=>hfr q bb ?_,horg⟩
  ·simp only[OwC]
   refine⟨some ⟨b,o,none⟩,cap,by rw[hh,List.length_modify],.inr ⟨b,o,cc,e,A++B,rfl,ho0,rfl,hb',hz,hcs,by rw[List.length_modify];exact hle,?_⟩⟩
   exact Ze.mono ⟨⟨himp,λ_ _=>rfl⟩,λ_ _=>rfl⟩ hrest
  ·rw[hF]
   exact hperm.mem_iff.mpr (List.mem_append_left _ hbb)
 ·rw[List.getElem?_map] at hob
  obtain⟨y,hy,rfl⟩:=Option.map_eq_some_iff.mp hob
  obtain⟨ct,ys,q1,q2,q3⟩:=n3 y (List.mem_of_getElem? hy)
  obtain⟨h1,h2,h3⟩:=hnsat j y hy
  rw[q1]
  simp only[Zn]
  rw[h1,h2,h3]
  refine⟨⟨OwC.mono ⟨⟨himp,λ_ _=>rfl⟩,λ_ _=>rfl⟩ q2,q3⟩,λq bb hbb=>hfr q bb (hkeepsR bb ?_),λ_ q=>by cases q⟩
  rw[n2]
  exact List.mem_flatMap.mpr ⟨y,List.mem_of_getElem? hy,hbb⟩
 ·simp only[Zb]
  exact⟨vs,rfl,v1⟩
end
end Go.T
