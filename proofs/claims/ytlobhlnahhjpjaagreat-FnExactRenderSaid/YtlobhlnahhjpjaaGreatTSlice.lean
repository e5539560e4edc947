/- Cuts; and rows that freeze. -/
import Derived.Test.YtlobhlnahhjpjaaGreatTMove
set_option linter.unusedVariables false
set_option linter.unusedSimpArgs false
namespace Go.T
def G.frz (g:G) (id:Nat):G where
 I b:=g.I b\/b∈g.fp id
 B:=g.B
 fp i:=if i=id then[] else g.fp i
 hv:=g.hv
 sz:=g.sz
theorem G.frz_ext {X:Fix} {w:World} {g:G} (hsep:Sep X w g) (id:Nat):Ext w w g (g.frz id) (λ_=>False):=
 ⟨λb hb=>.inl hb,λ_ _ _=>rfl,λ_ _ h=>h,hsep.imm,λ_ h=>h,λ_ _=>rfl,λ_ _=>rfl⟩
theorem Rel.freeze {P:Program} {X:Fix} {w0 w:World} {g:G} {st:St} {a:Act} (hT:Zar P) (hr:Rel P X w g st a) (hs:Zac X w0 w) {id:Nat} {og:Option Nat} {fr:Bool} {ct:TypeId} {xs:List (List C)}
  (ho:st.ob[id]? = some (.row og fr ct xs)) (hB:g.B id):Rel P X w (g.frz id) (st.setOb id (.frz fr (C.immRows xs))) a:=by
 obtain⟨o',ho',ro⟩:=hr.obs id hB
 rw[ho] at ho'
 injection ho' with ho'
 subst ho'
 simp only[Zn] at ro
 obtain⟨⟨row,hz⟩,hfr,horg⟩:=ro
 refine Rel.update (λi=>i=id) hr hs ?_ rfl ⟨by simp[St.setOb,hr.tms.1],?_⟩ ?_ ?_
 ·refine⟨Nat.le_refl _,rfl,rfl,rfl,λ_ _ _=>rfl,λb hb=>.inl hb,λ_ h=>h,λ_ _=>rfl,λ_ _=>rfl,λi hi=>⟨λh=>h,λ_=>by simp only[G.frz];rw[if_neg hi]⟩,λi hi _=>by simp only[G.frz];rw[if_pos hi];simp,λi i' hi hi' hne=>absurd (hi.trans hi'.symm) hne,λb hb=>?_⟩
  rcases hb with hb|hb
  ·exact⟨hr.sep.imm b hb,.inl hb⟩
  ·exact⟨(hr.sep.mine id hB b hb).2.1,.inr (.inr ⟨id,rfl,hB,hb⟩)⟩
 ·intro i t ht
  rw[List.getElem?_map] at ht
  obtain⟨t0,ht0,rfl⟩:=Option.map_eq_some_iff.mp ht
  obtain⟨v0,hv0,_⟩:=hr.tms.2 i t0 ht0
  rcases Zbi [(id,Obj.gone)] t0 with⟨hk,hsub⟩|hk
  ·have hk':ZX id t0=t0:=hk
   refine .inr (.inr ⟨by rw[hk'];exact ht0,rfl,λid' j off e=>?_⟩)
   rw[hk'] at e
   exact λe'=>hsub id' j off e (id,.gone) (by simp) e'.symm
  ·exact .inl ⟨hk,v0,hv0⟩
 ·intro i hi
  rw[List.getElem?_set_ne (λe=>hi e.symm)]
 ·intro i hi _
  subst hi
  refine⟨.frz fr (C.immRows xs),?_,?_⟩
  ·rw[List.getElem?_set_self (List.getElem?_eq_some_iff.mp ho).1]
  ·simp only[Zn]
   refine⟨?_,by simp[G.frz]⟩
   have:=OwC.imm (J:=(g.frz i).IM X fr) (λb hb=>⟨.inl hb.1,hb.2⟩) (λb hb=>⟨.inr hb,λe=>hfr e b hb⟩) hT row
   exact(by simpa only[C.imm] using this:RdD w _ _ (g.hv i))
theorem ZC.drop {w:World} {I:Nat->Prop} {c:Array Value} {sz:Nat}:∀ {l:Nat} {xs:List (List D)} {p:Nat},ZC w I c sz p xs->ZC w I c sz (p+l*sz) (xs.drop l)
 |0,xs,p,r=>by simpa using r
 |l+1,[],p,r=>by simp[ZC]
 |l+1,x::xs,p,r=>by
  simp only[ZC] at r
  have:=ZC.drop (l:=l) r.2
  rw[show p+(l+1)*sz=p+sz+l*sz from by rw[Nat.succ_mul];omega]
  simpa using this
theorem ZC.take {w:World} {I:Nat->Prop} {c:Array Value} {sz:Nat}:∀ {n:Nat} {xs:List (List D)} {p:Nat},ZC w I c sz p xs->ZC w I c sz p (xs.take n)
 |0,xs,p,r=>by simp[ZC]
 |n+1,[],p,r=>by simp[ZC]
 |n+1,x::xs,p,r=>by
  simp only[List.take_succ_cons,ZC] at r⊢
  exact⟨r.1,ZC.take r.2⟩
theorem RdD.cut {w:World} {I:Nat->Prop} {xs:List (List D)} {a:Option Addr} {len cap sz l h:Nat} (r:RdD w I (.sl xs) (.slice a len cap)) (hok:Zbk sz xs) (h1:l<=h) (h2:h<=xs.length):
  len=xs.length/\len<=cap/\RdD w I (.sl ((xs.drop l).take (h-l))) (.slice (if cap=l then a else a.map (·.add (l*sz))) (h-l) (cap-l)):=by
 simp only[RdD] at r
 obtain⟨a',len',cap',hv,hl,hc,r⟩:=r
 injection hv with e1 e2 e3
 subst e1 e2 e3
 refine⟨hl,hc,?_⟩
 simp only[RdD]
 have hlen:((xs.drop l).take (h-l)).length=h-l:=by simp;omega
 refine⟨_,_,_,rfl,hlen.symm,by omega,?_⟩
 by_cases hne:h-l=0
 ·exact .inl (List.eq_nil_of_length_eq_zero (by omega))
 ·right
  rcases r with rfl|⟨b,off,c,e,fr,sz',rfl,hI,hb,h0,rows⟩
  ·simp at h2;omega
  ·have hx0:0<xs.length:=by omega
   have hsz:sz'=sz:=by
    have g1:=(ZC.get rows (i:=0) (x:=xs[0]) (by simp[hx0])).1
    have g2:=hok xs[0] (List.getElem_mem hx0)
    omega
   subst hsz
   refine⟨b,off+l*sz',c,e,fr,sz',?_,hI,hb,h0,ZC.take (ZC.drop rows)⟩
   rw[if_neg (by omega)]
   simp only[Option.map_some,Zb8]
theorem ZaU {β:Type} {x:Option T} {d:Int} {k:Int->Option β} {y:β} (h:ZbL x d k=some y):∃ n,k n=some y/\(x=none/\n=d\/∃ f q,x=some (.d f (.int q n))):=by
 unfold ZbL at h
 split at h
 ·obtain⟨f,q,n,rfl,h'⟩:=Zcl h
  exact⟨n,h',.inr ⟨f,q,rfl⟩⟩
 ·exact⟨d,h,.inl ⟨rfl,rfl⟩⟩
def BoundV (x:Option Value) (d n:Int):Prop:=x=none/\n=d\/∃ q,x=some (.int q n)
theorem boundV {X:Fix} {w:World} {g:G} {st:St} {a:Act} {lo:Option Operand} {d n:Int} (h:lo.map st.ev=none/\n=d\/∃ f q,lo.map st.ev=some (.d f (.int q n))) (hR:∀ x,lo=some x->Zb X w g (st.ev x) (a.eval x)):BoundV (lo.map a.eval) d n:=by
 cases lo with
 |none=>
  rcases h with⟨_,h⟩|⟨f,q,h⟩
  ·exact .inl ⟨rfl,h⟩
  ·simp at h
 |some x=>
  rcases h with⟨h,_⟩|⟨f,q,h⟩
  ·simp at h
  ·simp at h
   have:=Zb.scal_eq (d:=.int q n) rfl (h▸hR x rfl)
   exact .inr ⟨q,by simp[this,Zav]⟩
theorem ZcM {P:Program} {t e:TypeId} (hu:P.underlying t=some (.slice e)) (h0:0<P.cellsOf e) {a:Option Addr} {len cap:Nat} {lo hi:Option Value} {l h:Int} (hlo:BoundV lo 0 l) (hhi:BoundV hi len h) (h1:0<=l) (h2:l<=h) (h3:h<=cap) (w:World):
  (Instr.sliceAt t (.slice a len cap) lo hi none).run P w=.ok (.slice (if cap=l.toNat then a else a.map (·.add (l.toNat*P.cellsOf e))) (h.toNat-l.toNat) (cap-l.toNat)) w:=by
 obtain⟨i,hi',hs⟩:=Zb7 h0
 obtain⟨ln,rfl⟩:∃ m:Nat,l=m:=⟨l.toNat,by omega⟩
 obtain⟨hn,rfl⟩:∃ m:Nat,h=m:=⟨h.toNat,by omega⟩
 have g1:(ln:Int)<=hn:=h2
 have g2:(hn:Int)<=cap:=h3
 have g3:ln<=hn:=by omega
 have g4:hn<=cap:=by omega
 rcases hlo with⟨rfl,el⟩|⟨q,rfl⟩<;>rcases hhi with⟨rfl,eh⟩|⟨q',rfl⟩
 ·have:ln=0:=by omega
  have:hn=len:=by omega
  subst_vars
  simp[Instr.sliceAt,Instr.slice,Instr.sliceBounds,Instr.sliceBound,Zg hu,asIntOf,sizeOf,typeInfo,hi',hs]
 ·have:ln=0:=by omega
  subst this
  simp[Instr.sliceAt,Instr.slice,Instr.sliceBounds,Instr.sliceBound,Zg hu,asIntOf,sizeOf,typeInfo,hi',hs,g4]
 ·have:hn=len:=by omega
  subst this
  simp[Instr.sliceAt,Instr.slice,Instr.sliceBounds,Instr.sliceBound,Zg hu,asIntOf,sizeOf,typeInfo,hi',hs,g3,g4]
 ·simp[Instr.sliceAt,Instr.slice,Instr.sliceBounds,Instr.sliceBound,Zg hu,asIntOf,sizeOf,typeInfo,hi',hs,g3,g4]
theorem run_sliceStr {P:Program} {t:TypeId} (hu:P.underlying t=some .string) {s:ByteArray} {lo hi:Option Value} {l h:Int} (hlo:BoundV lo 0 l) (hhi:BoundV hi s.size h) (h1:0<=l) (h2:l<=h) (h3:h<=s.size) (w:World):
  (Instr.sliceAt t (.string s) lo hi none).run P w=.ok (.string (s.extract l.toNat h.toNat)) w:=by
 obtain⟨ln,rfl⟩:∃ m:Nat,l=m:=⟨l.toNat,by omega⟩
 obtain⟨hn,rfl⟩:∃ m:Nat,h=m:=⟨h.toNat,by omega⟩
 have g3:ln<=hn:=by omega
 have g4:hn<=s.size:=by omega
 rcases hlo with⟨rfl,el⟩|⟨q,rfl⟩<;>rcases hhi with⟨rfl,eh⟩|⟨q',rfl⟩
 ·have:ln=0:=by omega
  have:hn=s.size:=by omega
  subst_vars
  simp[Instr.sliceAt,Instr.slice,Instr.sliceBounds,Instr.sliceBound,Zg hu,asIntOf]
 ·have:ln=0:=by omega
  subst this
  simp[Instr.sliceAt,Instr.slice,Instr.sliceBounds,Instr.sliceBound,Zg hu,asIntOf,g4]
 ·have:hn=s.size:=by omega
  subst this
  simp[Instr.sliceAt,Instr.slice,Instr.sliceBounds,Instr.sliceBound,Zg hu,asIntOf,g3]
 ·simp[Instr.sliceAt,Instr.slice,Instr.sliceBounds,Instr.sliceBound,Zg hu,asIntOf,g3,g4]
theorem run_sliceZero {P:Program} {t e:TypeId} (hu:P.underlying t=some (.slice e)) (h0:0<P.cellsOf e) {a:Option Addr} {len cap:Nat} {q q':IntKind} (w:World):
  (Instr.sliceAt t (.slice a len cap) none (some (.int q 0)) (some (.int q' 0))).run P w=.ok (.slice a 0 0) w:=by
 obtain⟨i,hi',hs⟩:=Zb7 h0
 simp[Instr.sliceAt,Instr.slice,Instr.sliceBounds,Instr.sliceBound,Zg hu,asIntOf,sizeOf,typeInfo,hi']
theorem Zby {st st':St} {id:Nat} {o o':Obj} (h:st.ob[id]? = some o) (h':st'.ob[id]? = some o') (ht:tagOf o≠tagOf o'):id∈changed st st':=by
 unfold changed
 rw[List.mem_filter]
 refine⟨List.mem_range.mpr (List.getElem?_eq_some_iff.mp h).1,?_⟩
 rw[h,h']
 simpa using ht
theorem put_ob (st:St) (dst:Option Nat) (t:T):(st.put dst t).ob=st.ob:=by cases dst<;>rfl
theorem ZD.moved {P:Program} {E:Env} {o:Oper} {st:St} {β:Type} {k:St->Option β} {r:β} {t:T} {ob:Obj} {mv:List Nat} (hmv:∀ id∈mv,∃ og fr ct xs,st.ob[id]? = some (.row og fr ct xs))
  (hk:k (((st.gones mv).newOb ob).put o.dst t)=some r) (h:∀ X w0,OpOk P X w0 o st ⟨t,mv.map (·,.gone),[ob]⟩):ZD P E o st k r:=by
 refine⟨⟨t,mv.map (·,.gone),[ob]⟩,hk,?_,?_,h⟩
 ·intro p hp
  obtain⟨id,hid,rfl⟩:=List.mem_map.mp hp
  obtain⟨_,_,_,_,ho⟩:=hmv id hid
  exact(List.getElem?_eq_some_iff.mp ho).1
 ·intro _ p hp
  obtain⟨id,hid,rfl⟩:=List.mem_map.mp hp
  obtain⟨_,_,_,_,ho⟩:=hmv id hid
  have hl:=(List.getElem?_eq_some_iff.mp ho).1
  obtain⟨o',h1,h2⟩:=ZbJ (mv.map (·,Obj.gone)) st.ob id ⟨(id,.gone),List.mem_map.mpr ⟨id,hid,rfl⟩,rfl⟩ hl
  obtain⟨q,_,hq⟩:=List.mem_map.mp h1
  injection hq with _ hq
  subst hq
  refine List.mem_append_right _ (Zby ho (o':=.gone) ?_ (by simp[tagOf]))
  simp only[St.app,put_ob]
  rw[List.getElem?_append_left (by rw[Zx];exact hl)]
  exact h2
section
variable {P:Program} {E:Env} {st:St} {β:Type} {k:St->Option β} {r:β} {dst:Option Nat} {ty:TypeId} {pos:String} {af:Array Edge} {gd:Option (Nat×Bool)}
theorem elemSz_ne {t:TypeId} (h:Zl P t≠0):∃ e,P.underlying t=some (.slice e)/\Zl P t=P.cellsOf e/\0<P.cellsOf e:=by
 unfold Zl at h⊢
 split at h
 ·rename_i e he
  exact⟨e,ZaG he,by simp[he],by omega⟩
 ·exact absurd rfl h
theorem opSlice {t:TypeId} {x:Operand} {lo hi mx:Option Operand} (hT:Zar P) (h:ZL P E ⟨dst,.slice t x lo hi mx,ty,pos,af,gd⟩ st k=some r):ZD P E ⟨dst,.slice t x lo hi mx,ty,pos,af,gd⟩ st k r:=by
 simp only[ZL] at h
 have mem_x:x∈(Op.slice t x lo hi mx).operands.toList:=by simp[Op.operands]
 have mem_lo:∀ y,lo=some y->y∈(Op.slice t x lo hi mx).operands.toList:=by rintro y rfl;simp[Op.operands]
 have mem_hi:∀ y,hi=some y->y∈(Op.slice t x lo hi mx).operands.toList:=by rintro y rfl;simp[Op.operands]
 have mem_mx:∀ y,mx=some y->y∈(Op.slice t x lo hi mx).operands.toList:=by rintro y rfl;simp[Op.operands]
 unfold sliceDen at h
 split at h
 ·-- a full cut
  rename_i m hm
  obtain⟨mo,rfl,hmo⟩:=Option.map_eq_some_iff.mp hm
  split at h
  case isFalse=>cases h
  rename_i hk
  obtain⟨e,hu,hse,h0⟩:=elemSz_ne hk.2
  have go:∀ (h' m':Int) (f q f' q'),lo.map st.ev=none->hi.map st.ev=some (.d f (.int q h'))->m=.d f' (.int q' m')->(if h'=0/\m'=0 then k (st.put dst .nil) else none)=some r->
    (∀ (X:Fix) (w:World) (g:G) (stL:St) (a:Act) (v:Value),Rel P X w g stL a->Zb X w g (st.ev x) v->ZW g stL st (ZE st (st.ev x))->∃ ad len cap,v=.slice ad len cap)->
    ZD P E ⟨dst,.slice t x lo hi (some mo),ty,pos,af,gd⟩ st k r:=by
   intro h' m' f q f' q' elo ehi em hres hv
   split at hres
   case isFalse=>cases hres
   rename_i hz
   obtain⟨rfl,rfl⟩:=hz
   refine ZD.pure hres λX stL g a w hr hR hl=>?_
   obtain⟨ad,len,cap,hvx⟩:=hv X w g stL a _ hr (hR x mem_x) (hl.sub (ZaS mem_x))
   have elo':lo=none:=by cases lo<;>simp_all
   obtain⟨ho,rfl,eho⟩:=Option.map_eq_some_iff.mp ehi
   subst elo'
   have v1:=Zb.scal_eq (d:=.int q 0) rfl (eho▸hR ho (mem_hi ho rfl))
   have v2:=Zb.scal_eq (d:=.int q' 0) rfl ((hmo.trans em)▸hR mo (mem_mx mo rfl))
   refine⟨.slice ad 0 0,ZaF ?_,by simp[Zb]⟩
   show(Instr.sliceAt t (a.eval x) none (some (a.eval ho)) (some (a.eval mo))).run P w=_
   rw[hvx,v1,v2]
   exact run_sliceZero hu h0 w
  split at h
  ·rename_i h1 h2 h3
   exact go _ _ _ _ _ _ h1 h2 rfl h λX w g stL a v hr rv hs=>by rw[h3] at rv;simp only[Zb,RdD] at rv;obtain⟨ad,len,cap,hv,_⟩:=rv;exact⟨ad,len,cap,hv⟩
  ·rename_i h1 h2 h3
   exact go _ _ _ _ _ _ h1 h2 rfl h λX w g stL a v hr rv hs=>by rw[h3] at rv;simp only[Zb] at rv;obtain⟨ad,hv⟩:=rv;exact⟨ad,0,0,hv⟩
  ·rename_i id h1 h2 h3
   split at h
   ·rename_i ho
    refine go _ _ _ _ _ _ h1 h2 rfl h λX w g stL a v hr rv hs=>?_
    rw[h3] at rv hs
    simp only[Zb] at rv
    obtain⟨_,_,⟨row,_⟩,_⟩:=hs.obj hr (by simp[ZE]) ho
    obtain⟨ad,cap,hv,_⟩:=OwC.row row
    exact⟨ad,_,cap,rv.2.trans hv⟩
   ·rename_i ho
    refine go _ _ _ _ _ _ h1 h2 rfl h λX w g stL a v hr rv hs=>?_
    rw[h3] at rv hs
    simp only[Zb] at rv
    obtain⟨_,_,hrd,_⟩:=hs.obj hr (by simp[ZE]) ho
    simp only[RdD] at hrd
    obtain⟨ad,len,cap,hv,_⟩:=hrd
    exact⟨ad,len,cap,rv.2.trans hv⟩
   ·cases h
  ·cases h
 ·rename_i hm
  have emx:mx=none:=by cases mx<;>simp_all
  subst emx
  have run:∀ (a:Act) (w:World) (v:Value),(Instr.sliceAt t (a.eval x) (lo.map a.eval) (hi.map a.eval) none).run P w=.ok v w->(execOp a.eval ⟨dst,.slice t x lo hi none,ty,pos,af,gd⟩).run P w=.ok (.value v) w:=
   λa w v h=>ZaF h
  have immCut:∀ (fr:Bool) (xs:List (List D)),(if Zl P t=0 then none else ZbL (lo.map st.ev) 0 λl=>ZbL (hi.map st.ev) xs.length λh=>
    Zd (0<=l/\l<=h/\h<=xs.length/\Zbk (Zl P t) xs) (k (st.put dst (.d fr (.sl ((xs.drop l.toNat).take (h.toNat-l.toNat)))))))=some r->
    (∀ (X:Fix) (w:World) (g:G) (stL:St) (a:Act) (v:Value),Rel P X w g stL a->Zb X w g (st.ev x) v->ZW g stL st (ZE st (st.ev x))->RdD w (g.IM X fr) (.sl xs) v)->
    ZD P E ⟨dst,.slice t x lo hi none,ty,pos,af,gd⟩ st k r:=by
   intro fr xs h hv
   split at h
   ·cases h
   rename_i hsz
   obtain⟨e,hu,hse,h0⟩:=elemSz_ne hsz
   obtain⟨l,h',hl⟩:=ZaU h
   obtain⟨hh,h'',hhi⟩:=ZaU h'
   obtain⟨⟨c1,c2,c3,c4⟩,hk⟩:=Zp h''
   refine ZD.pure hk λX stL g a w hr hR hl'=>?_
   have rd:=hv X w g stL a _ hr (hR x mem_x) (hl'.sub (ZaS mem_x))
   have rd':=rd
   simp only[RdD] at rd'
   obtain⟨ad,len,cap,hva,e1,e2,_⟩:=rd'
   rw[hva] at rd
   obtain⟨_,_,cut⟩:=RdD.cut (l:=l.toNat) (h:=hh.toNat) rd c4 (by omega) (by omega)
   subst e1
   refine⟨_,run a w _ (by rw[hva];exact ZcM hu h0 (boundV hl λy hy=>hR y (mem_lo y hy)) (boundV hhi λy hy=>hR y (mem_hi y hy)) c1 c2 (by omega) w),?_⟩
   simp only[Zb]
   rw[<- hse]
   exact cut
  split at h
  ·-- a string
   rename_i f s hk hx
   obtain⟨l,h',hl⟩:=ZaU h
   obtain⟨hh,h'',hhi⟩:=ZaU h'
   obtain⟨⟨c1,c2,c3⟩,hk'⟩:=Zp h''
   refine ZD.pure hk' λX stL g a w hr hR hl'=>?_
   have hv:=Zb.scal_eq (d:=.str s) rfl (hx▸hR x mem_x)
   exact⟨_,run a w _ (by rw[hv];exact run_sliceStr (Zbt hk) (boundV hl λy hy=>hR y (mem_lo y hy)) (boundV hhi λy hy=>hR y (mem_hi y hy)) c1 c2 c3 w),Zb.scal (d:=.str _) rfl⟩
  ·rename_i fr xs hk hx
   exact immCut fr xs h λX w g stL a v hr rv hs=>by rw[hx] at rv;simpa only[Zb] using rv
  ·rename_i hk hx
   split at h
   ·cases h
   rename_i hsz
   obtain⟨l,h',hl⟩:=ZaU h
   obtain⟨hh,h'',hhi⟩:=ZaU h'
   obtain⟨⟨c1,c2,c3⟩,hk'⟩:=Zp h''
   obtain⟨e,hu,hse,h0⟩:=elemSz_ne hsz
   refine ZD.pure hk' λX stL g a w hr hR hl'=>?_
   have rv:=hR x mem_x
   rw[hx] at rv
   simp only[Zb] at rv
   obtain⟨ad,hv⟩:=rv
   have e1:l.toNat=0:=by omega
   have e2:hh.toNat=0:=by omega
   have hr1:=ZcM (P:=P) hu h0 (a:=ad) (len:=0) (cap:=0) (boundV hl λy hy=>hR y (mem_lo y hy)) (boundV hhi λy hy=>hR y (mem_hi y hy)) c1 c2 (by omega) w
   rw[e1,e2] at hr1
   exact⟨_,run a w _ (by rw[hv];exact hr1),by simp only[Zb];exact⟨_,rfl⟩⟩
  ·rename_i id hk hx
   split at h
   ·rename_i og fr rt xs ho
    split at h
    ·cases h
    rename_i hc
    have hrt:rt=t:=by
     by_cases q:rt=t
     ·exact q
     ·exact absurd (.inl q) hc
    have hsz:Zl P t≠0:=λq=>hc (.inr q)
    subst hrt
    obtain⟨e,hu,hse,h0⟩:=elemSz_ne hsz
    split at h
    ·-- shortened: it stays own
     rename_i hlo
     obtain⟨hh,h'',hhi⟩:=ZaU h
     obtain⟨⟨c2,c3⟩,hk'⟩:=Zp h''
     have hlo':lo=none:=by cases lo<;>simp_all
     subst hlo'
     refine ZD.moved (mv:=[id]) (λi hi=>by simp at hi;subst hi;exact⟨_,_,_,_,ho⟩) (by rw[St.gones_cons,St.gones_nil];exact hk') λX w0=>?_
     have hlen:(st.setOb id .gone).ob.length=st.ob.length:=by simp[St.setOb]
     refine OpOk.one (by simpa using(List.getElem?_eq_some_iff.mp ho).1) λstL g a w hr hs hR hl hn=>?_
     have rv:=hR x mem_x
     rw[hx] at rv
     simp only[Zb] at rv
     obtain⟨_,hB,⟨row,hz⟩,hfr,_⟩:=(hl.sub (ZaS mem_x)).obj hr (by rw[hx];simp[ZE]) ho
     obtain⟨ad,cap,hva,hrow⟩:=OwC.row row
     have hcap:xs.length<=cap:=by
      rcases hrow with⟨rfl,rfl,_⟩|⟨_,_,_,_,_,_,_,_,_,_,_,hle,_⟩
      ·simp
      ·exact hle
     have hr1:=ZcM (P:=P) (t:=rt) hu h0 (a:=ad) (len:=xs.length) (cap:=cap) (lo:=none) (hi:=hi.map a.eval) (l:=0) (h:=hh) (.inl ⟨rfl,rfl⟩) (boundV hhi λy hy=>hR y (mem_hi y hy)) (by omega) c2 (by omega) w
     have hrun:=run a w _ (by rw[rv.2,hva];exact hr1)
     have hIM:∀ b,g.IM X fr b->(g.one [id] st.ob.length (g.fp id) (g.hv id) (Zl P rt)).IM X fr b:=λb h=>h
     have key:∃ F v,Result.ok (Value.slice (if cap=(0:Int).toNat then ad else ad.map (·.add ((0:Int).toNat*P.cellsOf e))) (hh.toNat-(0:Int).toNat) (cap-(0:Int).toNat)) w=.ok v w/\F.Sublist (g.fp id)/\OwC P w (g.IM X fr) (.own (xs.take hh.toNat)) rt v F:=by
      rcases hrow with⟨rfl,rfl,_⟩|⟨b,o,c,e',F',rfl,ho0,hF,hb,hz',hcs,hle,rows⟩
      ·refine⟨[],_,rfl,by simp,?_⟩
       have:hh.toNat=0:=by simp at c3;omega
       simp only[OwC,this,List.take_nil,List.length_nil]
       exact⟨_,0,rfl,.inl (by simp)⟩
      ·rw[show xs=xs.take hh.toNat++xs.drop hh.toNat from(List.take_append_drop _ _).symm] at rows
       obtain⟨F1,F2,rfl,r1,r2⟩:=Ze.append.mp rows
       refine⟨b::F1,_,rfl,by rw[hF];exact List.Sublist.cons_cons _ (List.sublist_append_left _ _),?_⟩
       simp only[OwC]
       have hl2:(xs.take hh.toNat).length=hh.toNat:=by simp;omega
       exact⟨some ⟨b,o,none⟩,cap,by rw[hl2];simp[Zb8],.inr ⟨b,o,c,e',F1,rfl,ho0,rfl,hb,hz',hcs,by omega,r1⟩⟩
     obtain⟨F,v,hv,hsub,how⟩:=key
     injection hv with hv
     rw[hv] at hrun
     refine⟨v,w,F,v,Zl P rt,hrun,Nat.le_refl _,rfl,rfl,rfl,λ_ _ _=>rfl,hsub.nodup (hr.sep.nodup id hB),λb hb=>⟨(hr.sep.mine id hB b (hsub.subset hb)).2.1,λ_=>by simpa using hsub.subset hb⟩,by simpa using hB,?_,?_⟩
     ·simp only[Zn,G.one_hv,G.one_fp,G.one_sz]
      exact⟨⟨how,trivial⟩,λq b hb=>hfr q b (hsub.subset hb),by simp⟩
     ·simp only[Zb]
      exact⟨G.one_B,G.one_hv.symm⟩
    ·rename_i lt hlo
     split at h
     ·-- cut at its head: it stays own
      rename_i hcut
      obtain⟨hcut,hhin⟩:=hcut
      have hhin':hi=none:=by cases hi<;>simp_all
      subst hhin'
      obtain⟨l,h',hl0⟩:=ZaU h
      obtain⟨⟨c1,c2⟩,hk'⟩:=Zp h'
      refine ZD.moved (mv:=[id]) (λi hi=>by simp at hi;subst hi;exact⟨_,_,_,_,ho⟩) (by rw[St.gones_cons,St.gones_nil];exact hk') λX w0=>?_
      have hlen:(st.setOb id .gone).ob.length=st.ob.length:=by simp[St.setOb]
      refine OpOk.one (by simpa using(List.getElem?_eq_some_iff.mp ho).1) λstL g a w hr hs hR hl hn=>?_
      have rv:=hR x mem_x
      rw[hx] at rv
      simp only[Zb] at rv
      obtain⟨_,hB,⟨row,hz⟩,hfr,_⟩:=(hl.sub (ZaS mem_x)).obj hr (by rw[hx];simp[ZE]) ho
      obtain⟨ad,cap,hva,hrow⟩:=OwC.row row
      have hcap:xs.length<=cap:=by
       rcases hrow with⟨rfl,rfl,_⟩|⟨_,_,_,_,_,_,_,_,_,_,_,hle,_⟩
       ·simp
       ·exact hle
      have hr1:=ZcM (P:=P) (t:=rt) hu h0 (a:=ad) (len:=xs.length) (cap:=cap) (lo:=lo.map a.eval) (hi:=none) (l:=l) (h:=(xs.length:Int)) (boundV hl0 λy hy=>hR y (mem_lo y hy)) (.inl ⟨rfl,rfl⟩) c1 c2 (by omega) w
      have hrun:=run a w _ (by rw[rv.2,hva];exact hr1)
      have key:∃ F v,Result.ok (Value.slice (if cap=l.toNat then ad else ad.map (·.add (l.toNat*P.cellsOf e))) ((xs.length:Int).toNat-l.toNat) (cap-l.toNat)) w=.ok v w/\F.Sublist (g.fp id)/\OwC P w (g.IM X fr) (.own (xs.drop l.toNat)) rt v F:=by
       rw[Int.toNat_natCast]
       rcases hrow with⟨rfl,rfl,_⟩|⟨b,o,c,e',F',rfl,ho0,hF,hb,hz',hcs,hle,rows⟩
       ·refine⟨[],_,rfl,by simp,?_⟩
        simp only[OwC,List.drop_nil,List.length_nil,Nat.zero_sub]
        exact⟨_,0,rfl,.inl (by simp)⟩
       ·by_cases hq:cap=l.toNat
        ·refine⟨[],_,rfl,by simp,?_⟩
         have hd:xs.drop l.toNat=[]:=List.drop_eq_nil_of_le (by omega)
         simp only[OwC]
         rw[hd]
         exact⟨_,cap-l.toNat,by rw[List.length_nil,show xs.length-l.toNat=0 by omega],.inl ⟨rfl,by omega,trivial⟩⟩
        ·rw[show xs=xs.take l.toNat++xs.drop l.toNat from(List.take_append_drop _ _).symm] at rows
         obtain⟨F1,F2,rfl,r1,r2⟩:=Ze.append.mp rows
         have htl:(xs.take l.toNat).length=l.toNat:=by simp;omega
         rw[htl] at r2
         refine⟨b::F2,_,rfl,by rw[hF];exact List.Sublist.cons_cons _ (List.sublist_append_right _ _),?_⟩
         simp only[OwC]
         have hcc:P.cellsOf e=Zl P rt:=by rw[hse]
         refine⟨some ⟨b,o+l.toNat*Zl P rt,none⟩,cap-l.toNat,by rw[if_neg hq,List.length_drop,hcc];simp[Zb8],.inr ⟨b,_,c,e',F2,rfl,λq=>?_,rfl,hb,hz',?_,by rw[List.length_drop];omega,r2⟩⟩
         ·rw[hcut] at q
          cases q
         ·have:l.toNat*Zl P rt+(cap-l.toNat)*Zl P rt=cap*Zl P rt:=by rw[<- Nat.add_mul];congr 1;omega
          omega
      obtain⟨F,v,hv,hsub,how⟩:=key
      injection hv with hv
      rw[hv] at hrun
      refine⟨v,w,F,v,Zl P rt,hrun,Nat.le_refl _,rfl,rfl,rfl,λ_ _ _=>rfl,hsub.nodup (hr.sep.nodup id hB),λb hb=>⟨(hr.sep.mine id hB b (hsub.subset hb)).2.1,λ_=>by simpa using hsub.subset hb⟩,by simpa using hB,?_,?_⟩
      ·simp only[Zn,G.one_hv,G.one_fp,G.one_sz]
       exact⟨⟨how,trivial⟩,λq b hb=>hfr q b (hsub.subset hb),by simp⟩
      ·simp only[Zb]
       exact⟨G.one_B,G.one_hv.symm⟩
     ·-- cut at its head: it freezes
      obtain⟨l,h',hl⟩:=ZaU h
      obtain⟨hh,h'',hhi⟩:=ZaU h'
      obtain⟨⟨c1,c2,c3⟩,hk'⟩:=Zp h''
      refine⟨⟨.d fr (.sl (((C.immRows xs).drop l.toNat).take (hh.toNat-l.toNat))),[(id,.frz fr (C.immRows xs))],[]⟩,?_,by simpa using(List.getElem?_eq_some_iff.mp ho).1,?_,λX w0=>?_⟩
      ·have:st.app dst ⟨.d fr (.sl (((C.immRows xs).drop l.toNat).take (hh.toNat-l.toNat))),[(id,.frz fr (C.immRows xs))],[]⟩=(st.setOb id (.frz fr (C.immRows xs))).put dst (.d fr (.sl (((C.immRows xs).drop l.toNat).take (hh.toNat-l.toNat)))):=by
        simp only[St.app,St.setOb,List.append_nil];rfl
       rw[this];exact hk'
      ·intro _ p hp
       simp at hp
       subst hp
       refine List.mem_append_right _ (Zby ho (o':=.frz fr (C.immRows xs)) ?_ (by simp[tagOf]))
       simp only[St.app,put_ob,List.append_nil]
       show(st.ob.set id _)[id]? = _
       rw[List.getElem?_set_self (List.getElem?_eq_some_iff.mp ho).1]
      ·intro stL g a w hr hs hR hl' _ K Q hK
       have rv:=OpOk.args hr (hR x mem_x)
       rw[hx] at rv
       simp only[Zb] at rv
       obtain⟨hoL,hB,⟨row,hz⟩,hfr,_⟩:=(hl'.sub (ZaS mem_x)).obj hr (by rw[hx];simp[ZE]) ho
       have hr2:=Rel.freeze hT hr hs hoL hB
       have hst:stL.eff dst st.ob.length ⟨.d fr (.sl (((C.immRows xs).drop l.toNat).take (hh.toNat-l.toNat))),[(id,.frz fr (C.immRows xs))],[]⟩=(stL.setOb id (.frz fr (C.immRows xs))).put dst (.d fr (.sl (((C.immRows xs).drop l.toNat).take (hh.toNat-l.toNat)))):=rfl
       obtain⟨o',ho',ro⟩:=hr2.obs id hB
       have:o'=.frz fr (C.immRows xs):=by
        simp only[St.setOb] at ho'
        rw[List.getElem?_set_self (List.getElem?_eq_some_iff.mp hoL).1] at ho'
        exact(Option.some.inj ho').symm
       subst this
       simp only[Zn] at ro
       have rd:=ro.1
       have hva0:(g.frz id).hv id=g.hv id:=rfl
       have rd':=rd
       simp only[RdD] at rd'
       obtain⟨ad,len,cap,hva,e1,e2,_⟩:=rd'
       rw[hva] at rd
       rw[hva0] at hva
       have hok:Zbk (Zl P rt) (C.immRows xs):=by
        obtain⟨_,_,_,hrow⟩:=OwC.row row
        rcases hrow with⟨rfl,_,_⟩|⟨b,o,c,e',F',_,_,_,_,_,_,_,rows⟩
        ·intro y hy;simp[C.immRows] at hy
        ·have hlens:=Ze.len (hT rt hsz) rows
         have:∀ (zs:List (List C)),(∀ z∈zs,z.length=Zl P rt)->∀ y∈C.immRows zs,y.length=Zl P rt:=by
          intro zs
          induction zs with
          |nil=>intro _ y hy;simp[C.immRows] at hy
          |cons z zs ih=>
           intro hz y hy
           simp only[C.immRows,List.mem_cons] at hy
           rcases hy with rfl|hy
           ·rw[C.immCells_length];exact hz z (by simp)
           ·exact ih (λq hq=>hz q (by simp[hq])) y hy
         exact this xs hlens
       have hlx:=C.immRows_length xs
       rw[hlx] at e1
       subst e1
       obtain⟨_,_,cut⟩:=RdD.cut (l:=l.toNat) (h:=hh.toNat) rd hok (by omega) (by omega)
       have args:∀ y,y∈(Op.slice rt x lo hi none).operands.toList->Zb X w g (st.ev y) (a.eval y):=λy hy=>OpOk.args hr (hR y hy)
       have hrun:=run a w _ (by rw[rv.2,hva];exact ZcM hu h0 (boundV hl λy hy=>args y (mem_lo y hy)) (boundV hhi λy hy=>args y (mem_hi y hy)) c1 c2 (by omega) w)
       refine wp_val hrun (hK (g.frz id) w _ ?_ hs (λid=>by simp[G.frz];omega))
       rw[hst]
       refine Rel.put hr2 dst ?_
       simp only[Zb]
       rw[<- hse]
       exact cut
   ·rename_i fr xs ho
    refine immCut fr xs h λX w g stL a v hr rv hs=>?_
    rw[hx] at rv hs
    simp only[Zb] at rv
    obtain⟨_,_,hrd,_⟩:=hs.obj hr (by simp[ZE]) ho
    rw[rv.2]
    exact hrd
   ·cases h
  ·cases h
end
end Go.T
