/- Append,as an operation. -/
import Derived.Test.YtlobhlnahhjpjaaGreatTApp
set_option linter.unusedVariables false
set_option linter.unusedSimpArgs false
namespace Go.T
section
variable {P:Program} {t1 t2 ty e:TypeId} {i:TypeInfo} {z:Value}
theorem Zi.flat {w:World} {I I':Nat->Prop} {c:Array Value}:∀ {ds:List D} {p:Nat},(∀ d∈ds,Zag d=true)->Zi w I c p ds->Zi w I' c p ds
 |[],_,_,_=>by simp only[Zi]
 |d::ds,p,h,r=>by
  simp only[Zi] at r⊢
  obtain⟨⟨v,hv,r1⟩,r2⟩:=r
  refine⟨⟨v,hv,?_⟩,Zi.flat (λd hd=>h d (by simp[hd])) r2⟩
  have:=h d (by simp)
  cases d with
  |bool b=>simpa only[RdD] using r1
  |int q n=>simpa only[RdD] using r1
  |str s=>simpa only[RdD] using r1
  |sl xs=>simp[Zag] at this
  |fn f cs=>simp[Zag] at this
  |un=>simp[Zag] at this
theorem ZC.flat {w:World} {I I':Nat->Prop} {c:Array Value} {sz:Nat}:∀ {xs:List (List D)} {p:Nat},(∀ x∈xs,∀ d∈x,Zag d=true)->ZC w I c sz p xs->ZC w I' c sz p xs
 |[],_,_,_=>by simp only[ZC]
 |x::xs,p,h,r=>by
  simp only[ZC] at r⊢
  exact⟨⟨r.1.1,Zi.flat (h x (by simp)) r.1.2⟩,ZC.flat (λx hx=>h x (by simp[hx])) r.2⟩
theorem Zcy {w:World} {I I':Nat->Prop} {xs:List (List D)} {vx:Value} (hT:Zar P) (he:Zah P t1=some e) (h0:0<P.cellsOf e) (hk:Zam P t2=.sl) (hi:P.info? e=some i) (hzv:i.zero=some z) (hb:i.bytes<=1000)
  (r:RdD w I (.sl xs) vx) (hok:Zbk (P.cellsOf e) xs) (hII:∀ (c:Array Value) (sz p:Nat),ZC w I c sz p xs->ZC w I' c sz p xs):∃ news,AppSrc P w I' t1 t2 ty e i z (xs.map (·.map .d)) [] vx news:=by
 have hse:=ZaI he
 have hisz:i.size=P.cellsOf e:=by simp[Program.cellsOf,hi]
 have hct:(ZQ P t1).length=Zl P t1:=hT t1 (by omega)
 have hu:=ZaG he
 obtain⟨e2,hu2⟩:=ZbR hk
 simp only[RdD] at r
 obtain⟨a,len,cap,rfl,rfl,hle,r⟩:=r
 have most63:Z8<=9223372036854775807:=by decide
 rcases r with rfl|⟨b,off,c,ee,fr,sz,rfl,hI,hbb,hsz,rows⟩
 ·refine⟨[],by simp,by simp,λc p _=>by simp[Ze],λbase len cap' w' hf hm hst=>?_,λbase len cap' olds hfo hg hm=>?_⟩
  ·exact ZaL hu (.inl ⟨e2,hu2⟩) hi (n:=0) rfl Zak hf hst
  ·exact Zaw hu (.inl ⟨e2,hu2⟩) hi hzv (n:=0) rfl Zak hfo hg (Nat.le_trans hm most63) (Zb3 hb hg hm)
 ·by_cases hx0:xs.length=0
  ·have:xs=[]:=List.eq_nil_of_length_eq_zero hx0
   subst this
   refine⟨[],by simp,by simp,λc p _=>by simp[Ze],λbase len cap' w' hf hm hst=>?_,λbase len cap' olds hfo hg hm=>?_⟩
   ·exact ZaL hu (.inl ⟨e2,hu2⟩) hi (n:=0) rfl Zak hf hst
   ·exact Zaw hu (.inl ⟨e2,hu2⟩) hi hzv (n:=0) rfl Zak hfo hg (Nat.le_trans hm most63) (Zb3 hb hg hm)
  ·have hsz':sz=i.size:=by
    have g1:=(ZC.get rows (i:=0) (x:=xs[0]'(by omega)) (List.getElem?_eq_getElem _)).1
    have g2:=hok xs[0] (List.getElem_mem (by omega))
    omega
   subst hsz'
   have hval:=ZC.cell rows
   obtain⟨v1,v2,v3⟩:=take_vals hval
   refine⟨(c.toList.drop off).take (xs.length*i.size),by simpa using v1,v3,λc' p hc'=>?_,λbase len cap' w' hf hm hst=>?_,λbase len cap' olds hfo hg hm=>?_⟩
   ·rw[hse,<- hisz] at hct⊢
    exact ZC.own hct (hII _ _ _ rows) λj v hj hv=>hc' j v ((v2 j v).mpr ⟨hj,hv⟩)
   ·simp only[List.length_map] at hf hm⊢
    exact ZaL hu (.inl ⟨e2,hu2⟩) hi (n:=xs.length) rfl (Zal hbb hval) hf hst
   ·simp only[List.length_map] at hg hm⊢
    exact Zaw hu (.inl ⟨e2,hu2⟩) hi hzv (n:=xs.length) rfl (Zal (w:=w.drew) hbb hval) hfo hg (Nat.le_trans hm most63) (Zb3 hb hg hm)
theorem appSrc_own {w:World} {I:Nat->Prop} {xs:List (List C)} {F:List Nat} {vx:Value} (hT:Zar P) (he:Zah P t1=some e) (h0:0<P.cellsOf e) (hk:Zam P t2=.sl) (hi:P.info? e=some i) (hzv:i.zero=some z) (hb:i.bytes<=1000)
  (r:OwC P w I (.own xs) t1 vx F):∃ news F',F'.Sublist F/\AppSrc P w I t1 t2 ty e i z xs F' vx news:=by
 have hse:=ZaI he
 have hisz:i.size=P.cellsOf e:=by simp[Program.cellsOf,hi]
 have hct:(ZQ P t1).length=Zl P t1:=hT t1 (by omega)
 have hu:=ZaG he
 obtain⟨e2,hu2⟩:=ZbR hk
 obtain⟨base,cap,hvx,hrow⟩:=OwC.row r
 clear r
 subst hvx
 have most63:Z8<=9223372036854775807:=by decide
 rcases hrow with⟨rfl,rfl,rfl⟩|⟨b,o,c,e',F',rfl,ho0,rfl,hbb,hz,hcs,hle,rows⟩
 ·refine⟨[],[],by simp,by simp,by simp,λc p _=>by simp[Ze],λbase len cap' w' hf hm hst=>?_,λbase len cap' olds hfo hg hm=>?_⟩
  ·exact ZaL hu (.inl ⟨e2,hu2⟩) hi (n:=0) rfl Zak hf hst
  ·exact Zaw hu (.inl ⟨e2,hu2⟩) hi hzv (n:=0) rfl Zak hfo hg (Nat.le_trans hm most63) (Zb3 hb hg hm)
 ·have hval:=Ze.cell hct rows
  rw[hse,<- hisz] at hval
  obtain⟨v1,v2,v3⟩:=take_vals hval
  refine⟨(c.toList.drop o).take (xs.length*i.size),F',by simp,v1,v3,λc' p hc'=>?_,λbase len cap' w' hf hm hst=>?_,λbase len cap' olds hfo hg hm=>?_⟩
  ·exact Ze.congr hct (λj v hj hv=>hc' j v ((v2 j v).mpr ⟨by rwa[hse,<- hisz] at hj,hv⟩)) rows
  ·exact ZaL hu (.inl ⟨e2,hu2⟩) hi (n:=xs.length) rfl (Zal hbb hval) hf hst
  ·exact Zaw hu (.inl ⟨e2,hu2⟩) hi hzv (n:=xs.length) rfl (Zal (w:=w.drew) hbb hval) hfo hg (Nat.le_trans hm most63) (Zb3 hb hg hm)
theorem appSrc_str {w:World} {I:Nat->Prop} {s:ByteArray} (hT:Zar P) (he:Zah P t1=some e) (h0:P.cellsOf e=1) (hk:Zam P t2=.str) (hi:P.info? e=some i) (hzv:i.zero=some z) (hb:i.bytes<=1000):
  ∃ news,AppSrc P w I t1 t2 ty e i z (s.data.toList.map λb=>[.d (.int .u8 b.toNat)]) [] (.string s) news:=by
 have hse:=ZaI he
 have hisz:i.size=P.cellsOf e:=by simp[Program.cellsOf,hi]
 have hct:(ZQ P t1).length=Zl P t1:=hT t1 (by omega)
 have hu:=ZaG he
 have hu2:=Zbt hk
 have most63:Z8<=9223372036854775807:=by decide
 have hfc:∀ w':World,(Builtin.firstCells i.size s.size (.string s)).run P w'=.ok (s.data.toList.map λb=>Value.int .u8 b.toNat).toArray w':=by
  intro w'
  have:(s.extract 0 s.size)=s:=by simp
  simp only[Builtin.firstCells,this,ZM]
  congr 1
  apply Array.ext'
  simp
 have hlen:(s.data.toList.map λb=>([.d (.int .u8 b.toNat)]:List C)).length=s.size:=by rw[List.length_map,Array.length_toList];rfl
 refine⟨s.data.toList.map λb=>Value.int .u8 b.toNat,by rw[hlen,List.length_map,Array.length_toList,hisz,h0,Nat.mul_one];rfl,by simp[Value.oneCell'],λc p hc=>?_,λbase len cap' w' hf hm hst=>?_,λbase len cap' olds hfo hg hm=>?_⟩
 ·rw[hse,h0] at hct⊢
  obtain⟨ct,hcte⟩:=List.length_eq_one_iff.mp hct
  rw[hcte]
  have gen:∀ (l:List UInt8) (p:Nat),(∀ (j:Nat) (v:Value),(l.map λb=>Value.int .u8 b.toNat)[j]? = some v->c[p+j]? = some v)->Ze P w I c [ct] 1 (l.map λb=>[.d (.int .u8 b.toNat)]) p []:=by
   intro l
   induction l with
   |nil=>intro p _;simp[Ze]
   |cons b l ih=>
    intro p hc
    simp only[List.map_cons,Ze]
    refine⟨[],[],rfl,?_,ih (p+1) λj v hv=>by
     have:=hc (j+1) v (by simpa using hv)
     rwa[show p+1+j=p+(j+1) from by omega]⟩
    simp only[Za,OwC,RdD]
    exact⟨ct,[],.int .u8 b.toNat,[],[],rfl,rfl,by simpa using hc 0 _ (by simp),⟨rfl,rfl⟩,rfl,rfl⟩
  exact gen s.data.toList p hc
 ·rw[hlen] at hf hm⊢
  exact ZaL hu (.inr hu2) hi (n:=s.size) rfl (hfc w) hf hst
 ·rw[hlen] at hg hm⊢
  exact Zaw hu (.inr hu2) hi hzv (n:=s.size) rfl (hfc w.drew) hfo hg (Nat.le_trans hm most63) (Zb3 hb hg hm)
theorem appSrc_zero {w:World} {I:Nat->Prop} {n:Nat} {q qk:IntKind} {zc:List C} (hT:Zar P) (he:Zah P t1=some e) (h0:0<P.cellsOf e) (hk:P.underlying t2=some (.int qk)) (hi:P.info? e=some i) (hzv:i.zero=some z) (hb:i.bytes<=1000) (hzs:Zcs (ZaM P e) z.cells.toList=true)
  (hzc:(ZaM P e).filterMap zeroC=zc) (hn:n<=Z8):∃ news,AppSrc P w I t1 t2 ty e i z (List.replicate n zc) [] (.int q n) news:=by
 have hse:=ZaI he
 have hisz:i.size=P.cellsOf e:=by simp[Program.cellsOf,hi]
 have hct:(ZQ P t1).length=Zl P t1:=hT t1 (by omega)
 have hu:=ZaG he
 obtain⟨_,z1,hzl,zow⟩:=Zaq hzs
 have most63:Z8<=9223372036854775807:=by decide
 have hzsz:z.cells.size=i.size:=by
  rw[Zca he,hse] at hct
  have h2:(ZaM P e).length=P.cellsOf e:=by simp[ZaM,hct]
  have h3:z.cells.size=(ZaM P e).length:=by simpa using hzl.symm
  omega
 have hbm:n*i.bytes<=281474976710656:=by
  have:n*i.bytes<=68719476736*1000:=Nat.mul_le_mul hn hb
  omega
 have hnews:(if n*i.size=0 then #[] else Builtin.zeroCells z.cells n)=Builtin.zeroCells z.cells n:=by
  split
  ·rename_i h
   have:n=0:=by
    rcases Nat.mul_eq_zero.mp h with q|q
    ·exact q
    ·omega
   subst this
   simp[Builtin.zeroCells]
  ·rfl
 have hn63:n<=9223372036854775807:=Nat.le_trans hn most63
 refine⟨(Builtin.zeroCells z.cells n).toList,?_,?_,λc p hc=>?_,λbase len cap' w' hf hm hst=>?_,λbase len cap' olds hfo hg hm=>?_⟩
 ·simp[Zaj,hzsz]
 ·intro v hv
  simp only[Builtin.zeroCells,Array.toList_map,List.mem_map] at hv
  obtain⟨j,_,rfl⟩:=hv
  have h0':0<z.cells.size:=by omega
  have hlt:j%z.cells.size<z.cells.size:=Nat.mod_lt _ h0'
  rw[getElem!_pos z.cells _ hlt]
  exact z1 _ (by simp)
 ·refine Ze.replicate n p λj hj=>?_
  rw[<- hzc]
  refine zow P _ _ _ _ _ ?_ λjj v hv=>?_
  ·rw[Zca he];simp only[ZaM,List.length_map] at hzl;exact hzl
  ·have:=zeros_get hzsz (by omega) hj hv
   have h4:=hc (j*i.size+jj) v (by
    simp only[Builtin.zeroCells,hzsz] at this⊢
    rw[Array.getElem?_toList]
    exact this)
   rw[hse,<- hisz,Nat.add_assoc]
   exact h4
 ·rw[List.length_replicate] at hf hm⊢
  exact run_append_fit0 hu hk hi hzv hbm hn63 hf (by rw[hnews];exact hst)
 ·rw[List.length_replicate] at hg hm⊢
  have:=run_append_more0 (ty:=ty) (q:=q) hu hk hi hzv hbm hn63 hfo hg (Nat.le_trans hm most63) (Zb3 hb hg hm)
  rw[hnews] at this
  simpa using this
end
section
variable {P:Program} {E:Env} {st:St} {β:Type} {k:St->Option β} {r:β} {dst:Option Nat} {ty:TypeId} {pos:String} {af:Array Edge} {gd:Option (Nat×Bool)}
theorem appSrc_some {t1 e t2:TypeId} {x:T} {K:Bool->List (List C)->St->Option β} {y:β} (h:appSrc P st t1 e t2 x K=some y) (hT:Zar P) (he:Zah P t1=some e) (h0:0<P.cellsOf e) (hstr:Zam P t2=.str->P.cellsOf e=1):
  ∃ f ys m1,K f ys (st.gones m1)=some y/\m1.Nodup/\(∀ id∈m1,(∃ og fr ct xs,st.ob[id]? = some (.row og fr ct xs))/\id∈ZE st x)/\
   ∀ (X:Fix) (w:World) (g:G) (stL:St) (a:Act) (vx:Value) (i:TypeInfo) (z:Value) (ty:TypeId),Rel P X w g stL a->Zb X w g x vx->ZW g stL st (ZE st x)->P.info? e=some i->i.zero=some z->i.bytes<=1000->Zcs (ZaM P e) z.cells.toList=true->
    ∃ news F',F'.Sublist (m1.flatMap g.fp)/\AppSrc P w (g.IM X f) t1 t2 ty e i z ys F' vx news/\(f=true->∀ b,b∈m1.flatMap g.fp->X.new b):=by
 unfold appSrc at h
 split at h
 ·rename_i fr ys hk
  cases hfl:(!fr&&flatB P e) with
  |true=>
   rw[hfl] at h
   simp only[cond_true] at h
   obtain⟨hok,h⟩:=Zp h
   refine⟨true,_,[],by rw[St.gones_nil];exact h,by simp,by simp,λX w g stL a vx i z ty hr rx hs hi hzv hb hzs=>?_⟩
   simp only[Zb] at rx
   obtain⟨news,hn⟩:=Zcy (ty:=ty) (I':=g.IM X true) hT he h0 hk hi hzv hb rx (λx hx=>(hok x hx).1) (λ_ _ _=>ZC.flat λx hx=>(hok x hx).2)
   exact⟨news,[],by simp,hn,by simp⟩
  |false=>
  rw[hfl] at h
  simp only[cond_false] at h
  obtain⟨hok,h⟩:=Zp h
  refine⟨fr,_,[],by rw[St.gones_nil];exact h,by simp,by simp,λX w g stL a vx i z ty hr rx hs hi hzv hb hzs=>?_⟩
  simp only[Zb] at rx
  obtain⟨news,hn⟩:=Zcy (ty:=ty) hT he h0 hk hi hzv hb rx hok (λ_ _ _ r=>r)
  exact⟨news,[],by simp,hn,by simp⟩
 ·rename_i hk
  refine⟨true,[],[],by rw[St.gones_nil];exact h,by simp,by simp,λX w g stL a vx i z ty hr rx hs hi hzv hb hzs=>?_⟩
  simp only[Zb] at rx
  obtain⟨ad,rfl⟩:=rx
  obtain⟨news,hn⟩:=Zcy (ty:=ty) (w:=w) (I:=g.IM X true) (xs:=[]) hT he h0 hk hi hzv hb (by simp only[RdD];exact⟨ad,0,0,rfl,rfl,by omega,.inl trivial⟩) (λy hy=>by cases hy) (λ_ _ _ r=>r)
  exact⟨news,[],by simp,hn,by simp⟩
 ·rename_i id hk
  split at h
  ·rename_i og fr rt ys ho
   split at h
   case isFalse=>cases h
   rename_i hrt
   subst hrt
   refine⟨fr,ys,[id],by rw[St.gones_cons,St.gones_nil];exact h,by simp,λi hi=>by simp at hi;subst hi;exact⟨⟨_,_,_,_,ho⟩,by simp[ZE]⟩,λX w g stL a vx i z ty hr rx hs hi hzv hb hzs=>?_⟩
   simp only[Zb] at rx
   obtain⟨_,_,⟨row,_⟩,hfr,_⟩:=hs.obj hr (by simp[ZE]) ho
   obtain⟨news,F',hsub,hn⟩:=appSrc_own (ty:=ty) hT he h0 hk hi hzv hb row
   rw[rx.2]
   exact⟨news,F',by simpa using hsub,hn,by simpa using hfr⟩
  ·rename_i fr ys ho
   cases hfl:(!fr&&flatB P e) with
   |true=>
    rw[hfl] at h
    simp only[cond_true] at h
    obtain⟨hok,h⟩:=Zp h
    refine⟨true,_,[],by rw[St.gones_nil];exact h,by simp,by simp,λX w g stL a vx i z ty hr rx hs hi hzv hb hzs=>?_⟩
    simp only[Zb] at rx
    obtain⟨_,_,hrd,_⟩:=hs.obj hr (by simp[ZE]) ho
    rw[rx.2]
    obtain⟨news,hn⟩:=Zcy (ty:=ty) (I':=g.IM X true) hT he h0 hk hi hzv hb hrd (λx hx=>(hok x hx).1) (λ_ _ _=>ZC.flat λx hx=>(hok x hx).2)
    exact⟨news,[],by simp,hn,by simp⟩
   |false=>
   rw[hfl] at h
   simp only[cond_false] at h
   obtain⟨hok,h⟩:=Zp h
   refine⟨fr,_,[],by rw[St.gones_nil];exact h,by simp,by simp,λX w g stL a vx i z ty hr rx hs hi hzv hb hzs=>?_⟩
   simp only[Zb] at rx
   obtain⟨_,_,hrd,_⟩:=hs.obj hr (by simp[ZE]) ho
   rw[rx.2]
   obtain⟨news,hn⟩:=Zcy (ty:=ty) hT he h0 hk hi hzv hb hrd hok (λ_ _ _ r=>r)
   exact⟨news,[],by simp,hn,by simp⟩
  ·cases h
 ·rename_i id i off hk
  split at h
  case isFalse=>cases h
  obtain⟨og,fr,rt,xs,c,x',rest,ys,ho,hc,hd,hy,h⟩:=subD_some h
  obtain⟨hok,h⟩:=Zp h
  refine⟨true,_,[],by rw[St.gones_nil];exact h,by simp,by simp,λX w g stL a vx i z ty hr rx hs hi hzv hb hzs=>?_⟩
  obtain⟨ct,F',ow,_,_⟩:=sub_cell hr (by simpa[ZE] using hs) ho hc hd rx
  have rd:RdD w (λb=>g.IM X fr b\/b∈F') x'.imm vx:=OwC.imm (λb hb=>.inl hb) (λb hb=>.inr hb) hT ow
  rw[hy] at rd
  obtain⟨news,hn⟩:=Zcy (ty:=ty) (I':=g.IM X true) hT he h0 hk hi hzv hb rd (λx hx=>(hok x hx).1) (λ_ _ _=>ZC.flat λx hx=>(hok x hx).2)
  exact⟨news,[],by simp,hn,by simp⟩
 ·rename_i f s hk
  refine⟨true,_,[],by rw[St.gones_nil];exact h,by simp,by simp,λX w g stL a vx i z ty hr rx hs hi hzv hb hzs=>?_⟩
  obtain rfl:=Zb.scal_eq (d:=.str s) rfl rx
  obtain⟨news,hn⟩:=appSrc_str (ty:=ty) (w:=w) (I:=g.IM X true) (s:=s) hT he (hstr hk) hk hi hzv hb
  exact⟨news,[],by simp,hn,by simp⟩
 ·rename_i q0 f q n hk
  split at h
  case h_2=>cases h
  rename_i zc hzc
  obtain⟨⟨c1,c2⟩,h⟩:=Zp h
  unfold zeroCellsC at hzc
  split at hzc
  case isFalse=>cases hzc
  injection hzc with hzc
  refine⟨true,_,[],by rw[St.gones_nil];exact h,by simp,by simp,λX w g stL a vx i z ty hr rx hs hi hzv hb hzs=>?_⟩
  obtain rfl:=Zb.scal_eq (d:=.int q n) rfl rx
  obtain⟨nn,rfl⟩:∃ nn:Nat,n=nn:=⟨n.toNat,by omega⟩
  obtain⟨news,hn⟩:=appSrc_zero (ty:=ty) (w:=w) (I:=g.IM X true) (n:=nn) (q:=q) hT he h0 (ZcA hk) hi hzv hb hzs hzc (by omega)
  exact⟨news,[],by simp,by simpa[Zav] using hn,by simp⟩
 ·cases h
theorem opAppend {c:Call} (hT:Zar P) (hc:c.callee=.builtin .append) (h:ZL P E ⟨dst,.call c,ty,pos,af,gd⟩ st k=some r):ZD P E ⟨dst,.call c,ty,pos,af,gd⟩ st k r:=by
 simp only[ZL,hc] at h
 split at h
 case h_2=>cases h
 rename_i s x t1 t2 hsx htt
 unfold appendDen at h
 split at h
 ·cases h
 rename_i e he
 split at h
 case isFalse=>cases h
 rename_i hck
 obtain⟨h0,hby,hsl,hstr,hzo⟩:=hck
 obtain⟨f,ys,m1,h,hm1,hm1r,hsrc⟩:=appSrc_some h hT he h0 hstr
 obtain⟨i,z,hi,hzv,hzs⟩:=Zbr hzo
 have hbi:i.bytes<=1000:=by simpa[Program.bytesOf,hi] using hby
 have hzsz:z.cells.size=i.size:=by
  have h1:=hT t1 (by rw[ZaI he];omega)
  rw[Zca he,ZaI he] at h1
  have h2:(ZaM P e).length=P.cellsOf e:=by simp[ZaM,h1]
  have h3:z.cells.size=(ZaM P e).length:=by simpa using(Zaq hzs).2.2.1.symm
  have h4:i.size=P.cellsOf e:=by simp[Program.cellsOf,hi]
  omega
 have hs_mem:s∈c.args.toList:=by rw[hsx];simp
 have hx_mem:x∈c.args.toList:=by rw[hsx];simp
 have fin:∀ (xs:List (List C)) (fr:Bool) (mv:List Nat),mv.Nodup->(∀ id∈mv,∃ og fr ct xs,st.ob[id]? = some (.row og fr ct xs))->(∀ id∈mv,id∈Za9 ⟨dst,.call c,ty,pos,af,gd⟩ st)->(∃ m2,mv=m1++m2)->
   xs.length+ys.length<=Z8->k (((st.gones mv).newOb (.row none (fr&&f) t1 (xs++ys))).put dst (.row st.ob.length))=some r->
   (∀ (X:Fix) (w:World) (g:G) (stL:St) (a:Act),Rel P X w g stL a->ZW g stL st (Za9 ⟨dst,.call c,ty,pos,af,gd⟩ st)->Zb X w g (st.ev s) (a.eval s)->
    ∃ F,OwC P w (g.IM X fr) (.own xs) t1 (a.eval s) F/\(∃ m2,mv=m1++m2/\F=m2.flatMap g.fp)/\(fr=true->∀ b∈F,X.new b))->
   ZD P E ⟨dst,.call c,ty,pos,af,gd⟩ st k r:=by
  intro xs fr mv hnd hrows hlk hpre hle hk hdst
  refine ZD.moved hrows hk λX w0=>OpOk.one (λid hid=>by obtain⟨_,_,_,_,ho⟩:=hrows id hid;exact(List.getElem?_eq_some_iff.mp ho).1) λstL g a w hr hs hR hl hn=>?_
  obtain⟨F,hd,⟨m2,hmv,hF⟩,hfrF⟩:=hdst X w g stL a hr hl (hR s (Z3 hs_mem))
  obtain⟨news,F2,hsub,hn',hfr2⟩:=hsrc X w g stL a _ i z ty hr (hR x (Z3 hx_mem)) (hl.sub (Zbs hx_mem)) hi hzv hbi hzs
  have hmB:∀ id∈mv,g.B id:=λid hid=>by obtain⟨_,_,_,_,ho⟩:=hrows id hid;exact(hl id (hlk id hid) (by rw[ho];rfl)).2
  have hpool:=Zcw hr.sep hnd hmB
  have hperm:(F++F2).Nodup:=by
   rw[hmv,List.flatMap_append] at hpool
   have h1:=List.nodup_append.mp hpool
   subst hF
   exact List.nodup_append.mpr ⟨h1.2.1,hsub.nodup h1.1,λb hb b' hb' e=>h1.2.2 b' (hsub.subset hb') b hb e.symm⟩
  have hin:∀ b∈F++F2,b∈mv.flatMap g.fp:=by
   intro b hb
   rw[hmv,List.flatMap_append]
   rcases List.mem_append.mp hb with hb|hb
   ·subst hF;exact List.mem_append_right _ hb
   ·exact List.mem_append_left _ (hsub.subset hb)
  have hmine:∀ b∈mv.flatMap g.fp,¬ g.I b/\b<w.heap.size/\(X.base<=b\/b∈X.lent):=by
   intro b hb
   obtain⟨id,hid,hb⟩:=List.mem_flatMap.mp hb
   exact hr.sep.mine id (hmB id hid) b hb
  have hd':OwC P w (g.IM X (fr&&f)) (.own xs) t1 (a.eval s) F:=OwC.weaken (λb hb=>IM_and hb) hd
  have hs':AppSrc P w (g.IM X (fr&&f)) t1 t2 ty e i z ys F2 (a.eval x) news:=⟨hn'.len,hn'.one,λc p hc=>Ze.weaken (λb hb=>IM_and' hb) (hn'.rows c p hc),hn'.fit,hn'.more⟩
  obtain⟨v',w',F',hrun,g1,g2,g3,g4,g5,g6,g7,g8⟩:=append_core hT he h0 hi hzsz hd' hs' hle hperm (λb hb=>⟨λhI=>(hmine b (hin b hb)).1 hI.1,(hmine b (hin b hb)).2.1⟩) (λb hb=>hr.sep.imm b hb.1)
  refine⟨v',w',F',v',Zl P t1,Zcf hc ?_,g1,g2,g3,g4,λb hb hb'=>g5 b hb (λq=>hb' (hin b (List.mem_append_left _ q))),g6,λb hb=>⟨(g7 b hb).1,λq=>hin b ((g7 b hb).2 q)⟩,hmB,?_,?_⟩
  ·rw[ZcK hsx,ZcK htt,show(#[s,x].map a.eval)=#[a.eval s,a.eval x] from by simp]
   exact ZaF hrun
  ·simp only[Zn,G.one_hv,G.one_fp,G.one_sz]
   refine⟨⟨g8,trivial⟩,λq b hb=>?_,by simp⟩
   simp at q
   by_cases hlt:b<w.heap.size
   ·rcases List.mem_append.mp ((g7 b hb).2 hlt) with hb|hb
    ·exact hfrF q.1 b hb
    ·exact hfr2 q.2 b (hsub.subset hb)
   ·exact .inl (by have:=hs.base;have:=hs.size;omega)
  ·simp only[Zb]
   exact⟨G.one_B,G.one_hv.symm⟩
 have hlen:∀ mv,(st.gones mv).ob.length=st.ob.length:=λmv=>by simp[St.gones,Zx]
 split at h
 ·rename_i hs
  obtain⟨hle,hk⟩:=Zp h
  rw[hlen] at hk
  refine fin [] true m1 hm1 (λid hid=>(hm1r id hid).1) (λid hid=>Zbs hx_mem id (hm1r id hid).2) ⟨[],by simp⟩ (by simpa using hle) (by simpa using hk) λX w g stL a hr hl rs=>?_
  rw[hs] at rs
  simp only[Zb] at rs
  obtain⟨ad,hv⟩:=rs
  refine⟨[],?_,⟨[],by simp,rfl⟩,by simp⟩
  rw[hv]
  simp only[OwC]
  exact⟨ad,0,rfl,.inl (by simp)⟩
 ·rename_i id hs
  split at h
  case h_2=>cases h
  rename_i og fr rt xs ho
  split at h
  case isFalse=>cases h
  rename_i hrt
  subst hrt
  obtain⟨hle,hk⟩:=Zp h
  obtain⟨hnm,ho'⟩:=St.gones_ob ho (by simp)
  have hg:(st.gones m1).setOb id .gone=st.gones (m1++[id]):=by rw[St.gones_append,St.gones_cons,St.gones_nil]
  rw[hg,hlen] at hk
  refine fin xs fr (m1++[id]) (List.nodup_append.mpr ⟨hm1,by simp,λb hb b' hb' e=>by simp at hb';subst hb';exact hnm (e▸hb)⟩) (λj hj=>?_) (λj hj=>?_) ⟨[id],rfl⟩ hle hk λX w g stL a hr hl rs=>?_
  ·rcases List.mem_append.mp hj with hj|hj
   ·exact(hm1r j hj).1
   ·simp at hj;subst hj;exact⟨_,_,_,_,ho'⟩
  ·rcases List.mem_append.mp hj with hj|hj
   ·exact Zbs hx_mem j (hm1r j hj).2
   ·simp at hj;subst hj;exact Zbs hs_mem j (by rw[hs];simp[ZE])
  ·rw[hs] at rs
   simp only[Zb] at rs
   obtain⟨_,_,⟨row,_⟩,hfr,_⟩:=hl.obj hr (Zbs hs_mem id (by rw[hs];simp[ZE])) ho'
   refine⟨g.fp id,by rw[rs.2];exact row,⟨[id],rfl,by simp⟩,hfr⟩
 ·cases h
end
end Go.T
