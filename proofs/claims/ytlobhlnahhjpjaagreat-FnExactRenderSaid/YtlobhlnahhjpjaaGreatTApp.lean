/- Append. -/
import Derived.Test.YtlobhlnahhjpjaaGreatTSlice
set_option linter.unusedVariables false
set_option linter.unusedSimpArgs false
namespace Go.T
section
variable {P:Program} {t1 t2 ty e:TypeId} {i:TypeInfo} {z:Value}
theorem ZaL (h1:P.underlying t1=some (.slice e)) (h2:(∃ e2,P.underlying t2=some (.slice e2))\/P.underlying t2=some .string) (hi:P.info? e=some i) {w w':World} {base:Option Addr} {len cap n:Nat} {x:Value} {news:Array Value}
  (hx:(Builtin.lenOf x).run P w=.ok n w) (hf:(Builtin.firstCells i.size n x).run P w=.ok news w) (hfit:len+n<=cap)
  (hst:(match base with|some a=>storeCells (a.add (len*i.size)) news.toList|none=>pure ():Sem Unit).run P w=.ok () w'):
  (Builtin.append_ #[t1,t2] ty #[.slice base len cap,x]).run P w=.ok (.slice base (len+n) cap) w':=by
 cases base with
 |none=>
  simp at hst
  subst hst
  rcases h2 with⟨e2,hd⟩|hd<;>simp[Builtin.append_,Zg h1,Zg hd,sizeOf,typeInfo,hi,hx,hfit,hf]
 |some a=>
  simp only[] at hst
  rcases h2 with⟨e2,hd⟩|hd<;>simp[Builtin.append_,Zg h1,Zg hd,sizeOf,typeInfo,hi,hx,hfit,hf,hst]
theorem Zaw (h1:P.underlying t1=some (.slice e)) (h2:(∃ e2,P.underlying t2=some (.slice e2))\/P.underlying t2=some .string) (hi:P.info? e=some i) (hzv:i.zero=some z) {w:World} {base:Option Addr} {len cap n:Nat} {x:Value} {olds news:Array Value}
  (hx:(Builtin.lenOf x).run P w=.ok n w) (hf:(Builtin.firstCells i.size n x).run P w.drew=.ok news w.drew) (hfo:(Builtin.firstCells i.size len (.slice base len cap)).run P w.drew=.ok olds w.drew)
  (hg:cap<len+n) (h63:len+n<=9223372036854775807) (hfit:Builtin.nextslicecap (len+n) cap*i.bytes<=281474976710656):
  (Builtin.append_ #[t1,t2] ty #[.slice base len cap,x]).run P w=
   .ok (.slice (some ⟨w.heap.size,0,none⟩) (len+n) (grownCap w (len+n) cap e)) (w.drew.alloc (.cells (olds++news++Builtin.zeroCells z.cells (grownCap w (len+n) cap e-(len+n))) e)):=by
 have hn:¬ (len+n<=cap):=by omega
 have h63':¬ (9223372036854775807<((len:Int)+(n:Int))):=by omega
 have h48':¬ (281474976710656<Builtin.nextslicecap (len+n) cap*i.bytes):=by omega
 rcases h2 with⟨e2,hd⟩|hd<;>simp[Builtin.append_,Zg h1,Zg hd,sizeOf,typeInfo,zeroValue,hi,hzv,hx,hn,h63',h48',Question.forced,hf,hfo,newRow,grownCap]
theorem wrap_nat {n:Nat} (h:n<=9223372036854775807):IntKind.i64.wrap (n:Int)=n:=by
 have:(n:Int)%18446744073709551616=n:=Int.emod_eq_of_lt (by omega) (by omega)
 have h2:¬ ((n:Int)>=9223372036854775808):=by omega
 simp[IntKind.wrap,IntKind.bits,IntKind.signed,this,h2]
theorem run_append_fit0 (h1:P.underlying t1=some (.slice e)) {qk:IntKind} (h2:P.underlying t2=some (.int qk)) (hi:P.info? e=some i) (hzv:i.zero=some z) {w w':World} {base:Option Addr} {len cap n:Nat} {q:IntKind} (hb:n*i.bytes<=281474976710656) (hn63:n<=9223372036854775807)
  (hfit:len+n<=cap) (hst:(match base with|some a=>storeCells (a.add (len*i.size)) (if n*i.size=0 then #[] else Builtin.zeroCells z.cells n).toList|none=>pure ():Sem Unit).run P w=.ok () w'):
  (Builtin.append_ #[t1,t2] ty #[.slice base len cap,.int q n]).run P w=.ok (.slice base (len+n) cap) w':=by
 have n1:¬ ((n:Int)<0):=by omega
 have n2:¬ (281474976710656<(n:Int)*(i.bytes:Int)):=by
  have:(n:Int)*(i.bytes:Int)=((n*i.bytes:Nat):Int):=by push_cast;rfl
  rw[this];omega
 by_cases hz0:n*i.size=0
 ·rw[if_pos hz0] at hst
  cases base with
  |none=>
   simp at hst
   subst hst
   simp[Builtin.append_,Zg h1,Zg h2,asInt,asIntOf,wrap_nat hn63,n1,n2,sizeOf,typeInfo,hi,hz0,hfit]
  |some a=>
   simp only[] at hst
   simp[Builtin.append_,Zg h1,Zg h2,asInt,asIntOf,wrap_nat hn63,n1,n2,sizeOf,typeInfo,hi,hz0,hfit,hst]
 ·rw[if_neg hz0] at hst
  cases base with
  |none=>
   simp at hst
   subst hst
   simp[Builtin.append_,Zg h1,Zg h2,asInt,asIntOf,wrap_nat hn63,n1,n2,sizeOf,typeInfo,hi,hz0,hfit,zeroValue,hzv]
  |some a=>
   simp only[] at hst
   simp[Builtin.append_,Zg h1,Zg h2,asInt,asIntOf,wrap_nat hn63,n1,n2,sizeOf,typeInfo,hi,hz0,hfit,zeroValue,hzv,hst]
theorem run_append_more0 (h1:P.underlying t1=some (.slice e)) {qk:IntKind} (h2:P.underlying t2=some (.int qk)) (hi:P.info? e=some i) (hzv:i.zero=some z) {w:World} {base:Option Addr} {len cap n:Nat} {q:IntKind} {olds:Array Value} (hb:n*i.bytes<=281474976710656) (hn63:n<=9223372036854775807)
  (hfo:(Builtin.firstCells i.size len (.slice base len cap)).run P w.drew=.ok olds w.drew)
  (hg:cap<len+n) (h63:len+n<=9223372036854775807) (hfit:Builtin.nextslicecap (len+n) cap*i.bytes<=281474976710656):
  (Builtin.append_ #[t1,t2] ty #[.slice base len cap,.int q n]).run P w=
   .ok (.slice (some ⟨w.heap.size,0,none⟩) (len+n) (grownCap w (len+n) cap e)) (w.drew.alloc (.cells (olds++(if n*i.size=0 then #[] else Builtin.zeroCells z.cells n)++Builtin.zeroCells z.cells (grownCap w (len+n) cap e-(len+n))) e)):=by
 have n1:¬ ((n:Int)<0):=by omega
 have n2:¬ (281474976710656<(n:Int)*(i.bytes:Int)):=by
  have:(n:Int)*(i.bytes:Int)=((n*i.bytes:Nat):Int):=by push_cast;rfl
  rw[this];omega
 have hn:¬ (len+n<=cap):=by omega
 have h63':¬ (9223372036854775807<((len:Int)+(n:Int))):=by omega
 have h48':¬ (281474976710656<Builtin.nextslicecap (len+n) cap*i.bytes):=by omega
 by_cases hz0:n*i.size=0
 ·simp[Builtin.append_,Zg h1,Zg h2,asInt,asIntOf,wrap_nat hn63,n1,n2,sizeOf,typeInfo,hi,hz0,zeroValue,hzv,hn,h63',h48',Question.forced,hfo,newRow,grownCap]
 ·simp[Builtin.append_,Zg h1,Zg h2,asInt,asIntOf,wrap_nat hn63,n1,n2,sizeOf,typeInfo,hi,hz0,zeroValue,hzv,hn,h63',h48',Question.forced,hfo,newRow,grownCap]
end
theorem take_vals {c:Array Value} {off m:Nat} (h:∀ j,j<m->∃ v,c[off+j]? = some v/\v.oneCell'=true):
  ((c.toList.drop off).take m).length=m/\(∀ (j:Nat) (v:Value),((c.toList.drop off).take m)[j]? = some v↔j<m/\c[off+j]? = some v)/\∀ v∈(c.toList.drop off).take m,v.oneCell'=true:=by
 have hget:∀ (j:Nat) (v:Value),((c.toList.drop off).take m)[j]? = some v↔j<m/\c[off+j]? = some v:=by
  intro j v
  rw[List.getElem?_take]
  split
  ·rename_i hj;simp[hj]
  ·rename_i hj;simp[hj]
 refine⟨?_,hget,λv hv=>?_⟩
 ·rcases Nat.eq_zero_or_pos m with rfl|h0
  ·simp
  ·obtain⟨v,hv,_⟩:=h (m-1) (by omega)
   have:=(Array.getElem?_eq_some_iff.mp hv).1
   simp;omega
 ·obtain⟨j,hj⟩:=List.getElem?_of_mem hv
  obtain⟨h1,h2⟩:=(hget j v).mp hj
  obtain⟨u,h3,h4⟩:=h j h1
  rw[h2] at h3
  injection h3 with h3
  rwa[h3]
theorem ZC.cell {w:World} {I:Nat->Prop} {c:Array Value} {sz:Nat}:∀ {xs:List (List D)} {p:Nat},ZC w I c sz p xs->∀ j,j<xs.length*sz->∃ v,c[p+j]? = some v/\v.oneCell'=true
 |[],p,_,j,hj=>by simp at hj
 |x::xs,p,r,j,hj=>by
  simp only[ZC] at r
  rw[List.length_cons,Nat.succ_mul] at hj
  by_cases h:j<sz
  ·obtain⟨v,hv,rv⟩:=Zi.get r.1.2 (j:=j) (d:=x[j]'(by omega)) (by simp[r.1.1,h])
   exact⟨v,hv,rv.one⟩
  ·obtain⟨v,hv,ho⟩:=ZC.cell r.2 (j-sz) (by omega)
   exact⟨v,by rwa[show p+sz+(j-sz)=p+j from by omega] at hv,ho⟩
theorem Ze.cell {P:Program} {w:World} {I:Nat->Prop} {c:Array Value} {cts:List TypeId} {sz:Nat} (hsz:cts.length=sz):∀ {xs:List (List C)} {p:Nat} {F:List Nat},Ze P w I c cts sz xs p F->∀ j,j<xs.length*sz->∃ v,c[p+j]? = some v/\v.oneCell'=true
 |[],p,_,_,j,hj=>by simp at hj
 |x::xs,p,F,r,j,hj=>by
  simp only[Ze] at r
  obtain⟨F1,F2,_,r1,r2⟩:=r
  have hx:x.length=sz:=by rw[Za.length r1,hsz]
  rw[List.length_cons,Nat.succ_mul] at hj
  by_cases h:j<sz
  ·obtain⟨_,v,_,_,hv,rv,_⟩:=Za.get r1 (j:=j) (x:=x[j]'(by omega)) (by simp[hx,h])
   exact⟨v,hv,rv.one⟩
  ·obtain⟨v,hv,ho⟩:=Ze.cell hsz r2 (j-sz) (by omega)
   exact⟨v,by rwa[show p+sz+(j-sz)=p+j from by omega] at hv,ho⟩
theorem Zi.own {P:Program} {w:World} {I:Nat->Prop} {c c':Array Value}:∀ {ds:List D} {cts:List TypeId} {p p':Nat},Zi w I c p ds->cts.length=ds.length->(∀ (j:Nat) (v:Value),j<ds.length->c[p+j]? = some v->c'[p'+j]? = some v)->Za P w I c' (ds.map .d) cts p' []
 |[],cts,p,p',_,hl,_=>by
  have:cts=[]:=by simpa using hl
  subst this
  simp[Za]
 |d::ds,[],_,_,_,hl,_=>by simp at hl
 |d::ds,ct::cts,p,p',r,hl,h=>by
  simp only[Zi] at r
  obtain⟨⟨v,hv,r1⟩,r2⟩:=r
  simp only[List.map_cons,Za]
  refine⟨ct,cts,v,[],[],rfl,rfl,by simpa using h 0 v (by simp) (by simpa using hv),by simp only[OwC];exact⟨trivial,r1⟩,Zi.own r2 (by simpa using hl) λj u hj hu=>?_⟩
  have:=h (j+1) u (by simpa using hj) (by rwa[show p+(j+1)=p+1+j from by omega])
  rwa[show p'+1+j=p'+(j+1) from by omega]
theorem ZC.own {P:Program} {w:World} {I:Nat->Prop} {c c':Array Value} {cts:List TypeId} {sz:Nat} (hsz:cts.length=sz):∀ {xs:List (List D)} {p p':Nat},ZC w I c sz p xs->(∀ (j:Nat) (v:Value),j<xs.length*sz->c[p+j]? = some v->c'[p'+j]? = some v)->Ze P w I c' cts sz (xs.map (·.map .d)) p' []
 |[],_,_,_,_=>by simp[Ze]
 |x::xs,p,p',r,h=>by
  simp only[ZC] at r
  have hm:(xs.length+1)*sz=xs.length*sz+sz:=Nat.succ_mul _ _
  simp only[List.map_cons,Ze]
  refine⟨[],[],rfl,Zi.own r.1.2 (by rw[hsz,r.1.1]) (λj u hj hu=>h j u (by simp only[List.length_cons];have:=r.1.1;omega) hu),ZC.own hsz r.2 λj u hj hu=>?_⟩
  have:=h (sz+j) u (by simp only[List.length_cons];omega) (by rwa[<- Nat.add_assoc])
  rwa[<- Nat.add_assoc] at this
theorem Zal {P:Program} {w:World} {b off n sz len cap:Nat} {c:Array Value} {e:TypeId} {f:Nat×Nat} (hb:w.heap[b]? = some (.cells c e f)) (h:∀ j,j<n*sz->∃ v,c[off+j]? = some v/\v.oneCell'=true):
  (Builtin.firstCells sz n (.slice (some ⟨b,off,none⟩) len cap)).run P w=.ok ((c.toList.drop off).take (n*sz)).toArray w:=by
 obtain⟨hl,hg,_⟩:=take_vals h
 show(loadCells ⟨b,off,none⟩ (n*sz)).run P w=_
 have:=ZcU (P:=P) hb ((c.toList.drop off).take (n*sz)) (λj v hv=>((hg j v).mp hv).2)
 rwa[hl] at this
theorem Zak {P:Program} {w:World} {sz:Nat} {a:Option Addr} {len cap:Nat}:(Builtin.firstCells sz 0 (.slice a len cap)).run P w=.ok #[] w:=by
 cases a with
 |none=>rfl
 |some a=>
  show(loadCells a (0*sz)).run P w=_
  rw[Nat.zero_mul];rfl
structure AppSrc (P:Program) (w:World) (I:Nat->Prop) (t1 t2 ty e:TypeId) (i:TypeInfo) (z:Value) (ys:List (List C)) (F:List Nat) (vx:Value) (news:List Value):Prop where
 len:news.length=ys.length*i.size
 one:∀ v∈news,v.oneCell'=true
 rows:∀ (c:Array Value) (p:Nat),(∀ (j:Nat) (v:Value),news[j]? = some v->c[p+j]? = some v)->Ze P w I c (ZQ P t1) (Zl P t1) ys p F
 fit:∀ (base:Option Addr) (len cap:Nat) (w':World),len+ys.length<=cap->len+ys.length<=Z8->(match base with|some a=>storeCells (a.add (len*i.size)) news|none=>pure ():Sem Unit).run P w=.ok () w'->
  (Builtin.append_ #[t1,t2] ty #[.slice base len cap,vx]).run P w=.ok (.slice base (len+ys.length) cap) w'
 more:∀ (base:Option Addr) (len cap:Nat) (olds:Array Value),(Builtin.firstCells i.size len (.slice base len cap)).run P w.drew=.ok olds w.drew->cap<len+ys.length->len+ys.length<=Z8->
  (Builtin.append_ #[t1,t2] ty #[.slice base len cap,vx]).run P w=
   .ok (.slice (some ⟨w.heap.size,0,none⟩) (len+ys.length) (grownCap w (len+ys.length) cap e)) (w.drew.alloc (.cells (olds++news.toArray++Builtin.zeroCells z.cells (grownCap w (len+ys.length) cap e-(len+ys.length))) e))
theorem Zb3 {bytes:Nat} (hb:bytes<=1000) {need cap:Nat} (h:cap<need) (hm:need<=Z8):Builtin.nextslicecap need cap*bytes<=281474976710656:=by
 refine growslice_fits h ?_
 have:need*bytes<=68719476736*1000:=Nat.mul_le_mul hm hb
 omega
theorem Zaj (z:Array Value) (n:Nat):(Builtin.zeroCells z n).size=n*z.size:=by simp[Builtin.zeroCells]
theorem append_core {P:Program} {w:World} {I:Nat->Prop} {t1 t2 ty e:TypeId} {i:TypeInfo} {z:Value} {xs ys:List (List C)} {F F2:List Nat} {vd vx:Value} {news:List Value} (hT:Zar P)
  (he:Zah P t1=some e) (h0:0<P.cellsOf e) (hi:P.info? e=some i) (hzs:z.cells.size=i.size) (hd:OwC P w I (.own xs) t1 vd F) (hs:AppSrc P w I t1 t2 ty e i z ys F2 vx news) (hm:xs.length+ys.length<=Z8)
  (hnd:(F++F2).Nodup) (hF:∀ b∈F++F2,¬ I b/\b<w.heap.size) (hIlt:∀ b,I b->b<w.heap.size):
  ∃ v' w' F',(Builtin.append_ #[t1,t2] ty #[vd,vx]).run P w=.ok v' w'/\w.heap.size<=w'.heap.size/\w'.os=w.os/\w'.tape=w.tape/\w'.output=w.output/\
   (∀ b,b<w.heap.size->b∉F->w'.heap[b]? = w.heap[b]?)/\F'.Nodup/\(∀ b∈F',b<w'.heap.size/\(b<w.heap.size->b∈F++F2))/\OwC P w' I (.own (xs++ys)) t1 v' F':=by
 have hse:=ZaI he
 have hisz:i.size=P.cellsOf e:=by simp[Program.cellsOf,hi]
 have hct:(ZQ P t1).length=Zl P t1:=hT t1 (by omega)
 obtain⟨base,cap,rfl,hdd⟩:=OwC.row hd
 have grow:∀ (olds:Array Value) (Fo:List Nat),olds.size=xs.length*i.size->(∀ w':World,(∀ b,b∈Fo->w'.heap[b]? = w.heap[b]?)->(∀ b,I b->w'.heap[b]? = w.heap[b]?)->∀ (c:Array Value),(∀ (j:Nat) (v:Value),olds[j]? = some v->c[j]? = some v)->Ze P w' I c (ZQ P t1) (Zl P t1) xs 0 Fo)->
   (∀ b∈Fo,b∈F)->Fo.Nodup->(Builtin.firstCells i.size xs.length (.slice base xs.length cap)).run P w.drew=.ok olds w.drew->cap<xs.length+ys.length->
   ∃ v' w' F',(Builtin.append_ #[t1,t2] ty #[.slice base xs.length cap,vx]).run P w=.ok v' w'/\w.heap.size<=w'.heap.size/\w'.os=w.os/\w'.tape=w.tape/\w'.output=w.output/\
   (∀ b,b<w.heap.size->b∉F->w'.heap[b]? = w.heap[b]?)/\F'.Nodup/\(∀ b∈F',b<w'.heap.size/\(b<w.heap.size->b∈F++F2))/\OwC P w' I (.own (xs++ys)) t1 v' F':=by
  intro olds Fo hol hrows hsub hFo hfc hcap
  have hrun:=hs.more base xs.length cap olds hfc hcap hm
  have hge:=grownCap_ge w (xs.length+ys.length) cap e
  have hsz0:w.drew.heap.size=w.heap.size:=rfl
  have hget:∀ (o:Go.Obj) b,b<w.heap.size->(w.drew.alloc o).heap[b]? = w.heap[b]?:=λo b hb=>by rw[Zbj,if_neg (by rw[hsz0];omega)];rfl
  have hnd':=List.nodup_append.mp hnd
  refine⟨_,_,w.heap.size::(Fo++F2),hrun,by rw[ZaN,hsz0];omega,rfl,rfl,rfl,λb hb _=>hget _ b hb,?_,?_,?_⟩
  ·refine List.nodup_cons.mpr ⟨λhb=>?_,List.nodup_append.mpr ⟨hFo,hnd'.2.1,λb hb b' hb' e=>hnd'.2.2 b (hsub b hb) b' hb' e⟩⟩
   rcases List.mem_append.mp hb with hb|hb
   ·exact absurd (hF _ (List.mem_append_left _ (hsub _ hb))).2 (by omega)
   ·exact absurd (hF _ (List.mem_append_right _ hb)).2 (by omega)
  ·intro b hb
   rcases List.mem_cons.mp hb with rfl|hb
   ·exact⟨by rw[ZaN,hsz0];omega,λh=>by omega⟩
   ·rcases List.mem_append.mp hb with hb|hb
    ·have hb':=List.mem_append_left F2 (hsub b hb)
     exact⟨by rw[ZaN,hsz0];have:=(hF b hb').2;omega,λ_=>hb'⟩
    ·have hb':=List.mem_append_right F hb
     exact⟨by rw[ZaN,hsz0];have:=(hF b hb').2;omega,λ_=>hb'⟩
  ·simp only[OwC]
   refine⟨_,_,by rw[List.length_append],.inr ⟨w.heap.size,0,_,e,Fo++F2,rfl,λ_=>rfl,rfl,by rw[Zbj,if_pos hsz0.symm],by omega,?_,by rw[List.length_append];exact hge,?_⟩⟩
   ·rw[Nat.zero_add]
    simp only[Array.size_append,List.size_toArray,Zaj,hzs,hol,hs.len,hse,<- hisz,<- Nat.add_mul]
    congr 1;omega
   ·refine Ze.append.mpr ⟨Fo,F2,rfl,hrows _ (λb hb=>hget _ b (hF b (List.mem_append_left _ (hsub b hb))).2) (λb hb=>hget _ b (hIlt b hb)) _ λj v hv=>?_,?_⟩
    ·have hj:=(Array.getElem?_eq_some_iff.mp hv).1
     rw[Array.append_assoc,Array.getElem?_append_left hj];exact hv
    ·refine Ze.mono ⟨⟨λ_ h=>h,λb hb=>hget _ b (hIlt b hb)⟩,λb hb=>hget _ b (hF b (List.mem_append_right _ hb)).2⟩ (hs.rows _ _ λj v hv=>?_)
     have hj:=(List.getElem?_eq_some_iff.mp hv).1
     rw[Array.append_assoc,hse,<- hisz,Nat.zero_add,<- hol,Array.getElem?_append_right (by omega),Nat.add_sub_cancel_left,Array.getElem?_append_left (by simpa using hj)]
     simpa using hv
 rcases hdd with⟨rfl,rfl,rfl⟩|⟨b,o,c,e',F',rfl,ho0,rfl,hb,hz,hcs,hle,rows⟩
 ·by_cases hy:ys.length=0
  ·have:ys=[]:=List.eq_nil_of_length_eq_zero hy
   subst this
   have hn:news=[]:=List.eq_nil_of_length_eq_zero (by rw[hs.len];simp)
   subst hn
   have hr:=hs.fit base 0 0 w (by simp) (by simp) (by cases base<;>rfl)
   have hF2:=hs.rows #[] 0 (by simp)
   simp only[Ze] at hF2
   refine⟨_,w,[],hr,Nat.le_refl _,rfl,rfl,rfl,λ_ _ _=>rfl,by simp,by simp,?_⟩
   simp only[OwC]
   exact⟨base,0,by simp,.inl (by simp)⟩
  ·exact grow #[] [] (by simp) (λw' _ _ c _=>by simp[Ze]) (by simp) (by simp) Zak (by simp;omega)
 ·have hval:=Ze.cell hct rows
  by_cases hfit:xs.length+ys.length<=cap
  ·have hsz:o+(xs.length+ys.length)*i.size<=c.size:=by rw[hcs,hse,<- hisz];exact Nat.add_le_add_left (Nat.mul_le_mul_right _ hfit) _
   rw[Nat.add_mul] at hsz
   obtain⟨w',c',hst,hset,hc'⟩:=ZbK (P:=P) (off:=o+xs.length*i.size) news 0 w c hb (by rw[hs.len];omega) hs.one
   have hr:=hs.fit (some ⟨b,o,none⟩) xs.length cap w' hfit hm (by
    show(storeCells ((⟨b,o,none⟩:Addr).add (xs.length*i.size)) news).run P w=_
    rw[Zb8];exact hst)
   have hbn:b∉F'++F2:=by
    have:(b::(F'++F2)).Nodup:=by simpa using hnd
    exact(List.nodup_cons.mp this).1
   have hc':c'.toList=Zs c.toList (o+xs.length*i.size) news:=hc'
   have hsp:∀ j,c'[j]? = (Zs c.toList (o+xs.length*i.size) news)[j]?:=λj=>by rw[<- hc',Array.getElem?_toList]
   have hfits:o+xs.length*i.size+news.length<=c.toList.length:=by rw[hs.len];simp;omega
   have hIb:¬ I b:=(hF b (by simp)).1
   refine⟨_,w',b::(F'++F2),hr,by rw[hset.size];omega,hset.os,hset.tape,hset.output,λb' _ hb'=>hset.keep b' (λe=>hb' (by simp[e])),by simpa using hnd,λb' hb'=>⟨by rw[hset.size];exact(hF b' (by simpa using hb')).2,λ_=>by simpa using hb'⟩,?_⟩
   simp only[OwC]
   have hcs':c'.size=c.size:=by
    have:=congrArg List.length hc'
    rw[Zbf hfits] at this
    simpa using this
   refine⟨_,cap,by rw[List.length_append],.inr ⟨b,o,c',e',F'++F2,rfl,ho0,rfl,hset.at_,hz,by rw[hcs'];exact hcs,by rw[List.length_append];exact hfit,Ze.append.mpr ⟨F',F2,rfl,?_,?_⟩⟩⟩
   ·refine Ze.mono ⟨⟨λ_ h=>h,λb' hb'=>hset.keep b' (λe=>hIb (e▸hb'))⟩,λb' hb'=>hset.keep b' (λe=>hbn (by simp[<- e,hb']))⟩ (Ze.congr hct (λj v hj hv=>?_) rows)
    rw[hse,<- hisz] at hj
    rw[hsp,ZaK hfits,if_neg (by omega)]
    simpa using hv
   ·refine Ze.mono ⟨⟨λ_ h=>h,λb' hb'=>hset.keep b' (λe=>hIb (e▸hb'))⟩,λb' hb'=>hset.keep b' (λe=>hbn (by simp[<- e,hb']))⟩ (hs.rows _ _ λj v hv=>?_)
    have hj:=(List.getElem?_eq_some_iff.mp hv).1
    rw[hse,<- hisz,hsp,ZaK hfits,if_pos (by omega),Nat.add_sub_cancel_left]
    exact hv
  ·refine grow ((c.toList.drop o).take (xs.length*i.size)).toArray F' ?_ ?_ (by simp +contextual) ?_ ?_ (by omega)
   ·rw[hse,<- hisz] at hval
    have:=(take_vals (c:=c) (off:=o) (m:=xs.length*i.size) hval).1
    simpa using this
   ·intro w' h1 h2 c' hc'
    refine Ze.mono ⟨⟨λ_ h=>h,h2⟩,h1⟩ (Ze.congr hct (λj v hj hv=>?_) rows)
    rw[Nat.zero_add]
    refine hc' j v ?_
    rw[hse,<- hisz] at hj
    simp[List.getElem?_take,hj]
    simpa using hv
   ·have:=List.nodup_append.mp hnd
    exact(List.nodup_cons.mp this.1).2
   ·rw[hse,<- hisz] at hval
    exact Zal (w:=w.drew) (b:=b) (off:=o) (c:=c) hb hval
end Go.T
