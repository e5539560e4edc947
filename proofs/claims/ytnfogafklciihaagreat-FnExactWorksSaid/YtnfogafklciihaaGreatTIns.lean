/- The evaluator and why it is right. -/
import Derived.Test.YtnfogafklciihaaGreatTLibs
import Derived.Lib.Overlaps
import Derived.Laws.Externs
import Derived.Lib.AppendZeros
import Derived.Deep.QuietTactic
set_option linter.unusedVariables false
set_option linter.unusedSimpArgs false
namespace Go.T
open Go.Proofs
structure InsRaw (P:Program) (f K:Nat):Prop where
 no:∀ (a:Option Addr) (n cap i:Nat) (a':Option Addr) (cap':Nat) (w:World),i<=n->n<=cap->Calls P f #[.slice a n cap,.int .i64 i,.slice a' 0 cap'] w λex w'=>ex=.returned (.slice a n cap)/\w'=w
 yes:∀ (a:Option Addr) (n cap i:Nat) (c:Array Value) (vb m vcap:Nat) (cv:Array Value) (ev:TypeId) (w:World),
  w.heap[vb]? = some (.cells cv ev (0,0))->cv.size=vcap*K->m<=vcap->0<m->(∀ t,t<m*K->∃ v,cv[t]? = some v/\v.oneCell'=true)->
  (n=0/\cap=0\/∃ b e,a=some ⟨b,0,none⟩/\b≠vb/\w.heap[b]? = some (.cells c e (0,0))/\c.size=cap*K/\n<=cap/\∀ t,t<n*K->∃ v,c[t]? = some v/\v.oneCell'=true)->i<=n->n+m<=Zx->
  Calls P f #[.slice a n cap,.int .i64 i,.slice (some ⟨vb,0,none⟩) m vcap] w λex w'=>∃ (b' cap':Nat) (c':Array Value) (e':TypeId),ex=.returned (.slice (some ⟨b',0,none⟩) (n+m) cap')/\w'.heap[b']? = some (.cells c' e' (0,0))/\c'.size=cap'*K/\n+m<=cap'/\
   (0<cap/\a=some ⟨b',0,none⟩\/w.heap.size<=b')/\Gr b' w w'/\
   (∀ t,t<i*K->c'[t]? = c[t]?)/\(∀ t,t<m*K->c'[i*K+t]? = cv[t]?)/\∀ t,t<(n-i)*K->c'[(i+m)*K+t]? = c[i*K+t]?
theorem run_copy_K {P:Program} (w:World) (dT sT ty elem:TypeId) {i:TypeInfo} (b o dLen dCap:Nat) (a:Addr) (sLen sCap m:Nat) (cs:List Value)
  (hu:P.underlying dT=some (.slice elem)) (hq:P.info? elem=some i) (hm:Nat.min sLen dLen=m) (hn:cs.length=m*i.size)
  (hsrc:∀ j v,cs[j]? = some v->w.cell? (a.add j)=some v) (hc:∀ j,j<cs.length->(w.cell? ⟨b,o+j,none⟩).isSome=true) (hf:∀ j,j<cs.length->w.frozen? ⟨b,o+j,none⟩=false) (h1:∀ v∈cs,v.oneCell'=true):
  (Builtin.copy_ #[dT,sT] ty #[.slice (some ⟨b,o,none⟩) dLen dCap,.slice (some a) sLen sCap]).run P w=.ok (goInt m) (w.setCells b o cs):=by
 have hl:=run_loadCells_list (P:=P) w a cs hsrc;have hst:=run_storeCells_cells (P:=P) b o cs 0 w (by simpa using hc) (by simpa using hf) h1;rw[hn] at hl;simp[Builtin.copy_,Zk hu,Builtin.lenOf,Builtin.firstCells,sizeOf,typeInfo,hq,hm,hl,hst]
theorem wp_copy_run {P:Program} (w:World) {o:Oper} {a:Act} {K:Act->World->Prop} {Q:Exit->Act->World->Prop} (d s:Operand) (t t':TypeId)
  (ho:o.op=.call { callee:=.builtin .copy,args:=#[d,s],argTypes:=#[t,t'] }) (v u:Value) (hd:a.eval d=v) (hs:a.eval s=u) {v':Value} {w':World}
  (hr:(Builtin.copy_ #[t,t'] o.type #[v,u]).run P w=.ok v' w') (h:K (a.put o.dst v') w'):o.wp P a w K Q:=by
 unfold Oper.wp execOp;simp only[ho,resolve,invoke,builtin,Sem.run_bind,Sem.run_pure,Result.andThen_ok,List.map_toArray,List.map_cons,List.map_nil,hd,hs,hr]
 exact h
theorem wpList_copy_run {P:Program} (w:World) {ops:Array Oper} {rest:List Oper} {o:Oper} {a:Act} {Q:Exit->Act->World->Prop} (hgd:o.guard=none) (d s:Operand) (t t':TypeId)
  (ho:o.op=.call { callee:=.builtin .copy,args:=#[d,s],argTypes:=#[t,t'] }) (v u:Value) (hd:a.eval d=v) (hs:a.eval s=u) {v':Value} {w':World}
  (hr:(Builtin.copy_ #[t,t'] o.type #[v,u]).run P w=.ok v' w') (h:wpList P ops Q rest (a.put o.dst v') w'):wpList P ops Q (o::rest) a w:=
 wpList_plain hgd λ_ hK=>wp_copy_run w d s t t' ho v u hd hs hr (hK _ _ h)
theorem step_copy_run {P:Program} {ops:Array Oper} {o:Oper} {a:Act} {w:World} {K:Act->World->Prop} {Q:Exit->Act->World->Prop} {E:Prop}
  (hg:o.guard=none) (d x:Operand) (dT sT:TypeId) (hop:o.op=Op.call { callee:=Callee.builtin Builtin.copy,args:=#[d,x],argTypes:=#[dT,sT] })
  (v u:Value) (hd:a.eval d=v) (hx:a.eval x=u) {v':Value} {w':World} (hr:(Builtin.copy_ #[dT,sT] o.type #[v,u]).run P w=.ok v' w') (hK:K (a.put o.dst v') w'):
  if Region.wanted o (yielded ops a.tmps)=true then Oper.wp P o a w K Q else E:=by
 have hw:Region.wanted o (yielded ops a.tmps)=true:=by simp[Region.wanted,hg]
 rw[if_pos hw];unfold Oper.wp;simp[execOp,hop,resolve,invoke,builtin,hd,hx,hr,Result.andThen];exact hK
structure InsRoads (P:Program) (f o S K:Nat):Prop where
 no:∀ (a:Option Addr) (n cap i:Nat) (a':Option Addr) (cap':Nat) (w:World),i<=n->n<=cap->Calls P f #[.slice a n cap,.int .i64 i,.slice a' 0 cap'] w λex w'=>ex=.returned (.slice a n cap)/\w'=w
 A:∀ (a:Option Addr) (n cap m vb vcap:Nat) (w W':World) (R:Value),0<m->n<=cap->(∀ ty,(Builtin.append_ #[S,S] ty #[.slice a n cap,.slice (some ⟨vb,0,none⟩) m vcap]).run P w=.ok R W')->
  Calls P f #[.slice a n cap,.int .i64 n,.slice (some ⟨vb,0,none⟩) m vcap] w λex w'=>ex=.returned R/\w'=W'
 B:∀ (b n cap i vb m vcap:Nat) (cd vs:List Value) (w:World),i<n->0<m->n+m<=cap->n+m<=9223372036854775807->
  (∀ lb cb,(callFunc o #[.slice (some ⟨vb,0,none⟩) m vcap,.slice (some ⟨b,(i+m)*K,none⟩) lb cb]).run P w=.ok (.value (.bool false)) w)->
  (∀ ty dc sc,(Builtin.copy_ #[S,S] ty #[.slice (some ⟨b,(i+m)*K,none⟩) (n+m-(i+m)) dc,.slice (some ⟨b,i*K,none⟩) (n+m-i) sc]).run P w.drew=.ok (goInt ((n-i:Nat):Int)) (w.drew.setCells b ((i+m)*K) cd))->
  (∀ ty dc,(Builtin.copy_ #[S,S] ty #[.slice (some ⟨b,i*K,none⟩) (n+m-i) dc,.slice (some ⟨vb,0,none⟩) m vcap]).run P (w.drew.setCells b ((i+m)*K) cd)=.ok (goInt m) ((w.drew.setCells b ((i+m)*K) cd).setCells b (i*K) vs))->
  Calls P f #[.slice (some ⟨b,0,none⟩) n cap,.int .i64 i,.slice (some ⟨vb,0,none⟩) m vcap] w λex w'=>ex=.returned (.slice (some ⟨b,0,none⟩) (n+m) cap)/\w'=(w.drew.setCells b ((i+m)*K) cd).setCells b (i*K) vs
 C:∀ (b n cap i vb m vcap G N:Nat) (cd vs:List Value) (w W1:World),i<n->0<m->n<=cap->cap<n+m->n+m<=G->G<=9223372036854775807->
  (∀ ty,(Builtin.append_ #[S,3] ty #[.slice (some ⟨b,0,none⟩) i cap,.int .i64 ((n:Int)+(m:Int)-(i:Int))]).run P w=.ok (.slice (some ⟨N,0,none⟩) (n+m) G) W1)->
  (∀ ty dc,(Builtin.copy_ #[S,S] ty #[.slice (some ⟨N,i*K,none⟩) (n+m-i) dc,.slice (some ⟨vb,0,none⟩) m vcap]).run P W1=.ok (goInt m) (W1.setCells N (i*K) vs))->
  (∀ ty dc sc,(Builtin.copy_ #[S,S] ty #[.slice (some ⟨N,(i+m)*K,none⟩) (n+m-(i+m)) dc,.slice (some ⟨b,i*K,none⟩) (n-i) sc]).run P (W1.setCells N (i*K) vs).drew=.ok (goInt ((n-i:Nat):Int)) ((W1.setCells N (i*K) vs).drew.setCells N ((i+m)*K) cd))->
  Calls P f #[.slice (some ⟨b,0,none⟩) n cap,.int .i64 i,.slice (some ⟨vb,0,none⟩) m vcap] w λex w'=>ex=.returned (.slice (some ⟨N,0,none⟩) (n+m) G)/\w'=(W1.setCells N (i*K) vs).drew.setCells N ((i+m)*K) cd
theorem shape_cells {w:World} {b:Nat} {c:Array Value} {e:TypeId} {f:Nat×Nat} (h:w.heap[b]? = some (.cells c e f)):w.shape? b=some (e,c.size):=by simp[World.shape?,h]
theorem Gs.refl (w:World):Gs w w:=⟨Nat.le_refl _,rfl,rfl,rfl,λ_ _=>rfl⟩
theorem cut_cells {c:Array Value} {n K:Nat} (h1:∀ t,t<n*K->∃ v,c[t]? = some v/\v.oneCell'=true) {i m:Nat} (h:i+m<=n):
  ((c.toList.drop (i*K)).take (m*K)).length=m*K/\(∀ (j:Nat) (v:Value),((c.toList.drop (i*K)).take (m*K))[j]? = some v↔j<m*K/\c[i*K+j]? = some v)/\∀ v∈(c.toList.drop (i*K)).take (m*K),v.oneCell'=true:=
 take_vals λj hj=>h1 (i*K+j) (by
  have:=Nat.mul_le_mul_right K h;rw[Nat.add_mul] at this;omega)
theorem InsRoads.raw {P:Program} {f o S E K T:Nat} (r:InsRoads P f o S K) (hS:P.underlying S=some (.slice E)) (h3:P.underlying 3=some (.int .i64)) {i0:TypeInfo} {z:Value} (hi0:P.info? E=some i0) (hz:i0.zero=some z) (hs:i0.size=K) (hK:0<K) (hzs:z.cells.size=K) (hby:i0.bytes<=1000)
  (hov:∀ (x y:Value) (w:World),(Extern.SlicesOverlaps.overlaps #[S,S] #[T] #[x,y]).run P w=.ok (.bool false) w->(callFunc o #[x,y]).run P w=.ok (.value (.bool false)) w):InsRaw P f K:=by
 refine⟨r.no,λa n cap i c vb m vcap cv ev w hvb hvcs hmv hm hvc hsrc hin hmost=>?_⟩
 have hszE:∀ w,(Go.sizeOf E).run P w=.ok K w:=λw=>by simp[sizeOf,typeInfo,hi0,hs]
 obtain⟨vl,vg,v1⟩:=cut_cells hvc (i:=0) (m:=m) Om;generalize hvs:(cv.toList.drop (0*K)).take (m*K)=vs at vl vg v1;simp only[Nat.zero_mul,Nat.zero_add] at vg;have hvsc:∀ (W:World),W.heap[vb]? = some (.cells cv ev (0,0))->∀ j v,vs[j]? = some v->W.cell? ((⟨vb,0,none⟩:Addr).add j)=some v:=λW hW j v hj=>by
  rw[Addr.add_lit,ZbP hW,Nat.zero_add];exact((vg j v).mp hj).2
 have hvt:∀ t,t<m*K->vs[t]? = cv[t]?:=λt ht=>by
  obtain⟨u,hu,_⟩:=hvc t ht;rw[hu];exact(vg t u).mpr ⟨ht,hu⟩
 have hlen:∀ W,(Builtin.lenOf (.slice (some ⟨vb,0,none⟩) m vcap)).run P W=.ok m W:=λW=>by simp[Builtin.lenOf]
 have hfst:∀ (W:World),W.heap[vb]? = some (.cells cv ev (0,0))->(Builtin.firstCells i0.size m (.slice (some ⟨vb,0,none⟩) m vcap)).run P W=.ok vs.toArray W:=λW hW=>by
  have:=Zau (P:=P) (n:=m) (sz:=K) (len:=m) (cap:=vcap) (off:=0) hW (by simpa using hvc);rw[hs,this,<- hvs];simp
 by_cases hend:i=n
 ·subst hend;by_cases hfit:i+m<=cap
  ·obtain⟨b,e,rfl,hbv,hb,hcs,hle,h1⟩:∃ b e,a=some ⟨b,0,none⟩/\b≠vb/\w.heap[b]? = some (.cells c e (0,0))/\c.size=cap*K/\i<=cap/\∀ t,t<i*K->∃ v,c[t]? = some v/\v.oneCell'=true:=by
    rcases hsrc with⟨q1,q2⟩|q
    ·omega
    ·exact q
   have hcap:i*K+vs.length<=c.size:=by
    rw[vl,hcs,<- Nat.add_mul];exact Nat.mul_le_mul_right K hfit
   obtain⟨hb1,ho1⟩:=Zbs vs (i*K) hb;have hst:=run_storeCells_cells (P:=P) b (i*K) vs 0 w (λj hj=>by rw[Nat.add_zero,ZbP hb,Array.getElem?_eq_getElem Om];rfl) (λj hj=>Zb1 hb _) v1;rw[Nat.add_zero] at hst;refine Calls.mono (r.A (some ⟨b,0,none⟩) i cap m vb vcap w (w.setCells b (i*K) vs) (.slice (some ⟨b,0,none⟩) (i+m) cap) hm hle λty=>ZaW hS (.inl ⟨E,hS⟩) hi0 (hlen w) (hfst w hvb) hfit (by simp only[];rw[hs,Addr.add_lit,Nat.zero_add];exact hst)) ?_;rintro ex w' ⟨rfl,rfl⟩;refine⟨b,cap,_,e,rfl,hb1,by rw[Zbu,hcs],hfit,.inl ⟨Om,rfl⟩,ho1.gr,λt ht=>?_,λt ht=>?_,λt ht=>by simp at ht⟩
   ·rw[Zbd _ _ _ _ hcap,if_neg Om]
   ·rw[Zbd _ _ _ _ hcap,if_pos Om,Nat.add_sub_cancel_left,hvt t ht]
  ·have hnc:i<=cap:=by rcases hsrc with⟨q1,q2⟩|⟨_,_,_,_,_,_,q,_⟩<;>omega
   obtain⟨olds,holds,holl,holt⟩:∃ olds:Array Value,(Builtin.firstCells i0.size i (.slice a i cap)).run P w.drew=.ok olds w.drew/\olds.size=i*K/\∀ t,t<i*K->olds[t]? = c[t]?:=by
    rcases hsrc with⟨rfl,rfl⟩|⟨b,e,rfl,hbv,hb,hcs,hle,h1⟩
    ·exact⟨#[],Zat,by simp,λt ht=>by simp at ht⟩
    ·obtain⟨q1,q2,_⟩:=cut_cells h1 (i:=0) (m:=i) Om;refine⟨_,by rw[hs];exact Zau (w:=w.drew) (P:=P) (n:=i) (sz:=K) (len:=i) (cap:=cap) (off:=0) hb (by simpa using h1),by simpa using q1,λt ht=>?_⟩
     obtain⟨u,hu,_⟩:=h1 t ht;have:=(q2 t u).mpr ⟨ht,by simpa using hu⟩;simp at this⊢;rw[hu];exact this
   have hGe:=grownCap_ge w (i+m) cap E;refine Calls.mono (r.A a i cap m vb vcap w _ _ hm hnc λty=>ZaK hS (.inl ⟨E,hS⟩) hi0 hz (hlen w) (hfst w.drew hvb) holds Om (by unfold Zx at hmost;omega) (Zcm hby Om hmost)) ?_;rintro ex w' ⟨rfl,rfl⟩;have hzl:(Builtin.zeroCells z.cells (grownCap w (i+m) cap E-(i+m))).size=(grownCap w (i+m) cap E-(i+m))*K:=by rw[Za2,hzs]
   refine⟨w.heap.size,_,_,E,rfl,alloc_at w.drew _,?_,hGe,.inr (Nat.le_refl _),(Only.drew w.heap.size w).gr.trans ((gs_alloc w.drew _).gr _),λt ht=>?_,λt ht=>?_,λt ht=>by simp at ht⟩
   ·rw[Array.size_append,Array.size_append,hzl,holl,List.size_toArray,vl,<- Nat.add_mul,<- Nat.add_mul];congr 1;omega
   ·rw[Array.append_assoc,Array.getElem?_append_left Om,holt t ht]
   ·rw[Array.getElem?_append_left (by have:vs.toArray.size=m*K:=(by simpa using vl);rw[Array.size_append];omega),Array.getElem?_append_right Om,holl,Nat.add_sub_cancel_left];simpa using hvt t ht
 ·have hlt:i<n:=by omega
  obtain⟨b,e,rfl,hbv,hb,hcs,hle,h1⟩:∃ b e,a=some ⟨b,0,none⟩/\b≠vb/\w.heap[b]? = some (.cells c e (0,0))/\c.size=cap*K/\n<=cap/\∀ t,t<n*K->∃ v,c[t]? = some v/\v.oneCell'=true:=by
   rcases hsrc with⟨q1,q2⟩|q
   ·omega
   ·exact q
  obtain⟨dl,dg,d1⟩:=cut_cells h1 (i:=i) (m:=n-i) Om;generalize(c.toList.drop (i*K)).take ((n-i)*K)=cd at dl dg d1;have hdt:∀ t,t<(n-i)*K->cd[t]? = c[i*K+t]?:=λt ht=>by
   obtain⟨u,hu,_⟩:=h1 (i*K+t) (by
    have:i*K+(n-i)*K=n*K:=by rw[<- Nat.add_mul];congr 1;omega
    omega)
   rw[hu];exact(dg t u).mpr ⟨ht,hu⟩
  have hK1:(i+m)*K=i*K+m*K:=Nat.add_mul ..;have hK2:(i+m)*K+(n-i)*K=(n+m)*K:=by rw[<- Nat.add_mul];congr 1;omega
  by_cases hfit:n+m<=cap
  ·have hnc:(n+m)*K<=c.size:=by rw[hcs];exact Nat.mul_le_mul_right K hfit
   obtain⟨hb1,ho1⟩:=Zbs cd ((i+m)*K) (show w.drew.heap[b]? = _ from hb);obtain⟨hb2,ho2⟩:=Zbs vs (i*K) hb1;have hvb1:(w.drew.setCells b ((i+m)*K) cd).heap[vb]? = some (.cells cv ev (0,0)):=(ho1.other vb (λh=>hbv h.symm)).trans hvb;have hnm:n+m<=9223372036854775807:=by unfold Zx at hmost;omega
   have hcapK:0<cap*K:=Nat.mul_pos Om hK;have hcvK:0<cv.size:=by rw[hvcs];exact Nat.mul_pos Om hK
   refine Calls.mono (r.B b n cap i vb m vcap cd vs w hlt hm hfit hnm (λlb cb=>hov _ _ _ (Lib.run_overlaps_apart w S T E hS K hszE ⟨vb,0,none⟩ ⟨b,(i+m)*K,none⟩ m vcap lb cb (λh=>hbv h.symm) ev e cv.size c.size (shape_cells hvb) (shape_cells hb) (by rw[hcs];omega) (Zb1 hvb _) (Zb1 hvb _)))
    (λty dc sc=>run_copy_K w.drew S S ty E b ((i+m)*K) (n+m-(i+m)) dc ⟨b,i*K,none⟩ (n+m-i) sc (n-i) cd hS hi0 (by simp only[Nat.min_def];split<;>omega) (by rw[dl,hs])
     (λj v hj=>by rw[Addr.add_lit,ZbP (show w.drew.heap[b]? = _ from hb)];exact((dg j v).mp hj).2)
     (λj hj=>by rw[ZbP (show w.drew.heap[b]? = _ from hb),Array.getElem?_eq_getElem Om];rfl) (λj hj=>Zb1 (show w.drew.heap[b]? = _ from hb) _) d1)
    (λty dc=>run_copy_K _ S S ty E b (i*K) (n+m-i) dc ⟨vb,0,none⟩ m vcap m vs hS hi0 (by simp only[Nat.min_def];split<;>omega) (by rw[vl,hs]) (hvsc _ hvb1)
     (λj hj=>by rw[ZbP hb1,Array.getElem?_eq_getElem (by rw[Zbu];omega)];rfl) (λj hj=>Zb1 hb1 _) v1)) ?_
   rintro ex w' ⟨rfl,rfl⟩;have hc1:(i+m)*K+cd.length<=c.size:=by rw[dl];omega
   have hc2:i*K+vs.length<=(putA c ((i+m)*K) cd).size:=by rw[Zbu,vl];omega
   refine⟨b,cap,_,e,rfl,hb2,by rw[Zbu,Zbu,hcs],hfit,.inl ⟨Om,rfl⟩,((Only.drew b w).trans (ho1.trans ho2)).gr,λt ht=>?_,λt ht=>?_,λt ht=>?_⟩
   ·rw[Zbd _ _ _ _ hc2,if_neg Om,Zbd _ _ _ _ hc1,if_neg Om]
   ·rw[Zbd _ _ _ _ hc2,if_pos Om,Nat.add_sub_cancel_left,hvt t ht]
   ·rw[Zbd _ _ _ _ hc2,if_neg Om,Zbd _ _ _ _ hc1,if_pos Om,Nat.add_sub_cancel_left,hdt t ht]
  ·obtain⟨q1,q2,_⟩:=cut_cells h1 (i:=0) (m:=i) Om;have holds:(Builtin.firstCells i0.size i (.slice (some ⟨b,0,none⟩) i cap)).run P w.drew=.ok ((c.toList.drop (0*K)).take (i*K)).toArray w.drew:=by
    have h1':∀ j,j<i*K->∃ v,c[0+j]? = some v/\v.oneCell'=true:=λj hj=>by
     rw[Nat.zero_add];exact h1 j (Nat.lt_of_lt_of_le hj (Nat.mul_le_mul_right K Om))
    have:=Zau (w:=w.drew) (P:=P) (n:=i) (sz:=K) (len:=i) (cap:=cap) (off:=0) hb h1';rw[hs,this,Nat.zero_mul]
   generalize(c.toList.drop (0*K)).take (i*K)=ca at q1 q2 holds;have hct:∀ t,t<i*K->ca[t]? = c[t]?:=λt ht=>by
    obtain⟨u,hu,_⟩:=h1 t (Nat.lt_of_lt_of_le ht (Nat.mul_le_mul_right K Om));rw[hu];exact(q2 t u).mpr ⟨ht,by simpa using hu⟩
   have hGe:=grownCap_ge w (n+m) cap E;have hG63:grownCap w (n+m) cap E<=9223372036854775807:=grownCap_le_maxLen w (n+m) cap E (by unfold maxLen;unfold Zx at hmost;omega);have hin':i+(n+m-i)=n+m:=by omega
   have hkk:(n:Int)+(m:Int)-(i:Int)=((n+m-i:Nat):Int):=by omega
   have hmb:(n+m-i)*i0.bytes<=281474976710656:=by
    have:(n+m-i)*i0.bytes<=68719476736*1000:=Nat.mul_le_mul (by unfold Zx at hmost;omega) hby;omega
   have hrz:∀ ty,_:=λty=>run_append_more0 (P:=P) (w:=w) (t1:=S) (t2:=3) (ty:=ty) (q:=.i64) hS h3 hi0 hz (base:=some ⟨b,0,none⟩) (len:=i) (cap:=cap) (n:=n+m-i) hmb (by unfold Zx at hmost;omega) holds Om (by unfold Zx at hmost;omega) (by rw[hin'];exact Zcm hby Om hmost)
   rw[hin',<- hkk,if_neg (by rw[hs];exact Nat.mul_ne_zero Om Om)] at hrz;obtain⟨G,hG⟩:∃ G,G=grownCap w (n+m) cap E:=⟨_,rfl⟩
   rw[<- hG] at hrz hGe hG63;obtain⟨ROW,hROW⟩:∃ ROW:Array Value,ROW=ca.toArray++Builtin.zeroCells z.cells (n+m-i)++Builtin.zeroCells z.cells (G-(n+m)):=⟨_,rfl⟩
   rw[<- hROW] at hrz;have hRl:ROW.size=G*K:=by
    rw[hROW,Array.size_append,Array.size_append,Za2,Za2,hzs,List.size_toArray,q1,<- Nat.add_mul,<- Nat.add_mul];congr 1;omega
   have hGK:(n+m)*K<=ROW.size:=by rw[hRl];exact Nat.mul_le_mul_right K hGe
   have hR:(w.drew.alloc (.cells ROW E)).heap[w.heap.size]? = some (.cells ROW E (0,0)):=alloc_at w.drew _;have hRo:=gs_alloc w.drew (.cells ROW E);have hbw:b<w.heap.size:=(Array.getElem?_eq_some_iff.mp hb).1;have hvw:vb<w.heap.size:=(Array.getElem?_eq_some_iff.mp hvb).1;obtain⟨hb1,ho1⟩:=Zbs vs (i*K) hR;obtain⟨hb2,ho2⟩:=Zbs cd ((i+m)*K) (show((w.drew.alloc (.cells ROW E)).setCells w.heap.size (i*K) vs).drew.heap[w.heap.size]? = _ from hb1);have hsb:((w.drew.alloc (.cells ROW E)).setCells w.heap.size (i*K) vs).drew.heap[b]? = some (.cells c e (0,0)):=(ho1.other b Om).trans ((hRo.same b hbw).trans hb);refine Calls.mono (r.C b n cap i vb m vcap G w.heap.size cd vs w (w.drew.alloc (.cells ROW E)) hlt hm hle Om hGe hG63 hrz
    (λty dc=>run_copy_K _ S S ty E w.heap.size (i*K) (n+m-i) dc ⟨vb,0,none⟩ m vcap m vs hS hi0 (by simp only[Nat.min_def];split<;>omega) (by rw[vl,hs]) (hvsc _ ((hRo.same vb hvw).trans hvb))
     (λj hj=>by rw[ZbP hR,Array.getElem?_eq_getElem Om];rfl) (λj hj=>Zb1 hR _) v1)
    (λty dc sc=>run_copy_K _ S S ty E w.heap.size ((i+m)*K) (n+m-(i+m)) dc ⟨b,i*K,none⟩ (n-i) sc (n-i) cd hS hi0 (by simp only[Nat.min_def];split<;>omega) (by rw[dl,hs])
     (λj v hj=>by rw[Addr.add_lit,ZbP hsb];exact((dg j v).mp hj).2)
     (λj hj=>by rw[ZbP (show((w.drew.alloc (.cells ROW E)).setCells w.heap.size (i*K) vs).drew.heap[w.heap.size]? = _ from hb1),Array.getElem?_eq_getElem (by rw[Zbu];omega)];rfl)
     (λj hj=>Zb1 (show((w.drew.alloc (.cells ROW E)).setCells w.heap.size (i*K) vs).drew.heap[w.heap.size]? = _ from hb1) _) d1)) ?_
   rintro ex w' ⟨rfl,rfl⟩;have hc1:i*K+vs.length<=ROW.size:=by rw[vl];omega
   have hc2:(i+m)*K+cd.length<=(putA ROW (i*K) vs).size:=by rw[Zbu,dl];omega
   refine⟨w.heap.size,G,_,E,rfl,hb2,by rw[Zbu,Zbu,hRl],hGe,.inr (Nat.le_refl _),(Only.drew w.heap.size w).gr.trans ((hRo.gr _).trans (ho1.gr.trans ((Only.drew w.heap.size _).gr.trans ho2.gr))),λt ht=>?_,λt ht=>?_,λt ht=>?_⟩
   ·rw[Zbd _ _ _ _ hc2,if_neg Om,Zbd _ _ _ _ hc1,if_neg Om,hROW,Array.append_assoc,Array.getElem?_append_left (by rw[List.size_toArray,q1];exact ht)];simpa using hct t ht
   ·rw[Zbd _ _ _ _ hc2,if_neg Om,Zbd _ _ _ _ hc1,if_pos Om,Nat.add_sub_cancel_left,hvt t ht]
   ·rw[Zbd _ _ _ _ hc2,if_pos Om,Nat.add_sub_cancel_left,hdt t ht]
theorem insert_ok {P:Program} (hT:Zax P) {f ct K:Nat} (hK:Zs P ct=K) (hent:Zbl P f=true) (raw:InsRaw P f K)
  {run:{β:Type}->List A->(List (List C)->Option β)->Option β} (hrun:∀ (β:Type) (aa:List A) (k:List (List C)->Option β) (r:β),run aa k=some r->∃ xs i ys,aa=[.own false [.own xs],.d (.int .i64 i),.own false [.own ys]]/\(0<=i/\i<=(xs.length:Int)/\xs.length+ys.length<=Zx)/\k (xs.take i.toNat++ys++xs.drop i.toNat)=some r) (hcut:cutTy ct=false:=by rfl):
  Zas P f { modes:=[(.own,0)],rts:=[ct],al:=false,run:=λ_ _=>none,lib:=some ⟨[true,false,true],ct,run⟩ }:=by
 refine⟨hent,λβ aa K r hr=>(by cases hr),λL hL=>?_⟩
 injection hL with hL;subst hL;intro β aa k r hr;obtain⟨xs,i,ys,rfl,⟨h0,h1,h2⟩,hk⟩:=hrun β aa k r hr;refine⟨_,hk,λw I J vs F hargs hnd hF hJI hI=>?_⟩
 simp only[LArgs,ZV,RdD] at hargs;obtain⟨v,vs1,F1,F2,rfl,rfl,hown,v2,vs2,rfl,⟨-,rfl⟩,v3,vs3,F3,F4,rfl,rfl,hown3,rfl,rfl⟩:=hargs;obtain⟨i,rfl⟩:∃ m:Nat,i=m:=⟨i.toNat,Om⟩
 simp only[Int.toNat_natCast]
 rw[List.append_nil] at hnd hF⊢;obtain⟨a,cap,rfl,hrow⟩:=OwC.row0 hown hcut;obtain⟨a3,cap3,rfl,hrow3⟩:=OwC.row0 hown3 hcut;have hle:xs.length<=cap:=by
  rcases hrow with⟨rfl,rfl,_⟩|⟨_,_,_,_,_,_,_,_,_,h,_⟩
  ·simp
  ·exact h
 rcases hrow3 with⟨rfl,rfl,rfl⟩|⟨vb,cv,ev,Fv,rfl,rfl,hvb,hvz,hvcs,hvle,vrows⟩
 ·refine Calls.mono (raw.no a xs.length cap i _ _ w Om hle) ?_;rintro ex w' ⟨rfl,rfl⟩;refine⟨_,F1,rfl,Nat.le_refl _,rfl,rfl,rfl,λ_ _ _=>rfl,by simpa using hnd,λb hb=>⟨(hF b (by simp[hb])).2,λ_=>by simp[hb]⟩,?_⟩
  rw[List.append_nil,List.take_append_drop];exact hown
 have hct:(ZX P ct).length=Zs P ct:=hT ct Om;by_cases hm0:ys.length=0
 ·obtain rfl:=List.length_eq_zero_iff.mp hm0;refine Calls.mono (raw.no a xs.length cap i _ _ w Om hle) ?_;rintro ex w' ⟨rfl,rfl⟩;refine⟨_,F1,rfl,Nat.le_refl _,rfl,rfl,rfl,λ_ _ _=>rfl,(List.nodup_append.mp hnd).1,λb hb=>⟨(hF b (by simp[hb])).2,λ_=>by simp[hb]⟩,?_⟩
  rw[List.append_nil,List.take_append_drop];exact hown
 have hsplit:xs=xs.take i++xs.drop i:=(List.take_append_drop i xs).symm;have hl1:(xs.take i).length=i:=by rw[List.length_take];omega
 have hl3:(xs.drop i).length=xs.length-i:=List.length_drop ..;have hvcell:∀ t,t<ys.length*K->∃ v,cv[t]? = some v/\v.oneCell'=true:=λt ht=>by
  have:=Zj.cell hct vrows t (by rw[hK];exact ht);simpa using this
 -- what stands in xs's block
 obtain⟨c,Fa,Fc,hsrc,hra,hrc,hF1,hapart⟩:∃ (c:Array Value) (Fa Fc:List Nat),(xs.length=0/\cap=0\/∃ b e,a=some ⟨b,0,none⟩/\b≠vb/\w.heap[b]? = some (.cells c e (0,0))/\c.size=cap*K/\xs.length<=cap/\∀ t,t<xs.length*K->∃ v,c[t]? = some v/\v.oneCell'=true)/\
   Zj P w J c (ZX P ct) (Zs P ct) (xs.take i) 0 Fa/\Zj P w J c (ZX P ct) (Zs P ct) (xs.drop i) (0+i*Zs P ct) Fc/\(∀ x∈Fa++Fc,x∈F1)/\((Fa++Fc).Nodup/\∀ b,0<cap->a=some ⟨b,0,none⟩->b∈F1/\b∉Fa++Fc):=by
  rcases hrow with⟨rfl,rfl,rfl⟩|⟨b,c,e,F',rfl,rfl,hb,hz,hcs,hle',rows⟩
  ·exact⟨#[],[],[],.inl ⟨rfl,rfl⟩,by simp[Zj],by simp[Zj],by simp,by simp,λb hb=>by omega⟩
  ·rw[hsplit] at rows;obtain⟨Fa,Fc,rfl,ra,rc⟩:=Zj.append.mp rows;rw[hl1] at rc;rw[List.cons_append,List.nodup_cons] at hnd;refine⟨c,Fa,Fc,.inr ⟨b,e,rfl,λh=>hnd.1 (by rw[h];simp),hb,by rw[hcs,hK],hle',λt ht=>?_⟩,ra,rc,λx hx=>by simp at hx⊢;exact .inr hx,(List.nodup_append.mp hnd.2).1,λb' _ hb'=>?_⟩
   ·have rows':Zj P w J c (ZX P ct) (Zs P ct) xs 0 (Fa++Fc):=by rw[hsplit];exact rows
    have:=Zj.cell hct rows' t (by rw[hK];exact ht);simpa using this
   ·injection hb' with hb';injection hb' with hb';subst hb';exact⟨by simp,λh=>hnd.1 (by simp at h⊢;rcases h with h|h;exact .inl h;exact .inr (.inl h))⟩
 refine Calls.mono (raw.yes a xs.length cap i c vb ys.length cap3 cv ev w hvb (by rw[hvcs,hK]) hvle Om hvcell hsrc Om h2) ?_;rintro ex w' ⟨b',cap',c',e',rfl,hb',hsz,hle2,hwho,hgr,hlow,hmid,hhigh⟩;have hnd1:=(List.nodup_append.mp hnd)
 have hbF:∀ x,x∈Fa++(Fv++Fc)->x∈F1++vb::Fv:=λx hx=>by
  simp only[List.mem_append,List.mem_cons] at hx⊢;rcases hx with h|h|h
  ·exact .inl (hF1 x (by simp[h]))
  ·exact .inr (.inr h)
  ·exact .inl (hF1 x (by simp[h]))
 have hb'F:b'<w.heap.size->b'∈F1:=λh=>by
  rcases hwho with⟨q0,q⟩|q
  ·exact(hapart.2 b' q0 q).1
  ·omega
 have hb'n:b'∉Fa++(Fv++Fc):=λh=>by
  have hlt:=(hF b' (hbF b' h)).2;rcases hwho with⟨q0,q⟩|q
  ·obtain⟨q1,q2⟩:=hapart.2 b' q0 q;simp only[List.mem_append] at h q2;rcases h with h|h|h
   ·exact q2 (.inl h)
   ·exact hnd1.2.2 b' q1 b' (by simp[h]) rfl
   ·exact q2 (.inr h)
  ·omega
 have hJ:∀ x,J x->x≠b':=λx hx e=>by
  have hlt:=hI x (hJI x hx);exact(hF b' (by simp[hb'F (e▸hlt)])).1 (e▸hJI x hx)
 have hkeep:∀ x∈Fa++(Fv++Fc),w'.heap[x]? = w.heap[x]?:=λx hx=>hgr.other x (λe=>hb'n (e▸hx)) (hF x (hbF x hx)).2
 have hJk:∀ x,J x->w'.heap[x]? = w.heap[x]?:=λx hx=>hgr.other x (hJ x hx) (hI x (hJI x hx))
 refine⟨_,b'::(Fa++(Fv++Fc)),rfl,hgr.size,hgr.os,hgr.tape,hgr.output,λx hx hxF=>hgr.other x (λe=>hxF ?_) hx,?_,λx hx=>?_,?_⟩
 ·subst e;simp[hb'F hx]
 ·refine List.nodup_cons.mpr ⟨hb'n,?_⟩;have d1:=hapart.1;have d2:(vb::Fv).Nodup:=hnd1.2.1;rw[List.nodup_append] at d1⊢;refine⟨d1.1,?_,λx hx y hy=>?_⟩
  ·rw[List.nodup_append];exact⟨(List.nodup_cons.mp d2).2,d1.2.1,λx hx y hy e=>hnd1.2.2 y (hF1 y (by simp[hy])) x (by simp[hx]) e.symm⟩
  ·rcases List.mem_append.mp hy with h|h
   ·exact hnd1.2.2 x (hF1 x (by simp[hx])) y (by simp[h])
   ·exact d1.2.2 x hx y h
 ·rcases List.mem_cons.mp hx with rfl|hx
  ·exact⟨(Array.getElem?_eq_some_iff.mp hb').1,λh=>by simp[hb'F h]⟩
  ·exact⟨Nat.lt_of_lt_of_le (hF x (hbF x hx)).2 hgr.size,λ_=>hbF x hx⟩
 ·refine OwC.mk0 ?_;have hlen:(xs.take i++ys++xs.drop i).length=xs.length+ys.length:=by clear hsrc;simp only[List.length_append,hl1,hl3];omega
  refine⟨_,_,by rw[hlen],.inr ⟨b',c',e',Fa++(Fv++Fc),rfl,rfl,hb',hvz,by rw[hsz,hK],by rw[hlen];exact hle2,?_⟩⟩
  rw[List.append_assoc];refine Zj.append.mpr ⟨Fa,Fv++Fc,rfl,?_,Zj.append.mpr ⟨Fv,Fc,rfl,?_,?_⟩⟩
  ·refine Zj.mono ⟨⟨λ_ h=>h,hJk⟩,λx hx=>hkeep x (by simp[hx])⟩ (Zj.move hct hra λt ht=>?_);rw[hl1,hK] at ht;simpa using hlow t ht
  ·refine Zj.mono ⟨⟨λ_ h=>h,hJk⟩,λx hx=>hkeep x (by simp[hx])⟩ (Zj.move hct vrows λt ht=>?_);rw[hK] at ht;rw[hl1,hK,Nat.zero_add,Nat.zero_add];exact hmid t ht
  ·refine Zj.mono ⟨⟨λ_ h=>h,hJk⟩,λx hx=>hkeep x (by simp[hx])⟩ (Zj.move hct hrc λt ht=>?_);rw[hl3,hK] at ht;rw[hl1,hK,Nat.zero_add,<- Nat.add_mul];exact hhigh t ht
structure GsBy (w:World) where
 to:World
 ok:Gs w to
instance (w:World):Inhabited (GsBy w):=⟨⟨w,Gs.refl w⟩⟩
theorem Gs.trans {w w' w'':World} (h:Gs w w') (h':Gs w' w''):Gs w w'':=⟨Nat.le_trans h.size h'.size,h'.os.trans h.os,h'.tape.trans h.tape,h'.output.trans h.output,λb hb=>(h'.same b (Nat.lt_of_lt_of_le hb h.size)).trans (h.same b hb)⟩
end Go.T
