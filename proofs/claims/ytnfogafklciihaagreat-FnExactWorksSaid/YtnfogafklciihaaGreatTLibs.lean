/- The evaluator and why it is right. -/
import Derived.Test.YtnfogafklciihaaGreatTMark
import Derived.Lib.Bytealg
import Derived.Lib.Walk
import Derived.Tactics2
import Derived.Shelf.RegionOpenPlain
import Derived.WalkKit
import Derived.Deep.RegionLaw
import Derived.Deep.LoopGhost
import Derived.Shelf.Abstract
set_option linter.unusedVariables false
set_option linter.unusedSimpArgs false
namespace Go.T
open Go.Proofs
abbrev LD:=List (List D)
abbrev LC:=List (List C)
abbrev BA:=ByteArray
def cmpS (a b:ByteArray):Int:=Go.Lib.compareBytes a.data.toList b.data.toList
theorem strs_ok {P:Program} {f:FuncId} {t:TypeId} (hent:Zbl P f=true) (ht:(Z4 P t||Zb2 P t)=false) (hf:ZA P 6 t=[t]) {g:ByteArray->ByteArray->Int} (h:∀ (a b:ByteArray) (w:World),Calls P f #[.string a,.string b] w λe w'=>e=.returned (.int .i64 (g a b))/\w'=w)
  {run:{β:Type}->List A->(List (List C)->List Out->Option β)->Option β} (hrun:∀ (β:Type) (aa:List A) (K:List (List C)->List Out->Option β) (r:β),run aa K=some r->∃ a b,aa=[.d (.str a),.d (.str b)]/\K [[.d (.int .i64 (g a b))]] []=some r):
  Zas P f { modes:=[(.imm,0),(.imm,0)],rts:=[t],al:=false,run:=run }:=by
 obtain⟨ht,hp⟩:=Bool.or_eq_false_iff.mp ht;refine⟨hent,λβ aa K r hr=>?_,λL hL=>by cases hL⟩
 obtain⟨a,b,rfl,hk⟩:=hrun β aa K r hr;refine⟨_,_,hk,λw I Q vs F hargs hnd hF hI=>?_⟩
 simp only[ZY,ZV,RdD] at hargs;obtain⟨v1,vs1,F1,F2,rfl,rfl,⟨rfl,rfl⟩,v2,vs2,F3,F4,rfl,rfl,⟨rfl,rfl⟩,rfl,rfl⟩:=hargs;refine Calls.mono (h a b w) ?_;rintro e w' ⟨rfl,rfl⟩;refine⟨_,[.int .i64 (g a b)],I,[],[],rfl,rfl,Nat.le_refl _,rfl,rfl,rfl,λ_ _ _=>rfl,λ_ h=>h,λb hb=>⟨hI b hb,.inl hb⟩,by simp,by simp,?_,?_,by simp⟩
 ·simp[Zac]
 ·simp only[ZaY]
  refine⟨_,[],[],[],rfl,rfl,.inl ⟨hp,#[.int .i64 (g a b)],by rw[ht];rfl,rfl,?_⟩,by simp⟩
  rw[hf];simp only[Zf,OwC,RdD]
  exact⟨t,[],_,[],[],rfl,rfl,rfl,⟨rfl,rfl⟩,by simp⟩
structure Hold (p:Prop):Prop where
 out:p
structure Only (b:Nat) (w w':World):Prop where
 size:w'.heap.size=w.heap.size
 os:w'.os=w.os
 tape:w'.tape=w.tape
 output:w'.output=w.output
 other:∀ b',b'≠b->w'.heap[b']? = w.heap[b']?
theorem Only.refl (b:Nat) (w:World):Only b w w:=⟨rfl,rfl,rfl,rfl,λ_ _=>rfl⟩
theorem Only.trans {b:Nat} {w w' w'':World} (h:Only b w w') (h':Only b w' w''):Only b w w'':=
 ⟨h'.size.trans h.size,h'.os.trans h.os,h'.tape.trans h.tape,h'.output.trans h.output,λb' hb=>(h'.other b' hb).trans (h.other b' hb)⟩
theorem Only.drew (b:Nat) (w:World):Only b w w.drew:=⟨rfl,rfl,rfl,rfl,λ_ _=>rfl⟩
def putA (c:Array Value):Nat->List Value->Array Value
 |_,[]=>c
 |o,v::r=>putA (c.setIfInBounds o v) (o+1) r
theorem Zbu:∀ (vs:List Value) (c:Array Value) (o:Nat),(putA c o vs).size=c.size
 |[],_,_=>rfl
 |v::r,c,o=>by rw[putA,Zbu r];simp
theorem Zbd:∀ (vs:List Value) (c:Array Value) (o t:Nat),o+vs.length<=c.size->(putA c o vs)[t]? = if o<=t/\t<o+vs.length then vs[t-o]? else c[t]?
 |[],c,o,t,_=>by simp[putA];omega
 |v::r,c,o,t,h=>by
  rw[putA,Zbd r _ _ _ (by simp at h⊢;omega)];simp only[List.length_cons] at h⊢;by_cases h1:o+1<=t/\t<o+1+r.length
  ·rw[if_pos h1,if_pos Om,show t-o=(t-(o+1))+1 from by omega,List.getElem?_cons_succ]
  ·rw[if_neg h1,Array.getElem?_setIfInBounds];by_cases h2:o=t
   ·subst h2;rw[if_pos rfl,if_pos Om,if_pos Om];simp
   ·rw[if_neg h2,if_neg Om]
theorem Zbs {b:Nat} {e:TypeId} {f:Nat×Nat}:∀ (vs:List Value) {w:World} {c:Array Value} (o:Nat),w.heap[b]? = some (.cells c e f)->(w.setCells b o vs).heap[b]? = some (.cells (putA c o vs) e f)/\Only b w (w.setCells b o vs)
 |[],w,c,o,h=>⟨h,Only.refl b w⟩
 |v::r,w,c,o,h=>by
  have h1:(w.setCell ⟨b,o,none⟩ v).heap[b]? = some (.cells (c.setIfInBounds o v) e f):=by
   simp only[World.setCell]
   rw[Array.getElem?_modify,if_pos rfl,h];rfl
  obtain⟨h2,h3⟩:=Zbs r (o+1) h1;refine⟨h2,Only.trans (w':=w.setCell ⟨b,o,none⟩ v) ⟨by simp[World.setCell],rfl,rfl,rfl,λb' hb'=>?_⟩ h3⟩
  simp only[World.setCell]
  rw[Array.getElem?_modify,if_neg (λe=>hb' e.symm)]
theorem Zb1 {w:World} {b:Nat} {c:Array Value} {e:TypeId} (h:w.heap[b]? = some (.cells c e (0,0))) (p:Nat):w.frozen? ⟨b,p,none⟩=false:=by
 simp[World.frozen?,h]
theorem run_clear_cells {P:Program} {w:World} {t e ty:TypeId} {i:TypeInfo} {z:Value} (ht:P.underlying t=some (.slice e)) (hi:P.info? e=some i) (hz:i.zero=some z) (h1:∀ v∈z.cells.toList,v.oneCell'=true) {b o n c:Nat} (hn:0<n)
  (hc:∀ j,j<n*z.cells.size->(w.cell? ⟨b,o+j,none⟩).isSome=true) (hf:∀ j,j<n*z.cells.size->w.frozen? ⟨b,o+j,none⟩=false):
  (Builtin.clear_ #[t] ty #[.slice (some ⟨b,o,none⟩) n c]).run P w=.ok (.tuple #[]) (w.setCells b o (Builtin.zeroCells z.cells n).toList):=by
 have hl:(Builtin.zeroCells z.cells n).toList.length=n*z.cells.size:=by simp[Za2]
 have hst:=run_storeCells_cells (P:=P) b o (Builtin.zeroCells z.cells n).toList 0 w (by rw[hl];simpa using hc) (by rw[hl];simpa using hf) (λv hv=>by
  simp only[Builtin.zeroCells,Array.mem_toList_iff,Array.mem_map,Array.mem_range] at hv;obtain⟨q,hq,rfl⟩:=hv;by_cases h0:z.cells.size=0
  ·rw[h0] at hq;simp at hq
  ·refine h1 _ ?_;rw[getElem!_pos z.cells _ (Nat.mod_lt _ Om)];simp)
 simp only[Nat.add_zero] at hst;obtain⟨m,rfl⟩:∃ m,n=m+1:=⟨n-1,Om⟩
 simp[Builtin.clear_,Zk ht,zeroValue,typeInfo,hi,hz,hst]
theorem tail_src {w:World} {b cap j n K:Nat} {c:Array Value} {e:TypeId} (hb:w.heap[b]? = some (.cells c e (0,0))) (hc:c.size=cap*K) (hn:n<=cap) (hj:j<=n) (h1:∀ t,t<n*K->∃ v,c[t]? = some v/\v.oneCell'=true):
  ∃ (A:Addr) (news:List Value),(if cap=j then(some ⟨b,0,none⟩:Option Addr) else some ⟨b,j*K,none⟩)=some A/\news.length=(n-j)*K/\(∀ t u,news[t]? = some u->w.cell? (A.add t)=some u)/\(∀ u∈news,u.oneCell'=true)/\∀ t,t<(n-j)*K->news[t]? = c[j*K+t]?:=by
 have hnK:n*K<=c.size:=by rw[hc];exact Nat.mul_le_mul_right K hn
 have hjn:j*K+(n-j)*K=n*K:=by rw[<- Nat.add_mul];congr 1;omega
 have hget:∀ t,t<(n-j)*K->((c.toList.drop (j*K)).take ((n-j)*K))[t]? = c[j*K+t]?:=by
  intro t ht;rw[List.getElem?_take_of_lt ht,List.getElem?_drop,Array.getElem?_toList]
 have hlen:((c.toList.drop (j*K)).take ((n-j)*K)).length=(n-j)*K:=by simp;omega
 have hone:∀ u∈(c.toList.drop (j*K)).take ((n-j)*K),u.oneCell'=true:=by
  intro u hu;obtain⟨t,ht,rfl⟩:=List.mem_iff_getElem.mp hu;rw[hlen] at ht;have:=hget t ht;rw[List.getElem?_eq_getElem (by rw[hlen];exact ht)] at this;obtain⟨v,hv,h2⟩:=h1 (j*K+t) Om;rw[hv] at this;injection this with this;rw[this];exact h2
 by_cases h:cap=j
 ·refine⟨⟨b,0,none⟩,_,by simp[h],hlen,λt u hu=>?_,hone,hget⟩
  have ht:=(List.getElem?_eq_some_iff.mp hu).1;rw[hlen] at ht;have:(n-j)=0:=by omega
  rw[this] at ht;simp at ht
 ·refine⟨⟨b,j*K,none⟩,_,by simp[h],hlen,λt u hu=>?_,hone,hget⟩
  have ht:=(List.getElem?_eq_some_iff.mp hu).1;rw[hlen] at ht;rw[hget t ht] at hu;rw[Addr.add_lit,ZbP hb];exact hu
theorem Zf.move {P:Program} {w:World} {I:Nat->Prop} {c c':Array Value}:∀ {xs:List C} {cts:List TypeId} {p p':Nat} {F:List Nat},Zf P w I c xs cts p F->(∀ t,t<xs.length->c'[p'+t]? = c[p+t]?)->Zf P w I c' xs cts p' F
 |[],_,_,_,_,r,_=>by simpa only[Zf] using r
 |x::xs,cts,p,p',F,r,h=>by
  simp only[Zf] at r⊢;obtain⟨ct,cts',v,F1,F2,e1,e2,e3,r1,r2⟩:=r;refine⟨ct,cts',v,F1,F2,e1,e2,by have:=h 0 Sp;simp only[Nat.add_zero] at this;rw[this];exact e3,r1,Zf.move r2 λt ht=>?_⟩
  have:=h (t+1) (by simp;omega);rwa[show p'+(t+1)=p'+1+t from by omega,show p+(t+1)=p+1+t from by omega] at this
theorem Zj.move {P:Program} {w:World} {I:Nat->Prop} {c c':Array Value} {cts:List TypeId} {sz:Nat} (hs:cts.length=sz):∀ {xs:List (List C)} {p p':Nat} {F:List Nat},Zj P w I c cts sz xs p F->(∀ t,t<xs.length*sz->c'[p'+t]? = c[p+t]?)->Zj P w I c' cts sz xs p' F
 |[],_,_,_,r,_=>by simpa only[Zj] using r
 |x::xs,p,p',F,r,h=>by
  simp only[Zj] at r⊢;obtain⟨F1,F2,e,r1,r2⟩:=r;have hl:x.length=sz:=by rw[Zf.length r1,hs]
  refine⟨F1,F2,e,Zf.move r1 λt ht=>h t (by simp only[List.length_cons,Nat.add_mul,Nat.one_mul];omega),Zj.move hs r2 λt ht=>?_⟩
  have:=h (sz+t) (by simp only[List.length_cons,Nat.add_mul,Nat.one_mul];omega);rwa[<- Nat.add_assoc,<- Nat.add_assoc] at this
def DelRaw (P:Program) (f K:Nat):Prop:=
 (∀ (a:Option Addr) (n cap i:Nat) (w:World),i<=n->n<=cap->Calls P f #[.slice a n cap,.int .i64 i,.int .i64 i] w λex w'=>ex=.returned (.slice a n cap)/\w'=w)/\
 ∀ (b cap n i j:Nat) (c:Array Value) (e:TypeId) (w:World),w.heap[b]? = some (.cells c e (0,0))->c.size=cap*K->n<=cap->i<j->j<=n->(∀ t,t<n*K->∃ v,c[t]? = some v/\v.oneCell'=true)->
  Calls P f #[.slice (some ⟨b,0,none⟩) n cap,.int .i64 i,.int .i64 j] w λex w'=>ex=.returned (.slice (some ⟨b,0,none⟩) (n-(j-i)) cap)/\Only b w w'/\∃ c',w'.heap[b]? = some (.cells c' e (0,0))/\c'.size=c.size/\(∀ t,t<i*K->c'[t]? = c[t]?)/\∀ t,t<(n-j)*K->c'[i*K+t]? = c[j*K+t]?
theorem delete_ok {P:Program} (hT:Zax P) {f ct K:Nat} (hK:Zs P ct=K) (hent:Zbl P f=true) (raw:DelRaw P f K)
  {run:{β:Type}->List A->(List (List C)->Option β)->Option β} (hrun:∀ (β:Type) (aa:List A) (k:List (List C)->Option β) (r:β),run aa k=some r->∃ xs i j,aa=[.own false [.own xs],.d (.int .i64 i),.d (.int .i64 j)]/\(0<=i/\i<=j/\j<=(xs.length:Int))/\k (xs.take i.toNat++xs.drop j.toNat)=some r) (hcut:cutTy ct=false:=by rfl):
  Zas P f { modes:=[(.own,0)],rts:=[ct],al:=false,run:=λ_ _=>none,lib:=some ⟨[true,false,false],ct,run⟩ }:=by
 refine⟨hent,λβ aa K r hr=>(by cases hr),λL hL=>?_⟩
 injection hL with hL;subst hL;intro β aa k r hr;obtain⟨xs,i,j,rfl,⟨h0,h1,h2⟩,hk⟩:=hrun β aa k r hr;refine⟨_,hk,λw I J vs F hargs hnd hF hJI hI=>?_⟩
 simp only[LArgs,ZV,RdD] at hargs;obtain⟨v,vs1,F1,F2,rfl,rfl,hown,v2,vs2,rfl,⟨-,rfl⟩,v3,vs3,rfl,⟨-,rfl⟩,rfl,rfl⟩:=hargs;obtain⟨i,rfl⟩:∃ m:Nat,i=m:=⟨i.toNat,Om⟩
 obtain⟨j,rfl⟩:∃ m:Nat,j=m:=⟨j.toNat,Om⟩
 simp only[Int.toNat_natCast]
 rw[List.append_nil] at hnd hF⊢;obtain⟨a,cap,rfl,hrow⟩:=OwC.row0 hown hcut;have hle:xs.length<=cap:=by
  rcases hrow with⟨rfl,rfl,_⟩|⟨_,_,_,_,_,_,_,_,_,h,_⟩
  ·simp
  ·exact h
 by_cases hij:i=j
 ·subst hij;refine Calls.mono (raw.1 a xs.length cap i w Om hle) ?_;rintro ex w' ⟨rfl,rfl⟩;refine⟨_,F1,rfl,Nat.le_refl _,rfl,rfl,rfl,λ_ _ _=>rfl,hnd,λb hb=>⟨(hF b hb).2,λ_=>hb⟩,?_⟩
  rw[List.take_append_drop];exact hown
 ·rcases hrow with⟨rfl,rfl,_⟩|⟨b,c,e,F',rfl,rfl,hb,hz,hcs,hle',rows⟩
  ·simp at h2;omega
  have hct:(ZX P ct).length=Zs P ct:=hT ct Om;refine Calls.mono (raw.2 b cap xs.length i j c e w hb (by rw[hcs,hK]) hle Om Om (λt ht=>by
   have:=Zj.cell hct rows t (by rw[hK];exact ht);simpa using this)) ?_
  rintro ex w' ⟨rfl,ho,c',hb',hsz,hlow,hhigh⟩;have hsplit:xs=xs.take i++((xs.drop i).take (j-i)++xs.drop j):=by
   have:xs.drop j=(xs.drop i).drop (j-i):=by rw[List.drop_drop];congr 1;omega
   rw[this,List.take_append_drop,List.take_append_drop]
  rw[hsplit] at rows;obtain⟨Fa,Fr,rfl,ra,rr⟩:=Zj.append.mp rows;obtain⟨Fb,Fc,rfl,rb,rc⟩:=Zj.append.mp rr;have hbI:∀ x,J x->x≠b:=λx hx e=>(hF b Sp).1 (e▸hJI x hx)
  simp only[List.nodup_cons] at hnd;have hkeep:∀ x∈Fa++(Fb++Fc),w'.heap[x]? = w.heap[x]?:=λx hx=>ho.other x λe=>hnd.1 (e▸hx)
  have hl1:(xs.take i).length=i:=by rw[List.length_take];omega
  have hl2:((xs.drop i).take (j-i)).length=j-i:=by rw[List.length_take,List.length_drop];omega
  have hl3:(xs.drop j).length=xs.length-j:=List.length_drop ..;have hnd2:=hnd.2;refine⟨_,b::(Fa++Fc),rfl,by rw[ho.size];exact Nat.le_refl _,ho.os,ho.tape,ho.output,λx hx hxF=>ho.other x λe=>hxF (by simp[e]),?_,λx hx=>?_,?_⟩
  ·refine List.nodup_cons.mpr ⟨λq=>hnd.1 ?_,?_⟩
   ·rcases List.mem_append.mp q with q|q<;>simp[q]
   ·exact hnd2.sublist (List.Sublist.append (List.Sublist.refl _) (List.sublist_append_right _ _))
  ·rw[ho.size];have:x∈b::(Fa++(Fb++Fc)):=by
    rcases List.mem_cons.mp hx with rfl|hx
    ·simp
    ·rcases List.mem_append.mp hx with q|q<;>simp[q]
   exact⟨(hF x this).2,λ_=>this⟩
  ·refine OwC.mk0 ?_;refine⟨_,_,by rw[List.length_append,hl1,hl3,show i+(xs.length-j)=xs.length-(j-i) from by omega],.inr ⟨b,c',e,Fa++Fc,rfl,rfl,hb',hz,by rw[hsz,hcs],by rw[List.length_append,hl1,hl3];omega,Zj.append.mpr ⟨Fa,Fc,rfl,?_,?_⟩⟩⟩
   ·refine Zj.mono ⟨⟨λ_ h=>h,λx hx=>ho.other x (hbI x hx)⟩,λx hx=>hkeep x (by simp[hx])⟩ (Zj.move hct ra λt ht=>?_);rw[hl1,hK] at ht;simpa using hlow t ht
   ·refine Zj.mono ⟨⟨λ_ h=>h,λx hx=>ho.other x (hbI x hx)⟩,λx hx=>hkeep x (by simp[hx])⟩ (Zj.move hct rc λt ht=>?_);rw[hl3,hK] at ht;rw[hl1,hl2,hK,Nat.zero_add,<- Nat.add_mul,show i+(j-i)=j from by omega];exact hhigh t ht
structure Gr (b:Nat) (w w':World):Prop where
 size:w.heap.size<=w'.heap.size
 os:w'.os=w.os
 tape:w'.tape=w.tape
 output:w'.output=w.output
 other:∀ b',b'≠b->b'<w.heap.size->w'.heap[b']? = w.heap[b']?
theorem Gr.refl (b:Nat) (w:World):Gr b w w:=⟨Nat.le_refl _,rfl,rfl,rfl,λ_ _ _=>rfl⟩
theorem Gr.trans {b:Nat} {w w' w'':World} (h:Gr b w w') (h':Gr b w' w''):Gr b w w'':=
 ⟨Nat.le_trans h.size h'.size,h'.os.trans h.os,h'.tape.trans h.tape,h'.output.trans h.output,λb' hb hl=>(h'.other b' hb (Nat.lt_of_lt_of_le hl h.size)).trans (h.other b' hb hl)⟩
theorem Only.gr {b:Nat} {w w':World} (h:Only b w w'):Gr b w w':=⟨Nat.le_of_eq h.size.symm,h.os,h.tape,h.output,λb' hb _=>h.other b' hb⟩
structure Gs (w w':World):Prop where
 size:w.heap.size<=w'.heap.size
 os:w'.os=w.os
 tape:w'.tape=w.tape
 output:w'.output=w.output
 same:∀ b',b'<w.heap.size->w'.heap[b']? = w.heap[b']?
theorem Gs.gr {w w':World} (b:Nat) (h:Gs w w'):Gr b w w':=⟨h.size,h.os,h.tape,h.output,λb' _ hl=>h.same b' hl⟩
def kpt (p:Nat->Bool) (k0 n:Nat):List Nat:=(List.range k0)++((List.range' (k0+1) (n-(k0+1))).filter λj=>!p j)
structure DfI (b k0:Nat) (c:Array Value) (e:TypeId) (p:Nat->Bool) (w wr:World) (i j:Nat) (ck:Array Value):Prop where
 lt:k0<j
 gr:Gr b w wr
 at_:wr.heap[b]? = some (.cells ck e (0,0))
 size:ck.size=c.size
 len:(kpt p k0 j).length=i
 high:∀ t,j<=t->ck[t]? = c[t]?
 low:∀ m k:Nat,(kpt p k0 j)[m]? = some k->ck[m]? = c[k]?
theorem quiet {P:Program} {f:Nat} {e:Za0} {aa:List A} {d:D} (h:CallsOK P f e aa [[.d d]] []) {w:World} {I:Nat->Prop} {vs:List Value} (ha:ZY P w I (λ_=>True) aa e.modes vs []) (hI:∀ b,I b->b<w.heap.size) (t:TypeId) (ht:e.rts=[t]) (hagg:(Z4 P t||Zb2 P t)=false) (Q:Value->Prop) (hQ:∀ w I v,RdD w I d v->Q v):
  Calls P f vs.toArray w λex w'=>(∃ v,ex=.returned v/\Q v)/\Gs w w':=by
 obtain⟨hagg,hp⟩:=Bool.or_eq_false_iff.mp hagg;refine Calls.mono (h w I (λ_=>True) vs [] ha List.nodup_nil Sp hI) ?_;rintro ex w' ⟨v,vs',I',Fr,Fo,rfl,hv,h1,h2,h3,h4,h5,-,-,-,-,-,hr,-⟩;refine⟨⟨v,rfl,?_⟩,h1,h2,h3,h4,λb hb=>h5 b hb Sp⟩
 rw[ht] at hr;simp only[ZaY] at hr;obtain⟨v',vs'',F1,F2,rfl,-,⟨-,cells,rfl,-,hc⟩|⟨hp',-⟩,rfl,-⟩:=hr
 rotate_left
 ·rw[hp] at hp';cases hp'
 subst hv;rw[hagg];simp only[Zf,OwC] at hc;obtain⟨ct,cts',u,F3,F4,-,-,hu,⟨-,hd⟩,-⟩:=hc;have:cells.getD 0 undef=u:=by rw[Array.getD_eq_getD_getElem?,hu];rfl
 show Q (cells.getD 0 undef);rw[this];exact hQ _ _ _ hd
structure DfK (K b k0:Nat) (c:Array Value) (e:TypeId) (p:Nat->Bool) (w wr:World) (i j:Nat) (ck:Array Value):Prop where
 lt:k0<j
 gr:Gr b w wr
 at_:wr.heap[b]? = some (.cells ck e (0,0))
 size:ck.size=c.size
 len:(kpt p k0 j).length=i
 high:∀ t,j*K<=t->ck[t]? = c[t]?
 low:∀ m k:Nat,(kpt p k0 j)[m]? = some k->∀ t,t<K->ck[m*K+t]? = c[k*K+t]?
theorem gs_alloc (w:World) (o:Go.Obj):Gs w (w.alloc o):=⟨by show w.heap.size<=(w.heap.push o).size;rw[Array.size_push];omega,rfl,rfl,rfl,λb' hb'=>by
 show(w.heap.push o)[b']? = w.heap[b']?;rw[Array.getElem?_push_lt hb',Array.getElem?_eq_getElem hb']⟩
theorem alloc_at (w:World) (o:Go.Obj):(w.alloc o).heap[w.heap.size]? = some o:=by
 show(w.heap.push o)[w.heap.size]? = some o;simp
def ZaD {α:Type} (q:Nat->Bool):Nat->List α->List α
 |_,[]=>[]
 |o,x::xs=>bif q o then x::ZaD q (o+1) xs else ZaD q (o+1) xs
theorem Zj.pick {P:Program} {w:World} {I:Nat->Prop} {c c':Array Value} {cts:List TypeId} {sz:Nat} (hs:cts.length=sz) (q:Nat->Bool):∀ {xs:List (List C)} {o d:Nat} {F:List Nat},Zj P w I c cts sz xs (o*sz) F->
  (∀ m k:Nat,((List.range' o xs.length).filter q)[m]? = some k->∀ t,t<sz->c'[(d+m)*sz+t]? = c[k*sz+t]?)->∃ F',Zj P w I c' cts sz (ZaD q o xs) (d*sz) F'/\F'.Sublist F
 |[],o,d,F,r,h=>by
  simp only[Zj] at r;subst r;exact⟨[],by simp[ZaD,Zj],List.Sublist.refl _⟩
 |x::xs,o,d,F,r,h=>by
  simp only[Zj] at r;obtain⟨F1,F2,rfl,r1,r2⟩:=r;have hl:x.length=sz:=by rw[Zf.length r1,hs]
  rw[show o*sz+sz=(o+1)*sz from by rw[Nat.succ_mul]] at r2;rw[List.length_cons,List.range'_succ,List.filter_cons] at h;unfold ZaD;cases hq:q o with
  |false=>
   rw[hq] at h;obtain⟨F',h1,h2⟩:=Zj.pick hs q (d:=d) r2 h;exact⟨F',h1,h2.trans (List.sublist_append_right _ _)⟩
  |true=>
   rw[hq] at h;obtain⟨F',h1,h2⟩:=Zj.pick hs q (d:=d+1) r2 (λm k hk t ht=>by
    have:=h (m+1) k (by simpa using hk) t ht;rwa[show d+(m+1)=d+1+m from by omega] at this)
   refine⟨F1++F',?_,List.Sublist.append (List.Sublist.refl _) h2⟩
   simp only[cond_true,Zj]
   refine⟨F1,F',rfl,Zf.move r1 λt ht=>?_,by rw[show d*sz+sz=(d+1)*sz from by rw[Nat.succ_mul]];exact h1⟩
   exact h 0 o rfl t Om
def delR (pr:List D->Option Bool):List (List C)->Option (List (List C))
 |[]=>some []
 |s::r=>match pr (C.immCells s),delR pr r with
  |some true,some ys=>some ys
  |some false,some ys=>some (s::ys)
  |_,_=>none
def delK (ix:List (List D)->Option Int) (pr:List D->Option Bool) (xs:List (List C)):Option (List (List C)):=
 match ix (C.immRows xs) with
 |none=>none
 |some z=>if z = -1 then some xs else Z0 (0<=z/\z<(xs.length:Int)/\xs.length<=1099511627776) (match delR pr (xs.drop (z.toNat+1)) with
  |none=>none
  |some ys=>some (xs.take z.toNat++ys))
end Go.T
