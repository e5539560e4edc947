/- The evaluator and why it is right. -/
import Derived.Test.YtnfogafklciihaaGreatTPro
import Derived.JoinedOf
import Derived.OpenShut
import Derived.ShutString
import Derived.ChangeOld
import Derived.SizedLaws
import Derived.Carry
set_option linter.unusedVariables false
set_option linter.unusedSimpArgs false
namespace Go.T
mutual
inductive GoodS (P:Program) (B:Nat):TypeId->D->Prop
 |bool {t:TypeId} {b:Bool} (hu:P.underlying t=some .bool):GoodS P B t (.bool b)
 |int {t:TypeId} {k:IntKind} {z:Int} (hu:P.underlying t=some (.int k)) (hw:(Lit.int k z).wf=true):GoodS P B t (.int k z)
 |str {t:TypeId} {s:ByteArray} (hu:P.underlying t=some .string) (hs:s.size<=B):GoodS P B t (.str s)
 |sl {t e:TypeId} {xs:List (List D)} (hu:P.underlying t=some (.slice e)) (hl:xs.length<=B) (hr:∀ r∈xs,ZbA P B (ZA P 6 e) r):GoodS P B t (.sl xs)
inductive ZbA (P:Program) (B:Nat):List TypeId->List D->Prop
 |nil:ZbA P B [] []
 |cons {t:TypeId} {ts:List TypeId} {d:D} {ds:List D} (h:GoodS P B t d) (h':ZbA P B ts ds):ZbA P B (t::ts) (d::ds)
end
structure RowS (P:Program) (B:Nat) (e:TypeId) (r:List D):Prop where
 get:ZbA P B (ZA P 6 e) r
theorem RowS.open {P:Program} {B:Nat} {e:TypeId} {r:List D} {ts:List TypeId} (h:RowS P B e r) (hf:ZA P 6 e=ts):ZbA P B ts r:=by
 obtain⟨h⟩:=h;rwa[hf] at h
def contigB (P:Program) (f:TypeId->Bool) (total:Nat):Nat->List Field->Bool
 |o,[]=>o==total
 |o,fd::fs=>fd.offset==o&&f fd.type&&contigB P f total (o+P.cellsOf fd.type) fs
def lawTyS (P:Program) (g:TypeId->Bool):Nat->TypeId->Bool
 |0,t=>
  match P.underlying t with
  |some .bool|some (.int _)|some .string=>true
  |_=>false
 |m+1,t=>
  match P.underlying t with
  |some .bool|some (.int _)|some .string=>true
  |some (.slice e)=>g e&&decide (0<P.cellsOf e)
  |some (.struct fs)=>contigB P (lawTyS P g m) (P.cellsOf t) 0 fs.toList
  |_=>false
def lawTy (P:Program) (es:List TypeId) (m:Nat) (t:TypeId):Bool:=lawTyS P (λe=>es.contains e) m t
def lawTys (P:Program) (es:List TypeId):Bool:=es.all λe=>lawTy P es 6 e
theorem lawTys_of {P:Program} {es:List TypeId} (h:lawTys P es=true) {e:TypeId} (he:es.contains e=true):lawTy P es 6 e=true:=by
 unfold lawTys at h;rw[List.all_eq_true] at h;exact h e (by simpa using he)
def Zad (w:World) (I:Nat->Prop):List D->List Value->Prop
 |[],[]=>True
 |d::ds,v::vs=>RdD w I d v/\Zad w I ds vs
 |_,_=>False
theorem Zad.length {w:World} {I:Nat->Prop}:∀ {ds:List D} {vs:List Value},Zad w I ds vs->ds.length=vs.length
 |[],[],_=>rfl
 |[],_::_,h=>by simp[Zad] at h
 |_::_,[],h=>by simp[Zad] at h
 |d::ds,v::vs,h=>by
  simp only[Zad] at h;simp[Zad.length h.2]
theorem Zad.append {w:World} {I:Nat->Prop}:∀ {ds ds':List D} {vs vs':List Value},Zad w I ds vs->Zad w I ds' vs'->Zad w I (ds++ds') (vs++vs')
 |[],_,[],_,_,h=>h
 |[],_,_::_,_,h,_=>by simp[Zad] at h
 |_::_,_,[],_,h,_=>by simp[Zad] at h
 |d::ds,_,v::vs,_,h,h'=>by
  simp only[Zad] at h;simp only[List.cons_append,Zad]
  exact⟨h.1,h.2.append h'⟩
theorem Zad.cells {w:World} {I:Nat->Prop} {c:Array Value}:∀ {ds:List D} {vs:List Value} {p:Nat},Zad w I ds vs->(∀ (j:Nat) (v:Value),vs[j]? = some v->c[p+j]? = some v)->Zt w I c p ds
 |[],[],p,_,_=>by simp[Zt]
 |[],_::_,_,h,_=>by simp[Zad] at h
 |_::_,[],_,h,_=>by simp[Zad] at h
 |d::ds,v::vs,p,h,hc=>by
  simp only[Zad] at h;simp only[Zt]
  refine⟨⟨v,by simpa using hc 0 v Sp,h.1⟩,Zad.cells h.2 λj u hu=>?_⟩
  have:=hc (j+1) u (by simpa using hu);rwa[show p+1+j=p+(j+1) from by omega]
theorem ZbA.append {P:Program} {B:Nat} {ts':List TypeId} {ds':List D} (h':ZbA P B ts' ds'):∀ {ts:List TypeId} {ds:List D},ZbA P B ts ds->ZbA P B (ts++ts') (ds++ds')
 |[],[],_=>h'
 |[],_::_,h=>by cases h
 |_::_,[],h=>by cases h
 |t::ts,d::ds,h=>by
  cases h with
  |cons h1 h2=>exact .cons h1 (ZbA.append h' h2)
theorem ZbA.length {P:Program} {B:Nat}:∀ {ts:List TypeId} {ds:List D},ZbA P B ts ds->ds.length=ts.length
 |[],[],_=>rfl
 |[],_::_,h=>by cases h
 |_::_,[],h=>by cases h
 |t::ts,d::ds,h=>by
  cases h with
  |cons _ h2=>simp[h2.length]
theorem mapM_some {α γ:Type} {f:α->Option γ}:∀ {l:List α} {ys:List γ},l.mapM f=some ys->ys.length=l.length/\∀ (i:Nat) (x:α),l[i]? = some x->∃ y,ys[i]? = some y/\f x=some y
 |[],ys,h=>by
  simp at h;subst h;simp
 |x::l,ys,h=>by
  rw[List.mapM_cons] at h;cases hx:f x with
  |none=>rw[hx] at h;simp at h
  |some y=>
   rw[hx] at h;simp only[Option.bind_eq_bind,Option.bind_some] at h;cases hl:l.mapM f with
   |none=>rw[hl] at h;simp at h
   |some ys'=>
    rw[hl] at h;simp at h;subst h;obtain⟨q1,q2⟩:=mapM_some hl;refine⟨by simp[q1],λi z hz=>?_⟩
    cases i with
    |zero=>simp at hz;subst hz;exact⟨y,by simp,hx⟩
    |succ i=>simpa using q2 i z (by simpa using hz)
section
variable {H:Type} {enc:TypeId×Value->H} {P:Program} {W:World} {spare:Nat->Bool} {held:Bool}
def Old (W:World):Nat->Prop:=λb=>b<W.heap.size
theorem trod_data {es:List TypeId} (hes:lawTys P es=true):∀ (fuel:Nat) {m:Nat} {t:TypeId} {cs:List Value} {r:DataW H×List MemPlace},lawTy P es m t=true->DataW.trod enc P W 0 spare held fuel t cs=some r->
  ∃ ds,Zad W (Old W) ds cs/\ZbA P maxLen (ZA P m t) ds
 |0,m,t,cs,r,hl,h=>by simp[DataW.trod] at h
 |fuel+1,m,t,cs,r,hl,h=>by
  have scal:∀ (d:D),ZA P m t=[t]->Zad W (Old W) [d] cs->GoodS P maxLen t d->∃ ds,Zad W (Old W) ds cs/\ZbA P maxLen (ZA P m t) ds:=by
   intro d hf hr hg;refine⟨[d],hr,?_⟩
   rw[hf];exact .cons hg .nil
  have flat1:∀ {desc:TypeDesc},P.underlying t=some desc->(∀ fs,desc≠.struct fs)->(∀ k e,desc≠.array k e)->ZA P m t=[t]:=by
   intro desc hu h1 h2;cases m with
   |zero=>rfl
   |succ m=>
    simp only[ZA]
    rw[hu];cases desc<;>simp_all
  ·simp only[DataW.trod] at h;split at h<;>rename_i hu
   ·-- bool
    rename_i b;exact scal (.bool b) (flat1 hu Sp Sp) (by simp[Zad,RdD]) (.bool hu)
   ·rename_i k k' z;split at h;case isFalse=>cases h
    rename_i hk;obtain⟨rfl,hwf⟩:=hk;exact scal (.int k' z) (flat1 hu Sp Sp) (by simp[Zad,RdD]) (.int hu hwf)
   ·exfalso;cases m<;>simp[lawTy,lawTyS,hu] at hl
   ·rename_i s;split at h;case isFalse=>cases h
    rename_i hs;exact scal (.str s) (flat1 hu Sp Sp) (by simp[Zad,RdD]) (.str hu hs)
   ·exfalso;cases m<;>simp[lawTy,lawTyS,hu] at hl
   ·exfalso;cases m<;>simp[lawTy,lawTyS,hu] at hl
   ·-- a nil slice
    refine scal (.sl []) (flat1 hu Sp Sp) ?_ (.sl hu (Nat.zero_le _) Sp);simp only[Zad,RdD,and_true]
    exact⟨none,0,0,rfl,rfl,Nat.le_refl _,.inl trivial⟩
   ·-- a slice
    rename_i e a len cap;cases m with
    |zero=>simp[lawTy,lawTyS,hu] at hl
    |succ m=>
    simp only[lawTy,lawTyS,hu,Bool.and_eq_true,decide_eq_true_eq] at hl;obtain⟨hle,hsz⟩:=hl;split at h;case isFalse=>cases h
    rename_i hck;obtain⟨_,hlc,hcm⟩:=hck;cases hel:(List.range len).mapM λi=>(W.cells? 0 (a.add (i*P.cellsOf e)) (P.cellsOf e)).bind (DataW.trod enc P W 0 spare held fuel e) with
    |none=>rw[hel] at h;simp at h
    |some elems=>
     obtain⟨hll,hat⟩:=mapM_some hel;have cellAt:∀ i,i<len->∃ csi,csi.length=P.cellsOf e/\(∀ j,j<P.cellsOf e->W.cell? ((a.add (i*P.cellsOf e)).add j)=csi[j]?)/\∃ ds,Zad W (Old W) ds csi/\ZbA P maxLen (ZA P 6 e) ds:=by
      intro i hi;obtain⟨y,_,hy⟩:=hat i i (by simp[hi]);cases hc:W.cells? 0 (a.add (i*P.cellsOf e)) (P.cellsOf e) with
      |none=>rw[hc] at hy;simp at hy
      |some csi=>
       rw[hc] at hy;simp only[Option.bind_some] at hy;obtain⟨ds,q1,q2⟩:=trod_data hes fuel (lawTys_of hes hle) hy;unfold World.cells? at hc;rw[if_pos (Nat.zero_le _)] at hc;obtain⟨z1,z2⟩:=mapM_some hc;refine⟨csi,by simpa using z1,λj hj=>?_,ds,q1,q2⟩
       obtain⟨v,hv,hcv⟩:=z2 j j (by simp[hj]);rw[hcv,hv]
     have build:∃ xs:List (List D),xs.length=len/\(∀ x∈xs,ZbA P maxLen (ZA P 6 e) x)/\∀ (b off:Nat) (c:Array Value) (el:TypeId) (fr:Nat×Nat),a=⟨b,off,none⟩->W.heap[b]? = some (.cells c el fr)->
       ZM W (Old W) c (P.cellsOf e) off xs:=by
      have gen:∀ (k i:Nat),i+k<=len->∃ xs:List (List D),xs.length=k/\(∀ x∈xs,ZbA P maxLen (ZA P 6 e) x)/\∀ (b off:Nat) (c:Array Value) (el:TypeId) (fr:Nat×Nat),a=⟨b,off,none⟩->W.heap[b]? = some (.cells c el fr)->
        ZM W (Old W) c (P.cellsOf e) (off+i*P.cellsOf e) xs:=by
       intro k;induction k with
       |zero=>intro i _;exact⟨[],rfl,by simp,λ_ _ _ _ _ _ _=>by simp[ZM]⟩
       |succ k ih=>
        intro i hi;obtain⟨xs,a1,a2,a3⟩:=ih (i+1) Om;obtain⟨csi,c1,c2,ds,c3,c4⟩:=cellAt i Om;refine⟨ds::xs,by simp[a1],λx hx=>?_,λb off c el fr ha hb=>?_⟩
        ·rcases List.mem_cons.mp hx with rfl|hx
         ·exact c4
         ·exact a2 x hx
        ·simp only[ZM]
         refine⟨⟨by rw[Zad.length c3,c1],Zad.cells c3 λj v hv=>?_⟩,?_⟩
         ·have hj:j<P.cellsOf e:=by rw[<- c1];exact(List.getElem?_eq_some_iff.mp hv).1
          have:=c2 j hj;rw[hv] at this;have hadd:(a.add (i*P.cellsOf e)).add j=⟨b,off+i*P.cellsOf e+j,none⟩:=by
           rw[ha,ZbW,ZbW]
          rw[hadd,ZbP hb] at this;exact this
         ·have:=a3 b off c el fr ha hb;rwa[show off+(i+1)*P.cellsOf e=off+i*P.cellsOf e+P.cellsOf e from by rw[Nat.succ_mul];omega] at this
      obtain⟨xs,a1,a2,a3⟩:=gen len 0 Om;exact⟨xs,a1,a2,λb off c el fr ha hb=>by simpa using a3 b off c el fr ha hb⟩
     obtain⟨xs,b1,b2,b3⟩:=build;refine scal (.sl xs) (flat1 hu Sp Sp) ?_ ?_
     ·simp only[Zad,RdD,and_true]
      refine⟨some a,len,cap,rfl,b1.symm,hlc,?_⟩
      rcases Nat.eq_zero_or_pos len with h0|h0
      ·left;rw[h0] at b1;exact List.length_eq_zero_iff.mp b1
      ·right;obtain⟨csi,c1,c2,_⟩:=cellAt 0 h0;have h00:=c2 0 hsz;have hsome:∃ v,W.cell? ((a.add (0*P.cellsOf e)).add 0)=some v:=⟨csi[0],by rw[h00];simp[c1,hsz]⟩
       obtain⟨v,hv⟩:=hsome;have ha0:(a.add (0*P.cellsOf e)).add 0=a:=by simp[Addr.add]
       rw[ha0] at hv;unfold World.cell? at hv;split at hv
       ·rename_i c el fr hb;split at hv
        ·cases hv
        ·rename_i hsp;have hae:a=⟨a.block,a.off,none⟩:=by
          cases a with
          |mk b o s=>
           cases s with
           |none=>rfl
           |some _=>simp at hsp
         refine⟨a.block,a.off,c,el,fr,P.cellsOf e,by rw[<- hae],(Array.getElem?_eq_some_iff.mp hb).1,hb,hsz,b3 a.block a.off c el fr hae hb⟩
       ·cases hv
     ·exact .sl hu (by rw[b1];exact Nat.le_trans hlc hcm) b2
   ·-- a struct
    rename_i cs _ _ fs;cases m with
    |zero=>simp[lawTy,lawTyS,hu] at hl
    |succ m=>
    simp only[lawTy,lawTyS,hu] at hl;split at h;case isFalse=>cases h
    rename_i hlen;cases hel:fs.toList.mapM λf=>DataW.trod enc P W 0 spare held fuel f.type ((cs.drop f.offset).take (P.cellsOf f.type)) with
    |none=>rw[hel] at h;simp at h
    |some xs=>
     have gen:∀ (l:List Field) (o:Nat) (ys:List (DataW H×List MemPlace)),contigB P (lawTyS P (λe=>es.contains e) m) (P.cellsOf t) o l=true->(l.mapM λf=>DataW.trod enc P W 0 spare held fuel f.type ((cs.drop f.offset).take (P.cellsOf f.type)))=some ys->
       ∃ ds,Zad W (Old W) ds (cs.drop o)/\ZbA P maxLen (l.flatMap λf=>ZA P m f.type) ds:=by
      intro l;induction l with
      |nil=>
       intro o ys hc _;simp only[contigB,beq_iff_eq] at hc;refine⟨[],?_,by simpa using ZbA.nil⟩
       rw[List.drop_eq_nil_of_le Om];simp[Zad]
      |cons f l ih=>
       intro o ys hc hy;simp only[contigB,Bool.and_eq_true,beq_iff_eq] at hc;obtain⟨⟨rfl,hlf⟩,hc⟩:=hc;rw[List.mapM_cons] at hy;cases hx:DataW.trod enc P W 0 spare held fuel f.type ((cs.drop f.offset).take (P.cellsOf f.type)) with
       |none=>rw[hx] at hy;simp at hy
       |some y=>
        rw[hx] at hy;simp only[Option.bind_eq_bind,Option.bind_some] at hy;cases hl2:(l.mapM λf=>DataW.trod enc P W 0 spare held fuel f.type ((cs.drop f.offset).take (P.cellsOf f.type))) with
        |none=>rw[hl2] at hy;simp at hy
        |some ys'=>
         obtain⟨ds1,p1,p2⟩:=trod_data hes fuel hlf hx;obtain⟨ds2,q1,q2⟩:=ih _ ys' hc hl2;refine⟨ds1++ds2,?_,?_⟩
         ·have:=p1.append q1;rwa[<- List.drop_drop,List.take_append_drop] at this
         ·rw[List.flatMap_cons];exact ZbA.append q2 p2
     obtain⟨ds,q1,q2⟩:=gen fs.toList 0 xs hl hel;refine⟨ds,by simpa using q1,?_⟩
     simp only[ZA]
     rw[hu];exact q2
   all_goals first
    |(cases h;done)
    |(exfalso;cases m<;>simp[lawTy,lawTyS,hu] at hl)
theorem open_agg {es:List TypeId} (hes:lawTys P es=true) {t:TypeId} {v:Value} {d:DataW H} {ps:List MemPlace} {base:Nat} (hl:lawTy P es 6 t=true) (hg:Z4 P t=true) (hval:Value.okWide P W .any base t v) (h:DataW.Trod enc P W 0 spare held t v d ps):
  ∃ (cs:List Value) (ds:List D),v=.agg cs.toArray/\cs.length=ds.length/\Zt W (Old W) cs.toArray 0 ds/\RowS P maxLen t ds:=by
 obtain⟨fuel,h⟩:=h;have hv:∃ cs:Array Value,v=.agg cs:=by
  unfold Value.okWide at hval;unfold Z4 at hg;split at hg
  ·rename_i hu;rw[hu] at hval;obtain⟨cs,e,_⟩:=hval;exact⟨cs,e⟩
  ·rename_i hu;rw[hu] at hval;obtain⟨cs,e,_⟩:=hval;exact⟨cs,e⟩
  ·cases hg
 obtain⟨cs,rfl⟩:=hv;obtain⟨ds,q1,q2⟩:=trod_data hes fuel hl h;simp only[Value.cells] at q1;exact⟨cs.toList,ds,by simp,q1.length.symm,q1.cells λj u hu=>by simpa using hu,⟨q2⟩⟩
theorem open_cell {es:List TypeId} (hes:lawTys P es=true) {t:TypeId} {v:Value} {d:DataW H} {ps:List MemPlace} (hl:lawTy P es 6 t=true) (hv:v.cells=#[v]) (hf:ZA P 6 t=[t]) (h:DataW.Trod enc P W 0 spare held t v d ps):
  ∃ x,RdD W (Old W) x v/\GoodS P maxLen t x:=by
 obtain⟨fuel,h⟩:=h;obtain⟨ds,q1,q2⟩:=trod_data hes fuel hl h;rw[hv] at q1;rw[hf] at q2
 match ds,q2 with
 |[x],q2=>
  simp only[Zad] at q1;cases q2 with
  |cons q2 _=>exact⟨x,q1.1,q2⟩
theorem good_str {B:Nat} {t:TypeId} (hu:P.underlying t=some .string) {x:D} (h:GoodS P B t x):∃ s,x=.str s/\s.size<=B:=by
 cases h with
 |str _ h=>exact⟨_,rfl,h⟩
 |bool h=>rw[hu] at h;cases h
 |int h _=>rw[hu] at h;cases h
 |sl h _ _=>rw[hu] at h;cases h
theorem good_bool {B:Nat} {t:TypeId} (hu:P.underlying t=some .bool) {x:D} (h:GoodS P B t x):∃ b,x=.bool b:=by
 cases h with
 |bool h=>exact⟨_,rfl⟩
 |str h _=>rw[hu] at h;cases h
 |int h _=>rw[hu] at h;cases h
 |sl h _ _=>rw[hu] at h;cases h
theorem good_int {B:Nat} {t:TypeId} {k:IntKind} (hu:P.underlying t=some (.int k)) {x:D} (h:GoodS P B t x):∃ z,x=.int k z/\(Lit.int k z).wf=true:=by
 cases h with
 |int h hw=>rw[hu] at h;cases h;exact⟨_,rfl,hw⟩
 |bool h=>rw[hu] at h;cases h
 |str h _=>rw[hu] at h;cases h
 |sl h _ _=>rw[hu] at h;cases h
theorem good_sl {B:Nat} {t e:TypeId} (hu:P.underlying t=some (.slice e)) {x:D} (h:GoodS P B t x):∃ xs,x=.sl xs/\xs.length<=B/\∀ r∈xs,RowS P B e r:=by
 cases h with
 |sl h hl hr=>rw[hu] at h;cases h;exact⟨_,rfl,hl,λr hr'=>⟨hr r hr'⟩⟩
 |bool h=>rw[hu] at h;cases h
 |str h _=>rw[hu] at h;cases h
 |int h _=>rw[hu] at h;cases h
theorem goodR_cons {B:Nat} {t:TypeId} {ts:List TypeId} {ds:List D} (h:ZbA P B (t::ts) ds):∃ d ds',ds=d::ds'/\GoodS P B t d/\ZbA P B ts ds':=by
 cases h with
 |cons h h'=>exact⟨_,_,rfl,h,h'⟩
theorem goodR_nil {B:Nat} {ds:List D} (h:ZbA P B [] ds):ds=[]:=by
 cases h;rfl
end
theorem ZY.nil' {P:Program} {w:World} {I Q:Nat->Prop}:ZY P w I Q [] [] [] []:=by simp[ZY]
theorem ZY.cons' {P:Program} {w:World} {I Q:Nat->Prop} {a:A} {m:Mode×TypeId} {v:Value} {as:List A} {ms:List (Mode×TypeId)} {vs:List Value} (h:ZV P w I Q a m v []) (h':ZY P w I Q as ms vs []):ZY P w I Q (a::as) (m::ms) (v::vs) []:=by
 simp only[ZY]
 exact⟨v,vs,[],[],rfl,rfl,h,h'⟩
open Go.RowKit in
theorem law_calls {P:Program} {f:FuncId} {e:Za0} (he:Zas P f e) (hal:e.al=false) {t:TypeId} (hrt:e.rts=[t]) (hg:(Z4 P t||Zb2 P t)=false) {aa:List A} {W:World} {vs:List Value} (hargs:ZY P W (Old W) (λ_=>True) aa e.modes vs [])
  (hrun:∃ z:Unit,e.run aa (λrs os=>match rs with|[[.d (.bool true)]]=>some ()|_=>none)=some z):Calls P f vs.toArray W λex W'=>ex=.returned (.bool true)/\Below W.heap.size W W':=by
 obtain⟨hg,hp⟩:=Bool.or_eq_false_iff.mp hg;obtain⟨z,hrun⟩:=hrun;obtain⟨rs,os,h1,h2⟩:=he.2.1 Unit aa _ z hrun;refine Calls.mono (h2 W (Old W) (λ_=>True) vs [] hargs Sp Sp (λb hb=>hb)) ?_;rintro ex W' ⟨v,vs',I',Fr,Fo,rfl,rfl,c1,c2,c3,c4,c5,c6,c7,c8,c9,c10,c11,c12⟩;split at h1;case h_2=>cases h1
 rw[hrt] at c11;simp only[ZaY] at c11;obtain⟨v,vs2,F1,F2,rfl,_,⟨_,cells,hv,_,ow⟩|⟨hp',_⟩,rfl,_⟩:=c11
 rotate_left
 ·rw[hp] at hp';cases hp'
 simp only[Zf,OwC] at ow;obtain⟨ct,cts',u,F3,F4,_,_,hu,⟨_,hd⟩,_⟩:=ow;simp only[RdD] at hd;subst hd;rw[hg] at hv;simp only[Bool.false_eq_true,if_false] at hv;have:v=.bool true:=by
  rw[hv,Array.getD_eq_getD_getElem?,hu];rfl
 subst this;exact⟨rfl,c2,c3,c4,c1,λb hb=>c5 b hb Sp⟩
def joined1 (P:Program) (f:FuncId) (fn:Func) (s:ChangeSpec) (c:OpenClaim):Bool:=c.wf (OpenSpec.ofChange s)&&laidOutB P&&(c.stops==[])&&(P.stops==[])&&(c.knobs==[])&&(P.stopKnobs==[])&&c.shortTexts.isNone&&P.stopsHeard&&P.mayEnter&&(c.lifted==P.liftsFinal)&&(P.make==some c.make)&&(c.pinned==c.pinnedBy)
def joined2 (P:Program) (f:FuncId) (fn:Func) (s:ChangeSpec) (c:OpenClaim):Bool:=mapsRowed P&&(c.plainKeys==P.plainKeys)
def joined3 (P:Program) (f:FuncId) (fn:Func) (s:ChangeSpec) (c:OpenClaim):Bool:=fn.params.all (P.readableRec ·)&&namedTie P c.named s.vars&&(c.maps==(fn.params.toList++s.plain.varTypes P).any (P.mapsRec ·))&&(c.ifaces==(fn.params.toList++s.plain.varTypes P).any (P.ifacesRec ·))&&(c.mapsOut==P.mapsAmong fn.resultTypes.toList)&&s.vars.all (P.varReadable ·)&&fn.resultTypes.all (λt=>P.readableRec t&&decide (t<P.types.size))&&(c.ifacesOut==fn.resultTypes.toList.any (P.ifacesRec ·))&&(c.kinds==(if c.domain.isEmpty then[] else fn.params.toList.map λt=>match P.underlying t with|some (.int k)=>some k|_=>none))
def joined4 (P:Program) (f:FuncId) (fn:Func) (s:ChangeSpec) (c:OpenClaim):Bool:=(c.inPlace==P.inPlace f)
def joined5 (P:Program) (f:FuncId) (fn:Func) (s:ChangeSpec) (c:OpenClaim):Bool:=(c.unfollowed==P.unfollowed f)
def joined6 (P:Program) (f:FuncId) (fn:Func) (s:ChangeSpec) (c:OpenClaim):Bool:=(c.recurses==P.recurses f)
def joined7 (P:Program) (f:FuncId) (fn:Func) (s:ChangeSpec) (c:OpenClaim):Bool:=(c.named==P.varsNamed f)
def joined8 (P:Program) (f:FuncId) (fn:Func) (s:ChangeSpec) (c:OpenClaim):Bool:=(c.loops==(fn.params.toList++s.plain.varTypes P).any (P.loopsFrom ·))&&(c.wideKeys==(fn.params.toList++s.plain.varTypes P++fn.resultTypes.toList).any (P.wideKeysFrom ·))&&(c.loopsOut==fn.resultTypes.toList.any (P.loopsFrom ·))&&(c.veiled==(fn.params.toList++s.plain.varTypes P++fn.resultTypes.toList).any (P.veiledRec ·))&&c.veiledFits P fn.params.toList (fn.params.toList++s.plain.varTypes P++fn.resultTypes.toList)
theorem joined_of {P:Program} {f:FuncId} {fn:Func} {s:ChangeSpec} {c:OpenClaim} (h1:joined1 P f fn s c=true) (h2:joined2 P f fn s c=true) (h3:joined3 P f fn s c=true) (h4:joined4 P f fn s c=true) (h5:joined5 P f fn s c=true) (h6:joined6 P f fn s c=true) (h7:joined7 P f fn s c=true) (h8:joined8 P f fn s c=true):joinedFacts P f fn s c=true:=by
 simp only[joined1,joined2,joined3,joined4,joined5,joined6,joined7,joined8,Bool.and_eq_true] at h1 h2 h3 h4 h5 h6 h7 h8;obtain⟨⟨⟨⟨⟨⟨⟨⟨⟨⟨⟨x1_0,x1_1⟩,x1_2⟩,x1_3⟩,x1_4⟩,x1_5⟩,x1_6⟩,x1_7⟩,x1_8⟩,x1_9⟩,x1_10⟩,x1_11⟩:=h1;obtain⟨x2_0,x2_1⟩:=h2;obtain⟨⟨⟨⟨⟨⟨⟨⟨x3_0,x3_1⟩,x3_2⟩,x3_3⟩,x3_4⟩,x3_5⟩,x3_6⟩,x3_7⟩,x3_8⟩:=h3;have x4_0:=h4;have x5_0:=h5;have x6_0:=h6;have x7_0:=h7;obtain⟨⟨⟨⟨x8_0,x8_1⟩,x8_2⟩,x8_3⟩,x8_4⟩:=h8;simp only[joinedFacts,Bool.and_eq_true]
 exact⟨⟨⟨⟨⟨⟨⟨⟨⟨⟨⟨⟨⟨⟨⟨⟨⟨⟨⟨⟨⟨⟨⟨⟨⟨⟨⟨⟨⟨⟨⟨x1_0,x1_1⟩,x2_0⟩,x3_0⟩,x3_1⟩,x1_2⟩,x1_3⟩,x1_4⟩,x1_5⟩,x4_0⟩,x5_0⟩,x6_0⟩,x7_0⟩,x3_2⟩,x3_3⟩,x3_4⟩,x8_0⟩,x8_1⟩,x3_5⟩,x3_6⟩,x3_7⟩,x8_2⟩,x2_1⟩,x1_6⟩,x1_7⟩,x1_8⟩,x1_9⟩,x1_10⟩,x3_8⟩,x1_11⟩,x8_3⟩,x8_4⟩
end Go.T
namespace Go.T
theorem bz0 {p:Prop} [Decidable p]:(decide p=true)=p:=decide_eq_true_eq
theorem bz1 {p:Prop} [Decidable p]:decide p=false↔¬ p:=decide_eq_false_iff_not
theorem bz2 {a b:Int}:¬ a<b↔b<=a:=Int.not_lt
theorem bz3 {a b:Int}:¬ a<=b↔b<a:=Int.not_le
theorem bz4 {α:Type} [BEq α] [LawfulBEq α] {a b:α}:(a !=b)=true↔¬ a=b:=bne_iff_ne
theorem bz5 {α:Type} (a b:α):(a≠b)=¬ a=b:=rfl
theorem bz6 {α:Type} [BEq α] [LawfulBEq α] {a b:α}:(a !=b)=false↔a=b:=bne_eq_false_iff_eq
theorem bz7 {α:Type} [BEq α] [LawfulBEq α] {a b:α}:(a==b)=true↔a=b:=beq_iff_eq
theorem bz8 {α:Type} [BEq α] [LawfulBEq α] {a b:α}:(a==b)=false↔¬ a=b:=beq_eq_false_iff_ne
theorem bz9 (b:Bool):((!b)=true)=(b=false):=Bool.not_eq_true' b
theorem bza (b:Bool):((!b)=false)=(b=true):=Bool.not_eq_false' b
theorem bz:(∀ {p:Prop} [Decidable p],(decide p=true)=p)/\(∀ {p:Prop} [Decidable p],decide p=false↔¬ p)/\(∀ {a b:Int},¬ a<b↔b<=a)/\(∀ {a b:Int},¬ a<=b↔b<a)/\(∀ {α:Type} [BEq α] [LawfulBEq α] {a b:α},(a !=b)=true↔¬ a=b)/\(∀ {α:Type} (a b:α),(a≠b)=¬ a=b)/\(∀ {α:Type} [BEq α] [LawfulBEq α] {a b:α},(a !=b)=false↔a=b)/\(∀ {α:Type} [BEq α] [LawfulBEq α] {a b:α},(a==b)=true↔a=b)/\(∀ {α:Type} [BEq α] [LawfulBEq α] {a b:α},(a==b)=false↔¬ a=b)/\(∀ b:Bool,((!b)=true)=(b=false))/\∀ b:Bool,((!b)=false)=(b=true):=
 ⟨bz0,bz1,bz2,bz3,bz4,bz5,bz6,bz7,bz8,bz9,bza⟩
def big:Nat:=2^64
def lv (n:Nat):Nat:=2^(64+n)
theorem lv_le {m n:Nat} (h:m<=n):lv m<=lv n:=Nat.pow_le_pow_right De Om
theorem up0 {n k:Nat} (h:lv n<=k):big<=k:=Nat.le_trans (lv_le (Nat.zero_le n):lv 0<=lv n) h
theorem upn {m n k:Nat} (h:lv n<=k) (hm:m<=n):lv m<=k:=Nat.le_trans (lv_le hm) h
def Tm {ι α:Type} (ok:ι->Prop) (F:ι->Option α) (φ:α->Prop):Prop:=∃ v,φ v/\∀ i,ok i->F i=some v
abbrev Zr:Nat->Prop:=λk=>big<=k
abbrev Zp (n:Nat):Nat->Prop:=λk=>lv n<=k
section
variable {ι α:Type} {ok:ι->Prop} {ψ:α->Prop}
theorem Tm.ret {v:α} (h:ψ v):Tm ok (λ_=>some v) ψ:=⟨v,h,λ_ _=>rfl⟩
theorem Tm.mono {F:ι->Option α} {φ:α->Prop} (h:Tm ok F φ) (hi:∀ v,φ v->ψ v):Tm ok F ψ:=by
 obtain⟨v,h1,h2⟩:=h;exact⟨v,hi v h1,h2⟩
theorem Tm.congr {F G:ι->Option α} (h:Tm ok G ψ) (e:∀ i,ok i->F i=G i):Tm ok F ψ:=by
 obtain⟨v,h1,h2⟩:=h;exact⟨v,h1,λi hi=>(e i hi).trans (h2 i hi)⟩
theorem Tm.ite {c:Bool} {F G:ι->Option α} (h1:c=true->Tm ok F ψ) (h2:c=false->Tm ok G ψ):Tm ok (λi=>bif c then F i else G i) ψ:=by
 cases c with
 |true=>exact h1 rfl
 |false=>exact h2 rfl
theorem Tm.guard {c:Prop} [Decidable c] {F:ι->Option α} (hc:c) (h:Tm ok F ψ):Tm ok (λi=>Z0 c (F i)) ψ:=by
 simp only[Z0,if_pos hc]
 exact h
theorem Tm.uncons {γ:Type} {x:γ} {l:List γ} {F:ι->γ->List γ->Option α} (h:Tm ok (λi=>F i x l) ψ):Tm ok (λi=>Zct (x::l) (F i)) ψ:=h
theorem Tm.atEnd {γ:Type} {F:ι->Option α} (h:Tm ok F ψ):Tm ok (λi=>atEnd ([]:List γ) (F i)) ψ:=h
theorem Tm.dStr {s:ByteArray} {F:ι->ByteArray->Option α} (h:Tm ok (λi=>F i s) ψ):Tm ok (λi=>dStr (.str s) (F i)) ψ:=h
theorem Tm.dBool {s:Bool} {F:ι->Bool->Option α} (h:Tm ok (λi=>F i s) ψ):Tm ok (λi=>dBool (.bool s) (F i)) ψ:=h
theorem Tm.dSl {s:List (List D)} {F:ι->List (List D)->Option α} (h:Tm ok (λi=>F i s) ψ):Tm ok (λi=>dSl (.sl s) (F i)) ψ:=h
theorem Tm.dInt {q:IntKind} {s:Int} {F:ι->Int->Option α} (h:Tm ok (λi=>F i s) ψ):Tm ok (λi=>dInt q (.int q s) (F i)) ψ:=by
 simp only[Go.T.dInt,if_true]
 exact h
theorem Tm.cD {x:D} {F:ι->D->Option α} (h:Tm ok (λi=>F i x) ψ):Tm ok (λi=>cD (.d x) (F i)) ψ:=h
theorem Tm.cOwn {x:List (List C)} {F:ι->List (List C)->Option α} (h:Tm ok (λi=>F i x) ψ):Tm ok (λi=>cOwn (.own x) (F i)) ψ:=h
theorem Tm.atRow {γ:Type} {xs:List γ} {j:Int} {F:ι->γ->Option α} (h0:0<=j) (h1:j<xs.length) (h:∀ x,xs[j.toNat]? = some x->x∈xs->Tm ok (λi=>F i x) ψ):Tm ok (λi=>Zam xs j (F i)) ψ:=by
 have hl:j.toNat<xs.length:=by omega
 have e:xs[j.toNat]? = some xs[j.toNat]:=by simp[hl]
 refine(h _ e (List.getElem_mem hl)).congr λi _=>?_
 simp only[Go.T.Zam,if_pos h0,Za7,e]
theorem Tm.atStr {s:ByteArray} {j:Int} {F:ι->Int->Option α} (h0:0<=j) (h1:j<s.size) (h:∀ b:UInt8,s[j.toNat]? = some b->Tm ok (λi=>F i (b.toNat:Int)) ψ):Tm ok (λi=>atStr s j (F i)) ψ:=by
 have hl:j.toNat<s.size:=by omega
 have e:s[j.toNat]? = some s[j.toNat]:=by simp[hl]
 refine(h _ e).congr λi _=>?_
 simp only[Go.T.atStr,if_pos h0,e]
theorem Tm.loop {V:Type} {okk:ι->Prop} {p:ι->Nat} (hp:∀ i,okk i->big<=p i) {b:ι->(V->Option α)->V->Option α} (m:V->Nat) (Inv:V->Prop) (hm:∀ v,Inv v->m v<big) {v:V} (h0:Inv v)
  (step:∀ v,Inv v->∀ L:ι×Nat->V->Option α,(∀ v',Inv v'->m v'<m v->Tm (λi:ι×Nat=>okk i.1/\m v<=i.2) (λi=>L i v') ψ)->Tm (λi:ι×Nat=>okk i.1/\m v<=i.2) (λi=>b i.1 (L i) v) ψ):
  Tm okk (λi=>Za1 (b i) (p i) v) ψ:=by
 have key:∀ (n:Nat) (v:V),m v=n->Inv v->∃ r,ψ r/\∀ i,okk i->∀ j,m v<j->Za1 (b i) j v=some r:=by
  intro n;induction n using Nat.strongRecOn with
  |ind n ih=>
   intro v hv hI;obtain⟨r,h1,h2⟩:=step v hI (λi=>Za1 (b i.1) i.2) (λv' hI' hlt=>by
    obtain⟨r',q1,q2⟩:=ih (m v') Om v' rfl hI';exact⟨r',q1,λi hi=>q2 i.1 hi.1 i.2 (Nat.lt_of_lt_of_le hlt hi.2)⟩)
   refine⟨r,h1,λi hi j hj=>?_⟩
   cases j with
   |zero=>omega
   |succ j=>exact h2 (i,j) ⟨hi,Om⟩
 obtain⟨r,h1,h2⟩:=key (m v) v rfl h0;exact⟨r,h1,λi hi=>h2 i hi (p i) (Nat.lt_of_lt_of_le (hm v h0) (hp i hi))⟩
end
theorem Zb {x:Int} (h1 : -9223372036854775808<=x) (h2:x<=9223372036854775807):IntKind.wrap .i64 x=x:=by
 simp only[IntKind.wrap,IntKind.signed,IntKind.bits]
 simp;omega
abbrev lim:Nat:=1048576
theorem Zh:maxLen=9223372036854775807:=rfl
def Zc (R:Nat->List D->Prop) (B:Nat) (xs:List (List D)):Prop:=xs.length<=B/\∀ r∈xs,R B r
theorem Zbp {R:List D->Prop} {xs:List (List D)} {i:Int} {x:List D} (h0:0<=i) (hx:xs[i.toNat]? = some x) (h:∀ r∈xs.take i.toNat,R r) (hr:R x):∀ r∈xs.take (i+1).toNat,R r:=by
 rw[show(i+1).toNat=i.toNat+1 from by omega,List.take_add_one,hx];intro r hr';rcases List.mem_append.mp hr' with q|q
 ·exact h r q
 ·simp at q;subst q;exact hr
theorem Zaw {R:List D->Prop} {xs:List (List D)} {i:Int} (hi:(xs.length:Int)<=i) (h:∀ r∈xs.take i.toNat,R r):∀ r∈xs,R r:=by
 rw[List.take_of_length_le Om] at h;exact h
theorem Ze (s:ByteArray):ZP s s=true:=by simp[ZP]
theorem Tm.self {ι α:Type} {ok:ι->Prop} {F:ι->Option α} {φ:α->Prop} (h:Tm ok F φ):Tm ok F (λv=>φ v/\∀ i,ok i->F i=some v):=by
 obtain⟨v,h1,h2⟩:=h;exact⟨v,⟨h1,h2⟩,h2⟩
theorem Tm.succ {α:Type} {N:Nat} {t g:Nat->Option α} {φ:α->Prop} (e:∀ k,t (k+1)=g k) (h:Tm (λk=>N<=k) g φ):Tm (λk=>N+1<=k) t φ:=by
 obtain⟨v,h1,h2⟩:=h;refine⟨v,h1,λk hk=>?_⟩
 cases k with
 |zero=>omega
 |succ k=>rw[e];exact h2 k Om
theorem Tm.up {α:Type} {M N:Nat} {t:Nat->Option α} {φ:α->Prop} (h:Tm (λk=>M<=k) t φ) (hn:M<=N):Tm (λk=>N<=k) t φ:=by
 obtain⟨v,h1,h2⟩:=h;exact⟨v,h1,λk hk=>h2 k (Nat.le_trans hn hk)⟩
theorem Tm.at {ι α:Type} {ok:ι->Prop} {F:ι->Option α} {v:α} (h:∀ i,ok i->F i=some v):Tm ok F (λz=>z=v):=⟨v,rfl,h⟩
theorem Zbg:∀ (a b:List (List C)),C.immRows (a++b)=C.immRows a++C.immRows b
 |[],_=>rfl
 |x::a,b=>by simp only[List.cons_append,C.immRows,Zbg a b]
theorem bif_congr {β:Type} {c:Bool} {a a' b b':β} (h1:c=true->a=a') (h2:c=false->b=b'):(bif c then a else b)=(bif c then a' else b'):=by
 cases c
 ·exact h2 rfl
 ·exact h1 rfl
theorem atRow_get {γ β:Type} {xs:List γ} {v:Int} {x:γ} (h0:0<=v) (hx:xs[v.toNat]? = some x) (F:γ->Option β):Zam xs v F=F x:=by
 simp only[Zam,if_pos h0,Za7,hx]
theorem atRow_none {γ β:Type} {xs:List γ} {v:Int} (h:¬ (0<=v/\v<xs.length)) (F:γ->Option β):Zam xs v F=none:=by
 unfold Zam Za7;split
 ·rw[List.getElem?_eq_none Om]
 ·rfl
mutual
def Zag:D->C
 |.bool b=>.d (.bool b)
 |.int q n=>.d (.int q n)
 |.str s=>.d (.str s)
 |.sl xs=>.own (Za xs)
 |.fn f cs=>.d (.fn f cs)
 |.un=>.d .un
def Zu:List D->List C
 |[]=>[]
 |d::r=>Zag d::Zu r
def Za:List (List D)->List (List C)
 |[]=>[]
 |r::xs=>Zu r::Za xs
end
mutual
theorem imm_deepD:∀ d:D,C.imm (Zag d)=d
 |.bool _|.int _ _|.str _|.fn _ _|.un=>by simp only[Zag,C.imm]
 |.sl xs=>by simp only[Zag,C.imm,Zq xs]
theorem ZcB:∀ r:List D,C.immCells (Zu r)=r
 |[]=>by simp only[Zu,C.immCells]
 |d::r=>by simp only[Zu,C.immCells,imm_deepD d,ZcB r]
theorem Zq:∀ xs:List (List D),C.immRows (Za xs)=xs
 |[]=>by simp only[Za,C.immRows]
 |r::xs=>by simp only[Za,C.immRows,ZcB r,Zq xs]
end
theorem Zd:∀ xs:List (List D),(Za xs).length=xs.length
 |[]=>by simp only[Za,List.length_nil]
 |r::xs=>by simp only[Za,List.length_cons,Zd xs]
theorem ZL:∀ (xs ys:List (List D)),Za (xs++ys)=Za xs++Za ys
 |[],ys=>by simp only[Za,List.nil_append]
 |r::xs,ys=>by simp only[Za,List.cons_append,ZL xs ys]
theorem deep_flat {R:List D->Prop} (hR:∀ r,R r->Zu r=r.map C.d):∀ xs:List (List D),(∀ r∈xs,R r)->Za xs=xs.map (·.map C.d)
 |[],_=>by simp only[Za,List.map_nil]
 |r::xs,h=>by simp only[Za,List.map_cons,hR r (h r Sp),deep_flat hR xs λr hr=>h r (by simp[hr])]
structure Zar (xs:List (List D)) (Z:List C) (i:Int) (out:List (List C)):Prop where
 get:∃ done,out=done++List.replicate (xs.length-i.toNat) Z/\done.length=i.toNat/\done=Za (xs.take i.toNat)
theorem Zar.start (xs:List (List D)) (Z:List C):Zar xs Z 0 (List.replicate (Int.toNat (xs.length:Int)) Z):=⟨[],by simp,rfl,by simp[Za]⟩
theorem Zar.len {xs:List (List D)} {Z:List C} {i:Int} {out:List (List C)} (h:Zar xs Z i out) (h1:i<=xs.length):out.length=xs.length:=by
 obtain⟨done,rfl,hl,_⟩:=h.get;simp;omega
theorem Zar.next {xs:List (List D)} {Z new:List C} {i:Int} {out:List (List C)} {x:List D} (h:Zar xs Z i out) (h0:0<=i) (hx:xs[i.toNat]? = some x) (hz:Z.length=new.length) (hn:new=Zu x):
  Zar xs Z (i+1) (out.modify i.toNat λc=>ZE c 0 new):=by
 obtain⟨done,rfl,hl,hi⟩:=h.get;have hlt:=(List.getElem?_eq_some_iff.mp hx).1;have e1:(i+1).toNat=i.toNat+1:=by omega
 refine⟨done++[new],?_,by simp[hl,e1],?_⟩
 ·obtain⟨n,hn'⟩:∃ n,xs.length-i.toNat=n+1:=⟨xs.length-i.toNat-1,Om⟩
  rw[hn',e1,show xs.length-(i.toNat+1)=n from by omega,List.replicate_succ];have hsp:ZE Z 0 new=new:=by simp[ZE,<- hz]
  have hil:i.toNat<(done++Z::List.replicate n Z).length:=by simp;omega
  rw[List.modify_eq_take_cons_drop hil];have a1:(done++Z::List.replicate n Z).take i.toNat=done:=by rw[<- hl];simp
  have a2:(done++Z::List.replicate n Z).drop (i.toNat+1)=List.replicate n Z:=by rw[<- hl];simp
  have a3:(done++Z::List.replicate n Z)[i.toNat]=Z:=by simp[<- hl]
  rw[a1,a2,a3,hsp];simp
 ·rw[e1,List.take_add_one,hx,ZL,<- hi];simp[Za,hn]
theorem Zar.all {xs:List (List D)} {Z:List C} {i:Int} {out:List (List C)} (h:Zar xs Z i out) (hi:(xs.length:Int)<=i):out=Za xs:=by
 obtain⟨done,rfl,hl,he⟩:=h.get;rw[show xs.length-i.toNat=0 from by omega];simp only[List.replicate_zero,List.append_nil]
 rw[he,List.take_of_length_le Om]
theorem bd1_of {α₁ β:Type} {t:Option (α₁)} {z0} (h:t=some z0) (K:α₁->Option β):bd1 t K=K z0:=by rw[h];rfl
theorem bd1_t {ι α α₁:Type} {ok ok1:ι->Prop} {ψ:α->Prop} {t:ι->Option (α₁)} {φ:α₁->Prop} (hp:∀ i,ok i->ok1 i) (h:Tm ok1 t φ) {G:ι->α₁->Option α} (hG:∀ z0,φ z0->Tm ok (λi=>G i z0) ψ):Tm ok (λi=>bd1 (t i) (G i)) ψ:=by
 obtain⟨v,h1,h2⟩:=h;exact(hG _ h1).congr λi hi=>by rw[h2 i (hp i hi)];rfl
theorem bd1_p {α α₁:Type} {ok:Nat×Nat->Prop} {ok1:Nat->Prop} {ψ:α->Prop} {t:Nat->Option (α₁)} {φ:α₁->Prop} (hp:∀ i,ok i->ok1 i.1) (h:Tm ok1 t φ) {G:Nat×Nat->α₁->Option α} (hG:∀ z0,φ z0->Tm ok (λi=>G i z0) ψ):Tm ok (λi=>bd1 (t i.1) (G i)) ψ:=by
 obtain⟨v,h1,h2⟩:=h;exact(hG _ h1).congr λi hi=>by rw[h2 i.1 (hp i hi)];rfl
theorem bd2_of {α₁ α₂ β:Type} {t:Option (α₁×α₂)} {z0 z1} (h:t=some (z0,z1)) (K:α₁->α₂->Option β):bd2 t K=K z0 z1:=by rw[h];rfl
theorem bd2_t {ι α α₁ α₂:Type} {ok ok1:ι->Prop} {ψ:α->Prop} {t:ι->Option (α₁×α₂)} {φ:α₁×α₂->Prop} (hp:∀ i,ok i->ok1 i) (h:Tm ok1 t φ) {G:ι->α₁->α₂->Option α} (hG:∀ z0 z1,φ (z0,z1)->Tm ok (λi=>G i z0 z1) ψ):Tm ok (λi=>bd2 (t i) (G i)) ψ:=by
 obtain⟨v,h1,h2⟩:=h;exact(hG _ _ h1).congr λi hi=>by rw[h2 i (hp i hi)];rfl
theorem bd2_p {α α₁ α₂:Type} {ok:Nat×Nat->Prop} {ok1:Nat->Prop} {ψ:α->Prop} {t:Nat->Option (α₁×α₂)} {φ:α₁×α₂->Prop} (hp:∀ i,ok i->ok1 i.1) (h:Tm ok1 t φ) {G:Nat×Nat->α₁->α₂->Option α} (hG:∀ z0 z1,φ (z0,z1)->Tm ok (λi=>G i z0 z1) ψ):Tm ok (λi=>bd2 (t i.1) (G i)) ψ:=by
 obtain⟨v,h1,h2⟩:=h;exact(hG _ _ h1).congr λi hi=>by rw[h2 i.1 (hp i hi)];rfl
theorem bd3_p {α α₁ α₂ α₃:Type} {ok:Nat×Nat->Prop} {ok1:Nat->Prop} {ψ:α->Prop} {t:Nat->Option (α₁×α₂×α₃)} {φ:α₁×α₂×α₃->Prop} (hp:∀ i,ok i->ok1 i.1) (h:Tm ok1 t φ) {G:Nat×Nat->α₁->α₂->α₃->Option α} (hG:∀ z0 z1 z2,φ (z0,z1,z2)->Tm ok (λi=>G i z0 z1 z2) ψ):Tm ok (λi=>bd3 (t i.1) (G i)) ψ:=by
 obtain⟨v,h1,h2⟩:=h;exact(hG _ _ _ h1).congr λi hi=>by rw[h2 i.1 (hp i hi)];rfl
theorem bd4_t {ι α α₁ α₂ α₃ α₄:Type} {ok ok1:ι->Prop} {ψ:α->Prop} {t:ι->Option (α₁×α₂×α₃×α₄)} {φ:α₁×α₂×α₃×α₄->Prop} (hp:∀ i,ok i->ok1 i) (h:Tm ok1 t φ) {G:ι->α₁->α₂->α₃->α₄->Option α} (hG:∀ z0 z1 z2 z3,φ (z0,z1,z2,z3)->Tm ok (λi=>G i z0 z1 z2 z3) ψ):Tm ok (λi=>bd4 (t i) (G i)) ψ:=by
 obtain⟨v,h1,h2⟩:=h;exact(hG _ _ _ _ h1).congr λi hi=>by rw[h2 i (hp i hi)];rfl
theorem bd5_t {ι α α₁ α₂ α₃ α₄ α₅:Type} {ok ok1:ι->Prop} {ψ:α->Prop} {t:ι->Option (α₁×α₂×α₃×α₄×α₅)} {φ:α₁×α₂×α₃×α₄×α₅->Prop} (hp:∀ i,ok i->ok1 i) (h:Tm ok1 t φ) {G:ι->α₁->α₂->α₃->α₄->α₅->Option α} (hG:∀ z0 z1 z2 z3 z4,φ (z0,z1,z2,z3,z4)->Tm ok (λi=>G i z0 z1 z2 z3 z4) ψ):Tm ok (λi=>bd5 (t i) (G i)) ψ:=by
 obtain⟨v,h1,h2⟩:=h;exact(hG _ _ _ _ _ h1).congr λi hi=>by rw[h2 i (hp i hi)];rfl
theorem bd5_p {α α₁ α₂ α₃ α₄ α₅:Type} {ok:Nat×Nat->Prop} {ok1:Nat->Prop} {ψ:α->Prop} {t:Nat->Option (α₁×α₂×α₃×α₄×α₅)} {φ:α₁×α₂×α₃×α₄×α₅->Prop} (hp:∀ i,ok i->ok1 i.1) (h:Tm ok1 t φ) {G:Nat×Nat->α₁->α₂->α₃->α₄->α₅->Option α} (hG:∀ z0 z1 z2 z3 z4,φ (z0,z1,z2,z3,z4)->Tm ok (λi=>G i z0 z1 z2 z3 z4) ψ):Tm ok (λi=>bd5 (t i.1) (G i)) ψ:=by
 obtain⟨v,h1,h2⟩:=h;exact(hG _ _ _ _ _ h1).congr λi hi=>by rw[h2 i.1 (hp i hi)];rfl
theorem bd6_of {α₁ α₂ α₃ α₄ α₅ α₆ β:Type} {t:Option (α₁×α₂×α₃×α₄×α₅×α₆)} {z0 z1 z2 z3 z4 z5} (h:t=some (z0,z1,z2,z3,z4,z5)) (K:α₁->α₂->α₃->α₄->α₅->α₆->Option β):bd6 t K=K z0 z1 z2 z3 z4 z5:=by rw[h];rfl
theorem bd6_p {α α₁ α₂ α₃ α₄ α₅ α₆:Type} {ok:Nat×Nat->Prop} {ok1:Nat->Prop} {ψ:α->Prop} {t:Nat->Option (α₁×α₂×α₃×α₄×α₅×α₆)} {φ:α₁×α₂×α₃×α₄×α₅×α₆->Prop} (hp:∀ i,ok i->ok1 i.1) (h:Tm ok1 t φ) {G:Nat×Nat->α₁->α₂->α₃->α₄->α₅->α₆->Option α} (hG:∀ z0 z1 z2 z3 z4 z5,φ (z0,z1,z2,z3,z4,z5)->Tm ok (λi=>G i z0 z1 z2 z3 z4 z5) ψ):Tm ok (λi=>bd6 (t i.1) (G i)) ψ:=by
 obtain⟨v,h1,h2⟩:=h;exact(hG _ _ _ _ _ _ h1).congr λi hi=>by rw[h2 i.1 (hp i hi)];rfl
theorem bd7_t {ι α α₁ α₂ α₃ α₄ α₅ α₆ α₇:Type} {ok ok1:ι->Prop} {ψ:α->Prop} {t:ι->Option (α₁×α₂×α₃×α₄×α₅×α₆×α₇)} {φ:α₁×α₂×α₃×α₄×α₅×α₆×α₇->Prop} (hp:∀ i,ok i->ok1 i) (h:Tm ok1 t φ) {G:ι->α₁->α₂->α₃->α₄->α₅->α₆->α₇->Option α} (hG:∀ z0 z1 z2 z3 z4 z5 z6,φ (z0,z1,z2,z3,z4,z5,z6)->Tm ok (λi=>G i z0 z1 z2 z3 z4 z5 z6) ψ):Tm ok (λi=>bd7 (t i) (G i)) ψ:=by
 obtain⟨v,h1,h2⟩:=h;exact(hG _ _ _ _ _ _ _ h1).congr λi hi=>by rw[h2 i (hp i hi)];rfl
theorem bd7_p {α α₁ α₂ α₃ α₄ α₅ α₆ α₇:Type} {ok:Nat×Nat->Prop} {ok1:Nat->Prop} {ψ:α->Prop} {t:Nat->Option (α₁×α₂×α₃×α₄×α₅×α₆×α₇)} {φ:α₁×α₂×α₃×α₄×α₅×α₆×α₇->Prop} (hp:∀ i,ok i->ok1 i.1) (h:Tm ok1 t φ) {G:Nat×Nat->α₁->α₂->α₃->α₄->α₅->α₆->α₇->Option α} (hG:∀ z0 z1 z2 z3 z4 z5 z6,φ (z0,z1,z2,z3,z4,z5,z6)->Tm ok (λi=>G i z0 z1 z2 z3 z4 z5 z6) ψ):Tm ok (λi=>bd7 (t i.1) (G i)) ψ:=by
 obtain⟨v,h1,h2⟩:=h;exact(hG _ _ _ _ _ _ _ h1).congr λi hi=>by rw[h2 i.1 (hp i hi)];rfl
theorem bd13_p {α α₁ α₂ α₃ α₄ α₅ α₆ α₇ α₈ α₉ α₁₀ α₁₁ α₁₂ α₁₃:Type} {ok:Nat×Nat->Prop} {ok1:Nat->Prop} {ψ:α->Prop} {t:Nat->Option (α₁×α₂×α₃×α₄×α₅×α₆×α₇×α₈×α₉×α₁₀×α₁₁×α₁₂×α₁₃)} {φ:α₁×α₂×α₃×α₄×α₅×α₆×α₇×α₈×α₉×α₁₀×α₁₁×α₁₂×α₁₃->Prop} (hp:∀ i,ok i->ok1 i.1) (h:Tm ok1 t φ) {G:Nat×Nat->α₁->α₂->α₃->α₄->α₅->α₆->α₇->α₈->α₉->α₁₀->α₁₁->α₁₂->α₁₃->Option α} (hG:∀ z0 z1 z2 z3 z4 z5 z6 z7 z8 z9 z10 z11 z12,φ (z0,z1,z2,z3,z4,z5,z6,z7,z8,z9,z10,z11,z12)->Tm ok (λi=>G i z0 z1 z2 z3 z4 z5 z6 z7 z8 z9 z10 z11 z12) ψ):Tm ok (λi=>bd13 (t i.1) (G i)) ψ:=by
 obtain⟨v,h1,h2⟩:=h;exact(hG _ _ _ _ _ _ _ _ _ _ _ _ _ h1).congr λi hi=>by rw[h2 i.1 (hp i hi)];rfl
section
variable {ι α α₁ α₂ α₃ α₄ α₅:Type} {ok:ι->Prop} {ψ:α->Prop} {p:ι->Nat} {B:Nat}
theorem Zn (hp:∀ i,ok i->B<=p i) {t:Nat->Option (α₁)} {φ:α₁->Prop} (h:Tm (λk=>B<=k) t φ) {G:ι->α₁->Option α} (hG:∀ z0,φ z0->Tm ok (λi=>G i z0) ψ):Tm ok (λi=>bd1 (t (p i)) (G i)) ψ:=by
 obtain⟨z0,h1,h2⟩:=h;exact(hG z0 h1).congr λi hi=>by rw[h2 (p i) (hp i hi)];rfl
theorem ZbS (hp:∀ i,ok i->B<=p i) {t:Nat->Option (α₁×α₂)} {φ:α₁×α₂->Prop} (h:Tm (λk=>B<=k) t φ) {G:ι->α₁->α₂->Option α} (hG:∀ z0 z1,φ (z0,z1)->Tm ok (λi=>G i z0 z1) ψ):Tm ok (λi=>bd2 (t (p i)) (G i)) ψ:=by
 obtain⟨⟨z0,z1⟩,h1,h2⟩:=h;exact(hG z0 z1 h1).congr λi hi=>by rw[h2 (p i) (hp i hi)];rfl
theorem bd5_tm (hp:∀ i,ok i->B<=p i) {t:Nat->Option (α₁×α₂×α₃×α₄×α₅)} {φ:α₁×α₂×α₃×α₄×α₅->Prop} (h:Tm (λk=>B<=k) t φ) {G:ι->α₁->α₂->α₃->α₄->α₅->Option α} (hG:∀ z0 z1 z2 z3 z4,φ (z0,z1,z2,z3,z4)->Tm ok (λi=>G i z0 z1 z2 z3 z4) ψ):Tm ok (λi=>bd5 (t (p i)) (G i)) ψ:=by
 obtain⟨⟨z0,z1,z2,z3,z4⟩,h1,h2⟩:=h;exact(hG z0 z1 z2 z3 z4 h1).congr λi hi=>by rw[h2 (p i) (hp i hi)];rfl
end
end Go.T
namespace Go.T
theorem Zco {V β:Type} {b:(V->Option β)->V->Option β} (m:V->Nat) (Inv:V->Prop) (R:V->Option β)
  (step:∀ v,Inv v->∀ L:V->Option β,(∀ v',Inv v'->m v'<m v->L v'=R v')->b L v=R v):∀ (k:Nat) (v:V),Inv v->m v<k->Za1 b k v=R v
 |0,_,_,h=>by omega
 |k+1,v,hI,h=>step v hI (Za1 b k) λv' hI' hlt=>Zco m Inv R step k v' hI' Om
theorem iter_all {β:Type} {b:(Int->Option β)->Int->Option β} {n:Nat} (p:Nat->Bool) {r1 r2:Option β} (hstep:∀ (L:Int->Option β) (i:Nat),i<n->b L (i:Int)=bif p i then L ((i:Int)+1) else r1) (hend:∀ L,b L (n:Int)=r2):
  ∀ (m i k:Nat),i+m=n->m<k->Za1 b k (i:Int)=bif(List.range' i m).all p then r2 else r1
 |0,i,k,h,hk=>by
  cases k with
  |zero=>omega
  |succ k=>
   show b (Za1 b k) (i:Int)=_;rw[show i=n from by omega,hend];simp
 |m+1,i,k,h,hk=>by
  cases k with
  |zero=>omega
  |succ k=>
   show b (Za1 b k) (i:Int)=_;rw[hstep _ i Om,show((i:Int)+1)=((i+1:Nat):Int) from by omega,iter_all p hstep hend m (i+1) k Om Om,List.range'_succ,List.all_cons];cases p i<;>rfl
theorem Zab {β:Type} {b:(Int->Option β)->Int->Option β} {n k:Nat} (p:Nat->Bool) {r1 r2:Option β} (hn:n<k) (hstep:∀ (L:Int->Option β) (i:Nat),i<n->b L (i:Int)=bif p i then L ((i:Int)+1) else r1) (hend:∀ L,b L (n:Int)=r2):
  Za1 b k 0=bif(List.range n).all p then r2 else r1:=by
 have:=iter_all p hstep hend n 0 k Om hn;rwa[List.range_eq_range']
theorem iter_find {β:Type} {b:(Int->Option β)->Int->Option β} {n k:Nat} (p:Nat->Bool) {r1:Nat->Option β} {r2:Option β} (hn:n<k) (hstep:∀ (L:Int->Option β) (i:Nat),i<n->b L (i:Int)=bif p i then r1 i else L ((i:Int)+1)) (hend:∀ L,b L (n:Int)=r2):
  Za1 b k 0=match(List.range n).find? p with|some i=>r1 i|none=>r2:=by
 have key:∀ (m i k:Nat),i+m=n->m<k->Za1 b k (i:Int)=match(List.range' i m).find? p with|some i=>r1 i|none=>r2:=by
  intro m;induction m with
  |zero=>
   intro i k h hk;cases k with
   |zero=>omega
   |succ k=>
    show b (Za1 b k) (i:Int)=_;rw[show i=n from by omega,hend];simp
  |succ m ih=>
   intro i k h hk;cases k with
   |zero=>omega
   |succ k=>
    show b (Za1 b k) (i:Int)=_;rw[hstep _ i Om,show((i:Int)+1)=((i+1:Nat):Int) from by omega,ih (i+1) k Om Om,List.range'_succ,List.find?_cons];cases p i<;>rfl
 have:=key n 0 k Om hn;rwa[List.range_eq_range']
def ZaH (p:Nat->Bool) (n:Nat):Int:=match(List.range n).find? p with|some i=>(i:Int)|none => -1
theorem ZcZ {β:Type} {b:(Int->Option β)->Int->Option β} {n k:Nat} (p:Nat->Bool) (R:Int->Option β) (hn:n<k) (hstep:∀ (L:Int->Option β) (i:Nat),i<n->b L (i:Int)=bif p i then R (i:Int) else L ((i:Int)+1)) (hend:∀ L,b L (n:Int)=R (-1)):
  Za1 b k 0=R (ZaH p n):=by
 rw[iter_find p (r1:=λi=>R (i:Int)) hn hstep hend];unfold ZaH;split<;>simp_all
theorem Zb4 {p:Nat->Bool} {n:Nat} (h:0<=ZaH p n):(ZaH p n).toNat<n/\p (ZaH p n).toNat=true/\(((ZaH p n).toNat:Nat):Int)=ZaH p n/\∀ j,j<(ZaH p n).toNat->p j=false:=by
 unfold ZaH at h⊢;split at h
 ·rename_i i hi;have h1:=List.mem_of_find?_eq_some hi;have h2:=List.find?_some hi;refine⟨by simpa using h1,by simpa using h2,by simp,λj hj=>?_⟩
  simp only[Int.toNat_natCast] at hj;have hin:i<n:=by simpa using h1
  rw[List.find?_eq_some_iff_append] at hi;obtain⟨_,as,bs,he,hall⟩:=hi;have hlen:as.length=i:=by
   have h3:(List.range n)[as.length]? = some i:=by rw[he];simp
   rw[List.getElem?_range (by have:=congrArg List.length he;simp at this;omega)] at h3;exact Option.some.inj h3
  have h4:(List.range n)[j]? = some j:=List.getElem?_range Om;rw[he,List.getElem?_append_left Om] at h4;simpa using hall j (List.mem_of_getElem? h4)
 ·omega
theorem Zc0 {p:Nat->Bool} {n:Nat} (h:ZaH p n<0):ZaH p n = -1/\∀ j,j<n->p j=false:=by
 unfold ZaH at h⊢;split at h
 ·omega
 ·rename_i hn;rw[List.find?_eq_none] at hn;exact⟨rfl,λj hj=>by simpa using hn j (by simpa using hj)⟩
theorem findI_all (p:Nat->Bool) (n:Nat):decide (ZaH p n>=0)=!(List.range n).all λi=>!p i:=by
 by_cases h:0<=ZaH p n
 ·obtain⟨h1,h2,_⟩:=Zb4 h;rw[decide_eq_true Om,List.all_eq_false.mpr ⟨(ZaH p n).toNat,by simpa using h1,by simpa using h2⟩];rfl
 ·obtain⟨_,h2⟩:=Zc0 (p:=p) (n:=n) Om;rw[decide_eq_false Om,List.all_eq_true.mpr λx hx=>by simpa using h2 x (by simpa using hx)];rfl
def dS:D->ByteArray
 |.str s=>s
 |_=>ByteArray.empty
def dI:D->Int
 |.int _ z=>z
 |_=>0
def dB:D->Bool
 |.bool b=>b
 |_=>false
def dL:D->List (List D)
 |.sl xs=>xs
 |_=>[]
def gR (xs:List (List D)) (v:Int):List D:=xs.getD v.toNat []
def gS (xs:List (List D)) (v:Int) (j:Nat):ByteArray:=dS ((gR xs v).getD j (.bool false))
def gI (xs:List (List D)) (v:Int) (j:Nat):Int:=dI ((gR xs v).getD j (.bool false))
def gB (xs:List (List D)) (v:Int) (j:Nat):Bool:=dB ((gR xs v).getD j (.bool false))
def gL (xs:List (List D)) (v:Int) (j:Nat):List (List D):=dL ((gR xs v).getD j (.bool false))
def bS (s:ByteArray) (v:Int):Int:=((s[v.toNat]?).getD 0).toNat
theorem bS_range (s:ByteArray) (v:Int):0<=bS s v/\bS s v<=255:=by
 unfold bS;have:=((s[v.toNat]?).getD 0).toNat_lt;omega
theorem ZbK {β:Type} {s:ByteArray} {v:Int} (h0:0<=v) (h1:v<s.size) (F:Int->Option β):atStr s v F=F (bS s v):=by
 have hl:v.toNat<s.size:=by omega
 have e:s[v.toNat]? = some s[v.toNat]:=by simp[hl]
 simp only[atStr,if_pos h0,bS,e,Option.getD_some]
theorem wrap_b {s:ByteArray} {v:Int}:IntKind.wrap .i64 (bS s v)=bS s v:=by
 have:=bS_range s v;exact Zb Om Om
def rI (r:List D) (j:Nat):Int:=dI (r.getD j (.bool false))
def rS (r:List D) (j:Nat):ByteArray:=dS (r.getD j (.bool false))
def rL (r:List D) (j:Nat):List (List D):=dL (r.getD j (.bool false))
theorem drop_gR {xs:List (List D)} {v:Int} (h0:0<=v) (h1:v<xs.length):xs.drop v.toNat=gR xs v::xs.drop (v+1).toNat:=by
 have hl:v.toNat<xs.length:=by omega
 rw[List.drop_eq_getElem_cons hl,show(v+1).toNat=v.toNat+1 from by omega];simp[gR,List.getD,hl]
theorem drop_end {xs:List (List D)} {v:Int} (h:(xs.length:Int)<=v):xs.drop v.toNat=[]:=List.drop_eq_nil_of_le Om
theorem gR_at {xs:List (List D)} {v:Int} (h0:0<=v) (h1:v<xs.length):xs[v.toNat]? = some (gR xs v):=by
 have hl:v.toNat<xs.length:=by omega
 simp[gR,List.getD,hl]
theorem Zan {xs:List (List D)} {v:Int} (h0:0<=v) (h1:v<xs.length):gR xs v∈xs:=List.mem_of_getElem? (gR_at h0 h1)
theorem ZW {β:Type} {xs:List (List D)} {v:Int} (h0:0<=v) (h1:v<xs.length) (F:List D->Option β):Zam xs v F=F (gR xs v):=atRow_get h0 (gR_at h0 h1) F
theorem ZJ {β:Type} {q:IntKind} {z:Int} {F:Int->Option β}:dInt q (.int q z) F=F z:=by simp[dInt]
theorem Zv {γ β:Type} {x:γ} {l:List γ} {F:γ->List γ->Option β}:Zct (x::l) F=F x l:=id rfl
theorem ZF {β:Type} {s:ByteArray} {F:ByteArray->Option β}:dStr (.str s) F=F s:=id rfl
theorem Z8 {β:Type} {s:Bool} {F:Bool->Option β}:dBool (.bool s) F=F s:=id rfl
theorem Z6 {β:Type} {s:List (List D)} {F:List (List D)->Option β}:dSl (.sl s) F=F s:=id rfl
theorem Zw {γ β:Type} {F:Option β}:atEnd ([]:List γ) F=F:=id rfl
theorem Zl {p:Prop} [Decidable p] (h:p):decide p=true:=decide_eq_true h
theorem Zm {p:Prop} [Decidable p] (h:¬ p):decide p=false:=decide_eq_false h
theorem map_len {xs:List (List D)}:(xs.map (·.map C.d)).length=xs.length:=List.length_map ..
theorem imm_cells:∀ (r:List D),C.immCells (r.map C.d)=r
 |[]=>rfl
 |d::r=>by simp[C.immCells,C.imm,imm_cells r]
theorem imm_rows:∀ (xs:List (List D)),C.immRows (xs.map (·.map C.d))=xs
 |[]=>rfl
 |r::xs=>by simp[C.immRows,imm_cells,imm_rows xs]
theorem ZU {β:Type} {c:Prop} [Decidable c] (h:c) {F:Option β}:Z0 c F=F:=by simp[Z0,h]
theorem iter_step {V β:Type} {b:(V->Option β)->V->Option β} {k:Nat} (h:0<k) {v:V}:Za1 b k v=b (Za1 b (k-1)) v:=by
 cases k with
 |zero=>omega
 |succ k=>rfl
theorem iter_allT {V β:Type} {b:(V->Option β)->V->Option β} (f:Nat->V) {n k:Nat} (p:Nat->Bool) {r1 r2:Option β} (hn:n<k) (hstep:∀ (L:V->Option β) (i:Nat),i<n->b L (f i)=bif p i then L (f (i+1)) else r1) (hend:∀ L,b L (f n)=r2):
  Za1 b k (f 0)=bif(List.range n).all p then r2 else r1:=by
 have key:∀ (m i k:Nat),i+m=n->m<k->Za1 b k (f i)=bif(List.range' i m).all p then r2 else r1:=by
  intro m;induction m with
  |zero=>
   intro i k h hk;cases k with
   |zero=>omega
   |succ k=>
    show b (Za1 b k) (f i)=_;rw[show i=n from by omega,hend];simp
  |succ m ih=>
   intro i k h hk;cases k with
   |zero=>omega
   |succ k=>
    show b (Za1 b k) (f i)=_;rw[hstep _ i Om,ih (i+1) k Om Om,List.range'_succ,List.all_cons];cases p i<;>rfl
 have:=key n 0 k Om hn;rwa[List.range_eq_range']
theorem iter_seq {V β:Type} {b:(V->Option β)->V->Option β} (f:Nat->V) {n k:Nat} {r:Option β} (hn:n<k) (hstep:∀ (L:V->Option β) (i:Nat),i<n->b L (f i)=L (f (i+1))) (hend:∀ L,b L (f n)=r):Za1 b k (f 0)=r:=by
 rw[iter_allT f (λ_=>true) (r1:=none) (r2:=r) hn (λL i hi=>by rw[hstep L i hi];rfl) hend];rw[List.all_eq_true.mpr λ_ _=>rfl];rfl
theorem both_same {β:Type} {a:Option β}:both a a=a:=if_pos rfl
theorem nilSl_same {β:Type} {a:List (List D)} {K:List (List C)->Option β}:nilSl a (both (K []) (K (a.map (·.map C.d)))) (K (a.map (·.map C.d)))=K (a.map (·.map C.d)):=by
 cases a with
 |nil=>exact both_same
 |cons x xs=>rfl
theorem Tm.val {α:Type} [Inhabited α] {B:Nat} {t:Nat->Option α} {φ:α->Prop} (h:Tm (λk=>B<=k) t φ) {k:Nat} (hk:B<=k):t k=some ((t B).getD default):=by
 obtain⟨v,_,h2⟩:=h;rw[h2 k hk,h2 B (Nat.le_refl _)];rfl
theorem common {α:Type} {Q:Nat->α->Prop} (mono:∀ h h' x,h<=h'->Q h x->Q h' x):∀ (xs:List α),(∀ x∈xs,∃ h,Q h x)->∃ h,∀ x∈xs,Q h x
 |[],_=>⟨0,by simp⟩
 |x::xs,hx=>by
  obtain⟨h1,q1⟩:=hx x Sp;obtain⟨h2,q2⟩:=common mono xs λy hy=>hx y (by simp[hy])
  refine⟨max h1 h2,λy hy=>?_⟩
  rcases List.mem_cons.mp hy with rfl|hy
  ·exact mono _ _ _ (Nat.le_max_left _ _) q1
  ·exact mono _ _ _ (Nat.le_max_right _ _) (q2 y hy)
theorem Tm.of {α:Type} {B:Nat} {t:Nat->Option α} {v:α} {φ:α->Prop} (h:∀ k,B<=k->t k=some v) (hv:φ v):Tm (λk=>B<=k) t φ:=⟨v,hv,h⟩
end Go.T
namespace Go.T
mutual
def wtD:D->Nat
 |.sl xs=>Zg xs
 |.bool _=>1
 |.int _ _=>1
 |.str _=>1
 |.fn _ _=>1
 |.un=>1
def Z7:List D->Nat
 |[]=>0
 |d::r=>wtD d+Z7 r
def Zg:List (List D)->Nat
 |[]=>0
 |r::xs=>Z7 r+Zg xs
end
theorem Zbo:∀ (xs ys:List (List D)),Zg (xs++ys)=Zg xs+Zg ys
 |[],ys=>by simp only[Zg,List.nil_append,Nat.zero_add]
 |r::xs,ys=>by simp only[Zg,List.cons_append,Zbo xs ys,Nat.add_assoc]
theorem wt_flat {R:List D->Prop} {m:Nat} (hR:∀ r,R r->Z7 r=m):∀ xs:List (List D),(∀ r∈xs,R r)->Zg xs=m*xs.length
 |[],_=>by simp only[Zg,List.length_nil,Nat.mul_zero]
 |r::xs,h=>by
  simp only[Zg,List.length_cons,hR r (h r Sp),wt_flat hR xs λr hr=>h r (by simp[hr])]
  rw[Nat.mul_add];omega
theorem ZaE {xs:List (List D)} {i:Int} {x:List D} (h0:0<=i) (hx:xs[i.toNat]? = some x):Zg (xs.take (i+1).toNat)=Zg (xs.take i.toNat)+Z7 x:=by
 rw[show(i+1).toNat=i.toNat+1 from by omega,List.take_add_one,hx,Zbo];simp only[Option.toList,Zg,Nat.add_zero]
theorem ZbT (xs:List (List D)) (n:Nat):Zg (xs.take n)+Zg (xs.drop n)=Zg xs:=by rw[<- Zbo,List.take_append_drop]
theorem ZcC {xs:List (List D)} {i:Int} {x:List D} (h0:0<=i) (hx:xs[i.toNat]? = some x):xs.drop i.toNat=x::xs.drop (i+1).toNat:=by
 obtain⟨hl,he⟩:=List.getElem?_eq_some_iff.mp hx;rw[List.drop_eq_getElem_cons hl,he,show(i+1).toNat=i.toNat+1 from by omega]
theorem deep_snoc {xs:List (List D)} {i:Nat} (h:i<xs.length):Za (xs.take i)++[Zu (gR xs (i:Int))]=Za (xs.take (i+1)):=by
 have hx:=gR_at (xs:=xs) (v:=(i:Int)) Om Om;rw[Int.toNat_natCast] at hx;rw[List.take_add_one,hx,ZL];simp[Za]
theorem Zcb {β:Type} {b:(Int×List (List C)->Option β)->Int×List (List C)->Option β} {xs:List (List D)} {k:Nat} {r:Option β} (hk:xs.length<k)
  (hstep:∀ (L:Int×List (List C)->Option β) (i:Nat),i<xs.length->b L ((i:Int),Za (xs.take i))=L ((i:Int)+1,Za (xs.take i)++[Zu (gR xs (i:Int))])) (hend:∀ L,b L ((xs.length:Int),Za xs)=r):Za1 b k (0,[])=r:=by
 have:=iter_seq (b:=b) (λi=>((i:Int),Za (xs.take i))) (n:=xs.length) (k:=k) (r:=r) hk (λL i hi=>by rw[hstep L i hi,deep_snoc hi];rfl) (λL=>by rw[List.take_of_length_le (Nat.le_refl _)];exact hend L);simpa[Za] using this
theorem ZQ {α:Type} {A B:List α} {c:α} {n:Nat} (h:A.length=n) (F:α->α):(A++c::B).modify n F=A++F c::B:=by
 subst h;rw[List.modify_eq_take_cons_drop Sp];simp
theorem Zah {β:Type} {A B:List (List C)} {c:List C} {n:Nat} (h:A.length=n) (F:List C->Option β):Za7 (A++c::B) n F=F c:=by
 subst h;simp[Za7]
def Zcg (b:List (List D)->(Int×Int->Option Int)->Int×Int->Option Int) (n:Int) (r:List D) (n':Int):Prop:=
 ∀ (xs:List (List D)) (i:Int),0<=i->i<xs.length->xs.length<=4611686018427387904->gR xs i=r->∀ L,b xs L (n,i)=L (n',i+1)
inductive Zav (S:Int->List D->Int->Prop):Int->List (List D)->Int->Prop
 |nil {n:Int}:Zav S n [] n
 |snoc {n u u':Int} {xs:List (List D)} {r:List D} (h:Zav S n xs u) (hs:S u r u'):Zav S n (xs++[r]) u'
theorem held_pre {b:List (List D)->(Int×Int->Option Int)->Int×Int->Option Int} {ys:List (List D)} (hl:ys.length<=4611686018427387904) {n u:Int} {xs:List (List D)} (h:Zav (Zcg b) n xs u):
  ∀ (rest:List (List D)),ys=xs++rest->∀ k,xs.length<=k->Za1 (b ys) k (n,0)=Za1 (b ys) (k-xs.length) (u,(xs.length:Int)):=by
 induction h with
 |nil=>intro rest _ k _;rfl
 |snoc h hs ih=>
  rename_i u u' xs r;intro rest he k hk;rw[List.length_append,List.length_singleton] at hk⊢;rw[ih (r::rest) (by rw[he,List.append_assoc];rfl) k Om,iter_step Om];have hy:ys.length=xs.length+(1+rest.length):=by rw[he];simp;omega
  rw[hs ys (xs.length:Int) Om Om hl (by
   rw[he];simp[gR,List.getD])]
  congr 1
theorem held_run {b:List (List D)->(Int×Int->Option Int)->Int×Int->Option Int} {ys:List (List D)} (hl:ys.length<=4611686018427387904) {n u:Int} (h:Zav (Zcg b) n ys u) {k:Nat} (hk:ys.length<k)
  (hend:∀ L,b ys L (u,(ys.length:Int))=some u):Za1 (b ys) k (n,0)=some u:=by
 rw[held_pre hl h [] Sp k Om,iter_step Om,hend]
theorem Zav.mono {S S':Int->List D->Int->Prop} (hi:∀ u r u',S u r u'->S' u r u') {n u:Int} {xs:List (List D)} (h:Zav S n xs u):Zav S' n xs u:=by
 induction h with
 |nil=>exact .nil
 |snoc _ hs ih=>exact .snoc ih (hi _ _ _ hs)
end Go.T
