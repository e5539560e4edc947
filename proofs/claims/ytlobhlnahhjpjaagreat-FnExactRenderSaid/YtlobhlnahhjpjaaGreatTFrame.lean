/- What a law is handed,as the evaluator's data. -/
import Derived.JoinedOf
import Derived.Test.YtlobhlnahhjpjaaGreatTPro
import Derived.OpenShut
import Derived.ShutString
import Derived.ChangeOld
import Derived.SizedLaws
import Derived.Carry
set_option linter.unusedVariables false
set_option linter.unusedSimpArgs false
namespace Go.T
mutual
inductive GoodS (P:Program) (B:Nat):TypeId->D->Prop
 |bool {t:TypeId} {b:Bool} (hu:P.underlying t=some .bool):GoodS P B t (.bool b)
 |int {t:TypeId} {k:IntKind} {z:Int} (hu:P.underlying t=some (.int k)) (hw:(Lit.int k z).wf=true):GoodS P B t (.int k z)
 |str {t:TypeId} {s:ByteArray} (hu:P.underlying t=some .string) (hs:s.size<=B):GoodS P B t (.str s)
 |sl {t e:TypeId} {xs:List (List D)} (hu:P.underlying t=some (.slice e)) (hl:xs.length<=B) (hr:∀ r∈xs,Zbp P B (Zq P 6 e) r):GoodS P B t (.sl xs)
inductive Zbp (P:Program) (B:Nat):List TypeId->List D->Prop
 |nil:Zbp P B [] []
 |cons {t:TypeId} {ts:List TypeId} {d:D} {ds:List D} (h:GoodS P B t d) (h':Zbp P B ts ds):Zbp P B (t::ts) (d::ds)
end
structure RowS (P:Program) (B:Nat) (e:TypeId) (r:List D):Prop where
 get:Zbp P B (Zq P 6 e) r
theorem RowS.open {P:Program} {B:Nat} {e:TypeId} {r:List D} {ts:List TypeId} (h:RowS P B e r) (hf:Zq P 6 e=ts):Zbp P B ts r:=by
 obtain⟨h⟩:=h
 rwa[hf] at h
def contigB (P:Program) (f:TypeId->Bool) (total:Nat):Nat->List Field->Bool
 |o,[]=>o==total
 |o,fd::fs=>fd.offset==o&&f fd.type&&contigB P f total (o+P.cellsOf fd.type) fs
def lawTyS (P:Program) (g:TypeId->Bool):Nat->TypeId->Bool
 |0,t=>
  match P.underlying t with
  |some .bool|some (.int _)|some .string=>true
  |_=>false
 |m+1,t=>
  match P.underlying t with
  |some .bool|some (.int _)|some .string=>true
  |some (.slice e)=>g e&&decide (0<P.cellsOf e)
  |some (.struct fs)=>contigB P (lawTyS P g m) (P.cellsOf t) 0 fs.toList
  |_=>false
def lawTy (P:Program) (es:List TypeId) (m:Nat) (t:TypeId):Bool:=lawTyS P (λe=>es.contains e) m t
def lawTys (P:Program) (es:List TypeId):Bool:=es.all λe=>lawTy P es 6 e
theorem lawTys_of {P:Program} {es:List TypeId} (h:lawTys P es=true) {e:TypeId} (he:es.contains e=true):lawTy P es 6 e=true:=by
 unfold lawTys at h
 rw[List.all_eq_true] at h
 exact h e (by simpa using he)
def Z1 (w:World) (I:Nat->Prop):List D->List Value->Prop
 |[],[]=>True
 |d::ds,v::vs=>RdD w I d v/\Z1 w I ds vs
 |_,_=>False
theorem Z1.length {w:World} {I:Nat->Prop}:∀ {ds:List D} {vs:List Value},Z1 w I ds vs->ds.length=vs.length
 |[],[],_=>rfl
 |[],_::_,h=>by simp[Z1] at h
 |_::_,[],h=>by simp[Z1] at h
 |d::ds,v::vs,h=>by
  simp only[Z1] at h
  simp[Z1.length h.2]
theorem Z1.append {w:World} {I:Nat->Prop}:∀ {ds ds':List D} {vs vs':List Value},Z1 w I ds vs->Z1 w I ds' vs'->Z1 w I (ds++ds') (vs++vs')
 |[],_,[],_,_,h=>h
 |[],_,_::_,_,h,_=>by simp[Z1] at h
 |_::_,_,[],_,h,_=>by simp[Z1] at h
 |d::ds,_,v::vs,_,h,h'=>by
  simp only[Z1] at h
  simp only[List.cons_append,Z1]
  exact⟨h.1,h.2.append h'⟩
theorem Z1.cells {w:World} {I:Nat->Prop} {c:Array Value}:∀ {ds:List D} {vs:List Value} {p:Nat},Z1 w I ds vs->(∀ (j:Nat) (v:Value),vs[j]? = some v->c[p+j]? = some v)->Zi w I c p ds
 |[],[],p,_,_=>by simp[Zi]
 |[],_::_,_,h,_=>by simp[Z1] at h
 |_::_,[],_,h,_=>by simp[Z1] at h
 |d::ds,v::vs,p,h,hc=>by
  simp only[Z1] at h
  simp only[Zi]
  refine⟨⟨v,by simpa using hc 0 v (by simp),h.1⟩,Z1.cells h.2 λj u hu=>?_⟩
  have:=hc (j+1) u (by simpa using hu)
  rwa[show p+1+j=p+(j+1) from by omega]
theorem Zbp.append {P:Program} {B:Nat} {ts':List TypeId} {ds':List D} (h':Zbp P B ts' ds'):∀ {ts:List TypeId} {ds:List D},Zbp P B ts ds->Zbp P B (ts++ts') (ds++ds')
 |[],[],_=>h'
 |[],_::_,h=>by cases h
 |_::_,[],h=>by cases h
 |t::ts,d::ds,h=>by
  cases h with
  |cons h1 h2=>exact .cons h1 (Zbp.append h' h2)
theorem Zbp.length {P:Program} {B:Nat}:∀ {ts:List TypeId} {ds:List D},Zbp P B ts ds->ds.length=ts.length
 |[],[],_=>rfl
 |[],_::_,h=>by cases h
 |_::_,[],h=>by cases h
 |t::ts,d::ds,h=>by
  cases h with
  |cons _ h2=>simp[h2.length]
theorem mapM_some {α γ:Type} {f:α->Option γ}:∀ {l:List α} {ys:List γ},l.mapM f=some ys->ys.length=l.length/\∀ (i:Nat) (x:α),l[i]? = some x->∃ y,ys[i]? = some y/\f x=some y
 |[],ys,h=>by
  simp at h
  subst h
  simp
 |x::l,ys,h=>by
  rw[List.mapM_cons] at h
  cases hx:f x with
  |none=>rw[hx] at h;simp at h
  |some y=>
   rw[hx] at h
   simp only[Option.bind_eq_bind,Option.bind_some] at h
   cases hl:l.mapM f with
   |none=>rw[hl] at h;simp at h
   |some ys'=>
    rw[hl] at h
    simp at h
    subst h
    obtain⟨q1,q2⟩:=mapM_some hl
    refine⟨by simp[q1],λi z hz=>?_⟩
    cases i with
    |zero=>simp at hz;subst hz;exact⟨y,by simp,hx⟩
    |succ i=>simpa using q2 i z (by simpa using hz)
section
variable {H:Type} {enc:TypeId×Value->H} {P:Program} {W:World} {spare:Nat->Bool} {held:Bool}
def Old (W:World):Nat->Prop:=λb=>b<W.heap.size
theorem trod_data {es:List TypeId} (hes:lawTys P es=true):∀ (fuel:Nat) {m:Nat} {t:TypeId} {cs:List Value} {r:DataW H×List MemPlace},lawTy P es m t=true->DataW.trod enc P W 0 spare held fuel t cs=some r->
  ∃ ds,Z1 W (Old W) ds cs/\Zbp P maxLen (Zq P m t) ds
 |0,m,t,cs,r,hl,h=>by simp[DataW.trod] at h
 |fuel+1,m,t,cs,r,hl,h=>by
  have scal:∀ (d:D),Zq P m t=[t]->Z1 W (Old W) [d] cs->GoodS P maxLen t d->∃ ds,Z1 W (Old W) ds cs/\Zbp P maxLen (Zq P m t) ds:=by
   intro d hf hr hg
   refine⟨[d],hr,?_⟩
   rw[hf]
   exact .cons hg .nil
  have flat1:∀ {desc:TypeDesc},P.underlying t=some desc->(∀ fs,desc≠.struct fs)->(∀ k e,desc≠.array k e)->Zq P m t=[t]:=by
   intro desc hu h1 h2
   cases m with
   |zero=>rfl
   |succ m=>
    simp only[Zq]
    rw[hu]
    cases desc<;>simp_all
  ·simp only[DataW.trod] at h
   split at h<;>rename_i hu
   ·-- bool
    rename_i b
    exact scal (.bool b) (flat1 hu (by simp) (by simp)) (by simp[Z1,RdD]) (.bool hu)
   ·rename_i k k' z
    split at h
    case isFalse=>cases h
    rename_i hk
    obtain⟨rfl,hwf⟩:=hk
    exact scal (.int k' z) (flat1 hu (by simp) (by simp)) (by simp[Z1,RdD]) (.int hu hwf)
   ·exfalso
    cases m<;>simp[lawTy,lawTyS,hu] at hl
   ·rename_i s
    split at h
    case isFalse=>cases h
    rename_i hs
    exact scal (.str s) (flat1 hu (by simp) (by simp)) (by simp[Z1,RdD]) (.str hu hs)
   ·exfalso
    cases m<;>simp[lawTy,lawTyS,hu] at hl
   ·exfalso
    cases m<;>simp[lawTy,lawTyS,hu] at hl
   ·-- a nil slice
    refine scal (.sl []) (flat1 hu (by simp) (by simp)) ?_ (.sl hu (Nat.zero_le _) (by simp))
    simp only[Z1,RdD,and_true]
    exact⟨none,0,0,rfl,rfl,Nat.le_refl _,.inl trivial⟩
   ·-- a slice
    rename_i e a len cap
    cases m with
    |zero=>simp[lawTy,lawTyS,hu] at hl
    |succ m=>
    simp only[lawTy,lawTyS,hu,Bool.and_eq_true,decide_eq_true_eq] at hl
    obtain⟨hle,hsz⟩:=hl
    split at h
    case isFalse=>cases h
    rename_i hck
    obtain⟨_,hlc,hcm⟩:=hck
    cases hel:(List.range len).mapM λi=>(W.cells? 0 (a.add (i*P.cellsOf e)) (P.cellsOf e)).bind (DataW.trod enc P W 0 spare held fuel e) with
    |none=>rw[hel] at h;simp at h
    |some elems=>
     obtain⟨hll,hat⟩:=mapM_some hel
     have cellAt:∀ i,i<len->∃ csi,csi.length=P.cellsOf e/\(∀ j,j<P.cellsOf e->W.cell? ((a.add (i*P.cellsOf e)).add j)=csi[j]?)/\∃ ds,Z1 W (Old W) ds csi/\Zbp P maxLen (Zq P 6 e) ds:=by
      intro i hi
      obtain⟨y,_,hy⟩:=hat i i (by simp[hi])
      cases hc:W.cells? 0 (a.add (i*P.cellsOf e)) (P.cellsOf e) with
      |none=>rw[hc] at hy;simp at hy
      |some csi=>
       rw[hc] at hy
       simp only[Option.bind_some] at hy
       obtain⟨ds,q1,q2⟩:=trod_data hes fuel (lawTys_of hes hle) hy
       unfold World.cells? at hc
       rw[if_pos (Nat.zero_le _)] at hc
       obtain⟨z1,z2⟩:=mapM_some hc
       refine⟨csi,by simpa using z1,λj hj=>?_,ds,q1,q2⟩
       obtain⟨v,hv,hcv⟩:=z2 j j (by simp[hj])
       rw[hcv,hv]
     have build:∃ xs:List (List D),xs.length=len/\(∀ x∈xs,Zbp P maxLen (Zq P 6 e) x)/\∀ (b off:Nat) (c:Array Value) (el:TypeId) (fr:Nat×Nat),a=⟨b,off,none⟩->W.heap[b]? = some (.cells c el fr)->
       ZC W (Old W) c (P.cellsOf e) off xs:=by
      have gen:∀ (k i:Nat),i+k<=len->∃ xs:List (List D),xs.length=k/\(∀ x∈xs,Zbp P maxLen (Zq P 6 e) x)/\∀ (b off:Nat) (c:Array Value) (el:TypeId) (fr:Nat×Nat),a=⟨b,off,none⟩->W.heap[b]? = some (.cells c el fr)->
        ZC W (Old W) c (P.cellsOf e) (off+i*P.cellsOf e) xs:=by
       intro k
       induction k with
       |zero=>intro i _;exact⟨[],rfl,by simp,λ_ _ _ _ _ _ _=>by simp[ZC]⟩
       |succ k ih=>
        intro i hi
        obtain⟨xs,a1,a2,a3⟩:=ih (i+1) (by omega)
        obtain⟨csi,c1,c2,ds,c3,c4⟩:=cellAt i (by omega)
        refine⟨ds::xs,by simp[a1],λx hx=>?_,λb off c el fr ha hb=>?_⟩
        ·rcases List.mem_cons.mp hx with rfl|hx
         ·exact c4
         ·exact a2 x hx
        ·simp only[ZC]
         refine⟨⟨by rw[Z1.length c3,c1],Z1.cells c3 λj v hv=>?_⟩,?_⟩
         ·have hj:j<P.cellsOf e:=by rw[<- c1];exact(List.getElem?_eq_some_iff.mp hv).1
          have:=c2 j hj
          rw[hv] at this
          have hadd:(a.add (i*P.cellsOf e)).add j=⟨b,off+i*P.cellsOf e+j,none⟩:=by
           rw[ha,Zb8,Zb8]
          rw[hadd,Zat hb] at this
          exact this
         ·have:=a3 b off c el fr ha hb
          rwa[show off+(i+1)*P.cellsOf e=off+i*P.cellsOf e+P.cellsOf e from by rw[Nat.succ_mul];omega] at this
      obtain⟨xs,a1,a2,a3⟩:=gen len 0 (by omega)
      exact⟨xs,a1,a2,λb off c el fr ha hb=>by simpa using a3 b off c el fr ha hb⟩
     obtain⟨xs,b1,b2,b3⟩:=build
     refine scal (.sl xs) (flat1 hu (by simp) (by simp)) ?_ ?_
     ·simp only[Z1,RdD,and_true]
      refine⟨some a,len,cap,rfl,b1.symm,hlc,?_⟩
      rcases Nat.eq_zero_or_pos len with h0|h0
      ·left
       rw[h0] at b1
       exact List.length_eq_zero_iff.mp b1
      ·right
       obtain⟨csi,c1,c2,_⟩:=cellAt 0 h0
       have h00:=c2 0 hsz
       have hsome:∃ v,W.cell? ((a.add (0*P.cellsOf e)).add 0)=some v:=⟨csi[0],by rw[h00];simp[c1,hsz]⟩
       obtain⟨v,hv⟩:=hsome
       have ha0:(a.add (0*P.cellsOf e)).add 0=a:=by simp[Addr.add]
       rw[ha0] at hv
       unfold World.cell? at hv
       split at hv
       ·rename_i c el fr hb
        split at hv
        ·cases hv
        ·rename_i hsp
         have hae:a=⟨a.block,a.off,none⟩:=by
          cases a with
          |mk b o s=>
           cases s with
           |none=>rfl
           |some _=>simp at hsp
         refine⟨a.block,a.off,c,el,fr,P.cellsOf e,by rw[<- hae],(Array.getElem?_eq_some_iff.mp hb).1,hb,hsz,b3 a.block a.off c el fr hae hb⟩
       ·cases hv
     ·exact .sl hu (by rw[b1];exact Nat.le_trans hlc hcm) b2
   ·-- a struct
    rename_i cs _ _ fs
    cases m with
    |zero=>simp[lawTy,lawTyS,hu] at hl
    |succ m=>
    simp only[lawTy,lawTyS,hu] at hl
    split at h
    case isFalse=>cases h
    rename_i hlen
    cases hel:fs.toList.mapM λf=>DataW.trod enc P W 0 spare held fuel f.type ((cs.drop f.offset).take (P.cellsOf f.type)) with
    |none=>rw[hel] at h;simp at h
    |some xs=>
     have gen:∀ (l:List Field) (o:Nat) (ys:List (DataW H×List MemPlace)),contigB P (lawTyS P (λe=>es.contains e) m) (P.cellsOf t) o l=true->(l.mapM λf=>DataW.trod enc P W 0 spare held fuel f.type ((cs.drop f.offset).take (P.cellsOf f.type)))=some ys->
       ∃ ds,Z1 W (Old W) ds (cs.drop o)/\Zbp P maxLen (l.flatMap λf=>Zq P m f.type) ds:=by
      intro l
      induction l with
      |nil=>
       intro o ys hc _
       simp only[contigB,beq_iff_eq] at hc
       refine⟨[],?_,by simpa using Zbp.nil⟩
       rw[List.drop_eq_nil_of_le (by omega)]
       simp[Z1]
      |cons f l ih=>
       intro o ys hc hy
       simp only[contigB,Bool.and_eq_true,beq_iff_eq] at hc
       obtain⟨⟨rfl,hlf⟩,hc⟩:=hc
       rw[List.mapM_cons] at hy
       cases hx:DataW.trod enc P W 0 spare held fuel f.type ((cs.drop f.offset).take (P.cellsOf f.type)) with
       |none=>rw[hx] at hy;simp at hy
       |some y=>
        rw[hx] at hy
        simp only[Option.bind_eq_bind,Option.bind_some] at hy
        cases hl2:(l.mapM λf=>DataW.trod enc P W 0 spare held fuel f.type ((cs.drop f.offset).take (P.cellsOf f.type))) with
        |none=>rw[hl2] at hy;simp at hy
        |some ys'=>
         obtain⟨ds1,p1,p2⟩:=trod_data hes fuel hlf hx
         obtain⟨ds2,q1,q2⟩:=ih _ ys' hc hl2
         refine⟨ds1++ds2,?_,?_⟩
         ·have:=p1.append q1
          rwa[<- List.drop_drop,List.take_append_drop] at this
         ·rw[List.flatMap_cons]
          exact Zbp.append q2 p2
     obtain⟨ds,q1,q2⟩:=gen fs.toList 0 xs hl hel
     refine⟨ds,by simpa using q1,?_⟩
     simp only[Zq]
     rw[hu]
     exact q2
   all_goals first
    |(cases h;done)
    |(exfalso;cases m<;>simp[lawTy,lawTyS,hu] at hl)
theorem open_agg {es:List TypeId} (hes:lawTys P es=true) {t:TypeId} {v:Value} {d:DataW H} {ps:List MemPlace} {base:Nat} (hl:lawTy P es 6 t=true) (hg:ZU P t=true) (hval:Value.okWide P W .any base t v) (h:DataW.Trod enc P W 0 spare held t v d ps):
  ∃ (cs:List Value) (ds:List D),v=.agg cs.toArray/\cs.length=ds.length/\Zi W (Old W) cs.toArray 0 ds/\RowS P maxLen t ds:=by
 obtain⟨fuel,h⟩:=h
 have hv:∃ cs:Array Value,v=.agg cs:=by
  unfold Value.okWide at hval
  unfold ZU at hg
  split at hg
  ·rename_i hu;rw[hu] at hval;obtain⟨cs,e,_⟩:=hval;exact⟨cs,e⟩
  ·rename_i hu;rw[hu] at hval;obtain⟨cs,e,_⟩:=hval;exact⟨cs,e⟩
  ·cases hg
 obtain⟨cs,rfl⟩:=hv
 obtain⟨ds,q1,q2⟩:=trod_data hes fuel hl h
 simp only[Value.cells] at q1
 exact⟨cs.toList,ds,by simp,q1.length.symm,q1.cells λj u hu=>by simpa using hu,⟨q2⟩⟩
theorem open_cell {es:List TypeId} (hes:lawTys P es=true) {t:TypeId} {v:Value} {d:DataW H} {ps:List MemPlace} (hl:lawTy P es 6 t=true) (hv:v.cells=#[v]) (hf:Zq P 6 t=[t]) (h:DataW.Trod enc P W 0 spare held t v d ps):
  ∃ x,RdD W (Old W) x v/\GoodS P maxLen t x:=by
 obtain⟨fuel,h⟩:=h
 obtain⟨ds,q1,q2⟩:=trod_data hes fuel hl h
 rw[hv] at q1
 rw[hf] at q2
 match ds,q2 with
 |[x],q2=>
  simp only[Z1] at q1
  cases q2 with
  |cons q2 _=>exact⟨x,q1.1,q2⟩
theorem good_str {B:Nat} {t:TypeId} (hu:P.underlying t=some .string) {x:D} (h:GoodS P B t x):∃ s,x=.str s/\s.size<=B:=by
 cases h with
 |str _ h=>exact⟨_,rfl,h⟩
 |bool h=>rw[hu] at h;cases h
 |int h _=>rw[hu] at h;cases h
 |sl h _ _=>rw[hu] at h;cases h
theorem good_bool {B:Nat} {t:TypeId} (hu:P.underlying t=some .bool) {x:D} (h:GoodS P B t x):∃ b,x=.bool b:=by
 cases h with
 |bool h=>exact⟨_,rfl⟩
 |str h _=>rw[hu] at h;cases h
 |int h _=>rw[hu] at h;cases h
 |sl h _ _=>rw[hu] at h;cases h
theorem good_int {B:Nat} {t:TypeId} {k:IntKind} (hu:P.underlying t=some (.int k)) {x:D} (h:GoodS P B t x):∃ z,x=.int k z/\(Lit.int k z).wf=true:=by
 cases h with
 |int h hw=>rw[hu] at h;cases h;exact⟨_,rfl,hw⟩
 |bool h=>rw[hu] at h;cases h
 |str h _=>rw[hu] at h;cases h
 |sl h _ _=>rw[hu] at h;cases h
theorem good_sl {B:Nat} {t e:TypeId} (hu:P.underlying t=some (.slice e)) {x:D} (h:GoodS P B t x):∃ xs,x=.sl xs/\xs.length<=B/\∀ r∈xs,RowS P B e r:=by
 cases h with
 |sl h hl hr=>rw[hu] at h;cases h;exact⟨_,rfl,hl,λr hr'=>⟨hr r hr'⟩⟩
 |bool h=>rw[hu] at h;cases h
 |str h _=>rw[hu] at h;cases h
 |int h _=>rw[hu] at h;cases h
theorem goodR_cons {B:Nat} {t:TypeId} {ts:List TypeId} {ds:List D} (h:Zbp P B (t::ts) ds):∃ d ds',ds=d::ds'/\GoodS P B t d/\Zbp P B ts ds':=by
 cases h with
 |cons h h'=>exact⟨_,_,rfl,h,h'⟩
theorem goodR_nil {B:Nat} {ds:List D} (h:Zbp P B [] ds):ds=[]:=by
 cases h
 rfl
end
theorem ZO.nil' {P:Program} {w:World} {I Q:Nat->Prop}:ZO P w I Q [] [] [] []:=by simp[ZO]
theorem ZO.cons' {P:Program} {w:World} {I Q:Nat->Prop} {a:A} {m:Mode×TypeId} {v:Value} {as:List A} {ms:List (Mode×TypeId)} {vs:List Value} (h:ZJ P w I Q a m v []) (h':ZO P w I Q as ms vs []):ZO P w I Q (a::as) (m::ms) (v::vs) []:=by
 simp only[ZO]
 exact⟨v,vs,[],[],rfl,rfl,h,h'⟩
open Go.RowKit in
theorem law_calls {P:Program} {f:FuncId} {e:Zj} (he:Zf P f e) (hal:e.al=false) {t:TypeId} (hrt:e.rts=[t]) (hg:(ZU P t||Zb5 P t)=false) {aa:List A} {W:World} {vs:List Value} (hargs:ZO P W (Old W) (λ_=>True) aa e.modes vs [])
  (hrun:∃ z:Unit,e.run aa (λrs os=>match rs with|[[.d (.bool true)]]=>some ()|_=>none)=some z):Calls P f vs.toArray W λex W'=>ex=.returned (.bool true)/\Below W.heap.size W W':=by
 obtain⟨hg,hp⟩:=Bool.or_eq_false_iff.mp hg
 obtain⟨z,hrun⟩:=hrun
 obtain⟨rs,os,h1,h2⟩:=he.2.1 Unit aa _ z hrun
 refine Calls.mono (h2 W (Old W) (λ_=>True) vs [] hargs (by simp) (by simp) (λb hb=>hb)) ?_
 rintro ex W' ⟨v,vs',I',Fr,Fo,rfl,rfl,c1,c2,c3,c4,c5,c6,c7,c8,c9,c10,c11,c12⟩
 split at h1
 case h_2=>cases h1
 rw[hrt] at c11
 simp only[ZaO] at c11
 obtain⟨v,vs2,F1,F2,rfl,_,⟨_,cells,hv,_,ow⟩|⟨hp',_⟩,rfl,_⟩:=c11
 rotate_left
 ·rw[hp] at hp';cases hp'
 simp only[Za,OwC] at ow
 obtain⟨ct,cts',u,F3,F4,_,_,hu,⟨_,hd⟩,_⟩:=ow
 simp only[RdD] at hd
 subst hd
 rw[hg] at hv
 simp only[Bool.false_eq_true,if_false] at hv
 have:v=.bool true:=by
  rw[hv,Array.getD_eq_getD_getElem?,hu]
  rfl
 subst this
 exact⟨rfl,c2,c3,c4,c1,λb hb=>c5 b hb (by simp)⟩
def joined1 (P:Program) (f:FuncId) (fn:Func) (s:ChangeSpec) (c:OpenClaim):Bool:=c.wf (OpenSpec.ofChange s)&&laidOutB P&&(c.stops==[])&&(P.stops==[])&&(c.knobs==[])&&(P.stopKnobs==[])&&c.shortTexts.isNone&&P.stopsHeard&&P.mayEnter&&(c.lifted==P.liftsFinal)&&(P.make==some c.make)&&(c.pinned==c.pinnedBy)
def joined2 (P:Program) (f:FuncId) (fn:Func) (s:ChangeSpec) (c:OpenClaim):Bool:=mapsRowed P&&(c.plainKeys==P.plainKeys)
def joined3 (P:Program) (f:FuncId) (fn:Func) (s:ChangeSpec) (c:OpenClaim):Bool:=fn.params.all (P.readableRec ·)&&namedTie P c.named s.vars&&(c.maps==(fn.params.toList++s.plain.varTypes P).any (P.mapsRec ·))&&(c.ifaces==(fn.params.toList++s.plain.varTypes P).any (P.ifacesRec ·))&&(c.mapsOut==P.mapsAmong fn.resultTypes.toList)&&s.vars.all (P.varReadable ·)&&fn.resultTypes.all (λt=>P.readableRec t&&decide (t<P.types.size))&&(c.ifacesOut==fn.resultTypes.toList.any (P.ifacesRec ·))&&(c.kinds==(if c.domain.isEmpty then[] else fn.params.toList.map λt=>match P.underlying t with|some (.int k)=>some k|_=>none))
def joined4 (P:Program) (f:FuncId) (fn:Func) (s:ChangeSpec) (c:OpenClaim):Bool:=(c.inPlace==P.inPlace f)
def joined5 (P:Program) (f:FuncId) (fn:Func) (s:ChangeSpec) (c:OpenClaim):Bool:=(c.unfollowed==P.unfollowed f)
def joined6 (P:Program) (f:FuncId) (fn:Func) (s:ChangeSpec) (c:OpenClaim):Bool:=(c.recurses==P.recurses f)
def joined7 (P:Program) (f:FuncId) (fn:Func) (s:ChangeSpec) (c:OpenClaim):Bool:=(c.named==P.varsNamed f)
def joined8 (P:Program) (f:FuncId) (fn:Func) (s:ChangeSpec) (c:OpenClaim):Bool:=(c.loops==(fn.params.toList++s.plain.varTypes P).any (P.loopsFrom ·))&&(c.wideKeys==(fn.params.toList++s.plain.varTypes P++fn.resultTypes.toList).any (P.wideKeysFrom ·))&&(c.loopsOut==fn.resultTypes.toList.any (P.loopsFrom ·))&&(c.veiled==(fn.params.toList++s.plain.varTypes P++fn.resultTypes.toList).any (P.veiledRec ·))&&c.veiledFits P fn.params.toList (fn.params.toList++s.plain.varTypes P++fn.resultTypes.toList)
theorem joined_of {P:Program} {f:FuncId} {fn:Func} {s:ChangeSpec} {c:OpenClaim} (h1:joined1 P f fn s c=true) (h2:joined2 P f fn s c=true) (h3:joined3 P f fn s c=true) (h4:joined4 P f fn s c=true) (h5:joined5 P f fn s c=true) (h6:joined6 P f fn s c=true) (h7:joined7 P f fn s c=true) (h8:joined8 P f fn s c=true):joinedFacts P f fn s c=true:=by
 simp only[joined1,joined2,joined3,joined4,joined5,joined6,joined7,joined8,Bool.and_eq_true] at h1 h2 h3 h4 h5 h6 h7 h8
 obtain⟨⟨⟨⟨⟨⟨⟨⟨⟨⟨⟨x1_0,x1_1⟩,x1_2⟩,x1_3⟩,x1_4⟩,x1_5⟩,x1_6⟩,x1_7⟩,x1_8⟩,x1_9⟩,x1_10⟩,x1_11⟩:=h1
 obtain⟨x2_0,x2_1⟩:=h2
 obtain⟨⟨⟨⟨⟨⟨⟨⟨x3_0,x3_1⟩,x3_2⟩,x3_3⟩,x3_4⟩,x3_5⟩,x3_6⟩,x3_7⟩,x3_8⟩:=h3
 have x4_0:=h4
 have x5_0:=h5
 have x6_0:=h6
 have x7_0:=h7
 obtain⟨⟨⟨⟨x8_0,x8_1⟩,x8_2⟩,x8_3⟩,x8_4⟩:=h8
 simp only[joinedFacts,Bool.and_eq_true]
 exact⟨⟨⟨⟨⟨⟨⟨⟨⟨⟨⟨⟨⟨⟨⟨⟨⟨⟨⟨⟨⟨⟨⟨⟨⟨⟨⟨⟨⟨⟨⟨x1_0,x1_1⟩,x2_0⟩,x3_0⟩,x3_1⟩,x1_2⟩,x1_3⟩,x1_4⟩,x1_5⟩,x4_0⟩,x5_0⟩,x6_0⟩,x7_0⟩,x3_2⟩,x3_3⟩,x3_4⟩,x8_0⟩,x8_1⟩,x3_5⟩,x3_6⟩,x3_7⟩,x8_2⟩,x2_1⟩,x1_6⟩,x1_7⟩,x1_8⟩,x1_9⟩,x1_10⟩,x3_8⟩,x1_11⟩,x8_3⟩,x8_4⟩
end Go.T
