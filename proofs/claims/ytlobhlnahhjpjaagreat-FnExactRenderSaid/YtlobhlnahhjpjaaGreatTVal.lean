/- Values of printed functions: closed forms of loops,and what a row holds. -/
import Derived.Test.YtlobhlnahhjpjaaGreatTTerm
set_option linter.unusedVariables false
set_option linter.unusedSimpArgs false
namespace Go.T
theorem iter_val {V β:Type} {b:(V->Option β)->V->Option β} (m:V->Nat) (Inv:V->Prop) (R:V->Option β)
  (step:∀ v,Inv v->∀ L:V->Option β,(∀ v',Inv v'->m v'<m v->L v'=R v')->b L v=R v):∀ (k:Nat) (v:V),Inv v->m v<k->ZA b k v=R v
 |0,_,_,h=>by omega
 |k+1,v,hI,h=>step v hI (ZA b k) λv' hI' hlt=>iter_val m Inv R step k v' hI' (by omega)
theorem iter_all {β:Type} {b:(Int->Option β)->Int->Option β} {n:Nat} (p:Nat->Bool) {r1 r2:Option β} (hstep:∀ (L:Int->Option β) (i:Nat),i<n->b L (i:Int)=bif p i then L ((i:Int)+1) else r1) (hend:∀ L,b L (n:Int)=r2):
  ∀ (m i k:Nat),i+m=n->m<k->ZA b k (i:Int)=bif(List.range' i m).all p then r2 else r1
 |0,i,k,h,hk=>by
  cases k with
  |zero=>omega
  |succ k=>
   show b (ZA b k) (i:Int)=_
   rw[show i=n from by omega,hend]
   simp
 |m+1,i,k,h,hk=>by
  cases k with
  |zero=>omega
  |succ k=>
   show b (ZA b k) (i:Int)=_
   rw[hstep _ i (by omega),show((i:Int)+1)=((i+1:Nat):Int) from by omega,iter_all p hstep hend m (i+1) k (by omega) (by omega),List.range'_succ,List.all_cons]
   cases p i<;>rfl
theorem iter_all0 {β:Type} {b:(Int->Option β)->Int->Option β} {n k:Nat} (p:Nat->Bool) {r1 r2:Option β} (hn:n<k) (hstep:∀ (L:Int->Option β) (i:Nat),i<n->b L (i:Int)=bif p i then L ((i:Int)+1) else r1) (hend:∀ L,b L (n:Int)=r2):
  ZA b k 0=bif(List.range n).all p then r2 else r1:=by
 have:=iter_all p hstep hend n 0 k (by omega) hn
 rwa[List.range_eq_range']
theorem iter_find {β:Type} {b:(Int->Option β)->Int->Option β} {n k:Nat} (p:Nat->Bool) {r1:Nat->Option β} {r2:Option β} (hn:n<k) (hstep:∀ (L:Int->Option β) (i:Nat),i<n->b L (i:Int)=bif p i then r1 i else L ((i:Int)+1)) (hend:∀ L,b L (n:Int)=r2):
  ZA b k 0=match(List.range n).find? p with|some i=>r1 i|none=>r2:=by
 have key:∀ (m i k:Nat),i+m=n->m<k->ZA b k (i:Int)=match(List.range' i m).find? p with|some i=>r1 i|none=>r2:=by
  intro m
  induction m with
  |zero=>
   intro i k h hk
   cases k with
   |zero=>omega
   |succ k=>
    show b (ZA b k) (i:Int)=_
    rw[show i=n from by omega,hend]
    simp
  |succ m ih=>
   intro i k h hk
   cases k with
   |zero=>omega
   |succ k=>
    show b (ZA b k) (i:Int)=_
    rw[hstep _ i (by omega),show((i:Int)+1)=((i+1:Nat):Int) from by omega,ih (i+1) k (by omega) (by omega),List.range'_succ,List.find?_cons]
    cases p i<;>rfl
 have:=key n 0 k (by omega) hn
 rwa[List.range_eq_range']
def ZbV (p:Nat->Bool) (n:Nat):Int:=match(List.range n).find? p with|some i=>(i:Int)|none => -1
theorem iter_findI {β:Type} {b:(Int->Option β)->Int->Option β} {n k:Nat} (p:Nat->Bool) (R:Int->Option β) (hn:n<k) (hstep:∀ (L:Int->Option β) (i:Nat),i<n->b L (i:Int)=bif p i then R (i:Int) else L ((i:Int)+1)) (hend:∀ L,b L (n:Int)=R (-1)):
  ZA b k 0=R (ZbV p n):=by
 rw[iter_find p (r1:=λi=>R (i:Int)) hn hstep hend]
 unfold ZbV
 split<;>simp_all
theorem findI_some {p:Nat->Bool} {n:Nat} (h:0<=ZbV p n):(ZbV p n).toNat<n/\p (ZbV p n).toNat=true/\(((ZbV p n).toNat:Nat):Int)=ZbV p n/\∀ j,j<(ZbV p n).toNat->p j=false:=by
 unfold ZbV at h⊢
 split at h
 ·rename_i i hi
  have h1:=List.mem_of_find?_eq_some hi
  have h2:=List.find?_some hi
  refine⟨by simpa using h1,by simpa using h2,by simp,λj hj=>?_⟩
  simp only[Int.toNat_natCast] at hj
  have hin:i<n:=by simpa using h1
  rw[List.find?_eq_some_iff_append] at hi
  obtain⟨_,as,bs,he,hall⟩:=hi
  have hlen:as.length=i:=by
   have h3:(List.range n)[as.length]? = some i:=by rw[he];simp
   rw[List.getElem?_range (by have:=congrArg List.length he;simp at this;omega)] at h3
   exact Option.some.inj h3
  have h4:(List.range n)[j]? = some j:=List.getElem?_range (by omega)
  rw[he,List.getElem?_append_left (by omega)] at h4
  simpa using hall j (List.mem_of_getElem? h4)
 ·omega
theorem findI_none {p:Nat->Bool} {n:Nat} (h:ZbV p n<0):ZbV p n = -1/\∀ j,j<n->p j=false:=by
 unfold ZbV at h⊢
 split at h
 ·omega
 ·rename_i hn
  rw[List.find?_eq_none] at hn
  exact⟨rfl,λj hj=>by simpa using hn j (by simpa using hj)⟩
theorem findI_all (p:Nat->Bool) (n:Nat):decide (ZbV p n>=0)=!(List.range n).all λi=>!p i:=by
 by_cases h:0<=ZbV p n
 ·obtain⟨h1,h2,_⟩:=findI_some h
  rw[decide_eq_true (by omega),List.all_eq_false.mpr ⟨(ZbV p n).toNat,by simpa using h1,by simpa using h2⟩]
  rfl
 ·obtain⟨_,h2⟩:=findI_none (p:=p) (n:=n) (by omega)
  rw[decide_eq_false (by omega),List.all_eq_true.mpr λx hx=>by simpa using h2 x (by simpa using hx)]
  rfl
def dS:D->ByteArray
 |.str s=>s
 |_=>ByteArray.empty
def dI:D->Int
 |.int _ z=>z
 |_=>0
def dL:D->List (List D)
 |.sl xs=>xs
 |_=>[]
def gR (xs:List (List D)) (v:Int):List D:=xs.getD v.toNat []
def gS (xs:List (List D)) (v:Int) (j:Nat):ByteArray:=dS ((gR xs v).getD j (.bool false))
def gI (xs:List (List D)) (v:Int) (j:Nat):Int:=dI ((gR xs v).getD j (.bool false))
def gL (xs:List (List D)) (v:Int) (j:Nat):List (List D):=dL ((gR xs v).getD j (.bool false))
def bS (s:ByteArray) (v:Int):Int:=((s[v.toNat]?).getD 0).toNat
theorem bS_range (s:ByteArray) (v:Int):0<=bS s v/\bS s v<=255:=by
 unfold bS
 have:=((s[v.toNat]?).getD 0).toNat_lt
 omega
theorem atStr_at {β:Type} {s:ByteArray} {v:Int} (h0:0<=v) (h1:v<s.size) (F:Int->Option β):atStr s v F=F (bS s v):=by
 have hl:v.toNat<s.size:=by omega
 have e:s[v.toNat]? = some s[v.toNat]:=by simp[hl]
 simp only[atStr,if_pos h0,bS,e,Option.getD_some]
theorem wrap_b {s:ByteArray} {v:Int}:IntKind.wrap .i64 (bS s v)=bS s v:=by
 have:=bS_range s v
 exact Z9 (by omega) (by omega)
def rI (r:List D) (j:Nat):Int:=dI (r.getD j (.bool false))
def rS (r:List D) (j:Nat):ByteArray:=dS (r.getD j (.bool false))
def rL (r:List D) (j:Nat):List (List D):=dL (r.getD j (.bool false))
theorem drop_gR {xs:List (List D)} {v:Int} (h0:0<=v) (h1:v<xs.length):xs.drop v.toNat=gR xs v::xs.drop (v+1).toNat:=by
 have hl:v.toNat<xs.length:=by omega
 rw[List.drop_eq_getElem_cons hl,show(v+1).toNat=v.toNat+1 from by omega]
 simp[gR,List.getD,hl]
theorem drop_end {xs:List (List D)} {v:Int} (h:(xs.length:Int)<=v):xs.drop v.toNat=[]:=List.drop_eq_nil_of_le (by omega)
theorem gR_at {xs:List (List D)} {v:Int} (h0:0<=v) (h1:v<xs.length):xs[v.toNat]? = some (gR xs v):=by
 have hl:v.toNat<xs.length:=by omega
 simp[gR,List.getD,hl]
theorem gR_mem {xs:List (List D)} {v:Int} (h0:0<=v) (h1:v<xs.length):gR xs v∈xs:=List.mem_of_getElem? (gR_at h0 h1)
theorem Zck {β:Type} {xs:List (List D)} {v:Int} (h0:0<=v) (h1:v<xs.length) (F:List D->Option β):atRow xs v F=F (gR xs v):=atRow_get h0 (gR_at h0 h1) F
theorem Z5 {β:Type} {q:IntKind} {z:Int} {F:Int->Option β}:dInt q (.int q z) F=F z:=by simp[dInt]
theorem Z4 {γ β:Type} {x:γ} {l:List γ} {F:γ->List γ->Option β}:ZaJ (x::l) F=F x l:=id rfl
theorem ZaQ {β:Type} {s:ByteArray} {F:ByteArray->Option β}:dStr (.str s) F=F s:=id rfl
theorem ZaV {β:Type} {s:Bool} {F:Bool->Option β}:dBool (.bool s) F=F s:=id rfl
theorem Zbl {β:Type} {s:List (List D)} {F:List (List D)->Option β}:dSl (.sl s) F=F s:=id rfl
theorem Zan {γ β:Type} {F:Option β}:atEnd ([]:List γ) F=F:=id rfl
theorem ZY {p:Prop} [Decidable p] (h:p):decide p=true:=decide_eq_true h
theorem ZZ {p:Prop} [Decidable p] (h:¬ p):decide p=false:=decide_eq_false h
theorem map_len {xs:List (List D)}:(xs.map (·.map C.d)).length=xs.length:=List.length_map ..
theorem imm_cells:∀ (r:List D),C.immCells (r.map C.d)=r
 |[]=>rfl
 |d::r=>by simp[C.immCells,C.imm,imm_cells r]
theorem imm_rows:∀ (xs:List (List D)),C.immRows (xs.map (·.map C.d))=xs
 |[]=>rfl
 |r::xs=>by simp[C.immRows,imm_cells,imm_rows xs]
theorem ZH {β:Type} {c:Prop} [Decidable c] (h:c) {F:Option β}:Zd c F=F:=by simp[Zd,h]
theorem iter_step {V β:Type} {b:(V->Option β)->V->Option β} {k:Nat} (h:0<k) {v:V}:ZA b k v=b (ZA b (k-1)) v:=by
 cases k with
 |zero=>omega
 |succ k=>rfl
theorem iter_allT {V β:Type} {b:(V->Option β)->V->Option β} (f:Nat->V) {n k:Nat} (p:Nat->Bool) {r1 r2:Option β} (hn:n<k) (hstep:∀ (L:V->Option β) (i:Nat),i<n->b L (f i)=bif p i then L (f (i+1)) else r1) (hend:∀ L,b L (f n)=r2):
  ZA b k (f 0)=bif(List.range n).all p then r2 else r1:=by
 have key:∀ (m i k:Nat),i+m=n->m<k->ZA b k (f i)=bif(List.range' i m).all p then r2 else r1:=by
  intro m
  induction m with
  |zero=>
   intro i k h hk
   cases k with
   |zero=>omega
   |succ k=>
    show b (ZA b k) (f i)=_
    rw[show i=n from by omega,hend]
    simp
  |succ m ih=>
   intro i k h hk
   cases k with
   |zero=>omega
   |succ k=>
    show b (ZA b k) (f i)=_
    rw[hstep _ i (by omega),ih (i+1) k (by omega) (by omega),List.range'_succ,List.all_cons]
    cases p i<;>rfl
 have:=key n 0 k (by omega) hn
 rwa[List.range_eq_range']
theorem iter_seq {V β:Type} {b:(V->Option β)->V->Option β} (f:Nat->V) {n k:Nat} {r:Option β} (hn:n<k) (hstep:∀ (L:V->Option β) (i:Nat),i<n->b L (f i)=L (f (i+1))) (hend:∀ L,b L (f n)=r):ZA b k (f 0)=r:=by
 rw[iter_allT f (λ_=>true) (r1:=none) (r2:=r) hn (λL i hi=>by rw[hstep L i hi];rfl) hend]
 rw[List.all_eq_true.mpr λ_ _=>rfl]
 rfl
theorem both_same {β:Type} {a:Option β}:both a a=a:=if_pos rfl
theorem nilSl_same {β:Type} {a:List (List D)} {K:List (List C)->Option β}:nilSl a (both (K []) (K (a.map (·.map C.d)))) (K (a.map (·.map C.d)))=K (a.map (·.map C.d)):=by
 cases a with
 |nil=>exact both_same
 |cons x xs=>rfl
theorem Tm.val {α:Type} [Inhabited α] {B:Nat} {t:Nat->Option α} {φ:α->Prop} (h:Tm (λk=>B<=k) t φ) {k:Nat} (hk:B<=k):t k=some ((t B).getD default):=by
 obtain⟨v,_,h2⟩:=h
 rw[h2 k hk,h2 B (Nat.le_refl _)]
 rfl
theorem common {α:Type} {Q:Nat->α->Prop} (mono:∀ h h' x,h<=h'->Q h x->Q h' x):∀ (xs:List α),(∀ x∈xs,∃ h,Q h x)->∃ h,∀ x∈xs,Q h x
 |[],_=>⟨0,by simp⟩
 |x::xs,hx=>by
  obtain⟨h1,q1⟩:=hx x (by simp)
  obtain⟨h2,q2⟩:=common mono xs λy hy=>hx y (by simp[hy])
  refine⟨max h1 h2,λy hy=>?_⟩
  rcases List.mem_cons.mp hy with rfl|hy
  ·exact mono _ _ _ (Nat.le_max_left _ _) q1
  ·exact mono _ _ _ (Nat.le_max_right _ _) (q2 y hy)
theorem Tm.of {α:Type} {B:Nat} {t:Nat->Option α} {v:α} {φ:α->Prop} (h:∀ k,B<=k->t k=some v) (hv:φ v):Tm (λk=>B<=k) t φ:=⟨v,hv,h⟩
end Go.T
