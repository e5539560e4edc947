/- Tables that are marked and held to the marks: what the laws do with the memory of a result. -/
import Derived.Test.YtlobhlnahhjpjaaGreatTVal
set_option linter.unusedVariables false
set_option linter.unusedSimpArgs false
namespace Go.T
mutual
def wtD:D->Nat
 |.sl xs=>Zu xs
 |.bool _=>1
 |.int _ _=>1
 |.str _=>1
 |.fn _ _=>1
 |.un=>1
def ZbY:List D->Nat
 |[]=>0
 |d::r=>wtD d+ZbY r
def Zu:List (List D)->Nat
 |[]=>0
 |r::xs=>ZbY r+Zu xs
end
theorem Zbe:∀ (xs ys:List (List D)),Zu (xs++ys)=Zu xs+Zu ys
 |[],ys=>by simp only[Zu,List.nil_append,Nat.zero_add]
 |r::xs,ys=>by simp only[Zu,List.cons_append,Zbe xs ys,Nat.add_assoc]
theorem wt_flat {R:List D->Prop} {m:Nat} (hR:∀ r,R r->ZbY r=m):∀ xs:List (List D),(∀ r∈xs,R r)->Zu xs=m*xs.length
 |[],_=>by simp only[Zu,List.length_nil,Nat.mul_zero]
 |r::xs,h=>by
  simp only[Zu,List.length_cons,hR r (h r (by simp)),wt_flat hR xs λr hr=>h r (by simp[hr])]
  rw[Nat.mul_add]
  omega
theorem wt_take {xs:List (List D)} {i:Int} {x:List D} (h0:0<=i) (hx:xs[i.toNat]? = some x):Zu (xs.take (i+1).toNat)=Zu (xs.take i.toNat)+ZbY x:=by
 rw[show(i+1).toNat=i.toNat+1 from by omega,List.take_add_one,hx,Zbe]
 simp only[Option.toList,Zu,Nat.add_zero]
theorem wt_split (xs:List (List D)) (n:Nat):Zu (xs.take n)+Zu (xs.drop n)=Zu xs:=by rw[<- Zbe,List.take_append_drop]
theorem drop_at {xs:List (List D)} {i:Int} {x:List D} (h0:0<=i) (hx:xs[i.toNat]? = some x):xs.drop i.toNat=x::xs.drop (i+1).toNat:=by
 obtain⟨hl,he⟩:=List.getElem?_eq_some_iff.mp hx
 rw[List.drop_eq_getElem_cons hl,he,show(i+1).toNat=i.toNat+1 from by omega]
theorem deep_snoc {xs:List (List D)} {i:Nat} (h:i<xs.length):Zc (xs.take i)++[ZN (gR xs (i:Int))]=Zc (xs.take (i+1)):=by
 have hx:=gR_at (xs:=xs) (v:=(i:Int)) (by omega) (by omega)
 rw[Int.toNat_natCast] at hx
 rw[List.take_add_one,hx,Zbb]
 simp[Zc]
theorem ZbT {β:Type} {b:(Int×List (List C)->Option β)->Int×List (List C)->Option β} {xs:List (List D)} {k:Nat} {r:Option β} (hk:xs.length<k)
  (hstep:∀ (L:Int×List (List C)->Option β) (i:Nat),i<xs.length->b L ((i:Int),Zc (xs.take i))=L ((i:Int)+1,Zc (xs.take i)++[ZN (gR xs (i:Int))])) (hend:∀ L,b L ((xs.length:Int),Zc xs)=r):ZA b k (0,[])=r:=by
 have:=iter_seq (b:=b) (λi=>((i:Int),Zc (xs.take i))) (n:=xs.length) (k:=k) (r:=r) hk (λL i hi=>by rw[hstep L i hi,deep_snoc hi];rfl) (λL=>by rw[List.take_of_length_le (Nat.le_refl _)];exact hend L)
 simpa[Zc] using this
theorem modify_mid {α:Type} {A B:List α} {c:α} {n:Nat} (h:A.length=n) (F:α->α):(A++c::B).modify n F=A++F c::B:=by
 subst h
 rw[List.modify_eq_take_cons_drop (by simp)]
 simp
theorem atNat_mid {β:Type} {A B:List (List C)} {c:List C} {n:Nat} (h:A.length=n) (F:List C->Option β):ZaR (A++c::B) n F=F c:=by
 subst h
 simp[ZaR]
def HStep (b:List (List D)->(Int×Int->Option Int)->Int×Int->Option Int) (n:Int) (r:List D) (n':Int):Prop:=
 ∀ (xs:List (List D)) (i:Int),0<=i->i<xs.length->xs.length<=4611686018427387904->gR xs i=r->∀ L,b xs L (n,i)=L (n',i+1)
inductive HeldL (S:Int->List D->Int->Prop):Int->List (List D)->Int->Prop
 |nil {n:Int}:HeldL S n [] n
 |snoc {n u u':Int} {xs:List (List D)} {r:List D} (h:HeldL S n xs u) (hs:S u r u'):HeldL S n (xs++[r]) u'
theorem held_pre {b:List (List D)->(Int×Int->Option Int)->Int×Int->Option Int} {ys:List (List D)} (hl:ys.length<=4611686018427387904) {n u:Int} {xs:List (List D)} (h:HeldL (HStep b) n xs u):
  ∀ (rest:List (List D)),ys=xs++rest->∀ k,xs.length<=k->ZA (b ys) k (n,0)=ZA (b ys) (k-xs.length) (u,(xs.length:Int)):=by
 induction h with
 |nil=>intro rest _ k _;rfl
 |snoc h hs ih=>
  rename_i u u' xs r
  intro rest he k hk
  rw[List.length_append,List.length_singleton] at hk⊢
  rw[ih (r::rest) (by rw[he,List.append_assoc];rfl) k (by omega),iter_step (by omega)]
  have hy:ys.length=xs.length+(1+rest.length):=by rw[he];simp;omega
  rw[hs ys (xs.length:Int) (by omega) (by omega) hl (by
   rw[he]
   simp[gR,List.getD])]
  congr 1
theorem held_run {b:List (List D)->(Int×Int->Option Int)->Int×Int->Option Int} {ys:List (List D)} (hl:ys.length<=4611686018427387904) {n u:Int} (h:HeldL (HStep b) n ys u) {k:Nat} (hk:ys.length<k)
  (hend:∀ L,b ys L (u,(ys.length:Int))=some u):ZA (b ys) k (n,0)=some u:=by
 rw[held_pre hl h [] (by simp) k (by omega),iter_step (by omega),hend]
theorem HeldL.mono {S S':Int->List D->Int->Prop} (hi:∀ u r u',S u r u'->S' u r u') {n u:Int} {xs:List (List D)} (h:HeldL S n xs u):HeldL S' n xs u:=by
 induction h with
 |nil=>exact .nil
 |snoc _ hs ih=>exact .snoc ih (hi _ _ _ hs)
end Go.T
