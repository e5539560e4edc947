/- A step told by a table: which object holds which blocks. -/
import Derived.Test.YtlobhlnahhjpjaaGreatTCon
set_option linter.unusedVariables false
set_option linter.unusedSimpArgs false
namespace Go.T
def G.tab (g:G) (J:Nat->Prop) (n m:Nat) (l:List (Nat×List Nat)) (hv:Nat->Value) (sz:Nat->Nat):G where
 I b:=g.I b\/J b
 B id:=g.B id\/(n<=id/\id<n+m)
 fp id:=(l.lookup id).getD (g.fp id)
 hv id:=if n<=id/\id<n+m then hv id else g.hv id
 sz id:=if n<=id/\id<n+m then sz id else g.sz id
theorem lookup_mem {l:List (Nat×List Nat)} {id:Nat} {F:List Nat} (h:l.lookup id=some F):(id,F)∈l:=by
 induction l with
 |nil=>simp at h
 |cons p l ih=>
  obtain⟨i,G⟩:=p
  rw[List.lookup_cons] at h
  split at h
  ·rename_i he
   have:id=i:=by simpa using he
   injection h with h
   subst this h
   simp
  ·exact List.mem_cons_of_mem _ (ih h)
theorem lookup_some {l:List (Nat×List Nat)} {id:Nat} (h:id∈l.map (·.1)):∃ F,l.lookup id=some F:=by
 induction l with
 |nil=>simp at h
 |cons p l ih=>
  obtain⟨i,G⟩:=p
  rw[List.lookup_cons]
  by_cases he:id=i
  ·exact⟨G,by simp[he]⟩
  ·have h1:(id==i)=false:=by simpa using he
   rw[h1]
   exact ih (by simpa[he] using h)
theorem Turn.tab {X:Fix} {w w':World} {g:G} (hsep:Sep X w g) {U:Nat->Prop} {J:Nat->Prop} {n m:Nat} {l:List (Nat×List Nat)} {hv:Nat->Value} {sz:Nat->Nat}
  (hU:∀ id,U id↔id∈l.map (·.1)) (hnew:∀ id,n<=id->id<n+m->U id/\¬ g.B id)
  (size:w.heap.size<=w'.heap.size) (os:w'.os=w.os) (tape:w'.tape=w.tape) (output:w'.output=w.output)
  (keep:∀ b,b<w.heap.size->¬ Pool g U b->w'.heap[b]? = w.heap[b]?)
  (hkeys:(l.map (·.1)).Nodup) (hnd:(l.flatMap (·.2)).Nodup) (hF:∀ b∈l.flatMap (·.2),¬ J b/\b<w'.heap.size/\(b<w.heap.size->Pool g U b))
  (hJ:∀ b,J b->b<w'.heap.size/\(w.heap.size<=b\/Pool g U b)):Turn X w w' g (g.tab J n m l hv sz) U:=by
 have hfp:∀ id,U id->∃ F,(g.tab J n m l hv sz).fp id=F/\(id,F)∈l:=by
  intro id hu
  obtain⟨F,hF⟩:=lookup_some ((hU id).mp hu)
  exact⟨F,by simp[G.tab,hF],lookup_mem hF⟩
 have hpI:∀ b,Pool g U b->¬ g.I b:=λb ⟨id,_,hB,hb⟩=>(hsep.mine id hB b hb).1
 refine⟨size,os,tape,output,keep,λb hb=>.inl hb,λid hB=>.inl hB,λid hB=>?_,λid hB=>?_,λid hu=>?_,λid hu hB=>?_,λid id' hu hu' hne hB hB' b hb hb'=>?_,λb hb=>?_⟩
 ·simp only[G.tab];rw[if_neg (λq=>(hnew id q.1 q.2).2 hB)]
 ·simp only[G.tab];rw[if_neg (λq=>(hnew id q.1 q.2).2 hB)]
 ·refine⟨λhB=>hB.resolve_right λq=>hu (hnew id q.1 q.2).1,λ_=>?_⟩
  simp only[G.tab]
  cases hl:l.lookup id with
  |none=>rfl
  |some F=>exact absurd ((hU id).mpr (List.mem_map.mpr ⟨_,lookup_mem hl,rfl⟩)) hu
 ·obtain⟨F,he,hm⟩:=hfp id hu
  rw[he]
  refine⟨?_,λb hb=>?_⟩
  ·have key:∀ (l:List (Nat×List Nat)),(l.flatMap (·.2)).Nodup->(id,F)∈l->F.Nodup:=by
    intro l
    induction l with
    |nil=>intro _ h;cases h
    |cons p l ih=>
     intro hnd h1
     rw[List.flatMap_cons] at hnd
     have h3:=List.nodup_append.mp hnd
     rcases List.mem_cons.mp h1 with rfl|h1
     ·exact h3.1
     ·exact ih h3.2.1 h1
   exact key l hnd hm
  ·obtain⟨h1,h2,h3⟩:=hF b (List.mem_flatMap.mpr ⟨_,hm,hb⟩)
   refine⟨λhI=>?_,h2,h3⟩
   rcases hI with hI|hI
   ·exact hpI b (h3 (hsep.imm b hI)) hI
   ·exact h1 hI
 ·obtain⟨F,he,hm⟩:=hfp id hu
  obtain⟨F',he',hm'⟩:=hfp id' hu'
  rw[he] at hb
  rw[he'] at hb'
  have key:∀ (l:List (Nat×List Nat)),(l.flatMap (·.2)).Nodup->(id,F)∈l->(id',F')∈l->False:=by
   intro l
   induction l with
   |nil=>intro _ h;cases h
   |cons p l ih=>
    intro hnd h1 h2
    rw[List.flatMap_cons] at hnd
    have h3:=List.nodup_append.mp hnd
    rcases List.mem_cons.mp h1 with e1|h1'<;>rcases List.mem_cons.mp h2 with e2|h2'
    ·rw[<- e1] at e2;injection e2 with e2 _;exact hne e2.symm
    ·subst e1;exact h3.2.2 b hb b (List.mem_flatMap.mpr ⟨(id',F'),h2',hb'⟩) rfl
    ·subst e2;exact h3.2.2 b hb' b (List.mem_flatMap.mpr ⟨(id,F),h1',hb⟩) rfl
    ·exact ih h3.2.1 h1' h2'
  exact key l hnd hm hm'
 ·rcases hb with hb|hb
  ·exact⟨Nat.lt_of_lt_of_le (hsep.imm b hb) size,.inl hb⟩
  ·exact⟨(hJ b hb).1,.inr (hJ b hb).2⟩
end Go.T
