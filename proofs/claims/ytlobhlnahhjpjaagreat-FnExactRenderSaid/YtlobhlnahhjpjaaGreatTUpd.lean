/- A step of the machine,seen by the relation: what turned,and what did not. -/
import Derived.Test.YtlobhlnahhjpjaaGreatTOp4
set_option linter.unusedVariables false
set_option linter.unusedSimpArgs false
namespace Go.T
theorem Zn.mono {P:Program} {X:Fix} {w w':World} {g g':G} {S:Nat->Prop} (h:Ext w w' g g' S) {id:Nat} {o:Obj} (hB:g.B id) (hfp:g'.fp id=g.fp id)
  (hS:∀ b,b∈g.fp id->¬ S b/\b<w.heap.size) (r:Zn P X w g id o):Zn P X w' g' id o:=by
 cases o with
 |box og t cs=>
  simp only[Zn] at r⊢
  obtain⟨⟨b,c,e,hh,hf,hb,rc⟩,ho⟩:=r
  obtain⟨h1,h2⟩:=hS b (by simp[hf])
  exact⟨⟨b,c,e,by rw[h.hv id hB];exact hh,by rw[hfp];exact hf,by rw[h.same b h2 h1];exact hb,Zh.mono h rc⟩,λj hj=>by rw[h.hv id hB];exact ho j hj⟩
 |row og fr ct xs=>
  simp only[Zn] at r⊢
  obtain⟨⟨row,hz⟩,hfr,ho⟩:=r
  refine⟨⟨?_,by rw[h.sz id hB];exact hz⟩,by rw[hfp];exact hfr,λj hj=>by rw[h.hv id hB];exact ho j hj⟩
  rw[h.hv id hB,hfp]
  exact OwC.mono ⟨h.keeps fr,λb hb=>by obtain⟨h1,h2⟩:=hS b hb;exact h.same b h2 h1⟩ row
 |frz fr xs=>
  simp only[Zn] at r⊢
  rw[h.hv id hB,hfp]
  exact⟨RdD.mono (h.keeps fr) r.1,r.2⟩
 |fbx fr cs=>
  simp only[Zn] at r⊢
  obtain⟨⟨b,c,e,f,hh,hI,hb,rc⟩,hf⟩:=r
  rw[h.hv id hB,hfp]
  exact⟨⟨b,c,e,f,hh,h.imp b hI,by rw[h.same b (h.lt b hI) (h.notS b hI)];exact hb,Zi.mono (h.keeps fr) rc⟩,hf⟩
 |gone=>simp only[Zn] at r⊢;rw[hfp,h.hv id hB];exact r
def Pool (g:G) (U:Nat->Prop) (b:Nat):Prop:=∃ id,U id/\g.B id/\b∈g.fp id
structure Turn (X:Fix) (w w':World) (g g':G) (U:Nat->Prop):Prop where
 size:w.heap.size<=w'.heap.size
 os:w'.os=w.os
 tape:w'.tape=w.tape
 output:w'.output=w.output
 keep:∀ b,b<w.heap.size->¬ Pool g U b->w'.heap[b]? = w.heap[b]?
 imp:∀ b,g.I b->g'.I b
 B:∀ id,g.B id->g'.B id
 hv:∀ id,g.B id->g'.hv id=g.hv id
 sz:∀ id,g.B id->g'.sz id=g.sz id
 un:∀ id,¬ U id->(g'.B id->g.B id)/\(g.B id->g'.fp id=g.fp id)
 new:∀ id,U id->g'.B id->(g'.fp id).Nodup/\∀ b,b∈g'.fp id->¬ g'.I b/\b<w'.heap.size/\(b<w.heap.size->Pool g U b)
 pair:∀ id id',U id->U id'->id≠id'->g'.B id->g'.B id'->∀ b,b∈g'.fp id->b∉g'.fp id'
 inew:∀ b,g'.I b->b<w'.heap.size/\(g.I b\/w.heap.size<=b\/Pool g U b)
theorem Turn.ext {X:Fix} {w w':World} {g g':G} {U:Nat->Prop} (h:Turn X w w' g g' U) (s:Sep X w g):Ext w w' g g' (Pool g U):=
 ⟨h.imp,h.keep,λb hb ⟨id,_,hB,hm⟩=>(s.mine id hB b hm).1 hb,s.imm,h.B,h.hv,h.sz⟩
theorem Turn.apart {X:Fix} {w w':World} {g g':G} {U:Nat->Prop} (s:Sep X w g) {id b:Nat} (hU:¬ U id) (hB:g.B id) (hb:b∈g.fp id):¬ Pool g U b:=
 λ⟨id',hU',hB',hm⟩=>s.apart id id' hB hB' (λe=>hU (e▸hU')) b hb hm
theorem Turn.since {X:Fix} {w0 w w':World} {g g':G} {U:Nat->Prop} (h:Turn X w w' g g' U) (s:Sep X w g) (hs:Zac X w0 w):Zac X w0 w':=
 ⟨h.os.trans hs.os,h.tape.trans hs.tape,h.output.trans hs.output,Nat.le_trans hs.size h.size,hs.base,λb h1 h2=>by
  rw[<- hs.block b h1 h2]
  refine h.keep b (Nat.lt_of_lt_of_le h1 (Nat.le_trans hs.base hs.size)) ?_
  rintro⟨id,_,hB,hm⟩
  rcases(s.mine id hB b hm).2.2 with q|q
  ·omega
  ·exact h2 q⟩
theorem Turn.sep {X:Fix} {w0 w w':World} {g g':G} {U:Nat->Prop} (h:Turn X w w' g g' U) (s:Sep X w g) (hs:Zac X w0 w):Sep X w' g':=by
 have cross:∀ id id',U id->¬ U id'->g'.B id->g'.B id'->∀ b,b∈g'.fp id->b∉g'.fp id':=by
  intro id id' hU hU' hB hB' b hb hb'
  obtain⟨h2,h3⟩:=h.un id' hU'
  rw[h3 (h2 hB')] at hb'
  exact Turn.apart (w':=w') (g':=g') s hU' (h2 hB') hb' (((h.new id hU hB).2 b hb).2.2 (s.mine id' (h2 hB') b hb').2.1)
 refine⟨λid hB=>?_,λid id' hB hB' hne b hb hb'=>?_,λid hB b hb=>?_,λb hb=>(h.inew b hb).1,λb hb=>?_,λb hb=>h.imp b (s.keep b hb)⟩
 ·by_cases hU:U id
  ·exact(h.new id hU hB).1
  ·obtain⟨h2,h3⟩:=h.un id hU
   rw[h3 (h2 hB)];exact s.nodup id (h2 hB)
 ·by_cases hU:U id
  ·by_cases hU':U id'
   ·exact h.pair id id' hU hU' hne hB hB' b hb hb'
   ·exact cross id id' hU hU' hB hB' b hb hb'
  ·by_cases hU':U id'
   ·exact cross id' id hU' hU hB' hB b hb' hb
   ·obtain⟨h2,h3⟩:=h.un id hU
    obtain⟨h2',h3'⟩:=h.un id' hU'
    rw[h3 (h2 hB)] at hb;rw[h3' (h2' hB')] at hb'
    exact s.apart id id' (h2 hB) (h2' hB') hne b hb hb'
 ·by_cases hU:U id
  ·obtain⟨h1,h2,h3⟩:=(h.new id hU hB).2 b hb
   refine⟨h1,h2,?_⟩
   by_cases hlt:b<w.heap.size
   ·obtain⟨id0,_,hB0,hm⟩:=h3 hlt
    exact(s.mine id0 hB0 b hm).2.2
   ·exact .inl (Nat.le_trans hs.base (Nat.le_trans hs.size (Nat.le_of_not_lt hlt)))
  ·obtain⟨h2,h3⟩:=h.un id hU
   rw[h3 (h2 hB)] at hb
   obtain⟨m1,m2,m3⟩:=s.mine id (h2 hB) b hb
   refine⟨λhI'=>?_,Nat.lt_of_lt_of_le m2 h.size,m3⟩
   rcases(h.inew b hI').2 with q|q|q
   ·exact m1 q
   ·omega
   ·exact Turn.apart (w':=w') (g':=g') s hU (h2 hB) hb q
 ·rcases(h.inew b hb).2 with q|q|⟨id,_,hB,hm⟩
  ·exact s.old b q
  ·exact .inr (.inl (Nat.le_trans hs.base (Nat.le_trans hs.size q)))
  ·exact .inr (s.mine id hB b hm).2.2
theorem Rel.update {P:Program} {X:Fix} {w0 w w':World} {g g':G} {stL:St} {a a':Act} {tm':List T} {ob':List Obj} (U:Nat->Prop)
  (hr:Rel P X w g stL a) (hs:Zac X w0 w) (hx:Turn X w w' g g' U)
  (hd:a'.defers=a.defers)
  (htm:tm'.length=a'.tmps.size/\∀ (i:Nat) (t:T),tm'[i]? = some t->t=.any/\(∃ v,a'.tmps[i]? = some v)\/(∃ v,a'.tmps[i]? = some v/\Zb X w' g' t v)\/
   (stL.tm[i]? = some t/\a'.tmps[i]? = a.tmps[i]?/\∀ id j off,t=.sub id j off->¬ U id))
  (hun:∀ id,¬ U id->ob'[id]? = stL.ob[id]?)
  (hup:∀ id,U id->g'.B id->∃ o,ob'[id]? = some o/\Zn P X w' g' id o):Rel P X w' g' ⟨tm',ob'⟩ a':=by
 have ext:=hx.ext hr.sep
 refine⟨⟨htm.1.symm,λi t ht=>?_⟩,λid hB=>?_,hx.sep hr.sep hs,by rw[hd];exact hr.def_⟩
 ·rcases htm.2 i t ht with⟨rfl,v,hv⟩|h|⟨h1,h2,h3⟩
  ·exact⟨v,hv,by simp[Zb]⟩
  ·exact h
  ·obtain⟨v,hv,rv⟩:=hr.tms.2 i t h1
   refine⟨v,by rw[h2];exact hv,Zb.mono ext (λid j off e b hb=>?_) rv⟩
   have hU:=h3 id j off e
   subst e
   have hBid:g.B id:=by simp only[Zb] at rv;exact rv.1
   exact⟨by rw[(hx.un id hU).2 hBid];exact hb,(hr.sep.mine id hBid b hb).2.1,Turn.apart (w':=w') (g':=g') hr.sep hU hBid hb⟩
 ·by_cases hU:U id
  ·exact hup id hU hB
  ·obtain⟨h2,h3⟩:=hx.un id hU
   obtain⟨o,ho,rel⟩:=hr.obs id (h2 hB)
   exact⟨o,by rw[hun id hU];exact ho,Zn.mono ext (h2 hB) (h3 (h2 hB)) (λb hb=>⟨Turn.apart (w':=w') (g':=g') hr.sep hU (h2 hB) hb,(hr.sep.mine id (h2 hB) b hb).2.1⟩) rel⟩
theorem Zbj (w:World) (o:Go.Obj) (b:Nat):(w.alloc o).heap[b]? = if b=w.heap.size then some o else w.heap[b]?:=by
 show(w.heap.push o)[b]? = _
 rw[Array.getElem?_push]
theorem ZaN (w:World) (o:Go.Obj):(w.alloc o).heap.size=w.heap.size+1:=by
 show(w.heap.push o).size=_
 simp
end Go.T
