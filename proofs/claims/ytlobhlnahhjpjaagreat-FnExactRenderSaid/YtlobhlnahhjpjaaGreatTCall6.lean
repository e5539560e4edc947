/- Every operation. -/
import Derived.Test.YtlobhlnahhjpjaaGreatTLib
import Derived.Test.YtlobhlnahhjpjaaGreatTTake
set_option linter.unusedVariables false
set_option linter.unusedSimpArgs false
namespace Go.T
section
variable {P:Program} {E:Env} {st:St} {β:Type} {k:St->Option β} {r:β} {dst:Option Nat} {ty:TypeId} {pos:String} {af:Array Edge} {gd:Option (Nat×Bool)}
theorem Zad.append {X:Fix} {w:World} {g:G} {J:Nat->Prop}:∀ {ts ts':List T} {vs vs':List Value},Zad X w g J ts vs->Zad X w g J ts' vs'->Zad X w g J (ts++ts') (vs++vs')
 |[],_,_,_,h,h'=>by simp only[Zad] at h;subst h;simpa using h'
 |t::ts,_,_,_,h,h'=>by
  simp only[Zad] at h
  obtain⟨v,vs1,rfl,h1,h2⟩:=h
  simp only[List.cons_append,Zad]
  exact⟨v,_,rfl,h1,h2.append h'⟩
theorem Zad.ops {X:Fix} {w:World} {g:G} {J:Nat->Prop} {a:Act}:∀ {xs:List Operand},(∀ x∈xs,Zb X w g (st.ev x) (a.eval x))->Zad X w g J (xs.map st.ev) (xs.map a.eval)
 |[],_=>by simp[Zad]
 |x::xs,h=>by
  simp only[List.map_cons,Zad]
  exact⟨_,_,rfl,.inl (h x (by simp)),Zad.ops λy hy=>h y (by simp[hy])⟩
theorem callee_mem {c:Call} {f:Operand} (hc:c.callee=.value f):f∈(Op.call c).operands.toList:=by
 simp[Op.operands,Call.operands,hc]
theorem quiet_modes {c:Call} {f:Operand} {g:FuncId} {us:List T} (hus:∀ st' b,∀ u∈us,ZbZ st st' b u=true) (hc:c.callee=.value f) (hf:(∃ caps,st.ev f=.clo g caps)\/∃ fr caps,st.ev f=.d fr (.fn g caps)):
  ∀ st',quietOp E ⟨dst,.call c,ty,pos,af,gd⟩ st st'=true->∀ e,E g=some e->∀ u∈c.args.toList.map st.ev++us,ZbZ st st' (e.modes.any λm=>m.1==.own) u=true:=by
 intro st' h e he u hu
 have key:(c.args.toList.all λx=>ZbZ st st' (e.modes.any λm=>m.1==.own) (st.ev x))=true:=by
  rcases hf with⟨caps,hf⟩|⟨fr,caps,hf⟩<;>(simp only[quietOp,hc,hf,he] at h;exact h)
 rw[List.all_eq_true] at key
 rcases List.mem_append.mp hu with q|q
 ·obtain⟨x,hx,rfl⟩:=List.mem_map.mp q
  exact key x hx
 ·exact hus st' _ u q
theorem opCallV (hT:Zar P) (hE:EnvOK P E) {c:Call} {f:Operand} (hc:c.callee=.value f) (h:ZL P E ⟨dst,.call c,ty,pos,af,gd⟩ st k=some r):ZD P E ⟨dst,.call c,ty,pos,af,gd⟩ st k r:=by
 simp only[ZL,hc] at h
 have hlkA:∀ u∈c.args.toList.map st.ev,∀ id∈ZaB st u,id∈Za9 ⟨dst,.call c,ty,pos,af,gd⟩ st:=by
  intro u hu id hid
  obtain⟨x,hx,rfl⟩:=List.mem_map.mp hu
  exact List.mem_flatMap.mpr ⟨x,Z3 hx,hid⟩
 have hstA:∀ us:List T,(∀ u∈us,∀ id off,u≠.bp id off)->∀ id off,T.bp id off∈c.args.toList.map st.ev++us->id∈storeAt ⟨dst,.call c,ty,pos,af,gd⟩ st:=by
  intro us hus id off hu
  rcases List.mem_append.mp hu with q|q
  ·obtain⟨x,hx,e⟩:=List.mem_map.mp q
   simp only[storeAt]
   exact List.mem_flatMap.mpr ⟨x,hx,by rw[e];simp[bpIds]⟩
  ·exact absurd rfl (hus _ q id off)
 split at h
 ·rename_i g caps hf
  split at h
  ·rename_i L hL
   split at h
   case isFalse=>cases h
   rename_i hce
   obtain⟨e,he,hL⟩:=Option.bind_eq_some_iff.mp hL
   have:caps=[]:=by simpa using hce
   subst this
   exact opLib hT hE hc hf (callee_mem hc) he hL h
  split at h
  case isFalse=>cases h
  rename_i hck
  refine callSound (o:=⟨dst,.call c,ty,pos,af,gd⟩) (k:=λt st'=>k (st'.put dst t)) hT hE h (λu hu=>?_) (quiet_modes (λ_ _ u hu=>by
   obtain⟨x,hx,rfl⟩:=List.mem_map.mp hu
   unfold capT
   split<;>rfl) hc (.inl ⟨caps,hf⟩)) (hstA _ λu hu id off e=>by
   obtain⟨x,hx,rfl⟩:=List.mem_map.mp hu
   unfold capT at e
   split at e<;>cases e) (λe he X stL g' a w hr hR hs=>?_)
  ·rcases List.mem_append.mp hu with q|q
   ·exact hlkA u q
   ·obtain⟨x,hx,rfl⟩:=List.mem_map.mp q
    unfold capT
    split<;>simp[ZaB,ZE]
  ·have hF:=hR f (callee_mem hc)
   rw[hf] at hF
   simp only[Zb] at hF
   obtain⟨vs,hv,rs⟩:=hF
   refine⟨c.args.toList.map a.eval++vs,?_,?_⟩
   ·rw[run_call hc hv (hE g e he).1]
    simp
   ·refine(Zad.ops λx hx=>hR x (Z3 hx)).append ?_
    rcases hck with hck|hck
    ·have:caps=[]:=by simpa using hck
     subst this
     simp only[Zh] at rs
     subst rs
     simp[Zad]
    ·have hw:e.wide=false:=by
      rw[he] at hck
      simpa using hck
     have hJ:JOk g' false (λb=>g'.I b\/(e.wide=false/\∃ id,g'.B id/\b∈g'.fp id)):=⟨λb hb=>.inl hb,λ_ id hB b hb=>.inr ⟨hw,id,hB,hb⟩⟩
     have hS:∀ t∈caps,ZW g' stL st (ZaE st t):=λt ht=>hs.sub λid hid=>by
      refine ZaS (o:=⟨dst,.call c,ty,pos,af,gd⟩) (callee_mem hc) rfl id ?_
      rw[hf,Zcv]
      exact List.mem_flatMap.mpr ⟨t,ht,hid⟩
     have gen:∀ (ts:List T) (us:List Value),(∀ t∈ts,ZW g' stL st (ZaE st t))->Zh X w g' ts us->Zad X w g' (λb=>g'.I b\/(e.wide=false/\∃ id,g'.B id/\b∈g'.fp id)) (ts.map (capT st)) us:=by
      intro ts
      induction ts with
      |nil=>intro us _ r;simpa only[List.map_nil,Zad,Zh] using r
      |cons t ts ih=>
       intro us hS r
       simp only[Zh] at r
       obtain⟨v,vs',rfl,_,r1,r2⟩:=r
       simp only[List.map_cons,Zad]
       refine⟨v,vs',rfl,?_,ih vs' (λt ht=>hS t (by simp[ht])) r2⟩
       unfold capT
       split
       ·rename_i cs hcs
        exact .inr ⟨false,cs,rfl,capD_J hT hr hJ hcs (hS t (by simp)) r1⟩
       ·exact .inl (by simp[Zb])
     exact gen caps vs hS rs
 ·rename_i fr g caps hf
  refine callSound (o:=⟨dst,.call c,ty,pos,af,gd⟩) (k:=λt st'=>k (st'.put dst t)) hT hE h (λu hu=>?_) (quiet_modes (λ_ _ u hu=>by
   obtain⟨x,hx,rfl⟩:=List.mem_map.mp hu
   rfl) hc (.inr ⟨fr,caps,hf⟩)) (hstA _ λu hu id off e=>by
   obtain⟨x,hx,rfl⟩:=List.mem_map.mp hu
   cases e) (λe he X stL g' a w hr hR hs=>?_)
  ·rcases List.mem_append.mp hu with q|q
   ·exact hlkA u q
   ·obtain⟨x,hx,rfl⟩:=List.mem_map.mp q
    simp[ZaB,ZE]
  ·have hF:=hR f (callee_mem hc)
   rw[hf] at hF
   simp only[Zb,RdD] at hF
   obtain⟨vs,hv,rs⟩:=hF
   refine⟨c.args.toList.map a.eval++vs,?_,?_⟩
   ·rw[run_call hc hv (hE g e he).1]
    simp
   ·refine(Zad.ops λx hx=>hR x (Z3 hx)).append ?_
    have gen:∀ (cs:List (List D)) (us:List Value),Zay w (g'.IM X fr) cs us->Zad X w g' (λb=>g'.I b\/(e.wide=false/\∃ id,g'.B id/\b∈g'.fp id)) (cs.map (.ip false)) us:=by
     intro cs
     induction cs with
     |nil=>intro us r;simpa only[List.map_nil,Zad,Zay] using r
     |cons d cs ih=>
      intro us r
      simp only[Zay] at r
      obtain⟨b,off,c,e',f',vs',rfl,hI,hb,r1,r2⟩:=r
      simp only[List.map_cons,Zad]
      exact⟨_,vs',rfl,.inr ⟨false,d,rfl,b,off,c,e',f',rfl,.inl hI.1,hb,Zi.mono ⟨λb hb=>.inl hb.1,λ_ _=>rfl⟩ r1⟩,ih vs' r2⟩
    exact gen caps vs rs
 ·cases h
theorem op_sound (hT:Zar P) (hE:EnvOK P E) {o:Oper} (h:ZL P E o st k=some r):ZD P E o st k r:=by
 obtain⟨dst,op,ty,pos,af,gd⟩:=o
 cases op with
 |move x=>exact opMove h
 |assign x=>exact opAssign h
 |pick c x y=>exact opPick h
 |alloc t=>exact opAlloc h
 |box t x=>exact opBox h
 |build t ps=>exact opBuild h
 |buildSlice t n ps=>exact opBuildSlice h
 |load t x=>
  simp only[ZL] at h
  split at h
  ·rename_i h1 h2
   exact opTake hT h1 h2 h
  ·exact opLoad h
 |store t x y=>exact opStore hT h
 |nilCheck x=>exact opNilCheck h
 |binOp op t x y q=>exact opBin h
 |unOp op t x=>exact opUn h
 |convert s d x=>exact opConvert hT h
 |makeInterface t x=>exact opMakeInterface h
 |makeFunc fn a b=>
  cases fn with
  |func f=>exact opMakeFunc h
  |_=>simp[ZL] at h
 |makeSlice t l c=>exact opMakeSlice hT h
 |slice t x lo hi mx=>exact opSlice hT h
 |fieldAddr s x f=>exact opFieldAddr h
 |field s x f=>exact opField h
 |indexAddr t x i=>exact opIndexAddr h
 |index t x i=>exact opIndex h
 |extract x i=>exact opExtract h
 |call c=>
  cases hc:c.callee with
  |value f=>exact opCallV hT hE hc h
  |invoke a b=>simp[ZL,hc] at h
  |builtin b=>
   cases b with
   |len=>exact opLen hc h
   |cap=>exact opCap hc h
   |append=>exact opAppend hT hc h
   |min=>exact opMin hc h
   |max=>exact opMax hc h
   |_=>simp[ZL,hc] at h
 |_=>simp[ZL] at h
end
end Go.T
