/- Code. -/
import Derived.Test.YtlobhlnahhjpjaaGreatTCanon
set_option linter.unusedVariables false
set_option linter.unusedSimpArgs false
namespace Go.T
def exOf:Ex->Exit
 |.normal=>.normal
 |.exit id=>.exit id
 |.ret=>.ret
section
variable {P:Program} {E:Env} {β:Type} {r:β}
def QOK (P:Program) (X:Fix) (w0:World) (K:Ex->St->Option β) (r:β) (Q:Exit->Act->World->Prop):Prop:=
 ∀ (ex:Ex) (st':St) (g':G) (w':World) (a':Act),K ex st'=some r->Rel P X w' g' st' a'->ZaC g' st'->Zac X w0 w'->Q (exOf ex) a' w'
theorem least {p:Nat->Prop} (n:Nat) (h:p n):∃ m,p m/\∀ j,j<m->¬ p j:=by
 induction n using Nat.strongRecOn with
 |ind n ih=>
  by_cases hj:∃ j,j<n/\p j
  ·obtain⟨j,h1,h2⟩:=hj
   exact ih j h1 h2
  ·exact⟨n,h,λj hj' hp=>hj ⟨j,hj',hp⟩⟩
theorem wp_rounds {c:Code} {Q:Exit->Act->World->Prop} (Inv:Nat->Act->World->Prop) {n:Nat} {a:Act} {w:World} (h0:Inv n a w)
  (round:∀ n a w,Inv n a w->c.wp P (Exit.then (λa' w'=>∃ m,m<n/\Inv m a' w') Q) a w):(Code.loop c).wp P Q a w:=by
 classical
 let μ:Act->World->Nat:=λa w=>if h:∃ m,Inv m a w/\∀ j,j<m->¬ Inv j a w then Classical.choose h else 0
 have hμ:∀ n a w,Inv n a w->Inv (μ a w) a w/\μ a w<=n:=by
  intro n a w h
  have hex:=least (p:=λm=>Inv m a w) n h
  have e:μ a w=Classical.choose hex:=dif_pos hex
  have sp:=Classical.choose_spec hex
  rw[<- e] at sp
  exact⟨sp.1,Nat.le_of_not_lt λq=>sp.2 n q h⟩
 refine wp_loop (λa w=>∃ n,Inv n a w) μ ⟨n,h0⟩ λa w hI=>?_
 obtain⟨n,hn⟩:=hI
 obtain⟨h1,_⟩:=hμ n a w hn
 refine wp_mono (round (μ a w) a w h1) λe a' w' hq=>?_
 cases e with
 |normal=>
  obtain⟨m,hm,hi⟩:=hq
  exact⟨⟨m,hi⟩,Nat.lt_of_le_of_lt (hμ m a' w' hi).2 hm⟩
 |_=>exact hq
theorem both_some {a b:Option β} (h:both a b=some r):a=some r/\b=some r:=by
 unfold both at h
 split at h
 ·rename_i e
  exact⟨h,by rw[<- e];exact h⟩
 ·cases h
theorem atJ_sound (hT:Zar P) {J:Nat->Option Keep} {c:Code} {go:St->Option β} {st:St} {X:Fix} {w0 w:World} {g:G} {a:Act} (h:atJ J c go st=some r) (hr:Rel P X w g st a) (hf:ZaC g st) (hs:Zac X w0 w):∃ g' s,go s=some r/\Rel P X w g' s a/\ZaC g' s:=by
 unfold atJ at h
 split at h
 ·exact⟨g,st,h,hr,hf⟩
 ·split at h
  case h_2=>cases h
  rename_i s hc
  obtain⟨g2,hr2,hf2⟩:=canon_sound hT hs hr hf hc
  exact⟨g2,s,h,hr2,hf2⟩
theorem den_sound (hmix:P.follows .mixedOrders=true) (hT:Zar P) (hE:EnvOK P E) {H:Nat->Keep} {J:Nat->Option Keep} {k:Nat} (X:Fix) (w0:World):∀ (c:Code) {st:St} {K:Ex->St->Option β},den P E H J k c st K=some r->
  ∀ (g:G) (a:Act) (w:World),Rel P X w g st a->ZaC g st->Zac X w0 w->∀ Q,QOK P X w0 K r Q->c.wp P Q a w:=by
 intro c
 induction c with
 |skip=>
  intro st K h g a w hr hf hs Q hQ
  simp only[den] at h
  exact Go.wp_skip (hQ .normal st g w a h hr hf hs)
 |region id ops draw=>
  intro st K h g a w hr hf hs Q hQ
  simp only[den] at h
  cases draw with
  |true=>
   simp only[cond_true] at h
   cases hok:drawOk ops with
   |false=>rw[hok] at h;simp at h
   |true=>
    rw[hok] at h
    simp only[cond_true] at h
    obtain⟨st',h1,h2⟩:=region_draw (id0:=id) hmix hT hE hok h
    exact h2 X w0 g a w hr hf hs Q λg' w' a' hr' hf' hs'=>hQ .normal st' g' w' a' h1 hr' hf' hs'
  |false=>
   simp only[cond_false] at h
   obtain⟨st',h1,h2⟩:=region_seq (id:=id) hT hE h
   exact h2 X w0 g a w hr hf hs Q λg' w' a' hr' hf' hs'=>hQ .normal st' g' w' a' h1 hr' hf' hs'
 |seq x y ihx ihy=>
  intro st K h g a w hr hf hs Q hQ
  simp only[den] at h
  refine wp_seq (ihx h g a w hr hf hs _ λex st' g' w' a' hk hr' hf' hs'=>?_)
  cases ex with
  |normal=>
   show y.wp P Q a' w'
   simp only[seqK] at hk
   split at hk
   ·exact ihy hk g' a' w' hr' hf' hs' Q hQ
   ·split at hk
    case h_2=>cases hk
    rename_i s hc
    obtain⟨g2,hr2,hf2⟩:=canon_sound hT hs' hr' hf' hc
    exact ihy hk g2 a' w' hr2 hf2 hs' Q hQ
  |exit i=>exact hQ (.exit i) st' g' w' a' hk hr' hf' hs'
  |ret=>exact hQ .ret st' g' w' a' hk hr' hf' hs'
 |cond o x y ihx ihy=>
  intro st K h g a w hr hf hs Q hQ
  simp only[den] at h
  have hev:=hr.ev o
  split at h
  ·rename_i he
   rw[he] at hev
   simp only[Zb] at hev
   obtain⟨t,ht⟩:=hev
   obtain⟨h1,h2⟩:=both_some h
   refine wp_cond ht ?_
   cases t with
   |true=>
    obtain⟨g2,s,h3,hr2,hf2⟩:=atJ_sound hT h1 hr hf hs
    exact ihx h3 g2 a w hr2 hf2 hs Q hQ
   |false=>
    obtain⟨g2,s,h3,hr2,hf2⟩:=atJ_sound hT h2 hr hf hs
    exact ihy h3 g2 a w hr2 hf2 hs Q hQ
  ·obtain⟨f,t,ht,h⟩:=asBoolT_some h
   rw[ht] at hev
   have hv:=Zb.scal_eq (d:=.bool t) rfl hev
   refine wp_cond (t:=t) hv ?_
   cases t with
   |true=>
    rw[cond_true] at h
    obtain⟨g2,s,h3,hr2,hf2⟩:=atJ_sound hT h hr hf hs
    exact ihx h3 g2 a w hr2 hf2 hs Q hQ
   |false=>
    rw[cond_false] at h
    obtain⟨g2,s,h3,hr2,hf2⟩:=atJ_sound hT h hr hf hs
    exact ihy h3 g2 a w hr2 hf2 hs Q hQ
 |block id x ih=>
  intro st K h g a w hr hf hs Q hQ
  simp only[den] at h
  refine wp_block (ih h g a w hr hf hs _ λex st' g' w' a' hk hr' hf' hs'=>?_)
  cases ex with
  |normal=>exact hQ .normal st' g' w' a' hk hr' hf' hs'
  |ret=>exact hQ .ret st' g' w' a' hk hr' hf' hs'
  |exit i=>
   simp only[blockK] at hk
   show(if i=id then Q .normal a' w' else Q (.exit i) a' w')
   split at hk
   ·rename_i e
    rw[if_pos e]
    exact hQ .normal st' g' w' a' hk hr' hf' hs'
   ·rename_i e
    rw[if_neg e]
    exact hQ (.exit i) st' g' w' a' hk hr' hf' hs'
 |loop x ih=>
  intro st K h g a w hr hf hs Q hQ
  simp only[den] at h
  split at h
  case h_2=>cases h
  rename_i s hc
  obtain⟨g1,hr1,hf1⟩:=canon_sound hT hs hr hf hc
  refine wp_rounds (λn a w=>∃ s g,Zct (λs' K'=>den P E H J k x s' K') (H (Za4 x)) n s K=some r/\Rel P X w g s a/\ZaC g s/\Zac X w0 w) (n:=k) ⟨s,g1,h,hr1,hf1,hs⟩ λn a w hI=>?_
  obtain⟨s,g,hl,hr,hf,hs⟩:=hI
  cases n with
  |zero=>simp[Zct] at hl
  |succ n=>
   simp only[Zct] at hl
   refine ih hl g a w hr hf hs _ λex st' g' w' a' hk hr' hf' hs'=>?_
   cases ex with
   |normal=>
    simp only[backK] at hk
    split at hk
    case h_2=>cases hk
    rename_i s' hc'
    obtain⟨g2,hr2,hf2⟩:=canon_sound hT hs' hr' hf' hc'
    exact⟨n,Nat.lt_succ_self n,s',g2,hk,hr2,hf2,hs'⟩
   |exit i=>exact hQ (.exit i) st' g' w' a' hk hr' hf' hs'
   |ret=>exact hQ .ret st' g' w' a' hk hr' hf' hs'
 |exit id=>
  intro st K h g a w hr hf hs Q hQ
  simp only[den] at h
  exact wp_exit (hQ (.exit id) st g w a h hr hf hs)
 |ret=>
  intro st K h g a w hr hf hs Q hQ
  simp only[den] at h
  exact wp_ret (hQ .ret st g w a h hr hf hs)
 |_=>intro st K h;simp[den] at h
end
end Go.T
