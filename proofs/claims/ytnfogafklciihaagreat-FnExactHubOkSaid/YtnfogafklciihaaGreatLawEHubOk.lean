/- FnExactHubOk: the program's function answers as the reference's,for every input. No condition. -/
import Derived.Test.YtnfogafklciihaaGreatRows
import Derived.Test.YtnfogafklciihaaGreatYEHubOk2
import Derived.KernelRfl
import Derived.WalkKit
import Derived.ProofKit
import Derived.OpenShut
import Derived.ShutString
import Derived.ChangeOld
import Derived.Below
import Derived.SizedLaws
set_option linter.unusedVariables false
set_option linter.unusedSimpArgs false
set_option maxRecDepth 1000000
set_option maxHeartbeats 8000000
namespace Go.Proofs.YtnfogafklciihaaGreat
open Go Go.T Go.Proofs
theorem YaL.T {aB aA aC:Int} {aD aE aJ aK:LD} (ga0_0:(Lit.int .i64 aB).wf=true) (ga0_1:(Lit.int .i64 aA).wf=true) (ga0_2:(Lit.int .i64 aC).wf=true) (ga0_3:Zc Ya maxLen aD) (ga0_4:Zc YQ maxLen aE) (ga0_5:Zc Ya3 maxLen aJ) (ga0_6:Zc RS maxLen aK):Tm (Zp 2) (λk=>YaL.t k aB aA aC aD aE aJ aK) (λr=>r=true):=by
 unfold YaL.t YaL.g
 have hm:=Zh
 have hlim:lim=1048576:=rfl
 refine bd1_t (λi hi=>upn hi De) (YbQ.T Au Au Au Au Au Au) (λy2 hy1=>?_)
 rcases hy1 with hy1|⟨p8,p9,q3,q4,q5,q6,q7,_⟩
 ·exact Tm.ite (λ_=>Tm.ret (by rfl)) (λh=>by simp at h;omega)
 refine Tm.ite (λh10=>?_) (λh10=>?_)
 ·try simp only[bz] at h10
  exact Tm.ret Ry
 ·try simp only[bz] at h10
  refine bd7_t (λi hi=>upn hi De) (Ybm.T Au Au Au Au) (λy12 y13 y14 y15 y16 y17 y18 hy11=>?_)
  try simp only[] at hy11
  obtain⟨rfl,rfl,rfl,rfl,rfl,rfl,rfl,_⟩:=hy11
  try simp only[Zq]
  refine bd1_t (λi hi=>upn hi De) (Tm.self (YaH.T Au Au Au Au)) (λy20 hy19=>?_)
  refine bd7_t (λi hi=>upn hi De) (Ybm.T Au Au Au Au) (λy22 y23 y24 y25 y26 y27 y28 hy21=>?_)
  try simp only[] at hy21
  obtain⟨rfl,rfl,rfl,rfl,rfl,rfl,rfl,_⟩:=hy21
  try simp only[Zq]
  refine bd1_t (λi hi=>hi) (Tm.at (ok:=(Zp 2)) (v:=y20) (λk hk=>(YbP.same Au Au Au Au hk).trans ((hy19.2) k (upn hk De)))) (λy30 hy29=>?_)
  subst hy29
  refine Tm.ite (λh31=>?_) (λh31=>?_)
  ·try simp only[bz] at h31
   exact Tm.ret Ry
  ·try simp only[bz] at h31
   refine bd7_t (λi hi=>upn hi De) (Ybm.T Au Au Au Au) (λy33 y34 y35 y36 y37 y38 y39 hy32=>?_)
   try simp only[] at hy32
   obtain⟨rfl,rfl,rfl,rfl,rfl,rfl,rfl,_⟩:=hy32
   try simp only[Zq]
   refine bd1_t (λi hi=>upn hi De) (YbR.T Au Au Au Au Au) (λy41 hy40=>?_)
   subst hy40
   refine Tm.ite (λh42=>?_) (λh42=>?_)
   ·try simp only[bz] at h42
    exact Tm.ret Ry
   ·try simp only[bz] at h42
    exact Tm.ret Ry
open Go.ChangeShapes Go.WideShapes Go.ChangeAt Go.RowKit
open Go.ChangeMaps (open_string shut_string)
theorem own:ownKnob Tryz.prog.godebug=none:=by kernel_rfl
theorem laidOut:laidOutB Tryz.prog=true:=by kernel_rfl
theorem goodS_9 {r:List D} (h:RowS Tryz.prog maxLen 9 r):RS maxLen r:=by
 have hh:=h.open (show ZA Tryz.prog 6 9=[9] from by kernel_rfl)
 obtain⟨d0,l0,rfl,g0,hh0⟩:=goodR_cons hh
 obtain⟨c0,rfl,k0⟩:=good_str Kr g0
 obtain rfl:=goodR_nil hh0
 exact⟨c0,rfl,k0,trivial⟩
theorem goodISLSE_195 {r:List D} (h:RowS Tryz.prog maxLen 195 r):Ya1 maxLen r:=by
 have hh:=h.open (show ZA Tryz.prog 6 195=[3,9,25] from by kernel_rfl)
 obtain⟨d0,l0,rfl,g0,hh0⟩:=goodR_cons hh
 obtain⟨c0,rfl,k0⟩:=good_int (k:=.i64) Kr g0
 obtain⟨d1,l1,rfl,g1,hh1⟩:=goodR_cons hh0
 obtain⟨c1,rfl,k1⟩:=good_str Kr g1
 obtain⟨d2,l2,rfl,g2,hh2⟩:=goodR_cons hh1
 obtain⟨c2,rfl,k2,m2⟩:=good_sl (e:=9) Kr g2
 obtain rfl:=goodR_nil hh2
 exact⟨c0,c1,c2,rfl,k0,k1,⟨k2,λr hr=>goodS_9 (m2 r hr)⟩,trivial⟩
theorem goodSI_197 {r:List D} (h:RowS Tryz.prog maxLen 197 r):RSI maxLen r:=by
 have hh:=h.open (show ZA Tryz.prog 6 197=[9,3] from by kernel_rfl)
 obtain⟨d0,l0,rfl,g0,hh0⟩:=goodR_cons hh
 obtain⟨c0,rfl,k0⟩:=good_str Kr g0
 obtain⟨d1,l1,rfl,g1,hh1⟩:=goodR_cons hh0
 obtain⟨c1,rfl,k1⟩:=good_int (k:=.i64) Kr g1
 obtain rfl:=goodR_nil hh1
 exact⟨c0,c1,rfl,k0,k1,trivial⟩
theorem goodISILSELXE_89_n (n:Nat):∀ r:List D,SizeOf.sizeOf r=n->RowS Tryz.prog maxLen 89 r->∃ h,Yx maxLen h r:=by
 induction n using Nat.strongRecOn with
 |ind n ih=>
 intro r hn h
 have hh:=h.open (show ZA Tryz.prog 6 89=[3,9,3,25,87] from by kernel_rfl)
 obtain⟨d0,l0,rfl,g0,hh0⟩:=goodR_cons hh
 obtain⟨c0,rfl,k0⟩:=good_int (k:=.i64) Kr g0
 obtain⟨d1,l1,rfl,g1,hh1⟩:=goodR_cons hh0
 obtain⟨c1,rfl,k1⟩:=good_str Kr g1
 obtain⟨d2,l2,rfl,g2,hh2⟩:=goodR_cons hh1
 obtain⟨c2,rfl,k2⟩:=good_int (k:=.i64) Kr g2
 obtain⟨d3,l3,rfl,g3,hh3⟩:=goodR_cons hh2
 obtain⟨c3,rfl,k3,m3⟩:=good_sl (e:=9) Kr g3
 obtain⟨d4,l4,rfl,g4,hh4⟩:=goodR_cons hh3
 obtain⟨c4,rfl,k4,m4⟩:=good_sl (e:=89) Kr g4
 obtain rfl:=goodR_nil hh4
 have hs:∀ r'∈c4,SizeOf.sizeOf r'<n:=λr' hr=>by have:=List.sizeOf_lt_of_mem hr;simp at hn;omega
 obtain⟨hq,q4⟩:=common (Q:=Yx maxLen) (λ_ _ _=>Yx.mono) c4 λr' hr=>ih _ (hs r' hr) r' rfl (m4 r' hr)
 exact⟨hq+1,.mk c0 c1 c2 c3 c4 k0 k1 k2 ⟨k3,λr hr=>goodS_9 (m3 r hr)⟩ k4 q4⟩
theorem goodISILSELXE_89 {r:List D} (h:RowS Tryz.prog maxLen 89 r):Yo maxLen r:=by
 obtain⟨h1,h2⟩:=goodISILSELXE_89_n _ r rfl h
 exact⟨h1,λhb=>absurd (show(9223372036854775807:Nat)<=1099511627776 from hb) De,h2⟩
theorem Ycs {r:List D} (h:RowS Tryz.prog maxLen 219 r):Yl maxLen r:=by
 have hh:=h.open (show ZA Tryz.prog 6 219=[3,25,3,9,3,25,87] from by kernel_rfl)
 obtain⟨d0,l0,rfl,g0,hh0⟩:=goodR_cons hh
 obtain⟨c0,rfl,k0⟩:=good_int (k:=.i64) Kr g0
 obtain⟨d1,l1,rfl,g1,hh1⟩:=goodR_cons hh0
 obtain⟨c1,rfl,k1,m1⟩:=good_sl (e:=9) Kr g1
 obtain⟨d2,l2,rfl,g2,hh2⟩:=goodR_cons hh1
 obtain⟨c2,rfl,k2⟩:=good_int (k:=.i64) Kr g2
 obtain⟨d3,l3,rfl,g3,hh3⟩:=goodR_cons hh2
 obtain⟨c3,rfl,k3⟩:=good_str Kr g3
 obtain⟨d4,l4,rfl,g4,hh4⟩:=goodR_cons hh3
 obtain⟨c4,rfl,k4⟩:=good_int (k:=.i64) Kr g4
 obtain⟨d5,l5,rfl,g5,hh5⟩:=goodR_cons hh4
 obtain⟨c5,rfl,k5,m5⟩:=good_sl (e:=9) Kr g5
 obtain⟨d6,l6,rfl,g6,hh6⟩:=goodR_cons hh5
 obtain⟨c6,rfl,k6,m6⟩:=good_sl (e:=89) Kr g6
 obtain rfl:=goodR_nil hh6
 exact⟨c0,c1,c2,c3,c4,c5,c6,rfl,k0,⟨k1,λr hr=>goodS_9 (m1 r hr)⟩,k2,k3,k4,⟨k5,λr hr=>goodS_9 (m5 r hr)⟩,⟨k6,λr hr=>goodISILSELXE_89 (m6 r hr)⟩,trivial⟩
theorem Yco {r:List D} (h:RowS Tryz.prog maxLen 175 r):Ye maxLen r:=by
 have hh:=h.open (show ZA Tryz.prog 6 175=[9,173] from by kernel_rfl)
 obtain⟨d0,l0,rfl,g0,hh0⟩:=goodR_cons hh
 obtain⟨c0,rfl,k0⟩:=good_str Kr g0
 obtain⟨d1,l1,rfl,g1,hh1⟩:=goodR_cons hh0
 obtain⟨c1,rfl,k1,m1⟩:=good_sl (e:=219) Kr g1
 obtain rfl:=goodR_nil hh1
 exact⟨c0,c1,rfl,k0,⟨k1,λr hr=>Ycs (m1 r hr)⟩,trivial⟩
theorem YbW {r:List D} (h:RowS Tryz.prog maxLen 92 r):Ya maxLen r:=by
 have hh:=h.open (show ZA Tryz.prog 6 92=[3,9,3,83,25,84,3,9,3,25,87,90,4] from by kernel_rfl)
 obtain⟨d0,l0,rfl,g0,hh0⟩:=goodR_cons hh
 obtain⟨c0,rfl,k0⟩:=good_int (k:=.i64) Kr g0
 obtain⟨d1,l1,rfl,g1,hh1⟩:=goodR_cons hh0
 obtain⟨c1,rfl,k1⟩:=good_str Kr g1
 obtain⟨d2,l2,rfl,g2,hh2⟩:=goodR_cons hh1
 obtain⟨c2,rfl,k2⟩:=good_int (k:=.i64) Kr g2
 obtain⟨d3,l3,rfl,g3,hh3⟩:=goodR_cons hh2
 obtain⟨c3,rfl,k3,m3⟩:=good_sl (e:=195) Kr g3
 obtain⟨d4,l4,rfl,g4,hh4⟩:=goodR_cons hh3
 obtain⟨c4,rfl,k4,m4⟩:=good_sl (e:=9) Kr g4
 obtain⟨d5,l5,rfl,g5,hh5⟩:=goodR_cons hh4
 obtain⟨c5,rfl,k5,m5⟩:=good_sl (e:=197) Kr g5
 obtain⟨d6,l6,rfl,g6,hh6⟩:=goodR_cons hh5
 obtain⟨c6,rfl,k6⟩:=good_int (k:=.i64) Kr g6
 obtain⟨d7,l7,rfl,g7,hh7⟩:=goodR_cons hh6
 obtain⟨c7,rfl,k7⟩:=good_str Kr g7
 obtain⟨d8,l8,rfl,g8,hh8⟩:=goodR_cons hh7
 obtain⟨c8,rfl,k8⟩:=good_int (k:=.i64) Kr g8
 obtain⟨d9,l9,rfl,g9,hh9⟩:=goodR_cons hh8
 obtain⟨c9,rfl,k9,m9⟩:=good_sl (e:=9) Kr g9
 obtain⟨d10,l10,rfl,g10,hh10⟩:=goodR_cons hh9
 obtain⟨c10,rfl,k10,m10⟩:=good_sl (e:=89) Kr g10
 obtain⟨d11,l11,rfl,g11,hh11⟩:=goodR_cons hh10
 obtain⟨c11,rfl,k11,m11⟩:=good_sl (e:=175) Kr g11
 obtain⟨d12,l12,rfl,g12,hh12⟩:=goodR_cons hh11
 obtain⟨c12,rfl⟩:=good_bool Kr g12
 obtain rfl:=goodR_nil hh12
 exact⟨c0,c1,c2,c3,c4,c5,c6,c7,c8,c9,c10,c11,c12,rfl,k0,k1,k2,⟨k3,λr hr=>goodISLSE_195 (m3 r hr)⟩,⟨k4,λr hr=>goodS_9 (m4 r hr)⟩,⟨k5,λr hr=>goodSI_197 (m5 r hr)⟩,k6,k7,k8,⟨k9,λr hr=>goodS_9 (m9 r hr)⟩,⟨k10,λr hr=>goodISILSELXE_89 (m10 r hr)⟩,⟨k11,λr hr=>Yco (m11 r hr)⟩,trivial⟩
theorem goodSS_200 {r:List D} (h:RowS Tryz.prog maxLen 200 r):RSS maxLen r:=by
 have hh:=h.open (show ZA Tryz.prog 6 200=[9,9] from by kernel_rfl)
 obtain⟨d0,l0,rfl,g0,hh0⟩:=goodR_cons hh
 obtain⟨c0,rfl,k0⟩:=good_str Kr g0
 obtain⟨d1,l1,rfl,g1,hh1⟩:=goodR_cons hh0
 obtain⟨c1,rfl,k1⟩:=good_str Kr g1
 obtain rfl:=goodR_nil hh1
 exact⟨c0,c1,rfl,k0,k1,trivial⟩
theorem goodSLSSELSEIII_98 {r:List D} (h:RowS Tryz.prog maxLen 98 r):YQ maxLen r:=by
 have hh:=h.open (show ZA Tryz.prog 6 98=[9,94,25,3,3,3] from by kernel_rfl)
 obtain⟨d0,l0,rfl,g0,hh0⟩:=goodR_cons hh
 obtain⟨c0,rfl,k0⟩:=good_str Kr g0
 obtain⟨d1,l1,rfl,g1,hh1⟩:=goodR_cons hh0
 obtain⟨c1,rfl,k1,m1⟩:=good_sl (e:=200) Kr g1
 obtain⟨d2,l2,rfl,g2,hh2⟩:=goodR_cons hh1
 obtain⟨c2,rfl,k2,m2⟩:=good_sl (e:=9) Kr g2
 obtain⟨d3,l3,rfl,g3,hh3⟩:=goodR_cons hh2
 obtain⟨c3,rfl,k3⟩:=good_int (k:=.i64) Kr g3
 obtain⟨d4,l4,rfl,g4,hh4⟩:=goodR_cons hh3
 obtain⟨c4,rfl,k4⟩:=good_int (k:=.i64) Kr g4
 obtain⟨d5,l5,rfl,g5,hh5⟩:=goodR_cons hh4
 obtain⟨c5,rfl,k5⟩:=good_int (k:=.i64) Kr g5
 obtain rfl:=goodR_nil hh5
 exact⟨c0,c1,c2,c3,c4,c5,rfl,k0,⟨k1,λr hr=>goodSS_200 (m1 r hr)⟩,⟨k2,λr hr=>goodS_9 (m2 r hr)⟩,k3,k4,k5,trivial⟩
theorem goodISIII_100 {r:List D} (h:RowS Tryz.prog maxLen 100 r):Ya3 maxLen r:=by
 have hh:=h.open (show ZA Tryz.prog 6 100=[3,9,3,3,3] from by kernel_rfl)
 obtain⟨d0,l0,rfl,g0,hh0⟩:=goodR_cons hh
 obtain⟨c0,rfl,k0⟩:=good_int (k:=.i64) Kr g0
 obtain⟨d1,l1,rfl,g1,hh1⟩:=goodR_cons hh0
 obtain⟨c1,rfl,k1⟩:=good_str Kr g1
 obtain⟨d2,l2,rfl,g2,hh2⟩:=goodR_cons hh1
 obtain⟨c2,rfl,k2⟩:=good_int (k:=.i64) Kr g2
 obtain⟨d3,l3,rfl,g3,hh3⟩:=goodR_cons hh2
 obtain⟨c3,rfl,k3⟩:=good_int (k:=.i64) Kr g3
 obtain⟨d4,l4,rfl,g4,hh4⟩:=goodR_cons hh3
 obtain⟨c4,rfl,k4⟩:=good_int (k:=.i64) Kr g4
 obtain rfl:=goodR_nil hh4
 exact⟨c0,c1,c2,c3,c4,rfl,k0,k1,k2,k3,k4,trivial⟩
theorem types:lawTys Tryz.prog [92,195,9,197,89,175,219,98,200,100]=true:=by kernel_rfl
theorem lifted (os:Os) (started:os.Started) (H:Type) (enc:TypeId×Value->H):
  ReturnsInHanded {} Tryz.checked os 3 .any (Rows.fnExactHubOkSpec.pre6 enc Tryz.prog Tryz.f3 Rows.fnExactHubOkRow.domain false) (Rows.fnExactHubOkSpec.post enc Tryz.prog Tryz.f3 false true false false):=by
 refine returnsInHanded_of_change_sized (C:=Tryz.checked) own started Kr Tryz.func3
  (ChangeSpec.witness6 (enc:=enc) (C:=Tryz.checked) false ⟨#[],#[.agg #[.int .i64 0,.int .i64 0,.int .i64 0,.slice none 0 0,.slice none 0 0,.slice none 0 0,.slice none 0 0]],[]⟩ 8 Kr Kr Kr Kr) ?_
 intro W base args ds gs before hval0 hW hcnd hsz0 _
 have hval:∀ (j:Nat) t v,Tryz.f3.params[j]? = some t->args[j]? = some v->Value.okWide Tryz.prog W .any base t v:=hval0
 have hW':=hW
 obtain⟨p,q,hA0,hV,rfl,hfz,hnd⟩:=hW
 have hA:DataW.TrodAll enc Tryz.prog W 0 (λ_=>true) true Tryz.f3.params.toList args.toList ds p:=hA0
 have hpar:Tryz.f3.params=#[27]:=by kernel_rfl
 rw[hpar] at hA hval
 obtain⟨v0,vs0,d0,ds0,p0,q0,hargs,rfl,rfl,h0,r0⟩:=trodAll_cons hA
 obtain⟨rfl,rfl,rfl⟩:=trodAll_nil r0
 obtain rfl:args=#[v0]:=by cases args;simp_all
 obtain⟨rfl,rfl⟩:=trodVars_none hV
 have k0:=h0
 have lt0:∀ x∈p0,x.block<W.heap.size:=by obtain⟨m,hm⟩:=k0;exact DataW.trod_lt m _ _ _ hm
 obtain⟨cs0,xs0,rfl,hl0,hc0,hg0⟩:=open_agg types Kr Kr (hval 0 27 v0 rfl rfl) h0
 have hj0:=hg0.open (show ZA Tryz.prog 6 27=[3,3,3,22,23,24,25] from by kernel_rfl)
 obtain⟨ea0_0,la0_0,rfl,wa0_0,hj0_0⟩:=goodR_cons hj0
 obtain⟨aB,rfl,ka0_0⟩:=good_int (k:=.i64) Kr wa0_0
 obtain⟨ea0_1,la0_1,rfl,wa0_1,hj0_1⟩:=goodR_cons hj0_0
 obtain⟨aA,rfl,ka0_1⟩:=good_int (k:=.i64) Kr wa0_1
 obtain⟨ea0_2,la0_2,rfl,wa0_2,hj0_2⟩:=goodR_cons hj0_1
 obtain⟨aC,rfl,ka0_2⟩:=good_int (k:=.i64) Kr wa0_2
 obtain⟨ea0_3,la0_3,rfl,wa0_3,hj0_3⟩:=goodR_cons hj0_2
 obtain⟨aD,rfl,ka0_3,ma0_3⟩:=good_sl (e:=92) Kr wa0_3
 obtain⟨ea0_4,la0_4,rfl,wa0_4,hj0_4⟩:=goodR_cons hj0_3
 obtain⟨aE,rfl,ka0_4,ma0_4⟩:=good_sl (e:=98) Kr wa0_4
 obtain⟨ea0_5,la0_5,rfl,wa0_5,hj0_5⟩:=goodR_cons hj0_4
 obtain⟨aJ,rfl,ka0_5,ma0_5⟩:=good_sl (e:=100) Kr wa0_5
 obtain⟨ea0_6,la0_6,rfl,wa0_6,hj0_6⟩:=goodR_cons hj0_5
 obtain⟨aK,rfl,ka0_6,ma0_6⟩:=good_sl (e:=9) Kr wa0_6
 obtain rfl:=goodR_nil hj0_6
 clear hA0 hval0 hsz0
 obtain⟨kb,hkb⟩:∃ k,lv 2<=k:=⟨_,Nat.le_refl _⟩
 obtain⟨z,rfl,hz⟩:=YaL.T ka0_0 ka0_1 ka0_2 ⟨ka0_3,λr hr=>YbW (ma0_3 r hr)⟩ ⟨ka0_4,λr hr=>goodSLSSELSEIII_98 (ma0_4 r hr)⟩ ⟨ka0_5,λr hr=>goodISIII_100 (ma0_5 r hr)⟩ ⟨ka0_6,λr hr=>goodS_9 (ma0_6 r hr)⟩
 refine(law_calls (YaL.ok kb) rfl rfl Kr (aa:=[.agg [.int .i64 aB,.int .i64 aA,.int .i64 aC,.sl aD,.sl aE,.sl aJ,.sl aK]]) (vs:=[.agg cs0.toArray]) ?_ ⟨(),?_⟩).mono λe W' ⟨he,bel⟩=>?_
 ·exact(ZY.cons' ⟨rfl,cs0,rfl,hl0,hc0⟩ ZY.nil')
 ·exact(ent_run (YaL.e kb) rfl (congrArg some (hz kb hkb)) rfl)
 ·subst he
  exact⟨_,rfl,_,_,_,[],_,[],hW',trodAll_mk1 (shut_bool Kr _),(trodAll_cons_mk (Below.trod laidOut Kr (of_decide_eq_true Kr) k0 bel lt0) trodAll_mk0),rfl,bel.frame _,λh=>by cases h⟩
theorem facts1:joined1 Tryz.prog 3 Tryz.f3 Rows.fnExactHubOkSpec Rows.fnExactHubOkRow=true:=by kernel_rfl
theorem facts2:joined2 Tryz.prog 3 Tryz.f3 Rows.fnExactHubOkSpec Rows.fnExactHubOkRow=true:=by kernel_rfl
theorem facts3:joined3 Tryz.prog 3 Tryz.f3 Rows.fnExactHubOkSpec Rows.fnExactHubOkRow=true:=by kernel_rfl
theorem facts4:joined4 Tryz.prog 3 Tryz.f3 Rows.fnExactHubOkSpec Rows.fnExactHubOkRow=true:=by kernel_rfl
theorem facts5:joined5 Tryz.prog 3 Tryz.f3 Rows.fnExactHubOkSpec Rows.fnExactHubOkRow=true:=by kernel_rfl
theorem facts6:joined6 Tryz.prog 3 Tryz.f3 Rows.fnExactHubOkSpec Rows.fnExactHubOkRow=true:=by kernel_rfl
theorem facts7:joined7 Tryz.prog 3 Tryz.f3 Rows.fnExactHubOkSpec Rows.fnExactHubOkRow=true:=by kernel_rfl
theorem facts8:joined8 Tryz.prog 3 Tryz.f3 Rows.fnExactHubOkSpec Rows.fnExactHubOkRow=true:=by kernel_rfl
theorem over:Rows.fnExactHubOkRow.holds Tryz.pinned (OpenSpec.ofChange Rows.fnExactHubOkSpec):=
 OpenClaim.holds_of_wide 3 Tryz.f3 rfl rfl rfl rfl rfl rfl rfl ⟨rfl,rfl,rfl,rfl,rfl⟩ rfl rfl rfl rfl rfl Kr Tryz.func3 (joined_of facts1 facts2 facts3 facts4 facts5 facts6 facts7 facts8)
  (of_decide_eq_true Kr) (by unfold Func.isWrapper;first|(rw[if_pos (by decide +kernel)];kernel_rfl)|(rw[if_neg (by decide +kernel)];exact⟨rfl,rfl⟩))
  (λos started H enc _=>lifted os started H enc)
theorem fnExactHubOk_holds:Rows.FnExactHubOkSaid:=over
end Go.Proofs.YtnfogafklciihaaGreat
