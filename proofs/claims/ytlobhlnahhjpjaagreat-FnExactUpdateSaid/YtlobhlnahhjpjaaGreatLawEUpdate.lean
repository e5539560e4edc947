/- FnExactUpdate: the program's function answers as the reference's,for every input. No condition. -/
import Derived.Test.YtlobhlnahhjpjaaGreatRows
import Derived.Test.YtlobhlnahhjpjaaGreatYEUpdate1
import Derived.KernelRfl
import Derived.WalkKit
import Derived.ProofKit
import Derived.OpenShut
import Derived.ShutString
import Derived.ChangeOld
import Derived.Below
import Derived.SizedLaws
set_option linter.unusedVariables false
set_option linter.unusedSimpArgs false
namespace Go.Proofs.YtlobhlnahhjpjaaGreat
open Go Go.T Go.Proofs
set_option maxRecDepth 100000 in
set_option maxHeartbeats 8000000 in
theorem Yau.T {B:Nat} (hB:B<=1099511627776) {c0:Int} {c1:BA} {c2:Int} {a3 a4:LD} {n:Int} (g3:ZB RS B a3) (g4:ZB Yo B a4) (h0:0<=n) (h1:n+Zu a3+Zu a4<=4611686018427387904):Tm (Zai 1) (λk=>Yau.t k c0 c1 c2 (Zc a3) (Zc a4) n) (λz=>∃ ys3 ys4,z.1=n+Zu a3+Zu a4/\z.2.1=Zc ys3/\z.2.2=Zc ys4/\ys3.length=a3.length/\ys4.length=a4.length/\∀ k,(Zai 1) k->(Zai 1) k):=by
 unfold Yau.t Yau.g
 refine Yl.tm (λi hi=>up0 hi) (Yl.T hB g3 (by omega) (by omega)) (λy3 t3 hy=>?_)
 obtain⟨ys3,et3,el3,en3,hh3⟩:=hy
 simp only[] at et3 en3 hh3
 subst et3 en3
 try refine Tm.guard (by rw[ZS,ZS];first|exact el3|exact el3.1) ?_
 refine Yj.tm (λi hi=>hi) (Yj.T hB g4 (by omega) (by omega)) (λy4 t4 hy=>?_)
 obtain⟨ys4,et4,el4,en4,hh4⟩:=hy
 simp only[] at et4 en4 hh4
 subst et4 en4
 try refine Tm.guard (by rw[ZS,ZS];first|exact el4|exact el4.1) ?_
 exact Tm.ret ⟨ys3,ys4,rfl,rfl,rfl,(by first|exact el3|exact el3.1),(by first|exact el4|exact el4.1),λk hk=>hk⟩
theorem YaA.T {aC:LD} {aB aD:Int} {aA:LD} {a1:Int} {a2:BA} {a3 cA:Int} {cC:BA} {cE:Int} {cF bZ:LD} (ga0_0:ZB Ya maxLen aC) (ga0_1:(Lit.int .i64 aB).wf=true) (ga0_2:(Lit.int .i64 aD).wf=true) (ga0_3:ZB Yb maxLen aA) (ga1:(Lit.int .i64 a1).wf=true) (ga2:a2.size<=maxLen) (ga3:(Lit.int .i64 a3).wf=true) (ga4_0:(Lit.int .i64 cA).wf=true) (ga4_1:cC.size<=maxLen) (ga4_2:(Lit.int .i64 cE).wf=true) (ga4_3:ZB RS maxLen cF) (ga4_4:ZB Yo maxLen bZ):Tm (Zai 1) (λk=>YaA.t k aC aB aD aA a1 a2 a3 cA cC cE cF bZ) (λr=>r=true):=by
 unfold YaA.t YaA.g
 have hm:=maxLen_eq
 have hlim:lim=1048576:=rfl
 refine Tm.ite (λh1=>?_) (λh1=>?_)
 ·try simp only[bz0,bz1,bz2,bz3,bz4,bz5,bz6,bz7,bz8,bz9,bza] at h1
  exact Tm.ret (by first|rfl|(exfalso;omega)|(exfalso;simp[strEq_self] at *))
 ·try simp only[bz0,bz1,bz2,bz3,bz4,bz5,bz6,bz7,bz8,bz9,bza] at h1
  refine YaI.tm (λi hi=>hi) (YaI.T (by first|assumption|omega) (by first|assumption|omega) (by first|assumption|omega) (by first|assumption|omega)) (λy3 hy2=>?_)
  rcases hy2 with hy2|⟨p7,p8,q4,q5,q6,_⟩
  ·exact Tm.ite (λ_=>Tm.ret (by rfl)) (λh=>by simp at h;omega)
  refine Tm.ite (λh9=>?_) (λh9=>?_)
  ·try simp only[bz0,bz1,bz2,bz3,bz4,bz5,bz6,bz7,bz8,bz9,bza] at h9
   exact Tm.ret (by first|rfl|(exfalso;omega)|(exfalso;simp[strEq_self] at *))
  ·try simp only[bz0,bz1,bz2,bz3,bz4,bz5,bz6,bz7,bz8,bz9,bza] at h9
   refine YM.tm (λi hi=>hi) (YM.T (by first|assumption|omega) (by first|assumption|omega) (by first|assumption|omega) (by first|assumption|omega) (by first|assumption|omega)) (λy11 hy10=>?_)
   rcases hy10 with hy10|⟨p16,p17,q12,q13,q14,q15,_⟩
   ·exact Tm.ite (λ_=>Tm.ret (by rfl)) (λh=>by simp at h;omega)
   refine Tm.ite (λh18=>?_) (λh18=>?_)
   ·try simp only[bz0,bz1,bz2,bz3,bz4,bz5,bz6,bz7,bz8,bz9,bza] at h18
    exact Tm.ret (by first|rfl|(exfalso;omega)|(exfalso;simp[strEq_self] at *))
   ·try simp only[bz0,bz1,bz2,bz3,bz4,bz5,bz6,bz7,bz8,bz9,bza] at h18
    refine Yao.tm (λi hi=>hi) (Yao.T (by first|assumption|omega) (by first|assumption|omega)) (λy20 y21 y22 y23 hy19=>?_)
    try simp only[] at hy19
    obtain⟨rfl,rfl,rfl,rfl,_⟩:=hy19
    try simp only[ZK]
    refine YE.tm (λi hi=>hi) (YE.T (by first|assumption|omega) (by first|assumption|omega) (by first|assumption|omega)) (λy25 y26 y27 y28 y29 hy24=>?_)
    try simp only[] at hy24
    obtain⟨rfl,rfl,rfl,rfl,rfl,_⟩:=hy24
    try simp only[ZK]
    refine YaD.tm (λi hi=>hi) (Tm.self (YaD.T (by first|assumption|omega) (by first|assumption|omega) (by first|assumption|omega) (by first|assumption|omega) (by first|assumption|omega) (by first|assumption|omega) (by first|assumption|omega) (by first|assumption|omega) (by first|assumption|omega) (by first|assumption|omega) (by first|assumption|omega) (by first|assumption|omega) (by first|assumption|omega) (by first|assumption|omega) (by first|assumption|omega))) (λy31 y32 y33 y34 y35 hy30=>?_)
    have hf36:=hy30.1
    try simp only[] at hf36
    obtain⟨q37,q38,q39,q40,_⟩:=hf36
    refine Yao.tm (λi hi=>hi) (Yao.T (by first|assumption|omega) (by first|assumption|omega)) (λy42 y43 y44 y45 hy41=>?_)
    try simp only[] at hy41
    obtain⟨rfl,rfl,rfl,rfl,_⟩:=hy41
    try simp only[ZK]
    refine YE.tm (λi hi=>hi) (YE.T (by first|assumption|omega) (by first|assumption|omega) (by first|assumption|omega)) (λy47 y48 y49 y50 y51 hy46=>?_)
    try simp only[] at hy46
    obtain⟨rfl,rfl,rfl,rfl,rfl,_⟩:=hy46
    try simp only[ZK]
    refine YaB.tm (λi hi=>hi) (Tm.at (ok:=(Zai 1)) (v:=(Zc y31,y32,y33,Zc y34,y35)) (λk hk=>YaB.same (by first|assumption|omega) (by first|assumption|omega) (by first|assumption|omega) (by first|assumption|omega) (by first|assumption|omega) (by first|assumption|omega) (by first|assumption|omega) (by first|assumption|omega) (by first|assumption|omega) (by first|assumption|omega) (by first|assumption|omega) (by first|assumption|omega) (by first|assumption|omega) (by first|assumption|omega) (by first|assumption|omega) hk ((hy30.2) k hk))) (λy53 y54 y55 y56 y57 hy52=>?_)
    simp only[Prod.mk.injEq] at hy52;obtain⟨hy52e0,hy52e1,hy52e2,hy52e3,hy52e4⟩:=hy52;subst y53 y54 y55 y56 y57
    try simp only[ZK]
    refine Yaq.tm (λi hi=>hi) (Yaq.T (by first|assumption|omega) (by first|assumption|omega) (by first|assumption|omega)) (λy59 hy58=>?_)
    subst hy58
    refine Tm.ite (λh60=>?_) (λh60=>?_)
    ·try simp only[bz0,bz1,bz2,bz3,bz4,bz5,bz6,bz7,bz8,bz9,bza] at h60
     exact Tm.ret (by first|rfl|(exfalso;omega)|(exfalso;simp[strEq_self] at *))
    ·try simp only[bz0,bz1,bz2,bz3,bz4,bz5,bz6,bz7,bz8,bz9,bza] at h60
     refine Tm.ite (λh61=>?_) (λh61=>?_)
     ·try simp only[bz0,bz1,bz2,bz3,bz4,bz5,bz6,bz7,bz8,bz9,bza] at h61
      exact Tm.ret (by first|rfl|(exfalso;omega)|(exfalso;simp[strEq_self] at *))
     ·try simp only[bz0,bz1,bz2,bz3,bz4,bz5,bz6,bz7,bz8,bz9,bza] at h61
      refine Yao.tm (λi hi=>hi) (Yao.T (by first|assumption|omega) (by first|assumption|omega)) (λy63 y64 y65 y66 hy62=>?_)
      try simp only[] at hy62
      obtain⟨rfl,rfl,rfl,rfl,_⟩:=hy62
      try simp only[ZK]
      refine Yaq.tm (λi hi=>hi) (Yaq.T (by first|assumption|omega) (by first|assumption|omega) (by first|assumption|omega)) (λy68 hy67=>?_)
      subst hy67
      refine Tm.ite (λh69=>?_) (λh69=>?_)
      ·try simp only[bz0,bz1,bz2,bz3,bz4,bz5,bz6,bz7,bz8,bz9,bza] at h69
       exact Tm.ret (by first|rfl|(exfalso;omega)|(exfalso;simp[strEq_self] at *))
      ·try simp only[bz0,bz1,bz2,bz3,bz4,bz5,bz6,bz7,bz8,bz9,bza] at h69
       refine YE.tm (λi hi=>hi) (YE.T (by first|assumption|omega) (by first|assumption|omega) (by first|assumption|omega)) (λy71 y72 y73 y74 y75 hy70=>?_)
       try simp only[] at hy70
       obtain⟨rfl,rfl,rfl,rfl,rfl,_⟩:=hy70
       try simp only[ZK]
       refine YN.tm (λi hi=>hi) (YN.T (by first|assumption|omega) (by first|assumption|omega) (by first|assumption|omega) (by first|assumption|omega)) (λy77 hy76=>?_)
       subst hy76
       refine Tm.ite (λh78=>?_) (λh78=>?_)
       ·try simp only[bz0,bz1,bz2,bz3,bz4,bz5,bz6,bz7,bz8,bz9,bza] at h78
        exact Tm.ret (by first|rfl|(exfalso;omega)|(exfalso;simp[strEq_self] at *))
       ·try simp only[bz0,bz1,bz2,bz3,bz4,bz5,bz6,bz7,bz8,bz9,bza] at h78
        refine Yap.tm (λi hi=>hi) (Yap.T (B:=2097152) (by decide) (by first|assumption|exact Ya.wide (by assumption)) (by first|assumption|exact Yb.wide (by assumption)) (by omega) (by omega)) (λy80 y81 y82 hy79=>?_)
        obtain⟨ys84,ys85,en90,et86,et87,el88,el89,hh83⟩:=hy79
        simp only[] at en90 et86 et87 hh83
        subst en90 et86 et87
        refine Tm.guard (by first|omega|(simp only[ZS];assumption)|(simp only[lim,maxLen_eq,Z8] at *;omega)|(simp only[lim,Z8] at *;refine⟨?_,?_,?_,?_⟩<;>omega)) ?_
        refine Tm.guard (by first|omega|(simp only[ZS];assumption)|(simp only[lim,maxLen_eq,Z8] at *;omega)|(simp only[lim,Z8] at *;refine⟨?_,?_,?_,?_⟩<;>omega)) ?_
        refine Yau.tm (λi hi=>hi) (Yau.T (B:=2097152) (by decide) (by first|assumption|exact RS.wide (by assumption)) (by first|assumption|exact Yo.wide (by assumption)) (by omega) (by omega)) (λy92 y93 y94 hy91=>?_)
        obtain⟨ys96,ys97,en102,et98,et99,el100,el101,hh95⟩:=hy91
        simp only[] at en102 et98 et99 hh95
        subst en102 et98 et99
        refine Tm.guard (by first|omega|(simp only[ZS];assumption)|(simp only[lim,maxLen_eq,Z8] at *;omega)|(simp only[lim,Z8] at *;refine⟨?_,?_,?_,?_⟩<;>omega)) ?_
        refine Tm.guard (by first|omega|(simp only[ZS];assumption)|(simp only[lim,maxLen_eq,Z8] at *;omega)|(simp only[lim,Z8] at *;refine⟨?_,?_,?_,?_⟩<;>omega)) ?_
        refine Tm.ite (λh103=>?_) (λh103=>?_)
        ·try simp only[bz0,bz1,bz2,bz3,bz4,bz5,bz6,bz7,bz8,bz9,bza] at h103
         exact Tm.ret (by first|rfl|(exfalso;omega)|(exfalso;simp[strEq_self] at *))
        ·try simp only[bz0,bz1,bz2,bz3,bz4,bz5,bz6,bz7,bz8,bz9,bza] at h103
         refine Yaq.tm (λi hi=>hi) (Yaq.T (by first|assumption|omega) (by first|assumption|omega) (by first|assumption|omega)) (λy105 hy104=>?_)
         subst hy104
         refine Tm.ite (λh106=>?_) (λh106=>?_)
         ·try simp only[bz0,bz1,bz2,bz3,bz4,bz5,bz6,bz7,bz8,bz9,bza] at h106
          exact Tm.ret (by first|rfl|(exfalso;omega)|(exfalso;simp[strEq_self] at *))
         ·try simp only[bz0,bz1,bz2,bz3,bz4,bz5,bz6,bz7,bz8,bz9,bza] at h106
          refine Tm.ite (λh107=>?_) (λh107=>?_)
          ·try simp only[bz0,bz1,bz2,bz3,bz4,bz5,bz6,bz7,bz8,bz9,bza] at h107
           exact Tm.ret (by first|rfl|(exfalso;omega)|(exfalso;simp[strEq_self] at *))
          ·try simp only[bz0,bz1,bz2,bz3,bz4,bz5,bz6,bz7,bz8,bz9,bza] at h107
           refine Yap.tm (λi hi=>hi) (Yap.T (B:=2097152) (by decide) (by first|assumption|exact Ya.wide (by assumption)) (by first|assumption|exact Yb.wide (by assumption)) (by omega) (by omega)) (λy109 y110 y111 hy108=>?_)
           obtain⟨ys113,ys114,en119,et115,et116,el117,el118,hh112⟩:=hy108
           simp only[] at en119 et115 et116 hh112
           subst en119 et115 et116
           refine Tm.guard (by first|omega|(simp only[ZS];assumption)|(simp only[lim,maxLen_eq,Z8] at *;omega)|(simp only[lim,Z8] at *;refine⟨?_,?_,?_,?_⟩<;>omega)) ?_
           refine Tm.guard (by first|omega|(simp only[ZS];assumption)|(simp only[lim,maxLen_eq,Z8] at *;omega)|(simp only[lim,Z8] at *;refine⟨?_,?_,?_,?_⟩<;>omega)) ?_
           try simp only[ZK]
           refine Yax.tm (λi hi=>hi) (Tm.at (ok:=(Zai 1)) (λk hk=>hh112 k hk)) (λy121 hy120=>?_)
           subst hy120
           refine Tm.ite (λh122=>?_) (λh122=>?_)
           ·try simp only[bz0,bz1,bz2,bz3,bz4,bz5,bz6,bz7,bz8,bz9,bza] at h122
            exact Tm.ret (by first|rfl|(exfalso;omega)|(exfalso;simp[strEq_self] at *))
           ·try simp only[bz0,bz1,bz2,bz3,bz4,bz5,bz6,bz7,bz8,bz9,bza] at h122
            refine Tm.ite (λh123=>?_) (λh123=>?_)
            ·try simp only[bz0,bz1,bz2,bz3,bz4,bz5,bz6,bz7,bz8,bz9,bza] at h123
             exact Tm.ret (by first|rfl|(exfalso;omega)|(exfalso;simp[strEq_self] at *))
            ·try simp only[bz0,bz1,bz2,bz3,bz4,bz5,bz6,bz7,bz8,bz9,bza] at h123
             refine Yao.tm (λi hi=>hi) (Yao.T (by first|assumption|omega) (by first|assumption|omega)) (λy125 y126 y127 y128 hy124=>?_)
             try simp only[] at hy124
             obtain⟨rfl,rfl,rfl,rfl,_⟩:=hy124
             try simp only[ZK]
             refine YE.tm (λi hi=>hi) (YE.T (by first|assumption|omega) (by first|assumption|omega) (by first|assumption|omega)) (λy130 y131 y132 y133 y134 hy129=>?_)
             try simp only[] at hy129
             obtain⟨rfl,rfl,rfl,rfl,rfl,_⟩:=hy129
             try simp only[ZK]
             refine YaB.tm (λi hi=>hi) (Tm.at (ok:=(Zai 1)) (v:=(Zc y31,y32,y33,Zc y34,y35)) (λk hk=>YaB.same (by first|assumption|omega) (by first|assumption|omega) (by first|assumption|omega) (by first|assumption|omega) (by first|assumption|omega) (by first|assumption|omega) (by first|assumption|omega) (by first|assumption|omega) (by first|assumption|omega) (by first|assumption|omega) (by first|assumption|omega) (by first|assumption|omega) (by first|assumption|omega) (by first|assumption|omega) (by first|assumption|omega) hk ((hy30.2) k hk))) (λy136 y137 y138 y139 y140 hy135=>?_)
             simp only[Prod.mk.injEq] at hy135;obtain⟨hy135e0,hy135e1,hy135e2,hy135e3,hy135e4⟩:=hy135;subst y136 y137 y138 y139 y140
             try simp only[ZK]
             refine Yaq.tm (λi hi=>hi) (Yaq.T (by first|assumption|omega) (by first|assumption|omega) (by first|assumption|omega)) (λy142 hy141=>?_)
             subst hy141
             refine Tm.ite (λh143=>?_) (λh143=>?_)
             ·try simp only[bz0,bz1,bz2,bz3,bz4,bz5,bz6,bz7,bz8,bz9,bza] at h143
              exact Tm.ret (by first|rfl|(exfalso;omega)|(exfalso;simp[strEq_self] at *))
             ·try simp only[bz0,bz1,bz2,bz3,bz4,bz5,bz6,bz7,bz8,bz9,bza] at h143
              refine Tm.ite (λh144=>?_) (λh144=>?_)
              ·try simp only[bz0,bz1,bz2,bz3,bz4,bz5,bz6,bz7,bz8,bz9,bza] at h144
               exact Tm.ret (by first|rfl|(exfalso;omega)|(exfalso;simp[strEq_self] at *))
              ·try simp only[bz0,bz1,bz2,bz3,bz4,bz5,bz6,bz7,bz8,bz9,bza] at h144
               try simp only[ZK]
               refine Yax.tm (λi hi=>hi) (Tm.at (ok:=(Zai 1)) (λk hk=>hh112 k hk)) (λy146 hy145=>?_)
               subst hy145
               refine Tm.ite (λh147=>?_) (λh147=>?_)
               ·try simp only[bz0,bz1,bz2,bz3,bz4,bz5,bz6,bz7,bz8,bz9,bza] at h147
                exact Tm.ret (by first|rfl|(exfalso;omega)|(exfalso;simp[strEq_self] at *))
               ·try simp only[bz0,bz1,bz2,bz3,bz4,bz5,bz6,bz7,bz8,bz9,bza] at h147
                refine Tm.ite (λh148=>?_) (λh148=>?_)
                ·try simp only[bz0,bz1,bz2,bz3,bz4,bz5,bz6,bz7,bz8,bz9,bza] at h148
                 exact Tm.ret (by first|rfl|(exfalso;omega)|(exfalso;simp[strEq_self] at *))
                ·try simp only[bz0,bz1,bz2,bz3,bz4,bz5,bz6,bz7,bz8,bz9,bza] at h148
                 exact Tm.ret (by first|rfl|(exfalso;omega)|(exfalso;simp[strEq_self] at *))
open Go.ChangeShapes Go.WideShapes Go.ChangeAt Go.RowKit
open Go.ChangeMaps (open_string shut_string)
theorem own:ownKnob Tryz.prog.godebug=none:=by kernel_rfl
theorem laidOut:laidOutB Tryz.prog=true:=by kernel_rfl
theorem goodS_9 {r:List D} (h:RowS Tryz.prog maxLen 9 r):RS maxLen r:=by
 have hh:=h.open (show Zq Tryz.prog 6 9=[9] from by kernel_rfl)
 obtain⟨d0,l0,rfl,g0,hh0⟩:=goodR_cons hh
 obtain⟨c0,rfl,k0⟩:=good_str (by kernel_rfl) g0
 obtain rfl:=goodR_nil hh0
 exact⟨c0,rfl,k0,trivial⟩
theorem goodISILSELXE_48_n (n:Nat):∀ r:List D,SizeOf.sizeOf r=n->RowS Tryz.prog maxLen 48 r->∃ h,Y0 maxLen h r:=by
 induction n using Nat.strongRecOn with
 |ind n ih=>
 intro r hn h
 have hh:=h.open (show Zq Tryz.prog 6 48=[3,9,3,45,46] from by kernel_rfl)
 obtain⟨d0,l0,rfl,g0,hh0⟩:=goodR_cons hh
 obtain⟨c0,rfl,k0⟩:=good_int (k:=.i64) (by kernel_rfl) g0
 obtain⟨d1,l1,rfl,g1,hh1⟩:=goodR_cons hh0
 obtain⟨c1,rfl,k1⟩:=good_str (by kernel_rfl) g1
 obtain⟨d2,l2,rfl,g2,hh2⟩:=goodR_cons hh1
 obtain⟨c2,rfl,k2⟩:=good_int (k:=.i64) (by kernel_rfl) g2
 obtain⟨d3,l3,rfl,g3,hh3⟩:=goodR_cons hh2
 obtain⟨c3,rfl,k3,m3⟩:=good_sl (e:=9) (by kernel_rfl) g3
 obtain⟨d4,l4,rfl,g4,hh4⟩:=goodR_cons hh3
 obtain⟨c4,rfl,k4,m4⟩:=good_sl (e:=48) (by kernel_rfl) g4
 obtain rfl:=goodR_nil hh4
 have hs:∀ r'∈c4,SizeOf.sizeOf r'<n:=λr' hr=>by have:=List.sizeOf_lt_of_mem hr;simp at hn;omega
 obtain⟨hq,q4⟩:=common (Q:=Y0 maxLen) (λ_ _ _=>Y0.mono) c4 λr' hr=>ih _ (hs r' hr) r' rfl (m4 r' hr)
 exact⟨hq+1,.mk c0 c1 c2 c3 c4 k0 k1 k2 ⟨k3,λr hr=>goodS_9 (m3 r hr)⟩ k4 q4⟩
theorem YaY {r:List D} (h:RowS Tryz.prog maxLen 48 r):Yo maxLen r:=by
 obtain⟨h1,h2⟩:=goodISILSELXE_48_n _ r rfl h
 exact⟨h1,λhb=>absurd (show(9223372036854775807:Nat)<=1099511627776 from hb) (by decide),h2⟩
theorem YaX {r:List D} (h:RowS Tryz.prog maxLen 127 r):Ya maxLen r:=by
 have hh:=h.open (show Zq Tryz.prog 6 127=[3,9,3,3,3,4,45,3,9,3,45,46,3,9,3,45,46] from by kernel_rfl)
 obtain⟨d0,l0,rfl,g0,hh0⟩:=goodR_cons hh
 obtain⟨c0,rfl,k0⟩:=good_int (k:=.i64) (by kernel_rfl) g0
 obtain⟨d1,l1,rfl,g1,hh1⟩:=goodR_cons hh0
 obtain⟨c1,rfl,k1⟩:=good_str (by kernel_rfl) g1
 obtain⟨d2,l2,rfl,g2,hh2⟩:=goodR_cons hh1
 obtain⟨c2,rfl,k2⟩:=good_int (k:=.i64) (by kernel_rfl) g2
 obtain⟨d3,l3,rfl,g3,hh3⟩:=goodR_cons hh2
 obtain⟨c3,rfl,k3⟩:=good_int (k:=.i64) (by kernel_rfl) g3
 obtain⟨d4,l4,rfl,g4,hh4⟩:=goodR_cons hh3
 obtain⟨c4,rfl,k4⟩:=good_int (k:=.i64) (by kernel_rfl) g4
 obtain⟨d5,l5,rfl,g5,hh5⟩:=goodR_cons hh4
 obtain⟨c5,rfl⟩:=good_bool (by kernel_rfl) g5
 obtain⟨d6,l6,rfl,g6,hh6⟩:=goodR_cons hh5
 obtain⟨c6,rfl,k6,m6⟩:=good_sl (e:=9) (by kernel_rfl) g6
 obtain⟨d7,l7,rfl,g7,hh7⟩:=goodR_cons hh6
 obtain⟨c7,rfl,k7⟩:=good_int (k:=.i64) (by kernel_rfl) g7
 obtain⟨d8,l8,rfl,g8,hh8⟩:=goodR_cons hh7
 obtain⟨c8,rfl,k8⟩:=good_str (by kernel_rfl) g8
 obtain⟨d9,l9,rfl,g9,hh9⟩:=goodR_cons hh8
 obtain⟨c9,rfl,k9⟩:=good_int (k:=.i64) (by kernel_rfl) g9
 obtain⟨d10,l10,rfl,g10,hh10⟩:=goodR_cons hh9
 obtain⟨c10,rfl,k10,m10⟩:=good_sl (e:=9) (by kernel_rfl) g10
 obtain⟨d11,l11,rfl,g11,hh11⟩:=goodR_cons hh10
 obtain⟨c11,rfl,k11,m11⟩:=good_sl (e:=48) (by kernel_rfl) g11
 obtain⟨d12,l12,rfl,g12,hh12⟩:=goodR_cons hh11
 obtain⟨c12,rfl,k12⟩:=good_int (k:=.i64) (by kernel_rfl) g12
 obtain⟨d13,l13,rfl,g13,hh13⟩:=goodR_cons hh12
 obtain⟨c13,rfl,k13⟩:=good_str (by kernel_rfl) g13
 obtain⟨d14,l14,rfl,g14,hh14⟩:=goodR_cons hh13
 obtain⟨c14,rfl,k14⟩:=good_int (k:=.i64) (by kernel_rfl) g14
 obtain⟨d15,l15,rfl,g15,hh15⟩:=goodR_cons hh14
 obtain⟨c15,rfl,k15,m15⟩:=good_sl (e:=9) (by kernel_rfl) g15
 obtain⟨d16,l16,rfl,g16,hh16⟩:=goodR_cons hh15
 obtain⟨c16,rfl,k16,m16⟩:=good_sl (e:=48) (by kernel_rfl) g16
 obtain rfl:=goodR_nil hh16
 exact⟨c0,c1,c2,c3,c4,c5,c6,c7,c8,c9,c10,c11,c12,c13,c14,c15,c16,rfl,k0,k1,k2,k3,k4,⟨k6,λr hr=>goodS_9 (m6 r hr)⟩,k7,k8,k9,⟨k10,λr hr=>goodS_9 (m10 r hr)⟩,⟨k11,λr hr=>YaY (m11 r hr)⟩,k12,k13,k14,⟨k15,λr hr=>goodS_9 (m15 r hr)⟩,⟨k16,λr hr=>YaY (m16 r hr)⟩,trivial⟩
theorem YaW {r:List D} (h:RowS Tryz.prog maxLen 130 r):Yb maxLen r:=by
 have hh:=h.open (show Zq Tryz.prog 6 130=[3,4,3,9,3,3,3,4,45,3,9,3,45,46,3,9,3,45,46] from by kernel_rfl)
 obtain⟨d0,l0,rfl,g0,hh0⟩:=goodR_cons hh
 obtain⟨c0,rfl,k0⟩:=good_int (k:=.i64) (by kernel_rfl) g0
 obtain⟨d1,l1,rfl,g1,hh1⟩:=goodR_cons hh0
 obtain⟨c1,rfl⟩:=good_bool (by kernel_rfl) g1
 obtain⟨d2,l2,rfl,g2,hh2⟩:=goodR_cons hh1
 obtain⟨c2,rfl,k2⟩:=good_int (k:=.i64) (by kernel_rfl) g2
 obtain⟨d3,l3,rfl,g3,hh3⟩:=goodR_cons hh2
 obtain⟨c3,rfl,k3⟩:=good_str (by kernel_rfl) g3
 obtain⟨d4,l4,rfl,g4,hh4⟩:=goodR_cons hh3
 obtain⟨c4,rfl,k4⟩:=good_int (k:=.i64) (by kernel_rfl) g4
 obtain⟨d5,l5,rfl,g5,hh5⟩:=goodR_cons hh4
 obtain⟨c5,rfl,k5⟩:=good_int (k:=.i64) (by kernel_rfl) g5
 obtain⟨d6,l6,rfl,g6,hh6⟩:=goodR_cons hh5
 obtain⟨c6,rfl,k6⟩:=good_int (k:=.i64) (by kernel_rfl) g6
 obtain⟨d7,l7,rfl,g7,hh7⟩:=goodR_cons hh6
 obtain⟨c7,rfl⟩:=good_bool (by kernel_rfl) g7
 obtain⟨d8,l8,rfl,g8,hh8⟩:=goodR_cons hh7
 obtain⟨c8,rfl,k8,m8⟩:=good_sl (e:=9) (by kernel_rfl) g8
 obtain⟨d9,l9,rfl,g9,hh9⟩:=goodR_cons hh8
 obtain⟨c9,rfl,k9⟩:=good_int (k:=.i64) (by kernel_rfl) g9
 obtain⟨d10,l10,rfl,g10,hh10⟩:=goodR_cons hh9
 obtain⟨c10,rfl,k10⟩:=good_str (by kernel_rfl) g10
 obtain⟨d11,l11,rfl,g11,hh11⟩:=goodR_cons hh10
 obtain⟨c11,rfl,k11⟩:=good_int (k:=.i64) (by kernel_rfl) g11
 obtain⟨d12,l12,rfl,g12,hh12⟩:=goodR_cons hh11
 obtain⟨c12,rfl,k12,m12⟩:=good_sl (e:=9) (by kernel_rfl) g12
 obtain⟨d13,l13,rfl,g13,hh13⟩:=goodR_cons hh12
 obtain⟨c13,rfl,k13,m13⟩:=good_sl (e:=48) (by kernel_rfl) g13
 obtain⟨d14,l14,rfl,g14,hh14⟩:=goodR_cons hh13
 obtain⟨c14,rfl,k14⟩:=good_int (k:=.i64) (by kernel_rfl) g14
 obtain⟨d15,l15,rfl,g15,hh15⟩:=goodR_cons hh14
 obtain⟨c15,rfl,k15⟩:=good_str (by kernel_rfl) g15
 obtain⟨d16,l16,rfl,g16,hh16⟩:=goodR_cons hh15
 obtain⟨c16,rfl,k16⟩:=good_int (k:=.i64) (by kernel_rfl) g16
 obtain⟨d17,l17,rfl,g17,hh17⟩:=goodR_cons hh16
 obtain⟨c17,rfl,k17,m17⟩:=good_sl (e:=9) (by kernel_rfl) g17
 obtain⟨d18,l18,rfl,g18,hh18⟩:=goodR_cons hh17
 obtain⟨c18,rfl,k18,m18⟩:=good_sl (e:=48) (by kernel_rfl) g18
 obtain rfl:=goodR_nil hh18
 exact⟨c0,c1,c2,c3,c4,c5,c6,c7,c8,c9,c10,c11,c12,c13,c14,c15,c16,c17,c18,rfl,k0,k2,k3,k4,k5,k6,⟨k8,λr hr=>goodS_9 (m8 r hr)⟩,k9,k10,k11,⟨k12,λr hr=>goodS_9 (m12 r hr)⟩,⟨k13,λr hr=>YaY (m13 r hr)⟩,k14,k15,k16,⟨k17,λr hr=>goodS_9 (m17 r hr)⟩,⟨k18,λr hr=>YaY (m18 r hr)⟩,trivial⟩
theorem types:lawTys Tryz.prog [127,9,48,130]=true:=by kernel_rfl
set_option maxRecDepth 100000 in
theorem lifted (os:Os) (started:os.Started) (H:Type) (enc:TypeId×Value->H):
  ReturnsInHanded {} Tryz.checked os 4 .any (Rows.fnExactUpdateSpec.pre6 enc Tryz.prog Tryz.f4 Rows.fnExactUpdateRow.domain false) (Rows.fnExactUpdateSpec.post enc Tryz.prog Tryz.f4 false true false false):=by
 refine returnsInHanded_of_change_sized (C:=Tryz.checked) own started (by kernel_rfl) Tryz.func4
  (ChangeSpec.witness6 (enc:=enc) (C:=Tryz.checked) false ⟨#[],#[.agg #[.slice none 0 0,.int .i64 0,.int .i64 0,.slice none 0 0],.int .i64 0,.string ByteArray.empty,.int .i64 0,.agg #[.int .i64 0,.string ByteArray.empty,.int .i64 0,.slice none 0 0,.slice none 0 0]],[]⟩ 8 (by kernel_rfl) (by kernel_rfl) (by kernel_rfl) (by kernel_rfl)) ?_
 intro W base args ds gs before hval0 hW hcnd hsz0 _
 have hval:∀ (j:Nat) t v,Tryz.f4.params[j]? = some t->args[j]? = some v->Value.okWide Tryz.prog W .any base t v:=hval0
 have hW':=hW
 obtain⟨p,q,hA0,hV,rfl,hfz,hnd⟩:=hW
 have hA:DataW.TrodAll enc Tryz.prog W 0 (λ_=>true) true Tryz.f4.params.toList args.toList ds p:=hA0
 have hpar:Tryz.f4.params=#[27,3,9,3,48]:=by kernel_rfl
 rw[hpar] at hA hval
 obtain⟨v0,vs0,d0,ds0,p0,q0,hargs,rfl,rfl,h0,r0⟩:=trodAll_cons hA
 obtain⟨v1,vs1,d1,ds1,p1,q1,rfl,rfl,rfl,h1,r1⟩:=trodAll_cons r0
 obtain⟨v2,vs2,d2,ds2,p2,q2,rfl,rfl,rfl,h2,r2⟩:=trodAll_cons r1
 obtain⟨v3,vs3,d3,ds3,p3,q3,rfl,rfl,rfl,h3,r3⟩:=trodAll_cons r2
 obtain⟨v4,vs4,d4,ds4,p4,q4,rfl,rfl,rfl,h4,r4⟩:=trodAll_cons r3
 obtain⟨rfl,rfl,rfl⟩:=trodAll_nil r4
 obtain rfl:args=#[v0,v1,v2,v3,v4]:=by cases args;simp_all
 obtain⟨rfl,rfl⟩:=trodVars_none hV
 have k0:=h0
 have lt0:∀ x∈p0,x.block<W.heap.size:=by obtain⟨m,hm⟩:=k0;exact DataW.trod_lt m _ _ _ hm
 obtain⟨cs0,xs0,rfl,hl0,hc0,hg0⟩:=open_agg types (by kernel_rfl) (by kernel_rfl) (hval 0 27 v0 rfl rfl) h0
 have hj0:=hg0.open (show Zq Tryz.prog 6 27=[22,3,3,25] from by kernel_rfl)
 obtain⟨ea0_0,la0_0,rfl,wa0_0,hj0_0⟩:=goodR_cons hj0
 obtain⟨aC,rfl,ka0_0,ma0_0⟩:=good_sl (e:=127) (by kernel_rfl) wa0_0
 obtain⟨ea0_1,la0_1,rfl,wa0_1,hj0_1⟩:=goodR_cons hj0_0
 obtain⟨aB,rfl,ka0_1⟩:=good_int (k:=.i64) (by kernel_rfl) wa0_1
 obtain⟨ea0_2,la0_2,rfl,wa0_2,hj0_2⟩:=goodR_cons hj0_1
 obtain⟨aD,rfl,ka0_2⟩:=good_int (k:=.i64) (by kernel_rfl) wa0_2
 obtain⟨ea0_3,la0_3,rfl,wa0_3,hj0_3⟩:=goodR_cons hj0_2
 obtain⟨aA,rfl,ka0_3,ma0_3⟩:=good_sl (e:=130) (by kernel_rfl) wa0_3
 obtain rfl:=goodR_nil hj0_3
 have k1:=h1
 have lt1:∀ x∈p1,x.block<W.heap.size:=by obtain⟨m,hm⟩:=k1;exact DataW.trod_lt m _ _ _ hm
 obtain⟨sv1,rfl,_⟩:=open_int (k:=.i64) (by kernel_rfl) (hval 1 3 v1 rfl rfl) h1
 obtain⟨ea1,hd1,wa1⟩:=open_cell types (by kernel_rfl) rfl (by kernel_rfl) h1
 obtain⟨a1,rfl,ka1⟩:=good_int (k:=.i64) (by kernel_rfl) wa1
 have k2:=h2
 have lt2:∀ x∈p2,x.block<W.heap.size:=by obtain⟨m,hm⟩:=k2;exact DataW.trod_lt m _ _ _ hm
 obtain⟨sv2,rfl,_⟩:=open_string (by kernel_rfl) (hval 2 9 v2 rfl rfl) h2
 obtain⟨ea2,hd2,wa2⟩:=open_cell types (by kernel_rfl) rfl (by kernel_rfl) h2
 obtain⟨a2,rfl,ka2⟩:=good_str (by kernel_rfl) wa2
 have k3:=h3
 have lt3:∀ x∈p3,x.block<W.heap.size:=by obtain⟨m,hm⟩:=k3;exact DataW.trod_lt m _ _ _ hm
 obtain⟨sv3,rfl,_⟩:=open_int (k:=.i64) (by kernel_rfl) (hval 3 3 v3 rfl rfl) h3
 obtain⟨ea3,hd3,wa3⟩:=open_cell types (by kernel_rfl) rfl (by kernel_rfl) h3
 obtain⟨a3,rfl,ka3⟩:=good_int (k:=.i64) (by kernel_rfl) wa3
 have k4:=h4
 have lt4:∀ x∈p4,x.block<W.heap.size:=by obtain⟨m,hm⟩:=k4;exact DataW.trod_lt m _ _ _ hm
 obtain⟨cs4,xs4,rfl,hl4,hc4,hg4⟩:=open_agg types (by kernel_rfl) (by kernel_rfl) (hval 4 48 v4 rfl rfl) h4
 have hj4:=hg4.open (show Zq Tryz.prog 6 48=[3,9,3,45,46] from by kernel_rfl)
 obtain⟨ea4_0,la4_0,rfl,wa4_0,hj4_0⟩:=goodR_cons hj4
 obtain⟨cA,rfl,ka4_0⟩:=good_int (k:=.i64) (by kernel_rfl) wa4_0
 obtain⟨ea4_1,la4_1,rfl,wa4_1,hj4_1⟩:=goodR_cons hj4_0
 obtain⟨cC,rfl,ka4_1⟩:=good_str (by kernel_rfl) wa4_1
 obtain⟨ea4_2,la4_2,rfl,wa4_2,hj4_2⟩:=goodR_cons hj4_1
 obtain⟨cE,rfl,ka4_2⟩:=good_int (k:=.i64) (by kernel_rfl) wa4_2
 obtain⟨ea4_3,la4_3,rfl,wa4_3,hj4_3⟩:=goodR_cons hj4_2
 obtain⟨cF,rfl,ka4_3,ma4_3⟩:=good_sl (e:=9) (by kernel_rfl) wa4_3
 obtain⟨ea4_4,la4_4,rfl,wa4_4,hj4_4⟩:=goodR_cons hj4_3
 obtain⟨bZ,rfl,ka4_4,ma4_4⟩:=good_sl (e:=48) (by kernel_rfl) wa4_4
 obtain rfl:=goodR_nil hj4_4
 clear hA0 hval0 hsz0
 obtain⟨kb,hkb⟩:∃ k,lv 1<=k:=⟨_,Nat.le_refl _⟩
 obtain⟨z,rfl,hz⟩:=YaA.T ⟨ka0_0,λr hr=>YaX (ma0_0 r hr)⟩ ka0_1 ka0_2 ⟨ka0_3,λr hr=>YaW (ma0_3 r hr)⟩ ka1 ka2 ka3 ka4_0 ka4_1 ka4_2 ⟨ka4_3,λr hr=>goodS_9 (ma4_3 r hr)⟩ ⟨ka4_4,λr hr=>YaY (ma4_4 r hr)⟩
 refine(law_calls (YaA.ok kb) rfl rfl (by kernel_rfl) (aa:=[.agg [.sl aC,.int .i64 aB,.int .i64 aD,.sl aA],.d (.int .i64 a1),.d (.str a2),.d (.int .i64 a3),.agg [.int .i64 cA,.str cC,.int .i64 cE,.sl cF,.sl bZ]]) (vs:=[.agg cs0.toArray,.int _ sv1,.string sv2,.int _ sv3,.agg cs4.toArray]) ?_ ⟨(),?_⟩).mono λe W' ⟨he,bel⟩=>?_
 ·exact(ZO.cons' ⟨rfl,cs0,rfl,hl0,hc0⟩ (ZO.cons' ⟨rfl,hd1⟩ (ZO.cons' ⟨rfl,hd2⟩ (ZO.cons' ⟨rfl,hd3⟩ (ZO.cons' ⟨rfl,cs4,rfl,hl4,hc4⟩ ZO.nil')))))
 ·exact(ent_run (YaA.e kb) rfl (congrArg some (hz kb hkb)) rfl)
 ·subst he
  exact⟨_,rfl,_,_,_,[],_,[],hW',trodAll_mk1 (shut_bool (by kernel_rfl) _),(trodAll_cons_mk (Below.trod laidOut (by kernel_rfl) (of_decide_eq_true (by kernel_rfl)) k0 bel lt0) (trodAll_cons_mk (Below.trod laidOut (by kernel_rfl) (of_decide_eq_true (by kernel_rfl)) k1 bel lt1) (trodAll_cons_mk (Below.trod laidOut (by kernel_rfl) (of_decide_eq_true (by kernel_rfl)) k2 bel lt2) (trodAll_cons_mk (Below.trod laidOut (by kernel_rfl) (of_decide_eq_true (by kernel_rfl)) k3 bel lt3) (trodAll_cons_mk (Below.trod laidOut (by kernel_rfl) (of_decide_eq_true (by kernel_rfl)) k4 bel lt4) trodAll_mk0))))),rfl,bel.frame _,λh=>by cases h⟩
theorem facts1:joined1 Tryz.prog 4 Tryz.f4 Rows.fnExactUpdateSpec Rows.fnExactUpdateRow=true:=by kernel_rfl
theorem facts2:joined2 Tryz.prog 4 Tryz.f4 Rows.fnExactUpdateSpec Rows.fnExactUpdateRow=true:=by kernel_rfl
theorem facts3:joined3 Tryz.prog 4 Tryz.f4 Rows.fnExactUpdateSpec Rows.fnExactUpdateRow=true:=by kernel_rfl
theorem facts4:joined4 Tryz.prog 4 Tryz.f4 Rows.fnExactUpdateSpec Rows.fnExactUpdateRow=true:=by kernel_rfl
theorem facts5:joined5 Tryz.prog 4 Tryz.f4 Rows.fnExactUpdateSpec Rows.fnExactUpdateRow=true:=by kernel_rfl
theorem facts6:joined6 Tryz.prog 4 Tryz.f4 Rows.fnExactUpdateSpec Rows.fnExactUpdateRow=true:=by kernel_rfl
theorem facts7:joined7 Tryz.prog 4 Tryz.f4 Rows.fnExactUpdateSpec Rows.fnExactUpdateRow=true:=by kernel_rfl
theorem facts8:joined8 Tryz.prog 4 Tryz.f4 Rows.fnExactUpdateSpec Rows.fnExactUpdateRow=true:=by kernel_rfl
theorem over:Rows.fnExactUpdateRow.holds Tryz.pinned (OpenSpec.ofChange Rows.fnExactUpdateSpec):=
 OpenClaim.holds_of_wide 4 Tryz.f4 rfl rfl rfl rfl rfl rfl rfl ⟨rfl,rfl,rfl,rfl,rfl⟩ rfl rfl rfl rfl rfl (by kernel_rfl) Tryz.func4 (joined_of facts1 facts2 facts3 facts4 facts5 facts6 facts7 facts8)
  (of_decide_eq_true (by kernel_rfl)) (by unfold Func.isWrapper;first|(rw[if_pos (by decide +kernel)];kernel_rfl)|(rw[if_neg (by decide +kernel)];exact⟨rfl,rfl⟩))
  (λos started H enc _=>lifted os started H enc)
theorem fnExactUpdate_holds:Rows.FnExactUpdateSaid:=over
end Go.Proofs.YtlobhlnahhjpjaaGreat
