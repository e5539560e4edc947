/- FnExactRender: the program's function answers as the reference's,for every input. No condition. -/
import Derived.Test.YtlobhlnahhjpjaaGreatRows
import Derived.Test.YtlobhlnahhjpjaaGreatYERender1
import Derived.KernelRfl
import Derived.WalkKit
import Derived.ProofKit
import Derived.OpenShut
import Derived.ShutString
import Derived.ChangeOld
import Derived.Below
import Derived.SizedLaws
set_option linter.unusedVariables false
set_option linter.unusedSimpArgs false
namespace Go.Proofs.YtlobhlnahhjpjaaGreat
open Go Go.T Go.Proofs
set_option maxRecDepth 100000 in
set_option maxHeartbeats 8000000 in
theorem YK.T {B:Nat} (hB:B<=1099511627776) {xs:LD} {n:Int} (g:ZB YaY B xs) (h0:0<=n) (h1:n+Zu xs<=4611686018427387904):Tm Fuel (λk=>YK.t k (Zc xs) n) (λz=>∃ ys,z.2=Zc ys/\ys.length=xs.length/\z.1=n+Zu xs/\∀ k,Fuel k->Fuel k):=by
 have hb:big=2^64:=rfl
 have hl:=g.1
 have key:Tm Fuel (λk=>YK.t k (Zc xs) n) (λz=>∃ ys,z.2=Zc ys/\ys.length=xs.length/\z.1=n+Zu xs/\HeldL (λ_ _ _=>True) n ys z.1):=by
  unfold YK.t YK.g
  refine Tm.loop (okk:=Fuel) (p:=λk=>k) (λi hi=>hi) (b:=λk=>YK.l0 k (λz0 z1=>some (z0,z1))) (λv=>match v with|(u,i,tab)=>((xs.length:Int)-i).toNat) (λv=>match v with|(u,i,tab)=>0<=i/\i<=xs.length/\∃ done:LD,done.length=i.toNat/\tab=Zc done++Zc (xs.drop i.toNat)/\u=n+Zu (xs.take i.toNat)/\HeldL (λ_ _ _=>True) n done u) ?_ ?_ ?_
  ·rintro⟨u,i,tab⟩ hI
   simp only[] at hI⊢
   omega
  ·exact⟨by omega,by omega,[],rfl,by simp[Zc],by simp[Zu],.nil⟩
  ·rintro⟨u,i,tab⟩ hI L hL
   simp only[] at hI
   obtain⟨i0,i1,done,hd,rfl,hu,hH⟩:=hI
   have hA:(Zc done).length=i.toNat:=by rw[ZS,hd]
   have hT:(Zc done++Zc (xs.drop i.toNat)).length=xs.length:=by rw[List.length_append,hA,ZS,List.length_drop];omega
   simp only[YK.l0]
   refine Tm.ite (λh4=>?_) (λh4=>?_)
   ·simp only[decide_eq_true_eq,hT] at h4
    have hx:=gR_at i0 h4
    obtain⟨c0,c1,c2,e,k0,k1,k2,_⟩:=(g.2 _ (gR_mem i0 h4)).open
    rw[e] at hx
    have hdr:=drop_at i0 hx
    have hw:=wt_take i0 hx
    simp only[ZbY,wtD] at hw
    have hs:=wt_split xs (i+1).toNat
    rw[hdr] at hT⊢
    simp only[Zc,ZN,deepD] at hT⊢
    have hT2:=hT
    simp only[List.length_append,List.length_cons] at hT2
    refine Tm.guard (by first|decide|(simp only[List.length_modify,List.length_append,List.length_cons];omega)) ?_
    refine Tm.guard (by first|decide|(simp only[List.length_modify,List.length_append,List.length_cons];omega)) ?_
    try simp(disch:=omega) only[Z9]
    refine Yf.tm (λi hi=>hi.1) (Tm.at (ok:=Fuel) (v:=Yf.v _) (λk hk=>Yf.tv (by omega) hk)) (λy hy=>?_)
    subst hy
    refine Tm.guard (by first|decide|(simp only[List.length_modify,List.length_append,List.length_cons];omega)) ?_
    refine Tm.guard (by first|decide|(simp only[List.length_modify,List.length_append,List.length_cons];omega)) ?_
    refine Tm.guard (by first|decide|(simp only[List.length_modify,List.length_append,List.length_cons];omega)) ?_
    try simp only[modify_mid hA,atNat_mid hA,Zs,List.take_zero,List.take_succ_cons,List.drop_succ_cons,List.drop_zero,List.nil_append,List.cons_append,List.length_cons,List.length_nil,Nat.zero_add,Nat.reduceAdd,List.set_cons_succ,List.set_cons_zero]
    refine Tm.uncons ?_
    refine Tm.cOwn ?_
    try simp(disch:=omega) only[Z9]
    refine Yl.tm (λi hi=>hi.1) (Yl.T hB k2 (by omega) (by omega)) (λy2 t2 hy=>?_)
    obtain⟨ys2,et2,el2,en2,hh2⟩:=hy
    simp only[] at et2 en2 hh2
    subst et2 en2
    try simp(disch:=omega) only[Z9]
    try simp only[modify_mid hA,Zs,List.take_zero,List.take_succ_cons,List.drop_succ_cons,List.drop_zero,List.nil_append,List.cons_append,List.length_cons,List.length_nil,Nat.zero_add,Nat.reduceAdd,List.set_cons_succ,List.set_cons_zero]
    refine hL (_,_,_) ⟨by omega,by omega,done++[[.int .i64 (u),.str (Yf.v (u+1)),.sl ys2]],by simp only[List.length_append,List.length_cons,List.length_nil];omega,?_,by omega,HeldL.snoc hH trivial⟩ (by simp only[];omega)
    rw[Zbb]
    simp only[Zc,ZN,deepD,List.append_assoc,List.cons_append,List.nil_append]
   ·simp only[decide_eq_false_iff_not,hT] at h4
    refine Tm.ret ⟨done,?_,by omega,?_,hH⟩
    ·rw[List.drop_eq_nil_of_le (by omega)]
     simp only[Zc,List.append_nil]
    ·rw[List.take_of_length_le (by omega)] at hu
     exact hu
 obtain⟨v,⟨ys,e1,e2,e3,hH⟩,h2⟩:=key
 exact⟨v,⟨ys,e1,e2,e3,λk hk=>hk⟩,h2⟩
set_option maxRecDepth 100000 in
set_option maxHeartbeats 8000000 in
theorem YJ.T {B:Nat} (hB:B<=1099511627776) {xs:LD} {n:Int} (g:ZB RSI B xs) (h0:0<=n) (h1:n+Zu xs<=4611686018427387904):Tm Fuel (λk=>YJ.t k (Zc xs) n) (λz=>∃ ys,z.2=Zc ys/\ys.length=xs.length/\z.1=n+Zu xs/\∀ k,Fuel k->Fuel k):=by
 have hb:big=2^64:=rfl
 have hl:=g.1
 have key:Tm Fuel (λk=>YJ.t k (Zc xs) n) (λz=>∃ ys,z.2=Zc ys/\ys.length=xs.length/\z.1=n+Zu xs/\HeldL (λ_ _ _=>True) n ys z.1):=by
  unfold YJ.t YJ.g
  refine Tm.loop (okk:=Fuel) (p:=λk=>k) (λi hi=>hi) (b:=λk=>YJ.l0 k (λz0 z1=>some (z0,z1))) (λv=>match v with|(u,i,tab)=>((xs.length:Int)-i).toNat) (λv=>match v with|(u,i,tab)=>0<=i/\i<=xs.length/\∃ done:LD,done.length=i.toNat/\tab=Zc done++Zc (xs.drop i.toNat)/\u=n+Zu (xs.take i.toNat)/\HeldL (λ_ _ _=>True) n done u) ?_ ?_ ?_
  ·rintro⟨u,i,tab⟩ hI
   simp only[] at hI⊢
   omega
  ·exact⟨by omega,by omega,[],rfl,by simp[Zc],by simp[Zu],.nil⟩
  ·rintro⟨u,i,tab⟩ hI L hL
   simp only[] at hI
   obtain⟨i0,i1,done,hd,rfl,hu,hH⟩:=hI
   have hA:(Zc done).length=i.toNat:=by rw[ZS,hd]
   have hT:(Zc done++Zc (xs.drop i.toNat)).length=xs.length:=by rw[List.length_append,hA,ZS,List.length_drop];omega
   simp only[YJ.l0]
   refine Tm.ite (λh4=>?_) (λh4=>?_)
   ·simp only[decide_eq_true_eq,hT] at h4
    have hx:=gR_at i0 h4
    obtain⟨c0,c1,e,k0,k1,_⟩:=(g.2 _ (gR_mem i0 h4)).open
    rw[e] at hx
    have hdr:=drop_at i0 hx
    have hw:=wt_take i0 hx
    simp only[ZbY,wtD] at hw
    have hs:=wt_split xs (i+1).toNat
    rw[hdr] at hT⊢
    simp only[Zc,ZN,deepD] at hT⊢
    have hT2:=hT
    simp only[List.length_append,List.length_cons] at hT2
    try simp(disch:=omega) only[Z9]
    refine Yf.tm (λi hi=>hi.1) (Tm.at (ok:=Fuel) (v:=Yf.v _) (λk hk=>Yf.tv (by omega) hk)) (λy hy=>?_)
    subst hy
    refine Tm.guard (by first|decide|(simp only[List.length_modify,List.length_append,List.length_cons];omega)) ?_
    refine Tm.guard (by first|decide|(simp only[List.length_modify,List.length_append,List.length_cons];omega)) ?_
    refine Tm.guard (by first|decide|(simp only[List.length_modify,List.length_append,List.length_cons];omega)) ?_
    refine Tm.guard (by first|decide|(simp only[List.length_modify,List.length_append,List.length_cons];omega)) ?_
    try simp(disch:=omega) only[Z9]
    try simp only[modify_mid hA,Zs,List.take_zero,List.take_succ_cons,List.drop_succ_cons,List.drop_zero,List.nil_append,List.cons_append,List.length_cons,List.length_nil,Nat.zero_add,Nat.reduceAdd,List.set_cons_succ,List.set_cons_zero]
    refine hL (_,_,_) ⟨by omega,by omega,done++[[.str (Yf.v (u)),.int .i64 (u+1)]],by simp only[List.length_append,List.length_cons,List.length_nil];omega,?_,by omega,HeldL.snoc hH trivial⟩ (by simp only[];omega)
    rw[Zbb]
    simp only[Zc,ZN,deepD,List.append_assoc,List.cons_append,List.nil_append]
   ·simp only[decide_eq_false_iff_not,hT] at h4
    refine Tm.ret ⟨done,?_,by omega,?_,hH⟩
    ·rw[List.drop_eq_nil_of_le (by omega)]
     simp only[Zc,List.append_nil]
    ·rw[List.take_of_length_le (by omega)] at hu
     exact hu
 obtain⟨v,⟨ys,e1,e2,e3,hH⟩,h2⟩:=key
 exact⟨v,⟨ys,e1,e2,e3,λk hk=>hk⟩,h2⟩
set_option maxRecDepth 100000 in
set_option maxHeartbeats 8000000 in
theorem Yax.T {B:Nat} (hB:B<=1099511627776) {c0:Int} {a1 a2 a3:LD} {n:Int} (g1:ZB YaY B a1) (g2:ZB RS B a2) (g3:ZB RSI B a3) (h0:0<=n) (h1:n+Zu a1+Zu a2+Zu a3<=4611686018427387904):Tm Fuel (λk=>Yax.t k c0 (Zc a1) (Zc a2) (Zc a3) n) (λz=>∃ ys1 ys2 ys3,z.1=n+Zu a1+Zu a2+Zu a3/\z.2.1=Zc ys1/\z.2.2.1=Zc ys2/\z.2.2.2=Zc ys3/\ys1.length=a1.length/\ys2.length=a2.length/\ys3.length=a3.length/\∀ k,Fuel k->Fuel k):=by
 unfold Yax.t Yax.g
 refine YK.tm (λi hi=>hi) (YK.T hB g1 (by omega) (by omega)) (λy1 t1 hy=>?_)
 obtain⟨ys1,et1,el1,en1,hh1⟩:=hy
 simp only[] at et1 en1 hh1
 subst et1 en1
 try refine Tm.guard (by rw[ZS,ZS];first|exact el1|exact el1.1) ?_
 refine Yl.tm (λi hi=>hi) (Yl.T hB g2 (by omega) (by omega)) (λy2 t2 hy=>?_)
 obtain⟨ys2,et2,el2,en2,hh2⟩:=hy
 simp only[] at et2 en2 hh2
 subst et2 en2
 try refine Tm.guard (by rw[ZS,ZS];first|exact el2|exact el2.1) ?_
 refine YJ.tm (λi hi=>hi) (YJ.T hB g3 (by omega) (by omega)) (λy3 t3 hy=>?_)
 obtain⟨ys3,et3,el3,en3,hh3⟩:=hy
 simp only[] at et3 en3 hh3
 subst et3 en3
 try refine Tm.guard (by rw[ZS,ZS];first|exact el3|exact el3.1) ?_
 exact Tm.ret ⟨ys1,ys2,ys3,rfl,rfl,rfl,rfl,(by first|exact el1|exact el1.1),(by first|exact el2|exact el2.1),(by first|exact el3|exact el3.1),λk hk=>hk⟩
set_option maxRecDepth 100000 in
set_option maxHeartbeats 8000000 in
theorem YX.T {B:Nat} (hB:B<=1099511627776) {xs:LD} {n:Int} (g:ZB Yn B xs) (h0:0<=n) (h1:n+Zu xs<=4611686018427387904):Tm (Zai 1) (λk=>YX.t k (Zc xs) n) (λz=>∃ ys,z.2=Zc ys/\ys.length=xs.length/\z.1=n+Zu xs/\∀ k,(Zai 1) k->(Zai 1) k):=by
 have hb:big=2^64:=rfl
 have hl:=g.1
 have key:Tm (Zai 1) (λk=>YX.t k (Zc xs) n) (λz=>∃ ys,z.2=Zc ys/\ys.length=xs.length/\z.1=n+Zu xs/\HeldL (λ_ _ _=>True) n ys z.1):=by
  unfold YX.t YX.g
  refine Tm.loop (okk:=(Zai 1)) (p:=λk=>k) (λi hi=>up0 hi) (b:=λk=>YX.l0 k (λz0 z1=>some (z0,z1))) (λv=>match v with|(u,i,tab)=>((xs.length:Int)-i).toNat) (λv=>match v with|(u,i,tab)=>0<=i/\i<=xs.length/\∃ done:LD,done.length=i.toNat/\tab=Zc done++Zc (xs.drop i.toNat)/\u=n+Zu (xs.take i.toNat)/\HeldL (λ_ _ _=>True) n done u) ?_ ?_ ?_
  ·rintro⟨u,i,tab⟩ hI
   simp only[] at hI⊢
   omega
  ·exact⟨by omega,by omega,[],rfl,by simp[Zc],by simp[Zu],.nil⟩
  ·rintro⟨u,i,tab⟩ hI L hL
   simp only[] at hI
   obtain⟨i0,i1,done,hd,rfl,hu,hH⟩:=hI
   have hA:(Zc done).length=i.toNat:=by rw[ZS,hd]
   have hT:(Zc done++Zc (xs.drop i.toNat)).length=xs.length:=by rw[List.length_append,hA,ZS,List.length_drop];omega
   simp only[YX.l0]
   refine Tm.ite (λh4=>?_) (λh4=>?_)
   ·simp only[decide_eq_true_eq,hT] at h4
    have hx:=gR_at i0 h4
    obtain⟨c0,c1,c2,c3,c4,c5,c6,e,k0,k1,k2,k3,k4,k5,k6,_⟩:=(g.2 _ (gR_mem i0 h4)).open
    rw[e] at hx
    have hdr:=drop_at i0 hx
    have hw:=wt_take i0 hx
    simp only[ZbY,wtD] at hw
    have hs:=wt_split xs (i+1).toNat
    rw[hdr] at hT⊢
    simp only[Zc,ZN,deepD] at hT⊢
    have hT2:=hT
    simp only[List.length_append,List.length_cons] at hT2
    refine Tm.guard (by first|decide|(simp only[List.length_modify,List.length_append,List.length_cons];omega)) ?_
    refine Tm.guard (by first|decide|(simp only[List.length_modify,List.length_append,List.length_cons];omega)) ?_
    refine Tm.guard (by first|decide|(simp only[List.length_modify,List.length_append,List.length_cons];omega)) ?_
    try simp only[modify_mid hA,atNat_mid hA,Zs,List.take_zero,List.take_succ_cons,List.drop_succ_cons,List.drop_zero,List.nil_append,List.cons_append,List.length_cons,List.length_nil,Nat.zero_add,Nat.reduceAdd,List.set_cons_succ,List.set_cons_zero]
    refine Tm.uncons ?_
    refine Tm.cOwn ?_
    try simp(disch:=omega) only[Z9]
    refine Yl.tm (λi hi=>up0 hi.1) (Yl.T hB k1 (by omega) (by omega)) (λy1 t1 hy=>?_)
    obtain⟨ys1,et1,el1,en1,hh1⟩:=hy
    simp only[] at et1 en1 hh1
    subst et1 en1
    refine Tm.guard (by first|decide|(simp only[List.length_modify,List.length_append,List.length_cons];omega)) ?_
    refine Tm.guard (by first|decide|(simp only[List.length_modify,List.length_append,List.length_cons];omega)) ?_
    try simp(disch:=omega) only[Z9]
    refine Yf.tm (λi hi=>up0 hi.1) (Tm.at (ok:=Fuel) (v:=Yf.v _) (λk hk=>Yf.tv (by omega) hk)) (λy hy=>?_)
    subst hy
    refine Tm.guard (by first|decide|(simp only[List.length_modify,List.length_append,List.length_cons];omega)) ?_
    refine Tm.guard (by first|decide|(simp only[List.length_modify,List.length_append,List.length_cons];omega)) ?_
    refine Tm.guard (by first|decide|(simp only[List.length_modify,List.length_append,List.length_cons];omega)) ?_
    refine Tm.guard (by first|decide|(simp only[List.length_modify,List.length_append,List.length_cons];omega)) ?_
    refine Tm.guard (by first|decide|(simp only[List.length_modify,List.length_append,List.length_cons];omega)) ?_
    try simp only[modify_mid hA,atNat_mid hA,Zs,List.take_zero,List.take_succ_cons,List.drop_succ_cons,List.drop_zero,List.nil_append,List.cons_append,List.length_cons,List.length_nil,Nat.zero_add,Nat.reduceAdd,List.set_cons_succ,List.set_cons_zero]
    refine Tm.uncons ?_
    refine Tm.cOwn ?_
    try simp(disch:=omega) only[Z9]
    refine Yl.tm (λi hi=>up0 hi.1) (Yl.T hB k5 (by omega) (by omega)) (λy5 t5 hy=>?_)
    obtain⟨ys5,et5,el5,en5,hh5⟩:=hy
    simp only[] at et5 en5 hh5
    subst et5 en5
    refine Tm.guard (by first|decide|(simp only[List.length_modify,List.length_append,List.length_cons];omega)) ?_
    try simp only[modify_mid hA,atNat_mid hA,Zs,List.take_zero,List.take_succ_cons,List.drop_succ_cons,List.drop_zero,List.nil_append,List.cons_append,List.length_cons,List.length_nil,Nat.zero_add,Nat.reduceAdd,List.set_cons_succ,List.set_cons_zero]
    refine Tm.uncons ?_
    refine Tm.cOwn ?_
    try simp(disch:=omega) only[Z9]
    refine Yk.tm (λi hi=>hi.1) (Yk.T hB k6 (by omega) (by omega)) (λy6 t6 hy=>?_)
    obtain⟨ys6,et6,el6,en6,hh6⟩:=hy
    simp only[] at et6 en6 hh6
    subst et6 en6
    try simp(disch:=omega) only[Z9]
    try simp only[modify_mid hA,Zs,List.take_zero,List.take_succ_cons,List.drop_succ_cons,List.drop_zero,List.nil_append,List.cons_append,List.length_cons,List.length_nil,Nat.zero_add,Nat.reduceAdd,List.set_cons_succ,List.set_cons_zero]
    refine hL (_,_,_) ⟨by omega,by omega,done++[[.int .i64 (u),.sl ys1,.int .i64 (u+1+(Zu c1:Int)),.str (Yf.v (u+1+(Zu c1:Int)+1)),.int .i64 (u+1+(Zu c1:Int)+1+1),.sl ys5,.sl ys6]],by simp only[List.length_append,List.length_cons,List.length_nil];omega,?_,by omega,HeldL.snoc hH trivial⟩ (by simp only[];omega)
    rw[Zbb]
    simp only[Zc,ZN,deepD,List.append_assoc,List.cons_append,List.nil_append]
   ·simp only[decide_eq_false_iff_not,hT] at h4
    refine Tm.ret ⟨done,?_,by omega,?_,hH⟩
    ·rw[List.drop_eq_nil_of_le (by omega)]
     simp only[Zc,List.append_nil]
    ·rw[List.take_of_length_le (by omega)] at hu
     exact hu
 obtain⟨v,⟨ys,e1,e2,e3,hH⟩,h2⟩:=key
 exact⟨v,⟨ys,e1,e2,e3,λk hk=>hk⟩,h2⟩
set_option maxRecDepth 100000 in
set_option maxHeartbeats 8000000 in
theorem YL.T {B:Nat} (hB:B<=1099511627776) {xs:LD} {n:Int} (g:ZB Yg B xs) (h0:0<=n) (h1:n+Zu xs<=4611686018427387904):Tm (Zai 1) (λk=>YL.t k (Zc xs) n) (λz=>∃ ys,z.2=Zc ys/\ys.length=xs.length/\z.1=n+Zu xs/\∀ k,(Zai 1) k->(Zai 1) k):=by
 have hb:big=2^64:=rfl
 have hl:=g.1
 have key:Tm (Zai 1) (λk=>YL.t k (Zc xs) n) (λz=>∃ ys,z.2=Zc ys/\ys.length=xs.length/\z.1=n+Zu xs/\HeldL (λ_ _ _=>True) n ys z.1):=by
  unfold YL.t YL.g
  refine Tm.loop (okk:=(Zai 1)) (p:=λk=>k) (λi hi=>up0 hi) (b:=λk=>YL.l0 k (λz0 z1=>some (z0,z1))) (λv=>match v with|(u,i,tab)=>((xs.length:Int)-i).toNat) (λv=>match v with|(u,i,tab)=>0<=i/\i<=xs.length/\∃ done:LD,done.length=i.toNat/\tab=Zc done++Zc (xs.drop i.toNat)/\u=n+Zu (xs.take i.toNat)/\HeldL (λ_ _ _=>True) n done u) ?_ ?_ ?_
  ·rintro⟨u,i,tab⟩ hI
   simp only[] at hI⊢
   omega
  ·exact⟨by omega,by omega,[],rfl,by simp[Zc],by simp[Zu],.nil⟩
  ·rintro⟨u,i,tab⟩ hI L hL
   simp only[] at hI
   obtain⟨i0,i1,done,hd,rfl,hu,hH⟩:=hI
   have hA:(Zc done).length=i.toNat:=by rw[ZS,hd]
   have hT:(Zc done++Zc (xs.drop i.toNat)).length=xs.length:=by rw[List.length_append,hA,ZS,List.length_drop];omega
   simp only[YL.l0]
   refine Tm.ite (λh4=>?_) (λh4=>?_)
   ·simp only[decide_eq_true_eq,hT] at h4
    have hx:=gR_at i0 h4
    obtain⟨c0,c1,e,k0,k1,_⟩:=(g.2 _ (gR_mem i0 h4)).open
    rw[e] at hx
    have hdr:=drop_at i0 hx
    have hw:=wt_take i0 hx
    simp only[ZbY,wtD] at hw
    have hs:=wt_split xs (i+1).toNat
    rw[hdr] at hT⊢
    simp only[Zc,ZN,deepD] at hT⊢
    have hT2:=hT
    simp only[List.length_append,List.length_cons] at hT2
    try simp(disch:=omega) only[Z9]
    refine Yf.tm (λi hi=>up0 hi.1) (Tm.at (ok:=Fuel) (v:=Yf.v _) (λk hk=>Yf.tv (by omega) hk)) (λy hy=>?_)
    subst hy
    refine Tm.guard (by first|decide|(simp only[List.length_modify,List.length_append,List.length_cons];omega)) ?_
    refine Tm.guard (by first|decide|(simp only[List.length_modify,List.length_append,List.length_cons];omega)) ?_
    refine Tm.guard (by first|decide|(simp only[List.length_modify,List.length_append,List.length_cons];omega)) ?_
    try simp only[modify_mid hA,atNat_mid hA,Zs,List.take_zero,List.take_succ_cons,List.drop_succ_cons,List.drop_zero,List.nil_append,List.cons_append,List.length_cons,List.length_nil,Nat.zero_add,Nat.reduceAdd,List.set_cons_succ,List.set_cons_zero]
    refine Tm.uncons ?_
    refine Tm.cOwn ?_
    try simp(disch:=omega) only[Z9]
    refine YX.tm (λi hi=>hi.1) (YX.T hB k1 (by omega) (by omega)) (λy1 t1 hy=>?_)
    obtain⟨ys1,et1,el1,en1,hh1⟩:=hy
    simp only[] at et1 en1 hh1
    subst et1 en1
    try simp(disch:=omega) only[Z9]
    try simp only[modify_mid hA,Zs,List.take_zero,List.take_succ_cons,List.drop_succ_cons,List.drop_zero,List.nil_append,List.cons_append,List.length_cons,List.length_nil,Nat.zero_add,Nat.reduceAdd,List.set_cons_succ,List.set_cons_zero]
    refine hL (_,_,_) ⟨by omega,by omega,done++[[.str (Yf.v (u)),.sl ys1]],by simp only[List.length_append,List.length_cons,List.length_nil];omega,?_,by omega,HeldL.snoc hH trivial⟩ (by simp only[];omega)
    rw[Zbb]
    simp only[Zc,ZN,deepD,List.append_assoc,List.cons_append,List.nil_append]
   ·simp only[decide_eq_false_iff_not,hT] at h4
    refine Tm.ret ⟨done,?_,by omega,?_,hH⟩
    ·rw[List.drop_eq_nil_of_le (by omega)]
     simp only[Zc,List.append_nil]
    ·rw[List.take_of_length_le (by omega)] at hu
     exact hu
 obtain⟨v,⟨ys,e1,e2,e3,hH⟩,h2⟩:=key
 exact⟨v,⟨ys,e1,e2,e3,λk hk=>hk⟩,h2⟩
set_option maxRecDepth 100000 in
set_option maxHeartbeats 8000000 in
theorem Yav.T {B:Nat} (hB:B<=1099511627776) {c0:Int} {c1:BA} {c2 c6:Int} {c7:BA} {c8:Int} {c12:Bool} {a3 a4 a5 a9 a10 a11:LD} {n:Int} (g3:ZB YaY B a3) (g4:ZB RS B a4) (g5:ZB RSI B a5) (g9:ZB RS B a9) (g10:ZB Yr B a10) (g11:ZB Yg B a11) (h0:0<=n) (h1:n+Zu a3+Zu a4+Zu a5+Zu a9+Zu a10+Zu a11<=4611686018427387904):Tm (Zai 1) (λk=>Yav.t k c0 c1 c2 (Zc a3) (Zc a4) (Zc a5) c6 c7 c8 (Zc a9) (Zc a10) (Zc a11) c12 n) (λz=>∃ ys3 ys4 ys5 ys9 ys10 ys11,z.1=n+Zu a3+Zu a4+Zu a5+Zu a9+Zu a10+Zu a11/\z.2.1=Zc ys3/\z.2.2.1=Zc ys4/\z.2.2.2.1=Zc ys5/\z.2.2.2.2.1=Zc ys9/\z.2.2.2.2.2.1=Zc ys10/\z.2.2.2.2.2.2=Zc ys11/\ys3.length=a3.length/\ys4.length=a4.length/\ys5.length=a5.length/\ys9.length=a9.length/\ys10.length=a10.length/\ys11.length=a11.length/\∀ k,(Zai 1) k->(Zai 1) k):=by
 unfold Yav.t Yav.g
 refine Yax.tm (λi hi=>up0 hi) (Yax.T hB g3 g4 g5 (by omega) (by omega)) (λy3 t3 t4 t5 hy=>?_)
 obtain⟨ys3,ys4,ys5,en3,et3,et4,et5,el3,el4,el5,hh3⟩:=hy
 simp only[] at en3 et3 et4 et5 hh3
 subst en3 et3 et4 et5
 try refine Tm.guard (by rw[ZS,ZS];exact el3) ?_
 try refine Tm.guard (by rw[ZS,ZS];exact el4) ?_
 try refine Tm.guard (by rw[ZS,ZS];exact el5) ?_
 refine Yam.tm (λi hi=>hi) (Yam.T hB g9 g10 (by omega) (by omega)) (λy9 t9 t10 hy=>?_)
 obtain⟨ys9,ys10,en9,et9,et10,el9,el10,hh9⟩:=hy
 simp only[] at en9 et9 et10 hh9
 subst en9 et9 et10
 try refine Tm.guard (by rw[ZS,ZS];exact el9) ?_
 try refine Tm.guard (by rw[ZS,ZS];exact el10) ?_
 refine YL.tm (λi hi=>hi) (YL.T hB g11 (by omega) (by omega)) (λy11 t11 hy=>?_)
 obtain⟨ys11,et11,el11,en11,hh11⟩:=hy
 simp only[] at et11 en11 hh11
 subst et11 en11
 try refine Tm.guard (by rw[ZS,ZS];first|exact el11|exact el11.1) ?_
 exact Tm.ret ⟨ys3,ys4,ys5,ys9,ys10,ys11,rfl,rfl,rfl,rfl,rfl,rfl,rfl,(by first|exact el3|exact el3.1),(by first|exact el4|exact el4.1),(by first|exact el5|exact el5.1),(by first|exact el9|exact el9.1),(by first|exact el10|exact el10.1),(by first|exact el11|exact el11.1),λk hk=>hk⟩
theorem Yaz.T {aB:Int} {aA:BA} {aC:Int} {aD aE aK:LD} {aL:Int} {aZ:BA} {bA:Int} {aX aW aY:LD} {bC:Bool} {a1:BA} (ga0_0:(Lit.int .i64 aB).wf=true) (ga0_1:aA.size<=maxLen) (ga0_2:(Lit.int .i64 aC).wf=true) (ga0_3:ZB YaY maxLen aD) (ga0_4:ZB RS maxLen aE) (ga0_5:ZB RSI maxLen aK) (ga0_6:(Lit.int .i64 aL).wf=true) (ga0_7:aZ.size<=maxLen) (ga0_8:(Lit.int .i64 bA).wf=true) (ga0_9:ZB RS maxLen aX) (ga0_10:ZB Yr maxLen aW) (ga0_11:ZB Yg maxLen aY) (ga1:a1.size<=maxLen):Tm (Zai 2) (λk=>Yaz.t k aB aA aC aD aE aK aL aZ bA aX aW aY bC a1) (λr=>r=true):=by
 unfold Yaz.t Yaz.g
 have hm:=maxLen_eq
 have hlim:lim=1048576:=rfl
 refine Tm.ite (λh1=>?_) (λh1=>?_)
 ·try simp only[bz0,bz1,bz2,bz3,bz4,bz5,bz6,bz7,bz8,bz9,bza] at h1
  exact Tm.ret (by first|rfl|(exfalso;omega)|(exfalso;simp[strEq_self] at *))
 ·try simp only[bz0,bz1,bz2,bz3,bz4,bz5,bz6,bz7,bz8,bz9,bza] at h1
  refine YaU.tm (λi hi=>upn hi (by decide)) (YaU.T (by first|assumption|omega) (by first|assumption|omega) (by first|assumption|omega) (by first|assumption|omega) (by first|assumption|omega) (by first|assumption|omega) (by first|assumption|omega) (by first|assumption|omega) (by first|assumption|omega) (by first|assumption|omega)) (λy3 hy2=>?_)
  rcases hy2 with hy2|⟨p13,p14,q4,q5,q6,q7,q8,q9,q10,q11,q12,_⟩
  ·exact Tm.ite (λ_=>Tm.ret (by rfl)) (λh=>by simp at h;omega)
  refine Tm.ite (λh15=>?_) (λh15=>?_)
  ·try simp only[bz0,bz1,bz2,bz3,bz4,bz5,bz6,bz7,bz8,bz9,bza] at h15
   exact Tm.ret (by first|rfl|(exfalso;omega)|(exfalso;simp[strEq_self] at *))
  ·try simp only[bz0,bz1,bz2,bz3,bz4,bz5,bz6,bz7,bz8,bz9,bza] at h15
   refine Yar.tm (λi hi=>upn hi (by decide)) (Yar.T (by first|assumption|omega) (by first|assumption|omega) (by first|assumption|omega) (by first|assumption|omega) (by first|assumption|omega) (by first|assumption|omega) (by first|assumption|omega) (by first|assumption|omega)) (λy17 y18 y19 y20 y21 y22 y23 y24 y25 y26 y27 y28 y29 hy16=>?_)
   try simp only[] at hy16
   obtain⟨rfl,rfl,rfl,rfl,rfl,rfl,rfl,rfl,rfl,rfl,rfl,rfl,rfl,_⟩:=hy16
   try simp only[ZK]
   refine YW.tm (λi hi=>upn hi (by decide)) (Tm.self (YW.T (by first|assumption|omega) (by first|assumption|omega) (by first|assumption|omega) (by first|assumption|omega) (by first|assumption|omega) (by first|assumption|omega) (by first|assumption|omega) (by first|assumption|omega) (by first|assumption|omega) (by first|assumption|omega) (by first|assumption|omega) (by first|assumption|omega) (by first|assumption|omega) (by first|assumption|omega) (by first|assumption|omega) (by first|assumption|omega))) (λy31 y32 y33 y34 y35 y36 hy30=>?_)
   have hf37:=hy30.1
   try simp only[] at hf37
   obtain⟨q38,q39,q40,q41,q42,_⟩:=hf37
   refine Yar.tm (λi hi=>upn hi (by decide)) (Yar.T (by first|assumption|omega) (by first|assumption|omega) (by first|assumption|omega) (by first|assumption|omega) (by first|assumption|omega) (by first|assumption|omega) (by first|assumption|omega) (by first|assumption|omega)) (λy44 y45 y46 y47 y48 y49 y50 y51 y52 y53 y54 y55 y56 hy43=>?_)
   try simp only[] at hy43
   obtain⟨rfl,rfl,rfl,rfl,rfl,rfl,rfl,rfl,rfl,rfl,rfl,rfl,rfl,_⟩:=hy43
   try simp only[ZK]
   refine Yat.tm (λi hi=>hi) (Tm.at (ok:=(Zai 2)) (v:=(y31,y32,y33,Zc (C.immRows y34),Zc (C.immRows y35),y36)) (λk hk=>Yat.same (by first|assumption|omega) (by first|assumption|omega) (by first|assumption|omega) (by first|assumption|omega) (by first|assumption|omega) (by first|assumption|omega) (by first|assumption|omega) (by first|assumption|omega) (by first|assumption|omega) (by first|assumption|omega) (by first|assumption|omega) (by first|assumption|omega) (by first|assumption|omega) (by first|assumption|omega) (by first|assumption|omega) (by first|assumption|omega) hk ((hy30.2) k (upn hk (by decide))))) (λy58 y59 y60 y61 y62 y63 hy57=>?_)
   simp only[Prod.mk.injEq] at hy57;obtain⟨hy57e0,hy57e1,hy57e2,hy57e3,hy57e4,hy57e5⟩:=hy57;subst y58 y59 y60 y61 y62 y63
   try simp only[ZK]
   refine YG.tm (λi hi=>upn hi (by decide)) (YG.T (by first|assumption|omega) (by first|assumption|omega) (by first|assumption|omega) (by first|assumption|omega)) (λy65 hy64=>?_)
   subst hy64
   refine Tm.ite (λh66=>?_) (λh66=>?_)
   ·try simp only[bz0,bz1,bz2,bz3,bz4,bz5,bz6,bz7,bz8,bz9,bza] at h66
    exact Tm.ret (by first|rfl|(exfalso;omega)|(exfalso;simp[strEq_self] at *))
   ·try simp only[bz0,bz1,bz2,bz3,bz4,bz5,bz6,bz7,bz8,bz9,bza] at h66
    refine Tm.ite (λh67=>?_) (λh67=>?_)
    ·try simp only[bz0,bz1,bz2,bz3,bz4,bz5,bz6,bz7,bz8,bz9,bza] at h67
     exact Tm.ret (by first|rfl|(exfalso;omega)|(exfalso;simp[strEq_self] at *))
    ·try simp only[bz0,bz1,bz2,bz3,bz4,bz5,bz6,bz7,bz8,bz9,bza] at h67
     refine Yar.tm (λi hi=>upn hi (by decide)) (Yar.T (by first|assumption|omega) (by first|assumption|omega) (by first|assumption|omega) (by first|assumption|omega) (by first|assumption|omega) (by first|assumption|omega) (by first|assumption|omega) (by first|assumption|omega)) (λy69 y70 y71 y72 y73 y74 y75 y76 y77 y78 y79 y80 y81 hy68=>?_)
     try simp only[] at hy68
     obtain⟨rfl,rfl,rfl,rfl,rfl,rfl,rfl,rfl,rfl,rfl,rfl,rfl,rfl,_⟩:=hy68
     try simp only[ZK]
     refine YaV.tm (λi hi=>upn hi (by decide)) (YaV.T (by first|assumption|omega) (by first|assumption|omega) (by first|assumption|omega) (by first|assumption|omega) (by first|assumption|omega) (by first|assumption|omega) (by first|assumption|omega) (by first|assumption|omega) (by first|assumption|omega)) (λy83 hy82=>?_)
     subst hy82
     refine Tm.ite (λh84=>?_) (λh84=>?_)
     ·try simp only[bz0,bz1,bz2,bz3,bz4,bz5,bz6,bz7,bz8,bz9,bza] at h84
      exact Tm.ret (by first|rfl|(exfalso;omega)|(exfalso;simp[strEq_self] at *))
     ·try simp only[bz0,bz1,bz2,bz3,bz4,bz5,bz6,bz7,bz8,bz9,bza] at h84
      refine Yav.tm (λi hi=>upn hi (by decide)) (Yav.T (B:=2097152) (by decide) (by first|assumption|exact YaY.wide (by assumption)) (by first|assumption|exact RS.wide (by assumption)) (by first|assumption|exact RSI.wide (by assumption)) (by first|assumption|exact RS.wide (by assumption)) (by first|assumption|exact Yr.wide (by assumption)) (by first|assumption|exact Yg.wide (by assumption)) (by omega) (by omega)) (λy86 y87 y88 y89 y90 y91 y92 hy85=>?_)
      obtain⟨ys94,ys95,ys96,ys97,ys98,ys99,en112,et100,et101,et102,et103,et104,et105,el106,el107,el108,el109,el110,el111,hh93⟩:=hy85
      simp only[] at en112 et100 et101 et102 et103 et104 et105 hh93
      subst en112 et100 et101 et102 et103 et104 et105
      refine Tm.guard (by first|omega|(simp only[ZS];assumption)|(simp only[lim,maxLen_eq,Z8] at *;omega)|(simp only[lim,Z8] at *;refine⟨?_,?_,?_,?_⟩<;>omega)) ?_
      refine Tm.guard (by first|omega|(simp only[ZS];assumption)|(simp only[lim,maxLen_eq,Z8] at *;omega)|(simp only[lim,Z8] at *;refine⟨?_,?_,?_,?_⟩<;>omega)) ?_
      refine Tm.guard (by first|omega|(simp only[ZS];assumption)|(simp only[lim,maxLen_eq,Z8] at *;omega)|(simp only[lim,Z8] at *;refine⟨?_,?_,?_,?_⟩<;>omega)) ?_
      refine Tm.guard (by first|omega|(simp only[ZS];assumption)|(simp only[lim,maxLen_eq,Z8] at *;omega)|(simp only[lim,Z8] at *;refine⟨?_,?_,?_,?_⟩<;>omega)) ?_
      refine Tm.guard (by first|omega|(simp only[ZS];assumption)|(simp only[lim,maxLen_eq,Z8] at *;omega)|(simp only[lim,Z8] at *;refine⟨?_,?_,?_,?_⟩<;>omega)) ?_
      refine Tm.guard (by first|omega|(simp only[ZS];assumption)|(simp only[lim,maxLen_eq,Z8] at *;omega)|(simp only[lim,Z8] at *;refine⟨?_,?_,?_,?_⟩<;>omega)) ?_
      refine Tm.ite (λh113=>?_) (λh113=>?_)
      ·try simp only[bz0,bz1,bz2,bz3,bz4,bz5,bz6,bz7,bz8,bz9,bza] at h113
       exact Tm.ret (by first|rfl|(exfalso;omega)|(exfalso;simp[strEq_self] at *))
      ·try simp only[bz0,bz1,bz2,bz3,bz4,bz5,bz6,bz7,bz8,bz9,bza] at h113
       refine YG.tm (λi hi=>upn hi (by decide)) (YG.T (by first|assumption|omega) (by first|assumption|omega) (by first|assumption|omega) (by first|assumption|omega)) (λy115 hy114=>?_)
       subst hy114
       refine Tm.ite (λh116=>?_) (λh116=>?_)
       ·try simp only[bz0,bz1,bz2,bz3,bz4,bz5,bz6,bz7,bz8,bz9,bza] at h116
        exact Tm.ret (by first|rfl|(exfalso;omega)|(exfalso;simp[strEq_self] at *))
       ·try simp only[bz0,bz1,bz2,bz3,bz4,bz5,bz6,bz7,bz8,bz9,bza] at h116
        refine Tm.ite (λh117=>?_) (λh117=>?_)
        ·try simp only[bz0,bz1,bz2,bz3,bz4,bz5,bz6,bz7,bz8,bz9,bza] at h117
         exact Tm.ret (by first|rfl|(exfalso;omega)|(exfalso;simp[strEq_self] at *))
        ·try simp only[bz0,bz1,bz2,bz3,bz4,bz5,bz6,bz7,bz8,bz9,bza] at h117
         refine Yam.tm (λi hi=>upn hi (by decide)) (Yam.T (B:=2097152) (by decide) (by first|assumption|exact RS.wide (by assumption)) (by first|assumption|exact Yr.wide (by assumption)) (by omega) (by omega)) (λy119 y120 y121 hy118=>?_)
         obtain⟨ys123,ys124,en129,et125,et126,el127,el128,hh122⟩:=hy118
         simp only[] at en129 et125 et126 hh122
         subst en129 et125 et126
         refine Tm.guard (by first|omega|(simp only[ZS];assumption)|(simp only[lim,maxLen_eq,Z8] at *;omega)|(simp only[lim,Z8] at *;refine⟨?_,?_,?_,?_⟩<;>omega)) ?_
         refine Tm.guard (by first|omega|(simp only[ZS];assumption)|(simp only[lim,maxLen_eq,Z8] at *;omega)|(simp only[lim,Z8] at *;refine⟨?_,?_,?_,?_⟩<;>omega)) ?_
         try simp only[ZK]
         refine Yas.tm (λi hi=>upn hi (by decide)) (Tm.at (ok:=(Zai 1)) (λk hk=>hh122 k hk)) (λy131 hy130=>?_)
         subst hy130
         refine Tm.ite (λh132=>?_) (λh132=>?_)
         ·try simp only[bz0,bz1,bz2,bz3,bz4,bz5,bz6,bz7,bz8,bz9,bza] at h132
          exact Tm.ret (by first|rfl|(exfalso;omega)|(exfalso;simp[strEq_self] at *))
         ·try simp only[bz0,bz1,bz2,bz3,bz4,bz5,bz6,bz7,bz8,bz9,bza] at h132
          refine Tm.ite (λh133=>?_) (λh133=>?_)
          ·try simp only[bz0,bz1,bz2,bz3,bz4,bz5,bz6,bz7,bz8,bz9,bza] at h133
           exact Tm.ret (by first|rfl|(exfalso;omega)|(exfalso;simp[strEq_self] at *))
          ·try simp only[bz0,bz1,bz2,bz3,bz4,bz5,bz6,bz7,bz8,bz9,bza] at h133
           refine Yar.tm (λi hi=>upn hi (by decide)) (Yar.T (by first|assumption|omega) (by first|assumption|omega) (by first|assumption|omega) (by first|assumption|omega) (by first|assumption|omega) (by first|assumption|omega) (by first|assumption|omega) (by first|assumption|omega)) (λy135 y136 y137 y138 y139 y140 y141 y142 y143 y144 y145 y146 y147 hy134=>?_)
           try simp only[] at hy134
           obtain⟨rfl,rfl,rfl,rfl,rfl,rfl,rfl,rfl,rfl,rfl,rfl,rfl,rfl,_⟩:=hy134
           try simp only[ZK]
           refine Yat.tm (λi hi=>hi) (Tm.at (ok:=(Zai 2)) (v:=(y31,y32,y33,Zc (C.immRows y34),Zc (C.immRows y35),y36)) (λk hk=>Yat.same (by first|assumption|omega) (by first|assumption|omega) (by first|assumption|omega) (by first|assumption|omega) (by first|assumption|omega) (by first|assumption|omega) (by first|assumption|omega) (by first|assumption|omega) (by first|assumption|omega) (by first|assumption|omega) (by first|assumption|omega) (by first|assumption|omega) (by first|assumption|omega) (by first|assumption|omega) (by first|assumption|omega) (by first|assumption|omega) hk ((hy30.2) k (upn hk (by decide))))) (λy149 y150 y151 y152 y153 y154 hy148=>?_)
           simp only[Prod.mk.injEq] at hy148;obtain⟨hy148e0,hy148e1,hy148e2,hy148e3,hy148e4,hy148e5⟩:=hy148;subst y149 y150 y151 y152 y153 y154
           try simp only[ZK]
           refine YG.tm (λi hi=>upn hi (by decide)) (YG.T (by first|assumption|omega) (by first|assumption|omega) (by first|assumption|omega) (by first|assumption|omega)) (λy156 hy155=>?_)
           subst hy155
           refine Tm.ite (λh157=>?_) (λh157=>?_)
           ·try simp only[bz0,bz1,bz2,bz3,bz4,bz5,bz6,bz7,bz8,bz9,bza] at h157
            exact Tm.ret (by first|rfl|(exfalso;omega)|(exfalso;simp[strEq_self] at *))
           ·try simp only[bz0,bz1,bz2,bz3,bz4,bz5,bz6,bz7,bz8,bz9,bza] at h157
            refine Tm.ite (λh158=>?_) (λh158=>?_)
            ·try simp only[bz0,bz1,bz2,bz3,bz4,bz5,bz6,bz7,bz8,bz9,bza] at h158
             exact Tm.ret (by first|rfl|(exfalso;omega)|(exfalso;simp[strEq_self] at *))
            ·try simp only[bz0,bz1,bz2,bz3,bz4,bz5,bz6,bz7,bz8,bz9,bza] at h158
             try simp only[ZK]
             refine Yas.tm (λi hi=>upn hi (by decide)) (Tm.at (ok:=(Zai 1)) (λk hk=>hh122 k hk)) (λy160 hy159=>?_)
             subst hy159
             refine Tm.ite (λh161=>?_) (λh161=>?_)
             ·try simp only[bz0,bz1,bz2,bz3,bz4,bz5,bz6,bz7,bz8,bz9,bza] at h161
              exact Tm.ret (by first|rfl|(exfalso;omega)|(exfalso;simp[strEq_self] at *))
             ·try simp only[bz0,bz1,bz2,bz3,bz4,bz5,bz6,bz7,bz8,bz9,bza] at h161
              refine Tm.ite (λh162=>?_) (λh162=>?_)
              ·try simp only[bz0,bz1,bz2,bz3,bz4,bz5,bz6,bz7,bz8,bz9,bza] at h162
               exact Tm.ret (by first|rfl|(exfalso;omega)|(exfalso;simp[strEq_self] at *))
              ·try simp only[bz0,bz1,bz2,bz3,bz4,bz5,bz6,bz7,bz8,bz9,bza] at h162
               exact Tm.ret (by first|rfl|(exfalso;omega)|(exfalso;simp[strEq_self] at *))
open Go.ChangeShapes Go.WideShapes Go.ChangeAt Go.RowKit
open Go.ChangeMaps (open_string shut_string)
theorem own:ownKnob Tryz.prog.godebug=none:=by kernel_rfl
theorem laidOut:laidOutB Tryz.prog=true:=by kernel_rfl
theorem goodS_9 {r:List D} (h:RowS Tryz.prog maxLen 9 r):RS maxLen r:=by
 have hh:=h.open (show Zq Tryz.prog 6 9=[9] from by kernel_rfl)
 obtain⟨d0,l0,rfl,g0,hh0⟩:=goodR_cons hh
 obtain⟨c0,rfl,k0⟩:=good_str (by kernel_rfl) g0
 obtain rfl:=goodR_nil hh0
 exact⟨c0,rfl,k0,trivial⟩
theorem goodISLSE_188 {r:List D} (h:RowS Tryz.prog maxLen 188 r):YaY maxLen r:=by
 have hh:=h.open (show Zq Tryz.prog 6 188=[3,9,45] from by kernel_rfl)
 obtain⟨d0,l0,rfl,g0,hh0⟩:=goodR_cons hh
 obtain⟨c0,rfl,k0⟩:=good_int (k:=.i64) (by kernel_rfl) g0
 obtain⟨d1,l1,rfl,g1,hh1⟩:=goodR_cons hh0
 obtain⟨c1,rfl,k1⟩:=good_str (by kernel_rfl) g1
 obtain⟨d2,l2,rfl,g2,hh2⟩:=goodR_cons hh1
 obtain⟨c2,rfl,k2,m2⟩:=good_sl (e:=9) (by kernel_rfl) g2
 obtain rfl:=goodR_nil hh2
 exact⟨c0,c1,c2,rfl,k0,k1,⟨k2,λr hr=>goodS_9 (m2 r hr)⟩,trivial⟩
theorem goodSI_191 {r:List D} (h:RowS Tryz.prog maxLen 191 r):RSI maxLen r:=by
 have hh:=h.open (show Zq Tryz.prog 6 191=[9,3] from by kernel_rfl)
 obtain⟨d0,l0,rfl,g0,hh0⟩:=goodR_cons hh
 obtain⟨c0,rfl,k0⟩:=good_str (by kernel_rfl) g0
 obtain⟨d1,l1,rfl,g1,hh1⟩:=goodR_cons hh0
 obtain⟨c1,rfl,k1⟩:=good_int (k:=.i64) (by kernel_rfl) g1
 obtain rfl:=goodR_nil hh1
 exact⟨c0,c1,rfl,k0,k1,trivial⟩
theorem goodISILSELXE_48_n (n:Nat):∀ r:List D,SizeOf.sizeOf r=n->RowS Tryz.prog maxLen 48 r->∃ h,YD maxLen h r:=by
 induction n using Nat.strongRecOn with
 |ind n ih=>
 intro r hn h
 have hh:=h.open (show Zq Tryz.prog 6 48=[3,9,3,45,46] from by kernel_rfl)
 obtain⟨d0,l0,rfl,g0,hh0⟩:=goodR_cons hh
 obtain⟨c0,rfl,k0⟩:=good_int (k:=.i64) (by kernel_rfl) g0
 obtain⟨d1,l1,rfl,g1,hh1⟩:=goodR_cons hh0
 obtain⟨c1,rfl,k1⟩:=good_str (by kernel_rfl) g1
 obtain⟨d2,l2,rfl,g2,hh2⟩:=goodR_cons hh1
 obtain⟨c2,rfl,k2⟩:=good_int (k:=.i64) (by kernel_rfl) g2
 obtain⟨d3,l3,rfl,g3,hh3⟩:=goodR_cons hh2
 obtain⟨c3,rfl,k3,m3⟩:=good_sl (e:=9) (by kernel_rfl) g3
 obtain⟨d4,l4,rfl,g4,hh4⟩:=goodR_cons hh3
 obtain⟨c4,rfl,k4,m4⟩:=good_sl (e:=48) (by kernel_rfl) g4
 obtain rfl:=goodR_nil hh4
 have hs:∀ r'∈c4,SizeOf.sizeOf r'<n:=λr' hr=>by have:=List.sizeOf_lt_of_mem hr;simp at hn;omega
 obtain⟨hq,q4⟩:=common (Q:=YD maxLen) (λ_ _ _=>YD.mono) c4 λr' hr=>ih _ (hs r' hr) r' rfl (m4 r' hr)
 exact⟨hq+1,.mk c0 c1 c2 c3 c4 k0 k1 k2 ⟨k3,λr hr=>goodS_9 (m3 r hr)⟩ k4 q4⟩
theorem goodISILSELXE_48 {r:List D} (h:RowS Tryz.prog maxLen 48 r):Yr maxLen r:=by
 obtain⟨h1,h2⟩:=goodISILSELXE_48_n _ r rfl h
 exact⟨h1,λhb=>absurd (show(9223372036854775807:Nat)<=1099511627776 from hb) (by decide),h2⟩
theorem Ybq {r:List D} (h:RowS Tryz.prog maxLen 213 r):Yn maxLen r:=by
 have hh:=h.open (show Zq Tryz.prog 6 213=[3,45,3,9,3,45,46] from by kernel_rfl)
 obtain⟨d0,l0,rfl,g0,hh0⟩:=goodR_cons hh
 obtain⟨c0,rfl,k0⟩:=good_int (k:=.i64) (by kernel_rfl) g0
 obtain⟨d1,l1,rfl,g1,hh1⟩:=goodR_cons hh0
 obtain⟨c1,rfl,k1,m1⟩:=good_sl (e:=9) (by kernel_rfl) g1
 obtain⟨d2,l2,rfl,g2,hh2⟩:=goodR_cons hh1
 obtain⟨c2,rfl,k2⟩:=good_int (k:=.i64) (by kernel_rfl) g2
 obtain⟨d3,l3,rfl,g3,hh3⟩:=goodR_cons hh2
 obtain⟨c3,rfl,k3⟩:=good_str (by kernel_rfl) g3
 obtain⟨d4,l4,rfl,g4,hh4⟩:=goodR_cons hh3
 obtain⟨c4,rfl,k4⟩:=good_int (k:=.i64) (by kernel_rfl) g4
 obtain⟨d5,l5,rfl,g5,hh5⟩:=goodR_cons hh4
 obtain⟨c5,rfl,k5,m5⟩:=good_sl (e:=9) (by kernel_rfl) g5
 obtain⟨d6,l6,rfl,g6,hh6⟩:=goodR_cons hh5
 obtain⟨c6,rfl,k6,m6⟩:=good_sl (e:=48) (by kernel_rfl) g6
 obtain rfl:=goodR_nil hh6
 exact⟨c0,c1,c2,c3,c4,c5,c6,rfl,k0,⟨k1,λr hr=>goodS_9 (m1 r hr)⟩,k2,k3,k4,⟨k5,λr hr=>goodS_9 (m5 r hr)⟩,⟨k6,λr hr=>goodISILSELXE_48 (m6 r hr)⟩,trivial⟩
theorem Ybl {r:List D} (h:RowS Tryz.prog maxLen 160 r):Yg maxLen r:=by
 have hh:=h.open (show Zq Tryz.prog 6 160=[9,158] from by kernel_rfl)
 obtain⟨d0,l0,rfl,g0,hh0⟩:=goodR_cons hh
 obtain⟨c0,rfl,k0⟩:=good_str (by kernel_rfl) g0
 obtain⟨d1,l1,rfl,g1,hh1⟩:=goodR_cons hh0
 obtain⟨c1,rfl,k1,m1⟩:=good_sl (e:=213) (by kernel_rfl) g1
 obtain rfl:=goodR_nil hh1
 exact⟨c0,c1,rfl,k0,⟨k1,λr hr=>Ybq (m1 r hr)⟩,trivial⟩
theorem types:lawTys Tryz.prog [188,9,191,48,160,213]=true:=by kernel_rfl
set_option maxRecDepth 100000 in
theorem lifted (os:Os) (started:os.Started) (H:Type) (enc:TypeId×Value->H):
  ReturnsInHanded {} Tryz.checked os 5 .any (Rows.fnExactRenderSpec.pre6 enc Tryz.prog Tryz.f5 Rows.fnExactRenderRow.domain false) (Rows.fnExactRenderSpec.post enc Tryz.prog Tryz.f5 false true false false):=by
 refine returnsInHanded_of_change_sized (C:=Tryz.checked) own started (by kernel_rfl) Tryz.func5
  (ChangeSpec.witness6 (enc:=enc) (C:=Tryz.checked) false ⟨#[],#[.agg #[.int .i64 0,.string ByteArray.empty,.int .i64 0,.slice none 0 0,.slice none 0 0,.slice none 0 0,.int .i64 0,.string ByteArray.empty,.int .i64 0,.slice none 0 0,.slice none 0 0,.slice none 0 0,.bool false],.string ByteArray.empty],[]⟩ 8 (by kernel_rfl) (by kernel_rfl) (by kernel_rfl) (by kernel_rfl)) ?_
 intro W base args ds gs before hval0 hW hcnd hsz0 _
 have hval:∀ (j:Nat) t v,Tryz.f5.params[j]? = some t->args[j]? = some v->Value.okWide Tryz.prog W .any base t v:=hval0
 have hW':=hW
 obtain⟨p,q,hA0,hV,rfl,hfz,hnd⟩:=hW
 have hA:DataW.TrodAll enc Tryz.prog W 0 (λ_=>true) true Tryz.f5.params.toList args.toList ds p:=hA0
 have hpar:Tryz.f5.params=#[65,9]:=by kernel_rfl
 rw[hpar] at hA hval
 obtain⟨v0,vs0,d0,ds0,p0,q0,hargs,rfl,rfl,h0,r0⟩:=trodAll_cons hA
 obtain⟨v1,vs1,d1,ds1,p1,q1,rfl,rfl,rfl,h1,r1⟩:=trodAll_cons r0
 obtain⟨rfl,rfl,rfl⟩:=trodAll_nil r1
 obtain rfl:args=#[v0,v1]:=by cases args;simp_all
 obtain⟨rfl,rfl⟩:=trodVars_none hV
 have k0:=h0
 have lt0:∀ x∈p0,x.block<W.heap.size:=by obtain⟨m,hm⟩:=k0;exact DataW.trod_lt m _ _ _ hm
 obtain⟨cs0,xs0,rfl,hl0,hc0,hg0⟩:=open_agg types (by kernel_rfl) (by kernel_rfl) (hval 0 65 v0 rfl rfl) h0
 have hj0:=hg0.open (show Zq Tryz.prog 6 65=[3,9,3,59,45,60,3,9,3,45,46,63,4] from by kernel_rfl)
 obtain⟨ea0_0,la0_0,rfl,wa0_0,hj0_0⟩:=goodR_cons hj0
 obtain⟨aB,rfl,ka0_0⟩:=good_int (k:=.i64) (by kernel_rfl) wa0_0
 obtain⟨ea0_1,la0_1,rfl,wa0_1,hj0_1⟩:=goodR_cons hj0_0
 obtain⟨aA,rfl,ka0_1⟩:=good_str (by kernel_rfl) wa0_1
 obtain⟨ea0_2,la0_2,rfl,wa0_2,hj0_2⟩:=goodR_cons hj0_1
 obtain⟨aC,rfl,ka0_2⟩:=good_int (k:=.i64) (by kernel_rfl) wa0_2
 obtain⟨ea0_3,la0_3,rfl,wa0_3,hj0_3⟩:=goodR_cons hj0_2
 obtain⟨aD,rfl,ka0_3,ma0_3⟩:=good_sl (e:=188) (by kernel_rfl) wa0_3
 obtain⟨ea0_4,la0_4,rfl,wa0_4,hj0_4⟩:=goodR_cons hj0_3
 obtain⟨aE,rfl,ka0_4,ma0_4⟩:=good_sl (e:=9) (by kernel_rfl) wa0_4
 obtain⟨ea0_5,la0_5,rfl,wa0_5,hj0_5⟩:=goodR_cons hj0_4
 obtain⟨aK,rfl,ka0_5,ma0_5⟩:=good_sl (e:=191) (by kernel_rfl) wa0_5
 obtain⟨ea0_6,la0_6,rfl,wa0_6,hj0_6⟩:=goodR_cons hj0_5
 obtain⟨aL,rfl,ka0_6⟩:=good_int (k:=.i64) (by kernel_rfl) wa0_6
 obtain⟨ea0_7,la0_7,rfl,wa0_7,hj0_7⟩:=goodR_cons hj0_6
 obtain⟨aZ,rfl,ka0_7⟩:=good_str (by kernel_rfl) wa0_7
 obtain⟨ea0_8,la0_8,rfl,wa0_8,hj0_8⟩:=goodR_cons hj0_7
 obtain⟨bA,rfl,ka0_8⟩:=good_int (k:=.i64) (by kernel_rfl) wa0_8
 obtain⟨ea0_9,la0_9,rfl,wa0_9,hj0_9⟩:=goodR_cons hj0_8
 obtain⟨aX,rfl,ka0_9,ma0_9⟩:=good_sl (e:=9) (by kernel_rfl) wa0_9
 obtain⟨ea0_10,la0_10,rfl,wa0_10,hj0_10⟩:=goodR_cons hj0_9
 obtain⟨aW,rfl,ka0_10,ma0_10⟩:=good_sl (e:=48) (by kernel_rfl) wa0_10
 obtain⟨ea0_11,la0_11,rfl,wa0_11,hj0_11⟩:=goodR_cons hj0_10
 obtain⟨aY,rfl,ka0_11,ma0_11⟩:=good_sl (e:=160) (by kernel_rfl) wa0_11
 obtain⟨ea0_12,la0_12,rfl,wa0_12,hj0_12⟩:=goodR_cons hj0_11
 obtain⟨bC,rfl⟩:=good_bool (by kernel_rfl) wa0_12
 obtain rfl:=goodR_nil hj0_12
 have k1:=h1
 have lt1:∀ x∈p1,x.block<W.heap.size:=by obtain⟨m,hm⟩:=k1;exact DataW.trod_lt m _ _ _ hm
 obtain⟨sv1,rfl,_⟩:=open_string (by kernel_rfl) (hval 1 9 v1 rfl rfl) h1
 obtain⟨ea1,hd1,wa1⟩:=open_cell types (by kernel_rfl) rfl (by kernel_rfl) h1
 obtain⟨a1,rfl,ka1⟩:=good_str (by kernel_rfl) wa1
 clear hA0 hval0 hsz0
 obtain⟨kb,hkb⟩:∃ k,lv 2<=k:=⟨_,Nat.le_refl _⟩
 obtain⟨z,rfl,hz⟩:=Yaz.T ka0_0 ka0_1 ka0_2 ⟨ka0_3,λr hr=>goodISLSE_188 (ma0_3 r hr)⟩ ⟨ka0_4,λr hr=>goodS_9 (ma0_4 r hr)⟩ ⟨ka0_5,λr hr=>goodSI_191 (ma0_5 r hr)⟩ ka0_6 ka0_7 ka0_8 ⟨ka0_9,λr hr=>goodS_9 (ma0_9 r hr)⟩ ⟨ka0_10,λr hr=>goodISILSELXE_48 (ma0_10 r hr)⟩ ⟨ka0_11,λr hr=>Ybl (ma0_11 r hr)⟩ ka1
 refine(law_calls (Yaz.ok kb) rfl rfl (by kernel_rfl) (aa:=[.agg [.int .i64 aB,.str aA,.int .i64 aC,.sl aD,.sl aE,.sl aK,.int .i64 aL,.str aZ,.int .i64 bA,.sl aX,.sl aW,.sl aY,.bool bC],.d (.str a1)]) (vs:=[.agg cs0.toArray,.string sv1]) ?_ ⟨(),?_⟩).mono λe W' ⟨he,bel⟩=>?_
 ·exact(ZO.cons' ⟨rfl,cs0,rfl,hl0,hc0⟩ (ZO.cons' ⟨rfl,hd1⟩ ZO.nil'))
 ·exact(ent_run (Yaz.e kb) rfl (congrArg some (hz kb hkb)) rfl)
 ·subst he
  exact⟨_,rfl,_,_,_,[],_,[],hW',trodAll_mk1 (shut_bool (by kernel_rfl) _),(trodAll_cons_mk (Below.trod laidOut (by kernel_rfl) (of_decide_eq_true (by kernel_rfl)) k0 bel lt0) (trodAll_cons_mk (Below.trod laidOut (by kernel_rfl) (of_decide_eq_true (by kernel_rfl)) k1 bel lt1) trodAll_mk0)),rfl,bel.frame _,λh=>by cases h⟩
theorem facts1:joined1 Tryz.prog 5 Tryz.f5 Rows.fnExactRenderSpec Rows.fnExactRenderRow=true:=by kernel_rfl
theorem facts2:joined2 Tryz.prog 5 Tryz.f5 Rows.fnExactRenderSpec Rows.fnExactRenderRow=true:=by kernel_rfl
theorem facts3:joined3 Tryz.prog 5 Tryz.f5 Rows.fnExactRenderSpec Rows.fnExactRenderRow=true:=by kernel_rfl
theorem facts4:joined4 Tryz.prog 5 Tryz.f5 Rows.fnExactRenderSpec Rows.fnExactRenderRow=true:=by kernel_rfl
theorem facts5:joined5 Tryz.prog 5 Tryz.f5 Rows.fnExactRenderSpec Rows.fnExactRenderRow=true:=by kernel_rfl
theorem facts6:joined6 Tryz.prog 5 Tryz.f5 Rows.fnExactRenderSpec Rows.fnExactRenderRow=true:=by kernel_rfl
theorem facts7:joined7 Tryz.prog 5 Tryz.f5 Rows.fnExactRenderSpec Rows.fnExactRenderRow=true:=by kernel_rfl
theorem facts8:joined8 Tryz.prog 5 Tryz.f5 Rows.fnExactRenderSpec Rows.fnExactRenderRow=true:=by kernel_rfl
theorem over:Rows.fnExactRenderRow.holds Tryz.pinned (OpenSpec.ofChange Rows.fnExactRenderSpec):=
 OpenClaim.holds_of_wide 5 Tryz.f5 rfl rfl rfl rfl rfl rfl rfl ⟨rfl,rfl,rfl,rfl,rfl⟩ rfl rfl rfl rfl rfl (by kernel_rfl) Tryz.func5 (joined_of facts1 facts2 facts3 facts4 facts5 facts6 facts7 facts8)
  (of_decide_eq_true (by kernel_rfl)) (by unfold Func.isWrapper;first|(rw[if_pos (by decide +kernel)];kernel_rfl)|(rw[if_neg (by decide +kernel)];exact⟨rfl,rfl⟩))
  (λos started H enc _=>lifted os started H enc)
theorem fnExactRender_holds:Rows.FnExactRenderSaid:=over
end Go.Proofs.YtlobhlnahhjpjaaGreat
