/- FnExactWorks: the program's function answers as the reference's,for every input. No condition. -/
import Derived.Test.YtnfogafklciihaaGreatRows
import Derived.Test.YtnfogafklciihaaGreatYEWorks2
import Derived.KernelRfl
import Derived.WalkKit
import Derived.ProofKit
import Derived.OpenShut
import Derived.ShutString
import Derived.ChangeOld
import Derived.Below
import Derived.SizedLaws
set_option linter.unusedVariables false
set_option linter.unusedSimpArgs false
set_option autoImplicit true
set_option relaxedAutoImplicit true
set_option maxRecDepth 1000000
set_option maxHeartbeats 8000000
namespace Go.Proofs.YtnfogafklciihaaGreat
open Go Go.T Go.Proofs
theorem Y9.T {B:Nat} (hB:B<=1099511627776) {xs:LD} {n:Int} (g:Zc Ybl B xs) (h0:0<=n) (h1:n+Zg xs<=4611686018427387904):Tm Zr (λk=>Y9.t k (Za xs) n) (λz=>∃ ys,z.2=Za ys/\ys.length=xs.length/\z.1=n+Zg xs/\∀ k,Zr k->Zr k):=by
 have hb:big=2^64:=rfl;have hl:=g.1;have key:Tm Zr (λk=>Y9.t k (Za xs) n) (λz=>∃ ys,z.2=Za ys/\ys.length=xs.length/\z.1=n+Zg xs/\Zav (λ_ _ _=>True) n ys z.1):=by
  unfold Y9.t Y9.g;refine Tm.loop (okk:=Zr) (p:=λk=>k) (λi hi=>hi) (b:=λk=>Y9.l0 k (λz0 z1=>some (z0,z1))) (λv=>match v with|(u,i,tab)=>((xs.length:Int)-i).toNat) (λv=>match v with|(u,i,tab)=>0<=i/\i<=xs.length/\∃ done:LD,done.length=i.toNat/\tab=Za done++Za (xs.drop i.toNat)/\u=n+Zg (xs.take i.toNat)/\Zav (λ_ _ _=>True) n done u) ?_ ?_ ?_
  ·rintro⟨u,i,tab⟩ hI;simp only[] at hI⊢;omega
  ·exact⟨Om,Om,[],rfl,by simp[Za],by simp[Zg],.nil⟩
  ·rintro⟨u,i,tab⟩ hI L hL;simp only[] at hI;obtain⟨i0,i1,done,hd,rfl,hu,hH⟩:=hI;have hA:(Za done).length=i.toNat:=by rw[Zd,hd]
   have hT:(Za done++Za (xs.drop i.toNat)).length=xs.length:=by rw[List.length_append,hA,Zd,List.length_drop];omega
   simp only[Y9.l0]
   refine Tm.ite (λh4=>?_) (λh4=>?_)
   ·simp only[decide_eq_true_eq,hT] at h4;have hx:=gR_at i0 h4;obtain⟨c0,c1,c2,e,k0,k1,k2,_⟩:=(g.2 _ (Zan i0 h4)).open;rw[e] at hx;have hdr:=ZcC i0 hx;have hw:=ZaE i0 hx;simp only[Z7,wtD] at hw;have hs:=ZbT xs (i+1).toNat;rw[hdr] at hT⊢;simp only[Za,Zu,Zag] at hT⊢;have hT2:=hT;simp only[List.length_append,List.length_cons] at hT2;refine Tm.guard Ly ?_;refine Tm.guard Ly ?_;try simp(disch:=omega) only[Zb]
    refine bd1_p (t:=λk=>Yc.t k _) (λi hi=>(And.left hi)) (Tm.at (ok:=Zr) (v:=Yc.v _) (λk hk=>Yc.tv Om hk)) (λy hy=>?_);subst hy;refine Tm.guard Ly ?_;refine Tm.guard Ly ?_;refine Tm.guard Ly ?_;try simp only[ZQ hA,Zah hA,ZE,List.take_zero,List.take_succ_cons,List.drop_succ_cons,List.drop_zero,List.nil_append,List.cons_append,List.length_cons,List.length_nil,Nat.zero_add,Nat.reduceAdd,List.set_cons_succ,List.set_cons_zero]
    refine Tm.uncons ?_;refine Tm.cOwn ?_;try simp(disch:=omega) only[Zb]
    refine bd2_p (t:=λk=>Yp.t k _ _) (λi hi=>(And.left hi)) (Yp.T hB k2 Om Om) (λy2 t2 hy=>?_);obtain⟨ys2,et2,el2,en2,hh2⟩:=hy;simp only[] at et2 en2 hh2;subst et2 en2;try simp(disch:=omega) only[Zb]
    try simp only[ZQ hA,ZE,List.take_zero,List.take_succ_cons,List.drop_succ_cons,List.drop_zero,List.nil_append,List.cons_append,List.length_cons,List.length_nil,Nat.zero_add,Nat.reduceAdd,List.set_cons_succ,List.set_cons_zero]
    refine hL (_,_,_) ⟨Om,Om,done++[[.int .i64 (u),.str (Yc.v (u+1)),.sl ys2]],by simp only[List.length_append,List.length_cons,List.length_nil];omega,?_,Om,Zav.snoc hH trivial⟩ Sm;rw[ZL];simp only[Za,Zu,Zag,List.append_assoc,List.cons_append,List.nil_append]
   ·simp only[decide_eq_false_iff_not,hT] at h4;refine Tm.ret ⟨done,?_,Om,?_,hH⟩
    ·rw[List.drop_eq_nil_of_le Om];simp only[Za,List.append_nil]
    ·rw[List.take_of_length_le Om] at hu;exact hu
 obtain⟨v,⟨ys,e1,e2,e3,hH⟩,h2⟩:=key;exact⟨v,⟨ys,e1,e2,e3,λk hk=>hk⟩,h2⟩
theorem Y7.T {B:Nat} (hB:B<=1099511627776) {xs:LD} {n:Int} (g:Zc RSI B xs) (h0:0<=n) (h1:n+Zg xs<=4611686018427387904):Tm Zr (λk=>Y7.t k (Za xs) n) (λz=>∃ ys,z.2=Za ys/\ys.length=xs.length/\z.1=n+Zg xs/\∀ k,Zr k->Zr k):=by
 have hb:big=2^64:=rfl;have hl:=g.1;have key:Tm Zr (λk=>Y7.t k (Za xs) n) (λz=>∃ ys,z.2=Za ys/\ys.length=xs.length/\z.1=n+Zg xs/\Zav (λ_ _ _=>True) n ys z.1):=by
  unfold Y7.t Y7.g;refine Tm.loop (okk:=Zr) (p:=λk=>k) (λi hi=>hi) (b:=λk=>Y7.l0 k (λz0 z1=>some (z0,z1))) (λv=>match v with|(u,i,tab)=>((xs.length:Int)-i).toNat) (λv=>match v with|(u,i,tab)=>0<=i/\i<=xs.length/\∃ done:LD,done.length=i.toNat/\tab=Za done++Za (xs.drop i.toNat)/\u=n+Zg (xs.take i.toNat)/\Zav (λ_ _ _=>True) n done u) ?_ ?_ ?_
  ·rintro⟨u,i,tab⟩ hI;simp only[] at hI⊢;omega
  ·exact⟨Om,Om,[],rfl,by simp[Za],by simp[Zg],.nil⟩
  ·rintro⟨u,i,tab⟩ hI L hL;simp only[] at hI;obtain⟨i0,i1,done,hd,rfl,hu,hH⟩:=hI;have hA:(Za done).length=i.toNat:=by rw[Zd,hd]
   have hT:(Za done++Za (xs.drop i.toNat)).length=xs.length:=by rw[List.length_append,hA,Zd,List.length_drop];omega
   simp only[Y7.l0]
   refine Tm.ite (λh4=>?_) (λh4=>?_)
   ·simp only[decide_eq_true_eq,hT] at h4;have hx:=gR_at i0 h4;obtain⟨c0,c1,e,k0,k1,_⟩:=(g.2 _ (Zan i0 h4)).open;rw[e] at hx;have hdr:=ZcC i0 hx;have hw:=ZaE i0 hx;simp only[Z7,wtD] at hw;have hs:=ZbT xs (i+1).toNat;rw[hdr] at hT⊢;simp only[Za,Zu,Zag] at hT⊢;have hT2:=hT;simp only[List.length_append,List.length_cons] at hT2;try simp(disch:=omega) only[Zb]
    refine bd1_p (t:=λk=>Yc.t k _) (λi hi=>(And.left hi)) (Tm.at (ok:=Zr) (v:=Yc.v _) (λk hk=>Yc.tv Om hk)) (λy hy=>?_);subst hy;refine Tm.guard Ly ?_;refine Tm.guard Ly ?_;refine Tm.guard Ly ?_;refine Tm.guard Ly ?_;try simp(disch:=omega) only[Zb]
    try simp only[ZQ hA,ZE,List.take_zero,List.take_succ_cons,List.drop_succ_cons,List.drop_zero,List.nil_append,List.cons_append,List.length_cons,List.length_nil,Nat.zero_add,Nat.reduceAdd,List.set_cons_succ,List.set_cons_zero]
    refine hL (_,_,_) ⟨Om,Om,done++[[.str (Yc.v (u)),.int .i64 (u+1)]],by simp only[List.length_append,List.length_cons,List.length_nil];omega,?_,Om,Zav.snoc hH trivial⟩ Sm;rw[ZL];simp only[Za,Zu,Zag,List.append_assoc,List.cons_append,List.nil_append]
   ·simp only[decide_eq_false_iff_not,hT] at h4;refine Tm.ret ⟨done,?_,Om,?_,hH⟩
    ·rw[List.drop_eq_nil_of_le Om];simp only[Za,List.append_nil]
    ·rw[List.take_of_length_le Om] at hu;exact hu
 obtain⟨v,⟨ys,e1,e2,e3,hH⟩,h2⟩:=key;exact⟨v,⟨ys,e1,e2,e3,λk hk=>hk⟩,h2⟩
theorem Yaz.T {B:Nat} (hB:B<=1099511627776) {xs:LD} {n:Int} (g:Zc Yn B xs) (h0:0<=n) (h1:n+Zg xs<=4611686018427387904):Tm (Zp 1) (λk=>Yaz.t k (Za xs) n) (λz=>∃ ys,z.2=Za ys/\ys.length=xs.length/\z.1=n+Zg xs/\∀ k,(Zp 1) k->(Zp 1) k):=by
 have hb:big=2^64:=rfl;have hl:=g.1;have key:Tm (Zp 1) (λk=>Yaz.t k (Za xs) n) (λz=>∃ ys,z.2=Za ys/\ys.length=xs.length/\z.1=n+Zg xs/\Zav (λ_ _ _=>True) n ys z.1):=by
  unfold Yaz.t Yaz.g;refine Tm.loop (okk:=(Zp 1)) (p:=λk=>k) (λi hi=>up0 hi) (b:=λk=>Yaz.l0 k (λz0 z1=>some (z0,z1))) (λv=>match v with|(u,i,tab)=>((xs.length:Int)-i).toNat) (λv=>match v with|(u,i,tab)=>0<=i/\i<=xs.length/\∃ done:LD,done.length=i.toNat/\tab=Za done++Za (xs.drop i.toNat)/\u=n+Zg (xs.take i.toNat)/\Zav (λ_ _ _=>True) n done u) ?_ ?_ ?_
  ·rintro⟨u,i,tab⟩ hI;simp only[] at hI⊢;omega
  ·exact⟨Om,Om,[],rfl,by simp[Za],by simp[Zg],.nil⟩
  ·rintro⟨u,i,tab⟩ hI L hL;simp only[] at hI;obtain⟨i0,i1,done,hd,rfl,hu,hH⟩:=hI;have hA:(Za done).length=i.toNat:=by rw[Zd,hd]
   have hT:(Za done++Za (xs.drop i.toNat)).length=xs.length:=by rw[List.length_append,hA,Zd,List.length_drop];omega
   simp only[Yaz.l0]
   refine Tm.ite (λh4=>?_) (λh4=>?_)
   ·simp only[decide_eq_true_eq,hT] at h4;have hx:=gR_at i0 h4;obtain⟨c0,c1,c2,c3,c4,c5,c6,e,k0,k1,k2,k3,k4,k5,k6,_⟩:=(g.2 _ (Zan i0 h4)).open;rw[e] at hx;have hdr:=ZcC i0 hx;have hw:=ZaE i0 hx;simp only[Z7,wtD] at hw;have hs:=ZbT xs (i+1).toNat;rw[hdr] at hT⊢;simp only[Za,Zu,Zag] at hT⊢;have hT2:=hT;simp only[List.length_append,List.length_cons] at hT2;refine Tm.guard Ly ?_;refine Tm.guard Ly ?_;refine Tm.guard Ly ?_;try simp only[ZQ hA,Zah hA,ZE,List.take_zero,List.take_succ_cons,List.drop_succ_cons,List.drop_zero,List.nil_append,List.cons_append,List.length_cons,List.length_nil,Nat.zero_add,Nat.reduceAdd,List.set_cons_succ,List.set_cons_zero]
    refine Tm.uncons ?_;refine Tm.cOwn ?_;try simp(disch:=omega) only[Zb]
    refine bd2_p (t:=λk=>Yp.t k _ _) (λi hi=>up0 (And.left hi)) (Yp.T hB k1 Om Om) (λy1 t1 hy=>?_);obtain⟨ys1,et1,el1,en1,hh1⟩:=hy;simp only[] at et1 en1 hh1;subst et1 en1;refine Tm.guard Ly ?_;refine Tm.guard Ly ?_;try simp(disch:=omega) only[Zb]
    refine bd1_p (t:=λk=>Yc.t k _) (λi hi=>up0 (And.left hi)) (Tm.at (ok:=Zr) (v:=Yc.v _) (λk hk=>Yc.tv Om hk)) (λy hy=>?_);subst hy;refine Tm.guard Ly ?_;refine Tm.guard Ly ?_;refine Tm.guard Ly ?_;refine Tm.guard Ly ?_;refine Tm.guard Ly ?_;try simp only[ZQ hA,Zah hA,ZE,List.take_zero,List.take_succ_cons,List.drop_succ_cons,List.drop_zero,List.nil_append,List.cons_append,List.length_cons,List.length_nil,Nat.zero_add,Nat.reduceAdd,List.set_cons_succ,List.set_cons_zero]
    refine Tm.uncons ?_;refine Tm.cOwn ?_;try simp(disch:=omega) only[Zb]
    refine bd2_p (t:=λk=>Yp.t k _ _) (λi hi=>up0 (And.left hi)) (Yp.T hB k5 Om Om) (λy5 t5 hy=>?_);obtain⟨ys5,et5,el5,en5,hh5⟩:=hy;simp only[] at et5 en5 hh5;subst et5 en5;refine Tm.guard Ly ?_;try simp only[ZQ hA,Zah hA,ZE,List.take_zero,List.take_succ_cons,List.drop_succ_cons,List.drop_zero,List.nil_append,List.cons_append,List.length_cons,List.length_nil,Nat.zero_add,Nat.reduceAdd,List.set_cons_succ,List.set_cons_zero]
    refine Tm.uncons ?_;refine Tm.cOwn ?_;try simp(disch:=omega) only[Zb]
    refine Yo.tm (λi hi=>hi.1) (Yo.T hB k6 Om Om) (λy6 t6 hy=>?_);obtain⟨ys6,et6,el6,en6,hh6⟩:=hy;simp only[] at et6 en6 hh6;subst et6 en6;try simp(disch:=omega) only[Zb]
    try simp only[ZQ hA,ZE,List.take_zero,List.take_succ_cons,List.drop_succ_cons,List.drop_zero,List.nil_append,List.cons_append,List.length_cons,List.length_nil,Nat.zero_add,Nat.reduceAdd,List.set_cons_succ,List.set_cons_zero]
    refine hL (_,_,_) ⟨Om,Om,done++[[.int .i64 (u),.sl ys1,.int .i64 (u+1+(Zg c1:Int)),.str (Yc.v (u+1+(Zg c1:Int)+1)),.int .i64 (u+1+(Zg c1:Int)+1+1),.sl ys5,.sl ys6]],by simp only[List.length_append,List.length_cons,List.length_nil];omega,?_,Om,Zav.snoc hH trivial⟩ Sm;rw[ZL];simp only[Za,Zu,Zag,List.append_assoc,List.cons_append,List.nil_append]
   ·simp only[decide_eq_false_iff_not,hT] at h4;refine Tm.ret ⟨done,?_,Om,?_,hH⟩
    ·rw[List.drop_eq_nil_of_le Om];simp only[Za,List.append_nil]
    ·rw[List.take_of_length_le Om] at hu;exact hu
 obtain⟨v,⟨ys,e1,e2,e3,hH⟩,h2⟩:=key;exact⟨v,⟨ys,e1,e2,e3,λk hk=>hk⟩,h2⟩
theorem Yaa.T {B:Nat} (hB:B<=1099511627776) {xs:LD} {n:Int} (g:Zc Yd B xs) (h0:0<=n) (h1:n+Zg xs<=4611686018427387904):Tm (Zp 1) (λk=>Yaa.t k (Za xs) n) (λz=>∃ ys,z.2=Za ys/\ys.length=xs.length/\z.1=n+Zg xs/\∀ k,(Zp 1) k->(Zp 1) k):=by
 have hb:big=2^64:=rfl;have hl:=g.1;have key:Tm (Zp 1) (λk=>Yaa.t k (Za xs) n) (λz=>∃ ys,z.2=Za ys/\ys.length=xs.length/\z.1=n+Zg xs/\Zav (λ_ _ _=>True) n ys z.1):=by
  unfold Yaa.t Yaa.g;refine Tm.loop (okk:=(Zp 1)) (p:=λk=>k) (λi hi=>up0 hi) (b:=λk=>Yaa.l0 k (λz0 z1=>some (z0,z1))) (λv=>match v with|(u,i,tab)=>((xs.length:Int)-i).toNat) (λv=>match v with|(u,i,tab)=>0<=i/\i<=xs.length/\∃ done:LD,done.length=i.toNat/\tab=Za done++Za (xs.drop i.toNat)/\u=n+Zg (xs.take i.toNat)/\Zav (λ_ _ _=>True) n done u) ?_ ?_ ?_
  ·rintro⟨u,i,tab⟩ hI;simp only[] at hI⊢;omega
  ·exact⟨Om,Om,[],rfl,by simp[Za],by simp[Zg],.nil⟩
  ·rintro⟨u,i,tab⟩ hI L hL;simp only[] at hI;obtain⟨i0,i1,done,hd,rfl,hu,hH⟩:=hI;have hA:(Za done).length=i.toNat:=by rw[Zd,hd]
   have hT:(Za done++Za (xs.drop i.toNat)).length=xs.length:=by rw[List.length_append,hA,Zd,List.length_drop];omega
   simp only[Yaa.l0]
   refine Tm.ite (λh4=>?_) (λh4=>?_)
   ·simp only[decide_eq_true_eq,hT] at h4;have hx:=gR_at i0 h4;obtain⟨c0,c1,e,k0,k1,_⟩:=(g.2 _ (Zan i0 h4)).open;rw[e] at hx;have hdr:=ZcC i0 hx;have hw:=ZaE i0 hx;simp only[Z7,wtD] at hw;have hs:=ZbT xs (i+1).toNat;rw[hdr] at hT⊢;simp only[Za,Zu,Zag] at hT⊢;have hT2:=hT;simp only[List.length_append,List.length_cons] at hT2;try simp(disch:=omega) only[Zb]
    refine bd1_p (t:=λk=>Yc.t k _) (λi hi=>up0 (And.left hi)) (Tm.at (ok:=Zr) (v:=Yc.v _) (λk hk=>Yc.tv Om hk)) (λy hy=>?_);subst hy;refine Tm.guard Ly ?_;refine Tm.guard Ly ?_;refine Tm.guard Ly ?_;try simp only[ZQ hA,Zah hA,ZE,List.take_zero,List.take_succ_cons,List.drop_succ_cons,List.drop_zero,List.nil_append,List.cons_append,List.length_cons,List.length_nil,Nat.zero_add,Nat.reduceAdd,List.set_cons_succ,List.set_cons_zero]
    refine Tm.uncons ?_;refine Tm.cOwn ?_;try simp(disch:=omega) only[Zb]
    refine bd2_p (t:=λk=>Yaz.t k _ _) (λi hi=>(And.left hi)) (Yaz.T hB k1 Om Om) (λy1 t1 hy=>?_);obtain⟨ys1,et1,el1,en1,hh1⟩:=hy;simp only[] at et1 en1 hh1;subst et1 en1;try simp(disch:=omega) only[Zb]
    try simp only[ZQ hA,ZE,List.take_zero,List.take_succ_cons,List.drop_succ_cons,List.drop_zero,List.nil_append,List.cons_append,List.length_cons,List.length_nil,Nat.zero_add,Nat.reduceAdd,List.set_cons_succ,List.set_cons_zero]
    refine hL (_,_,_) ⟨Om,Om,done++[[.str (Yc.v (u)),.sl ys1]],by simp only[List.length_append,List.length_cons,List.length_nil];omega,?_,Om,Zav.snoc hH trivial⟩ Sm;rw[ZL];simp only[Za,Zu,Zag,List.append_assoc,List.cons_append,List.nil_append]
   ·simp only[decide_eq_false_iff_not,hT] at h4;refine Tm.ret ⟨done,?_,Om,?_,hH⟩
    ·rw[List.drop_eq_nil_of_le Om];simp only[Za,List.append_nil]
    ·rw[List.take_of_length_le Om] at hu;exact hu
 obtain⟨v,⟨ys,e1,e2,e3,hH⟩,h2⟩:=key;exact⟨v,⟨ys,e1,e2,e3,λk hk=>hk⟩,h2⟩
theorem Yam.T {B:Nat} (hB:B<=1099511627776) {xs:LD} {n:Int} (g:Zc Ya B xs) (h0:0<=n) (h1:n+Zg xs<=4611686018427387904):Tm (Zp 1) (λk=>Yam.t k (Za xs) n) (λz=>∃ ys,z.2=Za ys/\ys.length=xs.length/\z.1=n+Zg xs/\∀ k,(Zp 1) k->(Zp 1) k):=by
 have hb:big=2^64:=rfl;have hl:=g.1;have key:Tm (Zp 1) (λk=>Yam.t k (Za xs) n) (λz=>∃ ys,z.2=Za ys/\ys.length=xs.length/\z.1=n+Zg xs/\Zav (λ_ _ _=>True) n ys z.1):=by
  unfold Yam.t Yam.g;refine Tm.loop (okk:=(Zp 1)) (p:=λk=>k) (λi hi=>up0 hi) (b:=λk=>Yam.l0 k (λz0 z1=>some (z0,z1))) (λv=>match v with|(u,i,tab)=>((xs.length:Int)-i).toNat) (λv=>match v with|(u,i,tab)=>0<=i/\i<=xs.length/\∃ done:LD,done.length=i.toNat/\tab=Za done++Za (xs.drop i.toNat)/\u=n+Zg (xs.take i.toNat)/\Zav (λ_ _ _=>True) n done u) ?_ ?_ ?_
  ·rintro⟨u,i,tab⟩ hI;simp only[] at hI⊢;omega
  ·exact⟨Om,Om,[],rfl,by simp[Za],by simp[Zg],.nil⟩
  ·rintro⟨u,i,tab⟩ hI L hL;simp only[] at hI;obtain⟨i0,i1,done,hd,rfl,hu,hH⟩:=hI;have hA:(Za done).length=i.toNat:=by rw[Zd,hd]
   have hT:(Za done++Za (xs.drop i.toNat)).length=xs.length:=by rw[List.length_append,hA,Zd,List.length_drop];omega
   simp only[Yam.l0]
   refine Tm.ite (λh4=>?_) (λh4=>?_)
   ·simp only[decide_eq_true_eq,hT] at h4;have hx:=gR_at i0 h4;obtain⟨c0,c1,c2,c3,c4,c5,c6,c7,c8,c9,c10,c11,c12,e,k0,k1,k2,k3,k4,k5,k6,k7,k8,k9,k10,k11,_⟩:=(g.2 _ (Zan i0 h4)).open;rw[e] at hx;have hdr:=ZcC i0 hx;have hw:=ZaE i0 hx;simp only[Z7,wtD] at hw;have hs:=ZbT xs (i+1).toNat;rw[hdr] at hT⊢;simp only[Za,Zu,Zag] at hT⊢;have hT2:=hT;simp only[List.length_append,List.length_cons] at hT2;refine Tm.guard Ly ?_;refine Tm.guard Ly ?_;try simp(disch:=omega) only[Zb]
    refine bd1_p (t:=λk=>Yc.t k _) (λi hi=>up0 (And.left hi)) (Tm.at (ok:=Zr) (v:=Yc.v _) (λk hk=>Yc.tv Om hk)) (λy hy=>?_);subst hy;refine Tm.guard Ly ?_;refine Tm.guard Ly ?_;refine Tm.guard Ly ?_;refine Tm.guard Ly ?_;refine Tm.guard Ly ?_;try simp only[ZQ hA,Zah hA,ZE,List.take_zero,List.take_succ_cons,List.drop_succ_cons,List.drop_zero,List.nil_append,List.cons_append,List.length_cons,List.length_nil,Nat.zero_add,Nat.reduceAdd,List.set_cons_succ,List.set_cons_zero]
    refine Tm.uncons ?_;refine Tm.cOwn ?_;try simp(disch:=omega) only[Zb]
    refine bd2_p (t:=λk=>Y9.t k _ _) (λi hi=>up0 (And.left hi)) (Y9.T hB k3 Om Om) (λy3 t3 hy=>?_);obtain⟨ys3,et3,el3,en3,hh3⟩:=hy;simp only[] at et3 en3 hh3;subst et3 en3;refine Tm.guard Ly ?_;try simp only[ZQ hA,Zah hA,ZE,List.take_zero,List.take_succ_cons,List.drop_succ_cons,List.drop_zero,List.nil_append,List.cons_append,List.length_cons,List.length_nil,Nat.zero_add,Nat.reduceAdd,List.set_cons_succ,List.set_cons_zero]
    refine Tm.uncons ?_;refine Tm.cOwn ?_;try simp(disch:=omega) only[Zb]
    refine bd2_p (t:=λk=>Yp.t k _ _) (λi hi=>up0 (And.left hi)) (Yp.T hB k4 Om Om) (λy4 t4 hy=>?_);obtain⟨ys4,et4,el4,en4,hh4⟩:=hy;simp only[] at et4 en4 hh4;subst et4 en4;refine Tm.guard Ly ?_;try simp only[ZQ hA,Zah hA,ZE,List.take_zero,List.take_succ_cons,List.drop_succ_cons,List.drop_zero,List.nil_append,List.cons_append,List.length_cons,List.length_nil,Nat.zero_add,Nat.reduceAdd,List.set_cons_succ,List.set_cons_zero]
    refine Tm.uncons ?_;refine Tm.cOwn ?_;try simp(disch:=omega) only[Zb]
    refine bd2_p (t:=λk=>Y7.t k _ _) (λi hi=>up0 (And.left hi)) (Y7.T hB k5 Om Om) (λy5 t5 hy=>?_);obtain⟨ys5,et5,el5,en5,hh5⟩:=hy;simp only[] at et5 en5 hh5;subst et5 en5;refine Tm.guard Ly ?_;refine Tm.guard Ly ?_;try simp(disch:=omega) only[Zb]
    refine bd1_p (t:=λk=>Yc.t k _) (λi hi=>up0 (And.left hi)) (Tm.at (ok:=Zr) (v:=Yc.v _) (λk hk=>Yc.tv Om hk)) (λy hy=>?_);subst hy;refine Tm.guard Ly ?_;refine Tm.guard Ly ?_;refine Tm.guard Ly ?_;refine Tm.guard Ly ?_;refine Tm.guard Ly ?_;try simp only[ZQ hA,Zah hA,ZE,List.take_zero,List.take_succ_cons,List.drop_succ_cons,List.drop_zero,List.nil_append,List.cons_append,List.length_cons,List.length_nil,Nat.zero_add,Nat.reduceAdd,List.set_cons_succ,List.set_cons_zero]
    refine Tm.uncons ?_;refine Tm.cOwn ?_;try simp(disch:=omega) only[Zb]
    refine bd2_p (t:=λk=>Yp.t k _ _) (λi hi=>up0 (And.left hi)) (Yp.T hB k9 Om Om) (λy9 t9 hy=>?_);obtain⟨ys9,et9,el9,en9,hh9⟩:=hy;simp only[] at et9 en9 hh9;subst et9 en9;refine Tm.guard Ly ?_;try simp only[ZQ hA,Zah hA,ZE,List.take_zero,List.take_succ_cons,List.drop_succ_cons,List.drop_zero,List.nil_append,List.cons_append,List.length_cons,List.length_nil,Nat.zero_add,Nat.reduceAdd,List.set_cons_succ,List.set_cons_zero]
    refine Tm.uncons ?_;refine Tm.cOwn ?_;try simp(disch:=omega) only[Zb]
    refine Yo.tm (λi hi=>hi.1) (Yo.T hB k10 Om Om) (λy10 t10 hy=>?_);obtain⟨ys10,et10,el10,en10,hh10⟩:=hy;simp only[] at et10 en10 hh10;subst et10 en10;refine Tm.guard Ly ?_;try simp only[ZQ hA,Zah hA,ZE,List.take_zero,List.take_succ_cons,List.drop_succ_cons,List.drop_zero,List.nil_append,List.cons_append,List.length_cons,List.length_nil,Nat.zero_add,Nat.reduceAdd,List.set_cons_succ,List.set_cons_zero]
    refine Tm.uncons ?_;refine Tm.cOwn ?_;try simp(disch:=omega) only[Zb]
    refine bd2_p (t:=λk=>Yaa.t k _ _) (λi hi=>(And.left hi)) (Yaa.T hB k11 Om Om) (λy11 t11 hy=>?_);obtain⟨ys11,et11,el11,en11,hh11⟩:=hy;simp only[] at et11 en11 hh11;subst et11 en11;refine Tm.guard Ly ?_;refine Tm.guard Ly ?_;refine Tm.guard Ly ?_;try simp(disch:=omega) only[Zb]
    try simp only[ZQ hA,ZE,List.take_zero,List.take_succ_cons,List.drop_succ_cons,List.drop_zero,List.nil_append,List.cons_append,List.length_cons,List.length_nil,Nat.zero_add,Nat.reduceAdd,List.set_cons_succ,List.set_cons_zero]
    refine hL (_,_,_) ⟨Om,Om,done++[[.int .i64 (u),.str (Yc.v (u+1)),.int .i64 (u+1+1),.sl ys3,.sl ys4,.sl ys5,.int .i64 (u+1+1+1+(Zg c3:Int)+(Zg c4:Int)+(Zg c5:Int)),.str (Yc.v (u+1+1+1+(Zg c3:Int)+(Zg c4:Int)+(Zg c5:Int)+1)),.int .i64 (u+1+1+1+(Zg c3:Int)+(Zg c4:Int)+(Zg c5:Int)+1+1),.sl ys9,.sl ys10,.sl ys11,.bool (Int.tmod (u+1+1+1+(Zg c3:Int)+(Zg c4:Int)+(Zg c5:Int)+1+1+1+(Zg c9:Int)+(Zg c10:Int)+(Zg c11:Int)) 3==0)]],by simp only[List.length_append,List.length_cons,List.length_nil];omega,?_,Om,Zav.snoc hH trivial⟩ Sm;rw[ZL];simp only[Za,Zu,Zag,List.append_assoc,List.cons_append,List.nil_append]
   ·simp only[decide_eq_false_iff_not,hT] at h4;refine Tm.ret ⟨done,?_,Om,?_,hH⟩
    ·rw[List.drop_eq_nil_of_le Om];simp only[Za,List.append_nil]
    ·rw[List.take_of_length_le Om] at hu;exact hu
 obtain⟨v,⟨ys,e1,e2,e3,hH⟩,h2⟩:=key;exact⟨v,⟨ys,e1,e2,e3,λk hk=>hk⟩,h2⟩
theorem Y8.T {B:Nat} (hB:B<=1099511627776) {xs:LD} {n:Int} (g:Zc RSS B xs) (h0:0<=n) (h1:n+Zg xs<=4611686018427387904):Tm Zr (λk=>Y8.t k (Za xs) n) (λz=>∃ ys,z.2=Za ys/\ys.length=xs.length/\z.1=n+Zg xs/\∀ k,Zr k->Zr k):=by
 have hb:big=2^64:=rfl;have hl:=g.1;have key:Tm Zr (λk=>Y8.t k (Za xs) n) (λz=>∃ ys,z.2=Za ys/\ys.length=xs.length/\z.1=n+Zg xs/\Zav (λ_ _ _=>True) n ys z.1):=by
  unfold Y8.t Y8.g;refine Tm.loop (okk:=Zr) (p:=λk=>k) (λi hi=>hi) (b:=λk=>Y8.l0 k (λz0 z1=>some (z0,z1))) (λv=>match v with|(u,i,tab)=>((xs.length:Int)-i).toNat) (λv=>match v with|(u,i,tab)=>0<=i/\i<=xs.length/\∃ done:LD,done.length=i.toNat/\tab=Za done++Za (xs.drop i.toNat)/\u=n+Zg (xs.take i.toNat)/\Zav (λ_ _ _=>True) n done u) ?_ ?_ ?_
  ·rintro⟨u,i,tab⟩ hI;simp only[] at hI⊢;omega
  ·exact⟨Om,Om,[],rfl,by simp[Za],by simp[Zg],.nil⟩
  ·rintro⟨u,i,tab⟩ hI L hL;simp only[] at hI;obtain⟨i0,i1,done,hd,rfl,hu,hH⟩:=hI;have hA:(Za done).length=i.toNat:=by rw[Zd,hd]
   have hT:(Za done++Za (xs.drop i.toNat)).length=xs.length:=by rw[List.length_append,hA,Zd,List.length_drop];omega
   simp only[Y8.l0]
   refine Tm.ite (λh4=>?_) (λh4=>?_)
   ·simp only[decide_eq_true_eq,hT] at h4;have hx:=gR_at i0 h4;obtain⟨c0,c1,e,k0,k1,_⟩:=(g.2 _ (Zan i0 h4)).open;rw[e] at hx;have hdr:=ZcC i0 hx;have hw:=ZaE i0 hx;simp only[Z7,wtD] at hw;have hs:=ZbT xs (i+1).toNat;rw[hdr] at hT⊢;simp only[Za,Zu,Zag] at hT⊢;have hT2:=hT;simp only[List.length_append,List.length_cons] at hT2;try simp(disch:=omega) only[Zb]
    refine bd1_p (t:=λk=>Yc.t k _) (λi hi=>(And.left hi)) (Tm.at (ok:=Zr) (v:=Yc.v _) (λk hk=>Yc.tv Om hk)) (λy hy=>?_);subst hy;refine Tm.guard Ly ?_;refine Tm.guard Ly ?_;try simp(disch:=omega) only[Zb]
    refine bd1_p (t:=λk=>Yc.t k _) (λi hi=>(And.left hi)) (Tm.at (ok:=Zr) (v:=Yc.v _) (λk hk=>Yc.tv Om hk)) (λy hy=>?_);subst hy;refine Tm.guard Ly ?_;refine Tm.guard Ly ?_;try simp(disch:=omega) only[Zb]
    try simp only[ZQ hA,ZE,List.take_zero,List.take_succ_cons,List.drop_succ_cons,List.drop_zero,List.nil_append,List.cons_append,List.length_cons,List.length_nil,Nat.zero_add,Nat.reduceAdd,List.set_cons_succ,List.set_cons_zero]
    refine hL (_,_,_) ⟨Om,Om,done++[[.str (Yc.v (u)),.str (Yc.v (u+1))]],by simp only[List.length_append,List.length_cons,List.length_nil];omega,?_,Om,Zav.snoc hH trivial⟩ Sm;rw[ZL];simp only[Za,Zu,Zag,List.append_assoc,List.cons_append,List.nil_append]
   ·simp only[decide_eq_false_iff_not,hT] at h4;refine Tm.ret ⟨done,?_,Om,?_,hH⟩
    ·rw[List.drop_eq_nil_of_le Om];simp only[Za,List.append_nil]
    ·rw[List.take_of_length_le Om] at hu;exact hu
 obtain⟨v,⟨ys,e1,e2,e3,hH⟩,h2⟩:=key;exact⟨v,⟨ys,e1,e2,e3,λk hk=>hk⟩,h2⟩
theorem Yad.T {B:Nat} (hB:B<=1099511627776) {xs:LD} {n:Int} (g:Zc YQ B xs) (h0:0<=n) (h1:n+Zg xs<=4611686018427387904):Tm Zr (λk=>Yad.t k (Za xs) n) (λz=>∃ ys,z.2=Za ys/\ys.length=xs.length/\z.1=n+Zg xs/\∀ k,Zr k->Zr k):=by
 have hb:big=2^64:=rfl;have hl:=g.1;have key:Tm Zr (λk=>Yad.t k (Za xs) n) (λz=>∃ ys,z.2=Za ys/\ys.length=xs.length/\z.1=n+Zg xs/\Zav (λ_ _ _=>True) n ys z.1):=by
  unfold Yad.t Yad.g;refine Tm.loop (okk:=Zr) (p:=λk=>k) (λi hi=>hi) (b:=λk=>Yad.l0 k (λz0 z1=>some (z0,z1))) (λv=>match v with|(u,i,tab)=>((xs.length:Int)-i).toNat) (λv=>match v with|(u,i,tab)=>0<=i/\i<=xs.length/\∃ done:LD,done.length=i.toNat/\tab=Za done++Za (xs.drop i.toNat)/\u=n+Zg (xs.take i.toNat)/\Zav (λ_ _ _=>True) n done u) ?_ ?_ ?_
  ·rintro⟨u,i,tab⟩ hI;simp only[] at hI⊢;omega
  ·exact⟨Om,Om,[],rfl,by simp[Za],by simp[Zg],.nil⟩
  ·rintro⟨u,i,tab⟩ hI L hL;simp only[] at hI;obtain⟨i0,i1,done,hd,rfl,hu,hH⟩:=hI;have hA:(Za done).length=i.toNat:=by rw[Zd,hd]
   have hT:(Za done++Za (xs.drop i.toNat)).length=xs.length:=by rw[List.length_append,hA,Zd,List.length_drop];omega
   simp only[Yad.l0]
   refine Tm.ite (λh4=>?_) (λh4=>?_)
   ·simp only[decide_eq_true_eq,hT] at h4;have hx:=gR_at i0 h4;obtain⟨c0,c1,c2,c3,c4,c5,e,k0,k1,k2,k3,k4,k5,_⟩:=(g.2 _ (Zan i0 h4)).open;rw[e] at hx;have hdr:=ZcC i0 hx;have hw:=ZaE i0 hx;simp only[Z7,wtD] at hw;have hs:=ZbT xs (i+1).toNat;rw[hdr] at hT⊢;simp only[Za,Zu,Zag] at hT⊢;have hT2:=hT;simp only[List.length_append,List.length_cons] at hT2;try simp(disch:=omega) only[Zb]
    refine bd1_p (t:=λk=>Yc.t k _) (λi hi=>(And.left hi)) (Tm.at (ok:=Zr) (v:=Yc.v _) (λk hk=>Yc.tv Om hk)) (λy hy=>?_);subst hy;refine Tm.guard Ly ?_;refine Tm.guard Ly ?_;refine Tm.guard Ly ?_;try simp only[ZQ hA,Zah hA,ZE,List.take_zero,List.take_succ_cons,List.drop_succ_cons,List.drop_zero,List.nil_append,List.cons_append,List.length_cons,List.length_nil,Nat.zero_add,Nat.reduceAdd,List.set_cons_succ,List.set_cons_zero]
    refine Tm.uncons ?_;refine Tm.cOwn ?_;try simp(disch:=omega) only[Zb]
    refine bd2_p (t:=λk=>Y8.t k _ _) (λi hi=>(And.left hi)) (Y8.T hB k1 Om Om) (λy1 t1 hy=>?_);obtain⟨ys1,et1,el1,en1,hh1⟩:=hy;simp only[] at et1 en1 hh1;subst et1 en1;refine Tm.guard Ly ?_;try simp only[ZQ hA,Zah hA,ZE,List.take_zero,List.take_succ_cons,List.drop_succ_cons,List.drop_zero,List.nil_append,List.cons_append,List.length_cons,List.length_nil,Nat.zero_add,Nat.reduceAdd,List.set_cons_succ,List.set_cons_zero]
    refine Tm.uncons ?_;refine Tm.cOwn ?_;try simp(disch:=omega) only[Zb]
    refine bd2_p (t:=λk=>Yp.t k _ _) (λi hi=>(And.left hi)) (Yp.T hB k2 Om Om) (λy2 t2 hy=>?_);obtain⟨ys2,et2,el2,en2,hh2⟩:=hy;simp only[] at et2 en2 hh2;subst et2 en2;refine Tm.guard Ly ?_;refine Tm.guard Ly ?_;refine Tm.guard Ly ?_;refine Tm.guard Ly ?_;refine Tm.guard Ly ?_;refine Tm.guard Ly ?_;try simp(disch:=omega) only[Zb]
    try simp only[ZQ hA,ZE,List.take_zero,List.take_succ_cons,List.drop_succ_cons,List.drop_zero,List.nil_append,List.cons_append,List.length_cons,List.length_nil,Nat.zero_add,Nat.reduceAdd,List.set_cons_succ,List.set_cons_zero]
    refine hL (_,_,_) ⟨Om,Om,done++[[.str (Yc.v (u)),.sl ys1,.sl ys2,.int .i64 (u+1+(Zg c1:Int)+(Zg c2:Int)),.int .i64 (u+1+(Zg c1:Int)+(Zg c2:Int)+1),.int .i64 (u+1+(Zg c1:Int)+(Zg c2:Int)+1+1)]],by simp only[List.length_append,List.length_cons,List.length_nil];omega,?_,Om,Zav.snoc hH trivial⟩ Sm;rw[ZL];simp only[Za,Zu,Zag,List.append_assoc,List.cons_append,List.nil_append]
   ·simp only[decide_eq_false_iff_not,hT] at h4;refine Tm.ret ⟨done,?_,Om,?_,hH⟩
    ·rw[List.drop_eq_nil_of_le Om];simp only[Za,List.append_nil]
    ·rw[List.take_of_length_le Om] at hu;exact hu
 obtain⟨v,⟨ys,e1,e2,e3,hH⟩,h2⟩:=key;exact⟨v,⟨ys,e1,e2,e3,λk hk=>hk⟩,h2⟩
theorem Yae.T {B:Nat} (hB:B<=1099511627776) {xs:LD} {n:Int} (g:Zc Yba B xs) (h0:0<=n) (h1:n+Zg xs<=4611686018427387904):Tm Zr (λk=>Yae.t k (Za xs) n) (λz=>∃ ys,z.2=Za ys/\ys.length=xs.length/\z.1=n+Zg xs/\∀ k,Zr k->Zr k):=by
 have hb:big=2^64:=rfl;have hl:=g.1;have key:Tm Zr (λk=>Yae.t k (Za xs) n) (λz=>∃ ys,z.2=Za ys/\ys.length=xs.length/\z.1=n+Zg xs/\Zav (λ_ _ _=>True) n ys z.1):=by
  unfold Yae.t Yae.g;refine Tm.loop (okk:=Zr) (p:=λk=>k) (λi hi=>hi) (b:=λk=>Yae.l0 k (λz0 z1=>some (z0,z1))) (λv=>match v with|(u,i,tab)=>((xs.length:Int)-i).toNat) (λv=>match v with|(u,i,tab)=>0<=i/\i<=xs.length/\∃ done:LD,done.length=i.toNat/\tab=Za done++Za (xs.drop i.toNat)/\u=n+Zg (xs.take i.toNat)/\Zav (λ_ _ _=>True) n done u) ?_ ?_ ?_
  ·rintro⟨u,i,tab⟩ hI;simp only[] at hI⊢;omega
  ·exact⟨Om,Om,[],rfl,by simp[Za],by simp[Zg],.nil⟩
  ·rintro⟨u,i,tab⟩ hI L hL;simp only[] at hI;obtain⟨i0,i1,done,hd,rfl,hu,hH⟩:=hI;have hA:(Za done).length=i.toNat:=by rw[Zd,hd]
   have hT:(Za done++Za (xs.drop i.toNat)).length=xs.length:=by rw[List.length_append,hA,Zd,List.length_drop];omega
   simp only[Yae.l0]
   refine Tm.ite (λh4=>?_) (λh4=>?_)
   ·simp only[decide_eq_true_eq,hT] at h4;have hx:=gR_at i0 h4;obtain⟨c0,c1,c2,c3,c4,e,k0,k1,k2,k3,k4,_⟩:=(g.2 _ (Zan i0 h4)).open;rw[e] at hx;have hdr:=ZcC i0 hx;have hw:=ZaE i0 hx;simp only[Z7,wtD] at hw;have hs:=ZbT xs (i+1).toNat;rw[hdr] at hT⊢;simp only[Za,Zu,Zag] at hT⊢;have hT2:=hT;simp only[List.length_append,List.length_cons] at hT2;refine Tm.guard Ly ?_;refine Tm.guard Ly ?_;try simp(disch:=omega) only[Zb]
    refine bd1_p (t:=λk=>Yc.t k _) (λi hi=>(And.left hi)) (Tm.at (ok:=Zr) (v:=Yc.v _) (λk hk=>Yc.tv Om hk)) (λy hy=>?_);subst hy;refine Tm.guard Ly ?_;refine Tm.guard Ly ?_;refine Tm.guard Ly ?_;refine Tm.guard Ly ?_;refine Tm.guard Ly ?_;refine Tm.guard Ly ?_;refine Tm.guard Ly ?_;refine Tm.guard Ly ?_;try simp(disch:=omega) only[Zb]
    try simp only[ZQ hA,ZE,List.take_zero,List.take_succ_cons,List.drop_succ_cons,List.drop_zero,List.nil_append,List.cons_append,List.length_cons,List.length_nil,Nat.zero_add,Nat.reduceAdd,List.set_cons_succ,List.set_cons_zero]
    refine hL (_,_,_) ⟨Om,Om,done++[[.int .i64 (u),.str (Yc.v (u+1)),.int .i64 (u+1+1),.int .i64 (u+1+1+1),.int .i64 (u+1+1+1+1)]],by simp only[List.length_append,List.length_cons,List.length_nil];omega,?_,Om,Zav.snoc hH trivial⟩ Sm;rw[ZL];simp only[Za,Zu,Zag,List.append_assoc,List.cons_append,List.nil_append]
   ·simp only[decide_eq_false_iff_not,hT] at h4;refine Tm.ret ⟨done,?_,Om,?_,hH⟩
    ·rw[List.drop_eq_nil_of_le Om];simp only[Za,List.append_nil]
    ·rw[List.take_of_length_le Om] at hu;exact hu
 obtain⟨v,⟨ys,e1,e2,e3,hH⟩,h2⟩:=key;exact⟨v,⟨ys,e1,e2,e3,λk hk=>hk⟩,h2⟩
theorem YbI.T {B:Nat} (hB:B<=1099511627776) {a3 a4 a5 a6:LD} {n:Int} (g3:Zc Ya B a3) (g4:Zc YQ B a4) (g5:Zc Yba B a5) (g6:Zc RS B a6) (h0:0<=n) (h1:n+Zg a3+Zg a4+Zg a5+Zg a6<=4611686018427387904):Tm (Zp 1) (λk=>YbI.t k c0 c1 c2 (Za a3) (Za a4) (Za a5) (Za a6) n) (λz=>∃ ys3 ys4 ys5 ys6,z.1=n+Zg a3+Zg a4+Zg a5+Zg a6/\z.2.1=Za ys3/\z.2.2.1=Za ys4/\z.2.2.2.1=Za ys5/\z.2.2.2.2=Za ys6/\ys3.length=a3.length/\ys4.length=a4.length/\ys5.length=a5.length/\ys6.length=a6.length/\∀ k,(Zp 1) k->(Zp 1) k):=by
 unfold YbI.t YbI.g;refine bd2_t (λi hi=>hi) (Yam.T hB g3 Om Om) (λy3 t3 hy=>?_);obtain⟨ys3,et3,el3,en3,hh3⟩:=hy;simp only[] at et3 en3 hh3;subst et3 en3;try refine Tm.guard (by rw[Zd,Zd];first|exact el3|exact el3.1) ?_
 refine bd2_t (λi hi=>up0 hi) (Yad.T hB g4 Om Om) (λy4 t4 hy=>?_);obtain⟨ys4,et4,el4,en4,hh4⟩:=hy;simp only[] at et4 en4 hh4;subst et4 en4;try refine Tm.guard (by rw[Zd,Zd];first|exact el4|exact el4.1) ?_
 refine bd2_t (λi hi=>up0 hi) (Yae.T hB g5 Om Om) (λy5 t5 hy=>?_);obtain⟨ys5,et5,el5,en5,hh5⟩:=hy;simp only[] at et5 en5 hh5;subst et5 en5;try refine Tm.guard (by rw[Zd,Zd];first|exact el5|exact el5.1) ?_
 refine bd2_t (λi hi=>up0 hi) (Yp.T hB g6 Om Om) (λy6 t6 hy=>?_);obtain⟨ys6,et6,el6,en6,hh6⟩:=hy;simp only[] at et6 en6 hh6;subst et6 en6;try refine Tm.guard (by rw[Zd,Zd];first|exact el6|exact el6.1) ?_
 exact Tm.ret ⟨ys3,ys4,ys5,ys6,rfl,rfl,rfl,rfl,rfl,(by first|exact el3|exact el3.1),(by first|exact el4|exact el4.1),(by first|exact el5|exact el5.1),(by first|exact el6|exact el6.1),λk hk=>hk⟩
theorem Ya4.T {a1:BA} (ga0_0:(Lit.int .i64 aB).wf=true) (ga0_1:(Lit.int .i64 aA).wf=true) (ga0_2:(Lit.int .i64 aD).wf=true) (ga0_3:Zc Ya maxLen aE) (ga0_4:Zc YQ maxLen aG) (ga0_5:Zc Yba maxLen aJ) (ga0_6:Zc RS maxLen aK) (ga1:a1.size<=maxLen):Tm (Zp 2) (λk=>Ya4.t k aB aA aD aE aG aJ aK a1) (λr=>r=true):=by
 unfold Ya4.t Ya4.g;have hm:=Zh;have hlim:lim=1048576:=rfl;refine Tm.ite (λh1=>?_) (λh1=>?_)
 ·try simp only[bz] at h1
  exact Tm.ret Ry
 ·try simp only[bz] at h1
  refine bd1_t (λi hi=>upn hi De) (Yce.T Au Au Au Au Au Au) (λy3 hy2=>?_);rcases hy2 with hy2|⟨p9,p10,q4,q5,q6,q7,q8,_⟩
  ·exact Tm.ite (λ_=>Tm.ret (by rfl)) (λh=>by simp at h;omega)
  refine Tm.ite (λh11=>?_) (λh11=>?_)
  ·try simp only[bz] at h11
   exact Tm.ret Ry
  ·try simp only[bz] at h11
   refine bd7_t (λi hi=>upn hi De) (Ybx.T Au Au Au Au) (λy13 y14 y15 y16 y17 y18 y19 hy12=>?_);try simp only[] at hy12
   obtain⟨rfl,rfl,rfl,rfl,rfl,rfl,rfl,_⟩:=hy12;try simp only[Zq]
   refine bd1_t (λi hi=>upn hi De) (Tm.self (Ya8.T Au Au Au Au Au Au Au Au Au Au)) (λy21 hy20=>?_);have hf22:=hy20.1;try simp only[] at hf22
   obtain⟨q23,q24,_⟩:=hf22;refine bd7_t (λi hi=>upn hi De) (Ybx.T Au Au Au Au) (λy26 y27 y28 y29 y30 y31 y32 hy25=>?_);try simp only[] at hy25
   obtain⟨rfl,rfl,rfl,rfl,rfl,rfl,rfl,_⟩:=hy25;try simp only[Zq]
   refine bd1_t (λi hi=>hi) (Tm.at (ok:=(Zp 2)) (v:=Za (C.immRows y21)) (λk hk=>Ya5.same Au Au Au Au Au Au Au Au Au Au hk ((hy20.2) k (upn hk De)))) (λy34 hy33=>?_);subst y34;try simp only[Zq]
   refine bd1_t (λi hi=>upn hi De) (Yal.T Au Au) (λy36 hy35=>?_);subst hy35;refine Tm.ite (λh37=>?_) (λh37=>?_)
   ·try simp only[bz] at h37
    exact Tm.ret Ry
   ·try simp only[bz] at h37
    refine bd7_t (λi hi=>upn hi De) (Ybx.T Au Au Au Au) (λy39 y40 y41 y42 y43 y44 y45 hy38=>?_);try simp only[] at hy38
    obtain⟨rfl,rfl,rfl,rfl,rfl,rfl,rfl,_⟩:=hy38;try simp only[Zq]
    refine bd1_t (λi hi=>upn hi De) (Ycf.T Au Au Au Au Au) (λy47 hy46=>?_);subst hy46;refine Tm.ite (λh48=>?_) (λh48=>?_)
    ·try simp only[bz] at h48
     exact Tm.ret Ry
    ·try simp only[bz] at h48
     refine bd5_t (λi hi=>upn hi De) (YbI.T (B:=2097152) De (by first|assumption|exact Ya.wide Az) (by first|assumption|exact YQ.wide Az) (by first|assumption|exact Yba.wide Az) (by first|assumption|exact RS.wide Az) Om Om) (λy50 y51 y52 y53 y54 hy49=>?_);obtain⟨ys56,ys57,ys58,ys59,en68,et60,et61,et62,et63,el64,el65,el66,el67,hh55⟩:=hy49;simp only[] at en68 et60 et61 et62 et63 hh55;subst en68 et60 et61 et62 et63;refine Tm.guard Gz ?_;refine Tm.guard Gz ?_;refine Tm.guard Gz ?_;refine Tm.guard Gz ?_;refine Tm.ite (λh69=>?_) (λh69=>?_)
     ·try simp only[bz] at h69
      exact Tm.ret Ry
     ·try simp only[bz] at h69
      refine bd1_t (λi hi=>upn hi De) (Yal.T Au Au) (λy71 hy70=>?_);subst hy70;refine Tm.ite (λh72=>?_) (λh72=>?_)
      ·try simp only[bz] at h72
       exact Tm.ret Ry
      ·try simp only[bz] at h72
       refine bd2_t (λi hi=>upn hi De) (Yac.T (B:=2097152) De (by first|assumption|exact YO.wide Az) Om Om) (λy74 y75 hy73=>?_);obtain⟨ys77,et78,el79,en80,hh76⟩:=hy73;simp only[] at en80 et78 hh76;subst en80 et78;refine Tm.guard Gz ?_;try simp only[Zq]
       refine bd1_t (λi hi=>upn hi De) (Tm.at (ok:=(Zp 1)) (λk hk=>hh76 k hk)) (λy82 hy81=>?_);subst hy81;refine Tm.ite (λh83=>?_) (λh83=>?_)
       ·try simp only[bz] at h83
        exact Tm.ret Ry
       ·try simp only[bz] at h83
        refine Tm.ite (λh84=>?_) (λh84=>?_)
        ·try simp only[bz] at h84
         exact Tm.ret Ry
        ·try simp only[bz] at h84
         refine bd7_t (λi hi=>upn hi De) (Ybx.T Au Au Au Au) (λy86 y87 y88 y89 y90 y91 y92 hy85=>?_);try simp only[] at hy85
         obtain⟨rfl,rfl,rfl,rfl,rfl,rfl,rfl,_⟩:=hy85;try simp only[Zq]
         refine bd1_t (λi hi=>hi) (Tm.at (ok:=(Zp 2)) (v:=Za (C.immRows y21)) (λk hk=>Ya5.same Au Au Au Au Au Au Au Au Au Au hk ((hy20.2) k (upn hk De)))) (λy94 hy93=>?_);subst y94;try simp only[Zq]
         refine bd1_t (λi hi=>upn hi De) (Yal.T Au Au) (λy96 hy95=>?_);subst hy95;refine Tm.ite (λh97=>?_) (λh97=>?_)
         ·try simp only[bz] at h97
          exact Tm.ret Ry
         ·try simp only[bz] at h97
          try simp only[Zq]
          refine bd1_t (λi hi=>upn hi De) (Tm.at (ok:=(Zp 1)) (λk hk=>hh76 k hk)) (λy99 hy98=>?_);subst hy98;refine Tm.ite (λh100=>?_) (λh100=>?_)
          ·try simp only[bz] at h100
           exact Tm.ret Ry
          ·try simp only[bz] at h100
           refine Tm.ite (λh101=>?_) (λh101=>?_)
           ·try simp only[bz] at h101
            exact Tm.ret Ry
           ·try simp only[bz] at h101
            exact Tm.ret Ry
open Go.ChangeShapes Go.WideShapes Go.ChangeAt Go.RowKit
open Go.ChangeMaps (open_string shut_string)
theorem own:ownKnob Tryz.prog.godebug=none:=by kernel_rfl
theorem laidOut:laidOutB Tryz.prog=true:=by kernel_rfl
theorem goodS_9 {r:List D} (h:RowS Tryz.prog maxLen 9 r):RS maxLen r:=by
 have hh:=h.open (show ZA Tryz.prog 6 9=[9] from by kernel_rfl);obtain⟨d0,l0,rfl,g0,hh0⟩:=goodR_cons hh;obtain⟨c0,rfl,k0⟩:=good_str Kr g0;obtain rfl:=goodR_nil hh0;exact⟨c0,rfl,k0,trivial⟩
theorem goodISLSE_195 {r:List D} (h:RowS Tryz.prog maxLen 195 r):Ybl maxLen r:=by
 have hh:=h.open (show ZA Tryz.prog 6 195=[3,9,25] from by kernel_rfl);obtain⟨d0,l0,rfl,g0,hh0⟩:=goodR_cons hh;obtain⟨c0,rfl,k0⟩:=good_int (k:=.i64) Kr g0;obtain⟨d1,l1,rfl,g1,hh1⟩:=goodR_cons hh0;obtain⟨c1,rfl,k1⟩:=good_str Kr g1;obtain⟨d2,l2,rfl,g2,hh2⟩:=goodR_cons hh1;obtain⟨c2,rfl,k2,m2⟩:=good_sl (e:=9) Kr g2;obtain rfl:=goodR_nil hh2;exact⟨c0,c1,c2,rfl,k0,k1,⟨k2,λr hr=>goodS_9 (m2 r hr)⟩,trivial⟩
theorem goodSI_197 {r:List D} (h:RowS Tryz.prog maxLen 197 r):RSI maxLen r:=by
 have hh:=h.open (show ZA Tryz.prog 6 197=[9,3] from by kernel_rfl);obtain⟨d0,l0,rfl,g0,hh0⟩:=goodR_cons hh;obtain⟨c0,rfl,k0⟩:=good_str Kr g0;obtain⟨d1,l1,rfl,g1,hh1⟩:=goodR_cons hh0;obtain⟨c1,rfl,k1⟩:=good_int (k:=.i64) Kr g1;obtain rfl:=goodR_nil hh1;exact⟨c0,c1,rfl,k0,k1,trivial⟩
theorem goodISILSELXE_89_n (n:Nat):∀ r:List D,SizeOf.sizeOf r=n->RowS Tryz.prog maxLen 89 r->∃ h,Yx maxLen h r:=by
 induction n using Nat.strongRecOn with
 |ind n ih=>
 intro r hn h;have hh:=h.open (show ZA Tryz.prog 6 89=[3,9,3,25,87] from by kernel_rfl);obtain⟨d0,l0,rfl,g0,hh0⟩:=goodR_cons hh;obtain⟨c0,rfl,k0⟩:=good_int (k:=.i64) Kr g0;obtain⟨d1,l1,rfl,g1,hh1⟩:=goodR_cons hh0;obtain⟨c1,rfl,k1⟩:=good_str Kr g1;obtain⟨d2,l2,rfl,g2,hh2⟩:=goodR_cons hh1;obtain⟨c2,rfl,k2⟩:=good_int (k:=.i64) Kr g2;obtain⟨d3,l3,rfl,g3,hh3⟩:=goodR_cons hh2;obtain⟨c3,rfl,k3,m3⟩:=good_sl (e:=9) Kr g3;obtain⟨d4,l4,rfl,g4,hh4⟩:=goodR_cons hh3;obtain⟨c4,rfl,k4,m4⟩:=good_sl (e:=89) Kr g4;obtain rfl:=goodR_nil hh4;have hs:∀ r'∈c4,SizeOf.sizeOf r'<n:=λr' hr=>by have:=List.sizeOf_lt_of_mem hr;simp at hn;omega
 obtain⟨hq,q4⟩:=common (Q:=Yx maxLen) (λ_ _ _=>Yx.mono) c4 λr' hr=>ih _ (hs r' hr) r' rfl (m4 r' hr)
 exact⟨hq+1,.mk c0 c1 c2 c3 c4 k0 k1 k2 ⟨k3,λr hr=>goodS_9 (m3 r hr)⟩ k4 q4⟩
theorem goodISILSELXE_89 {r:List D} (h:RowS Tryz.prog maxLen 89 r):Yt maxLen r:=by
 obtain⟨h1,h2⟩:=goodISILSELXE_89_n _ r rfl h;exact⟨h1,λhb=>absurd (show(9223372036854775807:Nat)<=1099511627776 from hb) De,h2⟩
theorem YcS {r:List D} (h:RowS Tryz.prog maxLen 219 r):Yn maxLen r:=by
 have hh:=h.open (show ZA Tryz.prog 6 219=[3,25,3,9,3,25,87] from by kernel_rfl);obtain⟨d0,l0,rfl,g0,hh0⟩:=goodR_cons hh;obtain⟨c0,rfl,k0⟩:=good_int (k:=.i64) Kr g0;obtain⟨d1,l1,rfl,g1,hh1⟩:=goodR_cons hh0;obtain⟨c1,rfl,k1,m1⟩:=good_sl (e:=9) Kr g1;obtain⟨d2,l2,rfl,g2,hh2⟩:=goodR_cons hh1;obtain⟨c2,rfl,k2⟩:=good_int (k:=.i64) Kr g2;obtain⟨d3,l3,rfl,g3,hh3⟩:=goodR_cons hh2;obtain⟨c3,rfl,k3⟩:=good_str Kr g3;obtain⟨d4,l4,rfl,g4,hh4⟩:=goodR_cons hh3;obtain⟨c4,rfl,k4⟩:=good_int (k:=.i64) Kr g4;obtain⟨d5,l5,rfl,g5,hh5⟩:=goodR_cons hh4;obtain⟨c5,rfl,k5,m5⟩:=good_sl (e:=9) Kr g5;obtain⟨d6,l6,rfl,g6,hh6⟩:=goodR_cons hh5;obtain⟨c6,rfl,k6,m6⟩:=good_sl (e:=89) Kr g6;obtain rfl:=goodR_nil hh6;exact⟨c0,c1,c2,c3,c4,c5,c6,rfl,k0,⟨k1,λr hr=>goodS_9 (m1 r hr)⟩,k2,k3,k4,⟨k5,λr hr=>goodS_9 (m5 r hr)⟩,⟨k6,λr hr=>goodISILSELXE_89 (m6 r hr)⟩,trivial⟩
theorem YcN {r:List D} (h:RowS Tryz.prog maxLen 175 r):Yd maxLen r:=by
 have hh:=h.open (show ZA Tryz.prog 6 175=[9,173] from by kernel_rfl);obtain⟨d0,l0,rfl,g0,hh0⟩:=goodR_cons hh;obtain⟨c0,rfl,k0⟩:=good_str Kr g0;obtain⟨d1,l1,rfl,g1,hh1⟩:=goodR_cons hh0;obtain⟨c1,rfl,k1,m1⟩:=good_sl (e:=219) Kr g1;obtain rfl:=goodR_nil hh1;exact⟨c0,c1,rfl,k0,⟨k1,λr hr=>YcS (m1 r hr)⟩,trivial⟩
theorem Ycl {r:List D} (h:RowS Tryz.prog maxLen 92 r):Ya maxLen r:=by
 have hh:=h.open (show ZA Tryz.prog 6 92=[3,9,3,83,25,84,3,9,3,25,87,90,4] from by kernel_rfl);obtain⟨d0,l0,rfl,g0,hh0⟩:=goodR_cons hh;obtain⟨c0,rfl,k0⟩:=good_int (k:=.i64) Kr g0;obtain⟨d1,l1,rfl,g1,hh1⟩:=goodR_cons hh0;obtain⟨c1,rfl,k1⟩:=good_str Kr g1;obtain⟨d2,l2,rfl,g2,hh2⟩:=goodR_cons hh1;obtain⟨c2,rfl,k2⟩:=good_int (k:=.i64) Kr g2;obtain⟨d3,l3,rfl,g3,hh3⟩:=goodR_cons hh2;obtain⟨c3,rfl,k3,m3⟩:=good_sl (e:=195) Kr g3;obtain⟨d4,l4,rfl,g4,hh4⟩:=goodR_cons hh3;obtain⟨c4,rfl,k4,m4⟩:=good_sl (e:=9) Kr g4;obtain⟨d5,l5,rfl,g5,hh5⟩:=goodR_cons hh4;obtain⟨c5,rfl,k5,m5⟩:=good_sl (e:=197) Kr g5;obtain⟨d6,l6,rfl,g6,hh6⟩:=goodR_cons hh5;obtain⟨c6,rfl,k6⟩:=good_int (k:=.i64) Kr g6;obtain⟨d7,l7,rfl,g7,hh7⟩:=goodR_cons hh6;obtain⟨c7,rfl,k7⟩:=good_str Kr g7;obtain⟨d8,l8,rfl,g8,hh8⟩:=goodR_cons hh7;obtain⟨c8,rfl,k8⟩:=good_int (k:=.i64) Kr g8;obtain⟨d9,l9,rfl,g9,hh9⟩:=goodR_cons hh8;obtain⟨c9,rfl,k9,m9⟩:=good_sl (e:=9) Kr g9;obtain⟨d10,l10,rfl,g10,hh10⟩:=goodR_cons hh9;obtain⟨c10,rfl,k10,m10⟩:=good_sl (e:=89) Kr g10;obtain⟨d11,l11,rfl,g11,hh11⟩:=goodR_cons hh10;obtain⟨c11,rfl,k11,m11⟩:=good_sl (e:=175) Kr g11;obtain⟨d12,l12,rfl,g12,hh12⟩:=goodR_cons hh11;obtain⟨c12,rfl⟩:=good_bool Kr g12;obtain rfl:=goodR_nil hh12;exact⟨c0,c1,c2,c3,c4,c5,c6,c7,c8,c9,c10,c11,c12,rfl,k0,k1,k2,⟨k3,λr hr=>goodISLSE_195 (m3 r hr)⟩,⟨k4,λr hr=>goodS_9 (m4 r hr)⟩,⟨k5,λr hr=>goodSI_197 (m5 r hr)⟩,k6,k7,k8,⟨k9,λr hr=>goodS_9 (m9 r hr)⟩,⟨k10,λr hr=>goodISILSELXE_89 (m10 r hr)⟩,⟨k11,λr hr=>YcN (m11 r hr)⟩,trivial⟩
theorem goodSS_200 {r:List D} (h:RowS Tryz.prog maxLen 200 r):RSS maxLen r:=by
 have hh:=h.open (show ZA Tryz.prog 6 200=[9,9] from by kernel_rfl);obtain⟨d0,l0,rfl,g0,hh0⟩:=goodR_cons hh;obtain⟨c0,rfl,k0⟩:=good_str Kr g0;obtain⟨d1,l1,rfl,g1,hh1⟩:=goodR_cons hh0;obtain⟨c1,rfl,k1⟩:=good_str Kr g1;obtain rfl:=goodR_nil hh1;exact⟨c0,c1,rfl,k0,k1,trivial⟩
theorem goodSLSSELSEIII_98 {r:List D} (h:RowS Tryz.prog maxLen 98 r):YQ maxLen r:=by
 have hh:=h.open (show ZA Tryz.prog 6 98=[9,94,25,3,3,3] from by kernel_rfl);obtain⟨d0,l0,rfl,g0,hh0⟩:=goodR_cons hh;obtain⟨c0,rfl,k0⟩:=good_str Kr g0;obtain⟨d1,l1,rfl,g1,hh1⟩:=goodR_cons hh0;obtain⟨c1,rfl,k1,m1⟩:=good_sl (e:=200) Kr g1;obtain⟨d2,l2,rfl,g2,hh2⟩:=goodR_cons hh1;obtain⟨c2,rfl,k2,m2⟩:=good_sl (e:=9) Kr g2;obtain⟨d3,l3,rfl,g3,hh3⟩:=goodR_cons hh2;obtain⟨c3,rfl,k3⟩:=good_int (k:=.i64) Kr g3;obtain⟨d4,l4,rfl,g4,hh4⟩:=goodR_cons hh3;obtain⟨c4,rfl,k4⟩:=good_int (k:=.i64) Kr g4;obtain⟨d5,l5,rfl,g5,hh5⟩:=goodR_cons hh4;obtain⟨c5,rfl,k5⟩:=good_int (k:=.i64) Kr g5;obtain rfl:=goodR_nil hh5;exact⟨c0,c1,c2,c3,c4,c5,rfl,k0,⟨k1,λr hr=>goodSS_200 (m1 r hr)⟩,⟨k2,λr hr=>goodS_9 (m2 r hr)⟩,k3,k4,k5,trivial⟩
theorem goodISIII_100 {r:List D} (h:RowS Tryz.prog maxLen 100 r):Yba maxLen r:=by
 have hh:=h.open (show ZA Tryz.prog 6 100=[3,9,3,3,3] from by kernel_rfl);obtain⟨d0,l0,rfl,g0,hh0⟩:=goodR_cons hh;obtain⟨c0,rfl,k0⟩:=good_int (k:=.i64) Kr g0;obtain⟨d1,l1,rfl,g1,hh1⟩:=goodR_cons hh0;obtain⟨c1,rfl,k1⟩:=good_str Kr g1;obtain⟨d2,l2,rfl,g2,hh2⟩:=goodR_cons hh1;obtain⟨c2,rfl,k2⟩:=good_int (k:=.i64) Kr g2;obtain⟨d3,l3,rfl,g3,hh3⟩:=goodR_cons hh2;obtain⟨c3,rfl,k3⟩:=good_int (k:=.i64) Kr g3;obtain⟨d4,l4,rfl,g4,hh4⟩:=goodR_cons hh3;obtain⟨c4,rfl,k4⟩:=good_int (k:=.i64) Kr g4;obtain rfl:=goodR_nil hh4;exact⟨c0,c1,c2,c3,c4,rfl,k0,k1,k2,k3,k4,trivial⟩
theorem types:lawTys Tryz.prog [92,195,9,197,89,175,219,98,200,100]=true:=by kernel_rfl
theorem lifted (os:Os) (started:os.Started) (H:Type) (enc:TypeId×Value->H):
  ReturnsInHanded {} Tryz.checked os 4 .any (Rows.fnExactWorksSpec.pre6 enc Tryz.prog Tryz.f4 Rows.fnExactWorksRow.domain false) (Rows.fnExactWorksSpec.post enc Tryz.prog Tryz.f4 false true false false):=by
 refine returnsInHanded_of_change_sized (C:=Tryz.checked) own started Kr Tryz.func4
  (ChangeSpec.witness6 (enc:=enc) (C:=Tryz.checked) false ⟨#[],#[.agg #[.int .i64 0,.int .i64 0,.int .i64 0,.slice none 0 0,.slice none 0 0,.slice none 0 0,.slice none 0 0],.string ByteArray.empty],[]⟩ 8 Kr Kr Kr Kr) ?_
 intro W base args ds gs before hval0 hW hcnd hsz0 _;have hval:∀ (j:Nat) t v,Tryz.f4.params[j]? = some t->args[j]? = some v->Value.okWide Tryz.prog W .any base t v:=hval0;have hW':=hW;obtain⟨p,q,hA0,hV,rfl,hfz,hnd⟩:=hW;have hA:DataW.TrodAll enc Tryz.prog W 0 (λ_=>true) true Tryz.f4.params.toList args.toList ds p:=hA0;have hpar:Tryz.f4.params=#[27,9]:=by kernel_rfl
 rw[hpar] at hA hval;obtain⟨v0,vs0,d0,ds0,p0,q0,hargs,rfl,rfl,h0,r0⟩:=trodAll_cons hA;obtain⟨v1,vs1,d1,ds1,p1,q1,rfl,rfl,rfl,h1,r1⟩:=trodAll_cons r0;obtain⟨rfl,rfl,rfl⟩:=trodAll_nil r1;obtain rfl:args=#[v0,v1]:=by cases args;simp_all
 obtain⟨rfl,rfl⟩:=trodVars_none hV;have k0:=h0;have lt0:∀ x∈p0,x.block<W.heap.size:=by obtain⟨m,hm⟩:=k0;exact DataW.trod_lt m _ _ _ hm
 obtain⟨cs0,xs0,rfl,hl0,hc0,hg0⟩:=open_agg types Kr Kr (hval 0 27 v0 rfl rfl) h0;have hj0:=hg0.open (show ZA Tryz.prog 6 27=[3,3,3,22,23,24,25] from by kernel_rfl);obtain⟨ea0_0,la0_0,rfl,wa0_0,hj0_0⟩:=goodR_cons hj0;obtain⟨aB,rfl,ka0_0⟩:=good_int (k:=.i64) Kr wa0_0;obtain⟨ea0_1,la0_1,rfl,wa0_1,hj0_1⟩:=goodR_cons hj0_0;obtain⟨aA,rfl,ka0_1⟩:=good_int (k:=.i64) Kr wa0_1;obtain⟨ea0_2,la0_2,rfl,wa0_2,hj0_2⟩:=goodR_cons hj0_1;obtain⟨aD,rfl,ka0_2⟩:=good_int (k:=.i64) Kr wa0_2;obtain⟨ea0_3,la0_3,rfl,wa0_3,hj0_3⟩:=goodR_cons hj0_2;obtain⟨aE,rfl,ka0_3,ma0_3⟩:=good_sl (e:=92) Kr wa0_3;obtain⟨ea0_4,la0_4,rfl,wa0_4,hj0_4⟩:=goodR_cons hj0_3;obtain⟨aG,rfl,ka0_4,ma0_4⟩:=good_sl (e:=98) Kr wa0_4;obtain⟨ea0_5,la0_5,rfl,wa0_5,hj0_5⟩:=goodR_cons hj0_4;obtain⟨aJ,rfl,ka0_5,ma0_5⟩:=good_sl (e:=100) Kr wa0_5;obtain⟨ea0_6,la0_6,rfl,wa0_6,hj0_6⟩:=goodR_cons hj0_5;obtain⟨aK,rfl,ka0_6,ma0_6⟩:=good_sl (e:=9) Kr wa0_6;obtain rfl:=goodR_nil hj0_6;have k1:=h1;have lt1:∀ x∈p1,x.block<W.heap.size:=by obtain⟨m,hm⟩:=k1;exact DataW.trod_lt m _ _ _ hm
 obtain⟨sv1,rfl,_⟩:=open_string Kr (hval 1 9 v1 rfl rfl) h1;obtain⟨ea1,hd1,wa1⟩:=open_cell types Kr rfl Kr h1;obtain⟨a1,rfl,ka1⟩:=good_str Kr wa1;clear hA0 hval0 hsz0;obtain⟨kb,hkb⟩:∃ k,lv 2<=k:=⟨_,Nat.le_refl _⟩
 obtain⟨z,rfl,hz⟩:=Ya4.T ka0_0 ka0_1 ka0_2 ⟨ka0_3,λr hr=>Ycl (ma0_3 r hr)⟩ ⟨ka0_4,λr hr=>goodSLSSELSEIII_98 (ma0_4 r hr)⟩ ⟨ka0_5,λr hr=>goodISIII_100 (ma0_5 r hr)⟩ ⟨ka0_6,λr hr=>goodS_9 (ma0_6 r hr)⟩ ka1;refine(law_calls (Ya4.ok kb) rfl rfl Kr (aa:=[.agg [.int .i64 aB,.int .i64 aA,.int .i64 aD,.sl aE,.sl aG,.sl aJ,.sl aK],.d (.str a1)]) (vs:=[.agg cs0.toArray,.string sv1]) ?_ ⟨(),?_⟩).mono λe W' ⟨he,bel⟩=>?_
 ·exact(ZY.cons' ⟨rfl,cs0,rfl,hl0,hc0⟩ (ZY.cons' ⟨rfl,hd1⟩ ZY.nil'))
 ·exact(ent_run (Ya4.e kb) rfl (congrArg some (hz kb hkb)) rfl)
 ·subst he;exact⟨_,rfl,_,_,_,[],_,[],hW',trodAll_mk1 (shut_bool Kr _),(trodAll_cons_mk (Below.trod laidOut Kr (of_decide_eq_true Kr) k0 bel lt0) (trodAll_cons_mk (Below.trod laidOut Kr (of_decide_eq_true Kr) k1 bel lt1) trodAll_mk0)),rfl,bel.frame _,λh=>by cases h⟩
theorem facts1:joined1 Tryz.prog 4 Tryz.f4 Rows.fnExactWorksSpec Rows.fnExactWorksRow=true:=by kernel_rfl
theorem facts2:joined2 Tryz.prog 4 Tryz.f4 Rows.fnExactWorksSpec Rows.fnExactWorksRow=true:=by kernel_rfl
theorem facts3:joined3 Tryz.prog 4 Tryz.f4 Rows.fnExactWorksSpec Rows.fnExactWorksRow=true:=by kernel_rfl
theorem facts4:joined4 Tryz.prog 4 Tryz.f4 Rows.fnExactWorksSpec Rows.fnExactWorksRow=true:=by kernel_rfl
theorem facts5:joined5 Tryz.prog 4 Tryz.f4 Rows.fnExactWorksSpec Rows.fnExactWorksRow=true:=by kernel_rfl
theorem facts6:joined6 Tryz.prog 4 Tryz.f4 Rows.fnExactWorksSpec Rows.fnExactWorksRow=true:=by kernel_rfl
theorem facts7:joined7 Tryz.prog 4 Tryz.f4 Rows.fnExactWorksSpec Rows.fnExactWorksRow=true:=by kernel_rfl
theorem facts8:joined8 Tryz.prog 4 Tryz.f4 Rows.fnExactWorksSpec Rows.fnExactWorksRow=true:=by kernel_rfl
theorem over:Rows.fnExactWorksRow.holds Tryz.pinned (OpenSpec.ofChange Rows.fnExactWorksSpec):=
 OpenClaim.holds_of_wide 4 Tryz.f4 rfl rfl rfl rfl rfl rfl rfl ⟨rfl,rfl,rfl,rfl,rfl⟩ rfl rfl rfl rfl rfl Kr Tryz.func4 (joined_of facts1 facts2 facts3 facts4 facts5 facts6 facts7 facts8)
  (of_decide_eq_true Kr) (by unfold Func.isWrapper;first|(rw[if_pos (by decide +kernel)];kernel_rfl)|(rw[if_neg (by decide +kernel)];exact⟨rfl,rfl⟩))
  (λos started H enc _=>lifted os started H enc)
theorem fnExactWorks_holds:Rows.FnExactWorksSaid:=over
end Go.Proofs.YtnfogafklciihaaGreat
