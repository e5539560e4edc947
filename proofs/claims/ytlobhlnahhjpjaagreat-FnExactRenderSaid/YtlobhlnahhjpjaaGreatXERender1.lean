/- Printed: the functions that FnExactRender reaches,read by the evaluator,each with its contract. -/
import Derived.Test.YtlobhlnahhjpjaaGreatXERender0
import Derived.KernelRfl
set_option linter.unusedVariables false
set_option linter.unusedSimpArgs false
namespace Go.Proofs.YtlobhlnahhjpjaaGreat
open Go Go.T Go.Proofs
noncomputable def YE.t (k:Nat) (xs:LC) (i:Int) (ys:LC):Option LC:=Zd (0<=i/\i<=(xs.length:Int)/\xs.length+ys.length<=Z8) (some (xs.take i.toNat++ys++xs.drop i.toNat))
noncomputable def YE.f {β:Type} (k:Nat) (xs:LC) (i:Int) (ys:LC) (K:LC->Option β):Option β:=
 match YE.t k xs i ys with
 |some z0=>K z0
 |none=>none
noncomputable def YE.run (k:Nat):{β:Type}->List A->(LC->Option β)->Option β:=λ{β} l K=>
 match l with
 |[.own false [.own xs],.d (.int .i64 i),.own false [.own ys]]=>YE.f k xs i ys K
 |_=>none
noncomputable def YE.e (k:Nat):Zj:={ modes:=[(.own,0)],rts:=[52],al:=false,run:=λ_ _=>none,lib:=some ⟨[true,false,true],52,YE.run k⟩ }
set_option maxHeartbeats 4000000 in
set_option maxRecDepth 1000000 in
theorem YE.raw0 (a:Option Addr) (n cap i:Nat) (a':Option Addr) (cap':Nat) (w:World) (hi:i<=n) (hn:n<=cap):Calls Tryz.prog 202 #[.slice a n cap,.int .i64 i,.slice a' 0 cap'] w λex w'=>ex=.returned (.slice a n cap)/\w'=w:=by
 go_enter Tryz.func202,Tryz.ntmps202
 go_wp2
 all_goals (go_ret;exact⟨rfl,rfl⟩)
set_option maxHeartbeats 4000000 in
set_option maxRecDepth 1000000 in
theorem YE.rawA (a:Option Addr) (n cap m vb vcap:Nat) (w W':World) (R:Value) (hm:0<m) (hn:n<=cap) (hrun:∀ ty,(Builtin.append_ #[52,52] ty #[.slice a n cap,.slice (some ⟨vb,0,none⟩) m vcap]).run Tryz.prog w=.ok R W'):
  Calls Tryz.prog 202 #[.slice a n cap,.int .i64 n,.slice (some ⟨vb,0,none⟩) m vcap] w λex w'=>ex=.returned R/\w'=W':=by
 have mixed:Tryz.prog.follows .mixedOrders=true:=by kernel_rfl
 have hz1:¬ ((m:Int)=0):=by omega
 go_enter Tryz.func202,Tryz.ntmps202
 cases a with
 |none=>
  go_wp2_with (at_builtin;refine Lib.wpList_append_run _ rfl _ _ _ _ rfl _ _ rfl rfl _ _ (hrun _) ?_)
  all_goals (go_ret;exact⟨rfl,rfl⟩)
 |some a=>
  obtain⟨ab,ao,asp⟩:=a
  go_wp2_with (at_builtin;refine Lib.wpList_append_run _ rfl _ _ _ _ rfl _ _ rfl rfl _ _ (hrun _) ?_)
  all_goals (go_ret;exact⟨rfl,rfl⟩)
set_option maxHeartbeats 4000000 in
set_option maxRecDepth 1000000 in
theorem YE.rawB (b n cap i vb m vcap:Nat) (cd vs:List Value) (w:World) (hi:i<n) (hm:0<m) (hroom:n+m<=cap) (hnm:n+m<=9223372036854775807)
  (hov:∀ lb cb,(callFunc 211 #[.slice (some ⟨vb,0,none⟩) m vcap,.slice (some ⟨b,(i+m)*5,none⟩) lb cb]).run Tryz.prog w=.ok (.value (.bool false)) w)
  (hcp1:∀ ty dc sc,(Builtin.copy_ #[52,52] ty #[.slice (some ⟨b,(i+m)*5,none⟩) (n+m-(i+m)) dc,.slice (some ⟨b,i*5,none⟩) (n+m-i) sc]).run Tryz.prog w.drew=.ok (goInt ((n-i:Nat):Int)) (w.drew.setCells b ((i+m)*5) cd))
  (hcp2:∀ ty dc,(Builtin.copy_ #[52,52] ty #[.slice (some ⟨b,i*5,none⟩) (n+m-i) dc,.slice (some ⟨vb,0,none⟩) m vcap]).run Tryz.prog (w.drew.setCells b ((i+m)*5) cd)=.ok (goInt m) ((w.drew.setCells b ((i+m)*5) cd).setCells b (i*5) vs)):
  Calls Tryz.prog 202 #[.slice (some ⟨b,0,none⟩) n cap,.int .i64 i,.slice (some ⟨vb,0,none⟩) m vcap] w λex w'=>ex=.returned (.slice (some ⟨b,0,none⟩) (n+m) cap)/\w'=(w.drew.setCells b ((i+m)*5) cd).setCells b (i*5) vs:=by
 have mixed:Tryz.prog.follows .mixedOrders=true:=by kernel_rfl
 have hz1:¬ ((m:Int)=0):=by omega
 have hz2:¬ ((i:Int)=(n:Int)):=by omega
 have hw1:IntKind.i64.wrap ((i:Int)+(m:Int))=(i:Int)+(m:Int):=by rw[IntKind.wrap_i64];omega
 have hb1:(0:Int)<=(i:Int)+(m:Int):=by omega
 have hin:i<=n:=by omega
 have htn:((i:Int)+(m:Int)).toNat=i+m:=by omega
 have hb2:¬ (cap=i+m):=by omega
 have hb3:(i:Int)<=(n:Int)+(m:Int):=by omega
 have hb4:¬ (cap=i):=by omega
 obtain⟨W1,hW1⟩:∃ W1,Hold (W1=w.drew.setCells b ((i+m)*5) cd):=⟨_,⟨rfl⟩⟩
 rw[<- hW1.out] at hcp1 hcp2⊢
 go_enter Tryz.func202,Tryz.ntmps202
 go_wp2_with (simp only[hov])
 go_region_law_o (refine step_copy_run rfl _ _ 52 52 rfl _ _ (by simp[Act.eval,Act.put]) (by simp[Act.eval,Act.put]) (hcp1 _ _ _) ?_)
 go_wp2_with (at_builtin;refine wpList_copy_run _ rfl _ _ 52 52 rfl _ _ rfl rfl (hcp2 _ _) ?_)
 go_ret
 exact⟨rfl,rfl⟩
set_option maxHeartbeats 4000000 in
set_option maxRecDepth 1000000 in
theorem YE.rawC (b n cap i vb m vcap G N:Nat) (cd vs:List Value) (w W1:World) (hi:i<n) (hm:0<m) (hn:n<=cap) (hroom:cap<n+m) (hG:n+m<=G) (hG63:G<=9223372036854775807)
  (hrz:∀ ty,(Builtin.append_ #[52,3] ty #[.slice (some ⟨b,0,none⟩) i cap,.int .i64 ((n:Int)+(m:Int)-(i:Int))]).run Tryz.prog w=.ok (.slice (some ⟨N,0,none⟩) (n+m) G) W1)
  (hcpA:∀ ty dc,(Builtin.copy_ #[52,52] ty #[.slice (some ⟨N,i*5,none⟩) (n+m-i) dc,.slice (some ⟨vb,0,none⟩) m vcap]).run Tryz.prog W1=.ok (goInt m) (W1.setCells N (i*5) vs))
  (hcpB:∀ ty dc sc,(Builtin.copy_ #[52,52] ty #[.slice (some ⟨N,(i+m)*5,none⟩) (n+m-(i+m)) dc,.slice (some ⟨b,i*5,none⟩) (n-i) sc]).run Tryz.prog (W1.setCells N (i*5) vs).drew=.ok (goInt ((n-i:Nat):Int)) ((W1.setCells N (i*5) vs).drew.setCells N ((i+m)*5) cd)):
  Calls Tryz.prog 202 #[.slice (some ⟨b,0,none⟩) n cap,.int .i64 i,.slice (some ⟨vb,0,none⟩) m vcap] w λex w'=>ex=.returned (.slice (some ⟨N,0,none⟩) (n+m) G)/\w'=(W1.setCells N (i*5) vs).drew.setCells N ((i+m)*5) cd:=by
 have mixed:Tryz.prog.follows .mixedOrders=true:=by kernel_rfl
 have hz1:¬ ((m:Int)=0):=by omega
 have hz2:¬ ((i:Int)=(n:Int)):=by omega
 have hz3:(cap:Int)<(n:Int)+(m:Int):=by omega
 have hGi:¬ (G=i):=by omega
 have hGim:¬ (G=i+m):=by omega
 have hci:¬ (cap=i):=by omega
 have hw1:IntKind.i64.wrap ((i:Int)+(m:Int))=(i:Int)+(m:Int):=by rw[IntKind.wrap_i64];omega
 have hb1:(0:Int)<=(i:Int)+(m:Int):=by omega
 have hin:i<=n:=by omega
 have htn:((i:Int)+(m:Int)).toNat=i+m:=by omega
 have hb3:(i:Int)<=(n:Int):=by omega
 obtain⟨W2,hW2⟩:∃ W2,Hold (W2=W1.setCells N (i*5) vs):=⟨_,⟨rfl⟩⟩
 rw[<- hW2.out] at hcpA hcpB⊢
 go_enter Tryz.func202,Tryz.ntmps202
 go_wp2_with (first
  |(at_builtin;refine Lib.wpList_append_run _ rfl _ _ _ _ rfl _ _ rfl rfl _ _ (hrz _) ?_)
  |(at_builtin;refine wpList_copy_run _ rfl _ _ 52 52 rfl _ _ rfl rfl (hcpA _ _) ?_))
 go_region_law_o (refine step_copy_run rfl _ _ 52 52 rfl (.slice (some ⟨N,(i+m)*5,none⟩) (n+m-(i+m)) (G-(i+m))) (.slice (some ⟨b,i*5,none⟩) (n-i) (cap-i)) (by simp[Act.eval,Act.put]) (by simp[Act.eval,Act.put]) (hcpB _ _ _) ?_)
 go_wp2
 go_ret
 exact⟨rfl,rfl⟩
theorem YE.raw:InsRaw Tryz.prog 202 5:=by
 obtain⟨i0,z,hi,hz,hzs⟩:=Zbr (P:=Tryz.prog) (t:=54) (by kernel_rfl)
 have hsz:i0.size=5:=by
  have:Tryz.prog.cellsOf 54=5:=by kernel_rfl
  simpa[Program.cellsOf,hi] using this
 have hzc:z.cells.size=5:=by
  have h1:(ZaM Tryz.prog 54).length=5:=by kernel_rfl
  rw[<- h1]
  simpa using(Zaq hzs).2.2.1.symm
 have hby:i0.bytes<=1000:=by
  have:(Tryz.prog.info? 54).map (·.bytes)=some 80:=by kernel_rfl
  rw[hi] at this
  simp only[Option.map_some,Option.some.injEq] at this
  rw[this]
  decide
 exact InsRoads.raw (o:=211) (S:=52) (E:=54) (T:=4) ⟨YE.raw0,YE.rawA,YE.rawB,YE.rawC⟩ Tryz.underlying52 (by kernel_rfl) hi hz hsz (by decide) hzc hby (λx y w h=>by
  rw[run_callFunc_extern Tryz.func211 (by kernel_rfl) (by kernel_rfl) (by kernel_rfl) (e:=Extern.SlicesOverlaps.overlaps #[52,52] #[4]) (by kernel_rfl),h]
  rfl)
theorem YE.ok (k:Nat):Zf Tryz.prog 202 (YE.e k):=insert_ok tyok (ct:=52) (K:=5) (run:=λ{β}=>YE.run k) (by kernel_rfl) (enter_of Tryz.func202 (by kernel_rfl)) YE.raw (λβ aa K r h=>by
 unfold YE.run at h
 split at h
 ·unfold YE.f YE.t at h
  split at h
  ·rename_i hz
   obtain⟨hg,hz⟩:=Zp hz
   injection hz with hz
   subst hz
   exact⟨_,_,_,rfl,hg,h⟩
  ·cases h
 ·cases h)
noncomputable def YaZ.g {β:Type} (k:Nat) (aB:Int) (aA:BA) (aC:Int) (aD aE:LC) (a1:BA) (bH:Int) (bL:BA) (bI:Int) (bJ bK:LC) (K:Int->BA->Int->LC->LC->Bool->Option β):Option β:=
 bif((aB:Int)==5) then(Yh.f k (C.immRows aD) a1 (λy31 y32=>Y7.f k a1 (λy33=>bif(!y33) then(K aB aA aC aD aE false) else(bif y32 then(Zd ((0:Int)<=y31/\y31<(aE.length:Int)) (Zd (Int.toNat y31<aE.length) (K aB aA aC aD (aE.modify (Int.toNat y31) λc=>Zs c 0 [.d (.int .i64 bH),.d (.str bL),.d (.int .i64 bI),.own bJ,.own bK]) true))) else(YN.f k aD y31 ([[.d (.str a1)]]:LC) (λy34=>YE.f k aE y31 ([[.d (.int .i64 bH),.d (.str bL),.d (.int .i64 bI),.own bJ,.own bK]]:LC) (λy35=>K aB aA aC y34 y35 true))))))) else(bif((aB:Int)==4) then(YaP.f k a1 (λy36 y37=>bif(!y37) then(K aB aA aC aD aE false) else(bif(decide ((y36:Int)>(aE.length:Int))) then(K aB aA aC aD aE false) else(bif((y36:Int)==(aE.length:Int)) then(Zd (aE.length+([[.d (.int .i64 bH),.d (.str bL),.d (.int .i64 bI),.own bJ,.own bK]]:LC).length<=Z8) (K aB aA aC aD (aE++([[.d (.int .i64 bH),.d (.str bL),.d (.int .i64 bI),.own bJ,.own bK]]:LC)) true)) else(Zd ((0:Int)<=y36/\y36<(aE.length:Int)) (Zd (Int.toNat y36<aE.length) (K aB aA aC aD (aE.modify (Int.toNat y36) λc=>Zs c 0 [.d (.int .i64 bH),.d (.str bL),.d (.int .i64 bI),.own bJ,.own bK]) true))))))) else(K aB aA aC aD aE false))
noncomputable def YaZ.t (k:Nat) (aB:Int) (aA:BA) (aC:Int) (aD aE:LC) (a1:BA) (bH:Int) (bL:BA) (bI:Int) (bJ bK:LC):Option (Int×BA×Int×LC×LC×Bool):=YaZ.g k aB aA aC aD aE a1 bH bL bI bJ bK (λz0 z1 z2 z3 z4 z5=>some (z0,z1,z2,z3,z4,z5))
noncomputable def YaZ.f {β:Type} (k:Nat) (aB:Int) (aA:BA) (aC:Int) (aD aE:LC) (a1:BA) (bH:Int) (bL:BA) (bI:Int) (bJ bK:LC) (K:Int->BA->Int->LC->LC->Bool->Option β):Option β:=match YaZ.t k aB aA aC aD aE a1 bH bL bI bJ bK with|some (z0,z1,z2,z3,z4,z5)=>K z0 z1 z2 z3 z4 z5|none=>none
noncomputable def YaZ.e (k:Nat):Zj:=ent [.own true 54 [.n,.s,.n,.o,.o],.d .s,.own true 54 [.n,.s,.n,.o,.o]] [5,1] [.n,.s,.n,.o,.o,.b] [54,4] false (YaZ.t k) true true
noncomputable def YaZ.p (k:Nat):Pro:=⟨Tryz.prog,[(200,Yh.e k),(112,Y7.e k),(201,YN.e k),(202,YE.e k),(198,YaP.e k)],Zv [] false [] true true,k⟩
theorem YaZ.ok (k:Nat):Zf Tryz.prog 192 (YaZ.e k):=Zk (YaZ.p k) mix tyok Tryz.func192 ⟨Yh.ok k,Y7.ok k,YN.ok k,YE.ok k,YaP.ok k⟩ (by kernel_rfl) (λaB aA aC aD aE a1 bH bL bI bJ bK=>by show _=_;kernel_rfl)
noncomputable def Y2.t (k:Nat) (xs:LC) (i j:Int):Option LC:=Zd (0<=i/\i<=j/\j<=(xs.length:Int)) (some (xs.take i.toNat++xs.drop j.toNat))
noncomputable def Y2.f {β:Type} (k:Nat) (xs:LC) (i j:Int) (K:LC->Option β):Option β:=
 match Y2.t k xs i j with
 |some z0=>K z0
 |none=>none
noncomputable def Y2.run (k:Nat):{β:Type}->List A->(LC->Option β)->Option β:=λ{β} l K=>
 match l with
 |[.own false [.own xs],.d (.int .i64 i),.d (.int .i64 j)]=>Y2.f k xs i j K
 |_=>none
noncomputable def Y2.e (k:Nat):Zj:={ modes:=[(.own,0)],rts:=[45],al:=false,run:=λ_ _=>none,lib:=some ⟨[true,false,false],45,Y2.run k⟩ }
set_option maxHeartbeats 4000000 in
set_option maxRecDepth 1000000 in
theorem Y2.raw0 (a:Option Addr) (n cap i:Nat) (w:World) (hi:i<=n) (hn:n<=cap):Calls Tryz.prog 203 #[.slice a n cap,.int .i64 i,.int .i64 i] w λex w'=>ex=.returned (.slice a n cap)/\w'=w:=by
 go_enter Tryz.func203,Tryz.ntmps203
 go_wp2
 all_goals (go_ret;exact⟨rfl,rfl⟩)
set_option maxHeartbeats 4000000 in
set_option maxRecDepth 1000000 in
theorem Y2.raw2 (b cap n i j:Nat) (c:Array Value) (e:TypeId) (w:World) (hb:w.heap[b]? = some (.cells c e (0,0))) (hc:c.size=cap*1) (hn:n<=cap) (hij:i<j) (hj:j<=n) (h1:∀ t,t<n*1->∃ v,c[t]? = some v/\v.oneCell'=true) (i0:TypeInfo) (z:Value) (hi:Tryz.prog.info? 9=some i0) (hz:i0.zero=some z) (hs:i0.size=1) (hzs:z.cells.size=1) (hz1:∀ v∈z.cells.toList,v.oneCell'=true):
  Calls Tryz.prog 203 #[.slice (some ⟨b,0,none⟩) n cap,.int .i64 i,.int .i64 j] w λex w'=>ex=.returned (.slice (some ⟨b,0,none⟩) (n-(j-i)) cap)/\Only b w w'/\∃ c',w'.heap[b]? = some (.cells c' e (0,0))/\c'.size=c.size/\(∀ t,t<i*1->c'[t]? = c[t]?)/\∀ t,t<(n-j)*1->c'[i*1+t]? = c[j*1+t]?:=by
 have mixed:Tryz.prog.follows .mixedOrders=true:=by kernel_rfl
 have hb0:w.drew.heap[b]? = some (.cells c e (0,0)):=hb
 obtain⟨A,news,hA,hlen,hsrc,hone,hget⟩:=tail_src hb0 hc hn hj h1
 obtain⟨hb1,ho1⟩:=Zaa news (i*1) hb0
 obtain⟨W1,hW1⟩:∃ W1,W1=w.drew.setCells b (0+i*1) news:=⟨_,rfl⟩
 rw[Nat.zero_add] at hW1
 rw[<- hW1] at hb1 ho1
 have hle:i*1+news.length<=c.size:=by rw[hlen,hc];omega
 have hcl:∀ ty,(Builtin.clear_ #[45] ty #[.slice (some ⟨b,(i+(n-j))*1,none⟩) (n-(i+(n-j))) (cap-(i+(n-j)))]).run Tryz.prog W1=.ok (.tuple #[]) (W1.setCells b ((i+(n-j))*1) (Builtin.zeroCells z.cells (n-(i+(n-j)))).toList):=
  λty=>run_clear_cells Tryz.underlying45 hi hz hz1 (by omega) (λt ht=>by rw[Zat hb1];rw[hzs] at ht;rw[Array.getElem?_eq_getElem (by rw[Zab,hc];omega)];rfl) (λt ht=>Zax hb1 _)
 have hW:Hold (W1=w.drew.setCells b (i*1) news):=⟨hW1⟩
 obtain⟨hb2,ho2⟩:=Zaa (Builtin.zeroCells z.cells (n-(i+(n-j)))).toList ((i+(n-j))*1) hb1
 have hfin:Hold (Only b w (W1.setCells b ((i+(n-j))*1) (Builtin.zeroCells z.cells (n-(i+(n-j)))).toList)/\∃ c',(W1.setCells b ((i+(n-j))*1) (Builtin.zeroCells z.cells (n-(i+(n-j)))).toList).heap[b]? = some (.cells c' e (0,0))/\c'.size=c.size/\(∀ t,t<i*1->c'[t]? = c[t]?)/\∀ t,t<(n-j)*1->c'[i*1+t]? = c[j*1+t]?):=by
  have hzl:(Builtin.zeroCells z.cells (n-(i+(n-j)))).toList.length=(n-(i+(n-j)))*1:=by simp[Zaj,hzs]
  refine⟨((Only.drew b w).trans ho1).trans ho2,_,hb2,by rw[Zab,Zab],λt ht=>?_,λt ht=>?_⟩
  ·rw[Z6 _ _ _ _ (by rw[hzl,Zab,hc];omega),if_neg (by omega),Z6 _ _ _ _ hle,if_neg (by omega)]
  ·rw[Z6 _ _ _ _ (by rw[hzl,Zab,hc];omega),if_neg (by omega),Z6 _ _ _ _ hle,if_pos (by omega),Nat.add_sub_cancel_left,hget t ht]
 have hsp:∀ t,t<news.length->(w.drew.cell? ⟨b,0+i*1+t,none⟩).isSome=true/\w.drew.frozen? ⟨b,0+i*1+t,none⟩=false:=λt ht=>⟨by rw[Zat hb0,Array.getElem?_eq_getElem (by omega)];rfl,Zax hb0 _⟩
 generalize(Builtin.zeroCells z.cells (n-(i+(n-j)))).toList=zl at hcl hfin
 clear hb hb0 ho1 hb1 hb2 ho2 hget hW1 h1 hle hc hz1 hzs hz
 simp only[Nat.mul_one] at hcl hW hA hlen hsp hfin⊢
 simp only[Nat.zero_add] at hsp
 have hic:i<=cap:=by omega
 have hjc:j<=cap:=by omega
 go_enter Tryz.func203,Tryz.ntmps203
 go_wp2_with fail
 go_region_law_o (refine step_append_room rfl (.tmp 22) (.tmp 25) 45 rfl 9 i0 1 Tryz.underlying45 hi hs b 0 i cap (by simp[Act.eval,Act.put]) A (n-j) (cap-j) news (by simp[Act.eval,Act.put]) (by rw[hlen,Nat.mul_one]) hsrc hone (by omega) (by simpa only[Nat.mul_one,Nat.zero_add] using hsp) ?_;simp only[Nat.zero_add,Nat.mul_one];rw[<- hW.out])
 go_wp2
 go_ret
 refine⟨?_,hfin.out⟩
 rw[show i+(n-j)=n-(j-i) from by omega]
 rfl
theorem Y2.raw:DelRaw Tryz.prog 203 1:=⟨λa n cap i w h1 h2=>Y2.raw0 a n cap i w h1 h2,λb cap n i j c e w hb hc hn hij hj h1=>by
 obtain⟨i0,z,hi,hz,hzs⟩:=Zbr (P:=Tryz.prog) (t:=9) (by kernel_rfl)
 have hsz:i0.size=1:=by
  have:Tryz.prog.cellsOf 9=1:=by kernel_rfl
  simpa[Program.cellsOf,hi] using this
 have hzc:z.cells.size=1:=by
  have h1:(ZaM Tryz.prog 9).length=1:=by kernel_rfl
  rw[<- h1]
  simpa using(Zaq hzs).2.2.1.symm
 exact Y2.raw2 b cap n i j c e w hb hc hn hij hj h1 i0 z hi hz hsz hzc (Zaq hzs).2.1⟩
theorem Y2.ok (k:Nat):Zf Tryz.prog 203 (Y2.e k):=delete_ok tyok (ct:=45) (K:=1) (run:=λ{β}=>Y2.run k) (by kernel_rfl) (enter_of Tryz.func203 (by kernel_rfl)) Y2.raw (λβ aa K r h=>by
 unfold Y2.run at h
 split at h
 ·unfold Y2.f Y2.t at h
  split at h
  ·rename_i hz
   obtain⟨hg,hz⟩:=Zp hz
   injection hz with hz
   subst hz
   exact⟨_,_,_,rfl,hg,h⟩
  ·cases h
 ·cases h)
noncomputable def YI.t (k:Nat) (xs:LC) (i j:Int):Option LC:=Zd (0<=i/\i<=j/\j<=(xs.length:Int)) (some (xs.take i.toNat++xs.drop j.toNat))
noncomputable def YI.f {β:Type} (k:Nat) (xs:LC) (i j:Int) (K:LC->Option β):Option β:=
 match YI.t k xs i j with
 |some z0=>K z0
 |none=>none
noncomputable def YI.run (k:Nat):{β:Type}->List A->(LC->Option β)->Option β:=λ{β} l K=>
 match l with
 |[.own false [.own xs],.d (.int .i64 i),.d (.int .i64 j)]=>YI.f k xs i j K
 |_=>none
noncomputable def YI.e (k:Nat):Zj:={ modes:=[(.own,0)],rts:=[52],al:=false,run:=λ_ _=>none,lib:=some ⟨[true,false,false],52,YI.run k⟩ }
set_option maxHeartbeats 4000000 in
set_option maxRecDepth 1000000 in
theorem YI.raw0 (a:Option Addr) (n cap i:Nat) (w:World) (hi:i<=n) (hn:n<=cap):Calls Tryz.prog 204 #[.slice a n cap,.int .i64 i,.int .i64 i] w λex w'=>ex=.returned (.slice a n cap)/\w'=w:=by
 go_enter Tryz.func204,Tryz.ntmps204
 go_wp2
 all_goals (go_ret;exact⟨rfl,rfl⟩)
set_option maxHeartbeats 4000000 in
set_option maxRecDepth 1000000 in
theorem YI.raw2 (b cap n i j:Nat) (c:Array Value) (e:TypeId) (w:World) (hb:w.heap[b]? = some (.cells c e (0,0))) (hc:c.size=cap*5) (hn:n<=cap) (hij:i<j) (hj:j<=n) (h1:∀ t,t<n*5->∃ v,c[t]? = some v/\v.oneCell'=true) (i0:TypeInfo) (z:Value) (hi:Tryz.prog.info? 54=some i0) (hz:i0.zero=some z) (hs:i0.size=5) (hzs:z.cells.size=5) (hz1:∀ v∈z.cells.toList,v.oneCell'=true):
  Calls Tryz.prog 204 #[.slice (some ⟨b,0,none⟩) n cap,.int .i64 i,.int .i64 j] w λex w'=>ex=.returned (.slice (some ⟨b,0,none⟩) (n-(j-i)) cap)/\Only b w w'/\∃ c',w'.heap[b]? = some (.cells c' e (0,0))/\c'.size=c.size/\(∀ t,t<i*5->c'[t]? = c[t]?)/\∀ t,t<(n-j)*5->c'[i*5+t]? = c[j*5+t]?:=by
 have mixed:Tryz.prog.follows .mixedOrders=true:=by kernel_rfl
 have hb0:w.drew.heap[b]? = some (.cells c e (0,0)):=hb
 obtain⟨A,news,hA,hlen,hsrc,hone,hget⟩:=tail_src hb0 hc hn hj h1
 obtain⟨hb1,ho1⟩:=Zaa news (i*5) hb0
 obtain⟨W1,hW1⟩:∃ W1,W1=w.drew.setCells b (0+i*5) news:=⟨_,rfl⟩
 rw[Nat.zero_add] at hW1
 rw[<- hW1] at hb1 ho1
 have hle:i*5+news.length<=c.size:=by rw[hlen,hc];omega
 have hcl:∀ ty,(Builtin.clear_ #[52] ty #[.slice (some ⟨b,(i+(n-j))*5,none⟩) (n-(i+(n-j))) (cap-(i+(n-j)))]).run Tryz.prog W1=.ok (.tuple #[]) (W1.setCells b ((i+(n-j))*5) (Builtin.zeroCells z.cells (n-(i+(n-j)))).toList):=
  λty=>run_clear_cells Tryz.underlying52 hi hz hz1 (by omega) (λt ht=>by rw[Zat hb1];rw[hzs] at ht;rw[Array.getElem?_eq_getElem (by rw[Zab,hc];omega)];rfl) (λt ht=>Zax hb1 _)
 have hW:Hold (W1=w.drew.setCells b (i*5) news):=⟨hW1⟩
 obtain⟨hb2,ho2⟩:=Zaa (Builtin.zeroCells z.cells (n-(i+(n-j)))).toList ((i+(n-j))*5) hb1
 have hfin:Hold (Only b w (W1.setCells b ((i+(n-j))*5) (Builtin.zeroCells z.cells (n-(i+(n-j)))).toList)/\∃ c',(W1.setCells b ((i+(n-j))*5) (Builtin.zeroCells z.cells (n-(i+(n-j)))).toList).heap[b]? = some (.cells c' e (0,0))/\c'.size=c.size/\(∀ t,t<i*5->c'[t]? = c[t]?)/\∀ t,t<(n-j)*5->c'[i*5+t]? = c[j*5+t]?):=by
  have hzl:(Builtin.zeroCells z.cells (n-(i+(n-j)))).toList.length=(n-(i+(n-j)))*5:=by simp[Zaj,hzs]
  refine⟨((Only.drew b w).trans ho1).trans ho2,_,hb2,by rw[Zab,Zab],λt ht=>?_,λt ht=>?_⟩
  ·rw[Z6 _ _ _ _ (by rw[hzl,Zab,hc];omega),if_neg (by omega),Z6 _ _ _ _ hle,if_neg (by omega)]
  ·rw[Z6 _ _ _ _ (by rw[hzl,Zab,hc];omega),if_neg (by omega),Z6 _ _ _ _ hle,if_pos (by omega),Nat.add_sub_cancel_left,hget t ht]
 have hsp:∀ t,t<news.length->(w.drew.cell? ⟨b,0+i*5+t,none⟩).isSome=true/\w.drew.frozen? ⟨b,0+i*5+t,none⟩=false:=λt ht=>⟨by rw[Zat hb0,Array.getElem?_eq_getElem (by omega)];rfl,Zax hb0 _⟩
 generalize(Builtin.zeroCells z.cells (n-(i+(n-j)))).toList=zl at hcl hfin
 clear hb hb0 ho1 hb1 hb2 ho2 hget hW1 h1 hle hc hz1 hzs hz
 have hic:i<=cap:=by omega
 have hjc:j<=cap:=by omega
 go_enter Tryz.func204,Tryz.ntmps204
 go_wp2_with fail
 go_region_law_o (refine step_append_room rfl (.tmp 22) (.tmp 25) 52 rfl 54 i0 5 Tryz.underlying52 hi hs b 0 i cap (by simp[Act.eval,Act.put]) A (n-j) (cap-j) news (by simp[Act.eval,Act.put]) hlen hsrc hone (by omega) hsp ?_;rw[Nat.zero_add,<- hW.out])
 go_wp2
 go_ret
 refine⟨?_,hfin.out⟩
 rw[show i+(n-j)=n-(j-i) from by omega]
 rfl
theorem YI.raw:DelRaw Tryz.prog 204 5:=⟨λa n cap i w h1 h2=>YI.raw0 a n cap i w h1 h2,λb cap n i j c e w hb hc hn hij hj h1=>by
 obtain⟨i0,z,hi,hz,hzs⟩:=Zbr (P:=Tryz.prog) (t:=54) (by kernel_rfl)
 have hsz:i0.size=5:=by
  have:Tryz.prog.cellsOf 54=5:=by kernel_rfl
  simpa[Program.cellsOf,hi] using this
 have hzc:z.cells.size=5:=by
  have h1:(ZaM Tryz.prog 54).length=5:=by kernel_rfl
  rw[<- h1]
  simpa using(Zaq hzs).2.2.1.symm
 exact YI.raw2 b cap n i j c e w hb hc hn hij hj h1 i0 z hi hz hsz hzc (Zaq hzs).2.1⟩
theorem YI.ok (k:Nat):Zf Tryz.prog 204 (YI.e k):=delete_ok tyok (ct:=52) (K:=5) (run:=λ{β}=>YI.run k) (by kernel_rfl) (enter_of Tryz.func204 (by kernel_rfl)) YI.raw (λβ aa K r h=>by
 unfold YI.run at h
 split at h
 ·unfold YI.f YI.t at h
  split at h
  ·rename_i hz
   obtain⟨hg,hz⟩:=Zp hz
   injection hz with hz
   subst hz
   exact⟨_,_,_,rfl,hg,h⟩
  ·cases h
 ·cases h)
noncomputable def YaW.g {β:Type} (k:Nat) (aB:Int) (aA:BA) (aC:Int) (aD aE:LC) (a1:BA) (K:Int->BA->Int->LC->LC->Bool->Option β):Option β:=
 YaT.f k aB aA aC (C.immRows aD) (C.immRows aE) a1 (λy1=>bif(decide ((y1:Int)<0)) then(K aB aA aC aD aE false) else(bif((aB:Int)==5) then(Y2.f k aD y1 (IntKind.wrap .i64 (y1+1)) (λy2=>YI.f k aE y1 (IntKind.wrap .i64 (y1+1)) (λy3=>K aB aA aC y2 y3 true))) else(YI.f k aE y1 (IntKind.wrap .i64 (y1+1)) (λy4=>K aB aA aC aD y4 true))))
noncomputable def YaW.t (k:Nat) (aB:Int) (aA:BA) (aC:Int) (aD aE:LC) (a1:BA):Option (Int×BA×Int×LC×LC×Bool):=YaW.g k aB aA aC aD aE a1 (λz0 z1 z2 z3 z4 z5=>some (z0,z1,z2,z3,z4,z5))
noncomputable def YaW.f {β:Type} (k:Nat) (aB:Int) (aA:BA) (aC:Int) (aD aE:LC) (a1:BA) (K:Int->BA->Int->LC->LC->Bool->Option β):Option β:=match YaW.t k aB aA aC aD aE a1 with|some (z0,z1,z2,z3,z4,z5)=>K z0 z1 z2 z3 z4 z5|none=>none
noncomputable def YaW.e (k:Nat):Zj:=ent [.own true 54 [.n,.s,.n,.o,.o],.d .s] [5,1] [.n,.s,.n,.o,.o,.b] [54,4] false (YaW.t k) true true
noncomputable def YaW.p (k:Nat):Pro:=⟨Tryz.prog,[(191,YaT.e k),(203,Y2.e k),(204,YI.e k)],Zv [] false [] true true,k⟩
theorem YaW.ok (k:Nat):Zf Tryz.prog 193 (YaW.e k):=Zk (YaW.p k) mix tyok Tryz.func193 ⟨YaT.ok k,Y2.ok k,YI.ok k⟩ (by kernel_rfl) (λaB aA aC aD aE a1=>by show _=_;kernel_rfl)
noncomputable def Y8.body {β:Type} (k:Nat) (r_impl_changed:Int->BA->Int->LC->LC->LD->Int->LD->Int->BA->Int->LD->LD->(Int->BA->Int->LC->LC->Bool->Option β)->Option β) (aB:Int) (aA:BA) (aC:Int) (aD aE:LC) (a1:LD) (bH:Int) (bL:LD) (bI:Int) (bJ:BA) (bK:Int) (a2_5 a2_6:LD) (K:Int->BA->Int->LC->LC->Bool->Option β):Option β:=
 bif(((a1.length:Int):Int)==1) then(bif((bH:Int)==1) then(atR a1 0 [.s] λx4=>(Yj.f k bI bJ bK a2_5 a2_6 (λy5 y6 y7 y8 y9=>YaZ.f k aB aA aC aD aE x4 y5 y6 y7 y8 y9 (λy38 y39 y40 y41 y42 y43=>K y38 y39 y40 y41 y42 y43)))) else(atR a1 0 [.s] λx47=>(YaW.f k aB aA aC aD aE x47 (λy48 y49 y50 y51 y52 y53=>K y48 y49 y50 y51 y52 y53)))) else(atR a1 0 [.s] λx57=>(YaT.f k aB aA aC (C.immRows aD) (C.immRows aE) x57 (λy58=>bif(decide ((y58:Int)<0)) then(K aB aA aC aD aE false) else(Zd ((0:Int)<=y58/\y58<(aE.length:Int)) (atC aE (Int.toNat y58) [.n,.s,.n,.o,.o] λx59 x60 x61 x62 x63=>Zd (0<=(1:Int)/\(1:Int)<=(a1.length:Int)/\(a1.length:Int)<=(a1.length:Int)/\Zbk 1 a1) (r_impl_changed x59 x60 x61 x62 x63 ((a1.drop (Int.toNat (1:Int))).take (Int.toNat (a1.length:Int)-Int.toNat (1:Int))) bH bL bI bJ bK a2_5 a2_6 (λy64 y65 y66 y67 y68 y69=>Zd ((0:Int)<=y58/\y58<((aE.modify (Int.toNat y58) λc=>c.map C.gone).length:Int)) (Zd (Int.toNat y58<(aE.modify (Int.toNat y58) λc=>c.map C.gone).length) (K aB aA aC aD ((aE.modify (Int.toNat y58) λc=>c.map C.gone).modify (Int.toNat y58) λc=>Zs c 0 [.d (.int .i64 y64),.d (.str y65),.d (.int .i64 y66),.own y67,.own y68]) y69)))))))))
noncomputable def Y8.w {β:Type} (r:Int->BA->Int->LC->LC->LD->Int->LD->Int->BA->Int->LD->LD->Option (Int×BA×Int×LC×LC×Bool)) (aB:Int) (aA:BA) (aC:Int) (aD aE:LC) (a1:LD) (bH:Int) (bL:LD) (bI:Int) (bJ:BA) (bK:Int) (a2_5 a2_6:LD) (K:Int->BA->Int->LC->LC->Bool->Option β):Option β:=match r aB aA aC aD aE a1 bH bL bI bJ bK a2_5 a2_6 with|some (z0,z1,z2,z3,z4,z5)=>K z0 z1 z2 z3 z4 z5|none=>none
noncomputable def Y8.all:Nat->(Int->BA->Int->LC->LC->LD->Int->LD->Int->BA->Int->LD->LD->Option (Int×BA×Int×LC×LC×Bool))
 |0=>(λ_ _ _ _ _ _ _ _ _ _ _ _ _=>none)
 |k+1=>(λr=>(λaB aA aC aD aE a1 bH bL bI bJ bK a2_5 a2_6=>Y8.body k (Y8.w r) aB aA aC aD aE a1 bH bL bI bJ bK a2_5 a2_6 (λz0 z1 z2 z3 z4 z5=>some (z0,z1,z2,z3,z4,z5)))) (Y8.all k)
noncomputable def Y8.t (k:Nat) (aB:Int) (aA:BA) (aC:Int) (aD aE:LC) (a1:LD) (bH:Int) (bL:LD) (bI:Int) (bJ:BA) (bK:Int) (a2_5 a2_6:LD):Option (Int×BA×Int×LC×LC×Bool):=(Y8.all k) aB aA aC aD aE a1 bH bL bI bJ bK a2_5 a2_6
noncomputable def Y8.f {β:Type} (k:Nat) (aB:Int) (aA:BA) (aC:Int) (aD aE:LC) (a1:LD) (bH:Int) (bL:LD) (bI:Int) (bJ:BA) (bK:Int) (a2_5 a2_6:LD) (K:Int->BA->Int->LC->LC->Bool->Option β):Option β:=Y8.w (Y8.t k) aB aA aC aD aE a1 bH bL bI bJ bK a2_5 a2_6 K
noncomputable def Y8.g {β:Type} (k:Nat) (aB:Int) (aA:BA) (aC:Int) (aD aE:LC) (a1:LD) (bH:Int) (bL:LD) (bI:Int) (bJ:BA) (bK:Int) (a2_5 a2_6:LD) (K:Int->BA->Int->LC->LC->Bool->Option β):Option β:=Y8.body k (Y8.f k) aB aA aC aD aE a1 bH bL bI bJ bK a2_5 a2_6 K
theorem Y8.t_succ (k:Nat) (aB:Int) (aA:BA) (aC:Int) (aD aE:LC) (a1:LD) (bH:Int) (bL:LD) (bI:Int) (bJ:BA) (bK:Int) (a2_5 a2_6:LD):Y8.t (k+1) aB aA aC aD aE a1 bH bL bI bJ bK a2_5 a2_6=Y8.g k aB aA aC aD aE a1 bH bL bI bJ bK a2_5 a2_6 (λz0 z1 z2 z3 z4 z5=>some (z0,z1,z2,z3,z4,z5)):=rfl
noncomputable def Y8.e (k:Nat):Zj:=ent [.own true 54 [.n,.s,.n,.o,.o],.d .l,.agg [.n,.l,.n,.s,.n,.l,.l]] [5,1] [.n,.s,.n,.o,.o,.b] [54,4] false (Y8.t k) true true
noncomputable def Y8.p (k:Nat):Pro:=⟨Tryz.prog,[(75,Yj.e k),(192,YaZ.e k),(193,YaW.e k),(191,YaT.e k),(169,Y8.e k)],Zv [] false [] true true,k⟩
theorem Y8.oks (k:Nat):Zf Tryz.prog 169 (Y8.e k):=by
 induction k with
 |zero=>exact Zba Tryz.func169 (by kernel_rfl) (λ_ _ _ _ _ _ _ _ _ _ _ _ _=>rfl)
 |succ k ih=>exact Zk (Y8.p k) mix tyok Tryz.func169 ⟨Yj.ok k,YaZ.ok k,YaW.ok k,YaT.ok k,ih⟩ (by kernel_rfl) (λaB aA aC aD aE a1 bH bL bI bJ bK a2_5 a2_6=>by show _=_;kernel_rfl)
theorem Y8.ok (k:Nat):Zf Tryz.prog 169 (Y8.e k):=(Y8.oks k)
noncomputable def Ya5.g {β:Type} (k:Nat) (aB:Int) (aA:BA) (aC:Int) (aD aE:LC) (aO:Int) (aN:LD) (aR:Int) (aU:BA) (aV:Int) (bF bG:LD) (K:Int->BA->Int->LC->LC->Bool->Option β):Option β:=
 bif((aO:Int)==3) then(Yao.f k aB aA aC (C.immRows aD) (C.immRows aE) aN (λy60 y61 y62 y63 y64 y65=>bif y65 then(YH.f k y60 y61 y62 (C.immRows y63) (C.immRows y64) aR aU aV bF bG (λy66=>K aB aA aC aD aE y66)) else(K aB aA aC aD aE false))) else(Yj.f k aB aA aC (C.immRows aD) (C.immRows aE) (λy67 y68 y69 y70 y71=>Y8.f k y67 y68 y69 y70 y71 aN aO aN aR aU aV bF bG (λy72 y73 y74 y75 y76 y77=>bif y77 then(Yaf.f k y72 y73 y74 (C.immRows y75) (C.immRows y76) (λy78=>K y72 y73 y74 y75 y76 y78)) else(K y72 y73 y74 y75 y76 false))))
noncomputable def Ya5.t (k:Nat) (aB:Int) (aA:BA) (aC:Int) (aD aE:LC) (aO:Int) (aN:LD) (aR:Int) (aU:BA) (aV:Int) (bF bG:LD):Option (Int×BA×Int×LC×LC×Bool):=Ya5.g k aB aA aC aD aE aO aN aR aU aV bF bG (λz0 z1 z2 z3 z4 z5=>some (z0,z1,z2,z3,z4,z5))
noncomputable def Ya5.f {β:Type} (k:Nat) (aB:Int) (aA:BA) (aC:Int) (aD aE:LC) (aO:Int) (aN:LD) (aR:Int) (aU:BA) (aV:Int) (bF bG:LD) (K:Int->BA->Int->LC->LC->Bool->Option β):Option β:=match Ya5.t k aB aA aC aD aE aO aN aR aU aV bF bG with|some (z0,z1,z2,z3,z4,z5)=>K z0 z1 z2 z3 z4 z5|none=>none
noncomputable def Ya5.e (k:Nat):Zj:=ent [.own true 54 [.n,.s,.n,.o,.o],.agg [.n,.l,.n,.s,.n,.l,.l]] [5,1] [.n,.s,.n,.o,.o,.b] [54,4] false (Ya5.t k) true true
noncomputable def Ya5.p (k:Nat):Pro:=⟨Tryz.prog,[(168,Yao.e k),(60,YH.e k),(75,Yj.e k),(169,Y8.e k),(57,Yaf.e k)],Zv [] false [] true true,k⟩
theorem Ya5.ok (k:Nat):Zf Tryz.prog 132 (Ya5.e k):=Zk (Ya5.p k) mix tyok Tryz.func132 ⟨Yao.ok k,YH.ok k,Yj.ok k,Y8.ok k,Yaf.ok k⟩ (by kernel_rfl) (λaB aA aC aD aE aO aN aR aU aV bF bG=>by show _=_;kernel_rfl)
noncomputable def Yal.l0 {β:Type} (k:Nat) (aF:LD) (aG aI:Int) (aJ:BA) (aM:Int) (aP aQ:LD) (aT:Int) (aS:BA) (bB:Int) (K:Int->BA->Int->LC->LC->Int->Option β) (L0:(Int×Int×BA×Int×LC×LC)->Option β) (v:Int×Int×BA×Int×LC×LC):Option β:=
 match v with
 |(aH,bD,bE,bM,bO,bQ)=>bif(decide ((aH:Int)<aG)) then(atR aF aH [.n,.l,.n,.s,.n,.l,.l] λx145 x148 x151 x154 x157 x160 x163=>(Ya5.f k bD bE bM bO bQ x145 x148 x151 x154 x157 x160 x163 (λy164 y165 y166 y167 y168 y169=>bif(!y169) then(Yj.f k aI aJ aM aP aQ (λy170 y171 y172 y173 y174=>K y170 y171 y172 y173 y174 aH)) else(L0 (IntKind.wrap .i64 (aH+1),y164,y165,y166,y167,y168))))) else(K bD bE bM bO bQ (-1))
noncomputable def Yal.m {β:Type} (k:Nat) (aB:Int) (aA:BA) (aC:Int) (aD aE a1:LD) (K:Int->BA->Int->LC->LC->Int->Option β) (F:(LD->Int->Int->BA->Int->LD->LD->Int->BA->Int->(Int×Int×BA×Int×LC×LC)->Option β)):Option β:=
 Yaf.f k aB aA aC aD aE (λy1=>bif(!y1) then(Yj.f k aB aA aC aD aE (λy2 y3 y4 y5 y6=>K y2 y3 y4 y5 y6 0)) else(YaF.f k a1 (λy98=>bif(!y98) then(Yj.f k aB aA aC aD aE (λy99 y100 y101 y102 y103=>K y99 y100 y101 y102 y103 0)) else(Yj.f k aB aA aC aD aE (λy104 y105 y106 y107 y108=>F a1 (a1.length:Int) aB aA aC aD aE 0 (⟨#[]⟩:BA) 0 (0,y104,y105,y106,y107,y108))))))
noncomputable def Yal.g {β:Type} (k:Nat) (aB:Int) (aA:BA) (aC:Int) (aD aE a1:LD) (K:Int->BA->Int->LC->LC->Int->Option β):Option β:=Yal.m k aB aA aC aD aE a1 K (λaF aG aI aJ aM aP aQ aT aS bB=>ZA (Yal.l0 k aF aG aI aJ aM aP aQ aT aS bB K) k)
noncomputable def Yal.t (k:Nat) (aB:Int) (aA:BA) (aC:Int) (aD aE a1:LD):Option (Int×BA×Int×LC×LC×Int):=Yal.g k aB aA aC aD aE a1 (λz0 z1 z2 z3 z4 z5=>some (z0,z1,z2,z3,z4,z5))
noncomputable def Yal.f {β:Type} (k:Nat) (aB:Int) (aA:BA) (aC:Int) (aD aE a1:LD) (K:Int->BA->Int->LC->LC->Int->Option β):Option β:=match Yal.t k aB aA aC aD aE a1 with|some (z0,z1,z2,z3,z4,z5)=>K z0 z1 z2 z3 z4 z5|none=>none
noncomputable def Yal.e (k:Nat):Zj:=ent [.agg [.n,.s,.n,.l,.l],.d .l] [5,1] [.n,.s,.n,.o,.o,.n] [54,3] false (Yal.t k)
noncomputable def Yal.p (k:Nat):Pro:=⟨Tryz.prog,[(57,Yaf.e k),(75,Yj.e k),(131,YaF.e k),(132,Ya5.e k)],Zv [(5,kp [2,4,6,23,24,25])] false [],k⟩
noncomputable def Yal.d (k:Nat) (aB:Int) (aA:BA) (aC:Int) (aD aE a1:LD):Ex->St->Option (Int×BA×Int×LC×LC×Int):=(Yal.p k).fin Tryz.f76 [.agg [.int .i64 aB,.str aA,.int .i64 aC,.sl aD,.sl aE],.d (.sl a1)] [5,1] [.n,.s,.n,.o,.o,.n]
noncomputable def Yal.s0 (aF:LD) (aG aI:Int) (aJ:BA) (aM:Int) (aP aQ:LD) (aT:Int) (aS:BA) (bB:Int) (v:Int×Int×BA×Int×LC×LC):St:=
 match v with
 |(aH,bD,bE,bM,bO,bQ)=>ZaA 44 [(2,.bp 0 0),(4,.bp 1 0),(6,.bp 2 0),(23,.d false (.sl aF)),(24,.d true (.int .i64 aG)),(25,.d true (.int .i64 aH))] [.box none 54 [.d false (.int .i64 aI),.d false (.str aJ),.d false (.int .i64 aM),.d false (.sl aP),.d false (.sl aQ)],.box none 54 [.d true (.int .i64 aT),.d true (.str aS),.d true (.int .i64 bB),.nil,.nil],.box none 54 [.d true (.int .i64 bD),.d true (.str bE),.d true (.int .i64 bM),.row 3,.row 4],.row none true 45 bO,.row none true 52 bQ]
noncomputable def Yal.r0 (k:Nat) (aB:Int) (aA:BA) (aC:Int) (aD aE a1 aF:LD) (aG aI:Int) (aJ:BA) (aM:Int) (aP aQ:LD) (aT:Int) (aS:BA) (bB:Int) (n:Nat) (v:Int×Int×BA×Int×LC×LC):Option (Int×BA×Int×LC×LC×Int):=(Yal.p k).lp (ZI Tryz.f76) 5 [1,1,1,0,1,0] (Yal.d k aB aA aC aD aE a1) n (Yal.s0 aF aG aI aJ aM aP aQ aT aS bB v)
theorem Yal.l0_eq (k:Nat) (aB:Int) (aA:BA) (aC:Int) (aD aE a1 aF:LD) (aG aI:Int) (aJ:BA) (aM:Int) (aP aQ:LD) (aT:Int) (aS:BA) (bB:Int):∀ n v,Yal.r0 k aB aA aC aD aE a1 aF aG aI aJ aM aP aQ aT aS bB n v=ZA (Yal.l0 k aF aG aI aJ aM aP aQ aT aS bB (λz0 z1 z2 z3 z4 z5=>some (z0,z1,z2,z3,z4,z5))) n v:=
 Zz (Yal.s0 aF aG aI aJ aM aP aQ aT aS bB) _ λL0 v=>by obtain⟨aH,bD,bE,bM,bO,bQ⟩:=v;kernel_rfl
theorem Yal.ok (k:Nat):Zf Tryz.prog 76 (Yal.e k):=Zk (Yal.p k) mix tyok Tryz.func76 ⟨Yaf.ok k,Yj.ok k,YaF.ok k,Ya5.ok k⟩ (by kernel_rfl) (λaB aA aC aD aE a1=>Eq.trans (b:=Yal.m k aB aA aC aD aE a1 (λz0 z1 z2 z3 z4 z5=>some (z0,z1,z2,z3,z4,z5)) (λaF aG aI aJ aM aP aQ aT aS bB=>Yal.r0 k aB aA aC aD aE a1 aF aG aI aJ aM aP aQ aT aS bB k)) (by kernel_rfl) (congrArg (Yal.m k aB aA aC aD aE a1 (λz0 z1 z2 z3 z4 z5=>some (z0,z1,z2,z3,z4,z5))) (funext λaF=>funext λaG=>funext λaI=>funext λaJ=>funext λaM=>funext λaP=>funext λaQ=>funext λaT=>funext λaS=>funext λbB=>funext λv=>Yal.l0_eq k aB aA aC aD aE a1 aF aG aI aJ aM aP aQ aT aS bB k v) :))
noncomputable def Yat.g {β:Type} (k:Nat) (aB:Int) (aA:BA) (aC:Int) (aD aE aK:LD) (aL:Int) (aZ:BA) (bA:Int) (aX aW aY:LD) (bC:Bool) (a1:BA) (K:Int->BA->Int->LC->LC->Bool->Option β):Option β:=
 Yaf.f k aL aZ bA aX aW (λy60=>let J0:=(K 0 (⟨#[]⟩:BA) 0 ([]:LC) ([]:LC) false);bif(!y60) then J0 else(Yb.f k aY a1 (λy61=>bif(decide ((y61:Int)<0)) then(Yj.f k aL aZ bA aX aW (λy62 y63 y64 y65 y66=>K y62 y63 y64 y65 y66 true)) else(atR aY y61 [.s,.l] λx70 x73=>(Yal.f k aL aZ bA aX aW x73 (λy175 y176 y177 y178 y179 y180=>bif((y180:Int)!=(-1)) then J0 else(K y175 y176 y177 y178 y179 true)))))))
noncomputable def Yat.t (k:Nat) (aB:Int) (aA:BA) (aC:Int) (aD aE aK:LD) (aL:Int) (aZ:BA) (bA:Int) (aX aW aY:LD) (bC:Bool) (a1:BA):Option (Int×BA×Int×LC×LC×Bool):=Yat.g k aB aA aC aD aE aK aL aZ bA aX aW aY bC a1 (λz0 z1 z2 z3 z4 z5=>some (z0,z1,z2,z3,z4,z5))
noncomputable def Yat.f {β:Type} (k:Nat) (aB:Int) (aA:BA) (aC:Int) (aD aE aK:LD) (aL:Int) (aZ:BA) (bA:Int) (aX aW aY:LD) (bC:Bool) (a1:BA) (K:Int->BA->Int->LC->LC->Bool->Option β):Option β:=match Yat.t k aB aA aC aD aE aK aL aZ bA aX aW aY bC a1 with|some (z0,z1,z2,z3,z4,z5)=>K z0 z1 z2 z3 z4 z5|none=>none
noncomputable def Yat.e (k:Nat):Zj:=ent [.agg [.n,.s,.n,.l,.l,.l,.n,.s,.n,.l,.l,.l,.b],.d .s] [5,1] [.n,.s,.n,.o,.o,.b] [54,4] false (Yat.t k)
noncomputable def Yat.p (k:Nat):Pro:=⟨Tryz.prog,[(57,Yaf.e k),(73,Yb.e k),(75,Yj.e k),(76,Yal.e k)],Zv [] false [],k⟩
theorem Yat.ok (k:Nat):Zf Tryz.prog 27 (Yat.e k):=Zk (Yat.p k) mix tyok Tryz.func27 ⟨Yaf.ok k,Yb.ok k,Yj.ok k,Yal.ok k⟩ (by kernel_rfl) (λaB aA aC aD aE aK aL aZ bA aX aW aY bC a1=>by show _=_;kernel_rfl)
noncomputable def Yy.l0 {β:Type} (k:Nat) (aF aG:LD) (K:Bool->Option β) (L0:Int->Option β) (v:Int):Option β:=
 match v with
 |aH=>bif(decide ((aH:Int)<(aF.length:Int))) then(atR aF aH [.s] λx12=>(atR aG aH [.s] λx16=>(bif(!(Zae x12 x16)) then(K false) else(L0 (IntKind.wrap .i64 (aH+1)))))) else(K true)
noncomputable def Yy.m {β:Type} (k:Nat) (a0 a1:LD) (K:Bool->Option β) (F:(LD->LD->Int->Option β)):Option β:=
 bif(((a0.length:Int):Int)!=(a1.length:Int)) then(K false) else(F a0 a1 (0))
noncomputable def Yy.g {β:Type} (k:Nat) (a0 a1:LD) (K:Bool->Option β):Option β:=
 bif(((a0.length:Int):Int)!=(a1.length:Int)) then(K false) else(ZA (Yy.l0 k a0 a1 K) k (0))
noncomputable def Yy.t (k:Nat) (a0 a1:LD):Option (Bool):=Yy.g k a0 a1 (λz0=>some z0)
noncomputable def Yy.f {β:Type} (k:Nat) (a0 a1:LD) (K:Bool->Option β):Option β:=bd1 (Yy.t k a0 a1) K
noncomputable def Yy.e (k:Nat):Zj:=ent [.d .l,.d .l] [1] [.b] [4] false (Yy.t k)
noncomputable def Yy.p (k:Nat):Pro:=⟨Tryz.prog,[],Zv [(4,kp [0,1,5])] false [],k⟩
noncomputable def Yy.d (k:Nat) (a0 a1:LD):Ex->St->Option (Bool):=(Yy.p k).fin Tryz.f62 [.d (.sl a0),.d (.sl a1)] [1] [.b]
noncomputable def Yy.s0 (aF aG:LD) (v:Int):St:=
 match v with
 |aH=>ZaA 26 [(0,.d false (.sl aF)),(1,.d false (.sl aG)),(5,.d true (.int .i64 aH))] []
noncomputable def Yy.r0 (k:Nat) (a0 a1 aF aG:LD) (n:Nat) (v:Int):Option (Bool):=(Yy.p k).lp (ZI Tryz.f62) 4 [1,1,0,1,0] (Yy.d k a0 a1) n (Yy.s0 aF aG v)
theorem Yy.l0_eq (k:Nat) (a0 a1 aF aG:LD):∀ n v,Yy.r0 k a0 a1 aF aG n v=ZA (Yy.l0 k aF aG (λz0=>some z0)) n v:=
 Zz (Yy.s0 aF aG) _ λL0 v=>by kernel_rfl
theorem Yy.ok (k:Nat):Zf Tryz.prog 62 (Yy.e k):=Zk (Yy.p k) mix tyok Tryz.func62 trivial (by kernel_rfl) (λa0 a1=>Eq.trans (b:=Yy.m k a0 a1 (λz0=>some z0) (λaF aG=>Yy.r0 k a0 a1 aF aG k)) (by kernel_rfl) (congrArg (Yy.m k a0 a1 (λz0=>some z0)) (funext λaF=>funext λaG=>funext λv=>Yy.l0_eq k a0 a1 aF aG k v) :))
noncomputable def YA.l0 {β:Type} (k:Nat) (r_laws_eqValueS:LD->LD->(Bool->Option β)->Option β) (r_laws_eqValue:Int->BA->Int->LD->LD->Int->BA->Int->LD->LD->(Bool->Option β)->Option β) (aF aG:LD) (K:Bool->Option β) (L0:Int->Option β) (v:Int):Option β:=
 match v with
 |aH=>bif(decide ((aH:Int)<(aF.length:Int))) then(atR aF aH [.n,.s,.n,.l,.l] λx37 x40 x43 x46 x49=>(atR aG aH [.n,.s,.n,.l,.l] λx53 x56 x59 x62 x65=>(r_laws_eqValue x37 x40 x43 x46 x49 x53 x56 x59 x62 x65 (λy66=>bif(!y66) then(K false) else(L0 (IntKind.wrap .i64 (aH+1))))))) else(K true)
noncomputable def YA.m {β:Type} (k:Nat) (r_laws_eqValueS:LD->LD->(Bool->Option β)->Option β) (r_laws_eqValue:Int->BA->Int->LD->LD->Int->BA->Int->LD->LD->(Bool->Option β)->Option β) (a0 a1:LD) (K:Bool->Option β) (F:(LD->LD->Int->Option β)):Option β:=
 bif(((a0.length:Int):Int)!=(a1.length:Int)) then(K false) else(F a0 a1 (0))
noncomputable def YA.body {β:Type} (k:Nat) (r_laws_eqValueS:LD->LD->(Bool->Option β)->Option β) (r_laws_eqValue:Int->BA->Int->LD->LD->Int->BA->Int->LD->LD->(Bool->Option β)->Option β) (a0 a1:LD) (K:Bool->Option β):Option β:=
 bif(((a0.length:Int):Int)!=(a1.length:Int)) then(K false) else(ZA (YA.l0 k r_laws_eqValueS r_laws_eqValue a0 a1 K) k (0))
noncomputable def YG.body {β:Type} (k:Nat) (r_laws_eqValueS:LD->LD->(Bool->Option β)->Option β) (r_laws_eqValue:Int->BA->Int->LD->LD->Int->BA->Int->LD->LD->(Bool->Option β)->Option β) (aB:Int) (aA:BA) (aC:Int) (aD aE:LD) (aO:Int) (aN:BA) (aR:Int) (aU aV:LD) (K:Bool->Option β):Option β:=
 bif((aB:Int)!=aO) then(K false) else(bif(!(Zae aA aN)) then(K false) else(bif((aC:Int)!=aR) then(K false) else(Yy.f k aD aU (λy17=>bif(!y17) then(K false) else(r_laws_eqValueS aE aV (λy67=>bif(!y67) then(K false) else(K true)))))))
noncomputable def YA.w {β:Type} (r:LD->LD->Option (Bool)) (a0 a1:LD) (K:Bool->Option β):Option β:=bd1 (r a0 a1) K
noncomputable def YG.w {β:Type} (r:Int->BA->Int->LD->LD->Int->BA->Int->LD->LD->Option (Bool)) (aB:Int) (aA:BA) (aC:Int) (aD aE:LD) (aO:Int) (aN:BA) (aR:Int) (aU aV:LD) (K:Bool->Option β):Option β:=bd1 (r aB aA aC aD aE aO aN aR aU aV) K
noncomputable def YA.all:Nat->(LD->LD->Option (Bool))×(Int->BA->Int->LD->LD->Int->BA->Int->LD->LD->Option (Bool))
 |0=>(λ_ _=>none,λ_ _ _ _ _ _ _ _ _ _=>none)
 |k+1=>(λr=>(λa0 a1=>YA.body k (YA.w r.1) (YG.w r.2) a0 a1 (λz0=>some z0),λaB aA aC aD aE aO aN aR aU aV=>YG.body k (YA.w r.1) (YG.w r.2) aB aA aC aD aE aO aN aR aU aV (λz0=>some z0))) (YA.all k)
noncomputable def YA.t (k:Nat) (a0 a1:LD):Option (Bool):=(YA.all k).1 a0 a1
noncomputable def YG.t (k:Nat) (aB:Int) (aA:BA) (aC:Int) (aD aE:LD) (aO:Int) (aN:BA) (aR:Int) (aU aV:LD):Option (Bool):=(YA.all k).2 aB aA aC aD aE aO aN aR aU aV
noncomputable def YA.f {β:Type} (k:Nat) (a0 a1:LD) (K:Bool->Option β):Option β:=YA.w (YA.t k) a0 a1 K
noncomputable def YG.f {β:Type} (k:Nat) (aB:Int) (aA:BA) (aC:Int) (aD aE:LD) (aO:Int) (aN:BA) (aR:Int) (aU aV:LD) (K:Bool->Option β):Option β:=YG.w (YG.t k) aB aA aC aD aE aO aN aR aU aV K
noncomputable def YA.g {β:Type} (k:Nat) (a0 a1:LD) (K:Bool->Option β):Option β:=YA.body k (YA.f k) (YG.f k) a0 a1 K
theorem YA.t_succ (k:Nat) (a0 a1:LD):YA.t (k+1) a0 a1=YA.g k a0 a1 (λz0=>some z0):=rfl
noncomputable def YG.g {β:Type} (k:Nat) (aB:Int) (aA:BA) (aC:Int) (aD aE:LD) (aO:Int) (aN:BA) (aR:Int) (aU aV:LD) (K:Bool->Option β):Option β:=YG.body k (YA.f k) (YG.f k) aB aA aC aD aE aO aN aR aU aV K
theorem YG.t_succ (k:Nat) (aB:Int) (aA:BA) (aC:Int) (aD aE:LD) (aO:Int) (aN:BA) (aR:Int) (aU aV:LD):YG.t (k+1) aB aA aC aD aE aO aN aR aU aV=YG.g k aB aA aC aD aE aO aN aR aU aV (λz0=>some z0):=rfl
noncomputable def YA.e (k:Nat):Zj:=ent [.d .l,.d .l] [1] [.b] [4] false (YA.t k)
noncomputable def YG.e (k:Nat):Zj:=ent [.agg [.n,.s,.n,.l,.l],.agg [.n,.s,.n,.l,.l]] [1] [.b] [4] false (YG.t k)
noncomputable def YA.p (k:Nat):Pro:=⟨Tryz.prog,[(21,YG.e k)],Zv [(4,kp [0,1,5])] false [],k⟩
noncomputable def YA.d (k:Nat) (a0 a1:LD):Ex->St->Option (Bool):=(YA.p k).fin Tryz.f63 [.d (.sl a0),.d (.sl a1)] [1] [.b]
noncomputable def YA.s0 (aF aG:LD) (v:Int):St:=
 match v with
 |aH=>ZaA 27 [(0,.d false (.sl aF)),(1,.d false (.sl aG)),(5,.d true (.int .i64 aH))] []
noncomputable def YA.r0 (k:Nat) (a0 a1 aF aG:LD) (n:Nat) (v:Int):Option (Bool):=(YA.p k).lp (ZI Tryz.f63) 4 [1,1,0,1,0] (YA.d k a0 a1) n (YA.s0 aF aG v)
theorem YA.l0_eq (k:Nat) (a0 a1 aF aG:LD):∀ n v,YA.r0 k a0 a1 aF aG n v=ZA (YA.l0 k (YA.f k) (YG.f k) aF aG (λz0=>some z0)) n v:=
 Zz (YA.s0 aF aG) _ λL0 v=>by kernel_rfl
noncomputable def YG.p (k:Nat):Pro:=⟨Tryz.prog,[(62,Yy.e k),(63,YA.e k)],Zv [] false [],k⟩
theorem YA.oks (k:Nat):Zf Tryz.prog 63 (YA.e k)/\Zf Tryz.prog 21 (YG.e k):=by
 induction k with
 |zero=>exact⟨Zba Tryz.func63 (by kernel_rfl) (λ_ _=>rfl),
  Zba Tryz.func21 (by kernel_rfl) (λ_ _ _ _ _ _ _ _ _ _=>rfl)⟩
 |succ k ih=>exact⟨Zk (YA.p k) mix tyok Tryz.func63 ih.2 (by kernel_rfl) (λa0 a1=>Eq.trans (b:=YA.m k (YA.f k) (YG.f k) a0 a1 (λz0=>some z0) (λaF aG=>YA.r0 k a0 a1 aF aG k)) (by kernel_rfl) ((congrArg (YA.m k (YA.f k) (YG.f k) a0 a1 (λz0=>some z0)) (funext λaF=>funext λaG=>funext λv=>YA.l0_eq k a0 a1 aF aG k v)).trans (YA.t_succ k a0 a1).symm)),
  Zk (YG.p k) mix tyok Tryz.func21 ⟨Yy.ok k,ih.1⟩ (by kernel_rfl) (λaB aA aC aD aE aO aN aR aU aV=>by show _=_;kernel_rfl)⟩
theorem YG.ok (k:Nat):Zf Tryz.prog 21 (YG.e k):=(YA.oks k).2
noncomputable def YaN.g {β:Type} (k:Nat) (aB:Int) (aA:BA) (aC:LD) (aO:Int) (aN:BA) (aR:LD) (K:Bool->Option β):Option β:=
 bif((aB:Int)!=aO) then(K false) else(bif(!(Zae aA aN)) then(K false) else(Yy.f k aC aR (λy1=>bif(!y1) then(K false) else(K true))))
noncomputable def YaN.t (k:Nat) (aB:Int) (aA:BA) (aC:LD) (aO:Int) (aN:BA) (aR:LD):Option (Bool):=YaN.g k aB aA aC aO aN aR (λz0=>some z0)
noncomputable def YaN.f {β:Type} (k:Nat) (aB:Int) (aA:BA) (aC:LD) (aO:Int) (aN:BA) (aR:LD) (K:Bool->Option β):Option β:=bd1 (YaN.t k aB aA aC aO aN aR) K
noncomputable def YaN.e (k:Nat):Zj:=ent [.agg [.n,.s,.l],.agg [.n,.s,.l]] [1] [.b] [4] false (YaN.t k)
noncomputable def YaN.p (k:Nat):Pro:=⟨Tryz.prog,[(62,Yy.e k)],Zv [] false [],k⟩
theorem YaN.ok (k:Nat):Zf Tryz.prog 170 (YaN.e k):=Zk (YaN.p k) mix tyok Tryz.func170 (Yy.ok k) (by kernel_rfl) (λaB aA aC aO aN aR=>by show _=_;kernel_rfl)
noncomputable def Y0.l0 {β:Type} (k:Nat) (aF aG:LD) (K:Bool->Option β) (L0:Int->Option β) (v:Int):Option β:=
 match v with
 |aH=>bif(decide ((aH:Int)<(aF.length:Int))) then(atR aF aH [.n,.s,.l] λx25 x28 x31=>(atR aG aH [.n,.s,.l] λx35 x38 x41=>(YaN.f k x25 x28 x31 x35 x38 x41 (λy42=>bif(!y42) then(K false) else(L0 (IntKind.wrap .i64 (aH+1))))))) else(K true)
noncomputable def Y0.m {β:Type} (k:Nat) (a0 a1:LD) (K:Bool->Option β) (F:(LD->LD->Int->Option β)):Option β:=
 bif(((a0.length:Int):Int)!=(a1.length:Int)) then(K false) else(F a0 a1 (0))
noncomputable def Y0.g {β:Type} (k:Nat) (a0 a1:LD) (K:Bool->Option β):Option β:=
 bif(((a0.length:Int):Int)!=(a1.length:Int)) then(K false) else(ZA (Y0.l0 k a0 a1 K) k (0))
noncomputable def Y0.t (k:Nat) (a0 a1:LD):Option (Bool):=Y0.g k a0 a1 (λz0=>some z0)
noncomputable def Y0.f {β:Type} (k:Nat) (a0 a1:LD) (K:Bool->Option β):Option β:=bd1 (Y0.t k a0 a1) K
noncomputable def Y0.e (k:Nat):Zj:=ent [.d .l,.d .l] [1] [.b] [4] false (Y0.t k)
noncomputable def Y0.p (k:Nat):Pro:=⟨Tryz.prog,[(170,YaN.e k)],Zv [(4,kp [0,1,5])] false [],k⟩
noncomputable def Y0.d (k:Nat) (a0 a1:LD):Ex->St->Option (Bool):=(Y0.p k).fin Tryz.f133 [.d (.sl a0),.d (.sl a1)] [1] [.b]
noncomputable def Y0.s0 (aF aG:LD) (v:Int):St:=
 match v with
 |aH=>ZaA 27 [(0,.d false (.sl aF)),(1,.d false (.sl aG)),(5,.d true (.int .i64 aH))] []
noncomputable def Y0.r0 (k:Nat) (a0 a1 aF aG:LD) (n:Nat) (v:Int):Option (Bool):=(Y0.p k).lp (ZI Tryz.f133) 4 [1,1,0,1,0] (Y0.d k a0 a1) n (Y0.s0 aF aG v)
theorem Y0.l0_eq (k:Nat) (a0 a1 aF aG:LD):∀ n v,Y0.r0 k a0 a1 aF aG n v=ZA (Y0.l0 k aF aG (λz0=>some z0)) n v:=
 Zz (Y0.s0 aF aG) _ λL0 v=>by kernel_rfl
theorem Y0.ok (k:Nat):Zf Tryz.prog 133 (Y0.e k):=Zk (Y0.p k) mix tyok Tryz.func133 (YaN.ok k) (by kernel_rfl) (λa0 a1=>Eq.trans (b:=Y0.m k a0 a1 (λz0=>some z0) (λaF aG=>Y0.r0 k a0 a1 aF aG k)) (by kernel_rfl) (congrArg (Y0.m k a0 a1 (λz0=>some z0)) (funext λaF=>funext λaG=>funext λv=>Y0.l0_eq k a0 a1 aF aG k v) :))
noncomputable def YaE.g {β:Type} (k:Nat) (aB:BA) (aA:Int) (aO:BA) (aN:Int) (K:Bool->Option β):Option β:=
 bif(!(Zae aB aO)) then(K false) else(bif((aA:Int)!=aN) then(K false) else(K true))
noncomputable def YaE.t (k:Nat) (aB:BA) (aA:Int) (aO:BA) (aN:Int):Option (Bool):=YaE.g k aB aA aO aN (λz0=>some z0)
noncomputable def YaE.f {β:Type} (k:Nat) (aB:BA) (aA:Int) (aO:BA) (aN:Int) (K:Bool->Option β):Option β:=bd1 (YaE.t k aB aA aO aN) K
noncomputable def YaE.e (k:Nat):Zj:=ent [.agg [.s,.n],.agg [.s,.n]] [1] [.b] [4] false (YaE.t k)
noncomputable def YaE.p (k:Nat):Pro:=⟨Tryz.prog,[],Zv [] false [],k⟩
theorem YaE.ok (k:Nat):Zf Tryz.prog 171 (YaE.e k):=Zk (YaE.p k) mix tyok Tryz.func171 trivial (by kernel_rfl) (λaB aA aO aN=>by show _=_;kernel_rfl)
noncomputable def YR.l0 {β:Type} (k:Nat) (aF aG:LD) (K:Bool->Option β) (L0:Int->Option β) (v:Int):Option β:=
 match v with
 |aH=>bif(decide ((aH:Int)<(aF.length:Int))) then(atR aF aH [.s,.n] λx19 x22=>(atR aG aH [.s,.n] λx26 x29=>(YaE.f k x19 x22 x26 x29 (λy30=>bif(!y30) then(K false) else(L0 (IntKind.wrap .i64 (aH+1))))))) else(K true)
noncomputable def YR.m {β:Type} (k:Nat) (a0 a1:LD) (K:Bool->Option β) (F:(LD->LD->Int->Option β)):Option β:=
 bif(((a0.length:Int):Int)!=(a1.length:Int)) then(K false) else(F a0 a1 (0))
noncomputable def YR.g {β:Type} (k:Nat) (a0 a1:LD) (K:Bool->Option β):Option β:=
 bif(((a0.length:Int):Int)!=(a1.length:Int)) then(K false) else(ZA (YR.l0 k a0 a1 K) k (0))
noncomputable def YR.t (k:Nat) (a0 a1:LD):Option (Bool):=YR.g k a0 a1 (λz0=>some z0)
noncomputable def YR.f {β:Type} (k:Nat) (a0 a1:LD) (K:Bool->Option β):Option β:=bd1 (YR.t k a0 a1) K
noncomputable def YR.e (k:Nat):Zj:=ent [.d .l,.d .l] [1] [.b] [4] false (YR.t k)
noncomputable def YR.p (k:Nat):Pro:=⟨Tryz.prog,[(171,YaE.e k)],Zv [(4,kp [0,1,5])] false [],k⟩
noncomputable def YR.d (k:Nat) (a0 a1:LD):Ex->St->Option (Bool):=(YR.p k).fin Tryz.f134 [.d (.sl a0),.d (.sl a1)] [1] [.b]
noncomputable def YR.s0 (aF aG:LD) (v:Int):St:=
 match v with
 |aH=>ZaA 27 [(0,.d false (.sl aF)),(1,.d false (.sl aG)),(5,.d true (.int .i64 aH))] []
noncomputable def YR.r0 (k:Nat) (a0 a1 aF aG:LD) (n:Nat) (v:Int):Option (Bool):=(YR.p k).lp (ZI Tryz.f134) 4 [1,1,0,1,0] (YR.d k a0 a1) n (YR.s0 aF aG v)
theorem YR.l0_eq (k:Nat) (a0 a1 aF aG:LD):∀ n v,YR.r0 k a0 a1 aF aG n v=ZA (YR.l0 k aF aG (λz0=>some z0)) n v:=
 Zz (YR.s0 aF aG) _ λL0 v=>by kernel_rfl
theorem YR.ok (k:Nat):Zf Tryz.prog 134 (YR.e k):=Zk (YR.p k) mix tyok Tryz.func134 (YaE.ok k) (by kernel_rfl) (λa0 a1=>Eq.trans (b:=YR.m k a0 a1 (λz0=>some z0) (λaF aG=>YR.r0 k a0 a1 aF aG k)) (by kernel_rfl) (congrArg (YR.m k a0 a1 (λz0=>some z0)) (funext λaF=>funext λaG=>funext λv=>YR.l0_eq k a0 a1 aF aG k v) :))
noncomputable def YaM.g {β:Type} (k:Nat) (aB:Int) (aA aC aD:LD) (aO:Int) (aN aR aU:LD) (K:Bool->Option β):Option β:=
 bif((aB:Int)!=aO) then(K false) else(Y0.f k aA aN (λy43=>bif(!y43) then(K false) else(Yy.f k aC aR (λy44=>bif(!y44) then(K false) else(YR.f k aD aU (λy45=>bif(!y45) then(K false) else(K true)))))))
noncomputable def YaM.t (k:Nat) (aB:Int) (aA aC aD:LD) (aO:Int) (aN aR aU:LD):Option (Bool):=YaM.g k aB aA aC aD aO aN aR aU (λz0=>some z0)
noncomputable def YaM.f {β:Type} (k:Nat) (aB:Int) (aA aC aD:LD) (aO:Int) (aN aR aU:LD) (K:Bool->Option β):Option β:=bd1 (YaM.t k aB aA aC aD aO aN aR aU) K
noncomputable def YaM.e (k:Nat):Zj:=ent [.agg [.n,.l,.l,.l],.agg [.n,.l,.l,.l]] [1] [.b] [4] false (YaM.t k)
noncomputable def YaM.p (k:Nat):Pro:=⟨Tryz.prog,[(133,Y0.e k),(62,Yy.e k),(134,YR.e k)],Zv [] false [],k⟩
theorem YaM.ok (k:Nat):Zf Tryz.prog 77 (YaM.e k):=Zk (YaM.p k) mix tyok Tryz.func77 ⟨Y0.ok k,Yy.ok k,YR.ok k⟩ (by kernel_rfl) (λaB aA aC aD aO aN aR aU=>by show _=_;kernel_rfl)
noncomputable def Ya1.g {β:Type} (k:Nat) (aB:Int) (aA:LD) (aC:Int) (aD:BA) (aE:Int) (aK aL:LD) (aO:Int) (aN:LD) (aR:Int) (aU:BA) (aV:Int) (bF bG:LD) (K:Bool->Option β):Option β:=
 bif((aB:Int)!=aO) then(K false) else(Yy.f k aA aN (λy1=>bif(!y1) then(K false) else(YG.f k aC aD aE aK aL aR aU aV bF bG (λy2=>bif(!y2) then(K false) else(K true)))))
noncomputable def Ya1.t (k:Nat) (aB:Int) (aA:LD) (aC:Int) (aD:BA) (aE:Int) (aK aL:LD) (aO:Int) (aN:LD) (aR:Int) (aU:BA) (aV:Int) (bF bG:LD):Option (Bool):=Ya1.g k aB aA aC aD aE aK aL aO aN aR aU aV bF bG (λz0=>some z0)
noncomputable def Ya1.f {β:Type} (k:Nat) (aB:Int) (aA:LD) (aC:Int) (aD:BA) (aE:Int) (aK aL:LD) (aO:Int) (aN:LD) (aR:Int) (aU:BA) (aV:Int) (bF bG:LD) (K:Bool->Option β):Option β:=bd1 (Ya1.t k aB aA aC aD aE aK aL aO aN aR aU aV bF bG) K
noncomputable def Ya1.e (k:Nat):Zj:=ent [.agg [.n,.l,.n,.s,.n,.l,.l],.agg [.n,.l,.n,.s,.n,.l,.l]] [1] [.b] [4] false (Ya1.t k)
noncomputable def Ya1.p (k:Nat):Pro:=⟨Tryz.prog,[(62,Yy.e k),(21,YG.e k)],Zv [] false [],k⟩
theorem Ya1.ok (k:Nat):Zf Tryz.prog 194 (Ya1.e k):=Zk (Ya1.p k) mix tyok Tryz.func194 ⟨Yy.ok k,YG.ok k⟩ (by kernel_rfl) (λaB aA aC aD aE aK aL aO aN aR aU aV bF bG=>by show _=_;kernel_rfl)
noncomputable def Yak.l0 {β:Type} (k:Nat) (aF aG:LD) (K:Bool->Option β) (L0:Int->Option β) (v:Int):Option β:=
 match v with
 |aH=>bif(decide ((aH:Int)<(aF.length:Int))) then(atR aF aH [.n,.l,.n,.s,.n,.l,.l] λx49 x52 x55 x58 x61 x64 x67=>(atR aG aH [.n,.l,.n,.s,.n,.l,.l] λx71 x74 x77 x80 x83 x86 x89=>(Ya1.f k x49 x52 x55 x58 x61 x64 x67 x71 x74 x77 x80 x83 x86 x89 (λy90=>bif(!y90) then(K false) else(L0 (IntKind.wrap .i64 (aH+1))))))) else(K true)
noncomputable def Yak.m {β:Type} (k:Nat) (a0 a1:LD) (K:Bool->Option β) (F:(LD->LD->Int->Option β)):Option β:=
 bif(((a0.length:Int):Int)!=(a1.length:Int)) then(K false) else(F a0 a1 (0))
noncomputable def Yak.g {β:Type} (k:Nat) (a0 a1:LD) (K:Bool->Option β):Option β:=
 bif(((a0.length:Int):Int)!=(a1.length:Int)) then(K false) else(ZA (Yak.l0 k a0 a1 K) k (0))
noncomputable def Yak.t (k:Nat) (a0 a1:LD):Option (Bool):=Yak.g k a0 a1 (λz0=>some z0)
noncomputable def Yak.f {β:Type} (k:Nat) (a0 a1:LD) (K:Bool->Option β):Option β:=bd1 (Yak.t k a0 a1) K
noncomputable def Yak.e (k:Nat):Zj:=ent [.d .l,.d .l] [1] [.b] [4] false (Yak.t k)
noncomputable def Yak.p (k:Nat):Pro:=⟨Tryz.prog,[(194,Ya1.e k)],Zv [(4,kp [0,1,5])] false [],k⟩
noncomputable def Yak.d (k:Nat) (a0 a1:LD):Ex->St->Option (Bool):=(Yak.p k).fin Tryz.f172 [.d (.sl a0),.d (.sl a1)] [1] [.b]
noncomputable def Yak.s0 (aF aG:LD) (v:Int):St:=
 match v with
 |aH=>ZaA 27 [(0,.d false (.sl aF)),(1,.d false (.sl aG)),(5,.d true (.int .i64 aH))] []
noncomputable def Yak.r0 (k:Nat) (a0 a1 aF aG:LD) (n:Nat) (v:Int):Option (Bool):=(Yak.p k).lp (ZI Tryz.f172) 4 [1,1,0,1,0] (Yak.d k a0 a1) n (Yak.s0 aF aG v)
theorem Yak.l0_eq (k:Nat) (a0 a1 aF aG:LD):∀ n v,Yak.r0 k a0 a1 aF aG n v=ZA (Yak.l0 k aF aG (λz0=>some z0)) n v:=
 Zz (Yak.s0 aF aG) _ λL0 v=>by kernel_rfl
theorem Yak.ok (k:Nat):Zf Tryz.prog 172 (Yak.e k):=Zk (Yak.p k) mix tyok Tryz.func172 (Ya1.ok k) (by kernel_rfl) (λa0 a1=>Eq.trans (b:=Yak.m k a0 a1 (λz0=>some z0) (λaF aG=>Yak.r0 k a0 a1 aF aG k)) (by kernel_rfl) (congrArg (Yak.m k a0 a1 (λz0=>some z0)) (funext λaF=>funext λaG=>funext λv=>Yak.l0_eq k a0 a1 aF aG k v) :))
noncomputable def YaO.g {β:Type} (k:Nat) (aB:BA) (aA:LD) (aO:BA) (aN:LD) (K:Bool->Option β):Option β:=
 bif(!(Zae aB aO)) then(K false) else(Yak.f k aA aN (λy91=>bif(!y91) then(K false) else(K true)))
noncomputable def YaO.t (k:Nat) (aB:BA) (aA:LD) (aO:BA) (aN:LD):Option (Bool):=YaO.g k aB aA aO aN (λz0=>some z0)
noncomputable def YaO.f {β:Type} (k:Nat) (aB:BA) (aA:LD) (aO:BA) (aN:LD) (K:Bool->Option β):Option β:=bd1 (YaO.t k aB aA aO aN) K
noncomputable def YaO.e (k:Nat):Zj:=ent [.agg [.s,.l],.agg [.s,.l]] [1] [.b] [4] false (YaO.t k)
noncomputable def YaO.p (k:Nat):Pro:=⟨Tryz.prog,[(172,Yak.e k)],Zv [] false [],k⟩
theorem YaO.ok (k:Nat):Zf Tryz.prog 135 (YaO.e k):=Zk (YaO.p k) mix tyok Tryz.func135 (Yak.ok k) (by kernel_rfl) (λaB aA aO aN=>by show _=_;kernel_rfl)
noncomputable def Y1.l0 {β:Type} (k:Nat) (aF aG:LD) (K:Bool->Option β) (L0:Int->Option β) (v:Int):Option β:=
 match v with
 |aH=>bif(decide ((aH:Int)<(aF.length:Int))) then(atR aF aH [.s,.l] λx96 x99=>(atR aG aH [.s,.l] λx103 x106=>(YaO.f k x96 x99 x103 x106 (λy107=>bif(!y107) then(K false) else(L0 (IntKind.wrap .i64 (aH+1))))))) else(K true)
noncomputable def Y1.m {β:Type} (k:Nat) (a0 a1:LD) (K:Bool->Option β) (F:(LD->LD->Int->Option β)):Option β:=
 bif(((a0.length:Int):Int)!=(a1.length:Int)) then(K false) else(F a0 a1 (0))
noncomputable def Y1.g {β:Type} (k:Nat) (a0 a1:LD) (K:Bool->Option β):Option β:=
 bif(((a0.length:Int):Int)!=(a1.length:Int)) then(K false) else(ZA (Y1.l0 k a0 a1 K) k (0))
noncomputable def Y1.t (k:Nat) (a0 a1:LD):Option (Bool):=Y1.g k a0 a1 (λz0=>some z0)
noncomputable def Y1.f {β:Type} (k:Nat) (a0 a1:LD) (K:Bool->Option β):Option β:=bd1 (Y1.t k a0 a1) K
noncomputable def Y1.e (k:Nat):Zj:=ent [.d .l,.d .l] [1] [.b] [4] false (Y1.t k)
noncomputable def Y1.p (k:Nat):Pro:=⟨Tryz.prog,[(135,YaO.e k)],Zv [(4,kp [0,1,5])] false [],k⟩
noncomputable def Y1.d (k:Nat) (a0 a1:LD):Ex->St->Option (Bool):=(Y1.p k).fin Tryz.f78 [.d (.sl a0),.d (.sl a1)] [1] [.b]
noncomputable def Y1.s0 (aF aG:LD) (v:Int):St:=
 match v with
 |aH=>ZaA 27 [(0,.d false (.sl aF)),(1,.d false (.sl aG)),(5,.d true (.int .i64 aH))] []
noncomputable def Y1.r0 (k:Nat) (a0 a1 aF aG:LD) (n:Nat) (v:Int):Option (Bool):=(Y1.p k).lp (ZI Tryz.f78) 4 [1,1,0,1,0] (Y1.d k a0 a1) n (Y1.s0 aF aG v)
theorem Y1.l0_eq (k:Nat) (a0 a1 aF aG:LD):∀ n v,Y1.r0 k a0 a1 aF aG n v=ZA (Y1.l0 k aF aG (λz0=>some z0)) n v:=
 Zz (Y1.s0 aF aG) _ λL0 v=>by kernel_rfl
theorem Y1.ok (k:Nat):Zf Tryz.prog 78 (Y1.e k):=Zk (Y1.p k) mix tyok Tryz.func78 (YaO.ok k) (by kernel_rfl) (λa0 a1=>Eq.trans (b:=Y1.m k a0 a1 (λz0=>some z0) (λaF aG=>Y1.r0 k a0 a1 aF aG k)) (by kernel_rfl) (congrArg (Y1.m k a0 a1 (λz0=>some z0)) (funext λaF=>funext λaG=>funext λv=>Y1.l0_eq k a0 a1 aF aG k v) :))
noncomputable def YaV.g {β:Type} (k:Nat) (aB:Int) (aA:BA) (aC:Int) (aD aE aK:LD) (aL:Int) (aZ:BA) (bA:Int) (aX aW aY:LD) (bC:Bool) (aO:Int) (aN:BA) (aR:Int) (aU aV bF:LD) (bG:Int) (a1_7:BA) (a1_8:Int) (a1_9 a1_10 a1_11:LD) (a1_12:Bool) (K:Bool->Option β):Option β:=
 bif((aB:Int)!=aO) then(K false) else(bif(!(Zae aA aN)) then(K false) else(YaM.f k aC aD aE aK aR aU aV bF (λy46=>bif(!y46) then(K false) else(YG.f k aL aZ bA aX aW bG a1_7 a1_8 a1_9 a1_10 (λy47=>bif(!y47) then(K false) else(Y1.f k aY a1_11 (λy108=>bif(!y108) then(K false) else(bif(!(bC==a1_12)) then(K false) else(K true)))))))))
noncomputable def YaV.t (k:Nat) (aB:Int) (aA:BA) (aC:Int) (aD aE aK:LD) (aL:Int) (aZ:BA) (bA:Int) (aX aW aY:LD) (bC:Bool) (aO:Int) (aN:BA) (aR:Int) (aU aV bF:LD) (bG:Int) (a1_7:BA) (a1_8:Int) (a1_9 a1_10 a1_11:LD) (a1_12:Bool):Option (Bool):=YaV.g k aB aA aC aD aE aK aL aZ bA aX aW aY bC aO aN aR aU aV bF bG a1_7 a1_8 a1_9 a1_10 a1_11 a1_12 (λz0=>some z0)
noncomputable def YaV.f {β:Type} (k:Nat) (aB:Int) (aA:BA) (aC:Int) (aD aE aK:LD) (aL:Int) (aZ:BA) (bA:Int) (aX aW aY:LD) (bC:Bool) (aO:Int) (aN:BA) (aR:Int) (aU aV bF:LD) (bG:Int) (a1_7:BA) (a1_8:Int) (a1_9 a1_10 a1_11:LD) (a1_12:Bool) (K:Bool->Option β):Option β:=bd1 (YaV.t k aB aA aC aD aE aK aL aZ bA aX aW aY bC aO aN aR aU aV bF bG a1_7 a1_8 a1_9 a1_10 a1_11 a1_12) K
noncomputable def YaV.e (k:Nat):Zj:=ent [.agg [.n,.s,.n,.l,.l,.l,.n,.s,.n,.l,.l,.l,.b],.agg [.n,.s,.n,.l,.l,.l,.n,.s,.n,.l,.l,.l,.b]] [1] [.b] [4] false (YaV.t k)
noncomputable def YaV.p (k:Nat):Pro:=⟨Tryz.prog,[(77,YaM.e k),(21,YG.e k),(78,Y1.e k)],Zv [] false [],k⟩
theorem YaV.ok (k:Nat):Zf Tryz.prog 28 (YaV.e k):=Zk (YaV.p k) mix tyok Tryz.func28 ⟨YaM.ok k,YG.ok k,Y1.ok k⟩ (by kernel_rfl) (λaB aA aC aD aE aK aL aZ bA aX aW aY bC aO aN aR aU aV bF bG a1_7 a1_8 a1_9 a1_10 a1_11 a1_12=>by show _=_;kernel_rfl)
noncomputable def Yf.l0 {β:Type} (k:Nat) (K:BA->Option β) (L0:(Int×BA)->Option β) (v:Int×BA):Option β:=
 match v with
 |(aF,aG)=>bif(decide ((aF:Int)>0)) then(let J0:=(⟨#[UInt8.ofNat (Int.toNat (IntKind.wrap .u8 (IntKind.wrap .i64 (48+(Int.tmod aF 10)))))]⟩:BA);Zd ((10:Int)≠0) (Zd (((J0.size+aG.size:Nat):Int)<=9223372036854775807) (Zd ((10:Int)≠0) (L0 (IntKind.wrap .i64 (Int.tdiv aF 10),J0++aG))))) else(Zd ((((⟨#[109]⟩:BA).size+aG.size:Nat):Int)<=9223372036854775807) (K ((⟨#[109]⟩:BA)++aG)))
noncomputable def Yf.m {β:Type} (k:Nat) (a0:Int) (K:BA->Option β) (F:((Int×BA)->Option β)):Option β:=
 bif(decide ((a0:Int)<=0)) then(K (⟨#[109,48]⟩:BA)) else(F (a0,(⟨#[]⟩:BA)))
noncomputable def Yf.g {β:Type} (k:Nat) (a0:Int) (K:BA->Option β):Option β:=
 bif(decide ((a0:Int)<=0)) then(K (⟨#[109,48]⟩:BA)) else(ZA (Yf.l0 k K) k (a0,(⟨#[]⟩:BA)))
noncomputable def Yf.t (k:Nat) (a0:Int):Option (BA):=Yf.g k a0 (λz0=>some z0)
noncomputable def Yf.f {β:Type} (k:Nat) (a0:Int) (K:BA->Option β):Option β:=bd1 (Yf.t k a0) K
noncomputable def Yf.e (k:Nat):Zj:=ent [.d .n] [1] [.s] [9] false (Yf.t k)
noncomputable def Yf.p (k:Nat):Pro:=⟨Tryz.prog,[],Zv [(4,kp [3] [(0,.dat false)])] false [],k⟩
noncomputable def Yf.d (k:Nat) (a0:Int):Ex->St->Option (BA):=(Yf.p k).fin Tryz.f106 [.d (.int .i64 a0)] [1] [.s]
noncomputable def Yf.s0 (v:Int×BA):St:=
 match v with
 |(aF,aG)=>ZaA 20 [(0,.d false (.int .i64 aF)),(3,.d true (.str aG))] []
noncomputable def Yf.r0 (k:Nat) (a0:Int) (n:Nat) (v:Int×BA):Option (BA):=(Yf.p k).lp (ZI Tryz.f106) 4 [1,1,1,0,0] (Yf.d k a0) n (Yf.s0 v)
theorem Yf.l0_eq (k:Nat) (a0:Int):∀ n v,Yf.r0 k a0 n v=ZA (Yf.l0 k (λz0=>some z0)) n v:=
 Zz (Yf.s0) _ λL0 v=>by obtain⟨aF,aG⟩:=v;kernel_rfl
theorem Yf.ok (k:Nat):Zf Tryz.prog 106 (Yf.e k):=Zk (Yf.p k) mix tyok Tryz.func106 trivial (by kernel_rfl) (λa0=>Eq.trans (b:=Yf.m k a0 (λz0=>some z0) (Yf.r0 k a0 k)) (by kernel_rfl) (congrArg (Yf.m k a0 (λz0=>some z0)) (funext λv=>Yf.l0_eq k a0 k v) :))
noncomputable def Yl.l0 {β:Type} (k:Nat) (K:Int->LC->Option β) (L0:(Int×Int×LC)->Option β) (v:Int×Int×LC):Option β:=
 match v with
 |(aF,aG,aH)=>bif(decide ((aG:Int)<(aH.length:Int))) then(Yf.f k aF (λy2=>Zd ((0:Int)<=aG/\aG<(aH.length:Int)) (Zd (Int.toNat aG<aH.length) (L0 (IntKind.wrap .i64 (aF+1),IntKind.wrap .i64 (aG+1),aH.modify (Int.toNat aG) λc=>Zs c 0 [.d (.str y2)]))))) else(K aF aH)
noncomputable def Yl.m {β:Type} (k:Nat) (a0:LC) (a1:Int) (K:Int->LC->Option β) (F:((Int×Int×LC)->Option β)):Option β:=
 F (a1,0,a0)
noncomputable def Yl.g {β:Type} (k:Nat) (a0:LC) (a1:Int) (K:Int->LC->Option β):Option β:=
 ZA (Yl.l0 k K) k (a1,0,a0)
noncomputable def Yl.t (k:Nat) (a0:LC) (a1:Int):Option (Int×LC):=Yl.g k a0 a1 (λz0 z1=>some (z0,z1))
noncomputable def Yl.f {β:Type} (k:Nat) (a0:LC) (a1:Int) (K:Int->LC->Option β):Option β:=bd2 (Yl.t k a0 a1) K
noncomputable def Yl.e (k:Nat):Zj:=ent [.own false 45 [.o],.d .n] [1] [.n,.o] [3] false (Yl.t k)
noncomputable def Yl.p (k:Nat):Pro:=⟨Tryz.prog,[(106,Yf.e k)],Zv [(2,kp [0,5] [(1,.dat false)])] false [],k⟩
noncomputable def Yl.d (k:Nat) (a0:LC) (a1:Int):Ex->St->Option (Int×LC):=(Yl.p k).fin Tryz.f64 [.own false [.own a0],.d (.int .i64 a1)] [1] [.n,.o]
noncomputable def Yl.s0 (v:Int×Int×LC):St:=
 match v with
 |(aF,aG,aH)=>ZaA 20 [(0,.row 0),(1,.d false (.int .i64 aF)),(5,.d true (.int .i64 aG))] [.row (some 0) false 45 aH]
noncomputable def Yl.r0 (k:Nat) (a0:LC) (a1:Int) (n:Nat) (v:Int×Int×LC):Option (Int×LC):=(Yl.p k).lp (ZI Tryz.f64) 2 [1,0,1,0] (Yl.d k a0 a1) n (Yl.s0 v)
theorem Yl.l0_eq (k:Nat) (a0:LC) (a1:Int):∀ n v,Yl.r0 k a0 a1 n v=ZA (Yl.l0 k (λz0 z1=>some (z0,z1))) n v:=
 Zz (Yl.s0) _ λL0 v=>by obtain⟨aF,aG,aH⟩:=v;kernel_rfl
theorem Yl.ok (k:Nat):Zf Tryz.prog 64 (Yl.e k):=Zk (Yl.p k) mix tyok Tryz.func64 (Yf.ok k) (by kernel_rfl) (λa0 a1=>Eq.trans (b:=Yl.m k a0 a1 (λz0 z1=>some (z0,z1)) (Yl.r0 k a0 a1 k)) (by kernel_rfl) (congrArg (Yl.m k a0 a1 (λz0 z1=>some (z0,z1))) (funext λv=>Yl.l0_eq k a0 a1 k v) :))
noncomputable def YK.l0 {β:Type} (k:Nat) (K:Int->LC->Option β) (L0:(Int×Int×LC)->Option β) (v:Int×Int×LC):Option β:=
 match v with
 |(aF,aG,aH)=>bif(decide ((aG:Int)<(aH.length:Int))) then(Zd ((0:Int)<=aG/\aG<(aH.length:Int)) (Zd (Int.toNat aG<aH.length) (Yf.f k (IntKind.wrap .i64 (aF+1)) (λy8=>let J1:=(aH.modify (Int.toNat aG) λc=>Zs c 0 [.d (.int .i64 aF)]);let J0:=(J1.modify (Int.toNat aG) λc=>Zs c 1 [.d (.str y8)]);Zd ((0:Int)<=aG/\aG<(J1.length:Int)) (Zd (Int.toNat aG<J1.length) (Zd ((0:Int)<=aG/\aG<(J0.length:Int)) (ZaR J0 (Int.toNat aG) λc9=>ZaJ (c9.drop 2) λc10 r11=>cOwn c10 λy12=>Yl.f k y12 (IntKind.wrap .i64 ((IntKind.wrap .i64 (aF+1))+1)) (λy13 y14=>L0 (y13,IntKind.wrap .i64 (aG+1),J0.modify (Int.toNat aG) λr=>r.set 2 (.own y14)))))))))) else(K aF aH)
noncomputable def YK.m {β:Type} (k:Nat) (a0:LC) (a1:Int) (K:Int->LC->Option β) (F:((Int×Int×LC)->Option β)):Option β:=
 F (a1,0,a0)
noncomputable def YK.g {β:Type} (k:Nat) (a0:LC) (a1:Int) (K:Int->LC->Option β):Option β:=
 ZA (YK.l0 k K) k (a1,0,a0)
noncomputable def YK.t (k:Nat) (a0:LC) (a1:Int):Option (Int×LC):=YK.g k a0 a1 (λz0 z1=>some (z0,z1))
noncomputable def YK.f {β:Type} (k:Nat) (a0:LC) (a1:Int) (K:Int->LC->Option β):Option β:=bd2 (YK.t k a0 a1) K
noncomputable def YK.e (k:Nat):Zj:=ent [.own false 69 [.o],.d .n] [1] [.n,.o] [3] false (YK.t k)
noncomputable def YK.p (k:Nat):Pro:=⟨Tryz.prog,[(106,Yf.e k),(64,Yl.e k)],Zv [(2,kp [0,5] [(1,.dat false)])] false [],k⟩
noncomputable def YK.d (k:Nat) (a0:LC) (a1:Int):Ex->St->Option (Int×LC):=(YK.p k).fin Tryz.f136 [.own false [.own a0],.d (.int .i64 a1)] [1] [.n,.o]
noncomputable def YK.s0 (v:Int×Int×LC):St:=
 match v with
 |(aF,aG,aH)=>ZaA 35 [(0,.row 0),(1,.d false (.int .i64 aF)),(5,.d true (.int .i64 aG))] [.row (some 0) false 69 aH]
noncomputable def YK.r0 (k:Nat) (a0:LC) (a1:Int) (n:Nat) (v:Int×Int×LC):Option (Int×LC):=(YK.p k).lp (ZI Tryz.f136) 2 [1,0,1,0] (YK.d k a0 a1) n (YK.s0 v)
theorem YK.l0_eq (k:Nat) (a0:LC) (a1:Int):∀ n v,YK.r0 k a0 a1 n v=ZA (YK.l0 k (λz0 z1=>some (z0,z1))) n v:=
 Zz (YK.s0) _ λL0 v=>by obtain⟨aF,aG,aH⟩:=v;kernel_rfl
theorem YK.ok (k:Nat):Zf Tryz.prog 136 (YK.e k):=Zk (YK.p k) mix tyok Tryz.func136 ⟨Yf.ok k,Yl.ok k⟩ (by kernel_rfl) (λa0 a1=>Eq.trans (b:=YK.m k a0 a1 (λz0 z1=>some (z0,z1)) (YK.r0 k a0 a1 k)) (by kernel_rfl) (congrArg (YK.m k a0 a1 (λz0 z1=>some (z0,z1))) (funext λv=>YK.l0_eq k a0 a1 k v) :))
noncomputable def YJ.l0 {β:Type} (k:Nat) (K:Int->LC->Option β) (L0:(Int×Int×LC)->Option β) (v:Int×Int×LC):Option β:=
 match v with
 |(aF,aG,aH)=>bif(decide ((aG:Int)<(aH.length:Int))) then(Yf.f k aF (λy2=>let J0:=(aH.modify (Int.toNat aG) λc=>Zs c 0 [.d (.str y2)]);Zd ((0:Int)<=aG/\aG<(aH.length:Int)) (Zd (Int.toNat aG<aH.length) (Zd ((0:Int)<=aG/\aG<(J0.length:Int)) (Zd (Int.toNat aG<J0.length) (L0 (IntKind.wrap .i64 ((IntKind.wrap .i64 (aF+1))+1),IntKind.wrap .i64 (aG+1),J0.modify (Int.toNat aG) λc=>Zs c 1 [.d (.int .i64 (IntKind.wrap .i64 (aF+1)))]))))))) else(K aF aH)
noncomputable def YJ.m {β:Type} (k:Nat) (a0:LC) (a1:Int) (K:Int->LC->Option β) (F:((Int×Int×LC)->Option β)):Option β:=
 F (a1,0,a0)
noncomputable def YJ.g {β:Type} (k:Nat) (a0:LC) (a1:Int) (K:Int->LC->Option β):Option β:=
 ZA (YJ.l0 k K) k (a1,0,a0)
noncomputable def YJ.t (k:Nat) (a0:LC) (a1:Int):Option (Int×LC):=YJ.g k a0 a1 (λz0 z1=>some (z0,z1))
noncomputable def YJ.f {β:Type} (k:Nat) (a0:LC) (a1:Int) (K:Int->LC->Option β):Option β:=bd2 (YJ.t k a0 a1) K
noncomputable def YJ.e (k:Nat):Zj:=ent [.own false 70 [.o],.d .n] [1] [.n,.o] [3] false (YJ.t k)
noncomputable def YJ.p (k:Nat):Pro:=⟨Tryz.prog,[(106,Yf.e k)],Zv [(2,kp [0,5] [(1,.dat false)])] false [],k⟩
noncomputable def YJ.d (k:Nat) (a0:LC) (a1:Int):Ex->St->Option (Int×LC):=(YJ.p k).fin Tryz.f137 [.own false [.own a0],.d (.int .i64 a1)] [1] [.n,.o]
noncomputable def YJ.s0 (v:Int×Int×LC):St:=
 match v with
 |(aF,aG,aH)=>ZaA 28 [(0,.row 0),(1,.d false (.int .i64 aF)),(5,.d true (.int .i64 aG))] [.row (some 0) false 70 aH]
noncomputable def YJ.r0 (k:Nat) (a0:LC) (a1:Int) (n:Nat) (v:Int×Int×LC):Option (Int×LC):=(YJ.p k).lp (ZI Tryz.f137) 2 [1,0,1,0] (YJ.d k a0 a1) n (YJ.s0 v)
theorem YJ.l0_eq (k:Nat) (a0:LC) (a1:Int):∀ n v,YJ.r0 k a0 a1 n v=ZA (YJ.l0 k (λz0 z1=>some (z0,z1))) n v:=
 Zz (YJ.s0) _ λL0 v=>by obtain⟨aF,aG,aH⟩:=v;kernel_rfl
theorem YJ.ok (k:Nat):Zf Tryz.prog 137 (YJ.e k):=Zk (YJ.p k) mix tyok Tryz.func137 (Yf.ok k) (by kernel_rfl) (λa0 a1=>Eq.trans (b:=YJ.m k a0 a1 (λz0 z1=>some (z0,z1)) (YJ.r0 k a0 a1 k)) (by kernel_rfl) (congrArg (YJ.m k a0 a1 (λz0 z1=>some (z0,z1))) (funext λv=>YJ.l0_eq k a0 a1 k v) :))
noncomputable def Yax.g {β:Type} (k:Nat) (aB:Int) (aA aC aD:LC) (a1:Int) (K:Int->LC->LC->LC->Option β):Option β:=
 YK.f k aA a1 (λy15 y16=>Zd (y16.length=aA.length) (Yl.f k aC y15 (λy17 y18=>Zd (y18.length=aC.length) (YJ.f k aD y17 (λy19 y20=>Zd (y20.length=aD.length) (K y19 y16 y18 y20))))))
noncomputable def Yax.t (k:Nat) (aB:Int) (aA aC aD:LC) (a1:Int):Option (Int×LC×LC×LC):=Yax.g k aB aA aC aD a1 (λz0 z1 z2 z3=>some (z0,z1,z2,z3))
noncomputable def Yax.f {β:Type} (k:Nat) (aB:Int) (aA aC aD:LC) (a1:Int) (K:Int->LC->LC->LC->Option β):Option β:=bd4 (Yax.t k aB aA aC aD a1) K
noncomputable def Yax.e (k:Nat):Zj:=ent [.own true 72 [.n,.o,.o,.o],.d .n] [1] [.n,.o,.o,.o] [3] false (Yax.t k)
noncomputable def Yax.p (k:Nat):Pro:=⟨Tryz.prog,[(136,YK.e k),(64,Yl.e k),(137,YJ.e k)],Zv [] false [],k⟩
theorem Yax.ok (k:Nat):Zf Tryz.prog 79 (Yax.e k):=Zk (Yax.p k) mix tyok Tryz.func79 ⟨YK.ok k,Yl.ok k,YJ.ok k⟩ (by kernel_rfl) (λaB aA aC aD a1=>by show _=_;kernel_rfl)
noncomputable def Yk.l0 {β:Type} (k:Nat) (r_laws_markValueS:LC->Int->(Int->LC->Option β)->Option β) (K:Int->LC->Option β) (L0:(Int×Int×LC)->Option β) (v:Int×Int×LC):Option β:=
 match v with
 |(aF,aG,aH)=>bif(decide ((aG:Int)<(aH.length:Int))) then(Zd ((0:Int)<=aG/\aG<(aH.length:Int)) (Zd (Int.toNat aG<aH.length) (Yf.f k (IntKind.wrap .i64 (aF+1)) (λy14=>let J3:=(aH.modify (Int.toNat aG) λc=>Zs c 0 [.d (.int .i64 aF)]);let J2:=(J3.modify (Int.toNat aG) λc=>Zs c 1 [.d (.str y14)]);let J1:=(J2.modify (Int.toNat aG) λc=>Zs c 2 [.d (.int .i64 (IntKind.wrap .i64 ((IntKind.wrap .i64 (aF+1))+1)))]);Zd ((0:Int)<=aG/\aG<(J3.length:Int)) (Zd (Int.toNat aG<J3.length) (Zd ((0:Int)<=aG/\aG<(J2.length:Int)) (Zd (Int.toNat aG<J2.length) (Zd ((0:Int)<=aG/\aG<(J1.length:Int)) (ZaR J1 (Int.toNat aG) λc15=>ZaJ (c15.drop 3) λc16 r17=>cOwn c16 λy18=>Yl.f k y18 (IntKind.wrap .i64 ((IntKind.wrap .i64 ((IntKind.wrap .i64 (aF+1))+1))+1)) (λy19 y20=>let J0:=(J1.modify (Int.toNat aG) λr=>r.set 3 (.own y20));Zd ((0:Int)<=aG/\aG<(J0.length:Int)) (ZaR J0 (Int.toNat aG) λc21=>ZaJ (c21.drop 4) λc22 r23=>cOwn c22 λy24=>r_laws_markValueS y24 y19 (λy25 y26=>L0 (y25,IntKind.wrap .i64 (aG+1),J0.modify (Int.toNat aG) λr=>r.set 4 (.own y26)))))))))))))) else(K aF aH)
noncomputable def Yk.m {β:Type} (k:Nat) (r_laws_markValueS:LC->Int->(Int->LC->Option β)->Option β) (a0:LC) (a1:Int) (K:Int->LC->Option β) (F:((Int×Int×LC)->Option β)):Option β:=
 F (a1,0,a0)
noncomputable def Yk.body {β:Type} (k:Nat) (r_laws_markValueS:LC->Int->(Int->LC->Option β)->Option β) (a0:LC) (a1:Int) (K:Int->LC->Option β):Option β:=
 ZA (Yk.l0 k r_laws_markValueS K) k (a1,0,a0)
noncomputable def Yk.w {β:Type} (r:LC->Int->Option (Int×LC)) (a0:LC) (a1:Int) (K:Int->LC->Option β):Option β:=bd2 (r a0 a1) K
noncomputable def Yk.all:Nat->(LC->Int->Option (Int×LC))
 |0=>(λ_ _=>none)
 |k+1=>(λr=>(λa0 a1=>Yk.body k (Yk.w r) a0 a1 (λz0 z1=>some (z0,z1)))) (Yk.all k)
noncomputable def Yk.t (k:Nat) (a0:LC) (a1:Int):Option (Int×LC):=(Yk.all k) a0 a1
noncomputable def Yk.f {β:Type} (k:Nat) (a0:LC) (a1:Int) (K:Int->LC->Option β):Option β:=Yk.w (Yk.t k) a0 a1 K
noncomputable def Yk.g {β:Type} (k:Nat) (a0:LC) (a1:Int) (K:Int->LC->Option β):Option β:=Yk.body k (Yk.f k) a0 a1 K
theorem Yk.t_succ (k:Nat) (a0:LC) (a1:Int):Yk.t (k+1) a0 a1=Yk.g k a0 a1 (λz0 z1=>some (z0,z1)):=rfl
noncomputable def Yk.e (k:Nat):Zj:=ent [.own false 52 [.o],.d .n] [1] [.n,.o] [3] false (Yk.t k)
noncomputable def Yk.p (k:Nat):Pro:=⟨Tryz.prog,[(106,Yf.e k),(64,Yl.e k),(65,Yk.e k)],Zv [(2,kp [0,5] [(1,.dat false)])] false [],k⟩
noncomputable def Yk.d (k:Nat) (a0:LC) (a1:Int):Ex->St->Option (Int×LC):=(Yk.p k).fin Tryz.f65 [.own false [.own a0],.d (.int .i64 a1)] [1] [.n,.o]
noncomputable def Yk.s0 (v:Int×Int×LC):St:=
 match v with
 |(aF,aG,aH)=>ZaA 49 [(0,.row 0),(1,.d false (.int .i64 aF)),(5,.d true (.int .i64 aG))] [.row (some 0) false 52 aH]
noncomputable def Yk.r0 (k:Nat) (a0:LC) (a1:Int) (n:Nat) (v:Int×Int×LC):Option (Int×LC):=(Yk.p k).lp (ZI Tryz.f65) 2 [1,0,1,0] (Yk.d k a0 a1) n (Yk.s0 v)
theorem Yk.l0_eq (k:Nat) (a0:LC) (a1:Int):∀ n v,Yk.r0 k a0 a1 n v=ZA (Yk.l0 k (Yk.f k) (λz0 z1=>some (z0,z1))) n v:=
 Zz (Yk.s0) _ λL0 v=>by obtain⟨aF,aG,aH⟩:=v;kernel_rfl
theorem Yk.oks (k:Nat):Zf Tryz.prog 65 (Yk.e k):=by
 induction k with
 |zero=>exact Zba Tryz.func65 (by kernel_rfl) (λ_ _=>rfl)
 |succ k ih=>exact Zk (Yk.p k) mix tyok Tryz.func65 ⟨Yf.ok k,Yl.ok k,ih⟩ (by kernel_rfl) (λa0 a1=>Eq.trans (b:=Yk.m k (Yk.f k) a0 a1 (λz0 z1=>some (z0,z1)) (Yk.r0 k a0 a1 k)) (by kernel_rfl) ((congrArg (Yk.m k (Yk.f k) a0 a1 (λz0 z1=>some (z0,z1))) (funext λv=>Yk.l0_eq k a0 a1 k v)).trans (Yk.t_succ k a0 a1).symm))
theorem Yk.ok (k:Nat):Zf Tryz.prog 65 (Yk.e k):=(Yk.oks k)
noncomputable def Yam.g {β:Type} (k:Nat) (aB:Int) (aA:BA) (aC:Int) (aD aE:LC) (a1:Int) (K:Int->LC->LC->Option β):Option β:=
 Yl.f k aD a1 (λy1 y2=>Zd (y2.length=aD.length) (Yk.f k aE y1 (λy27 y28=>Zd (y28.length=aE.length) (K y27 y2 y28))))
noncomputable def Yam.t (k:Nat) (aB:Int) (aA:BA) (aC:Int) (aD aE:LC) (a1:Int):Option (Int×LC×LC):=Yam.g k aB aA aC aD aE a1 (λz0 z1 z2=>some (z0,z1,z2))
noncomputable def Yam.f {β:Type} (k:Nat) (aB:Int) (aA:BA) (aC:Int) (aD aE:LC) (a1:Int) (K:Int->LC->LC->Option β):Option β:=bd3 (Yam.t k aB aA aC aD aE a1) K
noncomputable def Yam.e (k:Nat):Zj:=ent [.own true 54 [.n,.s,.n,.o,.o],.d .n] [1] [.n,.o,.o] [3] false (Yam.t k)
noncomputable def Yam.p (k:Nat):Pro:=⟨Tryz.prog,[(64,Yl.e k),(65,Yk.e k)],Zv [] false [],k⟩
theorem Yam.ok (k:Nat):Zf Tryz.prog 22 (Yam.e k):=Zk (Yam.p k) mix tyok Tryz.func22 ⟨Yl.ok k,Yk.ok k⟩ (by kernel_rfl) (λaB aA aC aD aE a1=>by show _=_;kernel_rfl)
noncomputable def YX.l0 {β:Type} (k:Nat) (K:Int->LC->Option β) (L0:(Int×Int×LC)->Option β) (v:Int×Int×LC):Option β:=
 match v with
 |(aF,aG,aH)=>bif(decide ((aG:Int)<(aH.length:Int))) then(let J5:=(aH.modify (Int.toNat aG) λc=>Zs c 0 [.d (.int .i64 aF)]);Zd ((0:Int)<=aG/\aG<(aH.length:Int)) (Zd (Int.toNat aG<aH.length) (Zd ((0:Int)<=aG/\aG<(J5.length:Int)) (ZaR J5 (Int.toNat aG) λc20=>ZaJ (c20.drop 1) λc21 r22=>cOwn c21 λy23=>Yl.f k y23 (IntKind.wrap .i64 (aF+1)) (λy24 y25=>let J4:=(J5.modify (Int.toNat aG) λr=>r.set 1 (.own y25));Zd ((0:Int)<=aG/\aG<(J4.length:Int)) (Zd (Int.toNat aG<J4.length) (Yf.f k (IntKind.wrap .i64 (y24+1)) (λy26=>let J3:=(J4.modify (Int.toNat aG) λc=>Zs c 2 [.d (.int .i64 y24)]);let J2:=(J3.modify (Int.toNat aG) λc=>Zs c 3 [.d (.str y26)]);let J1:=(J2.modify (Int.toNat aG) λc=>Zs c 4 [.d (.int .i64 (IntKind.wrap .i64 ((IntKind.wrap .i64 (y24+1))+1)))]);Zd ((0:Int)<=aG/\aG<(J3.length:Int)) (Zd (Int.toNat aG<J3.length) (Zd ((0:Int)<=aG/\aG<(J2.length:Int)) (Zd (Int.toNat aG<J2.length) (Zd ((0:Int)<=aG/\aG<(J1.length:Int)) (ZaR J1 (Int.toNat aG) λc27=>ZaJ (c27.drop 5) λc28 r29=>cOwn c28 λy30=>Yl.f k y30 (IntKind.wrap .i64 ((IntKind.wrap .i64 ((IntKind.wrap .i64 (y24+1))+1))+1)) (λy31 y32=>let J0:=(J1.modify (Int.toNat aG) λr=>r.set 5 (.own y32));Zd ((0:Int)<=aG/\aG<(J0.length:Int)) (ZaR J0 (Int.toNat aG) λc33=>ZaJ (c33.drop 6) λc34 r35=>cOwn c34 λy36=>Yk.f k y36 y31 (λy37 y38=>L0 (y37,IntKind.wrap .i64 (aG+1),J0.modify (Int.toNat aG) λr=>r.set 6 (.own y38)))))))))))))))))) else(K aF aH)
noncomputable def YX.m {β:Type} (k:Nat) (a0:LC) (a1:Int) (K:Int->LC->Option β) (F:((Int×Int×LC)->Option β)):Option β:=
 F (a1,0,a0)
noncomputable def YX.g {β:Type} (k:Nat) (a0:LC) (a1:Int) (K:Int->LC->Option β):Option β:=
 ZA (YX.l0 k K) k (a1,0,a0)
noncomputable def YX.t (k:Nat) (a0:LC) (a1:Int):Option (Int×LC):=YX.g k a0 a1 (λz0 z1=>some (z0,z1))
noncomputable def YX.f {β:Type} (k:Nat) (a0:LC) (a1:Int) (K:Int->LC->Option β):Option β:=bd2 (YX.t k a0 a1) K
noncomputable def YX.e (k:Nat):Zj:=ent [.own false 111 [.o],.d .n] [1] [.n,.o] [3] false (YX.t k)
noncomputable def YX.p (k:Nat):Pro:=⟨Tryz.prog,[(64,Yl.e k),(106,Yf.e k),(65,Yk.e k)],Zv [(2,kp [0,5] [(1,.dat false)])] false [],k⟩
noncomputable def YX.d (k:Nat) (a0:LC) (a1:Int):Ex->St->Option (Int×LC):=(YX.p k).fin Tryz.f138 [.own false [.own a0],.d (.int .i64 a1)] [1] [.n,.o]
noncomputable def YX.s0 (v:Int×Int×LC):St:=
 match v with
 |(aF,aG,aH)=>ZaA 68 [(0,.row 0),(1,.d false (.int .i64 aF)),(5,.d true (.int .i64 aG))] [.row (some 0) false 111 aH]
noncomputable def YX.r0 (k:Nat) (a0:LC) (a1:Int) (n:Nat) (v:Int×Int×LC):Option (Int×LC):=(YX.p k).lp (ZI Tryz.f138) 2 [1,0,1,0] (YX.d k a0 a1) n (YX.s0 v)
theorem YX.l0_eq (k:Nat) (a0:LC) (a1:Int):∀ n v,YX.r0 k a0 a1 n v=ZA (YX.l0 k (λz0 z1=>some (z0,z1))) n v:=
 Zz (YX.s0) _ λL0 v=>by obtain⟨aF,aG,aH⟩:=v;kernel_rfl
theorem YX.ok (k:Nat):Zf Tryz.prog 138 (YX.e k):=Zk (YX.p k) mix tyok Tryz.func138 ⟨Yl.ok k,Yf.ok k,Yk.ok k⟩ (by kernel_rfl) (λa0 a1=>Eq.trans (b:=YX.m k a0 a1 (λz0 z1=>some (z0,z1)) (YX.r0 k a0 a1 k)) (by kernel_rfl) (congrArg (YX.m k a0 a1 (λz0 z1=>some (z0,z1))) (funext λv=>YX.l0_eq k a0 a1 k v) :))
noncomputable def YL.l0 {β:Type} (k:Nat) (K:Int->LC->Option β) (L0:(Int×Int×LC)->Option β) (v:Int×Int×LC):Option β:=
 match v with
 |(aF,aG,aH)=>bif(decide ((aG:Int)<(aH.length:Int))) then(Yf.f k aF (λy8=>let J0:=(aH.modify (Int.toNat aG) λc=>Zs c 0 [.d (.str y8)]);Zd ((0:Int)<=aG/\aG<(aH.length:Int)) (Zd (Int.toNat aG<aH.length) (Zd ((0:Int)<=aG/\aG<(J0.length:Int)) (ZaR J0 (Int.toNat aG) λc9=>ZaJ (c9.drop 1) λc10 r11=>cOwn c10 λy12=>YX.f k y12 (IntKind.wrap .i64 (aF+1)) (λy13 y14=>L0 (y13,IntKind.wrap .i64 (aG+1),J0.modify (Int.toNat aG) λr=>r.set 1 (.own y14)))))))) else(K aF aH)
noncomputable def YL.m {β:Type} (k:Nat) (a0:LC) (a1:Int) (K:Int->LC->Option β) (F:((Int×Int×LC)->Option β)):Option β:=
 F (a1,0,a0)
noncomputable def YL.g {β:Type} (k:Nat) (a0:LC) (a1:Int) (K:Int->LC->Option β):Option β:=
 ZA (YL.l0 k K) k (a1,0,a0)
noncomputable def YL.t (k:Nat) (a0:LC) (a1:Int):Option (Int×LC):=YL.g k a0 a1 (λz0 z1=>some (z0,z1))
noncomputable def YL.f {β:Type} (k:Nat) (a0:LC) (a1:Int) (K:Int->LC->Option β):Option β:=bd2 (YL.t k a0 a1) K
noncomputable def YL.e (k:Nat):Zj:=ent [.own false 73 [.o],.d .n] [1] [.n,.o] [3] false (YL.t k)
noncomputable def YL.p (k:Nat):Pro:=⟨Tryz.prog,[(106,Yf.e k),(138,YX.e k)],Zv [(2,kp [0,5] [(1,.dat false)])] false [],k⟩
noncomputable def YL.d (k:Nat) (a0:LC) (a1:Int):Ex->St->Option (Int×LC):=(YL.p k).fin Tryz.f80 [.own false [.own a0],.d (.int .i64 a1)] [1] [.n,.o]
noncomputable def YL.s0 (v:Int×Int×LC):St:=
 match v with
 |(aF,aG,aH)=>ZaA 28 [(0,.row 0),(1,.d false (.int .i64 aF)),(5,.d true (.int .i64 aG))] [.row (some 0) false 73 aH]
noncomputable def YL.r0 (k:Nat) (a0:LC) (a1:Int) (n:Nat) (v:Int×Int×LC):Option (Int×LC):=(YL.p k).lp (ZI Tryz.f80) 2 [1,0,1,0] (YL.d k a0 a1) n (YL.s0 v)
theorem YL.l0_eq (k:Nat) (a0:LC) (a1:Int):∀ n v,YL.r0 k a0 a1 n v=ZA (YL.l0 k (λz0 z1=>some (z0,z1))) n v:=
 Zz (YL.s0) _ λL0 v=>by obtain⟨aF,aG,aH⟩:=v;kernel_rfl
theorem YL.ok (k:Nat):Zf Tryz.prog 80 (YL.e k):=Zk (YL.p k) mix tyok Tryz.func80 ⟨Yf.ok k,YX.ok k⟩ (by kernel_rfl) (λa0 a1=>Eq.trans (b:=YL.m k a0 a1 (λz0 z1=>some (z0,z1)) (YL.r0 k a0 a1 k)) (by kernel_rfl) (congrArg (YL.m k a0 a1 (λz0 z1=>some (z0,z1))) (funext λv=>YL.l0_eq k a0 a1 k v) :))
noncomputable def Yav.g {β:Type} (k:Nat) (aB:Int) (aA:BA) (aC:Int) (aD aE aK:LC) (aL:Int) (aZ:BA) (bA:Int) (aX aW aY:LC) (bC:Bool) (a1:Int) (K:Int->LC->LC->LC->LC->LC->LC->Option β):Option β:=
 Yax.f k aC aD aE aK a1 (λy21 y22 y23 y24=>Zd (y22.length=aD.length) (Zd (y23.length=aE.length) (Zd (y24.length=aK.length) (Yam.f k aL aZ bA aX aW y21 (λy29 y30 y31=>Zd (y30.length=aX.length) (Zd (y31.length=aW.length) (YL.f k aY y29 (λy32 y33=>Zd (y33.length=aY.length) (K y32 y22 y23 y24 y30 y31 y33)))))))))
noncomputable def Yav.t (k:Nat) (aB:Int) (aA:BA) (aC:Int) (aD aE aK:LC) (aL:Int) (aZ:BA) (bA:Int) (aX aW aY:LC) (bC:Bool) (a1:Int):Option (Int×LC×LC×LC×LC×LC×LC):=Yav.g k aB aA aC aD aE aK aL aZ bA aX aW aY bC a1 (λz0 z1 z2 z3 z4 z5 z6=>some (z0,z1,z2,z3,z4,z5,z6))
noncomputable def Yav.f {β:Type} (k:Nat) (aB:Int) (aA:BA) (aC:Int) (aD aE aK:LC) (aL:Int) (aZ:BA) (bA:Int) (aX aW aY:LC) (bC:Bool) (a1:Int) (K:Int->LC->LC->LC->LC->LC->LC->Option β):Option β:=match Yav.t k aB aA aC aD aE aK aL aZ bA aX aW aY bC a1 with|some (z0,z1,z2,z3,z4,z5,z6)=>K z0 z1 z2 z3 z4 z5 z6|none=>none
noncomputable def Yav.e (k:Nat):Zj:=ent [.own true 75 [.n,.s,.n,.o,.o,.o,.n,.s,.n,.o,.o,.o,.b],.d .n] [1] [.n,.o,.o,.o,.o,.o,.o] [3] false (Yav.t k)
noncomputable def Yav.p (k:Nat):Pro:=⟨Tryz.prog,[(79,Yax.e k),(22,Yam.e k),(80,YL.e k)],Zv [] false [],k⟩
theorem Yav.ok (k:Nat):Zf Tryz.prog 29 (Yav.e k):=Zk (Yav.p k) mix tyok Tryz.func29 ⟨Yax.ok k,Yam.ok k,YL.ok k⟩ (by kernel_rfl) (λaB aA aC aD aE aK aL aZ bA aX aW aY bC a1=>by show _=_;kernel_rfl)
noncomputable def Ys.l0 {β:Type} (k:Nat) (aF:LD) (K:Int->Option β) (L0:(Int×Int)->Option β) (v:Int×Int):Option β:=
 match v with
 |(aG,aH)=>bif(decide ((aH:Int)<(aF.length:Int))) then(atR aF aH [.s] λx9=>(Yf.f k aG (λy10=>bif(!(Zae x9 y10)) then(K (-1)) else(L0 (IntKind.wrap .i64 (aG+1),IntKind.wrap .i64 (aH+1)))))) else(K aG)
noncomputable def Ys.m {β:Type} (k:Nat) (a0:LD) (a1:Int) (K:Int->Option β) (F:(LD->(Int×Int)->Option β)):Option β:=
 F a0 (a1,0)
noncomputable def Ys.g {β:Type} (k:Nat) (a0:LD) (a1:Int) (K:Int->Option β):Option β:=
 ZA (Ys.l0 k a0 K) k (a1,0)
noncomputable def Ys.t (k:Nat) (a0:LD) (a1:Int):Option (Int):=Ys.g k a0 a1 (λz0=>some z0)
noncomputable def Ys.f {β:Type} (k:Nat) (a0:LD) (a1:Int) (K:Int->Option β):Option β:=bd1 (Ys.t k a0 a1) K
noncomputable def Ys.e (k:Nat):Zj:=ent [.d .l,.d .n] [1] [.n] [3] false (Ys.t k)
noncomputable def Ys.p (k:Nat):Pro:=⟨Tryz.prog,[(106,Yf.e k)],Zv [(2,kp [0,5] [(1,.dat false)])] false [],k⟩
noncomputable def Ys.d (k:Nat) (a0:LD) (a1:Int):Ex->St->Option (Int):=(Ys.p k).fin Tryz.f81 [.d (.sl a0),.d (.int .i64 a1)] [1] [.n]
noncomputable def Ys.s0 (aF:LD) (v:Int×Int):St:=
 match v with
 |(aG,aH)=>ZaA 22 [(0,.d false (.sl aF)),(1,.d false (.int .i64 aG)),(5,.d true (.int .i64 aH))] []
noncomputable def Ys.r0 (k:Nat) (a0:LD) (a1:Int) (aF:LD) (n:Nat) (v:Int×Int):Option (Int):=(Ys.p k).lp (ZI Tryz.f81) 2 [1,0,1,0] (Ys.d k a0 a1) n (Ys.s0 aF v)
theorem Ys.l0_eq (k:Nat) (a0:LD) (a1:Int) (aF:LD):∀ n v,Ys.r0 k a0 a1 aF n v=ZA (Ys.l0 k aF (λz0=>some z0)) n v:=
 Zz (Ys.s0 aF) _ λL0 v=>by obtain⟨aG,aH⟩:=v;kernel_rfl
theorem Ys.ok (k:Nat):Zf Tryz.prog 81 (Ys.e k):=Zk (Ys.p k) mix tyok Tryz.func81 (Yf.ok k) (by kernel_rfl) (λa0 a1=>Eq.trans (b:=Ys.m k a0 a1 (λz0=>some z0) (λaF=>Ys.r0 k a0 a1 aF k)) (by kernel_rfl) (congrArg (Ys.m k a0 a1 (λz0=>some z0)) (funext λaF=>funext λv=>Ys.l0_eq k a0 a1 aF k v) :))
noncomputable def Yi.l0 {β:Type} (k:Nat) (r_laws_heldValueS:LD->Int->(Int->Option β)->Option β) (aF:LD) (K:Int->Option β) (L0:(Int×Int)->Option β) (v:Int×Int):Option β:=
 match v with
 |(aG,aH)=>bif(decide ((aH:Int)<(aF.length:Int))) then(atR aF aH [.n,.s,.n,.l,.l] λx87 x90 x93 x96 x99=>(bif((x87:Int)!=aG) then(K (-1)) else(atR aF aH [.n,.s,.n,.l,.l] λx103 x106 x109 x112 x115=>(Yf.f k (IntKind.wrap .i64 (aG+1)) (λy116=>bif(!(Zae x106 y116)) then(K (-1)) else(atR aF aH [.n,.s,.n,.l,.l] λx120 x123 x126 x129 x132=>(bif((x126:Int)!=(IntKind.wrap .i64 ((IntKind.wrap .i64 (aG+1))+1))) then(K (-1)) else(atR aF aH [.n,.s,.n,.l,.l] λx136 x139 x142 x145 x148=>(Ys.f k x145 (IntKind.wrap .i64 ((IntKind.wrap .i64 ((IntKind.wrap .i64 (aG+1))+1))+1)) (λy149=>bif(decide ((y149:Int)<0)) then(K (-1)) else(atR aF aH [.n,.s,.n,.l,.l] λx153 x156 x159 x162 x165=>(r_laws_heldValueS x165 y149 (λy166=>bif(decide ((y166:Int)<0)) then(K (-1)) else(L0 (y166,IntKind.wrap .i64 (aH+1)))))))))))))))) else(K aG)
noncomputable def Yi.m {β:Type} (k:Nat) (r_laws_heldValueS:LD->Int->(Int->Option β)->Option β) (a0:LD) (a1:Int) (K:Int->Option β) (F:(LD->(Int×Int)->Option β)):Option β:=
 F a0 (a1,0)
noncomputable def Yi.body {β:Type} (k:Nat) (r_laws_heldValueS:LD->Int->(Int->Option β)->Option β) (a0:LD) (a1:Int) (K:Int->Option β):Option β:=
 ZA (Yi.l0 k r_laws_heldValueS a0 K) k (a1,0)
noncomputable def Yi.w {β:Type} (r:LD->Int->Option (Int)) (a0:LD) (a1:Int) (K:Int->Option β):Option β:=bd1 (r a0 a1) K
noncomputable def Yi.all:Nat->(LD->Int->Option (Int))
 |0=>(λ_ _=>none)
 |k+1=>(λr=>(λa0 a1=>Yi.body k (Yi.w r) a0 a1 (λz0=>some z0))) (Yi.all k)
noncomputable def Yi.t (k:Nat) (a0:LD) (a1:Int):Option (Int):=(Yi.all k) a0 a1
noncomputable def Yi.f {β:Type} (k:Nat) (a0:LD) (a1:Int) (K:Int->Option β):Option β:=Yi.w (Yi.t k) a0 a1 K
noncomputable def Yi.g {β:Type} (k:Nat) (a0:LD) (a1:Int) (K:Int->Option β):Option β:=Yi.body k (Yi.f k) a0 a1 K
theorem Yi.t_succ (k:Nat) (a0:LD) (a1:Int):Yi.t (k+1) a0 a1=Yi.g k a0 a1 (λz0=>some z0):=rfl
noncomputable def Yi.e (k:Nat):Zj:=ent [.d .l,.d .n] [1] [.n] [3] false (Yi.t k)
noncomputable def Yi.p (k:Nat):Pro:=⟨Tryz.prog,[(106,Yf.e k),(81,Ys.e k),(82,Yi.e k)],Zv [(2,kp [0,5] [(1,.dat false)])] false [],k⟩
noncomputable def Yi.d (k:Nat) (a0:LD) (a1:Int):Ex->St->Option (Int):=(Yi.p k).fin Tryz.f82 [.d (.sl a0),.d (.int .i64 a1)] [1] [.n]
noncomputable def Yi.s0 (aF:LD) (v:Int×Int):St:=
 match v with
 |(aG,aH)=>ZaA 59 [(0,.d false (.sl aF)),(1,.d false (.int .i64 aG)),(5,.d true (.int .i64 aH))] []
noncomputable def Yi.r0 (k:Nat) (a0:LD) (a1:Int) (aF:LD) (n:Nat) (v:Int×Int):Option (Int):=(Yi.p k).lp (ZI Tryz.f82) 2 [1,0,1,0] (Yi.d k a0 a1) n (Yi.s0 aF v)
theorem Yi.l0_eq (k:Nat) (a0:LD) (a1:Int) (aF:LD):∀ n v,Yi.r0 k a0 a1 aF n v=ZA (Yi.l0 k (Yi.f k) aF (λz0=>some z0)) n v:=
 Zz (Yi.s0 aF) _ λL0 v=>by obtain⟨aG,aH⟩:=v;kernel_rfl
theorem Yi.oks (k:Nat):Zf Tryz.prog 82 (Yi.e k):=by
 induction k with
 |zero=>exact Zba Tryz.func82 (by kernel_rfl) (λ_ _=>rfl)
 |succ k ih=>exact Zk (Yi.p k) mix tyok Tryz.func82 ⟨Yf.ok k,Ys.ok k,ih⟩ (by kernel_rfl) (λa0 a1=>Eq.trans (b:=Yi.m k (Yi.f k) a0 a1 (λz0=>some z0) (λaF=>Yi.r0 k a0 a1 aF k)) (by kernel_rfl) ((congrArg (Yi.m k (Yi.f k) a0 a1 (λz0=>some z0)) (funext λaF=>funext λv=>Yi.l0_eq k a0 a1 aF k v)).trans (Yi.t_succ k a0 a1).symm))
theorem Yi.ok (k:Nat):Zf Tryz.prog 82 (Yi.e k):=(Yi.oks k)
noncomputable def Yas.g {β:Type} (k:Nat) (aB:Int) (aA:BA) (aC:Int) (aD aE:LD) (a1:Int) (K:Int->Option β):Option β:=
 Ys.f k aD a1 (λy11=>bif(decide ((y11:Int)<0)) then(K (-1)) else(Yi.f k aE y11 (λy167=>bif(decide ((y167:Int)<0)) then(K (-1)) else(K y167))))
noncomputable def Yas.t (k:Nat) (aB:Int) (aA:BA) (aC:Int) (aD aE:LD) (a1:Int):Option (Int):=Yas.g k aB aA aC aD aE a1 (λz0=>some z0)
noncomputable def Yas.f {β:Type} (k:Nat) (aB:Int) (aA:BA) (aC:Int) (aD aE:LD) (a1:Int) (K:Int->Option β):Option β:=bd1 (Yas.t k aB aA aC aD aE a1) K
noncomputable def Yas.e (k:Nat):Zj:=ent [.agg [.n,.s,.n,.l,.l],.d .n] [1] [.n] [3] false (Yas.t k)
noncomputable def Yas.p (k:Nat):Pro:=⟨Tryz.prog,[(81,Ys.e k),(82,Yi.e k)],Zv [] false [],k⟩
theorem Yas.ok (k:Nat):Zf Tryz.prog 30 (Yas.e k):=Zk (Yas.p k) mix tyok Tryz.func30 ⟨Ys.ok k,Yi.ok k⟩ (by kernel_rfl) (λaB aA aC aD aE a1=>by show _=_;kernel_rfl)
noncomputable def Yaz.g {β:Type} (k:Nat) (aB:Int) (aA:BA) (aC:Int) (aD aE aK:LD) (aL:Int) (aZ:BA) (bA:Int) (aX aW aY:LD) (bC:Bool) (a1:BA) (K:Bool->Option β):Option β:=
 bif(decide (((a1.size:Int):Int)>1048576)) then(K true) else(YaU.f k aB aA aC aD aE aK aL aZ bA aX aW aY bC 1048576 (λy58=>bif(decide ((y58:Int)<0)) then(K true) else(Yar.f k aB aA aC aD aE aK aL aZ bA aX aW aY bC (λy72 y73 y74 y75 y76 y77 y78 y79 y80 y81 y82 y83 y84=>YW.f k y72 y73 y74 (C.immRows y75) (C.immRows y76) (C.immRows y77) y78 y79 y80 (C.immRows y81) (C.immRows y82) (C.immRows y83) y84 a1 (λy288 y289 y290 y291 y292 y293=>Yar.f k aB aA aC aD aE aK aL aZ bA aX aW aY bC (λy294 y295 y296 y297 y298 y299 y300 y301 y302 y303 y304 y305 y306=>Yat.f k y294 y295 y296 (C.immRows y297) (C.immRows y298) (C.immRows y299) y300 y301 y302 (C.immRows y303) (C.immRows y304) (C.immRows y305) y306 a1 (λy307 y308 y309 y310 y311 y312=>YG.f k y307 y308 y309 (C.immRows y310) (C.immRows y311) y288 y289 y290 (C.immRows y291) (C.immRows y292) (λy313=>bif(!y313) then(K false) else(bif(!(y312==y293)) then(K false) else(Yar.f k aB aA aC aD aE aK aL aZ bA aX aW aY bC (λy314 y315 y316 y317 y318 y319 y320 y321 y322 y323 y324 y325 y326=>YaV.f k y294 y295 y296 (C.immRows y297) (C.immRows y298) (C.immRows y299) y300 y301 y302 (C.immRows y303) (C.immRows y304) (C.immRows y305) y306 y314 y315 y316 (C.immRows y317) (C.immRows y318) (C.immRows y319) y320 y321 y322 (C.immRows y323) (C.immRows y324) (C.immRows y325) y326 (λy327=>bif(!y327) then(K false) else(Yav.f k y294 y295 y296 y297 y298 y299 y300 y301 y302 y303 y304 y305 y306 1 (λy328 y329 y330 y331 y332 y333 y334=>Zd (y329.length=y297.length) (Zd (y330.length=y298.length) (Zd (y331.length=y299.length) (Zd (y332.length=y303.length) (Zd (y333.length=y304.length) (Zd (y334.length=y305.length) (bif(decide ((y328:Int)<0)) then(K false) else(YG.f k y307 y308 y309 (C.immRows y310) (C.immRows y311) y288 y289 y290 (C.immRows y291) (C.immRows y292) (λy335=>bif(!y335) then(K false) else(bif(!(y312==y293)) then(K false) else(Yam.f k y307 y308 y309 y310 y311 1 (λy336 y337 y338=>Zd (y337.length=y310.length) (Zd (y338.length=y311.length) (Yas.f k y307 y308 y309 (C.immRows y337) (C.immRows y338) 1 (λy339=>bif(decide ((y339:Int)<0)) then(K false) else(bif((y339:Int)!=y336) then(K false) else(Yar.f k aB aA aC aD aE aK aL aZ bA aX aW aY bC (λy340 y341 y342 y343 y344 y345 y346 y347 y348 y349 y350 y351 y352=>Yat.f k y340 y341 y342 (C.immRows y343) (C.immRows y344) (C.immRows y345) y346 y347 y348 (C.immRows y349) (C.immRows y350) (C.immRows y351) y352 a1 (λy353 y354 y355 y356 y357 y358=>YG.f k y353 y354 y355 (C.immRows y356) (C.immRows y357) y288 y289 y290 (C.immRows y291) (C.immRows y292) (λy359=>bif(!y359) then(K false) else(bif(!(y358==y293)) then(K false) else(Yas.f k y307 y308 y309 (C.immRows y337) (C.immRows y338) 1 (λy360=>bif(decide ((y360:Int)<0)) then(K false) else(bif((y360:Int)!=y336) then(K false) else(K true))))))))))))))))))))))))))))))))))))))
noncomputable def Yaz.t (k:Nat) (aB:Int) (aA:BA) (aC:Int) (aD aE aK:LD) (aL:Int) (aZ:BA) (bA:Int) (aX aW aY:LD) (bC:Bool) (a1:BA):Option (Bool):=Yaz.g k aB aA aC aD aE aK aL aZ bA aX aW aY bC a1 (λz0=>some z0)
noncomputable def Yaz.e (k:Nat):Zj:=ent [.agg [.n,.s,.n,.l,.l,.l,.n,.s,.n,.l,.l,.l,.b],.d .s] [1] [.b] [4] false (Yaz.t k)
noncomputable def Yaz.p (k:Nat):Pro:=⟨Tryz.prog,[(24,YaU.e k),(26,Yar.e k),(25,YW.e k),(27,Yat.e k),(21,YG.e k),(28,YaV.e k),(29,Yav.e k),(22,Yam.e k),(30,Yas.e k)],Zv [] false [],k⟩
theorem Yaz.ok (k:Nat):Zf Tryz.prog 5 (Yaz.e k):=Zk (Yaz.p k) mix tyok Tryz.func5 ⟨YaU.ok k,Yar.ok k,YW.ok k,Yat.ok k,YG.ok k,YaV.ok k,Yav.ok k,Yam.ok k,Yas.ok k⟩ (by kernel_rfl) (λaB aA aC aD aE aK aL aZ bA aX aW aY bC a1=>by show _=_;kernel_rfl)
end Go.Proofs.YtlobhlnahhjpjaaGreat
