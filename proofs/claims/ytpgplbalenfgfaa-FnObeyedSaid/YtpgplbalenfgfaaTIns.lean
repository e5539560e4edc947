/- slices.Insert: its contract,from what a walk through it shows. -/
import Derived.Test.YtpgplbalenfgfaaTLibs
import Derived.Lib.Overlaps
import Derived.Laws.Externs
import Derived.Lib.AppendZeros
import Derived.Deep.QuietTactic
set_option linter.unusedVariables false
set_option linter.unusedSimpArgs false
namespace Go.T
open Go.Proofs
structure InsRaw (P : Program) (f K : Nat) : Prop where
 no : ∀ (a : Option Addr) (n cap i : Nat) (a' : Option Addr) (cap' : Nat) (w : World),i ≤ n → n ≤ cap → Calls P f #[.slice a n cap,.int .i64 i,.slice a' 0 cap'] w fun ex w' => ex = .returned (.slice a n cap) ∧ w' = w
 yes : ∀ (a : Option Addr) (n cap i : Nat) (c : Array Value) (vb m vcap : Nat) (cv : Array Value) (ev : TypeId) (w : World),
  w.heap[vb]? = some (.cells cv ev (0,0)) → cv.size = vcap * K → m ≤ vcap → 0 < m → (∀ t,t < m * K → ∃ v,cv[t]? = some v ∧ v.oneCell' = true) →
  (n = 0 ∧ cap = 0 ∨ ∃ b e,a = some ⟨b,0,none⟩ ∧ b ≠ vb ∧ w.heap[b]? = some (.cells c e (0,0)) ∧ c.size = cap * K ∧ n ≤ cap ∧ ∀ t,t < n * K → ∃ v,c[t]? = some v ∧ v.oneCell' = true) → i ≤ n → n + m ≤ Z8 →
  Calls P f #[.slice a n cap,.int .i64 i,.slice (some ⟨vb,0,none⟩) m vcap] w fun ex w' => ∃ (b' cap' : Nat) (c' : Array Value) (e' : TypeId),ex = .returned (.slice (some ⟨b',0,none⟩) (n + m) cap') ∧ w'.heap[b']? = some (.cells c' e' (0,0)) ∧ c'.size = cap' * K ∧ n + m ≤ cap' ∧
   (0 < cap ∧ a = some ⟨b',0,none⟩ ∨ w.heap.size ≤ b') ∧ Gr b' w w' ∧
   (∀ t,t < i * K → c'[t]? = c[t]?) ∧ (∀ t,t < m * K → c'[i * K + t]? = cv[t]?) ∧ ∀ t,t < (n - i) * K → c'[(i + m) * K + t]? = c[i * K + t]?
theorem run_copy_K {P : Program} (w : World) (dT sT ty elem : TypeId) {i : TypeInfo} (b o dLen dCap : Nat) (a : Addr) (sLen sCap m : Nat) (cs : List Value)
  (hu : P.underlying dT = some (.slice elem)) (hq : P.info? elem = some i) (hm : Nat.min sLen dLen = m) (hn : cs.length = m * i.size)
  (hsrc : ∀ j v,cs[j]? = some v → w.cell? (a.add j) = some v) (hc : ∀ j,j < cs.length → (w.cell? ⟨b,o + j,none⟩).isSome = true) (hf : ∀ j,j < cs.length → w.frozen? ⟨b,o + j,none⟩ = false) (h1 : ∀ v ∈ cs,v.oneCell' = true) :
  (Builtin.copy_ #[dT,sT] ty #[.slice (some ⟨b,o,none⟩) dLen dCap,.slice (some a) sLen sCap]).run P w = .ok (goInt m) (w.setCells b o cs) := by
 have hl := run_loadCells_list (P := P) w a cs hsrc
 have hst := run_storeCells_cells (P := P) b o cs 0 w (by simpa using hc) (by simpa using hf) h1
 rw [hn] at hl
 simp [Builtin.copy_,Zg hu,Builtin.lenOf,Builtin.firstCells,sizeOf,typeInfo,hq,hm,hl,hst]
structure InsRoads (P : Program) (f o S K : Nat) : Prop where
 no : ∀ (a : Option Addr) (n cap i : Nat) (a' : Option Addr) (cap' : Nat) (w : World),i ≤ n → n ≤ cap → Calls P f #[.slice a n cap,.int .i64 i,.slice a' 0 cap'] w fun ex w' => ex = .returned (.slice a n cap) ∧ w' = w
 A : ∀ (a : Option Addr) (n cap m vb vcap : Nat) (w W' : World) (R : Value),0 < m → n ≤ cap → (∀ ty,(Builtin.append_ #[S,S] ty #[.slice a n cap,.slice (some ⟨vb,0,none⟩) m vcap]).run P w = .ok R W') →
  Calls P f #[.slice a n cap,.int .i64 n,.slice (some ⟨vb,0,none⟩) m vcap] w fun ex w' => ex = .returned R ∧ w' = W'
 B : ∀ (b n cap i vb m vcap : Nat) (cd vs : List Value) (w : World),i < n → 0 < m → n + m ≤ cap → n + m ≤ 9223372036854775807 →
  (∀ lb cb,(callFunc o #[.slice (some ⟨vb,0,none⟩) m vcap,.slice (some ⟨b,(i + m) * K,none⟩) lb cb]).run P w = .ok (.value (.bool false)) w) →
  (∀ ty dc sc,(Builtin.copy_ #[S,S] ty #[.slice (some ⟨b,(i + m) * K,none⟩) (n + m - (i + m)) dc,.slice (some ⟨b,i * K,none⟩) (n + m - i) sc]).run P w.drew = .ok (goInt ((n - i : Nat) : Int)) (w.drew.setCells b ((i + m) * K) cd)) →
  (∀ ty dc,(Builtin.copy_ #[S,S] ty #[.slice (some ⟨b,i * K,none⟩) (n + m - i) dc,.slice (some ⟨vb,0,none⟩) m vcap]).run P (w.drew.setCells b ((i + m) * K) cd) = .ok (goInt m) ((w.drew.setCells b ((i + m) * K) cd).setCells b (i * K) vs)) →
  Calls P f #[.slice (some ⟨b,0,none⟩) n cap,.int .i64 i,.slice (some ⟨vb,0,none⟩) m vcap] w fun ex w' => ex = .returned (.slice (some ⟨b,0,none⟩) (n + m) cap) ∧ w' = (w.drew.setCells b ((i + m) * K) cd).setCells b (i * K) vs
 C : ∀ (b n cap i vb m vcap G N : Nat) (cd vs : List Value) (w W1 : World),i < n → 0 < m → n ≤ cap → cap < n + m → n + m ≤ G → G ≤ 9223372036854775807 →
  (∀ ty,(Builtin.append_ #[S,3] ty #[.slice (some ⟨b,0,none⟩) i cap,.int .i64 ((n : Int) + (m : Int) - (i : Int))]).run P w = .ok (.slice (some ⟨N,0,none⟩) (n + m) G) W1) →
  (∀ ty dc,(Builtin.copy_ #[S,S] ty #[.slice (some ⟨N,i * K,none⟩) (n + m - i) dc,.slice (some ⟨vb,0,none⟩) m vcap]).run P W1 = .ok (goInt m) (W1.setCells N (i * K) vs)) →
  (∀ ty dc sc,(Builtin.copy_ #[S,S] ty #[.slice (some ⟨N,(i + m) * K,none⟩) (n + m - (i + m)) dc,.slice (some ⟨b,i * K,none⟩) (n - i) sc]).run P (W1.setCells N (i * K) vs).drew = .ok (goInt ((n - i : Nat) : Int)) ((W1.setCells N (i * K) vs).drew.setCells N ((i + m) * K) cd)) →
  Calls P f #[.slice (some ⟨b,0,none⟩) n cap,.int .i64 i,.slice (some ⟨vb,0,none⟩) m vcap] w fun ex w' => ex = .returned (.slice (some ⟨N,0,none⟩) (n + m) G) ∧ w' = (W1.setCells N (i * K) vs).drew.setCells N ((i + m) * K) cd
theorem shape_cells {w : World} {b : Nat} {c : Array Value} {e : TypeId} {f : Nat × Nat} (h : w.heap[b]? = some (.cells c e f)) : w.shape? b = some (e,c.size) := by simp [World.shape?,h]
theorem load_list (P : Program) (W : World) (a : Addr) (cs : List Value) (k : Nat) (hk : cs.length = k) (h : ∀ j v,cs[j]? = some v → W.cell? (a.add j) = some v) : Sem.run P (loadCellsFrom a 0 k #[]) W = .ok cs.toArray W := by
 have := run_loadCells_list (P := P) (w := W) a cs h
 rw [hk] at this
 simpa [loadCells] using this
theorem Gs.refl (w : World) : Gs w w := ⟨Nat.le_refl _,rfl,rfl,rfl,fun _ _ => rfl⟩
theorem cut_cells {c : Array Value} {n K : Nat} (h1 : ∀ t,t < n * K → ∃ v,c[t]? = some v ∧ v.oneCell' = true) {i m : Nat} (h : i + m ≤ n) :
  ((c.toList.drop (i * K)).take (m * K)).length = m * K ∧ (∀ (j : Nat) (v : Value),((c.toList.drop (i * K)).take (m * K))[j]? = some v ↔ j < m * K ∧ c[i * K + j]? = some v) ∧ ∀ v ∈ (c.toList.drop (i * K)).take (m * K),v.oneCell' = true :=
 take_vals fun j hj => h1 (i * K + j) (by
  have := Nat.mul_le_mul_right K h
  rw [Nat.add_mul] at this
  omega)
theorem InsRoads.raw {P : Program} {f o S E K T : Nat} (r : InsRoads P f o S K) (hS : P.underlying S = some (.slice E)) (h3 : P.underlying 3 = some (.int .i64)) {i0 : TypeInfo} {z : Value} (hi0 : P.info? E = some i0) (hz : i0.zero = some z) (hs : i0.size = K) (hK : 0 < K) (hzs : z.cells.size = K) (hby : i0.bytes ≤ 1000)
  (hov : ∀ (x y : Value) (w : World),(Extern.SlicesOverlaps.overlaps #[S,S] #[T] #[x,y]).run P w = .ok (.bool false) w → (callFunc o #[x,y]).run P w = .ok (.value (.bool false)) w) : InsRaw P f K := by
 refine ⟨r.no,fun a n cap i c vb m vcap cv ev w hvb hvcs hmv hm hvc hsrc hin hmost => ?_⟩
 have hszE : ∀ w,(Go.sizeOf E).run P w = .ok K w := fun w => by simp [sizeOf,typeInfo,hi0,hs]
 obtain ⟨vl,vg,v1⟩ := cut_cells hvc (i := 0) (m := m) (by omega)
 generalize hvs : (cv.toList.drop (0 * K)).take (m * K) = vs at vl vg v1
 simp only [Nat.zero_mul,Nat.zero_add] at vg
 have hvsc : ∀ (W : World),W.heap[vb]? = some (.cells cv ev (0,0)) → ∀ j v,vs[j]? = some v → W.cell? ((⟨vb,0,none⟩ : Addr).add j) = some v := fun W hW j v hj => by
  rw [Addr.add_lit,Zat hW,Nat.zero_add]
  exact ((vg j v).mp hj).2
 have hvt : ∀ t,t < m * K → vs[t]? = cv[t]? := fun t ht => by
  obtain ⟨u,hu,_⟩ := hvc t ht
  rw [hu]
  exact (vg t u).mpr ⟨ht,hu⟩
 have hlen : ∀ W,(Builtin.lenOf (.slice (some ⟨vb,0,none⟩) m vcap)).run P W = .ok m W := fun W => by simp [Builtin.lenOf]
 have hfst : ∀ (W : World),W.heap[vb]? = some (.cells cv ev (0,0)) → (Builtin.firstCells i0.size m (.slice (some ⟨vb,0,none⟩) m vcap)).run P W = .ok vs.toArray W := fun W hW => by
  have := Zal (P := P) (n := m) (sz := K) (len := m) (cap := vcap) (off := 0) hW (by simpa using hvc)
  rw [hs,this,← hvs]
  simp
 by_cases hend : i = n
 ·subst hend
  by_cases hfit : i + m ≤ cap
  ·obtain ⟨b,e,rfl,hbv,hb,hcs,hle,h1⟩ : ∃ b e,a = some ⟨b,0,none⟩ ∧ b ≠ vb ∧ w.heap[b]? = some (.cells c e (0,0)) ∧ c.size = cap * K ∧ i ≤ cap ∧ ∀ t,t < i * K → ∃ v,c[t]? = some v ∧ v.oneCell' = true := by
    rcases hsrc with ⟨q1,q2⟩ | q
    ·omega
    ·exact q
   have hcap : i * K + vs.length ≤ c.size := by
    rw [vl,hcs,← Nat.add_mul]
    exact Nat.mul_le_mul_right K hfit
   obtain ⟨hb1,ho1⟩ := Zaa vs (i * K) hb
   have hst := run_storeCells_cells (P := P) b (i * K) vs 0 w (fun j hj => by rw [Nat.add_zero,Zat hb,Array.getElem?_eq_getElem (by omega)]; rfl) (fun j hj => Zax hb _) v1
   rw [Nat.add_zero] at hst
   refine Calls.mono (r.A (some ⟨b,0,none⟩) i cap m vb vcap w (w.setCells b (i * K) vs) (.slice (some ⟨b,0,none⟩) (i + m) cap) hm hle fun ty => ZaL hS (.inl ⟨E,hS⟩) hi0 (hlen w) (hfst w hvb) hfit (by simp only []; rw [hs,Addr.add_lit,Nat.zero_add]; exact hst)) ?_
   rintro ex w' ⟨rfl,rfl⟩
   refine ⟨b,cap,_,e,rfl,hb1,by rw [Zab,hcs],hfit,.inl ⟨by omega,rfl⟩,ho1.gr,fun t ht => ?_,fun t ht => ?_,fun t ht => by simp at ht⟩
   ·rw [Z6 _ _ _ _ hcap,if_neg (by omega)]
   ·rw [Z6 _ _ _ _ hcap,if_pos (by omega),Nat.add_sub_cancel_left,hvt t ht]
  ·have hnc : i ≤ cap := by rcases hsrc with ⟨q1,q2⟩ | ⟨_,_,_,_,_,_,q,_⟩ <;> omega
   obtain ⟨olds,holds,holl,holt⟩ : ∃ olds : Array Value,(Builtin.firstCells i0.size i (.slice a i cap)).run P w.drew = .ok olds w.drew ∧ olds.size = i * K ∧ ∀ t,t < i * K → olds[t]? = c[t]? := by
    rcases hsrc with ⟨rfl,rfl⟩ | ⟨b,e,rfl,hbv,hb,hcs,hle,h1⟩
    ·exact ⟨#[],Zak,by simp,fun t ht => by simp at ht⟩
    ·obtain ⟨q1,q2,_⟩ := cut_cells h1 (i := 0) (m := i) (by omega)
     refine ⟨_,by rw [hs]; exact Zal (w := w.drew) (P := P) (n := i) (sz := K) (len := i) (cap := cap) (off := 0) hb (by simpa using h1),by simpa using q1,fun t ht => ?_⟩
     obtain ⟨u,hu,_⟩ := h1 t ht
     have := (q2 t u).mpr ⟨ht,by simpa using hu⟩
     simp at this ⊢
     rw [hu]
     exact this
   have hGe := grownCap_ge w (i + m) cap E
   refine Calls.mono (r.A a i cap m vb vcap w _ _ hm hnc fun ty => Zaw hS (.inl ⟨E,hS⟩) hi0 hz (hlen w) (hfst w.drew hvb) holds (by omega) (by unfold Z8 at hmost; omega) (Zb3 hby (by omega) hmost)) ?_
   rintro ex w' ⟨rfl,rfl⟩
   have hzl : (Builtin.zeroCells z.cells (grownCap w (i + m) cap E - (i + m))).size = (grownCap w (i + m) cap E - (i + m)) * K := by rw [Zaj,hzs]
   refine ⟨w.heap.size,_,_,E,rfl,alloc_at w.drew _,?_,hGe,.inr (Nat.le_refl _),(Only.drew w.heap.size w).gr.trans ((gs_alloc w.drew _).gr _),fun t ht => ?_,fun t ht => ?_,fun t ht => by simp at ht⟩
   ·rw [Array.size_append,Array.size_append,hzl,holl,List.size_toArray,vl,← Nat.add_mul,← Nat.add_mul]
    congr 1; omega
   ·rw [Array.append_assoc,Array.getElem?_append_left (by omega),holt t ht]
   ·rw [Array.getElem?_append_left (by have : vs.toArray.size = m * K := (by simpa using vl); rw [Array.size_append]; omega),Array.getElem?_append_right (by omega),holl,Nat.add_sub_cancel_left]
    simpa using hvt t ht
 ·have hlt : i < n := by omega
  obtain ⟨b,e,rfl,hbv,hb,hcs,hle,h1⟩ : ∃ b e,a = some ⟨b,0,none⟩ ∧ b ≠ vb ∧ w.heap[b]? = some (.cells c e (0,0)) ∧ c.size = cap * K ∧ n ≤ cap ∧ ∀ t,t < n * K → ∃ v,c[t]? = some v ∧ v.oneCell' = true := by
   rcases hsrc with ⟨q1,q2⟩ | q
   ·omega
   ·exact q
  obtain ⟨dl,dg,d1⟩ := cut_cells h1 (i := i) (m := n - i) (by omega)
  generalize (c.toList.drop (i * K)).take ((n - i) * K) = cd at dl dg d1
  have hdt : ∀ t,t < (n - i) * K → cd[t]? = c[i * K + t]? := fun t ht => by
   obtain ⟨u,hu,_⟩ := h1 (i * K + t) (by
    have : i * K + (n - i) * K = n * K := by rw [← Nat.add_mul]; congr 1; omega
    omega)
   rw [hu]
   exact (dg t u).mpr ⟨ht,hu⟩
  have hK1 : (i + m) * K = i * K + m * K := Nat.add_mul ..
  have hK2 : (i + m) * K + (n - i) * K = (n + m) * K := by rw [← Nat.add_mul]; congr 1; omega
  by_cases hfit : n + m ≤ cap
  ·have hnc : (n + m) * K ≤ c.size := by rw [hcs]; exact Nat.mul_le_mul_right K hfit
   obtain ⟨hb1,ho1⟩ := Zaa cd ((i + m) * K) (show w.drew.heap[b]? = _ from hb)
   obtain ⟨hb2,ho2⟩ := Zaa vs (i * K) hb1
   have hvb1 : (w.drew.setCells b ((i + m) * K) cd).heap[vb]? = some (.cells cv ev (0,0)) := (ho1.other vb (fun h => hbv h.symm)).trans hvb
   have hnm : n + m ≤ 9223372036854775807 := by unfold Z8 at hmost; omega
   have hcapK : 0 < cap * K := Nat.mul_pos (by omega) hK
   have hcvK : 0 < cv.size := by rw [hvcs]; exact Nat.mul_pos (by omega) hK
   refine Calls.mono (r.B b n cap i vb m vcap cd vs w hlt hm hfit hnm (fun lb cb => hov _ _ _ (Lib.run_overlaps_apart w S T E hS K hszE ⟨vb,0,none⟩ ⟨b,(i + m) * K,none⟩ m vcap lb cb (fun h => hbv h.symm) ev e cv.size c.size (shape_cells hvb) (shape_cells hb) (by rw [hcs]; omega) (Zax hvb _) (Zax hvb _)))
    (fun ty dc sc => run_copy_K w.drew S S ty E b ((i + m) * K) (n + m - (i + m)) dc ⟨b,i * K,none⟩ (n + m - i) sc (n - i) cd hS hi0 (by simp only [Nat.min_def]; split <;> omega) (by rw [dl,hs])
     (fun j v hj => by rw [Addr.add_lit,Zat (show w.drew.heap[b]? = _ from hb)]; exact ((dg j v).mp hj).2)
     (fun j hj => by rw [Zat (show w.drew.heap[b]? = _ from hb),Array.getElem?_eq_getElem (by omega)]; rfl) (fun j hj => Zax (show w.drew.heap[b]? = _ from hb) _) d1)
    (fun ty dc => run_copy_K _ S S ty E b (i * K) (n + m - i) dc ⟨vb,0,none⟩ m vcap m vs hS hi0 (by simp only [Nat.min_def]; split <;> omega) (by rw [vl,hs]) (hvsc _ hvb1)
     (fun j hj => by rw [Zat hb1,Array.getElem?_eq_getElem (by rw [Zab]; omega)]; rfl) (fun j hj => Zax hb1 _) v1)) ?_
   rintro ex w' ⟨rfl,rfl⟩
   have hc1 : (i + m) * K + cd.length ≤ c.size := by rw [dl]; omega
   have hc2 : i * K + vs.length ≤ (putA c ((i + m) * K) cd).size := by rw [Zab,vl]; omega
   refine ⟨b,cap,_,e,rfl,hb2,by rw [Zab,Zab,hcs],hfit,.inl ⟨by omega,rfl⟩,((Only.drew b w).trans (ho1.trans ho2)).gr,fun t ht => ?_,fun t ht => ?_,fun t ht => ?_⟩
   ·rw [Z6 _ _ _ _ hc2,if_neg (by omega),Z6 _ _ _ _ hc1,if_neg (by omega)]
   ·rw [Z6 _ _ _ _ hc2,if_pos (by omega),Nat.add_sub_cancel_left,hvt t ht]
   ·rw [Z6 _ _ _ _ hc2,if_neg (by omega),Z6 _ _ _ _ hc1,if_pos (by omega),Nat.add_sub_cancel_left,hdt t ht]
  ·obtain ⟨q1,q2,_⟩ := cut_cells h1 (i := 0) (m := i) (by omega)
   have holds : (Builtin.firstCells i0.size i (.slice (some ⟨b,0,none⟩) i cap)).run P w.drew = .ok ((c.toList.drop (0 * K)).take (i * K)).toArray w.drew := by
    have h1' : ∀ j,j < i * K → ∃ v,c[0 + j]? = some v ∧ v.oneCell' = true := fun j hj => by
     rw [Nat.zero_add]
     exact h1 j (Nat.lt_of_lt_of_le hj (Nat.mul_le_mul_right K (by omega)))
    have := Zal (w := w.drew) (P := P) (n := i) (sz := K) (len := i) (cap := cap) (off := 0) hb h1'
    rw [hs,this,Nat.zero_mul]
   generalize (c.toList.drop (0 * K)).take (i * K) = ca at q1 q2 holds
   have hct : ∀ t,t < i * K → ca[t]? = c[t]? := fun t ht => by
    obtain ⟨u,hu,_⟩ := h1 t (Nat.lt_of_lt_of_le ht (Nat.mul_le_mul_right K (by omega)))
    rw [hu]
    exact (q2 t u).mpr ⟨ht,by simpa using hu⟩
   have hGe := grownCap_ge w (n + m) cap E
   have hG63 : grownCap w (n + m) cap E ≤ 9223372036854775807 := grownCap_le_maxLen w (n + m) cap E (by unfold maxLen; unfold Z8 at hmost; omega)
   have hin' : i + (n + m - i) = n + m := by omega
   have hkk : (n : Int) + (m : Int) - (i : Int) = ((n + m - i : Nat) : Int) := by omega
   have hmb : (n + m - i) * i0.bytes ≤ 281474976710656 := by
    have : (n + m - i) * i0.bytes ≤ 68719476736 * 1000 := Nat.mul_le_mul (by unfold Z8 at hmost; omega) hby
    omega
   have hrz : ∀ ty,_ := fun ty => run_append_more0 (P := P) (w := w) (t1 := S) (t2 := 3) (ty := ty) (q := .i64) hS h3 hi0 hz (base := some ⟨b,0,none⟩) (len := i) (cap := cap) (n := n + m - i) hmb (by unfold Z8 at hmost; omega) holds (by omega) (by unfold Z8 at hmost; omega) (by rw [hin']; exact Zb3 hby (by omega) hmost)
   rw [hin',← hkk,if_neg (by rw [hs]; exact Nat.mul_ne_zero (by omega) (by omega))] at hrz
   obtain ⟨G,hG⟩ : ∃ G,G = grownCap w (n + m) cap E := ⟨_,rfl⟩
   rw [← hG] at hrz hGe hG63
   obtain ⟨ROW,hROW⟩ : ∃ ROW : Array Value,ROW = ca.toArray ++ Builtin.zeroCells z.cells (n + m - i) ++ Builtin.zeroCells z.cells (G - (n + m)) := ⟨_,rfl⟩
   rw [← hROW] at hrz
   have hRl : ROW.size = G * K := by
    rw [hROW,Array.size_append,Array.size_append,Zaj,Zaj,hzs,List.size_toArray,q1,← Nat.add_mul,← Nat.add_mul]
    congr 1; omega
   have hGK : (n + m) * K ≤ ROW.size := by rw [hRl]; exact Nat.mul_le_mul_right K hGe
   have hR : (w.drew.alloc (.cells ROW E)).heap[w.heap.size]? = some (.cells ROW E (0,0)) := alloc_at w.drew _
   have hRo := gs_alloc w.drew (.cells ROW E)
   have hbw : b < w.heap.size := (Array.getElem?_eq_some_iff.mp hb).1
   have hvw : vb < w.heap.size := (Array.getElem?_eq_some_iff.mp hvb).1
   obtain ⟨hb1,ho1⟩ := Zaa vs (i * K) hR
   obtain ⟨hb2,ho2⟩ := Zaa cd ((i + m) * K) (show ((w.drew.alloc (.cells ROW E)).setCells w.heap.size (i * K) vs).drew.heap[w.heap.size]? = _ from hb1)
   have hsb : ((w.drew.alloc (.cells ROW E)).setCells w.heap.size (i * K) vs).drew.heap[b]? = some (.cells c e (0,0)) := (ho1.other b (by omega)).trans ((hRo.same b hbw).trans hb)
   refine Calls.mono (r.C b n cap i vb m vcap G w.heap.size cd vs w (w.drew.alloc (.cells ROW E)) hlt hm hle (by omega) hGe hG63 hrz
    (fun ty dc => run_copy_K _ S S ty E w.heap.size (i * K) (n + m - i) dc ⟨vb,0,none⟩ m vcap m vs hS hi0 (by simp only [Nat.min_def]; split <;> omega) (by rw [vl,hs]) (hvsc _ ((hRo.same vb hvw).trans hvb))
     (fun j hj => by rw [Zat hR,Array.getElem?_eq_getElem (by omega)]; rfl) (fun j hj => Zax hR _) v1)
    (fun ty dc sc => run_copy_K _ S S ty E w.heap.size ((i + m) * K) (n + m - (i + m)) dc ⟨b,i * K,none⟩ (n - i) sc (n - i) cd hS hi0 (by simp only [Nat.min_def]; split <;> omega) (by rw [dl,hs])
     (fun j v hj => by rw [Addr.add_lit,Zat hsb]; exact ((dg j v).mp hj).2)
     (fun j hj => by rw [Zat (show ((w.drew.alloc (.cells ROW E)).setCells w.heap.size (i * K) vs).drew.heap[w.heap.size]? = _ from hb1),Array.getElem?_eq_getElem (by rw [Zab]; omega)]; rfl)
     (fun j hj => Zax (show ((w.drew.alloc (.cells ROW E)).setCells w.heap.size (i * K) vs).drew.heap[w.heap.size]? = _ from hb1) _) d1)) ?_
   rintro ex w' ⟨rfl,rfl⟩
   have hc1 : i * K + vs.length ≤ ROW.size := by rw [vl]; omega
   have hc2 : (i + m) * K + cd.length ≤ (putA ROW (i * K) vs).size := by rw [Zab,dl]; omega
   refine ⟨w.heap.size,G,_,E,rfl,hb2,by rw [Zab,Zab,hRl],hGe,.inr (Nat.le_refl _),(Only.drew w.heap.size w).gr.trans ((hRo.gr _).trans (ho1.gr.trans ((Only.drew w.heap.size _).gr.trans ho2.gr))),fun t ht => ?_,fun t ht => ?_,fun t ht => ?_⟩
   ·rw [Z6 _ _ _ _ hc2,if_neg (by omega),Z6 _ _ _ _ hc1,if_neg (by omega),hROW,Array.append_assoc,Array.getElem?_append_left (by rw [List.size_toArray,q1]; exact ht)]
    simpa using hct t ht
   ·rw [Z6 _ _ _ _ hc2,if_neg (by omega),Z6 _ _ _ _ hc1,if_pos (by omega),Nat.add_sub_cancel_left,hvt t ht]
   ·rw [Z6 _ _ _ _ hc2,if_pos (by omega),Nat.add_sub_cancel_left,hdt t ht]
structure GsBy (w : World) where
 to : World
 ok : Gs w to
instance (w : World) : Inhabited (GsBy w) := ⟨⟨w,Gs.refl w⟩⟩
theorem Gs.trans {w w' w'' : World} (h : Gs w w') (h' : Gs w' w'') : Gs w w'' := ⟨Nat.le_trans h.size h'.size,h'.os.trans h.os,h'.tape.trans h.tape,h'.output.trans h.output,fun b hb => (h'.same b (Nat.lt_of_lt_of_le hb h.size)).trans (h.same b hb)⟩
theorem wp_region_gs {P : Program} {id : Nat} {Q : Exit → Act → World → Prop} {a : Act} {w : World} {l : List Oper} (hm : P.follows .mixedOrders = true) (hB : Region.lexB .any l.toArray = true)
  (h : wpQuiet P l.toArray (fun w' => ∃ s : GsBy w,w' = s.to) (fun a' => ∀ w',(∃ s : GsBy w,w' = s.to) → Q .normal a' w') l a) : (Code.region id l.toArray true).wp P Q a w :=
 wp_region_quiet (C := fun w' => ∃ s : GsBy w,w' = s.to) hm hB ⟨⟨w.drew,⟨Nat.le_refl _,rfl,rfl,rfl,fun _ _ => rfl⟩⟩,rfl⟩ (by simpa using h)
theorem calls_gs {P : Program} {f : FuncId} {args : Array Value} {w : World} {v : Value} (s : GsBy w) (h : Calls P f args s.to fun e w' => e = .returned v ∧ Gs s.to w') : Calls P f args s.to fun e w' => e = .returned v ∧ ∃ q : GsBy w,w' = q.to :=
 h.mono fun _ _ ⟨he,hg⟩ => ⟨he,⟨_,s.ok.trans hg⟩,rfl⟩
def compR (pr : List D → List D → Option Bool) : List C → List (List C) → Option (List (List C))
 | _,[] => some []
 | x,s :: r => match pr (C.immCells s) (C.immCells x),compR pr s r with
  | some true,some ys => some ys
  | some false,some ys => some (s :: ys)
  | _,_ => none
def compK (pr : List D → List D → Option Bool) : List (List C) → Option (List (List C))
 | [] => some []
 | x :: r => Zd (r.length < 1099511627776) (match compR pr x r with
  | some ys => some (x :: ys)
  | none => none)
theorem compR_some {pr : List D → List D → Option Bool} : ∀ {r ys : List (List C)} {x : List C} {o : Nat},compR pr x r = some ys → ∀ (p : Nat → Bool),(∀ (j : Nat) s u,r[j]? = some s → (x :: r)[j]? = some u → p (o + j) = (pr (C.immCells s) (C.immCells u)).getD false) →
  (∀ (j : Nat) s u,r[j]? = some s → (x :: r)[j]? = some u → ∃ q,pr (C.immCells s) (C.immCells u) = some q) ∧ ys = ZbS (fun j => !p j) o r
 | [],ys,x,o,h,p,hp => by injection h with h; subst h; exact ⟨by simp,rfl⟩
 | s :: r,ys,x,o,h,p,hp => by
  have hp0 := hp 0 s x rfl rfl
  rw [Nat.add_zero] at hp0
  unfold compR at h
  split at h
  ·rename_i zs h1 h2
   injection h with h; subst h
   obtain ⟨h3,h4⟩ := compR_some (o := o + 1) h2 p (fun j s' u h5 h6 => by rw [Nat.add_assoc,Nat.add_comm 1 j]; exact hp (j + 1) s' u h5 h6)
   refine ⟨fun j s' u h5 h6 => ?_,?_⟩
   ·cases j with
    | zero =>
     simp only [List.getElem?_cons_zero,Option.some.injEq] at h5 h6
     subst h5 h6; exact ⟨_,h1⟩
    | succ j => exact h3 j s' u h5 h6
   ·rw [h1] at hp0
    show _ = bif !p o then _ else _
    rw [hp0]; exact h4
  ·rename_i zs h1 h2
   injection h with h; subst h
   obtain ⟨h3,h4⟩ := compR_some (o := o + 1) h2 p (fun j s' u h5 h6 => by rw [Nat.add_assoc,Nat.add_comm 1 j]; exact hp (j + 1) s' u h5 h6)
   refine ⟨fun j s' u h5 h6 => ?_,?_⟩
   ·cases j with
    | zero =>
     simp only [List.getElem?_cons_zero,Option.some.injEq] at h5 h6
     subst h5 h6; exact ⟨_,h1⟩
    | succ j => exact h3 j s' u h5 h6
   ·rw [h1] at hp0
    show _ = bif !p o then _ else _
    rw [hp0,h4]; rfl
  ·cases h
def cpt (p : Nat → Bool) (n : Nat) : List Nat := (List.range' 0 n).filter fun j => !p j
def CpRaw (P : Program) (f K : Nat) : Prop :=
 (∀ (a : Option Addr) (n cap : Nat) (w : World) (g : Nat) (lb : Array Value),n ≤ 1 → n ≤ cap → Calls P f #[.slice a n cap,.func (.func g) #[] lb] w fun ex w' => ex = .returned (.slice a n cap) ∧ Gs w w') ∧
 ∀ (b cap n : Nat) (c : Array Value) (e : TypeId) (w : World) (g : Nat) (lb : Array Value) (p : Nat → Bool),w.heap[b]? = some (.cells c e (0,0)) → c.size = cap * K → n ≤ cap → 2 ≤ n → n ≤ 1099511627776 → p 0 = false → (∀ t,t < n * K → ∃ v,c[t]? = some v ∧ v.oneCell' = true) → (∀ args w,(callFunc g args).run P w = .ok (.enter g args) w) →
  (∀ j,j + 1 < n → ∀ W,Gr b w W → ∀ us vs : List Value,us.length = K → vs.length = K → (∀ t u,us[t]? = some u → c[(j + 1) * K + t]? = some u) → (∀ t u,vs[t]? = some u → c[j * K + t]? = some u) → Calls P g (#[.agg us.toArray,.agg vs.toArray] ++ lb) W fun e w' => e = .returned (.bool (p (j + 1))) ∧ Gs W w') →
  Calls P f #[.slice (some ⟨b,0,none⟩) n cap,.func (.func g) #[] lb] w fun ex w' => ex = .returned (.slice (some ⟨b,0,none⟩) (cpt p n).length cap) ∧ Gr b w w' ∧ ∃ c' : Array Value,w'.heap[b]? = some (.cells c' e (0,0)) ∧ c'.size = c.size ∧ ∀ m k : Nat,(cpt p n)[m]? = some k → ∀ t,t < K → c'[m * K + t]? = c[k * K + t]?
set_option maxHeartbeats 400000 in
theorem compactK_ok {P : Program} (hT : Zar P) {f g ct K tb : Nat} (hK : Zl P ct = K) (hK0 : 0 < K) (hent : Zbo P f = true) (raw : CpRaw P f K) (hbt : (ZU P tb || Zb5 P tb) = false)
  {ec : Zj} (hc : Zf P g ec)
  {run : {β : Type} → List A → (List (List C) → Option β) → Option β} (hrun : ∀ (β : Type) (aa : List A) (k : List (List C) → Option β) (r : β),run aa k = some r → ∃ xs caps pr ys,aa = [.own false [.own xs],.d (.fn g caps)] ∧ compK pr xs = some ys ∧ k ys = some r ∧
   ec.rts = [tb] ∧ ec.modes = List.replicate (caps.length + 2) (.imm,0) ∧
   ∀ s u q,pr s u = some q → ec.run (.agg s :: .agg u :: caps.map A.ip) (fun rs os => some (rs,os)) = some ([[.d (.bool q)]],[])) :
  Zf P f { modes := [(.own,0)],rts := [ct],al := false,run := fun _ _ => none,lib := some ⟨[true,false],ct,run⟩ } := by
 refine ⟨hent,fun β aa K r hr => (by cases hr),fun L hL => ?_⟩
 injection hL with hL
 subst hL
 intro β aa k r hr
 obtain ⟨xs,caps,pr,ys,rfl,hdel,hk,hr4,hm4,hpr⟩ := hrun β aa k r hr
 refine ⟨_,hk,fun w I J vs F hargs hnd hF hJI hI => ?_⟩
 simp only [LArgs,ZJ,RdD] at hargs
 obtain ⟨v,vs1,F1,F2,rfl,rfl,hown,v2,vs2,rfl,⟨-,lb,rfl,hcaps⟩,rfl,rfl⟩ := hargs
 rw [List.append_nil] at hnd hF ⊢
 obtain ⟨a,cap,rfl,hrow⟩ := OwC.row hown
 have hle : xs.length ≤ cap := by
  rcases hrow with ⟨rfl,rfl,_⟩ | ⟨_,_,_,_,_,_,_,_,_,h,_⟩
  ·simp
  ·exact h
 by_cases hn1 : xs.length ≤ 1
 ·have hys : ys = xs := by
   match xs,hn1,hdel with
   | [],_,hdel => unfold compK at hdel; injection hdel with hdel; exact hdel.symm
   | [x],_,hdel =>
    unfold compK at hdel
    obtain ⟨-,hdel⟩ := Zp hdel
    simp only [compR,Option.some.injEq] at hdel
    exact hdel.symm
  subst hys
  refine Calls.mono (raw.1 a _ cap w g lb.toArray hn1 hle) ?_
  rintro ex w' ⟨rfl,hg⟩
  refine ⟨_,F1,rfl,hg.size,hg.os,hg.tape,hg.output,fun b hb _ => hg.same b hb,hnd,fun b hb => ⟨Nat.lt_of_lt_of_le (hF b hb).2 hg.size,fun _ => hb⟩,?_⟩
  exact OwC.mono ⟨⟨fun _ h => h,fun b hb => hg.same b (hI b (hJI b hb))⟩,fun b hb => hg.same b (hF b hb).2⟩ hown
 obtain ⟨x0,xr,hx0⟩ : ∃ x r,xs = x :: r := by
  cases xs with
  | nil => simp at hn1
  | cons x r => exact ⟨x,r,rfl⟩
 obtain ⟨p,hp⟩ : ∃ p : Nat → Bool,∀ j,p j = match j with | 0 => false | j + 1 => match xs[j + 1]?,xs[j]? with | some s,some u => (pr (C.immCells s) (C.immCells u)).getD false | _,_ => false := ⟨_,fun _ => rfl⟩
 have hcr : ∃ zs,compR pr x0 xr = some zs ∧ ys = x0 :: zs ∧ xs.length ≤ 1099511627776 := by
  rw [hx0] at hdel
  unfold compK at hdel
  obtain ⟨hmx,hdel⟩ := Zp hdel
  split at hdel
  ·rename_i zs hz
   injection hdel with hdel
   exact ⟨zs,hz,hdel.symm,by rw [hx0,List.length_cons]; omega⟩
  ·cases hdel
 obtain ⟨zs,hzs,hys,hmx⟩ := hcr
 obtain ⟨hq,hzk⟩ := compR_some (o := 1) hzs p (fun j s u h5 h6 => by
  rw [Nat.add_comm,hp]
  show (match xs[j + 1]?,xs[j]? with | some s,some u => (pr (C.immCells s) (C.immCells u)).getD false | _,_ => false) = _
  rw [hx0,List.getElem?_cons_succ,h5,h6])
 have hyk : ys = ZbS (fun j => !p j) 0 xs := by
  rw [hys,hx0,hzk]
  show _ = bif !p 0 then _ else _
  rw [show p 0 = false from hp 0]; rfl
 rcases hrow with ⟨h1,-,-⟩ | ⟨b,c,e,F',rfl,rfl,hb,hz,hcs,hle',rows⟩
 ·rw [h1] at hn1; simp at hn1
 have hct : (ZQ P ct).length = K := by rw [← hK]; exact hT ct (by omega)
 rw [hK] at rows hcs
 have hbl : b < w.heap.size := (Array.getElem?_eq_some_iff.mp hb).1
 have hbI : ¬ I b := (hF b (by simp)).1
 have hnd2 := List.nodup_cons.mp hnd
 have hFb : ∀ x ∈ F',x ≠ b := fun x hx e => hnd2.1 (e ▸ hx)
 have hcell : ∀ (j : Nat) (hj : j < xs.length) (W : World),Gr b w W → ∀ vs : List Value,vs.length = K → (∀ t u,vs[t]? = some u → c[j * K + t]? = some u) → (xs[j]'hj).length = K ∧ Zi W (fun x => I x ∨ x ∈ F') vs.toArray 0 (C.immCells (xs[j]'hj)) := fun j hj W hW vs hvl hvs => by
  have hsj : xs[j]? = some (xs[j]'hj) := List.getElem?_eq_getElem _
  obtain ⟨Fj,r1,r2⟩ := Ze.nth rows hsj
  rw [Nat.zero_add] at r1
  have hlx : (xs[j]'hj).length = K := by rw [Za.length r1,hct]
  have r3 := Za.move (c' := vs.toArray) (p' := 0) r1 (fun t ht => by
   rw [Nat.zero_add]
   have hvt : vs[t]? = some (vs[t]'(by omega)) := List.getElem?_eq_getElem _
   rw [show vs.toArray[t]? = vs[t]? from by simp,hvt]
   exact (hvs t _ hvt).symm)
  have h4 := Za.imm (J := fun x => I x ∨ x ∈ F') (fun b hb => .inl (hJI b hb)) (fun b hb => .inr (r2 b hb)) hT r3
  have hKp : Keeps w W (fun x => I x ∨ x ∈ F') (fun x => I x ∨ x ∈ F') := ⟨fun _ h => h,fun x hx => hx.elim (fun hx => hW.other x (fun e => hbI (e ▸ hx)) (hI x hx)) (fun hx => hW.other x (hFb x hx) (hF x (by simp [hx])).2)⟩
  exact ⟨hlx,Zi.mono hKp h4⟩
 have hcall := raw.2 b cap xs.length c e w g lb.toArray p hb hcs hle (by omega) (by omega) (hp 0) (fun t ht => by
   have := Ze.cell hct rows t ht
   simpa using this) (enters hc.1) (fun j hj W hW us vs hul hvl hus hvs => by
  have hs1 : xs[j + 1]? = some (xs[j + 1]'hj) := List.getElem?_eq_getElem _
  have hs0 : xs[j]? = some (xs[j]'(by omega)) := List.getElem?_eq_getElem _
  obtain ⟨q,hq1⟩ := hq j (xs[j + 1]'hj) (xs[j]'(by omega)) (by rw [← hs1,hx0,List.getElem?_cons_succ]) (by rw [← hx0]; exact hs0)
  have hpj : p (j + 1) = q := by
   rw [hp]
   show (match xs[j + 1]?,xs[j]? with | some s,some u => (pr (C.immCells s) (C.immCells u)).getD false | _,_ => false) = _
   rw [hs1,hs0]
   show (pr _ _).getD false = q
   rw [hq1]; rfl
  obtain ⟨rs,os,hrs,hcallC⟩ := hc.2.1 _ _ _ _ (hpr _ _ _ hq1)
  injection hrs with hrs
  injection hrs with e1 e2
  subst e1 e2
  obtain ⟨l1,c1⟩ := hcell (j + 1) hj W hW us hul hus
  obtain ⟨l0,c0⟩ := hcell j (by omega) W hW vs hvl hvs
  have hKp : Keeps w W (fun x => I x ∨ x ∈ F') (fun x => I x ∨ x ∈ F') := ⟨fun _ h => h,fun x hx => hx.elim (fun hx => hW.other x (fun e => hbI (e ▸ hx)) (hI x hx)) (fun hx => hW.other x (hFb x hx) (hF x (by simp [hx])).2)⟩
  rw [show (#[Value.agg us.toArray,Value.agg vs.toArray] ++ lb.toArray : Array Value) = (Value.agg us.toArray :: Value.agg vs.toArray :: lb).toArray from by simp]
  refine Calls.mono (quiet hcallC (w := W) (I := fun x => I x ∨ x ∈ F') (vs := .agg us.toArray :: .agg vs.toArray :: lb) (by
   rw [hm4,List.replicate_succ,List.replicate_succ]
   simp only [ZO,ZJ]
   exact ⟨_,_,[],[],rfl,rfl,⟨rfl,us,rfl,by rw [C.immCells_length,l1,hul],c1⟩,_,_,[],[],rfl,rfl,⟨rfl,vs,rfl,by rw [C.immCells_length,l0,hvl],c0⟩,caps_args (Zay.mono hKp (Zay.mono ⟨fun _ h => .inl h,fun _ _ => rfl⟩ hcaps))⟩) (fun x hx => Nat.lt_of_lt_of_le (hx.elim (hI x) (fun hx => (hF x (by simp [hx])).2)) hW.size) tb hr4 hbt (fun v => v = .bool q) (fun _ _ v h => by simpa only [RdD] using h)) ?_
  rintro ex w' ⟨⟨v,rfl,rfl⟩,h⟩
  exact ⟨by rw [hpj],h⟩)
 refine Calls.mono hcall ?_
 rintro ex w' ⟨rfl,hg,c',hb',hsz,hget⟩
 obtain ⟨F2,r5,r6⟩ := Ze.pick (c' := c') (d := 0) hct (fun j => !p j) (o := 0) (xs := xs) (by rw [Nat.zero_mul]; exact rows) (fun m k hk t ht => by
  rw [Nat.zero_add]
  exact hget m k hk t ht)
 rw [Nat.zero_mul] at r5
 rw [hyk]
 have hlen : (cpt p xs.length).length = (ZbS (fun j => !p j) 0 xs).length := by rw [keepL_length]; rfl
 have hF2 : ∀ x ∈ F2,x ∈ F' := fun x hx => r6.subset hx
 refine ⟨_,b :: F2,rfl,hg.size,hg.os,hg.tape,hg.output,fun x hx hxb => hg.other x (fun e => hxb (by simp [e])) hx,?_,fun x hx => ?_,?_⟩
 ·exact List.nodup_cons.mpr ⟨fun q => hnd2.1 (hF2 b q),hnd2.2.sublist r6⟩
 ·have : x ∈ b :: F' := by
   rcases List.mem_cons.mp hx with rfl | hx
   ·simp
   ·simp [hF2 x hx]
  exact ⟨Nat.lt_of_lt_of_le (hF x this).2 hg.size,fun _ => this⟩
 ·simp only [OwC]
  refine ⟨_,cap,by rw [hlen],.inr ⟨b,c',e,F2,rfl,rfl,hb',hz,by rw [hsz,hcs,hK],?_,?_⟩⟩
  ·rw [keepL_length]
   have := List.length_filter_le (fun j => !p j) (List.range' 0 xs.length)
   rw [List.length_range'] at this
   omega
  ·rw [hK]
   refine Ze.mono ⟨⟨fun _ h => h,fun x hx => hg.other x (fun e => hbI (e ▸ hJI x hx)) (hI x (hJI x hx))⟩,fun x hx => hg.other x (fun e => hnd2.1 (e ▸ hF2 x hx)) (hF x (by simp [hF2 x hx])).2⟩ r5
theorem cpt_kpt {p : Nat → Bool} {k0 n : Nat} (h : k0 < n) (h0 : ∀ j,j < k0 → p j = false) (h1 : p k0 = true) : cpt p n = kpt p k0 n := by
 unfold cpt kpt
 rw [show List.range' 0 n = List.range' 0 k0 ++ (k0 :: List.range' (k0 + 1) (n - (k0 + 1))) from by
  rw [← List.range'_succ,show n - (k0 + 1) + 1 = n - k0 from by omega,show List.range' k0 (n - k0) = List.range' (0 + 1 * k0) (n - k0) from by simp,List.range'_append]
  congr 1
  omega,List.filter_append,List.filter_cons,h1,List.range_eq_range']
 simp only [Bool.not_true,Bool.false_eq_true,if_false]
 congr 1
 refine List.filter_eq_self.mpr fun j hj => ?_
 have := List.mem_range'_1.mp hj
 rw [h0 j (by omega)]; rfl
theorem cpt_all {p : Nat → Bool} {n : Nat} (h0 : ∀ j,j < n → p j = false) : cpt p n = List.range' 0 n := by
 unfold cpt
 refine List.filter_eq_self.mpr fun j hj => ?_
 have := List.mem_range'_1.mp hj
 rw [h0 j (by omega)]; rfl
end Go.T
