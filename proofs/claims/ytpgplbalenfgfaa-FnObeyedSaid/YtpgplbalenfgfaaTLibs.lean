/- Library functions that are not read by the evaluator: their contracts,proved by hand. -/
import Derived.Test.YtpgplbalenfgfaaTMark
import Derived.Lib.Bytealg
import Derived.Lib.Walk
import Derived.Tactics2
import Derived.Shelf.RegionOpenPlain
import Derived.WalkKit
import Derived.Deep.RegionLaw
import Derived.Deep.LoopGhost
import Derived.Shelf.Abstract
set_option linter.unusedVariables false
set_option linter.unusedSimpArgs false
namespace Go.T
open Go.Proofs
abbrev LD := List (List D)
abbrev LC := List (List C)
abbrev BA := ByteArray
structure Hold (p : Prop) : Prop where
 out : p
structure Only (b : Nat) (w w' : World) : Prop where
 size : w'.heap.size = w.heap.size
 os : w'.os = w.os
 tape : w'.tape = w.tape
 output : w'.output = w.output
 other : ∀ b',b' ≠ b → w'.heap[b']? = w.heap[b']?
theorem Only.refl (b : Nat) (w : World) : Only b w w := ⟨rfl,rfl,rfl,rfl,fun _ _ => rfl⟩
theorem Only.trans {b : Nat} {w w' w'' : World} (h : Only b w w') (h' : Only b w' w'') : Only b w w'' :=
 ⟨h'.size.trans h.size,h'.os.trans h.os,h'.tape.trans h.tape,h'.output.trans h.output,fun b' hb => (h'.other b' hb).trans (h.other b' hb)⟩
theorem Only.drew (b : Nat) (w : World) : Only b w w.drew := ⟨rfl,rfl,rfl,rfl,fun _ _ => rfl⟩
def putA (c : Array Value) : Nat → List Value → Array Value
 | _,[] => c
 | o,v :: r => putA (c.setIfInBounds o v) (o + 1) r
theorem Zab : ∀ (vs : List Value) (c : Array Value) (o : Nat),(putA c o vs).size = c.size
 | [],_,_ => rfl
 | v :: r,c,o => by rw [putA,Zab r]; simp
theorem Z6 : ∀ (vs : List Value) (c : Array Value) (o t : Nat),o + vs.length ≤ c.size → (putA c o vs)[t]? = if o ≤ t ∧ t < o + vs.length then vs[t - o]? else c[t]?
 | [],c,o,t,_ => by simp [putA]; omega
 | v :: r,c,o,t,h => by
  rw [putA,Z6 r _ _ _ (by simp at h ⊢; omega)]
  simp only [List.length_cons] at h ⊢
  by_cases h1 : o + 1 ≤ t ∧ t < o + 1 + r.length
  ·rw [if_pos h1,if_pos (by omega),show t - o = (t - (o + 1)) + 1 from by omega,List.getElem?_cons_succ]
  ·rw [if_neg h1,Array.getElem?_setIfInBounds]
   by_cases h2 : o = t
   ·subst h2
    rw [if_pos rfl,if_pos (by omega),if_pos (by omega)]
    simp
   ·rw [if_neg h2,if_neg (by omega)]
theorem Zaa {b : Nat} {e : TypeId} {f : Nat × Nat} : ∀ (vs : List Value) {w : World} {c : Array Value} (o : Nat),w.heap[b]? = some (.cells c e f) → (w.setCells b o vs).heap[b]? = some (.cells (putA c o vs) e f) ∧ Only b w (w.setCells b o vs)
 | [],w,c,o,h => ⟨h,Only.refl b w⟩
 | v :: r,w,c,o,h => by
  have h1 : (w.setCell ⟨b,o,none⟩ v).heap[b]? = some (.cells (c.setIfInBounds o v) e f) := by
   simp only [World.setCell]
   rw [Array.getElem?_modify,if_pos rfl,h]
   rfl
  obtain ⟨h2,h3⟩ := Zaa r (o + 1) h1
  refine ⟨h2,Only.trans (w' := w.setCell ⟨b,o,none⟩ v) ⟨by simp [World.setCell],rfl,rfl,rfl,fun b' hb' => ?_⟩ h3⟩
  simp only [World.setCell]
  rw [Array.getElem?_modify,if_neg (fun e => hb' e.symm)]
theorem Zax {w : World} {b : Nat} {c : Array Value} {e : TypeId} (h : w.heap[b]? = some (.cells c e (0,0))) (p : Nat) : w.frozen? ⟨b,p,none⟩ = false := by
 simp [World.frozen?,h]
theorem run_clear_cells {P : Program} {w : World} {t e ty : TypeId} {i : TypeInfo} {z : Value} (ht : P.underlying t = some (.slice e)) (hi : P.info? e = some i) (hz : i.zero = some z) (h1 : ∀ v ∈ z.cells.toList,v.oneCell' = true) {b o n c : Nat} (hn : 0 < n)
  (hc : ∀ j,j < n * z.cells.size → (w.cell? ⟨b,o + j,none⟩).isSome = true) (hf : ∀ j,j < n * z.cells.size → w.frozen? ⟨b,o + j,none⟩ = false) :
  (Builtin.clear_ #[t] ty #[.slice (some ⟨b,o,none⟩) n c]).run P w = .ok (.tuple #[]) (w.setCells b o (Builtin.zeroCells z.cells n).toList) := by
 have hl : (Builtin.zeroCells z.cells n).toList.length = n * z.cells.size := by simp [Zaj]
 have hst := run_storeCells_cells (P := P) b o (Builtin.zeroCells z.cells n).toList 0 w (by rw [hl]; simpa using hc) (by rw [hl]; simpa using hf) (fun v hv => by
  simp only [Builtin.zeroCells,Array.mem_toList_iff,Array.mem_map,Array.mem_range] at hv
  obtain ⟨q,hq,rfl⟩ := hv
  by_cases h0 : z.cells.size = 0
  ·rw [h0] at hq; simp at hq
  ·refine h1 _ ?_
   rw [getElem!_pos z.cells _ (Nat.mod_lt _ (by omega))]
   simp)
 simp only [Nat.add_zero] at hst
 obtain ⟨m,rfl⟩ : ∃ m,n = m + 1 := ⟨n - 1,by omega⟩
 simp [Builtin.clear_,Zg ht,zeroValue,typeInfo,hi,hz,hst]
theorem Za.move {P : Program} {w : World} {I : Nat → Prop} {c c' : Array Value} : ∀ {xs : List C} {cts : List TypeId} {p p' : Nat} {F : List Nat},Za P w I c xs cts p F → (∀ t,t < xs.length → c'[p' + t]? = c[p + t]?) → Za P w I c' xs cts p' F
 | [],_,_,_,_,r,_ => by simpa only [Za] using r
 | x :: xs,cts,p,p',F,r,h => by
  simp only [Za] at r ⊢
  obtain ⟨ct,cts',v,F1,F2,e1,e2,e3,r1,r2⟩ := r
  refine ⟨ct,cts',v,F1,F2,e1,e2,by have := h 0 (by simp); simp only [Nat.add_zero] at this; rw [this]; exact e3,r1,Za.move r2 fun t ht => ?_⟩
  have := h (t + 1) (by simp; omega)
  rwa [show p' + (t + 1) = p' + 1 + t from by omega,show p + (t + 1) = p + 1 + t from by omega] at this
theorem Ze.move {P : Program} {w : World} {I : Nat → Prop} {c c' : Array Value} {cts : List TypeId} {sz : Nat} (hs : cts.length = sz) : ∀ {xs : List (List C)} {p p' : Nat} {F : List Nat},Ze P w I c cts sz xs p F → (∀ t,t < xs.length * sz → c'[p' + t]? = c[p + t]?) → Ze P w I c' cts sz xs p' F
 | [],_,_,_,r,_ => by simpa only [Ze] using r
 | x :: xs,p,p',F,r,h => by
  simp only [Ze] at r ⊢
  obtain ⟨F1,F2,e,r1,r2⟩ := r
  have hl : x.length = sz := by rw [Za.length r1,hs]
  refine ⟨F1,F2,e,Za.move r1 fun t ht => h t (by simp only [List.length_cons,Nat.add_mul,Nat.one_mul]; omega),Ze.move hs r2 fun t ht => ?_⟩
  have := h (sz + t) (by simp only [List.length_cons,Nat.add_mul,Nat.one_mul]; omega)
  rwa [← Nat.add_assoc,← Nat.add_assoc] at this
structure Gr (b : Nat) (w w' : World) : Prop where
 size : w.heap.size ≤ w'.heap.size
 os : w'.os = w.os
 tape : w'.tape = w.tape
 output : w'.output = w.output
 other : ∀ b',b' ≠ b → b' < w.heap.size → w'.heap[b']? = w.heap[b']?
theorem Gr.refl (b : Nat) (w : World) : Gr b w w := ⟨Nat.le_refl _,rfl,rfl,rfl,fun _ _ _ => rfl⟩
theorem Gr.trans {b : Nat} {w w' w'' : World} (h : Gr b w w') (h' : Gr b w' w'') : Gr b w w'' :=
 ⟨Nat.le_trans h.size h'.size,h'.os.trans h.os,h'.tape.trans h.tape,h'.output.trans h.output,fun b' hb hl => (h'.other b' hb (Nat.lt_of_lt_of_le hl h.size)).trans (h.other b' hb hl)⟩
theorem Only.gr {b : Nat} {w w' : World} (h : Only b w w') : Gr b w w' := ⟨Nat.le_of_eq h.size.symm,h.os,h.tape,h.output,fun b' hb _ => h.other b' hb⟩
structure Gs (w w' : World) : Prop where
 size : w.heap.size ≤ w'.heap.size
 os : w'.os = w.os
 tape : w'.tape = w.tape
 output : w'.output = w.output
 same : ∀ b',b' < w.heap.size → w'.heap[b']? = w.heap[b']?
theorem Gs.gr {w w' : World} (b : Nat) (h : Gs w w') : Gr b w w' := ⟨h.size,h.os,h.tape,h.output,fun b' _ hl => h.same b' hl⟩
def kpt (p : Nat → Bool) (k0 n : Nat) : List Nat := (List.range k0) ++ ((List.range' (k0 + 1) (n - (k0 + 1))).filter fun j => !p j)
theorem kpt_keep {p : Nat → Bool} {k0 j : Nat} (h : k0 < j) (hp : p j = false) : kpt p k0 (j + 1) = kpt p k0 j ++ [j] := by
 unfold kpt
 rw [show j + 1 - (k0 + 1) = (j - (k0 + 1)) + 1 from by omega,List.range'_concat,List.filter_append,← List.append_assoc]
 congr 1
 rw [show k0 + 1 + 1 * (j - (k0 + 1)) = j from by omega]
 simp [hp]
theorem kpt_skip {p : Nat → Bool} {k0 j : Nat} (h : k0 < j) (hp : p j = true) : kpt p k0 (j + 1) = kpt p k0 j := by
 unfold kpt
 rw [show j + 1 - (k0 + 1) = (j - (k0 + 1)) + 1 from by omega,List.range'_concat,List.filter_append]
 rw [show k0 + 1 + 1 * (j - (k0 + 1)) = j from by omega]
 simp [hp]
theorem kpt_le {p : Nat → Bool} {k0 j : Nat} (h : k0 < j) : (kpt p k0 j).length < j ∧ k0 ≤ (kpt p k0 j).length := by
 unfold kpt
 have := List.length_filter_le (fun j => !p j) (List.range' (k0 + 1) (j - (k0 + 1)))
 rw [List.length_range'] at this
 rw [List.length_append,List.length_range]
 omega
structure DfI (b k0 : Nat) (c : Array Value) (e : TypeId) (p : Nat → Bool) (w wr : World) (i j : Nat) (ck : Array Value) : Prop where
 lt : k0 < j
 gr : Gr b w wr
 at_ : wr.heap[b]? = some (.cells ck e (0,0))
 size : ck.size = c.size
 len : (kpt p k0 j).length = i
 high : ∀ t,j ≤ t → ck[t]? = c[t]?
 low : ∀ m k : Nat,(kpt p k0 j)[m]? = some k → ck[m]? = c[k]?
theorem caps_args {P : Program} {w : World} {I Q : Nat → Prop} : ∀ {caps : List (List D)} {vs : List Value},Zay w I caps vs → ZO P w I Q (caps.map A.ip) (List.replicate caps.length (.imm,0)) vs []
 | [],vs,h => by simpa [Zay,ZO] using h
 | x :: xs,vs,h => by
  simp only [Zay] at h
  obtain ⟨b,off,c,e,fr,vs',rfl,h1,h2,h3,h4⟩ := h
  simp only [List.map_cons,List.length_cons,List.replicate_succ,ZO]
  exact ⟨_,_,[],[],rfl,rfl,⟨rfl,b,off,c,e,fr,rfl,h1,h2,h3⟩,caps_args h4⟩
theorem enters {P : Program} {g : Nat} (he : Zbo P g = true) (aa : Array Value) (w : World) : (callFunc g aa).run P w = .ok (.enter g aa) w := by
 unfold Zbo at he
 split at he
 ·rename_i fn hfn
  simp only [Bool.and_eq_true,bne_iff_ne,ne_eq] at he
  obtain ⟨h1,h2⟩ := he
  unfold callFunc
  show (Sem.bind program _).run P w = _
  rw [Zm]
  show (match P.funcs[g]? with | none => _ | some fn => _ : Sem Next).run P w = _
  rw [hfn]
  have h3 : fn.body.isNone = false := by simpa using h2
  simp only [beq_iff_eq,h1,if_false,h3,Bool.false_eq_true]
  rfl
 ·cases he
theorem quiet {P : Program} {f : Nat} {e : Zj} {aa : List A} {d : D} (h : CallsOK P f e aa [[.d d]] []) {w : World} {I : Nat → Prop} {vs : List Value} (ha : ZO P w I (fun _ => True) aa e.modes vs []) (hI : ∀ b,I b → b < w.heap.size) (t : TypeId) (ht : e.rts = [t]) (hagg : (ZU P t || Zb5 P t) = false) (Q : Value → Prop) (hQ : ∀ w I v,RdD w I d v → Q v) :
  Calls P f vs.toArray w fun ex w' => (∃ v,ex = .returned v ∧ Q v) ∧ Gs w w' := by
 obtain ⟨hagg,hp⟩ := Bool.or_eq_false_iff.mp hagg
 refine Calls.mono (h w I (fun _ => True) vs [] ha List.nodup_nil (by simp) hI) ?_
 rintro ex w' ⟨v,vs',I',Fr,Fo,rfl,hv,h1,h2,h3,h4,h5,-,-,-,-,-,hr,-⟩
 refine ⟨⟨v,rfl,?_⟩,h1,h2,h3,h4,fun b hb => h5 b hb (by simp)⟩
 rw [ht] at hr
 simp only [ZaO] at hr
 obtain ⟨v',vs'',F1,F2,rfl,-,⟨-,cells,rfl,-,hc⟩ | ⟨hp',-⟩,rfl,-⟩ := hr
 rotate_left
 ·rw [hp] at hp'; cases hp'
 subst hv
 rw [hagg]
 simp only [Za,OwC] at hc
 obtain ⟨ct,cts',u,F3,F4,-,-,hu,⟨-,hd⟩,-⟩ := hc
 have : cells.getD 0 undef = u := by rw [Array.getD_eq_getD_getElem?,hu]; rfl
 show Q (cells.getD 0 undef)
 rw [this]
 exact hQ _ _ _ hd
structure DfK (K b k0 : Nat) (c : Array Value) (e : TypeId) (p : Nat → Bool) (w wr : World) (i j : Nat) (ck : Array Value) : Prop where
 lt : k0 < j
 gr : Gr b w wr
 at_ : wr.heap[b]? = some (.cells ck e (0,0))
 size : ck.size = c.size
 len : (kpt p k0 j).length = i
 high : ∀ t,j * K ≤ t → ck[t]? = c[t]?
 low : ∀ m k : Nat,(kpt p k0 j)[m]? = some k → ∀ t,t < K → ck[m * K + t]? = c[k * K + t]?
theorem gs_alloc (w : World) (o : Go.Obj) : Gs w (w.alloc o) := ⟨by show w.heap.size ≤ (w.heap.push o).size; rw [Array.size_push]; omega,rfl,rfl,rfl,fun b' hb' => by
 show (w.heap.push o)[b']? = w.heap[b']?
 rw [Array.getElem?_push_lt hb',Array.getElem?_eq_getElem hb']⟩
theorem alloc_at (w : World) (o : Go.Obj) : (w.alloc o).heap[w.heap.size]? = some o := by
 show (w.heap.push o)[w.heap.size]? = some o
 simp
def ZbS {α : Type} (q : Nat → Bool) : Nat → List α → List α
 | _,[] => []
 | o,x :: xs => bif q o then x :: ZbS q (o + 1) xs else ZbS q (o + 1) xs
theorem keepL_length {α : Type} (q : Nat → Bool) : ∀ (o : Nat) (xs : List α),(ZbS q o xs).length = ((List.range' o xs.length).filter q).length
 | _,[] => rfl
 | o,x :: xs => by
  rw [List.length_cons,List.range'_succ,List.filter_cons]
  unfold ZbS
  cases q o
  ·exact keepL_length q (o + 1) xs
  ·show (x :: ZbS q (o + 1) xs).length = _
   rw [List.length_cons,keepL_length q (o + 1) xs]
   rfl
theorem Ze.pick {P : Program} {w : World} {I : Nat → Prop} {c c' : Array Value} {cts : List TypeId} {sz : Nat} (hs : cts.length = sz) (q : Nat → Bool) : ∀ {xs : List (List C)} {o d : Nat} {F : List Nat},Ze P w I c cts sz xs (o * sz) F →
  (∀ m k : Nat,((List.range' o xs.length).filter q)[m]? = some k → ∀ t,t < sz → c'[(d + m) * sz + t]? = c[k * sz + t]?) → ∃ F',Ze P w I c' cts sz (ZbS q o xs) (d * sz) F' ∧ F'.Sublist F
 | [],o,d,F,r,h => by
  simp only [Ze] at r
  subst r
  exact ⟨[],by simp [ZbS,Ze],List.Sublist.refl _⟩
 | x :: xs,o,d,F,r,h => by
  simp only [Ze] at r
  obtain ⟨F1,F2,rfl,r1,r2⟩ := r
  have hl : x.length = sz := by rw [Za.length r1,hs]
  rw [show o * sz + sz = (o + 1) * sz from by rw [Nat.succ_mul]] at r2
  rw [List.length_cons,List.range'_succ,List.filter_cons] at h
  unfold ZbS
  cases hq : q o with
  | false =>
   rw [hq] at h
   obtain ⟨F',h1,h2⟩ := Ze.pick hs q (d := d) r2 h
   exact ⟨F',h1,h2.trans (List.sublist_append_right _ _)⟩
  | true =>
   rw [hq] at h
   obtain ⟨F',h1,h2⟩ := Ze.pick hs q (d := d + 1) r2 (fun m k hk t ht => by
    have := h (m + 1) k (by simpa using hk) t ht
    rwa [show d + (m + 1) = d + 1 + m from by omega] at this)
   refine ⟨F1 ++ F',?_,List.Sublist.append (List.Sublist.refl _) h2⟩
   simp only [cond_true,Ze]
   refine ⟨F1,F',rfl,Za.move r1 fun t ht => ?_,by rw [show d * sz + sz = (d + 1) * sz from by rw [Nat.succ_mul]]; exact h1⟩
   exact h 0 o rfl t (by omega)
theorem Ze.nth {P : Program} {w : World} {I : Nat → Prop} {c : Array Value} {cts : List TypeId} {sz : Nat} : ∀ {xs : List (List C)} {p : Nat} {F : List Nat},Ze P w I c cts sz xs p F → ∀ {j : Nat} {x : List C},xs[j]? = some x → ∃ F',Za P w I c x cts (p + j * sz) F' ∧ ∀ b ∈ F',b ∈ F
 | [],_,_,_,j,x,h => by cases h
 | y :: xs,p,F,r,j,x,h => by
  simp only [Ze] at r
  obtain ⟨F1,F2,rfl,r1,r2⟩ := r
  cases j with
  | zero =>
   simp at h
   subst h
   exact ⟨F1,by simpa using r1,fun b hb => by simp [hb]⟩
  | succ j =>
   obtain ⟨F',h1,h2⟩ := Ze.nth r2 (j := j) (by simpa using h)
   exact ⟨F',by rw [show p + (j + 1) * sz = p + sz + j * sz from by rw [Nat.succ_mul]; omega]; exact h1,fun b hb => by simp [h2 b hb]⟩
def delR (pr : List D → Option Bool) : List (List C) → Option (List (List C))
 | [] => some []
 | s :: r => match pr (C.immCells s),delR pr r with
  | some true,some ys => some ys
  | some false,some ys => some (s :: ys)
  | _,_ => none
def delK (ix : List (List D) → Option Int) (pr : List D → Option Bool) (xs : List (List C)) : Option (List (List C)) :=
 match ix (C.immRows xs) with
 | none => none
 | some z => if z = -1 then some xs else Zd (0 ≤ z ∧ z < (xs.length : Int) ∧ xs.length ≤ 1099511627776) (match delR pr (xs.drop (z.toNat + 1)) with
  | none => none
  | some ys => some (xs.take z.toNat ++ ys))
end Go.T
