/- Calls: what is lent, in memory, and what comes back. -/
import Derived.Test.YtpgplbalenfgfaaTCall1
set_option linter.unusedVariables false
set_option linter.unusedSimpArgs false
namespace Go.T
theorem Zl.ofCells {X : Fix} {w : World} {g : G} {I : Nat → Prop} {fr : Bool} (hI : ∀ b, I b → g.IM X fr b) : ∀ {xs : List D} {cs : List Value} {c : Array Value} {p : Nat}, cs.length = xs.length → (∀ (j : Nat) (v : Value), cs[j]? = some v → c[p + j]? = some v) → Zr w I c p xs → Zl X w g (xs.map (.d fr)) cs
 | [], [], c, p, _, _, _ => by simp [Zl]
 | [], _ :: _, _, _, h, _, _ => by simp at h
 | _ :: _, [], _, _, h, _, _ => by simp at h
 | x :: xs, v :: cs, c, p, hl, hc, r => by
  simp only [Zr] at r
  obtain ⟨⟨u, hu, ru⟩, r2⟩ := r
  have := hc 0 v (by simp)
  rw [Nat.add_zero, hu] at this
  injection this with this
  subst this
  simp only [List.map_cons, Zl]
  refine ⟨u, cs, rfl, rfl, by simp only [Zd]; exact RdD.weaken hI ru, Zl.ofCells hI (c := c) (p := p + 1) (by simpa using hl) (fun j z hz => ?_) r2⟩
  have := hc (j + 1) z (by simpa using hz)
  rwa [show p + (j + 1) = p + 1 + j from by omega] at this
structure Ln where
 id : Nat
 kept : List Nat
 f : List Nat
structure Bk where
 id : Nat
 ob : Obj
 fp : List Nat
 kept : List Nat
 fo : List Nat
def BkOk (P : Program) (fa : Bool) (st : St) (g : G) (w' : World) (I' : Nat → Prop) (y : Bk) : Prop :=
 y.fp.Perm (y.kept ++ y.fo) ∧ ((∃ og ct xs fr ys fr', y.ob = .row og fr' ct xs ∧ (fr' = true → fa = true ∧ flatC xs = true) ∧ st.ob[y.id]? = some (.row og fr ct ys) ∧ OwC P w' I' (.own xs) ct (g.hv y.id) y.fp) ∨
  (y.ob = .gone ∧ y.fp = [] ∧ ∃ og fr ct ys, st.ob[y.id]? = some (.row og fr ct ys)) ∨
  ∃ og t cs ds b c e, y.ob = .box og t (ds.map (.d false)) ∧ st.ob[y.id]? = some (.box og t cs) ∧ g.hv y.id = .pointer (some ⟨b, 0, none⟩) ∧ y.fp = [b] ∧ w'.heap[b]? = some (.cells c e (0, 0)) ∧ c.size = ds.length ∧ Zr w' I' c 0 ds)
def bkChg (l : List Bk) : List (Nat × Obj) := l.map fun y => (y.id, y.ob)
def ArgT (X : Fix) (w : World) (g : G) (J : Nat → Prop) (t : T) (v : Value) : Prop := Zd X w g t v ∨ ∃ fr cs, t = .ip fr cs ∧ PtrRd w J cs v
def Zao (X : Fix) (w : World) (g : G) (J : Nat → Prop) : List T → List Value → Prop
 | [], vs => vs = []
 | t :: ts, vs => ∃ v vs', vs = v :: vs' ∧ ArgT X w g J t v ∧ Zao X w g J ts vs'
section
variable {P : Program} {X : Fix} {w : World} {g : G} {stL st : St} {a : Act} {s : Bool} {J : Nat → Prop}
theorem ZbR {t : T} {ts : List T} (h : Z8 g stL st (Zz (t :: ts))) : Z8 g stL st (Zz [t]) ∧ Z8 g stL st (Zz ts) :=
 ⟨h.sub fun id hid => by
   simp only [Zz, List.flatMap_cons, List.mem_append] at hid ⊢
   exact .inl (by simpa using hid),
  h.sub fun id hid => by
   simp only [Zz, List.flatMap_cons, List.mem_append] at hid ⊢
   exact .inr hid⟩
theorem Zby.sound (hr : Rel P X w g stL a) {c : Array Value} {cts : List TypeId} {ts : List T} {cs : List C} {mv : List Nat} (h : Zby st cts ts cs mv) : ∀ {vs : List Value} {p : Nat}, Z8 g stL st (Zz ts) → Zl X w g ts vs → (∀ (j : Nat) (v : Value), vs[j]? = some v → c[p + j]? = some v) →
  Ze P w g.I c cs cts p (mv.flatMap g.fp) ∧ (∀ id ∈ mv, g.B id) ∧ cs.length = ts.length := by
 induction h with
 | nil => intro vs p hs r hc; simp [Ze]
 | @row ct cts id og fr xs ts cs mv h r ih =>
  intro vs p hs rs hc
  simp only [Zl] at rs
  obtain ⟨v, vs', rfl, _, r1, r2⟩ := rs
  obtain ⟨hs1, hs2⟩ := ZbR hs
  obtain ⟨_, hB, ⟨row, _⟩, _⟩ := hs1.obj hr (by simp [Zz]) h
  obtain ⟨i1, i2, i3⟩ := ih (p := p + 1) hs2 r2 (fun j u hu => by
   have := hc (j + 1) u (by simpa using hu)
   rwa [show p + 1 + j = p + (j + 1) from by omega])
  simp only [Zd] at r1
  refine ⟨?_, fun i hi => ?_, by simp [i3]⟩
  ·simp only [Ze]
   exact ⟨ct, cts, v, g.fp id, mv.flatMap g.fp, rfl, by simp, by simpa using hc 0 v (by simp), by rw [r1.2]; exact OwC.weaken (fun b hb => hb.1) row, i1⟩
  ·rcases List.mem_cons.mp hi with rfl | hi
   ·exact hB
   ·exact i2 i hi
 | @none ct cts ts cs mv r ih =>
  intro vs p hs rs hc
  simp only [Zl] at rs
  obtain ⟨v, vs', rfl, _, r1, r2⟩ := rs
  obtain ⟨hs1, hs2⟩ := ZbR hs
  obtain ⟨i1, i2, i3⟩ := ih (p := p + 1) hs2 r2 (fun j u hu => by
   have := hc (j + 1) u (by simpa using hu)
   rwa [show p + 1 + j = p + (j + 1) from by omega])
  simp only [Zd] at r1
  obtain ⟨ad, rfl⟩ := r1
  refine ⟨?_, i2, by simp [i3]⟩
  simp only [Ze]
  exact ⟨ct, cts, .slice ad 0 0, [], mv.flatMap g.fp, rfl, by simp, by simpa using hc 0 (.slice ad 0 0) (by simp), by simp [OwC], i1⟩
 | @dat ct cts f x ts cs mv r ih =>
  intro vs p hs rs hc
  simp only [Zl] at rs
  obtain ⟨v, vs', rfl, _, r1, r2⟩ := rs
  obtain ⟨hs1, hs2⟩ := ZbR hs
  obtain ⟨i1, i2, i3⟩ := ih (p := p + 1) hs2 r2 (fun j u hu => by
   have := hc (j + 1) u (by simpa using hu)
   rwa [show p + 1 + j = p + (j + 1) from by omega])
  simp only [Zd] at r1
  refine ⟨?_, i2, by simp [i3]⟩
  simp only [Ze]
  exact ⟨ct, cts, v, [], mv.flatMap g.fp, rfl, by simp, by simpa using hc 0 _ (by simp), by simp only [OwC]; exact ⟨trivial, RdD.weaken (fun b hb => hb.1) r1⟩, i1⟩
theorem Zby.outs {fa : Bool} {β : Type} (hr : Rel P X w g stL a) {c : Array Value} {w' : World} {I' : Nat → Prop} {r : β} {k : St → Option β} {cts : List TypeId} {ts : List T} {cs : List C} {mv : List Nat} (h : Zby st cts ts cs mv) : ∀ {vs : List Value} {p : Nat} {cs' : List C} {Fo : List Nat} {st2 : St}, Z8 g stL st (Zz ts) → Zl X w g ts vs → (∀ (j : Nat) (v : Value), vs[j]? = some v → c[p + j]? = some v) →
  Ze P w' I' c cs' cts p Fo → Z0 st st2 ts cs' k = some r →
  ∃ back : List Bk, back.map (·.id) = mv ∧ (∀ y ∈ back, y.kept = [] ∧ BkOk P fa st g w' I' y) ∧ k (st2.sets (bkChg back)) = some r ∧ (back.flatMap (·.fo)).Sublist Fo := by
 induction h with
 | nil =>
  intro vs p cs' Fo st2 hs rs hc ho h
  cases cs' with
  | cons _ _ => simp [Z0] at h
  | nil =>
   simp only [Z0] at h
   exact ⟨[], rfl, by simp, by simpa [bkChg, St.sets_nil] using h, by simp⟩
 | @row ct cts id og fr xs ts cs mv h r ih =>
  intro vs p cs' Fo st2 hs rs hc ho hb
  cases cs' with
  | nil => simp [Z0] at hb
  | cons x cs' =>
   simp only [Zl] at rs
   obtain ⟨v, vs', rfl, _, r1, r2⟩ := rs
   obtain ⟨hs1, hs2⟩ := ZbR hs
   simp only [Z0, h] at hb
   obtain ⟨zs, rfl, hb⟩ := Zct hb
   obtain ⟨_, hb⟩ := ZD hb
   simp only [Ze] at ho
   obtain ⟨ct', cts', v', F1, F2, e1, rfl, hv', o1, o2⟩ := ho
   injection e1 with e1 e2
   subst e1 e2
   have hv := hc 0 v (by simp)
   rw [Nat.add_zero, hv'] at hv
   injection hv with hv
   subst hv
   simp only [Zd] at r1
   obtain ⟨back, b1, b2, b3, b4⟩ := ih (p := p + 1) hs2 r2 (fun j u hu => by
    have := hc (j + 1) u (by simpa using hu)
    rwa [show p + 1 + j = p + (j + 1) from by omega]) o2 hb
   refine ⟨⟨id, .row og false ct zs, F1, [], F1⟩ :: back, by simp [b1], fun y hy => ?_, by simpa [bkChg, St.sets_cons] using b3, by simpa using b4⟩
   rcases List.mem_cons.mp hy with rfl | hy
   ·exact ⟨rfl, List.Perm.refl _, .inl ⟨og, ct, zs, fr, xs, false, rfl, by simp, h, by rw [← r1.2]; exact o1⟩⟩
   ·exact b2 y hy
 | @none ct cts ts cs mv r ih =>
  intro vs p cs' Fo st2 hs rs hc ho hb
  cases cs' with
  | nil => simp [Z0] at hb
  | cons x cs' =>
   simp only [Zl] at rs
   obtain ⟨v, vs', rfl, _, r1, r2⟩ := rs
   obtain ⟨hs1, hs2⟩ := ZbR hs
   simp only [Z0] at hb
   simp only [Ze] at ho
   obtain ⟨ct', cts', v', F1, F2, e1, rfl, hv', o1, o2⟩ := ho
   injection e1 with e1 e2
   subst e1 e2
   obtain ⟨back, b1, b2, b3, b4⟩ := ih (p := p + 1) hs2 r2 (fun j u hu => by
    have := hc (j + 1) u (by simpa using hu)
    rwa [show p + 1 + j = p + (j + 1) from by omega]) o2 hb
   exact ⟨back, b1, b2, b3, b4.trans (List.sublist_append_right _ _)⟩
 | @dat ct cts f x ts cs mv r ih =>
  intro vs p cs' Fo st2 hs rs hc ho hb
  cases cs' with
  | nil => simp [Z0] at hb
  | cons x cs' =>
   simp only [Zl] at rs
   obtain ⟨v, vs', rfl, _, r1, r2⟩ := rs
   obtain ⟨hs1, hs2⟩ := ZbR hs
   simp only [Z0] at hb
   simp only [Ze] at ho
   obtain ⟨ct', cts', v', F1, F2, e1, rfl, hv', o1, o2⟩ := ho
   injection e1 with e1 e2
   subst e1 e2
   obtain ⟨back, b1, b2, b3, b4⟩ := ih (p := p + 1) hs2 r2 (fun j u hu => by
    have := hc (j + 1) u (by simpa using hu)
    rwa [show p + 1 + j = p + (j + 1) from by omega]) o2 hb
   exact ⟨back, b1, b2, b3, b4.trans (List.sublist_append_right _ _)⟩
def Backs (P : Program) (fa : Bool) (st : St) (g : G) (w w' : World) (I' : Nat → Prop) (Fs : List Ln) (as : List A) (ms : List (Mode × TypeId)) (ts : List T) (vs : List Value) : Prop :=
 ∀ (os : List Out) (Fo : List Nat), ZP P w' I' as ms vs os Fo → (∀ b, g.I b → I' b ∧ w'.heap[b]? = w.heap[b]?) → (∀ x ∈ Fs, ∀ b ∈ x.kept, w'.heap[b]? = w.heap[b]?) →
  ∀ {β : Type} (st2 : St) (k : St → Option β) (r : β), ZL P fa st st2 ms ts os k = some r →
   ∃ back : List Bk, back.map (fun y => (y.id, y.kept)) = Fs.map (fun x => (x.id, x.kept)) ∧ (∀ y ∈ back, BkOk P fa st g w' I' y) ∧ k (st2.sets (bkChg back)) = some r ∧ (back.flatMap (·.fo)).Sublist Fo
theorem ArgT.rel {t : T} {v : Value} (h : ArgT X w g J t v) (hn : ∀ fr cs, t ≠ .ip fr cs) : Zd X w g t v := by
 rcases h with h | ⟨fr, cs, h, _⟩
 ·exact h
 ·exact absurd h (hn fr cs)
theorem datCs_map : ∀ ds : List D, datCs (ds.map .d) = some ds
 | [] => rfl
 | x :: ds => by simp only [List.map_cons, datCs, datCs_map ds]
theorem datTs_rd {c : Array Value} : ∀ {ts : List T} {ds : List D} {vs : List Value} {p : Nat}, datTs ts = some ds → Zl X w g ts vs → (∀ (j : Nat) (v : Value), vs[j]? = some v → c[p + j]? = some v) → Zr w g.I c p ds ∧ ds.length = ts.length
 | [], ds, vs, p, h, r, hc => by
  simp only [datTs] at h
  injection h with h; subst h
  exact ⟨by simp only [Zr], rfl⟩
 | t :: ts, ds, vs, p, h, r, hc => by
  cases t <;> simp only [datTs] at h <;> try (cases h; done)
  rename_i fr x
  split at h
  case h_2 => cases h
  rename_i ds' hd
  injection h with h; subst h
  simp only [Zl] at r
  obtain ⟨v, vs', rfl, _, r1, r2⟩ := r
  obtain ⟨i1, i2⟩ := datTs_rd (p := p + 1) hd r2 (fun j u hu => by
   have := hc (j + 1) u (by simpa using hu)
   rwa [show p + 1 + j = p + (j + 1) from by omega])
  simp only [Zd] at r1
  refine ⟨?_, by simp [i2]⟩
  simp only [Zr]
  exact ⟨⟨v, by simpa using hc 0 v (by simp), RdD.weaken (fun b hb => hb.1) r1⟩, i1⟩
theorem Lent.sound {fa : Bool} (hT : ZaI P) (hr : Rel P X w g stL a) (hJ : JOk g s J) {ms : List (Mode × TypeId)} {ts : List T} {as : List A} {mv : List Nat} (h : Lent P s st ms ts as mv) : ∀ {vs : List Value}, (∀ t ∈ ts, Z8 g stL st (ZG st t)) → Zao X w g J ts vs →
  ∃ Fs : List Ln, Fs.map (·.id) = mv ∧ ZU P w J as ms vs (Fs.flatMap (·.f)) ∧ (∀ x ∈ Fs, g.B x.id ∧ (g.fp x.id).Perm (x.kept ++ x.f)) ∧ ∀ (w' : World) (I' : Nat → Prop), Backs P fa st g w w' I' Fs as ms ts vs := by
 induction h with
 | done =>
  intro vs hs r
  simp only [Zao] at r
  subst r
  refine ⟨[], rfl, by simp [ZU], by simp, fun w' I' os Fo ho hi hk β st2 k r h => ?_⟩
  simp only [ZP] at ho
  obtain ⟨rfl, rfl⟩ := ho
  simp only [ZL] at h
  exact ⟨[], rfl, by simp, by simpa [bkChg, St.sets_nil] using h, by simp⟩
 | @imm ct ms t ts x as mv h r ih =>
  intro vs hs rs
  simp only [Zao] at rs
  obtain ⟨v, vs', rfl, r1, r2⟩ := rs
  obtain ⟨Fs, a1, a2, a3, a4⟩ := ih (fun t ht => hs t (by simp [ht])) r2
  have hx : ZT P w J x (.imm, ct) v [] := by
   rcases r1 with r1 | ⟨fr, cs, rfl, b, off, c, e, f, rfl, q1, q2, q3⟩
   ·exact argD_J hT hr hJ h (hs t (by simp)) r1
   ·simp only [argD] at h
    injection h with h; subst h
    simp only [ZT]
    exact ⟨trivial, b, off, c, e, f, rfl, q1, q2, q3⟩
  refine ⟨Fs, a1, ?_, a3, fun w' I' os Fo ho hi hk β st2 k r h => ?_⟩
  ·simp only [ZU]
   exact ⟨v, vs', [], _, rfl, by simp, hx, a2⟩
  ·have ho' : ZP P w' I' as ms vs' os Fo := by
    cases x with
    | own g' cs' => simp only [ZT] at hx
    | box cs' => simp only [ZT] at hx
    | _ => simpa only [ZP] using ho
   have h' : ZL P fa st st2 ms ts os k = some r := by simpa only [ZL] using h
   exact a4 w' I' os Fo ho' hi hk st2 k r h'
 | @immSub ct ms id i off og fr rt xs c x rest ys ts as mv hsf h hc hd hy r ih =>
  intro vs hs rs
  simp only [Zao] at rs
  obtain ⟨v, vs', rfl, r1, r2⟩ := rs
  obtain ⟨Fs, a1, a2, a3, a4⟩ := ih (fun t ht => hs t (by simp [ht])) r2
  have r1 := r1.rel (by simp)
  have hS : Z8 g stL st [id] := hs (.sub id i off) (by simp)
  have hB : g.B id := (hS id (by simp) (by rw [h]; rfl)).2
  obtain ⟨ct', F', ow, _, hF⟩ := sub_cell hr hS h hc hd r1
  have hx : ZT P w J (.d (.sl ys)) (.imm, ct) v [] := by
   simp only [ZT]
   refine ⟨trivial, ?_⟩
   have := OwC.imm (J := J) (fun b hb => hJ.imp b hb.1) (fun b hb => hJ.all hsf id hB b (hF b hb)) hT ow
   rwa [hy] at this
  refine ⟨Fs, a1, ?_, a3, fun w' I' os Fo ho hi hk β st2 k r h => ?_⟩
  ·simp only [ZU]
   exact ⟨v, vs', [], _, rfl, by simp, hx, a2⟩
  ·have ho' : ZP P w' I' as ms vs' os Fo := by simpa only [ZP] using ho
   have h' : ZL P fa st st2 ms ts os k = some r := by simpa only [ZL] using h
   exact a4 w' I' os Fo ho' hi hk st2 k r h'
 | @nil ct ms ts as mv r ih =>
  intro vs hs rs
  simp only [Zao] at rs
  obtain ⟨v, vs', rfl, r1, r2⟩ := rs
  obtain ⟨Fs, a1, a2, a3, a4⟩ := ih (fun t ht => hs t (by simp [ht])) r2
  have r1 := r1.rel (by simp)
  simp only [Zd] at r1
  refine ⟨Fs, a1, ?_, a3, fun w' I' os Fo ho hi hk β st2 k r h => ?_⟩
  ·simp only [ZU]
   exact ⟨v, vs', [], _, rfl, by simp, by simp only [ZT]; exact ⟨trivial, r1⟩, a2⟩
  ·have ho' : ZP P w' I' as ms vs' os Fo := by simpa only [ZP] using ho
   have h' : ZL P fa st st2 ms ts os k = some r := by simpa only [ZL] using h
   exact a4 w' I' os Fo ho' hi hk st2 k r h'
 | @row ct ms id og fr xs ts as mv h r ih =>
  intro vs hs rs
  simp only [Zao] at rs
  obtain ⟨v, vs', rfl, r1, r2⟩ := rs
  obtain ⟨Fs, a1, a2, a3, a4⟩ := ih (fun t ht => hs t (by simp [ht])) r2
  have r1 := r1.rel (by simp)
  have hS : Z8 g stL st [id] := hs (.row id) (by simp)
  obtain ⟨_, hB, ⟨row, _⟩, _⟩ := hS.obj hr (by simp) h
  simp only [Zd] at r1
  refine ⟨⟨id, [], g.fp id⟩ :: Fs, by simp [a1], ?_, fun x hx => ?_, fun w' I' os Fo ho hi hk β st2 k r hd => ?_⟩
  ·simp only [ZU]
   refine ⟨v, vs', g.fp id, _, rfl, by simp, ?_, a2⟩
   simp only [ZT, Ze]
   exact ⟨ct, [], v, g.fp id, [], rfl, by simp, by simp, by rw [r1.2]; exact OwC.weaken (fun b hb => hJ.imp b hb.1) row, by simp⟩
  ·rcases List.mem_cons.mp hx with rfl | hx
   ·exact ⟨hB, List.Perm.refl _⟩
   ·exact a3 x hx
  ·simp only [ZP] at ho
   rcases ho with ⟨os', rfl, o2⟩ | ⟨cs', os', F1, F2, rfl, rfl, hl, o1, o2⟩
   ·simp only [ZL] at hd
    obtain ⟨back, b1, b2, b3, b4⟩ := a4 w' I' os' Fo o2 hi (fun x hx => hk x (by simp [hx])) _ k _ hd
    refine ⟨⟨id, .gone, [], [], []⟩ :: back, by simp [b1], fun y hy => ?_, by simpa [bkChg, St.sets_cons] using b3, by simpa using b4⟩
    rcases List.mem_cons.mp hy with rfl | hy
    ·exact ⟨List.Perm.refl _, .inr (.inl ⟨rfl, rfl, og, fr, ct, xs, h⟩)⟩
    ·exact b2 y hy
   obtain ⟨z, rfl⟩ : ∃ z, cs' = [z] := by
    match cs', hl with
    | [z], _ => exact ⟨z, rfl⟩
   simp only [ZL, h] at hd
   obtain ⟨zs, rfl, hd⟩ := Zct hd
   simp only [ZT, Ze] at o1
   obtain ⟨ct', cts', v', G1, G2, e1, rfl, hv', ow, rfl, rfl⟩ := o1
   injection e1 with e1 e2
   subst e1
   simp at hv'
   subst hv'
   obtain ⟨fr', hfr', hd⟩ : ∃ fr' : Bool, (fr' = true → fa = true ∧ flatC zs = true) ∧ ZL P fa st (st2.setOb id (.row og fr' ct zs)) ms ts os' k = some r := by
    cases hf : (fa && flatTy P ct) with
    | true =>
     rw [hf] at hd
     simp only [cond_true] at hd
     obtain ⟨⟨_, q⟩, hd⟩ := ZD hd
     simp only [Bool.and_eq_true] at hf
     exact ⟨true, fun _ => ⟨hf.1, q⟩, hd⟩
    | false =>
     rw [hf] at hd
     simp only [cond_false] at hd
     obtain ⟨_, hd⟩ := ZD hd
     exact ⟨false, by simp, hd⟩
   obtain ⟨back, b1, b2, b3, b4⟩ := a4 w' I' os' F2 o2 hi (fun x hx => hk x (by simp [hx])) _ k _ hd
   refine ⟨⟨id, .row og fr' ct zs, G1, [], G1⟩ :: back, by simp [b1], fun y hy => ?_, by simpa [bkChg, St.sets_cons] using b3, by simpa using b4⟩
   rcases List.mem_cons.mp hy with rfl | hy
   ·exact ⟨List.Perm.refl _, .inl ⟨og, ct, zs, fr, xs, fr', rfl, hfr', h, by rw [← r1.2]; exact ow⟩⟩
   ·exact b2 y hy
 | @agg ct ms cs c m ts as mv h r ih =>
  intro vs hs rs
  simp only [Zao] at rs
  obtain ⟨v, vs', rfl, r1, r2⟩ := rs
  obtain ⟨Fs, a1, a2, a3, a4⟩ := ih (fun t ht => hs t (by simp [ht])) r2
  have r1 := r1.rel (by simp)
  have hS : Z8 g stL st (Zz cs) := hs (.agg cs) (by simp)
  simp only [Zd] at r1
  obtain ⟨vals, rfl, rv⟩ := r1
  have hget : ∀ (j : Nat) (u : Value), vals[j]? = some u → vals.toArray[0 + j]? = some u := fun j u hu => by simpa using hu
  obtain ⟨c1, c2, c3⟩ := h.sound hr (c := vals.toArray) hS rv hget
  refine ⟨m.map (fun id => ⟨id, [], g.fp id⟩) ++ Fs, by simp [a1, Function.comp_def], ?_, fun x hx => ?_, fun w' I' os Fo ho hi hk β st2 k r hd => ?_⟩
  ·simp only [ZU]
   refine ⟨_, vs', m.flatMap g.fp, _, rfl, by simp [List.flatMap_map], ?_, a2⟩
   simp only [ZT]
   exact ⟨vals, rfl, by rw [Zl.length rv, c3], Ze.weaken (fun b hb => hJ.imp b hb) c1⟩
  ·rcases List.mem_append.mp hx with hx | hx
   ·obtain ⟨id, hid, rfl⟩ := List.mem_map.mp hx
    exact ⟨c2 id hid, List.Perm.refl _⟩
   ·exact a3 x hx
  ·simp only [ZP] at ho
   rcases ho with ⟨os', rfl, _⟩ | ⟨cs', os', F1, F2, rfl, rfl, hl, o1, o2⟩
   ·simp [ZL] at hd
   simp only [ZL] at hd
   simp only [ZT] at o1
   obtain ⟨vals', e, _, ow⟩ := o1
   injection e with e
   have e : vals = vals' := by simpa using e
   subst e
   obtain ⟨back1, d1, d2, d3, d4⟩ := h.outs (fa := fa) hr (c := vals.toArray) hS rv hget ow hd
   obtain ⟨back, b1, b2, b3, b4⟩ := a4 w' I' os' F2 o2 hi (fun x hx => hk x (by simp [hx])) _ k _ d3
   refine ⟨back1 ++ back, ?_, fun y hy => ?_, ?_, ?_⟩
   ·rw [List.map_append, List.map_append, b1, List.map_map, ← d1, List.map_map]
    congr 1
    refine List.map_congr_left fun y hy => ?_
    simp only [Function.comp]
    rw [(d2 y hy).1]
   ·rcases List.mem_append.mp hy with hy | hy
    ·exact (d2 y hy).2
    ·exact b2 y hy
   ·simpa [bkChg, St.sets_append] using b3
   ·rw [List.flatMap_append]
    exact d4.append b4
 | @sub ct ms id i off og fr rt xs c ys ts as mv h ht hc hx r ih =>
  intro vs hs rs
  simp only [Zao] at rs
  obtain ⟨v, vs', rfl, r1, r2⟩ := rs
  obtain ⟨Fs, a1, a2, a3, a4⟩ := ih (fun t ht => hs t (by simp [ht])) r2
  have r1 := r1.rel (by simp)
  have hS : Z8 g stL st [id] := hs (.sub id i off) (by simp)
  obtain ⟨_, hB, ⟨row, hgs⟩, _⟩ := hS.obj hr (by simp) h
  simp only [Zd] at r1
  obtain ⟨_, b, len, cap, cc, e, f, hh, hfp, hb, hv⟩ := r1
  obtain ⟨a', cap', hv', hrow⟩ := OwC.row row
  rw [hh] at hv'
  injection hv' with e1 e2 e3
  subst e1 e2 e3
  rcases hrow with ⟨rfl, _, _⟩ | ⟨b', c', e', F', ea, hF, hb', hz, hcs, hle, rows⟩
  ·simp at hc
  injection ea with ea; injection ea with ea _ _
  subst ea
  have hb2 := hb'
  rw [hb] at hb'
  injection hb' with hb'; injection hb' with hb' hb3 hb4
  subst hb' hb3 hb4
  obtain ⟨ct', v', A, R, B, t1, hFc, t3, t4, t5⟩ := Zg.cut rows hc hx
  rw [t1] at ht
  injection ht with ht
  subst ht
  rw [hgs] at hv
  rw [show 0 + i * Zs P rt + off = i * Zs P rt + off from by omega, hv] at t3
  injection t3 with t3
  subst t3
  have hperm : ∀ Z : List Nat, (b :: (A ++ Z ++ B)).Perm ((b :: (A ++ B)) ++ Z) := by
   intro Z
   simp only [List.cons_append]
   refine List.Perm.cons b ?_
   rw [List.append_assoc, List.append_assoc]
   exact List.Perm.append_left A List.perm_append_comm
  refine ⟨⟨id, b :: (A ++ B), R⟩ :: Fs, by simp [a1], ?_, fun x hx => ?_, fun w' I' os Fo ho hi hk β st2 k r hd => ?_⟩
  ·simp only [ZU]
   refine ⟨v, vs', R, _, rfl, by simp, ?_, a2⟩
   simp only [ZT, Ze]
   exact ⟨ct', [], v, R, [], rfl, by simp, by simp, OwC.weaken (fun b hb => hJ.imp b hb.1) t4, by simp⟩
  ·rcases List.mem_cons.mp hx with rfl | hx
   ·refine ⟨hB, ?_⟩
    rw [hF, hFc]
    exact hperm R
   ·exact a3 x hx
  ·simp only [ZP] at ho
   rcases ho with ⟨os', rfl, _⟩ | ⟨cs', os', F1, F2, rfl, rfl, hl, o1, o2⟩
   ·simp [ZL] at hd
   obtain ⟨z, rfl⟩ : ∃ z, cs' = [z] := by
    match cs', hl with
    | [z], _ => exact ⟨z, rfl⟩
   simp only [ZL, h] at hd
   simp only [ZT, Ze] at o1
   obtain ⟨ct'', cts', v', G1, G2, e1, rfl, hv', ow, rfl, rfl⟩ := o1
   injection e1 with e1 e2
   subst e1
   simp at hv'
   subst hv'
   obtain ⟨back, b1, b2, b3, b4⟩ := a4 w' I' os' F2 o2 hi (fun x hx => hk x (by simp [hx])) _ k _ hd
   have hkeep := hk _ (List.mem_cons_self)
   simp only [] at hkeep
   refine ⟨⟨id, .row og false rt (xs.modify i fun r => r.set off z), b :: (A ++ G1 ++ B), b :: (A ++ B), G1⟩ :: back, by simp [b1], fun y hy => ?_, by simpa [bkChg, St.sets_cons] using b3, by simpa using b4⟩
   rcases List.mem_cons.mp hy with rfl | hy
   ·refine ⟨hperm G1, .inl ⟨og, rt, _, fr, xs, false, rfl, by simp, h, ?_⟩⟩
    simp only [OwC]
    refine ⟨_, _, by rw [hh, List.length_modify], .inr ⟨b, cc, e, _, rfl, rfl, by rw [hkeep b (by simp)]; exact hb, hz, hcs, by rw [List.length_modify]; exact hle, t5 ⟨⟨fun b hb => (hi b hb.1).1, fun b hb => (hi b hb.1).2⟩, fun q hq => hkeep q (List.mem_cons_of_mem _ hq)⟩ ow⟩⟩
   ·exact b2 y hy
 | @box pt ms id og cs ds ts as mv h hds r ih =>
  intro vs hs rs
  simp only [Zao] at rs
  obtain ⟨v, vs', rfl, r1, r2⟩ := rs
  obtain ⟨Fs, a1, a2, a3, a4⟩ := ih (fun t ht => hs t (by simp [ht])) r2
  have r1 := r1.rel (by simp)
  have hS : Z8 g stL st [id] := hs (.bp id 0) (by simp)
  obtain ⟨_, hB, ⟨⟨b, c, e, hh, hfp, hb, rc⟩, _⟩⟩ := hS.obj hr (by simp) h
  simp only [Zd] at r1
  obtain ⟨rd, hln⟩ := datTs_rd (c := c) (p := 0) hds rc (fun j u hu => by simpa using hu)
  have hsz : c.size = ds.length := by rw [hln, ← Zl.length rc]; simp
  obtain ⟨_, bb, hbb, rfl⟩ := r1
  rw [hh] at hbb
  injection hbb with hbb; injection hbb with hbb; injection hbb with hbb
  subst hbb
  refine ⟨⟨id, [], g.fp id⟩ :: Fs, by simp [a1], ?_, fun x hx => ?_, fun w' I' os Fo ho hi hk β st2 k r hd => ?_⟩
  ·simp only [ZU]
   refine ⟨_, vs', g.fp id, _, rfl, by simp, ?_, a2⟩
   simp only [ZT]
   exact ⟨b, c, e, ds, rfl, rfl, hfp, hb, hsz, Zr.mono ⟨fun b hb => hJ.imp b hb, fun _ _ => rfl⟩ rd⟩
  ·rcases List.mem_cons.mp hx with rfl | hx
   ·exact ⟨hB, List.Perm.refl _⟩
   ·exact a3 x hx
  ·simp only [ZP] at ho
   obtain ⟨cs', os', F1, F2, rfl, rfl, hl, o1, o2⟩ := ho
   simp only [ZT] at o1
   obtain ⟨b', c', e', ds', rfl, hv', rfl, hb', hsz', rd'⟩ := o1
   injection hv' with hv'; injection hv' with hv'; injection hv' with hv'
   subst hv'
   simp only [ZL, h, datCs_map] at hd
   obtain ⟨_, hd⟩ := ZD hd
   obtain ⟨back, b1, b2, b3, b4⟩ := a4 w' I' os' F2 o2 hi (fun x hx => hk x (by simp [hx])) _ k _ hd
   refine ⟨⟨id, .box og pt (ds'.map (.d false)), [b], [], [b]⟩ :: back, by simp [b1], fun y hy => ?_, by simpa [bkChg, St.sets_cons] using b3, by simpa using b4⟩
   rcases List.mem_cons.mp hy with rfl | hy
   ·exact ⟨List.Perm.refl _, .inr (.inr ⟨og, pt, cs, ds', b, c', e', rfl, h, hh, rfl, hb', hsz', rd'⟩)⟩
   ·exact b2 y hy
end
end Go.T
