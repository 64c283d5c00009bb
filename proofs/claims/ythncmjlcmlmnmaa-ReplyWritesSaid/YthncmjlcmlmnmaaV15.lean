/- Operations, regions, code: the abstract execution is sound for the model's. Conditions: none. -/
import Derived.Test.YthncmjlcmlmnmaaV14
import Derived.LoopN
namespace Go.Proofs.Ythncmjlcmlmnmaa.V
open Go Go.RowKit

structure TmR (S : Area) (pl : Place) (w : World) (m : Mem) (tm : List AV) (a : Act) : Prop where
  defers : a.defers = []
  size : a.tmps.size = tm.length
  rel : ∀ (i : Nat) x, tm[i]? = some x → RelV S pl w m x (a.tmps.getD i undef)

section
variable {P : Program} {T : Tab} {X : Ctx} {S : Area} {pl : Place} {w : World} {m : Mem} {tm : List AV} {a : Act}

theorem TmR.mono {S' : Area} {pl' : Place} {w' : World} {m' : Mem} (k : Keeps S S' pl pl' w w' m m') (h : TmR S pl w m tm a) : TmR S' pl' w' m' tm a := ⟨h.defers, h.size, fun i x hx => (h.rel i x hx).mono k⟩
theorem TmR.put (h : TmR S pl w m tm a) {x : AV} {u : Value} (hr : RelV S pl w m x u) (d : Option Tmp) : TmR S pl w m (setO tm d x) (a.put d u) := by
  cases d with
  | none => exact h
  | some d =>
    refine ⟨h.defers, by simp [setO, Act.put, h.size], fun i y hy => ?_⟩
    simp only [setO, List.getElem?_set] at hy
    simp only [Act.put]
    by_cases hi : d = i
    · subst hi
      rw [if_pos rfl] at hy
      split at hy
      · injection hy with hy; subst hy
        rename_i hlt
        have : (a.tmps.setIfInBounds d u).getD d undef = u := by simp [Array.getD, h.size, hlt]
        rw [this]; exact hr
      · simp at hy
    · rw [if_neg hi] at hy
      have : (a.tmps.setIfInBounds d u).getD i undef = a.tmps.getD i undef := by
        rw [Array.getD_eq_getD_getElem?, Array.getD_eq_getD_getElem?, Array.getElem?_setIfInBounds_ne hi]
      rw [this]; exact h.rel i y hy

theorem evO_sound (hs : St X S pl w m) (h : TmR S pl w m tm a) (ty : Nat) (x : Operand) : RelV S pl w m (evO T X.G tm ty x) (a.eval x) := by
  cases x with
  | tmp t =>
    simp only [evO, Act.eval]
    by_cases ht : t < tm.length
    · have hx : tm[t]? = some tm[t] := List.getElem?_eq_getElem ht
      have := h.rel t _ hx
      simpa [List.getD, hx] using this
    · simp [List.getD, List.getElem?_eq_none (Nat.not_lt.1 ht)]; exact .dead _
  | const v =>
    simp only [evO, Act.eval]
    unfold constA
    split
    · exact .c _ _ (.sl _ [] (some []) none 0 0 0 (fun _ => .nilFunc) (Nat.le_refl _) (fun s h => by injection h with h; subst h; rfl) (fun h => absurd rfl h) (fun i e h => by simp at h) (fun k h => by simp at h) (fun k h => by simp at h) (fun i j e x h => by simp at h))
    · split
      · exact .c _ _ (.v _ (by assumption))
      · exact .dead _
  | global g =>
    simp only [evO, Act.eval]
    split
    · rename_i cs hg; exact .c _ _ (hs.glob g cs hg)
    · exact .dead _
  | func f => exact .c _ _ (.v _ rfl)

theorem evL_sound (hs : St X S pl w m) (h : TmR S pl w m tm a) : ∀ (xs : List Operand) (tys : List TypeId), (xs.map a.eval).length = (evL T X.G tm xs tys).length ∧ ∀ (j : Nat) x u, (evL T X.G tm xs tys)[j]? = some x → (xs.map a.eval)[j]? = some u → RelV S pl w m x u
  | [], _ => ⟨rfl, fun j x u hx => by simp [evL] at hx⟩
  | x :: xs, tys => by
    obtain ⟨h1, h2⟩ := evL_sound hs h xs tys.tail
    refine ⟨by simp only [List.map_cons, List.length_cons, evL]; rw [h1], fun j y u hy hu => ?_⟩
    cases j with
    | zero => simp [evL] at hy hu; subst hy hu; exact evO_sound hs h _ x
    | succ j => exact h2 j y u (by simpa [evL] using hy) (by simpa using hu)


theorem condB_sound {x : AV} {u : Value} (h : RelV S pl w m x u) {A B : Prop} (hk : condB x A B) : ∃ b, u = .bool b ∧ (b = true → A) ∧ (b = false → B) := by
  unfold condB at hk
  split at hk
  · exact ⟨_, relV_v h, hk⟩
  · exact hk.elim

/-- An operation that makes a value. -/
theorem wp_value (o : Oper) {next : Act → World → Prop} {Q : Exit → Act → World → Prop} {s : Sem Value} {u : Value} {w' : World} (he : (execOp a.eval o).run P w = ((do pure (Next.value (← s)) : Sem Next)).run P w) (hr : s.run P w = .ok u w') (hn : next (a.put o.dst u) w') : o.wp P a w next Q := by
  unfold Oper.wp
  rw [he, Sem.run_bind, hr]
  exact hn

/-- What stands behind an operation. -/
def After (X : Ctx) (S : Area) (pl : Place) (w : World) (m : Mem) (tm : List AV) (d : Option Tmp) (K : KK) (a' : Act) (w' : World) : Prop :=
  ∃ v S' pl' m', K v m' ∧ St X S' pl' w' m' ∧ Keeps S S' pl pl' w w' m m' ∧ TmR S' pl' w' m' (setO tm d v) a'

theorem Did.next {K : KK} {d : Option Tmp} (h : TmR S pl w m tm a) {s : Sem Value} (hd : Did X S pl w m (s.run P w) K) : ∃ u w', s.run P w = .ok u w' ∧ After X S pl w m tm d K (a.put d u) w' := by
  obtain ⟨u, w', S', pl', v, m', e1, e2, e3, e4, e5⟩ := hd
  exact ⟨u, w', e1, v, S', pl', m', e2, e4, e5, (h.mono e5).put e3 d⟩

theorem pairs_rel (hs : St X S pl w m) (h : TmR S pl w m tm a) (ps : Array (Nat × Operand)) :
    (ps.toList.map fun p => (p.1, a.eval p.2)).length = (ps.toList.map fun p => (p.1, evO T X.G tm 0 p.2)).length ∧
    ∀ (j : Nat) p q, (ps.toList.map fun p => (p.1, evO T X.G tm 0 p.2))[j]? = some p → (ps.toList.map fun p => (p.1, a.eval p.2))[j]? = some q → p.1 = q.1 ∧ RelV S pl w m p.2 q.2 := by
  refine ⟨by simp, fun j p q hp hq => ?_⟩
  rw [List.getElem?_map] at hp hq
  cases hj : ps.toList[j]? with
  | none => rw [hj] at hp; simp at hp
  | some x => rw [hj] at hp hq; simp at hp hq; subst hp hq; exact ⟨rfl, evO_sound hs h 0 x.2⟩

theorem bndRel (hs : St X S pl w m) (h : TmR S pl w m tm a) (x : Option Operand) : BndRel S pl w m (x.map (evO T X.G tm 0)) (x.map a.eval) := by
  cases x with
  | none => trivial
  | some x => exact evO_sound hs h 0 x

theorem builtinW_sound (hT : TabOk P T) (hs : St X S pl w m) (site : Nat) (b : Builtin) (tys : List TypeId) (ty : TypeId) (consts : Array Bool) {xs : List AV} {us : List Value} (hl : us.length = xs.length)
    (hr : ∀ (j : Nat) x u, xs[j]? = some x → us[j]? = some u → RelV S pl w m x u) {K : KK} (hk : builtinW T site m b tys xs K) :
    ∃ s : Sem Value, (builtin b tys.toArray ty consts us.toArray) = (do pure (Next.value (← s)) : Sem Next) ∧ Did X S pl w m (s.run P w) K := by
  unfold builtinW at hk
  split at hk
  · rename_i x t
    match us, hl with
    | [u], _ => exact ⟨_, rfl, lenW_sound hT hs (tys := #[t]) rfl (hr 0 x u rfl rfl) hk⟩
  · rename_i x t
    match us, hl with
    | [u], _ => exact ⟨_, rfl, capW_sound hT hs (tys := #[t]) rfl (hr 0 x u rfl rfl) hk⟩
  · rename_i tys; exact ⟨Builtin.min_ tys.toArray ty us.toArray, rfl, minmaxW_sound (tys := tys.toArray) (ty := ty) hs hl hr false hk⟩
  · rename_i tys; exact ⟨Builtin.max_ tys.toArray ty us.toArray, rfl, minmaxW_sound (tys := tys.toArray) (ty := ty) hs hl hr true hk⟩
  · rename_i x y t t2
    match us, hl with
    | [u, v], _ =>
      split at hk
      · rename_i h1 h2; exact ⟨_, rfl, appendW_sound hT hs h1 (.inl ⟨_, _, _, _, h2⟩) site (hr 0 x u rfl rfl) (hr 1 y v rfl rfl) hk⟩
      · rename_i h1 h2; exact ⟨_, rfl, appendW_sound hT hs h1 (.inr h2) site (hr 0 x u rfl rfl) (hr 1 y v rfl rfl) hk⟩
      · exact hk.elim
  · rename_i x y t t2
    match us, hl with
    | [u, v], _ =>
      split at hk
      · rename_i h1; exact ⟨_, rfl, copyW_sound hT hs h1 (hr 0 x u rfl rfl) (hr 1 y v rfl rfl) hk⟩
      · exact hk.elim
  · exact hk.elim

theorem opW_sound {D : Spec} (hT : TabOk P T) (hD : ∀ f os Q, D f os Q → Den P X.G f os Q) (hs : St X S pl w m) (h : TmR S pl w m tm a) (o : Oper) {K : KK} (hk : opW T X.G D tm o m K) {Q : Exit → Act → World → Prop} :
    o.wp P a w (After X S pl w m tm o.dst K) Q := by
  have fin : ∀ {s : Sem Value}, (execOp a.eval o).run P w = ((do pure (Next.value (← s)) : Sem Next)).run P w → Did X S pl w m (s.run P w) K → o.wp P a w (After X S pl w m tm o.dst K) Q := fun he hd => by
    obtain ⟨u, w', h1, h2⟩ := hd.next (tm := tm) (a := a) (d := o.dst) h
    exact wp_value o he h1 h2
  have pureS : ∀ {x : AV} {u : Value}, (execOp a.eval o).run P w = .ok (.value u) w → RelV S pl w m x u → K x m → o.wp P a w (After X S pl w m tm o.dst K) Q := fun {x u} he hr hk => by
    unfold Oper.wp
    rw [he]
    exact ⟨x, S, pl, m, hk, hs, Keeps.refl _ _ _ _, h.put hr o.dst⟩
  unfold opW at hk
  dsimp only at hk
  split at hk
  · rename_i x ho; exact pureS (x := evO T X.G tm o.type x) (u := a.eval x) (by unfold execOp; rw [ho]; rfl) (evO_sound hs h _ x) hk
  · rename_i x ho; exact pureS (x := evO T X.G tm o.type x) (u := a.eval x) (by unfold execOp; rw [ho]; rfl) (evO_sound hs h _ x) hk
  · rename_i c x y ho
    obtain ⟨b, hb, h1, h2⟩ := condB_sound (evO_sound hs h 0 c) hk
    cases b with
    | true => exact pureS (x := evO T X.G tm o.type x) (u := a.eval x) (by unfold execOp; rw [ho]; simp only [hb]; rfl) (evO_sound hs h _ x) (h1 rfl)
    | false => exact pureS (x := evO T X.G tm o.type y) (u := a.eval y) (by unfold execOp; rw [ho]; simp only [hb]; rfl) (evO_sound hs h _ y) (h2 rfl)
  · rename_i e ho
    split at hk
    · exact hk.elim
    · rename_i n hn; exact fin (by unfold execOp; rw [ho]) (allocW_sound hT hs hn _ hk)
  · rename_i e x ho; exact fin (by unfold execOp; rw [ho]) (boxW_sound hs e _ (evO_sound hs h e x) hk)
  · rename_i t ps ho
    obtain ⟨h1, h2⟩ := pairs_rel (T := T) hs h ps
    refine fin (s := Instr.build t (ps.map fun (i, x) => (i, a.eval x))) (by unfold execOp; rw [ho]) ?_
    have := buildW_sound (K := K) hT hs (t := t) h1 h2 (by
      split at hk
      · rename_i hk2; rw [hk2]; exact hk
      · rename_i hk2; rw [hk2]; exact hk
      · exact hk.elim)
    have e : (ps.map fun (i, x) => (i, a.eval x)) = (ps.toList.map fun p => (p.1, a.eval p.2)).toArray := by apply Array.ext'; simp
    rw [e]; exact this
  · rename_i t len ps ho
    obtain ⟨h1, h2⟩ := pairs_rel (T := T) hs h ps
    split at hk
    · rename_i hk2
      refine fin (s := Instr.buildSlice t len (ps.map fun (i, x) => (i, a.eval x))) (by unfold execOp; rw [ho]) ?_
      have e : (ps.map fun (i, x) => (i, a.eval x)) = (ps.toList.map fun p => (p.1, a.eval p.2)).toArray := by apply Array.ext'; simp
      rw [e]; exact buildSliceW_sound hT hs hk2 _ h1 h2 hk
    · exact hk.elim
  · rename_i t x ho
    split at hk
    · exact hk.elim
    · rename_i n hn; exact fin (by unfold execOp; rw [ho]) (loadW_sound hT hs hn (evO_sound hs h 0 x) hk)
  · rename_i t x y ho
    split at hk
    · exact hk.elim
    · rename_i n hn
      obtain ⟨w', S', m', h1, h2, h3, h4⟩ := storeW_sound hT hs hn (evO_sound hs h 0 x) (evO_sound hs h t y) hk
      unfold Oper.wp
      have : (execOp a.eval o).run P w = .ok .skip w' := by
        unfold execOp; rw [ho]
        simp only [Sem.run_bind, h1, Result.andThen_ok, Sem.run_pure]
      rw [this]
      exact ⟨.dead, S', pl, m', h2, h3, h4, (h.mono h4).put (.dead undef) o.dst⟩
  · rename_i x ho
    obtain ⟨u, v, h1, h2, h3⟩ := nilCheckW_sound (P := P) o x a.eval ho (evO_sound hs h 0 x) hk
    exact pureS h1 h3 h2
  · rename_i op t x y _ ho
    split at hk
    · rename_i p hp
      have hxa := evO_sound (T := T) hs h t x
      have hya := evO_sound (T := T) hs h t y
      obtain ⟨xs, ys⟩ := p
      unfold aggs at hp
      split at hp
      · rename_i q1 q2
        injection hp with hp; injection hp with e1 e2; subst e1 e2
        rw [q1] at hxa; rw [q2] at hya
        exact fin (s := do eqGuard op t x y (a.eval x) (a.eval y); binOp op t (a.eval x) (a.eval y)) (by unfold execOp; rw [ho]) (eqW_sound hT hs op t x y hxa hya hk)
      · simp at hp
    · exact fin (s := do eqGuard op t x y (a.eval x) (a.eval y); binOp op t (a.eval x) (a.eval y)) (by unfold execOp; rw [ho]) (binW_sound hT hs op t x y (evO_sound hs h t x) (evO_sound hs h t y) hk)
  · rename_i op _ x ho; exact fin (by unfold execOp; rw [ho]) (unW_sound hs op (evO_sound hs h 0 x) hk)
  · rename_i s d x ho; exact fin (by unfold execOp; rw [ho]) (convW_sound hT hs _ (evO_sound hs h s x) hk)
  · rename_i t l c ho
    split at hk
    · rename_i hk2; exact fin (by unfold execOp; rw [ho]) (makeSliceW_sound hT hs hk2 _ (evO_sound hs h 0 l) (evO_sound hs h 0 c) hk)
    · exact hk.elim
  · rename_i t x lo hi mx ho
    exact fin (by unfold execOp; rw [ho]) (sliceW_sound hT hs (evO_sound hs h t x) (bndRel hs h lo) (bndRel hs h hi) (bndRel hs h mx) hk)
  · rename_i s x f ho
    split at hk
    · rename_i fs hk2
      split at hk
      · rename_i hf; exact fin (by unfold execOp; rw [ho]) (fieldAddrW_sound hs hT hk2 hf (evO_sound hs h 0 x) hk)
      · exact hk.elim
      · exact hk.elim
    · exact hk.elim
  · rename_i t x f ho
    split at hk
    · rename_i fs hk2
      split at hk
      · rename_i hf; exact fin (by unfold execOp; rw [ho]) (fieldW_sound hT hs hk2 hf (evO_sound hs h 0 x) hk)
      · exact hk.elim
    · exact hk.elim
  · rename_i t x i ho; exact fin (by unfold execOp; rw [ho]) (indexAddrW_sound hT hs (evO_sound hs h t x) (evO_sound hs h 0 i) hk)
  · rename_i t x i ho; exact fin (by unfold execOp; rw [ho]) (indexW_sound hT hs (evO_sound hs h t x) (evO_sound hs h 0 i) hk)
  · rename_i x i ho; exact fin (by unfold execOp; rw [ho]) (extractW_sound hs (evO_sound hs h 0 x) hk)
  · rename_i c ho
    obtain ⟨hl, hr⟩ := evL_sound (T := T) hs h c.args.toList c.argTypes.toList
    have hargs : c.args.map a.eval = (c.args.toList.map a.eval).toArray := by apply Array.ext'; simp
    split at hk
    · rename_i b hb
      obtain ⟨s, h1, h2⟩ := builtinW_sound hT hs (siteOf o.dst) b c.argTypes.toList o.type (c.args.map fun | .const _ => true | _ => false) hl hr hk
      refine fin (s := s) ?_ h2
      rw [← h1]
      unfold execOp; rw [ho]
      simp only [Sem.run_bind, resolve, hb, Sem.run_pure, Result.andThen_ok, invoke, ← hargs, Array.toArray_toList]
      rfl
    · rename_i f hf
      have hfr := evO_sound (T := T) hs h 0 f
      split at hk
      · rename_i g first captured hev
        obtain ⟨rfl, rfl, hk⟩ := hk
        rw [hev] at hfr
        have hfv := relV_v hfr
        obtain ⟨⟨fn, hfn, hbody, hname⟩, hcall⟩ := callW_sound hD hs hl hr hk
        unfold Oper.wp
        have hrun : (execOp a.eval o).run P w = .ok (.enter g (c.args.toList.map a.eval).toArray) w := by
          unfold execOp; rw [ho]
          have hnone : fn.body.isNone = false := by cases hq : fn.body <;> simp_all
          simp only [Sem.run_bind, resolve, hf, hfv, Deferred.ofValue, Sem.run_pure, Result.andThen_ok, invoke, callFunc, run_program, hfn, hname, Bool.false_eq_true, if_false, hnone, hargs]
          simp
        rw [hrun, Oper.upon_enter]
        refine hcall.mono ?_
        rintro e w' ⟨v, rfl, S', pl', r, m', hK, hrel, hst, hkp⟩
        exact ⟨r, S', pl', m', hK, hst, hkp, (h.mono hkp).put hrel o.dst⟩
      · exact hk.elim
    · exact hk.elim
  · exact hk.elim
end
end Go.Proofs.Ythncmjlcmlmnmaa.V
