/- Regions, code, functions. Conditions: none. -/
import Derived.Test.YthncmjlcmlmnmaaV15D
namespace Go.Proofs.Ythncmjlcmlmnmaa.V
open Go Go.RowKit
section
variable {P : Program} {T : Tab} {X : Ctx} {pins : List (AV × Value)}

/-- A frame that the abstract one tells of. -/
def At (X : Ctx) (pins : List (AV × Value)) (tm : List AV) (m : Mem) (a : Act) (w : World) : Prop := ∃ S pl, St X S pl w m ∧ TmR S pl w m tm a ∧ ∀ p ∈ pins, RelV S pl w m p.1 p.2

theorem wpOps_cons' {ops : Array Oper} {Q : Exit → Act → World → Prop} {i : Nat} {rest : List Nat} {a : Act} {w : World} {o : Oper} (ho : ops[i]? = some o) :
    wpOps P ops Q (i :: rest) a w = if Region.wanted o (yielded ops a.tmps) then o.wp P a w (wpOps P ops Q rest) Q ∨ (o.asks P a w ∧ LetsOut Q) else wpOps P ops Q rest (a.put o.dst undef) w := by
  simp only [wpOps, ho]

theorem Oper.wp_mono' {o : Oper} {a : Act} {w : World} {K K' : Act → World → Prop} {Q : Exit → Act → World → Prop} (h : ∀ a w, K a w → K' a w) (hk : o.wp P a w K Q) : o.wp P a w K' Q := by
  unfold Oper.wp at hk ⊢
  cases hr : (execOp a.eval o).run P w with
  | halt x w' => rw [hr] at hk; cases x <;> exact hk
  | ok n w' =>
    rw [hr] at hk
    cases n <;> first
      | exact h _ _ hk
      | exact hk.elim
      | (refine Calls.mono hk ?_; intro e w'' he; cases e <;> first | exact h _ _ he | exact he)
      | (refine Rows.mono hk ?_; intro e w'' he; exact h _ _ he)
      | exact hk

/-- the guard of an operation: told, or not wanted -/
theorem guardW_sound {S : Area} {pl : Place} {w : World} {m : Mem} {tm : List AV} {a : Act} (h : TmR S pl w m tm a) {ops : Array Oper} {o : Oper} {A B : Prop} (hk : guardW ops.toList tm o.guard A B) :
    (Region.wanted o (yielded ops a.tmps) = true ∧ A) ∨ (Region.wanted o (yielded ops a.tmps) = false ∧ B) := by
  unfold guardW at hk
  unfold Region.wanted
  split at hk
  · rename_i hg; rw [hg]; exact .inl ⟨rfl, hk⟩
  · rename_i j want hg
    rw [hg]
    split at hk
    · rename_i d hd
      have hy : yielded ops a.tmps j = (match (some d : Option Nat).bind (a.tmps[·]?) with | some (.bool b) => some b | _ => none) := by
        unfold yielded
        have : (ops[j]?).bind (·.dst) = some d := by rw [← Array.getElem?_toList]; exact hd
        rw [this]; rfl
      have hrel : RelV S pl w m (tm.getD d .dead) (a.tmps.getD d undef) := by
        by_cases ht : d < tm.length
        · have hx : tm[d]? = some tm[d] := List.getElem?_eq_getElem ht
          have := h.rel d _ hx
          simpa [List.getD, hx] using this
        · simp [List.getD, List.getElem?_eq_none (Nat.not_lt.1 ht)]; exact .dead _
      cases hsk : isSkip (tm.getD d .dead) with
      | true =>
        rw [hsk] at hk
        refine .inr ⟨?_, hk⟩
        have hu : a.tmps.getD d undef = .tuple #[] := by
          generalize tm.getD d .dead = q at hsk hrel
          generalize a.tmps.getD d undef = u at hrel ⊢
          cases q with
          | tup cs =>
            cases cs with
            | nil =>
              cases hrel with | tup _ us hl _ =>
              have : us = [] := by simpa using hl
              rw [this]
            | cons x l => simp [isSkip] at hsk
          | _ => simp [isSkip] at hsk
        dsimp only
        rw [hy]
        rw [Array.getD_eq_getD_getElem?] at hu
        cases hq : a.tmps[d]? with
        | none => simp [hq]
        | some v => rw [hq] at hu; simp at hu; subst hu; simp [hq]
      | false =>
      rw [hsk] at hk
      dsimp only at hk
      obtain ⟨b, hb, h1, h2⟩ := condB_sound hrel hk
      have hyb : yielded ops a.tmps j = some b := by
        rw [hy]
        rw [Array.getD_eq_getD_getElem?] at hb
        cases hq : a.tmps[d]? with
        | none => rw [hq] at hb; simp [undef] at hb
        | some v => rw [hq] at hb; simp at hb; subst hb; simp [hq]
      simp only [hyb]
      cases b <;> cases want <;> first
        | exact .inl ⟨rfl, h1 rfl⟩
        | exact .inl ⟨rfl, h2 rfl⟩
        | exact .inr ⟨rfl, h1 rfl⟩
        | exact .inr ⟨rfl, h2 rfl⟩
    · exact hk.elim

theorem opsW_sound {D : Spec} (hT : TabOk P T) (hD : ∀ f os Q, D f os Q → Den P X.G f os Q) {ops : Array Oper} {Q : Exit → Act → World → Prop} :
    ∀ (l : List Oper) (i : Nat) (tm : List AV) (m : Mem) (a : Act) (w : World) {K : List AV → Mem → Prop}, ops.toList.drop i = l → At X pins tm m a w → opsW T X.G D ops.toList l tm m K → (∀ tm m a w, K tm m → At X pins tm m a w → Q .normal a w) →
      wpOps P ops Q (List.range' i l.length) a w
  | [], i, tm, m, a, w, K, _, ha, hk, hq => by simp only [List.length_nil, List.range'_zero, wpOps]; exact hq tm m a w hk ha
  | o :: l, i, tm, m, a, w, K, hd, ⟨S, pl, hs, h, hpin⟩, hk, hq => by
    have ho : ops[i]? = some o := by
      rw [← Array.getElem?_toList]
      have := congrArg (·[0]?) hd
      simpa using this
    have hd' : ops.toList.drop (i + 1) = l := by rw [← List.drop_drop, hd]; rfl
    rw [List.length_cons, List.range'_succ, wpOps_cons' ho]
    simp only [opsW] at hk
    cases hmv : mvT o tm with
    | some s =>
      rw [hmv] at hk
      dsimp only at hk
      unfold mvT at hmv
      split at hmv <;> first | (simp at hmv; done) | skip
      rename_i hgu
      split at hmv <;> first | (simp at hmv; done) | skip
      rename_i s' hop
      split at hmv <;> first | (simp at hmv; done) | skip
      rename_i id ver n hv
      injection hmv with hmv; subst hmv
      have hw : Region.wanted o (yielded ops a.tmps) = true := by unfold Region.wanted; rw [hgu]
      rw [hw, if_pos rfl]
      rcases hk with hk | hk
      · refine .inl (Oper.wp_mono' ?_ (opW_sound hT hD hs h o hk))
        rintro a' w' ⟨v, S', pl', m', hK, hst, hkp, htm⟩
        exact opsW_sound hT hD l (i + 1) _ m' a' w' hd' ⟨S', pl', hst, htm, fun p hp => (hpin p hp).mono hkp⟩ hK hq
      · have hrel : RelV S pl w m (tm.getD s' .dead) (a.tmps.getD s' undef) := by
          by_cases ht : s' < tm.length
          · have hx : tm[s']? = some tm[s'] := List.getElem?_eq_getElem ht
            have := h.rel s' _ hx
            simpa [List.getD, hx] using this
          · simp [List.getD, List.getElem?_eq_none (Nat.not_lt.1 ht)]; exact .dead _
        obtain ⟨S', y, m', hK, hy, hst, hkp, _⟩ := closeA_sound2 hs hrel hk
        have hself : a.put (some s') (a.tmps.getD s' undef) = a := by
          unfold Act.put
          have : a.tmps.setIfInBounds s' (a.tmps.getD s' undef) = a.tmps := by
            apply Array.ext_getElem?
            intro j
            rw [Array.getElem?_setIfInBounds]
            split
            · rename_i hj
              subst hj
              split
              · rename_i hlt
                rw [Array.getElem?_eq_getElem hlt]; rfl
              · rename_i hlt
                rw [Array.getElem?_eq_none (by omega)]
            · rfl
          dsimp only
          rw [this]
        have h1 : TmR S' pl w m' (setO tm (some s') (.c y)) a := by
          have := (h.mono hkp).put (.c y _ hy) (some s')
          rwa [hself] at this
        have h2 := h1.put (hrel.mono hkp) o.dst
        refine .inl ?_
        refine wp_value (u := a.tmps.getD s' undef) (w' := w) o (s := pure (a.tmps.getD s' undef)) ?_ rfl ?_
        · unfold execOp; rw [hop]; rfl
        · exact opsW_sound hT hD l (i + 1) _ m' _ w hd' ⟨S', pl, hst, h2, fun p hp => (hpin p hp).mono hkp⟩ hK hq
    | none =>
    rw [hmv] at hk
    dsimp only at hk
    rcases guardW_sound h hk with ⟨hw, hk⟩ | ⟨hw, hk⟩
    · rw [hw, if_pos rfl]
      refine .inl (Oper.wp_mono' ?_ (opW_sound hT hD hs h o hk))
      rintro a' w' ⟨v, S', pl', m', hK, hst, hkp, htm⟩
      exact opsW_sound hT hD l (i + 1) _ m' a' w' hd' ⟨S', pl', hst, htm, fun p hp => (hpin p hp).mono hkp⟩ hK hq
    · rw [hw, if_neg (by simp)]
      exact opsW_sound hT hD l (i + 1) _ m _ w hd' ⟨S, pl, hs, h.put (x := skipA) (u := undef) (.tup [] [] rfl (fun i x u hx => by simp at hx)) o.dst, hpin⟩ hk hq

theorem anyA_sound {D : Spec} (hT : TabOk P T) (hD : ∀ f os Q, D f os Q → Den P X.G f os Q) {wr : List Nat} {ops : Array Oper} {Q : Exit → Act → World → Prop} {K : List AV → Mem → Prop} (hq : ∀ tm m a w, K tm m → At X pins tm m a w → Q .normal a w) :
    ∀ (n : Nat) (listed : Array Bool) (tm : List AV) (m : Mem) (a : Act) (w : World), At X pins tm m a w → anyA T X.G D wr ops K n listed tm m → wpAny P .any ops Q n listed a w
  | 0, listed, tm, m, a, w, ha, hk => ⟨hk.1, hq tm m a w hk.2 ha⟩
  | n + 1, listed, tm, m, a, w, ⟨S, pl, hs, h, hpin⟩, hk => by
    refine ⟨fun he => hq tm m a w (hk.1 he) ⟨S, pl, hs, h, hpin⟩, fun i hi => ?_⟩
    obtain ⟨_, o, ho, _⟩ := mem_ready.1 hi
    have hst := hk.2 i hi o ho
    unfold wpOp
    simp only [ho]
    rcases guardW_sound h hst with ⟨hw, R, h1, h2⟩ | ⟨hw, h1⟩
    · rw [hw, if_pos rfl]
      refine .inl (Oper.wp_mono' ?_ (opW_sound hT hD hs h o h1))
      rintro a' w' ⟨v, S', pl', m', hR, hst', hkp, htm⟩
      exact anyA_sound hT hD hq n _ _ m' a' w' ⟨S', pl', hst', htm, fun p hp => (hpin p hp).mono hkp⟩ (h2 v m' hR).2
    · rw [hw, if_neg (by simp)]
      exact anyA_sound hT hD hq n _ _ m _ w ⟨S, pl, hs, h.put (x := skipA) (u := undef) (.tup [] [] rfl (fun i x u hx => by simp at hx)) o.dst, hpin⟩ h1

theorem getL_keep (ids : List Nat) (l : List (Nat × Ob)) (j : Nat) : getL (keepL ids l) j = if j ∈ ids then getL l j else none := by
  induction l with
  | nil => simp [keepL, getL]
  | cons a r ih =>
    obtain ⟨k, p⟩ := a
    simp only [keepL]
    by_cases hk : k ∈ ids
    · rw [if_pos hk]; simp only [getL, ih]
      by_cases h : j = k
      · subst h; simp [hk]
      · simp [h]
    · rw [if_neg hk, ih]; simp only [getL]
      by_cases h : j = k
      · subst h; simp [hk]
      · simp [h]
theorem get_keep (ids : List Nat) (m : Mem) (j : Nat) : (m.keep ids).get j = if j ∈ ids then m.get j else none := getL_keep _ _ _
theorem St.keep {S : Area} {pl : Place} {w : World} {m : Mem} (h : St X S pl w m) (ids : List Nat) : St X S pl w (m.keep ids) ∧ Keeps S S pl pl w w m (m.keep ids) := by
  have hne : ∀ id ob, (m.keep ids).get id = some ob → m.get id = some ob := fun id ob hg => by
    rw [get_keep] at hg; split at hg
    · exact hg
    · simp at hg
  have k : Keeps S S pl pl w w m (m.keep ids) := ⟨fun _ _ h => h, fun _ _ _ => rfl, fun _ _ h => h, Nat.le_refl _, fun id ob hob _ => ⟨ob, hne id ob hob, by cases ob <;> simp [Ob.alike], rfl⟩⟩
  have e : Ext (fun _ _ => False) w w := Ext.refl _ _
  refine ⟨⟨⟨fun id ob hob => ⟨(h.inv.ob id ob (hne id ob hob)).1, (h.inv.ob id ob (hne id ob hob)).2.keep k (Nat.le_refl _) e.frz e.shape (fun _ _ _ _ => rfl)⟩,
    fun id id' ob ob' h1 h2 => h.inv.apart id id' ob ob' (hne _ _ h1) (hne _ _ h2), fun id ob hg => h.inv.free id ob (hne _ _ hg), h.inv.low⟩,
    h.ext, h.sub, h.only, fun id ob hg => h.own id ob (hne _ _ hg), h.glob⟩, k⟩
theorem killT_get : ∀ (l : List AV) (i : Nat) (live : List Nat) (j : Nat) (x : AV), (killT i live l)[j]? = some x → x = .dead ∨ l[j]? = some x
  | [], _, _, j, x, h => by simp [killT] at h
  | y :: l, i, [], 0, x, h => by simp [killT] at h; exact .inl h.symm
  | y :: l, i, [], j + 1, x, h => by
    simp only [killT, List.getElem?_cons_succ] at h ⊢; exact killT_get l _ _ j x h
  | y :: l, i, k :: ks, 0, x, h => by
    simp only [killT] at h; split at h
    · exact .inr (by simpa using h)
    · simp at h; exact .inl h.symm
  | y :: l, i, k :: ks, j + 1, x, h => by
    simp only [killT] at h; split at h
    · simp only [List.getElem?_cons_succ] at h ⊢; exact killT_get l _ _ j x h
    · simp only [List.getElem?_cons_succ] at h ⊢; exact killT_get l _ _ j x h
theorem killT_length : ∀ (l : List AV) (i : Nat) (live : List Nat), (killT i live l).length = l.length
  | [], _, _ => rfl
  | y :: l, i, [] => by simp [killT, killT_length l]
  | y :: l, i, k :: ks => by simp only [killT]; split <;> simp [killT_length l]
/-- below B -/
inductive Low (B : Nat) : AV → Prop
  | c (x : CV) : Low B (.c x)
  | t (id ver n : Nat) (h : ver < B) : Low B (.t id ver n)
  | p (id ver o : Nat) (h : ver < B) : Low B (.p id ver o)
  | tp (id ver i o : Nat) (h : ver < B) : Low B (.tp id ver i o)
  | agg (cs : List AV) (h : ∀ x ∈ cs, Low B x) : Low B (.agg cs)
  | tup (cs : List AV) (h : ∀ x ∈ cs, Low B x) : Low B (.tup cs)
  | dead : Low B .dead
theorem RelV.low {S : Area} {pl : Place} {w : World} {m : Mem} {x : AV} {u : Value} (h : RelV S pl w m x u) : Low m.clk x := by
  induction h with
  | c x u h => exact .c x
  | t id ver n b capn hv hn h => exact .t _ _ _ hv
  | p id ver off b o hv h => exact .p _ _ _ hv
  | tp id ver i off b o hv h => exact .tp _ _ _ _ hv
  | agg cs us hl h ih =>
    refine .agg _ fun x hx => ?_
    obtain ⟨i, hi⟩ := List.mem_iff_getElem?.1 hx
    have hlt := (List.getElem?_eq_some_iff.1 hi).1
    exact ih i x us[i] hi (List.getElem?_eq_getElem (by omega))
  | tup cs us hl h ih =>
    refine .tup _ fun x hx => ?_
    obtain ⟨i, hi⟩ := List.mem_iff_getElem?.1 hx
    have hlt := (List.getElem?_eq_some_iff.1 hi).1
    exact ih i x us[i] hi (List.getElem?_eq_getElem (by omega))
  | dead u => exact .dead
theorem getL_cn (B : Nat) (m : Mem) (caps : List Nat) (l : List (Nat × Ob)) (j : Nat) : getL (cnObs B m caps l) j = (getL l j).map (cnOb B m caps j) := by
  induction l with
  | nil => rfl
  | cons a r ih =>
    obtain ⟨k, p⟩ := a
    simp only [cnObs, getL, ih]
    by_cases h : j = k
    · subst h; simp
    · simp [h]
theorem get_canon (B : Nat) (caps : List Nat) (m : Mem) (j : Nat) : (m.canon B caps).get j = (m.get j).map (cnOb B m caps j) := getL_cn _ _ _ _ _
theorem cnL_get (B : Nat) (m : Mem) : ∀ (l : List AV) (i : Nat), (cnL B m l)[i]? = (l[i]?).map (cnA B m)
  | [], i => by simp [cnL]
  | x :: l, 0 => by simp [cnL]
  | x :: l, i + 1 => by simp only [cnL, List.getElem?_cons_succ]; exact cnL_get B m l i
theorem cnL_length (B : Nat) (m : Mem) : ∀ (l : List AV), (cnL B m l).length = l.length
  | [] => rfl
  | x :: l => by simp only [cnL, List.length_cons, cnL_length B m l]
theorem min_le (v B : Nat) : (bif Nat.ble v B then v else B) ≤ B := by
  cases h : Nat.ble v B
  · simp
  · simpa using h
/-- What a value says, under versions begun anew. -/
theorem RelV.canon {S : Area} {pl : Place} {w : World} {m : Mem} (B : Nat) (caps : List Nat) {x : AV} {u : Value} (h : RelV S pl w m x u) : RelV S pl w (m.canon B caps) (cnA B m x) u := by
  have hclk : (m.canon B caps).clk = B + 1 := rfl
  induction h with
  | c x u h => simp only [cnA]; exact .c x u h
  | t id ver n b capn hv hn h =>
    simp only [cnA]
    split
    · rename_i v sz es cap pub hg
      split
      · rename_i he
        have he := Nat.eq_of_beq_eq_true he; subst he
        obtain ⟨sz', es', cap', pub', e, heq, h1, h2, h3⟩ := h _ hg rfl
        refine .t id B n b capn (by rw [hclk]; omega) hn (fun ob hob _ => ?_)
        rw [get_canon, hg] at hob
        simp only [Option.map_some, cnOb, Option.some.injEq] at hob
        subst hob
        injection heq with q1 q2 q3 q4 q5; subst q2 q3 q4 q5
        exact ⟨_, _, _, _, e, rfl, h1, h2, h3⟩
      · exact .dead _
    · exact .dead _
  | p id ver off b o hv h =>
    simp only [cnA]
    split
    · rename_i v cs hg
      split
      · rename_i he
        have he := Nat.eq_of_beq_eq_true he; subst he
        obtain ⟨_, h2⟩ := h _ hg rfl
        refine .p id _ off b o (by rw [hclk]; have := min_le v B; omega) (fun ob hob _ => ?_)
        rw [get_canon, hg] at hob
        simp only [Option.map_some, cnOb, Option.some.injEq] at hob
        subst hob
        exact ⟨⟨_, rfl⟩, h2⟩
      · exact .dead _
    · exact .dead _
  | tp id ver i off b o hv h =>
    simp only [cnA]
    split
    · rename_i v sz es cap pub hg
      split
      · rename_i he
        have he := Nat.eq_of_beq_eq_true he; subst he
        obtain ⟨sz', es', cap', pub', heq, h1, h2, h3⟩ := h _ hg rfl
        refine .tp id B i off b o (by rw [hclk]; omega) (fun ob hob _ => ?_)
        rw [get_canon, hg] at hob
        simp only [Option.map_some, cnOb, Option.some.injEq] at hob
        subst hob
        injection heq with q1 q2 q3 q4 q5; subst q2 q3 q4 q5
        exact ⟨_, _, _, _, rfl, h1, h2, h3⟩
      · exact .dead _
    · exact .dead _
  | agg cs us hl h ih =>
    simp only [cnA]
    refine .agg _ us (by rw [cnL_length]; exact hl) (fun i x u hx hu => ?_)
    rw [cnL_get] at hx
    cases hy : cs[i]? with
    | none => rw [hy] at hx; simp at hx
    | some y => rw [hy] at hx; simp only [Option.map_some, Option.some.injEq] at hx; subst hx; exact ih i y u hy hu
  | tup cs us hl h ih =>
    simp only [cnA]
    refine .tup _ us (by rw [cnL_length]; exact hl) (fun i x u hx hu => ?_)
    rw [cnL_get] at hx
    cases hy : cs[i]? with
    | none => rw [hy] at hx; simp at hx
    | some y => rw [hy] at hx; simp only [Option.map_some, Option.some.injEq] at hx; subst hx; exact ih i y u hy hu
  | dead u => simp only [cnA]; exact .dead u
theorem min_lt {v ver B : Nat} (h : (bif Nat.ble v B then v else B) = ver) (hv : ver < B) : v = ver := by
  cases hb : Nat.ble v B
  · rw [hb] at h; simp at h; omega
  · rw [hb] at h; simpa using h
/-- What was pinned below B stays. -/
theorem RelV.canonLow {S : Area} {pl : Place} {w : World} {m : Mem} (B : Nat) (caps : List Nat) {x : AV} {u : Value} (h : RelV S pl w m x u) (hl : Low B x) : RelV S pl w (m.canon B caps) x u := by
  have hclk : (m.canon B caps).clk = B + 1 := rfl
  induction h with
  | c x u h => exact .c x u h
  | t id ver n b capn hv hn h =>
    cases hl with | t _ _ _ hl =>
    refine .t id ver n b capn (by rw [hclk]; omega) hn (fun ob hob he => ?_)
    rw [get_canon] at hob
    cases hg : m.get id with
    | none => rw [hg] at hob; simp at hob
    | some ob' =>
      rw [hg] at hob; simp only [Option.map_some, Option.some.injEq] at hob; subst hob
      cases ob' with
      | blk v cs =>
        simp only [cnOb, Ob.ver] at he
        have := min_lt he hl
        obtain ⟨_, _, _, _, _, q, _⟩ := h _ hg (by simpa [Ob.ver] using this)
        simp at q
      | arr v sz es cap pub => simp only [cnOb, Ob.ver] at he; omega
  | p id ver off b o hv h =>
    cases hl with | p _ _ _ hl =>
    refine .p id ver off b o (by rw [hclk]; omega) (fun ob hob he => ?_)
    rw [get_canon] at hob
    cases hg : m.get id with
    | none => rw [hg] at hob; simp at hob
    | some ob' =>
      rw [hg] at hob; simp only [Option.map_some, Option.some.injEq] at hob; subst hob
      cases ob' with
      | blk v cs =>
        simp only [cnOb, Ob.ver] at he
        have hv' := min_lt he hl
        obtain ⟨_, h2⟩ := h _ hg (by simpa [Ob.ver] using hv')
        exact ⟨⟨cnL B m cs, by simp only [cnOb, he]⟩, h2⟩
      | arr v sz es cap pub => simp only [cnOb, Ob.ver] at he; omega
  | tp id ver i off b o hv h =>
    cases hl with | tp _ _ _ _ hl =>
    refine .tp id ver i off b o (by rw [hclk]; omega) (fun ob hob he => ?_)
    rw [get_canon] at hob
    cases hg : m.get id with
    | none => rw [hg] at hob; simp at hob
    | some ob' =>
      rw [hg] at hob; simp only [Option.map_some, Option.some.injEq] at hob; subst hob
      cases ob' with
      | blk v cs =>
        simp only [cnOb, Ob.ver] at he
        have := min_lt he hl
        obtain ⟨_, _, _, _, q, _⟩ := h _ hg (by simpa [Ob.ver] using this)
        simp at q
      | arr v sz es cap pub => simp only [cnOb, Ob.ver] at he; omega
  | agg cs us hlen h ih =>
    cases hl with | agg _ hl =>
    exact .agg cs us hlen (fun i x u hx hu => ih i x u hx hu (hl x (List.mem_of_getElem? hx)))
  | tup cs us hlen h ih =>
    cases hl with | tup _ hl =>
    exact .tup cs us hlen (fun i x u hx hu => ih i x u hx hu (hl x (List.mem_of_getElem? hx)))
  | dead u => exact .dead u
theorem cnA_dead (B : Nat) (m : Mem) (x : AV) (h : (cnA B m x).isDead = false) : x.isDead = false := by
  cases x with
  | dead => simp [cnA, AV.isDead] at h
  | _ => rfl
theorem cnOb_foot {B : Nat} {m : Mem} {caps : List Nat} {i : Nat} {ob : Ob} {q : Nat × Nat} {b o : Nat} (h : (cnOb B m caps i ob).foot q b o) : ob.foot q b o := by
  cases ob with
  | arr v sz es cap pub => exact h
  | blk v cs =>
    obtain ⟨h1, j, x, hx, hd, ho⟩ := h
    rw [cnL_get] at hx
    cases hy : cs[j]? with
    | none => rw [hy] at hx; simp at hx
    | some y => rw [hy] at hx; simp only [Option.map_some, Option.some.injEq] at hx; subst hx; exact ⟨h1, j, y, hy, cnA_dead B m y hd, ho⟩
theorem St.canon {S : Area} {pl : Place} {w : World} {m : Mem} (h : St X S pl w m) (B : Nat) (caps : List Nat) : St X S pl w (m.canon B caps) := by
  have hget : ∀ id ob, (m.canon B caps).get id = some ob → ∃ ob', m.get id = some ob' ∧ ob = cnOb B m caps id ob' := fun id ob hg => by
    rw [get_canon] at hg
    cases hq : m.get id with
    | none => rw [hq] at hg; simp at hg
    | some ob' => rw [hq] at hg; simp only [Option.map_some, Option.some.injEq] at hg; exact ⟨ob', rfl, hg.symm⟩
  refine ⟨⟨fun id ob hob => ?_, fun id id' ob ob' h1 h2 hne b o hf => ?_, fun id ob hg b o hf => ?_, h.inv.low⟩, h.ext, h.sub, h.only, fun id ob hg b o hf => ?_, h.glob⟩
  · obtain ⟨ob', hg, rfl⟩ := hget id ob hob
    obtain ⟨hv, hok⟩ := h.inv.ob id ob' hg
    cases ob' with
    | blk v cs =>
      refine ⟨by have := min_le v B; show (bif Nat.ble v B then v else B) < B + 1; omega, ?_⟩
      obtain ⟨h1, h2, h3⟩ := hok
      refine ⟨h1, h2, fun j x hx => ?_⟩
      rw [cnL_get] at hx
      cases hy : cs[j]? with
      | none => rw [hy] at hx; simp at hx
      | some y =>
        rw [hy] at hx; simp only [Option.map_some, Option.some.injEq] at hx; subst hx
        obtain ⟨u, hc, hr⟩ := h3 j y hy
        exact ⟨u, hc, hr.canon B caps⟩
    | arr v sz es cap pub =>
      refine ⟨Nat.lt_succ_self _, ?_⟩
      obtain ⟨h0, h1, h2, ⟨e, capn, h3, h4, h5⟩, h6, h7⟩ := hok
      refine ⟨h0, h1, h2, ⟨e, capn, h3, h4, fun c hc => h5 c ?_⟩, h6, h7⟩
      revert hc
      cases caps.contains id <;> simp
  · obtain ⟨o1, g1, rfl⟩ := hget id ob h1
    obtain ⟨o2, g2, rfl⟩ := hget id' ob' h2
    exact fun hf2 => h.inv.apart id id' o1 o2 g1 g2 hne b o (cnOb_foot hf) (cnOb_foot hf2)
  · obtain ⟨o1, g1, rfl⟩ := hget id ob hg
    exact h.inv.free id o1 g1 b o (cnOb_foot hf)
  · obtain ⟨o1, g1, rfl⟩ := hget id ob hg
    exact h.own id o1 g1 b o (cnOb_foot hf)
theorem At.head {B : Nat} {tm : List AV} {m : Mem} {a : Act} {w : World} (h : At X pins tm m a w) (hl : ∀ p ∈ pins, Low B p.1) (live ids caps : List Nat) : At X pins (fgT B live ids tm m) (fgM B ids caps m) a w := by
  obtain ⟨S, pl, hs, ht, hp⟩ := h
  obtain ⟨h1, k⟩ := hs.keep ids
  refine ⟨S, pl, h1.canon B caps, ⟨ht.defers, ?_, fun i x hx => ?_⟩, fun p hq => ((hp p hq).mono k).canonLow B caps (hl p hq)⟩
  · rw [fgT, cnL_length, killT_length]; exact ht.size
  · unfold fgT at hx
    rw [cnL_get] at hx
    cases hy : (killT 0 live tm)[i]? with
    | none => rw [hy] at hx; simp at hx
    | some y =>
      rw [hy] at hx; simp only [Option.map_some, Option.some.injEq] at hx; subst hx
      rcases killT_get _ _ _ _ _ hy with rfl | hx
      · simp only [cnA]; exact .dead _
      · exact ((ht.rel i y hx).mono k).canon B caps

/-- Ways to leave, told alike. -/
def exOf : Exit → Option EX
  | .normal => some .norm
  | .ret => some .ret
  | .exit i => some (.ex i)
  | _ => none
def PostX (X : Ctx) (pins : List (AV × Value)) (K : KX) (e : Exit) (a : Act) (w : World) : Prop := ∃ ex tm m, exOf e = some ex ∧ K ex tm m ∧ At X pins tm m a w

theorem execW_sound {D : Spec} {B : Nat} (hl : ∀ p ∈ pins, Low B p.1) (hm : P.follows .mixedOrders = true) (hT : TabOk P T) (hD : ∀ f os Q, D f os Q → Den P X.G f os Q) (c : Code) : ∀ (tm : List AV) (m : Mem) (K : KX) (a : Act) (w : World), At X pins tm m a w → execW B T X.G D c tm m K → c.wp P (PostX X pins K) a w := by
  induction c with
  | skip => intro tm m K a w ha hk; exact wp_skip ⟨.norm, tm, m, rfl, hk, ha⟩
  | label l => intro tm m K a w ha hk; exact wp_label ⟨.norm, tm, m, rfl, hk, ha⟩
  | region id ops draw =>
    intro tm m K a w ha hk
    have joined : ∀ tm m a w, Join B (K .norm) tm m → At X pins tm m a w → PostX X pins K .normal a w := fun tm m a w h1 h2 => by
      rcases h1 with h1 | ⟨live, ids, caps, h1⟩
      · exact ⟨.norm, tm, m, rfl, h1, h2⟩
      · exact ⟨.norm, _, _, rfl, h1, h2.head hl live ids caps⟩
    cases draw with
    | false =>
      refine wp_region ?_
      rw [List.range_eq_range', ← Array.length_toList]
      cases hg : hasG ops.toList with
      | true =>
        simp only [execW, hg] at hk
        exact opsW_sound (P := P) hT hD (Q := PostX X pins K) ops.toList 0 tm m a w rfl ha hk joined
      | false =>
        simp only [execW, hg] at hk
        exact opsW_sound (P := P) hT hD (Q := PostX X pins K) ops.toList 0 tm m a w rfl ha hk (fun tm m a w h1 h2 => ⟨.norm, tm, m, rfl, h1, h2⟩)
    | true =>
      have hk' : drawnW T X.G D ops tm m (Join B (K .norm)) := hk
      unfold drawnW at hk'
      split at hk'
      · rename_i ord hns hord
        obtain ⟨wr, hk'⟩ := hk'
        obtain ⟨S, pl, hs, h, hpin⟩ := ha
        obtain ⟨hst, hkp⟩ := hs.draw (w.drawn + 1)
        exact wp_region_any hm (anyA_sound hT hD (fun tm m a w h1 h2 => joined tm m a w h1 h2) _ _ tm m a _ ⟨S, pl, hst, h.mono hkp, fun p hp => (hpin p hp).mono hkp⟩ (planW_any _ _ ord tm m hord (ClosedL.none _ _) hk'))
      · exact hk'.elim
  | seq x y ihx ihy =>
    intro tm m K a w ha hk
    refine wp_seq (wp_mono (ihx tm m _ a w ha hk) ?_)
    rintro e a w ⟨ex, tm, m, he, hk, ha⟩
    cases e <;> simp [exOf] at he <;> subst he
    · exact ihy tm m K a w ha hk
    · exact ⟨_, tm, m, rfl, hk, ha⟩
    · exact ⟨_, tm, m, rfl, hk, ha⟩
  | cond c x y ihx ihy =>
    intro tm m K a w ha hk
    obtain ⟨S, pl, hs, h, hpin⟩ := ha
    obtain ⟨b, hb, h1, h2⟩ := condB_sound (evO_sound hs h 0 c) hk
    have post : ∀ e a w, PostX X pins (fun e tm m => match e with | .norm => Join B (K .norm) tm m | .ret => K .ret tm m | .ex i => K (.ex i) tm m) e a w → PostX X pins K e a w := by
      rintro e a w ⟨ex, tm, m, he, hk, ha⟩
      cases ex with
      | norm =>
        rcases hk with hk | ⟨live, ids, caps, hk⟩
        · exact ⟨_, tm, m, he, hk, ha⟩
        · exact ⟨_, _, _, he, hk, ha.head hl live ids caps⟩
      | ret => exact ⟨_, tm, m, he, hk, ha⟩
      | ex i => exact ⟨_, tm, m, he, hk, ha⟩
    exact wp_cond_split hb (fun e => wp_mono (ihx tm m _ a w ⟨S, pl, hs, h, hpin⟩ (h1 e)) post) (fun e => wp_mono (ihy tm m _ a w ⟨S, pl, hs, h, hpin⟩ (h2 e)) post)
  | block id c ih =>
    intro tm m K a w ha hk
    refine wp_block (wp_mono (ih tm m _ a w ha hk) ?_)
    rintro e a w ⟨ex, tm, m, he, hk, ha⟩
    cases e <;> simp [exOf] at he <;> subst he
    · exact ⟨_, tm, m, rfl, hk, ha⟩
    · rename_i i
      simp only [Exit.inBlock]
      by_cases hi : i = id
      · simp only [hi, if_true] at hk ⊢; exact ⟨_, tm, m, rfl, hk, ha⟩
      · simp only [hi, if_false] at hk ⊢; exact ⟨_, tm, m, rfl, hk, ha⟩
    · exact ⟨_, tm, m, rfl, hk, ha⟩
  | loop c ih =>
    intro tm m K a w ha hk
    obtain ⟨live, ids, caps, n, hk⟩ := hk
    refine wp_loop_rounds n ?_
    induction n generalizing tm m a w with
    | zero => exact hk.elim
    | succ n ihn =>
      rw [rounds_succ]
      refine wp_mono (ih _ _ _ a w (ha.head hl live ids caps) hk) ?_
      rintro e a w ⟨ex, tm, m, he, hk, ha⟩
      cases e <;> simp [exOf] at he <;> subst he
      · exact ihn tm m a w ha hk
      · exact ⟨_, tm, m, rfl, hk, ha⟩
      · exact ⟨_, tm, m, rfl, hk, ha⟩
  | exit id => intro tm m K a w ha hk; exact wp_exit ⟨.ex id, tm, m, rfl, hk, ha⟩
  | ret => intro tm m K a w ha hk; exact wp_ret ⟨.ret, tm, m, rfl, hk, ha⟩
  | _ => intro tm m K a w ha hk; exact hk.elim
end
end Go.Proofs.Ythncmjlcmlmnmaa.V
