/- A function's contract, out of its abstract execution. Conditions: none. -/
import Derived.Test.YthncmjlcmlmnmaaV16
namespace Go.Proofs.Ythncmjlcmlmnmaa.V
open Go Go.RowKit
section
variable {P : Program} {T : Tab} {X : Ctx}

theorem resultsW_sound (hT : TabOk P T) {S : Area} {pl : Place} {w : World} {m : Mem} {tm : List AV} {a : Act} (hs : St X S pl w m) (h : TmR S pl w m tm a) : ∀ (rs : List ResultVar) {K : List AV → Prop}, resultsW T tm m rs K →
    ∃ xs us, K xs ∧ us.length = xs.length ∧ (rs.mapM fun r => (match r with | .tmp t => pure (a.tmps.getD t undef) | .cell ad t => do loadVar t (← asAddr (a.tmps.getD ad undef)) : Sem Value)).run P w = .ok us w ∧ ∀ (j : Nat) x u, xs[j]? = some x → us[j]? = some u → RelV S pl w m x u
  | [], K, hk => ⟨[], [], hk, rfl, rfl, fun j x u hx => by simp at hx⟩
  | .tmp t :: rs, K, hk => by
    obtain ⟨xs, us, h1, h2, h3, h4⟩ := resultsW_sound hT hs h rs hk
    refine ⟨_, a.tmps.getD t undef :: us, h1, by simp [h2], ?_, fun j x u hx hu => ?_⟩
    · rw [List.mapM_cons]
      simp only [Sem.run_bind, Sem.run_pure, Result.andThen_ok, h3]
    · cases j with
      | succ j => exact h4 j x u (by simpa using hx) (by simpa using hu)
      | zero => simp at hx hu; subst hx hu; have := evO_sound (T := T) hs h 0 (.tmp t); simpa [evO, Act.eval] using this
  | .cell ad t :: rs, K, hk => by
    simp only [resultsW] at hk
    split at hk
    · exact hk.elim
    · rename_i s hs2
      obtain ⟨u, y, h1, h2, h3⟩ := loadW_sound0 (P := P) (K := fun x _ => resultsW T tm m rs fun l => K (x :: l)) hT hs hs2 (evO_sound (T := T) hs h 0 (.tmp ad)) hk
      obtain ⟨xs, us, g1, g2, g3, g4⟩ := resultsW_sound hT hs h rs h2
      have hrun : (do loadVar t (← asAddr (a.tmps.getD ad undef)) : Sem Value).run P w = .ok u w := by
        simp only [Act.eval] at h1
        generalize a.tmps.getD ad undef = q at h1 ⊢
        cases q with
        | pointer p =>
          cases p with
          | some p => exact h1
          | none => simp [Instr.loadAt, Instr.sureAddr, stuck] at h1
        | _ => simp [Instr.loadAt, Instr.sureAddr, stuck] at h1
      refine ⟨y :: xs, u :: us, g1, by simp [g2], ?_, fun j x v hx hu => ?_⟩
      · rw [List.mapM_cons]
        simp only [Sem.run_bind] at hrun ⊢
        simp only [hrun, Result.andThen_ok, g3, Sem.run_pure]
      · cases j with
        | succ j => exact g4 j x v (by simpa using hx) (by simpa using hu)
        | zero => simp at hx hu; subst hx hu; exact h3

def oneV : List Value → Value
  | [u] => u
  | l => .tuple l.toArray
theorem results_run {fn : Func} {a : Act} {w : World} {us : List Value} (h : (fn.results.toList.mapM fun r => (match r with | .tmp t => pure (a.tmps.getD t undef) | .cell ad t => do loadVar t (← asAddr (a.tmps.getD ad undef)) : Sem Value)).run P w = .ok us w) :
    (results fn a.tmps).run P w = .ok (oneV us) w := by
  unfold results
  rw [Array.mapM_eq_mapM_toList]
  simp only [Sem.run_bind, Sem.run_map]
  generalize hq : Sem.run P (List.mapM _ _) w = q
  have hq2 : q = .ok us w := hq.symm.trans h
  subst hq2
  simp only [Result.andThen_ok, Sem.run_pure]
  match us with
  | [] => rfl
  | [u] => rfl
  | u :: v :: r => simp [oneV]

/-- What the pointers that came in lead to, packed again. -/
theorem outsW_sound {w : World} : ∀ (os : List OV) (xs : List AV) (us : List Value) {S : Area} {pl : Place} {m : Mem} {K : List OV → Mem → Prop}, St X S pl w m → os.length = us.length → (∀ (j : Nat) x u, xs[j]? = some x → us[j]? = some u → RelV S pl w m x u) → outsW m os xs K →
    ∃ S' bs m' F, K bs m' ∧ OwnP S' w F os us bs ∧ Packed X S S' pl w m m' F
  | [], _, [], S, pl, m, K, h, _, _, hk => ⟨S, [], m, _, by simpa only [outsW] using hk, .nil, ⟨h, Keeps.refl _ _ _ _, Shrinks.refl _ _ _, fun _ _ q => q.elim, fun _ _ q => q.elim⟩⟩
  | [], _, _ :: _, _, _, _, _, _, hl, _, _ => by simp at hl
  | _ :: _, _, [], _, _, _, _, _, hl, _, _ => by simp at hl
  | o :: os, xs, u :: us, S, pl, m, K, h, hl, hr, hk => by
    have skip : (∀ cs, o ≠ .ptr cs) → (outsW m os xs.tail fun l m => K (o :: l) m) → ∃ S' bs m' F, K bs m' ∧ OwnP S' w F (o :: os) (u :: us) bs ∧ Packed X S S' pl w m m' F := fun hn hk => by
      obtain ⟨S', bs, m', F, h1, h2, h3⟩ := outsW_sound os xs.tail us h (by simpa using hl) (fun j x v hx hv => hr (j + 1) x v (by rw [List.getElem?_tail] at hx; exact hx) (by simpa using hv)) hk
      exact ⟨S', _, m', F, h1, .skip o o u os us bs F hn h2, h3⟩
    cases o with
    | ptr cs0 =>
      cases xs with
      | nil => simp [outsW] at hk
      | cons x xs =>
        cases x with
        | p id ver off =>
          cases off with
          | succ off => simp [outsW] at hk
          | zero =>
            simp only [outsW] at hk
            split at hk
            · rename_i v cs hg
              obtain ⟨rfl, hk⟩ := hk
              have hrel := hr 0 _ u rfl rfl
              cases hrel with | p _ _ _ b q hv hrel =>
              obtain ⟨_, hb⟩ := hrel _ hg rfl
              obtain ⟨hv', h1, h2, hrow⟩ := h.inv.ob id _ hg
              obtain ⟨vs, hul, huc, hur⟩ := hrow.list
              have hb1 : (pl id).1 = b := by rw [← hb]
              have hb2 : (pl id).2 = q := by rw [← hb]
              obtain ⟨hst, hkp⟩ := h.del id
              obtain ⟨f1, f2⟩ := feet_del h.inv hg
              obtain ⟨hlive, _⟩ := packLW_ex (packW_ex depth) cs hk
              obtain ⟨S1, ps, m1, F1, hk1, ho, hp⟩ := packLW_sound (packW_sound depth) cs vs hst hul (fun j x u hx hu => (hur j x u hx hu).mono hkp) hk
              have hreg : ∀ b' o', (b' = b ∧ q ≤ o' ∧ o' < q + vs.length) → (Ob.blk v cs).foot (pl id) b' o' := fun b' o' ⟨q1, q2, q3⟩ => by
                have hj : o' - q < cs.length := by omega
                have hx : cs[o' - q]? = some cs[o' - q] := List.getElem?_eq_getElem hj
                exact ⟨by rw [q1, hb1], o' - q, _, hx, hlive _ (List.mem_of_getElem? hx), by rw [hb2]; omega⟩
              rw [hb1] at h1 h2 huc
              rw [hb2] at huc
              have hown : Own S1 w _ (.ptr ps) (.pointer (some ⟨b, q, none⟩)) := .ptr ps vs b q F1 ho h1 h2 huc (fun b' o' q1 q2 => (f2 b' o' (hreg b' o' q2)).2 (hp.off b' o' q1).1)
              have kp1 := hkp.trans hp.kp
              obtain ⟨S2, bs, m2, F2, hk2, ho2, p2⟩ := outsW_sound os xs us hp.st (by simpa using hl) (fun j x v hx hv => (hr (j + 1) x v (by simpa using hx) (by simpa using hv)).mono kp1) hk1
              have hoff : ∀ b' o', (F1 b' o' ∨ b' = b ∧ q ≤ o' ∧ o' < q + vs.length) → Feet pl m b' o' ∧ ¬ Feet pl m1 b' o' ∧ ¬ S1 b' o' := fun b' o' q1 => by
                rcases q1 with q1 | q1
                · exact ⟨f1 _ _ (hp.off b' o' q1).1, (hp.off b' o' q1).2, hp.no b' o' q1⟩
                · obtain ⟨g1, g2⟩ := f2 b' o' (hreg b' o' q1)
                  exact ⟨g1, fun q' => g2 (hp.sh.feet _ _ q'), fun hs => (hp.sh.grow b' o' hs).elim (h.inv.free id _ hg b' o' (hreg b' o' q1)) g2⟩
              refine ⟨S2, _, m2, _, hk2, .ptr cs0 ps _ os us bs _ F2 (hown.keep (p2.still _)) ho2 (fun b' o' q1 q2 => (hoff b' o' q1).2.1 (p2.off b' o' q2).1), p2.st, kp1.trans p2.kp, ⟨fun b' o' hs => ?_, fun b' o' hf => f1 _ _ (hp.sh.feet _ _ (p2.sh.feet _ _ hf))⟩, fun b' o' q1 => ?_, fun b' o' q1 => ?_⟩
              · rcases p2.sh.grow b' o' hs with g | g
                · exact (hp.sh.grow b' o' g).imp (fun q => q) (f1 b' o')
                · exact .inr (f1 _ _ (hp.sh.feet _ _ g))
              · rcases q1 with q1 | q1
                · exact ⟨(hoff b' o' q1).1, fun q' => (hoff b' o' q1).2.1 (p2.sh.feet _ _ q')⟩
                · exact ⟨f1 _ _ (hp.sh.feet _ _ (p2.off b' o' q1).1), (p2.off b' o' q1).2⟩
              · rcases q1 with q1 | q1
                · exact fun hs => (p2.sh.grow b' o' hs).elim (hoff b' o' q1).2.2 (hoff b' o' q1).2.1
                · exact p2.no b' o' q1
            · exact hk.elim
        | _ => simp [outsW] at hk
    | c y => exact skip (by simp) (by simpa only [outsW] using hk)
    | arr sz es cap pub n => exact skip (by simp) (by simpa only [outsW] using hk)
    | agg cs => exact skip (by simp) (by simpa only [outsW] using hk)
    | tup cs => exact skip (by simp) (by simpa only [outsW] using hk)

theorem oneOf_rel {S : Area} {pl : Place} {w : World} {m : Mem} : ∀ (xs : List AV) (us : List Value), us.length = xs.length → (∀ (j : Nat) x u, xs[j]? = some x → us[j]? = some u → RelV S pl w m x u) → RelV S pl w m (oneOf xs) (oneV us)
  | [], [], h, hr => .tup [] [] h hr
  | [x], [u], _, hr => hr 0 x u rfl rfl
  | x :: y :: r, u :: v :: s, h, hr => .tup _ _ h hr
  | [], _ :: _, h, _ => by simp at h
  | _ :: _, [], h, _ => by simp at h
  | [_], _ :: _ :: _, h, _ => by simp at h
  | _ :: _ :: _, [_], h, _ => by simp at h

theorem shutA_sound {S : Area} {pl : Place} {w : World} {m : Mem} (h : St X S pl w m) {x : AV} {u : Value} (hr : RelV S pl w m x u) {K : AV → Mem → Prop} (hk : shutA m x K) :
    ∃ S' y m', K y m' ∧ RelV S' pl w m' y u ∧ St X S' pl w m' ∧ Keeps S S' pl pl w w m m' := by
  cases x with
  | agg cs =>
    cases hr with | agg _ us hl hr =>
    obtain ⟨S', ys, m', h1, h2, h3, h4, h5⟩ := closeL_sound cs us h hl hr hk
    refine ⟨S', _, m', h1, .agg _ us (by simp [h2, hl]) (fun i x u hx hu => ?_), h4, h5⟩
    rw [List.getElem?_map] at hx
    cases hy : ys[i]? with
    | none => rw [hy] at hx; simp at hx
    | some y => rw [hy] at hx; simp at hx; subst hx; exact .c _ _ (h3 i y u hy hu)
  | c x => cases hr with | c _ _ hr => exact ⟨S, _, m, hk, .c _ _ hr.norm, h, Keeps.refl _ _ _ _⟩
  | t id ver n =>
    obtain ⟨S', y, m', h1, h2, h3, h4⟩ := closeA_sound (K := fun y m => K (.c y) m) h hr hk
    exact ⟨S', _, m', h1, .c _ _ h2, h3, h4⟩
  | p => exact ⟨S, _, m, hk, hr, h, Keeps.refl _ _ _ _⟩
  | tp => exact ⟨S, _, m, hk, hr, h, Keeps.refl _ _ _ _⟩
  | tup => exact ⟨S, _, m, hk, hr, h, Keeps.refl _ _ _ _⟩
  | dead => exact ⟨S, _, m, hk, hr, h, Keeps.refl _ _ _ _⟩
theorem shutAs_sound {w : World} : ∀ (xs : List AV) (us : List Value) {S : Area} {pl : Place} {m : Mem} (_ : St X S pl w m) (_ : us.length = xs.length) (_ : ∀ (j : Nat) x u, xs[j]? = some x → us[j]? = some u → RelV S pl w m x u)
    {K : List AV → Mem → Prop} (_ : shutAs m xs K), ∃ S' ys m', K ys m' ∧ ys.length = xs.length ∧ (∀ (j : Nat) y u, ys[j]? = some y → us[j]? = some u → RelV S' pl w m' y u) ∧ St X S' pl w m' ∧ Keeps S S' pl pl w w m m'
  | [], _, S, _, m, h, _, _, K, hk => ⟨S, [], m, hk, rfl, fun j y u hy => by simp at hy, h, Keeps.refl _ _ _ _⟩
  | x :: xs, [], _, _, _, _, hl, _, _, _ => by simp at hl
  | x :: xs, u :: us, S, pl, m, h, hl, hr, K, hk => by
    obtain ⟨S1, y, m1, hk1, hy, h1, k1⟩ := shutA_sound h (hr 0 x u rfl rfl) hk
    obtain ⟨S2, ys, m2, hk2, hlen, hys, h2, k2⟩ := shutAs_sound xs us h1 (by simpa using hl) (fun j x u hx hu => (hr (j + 1) x u hx hu).mono k1) hk1
    refine ⟨S2, y :: ys, m2, hk2, by simp [hlen], fun j y' u' hy' hu' => ?_, h2, k1.trans k2⟩
    cases j with
    | zero => simp at hy' hu'; subst hy' hu'; exact hy.mono k2
    | succ j => exact hys j y' u' (by simpa using hy') (by simpa using hu')
theorem shutIf_sound {w : World} (sh : Bool) (xs : List AV) (us : List Value) {S : Area} {pl : Place} {m : Mem} (h : St X S pl w m) (hl : us.length = xs.length) (hr : ∀ (j : Nat) x u, xs[j]? = some x → us[j]? = some u → RelV S pl w m x u)
    {K : List AV → Mem → Prop} (hk : shutIf sh m xs K) : ∃ S' ys m', K ys m' ∧ ys.length = xs.length ∧ (∀ (j : Nat) y u, ys[j]? = some y → us[j]? = some u → RelV S' pl w m' y u) ∧ St X S' pl w m' ∧ Keeps S S' pl pl w w m m' := by
  cases sh with
  | true => exact shutAs_sound xs us h hl hr hk
  | false => exact ⟨S, xs, m, hk, rfl, hr, h, Keeps.refl _ _ _ _⟩

/-- THE CONTRACT OF A FUNCTION, OUT OF ITS ABSTRACT EXECUTION. -/
theorem den_of (hm : P.follows .mixedOrders = true) (hT : TabOk P T) {G : Glob} {D : Spec} (hD : ∀ f os Q, D f os Q → Den P G f os Q) {f : FuncId} {fn : Func} {body : Code} (hf : P.funcs[f]? = some fn) (hb : fn.body = some body) (hname : (fn.name == "runtime.NumGoroutine") = false)
    {os : List OV} {Q : OV → List OV → Prop} (hlen : os.length ≤ fn.ntmps) {sh : Bool} (hk : FnW T G D fn body os Q sh) : Den P G f os Q := by
  refine ⟨⟨fn, hf, by rw [hb]; rfl, hname⟩, fun S F w us hS hF hG ho => ?_⟩
  let X : Ctx := ⟨S, F, w, G⟩
  have hus := ho.length
  have st0 : St X S (fun _ => (0, 0)) w ⟨[], 0⟩ := ⟨⟨fun id ob h => by simp [Mem.get, getL] at h, fun id id' ob ob' h => by simp [Mem.get, getL] at h, fun id ob h => by simp [Mem.get, getL] at h, hS⟩,
    Ext.refl _ _, fun _ _ h => h, fun b o h => .inl h, fun id ob h => by simp [Mem.get, getL] at h, hG⟩
  obtain ⟨pl, l1, r1⟩ := unpackL_sound (X := X) (unpack_sound depth) os us 0 st0 ho (fun b o hf => ⟨.inl hf, (hF b o hf).2, fun ⟨id, ob, hg, _⟩ => by simp [Mem.get, getL] at hg⟩)
  unfold FnW at hk
  dsimp only at hk
  have hul := unpackL_length (unpack depth) os 0 ⟨[], 0⟩
  generalize hu : unpackL (unpack depth) 0 ⟨[], 0⟩ os = U at l1 r1 hk hul
  refine calls_of_wp hf hb ?_
  have tm0 : TmR S pl w U.2.2 (U.1 ++ List.replicate (fn.ntmps - os.length) .dead) { tmps := us.toArray ++ Array.replicate (fn.ntmps - us.toArray.size) undef, defers := [] } := by
    refine ⟨rfl, by simp; omega, fun i x hx => ?_⟩
    by_cases hi : i < U.1.length
    · rw [List.getElem?_append_left hi] at hx
      have hiu : i < us.length := by omega
      have hui : us[i]? = some us[i] := List.getElem?_eq_getElem hiu
      have := r1 i x _ hx hui
      rw [Array.getD_eq_getD_getElem?, Array.getElem?_append_left (by simpa using hiu)]
      simpa [hui] using this
    · rw [List.getElem?_append_right (by omega), List.getElem?_replicate] at hx
      split at hx
      · injection hx with hx; subst hx; exact .dead _
      · simp at hx
  have hlow : ∀ p ∈ U.1.zip us, Low U.2.2.clk p.1 := fun p hp => by
    obtain ⟨j, hj⟩ := List.mem_iff_getElem?.1 hp
    rw [List.getElem?_zip_eq_some] at hj
    exact (r1 j p.1 p.2 hj.1 hj.2).low
  refine wp_mono (execW_sound (pins := U.1.zip us) (B := U.2.2.clk) hlow hm hT hD body _ _ _ _ w ⟨S, pl, l1.st, tm0, fun p hp => by
    obtain ⟨j, hj⟩ := List.mem_iff_getElem?.1 hp
    rw [List.getElem?_zip_eq_some] at hj
    exact r1 j p.1 p.2 hj.1 hj.2⟩ hk) ?_
  rintro e a w' ⟨ex, tm, m, he, hk, S2, pl2, hst, htm, hpin⟩
  have fin : (resultsW T tm m fn.results.toList fun rs => shutIf sh m rs fun rs m => packW depth m (oneOf rs) fun r m => outsW m os U.1 fun bs _ => Q r bs) → a.defers = [] ∧ ∃ v, (results fn a.tmps).run P w' = .ok v w' ∧
      ∃ v_1 r bs S' Fr Fb, Ending.returned v = .returned v_1 ∧ Q r bs ∧ Own S' w' Fr r v_1 ∧ OwnP S' w' Fb os us bs ∧ Ended S F w w' S' Fr Fb := fun hk => by
    obtain ⟨xs0, vs, h1, h2, h3, h4⟩ := resultsW_sound hT hst htm fn.results.toList hk
    obtain ⟨S2, xs, m, h1, hlen, h4, hst, hks⟩ := shutIf_sound sh xs0 vs hst h2 h4 h1
    replace h2 : vs.length = xs.length := by omega
    replace hpin := fun p hp => (hpin p hp).mono hks
    refine ⟨htm.defers, _, results_run h3, ?_⟩
    obtain ⟨S3, r, m3, Fr, hk3, hor, p3⟩ := packW_sound depth hst (oneOf_rel xs vs h2 h4) h1
    obtain ⟨S4, bs, m4, Fb, hq, hob, p4⟩ := outsW_sound os U.1 us p3.st (by omega) (fun j x u hx hu => (hpin (x, u) (List.mem_of_getElem? (i := j) (by rw [List.getElem?_zip_eq_some]; exact ⟨hx, hu⟩))).mono p3.kp) hk3
    have hmine : ∀ b o, Feet pl2 m b o → F b o ∨ w.heap.size ≤ b := fun b o ⟨id, ob, hg, hf⟩ => hst.own id ob hg b o hf
    refine ⟨_, r, bs, S4, Fr, Fb, rfl, hq, hor.keep (p4.still _), hob, ⟨p4.st.ext, p4.st.sub, fun b o hs => ⟨p4.st.inv.low b o hs, p4.st.only b o hs⟩, fun b o h1 h2 => (p3.off b o h1).2 (p4.off b o h2).1, fun b o h => ?_⟩⟩
    rcases h with h | h
    · exact ⟨fun hs => (p4.sh.grow b o hs).elim (p3.no b o h) (p3.off b o h).2, hmine b o (p3.off b o h).1⟩
    · exact ⟨p4.no b o h, hmine b o (p3.sh.feet _ _ (p4.off b o h).1)⟩
  cases e <;> simp [exOf] at he <;> subst he
  · exact fin hk
  · exact hk.elim
  · exact fin hk
end
end Go.Proofs.Ythncmjlcmlmnmaa.V
