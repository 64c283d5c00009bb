/- A function's contract, out of its abstract execution. Conditions: none. -/
import Derived.Test.YthncmjlcmlmnmaaCR7
namespace Go.Proofs.Ythncmjlcmlmnmaa.V
open Go Go.RowKit
section
variable {P : Program} {T : Tab} {X : Ctx}

theorem resultsW_sound (hT : TabOk P T) {S : Area} {pl : Place} {w : World} {m : Mem} {tm : List AV} {a : Act} (hs : St X S pl w m) (h : TmR S pl w m tm a) : ∀ (rs : List ResultVar) {K : List AV → Prop}, resultsW T tm m rs K →
    ∃ xs us, K xs ∧ us.length = xs.length ∧ (rs.mapM fun r => (match r with | .tmp t => pure (a.tmps.getD t undef) | .cell ad t => do loadVar t (← asAddr (a.tmps.getD ad undef)) : Sem Value)).run P w = .ok us w ∧ ∀ (j : Nat) x u, xs[j]? = some x → us[j]? = some u → RelV S pl w m x u
  | [], K, hk => ⟨[], [], hk, rfl, rfl, fun j x u hx => by simp at hx⟩
  | .tmp t :: rs, K, hk => by
    obtain ⟨xs, us, h1, h2, h3, h4⟩ := resultsW_sound hT hs h rs hk
    refine ⟨_, a.tmps.getD t undef :: us, h1, by simp [h2], ?_, fun j x u hx hu => ?_⟩
    · rw [List.mapM_cons]
      simp only [Sem.run_bind, Sem.run_pure, Result.andThen_ok, h3]
    · cases j with
      | succ j => exact h4 j x u (by simpa using hx) (by simpa using hu)
      | zero => simp at hx hu; subst hx hu; have := evO_sound (T := T) hs h 0 (.tmp t); simpa [evO, Act.eval] using this
  | .cell ad t :: rs, K, hk => by
    simp only [resultsW] at hk
    split at hk
    · exact hk.elim
    · rename_i s hs2
      obtain ⟨u, y, h1, h2, h3⟩ := loadW_sound0 (P := P) (K := fun x _ => resultsW T tm m rs fun l => K (x :: l)) hT hs hs2 (evO_sound (T := T) hs h 0 (.tmp ad)) hk
      obtain ⟨xs, us, g1, g2, g3, g4⟩ := resultsW_sound hT hs h rs h2
      have hrun : (do loadVar t (← asAddr (a.tmps.getD ad undef)) : Sem Value).run P w = .ok u w := by
        simp only [Act.eval] at h1
        generalize a.tmps.getD ad undef = q at h1 ⊢
        cases q with
        | pointer p =>
          cases p with
          | some p => exact h1
          | none => simp [Instr.loadAt, Instr.sureAddr, stuck] at h1
        | _ => simp [Instr.loadAt, Instr.sureAddr, stuck] at h1
      refine ⟨y :: xs, u :: us, g1, by simp [g2], ?_, fun j x v hx hu => ?_⟩
      · rw [List.mapM_cons]
        simp only [Sem.run_bind] at hrun ⊢
        simp only [hrun, Result.andThen_ok, g3, Sem.run_pure]
      · cases j with
        | succ j => exact g4 j x v (by simpa using hx) (by simpa using hu)
        | zero => simp at hx hu; subst hx hu; exact h3

def oneV : List Value → Value
  | [u] => u
  | l => .tuple l.toArray
theorem results_run {fn : Func} {a : Act} {w : World} {us : List Value} (h : (fn.results.toList.mapM fun r => (match r with | .tmp t => pure (a.tmps.getD t undef) | .cell ad t => do loadVar t (← asAddr (a.tmps.getD ad undef)) : Sem Value)).run P w = .ok us w) :
    (results fn a.tmps).run P w = .ok (oneV us) w := by
  unfold results
  rw [Array.mapM_eq_mapM_toList]
  simp only [Sem.run_bind, Sem.run_map]
  generalize hq : Sem.run P (List.mapM _ _) w = q
  have hq2 : q = .ok us w := hq.symm.trans h
  subst hq2
  simp only [Result.andThen_ok, Sem.run_pure]
  match us with
  | [] => rfl
  | [u] => rfl
  | u :: v :: r => simp [oneV]

/-- What the pointers that came in lead to, packed again. -/
theorem outsW_sound {w : World} : ∀ (os : List OV) (xs : List AV) (us : List Value) {S : Area} {pl : Place} {m : Mem} {K : List OV → Mem → Prop}, St X S pl w m → os.length = us.length → (∀ (j : Nat) x u, xs[j]? = some x → us[j]? = some u → RelV S pl w m x u) → outsW m os xs K →
    ∃ S' bs m' F, K bs m' ∧ OwnP S' w F os us bs ∧ Packed X S S' pl w m m' F
  | [], _, [], S, pl, m, K, h, _, _, hk => ⟨S, [], m, _, by simpa only [outsW] using hk, .nil, ⟨h, Keeps.refl _ _ _ _, Shrinks.refl _ _ _, fun _ _ q => q.elim, fun _ _ q => q.elim⟩⟩
  | [], _, _ :: _, _, _, _, _, _, hl, _, _ => by simp at hl
  | _ :: _, _, [], _, _, _, _, _, hl, _, _ => by simp at hl
  | o :: os, xs, u :: us, S, pl, m, K, h, hl, hr, hk => by
    have skip : (∀ cs, o ≠ .ptr cs) → (outsW m os xs.tail fun l m => K (o :: l) m) → ∃ S' bs m' F, K bs m' ∧ OwnP S' w F (o :: os) (u :: us) bs ∧ Packed X S S' pl w m m' F := fun hn hk => by
      obtain ⟨S', bs, m', F, h1, h2, h3⟩ := outsW_sound os xs.tail us h (by simpa using hl) (fun j x v hx hv => hr (j + 1) x v (by rw [List.getElem?_tail] at hx; exact hx) (by simpa using hv)) hk
      exact ⟨S', _, m', F, h1, .skip o o u os us bs F hn h2, h3⟩
    cases o with
    | ptr cs0 =>
      cases xs with
      | nil => simp [outsW] at hk
      | cons x xs =>
        cases x with
        | p id ver off =>
          cases off with
          | succ off => simp [outsW] at hk
          | zero =>
            simp only [outsW] at hk
            split at hk
            · rename_i v cs hg
              obtain ⟨rfl, hk⟩ := hk
              have hrel := hr 0 _ u rfl rfl
              cases hrel with | p _ _ _ b q hv hrel =>
              obtain ⟨_, hb⟩ := hrel _ hg rfl
              obtain ⟨hv', h1, h2, hrow⟩ := h.inv.ob id _ hg
              obtain ⟨vs, hul, huc, hur⟩ := hrow.list
              have hb1 : (pl id).1 = b := by rw [← hb]
              have hb2 : (pl id).2 = q := by rw [← hb]
              obtain ⟨hst, hkp⟩ := h.del id
              obtain ⟨f1, f2⟩ := feet_del h.inv hg
              obtain ⟨hlive, _⟩ := packLW_ex (packW_ex depth) cs hk
              obtain ⟨S1, ps, m1, F1, hk1, ho, hp⟩ := packLW_sound (packW_sound depth) cs vs hst hul (fun j x u hx hu => (hur j x u hx hu).mono hkp) hk
              have hreg : ∀ b' o', (b' = b ∧ q ≤ o' ∧ o' < q + vs.length) → (Ob.blk v cs).foot (pl id) b' o' := fun b' o' ⟨q1, q2, q3⟩ => by
                have hj : o' - q < cs.length := by omega
                have hx : cs[o' - q]? = some cs[o' - q] := List.getElem?_eq_getElem hj
                exact ⟨by rw [q1, hb1], o' - q, _, hx, hlive _ (List.mem_of_getElem? hx), by rw [hb2]; omega⟩
              rw [hb1] at h1 h2 huc
              rw [hb2] at huc
              have hown : Own S1 w _ (.ptr ps) (.pointer (some ⟨b, q, none⟩)) := .ptr ps vs b q F1 ho h1 h2 huc (fun b' o' q1 q2 => (f2 b' o' (hreg b' o' q2)).2 (hp.off b' o' q1).1)
              have kp1 := hkp.trans hp.kp
              obtain ⟨S2, bs, m2, F2, hk2, ho2, p2⟩ := outsW_sound os xs us hp.st (by simpa using hl) (fun j x v hx hv => (hr (j + 1) x v (by simpa using hx) (by simpa using hv)).mono kp1) hk1
              have hoff : ∀ b' o', (F1 b' o' ∨ b' = b ∧ q ≤ o' ∧ o' < q + vs.length) → Feet pl m b' o' ∧ ¬ Feet pl m1 b' o' ∧ ¬ S1 b' o' := fun b' o' q1 => by
                rcases q1 with q1 | q1
                · exact ⟨f1 _ _ (hp.off b' o' q1).1, (hp.off b' o' q1).2, hp.no b' o' q1⟩
                · obtain ⟨g1, g2⟩ := f2 b' o' (hreg b' o' q1)
                  exact ⟨g1, fun q' => g2 (hp.sh.feet _ _ q'), fun hs => (hp.sh.grow b' o' hs).elim (h.inv.free id _ hg b' o' (hreg b' o' q1)) g2⟩
              refine ⟨S2, _, m2, _, hk2, .ptr cs0 ps _ os us bs _ F2 (hown.keep (p2.still _)) ho2 (fun b' o' q1 q2 => (hoff b' o' q1).2.1 (p2.off b' o' q2).1), p2.st, kp1.trans p2.kp, ⟨fun b' o' hs => ?_, fun b' o' hf => f1 _ _ (hp.sh.feet _ _ (p2.sh.feet _ _ hf))⟩, fun b' o' q1 => ?_, fun b' o' q1 => ?_⟩
              · rcases p2.sh.grow b' o' hs with g | g
                · exact (hp.sh.grow b' o' g).imp (fun q => q) (f1 b' o')
                · exact .inr (f1 _ _ (hp.sh.feet _ _ g))
              · rcases q1 with q1 | q1
                · exact ⟨(hoff b' o' q1).1, fun q' => (hoff b' o' q1).2.1 (p2.sh.feet _ _ q')⟩
                · exact ⟨f1 _ _ (hp.sh.feet _ _ (p2.off b' o' q1).1), (p2.off b' o' q1).2⟩
              · rcases q1 with q1 | q1
                · exact fun hs => (p2.sh.grow b' o' hs).elim (hoff b' o' q1).2.2 (hoff b' o' q1).2.1
                · exact p2.no b' o' q1
            · exact hk.elim
        | _ => simp [outsW] at hk
    | c y => exact skip (by simp) (by simpa only [outsW] using hk)
    | arr sz es cap pub n => exact skip (by simp) (by simpa only [outsW] using hk)
    | agg cs => exact skip (by simp) (by simpa only [outsW] using hk)
    | tup cs => exact skip (by simp) (by simpa only [outsW] using hk)

theorem oneOf_rel {S : Area} {pl : Place} {w : World} {m : Mem} : ∀ (xs : List AV) (us : List Value), us.length = xs.length → (∀ (j : Nat) x u, xs[j]? = some x → us[j]? = some u → RelV S pl w m x u) → RelV S pl w m (oneOf xs) (oneV us)
  | [], [], h, hr => .tup [] [] h hr
  | [x], [u], _, hr => hr 0 x u rfl rfl
  | x :: y :: r, u :: v :: s, h, hr => .tup _ _ h hr
  | [], _ :: _, h, _ => by simp at h
  | _ :: _, [], h, _ => by simp at h
  | [_], _ :: _ :: _, h, _ => by simp at h
  | _ :: _ :: _, [_], h, _ => by simp at h

theorem shutA_sound {S : Area} {pl : Place} {w : World} {m : Mem} (h : St X S pl w m) {x : AV} {u : Value} (hr : RelV S pl w m x u) {K : AV → Mem → Prop} (hk : shutA m x K) :
    ∃ S' y m', K y m' ∧ RelV S' pl w m' y u ∧ St X S' pl w m' ∧ Keeps S S' pl pl w w m m' := by
  cases x with
  | agg cs =>
    cases hr with | agg _ us hl hr =>
    obtain ⟨S', ys, m', h1, h2, h3, h4, h5⟩ := closeL_sound cs us h hl hr hk
    refine ⟨S', _, m', h1, .agg _ us (by simp [h2, hl]) (fun i x u hx hu => ?_), h4, h5⟩
    rw [List.getElem?_map] at hx
    cases hy : ys[i]? with
    | none => rw [hy] at hx; simp at hx
    | some y => rw [hy] at hx; simp at hx; subst hx; exact .c _ _ (h3 i y u hy hu)
  | c x => cases hr with | c _ _ hr => exact ⟨S, _, m, hk, .c _ _ hr.norm, h, Keeps.refl _ _ _ _⟩
  | t id ver n =>
    obtain ⟨S', y, m', h1, h2, h3, h4⟩ := closeA_sound (K := fun y m => K (.c y) m) h hr hk
    exact ⟨S', _, m', h1, .c _ _ h2, h3, h4⟩
  | p => exact ⟨S, _, m, hk, hr, h, Keeps.refl _ _ _ _⟩
  | tp => exact ⟨S, _, m, hk, hr, h, Keeps.refl _ _ _ _⟩
  | tup => exact ⟨S, _, m, hk, hr, h, Keeps.refl _ _ _ _⟩
  | dead => exact ⟨S, _, m, hk, hr, h, Keeps.refl _ _ _ _⟩
theorem shutAs_sound {w : World} : ∀ (xs : List AV) (us : List Value) {S : Area} {pl : Place} {m : Mem} (_ : St X S pl w m) (_ : us.length = xs.length) (_ : ∀ (j : Nat) x u, xs[j]? = some x → us[j]? = some u → RelV S pl w m x u)
    {K : List AV → Mem → Prop} (_ : shutAs m xs K), ∃ S' ys m', K ys m' ∧ ys.length = xs.length ∧ (∀ (j : Nat) y u, ys[j]? = some y → us[j]? = some u → RelV S' pl w m' y u) ∧ St X S' pl w m' ∧ Keeps S S' pl pl w w m m'
  | [], _, S, _, m, h, _, _, K, hk => ⟨S, [], m, hk, rfl, fun j y u hy => by simp at hy, h, Keeps.refl _ _ _ _⟩
  | x :: xs, [], _, _, _, _, hl, _, _, _ => by simp at hl
  | x :: xs, u :: us, S, pl, m, h, hl, hr, K, hk => by
    obtain ⟨S1, y, m1, hk1, hy, h1, k1⟩ := shutA_sound h (hr 0 x u rfl rfl) hk
    obtain ⟨S2, ys, m2, hk2, hlen, hys, h2, k2⟩ := shutAs_sound xs us h1 (by simpa using hl) (fun j x u hx hu => (hr (j + 1) x u hx hu).mono k1) hk1
    refine ⟨S2, y :: ys, m2, hk2, by simp [hlen], fun j y' u' hy' hu' => ?_, h2, k1.trans k2⟩
    cases j with
    | zero => simp at hy' hu'; subst hy' hu'; exact hy.mono k2
    | succ j => exact hys j y' u' (by simpa using hy') (by simpa using hu')
theorem shutIf_sound {w : World} (sh : Bool) (xs : List AV) (us : List Value) {S : Area} {pl : Place} {m : Mem} (h : St X S pl w m) (hl : us.length = xs.length) (hr : ∀ (j : Nat) x u, xs[j]? = some x → us[j]? = some u → RelV S pl w m x u)
    {K : List AV → Mem → Prop} (hk : shutIf sh m xs K) : ∃ S' ys m', K ys m' ∧ ys.length = xs.length ∧ (∀ (j : Nat) y u, ys[j]? = some y → us[j]? = some u → RelV S' pl w m' y u) ∧ St X S' pl w m' ∧ Keeps S S' pl pl w w m m' := by
  cases sh with
  | true => exact shutAs_sound xs us h hl hr hk
  | false => exact ⟨S, xs, m, hk, rfl, hr, h, Keeps.refl _ _ _ _⟩

/-- THE CONTRACT OF A FUNCTION, OUT OF ITS ABSTRACT EXECUTION. -/
theorem den_of (hm : P.follows .mixedOrders = true) (hT : TabOk P T) {G : Glob} {D : Spec} (hD : ∀ f os Q, D f os Q → Den P G f os Q) {f : FuncId} {fn : Func} {body : Code} (hf : P.funcs[f]? = some fn) (hb : fn.body = some body) (hname : (fn.name == "runtime.NumGoroutine") = false)
    {os : List OV} {Q : OV → List OV → Prop} (hlen : os.length ≤ fn.ntmps) {sh : Bool} (hk : FnW T G D fn body os Q sh) : Den P G f os Q := by
  refine ⟨⟨fn, hf, by rw [hb]; rfl, hname⟩, fun S F w us hS hF hG ho => ?_⟩
  let X : Ctx := ⟨S, F, w, G⟩
  have hus := ho.length
  have st0 : St X S (fun _ => (0, 0)) w ⟨[], 0⟩ := ⟨⟨fun id ob h => by simp [Mem.get, getL] at h, fun id id' ob ob' h => by simp [Mem.get, getL] at h, fun id ob h => by simp [Mem.get, getL] at h, hS⟩,
    Ext.refl _ _, fun _ _ h => h, fun b o h => .inl h, fun id ob h => by simp [Mem.get, getL] at h, hG⟩
  obtain ⟨pl, l1, r1⟩ := unpackL_sound (X := X) (unpack_sound depth) os us 0 st0 ho (fun b o hf => ⟨.inl hf, (hF b o hf).2, fun ⟨id, ob, hg, _⟩ => by simp [Mem.get, getL] at hg⟩)
  unfold FnW at hk
  dsimp only at hk
  have hul := unpackL_length (unpack depth) os 0 ⟨[], 0⟩
  generalize hu : unpackL (unpack depth) 0 ⟨[], 0⟩ os = U at l1 r1 hk hul
  refine calls_of_wp hf hb ?_
  have tm0 : TmR S pl w U.2.2 (U.1 ++ List.replicate (fn.ntmps - os.length) .dead) { tmps := us.toArray ++ Array.replicate (fn.ntmps - us.toArray.size) undef, defers := [] } := by
    refine ⟨rfl, by simp; omega, fun i x hx => ?_⟩
    by_cases hi : i < U.1.length
    · rw [List.getElem?_append_left hi] at hx
      have hiu : i < us.length := by omega
      have hui : us[i]? = some us[i] := List.getElem?_eq_getElem hiu
      have := r1 i x _ hx hui
      rw [Array.getD_eq_getD_getElem?, Array.getElem?_append_left (by simpa using hiu)]
      simpa [hui] using this
    · rw [List.getElem?_append_right (by omega), List.getElem?_replicate] at hx
      split at hx
      · injection hx with hx; subst hx; exact .dead _
      · simp at hx
  have hlow : ∀ p ∈ U.1.zip us, Low U.2.2.clk p.1 := fun p hp => by
    obtain ⟨j, hj⟩ := List.mem_iff_getElem?.1 hp
    rw [List.getElem?_zip_eq_some] at hj
    exact (r1 j p.1 p.2 hj.1 hj.2).low
  refine wp_mono (execW_sound (pins := U.1.zip us) (B := U.2.2.clk) hlow hm hT hD body _ _ _ _ w ⟨S, pl, l1.st, tm0, fun p hp => by
    obtain ⟨j, hj⟩ := List.mem_iff_getElem?.1 hp
    rw [List.getElem?_zip_eq_some] at hj
    exact r1 j p.1 p.2 hj.1 hj.2⟩ hk) ?_
  rintro e a w' ⟨ex, tm, m, he, hk, S2, pl2, hst, htm, hpin⟩
  have fin : (resultsW T tm m fn.results.toList fun rs => shutIf sh m rs fun rs m => packW depth m (oneOf rs) fun r m => outsW m os U.1 fun bs _ => Q r bs) → a.defers = [] ∧ ∃ v, (results fn a.tmps).run P w' = .ok v w' ∧
      ∃ v_1 r bs S' Fr Fb, Ending.returned v = .returned v_1 ∧ Q r bs ∧ Own S' w' Fr r v_1 ∧ OwnP S' w' Fb os us bs ∧ Ended S F w w' S' Fr Fb := fun hk => by
    obtain ⟨xs0, vs, h1, h2, h3, h4⟩ := resultsW_sound hT hst htm fn.results.toList hk
    obtain ⟨S2, xs, m, h1, hlen, h4, hst, hks⟩ := shutIf_sound sh xs0 vs hst h2 h4 h1
    replace h2 : vs.length = xs.length := by omega
    replace hpin := fun p hp => (hpin p hp).mono hks
    refine ⟨htm.defers, _, results_run h3, ?_⟩
    obtain ⟨S3, r, m3, Fr, hk3, hor, p3⟩ := packW_sound depth hst (oneOf_rel xs vs h2 h4) h1
    obtain ⟨S4, bs, m4, Fb, hq, hob, p4⟩ := outsW_sound os U.1 us p3.st (by omega) (fun j x u hx hu => (hpin (x, u) (List.mem_of_getElem? (i := j) (by rw [List.getElem?_zip_eq_some]; exact ⟨hx, hu⟩))).mono p3.kp) hk3
    have hmine : ∀ b o, Feet pl2 m b o → F b o ∨ w.heap.size ≤ b := fun b o ⟨id, ob, hg, hf⟩ => hst.own id ob hg b o hf
    refine ⟨_, r, bs, S4, Fr, Fb, rfl, hq, hor.keep (p4.still _), hob, ⟨p4.st.ext, p4.st.sub, fun b o hs => ⟨p4.st.inv.low b o hs, p4.st.only b o hs⟩, fun b o h1 h2 => (p3.off b o h1).2 (p4.off b o h2).1, fun b o h => ?_⟩⟩
    rcases h with h | h
    · exact ⟨fun hs => (p4.sh.grow b o hs).elim (p3.no b o h) (p3.off b o h).2, hmine b o (p3.off b o h).1⟩
    · exact ⟨p4.no b o h, hmine b o (p3.sh.feet _ _ (p4.off b o h).1)⟩
  cases e <;> simp [exOf] at he <;> subst he
  · exact fin hk
  · exact hk.elim
  · exact fin hk
end
end Go.Proofs.Ythncmjlcmlmnmaa.V

namespace Go.Proofs.Ythncmjlcmlmnmaa.V
open Go

abbrev EL := List (List CV)
structure Ops where
  wrap : IntKind → Int → Int
  bin : BinOp → IntKind → Int → Int → Int
  cmp : BinOp → Int → Int → Bool
  un : UnOp → IntKind → Int → Int
  bnot : Bool → Bool
  beq2 : Bool → Bool → Bool
  least : Bool → Int → Int → Int
  nz : Int → Prop
  ile : Int → Int → Prop
  ilt : Int → Int → Prop
  nle : Nat → Nat → Prop
  plus : Nat → Nat → Nat
  times : Nat → Nat → Nat
  itimes : Int → Nat → Int
  toN : Int → Nat
  least2 : Nat → Nat → Nat
  sadd : ByteArray → ByteArray → ByteArray
  scmp : BinOp → ByteArray → ByteArray → Bool
  ssz : ByteArray → Nat
  sext : ByteArray → Nat → Nat → ByteArray
  sget : ByteArray → Nat → Int
  ofb : ByteArray → EL
  tob : EL → (ByteArray → Prop) → Prop
  len : EL → Nat
  take : Nat → EL → EL
  view : Nat → EL → (EL → Prop) → Prop
  drop : Nat → EL → EL
  app : EL → EL → EL
  rep : Nat → List CV → EL
  setE : EL → Nat → Nat → List CV → EL
  width : EL → Nat → Nat
  over : EL → EL → Nat → EL
  elem : EL → Nat → (List CV → Prop) → Prop
  emp : EL → (Unit → Prop) → (Unit → Prop) → Prop
  br : Bool → (Unit → Prop) → (Unit → Prop) → Prop
  agree : List Nat → Mem → Mem → Prop
  call : Nat → Mem → FuncId → List AV → KK → Prop
  loop : Code → List AV → Mem → KX → Prop
  sub : List CV → Nat → Nat → (List CV → Prop) → Prop
  drawn : Array Oper → List AV → Mem → (List AV → Mem → Prop) → Prop
  reg : Array Oper → List AV → Mem → (List AV → Mem → Prop) → Prop
  join : (List AV → Mem → Prop) → List AV → Mem → Prop
  toI : Nat → Int
  neq : Nat → Nat → Prop
  hiOk : Bool → Int → Nat → Nat → Prop
  nat : Nat → Nat → (Nat → Prop) → Prop
  and2 : Bool → Bool → Bool
  alt : (Unit → Prop) → (Unit → Prop) → Prop
  lzE : (Unit → EL) → EL
  lzI : (Unit → Int) → Int
  lzN : (Unit → Nat) → Nat
  lzS : (Unit → ByteArray) → ByteArray
  lzB : (Unit → Bool) → Bool

/-- Bits of numbers, named. -/
def bOr (n : Nat) (a b : Int) : Nat := (BitVec.ofInt n a ||| BitVec.ofInt n b).toNat
def bAnd (n : Nat) (a b : Int) : Nat := (BitVec.ofInt n a &&& BitVec.ofInt n b).toNat
def bXor (n : Nat) (a b : Int) : Nat := (BitVec.ofInt n a ^^^ BitVec.ofInt n b).toNat
def bAndNot (n : Nat) (a b : Int) : Nat := (BitVec.ofInt n a &&& ~~~ BitVec.ofInt n b).toNat
def binStd (op : BinOp) (k : IntKind) (a b : Int) : Int := match op with
  | .shl => k.wrap (a * 2 ^ (min b.toNat k.bits))
  | .shr => a.fdiv (2 ^ (min b.toNat k.bits))
  | .add => k.wrap (a + b)
  | .sub => k.wrap (a - b)
  | .mul => k.wrap (a * b)
  | .quo => k.wrap (a.tdiv b)
  | .rem => a.tmod b
  | .and => k.wrap (bAnd k.bits a b)
  | .or => k.wrap (bOr k.bits a b)
  | .xor => k.wrap (bXor k.bits a b)
  | .andNot => k.wrap (bAndNot k.bits a b)
  | _ => 0
def cmpStd (op : BinOp) (a b : Int) : Bool := match op with
  | .eql => a == b
  | .neq => a != b
  | .lss => decide (a < b)
  | .leq => decide (a ≤ b)
  | .gtr => decide (a > b)
  | .geq => decide (a ≥ b)
  | _ => false
def scmpStd (op : BinOp) (a b : ByteArray) : Bool := match op with
  | .eql => a.toList == b.toList
  | .neq => !(a.toList == b.toList)
  | .lss => Op.bytesLess a.toList b.toList
  | .leq => Op.bytesLess a.toList b.toList || a.toList == b.toList
  | .gtr => !(Op.bytesLess a.toList b.toList || a.toList == b.toList)
  | .geq => !(Op.bytesLess a.toList b.toList)
  | _ => false
def unStd (op : UnOp) (k : IntKind) (n : Int) : Int := match op with
  | .neg => k.wrap (0 - n)
  | .xor => k.wrap (BitVec.ofInt k.bits (if k.signed then -1 else k.max) ^^^ BitVec.ofInt k.bits n).toNat
  | _ => 0
def std (B : Nat) (T : Tab) (G : Glob) (D : Spec) : Ops where
  wrap k n := k.wrap n
  bin := binStd
  cmp := cmpStd
  un := unStd
  bnot b := !b
  beq2 a b := a == b
  least mx a b := if mx then (if b > a then b else a) else (if b < a then b else a)
  nz b := b ≠ 0
  ile a b := a ≤ b
  ilt a b := a < b
  nle a b := a ≤ b
  plus a b := a + b
  times a b := a * b
  itimes a b := a * b
  toN a := a.toNat
  least2 a b := min a b
  sadd a b := a ++ b
  scmp := scmpStd
  ssz s := s.size
  sext s l h := s.extract l h
  sget s i := ((s.data.toList.getD i 0).toNat : Nat)
  ofb s := encB s.data.toList
  tob es K := match bytesOf es with | some b => K ⟨b.toArray⟩ | none => False
  len es := es.length
  take n es := es.take n
  view n es K := n ≤ es.length ∧ K (es.take n)
  drop n es := es.drop n
  app a b := a ++ b
  rep n z := List.replicate n z
  setE es i o ys := es.set i (putAt (es.getD i []) o ys)
  width es i := (es.getD i []).length
  over ns es n := ns.take n ++ es.drop n
  elem es i K := K (es.getD i [])
  emp es A B := if es = [] then A () else B ()
  br v A B := (v = true → A ()) ∧ (v = false → B ())
  agree := Agree
  call site m f args K := callW D site m f args K
  loop c tm m K := execW B T G D (.loop c) tm m K
  sub cs i z K := K (cs.drop (i * z))
  drawn ops tm m K := drawnW T G D ops tm m (Join B K)
  reg ops tm m K := opsW T G D ops.toList ops.toList tm m (Join B K)
  join := Join B
  toI n := n
  neq a b := a = b
  hiOk c h n l := h ≤ n ∨ c = true ∧ h ≤ l
  nat j _ K := K j
  and2 a b := a && b
  alt A B := A () ∨ B ()
  lzE f := f ()
  lzI f := f ()
  lzN f := f ()
  lzS f := f ()
  lzB f := f ()
end Go.Proofs.Ythncmjlcmlmnmaa.V

namespace Go.Proofs.Ythncmjlcmlmnmaa.V
open Go
/-- A condition that is to be reckoned out. -/
def need (b : Bool) (A : Unit → Prop) : Prop := match b with | true => A () | false => False
section
variable (O : Ops)
def brO (x : AV) (A B : Unit → Prop) : Prop := match x with | .c (.v (.bool v)) => O.br v A B | _ => False
def closeO (m : Mem) : AV → (CV → Mem → Prop) → Prop
  | .c x, K => K (normC x) m
  | .t id ver n, K => match m.get id with
    | some (.arr v sz es cap _) => need (Nat.beq v ver) fun _ => O.view n es fun xs => K (.sl sz xs none) (m.upd id (.arr v sz es cap true))
    | _ => False
  | _, _ => False
def closeLO (m : Mem) : List AV → (List CV → Mem → Prop) → Prop
  | [], K => K [] m
  | a :: l, K => closeO O m a fun x m => closeLO m l fun xs m => K (x :: xs) m
def sBinO (op : BinOp) : Value → Value → (Value → Prop) → Prop
  | .int k a, .int k' b, K => match op with
    | .shl | .shr => O.ile 0 b ∧ K (.int k (O.bin op k a b))
    | .quo | .rem => need (decide (k = k')) fun _ => O.nz b ∧ K (.int k (O.bin op k a b))
    | .add | .sub | .mul | .and | .or | .xor | .andNot => need (decide (k = k')) fun _ => K (.int k (O.bin op k a b))
    | .eql | .neq | .lss | .leq | .gtr | .geq => need (decide (k = k')) fun _ => K (.bool (O.cmp op a b))
  | .string a, .string b, K => match op with
    | .add => O.ile (O.plus (O.ssz a) (O.ssz b)) 9223372036854775807 ∧ K (.string (O.sadd a b))
    | .eql | .neq | .lss | .leq | .gtr | .geq => K (.bool (O.scmp op a b))
    | _ => False
  | _, _, _ => False
def binO (op : BinOp) (k : TK) (m : Mem) (x y : AV) (K : KK) : Prop := match x, y with
  | .c (.v (.bool a)), .c (.v (.bool b)) => match op, k with
    | .eql, .bool => K (.c (.v (.bool (O.beq2 a b)))) m
    | .neq, .bool => K (.c (.v (.bool (O.bnot (O.beq2 a b))))) m
    | _, _ => False
  | .c (.v (.int i a)), .c (.v b) => sBinO O op (.int i a) b fun r => K (.c (.v r)) m
  | .c (.v (.string a)), .c (.v b) => sBinO O op (.string a) b fun r => K (.c (.v r)) m
  | x, y => match op, k, isNil x, isNil y with
    | .eql, .pt _ _, some a, some b => need (a || b) fun _ => K (.c (.v (.bool (a && b)))) m
    | .neq, .pt _ _, some a, some b => need (a || b) fun _ => K (.c (.v (.bool !(a && b)))) m
    | _, _, _, _ => False
def cellEqO : Nat → AV → AV → Option Bool
  | 1, .c (.v (.int k a)), .c (.v (.int k' b)) => if k = k' then some (O.cmp .eql a b) else none
  | 2, .c (.v (.bool a)), .c (.v (.bool b)) => some (O.beq2 a b)
  | 3, .c (.v (.string a)), .c (.v (.string b)) => some (O.scmp .eql a b)
  | _, _, _ => none
def cellsEqO : List Nat → List AV → List AV → Option Bool
  | [], [], [] => some true
  | c :: cs, x :: xs, y :: ys => match cellEqO O c x y, cellsEqO cs xs ys with | some a, some b => some (O.and2 a b) | _, _ => none
  | _, _, _ => none
def eqO (op : BinOp) (ti : TI) (m : Mem) (xs ys : List AV) (K : KK) : Prop := match ti.k, ti.eq with
  | .st _, c :: cs => match op, cellsEqO O (c :: cs) xs ys with
    | .eql, some b => K (.c (.v (.bool b))) m
    | .neq, some b => K (.c (.v (.bool (O.bnot b)))) m
    | _, _ => False
  | _, _ => False
def unO (op : UnOp) (m : Mem) (x : AV) (K : KK) : Prop := match op, x with
  | .neg, .c (.v (.int k n)) => K (.c (.v (.int k (O.un .neg k n)))) m
  | .xor, .c (.v (.int k n)) => K (.c (.v (.int k (O.un .xor k n)))) m
  | .not, .c (.v (.bool b)) => K (.c (.v (.bool (O.bnot b)))) m
  | _, _ => False
def viewO (esz : Nat) (m : Mem) (x : AV) (K : EL → Prop) : Prop := match x with
  | .c (.sl sz es _) => need (Nat.beq sz esz) fun _ => K es
  | .t id ver n => match m.get id with
    | some (.arr v sz es _ _) => need (Nat.beq v ver && Nat.beq sz esz) fun _ => O.view n es K
    | _ => False
  | _ => False
def convO (src dst : TK) (site : Nat) (m : Mem) (x : AV) (K : KK) : Prop := match src, dst, x with
  | .int _, .int k, .c (.v (.int _ n)) => K (.c (.v (.int k (O.wrap k n)))) m
  | .str, .str, .c (.v (.string s)) => K (.c (.v (.string s))) m
  | .str, .sl 1 false 1 true, .c (.v (.string s)) => K (.t site m.clk (O.ssz s)) (m.new site fun v => .arr v 1 (O.ofb s) none true)
  | .sl 1 false 1 true, .str, x => viewO O 1 m x fun es => O.tob es fun s => K (.c (.v (.string s))) m
  | _, _, _ => False
def rdA (agg : Bool) (s : Nat) (cs : List AV) (K : AV → Prop) : Prop := match agg with
  | true => need (Nat.ble s cs.length) fun _ => K (.agg (cs.take s))
  | false => match cs with | x :: _ => K x | [] => False
def loadO (agg : Bool) (s : Nat) (m : Mem) (x : AV) (K : KK) : Prop := match x with
  | .p id ver o => match m.get id with
    | some (.blk v cs) => need (Nat.beq v ver) fun _ => rdA agg s (cs.drop o) fun y => K y m
    | _ => False
  | .c (.rp cs) => rdA agg s (cs.map .c) fun y => K y m
  | .tp id ver i o => match m.get id with
    | some (.arr v _ es _ _) => need (Nat.beq v ver) fun _ => O.nle (O.plus i 1) (O.len es) ∧ O.elem es i fun cs => rdA agg s ((cs.drop o).map .c) fun y => K y m
    | _ => False
  | _ => False
def storeO (s : Nat) (m : Mem) (x y : AV) (K : Mem → Prop) : Prop := match x with
  | .p id ver o => match m.get id with
    | some (.blk v cs) => need (Nat.beq v ver && y.cells.length.beq s && y.cells.all AV.solid && Nat.ble (o + s) cs.length && ((cs.drop o).take s).all (fun x => !x.isDead)) fun _ => K (m.upd id (.blk v (putAt cs o y.cells)))
    | _ => False
  | .tp id ver i o => closeLO O m y.cells fun ys m => match m.get id with
    | some (.arr v sz es cap pub) => need (Nat.beq v ver && !pub && ys.length.beq s) fun _ => O.nle (O.plus i 1) (O.len es) ∧ O.nle (o + s) (O.width es i) ∧
        K (m.upd id (.arr v sz (O.setE es i o ys) cap pub))
    | _ => False
  | _ => False
def boxO (site : Nat) (m : Mem) (y : AV) (K : KK) : Prop := need (y.cells.all AV.solid) fun _ => K (.p site m.clk 0) (m.new site fun v => .blk v y.cells)
def buildSliceO (site esz : Nat) (zero : List CV) (len : Nat) (parts : List (Nat × AV)) (m : Mem) (K : KK) : Prop := need (Nat.ble (len * esz) 16777216) fun _ =>
  match fillA (fun i => some (i * esz, esz)) ((repL len zero).map .c) parts with
  | some cs => closeLO O m cs fun xs m => K (.t site m.clk len) (m.new site fun v => .arr v esz (chunks esz len xs) (some len) false)
  | none => False
def makeSliceO (site esz ebytes : Nat) (zero : List CV) (m : Mem) (l c : AV) (K : KK) : Prop := match l, c with
  | .c (.v (.int _ l)), .c (.v (.int _ c)) => O.ile 0 l ∧ O.ile l c ∧ O.ile (O.itimes c ebytes) 70368744177664 ∧
      K (.t site m.clk (O.toN l)) (m.new site fun v => .arr v esz (O.rep (O.toN l) zero) (some (O.toN c)) false)
  | _, _ => False
def sliceO (k : TK) (m : Mem) (x : AV) (lo hi mx : Option AV) (K : KK) : Prop := match k, x with
  | .str, .c (.v (.string s)) => need mx.isNone fun _ => bnd 0 lo fun l => bnd (O.ssz s) hi fun h => O.ile 0 l ∧ O.ile l h ∧ O.ile h (O.ssz s) ∧ K (.c (.v (.string (O.sext s (O.toN l) (O.toN h))))) m
  | .sl esz _ _ _, .c (.sl sz es sp) => need (Nat.beq sz esz) fun _ => bnd 0 lo fun l => bnd (O.len es) hi fun h => match mx with
    | none => O.ile 0 l ∧ O.ile l h ∧ match sp with
      | some sp => O.ile h (O.plus (O.len es) (O.len sp)) ∧ K (.c (.sl sz (O.drop (O.toN l) (O.take (O.toN h) (O.app es sp))) (some (O.drop (O.toN h) (O.app es sp))))) m
      | none => O.ile h (O.len es) ∧ K (.c (.sl sz (O.drop (O.toN l) (O.take (O.toN h) es)) none)) m
    | some mx => need hi.isSome fun _ => bnd 0 (some mx) fun c => O.ile 0 l ∧ O.ile l h ∧ O.ile h c ∧ O.ile c (O.len es) ∧
        K (.c (.sl sz (O.drop (O.toN l) (O.take (O.toN h) es)) (some (O.drop (O.toN h) (O.take (O.toN c) es))))) m
  | .sl esz _ _ _, .t id ver n => match m.get id with
    | some (.arr v sz es cap _) => need (Nat.beq v ver && Nat.beq sz esz && mx.isNone) fun _ => O.nle n (O.len es) ∧ bnd n hi fun h => match lo with
      | none => O.ile 0 h ∧ O.hiOk cap.isSome h n (O.len es) ∧ K (.t id ver (O.toN h)) m
      | some _ => bnd 0 lo fun l => O.ile 0 l ∧ O.ile l h ∧ O.ile h n ∧ K (.c (.sl sz (O.drop (O.toN l) (O.take (O.toN h) es)) none)) (m.upd id (.arr v sz es cap true))
    | _ => False
  | _, _ => False
/-- 'lit': the index is a constant of the text. -/
def indexAddrO (lit : Bool) (k : TK) (m : Mem) (x i : AV) (K : KK) : Prop := match i with
  | .c (.v (.int _ i)) => match k, x with
    | .ar n esz _, .p id ver o => match lit with
      | true => need (Nat.ble 2 n && decide (0 ≤ i) && decide (i < n)) fun _ => K (.p id ver (o + i.toNat * esz)) m
      | false => need (Nat.ble 2 n) fun _ => O.ile 0 i ∧ O.ilt i n ∧ O.nat (O.toN i) n fun j => K (.p id ver (o + j * esz)) m
    | .ar n esz _, .c (.rp cs) => match lit with
      | true => need (Nat.ble 2 n && decide (0 ≤ i) && decide (i < n)) fun _ => K (.c (.rp (cs.drop (i.toNat * esz)))) m
      | false => need (Nat.ble 2 n) fun _ => O.ile 0 i ∧ O.ilt i n ∧ O.sub cs (O.toN i) esz fun cs => K (.c (.rp cs)) m
    | .sl esz _ _ _, .c (.sl sz es _) => need (Nat.beq sz esz) fun _ => O.ile 0 i ∧ O.ilt i (O.len es) ∧ O.elem es (O.toN i) fun cs => K (.c (.rp cs)) m
    | .sl esz _ _ _, .t id ver n => match m.get id with
      | some (.arr v sz es _ _) => need (Nat.beq v ver && Nat.beq sz esz) fun _ => O.nle n (O.len es) ∧ O.ile 0 i ∧ O.ilt i n ∧ K (.tp id ver (O.toN i) 0) m
      | _ => False
    | _, _ => False
  | _ => False
def indexO (lit : Bool) (k : TK) (m : Mem) (x i : AV) (K : KK) : Prop := match i with
  | .c (.v (.int _ i)) => match k, x with
    | .str, .c (.v (.string s)) => O.ile 0 i ∧ O.ilt i (O.ssz s) ∧ K (.c (.v (.int .u8 (O.sget s (O.toN i))))) m
    | .ar n esz eagg, .agg cs => match lit with
      | true => need (decide (0 ≤ i) && decide (i < n)) fun _ => rdA eagg esz (cs.drop (i.toNat * esz)) fun y => K y m
      | false => O.ile 0 i ∧ O.ilt i n ∧ O.nat (O.toN i) n fun j => rdA eagg esz (cs.drop (j * esz)) fun y => K y m
    | _, _ => False
  | _ => False
def fieldO (f : Nat × Nat × Bool) (m : Mem) (x : AV) (K : KK) : Prop := match x with
  | .agg cs => rdA f.2.2 f.2.1 (cs.drop f.1) fun y => K y m
  | _ => False
def lenO (k : TK) (m : Mem) (x : AV) (K : KK) : Prop := match k, x with
  | .str, .c (.v (.string s)) => K (.c (.v (.int .i64 (O.toI (O.ssz s))))) m
  | .ar n _ _, _ => K (.c (.v (.int .i64 n))) m
  | .sl _ _ _ _, .c (.sl _ es _) => K (.c (.v (.int .i64 (O.toI (O.len es))))) m
  | .sl _ _ _ _, .t _ _ n => K (.c (.v (.int .i64 (O.toI n)))) m
  | _, _ => False
def capO (k : TK) (m : Mem) (x : AV) (K : KK) : Prop := match k, x with
  | .sl _ _ _ _, .c (.sl _ es (some sp)) => K (.c (.v (.int .i64 (O.toI (O.plus (O.len es) (O.len sp)))))) m
  | .sl _ _ _ _, .t id ver _ => match m.get id with
    | some (.arr v _ _ (some c) _) => need (Nat.beq v ver) fun _ => K (.c (.v (.int .i64 (O.toI c)))) m
    | _ => False
  | _, _ => False
def minmaxO (mx : Bool) (m : Mem) : List AV → KK → Prop
  | [.c (.v (.int k a)), .c (.v (.int k' b))], K => need (decide (k = k')) fun _ => K (.c (.v (.int k (O.least mx a b)))) m
  | _, _ => False
def srcO (esz : Nat) (m : Mem) (x : AV) (K : EL → Prop) : Prop := match x with
  | .c (.v (.string s)) => need (Nat.beq esz 1) fun _ => K (O.ofb s)
  | x => viewO O esz m x fun es => K es
def appendO (site esz ebytes : Nat) (m : Mem) (s x : AV) (K : KK) : Prop := srcO O esz m x fun ns => match s with
  | .c (.sl sz es (some [])) => need (Nat.beq sz esz) fun _ => O.nle (O.times (O.plus (O.len es) (O.len ns)) ebytes) 35184372088832 ∧
      O.emp ns (fun _ => K s m) (fun _ => K (.t site m.clk (O.len (O.app es ns))) (m.new site fun v => .arr v esz (O.app es ns) none false))
  | .t id ver n => match m.get id with
    | some (.arr v sz es _ pub) => need (Nat.beq v ver && Nat.beq sz esz) fun _ => O.neq n (O.len es) ∧ O.nle (O.times (O.plus (O.len es) (O.len ns)) ebytes) 35184372088832 ∧
        K (.t id m.clk (O.len (O.app es ns))) ((m.del id).new id fun v => .arr v sz (O.app es ns) none pub)
    | _ => False
  | _ => False
def copyO (esz : Nat) (m : Mem) (d x : AV) (K : KK) : Prop := srcO O esz m x fun ns => match d with
  | .t id ver n => match m.get id with
    | some (.arr v sz es cap false) => need (Nat.beq v ver && Nat.beq sz esz) fun _ => O.nle n (O.len es) ∧
        K (.c (.v (.int .i64 (O.toI (O.least2 (O.len ns) n))))) (m.upd id (.arr v sz (O.over ns es (O.least2 (O.len ns) n)) cap false))
    | _ => False
  | _ => False
def packO : Nat → Mem → AV → (OV → Mem → Prop) → Prop
  | 0, _, _, _ => False
  | k + 1, m, x, K => match x with
    | .c x => K (.c x) m
    | .t id ver n => match m.get id with
      | some (.arr v sz es cap pub) => need (Nat.beq v ver) fun _ => O.nle n (O.len es) ∧ K (.arr sz es cap pub n) (m.del id)
      | _ => False
    | .p id ver 0 => match m.get id with
      | some (.blk v cs) => need (Nat.beq v ver) fun _ => packLW (packO k) (m.del id) cs fun os m => K (.ptr os) m
      | _ => False
    | .agg cs => packLW (packO k) m cs fun os m => K (.agg os) m
    | .tup cs => packLW (packO k) m cs fun os m => K (.tup os) m
    | _ => False
def shutO (m : Mem) (x : AV) (K : OV → Mem → Prop) : Prop := match x with
  | .agg cs => closeLO O m cs fun xs m => K (.agg (xs.map .c)) m
  | x => closeO O m x fun y m => K (.c y) m
def argO (md : Mode) (m : Mem) (x : AV) (K : OV → Mem → Prop) : Prop := match md with
  | .shut => shutO O m x K
  | .keep => match x with | .c y => K (.c y) m | _ => False
  | .own => packO O depth m x K
  | .ref s => match x with
    | .p id ver o => match m.get id with
      | some (.blk v cs) => need (Nat.beq v ver && Nat.ble (o + s) cs.length && ((cs.drop o).take s).all (fun x => !x.isDead)) fun _ => packLW (packO O depth) (m.upd id (.blk v (putAt cs o (List.replicate s .dead)))) ((cs.drop o).take s) fun os m => K (.ptr os) m
      | _ => False
    | _ => False
def argsO (m : Mem) : List Mode → List AV → (List OV → Mem → Prop) → Prop
  | [], [], K => K [] m
  | md :: mds, x :: xs, K => argO O md m x fun o m => argsO m mds xs fun os m => K (o :: os) m
  | _, _, _ => False
def backO (id : Nat) (m : Mem) : List Mode → List AV → List OV → (Nat → Mem → Prop) → Prop
  | [], [], [], K => K id m
  | md :: mds, x :: xs, o :: l, K => match md with
    | .ref s => match x, o with
      | .p i ver o, .ptr os => match (unpackL (unpack depth) (1000000 * (i + 1)) m os).2.2.get i with
        | some (.blk v cs) => need (os.length.beq s && Nat.beq v ver && Nat.ble (o + s) cs.length) fun _ => backO id ((unpackL (unpack depth) (1000000 * (i + 1)) m os).2.2.upd i (.blk v (putAt cs o (unpackL (unpack depth) (1000000 * (i + 1)) m os).1))) mds xs l K
        | _ => False
      | _, _ => False
    | _ => backO id m mds xs l K
  | _, _, _, _ => False
def evAc (f : Unit → Nat) : Value → AV
  | .slice none 0 0 => .c (.sl (f ()) [] (some []))
  | v => if solidV v then .c (.v v) else .dead
def evA (A : Nat → TI) (G : Glob) (tm : List AV) (ty : Nat) : Operand → AV
  | .tmp t => tm.getD t .dead
  | .const v => evAc (fun _ => match (A ty).k with | .sl e _ _ _ => e | _ => 0) v
  | .global g => match G g with | some cs => .c (.rp cs) | none => .dead
  | .func f => .c (.v (.func (.func f) #[] #[]))
def evLA (A : Nat → TI) (G : Glob) (tm : List AV) : List Operand → List TypeId → List AV
  | [], _ => []
  | x :: xs, tys => evA A G tm (tys.headD 0) x :: evLA A G tm xs tys.tail
def builtinO (A : Nat → TI) (site : Nat) (m : Mem) (b : Builtin) (tys : List TypeId) (args : List AV) (K : KK) : Prop := match b, args, tys with
  | .len, [x], [t] => lenO O (A t).k m x K
  | .cap, [x], [t] => capO O (A t).k m x K
  | .min, l, _ => minmaxO O false m l K
  | .max, l, _ => minmaxO O true m l K
  | .append, [s, x], [t, t2] => match (A t).k, (A t2).k with
    | .sl esz _ ebytes _, .sl _ _ _ _ => appendO O site esz ebytes m s x K
    | .sl esz _ ebytes _, .str => appendO O site esz ebytes m s x K
    | _, _ => False
  | .copy, [d, x], [t, _] => match (A t).k with
    | .sl esz _ _ _ => copyO O esz m d x K
    | _ => False
  | _, _, _ => False
def isLit : Operand → Bool | .const _ => true | _ => false
def opO (A : Nat → TI) (G : Glob) (tm : List AV) (o : Oper) (m : Mem) (K : KK) : Prop := match o.op with
  | .move x | .assign x => K (evA A G tm o.type x) m
  | .pick c a b => brO O (evA A G tm 0 c) (fun _ => K (evA A G tm o.type a) m) (fun _ => K (evA A G tm o.type b) m)
  | .alloc e => match (A e).size with | 0 => False | _ + 1 => allocW (siteOf o.dst) (A e).zero m K
  | .box e x => boxO (siteOf o.dst) m (evA A G tm e x) K
  | .build t ps => match (A t).k with
    | .st fs => buildW (stPlace fs) (A t).zero (ps.toList.map fun p => (p.1, evA A G tm 0 p.2)) m K
    | .ar _ esz _ => buildW (fun i => some (i * esz, esz)) (A t).zero (ps.toList.map fun p => (p.1, evA A G tm 0 p.2)) m K
    | _ => False
  | .buildSlice t len ps => match (A t).k with
    | .sl esz _ _ _ => buildSliceO O (siteOf o.dst) esz (A t).ezero len (ps.toList.map fun p => (p.1, evA A G tm 0 p.2)) m K
    | _ => False
  | .load t a => match (A t).size with | 0 => False | s + 1 => loadO O (A t).agg (s + 1) m (evA A G tm 0 a) K
  | .store t a x => match (A t).size with | 0 => False | s + 1 => storeO O (s + 1) m (evA A G tm 0 a) (evA A G tm t x) fun m => K .dead m
  | .nilCheck x => nilCheckW m (evA A G tm 0 x) K
  | .binOp op t x y _ => match aggs (evA A G tm t x) (evA A G tm t y) with
    | some p => eqO O op (A t) m p.1 p.2 K
    | none => binO O op (A t).k m (evA A G tm t x) (evA A G tm t y) K
  | .unOp op _ x => unO O op m (evA A G tm 0 x) K
  | .convert s d x => convO O (A s).k (A d).k (siteOf o.dst) m (evA A G tm s x) K
  | .makeSlice t l c => match (A t).k with
    | .sl esz _ ebytes _ => makeSliceO O (siteOf o.dst) esz ebytes (A t).ezero m (evA A G tm 0 l) (evA A G tm 0 c) K
    | _ => False
  | .slice t x lo hi mx => sliceO O (A t).k m (evA A G tm t x) (lo.map (evA A G tm 0)) (hi.map (evA A G tm 0)) (mx.map (evA A G tm 0)) K
  | .fieldAddr s x f => match (A s).k with
    | .st fs => match fs[f]? with
      | some (off, _ + 1, _) => fieldAddrW off m (evA A G tm 0 x) K
      | some (_, 0, _) => False
      | none => False
    | _ => False
  | .field t x f => match (A t).k with
    | .st fs => match fs[f]? with
      | some f => fieldO f m (evA A G tm 0 x) K
      | none => False
    | _ => False
  | .indexAddr t x i => indexAddrO O (isLit i) (A t).k m (evA A G tm t x) (evA A G tm 0 i) K
  | .index t x i => indexO O (isLit i) (A t).k m (evA A G tm t x) (evA A G tm 0 i) K
  | .extract x i => extractW i m (evA A G tm 0 x) K
  | .call c => match c.callee with
    | .builtin b => builtinO O A (siteOf o.dst) m b c.argTypes.toList (evLA A G tm c.args.toList c.argTypes.toList) K
    | .value f => match evA A G tm 0 f with
      | .c (.v (.func (.func g) first captured)) => need (first.isEmpty && captured.isEmpty) fun _ => O.call (siteOf o.dst) m g (evLA A G tm c.args.toList c.argTypes.toList) K
      | _ => False
    | _ => False
  | _ => False
def guardO (all : List Oper) (tm : List AV) (g : Option (Nat × Bool)) (go skip : Unit → Prop) : Prop := match g with
  | none => go ()
  | some (j, want) => match (all[j]?).bind (·.dst) with
    | some d => match isSkip (tm.getD d .dead) with
      | true => skip ()
      | false => match want with
        | true => brO O (tm.getD d .dead) go skip
        | false => brO O (tm.getD d .dead) skip go
    | none => False
def opsO (A : Nat → TI) (G : Glob) (all : List Oper) : List Oper → List AV → Mem → (List AV → Mem → Prop) → Prop
  | [], tm, m, K => K tm m
  | o :: r, tm, m, K => match mvT o tm with
    | none => guardO O all tm o.guard (fun _ => opO O A G tm o m fun v m => opsO A G all r (setO tm o.dst v) m K) (fun _ => opsO A G all r (setO tm o.dst skipA) m K)
    | some s => O.alt (fun _ => opO O A G tm o m fun v m => opsO A G all r (setO tm o.dst v) m K)
        (fun _ => closeO O m (tm.getD s .dead) fun y m => opsO A G all r (setO (setO tm (some s) (.c y)) o.dst (tm.getD s .dead)) m K)
/-- Operations that are taken first, over the record. -/
def hoistO (A : Nat → TI) (G : Glob) (wr : List Nat) (tm : List AV) (o : Oper) (m : Mem) (K : AV → Prop) : Prop := match o.op with
  | .move x | .assign x => K (evA A G tm o.type x)
  | .pick c a b => brO O (evA A G tm 0 c) (fun _ => K (evA A G tm o.type a)) (fun _ => K (evA A G tm o.type b))
  | .nilCheck x => nilCheckW m (evA A G tm 0 x) fun v _ => K v
  | .fieldAddr s x f => match (A s).k with
    | .st fs => match fs[f]? with
      | some (off, _ + 1, _) => fieldAddrW off m (evA A G tm 0 x) fun v _ => K v
      | some (_, 0, _) => False
      | none => False
    | _ => False
  | .field t x f => match (A t).k with
    | .st fs => match fs[f]? with
      | some f => fieldO f m (evA A G tm 0 x) fun v _ => K v
      | none => False
    | _ => False
  | .extract x i => extractW i m (evA A G tm 0 x) fun v _ => K v
  | .binOp op t x y _ => match aggs (evA A G tm t x) (evA A G tm t y) with
    | some p => eqO O op (A t) m p.1 p.2 fun v _ => K v
    | none => binO O op (A t).k m (evA A G tm t x) (evA A G tm t y) fun v _ => K v
  | .unOp op _ x => unO O op m (evA A G tm 0 x) fun v _ => K v
  | .load t a => match (A t).size with
    | 0 => False
    | s + 1 => match evA A G tm 0 a with
      | .p id ver o => need (!wr.contains id) fun _ => loadO O (A t).agg (s + 1) m (.p id ver o) fun v _ => K v
      | .c x => loadO O (A t).agg (s + 1) m (.c x) fun v _ => K v
      | _ => False
  | .indexAddr t x i => match evA A G tm t x with
    | .t id ver n => need (!wr.contains id) fun _ => indexAddrO O (isLit i) (A t).k m (.t id ver n) (evA A G tm 0 i) fun v _ => K v
    | x => indexAddrO O (isLit i) (A t).k m x (evA A G tm 0 i) fun v _ => K v
  | .index t x i => indexO O (isLit i) (A t).k m (evA A G tm t x) (evA A G tm 0 i) fun v _ => K v
  | .convert s d x => match (A d).k, evA A G tm s x with
    | .int k, .c x => convO O (A s).k (.int k) 0 m (.c x) fun v _ => K v
    | .str, .c x => convO O (A s).k .str 0 m (.c x) fun v _ => K v
    | .str, .t id ver n => need (!wr.contains id) fun _ => convO O (A s).k .str 0 m (.t id ver n) fun v _ => K v
    | _, _ => False
  | .slice t x lo hi mx => match evA A G tm t x with
    | .c x => sliceO O (A t).k m (.c x) (lo.map (evA A G tm 0)) (hi.map (evA A G tm 0)) (mx.map (evA A G tm 0)) fun v _ => K v
    | .t id ver n => need (lo.isNone && !wr.contains id) fun _ => sliceO O (A t).k m (.t id ver n) none (hi.map (evA A G tm 0)) (mx.map (evA A G tm 0)) fun v _ => K v
    | _ => False
  | .call c => match c.callee with
    | .builtin .len => builtinO O A 0 m .len c.argTypes.toList (evLA A G tm c.args.toList c.argTypes.toList) fun v _ => K v
    | .builtin .min => builtinO O A 0 m .min c.argTypes.toList (evLA A G tm c.args.toList c.argTypes.toList) fun v _ => K v
    | .builtin .max => builtinO O A 0 m .max c.argTypes.toList (evLA A G tm c.args.toList c.argTypes.toList) fun v _ => K v
    | _ => False
  | .build t ps => match (A t).k with
    | .st fs => buildW (stPlace fs) (A t).zero (ps.toList.map fun p => (p.1, evA A G tm 0 p.2)) m fun v _ => K v
    | .ar _ esz _ => buildW (fun i => some (i * esz, esz)) (A t).zero (ps.toList.map fun p => (p.1, evA A G tm 0 p.2)) m fun v _ => K v
    | _ => False
  | _ => False
def planO (A : Nat → TI) (G : Glob) (wr : List (List Nat)) (all : List Oper) : List (Nat × Bool × Bool) → List AV → Mem → (List AV → Mem → Prop) → Prop
  | [], tm, m, K => K tm m
  | (i, h, lb) :: r, tm, m, K => match all[i]? with
    | none => False
    | some o => match h with
      | true => guardO O all tm o.guard (fun _ => hoistO O A G (wr.headD []) tm o m fun v => planO A G wr all r (setO tm o.dst v) m K) (fun _ => planO A G wr all r (setO tm o.dst skipA) m K)
      | false => guardO O all tm o.guard (fun _ => opO O A G tm o m fun v m' => match lb with
        | true => planO A G (dnW wr) all r (setO tm o.dst v) m' K
        | false => O.agree (wr.headD []) m m' ∧ planO A G (dnW wr) all r (setO tm o.dst v) m' K) (fun _ => planO A G (dnW wr) all r (setO tm o.dst skipA) m K)
def thenK (N R : List AV → Mem → Prop) (X : Nat → List AV → Mem → Prop) : KX := fun e tm m => match e with | .norm => N tm m | .ret => R tm m | .ex i => X i tm m
def execO (A : Nat → TI) (G : Glob) : Code → List AV → Mem → KX → Prop
  | .skip, tm, m, K => K .norm tm m
  | .label _, tm, m, K => K .norm tm m
  | .region _ ops draw, tm, m, K => match draw, hasG ops.toList with
    | false, false => opsO O A G ops.toList ops.toList tm m (K .norm)
    | false, true => O.reg ops tm m (K .norm)
    | true, _ => O.drawn ops tm m (K .norm)
  | .seq a b, tm, m, K => execO A G a tm m fun e tm m => match e with | .norm => execO A G b tm m K | .ret => K .ret tm m | .ex i => K (.ex i) tm m
  | .cond c a b, tm, m, K => brO O (evA A G tm 0 c) (fun _ => execO A G a tm m (thenK (O.join (K .norm)) (K .ret) (fun i => K (.ex i))))
      (fun _ => execO A G b tm m (thenK (O.join (K .norm)) (K .ret) (fun i => K (.ex i))))
  | .block id c, tm, m, K => execO A G c tm m fun e tm m => match e with | .norm => K .norm tm m | .ret => K .ret tm m | .ex i => match Nat.beq i id with | true => K .norm tm m | false => K (.ex i) tm m
  | .loop c, tm, m, K => O.loop c tm m K
  | .exit id, tm, m, K => K (.ex id) tm m
  | .ret, tm, m, K => K .ret tm m
  | _, _, _, _ => False
def resultsO (A : Nat → TI) (tm : List AV) (m : Mem) : List ResultVar → (List AV → Prop) → Prop
  | [], K => K []
  | .tmp t :: r, K => resultsO A tm m r fun l => K (tm.getD t .dead :: l)
  | .cell a t :: r, K => match (A t).size with | 0 => False | s + 1 => loadO O (A t).agg (s + 1) m (tm.getD a .dead) fun x _ => resultsO A tm m r fun l => K (x :: l)
def outsO (m : Mem) : List OV → List AV → (List OV → Mem → Prop) → Prop
  | [], _, K => K [] m
  | o :: os, xs, K => match o with
    | .ptr _ => match xs with
      | .p id ver 0 :: xs => match m.get id with
        | some (.blk v cs) => need (Nat.beq v ver) fun _ => packLW (packO O depth) (m.del id) cs fun ps m => outsO m os xs fun l m => K (.ptr ps :: l) m
        | _ => False
      | _ => False
    | o => outsO m os xs.tail fun l m => K (o :: l) m
def shutAO (m : Mem) (x : AV) (K : AV → Mem → Prop) : Prop := match x with
  | .agg cs => closeLO O m cs fun xs m => K (.agg (xs.map .c)) m
  | .c x => K (.c (normC x)) m
  | .t id ver n => closeO O m (.t id ver n) fun y m => K (.c y) m
  | x => K x m
def shutAsO (m : Mem) : List AV → (List AV → Mem → Prop) → Prop
  | [], K => K [] m
  | x :: xs, K => shutAO O m x fun y m => shutAsO m xs fun ys m => K (y :: ys) m
def shutIfO (sh : Bool) (m : Mem) (xs : List AV) (K : List AV → Mem → Prop) : Prop := match sh with
  | true => shutAsO O m xs K
  | false => K xs m
def FnO (A : Nat → TI) (G : Glob) (fn : Func) (body : Code) (args : List OV) (Q : OV → List OV → Prop) (sh : Bool) : Prop :=
  execO O A G body ((unpackL (unpack depth) 0 ⟨[], 0⟩ args).1 ++ List.replicate (fn.ntmps - args.length) .dead) (unpackL (unpack depth) 0 ⟨[], 0⟩ args).2.2 (thenK
    (fun tm m => resultsO O A tm m fn.results.toList fun rs => shutIfO O sh m rs fun rs m => packO O depth m (oneOf rs) fun r m => outsO O m args (unpackL (unpack depth) 0 ⟨[], 0⟩ args).1 fun bs _ => Q r bs)
    (fun tm m => resultsO O A tm m fn.results.toList fun rs => shutIfO O sh m rs fun rs m => packO O depth m (oneOf rs) fun r m => outsO O m args (unpackL (unpack depth) 0 ⟨[], 0⟩ args).1 fun bs _ => Q r bs)
    (fun _ _ _ => False))
end
end Go.Proofs.Ythncmjlcmlmnmaa.V

namespace Go.Proofs.Ythncmjlcmlmnmaa.V
open Go
section
variable {B : Nat} {T : Tab} {G : Glob} {D : Spec}
theorem need_eq (b : Bool) (A : Unit → Prop) : need b A = (b = true ∧ A ()) := by cases b <;> simp [need]
theorem beq_prop (a b : Nat) : (Nat.beq a b = true) = (a = b) := by simp
theorem brO_std (x : AV) (A A' : Unit → Prop) : brO (std B T G D) x A A' = condB x (A ()) (A' ()) := rfl
theorem rdA_eq (ag : Bool) (s : Nat) (cs : List AV) (K : AV → Prop) : rdA ag s cs K = readA ag s cs K := by
  cases ag
  · rfl
  · simp [rdA, readA, need_eq]
theorem closeO_std (m : Mem) (x : AV) (K : CV → Mem → Prop) : closeO (std B T G D) m x K = closeA m x K := by
  unfold closeO closeA; simp only [need_eq, beq_prop]; rfl
theorem closeLO_std : ∀ (l : List AV) (m : Mem) (K : List CV → Mem → Prop), closeLO (std B T G D) m l K = closeL m l K
  | [], _, _ => rfl
  | a :: l, m, K => by simp only [closeLO, closeL, closeO_std, closeLO_std l]
theorem sBinO_std (op : BinOp) (x y : Value) (K : Value → Prop) : sBinO (std B T G D) op x y K = sBin op x y K := by
  cases x <;> cases y <;> first | rfl | (cases op <;> first | rfl | (simp only [sBinO, sBin, need_eq, decide_eq_true_eq]; rfl))
theorem binO_std (op : BinOp) (k : TK) (m : Mem) (x y : AV) (K : KK) : binO (std B T G D) op k m x y K = binW op k m x y K := by
  unfold binO binW; simp only [sBinO_std, need_eq, Bool.or_eq_true]; rfl
theorem cellEqO_std (c : Nat) (x y : AV) : cellEqO (std B T G D) c x y = cellEq c x y := rfl
theorem cellsEqO_std : ∀ (cs : List Nat) (xs ys : List AV), cellsEqO (std B T G D) cs xs ys = cellsEq cs xs ys
  | [], [], [] => rfl
  | [], [], _ :: _ => rfl
  | [], _ :: _, _ => by unfold cellsEqO cellsEq; rfl
  | _ :: _, [], _ => by unfold cellsEqO cellsEq; rfl
  | _ :: _, _ :: _, [] => by unfold cellsEqO cellsEq; rfl
  | c :: cs, x :: xs, y :: ys => by simp only [cellsEqO, cellsEq, cellEqO_std, cellsEqO_std cs xs ys]; rfl
theorem eqO_std (op : BinOp) (ti : TI) (m : Mem) (xs ys : List AV) (K : KK) : eqO (std B T G D) op ti m xs ys K = eqW op ti m xs ys K := by
  unfold eqO eqW; simp only [cellsEqO_std]; rfl
theorem unO_std (op : UnOp) (m : Mem) (x : AV) (K : KK) : unO (std B T G D) op m x K = unW op m x K := rfl
theorem viewO_std (esz : Nat) (m : Mem) (x : AV) (K : EL → Prop) : viewO (std B T G D) esz m x K = viewS esz m x K := by
  unfold viewO viewS; simp only [need_eq, Bool.and_eq_true, beq_prop, and_assoc]; rfl
theorem convO_std (s d : TK) (site : Nat) (m : Mem) (x : AV) (K : KK) : convO (std B T G D) s d site m x K = convW s d site m x K := by
  unfold convO convW; simp only [viewO_std]; rfl
theorem loadO_std (ag : Bool) (s : Nat) (m : Mem) (x : AV) (K : KK) : loadO (std B T G D) ag s m x K = loadW ag s m x K := by
  unfold loadO loadW; simp only [need_eq, beq_prop, rdA_eq]; rfl
theorem boxO_std (site : Nat) (m : Mem) (y : AV) (K : KK) : boxO site m y K = boxW site m y K := by
  unfold boxO boxW; simp [need_eq]
theorem storeO_std (s : Nat) (m : Mem) (x y : AV) (K : Mem → Prop) : storeO (std B T G D) s m x y K = storeW s m x y K := by
  unfold storeO storeW
  simp only [closeLO_std, need_eq, Bool.and_eq_true, beq_prop, List.all_eq_true, Bool.not_eq_true', and_assoc, Nat.ble_eq]; rfl
theorem buildSliceO_std (site esz : Nat) (z : List CV) (n : Nat) (ps : List (Nat × AV)) (m : Mem) (K : KK) : buildSliceO (std B T G D) site esz z n ps m K = buildSliceW site esz z n ps m K := by
  unfold buildSliceO buildSliceW; simp only [closeLO_std, need_eq, Nat.ble_eq]; rfl
theorem makeSliceO_std (site esz eb : Nat) (z : List CV) (m : Mem) (l c : AV) (K : KK) : makeSliceO (std B T G D) site esz eb z m l c K = makeSliceW site esz eb z m l c K := rfl
theorem sliceO_std (k : TK) (m : Mem) (x : AV) (lo hi mx : Option AV) (K : KK) : sliceO (std B T G D) k m x lo hi mx K = sliceW k m x lo hi mx K := by
  unfold sliceO sliceW
  simp only [need_eq, Bool.and_eq_true, beq_prop, and_assoc]
  have h : ∀ (a b c : Prop), (a ∧ b ∧ c) = (b ∧ a ∧ c) := fun a b c => propext (by constructor <;> rintro ⟨h1, h2, h3⟩ <;> exact ⟨h2, h1, h3⟩)
  conv => lhs; simp only [h (mx.isNone = true)]
  rfl
theorem indexAddrO_std (lit : Bool) (k : TK) (m : Mem) (x i : AV) (K : KK) : indexAddrO (std B T G D) lit k m x i K = indexAddrW k m x i K := by
  unfold indexAddrO indexAddrW
  cases lit <;> simp only [need_eq, Bool.and_eq_true, decide_eq_true_eq, and_assoc, Nat.ble_eq, beq_prop] <;> rfl
theorem indexO_std (lit : Bool) (k : TK) (m : Mem) (x i : AV) (K : KK) : indexO (std B T G D) lit k m x i K = indexW k m x i K := by
  unfold indexO indexW
  cases lit <;> simp only [need_eq, Bool.and_eq_true, decide_eq_true_eq, and_assoc, rdA_eq] <;> rfl
theorem fieldO_eq (f : Nat × Nat × Bool) (m : Mem) (x : AV) (K : KK) : fieldO f m x K = fieldW f m x K := by
  unfold fieldO fieldW; simp only [rdA_eq]; rfl
theorem lenO_std (k : TK) (m : Mem) (x : AV) (K : KK) : lenO (std B T G D) k m x K = lenW k m x K := rfl
theorem capO_std (k : TK) (m : Mem) (x : AV) (K : KK) : capO (std B T G D) k m x K = capW k m x K := by
  unfold capO capW; simp only [need_eq, beq_prop]; rfl
theorem minmaxO_std (b : Bool) (m : Mem) (l : List AV) (K : KK) : minmaxO (std B T G D) b m l K = minmaxW b m l K := by
  unfold minmaxO minmaxW; simp only [need_eq, decide_eq_true_eq]; rfl
theorem srcO_std (esz : Nat) (m : Mem) (x : AV) (K : EL → Prop) : srcO (std B T G D) esz m x K = srcW esz m x K := by
  unfold srcO srcW; simp only [need_eq, beq_prop, viewO_std]; rfl
theorem appendO_std (site esz eb : Nat) (m : Mem) (s x : AV) (K : KK) : appendO (std B T G D) site esz eb m s x K = appendW site esz eb m s x K := by
  have e : ∀ es ns : EL, (std B T G D).len ((std B T G D).app es ns) = es.length + ns.length := fun es ns => List.length_append
  unfold appendO appendW; simp only [srcO_std, need_eq, Bool.and_eq_true, beq_prop, and_assoc, e]; rfl
theorem copyO_std (esz : Nat) (m : Mem) (d x : AV) (K : KK) : copyO (std B T G D) esz m d x K = copyW esz m d x K := by
  unfold copyO copyW; simp only [srcO_std, need_eq, Bool.and_eq_true, beq_prop, and_assoc]; rfl
theorem evA_eq (tm : List AV) (ty : Nat) (x : Operand) : evA (fun t => T.at t) G tm ty x = evO T G tm ty x := by
  cases x <;> rfl
theorem evLA_eq (tm : List AV) : ∀ (l : List Operand) (tys : List TypeId), evLA (fun t => T.at t) G tm l tys = evL T G tm l tys
  | [], _ => rfl
  | x :: xs, tys => by simp only [evLA, evL, evA_eq, evLA_eq tm xs]
theorem builtinO_std (site : Nat) (m : Mem) (b : Builtin) (tys : List TypeId) (args : List AV) (K : KK) : builtinO (std B T G D) (fun t => T.at t) site m b tys args K = builtinW T site m b tys args K := by
  unfold builtinO builtinW; simp only [lenO_std, capO_std, minmaxO_std, appendO_std, copyO_std]; rfl
theorem opO_std (tm : List AV) (o : Oper) (m : Mem) (K : KK) : opO (std B T G D) (fun t => T.at t) G tm o m K = opW T G D tm o m K := by
  unfold opO opW
  dsimp only
  simp only [evA_eq, evLA_eq, brO_std, boxO_std, buildSliceO_std, loadO_std, storeO_std, binO_std, eqO_std, unO_std, convO_std, makeSliceO_std, sliceO_std, indexAddrO_std, indexO_std, builtinO_std, fieldO_eq, need_eq, Bool.and_eq_true, Array.isEmpty_iff, and_assoc]
  rfl
theorem guardO_std (all : List Oper) (tm : List AV) (g : Option (Nat × Bool)) (go skip : Unit → Prop) : guardO (std B T G D) all tm g go skip = guardW all tm g (go ()) (skip ()) := by
  rcases g with _ | ⟨j, want⟩
  · rfl
  · simp only [guardO, guardW]
    cases (all[j]?).bind (·.dst) with
    | none => rfl
    | some d =>
      dsimp only
      cases isSkip (tm.getD d .dead)
      · cases want <;> rfl
      · rfl
theorem opsO_std (all : List Oper) : ∀ (l : List Oper) (tm : List AV) (m : Mem) (K : List AV → Mem → Prop), opsO (std B T G D) (fun t => T.at t) G all l tm m K = opsW T G D all l tm m K
  | [], _, _, _ => rfl
  | o :: r, tm, m, K => by
    simp only [opsO, opsW]
    cases mvT o tm with
    | none => simp only [guardO_std, opO_std, opsO_std all r]
    | some s =>
      show (opO (std B T G D) (fun t => T.at t) G tm o m _ ∨ closeO (std B T G D) m _ _) = _
      simp only [opO_std, closeO_std, opsO_std all r]
theorem hoistO_std (wr : List Nat) (tm : List AV) (o : Oper) (m : Mem) (K : AV → Prop) : hoistO (std B T G D) (fun t => T.at t) G wr tm o m K = hoistW T G wr tm o m K := by
  have hw : ∀ id : Nat, (wr.contains id = false) = (id ∉ wr) := fun id => by simp
  unfold hoistO hoistW
  dsimp only
  simp only [evA_eq, evLA_eq, brO_std, loadO_std, binO_std, eqO_std, unO_std, convO_std, sliceO_std, indexAddrO_std, indexO_std, builtinO_std, fieldO_eq, need_eq, Bool.and_eq_true, Bool.not_eq_true', hw, and_assoc, Option.isNone_iff_eq_none]
  rfl
def flagsOk (all : List Oper) (l : List (Nat × Bool × Bool)) : Bool := l.all fun x => x.2.1 || match all[x.1]? with | some o => x.2.2 == isLast all o | none => true
theorem planO_std (all : List Oper) : ∀ (wr : List (List Nat)) (l : List (Nat × Bool × Bool)) (tm : List AV) (m : Mem) (K : List AV → Mem → Prop), flagsOk all l = true → planO (std B T G D) (fun t => T.at t) G wr all l tm m K = planW T G D wr all (l.map fun x => (x.1, x.2.1)) tm m K
  | _, [], _, _, _, _ => rfl
  | wr, (i, h, lb) :: r, tm, m, K, hf => by
    simp only [flagsOk, List.all_cons, Bool.and_eq_true] at hf
    obtain ⟨hf1, hf2⟩ := hf
    have ih := fun wr tm m K => planO_std all wr r tm m K hf2
    simp only [planO, List.map_cons, planW]
    cases ho : all[i]? with
    | none => rfl
    | some o =>
      cases h with
      | true => simp only [guardO_std, hoistO_std, ih, if_true]
      | false =>
        simp only [ho, Bool.false_or, beq_iff_eq] at hf1
        subst hf1
        simp only [guardO_std, opO_std, ih, Bool.false_eq_true, if_false]
        congr 2; funext v m'
        cases isLast all o <;> simp [std]
theorem execO_std : ∀ (c : Code) (tm : List AV) (m : Mem) (K : KX), execO (std B T G D) (fun t => T.at t) G c tm m K = execW B T G D c tm m K
  | .skip, _, _, _ => rfl
  | .label _, _, _, _ => rfl
  | .region _ ops draw, tm, m, K => by
    cases draw
    · cases h : hasG ops.toList
      · simp only [execO, execW, opsO_std, h]
      · simp only [execO, execW, h]; rfl
    · rfl
  | .seq a b, tm, m, K => by simp only [execO, execW, execO_std a, execO_std b]; rfl
  | .cond c a b, tm, m, K => by
    simp only [execO, execW, execO_std a, execO_std b, brO_std, evA_eq]
    have : (thenK ((std B T G D).join (K .norm)) (K .ret) fun i => K (.ex i)) = fun e tm m => match e with | .norm => Join B (K .norm) tm m | .ret => K .ret tm m | .ex i => K (.ex i) tm m := by
      funext e tm m; cases e <;> rfl
    rw [this]; rfl
  | .block id c, tm, m, K => by
    simp only [execO, execW, execO_std c]
    congr 1; funext e tm m
    cases e with
    | ex i =>
      dsimp only
      by_cases h : i = id
      · rw [if_pos h, h]; simp
      · rw [if_neg h]; rw [show Nat.beq i id = false from by cases hq : Nat.beq i id; rfl; exact absurd (Nat.eq_of_beq_eq_true hq) h]
    | _ => rfl
  | .loop c, _, _, _ => rfl
  | .exit _, _, _, _ => rfl
  | .ret, _, _, _ => rfl
  | .rangeFunc _ _ _ _, _, _, _ => rfl
  | .scope _, _, _, _ => rfl
  | .goto _, _, _, _ => rfl
  | .refuse _, _, _, _ => rfl
theorem packO_std : ∀ (n : Nat) (m : Mem) (x : AV) (K : OV → Mem → Prop), packO (std B T G D) n m x K = packW n m x K
  | 0, _, _, _ => rfl
  | n + 1, m, x, K => by
    have : packO (std B T G D) n = packW n := by funext m x K; exact packO_std n m x K
    unfold packO packW; simp only [this, need_eq, beq_prop]; rfl
theorem packO_fun (n : Nat) : packO (std B T G D) n = packW n := by funext m x K; exact packO_std n m x K
theorem shutO_std (m : Mem) (x : AV) (K : OV → Mem → Prop) : shutO (std B T G D) m x K = shutW m x K := by
  unfold shutO shutW; simp only [closeLO_std, closeO_std]; rfl
theorem argO_std (md : Mode) (m : Mem) (x : AV) (K : OV → Mem → Prop) : argO (std B T G D) md m x K = argW md m x K := by
  have h : ∀ l : List AV, (l.all (fun x => !x.isDead) = true) = (∀ x ∈ l, x.isDead = false) := fun l => by simp
  unfold argO argW; simp only [shutO_std, packO_fun, need_eq, Bool.and_eq_true, beq_prop, Nat.ble_eq, h, and_assoc]; rfl
theorem argsO_std : ∀ (mds : List Mode) (l : List AV) (m : Mem) (K : List OV → Mem → Prop), argsO (std B T G D) m mds l K = argsW m mds l K
  | [], [], _, _ => rfl
  | [], _ :: _, _, _ => rfl
  | _ :: _, [], _, _ => rfl
  | md :: mds, a :: l, m, K => by simp only [argsO, argsW, argO_std, argsO_std mds l]
theorem backO_eq (id : Nat) : ∀ (mds : List Mode) (l : List AV) (os : List OV) (m : Mem) (K : Nat → Mem → Prop), backO id m mds l os K → backW id m mds l os K
  | [], [], [], _, _ => fun h => h
  | [], [], _ :: _, _, _ => fun h => h.elim
  | [], _ :: _, _, _, _ => fun h => h.elim
  | md :: _, [], _, _, _ => fun h => h.elim
  | md :: _, _ :: _, [], _, _ => fun h => h.elim
  | md :: mds, x :: xs, o :: l, m, K => fun h => by
    unfold backO at h
    cases md with
    | ref s =>
      dsimp only at h
      split at h
      · rename_i i ver off os
        split at h
        · rename_i v cs hg
          simp only [need_eq, Bool.and_eq_true, beq_prop, Nat.ble_eq] at h
          obtain ⟨⟨⟨h1, h2⟩, h3⟩, h⟩ := h
          unfold backW
          refine ⟨by simpa using h1, ?_⟩
          rw [hg]
          exact ⟨h2, h3, backO_eq id mds xs l _ K h⟩
        · exact h.elim
      · exact h.elim
    | shut => unfold backW; exact backO_eq id mds xs l m K h
    | keep => unfold backW; exact backO_eq id mds xs l m K h
    | own => unfold backW; exact backO_eq id mds xs l m K h
theorem resultsO_std (tm : List AV) (m : Mem) : ∀ (l : List ResultVar) (K : List AV → Prop), resultsO (std B T G D) (fun t => T.at t) tm m l K = resultsW T tm m l K
  | [], _ => rfl
  | .tmp t :: r, K => by simp only [resultsO, resultsW, resultsO_std tm m r]
  | .cell a t :: r, K => by simp only [resultsO, resultsW, resultsO_std tm m r, loadO_std]; rfl
theorem outsO_std : ∀ (os : List OV) (xs : List AV) (m : Mem) (K : List OV → Mem → Prop), outsO (std B T G D) m os xs K = outsW m os xs K
  | [], _, _, _ => by simp only [outsO, outsW]
  | o :: os, xs, m, K => by
    cases o with
    | ptr cs =>
      rcases xs with _ | ⟨x, xs⟩
      · simp only [outsO, outsW]
      · cases x with
        | p id ver off =>
          cases off with
          | zero =>
            simp only [outsO, outsW]
            cases m.get id with
            | none => rfl
            | some ob => cases ob <;> first | rfl | (simp only [need_eq, beq_prop, packO_fun, outsO_std os])
          | succ n => simp only [outsO, outsW]
        | _ => simp only [outsO, outsW]
    | _ => simp only [outsO, outsW, outsO_std os]
theorem shutAO_std (m : Mem) (x : AV) (K : AV → Mem → Prop) : shutAO (std B T G D) m x K = shutA m x K := by
  unfold shutAO shutA; simp only [closeLO_std, closeO_std]; rfl
theorem shutAsO_std : ∀ (l : List AV) (m : Mem) (K : List AV → Mem → Prop), shutAsO (std B T G D) m l K = shutAs m l K
  | [], _, _ => rfl
  | x :: xs, m, K => by simp only [shutAsO, shutAs, shutAO_std, shutAsO_std xs]
theorem shutIfO_std (sh : Bool) (m : Mem) (l : List AV) (K : List AV → Mem → Prop) : shutIfO (std B T G D) sh m l K = shutIf sh m l K := by
  cases sh
  · rfl
  · exact shutAsO_std l m K
theorem FnO_std (fn : Func) (body : Code) (args : List OV) (Q : OV → List OV → Prop) (sh : Bool) (hB : (unpackL (unpack depth) 0 ⟨[], 0⟩ args).2.2.clk = B) : FnO (std B T G D) (fun t => T.at t) G fn body args Q sh = FnW T G D fn body args Q sh := by
  subst hB
  unfold FnO FnW
  rw [execO_std]
  simp only [resultsO_std, shutIfO_std, packO_std, outsO_std]
  congr 1
  funext e tm m
  cases e <;> rfl
end
end Go.Proofs.Ythncmjlcmlmnmaa.V

