/- At the record that is meant, the execution over the record is that of V0. Conditions: none. -/
import Derived.Test.YthncmjlcmlmnmaaVP
namespace Go.Proofs.Ythncmjlcmlmnmaa.V
open Go
section
variable {B : Nat} {T : Tab} {G : Glob} {D : Spec}
theorem need_eq (b : Bool) (A : Unit → Prop) : need b A = (b = true ∧ A ()) := by cases b <;> simp [need]
theorem beq_prop (a b : Nat) : (Nat.beq a b = true) = (a = b) := by simp
theorem brO_std (x : AV) (A A' : Unit → Prop) : brO (std B T G D) x A A' = condB x (A ()) (A' ()) := rfl
theorem rdA_eq (ag : Bool) (s : Nat) (cs : List AV) (K : AV → Prop) : rdA ag s cs K = readA ag s cs K := by
  cases ag
  · rfl
  · simp [rdA, readA, need_eq]
theorem closeO_std (m : Mem) (x : AV) (K : CV → Mem → Prop) : closeO (std B T G D) m x K = closeA m x K := by
  unfold closeO closeA; simp only [need_eq, beq_prop]; rfl
theorem closeLO_std : ∀ (l : List AV) (m : Mem) (K : List CV → Mem → Prop), closeLO (std B T G D) m l K = closeL m l K
  | [], _, _ => rfl
  | a :: l, m, K => by simp only [closeLO, closeL, closeO_std, closeLO_std l]
theorem sBinO_std (op : BinOp) (x y : Value) (K : Value → Prop) : sBinO (std B T G D) op x y K = sBin op x y K := by
  cases x <;> cases y <;> first | rfl | (cases op <;> first | rfl | (simp only [sBinO, sBin, need_eq, decide_eq_true_eq]; rfl))
theorem binO_std (op : BinOp) (k : TK) (m : Mem) (x y : AV) (K : KK) : binO (std B T G D) op k m x y K = binW op k m x y K := by
  unfold binO binW; simp only [sBinO_std, need_eq, Bool.or_eq_true]; rfl
theorem cellEqO_std (c : Nat) (x y : AV) : cellEqO (std B T G D) c x y = cellEq c x y := rfl
theorem cellsEqO_std : ∀ (cs : List Nat) (xs ys : List AV), cellsEqO (std B T G D) cs xs ys = cellsEq cs xs ys
  | [], [], [] => rfl
  | [], [], _ :: _ => rfl
  | [], _ :: _, _ => by unfold cellsEqO cellsEq; rfl
  | _ :: _, [], _ => by unfold cellsEqO cellsEq; rfl
  | _ :: _, _ :: _, [] => by unfold cellsEqO cellsEq; rfl
  | c :: cs, x :: xs, y :: ys => by simp only [cellsEqO, cellsEq, cellEqO_std, cellsEqO_std cs xs ys]; rfl
theorem eqO_std (op : BinOp) (ti : TI) (m : Mem) (xs ys : List AV) (K : KK) : eqO (std B T G D) op ti m xs ys K = eqW op ti m xs ys K := by
  unfold eqO eqW; simp only [cellsEqO_std]; rfl
theorem unO_std (op : UnOp) (m : Mem) (x : AV) (K : KK) : unO (std B T G D) op m x K = unW op m x K := rfl
theorem viewO_std (esz : Nat) (m : Mem) (x : AV) (K : EL → Prop) : viewO (std B T G D) esz m x K = viewS esz m x K := by
  unfold viewO viewS; simp only [need_eq, Bool.and_eq_true, beq_prop, and_assoc]; rfl
theorem convO_std (s d : TK) (site : Nat) (m : Mem) (x : AV) (K : KK) : convO (std B T G D) s d site m x K = convW s d site m x K := by
  unfold convO convW; simp only [viewO_std]; rfl
theorem loadO_std (ag : Bool) (s : Nat) (m : Mem) (x : AV) (K : KK) : loadO (std B T G D) ag s m x K = loadW ag s m x K := by
  unfold loadO loadW; simp only [need_eq, beq_prop, rdA_eq]; rfl
theorem boxO_std (site : Nat) (m : Mem) (y : AV) (K : KK) : boxO site m y K = boxW site m y K := by
  unfold boxO boxW; simp [need_eq]
theorem storeO_std (s : Nat) (m : Mem) (x y : AV) (K : Mem → Prop) : storeO (std B T G D) s m x y K = storeW s m x y K := by
  unfold storeO storeW
  simp only [closeLO_std, need_eq, Bool.and_eq_true, beq_prop, List.all_eq_true, Bool.not_eq_true', and_assoc, Nat.ble_eq]; rfl
theorem buildSliceO_std (site esz : Nat) (z : List CV) (n : Nat) (ps : List (Nat × AV)) (m : Mem) (K : KK) : buildSliceO (std B T G D) site esz z n ps m K = buildSliceW site esz z n ps m K := by
  unfold buildSliceO buildSliceW; simp only [closeLO_std, need_eq, Nat.ble_eq]; rfl
theorem makeSliceO_std (site esz eb : Nat) (z : List CV) (m : Mem) (l c : AV) (K : KK) : makeSliceO (std B T G D) site esz eb z m l c K = makeSliceW site esz eb z m l c K := rfl
theorem sliceO_std (k : TK) (m : Mem) (x : AV) (lo hi mx : Option AV) (K : KK) : sliceO (std B T G D) k m x lo hi mx K = sliceW k m x lo hi mx K := by
  unfold sliceO sliceW
  simp only [need_eq, Bool.and_eq_true, beq_prop, and_assoc]
  have h : ∀ (a b c : Prop), (a ∧ b ∧ c) = (b ∧ a ∧ c) := fun a b c => propext (by constructor <;> rintro ⟨h1, h2, h3⟩ <;> exact ⟨h2, h1, h3⟩)
  conv => lhs; simp only [h (mx.isNone = true)]
  rfl
theorem indexAddrO_std (lit : Bool) (k : TK) (m : Mem) (x i : AV) (K : KK) : indexAddrO (std B T G D) lit k m x i K = indexAddrW k m x i K := by
  unfold indexAddrO indexAddrW
  cases lit <;> simp only [need_eq, Bool.and_eq_true, decide_eq_true_eq, and_assoc, Nat.ble_eq, beq_prop] <;> rfl
theorem indexO_std (lit : Bool) (k : TK) (m : Mem) (x i : AV) (K : KK) : indexO (std B T G D) lit k m x i K = indexW k m x i K := by
  unfold indexO indexW
  cases lit <;> simp only [need_eq, Bool.and_eq_true, decide_eq_true_eq, and_assoc, rdA_eq] <;> rfl
theorem fieldO_eq (f : Nat × Nat × Bool) (m : Mem) (x : AV) (K : KK) : fieldO f m x K = fieldW f m x K := by
  unfold fieldO fieldW; simp only [rdA_eq]; rfl
theorem lenO_std (k : TK) (m : Mem) (x : AV) (K : KK) : lenO (std B T G D) k m x K = lenW k m x K := rfl
theorem capO_std (k : TK) (m : Mem) (x : AV) (K : KK) : capO (std B T G D) k m x K = capW k m x K := by
  unfold capO capW; simp only [need_eq, beq_prop]; rfl
theorem minmaxO_std (b : Bool) (m : Mem) (l : List AV) (K : KK) : minmaxO (std B T G D) b m l K = minmaxW b m l K := by
  unfold minmaxO minmaxW; simp only [need_eq, decide_eq_true_eq]; rfl
theorem srcO_std (esz : Nat) (m : Mem) (x : AV) (K : EL → Prop) : srcO (std B T G D) esz m x K = srcW esz m x K := by
  unfold srcO srcW; simp only [need_eq, beq_prop, viewO_std]; rfl
theorem appendO_std (site esz eb : Nat) (m : Mem) (s x : AV) (K : KK) : appendO (std B T G D) site esz eb m s x K = appendW site esz eb m s x K := by
  have e : ∀ es ns : EL, (std B T G D).len ((std B T G D).app es ns) = es.length + ns.length := fun es ns => List.length_append
  unfold appendO appendW; simp only [srcO_std, need_eq, Bool.and_eq_true, beq_prop, and_assoc, e]; rfl
theorem copyO_std (esz : Nat) (m : Mem) (d x : AV) (K : KK) : copyO (std B T G D) esz m d x K = copyW esz m d x K := by
  unfold copyO copyW; simp only [srcO_std, need_eq, Bool.and_eq_true, beq_prop, and_assoc]; rfl
theorem evA_eq (tm : List AV) (ty : Nat) (x : Operand) : evA (fun t => T.at t) G tm ty x = evO T G tm ty x := by
  cases x <;> rfl
theorem evLA_eq (tm : List AV) : ∀ (l : List Operand) (tys : List TypeId), evLA (fun t => T.at t) G tm l tys = evL T G tm l tys
  | [], _ => rfl
  | x :: xs, tys => by simp only [evLA, evL, evA_eq, evLA_eq tm xs]
theorem builtinO_std (site : Nat) (m : Mem) (b : Builtin) (tys : List TypeId) (args : List AV) (K : KK) : builtinO (std B T G D) (fun t => T.at t) site m b tys args K = builtinW T site m b tys args K := by
  unfold builtinO builtinW; simp only [lenO_std, capO_std, minmaxO_std, appendO_std, copyO_std]; rfl
theorem opO_std (tm : List AV) (o : Oper) (m : Mem) (K : KK) : opO (std B T G D) (fun t => T.at t) G tm o m K = opW T G D tm o m K := by
  unfold opO opW
  dsimp only
  simp only [evA_eq, evLA_eq, brO_std, boxO_std, buildSliceO_std, loadO_std, storeO_std, binO_std, eqO_std, unO_std, convO_std, makeSliceO_std, sliceO_std, indexAddrO_std, indexO_std, builtinO_std, fieldO_eq, need_eq, Bool.and_eq_true, Array.isEmpty_iff, and_assoc]
  rfl
theorem guardO_std (all : List Oper) (tm : List AV) (g : Option (Nat × Bool)) (go skip : Unit → Prop) : guardO (std B T G D) all tm g go skip = guardW all tm g (go ()) (skip ()) := by
  rcases g with _ | ⟨j, want⟩
  · rfl
  · simp only [guardO, guardW]
    cases (all[j]?).bind (·.dst) with
    | none => rfl
    | some d =>
      dsimp only
      cases isSkip (tm.getD d .dead)
      · cases want <;> rfl
      · rfl
theorem opsO_std (all : List Oper) : ∀ (l : List Oper) (tm : List AV) (m : Mem) (K : List AV → Mem → Prop), opsO (std B T G D) (fun t => T.at t) G all l tm m K = opsW T G D all l tm m K
  | [], _, _, _ => rfl
  | o :: r, tm, m, K => by
    simp only [opsO, opsW]
    cases mvT o tm with
    | none => simp only [guardO_std, opO_std, opsO_std all r]
    | some s =>
      show (opO (std B T G D) (fun t => T.at t) G tm o m _ ∨ closeO (std B T G D) m _ _) = _
      simp only [opO_std, closeO_std, opsO_std all r]
theorem hoistO_std (wr : List Nat) (tm : List AV) (o : Oper) (m : Mem) (K : AV → Prop) : hoistO (std B T G D) (fun t => T.at t) G wr tm o m K = hoistW T G wr tm o m K := by
  have hw : ∀ id : Nat, (wr.contains id = false) = (id ∉ wr) := fun id => by simp
  unfold hoistO hoistW
  dsimp only
  simp only [evA_eq, evLA_eq, brO_std, loadO_std, binO_std, eqO_std, unO_std, convO_std, sliceO_std, indexAddrO_std, indexO_std, builtinO_std, fieldO_eq, need_eq, Bool.and_eq_true, Bool.not_eq_true', hw, and_assoc, Option.isNone_iff_eq_none]
  rfl
def flagsOk (all : List Oper) (l : List (Nat × Bool × Bool)) : Bool := l.all fun x => x.2.1 || match all[x.1]? with | some o => x.2.2 == isLast all o | none => true
theorem planO_std (all : List Oper) : ∀ (wr : List (List Nat)) (l : List (Nat × Bool × Bool)) (tm : List AV) (m : Mem) (K : List AV → Mem → Prop), flagsOk all l = true → planO (std B T G D) (fun t => T.at t) G wr all l tm m K = planW T G D wr all (l.map fun x => (x.1, x.2.1)) tm m K
  | _, [], _, _, _, _ => rfl
  | wr, (i, h, lb) :: r, tm, m, K, hf => by
    simp only [flagsOk, List.all_cons, Bool.and_eq_true] at hf
    obtain ⟨hf1, hf2⟩ := hf
    have ih := fun wr tm m K => planO_std all wr r tm m K hf2
    simp only [planO, List.map_cons, planW]
    cases ho : all[i]? with
    | none => rfl
    | some o =>
      cases h with
      | true => simp only [guardO_std, hoistO_std, ih, if_true]
      | false =>
        simp only [ho, Bool.false_or, beq_iff_eq] at hf1
        subst hf1
        simp only [guardO_std, opO_std, ih, Bool.false_eq_true, if_false]
        congr 2; funext v m'
        cases isLast all o <;> simp [std]
theorem execO_std : ∀ (c : Code) (tm : List AV) (m : Mem) (K : KX), execO (std B T G D) (fun t => T.at t) G c tm m K = execW B T G D c tm m K
  | .skip, _, _, _ => rfl
  | .label _, _, _, _ => rfl
  | .region _ ops draw, tm, m, K => by
    cases draw
    · cases h : hasG ops.toList
      · simp only [execO, execW, opsO_std, h]
      · simp only [execO, execW, h]; rfl
    · rfl
  | .seq a b, tm, m, K => by simp only [execO, execW, execO_std a, execO_std b]; rfl
  | .cond c a b, tm, m, K => by
    simp only [execO, execW, execO_std a, execO_std b, brO_std, evA_eq]
    have : (thenK ((std B T G D).join (K .norm)) (K .ret) fun i => K (.ex i)) = fun e tm m => match e with | .norm => Join B (K .norm) tm m | .ret => K .ret tm m | .ex i => K (.ex i) tm m := by
      funext e tm m; cases e <;> rfl
    rw [this]; rfl
  | .block id c, tm, m, K => by
    simp only [execO, execW, execO_std c]
    congr 1; funext e tm m
    cases e with
    | ex i =>
      dsimp only
      by_cases h : i = id
      · rw [if_pos h, h]; simp
      · rw [if_neg h]; rw [show Nat.beq i id = false from by cases hq : Nat.beq i id; rfl; exact absurd (Nat.eq_of_beq_eq_true hq) h]
    | _ => rfl
  | .loop c, _, _, _ => rfl
  | .exit _, _, _, _ => rfl
  | .ret, _, _, _ => rfl
  | .rangeFunc _ _ _ _, _, _, _ => rfl
  | .scope _, _, _, _ => rfl
  | .goto _, _, _, _ => rfl
  | .refuse _, _, _, _ => rfl
theorem packO_std : ∀ (n : Nat) (m : Mem) (x : AV) (K : OV → Mem → Prop), packO (std B T G D) n m x K = packW n m x K
  | 0, _, _, _ => rfl
  | n + 1, m, x, K => by
    have : packO (std B T G D) n = packW n := by funext m x K; exact packO_std n m x K
    unfold packO packW; simp only [this, need_eq, beq_prop]; rfl
theorem packO_fun (n : Nat) : packO (std B T G D) n = packW n := by funext m x K; exact packO_std n m x K
theorem shutO_std (m : Mem) (x : AV) (K : OV → Mem → Prop) : shutO (std B T G D) m x K = shutW m x K := by
  unfold shutO shutW; simp only [closeLO_std, closeO_std]; rfl
theorem argO_std (md : Mode) (m : Mem) (x : AV) (K : OV → Mem → Prop) : argO (std B T G D) md m x K = argW md m x K := by
  have h : ∀ l : List AV, (l.all (fun x => !x.isDead) = true) = (∀ x ∈ l, x.isDead = false) := fun l => by simp
  unfold argO argW; simp only [shutO_std, packO_fun, need_eq, Bool.and_eq_true, beq_prop, Nat.ble_eq, h, and_assoc]; rfl
theorem argsO_std : ∀ (mds : List Mode) (l : List AV) (m : Mem) (K : List OV → Mem → Prop), argsO (std B T G D) m mds l K = argsW m mds l K
  | [], [], _, _ => rfl
  | [], _ :: _, _, _ => rfl
  | _ :: _, [], _, _ => rfl
  | md :: mds, a :: l, m, K => by simp only [argsO, argsW, argO_std, argsO_std mds l]
theorem backO_eq (id : Nat) : ∀ (mds : List Mode) (l : List AV) (os : List OV) (m : Mem) (K : Nat → Mem → Prop), backO id m mds l os K → backW id m mds l os K
  | [], [], [], _, _ => fun h => h
  | [], [], _ :: _, _, _ => fun h => h.elim
  | [], _ :: _, _, _, _ => fun h => h.elim
  | md :: _, [], _, _, _ => fun h => h.elim
  | md :: _, _ :: _, [], _, _ => fun h => h.elim
  | md :: mds, x :: xs, o :: l, m, K => fun h => by
    unfold backO at h
    cases md with
    | ref s =>
      dsimp only at h
      split at h
      · rename_i i ver off os
        split at h
        · rename_i v cs hg
          simp only [need_eq, Bool.and_eq_true, beq_prop, Nat.ble_eq] at h
          obtain ⟨⟨⟨h1, h2⟩, h3⟩, h⟩ := h
          unfold backW
          refine ⟨by simpa using h1, ?_⟩
          rw [hg]
          exact ⟨h2, h3, backO_eq id mds xs l _ K h⟩
        · exact h.elim
      · exact h.elim
    | shut => unfold backW; exact backO_eq id mds xs l m K h
    | keep => unfold backW; exact backO_eq id mds xs l m K h
    | own => unfold backW; exact backO_eq id mds xs l m K h
theorem resultsO_std (tm : List AV) (m : Mem) : ∀ (l : List ResultVar) (K : List AV → Prop), resultsO (std B T G D) (fun t => T.at t) tm m l K = resultsW T tm m l K
  | [], _ => rfl
  | .tmp t :: r, K => by simp only [resultsO, resultsW, resultsO_std tm m r]
  | .cell a t :: r, K => by simp only [resultsO, resultsW, resultsO_std tm m r, loadO_std]; rfl
theorem outsO_std : ∀ (os : List OV) (xs : List AV) (m : Mem) (K : List OV → Mem → Prop), outsO (std B T G D) m os xs K = outsW m os xs K
  | [], _, _, _ => by simp only [outsO, outsW]
  | o :: os, xs, m, K => by
    cases o with
    | ptr cs =>
      rcases xs with _ | ⟨x, xs⟩
      · simp only [outsO, outsW]
      · cases x with
        | p id ver off =>
          cases off with
          | zero =>
            simp only [outsO, outsW]
            cases m.get id with
            | none => rfl
            | some ob => cases ob <;> first | rfl | (simp only [need_eq, beq_prop, packO_fun, outsO_std os])
          | succ n => simp only [outsO, outsW]
        | _ => simp only [outsO, outsW]
    | _ => simp only [outsO, outsW, outsO_std os]
theorem shutAO_std (m : Mem) (x : AV) (K : AV → Mem → Prop) : shutAO (std B T G D) m x K = shutA m x K := by
  unfold shutAO shutA; simp only [closeLO_std, closeO_std]; rfl
theorem shutAsO_std : ∀ (l : List AV) (m : Mem) (K : List AV → Mem → Prop), shutAsO (std B T G D) m l K = shutAs m l K
  | [], _, _ => rfl
  | x :: xs, m, K => by simp only [shutAsO, shutAs, shutAO_std, shutAsO_std xs]
theorem shutIfO_std (sh : Bool) (m : Mem) (l : List AV) (K : List AV → Mem → Prop) : shutIfO (std B T G D) sh m l K = shutIf sh m l K := by
  cases sh
  · rfl
  · exact shutAsO_std l m K
theorem FnO_std (fn : Func) (body : Code) (args : List OV) (Q : OV → List OV → Prop) (sh : Bool) (hB : (unpackL (unpack depth) 0 ⟨[], 0⟩ args).2.2.clk = B) : FnO (std B T G D) (fun t => T.at t) G fn body args Q sh = FnW T G D fn body args Q sh := by
  subst hB
  unfold FnO FnW
  rw [execO_std]
  simp only [resultsO_std, shutIfO_std, packO_std, outsO_std]
  congr 1
  funext e tm m
  cases e <;> rfl
end
end Go.Proofs.Ythncmjlcmlmnmaa.V
