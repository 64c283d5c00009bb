/- Operations that compute without memory, or read it: the abstract execution is sound for the model's. Conditions: none. -/
import Derived.Test.YthncmjlcmlmnmaaV5
import Derived.Laws.StructEq
import Derived.ChangeKeysEq
import GoSem.Dispatch
namespace Go.Proofs.Ythncmjlcmlmnmaa.V
open Go Go.RowKit

/-- The model's operation comes to a value that the abstract one lets its continuation hold of. -/
def Did (X : Ctx) (S : Area) (pl : Place) (w : World) (m : Mem) (r : Result Value) (K : KK) : Prop :=
  ∃ u w' S' pl' v m', r = .ok u w' ∧ K v m' ∧ RelV S' pl' w' m' v u ∧ St X S' pl' w' m' ∧ Keeps S S' pl pl' w w' m m'

section
variable {P : Program} {T : Tab} {X : Ctx} {S : Area} {pl : Place} {w : World} {m : Mem} {K : KK}

theorem Did.same (h : St X S pl w m) {u : Value} {v : AV} (hk : K v m) (hr : RelV S pl w m v u) : Did X S pl w m (.ok u w) K :=
  ⟨u, w, S, pl, v, m, rfl, hk, hr, h, Keeps.refl _ _ _ _⟩
theorem Did.lit (h : St X S pl w m) {u : Value} (hs : solidV u = true) (hk : K (.c (.v u)) m) : Did X S pl w m (.ok u w) K := Did.same h hk (.c _ _ (.v u hs))

theorem relV_v {x u : Value} (h : RelV S pl w m (.c (.v x)) u) : u = x := by cases h with | c _ _ h => cases h with | v _ _ => rfl
theorem solid_v {x u : Value} (h : RelV S pl w m (.c (.v x)) u) : solidV x = true := by cases h with | c _ _ h => cases h with | v _ h => exact h

theorem sBin_sound (op : BinOp) (t : TypeId) (a b : Value) {Q : Value → Prop} (h : sBin op a b Q) : ∃ r, (binOp op t a b).run P w = .ok r w ∧ solidV r = true ∧ Q r := by
  cases a <;> cases b <;> simp only [sBin] at h <;> try exact h.elim
  case int.int k x k' y =>
    cases op <;> simp only at h
    case shl =>
      obtain ⟨h0, hq⟩ := h
      refine ⟨_, ?_, rfl, hq⟩
      simp only [binOp, Op.shift]; rw [if_neg (by omega)]; rfl
    case shr =>
      obtain ⟨h0, hq⟩ := h
      refine ⟨_, ?_, rfl, hq⟩
      simp only [binOp, Op.shift]; rw [if_neg (by omega)]; rfl
    case quo =>
      obtain ⟨rfl, h0, hq⟩ := h
      refine ⟨_, ?_, rfl, hq⟩
      simp only [binOp, Op.intDiv, ne_eq, not_true_eq_false, if_false]; rw [if_neg h0]; rfl
    case rem =>
      obtain ⟨rfl, h0, hq⟩ := h
      refine ⟨_, ?_, rfl, hq⟩
      simp only [binOp, Op.intDiv, ne_eq, not_true_eq_false, if_false]; rw [if_neg h0]; rfl
    all_goals
      obtain ⟨rfl, hq⟩ := h
      refine ⟨_, ?_, rfl, hq⟩
      simp only [binOp, ne_eq, not_true_eq_false, if_false, Op.intArith, Op.intBits, Op.intCmp]; rfl
  case string.string x y =>
    cases op <;> simp only at h <;> try exact h.elim
    case add =>
      obtain ⟨h0, hq⟩ := h
      refine ⟨_, ?_, rfl, hq⟩
      simp only [binOp, Op.stringOp]; rw [if_neg (by omega)]; rfl
    all_goals
      refine ⟨_, ?_, rfl, h⟩
      simp only [binOp, Op.stringOp]; rfl

theorem eqGuard_plain (op : BinOp) (t : TypeId) (x y : Operand) (a b : Value) (h : ¬ (a = .nilIface ∧ b = .nilIface)) (h' : ∀ c d, ¬ (a = .agg c ∧ b = .agg d)) :
    (eqGuard op t x y a b).run P w = .ok () w := by
  unfold eqGuard
  cases op <;> first | rfl | (cases a <;> cases b <;> first | rfl | exact absurd ⟨rfl, rfl⟩ h | exact absurd ⟨rfl, rfl⟩ (h' _ _))

theorem equalIn_bool (d : Nat) {t : TypeId} (ht : P.underlying t = some .bool) (a b : Bool) : (Op.equalIn (d + 1) t (.bool a) (.bool b)).run P w = .ok (a == b) w := by
  simp only [Op.equalIn, Sem.run_bind, run_underlying ht, Result.andThen_ok]; rfl
theorem equal_bool {t : TypeId} (ht : P.underlying t = some .bool) (a b : Bool) : (Op.equal t (.bool a) (.bool b)).run P w = .ok (a == b) w := equalIn_bool 9999 ht a b
theorem equalIn_ptr_nil (d : Nat) {t e : TypeId} (ht : P.underlying t = some (.pointer e)) (a b : Option Addr) (h : a = none ∨ b = none) : (Op.equalIn (d + 1) t (.pointer a) (.pointer b)).run P w = .ok (a.isNone && b.isNone) w := by
  simp only [Op.equalIn, Sem.run_bind, run_underlying ht, Result.andThen_ok]
  cases a with
  | none => rfl
  | some a => cases b with
    | none => rfl
    | some b => simp at h
theorem equal_ptr_nil {t e : TypeId} (ht : P.underlying t = some (.pointer e)) (a b : Option Addr) (h : a = none ∨ b = none) : (Op.equal t (.pointer a) (.pointer b)).run P w = .ok (a.isNone && b.isNone) w := equalIn_ptr_nil 9999 ht a b h

theorem nil_rel {x : AV} {u : Value} {b : Bool} (hx : isNil x = some b) (h : RelV S pl w m x u) : ∃ a, u = .pointer a ∧ a.isNone = b := by
  unfold isNil at hx
  split at hx <;> first | (simp at hx; done) | (injection hx with hx; subst hx)
  · exact ⟨none, relV_v h, rfl⟩
  · cases h with | c _ _ h => cases h; exact ⟨_, rfl, rfl⟩
  · cases h; exact ⟨_, rfl, rfl⟩
  · cases h; exact ⟨_, rfl, rfl⟩

theorem binW_sound (hT : TabOk P T) (h : St X S pl w m) (op : BinOp) (t : TypeId) (ox oy : Operand) {x y : AV} {a b : Value} (hx : RelV S pl w m x a) (hy : RelV S pl w m y b)
    (hk : binW op (T.at t).k m x y K) : Did X S pl w m ((do eqGuard op t ox oy a b; binOp op t a b : Sem Value).run P w) K := by
  unfold binW at hk
  split at hk
  · have e1 := relV_v hx; have e2 := relV_v hy; subst e1 e2
    split at hk
    · rename_i hk2
      have ht : P.underlying t = some .bool := by
        have := (hT.tk (t := t) (by rw [hk2]; rfl)).1
        rw [hk2] at this; simp only [tkOk] at this
        split at this <;> first | assumption | simp at this
      rw [Sem.run_bind, eqGuard_plain _ t ox oy _ _ (by simp) (by simp)]; simp only [Sem.run_bind, Result.andThen_ok, binOp, equal_bool ht]
      exact Did.lit h rfl hk
    · rename_i hk2
      have ht : P.underlying t = some .bool := by
        have := (hT.tk (t := t) (by rw [hk2]; rfl)).1
        rw [hk2] at this; simp only [tkOk] at this
        split at this <;> first | assumption | simp at this
      rw [Sem.run_bind, eqGuard_plain _ t ox oy _ _ (by simp) (by simp)]; simp only [Sem.run_bind, Result.andThen_ok, binOp, equal_bool ht]
      exact Did.lit h rfl hk
    · exact hk.elim
  · have e1 := relV_v hx; have e2 := relV_v hy; subst e1 e2
    obtain ⟨r, hr, hs, hq⟩ := sBin_sound (P := P) (w := w) op t _ _ hk
    rw [Sem.run_bind, eqGuard_plain op t ox oy _ _ (by simp) (by simp), Result.andThen_ok, hr]
    exact Did.lit h hs hq
  · have e1 := relV_v hx; have e2 := relV_v hy; subst e1 e2
    obtain ⟨r, hr, hs, hq⟩ := sBin_sound (P := P) (w := w) op t _ _ hk
    rw [Sem.run_bind, eqGuard_plain op t ox oy _ _ (by simp) (by simp), Result.andThen_ok, hr]
    exact Did.lit h hs hq
  · split at hk
    · rename_i k2 n1 n2
      obtain ⟨p, rfl, hp⟩ := nil_rel n1 hx
      obtain ⟨q, rfl, hq⟩ := nil_rel n2 hy
      have ht : ∃ e, P.underlying t = some (.pointer e) := by
        have := (hT.tk (t := t) (by rw [k2]; rfl)).1
        rw [k2] at this; simp only [tkOk] at this
        split at this <;> first | exact ⟨_, by assumption⟩ | simp at this
      obtain ⟨e, ht⟩ := ht
      have hor : p = none ∨ q = none := by
        rcases hk.1 with h1 | h1
        · left; rw [h1] at hp; cases p <;> simp_all
        · right; rw [h1] at hq; cases q <;> simp_all
      rw [Sem.run_bind, eqGuard_plain _ t ox oy _ _ (by simp) (by simp), Result.andThen_ok]
      have : (binOp .eql t (.pointer p) (.pointer q)).run P w = .ok (.bool (p.isNone && q.isNone)) w := by
        simp only [binOp, Sem.run_bind, equal_ptr_nil ht p q hor, Result.andThen_ok]; rfl
      rw [this, hp, hq]
      exact Did.lit h rfl hk.2
    · rename_i k2 n1 n2
      obtain ⟨p, rfl, hp⟩ := nil_rel n1 hx
      obtain ⟨q, rfl, hq⟩ := nil_rel n2 hy
      have ht : ∃ e, P.underlying t = some (.pointer e) := by
        have := (hT.tk (t := t) (by rw [k2]; rfl)).1
        rw [k2] at this; simp only [tkOk] at this
        split at this <;> first | exact ⟨_, by assumption⟩ | simp at this
      obtain ⟨e, ht⟩ := ht
      have hor : p = none ∨ q = none := by
        rcases hk.1 with h1 | h1
        · left; rw [h1] at hp; cases p <;> simp_all
        · right; rw [h1] at hq; cases q <;> simp_all
      rw [Sem.run_bind, eqGuard_plain _ t ox oy _ _ (by simp) (by simp), Result.andThen_ok]
      have : (binOp .neq t (.pointer p) (.pointer q)).run P w = .ok (.bool !(p.isNone && q.isNone)) w := by
        simp only [binOp, Sem.run_bind, equal_ptr_nil ht p q hor, Result.andThen_ok]; rfl
      rw [this, hp, hq]
      exact Did.lit h rfl hk.2
    · exact hk.elim

theorem cell_eq {d : Nat} {e : TypeId} {c : Nat} {x y : AV} {u v : Value} {r : Bool} (hs : scalC P e c = true) (hx : RelV S pl w m x u) (hy : RelV S pl w m y v) (h : cellEq c x y = some r) :
    P.plainKey e = true ∧ (Op.equalIn (d + 1) e u v).run P w = .ok r w := by
  unfold scalC at hs
  split at hs
  · rename_i k hu
    unfold cellEq at h
    split at h <;> first | (rename_i hq; simp at hq; done) | skip
    · have e1 := relV_v hx; have e2 := relV_v hy; subst e1 e2
      split at h
      · injection h with h; subst h; rename_i hk; subst hk
        exact ⟨by unfold Program.plainKey; rw [hu], run_equalIn_int w d e _ k _ _ hu⟩
      · simp at h
    all_goals simp_all
  · rename_i hu
    unfold cellEq at h
    split at h <;> first | (simp at h; done) | skip
    all_goals first
      | (have e1 := relV_v hx; have e2 := relV_v hy; subst e1 e2; injection h with h; subst h; exact ⟨by unfold Program.plainKey; rw [hu], run_equalIn_bool' w d e _ _ hu⟩)
      | simp_all
  · rename_i hu
    unfold cellEq at h
    split at h <;> first | (simp at h; done) | skip
    all_goals first
      | (have e1 := relV_v hx; have e2 := relV_v hy; subst e1 e2; injection h with h; subst h; exact ⟨by unfold Program.plainKey; rw [hu], run_equalIn_string w d e _ _ hu⟩)
      | simp_all
  · simp at hs
theorem cells_eq {d : Nat} {us vs : Array Value} : ∀ (cs : List Nat) (fs : List Field) (i : Nat) (xs ys : List AV) {r : Bool}, flatFs P i fs cs = true → cellsEq cs xs ys = some r →
    (∀ (j : Nat) x, xs[j]? = some x → ∃ u, us[i + j]? = some u ∧ RelV S pl w m x u) → (∀ (j : Nat) x, ys[j]? = some x → ∃ u, vs[i + j]? = some u ∧ RelV S pl w m x u) →
    (Op.eqFields (d + 1) us vs fs).run P w = .ok r w
  | [], [], i, [], [], r, _, h, _, _ => by simp [cellsEq] at h; subst h; rfl
  | [], [], i, [], _ :: _, r, _, h, _, _ => by simp [cellsEq] at h
  | [], [], i, _ :: _, _, r, _, h, _, _ => by simp [cellsEq] at h
  | [], _ :: _, i, _, _, r, hf, _, _, _ => by simp [flatFs] at hf
  | _ :: _, [], i, _, _, r, hf, _, _, _ => by simp [flatFs] at hf
  | _ :: _, _ :: _, i, [], _, r, _, h, _, _ => by simp [cellsEq] at h
  | _ :: _, _ :: _, i, _ :: _, [], r, _, h, _, _ => by simp [cellsEq] at h
  | c :: cs, f :: fs, i, x :: xs, y :: ys, r, hf, h, hx, hy => by
    simp only [flatFs, Bool.and_eq_true, bne_iff_ne, ne_eq, beq_iff_eq] at hf
    obtain ⟨⟨⟨hn, ho⟩, hs⟩, hf⟩ := hf
    simp only [cellsEq] at h
    split at h
    · rename_i a b ha hb
      injection h with h; subst h
      obtain ⟨u, hu, ru⟩ := hx 0 x rfl
      obtain ⟨v, hv, rv⟩ := hy 0 y rfl
      obtain ⟨hp, he⟩ := cell_eq (d := d) hs ru rv ha
      have p1 := run_part_plain (P := P) w hp (xs := us) (off := f.offset) (by rw [ho]; simpa using hu)
      have p2 := run_part_plain (P := P) w hp (xs := vs) (off := f.offset) (by rw [ho]; simpa using hv)
      have ih := cells_eq (d := d) cs fs (i + 1) xs ys hf hb (fun j x hj => by have := hx (j + 1) x (by simpa using hj); rwa [show i + (j + 1) = i + 1 + j by omega] at this) (fun j x hj => by have := hy (j + 1) x (by simpa using hj); rwa [show i + (j + 1) = i + 1 + j by omega] at this)
      rw [Op.eqFields]
      simp only [if_pos hn, Sem.run_bind, p1, p2, he, Result.andThen_ok]
      cases a
      · simp
      · simpa using ih
    · simp at h
theorem eqW_sound (hT : TabOk P T) (h : St X S pl w m) (op : BinOp) (t : TypeId) (ox oy : Operand) {xs ys : List AV} {a b : Value} (hx : RelV S pl w m (.agg xs) a) (hy : RelV S pl w m (.agg ys) b)
    (hk : eqW op (T.at t) m xs ys K) : Did X S pl w m ((do eqGuard op t ox oy a b; binOp op t a b : Sem Value).run P w) K := by
  cases hx with | agg _ us hl hx =>
  cases hy with | agg _ vs hl' hy =>
  unfold eqW at hk
  split at hk
  · rename_i fs c cs hst heq
    have hti := hT t (.inr (by rw [hst]; rfl))
    unfold tiOk at hti
    simp only [Bool.and_eq_true] at hti
    have he := hti.2
    rw [heq] at he
    unfold eqOk at he
    simp only [Bool.and_eq_true, Bool.not_eq_true'] at he
    obtain ⟨hg, he⟩ := he
    split at he
    · rename_i fields hu
      simp only [Bool.and_eq_true, Bool.not_eq_true'] at he
      obtain ⟨hsi, hfl⟩ := he
      have run : ∀ r, cellsEq (c :: cs) xs ys = some r → (Op.equal t (.agg us.toArray) (.agg vs.toArray)).run P w = .ok r w := fun r hr => by
        have hf : P.fieldsOf t = fields := by simp [Program.fieldsOf, hu]
        show (Op.equalIn (9999 + 1) t _ _).run P w = _
        rw [run_equalIn_struct (P := P) w 9999 t _ _ (by rw [hf]; exact hu) hsi, hf]
        refine cells_eq (S := S) (pl := pl) (m := m) (d := 9998) (c :: cs) fields.toList 0 xs ys hfl hr (fun j x hj => ?_) (fun j x hj => ?_)
        · have hlt := (List.getElem?_eq_some_iff.1 hj).1
          have : us[j]? = some us[j] := List.getElem?_eq_getElem (by omega)
          exact ⟨us[j], by simp, hx j x _ hj this⟩
        · have hlt := (List.getElem?_eq_some_iff.1 hj).1
          have : vs[j]? = some vs[j] := List.getElem?_eq_getElem (by omega)
          exact ⟨vs[j], by simp, hy j x _ hj this⟩
      have guard : ∀ op, (eqGuard op t ox oy (.agg us.toArray) (.agg vs.toArray)).run P w = .ok () w := fun op => by
        unfold eqGuard
        cases op <;> first
          | rfl
          | (simp [Sem.run_bind, run_program, hg])
      split at hk
      · rename_i r hr
        rw [Sem.run_bind, guard, Result.andThen_ok]
        have : (binOp .eql t (.agg us.toArray) (.agg vs.toArray)).run P w = .ok (.bool r) w := by
          simp only [binOp, Sem.run_bind, run r hr, Result.andThen_ok]; rfl
        rw [this]
        exact Did.lit h rfl hk
      · rename_i r hr
        rw [Sem.run_bind, guard, Result.andThen_ok]
        have : (binOp .neq t (.agg us.toArray) (.agg vs.toArray)).run P w = .ok (.bool !r) w := by
          simp only [binOp, Sem.run_bind, run r hr, Result.andThen_ok]; rfl
        rw [this]
        exact Did.lit h rfl hk
      · exact hk.elim
    · simp at he
  · exact hk.elim

theorem unW_sound (h : St X S pl w m) (op : UnOp) {x : AV} {a : Value} (hx : RelV S pl w m x a) (hk : unW op m x K) : Did X S pl w m ((Op.unary op a).run P w) K := by
  unfold unW at hk
  split at hk <;> first | exact hk.elim | (have e1 := relV_v hx; subst e1; exact Did.lit h rfl hk)

theorem fieldAddrW_sound (h : St X S pl w m) {s f : Nat} {fs : List (Nat × Nat × Bool)} (hT : TabOk P T) (hs : (T.at s).k = .st fs) {off n : Nat} {ea : Bool} (hf : fs[f]? = some (off, n + 1, ea))
    {x : AV} {a : Value} (hx : RelV S pl w m x a) (hk : fieldAddrW off m x K) : Did X S pl w m ((Instr.fieldAt s a f).run P w) K := by
  have ht := (hT.tk (t := s) (by rw [hs]; rfl)).1
  rw [hs] at ht; simp only [tkOk] at ht
  split at ht
  · rename_i fields hu
    simp only [Bool.and_eq_true, beq_iff_eq, List.all_eq_true] at ht
    obtain ⟨hmap, hall⟩ := ht
    have hfi : (fields.toList.map (fieldRow P))[f]? = some (off, n + 1, ea) := by rw [hmap]; exact hf
    rw [List.getElem?_map] at hfi
    cases hfl : fields.toList[f]? with
    | none => rw [hfl] at hfi; simp at hfi
    | some fd =>
      rw [hfl] at hfi
      simp only [Option.map_some, Option.some.injEq, fieldRow, Prod.mk.injEq] at hfi
      obtain ⟨h1, h2, h3⟩ := hfi
      have hfa : fields[f]? = some fd := by rw [← Array.getElem?_toList]; exact hfl
      have hkn := hall fd (List.mem_of_getElem? hfl)
      have run : ∀ ad : Addr, (Instr.fieldAt s (.pointer (some ad)) f).run P w = .ok (.pointer (some (ad.add off))) w := by
        intro ad
        unfold Instr.fieldAt
        simp only [Sem.run_bind, run_underlying hu, Result.andThen_ok, hfa, Instr.sureAddr, Sem.run_pure, fieldPlace, run_size_of hkn]
        rw [if_neg (by omega), h1]
        rfl
      have hadd : ∀ b o : Nat, (⟨b, o, none⟩ : Addr).add off = ⟨b, o + off, none⟩ := fun b o => by unfold Addr.add; split <;> simp_all
      unfold fieldAddrW at hk
      split at hk
      · cases hx with | p id ver off' b o hv hx =>
        rw [run, hadd, Nat.add_assoc]
        exact Did.same h hk (.p _ _ _ _ _ hv hx)
      · cases hx with | c _ _ hx =>
        cases hx with | rp cs b o g hS hc hr =>
        rw [run, hadd]
        refine Did.same h hk (.c _ _ (.rp _ b (o + off) (fun i => g (off + i)) (fun i hi => ?_) (fun i hi => ?_) (fun i x hx => ?_)))
        · rw [List.length_drop] at hi; have := hS (off + i) (by omega); rwa [← Nat.add_assoc] at this
        · rw [List.length_drop] at hi; have := hc (off + i) (by omega); rwa [← Nat.add_assoc] at this
        · rw [List.getElem?_drop] at hx; exact hr _ x hx
      · cases hx with | tp id ver i off' b o hv hx =>
        rw [run, hadd, Nat.add_assoc]
        exact Did.same h hk (.tp _ _ _ _ _ _ hv hx)
      · exact hk.elim
  · simp at ht

theorem nilCheckW_sound (o : Oper) (y : Operand) (ρ : Operand → Value) (ho : o.op = .nilCheck y) {x : AV} (hx : RelV S pl w m x (ρ y)) (hk : nilCheckW m x K) :
    ∃ u v, (execOp ρ o).run P w = .ok (.value u) w ∧ K v m ∧ RelV S pl w m v u := by
  have run : ∀ u, ρ y = u → (∀ b, u ≠ .pointer none → u ≠ .nilIface → u ≠ .nilFunc → (∀ n f c, u ≠ .func (.method n) f c) → b = u → (execOp ρ o).run P w = .ok (.value b) w) := by
    intro u hu b h1 h2 h3 h4 hb
    subst hb
    unfold execOp
    rw [ho]
    simp only [hu]
    cases b with
    | pointer a => cases a with | none => exact absurd rfl h1 | some a => rfl
    | func f c d => cases f <;> first | rfl | exact absurd rfl (h4 _ _ _)
    | nilIface => exact absurd rfl h2
    | nilFunc => exact absurd rfl h3
    | _ => rfl
  generalize hu : ρ y = u at hx
  unfold nilCheckW at hk
  split at hk
  · cases hx with | p id ver o b q hv hx => exact ⟨_, _, run _ hu _ (by simp) (by simp) (by simp) (by simp) rfl, hk, .p _ _ _ _ _ hv hx⟩
  · cases hx with | c _ _ hx =>
    cases hx with | rp cs b q g hS hc hr => exact ⟨_, _, run _ hu _ (by simp) (by simp) (by simp) (by simp) rfl, hk, .c _ _ (.rp _ b q g hS hc hr)⟩
  · cases hx with | tp id ver i o b q hv hx => exact ⟨_, _, run _ hu _ (by simp) (by simp) (by simp) (by simp) rfl, hk, .tp _ _ _ _ _ _ hv hx⟩
  · rename_i f c d
    have e1 := relV_v hx; subst e1
    cases f <;> first | (simp at hk; done) | skip
    exact ⟨_, _, run _ hu _ (by simp) (by simp) (by simp) (by simp) rfl, hk.2, hx⟩
  · exact hk.elim

/-- a row of cells, read -/
theorem run_loadVar_row {t : TypeId} (hkn : known P t = true) (b o : Nat) (f : Nat → Value) (hc : ∀ j, j < (if aggB P t then P.cellsOf t else 1) → cellAt w b (o + j) = some (f j)) :
    (loadVar t ⟨b, o, none⟩).run P w = .ok (if aggB P t then .agg ((List.range (P.cellsOf t)).map f).toArray else f 0) w := by
  have hadd : ∀ j, (⟨b, o, none⟩ : Addr).add j = ⟨b, o + j, none⟩ := fun j => by unfold Addr.add; split <;> simp_all
  unfold loadVar
  simp only [Sem.run_bind, run_agg_of hkn, Result.andThen_ok]
  cases hag : aggB P t with
  | true =>
    rw [hag] at hc
    simp only [if_true, Sem.run_bind, run_size_of hkn, Result.andThen_ok]
    rw [run_loadCells w ⟨b, o, none⟩ (P.cellsOf t) f (fun j hj => by rw [hadd]; exact hc j (by simpa using hj))]
    rfl
  | false =>
    rw [hag] at hc
    have h0 := hc 0 (by simp)
    simp only [Nat.add_zero] at h0
    simp only [Bool.false_eq_true, if_false, run_load]
    rw [show w.cell? ⟨b, o, none⟩ = some (f 0) from h0]

/-- out of a row of related cells: the value of a variable -/
theorem readA_rel {K : AV → Prop} {agg : Bool} {s : Nat} {cs : List AV} {f : Nat → Value} (hr : ∀ (j : Nat) x, cs[j]? = some x → RelV S pl w m x (f j)) (hk : readA agg s cs K) :
    (if agg then s else 1) ≤ cs.length ∧ ∃ y, K y ∧ RelV S pl w m y (if agg then .agg ((List.range s).map f).toArray else f 0) := by
  unfold readA at hk
  cases agg with
  | true =>
    simp only [if_true] at hk ⊢
    refine ⟨hk.1, _, hk.2, .agg _ _ (by simp; omega) (fun i x u hx hu => ?_)⟩
    have hi : i < s := by have := (List.getElem?_eq_some_iff.1 hx).1; rw [List.length_take] at this; omega
    rw [List.getElem?_take_of_lt hi] at hx
    rw [List.getElem?_map, List.getElem?_range hi] at hu
    simp only [Option.map_some, Option.some.injEq] at hu
    subst hu; exact hr i x hx
  | false =>
    simp only [Bool.false_eq_true, if_false] at hk ⊢
    cases cs with
    | nil => exact hk.elim
    | cons x r => exact ⟨by simp, x, hk, hr 0 x rfl⟩

theorem loadW_sound0 (hT : TabOk P T) (h : St X S pl w m) {t s : Nat} (hs : (T.at t).size = s + 1) {x : AV} {a : Value} (hx : RelV S pl w m x a) (hk : loadW (T.at t).agg (s + 1) m x K) :
    ∃ u y, (Instr.loadAt t a).run P w = .ok u w ∧ K y m ∧ RelV S pl w m y u := by
  obtain ⟨hkn, hsz, hag, _⟩ := hT.ti (t := t) (by rw [hs]; omega)
  rw [hs] at hsz
  have run : ∀ (b o : Nat) (cs : List AV) (f : Nat → Value), (∀ (j : Nat) x, cs[j]? = some x → RelV S pl w m x (f j)) → (∀ j, j < cs.length → cellAt w b (o + j) = some (f j)) → readA (T.at t).agg (s + 1) cs (fun y => K y m) →
      ∃ u y, (Instr.loadAt t (.pointer (some ⟨b, o, none⟩))).run P w = .ok u w ∧ K y m ∧ RelV S pl w m y u := by
    intro b o cs f hr hc hk
    obtain ⟨hle, y, hy, hrel⟩ := readA_rel hr hk
    have := run_loadVar_row (w := w) hkn b o f (fun j hj => hc j (by rw [hag, hsz] at hj; omega))
    unfold Instr.loadAt
    simp only [Sem.run_bind, Instr.sureAddr, Sem.run_pure, Result.andThen_ok, this]
    rw [hag, hsz]
    exact ⟨_, y, rfl, hy, hrel⟩
  unfold loadW at hk
  split at hk
  · rename_i id ver o
    cases hx with | p _ _ _ b q hv hx =>
    split at hk
    · rename_i v cs hg
      obtain ⟨rfl, hk⟩ := hk
      obtain ⟨_, hb⟩ := hx _ hg rfl
      obtain ⟨hv', h1, h2, hf⟩ := h.inv.ob id _ hg
      have hch : ∃ f : Nat → Value, ∀ (j : Nat) x, cs[j]? = some x → cellAt w (pl id).1 ((pl id).2 + j) = some (f j) ∧ RelV S pl w m x (f j) := by
        refine ⟨fun j => (cellAt w (pl id).1 ((pl id).2 + j)).getD undef, fun j x hx => ?_⟩
        obtain ⟨u, hu, hr⟩ := hf j x hx
        dsimp only
        rw [hu]; exact ⟨rfl, hr⟩
      obtain ⟨f, hf⟩ := hch
      refine run b (q + o) (cs.drop o) (fun j => f (o + j)) (fun j x hx => ?_) (fun j hj => ?_) hk
      · rw [List.getElem?_drop] at hx; exact (hf _ x hx).2
      · rw [List.length_drop] at hj
        have := (hf (o + j) _ (List.getElem?_eq_getElem (by omega))).1
        rw [← hb] at this
        rw [Nat.add_assoc]; exact this
    · exact hk.elim
  · rename_i cs
    cases hx with | c _ _ hx =>
    cases hx with | rp _ b q g hS hc hr =>
    refine run b q (cs.map .c) g (fun j x hx => ?_) (fun j hj => hc j (by simpa using hj)) hk
    rw [List.getElem?_map] at hx
    cases hcj : cs[j]? with
    | none => rw [hcj] at hx; simp at hx
    | some y => rw [hcj] at hx; simp at hx; subst hx; exact .c _ _ (hr j y hcj)
  · rename_i id ver i o
    cases hx with | tp _ _ _ _ b q hv hx =>
    split at hk
    · rename_i v sz es cap pub hg
      obtain ⟨rfl, hi, hk⟩ := hk
      obtain ⟨sz', es', cap', pub', heq, _, hb, hq⟩ := hx _ hg rfl
      injection heq with _ e1 e2 _ _; subst e1 e2 hb hq
      obtain ⟨hv', h0, h1, h2, h3, ⟨hl, f, hc, hr⟩, hp⟩ := h.inv.ob id _ hg
      have he : es[i]? = some es[i] := List.getElem?_eq_getElem hi
      have hd : es.getD i [] = es[i] := by simp [List.getD, he]
      have hlen := hl i _ he
      rw [hd] at hk
      refine run _ (i * sz + o) (((es[i]).drop o).map .c) (fun j => f (i * sz + (o + j))) (fun j x hx => ?_) (fun j hj => ?_) hk
      · rw [List.getElem?_map, List.getElem?_drop] at hx
        cases hcj : es[i][o + j]? with
        | none => rw [hcj] at hx; simp at hx
        | some y => rw [hcj] at hx; simp at hx; subst hx; exact .c _ _ (hr i _ _ y he hcj)
      · rw [List.length_map, List.length_drop] at hj
        have hlt : i * sz + (o + j) < es.length * sz := by
          have : (i + 1) * sz ≤ es.length * sz := Nat.mul_le_mul_right sz hi
          rw [Nat.add_mul] at this; omega
        rw [Nat.add_assoc]; exact hc _ hlt
    · exact hk.elim
  · exact hk.elim
theorem loadW_sound (hT : TabOk P T) (h : St X S pl w m) {t s : Nat} (hs : (T.at t).size = s + 1) {x : AV} {a : Value} (hx : RelV S pl w m x a) (hk : loadW (T.at t).agg (s + 1) m x K) :
    Did X S pl w m ((Instr.loadAt t a).run P w) K := by
  obtain ⟨u, y, h1, h2, h3⟩ := loadW_sound0 hT h hs hx hk
  rw [h1]; exact Did.same h h2 h3
end
end Go.Proofs.Ythncmjlcmlmnmaa.V
