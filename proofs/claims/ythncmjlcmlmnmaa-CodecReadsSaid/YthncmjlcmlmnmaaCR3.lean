/- Operations that compute without memory, or read it: the abstract execution is sound for the model's. Conditions: none. -/
import Derived.Test.YthncmjlcmlmnmaaCR2
import Derived.Laws.StructEq
import Derived.ChangeKeysEq
import GoSem.Dispatch
namespace Go.Proofs.Ythncmjlcmlmnmaa.V
open Go Go.RowKit

/-- The model's operation comes to a value that the abstract one lets its continuation hold of. -/
def Did (X : Ctx) (S : Area) (pl : Place) (w : World) (m : Mem) (r : Result Value) (K : KK) : Prop :=
  ∃ u w' S' pl' v m', r = .ok u w' ∧ K v m' ∧ RelV S' pl' w' m' v u ∧ St X S' pl' w' m' ∧ Keeps S S' pl pl' w w' m m'

section
variable {P : Program} {T : Tab} {X : Ctx} {S : Area} {pl : Place} {w : World} {m : Mem} {K : KK}

theorem Did.same (h : St X S pl w m) {u : Value} {v : AV} (hk : K v m) (hr : RelV S pl w m v u) : Did X S pl w m (.ok u w) K :=
  ⟨u, w, S, pl, v, m, rfl, hk, hr, h, Keeps.refl _ _ _ _⟩
theorem Did.lit (h : St X S pl w m) {u : Value} (hs : solidV u = true) (hk : K (.c (.v u)) m) : Did X S pl w m (.ok u w) K := Did.same h hk (.c _ _ (.v u hs))

theorem relV_v {x u : Value} (h : RelV S pl w m (.c (.v x)) u) : u = x := by cases h with | c _ _ h => cases h with | v _ _ => rfl
theorem sBin_sound (op : BinOp) (t : TypeId) (a b : Value) {Q : Value → Prop} (h : sBin op a b Q) : ∃ r, (binOp op t a b).run P w = .ok r w ∧ solidV r = true ∧ Q r := by
  cases a <;> cases b <;> simp only [sBin] at h <;> try exact h.elim
  case int.int k x k' y =>
    cases op <;> simp only at h
    case shl =>
      obtain ⟨h0, hq⟩ := h
      refine ⟨_, ?_, rfl, hq⟩
      simp only [binOp, Op.shift]; rw [if_neg (by omega)]; rfl
    case shr =>
      obtain ⟨h0, hq⟩ := h
      refine ⟨_, ?_, rfl, hq⟩
      simp only [binOp, Op.shift]; rw [if_neg (by omega)]; rfl
    case quo =>
      obtain ⟨rfl, h0, hq⟩ := h
      refine ⟨_, ?_, rfl, hq⟩
      simp only [binOp, Op.intDiv, ne_eq, not_true_eq_false, if_false]; rw [if_neg h0]; rfl
    case rem =>
      obtain ⟨rfl, h0, hq⟩ := h
      refine ⟨_, ?_, rfl, hq⟩
      simp only [binOp, Op.intDiv, ne_eq, not_true_eq_false, if_false]; rw [if_neg h0]; rfl
    all_goals
      obtain ⟨rfl, hq⟩ := h
      refine ⟨_, ?_, rfl, hq⟩
      simp only [binOp, ne_eq, not_true_eq_false, if_false, Op.intArith, Op.intBits, Op.intCmp]; rfl
  case string.string x y =>
    cases op <;> simp only at h <;> try exact h.elim
    case add =>
      obtain ⟨h0, hq⟩ := h
      refine ⟨_, ?_, rfl, hq⟩
      simp only [binOp, Op.stringOp]; rw [if_neg (by omega)]; rfl
    all_goals
      refine ⟨_, ?_, rfl, h⟩
      simp only [binOp, Op.stringOp]; rfl

theorem eqGuard_plain (op : BinOp) (t : TypeId) (x y : Operand) (a b : Value) (h : ¬ (a = .nilIface ∧ b = .nilIface)) (h' : ∀ c d, ¬ (a = .agg c ∧ b = .agg d)) :
    (eqGuard op t x y a b).run P w = .ok () w := by
  unfold eqGuard
  cases op <;> first | rfl | (cases a <;> cases b <;> first | rfl | exact absurd ⟨rfl, rfl⟩ h | exact absurd ⟨rfl, rfl⟩ (h' _ _))

theorem equalIn_bool (d : Nat) {t : TypeId} (ht : P.underlying t = some .bool) (a b : Bool) : (Op.equalIn (d + 1) t (.bool a) (.bool b)).run P w = .ok (a == b) w := by
  simp only [Op.equalIn, Sem.run_bind, run_underlying ht, Result.andThen_ok]; rfl
theorem equal_bool {t : TypeId} (ht : P.underlying t = some .bool) (a b : Bool) : (Op.equal t (.bool a) (.bool b)).run P w = .ok (a == b) w := equalIn_bool 9999 ht a b
theorem equalIn_ptr_nil (d : Nat) {t e : TypeId} (ht : P.underlying t = some (.pointer e)) (a b : Option Addr) (h : a = none ∨ b = none) : (Op.equalIn (d + 1) t (.pointer a) (.pointer b)).run P w = .ok (a.isNone && b.isNone) w := by
  simp only [Op.equalIn, Sem.run_bind, run_underlying ht, Result.andThen_ok]
  cases a with
  | none => rfl
  | some a => cases b with
    | none => rfl
    | some b => simp at h
theorem equal_ptr_nil {t e : TypeId} (ht : P.underlying t = some (.pointer e)) (a b : Option Addr) (h : a = none ∨ b = none) : (Op.equal t (.pointer a) (.pointer b)).run P w = .ok (a.isNone && b.isNone) w := equalIn_ptr_nil 9999 ht a b h

theorem nil_rel {x : AV} {u : Value} {b : Bool} (hx : isNil x = some b) (h : RelV S pl w m x u) : ∃ a, u = .pointer a ∧ a.isNone = b := by
  unfold isNil at hx
  split at hx <;> first | (simp at hx; done) | (injection hx with hx; subst hx)
  · exact ⟨none, relV_v h, rfl⟩
  · cases h with | c _ _ h => cases h; exact ⟨_, rfl, rfl⟩
  · cases h; exact ⟨_, rfl, rfl⟩
  · cases h; exact ⟨_, rfl, rfl⟩

theorem binW_sound (hT : TabOk P T) (h : St X S pl w m) (op : BinOp) (t : TypeId) (ox oy : Operand) {x y : AV} {a b : Value} (hx : RelV S pl w m x a) (hy : RelV S pl w m y b)
    (hk : binW op (T.at t).k m x y K) : Did X S pl w m ((do eqGuard op t ox oy a b; binOp op t a b : Sem Value).run P w) K := by
  unfold binW at hk
  split at hk
  · have e1 := relV_v hx; have e2 := relV_v hy; subst e1 e2
    split at hk
    · rename_i hk2
      have ht : P.underlying t = some .bool := by
        have := (hT.tk (t := t) (by rw [hk2]; rfl)).1
        rw [hk2] at this; simp only [tkOk] at this
        split at this <;> first | assumption | simp at this
      rw [Sem.run_bind, eqGuard_plain _ t ox oy _ _ (by simp) (by simp)]; simp only [Sem.run_bind, Result.andThen_ok, binOp, equal_bool ht]
      exact Did.lit h rfl hk
    · rename_i hk2
      have ht : P.underlying t = some .bool := by
        have := (hT.tk (t := t) (by rw [hk2]; rfl)).1
        rw [hk2] at this; simp only [tkOk] at this
        split at this <;> first | assumption | simp at this
      rw [Sem.run_bind, eqGuard_plain _ t ox oy _ _ (by simp) (by simp)]; simp only [Sem.run_bind, Result.andThen_ok, binOp, equal_bool ht]
      exact Did.lit h rfl hk
    · exact hk.elim
  · have e1 := relV_v hx; have e2 := relV_v hy; subst e1 e2
    obtain ⟨r, hr, hs, hq⟩ := sBin_sound (P := P) (w := w) op t _ _ hk
    rw [Sem.run_bind, eqGuard_plain op t ox oy _ _ (by simp) (by simp), Result.andThen_ok, hr]
    exact Did.lit h hs hq
  · have e1 := relV_v hx; have e2 := relV_v hy; subst e1 e2
    obtain ⟨r, hr, hs, hq⟩ := sBin_sound (P := P) (w := w) op t _ _ hk
    rw [Sem.run_bind, eqGuard_plain op t ox oy _ _ (by simp) (by simp), Result.andThen_ok, hr]
    exact Did.lit h hs hq
  · split at hk
    · rename_i k2 n1 n2
      obtain ⟨p, rfl, hp⟩ := nil_rel n1 hx
      obtain ⟨q, rfl, hq⟩ := nil_rel n2 hy
      have ht : ∃ e, P.underlying t = some (.pointer e) := by
        have := (hT.tk (t := t) (by rw [k2]; rfl)).1
        rw [k2] at this; simp only [tkOk] at this
        split at this <;> first | exact ⟨_, by assumption⟩ | simp at this
      obtain ⟨e, ht⟩ := ht
      have hor : p = none ∨ q = none := by
        rcases hk.1 with h1 | h1
        · left; rw [h1] at hp; cases p <;> simp_all
        · right; rw [h1] at hq; cases q <;> simp_all
      rw [Sem.run_bind, eqGuard_plain _ t ox oy _ _ (by simp) (by simp), Result.andThen_ok]
      have : (binOp .eql t (.pointer p) (.pointer q)).run P w = .ok (.bool (p.isNone && q.isNone)) w := by
        simp only [binOp, Sem.run_bind, equal_ptr_nil ht p q hor, Result.andThen_ok]; rfl
      rw [this, hp, hq]
      exact Did.lit h rfl hk.2
    · rename_i k2 n1 n2
      obtain ⟨p, rfl, hp⟩ := nil_rel n1 hx
      obtain ⟨q, rfl, hq⟩ := nil_rel n2 hy
      have ht : ∃ e, P.underlying t = some (.pointer e) := by
        have := (hT.tk (t := t) (by rw [k2]; rfl)).1
        rw [k2] at this; simp only [tkOk] at this
        split at this <;> first | exact ⟨_, by assumption⟩ | simp at this
      obtain ⟨e, ht⟩ := ht
      have hor : p = none ∨ q = none := by
        rcases hk.1 with h1 | h1
        · left; rw [h1] at hp; cases p <;> simp_all
        · right; rw [h1] at hq; cases q <;> simp_all
      rw [Sem.run_bind, eqGuard_plain _ t ox oy _ _ (by simp) (by simp), Result.andThen_ok]
      have : (binOp .neq t (.pointer p) (.pointer q)).run P w = .ok (.bool !(p.isNone && q.isNone)) w := by
        simp only [binOp, Sem.run_bind, equal_ptr_nil ht p q hor, Result.andThen_ok]; rfl
      rw [this, hp, hq]
      exact Did.lit h rfl hk.2
    · exact hk.elim

theorem cell_eq {d : Nat} {e : TypeId} {c : Nat} {x y : AV} {u v : Value} {r : Bool} (hs : scalC P e c = true) (hx : RelV S pl w m x u) (hy : RelV S pl w m y v) (h : cellEq c x y = some r) :
    P.plainKey e = true ∧ (Op.equalIn (d + 1) e u v).run P w = .ok r w := by
  unfold scalC at hs
  split at hs
  · rename_i k hu
    unfold cellEq at h
    split at h <;> first | (rename_i hq; simp at hq; done) | skip
    · have e1 := relV_v hx; have e2 := relV_v hy; subst e1 e2
      split at h
      · injection h with h; subst h; rename_i hk; subst hk
        exact ⟨by unfold Program.plainKey; rw [hu], run_equalIn_int w d e _ k _ _ hu⟩
      · simp at h
    all_goals simp_all
  · rename_i hu
    unfold cellEq at h
    split at h <;> first | (simp at h; done) | skip
    all_goals first
      | (have e1 := relV_v hx; have e2 := relV_v hy; subst e1 e2; injection h with h; subst h; exact ⟨by unfold Program.plainKey; rw [hu], run_equalIn_bool' w d e _ _ hu⟩)
      | simp_all
  · rename_i hu
    unfold cellEq at h
    split at h <;> first | (simp at h; done) | skip
    all_goals first
      | (have e1 := relV_v hx; have e2 := relV_v hy; subst e1 e2; injection h with h; subst h; exact ⟨by unfold Program.plainKey; rw [hu], run_equalIn_string w d e _ _ hu⟩)
      | simp_all
  · simp at hs
theorem cells_eq {d : Nat} {us vs : Array Value} : ∀ (cs : List Nat) (fs : List Field) (i : Nat) (xs ys : List AV) {r : Bool}, flatFs P i fs cs = true → cellsEq cs xs ys = some r →
    (∀ (j : Nat) x, xs[j]? = some x → ∃ u, us[i + j]? = some u ∧ RelV S pl w m x u) → (∀ (j : Nat) x, ys[j]? = some x → ∃ u, vs[i + j]? = some u ∧ RelV S pl w m x u) →
    (Op.eqFields (d + 1) us vs fs).run P w = .ok r w
  | [], [], i, [], [], r, _, h, _, _ => by simp [cellsEq] at h; subst h; rfl
  | [], [], i, [], _ :: _, r, _, h, _, _ => by simp [cellsEq] at h
  | [], [], i, _ :: _, _, r, _, h, _, _ => by simp [cellsEq] at h
  | [], _ :: _, i, _, _, r, hf, _, _, _ => by simp [flatFs] at hf
  | _ :: _, [], i, _, _, r, hf, _, _, _ => by simp [flatFs] at hf
  | _ :: _, _ :: _, i, [], _, r, _, h, _, _ => by simp [cellsEq] at h
  | _ :: _, _ :: _, i, _ :: _, [], r, _, h, _, _ => by simp [cellsEq] at h
  | c :: cs, f :: fs, i, x :: xs, y :: ys, r, hf, h, hx, hy => by
    simp only [flatFs, Bool.and_eq_true, bne_iff_ne, ne_eq, beq_iff_eq] at hf
    obtain ⟨⟨⟨hn, ho⟩, hs⟩, hf⟩ := hf
    simp only [cellsEq] at h
    split at h
    · rename_i a b ha hb
      injection h with h; subst h
      obtain ⟨u, hu, ru⟩ := hx 0 x rfl
      obtain ⟨v, hv, rv⟩ := hy 0 y rfl
      obtain ⟨hp, he⟩ := cell_eq (d := d) hs ru rv ha
      have p1 := run_part_plain (P := P) w hp (xs := us) (off := f.offset) (by rw [ho]; simpa using hu)
      have p2 := run_part_plain (P := P) w hp (xs := vs) (off := f.offset) (by rw [ho]; simpa using hv)
      have ih := cells_eq (d := d) cs fs (i + 1) xs ys hf hb (fun j x hj => by have := hx (j + 1) x (by simpa using hj); rwa [show i + (j + 1) = i + 1 + j by omega] at this) (fun j x hj => by have := hy (j + 1) x (by simpa using hj); rwa [show i + (j + 1) = i + 1 + j by omega] at this)
      rw [Op.eqFields]
      simp only [if_pos hn, Sem.run_bind, p1, p2, he, Result.andThen_ok]
      cases a
      · simp
      · simpa using ih
    · simp at h
theorem eqW_sound (hT : TabOk P T) (h : St X S pl w m) (op : BinOp) (t : TypeId) (ox oy : Operand) {xs ys : List AV} {a b : Value} (hx : RelV S pl w m (.agg xs) a) (hy : RelV S pl w m (.agg ys) b)
    (hk : eqW op (T.at t) m xs ys K) : Did X S pl w m ((do eqGuard op t ox oy a b; binOp op t a b : Sem Value).run P w) K := by
  cases hx with | agg _ us hl hx =>
  cases hy with | agg _ vs hl' hy =>
  unfold eqW at hk
  split at hk
  · rename_i fs c cs hst heq
    have hti := hT t (.inr (by rw [hst]; rfl))
    unfold tiOk at hti
    simp only [Bool.and_eq_true] at hti
    have he := hti.2
    rw [heq] at he
    unfold eqOk at he
    simp only [Bool.and_eq_true, Bool.not_eq_true'] at he
    obtain ⟨hg, he⟩ := he
    split at he
    · rename_i fields hu
      simp only [Bool.and_eq_true, Bool.not_eq_true'] at he
      obtain ⟨hsi, hfl⟩ := he
      have run : ∀ r, cellsEq (c :: cs) xs ys = some r → (Op.equal t (.agg us.toArray) (.agg vs.toArray)).run P w = .ok r w := fun r hr => by
        have hf : P.fieldsOf t = fields := by simp [Program.fieldsOf, hu]
        show (Op.equalIn (9999 + 1) t _ _).run P w = _
        rw [run_equalIn_struct (P := P) w 9999 t _ _ (by rw [hf]; exact hu) hsi, hf]
        refine cells_eq (S := S) (pl := pl) (m := m) (d := 9998) (c :: cs) fields.toList 0 xs ys hfl hr (fun j x hj => ?_) (fun j x hj => ?_)
        · have hlt := (List.getElem?_eq_some_iff.1 hj).1
          have : us[j]? = some us[j] := List.getElem?_eq_getElem (by omega)
          exact ⟨us[j], by simp, hx j x _ hj this⟩
        · have hlt := (List.getElem?_eq_some_iff.1 hj).1
          have : vs[j]? = some vs[j] := List.getElem?_eq_getElem (by omega)
          exact ⟨vs[j], by simp, hy j x _ hj this⟩
      have guard : ∀ op, (eqGuard op t ox oy (.agg us.toArray) (.agg vs.toArray)).run P w = .ok () w := fun op => by
        unfold eqGuard
        cases op <;> first
          | rfl
          | (simp [Sem.run_bind, run_program, hg])
      split at hk
      · rename_i r hr
        rw [Sem.run_bind, guard, Result.andThen_ok]
        have : (binOp .eql t (.agg us.toArray) (.agg vs.toArray)).run P w = .ok (.bool r) w := by
          simp only [binOp, Sem.run_bind, run r hr, Result.andThen_ok]; rfl
        rw [this]
        exact Did.lit h rfl hk
      · rename_i r hr
        rw [Sem.run_bind, guard, Result.andThen_ok]
        have : (binOp .neq t (.agg us.toArray) (.agg vs.toArray)).run P w = .ok (.bool !r) w := by
          simp only [binOp, Sem.run_bind, run r hr, Result.andThen_ok]; rfl
        rw [this]
        exact Did.lit h rfl hk
      · exact hk.elim
    · simp at he
  · exact hk.elim

theorem unW_sound (h : St X S pl w m) (op : UnOp) {x : AV} {a : Value} (hx : RelV S pl w m x a) (hk : unW op m x K) : Did X S pl w m ((Op.unary op a).run P w) K := by
  unfold unW at hk
  split at hk <;> first | exact hk.elim | (have e1 := relV_v hx; subst e1; exact Did.lit h rfl hk)

theorem fieldAddrW_sound (h : St X S pl w m) {s f : Nat} {fs : List (Nat × Nat × Bool)} (hT : TabOk P T) (hs : (T.at s).k = .st fs) {off n : Nat} {ea : Bool} (hf : fs[f]? = some (off, n + 1, ea))
    {x : AV} {a : Value} (hx : RelV S pl w m x a) (hk : fieldAddrW off m x K) : Did X S pl w m ((Instr.fieldAt s a f).run P w) K := by
  have ht := (hT.tk (t := s) (by rw [hs]; rfl)).1
  rw [hs] at ht; simp only [tkOk] at ht
  split at ht
  · rename_i fields hu
    simp only [Bool.and_eq_true, beq_iff_eq, List.all_eq_true] at ht
    obtain ⟨hmap, hall⟩ := ht
    have hfi : (fields.toList.map (fieldRow P))[f]? = some (off, n + 1, ea) := by rw [hmap]; exact hf
    rw [List.getElem?_map] at hfi
    cases hfl : fields.toList[f]? with
    | none => rw [hfl] at hfi; simp at hfi
    | some fd =>
      rw [hfl] at hfi
      simp only [Option.map_some, Option.some.injEq, fieldRow, Prod.mk.injEq] at hfi
      obtain ⟨h1, h2, h3⟩ := hfi
      have hfa : fields[f]? = some fd := by rw [← Array.getElem?_toList]; exact hfl
      have hkn := hall fd (List.mem_of_getElem? hfl)
      have run : ∀ ad : Addr, (Instr.fieldAt s (.pointer (some ad)) f).run P w = .ok (.pointer (some (ad.add off))) w := by
        intro ad
        unfold Instr.fieldAt
        simp only [Sem.run_bind, run_underlying hu, Result.andThen_ok, hfa, Instr.sureAddr, Sem.run_pure, fieldPlace, run_size_of hkn]
        rw [if_neg (by omega), h1]
        rfl
      have hadd : ∀ b o : Nat, (⟨b, o, none⟩ : Addr).add off = ⟨b, o + off, none⟩ := fun b o => by unfold Addr.add; split <;> simp_all
      unfold fieldAddrW at hk
      split at hk
      · cases hx with | p id ver off' b o hv hx =>
        rw [run, hadd, Nat.add_assoc]
        exact Did.same h hk (.p _ _ _ _ _ hv hx)
      · cases hx with | c _ _ hx =>
        cases hx with | rp cs b o g hS hc hr =>
        rw [run, hadd]
        refine Did.same h hk (.c _ _ (.rp _ b (o + off) (fun i => g (off + i)) (fun i hi => ?_) (fun i hi => ?_) (fun i x hx => ?_)))
        · rw [List.length_drop] at hi; have := hS (off + i) (by omega); rwa [← Nat.add_assoc] at this
        · rw [List.length_drop] at hi; have := hc (off + i) (by omega); rwa [← Nat.add_assoc] at this
        · rw [List.getElem?_drop] at hx; exact hr _ x hx
      · cases hx with | tp id ver i off' b o hv hx =>
        rw [run, hadd, Nat.add_assoc]
        exact Did.same h hk (.tp _ _ _ _ _ _ hv hx)
      · exact hk.elim
  · simp at ht

theorem nilCheckW_sound (o : Oper) (y : Operand) (ρ : Operand → Value) (ho : o.op = .nilCheck y) {x : AV} (hx : RelV S pl w m x (ρ y)) (hk : nilCheckW m x K) :
    ∃ u v, (execOp ρ o).run P w = .ok (.value u) w ∧ K v m ∧ RelV S pl w m v u := by
  have run : ∀ u, ρ y = u → (∀ b, u ≠ .pointer none → u ≠ .nilIface → u ≠ .nilFunc → (∀ n f c, u ≠ .func (.method n) f c) → b = u → (execOp ρ o).run P w = .ok (.value b) w) := by
    intro u hu b h1 h2 h3 h4 hb
    subst hb
    unfold execOp
    rw [ho]
    simp only [hu]
    cases b with
    | pointer a => cases a with | none => exact absurd rfl h1 | some a => rfl
    | func f c d => cases f <;> first | rfl | exact absurd rfl (h4 _ _ _)
    | nilIface => exact absurd rfl h2
    | nilFunc => exact absurd rfl h3
    | _ => rfl
  generalize hu : ρ y = u at hx
  unfold nilCheckW at hk
  split at hk
  · cases hx with | p id ver o b q hv hx => exact ⟨_, _, run _ hu _ (by simp) (by simp) (by simp) (by simp) rfl, hk, .p _ _ _ _ _ hv hx⟩
  · cases hx with | c _ _ hx =>
    cases hx with | rp cs b q g hS hc hr => exact ⟨_, _, run _ hu _ (by simp) (by simp) (by simp) (by simp) rfl, hk, .c _ _ (.rp _ b q g hS hc hr)⟩
  · cases hx with | tp id ver i o b q hv hx => exact ⟨_, _, run _ hu _ (by simp) (by simp) (by simp) (by simp) rfl, hk, .tp _ _ _ _ _ _ hv hx⟩
  · rename_i f c d
    have e1 := relV_v hx; subst e1
    cases f <;> first | (simp at hk; done) | skip
    exact ⟨_, _, run _ hu _ (by simp) (by simp) (by simp) (by simp) rfl, hk.2, hx⟩
  · exact hk.elim

/-- a row of cells, read -/
theorem run_loadVar_row {t : TypeId} (hkn : known P t = true) (b o : Nat) (f : Nat → Value) (hc : ∀ j, j < (if aggB P t then P.cellsOf t else 1) → cellAt w b (o + j) = some (f j)) :
    (loadVar t ⟨b, o, none⟩).run P w = .ok (if aggB P t then .agg ((List.range (P.cellsOf t)).map f).toArray else f 0) w := by
  have hadd : ∀ j, (⟨b, o, none⟩ : Addr).add j = ⟨b, o + j, none⟩ := fun j => by unfold Addr.add; split <;> simp_all
  unfold loadVar
  simp only [Sem.run_bind, run_agg_of hkn, Result.andThen_ok]
  cases hag : aggB P t with
  | true =>
    rw [hag] at hc
    simp only [if_true, Sem.run_bind, run_size_of hkn, Result.andThen_ok]
    rw [run_loadCells w ⟨b, o, none⟩ (P.cellsOf t) f (fun j hj => by rw [hadd]; exact hc j (by simpa using hj))]
    rfl
  | false =>
    rw [hag] at hc
    have h0 := hc 0 (by simp)
    simp only [Nat.add_zero] at h0
    simp only [Bool.false_eq_true, if_false, run_load]
    rw [show w.cell? ⟨b, o, none⟩ = some (f 0) from h0]

/-- out of a row of related cells: the value of a variable -/
theorem readA_rel {K : AV → Prop} {agg : Bool} {s : Nat} {cs : List AV} {f : Nat → Value} (hr : ∀ (j : Nat) x, cs[j]? = some x → RelV S pl w m x (f j)) (hk : readA agg s cs K) :
    (if agg then s else 1) ≤ cs.length ∧ ∃ y, K y ∧ RelV S pl w m y (if agg then .agg ((List.range s).map f).toArray else f 0) := by
  unfold readA at hk
  cases agg with
  | true =>
    simp only [if_true] at hk ⊢
    refine ⟨hk.1, _, hk.2, .agg _ _ (by simp; omega) (fun i x u hx hu => ?_)⟩
    have hi : i < s := by have := (List.getElem?_eq_some_iff.1 hx).1; rw [List.length_take] at this; omega
    rw [List.getElem?_take_of_lt hi] at hx
    rw [List.getElem?_map, List.getElem?_range hi] at hu
    simp only [Option.map_some, Option.some.injEq] at hu
    subst hu; exact hr i x hx
  | false =>
    simp only [Bool.false_eq_true, if_false] at hk ⊢
    cases cs with
    | nil => exact hk.elim
    | cons x r => exact ⟨by simp, x, hk, hr 0 x rfl⟩

theorem loadW_sound0 (hT : TabOk P T) (h : St X S pl w m) {t s : Nat} (hs : (T.at t).size = s + 1) {x : AV} {a : Value} (hx : RelV S pl w m x a) (hk : loadW (T.at t).agg (s + 1) m x K) :
    ∃ u y, (Instr.loadAt t a).run P w = .ok u w ∧ K y m ∧ RelV S pl w m y u := by
  obtain ⟨hkn, hsz, hag, _⟩ := hT.ti (t := t) (by rw [hs]; omega)
  rw [hs] at hsz
  have run : ∀ (b o : Nat) (cs : List AV) (f : Nat → Value), (∀ (j : Nat) x, cs[j]? = some x → RelV S pl w m x (f j)) → (∀ j, j < cs.length → cellAt w b (o + j) = some (f j)) → readA (T.at t).agg (s + 1) cs (fun y => K y m) →
      ∃ u y, (Instr.loadAt t (.pointer (some ⟨b, o, none⟩))).run P w = .ok u w ∧ K y m ∧ RelV S pl w m y u := by
    intro b o cs f hr hc hk
    obtain ⟨hle, y, hy, hrel⟩ := readA_rel hr hk
    have := run_loadVar_row (w := w) hkn b o f (fun j hj => hc j (by rw [hag, hsz] at hj; omega))
    unfold Instr.loadAt
    simp only [Sem.run_bind, Instr.sureAddr, Sem.run_pure, Result.andThen_ok, this]
    rw [hag, hsz]
    exact ⟨_, y, rfl, hy, hrel⟩
  unfold loadW at hk
  split at hk
  · rename_i id ver o
    cases hx with | p _ _ _ b q hv hx =>
    split at hk
    · rename_i v cs hg
      obtain ⟨rfl, hk⟩ := hk
      obtain ⟨_, hb⟩ := hx _ hg rfl
      obtain ⟨hv', h1, h2, hf⟩ := h.inv.ob id _ hg
      have hch : ∃ f : Nat → Value, ∀ (j : Nat) x, cs[j]? = some x → cellAt w (pl id).1 ((pl id).2 + j) = some (f j) ∧ RelV S pl w m x (f j) := by
        refine ⟨fun j => (cellAt w (pl id).1 ((pl id).2 + j)).getD undef, fun j x hx => ?_⟩
        obtain ⟨u, hu, hr⟩ := hf j x hx
        dsimp only
        rw [hu]; exact ⟨rfl, hr⟩
      obtain ⟨f, hf⟩ := hch
      refine run b (q + o) (cs.drop o) (fun j => f (o + j)) (fun j x hx => ?_) (fun j hj => ?_) hk
      · rw [List.getElem?_drop] at hx; exact (hf _ x hx).2
      · rw [List.length_drop] at hj
        have := (hf (o + j) _ (List.getElem?_eq_getElem (by omega))).1
        rw [← hb] at this
        rw [Nat.add_assoc]; exact this
    · exact hk.elim
  · rename_i cs
    cases hx with | c _ _ hx =>
    cases hx with | rp _ b q g hS hc hr =>
    refine run b q (cs.map .c) g (fun j x hx => ?_) (fun j hj => hc j (by simpa using hj)) hk
    rw [List.getElem?_map] at hx
    cases hcj : cs[j]? with
    | none => rw [hcj] at hx; simp at hx
    | some y => rw [hcj] at hx; simp at hx; subst hx; exact .c _ _ (hr j y hcj)
  · rename_i id ver i o
    cases hx with | tp _ _ _ _ b q hv hx =>
    split at hk
    · rename_i v sz es cap pub hg
      obtain ⟨rfl, hi, hk⟩ := hk
      obtain ⟨sz', es', cap', pub', heq, _, hb, hq⟩ := hx _ hg rfl
      injection heq with _ e1 e2 _ _; subst e1 e2 hb hq
      obtain ⟨hv', h0, h1, h2, h3, ⟨hl, f, hc, hr⟩, hp⟩ := h.inv.ob id _ hg
      have he : es[i]? = some es[i] := List.getElem?_eq_getElem hi
      have hd : es.getD i [] = es[i] := by simp [List.getD, he]
      have hlen := hl i _ he
      rw [hd] at hk
      refine run _ (i * sz + o) (((es[i]).drop o).map .c) (fun j => f (i * sz + (o + j))) (fun j x hx => ?_) (fun j hj => ?_) hk
      · rw [List.getElem?_map, List.getElem?_drop] at hx
        cases hcj : es[i][o + j]? with
        | none => rw [hcj] at hx; simp at hx
        | some y => rw [hcj] at hx; simp at hx; subst hx; exact .c _ _ (hr i _ _ y he hcj)
      · rw [List.length_map, List.length_drop] at hj
        have hlt : i * sz + (o + j) < es.length * sz := by
          have : (i + 1) * sz ≤ es.length * sz := Nat.mul_le_mul_right sz hi
          rw [Nat.add_mul] at this; omega
        rw [Nat.add_assoc]; exact hc _ hlt
    · exact hk.elim
  · exact hk.elim
theorem loadW_sound (hT : TabOk P T) (h : St X S pl w m) {t s : Nat} (hs : (T.at t).size = s + 1) {x : AV} {a : Value} (hx : RelV S pl w m x a) (hk : loadW (T.at t).agg (s + 1) m x K) :
    Did X S pl w m ((Instr.loadAt t a).run P w) K := by
  obtain ⟨u, y, h1, h2, h3⟩ := loadW_sound0 hT h hs hx hk
  rw [h1]; exact Did.same h h2 h3
end
end Go.Proofs.Ythncmjlcmlmnmaa.V

namespace Go.Proofs.Ythncmjlcmlmnmaa.V
open Go Go.RowKit
section
variable {P : Program} {T : Tab} {X : Ctx} {S : Area} {pl : Place} {w : World} {m : Mem} {K : KK}

theorem part_sound {t : TypeId} (hkn : known P t = true) {cs : List AV} {us : List Value} (hl : us.length = cs.length) (hr : ∀ (i : Nat) x u, cs[i]? = some x → us[i]? = some u → RelV S pl w m x u) (off : Nat)
    {K : AV → Prop} (hk : readA (aggB P t) (P.cellsOf t) (cs.drop off) K) : ∃ u y, (part t us.toArray off).run P w = .ok u w ∧ K y ∧ RelV S pl w m y u := by
  have hr' : ∀ (j : Nat) x, (cs.drop off)[j]? = some x → RelV S pl w m x (us.getD (off + j) undef) := fun j x hx => by
    rw [List.getElem?_drop] at hx
    have hj : off + j < cs.length := (List.getElem?_eq_some_iff.1 hx).1
    have hu : us[off + j]? = some us[off + j] := List.getElem?_eq_getElem (by omega)
    have := hr _ x _ hx hu
    simpa [List.getD, hu] using this
  obtain ⟨hle, y, hy, hrel⟩ := readA_rel hr' hk
  rw [List.length_drop] at hle
  unfold part
  simp only [Sem.run_bind, run_agg_of hkn, Result.andThen_ok]
  cases hag : aggB P t with
  | true =>
    rw [hag] at hrel hle
    simp only [if_true] at hrel hle
    simp only [if_true, Sem.run_bind, run_size_of hkn, Result.andThen_ok, Sem.run_pure]
    refine ⟨_, y, rfl, hy, ?_⟩
    have : us.toArray.extract off (off + P.cellsOf t) = ((List.range (P.cellsOf t)).map fun j => us.getD (off + j) undef).toArray := by
      apply Array.ext'
      rw [Array.toList_extract]
      simp only [List.extract, Nat.add_sub_cancel_left]
      apply List.ext_getElem?
      intro j
      by_cases hj : j < P.cellsOf t
      · rw [List.getElem?_take_of_lt hj, List.getElem?_drop, List.getElem?_map, List.getElem?_range hj]
        have hu : us[off + j]? = some us[off + j] := List.getElem?_eq_getElem (by omega)
        simp [List.getD, hu]
      · rw [List.getElem?_eq_none (by rw [List.length_take]; omega), List.getElem?_eq_none (by simp; omega)]
    rw [this]; exact hrel
  | false =>
    rw [hag] at hrel hle
    simp only [Bool.false_eq_true, if_false] at hrel hle ⊢
    have hu : us[off]? = some us[off] := List.getElem?_eq_getElem (by omega)
    rw [show us.toArray[off]? = some us[off] by simp]
    refine ⟨_, y, rfl, hy, ?_⟩
    simpa [List.getD, hu] using hrel

theorem fieldW_sound (hT : TabOk P T) (h : St X S pl w m) {t f : Nat} {fs : List (Nat × Nat × Bool)} (hs : (T.at t).k = .st fs) {fd : Nat × Nat × Bool} (hf : fs[f]? = some fd) {x : AV} {a : Value} (hx : RelV S pl w m x a)
    (hk : fieldW fd m x K) : Did X S pl w m ((Instr.field t a f).run P w) K := by
  have ht := (hT.tk (t := t) (by rw [hs]; rfl)).1
  rw [hs] at ht; simp only [tkOk] at ht
  split at ht
  · rename_i fields hu
    simp only [Bool.and_eq_true, beq_iff_eq, List.all_eq_true] at ht
    obtain ⟨hmap, hall⟩ := ht
    have hfi : (fields.toList.map (fieldRow P))[f]? = some fd := by rw [hmap]; exact hf
    rw [List.getElem?_map] at hfi
    cases hfl : fields.toList[f]? with
    | none => rw [hfl] at hfi; simp at hfi
    | some g =>
      rw [hfl] at hfi
      simp only [Option.map_some, Option.some.injEq] at hfi
      subst hfi
      have hfa : fields[f]? = some g := by rw [← Array.getElem?_toList]; exact hfl
      unfold fieldW at hk
      split at hk
      · cases hx with | agg cs us hl hr =>
        obtain ⟨u, y, hrun, hy, hrel⟩ := part_sound (hall g (List.mem_of_getElem? hfl)) hl hr g.offset hk
        unfold Instr.field
        simp only [Sem.run_bind, run_underlying hu, Result.andThen_ok, hfa, asAgg, Sem.run_pure, hrun]
        exact Did.same h hy hrel
      · exact hk.elim
  · simp at ht

theorem extractW_sound (h : St X S pl w m) {i : Nat} {x : AV} {a : Value} (hx : RelV S pl w m x a) (hk : extractW i m x K) : Did X S pl w m ((Instr.extract a i).run P w) K := by
  unfold extractW at hk
  split at hk
  · cases hx with | tup cs us hl hr =>
    split at hk
    · rename_i y hy
      have hi : i < us.length := by rw [hl]; exact (List.getElem?_eq_some_iff.1 hy).1
      have hu : us[i]? = some us[i] := List.getElem?_eq_getElem hi
      unfold Instr.extract
      simp only [show us.toArray[i]? = some us[i] by simp, Sem.run_pure]
      exact Did.same h hk (hr i y _ hy hu)
    · exact hk.elim
  · exact hk.elim

theorem sl_under (hT : TabOk P T) {t esz eb : Nat} {ea u8 : Bool} (hs : (T.at t).k = .sl esz ea eb u8) : ∃ e, P.underlying t = some (.slice e) ∧ P.cellsOf e = esz ∧ P.bytesOf e = eb ∧ known P e = true ∧ 0 < esz ∧ eb ≤ 2 ^ 30 ∧ 0 < eb ∧
    (zeroOk P e (T.at t).ezero = true ∧ (T.at t).ezero.length = esz) ∧ (u8 = true → P.underlying e = some (.int .u8)) := by
  have ht := (hT.tk (t := t) (by rw [hs]; rfl)).1
  rw [hs] at ht; simp only [tkOk] at ht
  split at ht
  · rename_i e hu
    simp only [Bool.and_eq_true, beq_iff_eq, decide_eq_true_eq, Bool.or_eq_true, Bool.not_eq_true'] at ht
    obtain ⟨⟨⟨⟨⟨⟨⟨⟨h1, h2⟩, h3⟩, h4⟩, h5⟩, h6⟩, h7⟩, h8⟩, h9⟩ := ht
    refine ⟨e, hu, h1, h3, h4, h5, h6, h7, h8, fun hu8 => ?_⟩
    rcases h9 with h9 | h9
    · rw [hu8] at h9; simp at h9
    · split at h9
      · assumption
      · simp at h9
  · simp at ht
theorem ar_under (hT : TabOk P T) {t n esz : Nat} {ea : Bool} (hs : (T.at t).k = .ar n esz ea) : ∃ e, P.underlying t = some (.array n e) ∧ P.cellsOf e = esz ∧ aggB P e = ea ∧ known P e = true ∧ 0 < esz := by
  have ht := (hT.tk (t := t) (by rw [hs]; rfl)).1
  rw [hs] at ht; simp only [tkOk] at ht
  split at ht
  · rename_i n' e hu
    simp only [Bool.and_eq_true, beq_iff_eq, decide_eq_true_eq] at ht
    obtain ⟨⟨⟨⟨h1, h2⟩, h3⟩, h4⟩, h5⟩ := ht
    subst h1
    exact ⟨e, hu, h2, h3, h4, h5⟩
  · simp at ht
theorem str_under (hT : TabOk P T) {t : Nat} (hs : (T.at t).k = .str) : P.underlying t = some .string := by
  have ht := (hT.tk (t := t) (by rw [hs]; rfl)).1
  rw [hs] at ht; simp only [tkOk] at ht
  split at ht
  · assumption
  · simp at ht
theorem int_under (hT : TabOk P T) {t : Nat} {k : IntKind} (hs : (T.at t).k = .int k) : P.underlying t = some (.int k) := by
  have ht := (hT.tk (t := t) (by rw [hs]; rfl)).1
  rw [hs] at ht; simp only [tkOk] at ht
  split at ht
  · rename_i k' hu
    have := beq_iff_eq.1 ht; subst this; exact hu
  · simp at ht

theorem lenW_sound (hT : TabOk P T) (h : St X S pl w m) {t ty : Nat} {tys : Array TypeId} (ht : tys[0]? = some t) {x : AV} {a : Value} (hx : RelV S pl w m x a) (hk : lenW (T.at t).k m x K) :
    Did X S pl w m ((Builtin.len_ tys ty #[a]).run P w) K := by
  have h0 : (#[a] : Array Value)[0]? = some a := rfl
  unfold lenW at hk
  split at hk
  · rename_i hk2
    have e1 := relV_v hx; subst e1
    unfold Builtin.len_
    simp only [ht, h0, Sem.run_bind, run_underlying (str_under hT hk2), Result.andThen_ok, Sem.run_pure]
    exact Did.lit h rfl hk
  · rename_i hk2
    obtain ⟨e, hu, _⟩ := ar_under hT hk2
    unfold Builtin.len_
    simp only [ht, h0, Sem.run_bind, run_underlying hu, Result.andThen_ok, Sem.run_pure]
    exact Did.lit h rfl hk
  · rename_i hk2
    obtain ⟨e, hu, _⟩ := sl_under hT hk2
    cases hx with | c _ _ hx =>
    cases hx with | sl _ _ _ a cap b o f hcap hsp ha hl hS hc hr =>
    unfold Builtin.len_
    simp only [ht, h0, Sem.run_bind, run_underlying hu, Result.andThen_ok, Sem.run_pure]
    exact Did.lit h rfl hk
  · rename_i hk2
    obtain ⟨e, hu, _⟩ := sl_under hT hk2
    cases hx with | t _ _ _ b capn hv hn hx =>
    unfold Builtin.len_
    simp only [ht, h0, Sem.run_bind, run_underlying hu, Result.andThen_ok, Sem.run_pure]
    exact Did.lit h rfl hk
  · exact hk.elim

theorem arr_cap (h : St X S pl w m) {id v sz n b capn c : Nat} {es : List (List CV)} {pub : Bool} (hg : m.get id = some (.arr v sz es (some c) pub)) (hx : RelV S pl w m (.t id v n) (.slice (some ⟨b, 0, none⟩) n capn)) : capn = c := by
  cases hx with | t _ _ _ _ _ hv hn hx =>
  obtain ⟨sz', es', cap', pub', e, heq, hne, hb, hs⟩ := hx _ hg rfl
  injection heq with _ e1 e2 e3 _; subst e1 e2 e3
  obtain ⟨_, h0, h1, h2, ⟨e2, capn2, hs2, hle2, hcap2⟩, _⟩ := h.inv.ob id _ hg
  rw [← hb] at hs2
  rw [hs] at hs2; injection hs2 with hs2; injection hs2 with _ hs2
  have := Nat.eq_of_mul_eq_mul_right h1 hs2
  rw [this]; exact hcap2 c rfl

theorem capW_sound (hT : TabOk P T) (h : St X S pl w m) {t ty : Nat} {tys : Array TypeId} (ht : tys[0]? = some t) {x : AV} {a : Value} (hx : RelV S pl w m x a) (hk : capW (T.at t).k m x K) :
    Did X S pl w m ((Builtin.cap_ tys ty #[a]).run P w) K := by
  have h0 : (#[a] : Array Value)[0]? = some a := rfl
  unfold capW at hk
  split at hk
  · rename_i es sp hk2
    obtain ⟨e, hu, _⟩ := sl_under hT hk2
    cases hx with | c _ _ hx =>
    cases hx with | sl _ _ _ a cap b o f hcap hsp ha hl hS hc hr =>
    have := hsp sp rfl
    subst this
    unfold Builtin.cap_
    simp only [ht, h0, Sem.run_bind, run_underlying hu, Result.andThen_ok, Sem.run_pure]
    exact Did.lit h rfl (by simpa [goInt] using hk)
  · rename_i id ver _ hk2
    obtain ⟨e, hu, _⟩ := sl_under hT hk2
    split at hk
    · rename_i v sz es c pub hg
      obtain ⟨rfl, hk⟩ := hk
      have hx' := hx
      cases hx with | t _ _ _ b capn hv hn hx =>
      have := arr_cap h hg hx'
      subst this
      unfold Builtin.cap_
      simp only [ht, h0, Sem.run_bind, run_underlying hu, Result.andThen_ok, Sem.run_pure]
      exact Did.lit h rfl hk
    · exact hk.elim
  · exact hk.elim

theorem minmaxW_sound (h : St X S pl w m) {tys : Array TypeId} {ty : Nat} {xs : List AV} {as : List Value} (hl : as.length = xs.length) (hr : ∀ (i : Nat) x u, xs[i]? = some x → as[i]? = some u → RelV S pl w m x u) (mx : Bool)
    (hk : minmaxW mx m xs K) : Did X S pl w m ((if mx then Builtin.max_ tys ty as.toArray else Builtin.min_ tys ty as.toArray).run P w) K := by
  unfold minmaxW at hk
  split at hk
  · rename_i k a k' b
    obtain ⟨rfl, hk⟩ := hk
    match as, hl with
    | [u, v], _ =>
      have e1 := relV_v (hr 0 _ u rfl rfl); subst e1
      have e2 := relV_v (hr 1 _ v rfl rfl); subst e2
      cases mx with
      | true => exact Did.lit h rfl hk
      | false => exact Did.lit h rfl hk
  · exact hk.elim

theorem indexAddrW_sound (hT : TabOk P T) (h : St X S pl w m) {t : Nat} {x i : AV} {a ia : Value} (hx : RelV S pl w m x a) (hi : RelV S pl w m i ia) (hk : indexAddrW (T.at t).k m x i K) :
    Did X S pl w m ((Instr.indexAt t a ia).run P w) K := by
  have hadd : ∀ b o k : Nat, (⟨b, o, none⟩ : Addr).add k = ⟨b, o + k, none⟩ := fun b o k => by unfold Addr.add; split <;> simp_all
  unfold indexAddrW at hk
  split at hk
  · rename_i ik i
    have e1 := relV_v hi; subst e1
    split at hk
    · rename_i n esz ea id ver o hk2
      obtain ⟨h1, h2, h3, hk⟩ := hk
      obtain ⟨e, hu, hsz, _, hkn, _⟩ := ar_under hT hk2
      cases hx with | p _ _ _ b q hv hx =>
      unfold Instr.indexAt
      simp only [asIntOf, Sem.run_bind, Sem.run_pure, run_underlying hu, Result.andThen_ok, Instr.sureAddr]
      rw [if_pos ⟨h2, h3⟩]
      simp only [Sem.run_bind, run_size_of hkn, Result.andThen_ok, Sem.run_pure, hsz, hadd, Nat.add_assoc]
      exact Did.same h hk (.p _ _ _ _ _ hv hx)
    · rename_i n esz ea cs hk2
      obtain ⟨h1, h2, h3, hk⟩ := hk
      obtain ⟨e, hu, hsz, _, hkn, _⟩ := ar_under hT hk2
      cases hx with | c _ _ hx =>
      cases hx with | rp _ b q g hS hc hr =>
      unfold Instr.indexAt
      simp only [asIntOf, Sem.run_bind, Sem.run_pure, run_underlying hu, Result.andThen_ok, Instr.sureAddr]
      rw [if_pos ⟨h2, h3⟩]
      simp only [Sem.run_bind, run_size_of hkn, Result.andThen_ok, Sem.run_pure, hsz, hadd]
      refine Did.same h hk (.c _ _ (.rp _ b _ (fun j => g (i.toNat * esz + j)) (fun j hj => ?_) (fun j hj => ?_) (fun j x hx => ?_)))
      · rw [List.length_drop] at hj; have := hS (i.toNat * esz + j) (by omega); rwa [← Nat.add_assoc] at this
      · rw [List.length_drop] at hj; have := hc (i.toNat * esz + j) (by omega); rwa [← Nat.add_assoc] at this
      · rw [List.getElem?_drop] at hx; exact hr _ x hx
    · rename_i esz ea eb u8 sz es sp hk2
      obtain ⟨rfl, h2, h3, hk⟩ := hk
      obtain ⟨e, hu, hsz, _, hkn, _⟩ := sl_under hT hk2
      cases hx with | c _ _ hx =>
      cases hx with | sl _ _ _ ad cap b o f hcap hsp ha hl hS hc hr =>
      have hlt : i.toNat < es.length := by omega
      have he : es[i.toNat]? = some es[i.toNat] := List.getElem?_eq_getElem hlt
      have heA : (es ++ sp.getD [])[i.toNat]? = some es[i.toNat] := by rw [List.getElem?_append_left hlt]; exact he
      obtain ⟨rfl, hpos⟩ := ha (by intro hnil; rw [hnil] at heA; simp at heA)
      unfold Instr.indexAt
      simp only [asIntOf, Sem.run_bind, Sem.run_pure, run_underlying hu, Result.andThen_ok]
      rw [if_pos ⟨h2, h3⟩]
      simp only [Sem.run_bind, run_size_of hkn, Result.andThen_ok, Sem.run_pure, hsz, hadd]
      have hd : es.getD i.toNat [] = es[i.toNat] := by simp [List.getD, he]
      rw [hd] at hk
      have hlen := hl _ _ heA
      have hmul : ∀ j, j < es[i.toNat].length → i.toNat * sz + j < (es ++ sp.getD []).length * sz := fun j hj => by
        have : (i.toNat + 1) * sz ≤ (es ++ sp.getD []).length * sz := Nat.mul_le_mul_right sz (by rw [List.length_append]; omega)
        rw [Nat.add_mul] at this; omega
      refine Did.same h hk (.c _ _ (.rp _ b _ (fun j => f (i.toNat * sz + j)) (fun j hj => ?_) (fun j hj => ?_) (fun j x hx => hr _ _ _ x heA hx)))
      · have := hS _ (hmul j hj); rwa [← Nat.add_assoc] at this
      · have := hc _ (hmul j hj); rwa [← Nat.add_assoc] at this
    · rename_i esz ea eb u8 id ver n hk2
      obtain ⟨e, hu, hsz, _, hkn, _⟩ := sl_under hT hk2
      split at hk
      · rename_i v sz es cap pub hg
        obtain ⟨rfl, rfl, hne, h2, h3, hk⟩ := hk
        cases hx with | t _ _ _ b capn hv hn hx =>
        obtain ⟨sz', es', cap', pub', e', heq, hne', hb, hs⟩ := hx _ hg rfl
        injection heq with _ e1 e2 e3 e4; subst e1 e2 e3 e4
        unfold Instr.indexAt
        simp only [asIntOf, Sem.run_bind, Sem.run_pure, run_underlying hu, Result.andThen_ok]
        rw [if_pos ⟨h2, h3⟩]
        simp only [Sem.run_bind, run_size_of hkn, Result.andThen_ok, Sem.run_pure, hsz, hadd]
        refine Did.same h hk ?_
        have := RelV.tp (S := S) (pl := pl) (w := w) (m := m) id v i.toNat 0 b (i.toNat * sz) hv (fun ob hob he => by
          rw [hg] at hob; injection hob with hob; subst hob
          exact ⟨_, _, _, _, rfl, by omega, hb, rfl⟩)
        simpa using this
      · exact hk.elim
    · exact hk.elim
  · exact hk.elim

theorem indexW_sound (hT : TabOk P T) (h : St X S pl w m) {t : Nat} {x i : AV} {a ia : Value} (hx : RelV S pl w m x a) (hi : RelV S pl w m i ia) (hk : indexW (T.at t).k m x i K) :
    Did X S pl w m ((Instr.index t a ia).run P w) K := by
  unfold indexW at hk
  split at hk
  · rename_i ik i
    have e1 := relV_v hi; subst e1
    split at hk
    · rename_i s hk2
      obtain ⟨h2, h3, hk⟩ := hk
      have e2 := relV_v hx; subst e2
      unfold Instr.index
      simp only [asIntOf, Sem.run_bind, Sem.run_pure, run_underlying (str_under hT hk2), Result.andThen_ok]
      have hlt : i.toNat < s.size := by omega
      rw [if_pos h2]
      have hget : s[i.toNat]? = some (s.data.toList.getD i.toNat 0) := by
        have hl : i.toNat < s.data.toList.length := by simpa using hlt
        rw [getElem?_pos s i.toNat hlt]
        simp [List.getD, List.getElem?_eq_getElem hl]; rfl
      rw [hget]
      exact Did.lit h rfl hk
    · rename_i n esz ea cs hk2
      obtain ⟨h2, h3, hk⟩ := hk
      obtain ⟨e, hu, hsz, hag, hkn, _⟩ := ar_under hT hk2
      cases hx with | agg _ us hl hr =>
      rw [← hsz, ← hag] at hk
      obtain ⟨u, y, hrun, hy, hrel⟩ := part_sound hkn hl hr _ hk
      unfold Instr.index
      simp only [asIntOf, Sem.run_bind, Sem.run_pure, run_underlying hu, Result.andThen_ok]
      rw [if_pos ⟨h2, h3⟩]
      simp only [Sem.run_bind, run_size_of hkn, Result.andThen_ok, hrun]
      exact Did.same h hy hrel
    · exact hk.elim
  · exact hk.elim
end
end Go.Proofs.Ythncmjlcmlmnmaa.V

namespace Go.Proofs.Ythncmjlcmlmnmaa.V
open Go Go.RowKit
section
variable {P : Program} {T : Tab} {X : Ctx} {S : Area} {pl : Place} {w : World} {m : Mem} {K : KK}

/-- a bound and its value -/
def BndRel (S : Area) (pl : Place) (w : World) (m : Mem) : Option AV → Option Value → Prop
  | none, none => True
  | some x, some u => RelV S pl w m x u
  | _, _ => False

theorem bnd_some {d : Int} {x : Option AV} {u : Option Value} (hr : BndRel S pl w m x u) {K : Int → Prop} (hk : bnd d x K) : (x = none ∧ u = none ∧ K d) ∨ ∃ k n, u = some (.int k n) ∧ x.isSome = true ∧ K n := by
  unfold bnd at hk
  split at hk
  · cases u with
    | none => exact .inl ⟨rfl, rfl, hk⟩
    | some u => exact hr.elim
  · cases u with
    | none => exact hr.elim
    | some u => have e1 := relV_v hr; subst e1; exact .inr ⟨_, _, rfl, rfl, hk⟩
  · exact hk.elim

theorem run_sliceBound {k : IntKind} {n : Int} {y : Nat} {c : BoundsCode} (h0 : 0 ≤ n) (h1 : n ≤ y) : (Instr.sliceBound (.int k n) y c).run P w = .ok n.toNat w := by
  unfold Instr.sliceBound
  simp only [asIntOf, Sem.run_bind, Sem.run_pure, Result.andThen_ok]
  rw [if_pos ⟨h0, h1⟩]; rfl

/-- the bounds of a cut without a third index -/
theorem run_bounds2 (isSlice : Bool) (len cap : Nat) (lo hi : Option Value) (l h : Int) (hlo : (lo = none ∧ l = 0) ∨ ∃ k, lo = some (.int k l)) (hhi : (hi = none ∧ h = len) ∨ ∃ k, hi = some (.int k h))
    (h0 : 0 ≤ l) (h1 : l ≤ h) (h2 : h ≤ cap) : (Instr.sliceBounds isSlice len cap lo hi none).run P w = .ok (l.toNat, h.toNat, cap) w := by
  unfold Instr.sliceBounds
  have hh : h.toNat = h := Int.toNat_of_nonneg (by omega)
  rcases hhi with ⟨rfl, rfl⟩ | ⟨k, rfl⟩ <;> rcases hlo with ⟨rfl, rfl⟩ | ⟨k', rfl⟩
  · simp
  · simp only [Sem.run_bind, Sem.run_pure, Result.andThen_ok]
    rw [run_sliceBound h0 h1]; simp
  · simp only [Sem.run_bind, Sem.run_pure, Result.andThen_ok]
    rw [run_sliceBound (by omega) h2]; simp
  · simp only [Sem.run_bind, Sem.run_pure, Result.andThen_ok]
    rw [run_sliceBound (by omega) h2]
    simp only [Result.andThen_ok]
    rw [run_sliceBound h0 (by omega)]; simp
theorem run_bounds3 (isSlice : Bool) (len cap : Nat) (lo : Option Value) (hk ck : IntKind) (l h c : Int) (hlo : (lo = none ∧ l = 0) ∨ ∃ k, lo = some (.int k l))
    (h0 : 0 ≤ l) (h1 : l ≤ h) (h2 : h ≤ c) (h3 : c ≤ cap) : (Instr.sliceBounds isSlice len cap lo (some (.int hk h)) (some (.int ck c))).run P w = .ok (l.toNat, h.toNat, c.toNat) w := by
  unfold Instr.sliceBounds
  simp only [Sem.run_bind]
  rw [run_sliceBound (by omega) h3]
  simp only [Result.andThen_ok]
  rw [run_sliceBound (by omega) (by omega)]
  simp only [Result.andThen_ok]
  rcases hlo with ⟨rfl, rfl⟩ | ⟨k', rfl⟩
  · simp
  · simp only [Sem.run_bind]
    rw [run_sliceBound h0 (by omega)]; simp

/-- a cut of a closed slice is a closed slice -/
theorem RelC.cut {sz : Nat} {es : List (List CV)} {sp : Option (List (List CV))} {a : Option Addr} {n cap l h c : Nat} (hr : RelC S w (.sl sz es sp) (.slice a n cap)) (sp' : Option (List (List CV)))
    (hlh : l ≤ h) (hhc : h ≤ c) (hh : h ≤ (es ++ sp.getD []).length) (hsp : ∀ s, sp' = some s → s = ((es ++ sp.getD []).drop h).take (c - h) ∧ c ≤ (es ++ sp.getD []).length) :
    RelC S w (.sl sz (((es ++ sp.getD []).take h).drop l) sp') (.slice (if c = l then a else a.map (·.add (l * sz))) (h - l) (c - l)) := by
  generalize hall : es ++ sp.getD [] = all at *
  cases hr with | sl _ _ _ _ _ b o f hcap' hsp0 ha hl hS hc hr =>
  rw [hall] at ha hl hS hc hr
  have hadd : ∀ b o k : Nat, (⟨b, o, none⟩ : Addr).add k = ⟨b, o + k, none⟩ := fun b o k => by unfold Addr.add; split <;> simp_all
  have hlen : ((all.take h).drop l).length = h - l := by rw [List.length_drop, List.length_take]; omega
  have hget : ∀ (j : Nat) x, ((all.take h).drop l ++ sp'.getD [])[j]? = some x → all[l + j]? = some x := by
    intro j x hx
    by_cases hj : j < h - l
    · rw [List.getElem?_append_left (by omega), List.getElem?_drop, List.getElem?_take_of_lt (by omega)] at hx; exact hx
    · rw [List.getElem?_append_right (by omega), hlen] at hx
      cases hs : sp' with
      | none => rw [hs] at hx; simp at hx
      | some s =>
        rw [hs] at hx
        obtain ⟨rfl, _⟩ := hsp s hs
        have hjl : j - (h - l) < c - h := by have := (List.getElem?_eq_some_iff.1 hx).1; simp only [Option.getD_some, List.length_take] at this; omega
        simp only [Option.getD_some] at hx
        rw [List.getElem?_take_of_lt hjl, List.getElem?_drop] at hx
        rw [← hx]; congr 1; omega
  have hlenA : ((all.take h).drop l ++ sp'.getD []).length ≤ all.length - l := by
    rw [List.length_append, hlen]
    cases hs : sp' with
    | none => simp; omega
    | some s => obtain ⟨rfl, hcl⟩ := hsp s hs; simp only [Option.getD_some, List.length_take, List.length_drop]; omega
  have hmul : ∀ k, k < ((all.take h).drop l ++ sp'.getD []).length * sz → l * sz + k < all.length * sz := fun k hk => by
    have h1 : ((all.take h).drop l ++ sp'.getD []).length * sz ≤ (all.length - l) * sz := Nat.mul_le_mul_right sz hlenA
    have h2 : (all.length - l) * sz + l * sz = all.length * sz := by rw [← Nat.add_mul]; congr 1; omega
    omega
  have := RelC.sl (S := S) (w := w) sz ((all.take h).drop l) sp' (if c = l then a else a.map (·.add (l * sz))) (c - l) b (o + l * sz) (fun k => f (l * sz + k)) (by rw [hlen]; omega)
    (fun s hs => by obtain ⟨rfl, hcl⟩ := hsp s hs; rw [hlen]; simp only [List.length_take, List.length_drop]; omega)
    (fun hne => by
      have h1 : 0 < ((all.take h).drop l ++ sp'.getD []).length := List.length_pos_iff.2 hne
      have hal : all ≠ [] := by intro e; have e2 := congrArg List.length e; rw [List.length_nil] at e2; omega
      obtain ⟨rfl, hpos⟩ := ha hal
      refine ⟨?_, hpos⟩
      have hcl : c ≠ l := by
        intro e; subst e
        rw [List.length_append, hlen] at h1
        cases hs : sp' with
        | none => rw [hs] at h1; simp at h1; omega
        | some s => obtain ⟨rfl, _⟩ := hsp s hs; rw [hs] at h1; simp only [Option.getD_some, List.length_take] at h1; omega
      rw [if_neg hcl]; simp [hadd])
    (fun j x hx => hl _ x (hget j x hx)) (fun k hk => by have := hS _ (hmul k hk); rwa [← Nat.add_assoc] at this) (fun k hk => by have := hc _ (hmul k hk); rwa [← Nat.add_assoc] at this)
    (fun j t x y hx hy => by have := hr _ t x y (hget j x hx) hy; rwa [Nat.add_mul, Nat.add_assoc] at this)
  rwa [hlen] at this

theorem sliceW_sound (hT : TabOk P T) (h : St X S pl w m) {t : Nat} {x : AV} {lo hi mx : Option AV} {a : Value} {l' h' m' : Option Value} (hx : RelV S pl w m x a) (hlo : BndRel S pl w m lo l') (hhi : BndRel S pl w m hi h') (hmx : BndRel S pl w m mx m')
    (hk : sliceW (T.at t).k m x lo hi mx K) : Did X S pl w m ((Instr.sliceAt t a l' h' m').run P w) K := by
  unfold sliceW at hk
  split at hk
  · rename_i s hk2
    have hu := str_under hT hk2
    obtain ⟨hmn, hk⟩ := hk
    have e1 := relV_v hx; subst e1
    cases mx with
    | some _ => simp at hmn
    | none =>
      cases m' with
      | some _ => exact hmx.elim
      | none =>
        have key : ∀ (l h : Int), ((l' = none ∧ l = 0) ∨ ∃ k, l' = some (.int k l)) → ((h' = none ∧ h = s.size) ∨ ∃ k, h' = some (.int k h)) → 0 ≤ l → l ≤ h → h ≤ s.size → K (.c (.v (.string (s.extract l.toNat h.toNat)))) m →
            Did X S pl w m ((Instr.sliceAt t (.string s) l' h' none).run P w) K := by
          intro l hh h1 h2 h3 h4 h5 hK
          unfold Instr.sliceAt
          simp only [Sem.run_bind, run_underlying hu, Result.andThen_ok, Instr.slice, Option.isSome_none, Bool.false_eq_true, if_false, Sem.run_pure]
          rw [run_bounds2 false s.size s.size l' h' l hh h1 h2 h3 h4 h5]
          exact Did.lit h rfl hK
        rcases bnd_some hlo hk with ⟨_, rfl, hk⟩ | ⟨k1, n1, rfl, _, hk⟩ <;> rcases bnd_some hhi hk with ⟨_, rfl, hk⟩ | ⟨k2, n2, rfl, _, hk⟩ <;> obtain ⟨h3, h4, h5, hK⟩ := hk
        · exact key _ _ (.inl ⟨rfl, rfl⟩) (.inl ⟨rfl, rfl⟩) h3 h4 h5 hK
        · exact key _ _ (.inl ⟨rfl, rfl⟩) (.inr ⟨_, rfl⟩) h3 h4 h5 hK
        · exact key _ _ (.inr ⟨_, rfl⟩) (.inl ⟨rfl, rfl⟩) h3 h4 h5 hK
        · exact key _ _ (.inr ⟨_, rfl⟩) (.inr ⟨_, rfl⟩) h3 h4 h5 hK
  · rename_i esz ea eb u8 sz es sp hk2
    obtain ⟨e, hu, hsz, _, hkn, hpos, _⟩ := sl_under hT hk2
    obtain ⟨rfl, hk⟩ := hk
    cases hx with | c _ _ hx =>
    have hxr := hx
    cases hx with | sl _ _ _ ad cap b o f hcap hsp ha hl hS hc hr =>
    clear hl hS hc hr
    have fin : ∀ (lo hi c : Nat) (sp' : Option (List (List CV))), (Instr.sliceBounds true es.length cap l' h' m').run P w = .ok (lo, hi, c) w → lo ≤ hi → hi ≤ c → c ≤ cap → hi ≤ (es ++ sp.getD []).length →
        (∀ s, sp' = some s → s = ((es ++ sp.getD []).drop hi).take (c - hi) ∧ c ≤ (es ++ sp.getD []).length) → K (.c (.sl sz (((es ++ sp.getD []).take hi).drop lo) sp')) m →
        Did X S pl w m ((Instr.sliceAt t (.slice ad es.length cap) l' h' m').run P w) K := by
      intro lo hi c sp' hb h1 h2 h3 h4 h5 hK
      unfold Instr.sliceAt
      simp only [Sem.run_bind, run_underlying hu, Result.andThen_ok, Instr.slice, hb, run_size_of hkn, Sem.run_pure, hsz]
      exact Did.same h hK (.c _ _ (hxr.cut sp' h1 h2 h4 h5))
    have key2 : mx = none → ∀ (lo hi : Int), ((l' = none ∧ lo = 0) ∨ ∃ k, l' = some (.int k lo)) → ((h' = none ∧ hi = es.length) ∨ ∃ k, h' = some (.int k hi)) → 0 ≤ lo → lo ≤ hi →
        (∀ s, sp = some s → hi ≤ es.length + s.length ∧ K (.c (.sl sz (((es ++ s).take hi.toNat).drop lo.toNat) (some ((es ++ s).drop hi.toNat)))) m) →
        (sp = none → hi ≤ es.length ∧ K (.c (.sl sz ((es.take hi.toNat).drop lo.toNat) none)) m) → Did X S pl w m ((Instr.sliceAt t (.slice ad es.length cap) l' h' m').run P w) K := by
      intro hm lo hi h1 h2 h3 h4 hs hn
      have hm' : m' = none := by
        subst hm
        cases m' with
        | none => rfl
        | some _ => exact hmx.elim
      subst hm'
      cases hspc : sp with
      | none =>
        obtain ⟨h5, hK⟩ := hn hspc
        refine fin lo.toNat hi.toNat cap none (run_bounds2 true es.length cap l' h' lo hi h1 h2 h3 h4 (by omega)) (by omega) (by omega) (by omega) (by rw [hspc]; simp; omega) (by simp) (by rw [hspc]; simpa using hK)
      | some s =>
        obtain ⟨h5, hK⟩ := hs s hspc
        have hcs := hsp s hspc
        refine fin lo.toNat hi.toNat cap (some ((es ++ s).drop hi.toNat)) (run_bounds2 true es.length cap l' h' lo hi h1 h2 h3 h4 (by omega)) (by omega) (by omega) (by omega) (by rw [hspc]; simp; omega) (fun q hq => ?_) (by rw [hspc]; simpa using hK)
        injection hq with hq; subst hq
        rw [hspc]
        refine ⟨?_, by simp; omega⟩
        rw [List.take_of_length_le (by simp; omega)]; rfl
    have key3 : ∀ (lo hi c : Int) (k2 k3 : IntKind), ((l' = none ∧ lo = 0) ∨ ∃ k, l' = some (.int k lo)) → h' = some (.int k2 hi) → m' = some (.int k3 c) → 0 ≤ lo → lo ≤ hi → hi ≤ c → c ≤ es.length →
        K (.c (.sl sz ((es.take hi.toNat).drop lo.toNat) (some ((es.take c.toNat).drop hi.toNat)))) m → Did X S pl w m ((Instr.sliceAt t (.slice ad es.length cap) l' h' m').run P w) K := by
      intro lo hi c k2 k3 h1 h2 hm h3 h4 h5 h6 hK
      subst h2 hm
      refine fin lo.toNat hi.toNat c.toNat (some ((es.take c.toNat).drop hi.toNat)) (run_bounds3 true es.length cap l' k2 k3 lo hi c h1 h3 h4 h5 (by omega)) (by omega) (by omega) (by omega) (by simp; omega) (fun q hq => ?_) ?_
      · injection hq with hq; subst hq
        refine ⟨?_, by simp; omega⟩
        rw [← List.drop_take, List.take_append_of_le_length (by omega)]
      · rw [List.take_append_of_le_length (by omega)]; exact hK
    clear fin hxr ha
    have lok : ∃ lo' : Int, ((l' = none ∧ lo' = 0) ∨ ∃ k, l' = some (.int k lo')) ∧ (bnd es.length hi fun h => match (generalizing := false) mx with
        | none => 0 ≤ lo' ∧ lo' ≤ h ∧ match (generalizing := false) sp with
          | some sp => h ≤ es.length + sp.length ∧ K (.c (.sl sz (((es ++ sp).take h.toNat).drop lo'.toNat) (some ((es ++ sp).drop h.toNat)))) m
          | none => h ≤ es.length ∧ K (.c (.sl sz ((es.take h.toNat).drop lo'.toNat) none)) m
        | some mx => hi.isSome ∧ bnd 0 (some mx) fun c => 0 ≤ lo' ∧ lo' ≤ h ∧ h ≤ c ∧ c ≤ es.length ∧ K (.c (.sl sz ((es.take h.toNat).drop lo'.toNat) (some ((es.take c.toNat).drop h.toNat)))) m) := by
      rcases bnd_some hlo hk with ⟨_, e1, hk⟩ | ⟨k1, n1, e1, _, hk⟩
      · exact ⟨0, .inl ⟨e1, rfl⟩, hk⟩
      · exact ⟨n1, .inr ⟨_, e1⟩, hk⟩
    clear hk
    obtain ⟨lo', hlo', hk⟩ := lok
    cases hmxc : mx with
    | none =>
      subst hmxc
      rcases bnd_some hhi hk with ⟨e1, e2, hk⟩ | ⟨k2, n2, e2, _, hk⟩
      · exact key2 rfl lo' _ hlo' (.inl ⟨e2, rfl⟩) hk.1 hk.2.1 (fun s hs => by subst hs; exact hk.2.2) (fun hs => by subst hs; exact hk.2.2)
      · exact key2 rfl lo' _ hlo' (.inr ⟨_, e2⟩) hk.1 hk.2.1 (fun s hs => by subst hs; exact hk.2.2) (fun hs => by subst hs; exact hk.2.2)
    | some mxv =>
      subst hmxc
      rcases bnd_some hhi hk with ⟨e1, e2, hk⟩ | ⟨k2, n2, e2, _, hk⟩
      · subst e1; exact absurd hk.1 (by simp)
      · rcases bnd_some hmx hk.2 with ⟨q, _, _⟩ | ⟨k3, n3, e3, _, hk⟩
        · simp at q
        · exact key3 lo' _ _ _ _ hlo' e2 e3 hk.1 hk.2.1 hk.2.2.1 hk.2.2.2.1 hk.2.2.2.2
  · rename_i esz ea eb u8 id ver n hk2
    obtain ⟨e, hu, hsz, _, hkn, hpos, _⟩ := sl_under hT hk2
    split at hk
    · rename_i v sz es cap pub hg
      obtain ⟨rfl, rfl, hne, hmn, hk⟩ := hk
      have hxr := hx
      cases hx with | t _ _ _ b capn hv hn hx =>
      obtain ⟨sz', es', cap', pub', e', heq, _, hb, hs⟩ := hx _ hg rfl
      injection heq with _ q1 q2 q3 q4; subst q1 q2 q3 q4
      have hm' : m' = none := by
        cases mx with
        | some _ => simp at hmn
        | none => cases m' with
          | none => rfl
          | some _ => exact hmx.elim
      subst hm'
      obtain ⟨_, _, _, _, ⟨e3, capn3, hs3, hle3, hcap3⟩, _⟩ := h.inv.ob id _ hg
      have hcc : capn3 = capn := by
        rw [← hb] at hs3; rw [hs] at hs3; injection hs3 with hs3; injection hs3 with _ hs3
        exact (Nat.eq_of_mul_eq_mul_right hpos hs3).symm
      subst hcc
      have run : ∀ (lo hi : Int), ((l' = none ∧ lo = 0) ∨ ∃ k, l' = some (.int k lo)) → ((h' = none ∧ hi = n) ∨ ∃ k, h' = some (.int k hi)) → 0 ≤ lo → lo ≤ hi → hi ≤ capn3 →
          (Instr.sliceAt t (.slice (some ⟨b, 0, none⟩) n capn3) l' h' none).run P w = .ok (.slice (if capn3 = lo.toNat then some ⟨b, 0, none⟩ else (some (⟨b, 0, none⟩ : Addr)).map (·.add (lo.toNat * sz))) (hi.toNat - lo.toNat) (capn3 - lo.toNat)) w := by
        intro lo hi h1 h2 h3 h4 h5
        unfold Instr.sliceAt
        simp only [Sem.run_bind, run_underlying hu, Result.andThen_ok, Instr.slice, run_bounds2 true n capn3 l' h' lo hi h1 h2 h3 h4 h5, run_size_of hkn, Sem.run_pure, hsz]
      have hhi' : ∃ hi' : Int, ((h' = none ∧ hi' = n) ∨ ∃ k, h' = some (.int k hi')) ∧ (match (generalizing := false) lo with
          | none => 0 ≤ hi' ∧ (hi' ≤ n ∨ cap.isSome ∧ hi' ≤ es.length) ∧ K (.t id v hi'.toNat) m
          | some _ => bnd 0 lo fun l => 0 ≤ l ∧ l ≤ hi' ∧ hi' ≤ n ∧ K (.c (.sl sz ((es.take hi'.toNat).drop l.toNat) none)) (m.upd id (.arr v sz es cap true))) := by
        rcases bnd_some hhi hk with ⟨_, e1, hk⟩ | ⟨k1, n1, e1, _, hk⟩
        · exact ⟨n, .inl ⟨e1, rfl⟩, hk⟩
        · exact ⟨n1, .inr ⟨_, e1⟩, hk⟩
      clear hk
      obtain ⟨hi', hh', hk⟩ := hhi'
      cases hloc : lo with
      | none =>
        subst hloc
        have hl' : l' = none := by cases l' with | none => rfl | some _ => exact hlo.elim
        obtain ⟨h0, h1, hK⟩ := hk
        have hle : hi' ≤ es.length := by omega
        rw [run 0 hi' (.inl ⟨hl', rfl⟩) hh' (Int.le_refl 0) h0 (by omega)]
        refine Did.same h hK ?_
        have : (if capn3 = (0 : Int).toNat then some (⟨b, 0, none⟩ : Addr) else (some (⟨b, 0, none⟩ : Addr)).map (·.add ((0 : Int).toNat * sz))) = some ⟨b, 0, none⟩ := by
          split
          · rfl
          · simp [Addr.add]
        rw [this]
        exact .t id v _ b capn3 hv (by omega) (fun ob hob he => by
          rw [hg] at hob; injection hob with hob; subst hob
          exact ⟨_, _, _, _, _, rfl, by omega, hb, hs⟩)
      | some lov =>
        subst hloc
        have hlo' : ∃ lo' : Int, (∃ k, l' = some (.int k lo')) ∧ (0 ≤ lo' ∧ lo' ≤ hi' ∧ hi' ≤ n ∧ K (.c (.sl sz ((es.take hi'.toNat).drop lo'.toNat) none)) (m.upd id (.arr v sz es cap true))) := by
          rcases bnd_some hlo hk with ⟨q, _, _⟩ | ⟨k3, n3, e3, _, hk⟩
          · simp at q
          · exact ⟨n3, ⟨_, e3⟩, hk⟩
        obtain ⟨lo', ⟨k3, e3⟩, h3, h4, h5, hK⟩ := hlo'
        rw [run lo' hi' (.inr ⟨_, e3⟩) hh' h3 h4 (by omega)]
        obtain ⟨hst, hkp⟩ := h.pub hg
        have hok := (hst.inv.ob id _ (by rw [get_upd, if_pos rfl])).2
        have hrel := RelC.of_arr hok hne (by rw [← hb]; exact hs)
        have hrel2 := hrel.cut (l := lo'.toNat) (h := hi'.toNat) (c := capn3) none (by omega) (by omega) (by rw [List.length_append, List.length_take]; omega) (by simp)
        rw [List.take_append_of_le_length (by rw [List.length_take]; omega), List.take_take, Nat.min_eq_left (by omega)] at hrel2
        rw [hb]
        exact ⟨_, w, _, pl, _, _, rfl, hK, .c _ _ hrel2, hst, hkp⟩
    · exact hk.elim
  · exact hk.elim
end
end Go.Proofs.Ythncmjlcmlmnmaa.V

