/- Operations that compute without memory, or read it: the abstract execution is sound for the model's. Conditions: none. -/
import Derived.Test.YthncmjlcmlmnmaaRT1
import Derived.Laws.StructEq
import Derived.ChangeKeysEq
import GoSem.Dispatch
import Derived.IntWalk
namespace Go.Proofs.Ythncmjlcmlmnmaa.V
open Go Go.RowKit
def Did (X : Ctx) (S : Area) (pl : Place) (w : World) (m : Mem) (r : Result Value) (K : KK) : Prop :=
 ∃ u w' S' pl' v m', r = .ok u w' ∧ K v m' ∧ RelV S' pl' w' m' v u ∧ St X S' pl' w' m' ∧ Keeps S S' pl pl' w w' m m'
section
variable {P : Program} {T : Tab} {X : Ctx} {S : Area} {pl : Place} {w : World} {m : Mem} {K : KK}
theorem Did.same (h : St X S pl w m) {u : Value} {v : AV} (hk : K v m) (hr : RelV S pl w m v u) : Did X S pl w m (.ok u w) K :=
 ⟨u, w, S, pl, v, m, rfl, hk, hr, h, Keeps.refl _ _ _ _⟩
theorem Did.lit (h : St X S pl w m) {u : Value} (hs : z9r u = true) (hk : K (.c (.v u)) m) : Did X S pl w m (.ok u w) K := Did.same h hk (.c _ _ (.v u hs))
theorem z0z {x u : Value} (h : RelV S pl w m (.c (.v x)) u) : u = x := by cases h with | c _ _ h => cases h with | v _ _ => rfl
theorem z9v (op : BinOp) (t : TypeId) (a b : Value) {Q : Value → Prop} (h : sBin op a b Q) : ∃ r, (binOp op t a b).run P w = .ok r w ∧ z9r r = true ∧ Q r := by
 cases a <;> cases b <;> simp only [sBin] at h <;> try exact h.elim
 case int.int k x k' y =>
  cases op <;> simp only at h
  case shl =>
   obtain ⟨h0, hq⟩ := h
   refine ⟨_, ?_, rfl, hq⟩
   simp only [binOp, Op.shift]; rw [if_neg (by omega)]; rfl
  case shr =>
   obtain ⟨h0, hq⟩ := h
   refine ⟨_, ?_, rfl, hq⟩
   simp only [binOp, Op.shift]; rw [if_neg (by omega)]; rfl
  case quo =>
   obtain ⟨rfl, h0, hq⟩ := h
   refine ⟨_, ?_, rfl, hq⟩
   simp only [binOp, Op.intDiv, ne_eq, not_true_eq_false, if_false]; rw [if_neg h0]; rfl
  case rem =>
   obtain ⟨rfl, h0, hq⟩ := h
   refine ⟨_, ?_, rfl, hq⟩
   simp only [binOp, Op.intDiv, ne_eq, not_true_eq_false, if_false]; rw [if_neg h0]; rfl
  all_goals
   obtain ⟨rfl, hq⟩ := h
   refine ⟨_, ?_, rfl, hq⟩
   simp only [binOp, ne_eq, not_true_eq_false, if_false, Op.intArith, Op.intBits, Op.intCmp]; rfl
 case string.string x y =>
  cases op <;> simp only at h <;> try exact h.elim
  case add =>
   obtain ⟨h0, hq⟩ := h
   refine ⟨_, ?_, rfl, hq⟩
   simp only [binOp, Op.stringOp]; rw [if_neg (by omega)]; rfl
  all_goals
   refine ⟨_, ?_, rfl, h⟩
   simp only [binOp, Op.stringOp]; rfl
theorem z1v (op : BinOp) (t : TypeId) (x y : Operand) (a b : Value) (h : ¬ (a = .nilIface ∧ b = .nilIface)) (h' : ∀ c d, ¬ (a = .agg c ∧ b = .agg d)) :
  (eqGuard op t x y a b).run P w = .ok () w := by
 unfold eqGuard
 cases op <;> first | rfl | (cases a <;> cases b <;> first | rfl | exact absurd ⟨rfl, rfl⟩ h | exact absurd ⟨rfl, rfl⟩ (h' _ _))
theorem w3i (d : Nat) {t : TypeId} (ht : P.underlying t = some .bool) (a b : Bool) : (Op.equalIn (d + 1) t (.bool a) (.bool b)).run P w = .ok (a == b) w := by
 simp only [Op.equalIn, Sem.run_bind, run_underlying ht, Result.andThen_ok]; rfl
theorem w0k {t : TypeId} (ht : P.underlying t = some .bool) (a b : Bool) : (Op.equal t (.bool a) (.bool b)).run P w = .ok (a == b) w := w3i 9999 ht a b
theorem z9a (d : Nat) {t e : TypeId} (ht : P.underlying t = some (.pointer e)) (a b : Option Addr) (h : a = none ∨ b = none) : (Op.equalIn (d + 1) t (.pointer a) (.pointer b)).run P w = .ok (a.isNone && b.isNone) w := by
 simp only [Op.equalIn, Sem.run_bind, run_underlying ht, Result.andThen_ok]
 cases a with
 | none => rfl
 | some a => cases b with
  | none => rfl
  | some b => simp at h
theorem z6t {t e : TypeId} (ht : P.underlying t = some (.pointer e)) (a b : Option Addr) (h : a = none ∨ b = none) : (Op.equal t (.pointer a) (.pointer b)).run P w = .ok (a.isNone && b.isNone) w := z9a 9999 ht a b h
theorem w1c {x : AV} {u : Value} {b : Bool} (hx : isNil x = some b) (h : RelV S pl w m x u) : ∃ a, u = .pointer a ∧ a.isNone = b := by
 unfold isNil at hx
 split at hx <;> first | (simp at hx; done) | (injection hx with hx; subst hx)
 ·exact ⟨none, z0z h, rfl⟩
 ·cases h with | c _ _ h => cases h; exact ⟨_, rfl, rfl⟩
 ·cases h; exact ⟨_, rfl, rfl⟩
 ·cases h; exact ⟨_, rfl, rfl⟩
theorem w7v (hT : TabOk P T) (h : St X S pl w m) (op : BinOp) (t : TypeId) (ox oy : Operand) {x y : AV} {a b : Value} (hx : RelV S pl w m x a) (hy : RelV S pl w m y b)
  (hk : binW op (T.at t).k m x y K) : Did X S pl w m ((do eqGuard op t ox oy a b; binOp op t a b : Sem Value).run P w) K := by
 unfold binW at hk
 split at hk
 ·have e1 := z0z hx; have e2 := z0z hy; subst e1 e2
  split at hk
  ·rename_i hk2
   have ht : P.underlying t = some .bool := by
    have := (hT.tk (t := t) (by rw [hk2]; rfl)).1
    rw [hk2] at this; simp only [tkOk] at this
    split at this <;> first | assumption | simp at this
   rw [Sem.run_bind, z1v _ t ox oy _ _ (by simp) (by simp)]; simp only [Sem.run_bind, Result.andThen_ok, binOp, w0k ht]
   exact Did.lit h rfl hk
  ·rename_i hk2
   have ht : P.underlying t = some .bool := by
    have := (hT.tk (t := t) (by rw [hk2]; rfl)).1
    rw [hk2] at this; simp only [tkOk] at this
    split at this <;> first | assumption | simp at this
   rw [Sem.run_bind, z1v _ t ox oy _ _ (by simp) (by simp)]; simp only [Sem.run_bind, Result.andThen_ok, binOp, w0k ht]
   exact Did.lit h rfl hk
  ·exact hk.elim
 ·have e1 := z0z hx; have e2 := z0z hy; subst e1 e2
  obtain ⟨r, hr, hs, hq⟩ := z9v (P := P) (w := w) op t _ _ hk
  rw [Sem.run_bind, z1v op t ox oy _ _ (by simp) (by simp), Result.andThen_ok, hr]
  exact Did.lit h hs hq
 ·have e1 := z0z hx; have e2 := z0z hy; subst e1 e2
  obtain ⟨r, hr, hs, hq⟩ := z9v (P := P) (w := w) op t _ _ hk
  rw [Sem.run_bind, z1v op t ox oy _ _ (by simp) (by simp), Result.andThen_ok, hr]
  exact Did.lit h hs hq
 ·split at hk
  ·rename_i k2 n1 n2
   obtain ⟨p, rfl, hp⟩ := w1c n1 hx
   obtain ⟨q, rfl, hq⟩ := w1c n2 hy
   have ht : ∃ e, P.underlying t = some (.pointer e) := by
    have := (hT.tk (t := t) (by rw [k2]; rfl)).1
    rw [k2] at this; simp only [tkOk] at this
    split at this <;> first | exact ⟨_, by assumption⟩ | simp at this
   obtain ⟨e, ht⟩ := ht
   have hor : p = none ∨ q = none := by
    rcases hk.1 with h1 | h1
    ·left; rw [h1] at hp; cases p <;> simp_all
    ·right; rw [h1] at hq; cases q <;> simp_all
   rw [Sem.run_bind, z1v _ t ox oy _ _ (by simp) (by simp), Result.andThen_ok]
   have : (binOp .eql t (.pointer p) (.pointer q)).run P w = .ok (.bool (p.isNone && q.isNone)) w := by
    simp only [binOp, Sem.run_bind, z6t ht p q hor, Result.andThen_ok]; rfl
   rw [this, hp, hq]
   exact Did.lit h rfl hk.2
  ·rename_i k2 n1 n2
   obtain ⟨p, rfl, hp⟩ := w1c n1 hx
   obtain ⟨q, rfl, hq⟩ := w1c n2 hy
   have ht : ∃ e, P.underlying t = some (.pointer e) := by
    have := (hT.tk (t := t) (by rw [k2]; rfl)).1
    rw [k2] at this; simp only [tkOk] at this
    split at this <;> first | exact ⟨_, by assumption⟩ | simp at this
   obtain ⟨e, ht⟩ := ht
   have hor : p = none ∨ q = none := by
    rcases hk.1 with h1 | h1
    ·left; rw [h1] at hp; cases p <;> simp_all
    ·right; rw [h1] at hq; cases q <;> simp_all
   rw [Sem.run_bind, z1v _ t ox oy _ _ (by simp) (by simp), Result.andThen_ok]
   have : (binOp .neq t (.pointer p) (.pointer q)).run P w = .ok (.bool !(p.isNone && q.isNone)) w := by
    simp only [binOp, Sem.run_bind, z6t ht p q hor, Result.andThen_ok]; rfl
   rw [this, hp, hq]
   exact Did.lit h rfl hk.2
  ·exact hk.elim
theorem cell_eq {d : Nat} {e : TypeId} {c : Nat} {x y : AV} {u v : Value} {r : Bool} (hs : scalC P e c = true) (hx : RelV S pl w m x u) (hy : RelV S pl w m y v) (h : w0m c x y = some r) :
  P.plainKey e = true ∧ (Op.equalIn (d + 1) e u v).run P w = .ok r w := by
 unfold scalC at hs
 split at hs
 ·rename_i k hu
  unfold w0m at h
  split at h <;> first | (rename_i hq; simp at hq; done) | skip
  ·have e1 := z0z hx; have e2 := z0z hy; subst e1 e2
   split at h
   ·injection h with h; subst h; rename_i hk; subst hk
    exact ⟨by unfold Program.plainKey; rw [hu], run_equalIn_int w d e _ k _ _ hu⟩
   ·simp at h
  all_goals simp_all
 ·rename_i hu
  unfold w0m at h
  split at h <;> first | (simp at h; done) | skip
  all_goals first
   | (have e1 := z0z hx; have e2 := z0z hy; subst e1 e2; injection h with h; subst h; exact ⟨by unfold Program.plainKey; rw [hu], run_equalIn_bool' w d e _ _ hu⟩)
   | simp_all
 ·rename_i hu
  unfold w0m at h
  split at h <;> first | (simp at h; done) | skip
  all_goals first
   | (have e1 := z0z hx; have e2 := z0z hy; subst e1 e2; injection h with h; subst h; exact ⟨by unfold Program.plainKey; rw [hu], run_equalIn_string w d e _ _ hu⟩)
   | simp_all
 ·simp at hs
theorem w6n {d : Nat} {us vs : Array Value} : ∀ (cs : List Nat) (fs : List Field) (i : Nat) (xs ys : List AV) {r : Bool}, w0i P i fs cs = true → z2b cs xs ys = some r →
  (∀ (j : Nat) x, xs[j]? = some x → ∃ u, us[i + j]? = some u ∧ RelV S pl w m x u) → (∀ (j : Nat) x, ys[j]? = some x → ∃ u, vs[i + j]? = some u ∧ RelV S pl w m x u) →
  (Op.eqFields (d + 1) us vs fs).run P w = .ok r w
 | [], [], i, [], [], r, _, h, _, _ => by simp [z2b] at h; subst h; rfl
 | [], [], i, [], _ :: _, r, _, h, _, _ => by simp [z2b] at h
 | [], [], i, _ :: _, _, r, _, h, _, _ => by simp [z2b] at h
 | [], _ :: _, i, _, _, r, hf, _, _, _ => by simp [w0i] at hf
 | _ :: _, [], i, _, _, r, hf, _, _, _ => by simp [w0i] at hf
 | _ :: _, _ :: _, i, [], _, r, _, h, _, _ => by simp [z2b] at h
 | _ :: _, _ :: _, i, _ :: _, [], r, _, h, _, _ => by simp [z2b] at h
 | c :: cs, f :: fs, i, x :: xs, y :: ys, r, hf, h, hx, hy => by
  simp only [w0i, Bool.and_eq_true, bne_iff_ne, ne_eq, beq_iff_eq] at hf
  obtain ⟨⟨⟨hn, ho⟩, hs⟩, hf⟩ := hf
  simp only [z2b] at h
  split at h
  ·rename_i a b ha hb
   injection h with h; subst h
   obtain ⟨u, hu, ru⟩ := hx 0 x rfl
   obtain ⟨v, hv, rv⟩ := hy 0 y rfl
   obtain ⟨hp, he⟩ := cell_eq (d := d) hs ru rv ha
   have p1 := run_part_plain (P := P) w hp (xs := us) (off := f.offset) (by rw [ho]; simpa using hu)
   have p2 := run_part_plain (P := P) w hp (xs := vs) (off := f.offset) (by rw [ho]; simpa using hv)
   have ih := w6n (d := d) cs fs (i + 1) xs ys hf hb (fun j x hj => by have := hx (j + 1) x (by simpa using hj); rwa [show i + (j + 1) = i + 1 + j by omega] at this) (fun j x hj => by have := hy (j + 1) x (by simpa using hj); rwa [show i + (j + 1) = i + 1 + j by omega] at this)
   rw [Op.eqFields]
   simp only [if_pos hn, Sem.run_bind, p1, p2, he, Result.andThen_ok]
   cases a
   ·simp
   ·simpa using ih
  ·simp at h
theorem k0g (hT : TabOk P T) (h : St X S pl w m) (op : BinOp) (t : TypeId) (ox oy : Operand) {xs ys : List AV} {a b : Value} (hx : RelV S pl w m (.agg xs) a) (hy : RelV S pl w m (.agg ys) b)
  (hk : eqW op (T.at t) m xs ys K) : Did X S pl w m ((do eqGuard op t ox oy a b; binOp op t a b : Sem Value).run P w) K := by
 cases hx with | agg _ us hl hx =>
 cases hy with | agg _ vs hl' hy =>
 unfold eqW at hk
 split at hk
 ·rename_i fs c cs hst heq
  have hti := hT t (.inr (by rw [hst]; rfl))
  unfold tiOk at hti
  simp only [Bool.and_eq_true] at hti
  have he := hti.2
  rw [heq] at he
  unfold eqOk at he
  simp only [Bool.and_eq_true, Bool.not_eq_true'] at he
  obtain ⟨hg, he⟩ := he
  split at he
  ·rename_i fields hu
   simp only [Bool.and_eq_true, Bool.not_eq_true'] at he
   obtain ⟨hsi, hfl⟩ := he
   have run : ∀ r, z2b (c :: cs) xs ys = some r → (Op.equal t (.agg us.toArray) (.agg vs.toArray)).run P w = .ok r w := fun r hr => by
    have hf : P.fieldsOf t = fields := by simp [Program.fieldsOf, hu]
    show (Op.equalIn (9999 + 1) t _ _).run P w = _
    rw [run_equalIn_struct (P := P) w 9999 t _ _ (by rw [hf]; exact hu) hsi, hf]
    refine w6n (S := S) (pl := pl) (m := m) (d := 9998) (c :: cs) fields.toList 0 xs ys hfl hr (fun j x hj => ?_) (fun j x hj => ?_)
    ·have hlt := (List.getElem?_eq_some_iff.1 hj).1
     have : us[j]? = some us[j] := List.getElem?_eq_getElem (by omega)
     exact ⟨us[j], by simp, hx j x _ hj this⟩
    ·have hlt := (List.getElem?_eq_some_iff.1 hj).1
     have : vs[j]? = some vs[j] := List.getElem?_eq_getElem (by omega)
     exact ⟨vs[j], by simp, hy j x _ hj this⟩
   have guard : ∀ op, (eqGuard op t ox oy (.agg us.toArray) (.agg vs.toArray)).run P w = .ok () w := fun op => by
    unfold eqGuard
    cases op <;> first
     | rfl
     | (simp [Sem.run_bind, run_program, hg])
   split at hk
   ·rename_i r hr
    rw [Sem.run_bind, guard, Result.andThen_ok]
    have : (binOp .eql t (.agg us.toArray) (.agg vs.toArray)).run P w = .ok (.bool r) w := by
     simp only [binOp, Sem.run_bind, run r hr, Result.andThen_ok]; rfl
    rw [this]
    exact Did.lit h rfl hk
   ·rename_i r hr
    rw [Sem.run_bind, guard, Result.andThen_ok]
    have : (binOp .neq t (.agg us.toArray) (.agg vs.toArray)).run P w = .ok (.bool !r) w := by
     simp only [binOp, Sem.run_bind, run r hr, Result.andThen_ok]; rfl
    rw [this]
    exact Did.lit h rfl hk
   ·exact hk.elim
  ·simp at he
 ·exact hk.elim
theorem w8a (h : St X S pl w m) (op : UnOp) {x : AV} {a : Value} (hx : RelV S pl w m x a) (hk : unW op m x K) : Did X S pl w m ((Op.unary op a).run P w) K := by
 unfold unW at hk
 split at hk <;> first | exact hk.elim | (have e1 := z0z hx; subst e1; exact Did.lit h rfl hk)
theorem z7w (h : St X S pl w m) {s f : Nat} {fs : List (Nat × Nat × Bool)} (hT : TabOk P T) (hs : (T.at s).k = .st fs) {off n : Nat} {ea : Bool} (hf : fs[f]? = some (off, n + 1, ea))
  {x : AV} {a : Value} (hx : RelV S pl w m x a) (hk : z1l off m x K) : Did X S pl w m ((Instr.fieldAt s a f).run P w) K := by
 have ht := (hT.tk (t := s) (by rw [hs]; rfl)).1
 rw [hs] at ht; simp only [tkOk] at ht
 split at ht
 ·rename_i fields hu
  simp only [Bool.and_eq_true, beq_iff_eq, List.all_eq_true] at ht
  obtain ⟨hmap, hall⟩ := ht
  have hfi : (fields.toList.map (z8b P))[f]? = some (off, n + 1, ea) := by rw [hmap]; exact hf
  rw [List.getElem?_map] at hfi
  cases hfl : fields.toList[f]? with
  | none => rw [hfl] at hfi; simp at hfi
  | some fd =>
   rw [hfl] at hfi
   simp only [Option.map_some, Option.some.injEq, z8b, Prod.mk.injEq] at hfi
   obtain ⟨h1, h2, h3⟩ := hfi
   have hfa : fields[f]? = some fd := by rw [← Array.getElem?_toList]; exact hfl
   have hkn := hall fd (List.mem_of_getElem? hfl)
   have run : ∀ ad : Addr, (Instr.fieldAt s (.pointer (some ad)) f).run P w = .ok (.pointer (some (ad.add off))) w := by
    intro ad
    unfold Instr.fieldAt
    simp only [Sem.run_bind, run_underlying hu, Result.andThen_ok, hfa, Instr.sureAddr, Sem.run_pure, fieldPlace, z0t hkn]
    rw [if_neg (by omega), h1]
    rfl
   have hadd : ∀ b o : Nat, (⟨b, o, none⟩ : Addr).add off = ⟨b, o + off, none⟩ := fun b o => by unfold Addr.add; split <;> simp_all
   unfold z1l at hk
   split at hk
   ·cases hx with | p id ver off' b o hv hx =>
    rw [run, hadd, Nat.add_assoc]
    exact Did.same h hk (.p _ _ _ _ _ hv hx)
   ·cases hx with | c _ _ hx =>
    cases hx with | rp cs b o g hS hc hr =>
    rw [run, hadd]
    refine Did.same h hk (.c _ _ (.rp _ b (o + off) (fun i => g (off + i)) (fun i hi => ?_) (fun i hi => ?_) (fun i x hx => ?_)))
    ·rw [List.length_drop] at hi; have := hS (off + i) (by omega); rwa [← Nat.add_assoc] at this
    ·rw [List.length_drop] at hi; have := hc (off + i) (by omega); rwa [← Nat.add_assoc] at this
    ·rw [List.getElem?_drop] at hx; exact hr _ x hx
   ·cases hx with | tp id ver i off' b o hv hx =>
    rw [run, hadd, Nat.add_assoc]
    exact Did.same h hk (.tp _ _ _ _ _ _ hv hx)
   ·exact hk.elim
 ·simp at ht
theorem z8p (o : Oper) (y : Operand) (ρ : Operand → Value) (ho : o.op = .nilCheck y) {x : AV} (hx : RelV S pl w m x (ρ y)) (hk : z1p m x K) :
  ∃ u v, (execOp ρ o).run P w = .ok (.value u) w ∧ K v m ∧ RelV S pl w m v u := by
 have run : ∀ u, ρ y = u → (∀ b, u ≠ .pointer none → u ≠ .nilIface → u ≠ .nilFunc → (∀ n f c, u ≠ .func (.method n) f c) → b = u → (execOp ρ o).run P w = .ok (.value b) w) := by
  intro u hu b h1 h2 h3 h4 hb
  subst hb
  unfold execOp
  rw [ho]
  simp only [hu]
  cases b with
  | pointer a => cases a with | none => exact absurd rfl h1 | some a => rfl
  | func f c d => cases f <;> first | rfl | exact absurd rfl (h4 _ _ _)
  | nilIface => exact absurd rfl h2
  | nilFunc => exact absurd rfl h3
  | _ => rfl
 generalize hu : ρ y = u at hx
 unfold z1p at hk
 split at hk
 ·cases hx with | p id ver o b q hv hx => exact ⟨_, _, run _ hu _ (by simp) (by simp) (by simp) (by simp) rfl, hk, .p _ _ _ _ _ hv hx⟩
 ·cases hx with | c _ _ hx =>
  cases hx with | rp cs b q g hS hc hr => exact ⟨_, _, run _ hu _ (by simp) (by simp) (by simp) (by simp) rfl, hk, .c _ _ (.rp _ b q g hS hc hr)⟩
 ·cases hx with | tp id ver i o b q hv hx => exact ⟨_, _, run _ hu _ (by simp) (by simp) (by simp) (by simp) rfl, hk, .tp _ _ _ _ _ _ hv hx⟩
 ·rename_i f c d
  have e1 := z0z hx; subst e1
  cases f <;> first | (simp at hk; done) | skip
  exact ⟨_, _, run _ hu _ (by simp) (by simp) (by simp) (by simp) rfl, hk.2, hx⟩
 ·exact hk.elim
theorem z8i {t : TypeId} (hkn : known P t = true) (b o : Nat) (f : Nat → Value) (hc : ∀ j, j < (if aggB P t then P.cellsOf t else 1) → z0p w b (o + j) = some (f j)) :
  (loadVar t ⟨b, o, none⟩).run P w = .ok (if aggB P t then .agg ((List.range (P.cellsOf t)).map f).toArray else f 0) w := by
 have hadd : ∀ j, (⟨b, o, none⟩ : Addr).add j = ⟨b, o + j, none⟩ := fun j => by unfold Addr.add; split <;> simp_all
 unfold loadVar
 simp only [Sem.run_bind, z9x hkn, Result.andThen_ok]
 cases hag : aggB P t with
 | true =>
  rw [hag] at hc
  simp only [if_true, Sem.run_bind, z0t hkn, Result.andThen_ok]
  rw [run_loadCells w ⟨b, o, none⟩ (P.cellsOf t) f (fun j hj => by rw [hadd]; exact hc j (by simpa using hj))]
  rfl
 | false =>
  rw [hag] at hc
  have h0 := hc 0 (by simp)
  simp only [Nat.add_zero] at h0
  simp only [Bool.false_eq_true, if_false, run_load]
  rw [show w.cell? ⟨b, o, none⟩ = some (f 0) from h0]
theorem w2a {K : AV → Prop} {agg : Bool} {s : Nat} {cs : List AV} {f : Nat → Value} (hr : ∀ (j : Nat) x, cs[j]? = some x → RelV S pl w m x (f j)) (hk : readA agg s cs K) :
  (if agg then s else 1) ≤ cs.length ∧ ∃ y, K y ∧ RelV S pl w m y (if agg then .agg ((List.range s).map f).toArray else f 0) := by
 unfold readA at hk
 cases agg with
 | true =>
  simp only [if_true] at hk ⊢
  refine ⟨hk.1, _, hk.2, .agg _ _ (by simp; omega) (fun i x u hx hu => ?_)⟩
  have hi : i < s := by have := (List.getElem?_eq_some_iff.1 hx).1; rw [List.length_take] at this; omega
  rw [List.getElem?_take_of_lt hi] at hx
  rw [List.getElem?_map, List.getElem?_range hi] at hu
  simp only [Option.map_some, Option.some.injEq] at hu
  subst hu; exact hr i x hx
 | false =>
  simp only [Bool.false_eq_true, if_false] at hk ⊢
  cases cs with
  | nil => exact hk.elim
  | cons x r => exact ⟨by simp, x, hk, hr 0 x rfl⟩
theorem z7m (hT : TabOk P T) (h : St X S pl w m) {t s : Nat} (hs : (T.at t).size = s + 1) {x : AV} {a : Value} (hx : RelV S pl w m x a) (hk : loadW (T.at t).agg (s + 1) m x K) :
  ∃ u y, (Instr.loadAt t a).run P w = .ok u w ∧ K y m ∧ RelV S pl w m y u := by
 obtain ⟨hkn, hsz, hag, _⟩ := hT.ti (t := t) (by rw [hs]; omega)
 rw [hs] at hsz
 have run : ∀ (b o : Nat) (cs : List AV) (f : Nat → Value), (∀ (j : Nat) x, cs[j]? = some x → RelV S pl w m x (f j)) → (∀ j, j < cs.length → z0p w b (o + j) = some (f j)) → readA (T.at t).agg (s + 1) cs (fun y => K y m) →
   ∃ u y, (Instr.loadAt t (.pointer (some ⟨b, o, none⟩))).run P w = .ok u w ∧ K y m ∧ RelV S pl w m y u := by
  intro b o cs f hr hc hk
  obtain ⟨hle, y, hy, hrel⟩ := w2a hr hk
  have := z8i (w := w) hkn b o f (fun j hj => hc j (by rw [hag, hsz] at hj; omega))
  unfold Instr.loadAt
  simp only [Sem.run_bind, Instr.sureAddr, Sem.run_pure, Result.andThen_ok, this]
  rw [hag, hsz]
  exact ⟨_, y, rfl, hy, hrel⟩
 unfold loadW at hk
 split at hk
 ·rename_i id ver o
  cases hx with | p _ _ _ b q hv hx =>
  split at hk
  ·rename_i v cs hg
   obtain ⟨rfl, hk⟩ := hk
   obtain ⟨_, hb⟩ := hx _ hg rfl
   obtain ⟨hv', h1, h2, hf⟩ := h.inv.ob id _ hg
   have hch : ∃ f : Nat → Value, ∀ (j : Nat) x, cs[j]? = some x → z0p w (pl id).1 ((pl id).2 + j) = some (f j) ∧ RelV S pl w m x (f j) := by
    refine ⟨fun j => (z0p w (pl id).1 ((pl id).2 + j)).getD undef, fun j x hx => ?_⟩
    obtain ⟨u, hu, hr⟩ := hf j x hx
    dsimp only
    rw [hu]; exact ⟨rfl, hr⟩
   obtain ⟨f, hf⟩ := hch
   refine run b (q + o) (cs.drop o) (fun j => f (o + j)) (fun j x hx => ?_) (fun j hj => ?_) hk
   ·rw [List.getElem?_drop] at hx; exact (hf _ x hx).2
   ·rw [List.length_drop] at hj
    have := (hf (o + j) _ (List.getElem?_eq_getElem (by omega))).1
    rw [← hb] at this
    rw [Nat.add_assoc]; exact this
  ·exact hk.elim
 ·rename_i cs
  cases hx with | c _ _ hx =>
  cases hx with | rp _ b q g hS hc hr =>
  refine run b q (cs.map .c) g (fun j x hx => ?_) (fun j hj => hc j (by simpa using hj)) hk
  rw [List.getElem?_map] at hx
  cases hcj : cs[j]? with
  | none => rw [hcj] at hx; simp at hx
  | some y => rw [hcj] at hx; simp at hx; subst hx; exact .c _ _ (hr j y hcj)
 ·rename_i id ver i o
  cases hx with | tp _ _ _ _ b q hv hx =>
  split at hk
  ·rename_i v sz es cap pub hg
   obtain ⟨rfl, hi, hk⟩ := hk
   obtain ⟨sz', es', cap', pub', heq, _, hb, hq⟩ := hx _ hg rfl
   injection heq with _ e1 e2 _ _; subst e1 e2 hb hq
   obtain ⟨hv', h0, h1, h2, h3, ⟨hl, f, hc, hr⟩, hp⟩ := h.inv.ob id _ hg
   have he : es[i]? = some es[i] := List.getElem?_eq_getElem hi
   have hd : es.getD i [] = es[i] := by simp [List.getD, he]
   have hlen := hl i _ he
   rw [hd] at hk
   refine run _ (i * sz + o) (((es[i]).drop o).map .c) (fun j => f (i * sz + (o + j))) (fun j x hx => ?_) (fun j hj => ?_) hk
   ·rw [List.getElem?_map, List.getElem?_drop] at hx
    cases hcj : es[i][o + j]? with
    | none => rw [hcj] at hx; simp at hx
    | some y => rw [hcj] at hx; simp at hx; subst hx; exact .c _ _ (hr i _ _ y he hcj)
   ·rw [List.length_map, List.length_drop] at hj
    have hlt : i * sz + (o + j) < es.length * sz := by
     have : (i + 1) * sz ≤ es.length * sz := Nat.mul_le_mul_right sz hi
     rw [Nat.add_mul] at this; omega
    rw [Nat.add_assoc]; exact hc _ hlt
  ·exact hk.elim
 ·exact hk.elim
theorem w4o (hT : TabOk P T) (h : St X S pl w m) {t s : Nat} (hs : (T.at t).size = s + 1) {x : AV} {a : Value} (hx : RelV S pl w m x a) (hk : loadW (T.at t).agg (s + 1) m x K) :
  Did X S pl w m ((Instr.loadAt t a).run P w) K := by
 obtain ⟨u, y, h1, h2, h3⟩ := z7m hT h hs hx hk
 rw [h1]; exact Did.same h h2 h3
end
end Go.Proofs.Ythncmjlcmlmnmaa.V
namespace Go.Proofs.Ythncmjlcmlmnmaa.V
open Go Go.RowKit
section
variable {P : Program} {T : Tab} {X : Ctx} {S : Area} {pl : Place} {w : World} {m : Mem} {K : KK}
theorem w0b {t : TypeId} (hkn : known P t = true) {cs : List AV} {us : List Value} (hl : us.length = cs.length) (hr : ∀ (i : Nat) x u, cs[i]? = some x → us[i]? = some u → RelV S pl w m x u) (off : Nat)
  {K : AV → Prop} (hk : readA (aggB P t) (P.cellsOf t) (cs.drop off) K) : ∃ u y, (part t us.toArray off).run P w = .ok u w ∧ K y ∧ RelV S pl w m y u := by
 have hr' : ∀ (j : Nat) x, (cs.drop off)[j]? = some x → RelV S pl w m x (us.getD (off + j) undef) := fun j x hx => by
  rw [List.getElem?_drop] at hx
  have hj : off + j < cs.length := (List.getElem?_eq_some_iff.1 hx).1
  have hu : us[off + j]? = some us[off + j] := List.getElem?_eq_getElem (by omega)
  have := hr _ x _ hx hu
  simpa [List.getD, hu] using this
 obtain ⟨hle, y, hy, hrel⟩ := w2a hr' hk
 rw [List.length_drop] at hle
 unfold part
 simp only [Sem.run_bind, z9x hkn, Result.andThen_ok]
 cases hag : aggB P t with
 | true =>
  rw [hag] at hrel hle
  simp only [if_true] at hrel hle
  simp only [if_true, Sem.run_bind, z0t hkn, Result.andThen_ok, Sem.run_pure]
  refine ⟨_, y, rfl, hy, ?_⟩
  have : us.toArray.extract off (off + P.cellsOf t) = ((List.range (P.cellsOf t)).map fun j => us.getD (off + j) undef).toArray := by
   apply Array.ext'
   rw [Array.toList_extract]
   simp only [List.extract, Nat.add_sub_cancel_left]
   apply List.ext_getElem?
   intro j
   by_cases hj : j < P.cellsOf t
   ·rw [List.getElem?_take_of_lt hj, List.getElem?_drop, List.getElem?_map, List.getElem?_range hj]
    have hu : us[off + j]? = some us[off + j] := List.getElem?_eq_getElem (by omega)
    simp [List.getD, hu]
   ·rw [List.getElem?_eq_none (by rw [List.length_take]; omega), List.getElem?_eq_none (by simp; omega)]
  rw [this]; exact hrel
 | false =>
  rw [hag] at hrel hle
  simp only [Bool.false_eq_true, if_false] at hrel hle ⊢
  have hu : us[off]? = some us[off] := List.getElem?_eq_getElem (by omega)
  rw [show us.toArray[off]? = some us[off] by simp]
  refine ⟨_, y, rfl, hy, ?_⟩
  simpa [List.getD, hu] using hrel
theorem w3d (hT : TabOk P T) (h : St X S pl w m) {t f : Nat} {fs : List (Nat × Nat × Bool)} (hs : (T.at t).k = .st fs) {fd : Nat × Nat × Bool} (hf : fs[f]? = some fd) {x : AV} {a : Value} (hx : RelV S pl w m x a)
  (hk : z7o fd m x K) : Did X S pl w m ((Instr.field t a f).run P w) K := by
 have ht := (hT.tk (t := t) (by rw [hs]; rfl)).1
 rw [hs] at ht; simp only [tkOk] at ht
 split at ht
 ·rename_i fields hu
  simp only [Bool.and_eq_true, beq_iff_eq, List.all_eq_true] at ht
  obtain ⟨hmap, hall⟩ := ht
  have hfi : (fields.toList.map (z8b P))[f]? = some fd := by rw [hmap]; exact hf
  rw [List.getElem?_map] at hfi
  cases hfl : fields.toList[f]? with
  | none => rw [hfl] at hfi; simp at hfi
  | some g =>
   rw [hfl] at hfi
   simp only [Option.map_some, Option.some.injEq] at hfi
   subst hfi
   have hfa : fields[f]? = some g := by rw [← Array.getElem?_toList]; exact hfl
   unfold z7o at hk
   split at hk
   ·cases hx with | agg cs us hl hr =>
    obtain ⟨u, y, hrun, hy, hrel⟩ := w0b (hall g (List.mem_of_getElem? hfl)) hl hr g.offset hk
    unfold Instr.field
    simp only [Sem.run_bind, run_underlying hu, Result.andThen_ok, hfa, asAgg, Sem.run_pure, hrun]
    exact Did.same h hy hrel
   ·exact hk.elim
 ·simp at ht
theorem z9m (h : St X S pl w m) {i : Nat} {x : AV} {a : Value} (hx : RelV S pl w m x a) (hk : z3q i m x K) : Did X S pl w m ((Instr.extract a i).run P w) K := by
 unfold z3q at hk
 split at hk
 ·cases hx with | tup cs us hl hr =>
  split at hk
  ·rename_i y hy
   have hi : i < us.length := by rw [hl]; exact (List.getElem?_eq_some_iff.1 hy).1
   have hu : us[i]? = some us[i] := List.getElem?_eq_getElem hi
   unfold Instr.extract
   simp only [show us.toArray[i]? = some us[i] by simp, Sem.run_pure]
   exact Did.same h hk (hr i y _ hy hu)
  ·exact hk.elim
 ·exact hk.elim
theorem z1h (hT : TabOk P T) {t esz eb : Nat} {ea u8 : Bool} (hs : (T.at t).k = .sl esz ea eb u8) : ∃ e, P.underlying t = some (.slice e) ∧ P.cellsOf e = esz ∧ P.bytesOf e = eb ∧ known P e = true ∧ 0 < esz ∧ eb ≤ 2 ^ 30 ∧ 0 < eb ∧
  (z7g P e (T.at t).ezero = true ∧ (T.at t).ezero.length = esz) ∧ (u8 = true → P.underlying e = some (.int .u8)) := by
 have ht := (hT.tk (t := t) (by rw [hs]; rfl)).1
 rw [hs] at ht; simp only [tkOk] at ht
 split at ht
 ·rename_i e hu
  simp only [Bool.and_eq_true, beq_iff_eq, decide_eq_true_eq, Bool.or_eq_true, Bool.not_eq_true'] at ht
  obtain ⟨⟨⟨⟨⟨⟨⟨⟨h1, h2⟩, h3⟩, h4⟩, h5⟩, h6⟩, h7⟩, h8⟩, h9⟩ := ht
  refine ⟨e, hu, h1, h3, h4, h5, h6, h7, h8, fun hu8 => ?_⟩
  rcases h9 with h9 | h9
  ·rw [hu8] at h9; simp at h9
  ·split at h9
   ·assumption
   ·simp at h9
 ·simp at ht
theorem z6w (hT : TabOk P T) {t n esz : Nat} {ea : Bool} (hs : (T.at t).k = .ar n esz ea) : ∃ e, P.underlying t = some (.array n e) ∧ P.cellsOf e = esz ∧ aggB P e = ea ∧ known P e = true ∧ 0 < esz := by
 have ht := (hT.tk (t := t) (by rw [hs]; rfl)).1
 rw [hs] at ht; simp only [tkOk] at ht
 split at ht
 ·rename_i n' e hu
  simp only [Bool.and_eq_true, beq_iff_eq, decide_eq_true_eq] at ht
  obtain ⟨⟨⟨⟨h1, h2⟩, h3⟩, h4⟩, h5⟩ := ht
  subst h1
  exact ⟨e, hu, h2, h3, h4, h5⟩
 ·simp at ht
theorem z2l (hT : TabOk P T) {t : Nat} (hs : (T.at t).k = .str) : P.underlying t = some .string := by
 have ht := (hT.tk (t := t) (by rw [hs]; rfl)).1
 rw [hs] at ht; simp only [tkOk] at ht
 split at ht
 ·assumption
 ·simp at ht
theorem w2w (hT : TabOk P T) {t : Nat} {k : IntKind} (hs : (T.at t).k = .int k) : P.underlying t = some (.int k) := by
 have ht := (hT.tk (t := t) (by rw [hs]; rfl)).1
 rw [hs] at ht; simp only [tkOk] at ht
 split at ht
 ·rename_i k' hu
  have := beq_iff_eq.1 ht; subst this; exact hu
 ·simp at ht
theorem w7q (hT : TabOk P T) (h : St X S pl w m) {t ty : Nat} {tys : Array TypeId} (ht : tys[0]? = some t) {x : AV} {a : Value} (hx : RelV S pl w m x a) (hk : lenW (T.at t).k m x K) :
  Did X S pl w m ((Builtin.len_ tys ty #[a]).run P w) K := by
 have h0 : (#[a] : Array Value)[0]? = some a := rfl
 unfold lenW at hk
 split at hk
 ·rename_i hk2
  have e1 := z0z hx; subst e1
  unfold Builtin.len_
  simp only [ht, h0, Sem.run_bind, run_underlying (z2l hT hk2), Result.andThen_ok, Sem.run_pure]
  exact Did.lit h rfl hk
 ·rename_i hk2
  obtain ⟨e, hu, _⟩ := z6w hT hk2
  unfold Builtin.len_
  simp only [ht, h0, Sem.run_bind, run_underlying hu, Result.andThen_ok, Sem.run_pure]
  exact Did.lit h rfl hk
 ·rename_i hk2
  obtain ⟨e, hu, _⟩ := z1h hT hk2
  cases hx with | c _ _ hx =>
  cases hx with | sl _ _ _ a cap b o f hcap hsp ha hl hS hc hr =>
  unfold Builtin.len_
  simp only [ht, h0, Sem.run_bind, run_underlying hu, Result.andThen_ok, Sem.run_pure]
  exact Did.lit h rfl hk
 ·rename_i hk2
  obtain ⟨e, hu, _⟩ := z1h hT hk2
  cases hx with | t _ _ _ b capn hv hn hx =>
  unfold Builtin.len_
  simp only [ht, h0, Sem.run_bind, run_underlying hu, Result.andThen_ok, Sem.run_pure]
  exact Did.lit h rfl hk
 ·exact hk.elim
theorem arr_cap (h : St X S pl w m) {id v sz n b capn c : Nat} {es : List (List CV)} {pub : Bool} (hg : m.get id = some (.arr v sz es (some c) pub)) (hx : RelV S pl w m (.t id v n) (.slice (some ⟨b, 0, none⟩) n capn)) : capn = c := by
 cases hx with | t _ _ _ _ _ hv hn hx =>
 obtain ⟨sz', es', cap', pub', e, heq, hne, hb, hs⟩ := hx _ hg rfl
 injection heq with _ e1 e2 e3 _; subst e1 e2 e3
 obtain ⟨_, h0, h1, h2, ⟨e2, capn2, hs2, hle2, hcap2⟩, _⟩ := h.inv.ob id _ hg
 rw [← hb] at hs2
 rw [hs] at hs2; injection hs2 with hs2; injection hs2 with _ hs2
 have := Nat.eq_of_mul_eq_mul_right h1 hs2
 rw [this]; exact hcap2 c rfl
theorem w7t (hT : TabOk P T) (h : St X S pl w m) {t ty : Nat} {tys : Array TypeId} (ht : tys[0]? = some t) {x : AV} {a : Value} (hx : RelV S pl w m x a) (hk : capW (T.at t).k m x K) :
  Did X S pl w m ((Builtin.cap_ tys ty #[a]).run P w) K := by
 have h0 : (#[a] : Array Value)[0]? = some a := rfl
 unfold capW at hk
 split at hk
 ·rename_i es sp hk2
  obtain ⟨e, hu, _⟩ := z1h hT hk2
  cases hx with | c _ _ hx =>
  cases hx with | sl _ _ _ a cap b o f hcap hsp ha hl hS hc hr =>
  have := hsp sp rfl
  subst this
  unfold Builtin.cap_
  simp only [ht, h0, Sem.run_bind, run_underlying hu, Result.andThen_ok, Sem.run_pure]
  exact Did.lit h rfl (by simpa [goInt] using hk)
 ·rename_i id ver _ hk2
  obtain ⟨e, hu, _⟩ := z1h hT hk2
  split at hk
  ·rename_i v sz es c pub hg
   obtain ⟨rfl, hk⟩ := hk
   have hx' := hx
   cases hx with | t _ _ _ b capn hv hn hx =>
   have := arr_cap h hg hx'
   subst this
   unfold Builtin.cap_
   simp only [ht, h0, Sem.run_bind, run_underlying hu, Result.andThen_ok, Sem.run_pure]
   exact Did.lit h rfl hk
  ·exact hk.elim
 ·exact hk.elim
theorem z6l (h : St X S pl w m) {tys : Array TypeId} {ty : Nat} {xs : List AV} {as : List Value} (hl : as.length = xs.length) (hr : ∀ (i : Nat) x u, xs[i]? = some x → as[i]? = some u → RelV S pl w m x u) (mx : Bool)
  (hk : z3c mx m xs K) : Did X S pl w m ((if mx then Builtin.max_ tys ty as.toArray else Builtin.min_ tys ty as.toArray).run P w) K := by
 unfold z3c at hk
 split at hk
 ·rename_i k a k' b
  obtain ⟨rfl, hk⟩ := hk
  match as, hl with
  | [u, v], _ =>
   have e1 := z0z (hr 0 _ u rfl rfl); subst e1
   have e2 := z0z (hr 1 _ v rfl rfl); subst e2
   cases mx with
   | true => exact Did.lit h rfl hk
   | false => exact Did.lit h rfl hk
 ·exact hk.elim
theorem z7v (hT : TabOk P T) (h : St X S pl w m) {t : Nat} {x i : AV} {a ia : Value} (hx : RelV S pl w m x a) (hi : RelV S pl w m i ia) (hk : z1g (T.at t).k m x i K) :
  Did X S pl w m ((Instr.indexAt t a ia).run P w) K := by
 have hadd : ∀ b o k : Nat, (⟨b, o, none⟩ : Addr).add k = ⟨b, o + k, none⟩ := fun b o k => by unfold Addr.add; split <;> simp_all
 unfold z1g at hk
 split at hk
 ·rename_i ik i
  have e1 := z0z hi; subst e1
  split at hk
  ·rename_i n esz ea id ver o hk2
   obtain ⟨h1, h2, h3, hk⟩ := hk
   obtain ⟨e, hu, hsz, _, hkn, _⟩ := z6w hT hk2
   cases hx with | p _ _ _ b q hv hx =>
   unfold Instr.indexAt
   simp only [asIntOf, Sem.run_bind, Sem.run_pure, run_underlying hu, Result.andThen_ok, Instr.sureAddr]
   rw [if_pos ⟨h2, h3⟩]
   simp only [Sem.run_bind, z0t hkn, Result.andThen_ok, Sem.run_pure, hsz, hadd, Nat.add_assoc]
   exact Did.same h hk (.p _ _ _ _ _ hv hx)
  ·rename_i n esz ea cs hk2
   obtain ⟨h1, h2, h3, hk⟩ := hk
   obtain ⟨e, hu, hsz, _, hkn, _⟩ := z6w hT hk2
   cases hx with | c _ _ hx =>
   cases hx with | rp _ b q g hS hc hr =>
   unfold Instr.indexAt
   simp only [asIntOf, Sem.run_bind, Sem.run_pure, run_underlying hu, Result.andThen_ok, Instr.sureAddr]
   rw [if_pos ⟨h2, h3⟩]
   simp only [Sem.run_bind, z0t hkn, Result.andThen_ok, Sem.run_pure, hsz, hadd]
   refine Did.same h hk (.c _ _ (.rp _ b _ (fun j => g (i.toNat * esz + j)) (fun j hj => ?_) (fun j hj => ?_) (fun j x hx => ?_)))
   ·rw [List.length_drop] at hj; have := hS (i.toNat * esz + j) (by omega); rwa [← Nat.add_assoc] at this
   ·rw [List.length_drop] at hj; have := hc (i.toNat * esz + j) (by omega); rwa [← Nat.add_assoc] at this
   ·rw [List.getElem?_drop] at hx; exact hr _ x hx
  ·rename_i esz ea eb u8 sz es sp hk2
   obtain ⟨rfl, h2, h3, hk⟩ := hk
   obtain ⟨e, hu, hsz, _, hkn, _⟩ := z1h hT hk2
   cases hx with | c _ _ hx =>
   cases hx with | sl _ _ _ ad cap b o f hcap hsp ha hl hS hc hr =>
   have hlt : i.toNat < es.length := by omega
   have he : es[i.toNat]? = some es[i.toNat] := List.getElem?_eq_getElem hlt
   have heA : (es ++ sp.getD [])[i.toNat]? = some es[i.toNat] := by rw [List.getElem?_append_left hlt]; exact he
   obtain ⟨rfl, hpos⟩ := ha (by intro hnil; rw [hnil] at heA; simp at heA)
   unfold Instr.indexAt
   simp only [asIntOf, Sem.run_bind, Sem.run_pure, run_underlying hu, Result.andThen_ok]
   rw [if_pos ⟨h2, h3⟩]
   simp only [Sem.run_bind, z0t hkn, Result.andThen_ok, Sem.run_pure, hsz, hadd]
   have hd : es.getD i.toNat [] = es[i.toNat] := by simp [List.getD, he]
   rw [hd] at hk
   have hlen := hl _ _ heA
   have hmul : ∀ j, j < es[i.toNat].length → i.toNat * sz + j < (es ++ sp.getD []).length * sz := fun j hj => by
    have : (i.toNat + 1) * sz ≤ (es ++ sp.getD []).length * sz := Nat.mul_le_mul_right sz (by rw [List.length_append]; omega)
    rw [Nat.add_mul] at this; omega
   refine Did.same h hk (.c _ _ (.rp _ b _ (fun j => f (i.toNat * sz + j)) (fun j hj => ?_) (fun j hj => ?_) (fun j x hx => hr _ _ _ x heA hx)))
   ·have := hS _ (hmul j hj); rwa [← Nat.add_assoc] at this
   ·have := hc _ (hmul j hj); rwa [← Nat.add_assoc] at this
  ·rename_i esz ea eb u8 id ver n hk2
   obtain ⟨e, hu, hsz, _, hkn, _⟩ := z1h hT hk2
   split at hk
   ·rename_i v sz es cap pub hg
    obtain ⟨rfl, rfl, hne, h2, h3, hk⟩ := hk
    cases hx with | t _ _ _ b capn hv hn hx =>
    obtain ⟨sz', es', cap', pub', e', heq, hne', hb, hs⟩ := hx _ hg rfl
    injection heq with _ e1 e2 e3 e4; subst e1 e2 e3 e4
    unfold Instr.indexAt
    simp only [asIntOf, Sem.run_bind, Sem.run_pure, run_underlying hu, Result.andThen_ok]
    rw [if_pos ⟨h2, h3⟩]
    simp only [Sem.run_bind, z0t hkn, Result.andThen_ok, Sem.run_pure, hsz, hadd]
    refine Did.same h hk ?_
    have := RelV.tp (S := S) (pl := pl) (w := w) (m := m) id v i.toNat 0 b (i.toNat * sz) hv (fun ob hob he => by
     rw [hg] at hob; injection hob with hob; subst hob
     exact ⟨_, _, _, _, rfl, by omega, hb, rfl⟩)
    simpa using this
   ·exact hk.elim
  ·exact hk.elim
 ·exact hk.elim
theorem w2x (hT : TabOk P T) (h : St X S pl w m) {t : Nat} {x i : AV} {a ia : Value} (hx : RelV S pl w m x a) (hi : RelV S pl w m i ia) (hk : z6p (T.at t).k m x i K) :
  Did X S pl w m ((Instr.index t a ia).run P w) K := by
 unfold z6p at hk
 split at hk
 ·rename_i ik i
  have e1 := z0z hi; subst e1
  split at hk
  ·rename_i s hk2
   obtain ⟨h2, h3, hk⟩ := hk
   have e2 := z0z hx; subst e2
   unfold Instr.index
   simp only [asIntOf, Sem.run_bind, Sem.run_pure, run_underlying (z2l hT hk2), Result.andThen_ok]
   have hlt : i.toNat < s.size := by omega
   rw [if_pos h2]
   have hget : s[i.toNat]? = some (s.data.toList.getD i.toNat 0) := by
    have hl : i.toNat < s.data.toList.length := by simpa using hlt
    rw [getElem?_pos s i.toNat hlt]
    simp [List.getD, List.getElem?_eq_getElem hl]; rfl
   rw [hget]
   exact Did.lit h rfl hk
  ·rename_i n esz ea cs hk2
   obtain ⟨h2, h3, hk⟩ := hk
   obtain ⟨e, hu, hsz, hag, hkn, _⟩ := z6w hT hk2
   cases hx with | agg _ us hl hr =>
   rw [← hsz, ← hag] at hk
   obtain ⟨u, y, hrun, hy, hrel⟩ := w0b hkn hl hr _ hk
   unfold Instr.index
   simp only [asIntOf, Sem.run_bind, Sem.run_pure, run_underlying hu, Result.andThen_ok]
   rw [if_pos ⟨h2, h3⟩]
   simp only [Sem.run_bind, z0t hkn, Result.andThen_ok, hrun]
   exact Did.same h hy hrel
  ·exact hk.elim
 ·exact hk.elim
end
end Go.Proofs.Ythncmjlcmlmnmaa.V
namespace Go.Proofs.Ythncmjlcmlmnmaa.V
open Go Go.RowKit
section
variable {P : Program} {T : Tab} {X : Ctx} {S : Area} {pl : Place} {w : World} {m : Mem} {K : KK}
def w3y (S : Area) (pl : Place) (w : World) (m : Mem) : Option AV → Option Value → Prop
 | none, none => True
 | some x, some u => RelV S pl w m x u
 | _, _ => False
theorem z3t {d : Int} {x : Option AV} {u : Option Value} (hr : w3y S pl w m x u) {K : Int → Prop} (hk : bnd d x K) : (x = none ∧ u = none ∧ K d) ∨ ∃ k n, u = some (.int k n) ∧ x.isSome = true ∧ K n := by
 unfold bnd at hk
 split at hk
 ·cases u with
  | none => exact .inl ⟨rfl, rfl, hk⟩
  | some u => exact hr.elim
 ·cases u with
  | none => exact hr.elim
  | some u => have e1 := z0z hr; subst e1; exact .inr ⟨_, _, rfl, rfl, hk⟩
 ·exact hk.elim
theorem z1f {k : IntKind} {n : Int} {y : Nat} {c : BoundsCode} (h0 : 0 ≤ n) (h1 : n ≤ y) : (Instr.sliceBound (.int k n) y c).run P w = .ok n.toNat w := by
 unfold Instr.sliceBound
 simp only [asIntOf, Sem.run_bind, Sem.run_pure, Result.andThen_ok]
 rw [if_pos ⟨h0, h1⟩]; rfl
theorem z4g (isSlice : Bool) (len cap : Nat) (lo hi : Option Value) (l h : Int) (hlo : (lo = none ∧ l = 0) ∨ ∃ k, lo = some (.int k l)) (hhi : (hi = none ∧ h = len) ∨ ∃ k, hi = some (.int k h))
  (h0 : 0 ≤ l) (h1 : l ≤ h) (h2 : h ≤ cap) : (Instr.sliceBounds isSlice len cap lo hi none).run P w = .ok (l.toNat, h.toNat, cap) w := by
 unfold Instr.sliceBounds
 have hh : h.toNat = h := Int.toNat_of_nonneg (by omega)
 rcases hhi with ⟨rfl, rfl⟩ | ⟨k, rfl⟩ <;> rcases hlo with ⟨rfl, rfl⟩ | ⟨k', rfl⟩
 ·simp
 ·simp only [Sem.run_bind, Sem.run_pure, Result.andThen_ok]
  rw [z1f h0 h1]; simp
 ·simp only [Sem.run_bind, Sem.run_pure, Result.andThen_ok]
  rw [z1f (by omega) h2]; simp
 ·simp only [Sem.run_bind, Sem.run_pure, Result.andThen_ok]
  rw [z1f (by omega) h2]
  simp only [Result.andThen_ok]
  rw [z1f h0 (by omega)]; simp
theorem w4g (isSlice : Bool) (len cap : Nat) (lo : Option Value) (hk ck : IntKind) (l h c : Int) (hlo : (lo = none ∧ l = 0) ∨ ∃ k, lo = some (.int k l))
  (h0 : 0 ≤ l) (h1 : l ≤ h) (h2 : h ≤ c) (h3 : c ≤ cap) : (Instr.sliceBounds isSlice len cap lo (some (.int hk h)) (some (.int ck c))).run P w = .ok (l.toNat, h.toNat, c.toNat) w := by
 unfold Instr.sliceBounds
 simp only [Sem.run_bind]
 rw [z1f (by omega) h3]
 simp only [Result.andThen_ok]
 rw [z1f (by omega) (by omega)]
 simp only [Result.andThen_ok]
 rcases hlo with ⟨rfl, rfl⟩ | ⟨k', rfl⟩
 ·simp
 ·simp only [Sem.run_bind]
  rw [z1f h0 (by omega)]; simp
theorem RelC.cut {sz : Nat} {es : List (List CV)} {sp : Option (List (List CV))} {a : Option Addr} {n cap l h c : Nat} (hr : RelC S w (.sl sz es sp) (.slice a n cap)) (sp' : Option (List (List CV)))
  (hlh : l ≤ h) (hhc : h ≤ c) (hh : h ≤ (es ++ sp.getD []).length) (hsp : ∀ s, sp' = some s → s = ((es ++ sp.getD []).drop h).take (c - h) ∧ c ≤ (es ++ sp.getD []).length) :
  RelC S w (.sl sz (((es ++ sp.getD []).take h).drop l) sp') (.slice (if c = l then a else a.map (·.add (l * sz))) (h - l) (c - l)) := by
 generalize hall : es ++ sp.getD [] = all at *
 cases hr with | sl _ _ _ _ _ b o f hcap' hsp0 ha hl hS hc hr =>
 rw [hall] at ha hl hS hc hr
 have hadd : ∀ b o k : Nat, (⟨b, o, none⟩ : Addr).add k = ⟨b, o + k, none⟩ := fun b o k => by unfold Addr.add; split <;> simp_all
 have hlen : ((all.take h).drop l).length = h - l := by rw [List.length_drop, List.length_take]; omega
 have hget : ∀ (j : Nat) x, ((all.take h).drop l ++ sp'.getD [])[j]? = some x → all[l + j]? = some x := by
  intro j x hx
  by_cases hj : j < h - l
  ·rw [List.getElem?_append_left (by omega), List.getElem?_drop, List.getElem?_take_of_lt (by omega)] at hx; exact hx
  ·rw [List.getElem?_append_right (by omega), hlen] at hx
   cases hs : sp' with
   | none => rw [hs] at hx; simp at hx
   | some s =>
    rw [hs] at hx
    obtain ⟨rfl, _⟩ := hsp s hs
    have hjl : j - (h - l) < c - h := by have := (List.getElem?_eq_some_iff.1 hx).1; simp only [Option.getD_some, List.length_take] at this; omega
    simp only [Option.getD_some] at hx
    rw [List.getElem?_take_of_lt hjl, List.getElem?_drop] at hx
    rw [← hx]; congr 1; omega
 have hlenA : ((all.take h).drop l ++ sp'.getD []).length ≤ all.length - l := by
  rw [List.length_append, hlen]
  cases hs : sp' with
  | none => simp; omega
  | some s => obtain ⟨rfl, hcl⟩ := hsp s hs; simp only [Option.getD_some, List.length_take, List.length_drop]; omega
 have hmul : ∀ k, k < ((all.take h).drop l ++ sp'.getD []).length * sz → l * sz + k < all.length * sz := fun k hk => by
  have h1 : ((all.take h).drop l ++ sp'.getD []).length * sz ≤ (all.length - l) * sz := Nat.mul_le_mul_right sz hlenA
  have h2 : (all.length - l) * sz + l * sz = all.length * sz := by rw [← Nat.add_mul]; congr 1; omega
  omega
 have := RelC.sl (S := S) (w := w) sz ((all.take h).drop l) sp' (if c = l then a else a.map (·.add (l * sz))) (c - l) b (o + l * sz) (fun k => f (l * sz + k)) (by rw [hlen]; omega)
  (fun s hs => by obtain ⟨rfl, hcl⟩ := hsp s hs; rw [hlen]; simp only [List.length_take, List.length_drop]; omega)
  (fun hne => by
   have h1 : 0 < ((all.take h).drop l ++ sp'.getD []).length := List.length_pos_iff.2 hne
   have hal : all ≠ [] := by intro e; have e2 := congrArg List.length e; rw [List.length_nil] at e2; omega
   obtain ⟨rfl, hpos⟩ := ha hal
   refine ⟨?_, hpos⟩
   have hcl : c ≠ l := by
    intro e; subst e
    rw [List.length_append, hlen] at h1
    cases hs : sp' with
    | none => rw [hs] at h1; simp at h1; omega
    | some s => obtain ⟨rfl, _⟩ := hsp s hs; rw [hs] at h1; simp only [Option.getD_some, List.length_take] at h1; omega
   rw [if_neg hcl]; simp [hadd])
  (fun j x hx => hl _ x (hget j x hx)) (fun k hk => by have := hS _ (hmul k hk); rwa [← Nat.add_assoc] at this) (fun k hk => by have := hc _ (hmul k hk); rwa [← Nat.add_assoc] at this)
  (fun j t x y hx hy => by have := hr _ t x y (hget j x hx) hy; rwa [Nat.add_mul, Nat.add_assoc] at this)
 rwa [hlen] at this
theorem w1s (hT : TabOk P T) (h : St X S pl w m) {t : Nat} {x : AV} {lo hi mx : Option AV} {a : Value} {l' h' m' : Option Value} (hx : RelV S pl w m x a) (hlo : w3y S pl w m lo l') (hhi : w3y S pl w m hi h') (hmx : w3y S pl w m mx m')
  (hk : z3l (T.at t).k m x lo hi mx K) : Did X S pl w m ((Instr.sliceAt t a l' h' m').run P w) K := by
 unfold z3l at hk
 split at hk
 ·rename_i s hk2
  have hu := z2l hT hk2
  obtain ⟨hmn, hk⟩ := hk
  have e1 := z0z hx; subst e1
  cases mx with
  | some _ => simp at hmn
  | none =>
   cases m' with
   | some _ => exact hmx.elim
   | none =>
    have key : ∀ (l h : Int), ((l' = none ∧ l = 0) ∨ ∃ k, l' = some (.int k l)) → ((h' = none ∧ h = s.size) ∨ ∃ k, h' = some (.int k h)) → 0 ≤ l → l ≤ h → h ≤ s.size → K (.c (.v (.string (s.extract l.toNat h.toNat)))) m →
      Did X S pl w m ((Instr.sliceAt t (.string s) l' h' none).run P w) K := by
     intro l hh h1 h2 h3 h4 h5 hK
     unfold Instr.sliceAt
     simp only [Sem.run_bind, run_underlying hu, Result.andThen_ok, Instr.slice, Option.isSome_none, Bool.false_eq_true, if_false, Sem.run_pure]
     rw [z4g false s.size s.size l' h' l hh h1 h2 h3 h4 h5]
     exact Did.lit h rfl hK
    rcases z3t hlo hk with ⟨_, rfl, hk⟩ | ⟨k1, n1, rfl, _, hk⟩ <;> rcases z3t hhi hk with ⟨_, rfl, hk⟩ | ⟨k2, n2, rfl, _, hk⟩ <;> obtain ⟨h3, h4, h5, hK⟩ := hk
    ·exact key _ _ (.inl ⟨rfl, rfl⟩) (.inl ⟨rfl, rfl⟩) h3 h4 h5 hK
    ·exact key _ _ (.inl ⟨rfl, rfl⟩) (.inr ⟨_, rfl⟩) h3 h4 h5 hK
    ·exact key _ _ (.inr ⟨_, rfl⟩) (.inl ⟨rfl, rfl⟩) h3 h4 h5 hK
    ·exact key _ _ (.inr ⟨_, rfl⟩) (.inr ⟨_, rfl⟩) h3 h4 h5 hK
 ·rename_i esz ea eb u8 sz es sp hk2
  obtain ⟨e, hu, hsz, _, hkn, hpos, _⟩ := z1h hT hk2
  obtain ⟨rfl, hk⟩ := hk
  cases hx with | c _ _ hx =>
  have hxr := hx
  cases hx with | sl _ _ _ ad cap b o f hcap hsp ha hl hS hc hr =>
  clear hl hS hc hr
  have fin : ∀ (lo hi c : Nat) (sp' : Option (List (List CV))), (Instr.sliceBounds true es.length cap l' h' m').run P w = .ok (lo, hi, c) w → lo ≤ hi → hi ≤ c → c ≤ cap → hi ≤ (es ++ sp.getD []).length →
    (∀ s, sp' = some s → s = ((es ++ sp.getD []).drop hi).take (c - hi) ∧ c ≤ (es ++ sp.getD []).length) → K (.c (.sl sz (((es ++ sp.getD []).take hi).drop lo) sp')) m →
    Did X S pl w m ((Instr.sliceAt t (.slice ad es.length cap) l' h' m').run P w) K := by
   intro lo hi c sp' hb h1 h2 h3 h4 h5 hK
   unfold Instr.sliceAt
   simp only [Sem.run_bind, run_underlying hu, Result.andThen_ok, Instr.slice, hb, z0t hkn, Sem.run_pure, hsz]
   exact Did.same h hK (.c _ _ (hxr.cut sp' h1 h2 h4 h5))
  have key2 : mx = none → ∀ (lo hi : Int), ((l' = none ∧ lo = 0) ∨ ∃ k, l' = some (.int k lo)) → ((h' = none ∧ hi = es.length) ∨ ∃ k, h' = some (.int k hi)) → 0 ≤ lo → lo ≤ hi →
    (∀ s, sp = some s → hi ≤ es.length + s.length ∧ K (.c (.sl sz (((es ++ s).take hi.toNat).drop lo.toNat) (some ((es ++ s).drop hi.toNat)))) m) →
    (sp = none → hi ≤ es.length ∧ K (.c (.sl sz ((es.take hi.toNat).drop lo.toNat) none)) m) → Did X S pl w m ((Instr.sliceAt t (.slice ad es.length cap) l' h' m').run P w) K := by
   intro hm lo hi h1 h2 h3 h4 hs hn
   have hm' : m' = none := by
    subst hm
    cases m' with
    | none => rfl
    | some _ => exact hmx.elim
   subst hm'
   cases hspc : sp with
   | none =>
    obtain ⟨h5, hK⟩ := hn hspc
    refine fin lo.toNat hi.toNat cap none (z4g true es.length cap l' h' lo hi h1 h2 h3 h4 (by omega)) (by omega) (by omega) (by omega) (by rw [hspc]; simp; omega) (by simp) (by rw [hspc]; simpa using hK)
   | some s =>
    obtain ⟨h5, hK⟩ := hs s hspc
    have hcs := hsp s hspc
    refine fin lo.toNat hi.toNat cap (some ((es ++ s).drop hi.toNat)) (z4g true es.length cap l' h' lo hi h1 h2 h3 h4 (by omega)) (by omega) (by omega) (by omega) (by rw [hspc]; simp; omega) (fun q hq => ?_) (by rw [hspc]; simpa using hK)
    injection hq with hq; subst hq
    rw [hspc]
    refine ⟨?_, by simp; omega⟩
    rw [List.take_of_length_le (by simp; omega)]; rfl
  have key3 : ∀ (lo hi c : Int) (k2 k3 : IntKind), ((l' = none ∧ lo = 0) ∨ ∃ k, l' = some (.int k lo)) → h' = some (.int k2 hi) → m' = some (.int k3 c) → 0 ≤ lo → lo ≤ hi → hi ≤ c → c ≤ es.length →
    K (.c (.sl sz ((es.take hi.toNat).drop lo.toNat) (some ((es.take c.toNat).drop hi.toNat)))) m → Did X S pl w m ((Instr.sliceAt t (.slice ad es.length cap) l' h' m').run P w) K := by
   intro lo hi c k2 k3 h1 h2 hm h3 h4 h5 h6 hK
   subst h2 hm
   refine fin lo.toNat hi.toNat c.toNat (some ((es.take c.toNat).drop hi.toNat)) (w4g true es.length cap l' k2 k3 lo hi c h1 h3 h4 h5 (by omega)) (by omega) (by omega) (by omega) (by simp; omega) (fun q hq => ?_) ?_
   ·injection hq with hq; subst hq
    refine ⟨?_, by simp; omega⟩
    rw [← List.drop_take, List.take_append_of_le_length (by omega)]
   ·rw [List.take_append_of_le_length (by omega)]; exact hK
  clear fin hxr ha
  have lok : ∃ lo' : Int, ((l' = none ∧ lo' = 0) ∨ ∃ k, l' = some (.int k lo')) ∧ (bnd es.length hi fun h => match (generalizing := false) mx with
    | none => 0 ≤ lo' ∧ lo' ≤ h ∧ match (generalizing := false) sp with
     | some sp => h ≤ es.length + sp.length ∧ K (.c (.sl sz (((es ++ sp).take h.toNat).drop lo'.toNat) (some ((es ++ sp).drop h.toNat)))) m
     | none => h ≤ es.length ∧ K (.c (.sl sz ((es.take h.toNat).drop lo'.toNat) none)) m
    | some mx => hi.isSome ∧ bnd 0 (some mx) fun c => 0 ≤ lo' ∧ lo' ≤ h ∧ h ≤ c ∧ c ≤ es.length ∧ K (.c (.sl sz ((es.take h.toNat).drop lo'.toNat) (some ((es.take c.toNat).drop h.toNat)))) m) := by
   rcases z3t hlo hk with ⟨_, e1, hk⟩ | ⟨k1, n1, e1, _, hk⟩
   ·exact ⟨0, .inl ⟨e1, rfl⟩, hk⟩
   ·exact ⟨n1, .inr ⟨_, e1⟩, hk⟩
  clear hk
  obtain ⟨lo', hlo', hk⟩ := lok
  cases hmxc : mx with
  | none =>
   subst hmxc
   rcases z3t hhi hk with ⟨e1, e2, hk⟩ | ⟨k2, n2, e2, _, hk⟩
   ·exact key2 rfl lo' _ hlo' (.inl ⟨e2, rfl⟩) hk.1 hk.2.1 (fun s hs => by subst hs; exact hk.2.2) (fun hs => by subst hs; exact hk.2.2)
   ·exact key2 rfl lo' _ hlo' (.inr ⟨_, e2⟩) hk.1 hk.2.1 (fun s hs => by subst hs; exact hk.2.2) (fun hs => by subst hs; exact hk.2.2)
  | some mxv =>
   subst hmxc
   rcases z3t hhi hk with ⟨e1, e2, hk⟩ | ⟨k2, n2, e2, _, hk⟩
   ·subst e1; exact absurd hk.1 (by simp)
   ·rcases z3t hmx hk.2 with ⟨q, _, _⟩ | ⟨k3, n3, e3, _, hk⟩
    ·simp at q
    ·exact key3 lo' _ _ _ _ hlo' e2 e3 hk.1 hk.2.1 hk.2.2.1 hk.2.2.2.1 hk.2.2.2.2
 ·rename_i esz ea eb u8 id ver n hk2
  obtain ⟨e, hu, hsz, _, hkn, hpos, _⟩ := z1h hT hk2
  split at hk
  ·rename_i v sz es cap pub hg
   obtain ⟨rfl, rfl, hne, hmn, hk⟩ := hk
   have hxr := hx
   cases hx with | t _ _ _ b capn hv hn hx =>
   obtain ⟨sz', es', cap', pub', e', heq, _, hb, hs⟩ := hx _ hg rfl
   injection heq with _ q1 q2 q3 q4; subst q1 q2 q3 q4
   have hm' : m' = none := by
    cases mx with
    | some _ => simp at hmn
    | none => cases m' with
     | none => rfl
     | some _ => exact hmx.elim
   subst hm'
   obtain ⟨_, _, _, _, ⟨e3, capn3, hs3, hle3, hcap3⟩, _⟩ := h.inv.ob id _ hg
   have hcc : capn3 = capn := by
    rw [← hb] at hs3; rw [hs] at hs3; injection hs3 with hs3; injection hs3 with _ hs3
    exact (Nat.eq_of_mul_eq_mul_right hpos hs3).symm
   subst hcc
   have run : ∀ (lo hi : Int), ((l' = none ∧ lo = 0) ∨ ∃ k, l' = some (.int k lo)) → ((h' = none ∧ hi = n) ∨ ∃ k, h' = some (.int k hi)) → 0 ≤ lo → lo ≤ hi → hi ≤ capn3 →
     (Instr.sliceAt t (.slice (some ⟨b, 0, none⟩) n capn3) l' h' none).run P w = .ok (.slice (if capn3 = lo.toNat then some ⟨b, 0, none⟩ else (some (⟨b, 0, none⟩ : Addr)).map (·.add (lo.toNat * sz))) (hi.toNat - lo.toNat) (capn3 - lo.toNat)) w := by
    intro lo hi h1 h2 h3 h4 h5
    unfold Instr.sliceAt
    simp only [Sem.run_bind, run_underlying hu, Result.andThen_ok, Instr.slice, z4g true n capn3 l' h' lo hi h1 h2 h3 h4 h5, z0t hkn, Sem.run_pure, hsz]
   have hhi' : ∃ hi' : Int, ((h' = none ∧ hi' = n) ∨ ∃ k, h' = some (.int k hi')) ∧ (match (generalizing := false) lo with
     | none => 0 ≤ hi' ∧ (hi' ≤ n ∨ cap.isSome ∧ hi' ≤ es.length) ∧ K (.t id v hi'.toNat) m
     | some _ => bnd 0 lo fun l => 0 ≤ l ∧ l ≤ hi' ∧ hi' ≤ n ∧ K (.c (.sl sz ((es.take hi'.toNat).drop l.toNat) none)) (m.upd id (.arr v sz es cap true))) := by
    rcases z3t hhi hk with ⟨_, e1, hk⟩ | ⟨k1, n1, e1, _, hk⟩
    ·exact ⟨n, .inl ⟨e1, rfl⟩, hk⟩
    ·exact ⟨n1, .inr ⟨_, e1⟩, hk⟩
   clear hk
   obtain ⟨hi', hh', hk⟩ := hhi'
   cases hloc : lo with
   | none =>
    subst hloc
    have hl' : l' = none := by cases l' with | none => rfl | some _ => exact hlo.elim
    obtain ⟨h0, h1, hK⟩ := hk
    have hle : hi' ≤ es.length := by omega
    rw [run 0 hi' (.inl ⟨hl', rfl⟩) hh' (Int.le_refl 0) h0 (by omega)]
    refine Did.same h hK ?_
    have : (if capn3 = (0 : Int).toNat then some (⟨b, 0, none⟩ : Addr) else (some (⟨b, 0, none⟩ : Addr)).map (·.add ((0 : Int).toNat * sz))) = some ⟨b, 0, none⟩ := by
     split
     ·rfl
     ·simp [Addr.add]
    rw [this]
    exact .t id v _ b capn3 hv (by omega) (fun ob hob he => by
     rw [hg] at hob; injection hob with hob; subst hob
     exact ⟨_, _, _, _, _, rfl, by omega, hb, hs⟩)
   | some lov =>
    subst hloc
    have hlo' : ∃ lo' : Int, (∃ k, l' = some (.int k lo')) ∧ (0 ≤ lo' ∧ lo' ≤ hi' ∧ hi' ≤ n ∧ K (.c (.sl sz ((es.take hi'.toNat).drop lo'.toNat) none)) (m.upd id (.arr v sz es cap true))) := by
     rcases z3t hlo hk with ⟨q, _, _⟩ | ⟨k3, n3, e3, _, hk⟩
     ·simp at q
     ·exact ⟨n3, ⟨_, e3⟩, hk⟩
    obtain ⟨lo', ⟨k3, e3⟩, h3, h4, h5, hK⟩ := hlo'
    rw [run lo' hi' (.inr ⟨_, e3⟩) hh' h3 h4 (by omega)]
    obtain ⟨hst, hkp⟩ := h.pub hg
    have hok := (hst.inv.ob id _ (by rw [z2g, if_pos rfl])).2
    have hrel := RelC.of_arr hok hne (by rw [← hb]; exact hs)
    have hrel2 := hrel.cut (l := lo'.toNat) (h := hi'.toNat) (c := capn3) none (by omega) (by omega) (by rw [List.length_append, List.length_take]; omega) (by simp)
    rw [List.take_append_of_le_length (by rw [List.length_take]; omega), List.take_take, Nat.min_eq_left (by omega)] at hrel2
    rw [hb]
    exact ⟨_, w, _, pl, _, _, rfl, hK, .c _ _ hrel2, hst, hkp⟩
  ·exact hk.elim
 ·exact hk.elim
end
end Go.Proofs.Ythncmjlcmlmnmaa.V
namespace Go.Proofs.Ythncmjlcmlmnmaa.V
open Go Go.RowKit
section
variable {P : Program} {T : Tab} {X : Ctx} {S : Area} {pl : Place} {w : World} {m : Mem} {K : KK}
theorem z9p (w : World) (cc : Array Value) (e : TypeId) (fr : Nat × Nat) (hfr : fr.2 ≤ fr.1 ∨ cc.size ≤ fr.1) : z7t (w.alloc (.cells cc e fr)) w.heap.size := by
 intro o hz e' s hs
 rw [k0d, if_pos rfl] at hz
 rw [z2i, if_pos rfl] at hs
 injection hs with hs; injection hs with _ hs; subst hs
 simp only [Bool.and_eq_true, decide_eq_true_eq] at hz
 omega
theorem w9q (h : St X S pl w m) (site : Nat) (cs : List AV) (us : List Value) (e : TypeId) (hl : us.length = cs.length) (hr : ∀ (j : Nat) x u, cs[j]? = some x → us[j]? = some u → RelV S pl w m x u) (hk : K (.p site m.clk 0) (m.new site fun v => .blk v cs)) :
  Did X S pl w m (.ok (.pointer (some ⟨w.heap.size, 0, none⟩)) (w.alloc (.cells us.toArray e))) K := by
 have := h.alloc site (fun v => .blk v cs) us.toArray e (0, 0) (fun _ => False) rfl (fun b o hf => ⟨hf.1, fun q => q⟩)
 simp only [and_false, or_false] at this
 have key : ∀ S' pl' w' m', Keeps S S' pl pl' w w' m m' → (∀ j, j < us.length → z0p w' w.heap.size j = some (us.getD j undef)) → RowA S' pl' w' m' w.heap.size 0 cs := fun S' pl' w' m' k hc =>
  fun j x hx => by
   have hj : j < us.length := by rw [hl]; exact (List.getElem?_eq_some_iff.1 hx).1
   have hu : us[j]? = some us[j] := List.getElem?_eq_getElem hj
   rw [Nat.zero_add]
   exact ⟨_, hc j hj, by have := (hr j x _ hx hu).mono k; simpa [List.getD, hu] using this⟩
 have k : Keeps S S pl (plAt pl site (w.heap.size, 0)) w (w.alloc (.cells us.toArray e)) m (m.new site fun v => .blk v cs) :=
  ⟨fun _ _ hs => hs, fun b o hs => by rw [z2p, if_neg (Nat.ne_of_lt (h.inv.low b o hs))],
   fun b s hs => by rw [z2i, if_neg (Nat.ne_of_lt (z2v hs))]; exact hs, by simp [z2s],
   fun id ob hob hlt => by
   by_cases hi : id = site
   ·subst hi; rw [z1q, if_pos rfl] at hob; injection hob with hob; subst hob; simp [Ob.ver] at hlt
   ·rw [z1q, if_neg hi] at hob; exact ⟨ob, hob, by cases ob <;> simp [Ob.alike], by simp [plAt, hi]⟩⟩
 obtain ⟨hst, hkp⟩ := this ⟨by rw [z7a]; exact Nat.lt_succ_self _, z9p w us.toArray e (0, 0) (.inl (Nat.le_refl _)), key _ _ _ _ k (fun j hj => by
  rw [z2p, if_pos rfl]; simp [List.getD, hj])⟩
 refine ⟨_, _, S, _, _, _, rfl, hk, ?_, hst, hkp⟩
 have := RelV.p (S := S) (pl := plAt pl site (w.heap.size, 0)) (w := w.alloc (.cells us.toArray e)) (m := m.new site fun v => .blk v cs) site m.clk 0 w.heap.size 0 (by rw [z2s]; omega) (fun ob hob _ => by
  rw [z1q, if_pos rfl] at hob; injection hob with hob; subst hob
  exact ⟨⟨_, rfl⟩, by simp [plAt]⟩)
 simpa using this
theorem z8q (h : St X S pl w m) (site sz : Nat) (es : List (List CV)) (cap : Option Nat) (pub : Bool) (us rest : List Value) (e : TypeId) (fr : Nat × Nat) (n capn : Nat) (hsz : 0 < sz) (hes : ∀ (i : Nat) e, es[i]? = some e → e.length = sz)
  (hl : us.length = es.length * sz) (hcap : (us ++ rest).length = capn * sz) (hcc : ∀ c, cap = some c → capn = c) (hfr : fr.2 ≤ fr.1 ∨ (us ++ rest).length ≤ fr.1) (hn : n ≤ es.length) (hbig : pub = false → capn < 9223372036854775808)
  (hr : ∀ (i j : Nat) e x, es[i]? = some e → e[j]? = some x → RelC S w x (us.getD (i * sz + j) undef)) (hk : K (.t site m.clk n) (m.new site fun v => .arr v sz es cap pub)) :
  Did X S pl w m (.ok (.slice (some ⟨w.heap.size, 0, none⟩) n capn) (w.alloc (.cells (us ++ rest).toArray e fr))) K := by
 have hle : es.length ≤ capn := by
  have : es.length * sz ≤ capn * sz := by rw [← hl, ← hcap, List.length_append]; omega
  exact Nat.le_of_mul_le_mul_right this hsz
 have hcell : ∀ k, k < es.length * sz → z0p (w.alloc (.cells (us ++ rest).toArray e fr)) w.heap.size k = some (us.getD k undef) := fun k hk => by
  rw [z2p, if_pos rfl]
  have hk' : k < us.length := by omega
  simp [List.getElem?_append_left hk', List.getD, hk']
 have hold : ∀ b o, S b o → z0p (w.alloc (.cells (us ++ rest).toArray e fr)) b o = z0p w b o := fun b o hs => by rw [z2p, if_neg (Nat.ne_of_lt (h.inv.low b o hs))]
 have := h.alloc site (fun v => .arr v sz es cap pub) (us ++ rest).toArray e fr (fun o => pub = true ∧ o < es.length * sz) rfl (fun b o hf => ⟨hf.1, fun ⟨hp, ho⟩ => by have := hf.2 hp; omega⟩)
  ⟨rfl, hsz, ⟨z9p w _ e fr (by simpa using hfr), fun hp e' s' hs' => by
   rw [z2i, if_pos rfl] at hs'
   injection hs' with hs'; injection hs' with _ hs'
   have h1 := hbig hp
   have h2 : capn * sz ≤ 9223372036854775807 * sz := Nat.mul_le_mul_right sz (by omega)
   simp at hs' hcap; omega⟩, ⟨e, capn, by rw [z2i, if_pos rfl]; simp [← hcap], hle, hcc⟩,
   ⟨hes, fun k => us.getD k undef, hcell, fun i j e x he hx => (hr i j e x he hx).mono (fun _ _ hs => .inl hs) hold⟩, fun hp o ho => .inr ⟨rfl, hp, ho⟩⟩
 obtain ⟨hst, hkp⟩ := this
 refine ⟨_, _, _, _, _, _, rfl, hk, ?_, hst, hkp⟩
 exact .t site m.clk n w.heap.size capn (by rw [z2s]; omega) (by omega) (fun ob hob _ => by
  rw [z1q, if_pos rfl] at hob; injection hob with hob; subst hob
  exact ⟨_, _, _, _, e, rfl, hn, by simp [plAt], by rw [z2i, if_pos rfl]; simp [← hcap]⟩)
theorem z6e {x : AV} {u : Value} (hr : RelV S pl w m x u) (hs : ∀ y ∈ x.cells, y.solid = true) : u.cells.toList.length = x.cells.length ∧ (∀ (j : Nat) y v, x.cells[j]? = some y → u.cells.toList[j]? = some v → RelV S pl w m y v) := by
 cases x with
 | agg cs => cases hr with | agg _ us hl hr => exact ⟨by simpa [Value.cells, AV.cells] using hl, fun j y v hy hv => hr j y v hy (by simpa [Value.cells] using hv)⟩
 | tup cs => simp [AV.cells, AV.solid] at hs
 | dead => simp [AV.cells, AV.solid] at hs
 | _ =>
  have hu : u.cells = #[u] := by
   cases hr <;> first
    | rfl
    | (rename_i hr; have := hr.solid; cases u <;> first | rfl | (simp [Value.oneCell'] at this))
  rw [hu]
  refine ⟨rfl, fun j y v hy hv => ?_⟩
  cases j with
  | zero => simp [AV.cells] at hy hv; subst hy hv; exact hr
  | succ j => simp [AV.cells] at hy
theorem w1z {x : AV} {u : Value} (hr : RelV S pl w m x u) (hs : x.solid = true) : u.oneCell' = true := by
 cases hr <;> first | rfl | (simp [AV.solid] at hs; done) | skip
 rename_i hr; exact hr.solid
theorem w3x (hT : TabOk P T) (h : St X S pl w m) {e s : Nat} (hs : (T.at e).size = s + 1) (site : Nat) (hk : k1b site (T.at e).zero m K) : Did X S pl w m ((Instr.alloc e true (.tuple #[])).run P w) K := by
 obtain ⟨hkn, hsz, hag, hz⟩ := hT.ti (t := e) (by rw [hs]; omega)
 obtain ⟨v, hrun, hl, hr⟩ := z6z hz hkn S w
 have hrun' : (Instr.alloc e true (.tuple #[])).run P w = .ok (.pointer (some ⟨w.heap.size, 0, none⟩)) (w.alloc (.cells v.cells e)) := by
  unfold Instr.alloc
  simp only [Sem.run_bind, hrun, Result.andThen_ok, newVar, newRow, run_newObj, Sem.run_pure]; rfl
 rw [hrun']
 have := w9q (K := K) h site ((T.at e).zero.map .c) v.cells.toList e (by simp [hl]) (fun j x u hx hu => by
  rw [List.getElem?_map] at hx
  cases hz : (T.at e).zero[j]? with
  | none => rw [hz] at hx; simp at hx
  | some y => rw [hz] at hx; simp at hx; subst hx; exact .c _ _ (hr j y u hz (by simpa using hu))) hk
 simpa using this
theorem w7u (h : St X S pl w m) (e site : Nat) {x : AV} {a : Value} (hx : RelV S pl w m x a) (hk : boxW site m x K) : Did X S pl w m ((Instr.box e a).run P w) K := by
 obtain ⟨hs, hk⟩ := hk
 obtain ⟨hl, hr⟩ := z6e hx hs
 have hrun : (Instr.box e a).run P w = .ok (.pointer (some ⟨w.heap.size, 0, none⟩)) (w.alloc (.cells a.cells e)) := by
  unfold Instr.box
  simp only [Sem.run_bind, newVar, newRow, run_newObj, Sem.run_pure, Result.andThen_ok]; rfl
 rw [hrun]
 have := w9q (K := K) h site x.cells a.cells.toList e hl hr hk
 simpa using this
theorem w0t {w : World} {b o : Nat} {u : Value} (h : z0p w b o = some u) : ∃ e n, w.shape? b = some (e, n) ∧ o < n := by
 unfold z0p World.cell? at h
 unfold World.shape?
 cases hh : w.heap[b]? with
 | none => rw [hh] at h; simp at h
 | some ob =>
  rw [hh] at h
  cases ob with
  | cells cc e fr =>
   simp only [Option.isSome_none, Bool.false_eq_true, if_false] at h
   exact ⟨e, cc.size, rfl, by have := (Array.getElem?_eq_some_iff.1 h).1; exact this⟩
  | _ => simp at h
theorem w3q {x : AV} {K : CV → Mem → Prop} (hk : z3h m x K) : x.solid = true ∧ ∃ y m', K y m' := by
 cases x <;> simp only [z3h] at hk
 ·exact ⟨rfl, _, _, hk⟩
 ·split at hk
  ·exact ⟨rfl, _, _, hk.2.2⟩
  ·exact hk.elim
theorem z5c : ∀ (xs : List AV) {m : Mem} {K : List CV → Mem → Prop}, z4r m xs K → ∀ z ∈ xs, z.solid = true
 | [], _, _, _, z, hz => by simp at hz
 | x :: xs, m, K, hk, z, hz => by
  obtain ⟨h1, y, m', h2⟩ := w3q hk
  rcases List.mem_cons.1 hz with rfl | hz
  ·exact h1
  ·exact z5c xs h2 z hz
theorem w1q (hT : TabOk P T) (h : St X S pl w m) {t s : Nat} (hs : (T.at t).size = s + 1) {x y : AV} {a b : Value} (hx : RelV S pl w m x a) (hy : RelV S pl w m y b) {K : Mem → Prop} (hk : w1r (s + 1) m x y K) :
  ∃ w' S' m', (Instr.storeAt t a b).run P w = .ok () w' ∧ K m' ∧ St X S' pl w' m' ∧ Keeps S S' pl pl w w' m m' := by
 obtain ⟨hkn, hsz, hag, hz⟩ := hT.ti (t := t) (by rw [hs]; omega)
 rw [hs] at hsz
 have run : ∀ (b' o : Nat) (us : List Value), b.cells.toList = us → us.length = s + 1 → (∀ j, j < us.length → (z0p w b' (o + j)).isSome = true) → (∀ j, j < us.length → w.frozen? ⟨b', o + j, none⟩ = false) → (∀ v ∈ us, v.oneCell' = true) →
   (Instr.storeAt t (.pointer (some ⟨b', o, none⟩)) b).run P w = .ok () (w.setCells b' o us) := by
  intro b' o us hus hl hc hf h1
  unfold Instr.storeAt storeVar
  simp only [Sem.run_bind, Instr.sureAddr, Sem.run_pure, Result.andThen_ok, z0t hkn, hsz]
  rw [if_neg (by rw [← Array.length_toList, hus, hl]; simp), hus]
  have := run_storeCells_cells (P := P) b' o us 0 w (by simpa using hc) (by simpa using hf) h1
  simpa using this
 unfold w1r at hk
 split at hk
 ·rename_i id ver o
  cases hx with | p _ _ _ b' q hv hx =>
  split at hk
  ·rename_i v cs hg
   obtain ⟨rfl, hlen, hsol, hle, hdd, hK⟩ := hk
   obtain ⟨_, hb⟩ := hx _ hg rfl
   obtain ⟨hl, hr⟩ := z6e hy hsol
   obtain ⟨hv', h1, h2, hf⟩ := h.inv.ob id _ hg
   have hb1 : (pl id).1 = b' := by rw [← hb]
   have hb2 : (pl id).2 = q := by rw [← hb]
   rw [hb1, hb2] at hf; rw [hb1] at h2
   obtain ⟨hst, hkp⟩ := h.setBlk hg o y.cells b.cells.toList hl (by omega) (by rw [hlen]; exact hdd) hr
   rw [hb1, hb2] at hst hkp
   have hcell : ∀ j, j < s + 1 → ∃ u, z0p w b' (q + o + j) = some u := fun j hj => by
    have hx' : cs[o + j]? = some cs[o + j] := List.getElem?_eq_getElem (by omega)
    obtain ⟨u', hu', _⟩ := hf (o + j) _ hx'
    exact ⟨u', by rw [Nat.add_assoc]; exact hu'⟩
   refine ⟨_, S, _, run b' (q + o) _ rfl (by omega) (fun j hj => ?_) (fun j hj => ?_) (fun v hv => ?_), hK, hst, hkp⟩
   ·obtain ⟨u, hu⟩ := hcell j (by omega); rw [hu]; rfl
   ·obtain ⟨u, hu⟩ := hcell j (by omega)
    cases hz : w.frozen? ⟨b', q + o + j, none⟩ with
    | false => rfl
    | true =>
     obtain ⟨e, n, hsh, hlt⟩ := w0t hu
     have := h2 _ hz e n hsh
     omega
   ·obtain ⟨j, hj⟩ := List.mem_iff_getElem?.1 hv
    have hjl : j < y.cells.length := by rw [← hl]; exact (List.getElem?_eq_some_iff.1 hj).1
    have hyj : y.cells[j]? = some y.cells[j] := List.getElem?_eq_getElem hjl
    exact w1z (hr j _ v hyj hj) (hsol _ (List.mem_of_getElem? hyj))
  ·exact hk.elim
 ·rename_i id ver i o
  have hsol := z5c _ hk
  obtain ⟨hl, hr⟩ := z6e hy hsol
  obtain ⟨S1, ys, m1, hk1, hlen, hys, hst1, hkp1⟩ := z5b y.cells b.cells.toList h hl hr hk
  have hx1 := hx.mono hkp1
  clear hk hx
  cases hx1 with | tp _ _ _ _ b' q hv hx =>
  split at hk1
  ·rename_i v sz es cap pub hg
   obtain ⟨rfl, rfl, hlen2, hi, hle, hK⟩ := hk1
   obtain ⟨sz', es', cap', pub', heq, _, hb, hq⟩ := hx _ hg rfl
   injection heq with _ q1 q2 q3 q4; subst q1 q2 q3 q4
   obtain ⟨hv', h0, h1, h2, ⟨e3, capn, hs3, hle3, hcap3⟩, ⟨hl3, f, hc, hrf⟩, hp⟩ := hst1.inv.ob id _ hg
   have he : es[i]? = some es[i] := List.getElem?_eq_getElem hi
   have hd : es.getD i [] = es[i] := by simp [List.getD, he]
   rw [hd] at hle hK
   have hei := hl3 i _ he
   have hus : b.cells.toList.length = s + 1 := by omega
   have hmul : i * sz + sz ≤ es.length * sz := by
    have : (i + 1) * sz ≤ es.length * sz := Nat.mul_le_mul_right sz hi
    rwa [Nat.add_mul, Nat.one_mul] at this
   have hmul2 : es.length * sz ≤ capn * sz := Nat.mul_le_mul_right sz hle3
   obtain ⟨S2, hst2, hkp2⟩ := hst1.setArr hg (i * sz + o) b.cells.toList (es.set i (putAt es[i] o ys)) cap (capn := capn) hs3 (by omega) (by simp) (by simp) (by simpa using hle3) hcap3
    (fun j e hj => by
     rw [List.getElem?_set] at hj
     split at hj
     ·injection hj with hj; subst hj; rw [z3n _ _ _ (by omega)]; exact hei
     ·exact hl3 j e hj) (fun k hk => .inl (by simpa using hk)) (fun g hg' j t e x hj hx => by
     rw [List.getElem?_set] at hj
     split at hj
     ·rename_i hij; subst hij
      injection hj with hj; subst hj
      rw [z1z _ _ _ (by omega)] at hx
      have ht : t < sz := by
       rcases Nat.lt_or_ge t sz with q | q
       ·exact q
       ·exfalso
        split at hx
        ·omega
        ·split at hx
         ·omega
         ·rw [List.getElem?_eq_none (by omega)] at hx; simp at hx
      by_cases q1 : t < o
      ·rw [if_pos q1] at hx; rw [if_neg (by omega)]; exact hg' i t _ x he hx
      ·rw [if_neg q1] at hx
       by_cases q2 : t < o + ys.length
       ·rw [if_pos q2] at hx
        rw [if_pos ⟨by omega, by omega⟩, show i * sz + t - (i * sz + o) = t - o by omega]
        have hu : b.cells.toList[t - o]? = some b.cells.toList[t - o] := List.getElem?_eq_getElem (by omega)
        have := hys (t - o) x _ hx hu
        simpa [List.getD, hu] using this
       ·rw [if_neg q2] at hx; rw [if_neg (by omega)]; exact hg' i t _ x he hx
     ·rename_i hij
      have hjl : j < es.length := (List.getElem?_eq_some_iff.1 hj).1
      have htl : t < sz := by have := (List.getElem?_eq_some_iff.1 hx).1; rw [hl3 j e hj] at this; exact this
      have hne : ¬ (i * sz + o ≤ j * sz + t ∧ j * sz + t < i * sz + o + b.cells.toList.length) := by
       rintro ⟨g1, g2⟩
       rcases Nat.lt_or_gt_of_ne hij with q | q
       ·have : (i + 1) * sz ≤ j * sz := Nat.mul_le_mul_right sz q
        rw [Nat.add_mul, Nat.one_mul] at this; omega
       ·have : (j + 1) * sz ≤ i * sz := Nat.mul_le_mul_right sz q
        rw [Nat.add_mul, Nat.one_mul] at this; omega
      rw [if_neg hne]; exact hg' j t e x hj hx)
   rw [← hb] at hst2 hkp2 h2 hs3
   subst hq
   have hcell : ∀ j, j < b.cells.toList.length → ∃ u, z0p w b' (i * sz + o + j) = some u := fun j hj => ⟨_, by rw [hb]; exact hc (i * sz + o + j) (by omega)⟩
   refine ⟨_, S2, _, run b' (i * sz + o) _ rfl hus (fun j hj => ?_) (fun j hj => ?_) (fun v hv => ?_), hK, hst2, hkp1.trans hkp2⟩
   ·obtain ⟨u, hu⟩ := hcell j hj; rw [hu]; rfl
   ·cases hz : w.frozen? ⟨b', i * sz + o + j, none⟩ with
    | false => rfl
    | true => have := h2.1 _ hz _ _ hs3; omega
   ·obtain ⟨j, hj⟩ := List.mem_iff_getElem?.1 hv
    have hjl : j < y.cells.length := by rw [← hl]; exact (List.getElem?_eq_some_iff.1 hj).1
    have hyj : y.cells[j]? = some y.cells[j] := List.getElem?_eq_getElem hjl
    exact w1z (hr j _ v hyj hj) (hsol _ (List.mem_of_getElem? hyj))
  ·exact hk1.elim
 ·exact hk.elim
end
end Go.Proofs.Ythncmjlcmlmnmaa.V
namespace Go.Proofs.Ythncmjlcmlmnmaa.V
open Go Go.RowKit
section
variable {P : Program} {T : Tab} {X : Ctx} {S : Area} {pl : Place} {w : World} {m : Mem} {K : KK}
theorem w3b (off : Nat) : ∀ (vs : List Value) (k : Nat) (cells : Array Value), off + k + vs.length ≤ cells.size →
  ((vs.zipIdx k).foldl (fun (cs : Array Value) (p : Value × Nat) => cs.setIfInBounds (off + p.2) p.1) cells).toList = putAt cells.toList (off + k) vs
 | [], k, cells, _ => by simp [putAt]
 | v :: vs, k, cells, h => by
  simp only [List.length_cons] at h
  rw [List.zipIdx_cons, List.foldl_cons, w3b off vs (k + 1) _ (by simp; omega)]
  apply List.ext_getElem?
  intro j
  have h2 : off + (k + 1) + vs.length ≤ (cells.setIfInBounds (off + k) v).toList.length := by simp; omega
  have h3 : off + k + (v :: vs).length ≤ cells.toList.length := by simp; omega
  rw [z1z _ _ _ h2, z1z _ _ _ h3]
  simp only [Array.toList_setIfInBounds, List.length_cons, List.getElem?_set, Array.length_toList]
  by_cases h4 : j < off + k
  ·rw [if_pos (by omega), if_pos h4, if_neg (by omega)]
  ·rw [if_neg h4]
   by_cases h5 : j = off + k
   ·subst h5; rw [if_pos (by omega), if_pos (by omega)]; simp; omega
   ·rw [if_neg (by omega)]
    by_cases h6 : j < off + (k + 1) + vs.length
    ·rw [if_pos h6, if_pos (by omega), show j - (off + k) = (j - (off + (k + 1))) + 1 by omega]; simp
    ·rw [if_neg h6, if_neg (by omega), if_neg (by omega)]
theorem k2b (cells : Array Value) (off : Nat) (v : Value) (h : off + v.cells.size ≤ cells.size) :
  (v.cells.zipIdx.foldl (fun (cs : Array Value) (p : Value × Nat) => cs.setIfInBounds (off + p.2) p.1) cells).toList = putAt cells.toList off v.cells.toList := by
 rw [← Array.foldl_toList, Array.toList_zipIdx]
 have := w3b off v.cells.toList 0 cells (by simpa using h)
 simpa using this
def CellsRel (S : Area) (pl : Place) (w : World) (m : Mem) (cs : List AV) (us : List Value) : Prop := us.length = cs.length ∧ ∀ (j : Nat) x u, cs[j]? = some x → us[j]? = some u → RelV S pl w m x u
theorem CellsRel.put {cs xs : List AV} {us vs : List Value} (h : CellsRel S pl w m cs us) (k : CellsRel S pl w m xs vs) (o : Nat) (ho : o + xs.length ≤ cs.length) : CellsRel S pl w m (putAt cs o xs) (putAt us o vs) := by
 have ho' : o + vs.length ≤ us.length := by rw [h.1, k.1]; exact ho
 refine ⟨by rw [z3n _ _ _ ho, z3n _ _ _ ho', h.1], fun j x u hx hu => ?_⟩
 rw [z1z _ _ _ ho] at hx
 rw [z1z _ _ _ ho', k.1] at hu
 split at hx
 ·rename_i hj; rw [if_pos hj] at hu; exact h.2 j x u hx hu
 ·rename_i hj; rw [if_neg hj] at hu
  split at hx
  ·rename_i hj2; rw [if_pos hj2] at hu; exact k.2 _ x u hx hu
  ·rename_i hj2; rw [if_neg hj2] at hu; exact h.2 j x u hx hu
theorem k0p {x : AV} {u : Value} (hr : RelV S pl w m x u) (hs : ∀ y ∈ x.cells, y.solid = true) : CellsRel S pl w m x.cells u.cells.toList := z6e hr hs
theorem z7c (place : Nat → Option (Nat × Nat)) : ∀ (ps : List (Nat × AV)) (vs : List (Nat × Value)) (cs : List AV) (cells : Array Value), CellsRel S pl w m cs cells.toList → vs.length = ps.length →
  (∀ (j : Nat) p q, ps[j]? = some p → vs[j]? = some q → p.1 = q.1 ∧ RelV S pl w m p.2 q.2) → ∀ cs', fillA place cs ps = some cs' → ∃ cells', Instr.fill place cells vs = some cells' ∧ CellsRel S pl w m cs' cells'.toList
 | [], [], cs, cells, h, _, _, cs', hf => by simp only [fillA, Option.some.injEq] at hf; subst hf; exact ⟨cells, rfl, h⟩
 | [], _ :: _, _, _, _, hl, _, _, _ => by simp at hl
 | _ :: _, [], _, _, _, hl, _, _, _ => by simp at hl
 | (i, x) :: ps, (i', u) :: vs, cs, cells, h, hl, hr, cs', hf => by
  obtain ⟨hi, hx⟩ := hr 0 (i, x) (i', u) rfl rfl
  simp only at hi hx; subst hi
  simp only [fillA] at hf
  cases hp : place i with
  | none => rw [hp] at hf; simp at hf
  | some q =>
   obtain ⟨off, size⟩ := q
   rw [hp] at hf
   simp only at hf
   split at hf
   ·simp at hf
   ·rename_i hn
    simp only [not_or] at hn
    obtain ⟨h1, h2, h3⟩ := hn
    have hsz : x.cells.length = size := by omega
    have hsol : ∀ y ∈ x.cells, y.solid = true := List.all_eq_true.1 (by simpa using h3)
    have hc := k0p hx hsol
    have hlen : u.cells.size = size := by rw [← Array.length_toList, hc.1, hsz]
    have hcl : cells.size = cs.length := by rw [← Array.length_toList, h.1]
    simp only [Instr.fill, hp]
    rw [if_neg (by simp; omega)]
    refine z7c place ps vs _ _ ?_ (by simpa using hl) (fun j p q hp' hq' => hr (j + 1) p q (by simpa using hp') (by simpa using hq')) cs' hf
    have := k2b cells off u (by omega)
    rw [show (fun (cs : Array Value) (x : Value × Nat) => match x with | (c, j) => cs.setIfInBounds (off + j) c) = (fun (cs : Array Value) (p : Value × Nat) => cs.setIfInBounds (off + p.2) p.1) from rfl, this]
    exact h.put hc off (by omega)
theorem w5r {α β : Type} (f : α → Sem β) (g : α → β) : ∀ (l : List α), (∀ x ∈ l, (f x).run P w = .ok (g x) w) → (l.mapM f).run P w = .ok (l.map g) w
 | [], _ => rfl
 | x :: l, h => by
  rw [List.mapM_cons]
  simp only [Sem.run_bind, h x (by simp), Result.andThen_ok, w5r f g l (fun y hy => h y (by simp [hy])), Sem.run_pure, List.map_cons]
theorem k1o {α β : Type} (f : α → Sem β) (g : α → β) (a : Array α) (h : ∀ x ∈ a.toList, (f x).run P w = .ok (g x) w) : (a.mapM f).run P w = .ok (a.map g) w := by
 rw [Array.mapM_eq_mapM_toList]
 simp only [Sem.run_map, w5r f g a.toList h, Result.andThen_ok]
 congr 1
 apply Array.ext'; simp
theorem w6u {z : List CV} {v : Value} (hl : z.length = v.cells.size) (hr : ∀ (i : Nat) x u, z[i]? = some x → v.cells[i]? = some u → RelC S w x u) : CellsRel S pl w m (z.map .c) v.cells.toList := by
 refine ⟨by simp [hl], fun j x u hx hu => ?_⟩
 rw [List.getElem?_map] at hx
 cases hz : z[j]? with
 | none => rw [hz] at hx; simp at hx
 | some y => rw [hz] at hx; simp at hx; subst hx; exact .c _ _ (hr j y u hz (by simpa using hu))
theorem w3v (hT : TabOk P T) (h : St X S pl w m) {t : Nat} {ps : List (Nat × AV)} {vs : List (Nat × Value)} (hl : vs.length = ps.length) (hr : ∀ (j : Nat) p q, ps[j]? = some p → vs[j]? = some q → p.1 = q.1 ∧ RelV S pl w m p.2 q.2)
  (hk : match (T.at t).k with
   | .st fs => z2t (z5o fs) (T.at t).zero ps m K
   | .ar _ esz _ => z2t (fun i => some (i * esz, esz)) (T.at t).zero ps m K
   | _ => False) : Did X S pl w m ((Instr.build t vs.toArray).run P w) K := by
 have go : ∀ place : Nat → Option (Nat × Nat), z2t place (T.at t).zero ps m K → ∀ v : Value, (T.at t).zero.length = v.cells.size → (∀ (i : Nat) x u, (T.at t).zero[i]? = some x → v.cells[i]? = some u → RelC S w x u) →
   ∃ cells', Instr.fill place v.cells vs = some cells' ∧ ∃ cs, K (.agg cs) m ∧ CellsRel S pl w m cs cells'.toList := by
  intro place hb v h1 h2
  unfold z2t at hb
  split at hb
  ·rename_i cs' hf
   obtain ⟨cells', hc, hrel⟩ := z7c place ps vs _ v.cells (w6u h1 h2) hl hr cs' hf
   exact ⟨cells', hc, cs', hb, hrel⟩
  ·exact hb.elim
 have fin : ∀ (cells' : Array Value) (cs : List AV), CellsRel S pl w m cs cells'.toList → RelV S pl w m (.agg cs) (.agg cells') := fun cells' cs hc => by
  have := RelV.agg (S := S) (pl := pl) (w := w) (m := m) cs cells'.toList hc.1 hc.2
  simpa using this
 split at hk
 ·rename_i fs hs
  obtain ⟨ht, hz, hkn⟩ := hT.tk (t := t) (by rw [hs]; rfl)
  obtain ⟨v, hrun, h1, h2⟩ := z6z hz hkn S w
  rw [hs] at ht; simp only [tkOk] at ht
  split at ht
  ·rename_i fields hu
   simp only [Bool.and_eq_true, beq_iff_eq, List.all_eq_true] at ht
   obtain ⟨hmap, hall⟩ := ht
   have hpl : (fun i => (fields.map fun f => (f.offset, P.cellsOf f.type))[i]?) = z5o fs := by
    funext i
    unfold z5o
    rw [← hmap, List.getElem?_map, ← Array.getElem?_toList, Array.toList_map, List.getElem?_map]
    cases fields.toList[i]? <;> rfl
   obtain ⟨cells', hfill, cs, hK, hrel⟩ := go _ hk v h1 h2
   unfold Instr.build
   have hmm := k1o (P := P) (w := w) (fun f : Field => (do pure (f.offset, ← sizeOf f.type) : Sem (Nat × Nat))) (fun f => (f.offset, P.cellsOf f.type)) fields (fun f hf => by
    simp only [Sem.run_bind, z0t (hall f hf), Result.andThen_ok, Sem.run_pure])
   simp only [Sem.run_bind, hrun, Result.andThen_ok, run_underlying hu, hmm, hpl, hfill, Sem.run_pure]
   exact Did.same h hK (fin _ _ hrel)
  ·simp at ht
 ·rename_i n esz ea hs
  obtain ⟨e, hu, hsz, _, hkn, _⟩ := z6w hT hs
  obtain ⟨_, hz, hknt⟩ := hT.tk (t := t) (by rw [hs]; rfl)
  obtain ⟨v, hrun, h1, h2⟩ := z6z hz hknt S w
  obtain ⟨cells', hfill, cs, hK, hrel⟩ := go _ hk v h1 h2
  unfold Instr.build
  simp only [Sem.run_bind, hrun, Result.andThen_ok, run_underlying hu, z0t hkn, hsz, hfill, Sem.run_pure]
  exact Did.same h hK (fin _ _ hrel)
 ·exact hk.elim
theorem z1o {α : Type} (l : List α) : ∀ n, (repL n l).length = n * l.length
 | 0 => by simp [repL]
 | n + 1 => by rw [repL, List.length_append, z1o l n, Nat.add_mul]; omega
theorem z6d {α : Type} (l : List α) (hl : 0 < l.length) : ∀ (n i : Nat), i < n * l.length → (repL n l)[i]? = l[i % l.length]?
 | 0, i, h => by simp at h
 | n + 1, i, h => by
  rw [repL]
  by_cases hi : i < l.length
  ·rw [List.getElem?_append_left hi, Nat.mod_eq_of_lt hi]
  ·rw [List.getElem?_append_right (by omega), z6d l hl n _ (by rw [Nat.add_mul] at h; omega)]
   congr 1
   rw [← Nat.mod_eq_sub_mod (by omega)]
theorem w5h (z : Array Value) (n : Nat) (hz : 0 < z.size) : (Array.range (n * z.size)).map (z[· % z.size]!) = (repL n z.toList).toArray := by
 apply Array.ext'
 simp only [Array.toList_map, Array.toList_range]
 apply List.ext_getElem?
 intro i
 by_cases hi : i < n * z.size
 ·have := z6d z.toList (by simpa using hz) n i (by simpa using hi)
  rw [this, List.getElem?_map, List.getElem?_range hi]
  have hm : i % z.size < z.size := Nat.mod_lt _ hz
  simp [hm]
 ·rw [List.getElem?_eq_none (by simp; omega), List.getElem?_eq_none (by rw [z1o]; simp; omega)]
theorem w0l {α : Type} (sz : Nat) (hsz : 0 < sz) : ∀ (n : Nat) (l : List α), l.length = n * sz → (z5m sz n l).length = n ∧ ∀ (i : Nat) e, (z5m sz n l)[i]? = some e → e.length = sz ∧ ∀ j, j < sz → e[j]? = l[i * sz + j]?
 | 0, l, _ => ⟨rfl, fun i e h => by simp [z5m] at h⟩
 | n + 1, l, h => by
  rw [Nat.add_mul, Nat.one_mul] at h
  obtain ⟨h1, h2⟩ := w0l sz hsz n (l.drop sz) (by rw [List.length_drop]; omega)
  refine ⟨by simp [z5m, h1], fun i e he => ?_⟩
  cases i with
  | zero =>
   simp [z5m] at he; subst he
   exact ⟨by rw [List.length_take]; omega, fun j hj => by rw [List.getElem?_take_of_lt hj]; simp⟩
  | succ i =>
   simp [z5m] at he
   obtain ⟨h3, h4⟩ := h2 i e he
   exact ⟨h3, fun j hj => by rw [h4 j hj, List.getElem?_drop]; congr 1; rw [Nat.add_mul]; omega⟩
theorem z7e (hT : TabOk P T) (h : St X S pl w m) {t len esz eb : Nat} {ea u8 : Bool} (hs : (T.at t).k = .sl esz ea eb u8) (site : Nat) {ps : List (Nat × AV)} {vs : List (Nat × Value)} (hl : vs.length = ps.length)
  (hr : ∀ (j : Nat) p q, ps[j]? = some p → vs[j]? = some q → p.1 = q.1 ∧ RelV S pl w m p.2 q.2) (hk : z4n site esz (T.at t).ezero len ps m K) : Did X S pl w m ((Instr.buildSlice t len vs.toArray).run P w) K := by
 obtain ⟨e, hu, hsz, _, hkn, hpos, _, _, ⟨hz, hzl⟩, _⟩ := z1h hT hs
 obtain ⟨v, hrun, h1, h2⟩ := z6z hz hkn S w
 obtain ⟨hle, hk⟩ := hk
 have hvz : v.cells.size = esz := by omega
 split at hk
 ·rename_i cs' hf
  have hstart : CellsRel S pl w m ((repL len (T.at t).ezero).map .c) (repL len v.cells.toList) := by
   refine ⟨by rw [z1o, List.length_map, z1o, Array.length_toList, h1], fun j x u hx hu' => ?_⟩
   have hj : j < len * esz := by have := (List.getElem?_eq_some_iff.1 hu').1; rw [z1o, Array.length_toList, hvz] at this; exact this
   rw [List.getElem?_map, z6d _ (by omega) len j (by rw [hzl]; exact hj)] at hx
   rw [z6d _ (by rw [Array.length_toList]; omega) len j (by rw [Array.length_toList, hvz]; exact hj)] at hu'
   rw [hzl] at hx; rw [Array.length_toList, hvz] at hu'
   cases hq : (T.at t).ezero[j % esz]? with
   | none => rw [hq] at hx; simp at hx
   | some y => rw [hq] at hx; simp at hx; subst hx; exact .c _ _ (h2 _ y u hq (by simpa using hu'))
  obtain ⟨cells', hfill, hrel⟩ := z7c (S := S) (pl := pl) (w := w) (m := m) _ ps vs _ (repL len v.cells.toList).toArray (by simpa using hstart) hl hr cs' hf
  have hsolid := z5c _ hk
  obtain ⟨S1, ys, m1, hk1, hlen, hys, hst1, hkp1⟩ := z5b cs' cells'.toList h hrel.1 hrel.2 hk
  have hlc : cells'.size = len * esz := by
   have hp : ∀ (ps : List (Nat × AV)) (cs cs' : List AV), fillA (fun i => some (i * esz, esz)) cs ps = some cs' → cs'.length = cs.length := by
    intro ps
    induction ps with
    | nil => intro cs cs' hf; simp only [fillA, Option.some.injEq] at hf; rw [hf]
    | cons p ps ih =>
     intro cs cs' hf
     obtain ⟨i, x⟩ := p
     simp only [fillA] at hf
     split at hf
     ·simp at hf
     ·rename_i hn; simp only [not_or] at hn
      rw [ih _ _ hf, z3n _ _ _ (by omega)]
   rw [← Array.length_toList, hrel.1, hp ps _ _ hf, List.length_map, z1o, hzl]
  have hylen : ys.length = len * esz := by rw [hlen, ← hrel.1, Array.length_toList, hlc]
  obtain ⟨hcl, hcg⟩ := w0l esz hpos len ys hylen
  have hrun2 : (Instr.buildSlice t len vs.toArray).run P w = .ok (.slice (some ⟨w.heap.size, 0, none⟩) len len) (w.alloc (.cells cells' e)) := by
   unfold Instr.buildSlice
   simp only [Sem.run_bind, run_underlying hu, Result.andThen_ok, z0t hkn, hsz]
   rw [if_neg (by omega)]
   by_cases h0 : len * esz = 0
   ·have hl0 : len = 0 := by rcases Nat.mul_eq_zero.1 h0 with q | q; exact q; omega
    subst hl0
    simp only [repL] at hfill
    simp only [Nat.zero_mul, if_true, Sem.run_bind, Sem.run_pure, Result.andThen_ok]
    rw [show Array.map (fun x => (#[] : Array Value)[x % (#[] : Array Value).size]!) (Array.range 0) = [].toArray by simp, hfill]
    simp only [newRow, Sem.run_bind, run_newObj, Sem.run_pure]; rfl
   ·simp only [if_neg h0, Sem.run_bind, hrun, Result.andThen_ok, Sem.run_pure]
    have harr := w5h v.cells len (by omega)
    rw [hvz] at harr
    rw [show v.cells.size = esz from hvz, harr, hfill]
    simp only [newRow, Sem.run_bind, run_newObj, Sem.run_pure]; rfl
  rw [hrun2]
  have := z8q (K := K) hst1 site esz (z5m esz len ys) (some len) false cells'.toList [] e (0, 0) len len hpos (fun i e he => (hcg i e he).1) (by rw [hcl]; simpa using hlc) (by simpa using hlc) (fun c hc => by injection hc) (.inl (Nat.le_refl _)) (by omega) (fun _ => by have := Nat.le_mul_of_pos_right len hpos; omega)
   (fun i j e x he hx => by
    have hj : j < esz := by have := (List.getElem?_eq_some_iff.1 hx).1; rw [(hcg i e he).1] at this; exact this
    rw [(hcg i e he).2 j hj] at hx
    have hlt : i * esz + j < cells'.toList.length := by rw [Array.length_toList, hlc, ← hylen]; exact (List.getElem?_eq_some_iff.1 hx).1
    have hu' : cells'.toList[i * esz + j]? = some cells'.toList[i * esz + j] := List.getElem?_eq_getElem hlt
    have := hys _ x _ hx hu'
    simpa [List.getD, hu'] using this) hk1
  simp only [List.append_nil] at this
  obtain ⟨u, w', S', pl', v', m', e1, e2, e3, e4, e5⟩ := this
  exact ⟨u, w', S', pl', v', m', by simpa using e1, e2, e3, e4, hkp1.trans e5⟩
 ·exact hk.elim
theorem z7u (hT : TabOk P T) (h : St X S pl w m) {t esz eb : Nat} {ea u8 : Bool} (hs : (T.at t).k = .sl esz ea eb u8) (site : Nat) {l c : AV} {lv cv : Value} (hl : RelV S pl w m l lv) (hc : RelV S pl w m c cv)
  (hk : z5e site esz eb (T.at t).ezero m l c K) : Did X S pl w m ((Instr.makeSlice t lv cv).run P w) K := by
 obtain ⟨e, hu, hsz, heb, hkn, hpos, hb1, hb2, ⟨hz, hzl⟩, _⟩ := z1h hT hs
 obtain ⟨v, hrun, h1, h2⟩ := z6z hz hkn S w
 unfold z5e at hk
 split at hk
 ·rename_i k1 l k2 c
  have e1 := z0z hl; subst e1
  have e2 := z0z hc; subst e2
  obtain ⟨h3, h4, h5, hK⟩ := hk
  obtain ⟨i, d, hi, _⟩ := z2y hkn
  have hbytes : i.bytes = eb := by rw [← heb]; unfold Program.bytesOf; rw [hi]; rfl
  have hc46 : c ≤ 2 ^ 46 := by
   have : c * 1 ≤ c * (eb : Int) := Int.mul_le_mul_of_nonneg_left (by omega) (by omega)
   omega
  have hw : ∀ n : Int, 0 ≤ n → n ≤ 2 ^ 46 → IntKind.i64.wrap n = n := fun n g1 g2 => IntWalk.i64_in n ⟨by omega, by omega⟩
  have hvz : v.cells.size = esz := by omega
  have hct : (c.toNat : Int) = c := Int.toNat_of_nonneg (by omega)
  have hlt : (l.toNat : Int) = l := Int.toNat_of_nonneg (by omega)
  have hrun2 : (Instr.makeSlice t (.int k1 l) (.int k2 c)).run P w = .ok (.slice (some ⟨w.heap.size, 0, none⟩) l.toNat c.toNat) (w.alloc (.cells (repL c.toNat v.cells.toList).toArray e)) := by
   unfold Instr.makeSlice
   simp only [Sem.run_bind, run_underlying hu, Result.andThen_ok, asInt, asIntOf, Sem.run_pure, run_typeInfo w hi, hbytes, hw l h3 (by omega), hw c (by omega) hc46]
   have hpow : (2 : Int) ^ 46 ≤ 2 ^ 48 := by decide
   rw [if_neg (by
    simp only [Bool.or_eq_true, decide_eq_true_eq, not_or]
    refine ⟨⟨⟨by omega, ?_⟩, by omega⟩, by omega⟩
    rw [Int.mul_comm]; omega)]
   by_cases h0 : c.toNat * esz = 0
   ·have hl0 : c.toNat = 0 := by rcases Nat.mul_eq_zero.1 h0 with q | q; exact q; omega
    simp only [Sem.run_bind, run_askRoom, Result.andThen_ok, z0t hkn, hsz]
    rw [if_pos h0, h0, hl0]
    simp only [Sem.run_bind, Sem.run_pure, Result.andThen_ok, newRow, run_newObj]
    rw [show Array.map (fun x => (#[] : Array Value)[x % (#[] : Array Value).size]!) (Array.range 0) = [].toArray by simp]; rfl
   ·simp only [Sem.run_bind, run_askRoom, Result.andThen_ok, z0t hkn, hsz]
    rw [if_neg h0]
    simp only [Sem.run_bind, hrun, Result.andThen_ok, Sem.run_pure]
    have harr := w5h v.cells c.toNat (by omega)
    rw [hvz] at harr
    rw [show v.cells.size = esz from hvz, harr]
    simp only [newRow, Sem.run_bind, run_newObj, Sem.run_pure]; rfl
  rw [hrun2]
  have hsplit : repL c.toNat v.cells.toList = repL l.toNat v.cells.toList ++ repL (c.toNat - l.toNat) v.cells.toList := by
   have : ∀ a b, repL (a + b) v.cells.toList = repL a v.cells.toList ++ repL b v.cells.toList := fun a b => by
    induction a with
    | zero => simp [repL]
    | succ a ih => rw [show a + 1 + b = (a + b) + 1 by omega, repL, ih, repL, List.append_assoc]
   rw [← this]; congr 1; omega
  have hvl : v.cells.toList.length = esz := by simpa using hvz
  rw [hsplit]
  refine z8q (K := K) h site esz (List.replicate l.toNat (T.at t).ezero) (some c.toNat) false _ _ e (0, 0) l.toNat c.toNat hpos (fun i e he => ?_) (by rw [z1o, List.length_replicate, hvl]) ?_ (fun c' hc' => by injection hc') (.inl (Nat.le_refl _)) (by simp) (fun _ => by omega) (fun i j e x he hx => ?_) hK
  ·rw [List.getElem?_replicate] at he
   split at he
   ·injection he with he; subst he; exact hzl
   ·simp at he
  ·rw [← hsplit, z1o, hvl]
  ·rw [List.getElem?_replicate] at he
   split at he
   ·injection he with he; subst he
    rename_i hil
    have hj : j < esz := by have := (List.getElem?_eq_some_iff.1 hx).1; omega
    have hij : i * esz + j < l.toNat * v.cells.toList.length := by
     have : (i + 1) * esz ≤ l.toNat * esz := Nat.mul_le_mul_right esz hil
     rw [Nat.add_mul, Nat.one_mul] at this; rw [hvl]; omega
    have hg := z6d v.cells.toList (by omega) l.toNat (i * esz + j) hij
    rw [hvl, Nat.add_comm, Nat.add_mul_mod_self_right, Nat.mod_eq_of_lt hj, Nat.add_comm] at hg
    have hvj : v.cells.toList[j]? = some v.cells.toList[j] := List.getElem?_eq_getElem (by omega)
    have := h2 j x _ hx (by rw [← Array.getElem?_toList]; exact hvj)
    simpa [List.getD, hg, hvj] using this
   ·simp at he
 ·exact hk.elim
end
end Go.Proofs.Ythncmjlcmlmnmaa.V
