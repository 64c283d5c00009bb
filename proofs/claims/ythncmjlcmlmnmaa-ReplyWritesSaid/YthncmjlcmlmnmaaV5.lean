/- The table of types that the execution goes by, held against the program's own. Conditions: none. -/
import Derived.Test.YthncmjlcmlmnmaaV4
import Derived.ChangeKeysEq
import Derived.Laws.Entries
namespace Go.Proofs.Ythncmjlcmlmnmaa.V
open Go Go.RowKit

def aggB (P : Program) (t : TypeId) : Bool := match P.underlying t with | some (.struct _) | some (.array _ _) => true | _ => false
def zeroV : CV → Value
  | .v x => x
  | .sl _ _ _ => .slice none 0 0
  | .rp _ => .nilFunc
def simpleZ : CV → Value → Bool
  | .v (.int k n), .int k' n' => k == k' && n == n'
  | .v (.bool b), .bool b' => b == b'
  | .v (.string s), .string s' => s.data.toList == s'.data.toList
  | .v (.pointer none), .pointer none => true
  | .v (.map none), .map none => true
  | .v .nilFunc, .nilFunc => true
  | .v .nilIface, .nilIface => true
  | .sl _ [] (some []), .slice none 0 0 => true
  | _, _ => false
def zerosOk : List CV → List Value → Bool
  | [], [] => true
  | x :: xs, v :: vs => simpleZ x v && zerosOk xs vs
  | _, _ => false
def zeroOk (P : Program) (t : TypeId) (z : List CV) : Bool := match (P.info? t).bind (·.zero) with
  | some v => zerosOk z v.cells.toList
  | none => false
def known (P : Program) (t : TypeId) : Bool := (P.info? t).isSome && (P.underlying t).isSome
def fieldRow (P : Program) (f : Field) : Nat × Nat × Bool := (f.offset, P.cellsOf f.type, aggB P f.type)
def tkOk (P : Program) (t : TypeId) (ez : List CV) : TK → Bool
  | .sc => true
  | .bool => match P.underlying t with | some .bool => true | _ => false
  | .int k => match P.underlying t with | some (.int k') => k == k' | _ => false
  | .str => match P.underlying t with | some .string => true | _ => false
  | .st fs => match P.underlying t with | some (.struct fields) => fields.toList.map (fieldRow P) == fs && fields.toList.all fun f => known P f.type | _ => false
  | .ar n esz ea => match P.underlying t with | some (.array n' e) => n == n' && P.cellsOf e == esz && aggB P e == ea && known P e && decide (0 < esz) | _ => false
  | .sl esz ea eb u8 => match P.underlying t with
    | some (.slice e) => P.cellsOf e == esz && aggB P e == ea && P.bytesOf e == eb && known P e && decide (0 < esz) && decide (eb ≤ 2 ^ 30) && decide (0 < eb) && (zeroOk P e ez && ez.length == esz) &&
        (!u8 || (match P.underlying e with | some (.int .u8) => true | _ => false))
    | _ => false
  | .pt esz ea => match P.underlying t with | some (.pointer e) => P.cellsOf e == esz && aggB P e == ea && known P e && decide (0 < esz) | _ => false
def scalC (P : Program) (e : TypeId) (c : Nat) : Bool := match P.underlying e, c with
  | some (.int _), 1 => true
  | some .bool, 2 => true
  | some .string, 3 => true
  | _, _ => false
def flatFs (P : Program) : Nat → List Field → List Nat → Bool
  | _, [], [] => true
  | i, f :: fs, c :: cs => f.name != "_" && f.offset == i && scalC P f.type c && flatFs P (i + 1) fs cs
  | _, _, _ => false
def eqOk (P : Program) (t : TypeId) : List Nat → Bool
  | [] => true
  | cd => !P.eqGuardType P.depth t && match P.underlying t with | some (.struct fs) => !P.stoodInHeld t && flatFs P 0 fs.toList cd | _ => false
def tiOk (P : Program) (t : TypeId) (ti : TI) : Bool :=
  known P t && P.cellsOf t == ti.size && aggB P t == ti.agg && zeroOk P t ti.zero && tkOk P t ti.ezero ti.k && eqOk P t ti.eq
def tabOkFrom (P : Program) : Nat → List TI → Bool
  | _, [] => true
  | t, ti :: r => ((ti.size == 0 && ti.k.isSc) || tiOk P t ti) && tabOkFrom P (t + 1) r
def TabOk (P : Program) (T : Tab) : Prop := ∀ t, (T.at t).size ≠ 0 ∨ (T.at t).k.isSc = false → tiOk P t (T.at t) = true

theorem tabOkFrom_get (P : Program) : ∀ (l : List TI) (s : Nat), tabOkFrom P s l = true → ∀ i, (l.getD i TI.no).size ≠ 0 ∨ (l.getD i TI.no).k.isSc = false → tiOk P (s + i) (l.getD i TI.no) = true
  | [], _, _, i, h => by simp [TI.no, TK.isSc] at h
  | ti :: r, s, hc, 0, h => by
    simp only [tabOkFrom, Bool.and_eq_true, Bool.or_eq_true, beq_iff_eq] at hc
    simp only [List.getD_cons_zero] at h ⊢
    rcases hc.1 with ⟨h1, h2⟩ | h1
    · rw [h2] at h; simp [h1] at h
    · exact h1
  | ti :: r, s, hc, i + 1, h => by
    simp only [tabOkFrom, Bool.and_eq_true] at hc
    have := tabOkFrom_get P r (s + 1) hc.2 i (by simpa using h)
    simpa [Nat.add_assoc, Nat.add_comm 1 i] using this
theorem TabOk.of_check {P : Program} {T : Tab} (h : tabOkFrom P 0 T = true) : TabOk P T := fun t ht => by
  have := tabOkFrom_get P T 0 h t ht
  rwa [Nat.zero_add] at this

section
variable {P : Program} {T : Tab} {t : Nat}
theorem known_info (h : known P t = true) : ∃ i d, P.info? t = some i ∧ P.underlying t = some d := by
  unfold known at h
  simp only [Bool.and_eq_true, Option.isSome_iff_exists] at h
  obtain ⟨⟨i, hi⟩, ⟨d, hd⟩⟩ := h
  exact ⟨i, d, hi, hd⟩
theorem run_size_of (h : known P t = true) (w : World) : (sizeOf t).run P w = .ok (P.cellsOf t) w := by
  obtain ⟨i, d, hi, hd⟩ := known_info h
  exact run_sizeOf w hi
theorem run_agg_of (h : known P t = true) (w : World) : (isAgg t).run P w = .ok (aggB P t) w := by
  obtain ⟨i, d, hi, hd⟩ := known_info h
  unfold isAgg aggB
  simp only [Sem.run_bind, run_underlying hd, Result.andThen_ok, hd]
  cases d <;> rfl
theorem TabOk.ti (h : TabOk P T) (hs : (T.at t).size ≠ 0) : known P t = true ∧ P.cellsOf t = (T.at t).size ∧ aggB P t = (T.at t).agg ∧ zeroOk P t (T.at t).zero = true := by
  have := h t (.inl hs)
  simp only [tiOk, Bool.and_eq_true, beq_iff_eq] at this
  exact ⟨this.1.1.1.1.1, this.1.1.1.1.2, this.1.1.1.2, this.1.1.2⟩
theorem TabOk.tk (h : TabOk P T) (hs : (T.at t).k.isSc = false) : tkOk P t (T.at t).ezero (T.at t).k = true ∧ zeroOk P t (T.at t).zero = true ∧ known P t = true := by
  have := h t (.inr hs)
  simp only [tiOk, Bool.and_eq_true, beq_iff_eq] at this
  exact ⟨this.1.2, this.1.1.2, this.1.1.1.1.1⟩
theorem zerosOk_rel (S : Area) (w : World) : ∀ (z : List CV) (vs : List Value), zerosOk z vs = true → z.length = vs.length ∧ ∀ (i : Nat) x u, z[i]? = some x → vs[i]? = some u → RelC S w x u
  | [], [], _ => ⟨rfl, fun i x u h => by simp at h⟩
  | [], _ :: _, h => by simp [zerosOk] at h
  | _ :: _, [], h => by simp [zerosOk] at h
  | x :: z, v :: vs, h => by
    simp only [zerosOk, Bool.and_eq_true] at h
    obtain ⟨hl, hr⟩ := zerosOk_rel S w z vs h.2
    refine ⟨by simp [hl], fun i y u hy hu => ?_⟩
    cases i with
    | succ i => exact hr i y u (by simpa using hy) (by simpa using hu)
    | zero =>
      simp only [List.getElem?_cons_zero, Option.some.injEq] at hy hu
      subst hy hu
      have hx := h.1
      unfold simpleZ at hx
      split at hx <;> simp only [Bool.and_eq_true, beq_iff_eq, Bool.false_eq_true] at hx
      · obtain ⟨rfl, rfl⟩ := hx; exact .v _ rfl
      · subst hx; exact .v _ rfl
      · rename_i s s'
        have : s = s' := by cases s; cases s'; simp only at hx; congr 1; exact Array.ext' hx
        subst this; exact .v _ rfl
      · exact .v _ rfl
      · exact .v _ rfl
      · exact .v _ rfl
      · exact .v _ rfl
      · exact .sl _ [] (some []) none 0 0 0 (fun _ => .nilFunc) (Nat.le_refl _) (fun s h => by injection h with h; subst h; rfl) (fun h => absurd rfl h) (fun i e h => by simp at h) (fun k h => by simp at h) (fun k h => by simp at h) (fun i j e x h => by simp at h)
theorem zero_of {z : List CV} (h : zeroOk P t z = true) (hk : known P t = true) (S : Area) (w : World) : ∃ v, (zeroValue t).run P w = .ok v w ∧ z.length = v.cells.size ∧ ∀ (i : Nat) x u, z[i]? = some x → v.cells[i]? = some u → RelC S w x u := by
  obtain ⟨i, d, hi, hd⟩ := known_info hk
  unfold zeroOk at h
  rw [hi] at h
  simp only [Option.bind_some] at h
  cases hz : i.zero with
  | none => rw [hz] at h; simp at h
  | some v =>
    rw [hz] at h
    obtain ⟨hl, hr⟩ := zerosOk_rel S w z v.cells.toList h
    refine ⟨v, ?_, by simpa using hl, fun j x u hx hu => hr j x u hx (by simpa using hu)⟩
    unfold zeroValue
    simp only [Sem.run_bind, run_typeInfo w hi, Result.andThen_ok, hz]
    rfl
end
end Go.Proofs.Ythncmjlcmlmnmaa.V
