/- Arguments that are rows of bytes. Conditions: none. -/
import Derived.Test.YthncmjlcmlmnmaaVB
import Derived.Test.YthncmjlcmlmnmaaProg
import Derived.ProofKit
namespace Go.Proofs.Ythncmjlcmlmnmaa
open Go V
open Go.ChangeShapes Go.WideShapes Go.ChangeAt Go.RowKit
theorem Try.own : ownKnob Try.prog.godebug = none := by kernel_rfl
theorem Try.laidOut : laidOutB Try.prog = true := by kernel_rfl
set_option maxRecDepth 100000
theorem u8_of {n : Int} (h : (Lit.int .u8 n).wf = true) : 0 ≤ n ∧ n ≤ 255 := by
  have h' : (decide (IntKind.u8.min ≤ n) && decide (n ≤ IntKind.u8.max)) = true := h
  have h1 : IntKind.u8.min = 0 := by decide
  have h2 : IntKind.u8.max = 255 := by decide
  rw [Bool.and_eq_true, h1, h2] at h'
  exact ⟨of_decide_eq_true h'.1, of_decide_eq_true h'.2⟩
theorem bytes_of : ∀ (es : List (List CV)), (∀ r ∈ es, ∃ z, r = [.v (.int .u8 z)] ∧ (Lit.int .u8 z).wf = true) → ∃ bs : List UInt8, es = encB bs
  | [], _ => ⟨[], rfl⟩
  | r :: es, h => by
    obtain ⟨z, hz, hw⟩ := h r (by simp)
    obtain ⟨bs, hbs⟩ := bytes_of es (fun r hr => h r (by simp [hr]))
    have h1 := u8_of hw
    refine ⟨UInt8.ofNat z.toNat :: bs, ?_⟩
    rw [hz, hbs, encB_cons]
    have : (UInt8.ofNat z.toNat).toNat = z.toNat := by simp; omega
    rw [this, show ((z.toNat : Nat) : Int) = z by omega]
section
variable {H : Type} {enc : TypeId × Value → H} {w : World} {base : Nat} {spare : Nat → Bool} {held : Bool}
theorem cells_slice {t e : TypeId} {v : Value} {r : Reach} (hu : Try.prog.underlying t = some (.slice e)) (hv : Value.okWide Try.prog w r base t v) : v.cells = #[v] := by
  unfold Value.okWide at hv
  rw [hu] at hv
  unfold Cell.okWide at hv
  rw [hu] at hv
  unfold Cell.ok at hv
  rw [hu] at hv
  cases v <;> first | rfl | exact hv.elim
theorem bytes_arg {v : Value} {r : Reach} {d : DataW H} {ps : List MemPlace} {base' : Nat} (hv : Value.okWide Try.prog w r base' 24 v) (h : DataW.Trod enc Try.prog w base spare held 24 v d ps) :
    ∃ bs : List UInt8, RelC (allS w) w (.sl 1 (encB bs) none) v ∧ bs.length ≤ maxLen := by
  have hu : Try.prog.underlying 24 = some (.slice 5) := by kernel_rfl
  have hu8 : Try.prog.underlying 5 = some (.int .u8) := by kernel_rfl
  have hc1 : Try.prog.cellsOf 5 = 1 := by kernel_rfl
  obtain ⟨n, y, hr, hs⟩ := trod_own (l := [5, 24]) (by kernel_rfl) (by simp) h (cells_slice hu hv)
  cases n with
  | zero => exact hs.elim
  | succ n =>
    simp only [Shp, hu] at hs
    obtain ⟨es, he, hl, hall⟩ := hs
    injection he with he _
    subst he
    obtain ⟨bs, rfl⟩ := bytes_of es (fun r hr => by
      have := hall r hr
      cases n with
      | zero => exact this.elim
      | succ n => simp only [Shp, hu8] at this; exact this)
    rw [hc1] at hr
    exact ⟨bs, hr, by simpa using hl⟩
end
end Go.Proofs.Ythncmjlcmlmnmaa
