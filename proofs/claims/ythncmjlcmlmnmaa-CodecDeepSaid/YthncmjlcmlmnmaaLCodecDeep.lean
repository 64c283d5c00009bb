/- The law 'CodecDeep' answers true, whatever its two numbers. Conditions: none. -/
import Derived.Test.YthncmjlcmlmnmaaRows
import Derived.Test.YthncmjlcmlmnmaaCDB
import Derived.Test.YthncmjlcmlmnmaaVX
import Derived.ProofKit
namespace Go.Proofs.Ythncmjlcmlmnmaa
open Go V
open Go.ChangeShapes Go.WideShapes Go.ChangeAt Go.RowKit
theorem Try.own : ownKnob Try.prog.godebug = none := by kernel_rfl
theorem Try.laidOut : laidOutB Try.prog = true := by kernel_rfl
set_option maxRecDepth 100000
theorem u8_of {n : Int} (h : (Lit.int .u8 n).wf = true) : 0 ≤ n ∧ n ≤ 255 := by
  have h' : (decide (IntKind.u8.min ≤ n) && decide (n ≤ IntKind.u8.max)) = true := h
  have h1 : IntKind.u8.min = 0 := by decide
  have h2 : IntKind.u8.max = 255 := by decide
  rw [Bool.and_eq_true, h1, h2] at h'
  exact ⟨of_decide_eq_true h'.1, of_decide_eq_true h'.2⟩
theorem codecDeep_any (a b : Int) (ha : 0 ≤ a ∧ a ≤ 255) (hb : 0 ≤ b ∧ b ≤ 255) (W : World) : Calls Try.prog 4 #[.int .u8 a, .int .u8 b] W fun e w' => e = .returned (.bool true) ∧ Ext (fun _ _ => False) W w' :=
  calls_of_den (us := [.int .u8 a, .int .u8 b]) (F := fun _ _ => False ∨ (False ∨ False)) (d_p4 300 List.length rfl (deep_pure a b ha hb))
    (by rintro r bs ⟨y, o0, o1, ⟨rfl, _⟩, rfl⟩; rfl) (fun _ => rfl)
    (.cons _ _ _ _ _ _ (.c _ _ (.v _ rfl)) (.cons _ _ _ _ _ _ (.c _ _ (.v _ rfl)) .nil (fun _ _ h => h.elim)) (fun _ _ h => h.elim)) (fun _ _ h => by simp at h)
theorem codecDeep_lifted (os : Os) (started : os.Started) (H : Type) (enc : TypeId × Value → H) :
    ReturnsInHanded {} Try.checked os 4 .any (Rows.codecDeepSpec.pre6 enc Try.prog Try.f4 Rows.codecDeepRow.domain false) (Rows.codecDeepSpec.post enc Try.prog Try.f4 false true false false) := by
  refine returnsInHanded_of_change (C := Try.checked) Try.own started (by kernel_rfl) Try.func4
    (ChangeSpec.witness6 (enc := enc) (C := Try.checked) false ⟨#[], #[.int .u8 0, .int .u8 0], []⟩ 8 (by kernel_rfl) (by kernel_rfl) (by kernel_rfl) (by kernel_rfl)) ?_
  intro W base args ds gs before hval0 hW hcnd _
  have hval : ∀ (j : Nat) t v, Try.f4.params[j]? = some t → args[j]? = some v → Value.okWide Try.prog W .any base t v := hval0
  have hW' := hW
  obtain ⟨p, q, hA0, hV, rfl, hfz, hnd⟩ := hW
  have hA : DataW.TrodAll enc Try.prog W 0 (fun _ => true) true Try.f4.params.toList args.toList ds p := hA0
  rw [Try.params4] at hA hval
  obtain ⟨v0, v1, d0, d1, p0, p1, rfl, rfl, rfl, h0, h1⟩ := trodAll_two hA
  obtain ⟨rfl, rfl⟩ := trodVars_none hV
  have hu8 : Try.prog.underlying 5 = some (.int .u8) := by kernel_rfl
  have hu : Try.prog.underlying 4 = some .bool := by kernel_rfl
  obtain ⟨a, rfl, rfl, rfl, wa⟩ := open_int hu8 (hval 0 5 v0 rfl rfl) h0
  obtain ⟨b, rfl, rfl, rfl, wb⟩ := open_int hu8 (hval 1 5 v1 rfl rfl) h1
  clear hA0 hval0
  simp only [List.append_nil] at hW'
  refine (codecDeep_any a b (u8_of wa) (u8_of wb) W).mono fun e W' ⟨he, hext⟩ => ?_
  subst he
  exact ⟨_, rfl, _, _, _, [], [], [], hW', trodAll_mk1 (shut_bool hu true), trodAll_mk2 (shut_int hu8 wa) (shut_int hu8 wb), rfl, hext.kept _, fun h => by simp at h⟩
theorem codecDeep_holds : Rows.CodecDeepSaid :=
  OpenClaim.holds_of_wide 4 Try.f4 rfl rfl rfl rfl rfl rfl rfl ⟨rfl, rfl, rfl, rfl, rfl⟩ rfl rfl rfl rfl rfl (by kernel_rfl) Try.func4 (by kernel_rfl)
    (of_decide_eq_true (by kernel_rfl)) (by unfold Func.isWrapper; first | (rw [if_pos (by decide +kernel)]; kernel_rfl) | (rw [if_neg (by decide +kernel)]; exact ⟨rfl, rfl⟩))
    (fun os started H enc _ => codecDeep_lifted os started H enc)
end Go.Proofs.Ythncmjlcmlmnmaa
