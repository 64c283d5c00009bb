/- The law 'TableNone' answers true: what a nil table, and a zero one, answers. Conditions: none. -/
import Derived.Test.YtbambclbeglgoaaRows
import Derived.Test.YtbambclbeglgoaaTN1
import Derived.ProofKit
namespace Go.Proofs.Ytbambclbeglgoaa
open Go V
open Go.ChangeShapes Go.WideShapes Go.ChangeAt Go.RowKit
theorem Try.own : ownKnob Try.prog.godebug = none := by kernel_rfl
theorem Try.laidOut : laidOutB Try.prog = true := by kernel_rfl
set_option maxRecDepth 100000
theorem tableNone_lifted (os : Os) (started : os.Started) (H : Type) (enc : TypeId × Value → H) :
  ReturnsInHanded {} Try.checked os 3 .any (Rows.tableNoneSpec.pre6 enc Try.prog Try.f3 Rows.tableNoneRow.domain false) (Rows.tableNoneSpec.post enc Try.prog Try.f3 false true false false) := by
 refine returnsInHanded_of_change (C := Try.checked) Try.own started (by kernel_rfl) Try.func3
  (ChangeSpec.witness6 (enc := enc) (C := Try.checked) false ⟨#[], #[], []⟩ 8 (by kernel_rfl) (by kernel_rfl) (by kernel_rfl) (by kernel_rfl)) ?_
 intro W base args ds gs before hval0 hW hcnd _
 have hW' := hW
 obtain ⟨p, q, hA0, hV, rfl, hfz, hnd⟩ := hW
 have hA : DataW.TrodAll enc Try.prog W 0 (fun _ => true) true Try.f3.params.toList args.toList ds p := hA0
 rw [Try.params3] at hA
 obtain ⟨rfl, rfl, rfl⟩ := trodAll_none hA
 obtain ⟨rfl, rfl⟩ := trodVars_none hV
 refine (none1 W).mono fun e W' ⟨he, hext⟩ => ?_
 subst he
 have hu : Try.prog.underlying 4 = some .bool := by kernel_rfl
 exact ⟨_, rfl, [], [], [], [], [], [], hW', trodAll_mk1 (shut_bool hu true), trodAll_mk0, rfl, hext.kept _, fun h => by simp at h⟩
theorem tableNone_holds : Rows.TableNoneSaid :=
 OpenClaim.holds_of_wide 3 Try.f3 rfl rfl rfl rfl rfl rfl rfl ⟨rfl, rfl, rfl, rfl, rfl⟩ rfl rfl rfl rfl rfl (by kernel_rfl) Try.func3 (by kernel_rfl)
  (of_decide_eq_true (by kernel_rfl)) (by unfold Func.isWrapper; first | (rw [if_pos (by decide +kernel)]; kernel_rfl) | (rw [if_neg (by decide +kernel)]; exact ⟨rfl, rfl⟩))
  (fun os started H enc _ => tableNone_lifted os started H enc)
end Go.Proofs.Ytbambclbeglgoaa
