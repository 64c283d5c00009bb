/- The law 'RequestReads' answers true, whatever its bytes. Conditions: none. -/
import Derived.Test.YtioiigabeoaneaaRows
import Derived.Test.YtioiigabeoaneaaRQ8
import Derived.Test.YtioiigabeoaneaaRQ13
namespace Go.Proofs.Ytioiigabeoaneaa
open Go V
open Go.ChangeShapes Go.WideShapes Go.ChangeAt Go.RowKit
set_option maxRecDepth 100000
theorem z8b (bs : List UInt8) (v : Value) (W : World) (hr : RelC (allS W) W (.sl 1 (encB bs) none) v) : Calls Try.prog 3 #[v] W fun e w' => e = .returned (.bool true) ∧ Ext (fun _ _ => False) W w' :=
 w3u (us := [v]) (F := fun _ _ => False ∨ False) (d_p3 30000 List.length rfl (z7h bs))
  (by rintro r bs ⟨y, o0, ⟨rfl, _⟩, rfl⟩; rfl) (fun _ => rfl)
  (.cons _ _ _ _ _ _ (.c _ _ hr) .nil (fun _ _ h => h.elim)) (fun _ _ h => by simp at h)
theorem z5t (os : Os) (started : os.Started) (H : Type) (enc : TypeId × Value → H) :
  ReturnsInHanded {} Try.checked os 3 .any (Rows.requestReadsSpec.pre6 enc Try.prog Try.f3 Rows.requestReadsRow.domain false) (Rows.requestReadsSpec.post enc Try.prog Try.f3 false true false false) := by
 refine returnsInHanded_of_change (C := Try.checked) Try.own started (by kernel_rfl) Try.func3
  (ChangeSpec.witness6 (enc := enc) (C := Try.checked) false ⟨#[], #[.slice none 0 0], []⟩ 8 (by kernel_rfl) (by kernel_rfl) (by kernel_rfl) (by kernel_rfl)) ?_
 intro W base args ds gs before hval0 hW hcnd _
 have hval : ∀ (j : Nat) t v, Try.f3.params[j]? = some t → args[j]? = some v → Value.okWide Try.prog W .any base t v := hval0
 have hW' := hW
 obtain ⟨p, q, hA0, hV, rfl, hfz, hnd⟩ := hW
 have hA : DataW.TrodAll enc Try.prog W 0 (fun _ => true) true Try.f3.params.toList args.toList ds p := hA0
 rw [Try.params3] at hA hval
 obtain ⟨v0, d0, rfl, rfl, h0⟩ := trodAll_one hA
 obtain ⟨rfl, rfl⟩ := trodVars_none hV
 have hu : Try.prog.underlying 4 = some .bool := by kernel_rfl
 have hlt : ∀ x ∈ p, x.block < W.heap.size := fun x hx => by simpa using hW'.lt x (by simpa using hx)
 have h0k := h0
 have hu24 : Try.prog.underlying 22 = some (.slice 5) := by kernel_rfl
 obtain ⟨bs, hr, _⟩ := w9h (hval 0 22 v0 rfl rfl) h0
 clear hA0 hval0
 refine (z8b bs v0 W hr).mono fun e W' ⟨he, hext⟩ => ?_
 subst he
 exact ⟨_, rfl, _, _, _, [], _, [], hW', trodAll_mk1 (shut_bool hu true), trodAll_mk1 (Below.trod Try.laidOut (by kernel_rfl) (of_decide_eq_true (by kernel_rfl)) h0k hext.below hlt), rfl, hext.kept _, fun h => by simp at h⟩
theorem requestReads_holds : Rows.RequestReadsSaid :=
 OpenClaim.holds_of_wide 3 Try.f3 rfl rfl rfl rfl rfl rfl rfl ⟨rfl, rfl, rfl, rfl, rfl⟩ rfl rfl rfl rfl rfl (by kernel_rfl) Try.func3 (by kernel_rfl)
  (of_decide_eq_true (by kernel_rfl)) (by unfold Func.isWrapper; first | (rw [if_pos (by decide +kernel)]; kernel_rfl) | (rw [if_neg (by decide +kernel)]; exact ⟨rfl, rfl⟩))
  (fun os started H enc _ => z5t os started H enc)
end Go.Proofs.Ytioiigabeoaneaa
