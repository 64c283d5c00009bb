/- The law 'RequestFields' answers true, whatever its act and its number. Conditions: none. -/
import Derived.Test.YtioiigabeoaneaaGreatRows
import Derived.Test.YtioiigabeoaneaaGreatRF8
import Derived.Test.YtioiigabeoaneaaGreatRF13
namespace Go.Proofs.YtioiigabeoaneaaGreat
open Go V
open Go.ChangeShapes Go.WideShapes Go.ChangeAt Go.RowKit
set_option maxRecDepth 100000
theorem z2s (a : Ac) (ha : a.byte) (w : Int) (hw : 0 ≤ w ∧ w ≤ 255) (vs : Array Value) (W : World) (hr : RowR W (Q4 a) vs.toList) :
  Calls Tryz.prog 5 #[.agg vs, .int .u8 w] W fun e w' => e = .returned (.bool true) ∧ Ext (fun _ _ => False) W w' := by
 obtain ⟨F, hF, hno⟩ := w9j hr
 obtain ⟨n, rfl⟩ : ∃ n : Nat, w = (n : Nat) := ⟨w.toNat, by omega⟩
 obtain ⟨fu, hp⟩ := z2g a ha n (by omega)
 exact w0i (us := [.agg vs, .int .u8 ((n : Nat) : Int)]) (F := fun b o => F b o ∨ (False ∨ False)) (d_p5 fu List.length rfl hp)
  (by rintro r bs ⟨y, o0, o1, ⟨rfl, _⟩, rfl⟩; rfl) (fun _ => rfl)
  (.cons _ _ _ _ _ _ hF (.cons _ _ _ _ _ _ (.c _ _ (.v _ rfl)) .nil (fun _ _ h => h.elim)) (fun _ _ h => absurd h (hno _ _))) (fun b o h => h.elim (hno b o) (fun h => by simp at h))
theorem z0s (os : Os) (started : os.Started) (H : Type) (enc : TypeId × Value → H) :
  ReturnsInHanded {} Tryz.checked os 5 .any (Rows.requestFieldsSpec.pre6 enc Tryz.prog Tryz.f5 Rows.requestFieldsRow.domain false) (Rows.requestFieldsSpec.post enc Tryz.prog Tryz.f5 false true false false) := by
 refine returnsInHanded_of_change (C := Tryz.checked) Tryz.own started (by kernel_rfl) Tryz.func5
  (ChangeSpec.witness6 (enc := enc) (C := Tryz.checked) false ⟨#[], #[.agg #[.int .u8 0, .int .u8 0, .int .u8 0, .int .u8 0, .slice none 0 0, .slice none 0 0, .string ⟨#[]⟩, .slice none 0 0], .int .u8 0], []⟩ 8 (by kernel_rfl) (by kernel_rfl) (by kernel_rfl) (by kernel_rfl)) ?_
 intro W base args ds gs before hval0 hW hcnd _
 have hval : ∀ (j : Nat) t v, Tryz.f5.params[j]? = some t → args[j]? = some v → Value.okWide Tryz.prog W .any base t v := hval0
 have hW' := hW
 obtain ⟨p, q, hA0, hV, rfl, hfz, hnd⟩ := hW
 have hA : DataW.TrodAll enc Tryz.prog W 0 (fun _ => true) true Tryz.f5.params.toList args.toList ds p := hA0
 rw [Tryz.params5] at hA hval
 obtain ⟨v0, v1, d0, d1, p0, p1, rfl, rfl, rfl, h0, h1⟩ := trodAll_two hA
 obtain ⟨rfl, rfl⟩ := trodVars_none hV
 have hu : Tryz.prog.underlying 4 = some .bool := by kernel_rfl
 have hlt : ∀ x ∈ p0 ++ p1, x.block < W.heap.size := fun x hx => by simpa using hW'.lt x (by simpa using hx)
 have h0k := h0
 obtain ⟨b, rfl, rfl, rfl, wb⟩ := open_int z1w (hval 1 5 v1 rfl rfl) h1
 obtain ⟨vs, rfl⟩ := k3q (hval 0 37 v0 rfl rfl) (by kernel_rfl)
 obtain ⟨n, ys, hr, hs⟩ := z8y w0o (by simp [k1j]) h0
 obtain ⟨a, ha, rfl⟩ := w9i hs
 clear hA0 hval0
 simp only [List.append_nil] at hW' hlt
 refine (z2s a ha b (k3v wb) vs W hr).mono fun e W' ⟨he, hext⟩ => ?_
 subst he
 exact ⟨_, rfl, _, _, _, [], _, [], hW', trodAll_mk1 (shut_bool hu true), trodAll_mk2 (Below.trod Tryz.laidOut (by kernel_rfl) (of_decide_eq_true (by kernel_rfl)) h0k hext.below hlt) (shut_int z1w wb), rfl, hext.kept _, fun h => by simp at h⟩
theorem requestFields_holds : Rows.RequestFieldsSaid :=
 OpenClaim.holds_of_wide 5 Tryz.f5 rfl rfl rfl rfl rfl rfl rfl ⟨rfl, rfl, rfl, rfl, rfl⟩ rfl rfl rfl rfl rfl (by kernel_rfl) Tryz.func5 (by kernel_rfl)
  (of_decide_eq_true (by kernel_rfl)) (by unfold Func.isWrapper; first | (rw [if_pos (by decide +kernel)]; kernel_rfl) | (rw [if_neg (by decide +kernel)]; exact ⟨rfl, rfl⟩))
  (fun os started H enc _ => z0s os started H enc)
end Go.Proofs.YtioiigabeoaneaaGreat
