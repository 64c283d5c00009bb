/- The law 'ReplyTerms' answers true, whatever its numbers and names. Conditions: none. -/
import Derived.Test.YthncmjlcmlmnmaaRows
import Derived.Test.YthncmjlcmlmnmaaRT12
import Derived.Test.YthncmjlcmlmnmaaRT16
import Derived.Test.YthncmjlcmlmnmaaRT11
namespace Go.Proofs.Ythncmjlcmlmnmaa
open Go V
open Go.ChangeShapes Go.WideShapes Go.ChangeAt Go.RowKit
set_option maxRecDepth 100000
theorem z9k (bs ns : List UInt8) (e : Int) (he : 0 ≤ e ∧ e ≤ 255) (v v2 : Value) (W : World) (hr : RelC (allS W) W (.sl 1 (encB bs) none) v) (hr2 : RelC (allS W) W (.sl 1 (encB ns) none) v2) : Calls Try.prog 12 #[v, .int .u8 e, v2] W fun e w' => e = .returned (.bool true) ∧ Ext (fun _ _ => False) W w' := by
 obtain ⟨fu, hp⟩ := z8k bs e he ns
 exact w3r (us := [v, .int .u8 e, v2]) (F := fun _ _ => False ∨ (False ∨ (False ∨ False))) (d_p12 fu List.length rfl hp)
  (by rintro r bs ⟨y, o0, o1, o2, ⟨rfl, _⟩, rfl⟩; rfl) (fun _ => rfl)
  (.cons _ _ _ _ _ _ (.c _ _ hr) (.cons _ _ _ _ _ _ (.c _ _ (.v _ rfl)) (.cons _ _ _ _ _ _ (.c _ _ hr2) .nil (fun _ _ h => h.elim)) (fun _ _ h => h.elim)) (fun _ _ h => h.elim)) (fun _ _ h => by simp at h)
theorem z7b (os : Os) (started : os.Started) (H : Type) (enc : TypeId × Value → H) :
  ReturnsInHanded {} Try.checked os 12 .any (Rows.replyTermsSpec.pre6 enc Try.prog Try.f12 Rows.replyTermsRow.domain false) (Rows.replyTermsSpec.post enc Try.prog Try.f12 false true false false) := by
 refine returnsInHanded_of_change (C := Try.checked) Try.own started (by kernel_rfl) Try.func12
  (ChangeSpec.witness6 (enc := enc) (C := Try.checked) false ⟨#[], #[.slice none 0 0, .int .u8 0, .slice none 0 0], []⟩ 8 (by kernel_rfl) (by kernel_rfl) (by kernel_rfl) (by kernel_rfl)) ?_
 intro W base args ds gs before hval0 hW hcnd _
 have hval : ∀ (j : Nat) t v, Try.f12.params[j]? = some t → args[j]? = some v → Value.okWide Try.prog W .any base t v := hval0
 have hW' := hW
 obtain ⟨p, q, hA0, hV, rfl, hfz, hnd⟩ := hW
 have hA : DataW.TrodAll enc Try.prog W 0 (fun _ => true) true Try.f12.params.toList args.toList ds p := hA0
 rw [Try.params12] at hA hval
 obtain ⟨v0, v1, v2, d0, d1, d2, p0, p1, p2, rfl, rfl, rfl, h0, h1, h2⟩ := trodAll_three hA
 obtain ⟨rfl, rfl⟩ := trodVars_none hV
 have hu : Try.prog.underlying 4 = some .bool := by kernel_rfl
 have hlt : ∀ x ∈ p0 ++ p1 ++ p2, x.block < W.heap.size := fun x hx => by simpa using hW'.lt x (by simpa using hx)
 have h0k := h0
 have h2k := h2
 obtain ⟨bs, hr, _⟩ := w3u (hval 0 24 v0 rfl rfl) h0
 obtain ⟨ns, hr2, _⟩ := w3u (hval 2 24 v2 rfl rfl) h2
 have hu8 : Try.prog.underlying 5 = some (.int .u8) := by kernel_rfl
 obtain ⟨e, rfl, rfl, rfl, we⟩ := open_int hu8 (hval 1 5 v1 rfl rfl) h1
 clear hA0 hval0
 simp only [List.append_nil] at hW' hlt
 refine (z9k bs ns e (u8_of we) v0 v2 W hr hr2).mono fun e W' ⟨he, hext⟩ => ?_
 subst he
 have keep : ∀ {t : TypeId} {v : Value} {x : DataW H} {ps : List MemPlace}, Try.prog.readableRec t = true → t < Try.prog.types.size → DataW.Trod enc Try.prog W 0 (fun _ => true) true t v x ps → (∀ y ∈ ps, y ∈ p0 ++ p2) → DataW.Trod enc Try.prog W' 0 (fun b => decide (b < W.heap.size)) true t v x ps := fun hq hs hx hy =>
  Below.trod Try.laidOut hq hs hx hext.below (fun y h => hlt y (hy y h))
 exact ⟨_, rfl, _, _, _, [], _, [], hW', trodAll_mk1 (shut_bool hu true), trodAll_mk3 (keep (by kernel_rfl) (of_decide_eq_true (by kernel_rfl)) h0k (fun y h => by simp [h])) (shut_int hu8 we) (keep (by kernel_rfl) (of_decide_eq_true (by kernel_rfl)) h2k (fun y h => by simp [h])), rfl, hext.kept _, fun h => by simp at h⟩
theorem replyTerms_holds : Rows.ReplyTermsSaid :=
 OpenClaim.holds_of_wide 12 Try.f12 rfl rfl rfl rfl rfl rfl rfl ⟨rfl, rfl, rfl, rfl, rfl⟩ rfl rfl rfl rfl rfl (by kernel_rfl) Try.func12 (by kernel_rfl)
  (of_decide_eq_true (by kernel_rfl)) (by unfold Func.isWrapper; first | (rw [if_pos (by decide +kernel)]; kernel_rfl) | (rw [if_neg (by decide +kernel)]; exact ⟨rfl, rfl⟩))
  (fun os started H enc _ => z7b os started H enc)
end Go.Proofs.Ythncmjlcmlmnmaa
