/- The law 'CodecBack' answers true, whatever its numbers, its declaration, its bytes and its cut. Conditions: none. -/
import Derived.Test.YthncmjlcmlmnmaaRows
import Derived.Test.YthncmjlcmlmnmaaCB11
import Derived.Test.YthncmjlcmlmnmaaCB13
import Derived.Carry
namespace Go.Proofs.Ythncmjlcmlmnmaa
open Go V
open Go.ChangeShapes Go.WideShapes Go.ChangeAt Go.RowKit
set_option maxRecDepth 100000
theorem w2y (bs rest : List UInt8) (d : Dc) (cut : Int) (v v2 : Value) (vd : Array Value) (W : World) (hr : RelC (allS W) W (.sl 1 (encB bs) none) v) (hd : RowR W d.row vd.toList) (hr2 : RelC (allS W) W (.sl 1 (encB rest) none) v2) : Calls Try.prog 7 #[v, .agg vd, v2, .int .i64 cut] W fun e w' => e = .returned (.bool true) ∧ Ext (fun _ _ => False) W w' := by
 rw [Dc.row] at hd
 obtain ⟨F3, h3, n3⟩ := own_agg hd
 obtain ⟨fu, hp⟩ := w0v bs d rest cut
 exact w5n (us := [v, .agg vd, v2, .int .i64 cut]) (F := fun b o => False ∨ (F3 b o ∨ (False ∨ (False ∨ False)))) (d_p7 fu List.length rfl hp)
  (by rintro r bs ⟨y, o0, o1, o2, o3, ⟨rfl, _⟩, rfl⟩; rfl) (fun _ => rfl)
  (.cons _ _ _ _ _ _ (.c _ _ hr) (.cons _ _ _ _ _ _ h3 (.cons _ _ _ _ _ _ (.c _ _ hr2) (.cons _ _ _ _ _ _ (.c _ _ (.v _ rfl)) .nil (fun _ _ h => h.elim)) (fun _ _ h => h.elim)) (fun _ _ h => absurd h (n3 _ _))) (fun _ _ h => h.elim))
  (fun b o h => h.elim id (fun h => h.elim (n3 b o) (fun h => by simp at h)))
theorem z8v (os : Os) (started : os.Started) (H : Type) (enc : TypeId × Value → H) :
  ReturnsInHanded {} Try.checked os 7 .any (Rows.codecBackSpec.pre6 enc Try.prog Try.f7 Rows.codecBackRow.domain false) (Rows.codecBackSpec.post enc Try.prog Try.f7 false true false false) := by
 refine returnsInHanded_of_change (C := Try.checked) Try.own started (by kernel_rfl) Try.func7
  (ChangeSpec.witness6 (enc := enc) (C := Try.checked) false ⟨#[], #[.slice none 0 0,
   .agg #[.int .i64 0, .int .i64 0, .int .i64 0, .string ⟨#[]⟩, .string ⟨#[]⟩, .int .i64 0, .int .i64 0, .string ⟨#[]⟩, .slice none 0 0, .slice none 0 0, .int .i64 0, .int .i64 0, .string ⟨#[]⟩, .slice none 0 0, .slice none 0 0, .slice none 0 0], .slice none 0 0, .int .i64 0], []⟩ 8 (by kernel_rfl) (by kernel_rfl) (by kernel_rfl) (by kernel_rfl)) ?_
 intro W base args ds gs before hval0 hW hcnd _
 have hval : ∀ (j : Nat) t v, Try.f7.params[j]? = some t → args[j]? = some v → Value.okWide Try.prog W .any base t v := hval0
 have hW' := hW
 obtain ⟨p, q, hA0, hV, rfl, hfz, hnd⟩ := hW
 have hA : DataW.TrodAll enc Try.prog W 0 (fun _ => true) true Try.f7.params.toList args.toList ds p := hA0
 rw [Try.params7] at hA hval
 obtain ⟨v0, v1, v2, v3, d0, d1, d2, d3, p0, p1, p2, p3, rfl, rfl, rfl, h0, h1, h2, h3⟩ := trodAll_four hA
 obtain ⟨rfl, rfl⟩ := trodVars_none hV
 have hu : Try.prog.underlying 4 = some .bool := by kernel_rfl
 have hlt : ∀ x ∈ p0 ++ p1 ++ p2 ++ p3, x.block < W.heap.size := fun x hx => by simpa using hW'.lt x (by simpa using hx)
 have h0k := h0
 have h1k := h1
 have h2k := h2
 obtain ⟨c, rfl, rfl, rfl, wc⟩ := open_int z6n (hval 3 3 v3 rfl rfl) h3
 obtain ⟨bs, hr, _⟩ := w5q (hval 0 24 v0 rfl rfl) h0
 obtain ⟨rest, hr2, _⟩ := w5q (hval 2 24 v2 rfl rfl) h2
 obtain ⟨vd, rfl⟩ := agg_of (hval 1 48 v1 rfl rfl) (by kernel_rfl)
 obtain ⟨n3, ys3, hr3, hs3⟩ := w3g w5f (by simp [dcTys]) h1
 obtain ⟨d, rfl⟩ := shp_decl hs3
 clear hA0 hval0
 simp only [List.append_nil] at hW' hlt
 refine (w2y bs rest d c v0 v2 vd W hr hr3 hr2).mono fun e W' ⟨he, hext⟩ => ?_
 subst he
 have keep : ∀ {t : TypeId} {v : Value} {x : DataW H} {ps : List MemPlace}, Try.prog.readableRec t = true → t < Try.prog.types.size → DataW.Trod enc Try.prog W 0 (fun _ => true) true t v x ps → (∀ y ∈ ps, y ∈ p0 ++ p1 ++ p2) → DataW.Trod enc Try.prog W' 0 (fun b => decide (b < W.heap.size)) true t v x ps := fun hq hs hx hy =>
  Below.trod Try.laidOut hq hs hx hext.below (fun y h => hlt y (hy y h))
 exact ⟨_, rfl, _, _, _, [], _, [], hW', trodAll_mk1 (shut_bool hu true), trodAll_mk4 (keep (by kernel_rfl) (of_decide_eq_true (by kernel_rfl)) h0k (fun y h => by simp [h])) (keep (by kernel_rfl) (of_decide_eq_true (by kernel_rfl)) h1k (fun y h => by simp [h])) (keep (by kernel_rfl) (of_decide_eq_true (by kernel_rfl)) h2k (fun y h => by simp [h])) (shut_int z6n wc), rfl, hext.kept _, fun h => by simp at h⟩
theorem codecBack_holds : Rows.CodecBackSaid :=
 OpenClaim.holds_of_wide 7 Try.f7 rfl rfl rfl rfl rfl rfl rfl ⟨rfl, rfl, rfl, rfl, rfl⟩ rfl rfl rfl rfl rfl (by kernel_rfl) Try.func7 (by kernel_rfl)
  (of_decide_eq_true (by kernel_rfl)) (by unfold Func.isWrapper; first | (rw [if_pos (by decide +kernel)]; kernel_rfl) | (rw [if_neg (by decide +kernel)]; exact ⟨rfl, rfl⟩))
  (fun os started H enc _ => z8v os started H enc)
end Go.Proofs.Ythncmjlcmlmnmaa
