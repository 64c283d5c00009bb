/- The law 'CodecWrites' answers true, whatever its bytes, its level, its term and its declaration. Conditions: none. -/
import Derived.Test.YthncmjlcmlmnmaaRows
import Derived.Test.YthncmjlcmlmnmaaCW18
import Derived.Carry
namespace Go.Proofs.Ythncmjlcmlmnmaa
open Go V
open Go.ChangeShapes Go.WideShapes Go.ChangeAt Go.RowKit
set_option maxRecDepth 100000
theorem codecWrites_any (b : List UInt8) (v : Value) (l : Lv) (t : Tm) (d : Dc) (vl vt vd : Array Value) (W : World) (hv : RelC (allS W) W (.sl 1 (encB b) none) v)
    (hl : RowR W l.row vl.toList) (ht : RowR W t.row vt.toList) (hd : RowR W d.row vd.toList) :
    Calls Try.prog 5 #[v, .agg vl, .agg vt, .agg vd] W fun e w' => e = .returned (.bool true) ∧ Ext (fun _ _ => False) W w' := by
  rw [Lv.row_eq] at hl
  rw [Tm.row_eq] at ht
  rw [Dc.row] at hd
  obtain ⟨F1, h1, n1⟩ := own_agg hl
  obtain ⟨F2, h2, n2⟩ := own_agg ht
  obtain ⟨F3, h3, n3⟩ := own_agg hd
  exact calls_of_den (us := [v, .agg vl, .agg vt, .agg vd]) (F := fun b o => False ∨ (F1 b o ∨ (F2 b o ∨ (F3 b o ∨ False)))) (d_p5 10000000 List.length rfl (codecWrites_pure b l t d))
    (by rintro r bs ⟨y, o0, o1, o2, o3, ⟨rfl, _⟩, rfl⟩; rfl) (fun _ => rfl)
    (.cons _ _ _ _ _ _ (.c _ _ hv) (.cons _ _ _ _ _ _ h1 (.cons _ _ _ _ _ _ h2 (.cons _ _ _ _ _ _ h3 .nil (fun _ _ h => absurd h (n3 _ _))) (fun _ _ h => absurd h (n2 _ _))) (fun _ _ h => absurd h (n1 _ _))) (fun _ _ h => h.elim))
    (fun b o h => h.elim id (fun h => h.elim (n1 b o) (fun h => h.elim (n2 b o) (fun h => h.elim (n3 b o) id))))
theorem codecWrites_lifted (os : Os) (started : os.Started) (H : Type) (enc : TypeId × Value → H) :
    ReturnsInHanded {} Try.checked os 5 .any (Rows.codecWritesSpec.pre6 enc Try.prog Try.f5 Rows.codecWritesRow.domain false) (Rows.codecWritesSpec.post enc Try.prog Try.f5 false true false false) := by
  refine returnsInHanded_of_change (C := Try.checked) Try.own started (by kernel_rfl) Try.func5
    (ChangeSpec.witness6 (enc := enc) (C := Try.checked) false ⟨#[], #[.slice none 0 0, .agg #[.int .i64 0, .int .i64 0, .slice none 0 0], .agg #[.int .i64 0, .int .i64 0, .string ⟨#[]⟩, .slice none 0 0, .slice none 0 0],
      .agg #[.int .i64 0, .int .i64 0, .int .i64 0, .string ⟨#[]⟩, .string ⟨#[]⟩, .int .i64 0, .int .i64 0, .string ⟨#[]⟩, .slice none 0 0, .slice none 0 0, .int .i64 0, .int .i64 0, .string ⟨#[]⟩, .slice none 0 0, .slice none 0 0, .slice none 0 0]], []⟩ 8 (by kernel_rfl) (by kernel_rfl) (by kernel_rfl) (by kernel_rfl)) ?_
  intro W base args ds gs before hval0 hW hcnd _
  have hval : ∀ (j : Nat) t v, Try.f5.params[j]? = some t → args[j]? = some v → Value.okWide Try.prog W .any base t v := hval0
  have hW' := hW
  obtain ⟨p, q, hA0, hV, rfl, hfz, hnd⟩ := hW
  have hA : DataW.TrodAll enc Try.prog W 0 (fun _ => true) true Try.f5.params.toList args.toList ds p := hA0
  rw [Try.params5] at hA hval
  obtain ⟨v0, v1, v2, v3, d0, d1, d2, d3, p0, p1, p2, p3, rfl, rfl, rfl, h0, h1, h2, h3⟩ := trodAll_four hA
  obtain ⟨rfl, rfl⟩ := trodVars_none hV
  have hu : Try.prog.underlying 4 = some .bool := by kernel_rfl
  have hlt : ∀ x ∈ p0 ++ p1 ++ p2 ++ p3, x.block < W.heap.size := fun x hx => by simpa using hW'.lt x (by simpa using hx)
  have h0k := h0
  have h1k := h1
  have h2k := h2
  have h3k := h3
  obtain ⟨bs, hrb, _⟩ := bytes_arg (hval 0 24 v0 rfl rfl) h0
  obtain ⟨vl, rfl⟩ := agg_of (hval 1 40 v1 rfl rfl) (by kernel_rfl)
  obtain ⟨vt, rfl⟩ := agg_of (hval 2 28 v2 rfl rfl) (by kernel_rfl)
  obtain ⟨vd, rfl⟩ := agg_of (hval 3 48 v3 rfl rfl) (by kernel_rfl)
  obtain ⟨n1, ys1, hr1, hs1⟩ := trod_own_agg dcTys_closed (by simp [dcTys]) h1
  obtain ⟨n2, ys2, hr2, hs2⟩ := trod_own_agg dcTys_closed (by simp [dcTys]) h2
  obtain ⟨n3, ys3, hr3, hs3⟩ := trod_own_agg dcTys_closed (by simp [dcTys]) h3
  obtain ⟨l, rfl⟩ := shp_level _ _ hs1
  obtain ⟨t, rfl⟩ := shp_term _ _ hs2
  obtain ⟨d, rfl⟩ := shp_decl hs3
  clear hA0 hval0
  simp only [List.append_nil] at hW'
  refine (codecWrites_any bs v0 l t d vl vt vd W hrb hr1 hr2 hr3).mono fun e W' ⟨he, hext⟩ => ?_
  subst he
  have keep : ∀ {t : TypeId} {v : Value} {x : DataW H} {ps : List MemPlace}, Try.prog.readableRec t = true → t < Try.prog.types.size → DataW.Trod enc Try.prog W 0 (fun _ => true) true t v x ps → (∀ y ∈ ps, y ∈ p0 ++ p1 ++ p2 ++ p3) → DataW.Trod enc Try.prog W' 0 (fun b => decide (b < W.heap.size)) true t v x ps := fun hq hs hx hy =>
    Below.trod Try.laidOut hq hs hx hext.below (fun y h => hlt y (hy y h))
  exact ⟨_, rfl, _, _, _, [], _, [], hW', trodAll_mk1 (shut_bool hu true), trodAll_mk4 (keep (by kernel_rfl) (of_decide_eq_true (by kernel_rfl)) h0k (fun y h => by simp [h])) (keep (by kernel_rfl) (of_decide_eq_true (by kernel_rfl)) h1k (fun y h => by simp [h])) (keep (by kernel_rfl) (of_decide_eq_true (by kernel_rfl)) h2k (fun y h => by simp [h])) (keep (by kernel_rfl) (of_decide_eq_true (by kernel_rfl)) h3k (fun y h => by simp [h])), rfl, hext.kept _, fun h => by simp at h⟩
theorem codecWrites_holds : Rows.CodecWritesSaid :=
  OpenClaim.holds_of_wide 5 Try.f5 rfl rfl rfl rfl rfl rfl rfl ⟨rfl, rfl, rfl, rfl, rfl⟩ rfl rfl rfl rfl rfl (by kernel_rfl) Try.func5 (by kernel_rfl)
    (of_decide_eq_true (by kernel_rfl)) (by unfold Func.isWrapper; first | (rw [if_pos (by decide +kernel)]; kernel_rfl) | (rw [if_neg (by decide +kernel)]; exact ⟨rfl, rfl⟩))
    (fun os started H enc _ => codecWrites_lifted os started H enc)
end Go.Proofs.Ythncmjlcmlmnmaa

