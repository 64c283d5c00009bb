/- The law 'ReplyWrites' answers true, whatever its bytes and its reply. Conditions: none. -/
import Derived.Test.YthncmjlcmlmnmaaRows
import Derived.Test.YthncmjlcmlmnmaaRW16
namespace Go.Proofs.Ythncmjlcmlmnmaa
open Go V
open Go.ChangeShapes Go.WideShapes Go.ChangeAt Go.RowKit
set_option maxRecDepth 100000
theorem replyWrites_any (b : List UInt8) (v : Value) (err : Int) (hi lo : Nat) (hhi : hi < 2 ^ 64) (hlo : lo < 2 ^ 64) (fuel cells : Int) (yes : Bool) (t : Tm) (pa : Int) (ax : List ByteArray) (vs : Array Value) (W : World)
    (hv : RelC (allS W) W (.sl 1 (encB b) none) v)
    (hr : RowR W [.v (.int .i64 err), .v (.int .u64 (hi : Nat)), .v (.int .u64 (lo : Nat)), .v (.int .i64 fuel), .v (.int .i64 cells), .v (.bool yes), .v (.int .i64 t.k), .v (.int .i64 t.n), .v (.string t.nm), .sl 3 (Lv.rows t.ls) none, .sl 5 (Tm.rows t.args) none, .v (.int .i64 pa), .sl 1 (ax.map strRow) none] vs.toList) :
    Calls Try.prog 9 #[v, .agg vs] W fun e w' => e = .returned (.bool true) ∧ Ext (fun _ _ => False) W w' := by
  obtain ⟨F, hF, hno⟩ := own_closed (S := allS W) (w := W) (F := fun _ _ => False) _ vs.toList hr.1.symm hr.2
  have h1 := Own.agg _ _ _ hF
  rw [Array.toArray_toList] at h1
  exact calls_of_den (us := [v, .agg vs]) (F := fun b o => False ∨ (F b o ∨ False)) (d_p9 2000000 List.length rfl (replyWrites_pure b err hi lo hhi hlo fuel cells yes t pa ax))
    (by rintro r bs ⟨y, o0, o1, ⟨rfl, _⟩, rfl⟩; rfl) (fun _ => rfl)
    (.cons _ _ _ _ _ _ (.c _ _ hv) (.cons _ _ _ _ _ _ h1 .nil (fun _ _ h => absurd h (hno _ _))) (fun _ _ h => h.elim)) (fun b o h => h.elim id (fun h => h.elim (hno b o) id))
theorem replyWrites_lifted (os : Os) (started : os.Started) (H : Type) (enc : TypeId × Value → H) :
    ReturnsInHanded {} Try.checked os 9 .any (Rows.replyWritesSpec.pre6 enc Try.prog Try.f9 Rows.replyWritesRow.domain false) (Rows.replyWritesSpec.post enc Try.prog Try.f9 false true false false) := by
  refine returnsInHanded_of_change (C := Try.checked) Try.own started (by kernel_rfl) Try.func9
    (ChangeSpec.witness6 (enc := enc) (C := Try.checked) false ⟨#[], #[.slice none 0 0, .agg #[.int .i64 0, .int .u64 0, .int .u64 0, .int .i64 0, .int .i64 0, .bool false, .int .i64 0, .int .i64 0, .string ⟨#[]⟩, .slice none 0 0, .slice none 0 0, .int .i64 0, .slice none 0 0]], []⟩ 8 (by kernel_rfl) (by kernel_rfl) (by kernel_rfl) (by kernel_rfl)) ?_
  intro W base args ds gs before hval0 hW hcnd _
  have hval : ∀ (j : Nat) t v, Try.f9.params[j]? = some t → args[j]? = some v → Value.okWide Try.prog W .any base t v := hval0
  have hW' := hW
  obtain ⟨p, q, hA0, hV, rfl, hfz, hnd⟩ := hW
  have hA : DataW.TrodAll enc Try.prog W 0 (fun _ => true) true Try.f9.params.toList args.toList ds p := hA0
  rw [Try.params9] at hA hval
  obtain ⟨v0, v1, d0, d1, p0, p1, rfl, rfl, rfl, h0, h1⟩ := trodAll_two hA
  obtain ⟨rfl, rfl⟩ := trodVars_none hV
  have hu : Try.prog.underlying 4 = some .bool := by kernel_rfl
  have hlt : ∀ x ∈ p0 ++ p1, x.block < W.heap.size := fun x hx => by simpa using hW'.lt x (by simpa using hx)
  have h0k := h0
  have h1k := h1
  obtain ⟨bs, hrb, _⟩ := bytes_arg (hval 0 24 v0 rfl rfl) h0
  obtain ⟨vs, rfl⟩ : ∃ vs, v1 = .agg vs := by
    have h3 := hval 1 70 v1 rfl rfl
    have hk : (match Try.prog.underlying 70 with | some (.struct _) => true | _ => false) = true := by kernel_rfl
    split at hk
    · rename_i fs hus
      obtain ⟨vs, h4, _⟩ := okWide_struct hus h3
      exact ⟨vs, h4⟩
    · cases hk
  obtain ⟨n, ys, hr, hs⟩ := trod_own_agg rpTys_closed (by simp [rpTys]) h1
  obtain ⟨err, hi, lo, fuel, cells, yes, t, pa, ax, hhi, hlo, rfl⟩ := shp_reply hs
  clear hA0 hval0
  simp only [List.append_nil] at hW'
  refine (replyWrites_any bs v0 err hi lo hhi hlo fuel cells yes t pa ax vs W hrb hr).mono fun e W' ⟨he, hext⟩ => ?_
  subst he
  exact ⟨_, rfl, _, _, _, [], _, [], hW', trodAll_mk1 (shut_bool hu true), trodAll_mk2 (Below.trod Try.laidOut (by kernel_rfl) (of_decide_eq_true (by kernel_rfl)) h0k hext.below (fun x hx => hlt x (by simp [hx]))) (Below.trod Try.laidOut (by kernel_rfl) (of_decide_eq_true (by kernel_rfl)) h1k hext.below (fun x hx => hlt x (by simp [hx]))), rfl, hext.kept _, fun h => by simp at h⟩
theorem replyWrites_holds : Rows.ReplyWritesSaid :=
  OpenClaim.holds_of_wide 9 Try.f9 rfl rfl rfl rfl rfl rfl rfl ⟨rfl, rfl, rfl, rfl, rfl⟩ rfl rfl rfl rfl rfl (by kernel_rfl) Try.func9 (by kernel_rfl)
    (of_decide_eq_true (by kernel_rfl)) (by unfold Func.isWrapper; first | (rw [if_pos (by decide +kernel)]; kernel_rfl) | (rw [if_neg (by decide +kernel)]; exact ⟨rfl, rfl⟩))
    (fun os started H enc _ => replyWrites_lifted os started H enc)
end Go.Proofs.Ythncmjlcmlmnmaa
