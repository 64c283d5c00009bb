/- The law 'ReplyBack' answers true, whatever its reply and its two numbers. Conditions: none. -/
import Derived.Test.YthncmjlcmlmnmaaRows
import Derived.Test.YthncmjlcmlmnmaaRB13
namespace Go.Proofs.Ythncmjlcmlmnmaa
open Go V
open Go.ChangeShapes Go.WideShapes Go.ChangeAt Go.RowKit
set_option maxRecDepth 100000
theorem replyBack_any (err : Int) (hi lo : Nat) (hhi : hi < 2 ^ 64) (hlo : lo < 2 ^ 64) (fuel cells : Int) (yes : Bool) (t : Tm) (pa : Int) (ax : List ByteArray) (c cut : Int) (hc : 0 ≤ c ∧ c ≤ 255) (vs : Array Value) (W : World)
    (hr : RowR W [.v (.int .i64 err), .v (.int .u64 (hi : Nat)), .v (.int .u64 (lo : Nat)), .v (.int .i64 fuel), .v (.int .i64 cells), .v (.bool yes), .v (.int .i64 t.k), .v (.int .i64 t.n), .v (.string t.nm), .sl 3 (Lv.rows t.ls) none, .sl 5 (Tm.rows t.args) none, .v (.int .i64 pa), .sl 1 (ax.map strRow) none] vs.toList) :
    Calls Try.prog 11 #[.agg vs, .int .u8 c, .int .i64 cut] W fun e w' => e = .returned (.bool true) ∧ Ext (fun _ _ => False) W w' := by
  obtain ⟨F, hF, hno⟩ := own_closed (S := allS W) (w := W) (F := fun _ _ => False) _ vs.toList hr.1.symm hr.2
  have h1 := Own.agg _ _ _ hF
  rw [Array.toArray_toList] at h1
  exact calls_of_den (us := [.agg vs, .int .u8 c, .int .i64 cut]) (F := fun b o => F b o ∨ (False ∨ (False ∨ False))) (d_p11 2000000 List.length rfl (replyBack_pure err hi lo hhi hlo fuel cells yes t pa ax c cut hc))
    (by rintro r bs ⟨y, o0, o1, o2, ⟨rfl, _⟩, rfl⟩; rfl) (fun _ => rfl)
    (.cons _ _ _ _ _ _ h1 (.cons _ _ _ _ _ _ (.c _ _ (.v _ rfl)) (.cons _ _ _ _ _ _ (.c _ _ (.v _ rfl)) .nil (fun _ _ h => h.elim)) (fun _ _ h => h.elim)) (fun _ _ h => absurd h (hno _ _))) (fun b o h => h.elim (hno b o) (fun h => by simp at h))
theorem replyBack_lifted (os : Os) (started : os.Started) (H : Type) (enc : TypeId × Value → H) :
    ReturnsInHanded {} Try.checked os 11 .any (Rows.replyBackSpec.pre6 enc Try.prog Try.f11 Rows.replyBackRow.domain false) (Rows.replyBackSpec.post enc Try.prog Try.f11 false true false false) := by
  refine returnsInHanded_of_change (C := Try.checked) Try.own started (by kernel_rfl) Try.func11
    (ChangeSpec.witness6 (enc := enc) (C := Try.checked) false ⟨#[], #[.agg #[.int .i64 0, .int .u64 0, .int .u64 0, .int .i64 0, .int .i64 0, .bool false, .int .i64 0, .int .i64 0, .string ⟨#[]⟩, .slice none 0 0, .slice none 0 0, .int .i64 0, .slice none 0 0], .int .u8 0, .int .i64 0], []⟩ 8 (by kernel_rfl) (by kernel_rfl) (by kernel_rfl) (by kernel_rfl)) ?_
  intro W base args ds gs before hval0 hW hcnd _
  have hval : ∀ (j : Nat) t v, Try.f11.params[j]? = some t → args[j]? = some v → Value.okWide Try.prog W .any base t v := hval0
  have hW' := hW
  obtain ⟨p, q, hA0, hV, rfl, hfz, hnd⟩ := hW
  have hA : DataW.TrodAll enc Try.prog W 0 (fun _ => true) true Try.f11.params.toList args.toList ds p := hA0
  rw [Try.params11] at hA hval
  obtain ⟨v0, v1, v2, d0, d1, d2, p0, p1, p2, rfl, rfl, rfl, h0, h1, h2⟩ := trodAll_three hA
  obtain ⟨rfl, rfl⟩ := trodVars_none hV
  have hu : Try.prog.underlying 4 = some .bool := by kernel_rfl
  have hu8 : Try.prog.underlying 5 = some (.int .u8) := by kernel_rfl
  have hlt : ∀ x ∈ p0 ++ p1 ++ p2, x.block < W.heap.size := fun x hx => by simpa using hW'.lt x (by simpa using hx)
  have h0k := h0
  obtain ⟨b, rfl, rfl, rfl, wb⟩ := open_int hu8 (hval 1 5 v1 rfl rfl) h1
  obtain ⟨c, rfl, rfl, rfl, wc⟩ := open_int un_int (hval 2 3 v2 rfl rfl) h2
  obtain ⟨vs, rfl⟩ : ∃ vs, v0 = .agg vs := by
    have h3 := hval 0 70 v0 rfl rfl
    have hk : (match Try.prog.underlying 70 with | some (.struct _) => true | _ => false) = true := by kernel_rfl
    split at hk
    · rename_i fs hus
      obtain ⟨vs, h4, _⟩ := okWide_struct hus h3
      exact ⟨vs, h4⟩
    · cases hk
  obtain ⟨n, ys, hr, hs⟩ := trod_own_agg rpTys_closed (by simp [rpTys]) h0
  obtain ⟨err, hi, lo, fuel, cells, yes, t, pa, ax, hhi, hlo, rfl⟩ := shp_reply hs
  clear hA0 hval0
  simp only [List.append_nil] at hW' hlt
  refine (replyBack_any err hi lo hhi hlo fuel cells yes t pa ax b c (u8_of wb) vs W hr).mono fun e W' ⟨he, hext⟩ => ?_
  subst he
  exact ⟨_, rfl, _, _, _, [], _, [], hW', trodAll_mk1 (shut_bool hu true), trodAll_mk3 (Below.trod Try.laidOut (by kernel_rfl) (of_decide_eq_true (by kernel_rfl)) h0k hext.below hlt) (shut_int hu8 wb) (shut_int un_int wc), rfl, hext.kept _, fun h => by simp at h⟩
theorem replyBack_holds : Rows.ReplyBackSaid :=
  OpenClaim.holds_of_wide 11 Try.f11 rfl rfl rfl rfl rfl rfl rfl ⟨rfl, rfl, rfl, rfl, rfl⟩ rfl rfl rfl rfl rfl (by kernel_rfl) Try.func11 (by kernel_rfl)
    (of_decide_eq_true (by kernel_rfl)) (by unfold Func.isWrapper; first | (rw [if_pos (by decide +kernel)]; kernel_rfl) | (rw [if_neg (by decide +kernel)]; exact ⟨rfl, rfl⟩))
    (fun os started H enc _ => replyBack_lifted os started H enc)
end Go.Proofs.Ythncmjlcmlmnmaa
