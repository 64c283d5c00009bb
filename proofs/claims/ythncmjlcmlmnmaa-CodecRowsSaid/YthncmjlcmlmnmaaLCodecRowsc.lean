/- The law 'CodecRows' answers true, whatever its rows of numbers. Conditions: none. -/
import Derived.Test.YthncmjlcmlmnmaaRows
import Derived.Test.YthncmjlcmlmnmaaCX8
import Derived.Test.YthncmjlcmlmnmaaCX11
namespace Go.Proofs.Ythncmjlcmlmnmaa
open Go V
open Go.ChangeShapes Go.WideShapes Go.ChangeAt Go.RowKit
set_option maxRecDepth 100000
def bbTys : List TypeId := [5, 24, 22]
theorem w3k : w4l Try.prog bbTys = true := by kernel_rfl
theorem w7p {n : Nat} {ys : List CV} (h : Shp Try.prog n 24 ys) : ∃ bs : List UInt8, ys = rowB bs := by
 have hu8 : Try.prog.underlying 5 = some (.int .u8) := by kernel_rfl
 obtain ⟨q, es, rfl, rfl, hes⟩ := w1j (show Try.prog.underlying 24 = some (.slice 5) by kernel_rfl) (show Try.prog.cellsOf 5 = 1 by kernel_rfl) h
 obtain ⟨bs, rfl⟩ := w6a es (fun r hr => by
  have := hes r hr
  cases q with
  | zero => exact this.elim
  | succ n => simp only [Shp, hu8] at this; exact this)
 exact ⟨bs, rfl⟩
theorem w0b : ∀ (es : EL), (∀ r ∈ es, ∃ b : List UInt8, r = rowB b) → ∃ l : List (List UInt8), es = l.map rowB
 | [], _ => ⟨[], rfl⟩
 | r :: es, h => by
  obtain ⟨b, hb⟩ := h r (by simp)
  obtain ⟨l, hl⟩ := w0b es fun r hr => h r (by simp [hr])
  exact ⟨b :: l, by rw [hb, hl, List.map_cons]⟩
theorem bb_arg {H : Type} {enc : TypeId × Value → H} {w : World} {base : Nat} {spare : Nat → Bool} {held : Bool} {v : Value} {r : Reach} {d : DataW H} {ps : List MemPlace} {base' : Nat} (hv : Value.okWide Try.prog w r base' 22 v) (h : DataW.Trod enc Try.prog w base spare held 22 v d ps) :
  ∃ l : List (List UInt8), RelC (allS w) w (.sl 1 (l.map rowB) none) v := by
 have hu : Try.prog.underlying 22 = some (.slice 24) := by kernel_rfl
 obtain ⟨n, y, hr, hs⟩ := k0h w3k (by simp [bbTys]) h (w4n hu hv)
 obtain ⟨q, es, rfl, he, hes⟩ := w1j hu (show Try.prog.cellsOf 24 = 1 by kernel_rfl) hs
 injection he with he _
 subst he
 obtain ⟨l, rfl⟩ := w0b es fun r hr => w7p (hes r hr)
 exact ⟨l, hr⟩
theorem w0x (l : List (List UInt8)) (v : Value) (W : World) (hr : RelC (allS W) W (.sl 1 (l.map rowB) none) v) : Calls Try.prog 3 #[v] W fun e w' => e = .returned (.bool true) ∧ Ext (fun _ _ => False) W w' := by
 obtain ⟨fu, hp⟩ := z9c l
 exact w3g (us := [v]) (F := fun _ _ => False ∨ False) (d_p3 fu List.length rfl hp)
  (by rintro r bs ⟨y, o0, ⟨rfl, _⟩, rfl⟩; rfl) (fun _ => rfl)
  (.cons _ _ _ _ _ _ (.c _ _ hr) .nil (fun _ _ h => h.elim)) (fun _ _ h => by simp at h)
theorem z7k (os : Os) (started : os.Started) (H : Type) (enc : TypeId × Value → H) :
  ReturnsInHanded {} Try.checked os 3 .any (Rows.codecRowsSpec.pre6 enc Try.prog Try.f3 Rows.codecRowsRow.domain false) (Rows.codecRowsSpec.post enc Try.prog Try.f3 false true false false) := by
 refine returnsInHanded_of_change (C := Try.checked) Try.own started (by kernel_rfl) Try.func3
  (ChangeSpec.witness6 (enc := enc) (C := Try.checked) false ⟨#[], #[.slice none 0 0], []⟩ 8 (by kernel_rfl) (by kernel_rfl) (by kernel_rfl) (by kernel_rfl)) ?_
 intro W base args ds gs before hval0 hW hcnd _
 have hval : ∀ (j : Nat) t v, Try.f3.params[j]? = some t → args[j]? = some v → Value.okWide Try.prog W .any base t v := hval0
 have hW' := hW
 obtain ⟨p, q, hA0, hV, rfl, hfz, hnd⟩ := hW
 have hA : DataW.TrodAll enc Try.prog W 0 (fun _ => true) true Try.f3.params.toList args.toList ds p := hA0
 rw [Try.params3] at hA hval
 obtain ⟨v0, d0, rfl, rfl, h0⟩ := trodAll_one hA
 obtain ⟨rfl, rfl⟩ := trodVars_none hV
 have hu : Try.prog.underlying 4 = some .bool := by kernel_rfl
 have hlt : ∀ x ∈ p, x.block < W.heap.size := fun x hx => by simpa using hW'.lt x (by simpa using hx)
 have h0k := h0
 obtain ⟨l, hr⟩ := bb_arg (hval 0 22 v0 rfl rfl) h0
 clear hA0 hval0
 refine (w0x l v0 W hr).mono fun e W' ⟨he, hext⟩ => ?_
 subst he
 exact ⟨_, rfl, _, _, _, [], _, [], hW', trodAll_mk1 (shut_bool hu true), trodAll_mk1 (Below.trod Try.laidOut (by kernel_rfl) (of_decide_eq_true (by kernel_rfl)) h0k hext.below hlt), rfl, hext.kept _, fun h => by simp at h⟩
theorem codecRows_holds : Rows.CodecRowsSaid :=
 OpenClaim.holds_of_wide 3 Try.f3 rfl rfl rfl rfl rfl rfl rfl ⟨rfl, rfl, rfl, rfl, rfl⟩ rfl rfl rfl rfl rfl (by kernel_rfl) Try.func3 (by kernel_rfl)
  (of_decide_eq_true (by kernel_rfl)) (by unfold Func.isWrapper; first | (rw [if_pos (by decide +kernel)]; kernel_rfl) | (rw [if_neg (by decide +kernel)]; exact ⟨rfl, rfl⟩))
  (fun os started H enc _ => z7k os started H enc)
end Go.Proofs.Ythncmjlcmlmnmaa
