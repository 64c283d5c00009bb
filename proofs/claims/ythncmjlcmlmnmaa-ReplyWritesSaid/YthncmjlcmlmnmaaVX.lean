/- From a law's contract to what a row asks of its call. Conditions: none. -/
import Derived.Test.YthncmjlcmlmnmaaVW
import GoSem.ClaimChange
namespace Go.Proofs.Ythncmjlcmlmnmaa.V
open Go
/-- All cells that there are. -/
def allS (w : World) : Area := fun b _ => b < w.heap.size
theorem calls_of_den {P : Program} {G : Glob} {f : FuncId} {os : List OV} {Q : OV → List OV → Prop} (hd : Den P G f os Q) (hQ : ∀ r bs, Q r bs → r = .c (.v (.bool true))) (hG : ∀ g, G g = none)
    {w : World} {us : List Value} {F : Area} (ho : OwnL (allS w) w F os us) (hF : ∀ b o, ¬ F b o) :
    Calls P f us.toArray w fun e w' => e = .returned (.bool true) ∧ Ext (fun _ _ => False) w w' := by
  refine Calls.mono (hd.2 (allS w) F w us (fun _ _ h => h) (fun b o h => absurd h (hF b o)) (fun g cs h => by rw [hG] at h; simp at h) ho) ?_
  rintro e w' ⟨v, r, bs, S', Fr, Fb, rfl, hq, hr, hb, hend⟩
  have := hQ r bs hq
  subst this
  cases hr with | c _ _ hr =>
  cases hr
  have hext := hend.ext
  exact ⟨rfl, ⟨hext.os, hext.tape, hext.output, hext.size, fun b o hb _ => hext.cell b o hb (hF b o), hext.shape, hext.frz, fun b hb _ => hext.obj b hb (hF b)⟩⟩
theorem Ext.kept {w w' : World} (h : Ext (fun _ _ => False) w w') (may : MemPlace → Prop) : w.keptBut w' may := by
  refine ⟨h.os, h.output, fun i hi => ?_⟩
  rw [h.obj i hi (fun _ q => q)]
  cases w.heap[i]? with
  | none => trivial
  | some ob => cases ob <;> simp
end Go.Proofs.Ythncmjlcmlmnmaa.V
