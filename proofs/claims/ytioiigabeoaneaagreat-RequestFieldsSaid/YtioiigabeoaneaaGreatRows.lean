/-
  NARROWER THAN 'FOR EVERY INPUT', by the rows' own cells (each row's printed sentence says how): RequestWrites: loops.
  DERIVED. THE GIVEN ROWS OF THIS SEAT. 3 by the template 'for every input the law returns true; each argument reads behind the call as it read before'; 0 by the template 'total and deterministic' (their statements: YtioiigabeoaneaaGreatTotals.lean).
  GIVEN WITH THE SEED: the statements are not yours to turn. If you find one false, say at which input.
  Laid BY PROGRAM, IN A SANDBOX (cutbox-rows.mjs): the forced cells as the released guide's own fill.sh prints them over the translation f7f3e73be4614c87… (all of the seat's roots in one cut). By AI agents, Wed Nov 11 2026. No macro, syntax, notation, axiom, sorry.
-/
import Derived.Test.YtioiigabeoaneaaGreatChecked
import GoSem.Claim
import GoSem.ClaimJoined
import GoSem.ClaimMapViews
import Derived.JoinedTies
import Derived.KernelRfl
namespace Go.Proofs.YtioiigabeoaneaaGreat
/- THE CELL 'sum', in the pinned program and in every row, IS THE sha256 OF THE DUMP (.gsa) THAT YtioiigabeoaneaaGreatProg.lean LOADS. Nothing in Lean hashes anything: it is a label: what it is worth is what the hold of that sum in a sandbox is worth. -/
noncomputable def Tryz.pinned : Pinned := { name := "ytioiigabeoaneaagreat", sum := "f7f3e73be4614c8726f2958115d9d9f0e2d34995b5981f1c2e8dcce530b7af68", checked := Tryz.checked }
namespace Rows
def none {H : Type} : Left H := { results := [], args := [] }

/-- 'touchstonelaw25.RequestWrites': WHATEVER THE INPUT: true; the input reads as it did. -/
def requestWritesSpec : ChangeSpec := { name := "requestWrites", fn := fun _ => fun
  | [d1, d2, d3, d4] => { results := [.lit (.bool true)], args := [d1, d2, d3, d4] }
  | _ => none }
def requestWritesRow : OpenClaim := { program := "ytioiigabeoaneaagreat", sum := "f7f3e73be4614c8726f2958115d9d9f0e2d34995b5981f1c2e8dcce530b7af68", func := "touchstone/touchstonelaw25.RequestWrites", spec := "requestWrites", unfollowed := true, recurses := true, loops := true, apart := false }
def RequestWritesSaid : Prop := requestWritesRow.holds Tryz.pinned (OpenSpec.ofChange requestWritesSpec)

/-- ITS FALSE NEIGHBOUR: 'it returns false'. Refute it at one input. -/
def requestWritesWrong : ChangeSpec := { name := "requestWrites", fn := fun _ => fun
  | [d1, d2, d3, d4] => { results := [.lit (.bool false)], args := [d1, d2, d3, d4] }
  | _ => none }
def RequestWritesWrongFalsely : Prop := requestWritesRow.holds Tryz.pinned (OpenSpec.ofChange requestWritesWrong)

/-- 'touchstonelaw25.RequestBack': WHATEVER THE INPUT: true; the input reads as it did. -/
def requestBackSpec : ChangeSpec := { name := "requestBack", fn := fun _ => fun
  | [d1, d2, d3] => { results := [.lit (.bool true)], args := [d1, d2, d3] }
  | _ => none }
def requestBackRow : OpenClaim := { program := "ytioiigabeoaneaagreat", sum := "f7f3e73be4614c8726f2958115d9d9f0e2d34995b5981f1c2e8dcce530b7af68", func := "touchstone/touchstonelaw25.RequestBack", spec := "requestBack", unfollowed := true, recurses := true, apart := false }
def RequestBackSaid : Prop := requestBackRow.holds Tryz.pinned (OpenSpec.ofChange requestBackSpec)

/-- ITS FALSE NEIGHBOUR: 'it returns false'. Refute it at one input. -/
def requestBackWrong : ChangeSpec := { name := "requestBack", fn := fun _ => fun
  | [d1, d2, d3] => { results := [.lit (.bool false)], args := [d1, d2, d3] }
  | _ => none }
def RequestBackWrongFalsely : Prop := requestBackRow.holds Tryz.pinned (OpenSpec.ofChange requestBackWrong)

/-- 'touchstonelaw25.RequestFields': WHATEVER THE INPUT: true; the input reads as it did. -/
def requestFieldsSpec : ChangeSpec := { name := "requestFields", fn := fun _ => fun
  | [d1, d2] => { results := [.lit (.bool true)], args := [d1, d2] }
  | _ => none }
def requestFieldsRow : OpenClaim := { program := "ytioiigabeoaneaagreat", sum := "f7f3e73be4614c8726f2958115d9d9f0e2d34995b5981f1c2e8dcce530b7af68", func := "touchstone/touchstonelaw25.RequestFields", spec := "requestFields", unfollowed := true, recurses := true, apart := false }
def RequestFieldsSaid : Prop := requestFieldsRow.holds Tryz.pinned (OpenSpec.ofChange requestFieldsSpec)

/-- ITS FALSE NEIGHBOUR: 'it returns false'. Refute it at one input. -/
def requestFieldsWrong : ChangeSpec := { name := "requestFields", fn := fun _ => fun
  | [d1, d2] => { results := [.lit (.bool false)], args := [d1, d2] }
  | _ => none }
def RequestFieldsWrongFalsely : Prop := requestFieldsRow.holds Tryz.pinned (OpenSpec.ofChange requestFieldsWrong)

/- THE SECOND FORM. 'bulk': how many values and letters a reading holds, each counted each time it is reached (what is shared counts as often as it is met; a slice's spare places count too). A statement '..UptoSaid' is the law's where the arguments, and the package variables that the reading takes, are together of bulk at most 1048576: NARROWER than '..Said'. Prove '..Said' where nothing that the law and all that it calls make is longer than what came in: it says more and counts as full. Else prove '..UptoSaid'. A law counts once. -/
mutual
def uptoBulk {H : Type} : DataW H → Nat
  | .lit (.string bytes) => bytes.length + 1
  | .lit _ => 1
  | .nil => 1
  | .ptr d => uptoBulk d + 1
  | .slice elems spare => uptoBulkAll elems + uptoBulkAll spare + 1
  | .agg parts => uptoBulkAll parts + 1
  | .iface _ d => uptoBulk d + 1
  | .map entries => uptoBulkEntries entries + 1
  | .held _ => 1
def uptoBulkAll {H : Type} : List (DataW H) → Nat
  | [] => 0
  | d :: r => uptoBulk d + uptoBulkAll r
def uptoBulkEntries {H : Type} : List (Lit × DataW H) → Nat
  | [] => 0
  | x :: r => uptoBulkEntry x + uptoBulkEntries r
def uptoBulkEntry {H : Type} : Lit × DataW H → Nat
  | (.string bytes, d) => bytes.length + uptoBulk d + 1
  | (_, d) => uptoBulk d + 1
 end
def uptoSmall : (H : Type) → List (DataW H) → Bool := fun _ ds => decide (uptoBulkAll ds ≤ 1048576)
def OpenSpec.upto (s : _root_.Go.ChangeSpec) : _root_.Go.OpenSpec := { _root_.Go.OpenSpec.ofChange s with cond := some uptoSmall }

/-- 'touchstonelaw25.RequestWrites', WHERE WHAT IT READS IS OF BULK AT MOST 1048576: true; the input reads as it did. -/
def requestWritesUptoRow : OpenClaim := { program := "ytioiigabeoaneaagreat", sum := "f7f3e73be4614c8726f2958115d9d9f0e2d34995b5981f1c2e8dcce530b7af68", func := "touchstone/touchstonelaw25.RequestWrites", spec := "requestWrites", unfollowed := true, recurses := true, loops := true, apart := false, narrowed := true }
def RequestWritesUptoSaid : Prop := requestWritesUptoRow.holds Tryz.pinned (OpenSpec.upto requestWritesSpec)

/-- 'touchstonelaw25.RequestBack', WHERE WHAT IT READS IS OF BULK AT MOST 1048576: true; the input reads as it did. -/
def requestBackUptoRow : OpenClaim := { program := "ytioiigabeoaneaagreat", sum := "f7f3e73be4614c8726f2958115d9d9f0e2d34995b5981f1c2e8dcce530b7af68", func := "touchstone/touchstonelaw25.RequestBack", spec := "requestBack", unfollowed := true, recurses := true, apart := false, narrowed := true }
def RequestBackUptoSaid : Prop := requestBackUptoRow.holds Tryz.pinned (OpenSpec.upto requestBackSpec)

/-- 'touchstonelaw25.RequestFields', WHERE WHAT IT READS IS OF BULK AT MOST 1048576: true; the input reads as it did. -/
def requestFieldsUptoRow : OpenClaim := { program := "ytioiigabeoaneaagreat", sum := "f7f3e73be4614c8726f2958115d9d9f0e2d34995b5981f1c2e8dcce530b7af68", func := "touchstone/touchstonelaw25.RequestFields", spec := "requestFields", unfollowed := true, recurses := true, apart := false, narrowed := true }
def RequestFieldsUptoSaid : Prop := requestFieldsUptoRow.holds Tryz.pinned (OpenSpec.upto requestFieldsSpec)

end Rows
end Go.Proofs.YtioiigabeoaneaaGreat
