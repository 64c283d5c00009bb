/-
  NARROWER THAN 'FOR EVERY INPUT', by the rows' own cells (each row's printed sentence says how): CodecWrites: loops · CodecBack: loops · ReplyWrites: loops · ReplyBack: loops.
  DERIVED. THE GIVEN ROWS OF THIS SEAT. 10 by the template 'for every input the law returns true; each argument reads behind the call as it read before'; 0 by the template 'total and deterministic' (their statements: YthncmjlcmlmnmaaTotals.lean).
  GIVEN WITH THE SEED: the statements are not yours to turn. If you find one false, say at which input.
  Laid BY PROGRAM, IN A SANDBOX (cutbox-rows.mjs): the forced cells as the released guide's own fill.sh prints them over the translation a4959e5f74b292ea… (all of the seat's roots in one cut). By AI agents, Wed Nov 11 2026. No macro, syntax, notation, axiom, sorry.
-/
import Derived.Test.YthncmjlcmlmnmaaChecked
import GoSem.Claim
import GoSem.ClaimJoined
import GoSem.ClaimMapViews
import Derived.JoinedTies
import Derived.KernelRfl
namespace Go.Proofs.Ythncmjlcmlmnmaa
/- THE CELL 'sum', in the pinned program and in every row, IS THE sha256 OF THE DUMP (.gsa) THAT YthncmjlcmlmnmaaProg.lean LOADS. Nothing in Lean hashes anything: it is a label: what it is worth is what the hold of that sum in a sandbox is worth. -/
noncomputable def Try.pinned : Pinned := { name := "ythncmjlcmlmnmaa", sum := "a4959e5f74b292ea280115b5e354caf25c6c84e54b4dfe722edb3d35eda5e756", checked := Try.checked }
namespace Rows
def none {H : Type} : Left H := { results := [], args := [] }

/-- 'touchstonelaw6.CodecRows': WHATEVER THE INPUT: true; the input reads as it did. -/
def codecRowsSpec : ChangeSpec := { name := "codecRows", fn := fun _ => fun
  | [d] => { results := [.lit (.bool true)], args := [d] }
  | _ => none }
def codecRowsRow : OpenClaim := { program := "ythncmjlcmlmnmaa", sum := "a4959e5f74b292ea280115b5e354caf25c6c84e54b4dfe722edb3d35eda5e756", func := "touchstone/touchstonelaw6.CodecRows", spec := "codecRows", recurses := true, apart := false }
def CodecRowsSaid : Prop := codecRowsRow.holds Try.pinned (OpenSpec.ofChange codecRowsSpec)

/-- ITS FALSE NEIGHBOUR: 'it returns false'. Refute it at one input. -/
def codecRowsWrong : ChangeSpec := { name := "codecRows", fn := fun _ => fun
  | [d] => { results := [.lit (.bool false)], args := [d] }
  | _ => none }
def CodecRowsWrongFalsely : Prop := codecRowsRow.holds Try.pinned (OpenSpec.ofChange codecRowsWrong)

/-- 'touchstonelaw6.CodecDeep': WHATEVER THE INPUT: true; the input reads as it did. -/
def codecDeepSpec : ChangeSpec := { name := "codecDeep", fn := fun _ => fun
  | [d1, d2] => { results := [.lit (.bool true)], args := [d1, d2] }
  | _ => none }
def codecDeepRow : OpenClaim := { program := "ythncmjlcmlmnmaa", sum := "a4959e5f74b292ea280115b5e354caf25c6c84e54b4dfe722edb3d35eda5e756", func := "touchstone/touchstonelaw6.CodecDeep", spec := "codecDeep", recurses := true, apart := false }
def CodecDeepSaid : Prop := codecDeepRow.holds Try.pinned (OpenSpec.ofChange codecDeepSpec)

/-- ITS FALSE NEIGHBOUR: 'it returns false'. Refute it at one input. -/
def codecDeepWrong : ChangeSpec := { name := "codecDeep", fn := fun _ => fun
  | [d1, d2] => { results := [.lit (.bool false)], args := [d1, d2] }
  | _ => none }
def CodecDeepWrongFalsely : Prop := codecDeepRow.holds Try.pinned (OpenSpec.ofChange codecDeepWrong)

/-- 'touchstonelaw6.CodecWrites': WHATEVER THE INPUT: true; the input reads as it did. -/
def codecWritesSpec : ChangeSpec := { name := "codecWrites", fn := fun _ => fun
  | [d1, d2, d3, d4] => { results := [.lit (.bool true)], args := [d1, d2, d3, d4] }
  | _ => none }
def codecWritesRow : OpenClaim := { program := "ythncmjlcmlmnmaa", sum := "a4959e5f74b292ea280115b5e354caf25c6c84e54b4dfe722edb3d35eda5e756", func := "touchstone/touchstonelaw6.CodecWrites", spec := "codecWrites", recurses := true, loops := true, apart := false }
def CodecWritesSaid : Prop := codecWritesRow.holds Try.pinned (OpenSpec.ofChange codecWritesSpec)

/-- ITS FALSE NEIGHBOUR: 'it returns false'. Refute it at one input. -/
def codecWritesWrong : ChangeSpec := { name := "codecWrites", fn := fun _ => fun
  | [d1, d2, d3, d4] => { results := [.lit (.bool false)], args := [d1, d2, d3, d4] }
  | _ => none }
def CodecWritesWrongFalsely : Prop := codecWritesRow.holds Try.pinned (OpenSpec.ofChange codecWritesWrong)

/-- 'touchstonelaw6.CodecReads': WHATEVER THE INPUT: true; the input reads as it did. -/
def codecReadsSpec : ChangeSpec := { name := "codecReads", fn := fun _ => fun
  | [d] => { results := [.lit (.bool true)], args := [d] }
  | _ => none }
def codecReadsRow : OpenClaim := { program := "ythncmjlcmlmnmaa", sum := "a4959e5f74b292ea280115b5e354caf25c6c84e54b4dfe722edb3d35eda5e756", func := "touchstone/touchstonelaw6.CodecReads", spec := "codecReads", recurses := true, apart := false }
def CodecReadsSaid : Prop := codecReadsRow.holds Try.pinned (OpenSpec.ofChange codecReadsSpec)

/-- ITS FALSE NEIGHBOUR: 'it returns false'. Refute it at one input. -/
def codecReadsWrong : ChangeSpec := { name := "codecReads", fn := fun _ => fun
  | [d] => { results := [.lit (.bool false)], args := [d] }
  | _ => none }
def CodecReadsWrongFalsely : Prop := codecReadsRow.holds Try.pinned (OpenSpec.ofChange codecReadsWrong)

/-- 'touchstonelaw6.CodecBack': WHATEVER THE INPUT: true; the input reads as it did. -/
def codecBackSpec : ChangeSpec := { name := "codecBack", fn := fun _ => fun
  | [d1, d2, d3, d4] => { results := [.lit (.bool true)], args := [d1, d2, d3, d4] }
  | _ => none }
def codecBackRow : OpenClaim := { program := "ythncmjlcmlmnmaa", sum := "a4959e5f74b292ea280115b5e354caf25c6c84e54b4dfe722edb3d35eda5e756", func := "touchstone/touchstonelaw6.CodecBack", spec := "codecBack", recurses := true, loops := true, apart := false }
def CodecBackSaid : Prop := codecBackRow.holds Try.pinned (OpenSpec.ofChange codecBackSpec)

/-- ITS FALSE NEIGHBOUR: 'it returns false'. Refute it at one input. -/
def codecBackWrong : ChangeSpec := { name := "codecBack", fn := fun _ => fun
  | [d1, d2, d3, d4] => { results := [.lit (.bool false)], args := [d1, d2, d3, d4] }
  | _ => none }
def CodecBackWrongFalsely : Prop := codecBackRow.holds Try.pinned (OpenSpec.ofChange codecBackWrong)

/-- 'touchstonelaw6.CodecOnly': WHATEVER THE INPUT: true; the input reads as it did. -/
def codecOnlySpec : ChangeSpec := { name := "codecOnly", fn := fun _ => fun
  | [d] => { results := [.lit (.bool true)], args := [d] }
  | _ => none }
def codecOnlyRow : OpenClaim := { program := "ythncmjlcmlmnmaa", sum := "a4959e5f74b292ea280115b5e354caf25c6c84e54b4dfe722edb3d35eda5e756", func := "touchstone/touchstonelaw6.CodecOnly", spec := "codecOnly", recurses := true, apart := false }
def CodecOnlySaid : Prop := codecOnlyRow.holds Try.pinned (OpenSpec.ofChange codecOnlySpec)

/-- ITS FALSE NEIGHBOUR: 'it returns false'. Refute it at one input. -/
def codecOnlyWrong : ChangeSpec := { name := "codecOnly", fn := fun _ => fun
  | [d] => { results := [.lit (.bool false)], args := [d] }
  | _ => none }
def CodecOnlyWrongFalsely : Prop := codecOnlyRow.holds Try.pinned (OpenSpec.ofChange codecOnlyWrong)

/-- 'touchstonelaw26.ReplyWrites': WHATEVER THE INPUT: true; the input reads as it did. -/
def replyWritesSpec : ChangeSpec := { name := "replyWrites", fn := fun _ => fun
  | [d1, d2] => { results := [.lit (.bool true)], args := [d1, d2] }
  | _ => none }
def replyWritesRow : OpenClaim := { program := "ythncmjlcmlmnmaa", sum := "a4959e5f74b292ea280115b5e354caf25c6c84e54b4dfe722edb3d35eda5e756", func := "touchstone/touchstonelaw26.ReplyWrites", spec := "replyWrites", unfollowed := true, recurses := true, loops := true, apart := false }
def ReplyWritesSaid : Prop := replyWritesRow.holds Try.pinned (OpenSpec.ofChange replyWritesSpec)

/-- ITS FALSE NEIGHBOUR: 'it returns false'. Refute it at one input. -/
def replyWritesWrong : ChangeSpec := { name := "replyWrites", fn := fun _ => fun
  | [d1, d2] => { results := [.lit (.bool false)], args := [d1, d2] }
  | _ => none }
def ReplyWritesWrongFalsely : Prop := replyWritesRow.holds Try.pinned (OpenSpec.ofChange replyWritesWrong)

/-- 'touchstonelaw26.ReplyReads': WHATEVER THE INPUT: true; the input reads as it did. -/
def replyReadsSpec : ChangeSpec := { name := "replyReads", fn := fun _ => fun
  | [d] => { results := [.lit (.bool true)], args := [d] }
  | _ => none }
def replyReadsRow : OpenClaim := { program := "ythncmjlcmlmnmaa", sum := "a4959e5f74b292ea280115b5e354caf25c6c84e54b4dfe722edb3d35eda5e756", func := "touchstone/touchstonelaw26.ReplyReads", spec := "replyReads", unfollowed := true, recurses := true, apart := false }
def ReplyReadsSaid : Prop := replyReadsRow.holds Try.pinned (OpenSpec.ofChange replyReadsSpec)

/-- ITS FALSE NEIGHBOUR: 'it returns false'. Refute it at one input. -/
def replyReadsWrong : ChangeSpec := { name := "replyReads", fn := fun _ => fun
  | [d] => { results := [.lit (.bool false)], args := [d] }
  | _ => none }
def ReplyReadsWrongFalsely : Prop := replyReadsRow.holds Try.pinned (OpenSpec.ofChange replyReadsWrong)

/-- 'touchstonelaw26.ReplyBack': WHATEVER THE INPUT: true; the input reads as it did. -/
def replyBackSpec : ChangeSpec := { name := "replyBack", fn := fun _ => fun
  | [d1, d2, d3] => { results := [.lit (.bool true)], args := [d1, d2, d3] }
  | _ => none }
def replyBackRow : OpenClaim := { program := "ythncmjlcmlmnmaa", sum := "a4959e5f74b292ea280115b5e354caf25c6c84e54b4dfe722edb3d35eda5e756", func := "touchstone/touchstonelaw26.ReplyBack", spec := "replyBack", unfollowed := true, recurses := true, loops := true, apart := false }
def ReplyBackSaid : Prop := replyBackRow.holds Try.pinned (OpenSpec.ofChange replyBackSpec)

/-- ITS FALSE NEIGHBOUR: 'it returns false'. Refute it at one input. -/
def replyBackWrong : ChangeSpec := { name := "replyBack", fn := fun _ => fun
  | [d1, d2, d3] => { results := [.lit (.bool false)], args := [d1, d2, d3] }
  | _ => none }
def ReplyBackWrongFalsely : Prop := replyBackRow.holds Try.pinned (OpenSpec.ofChange replyBackWrong)

/-- 'touchstonelaw26.ReplyTerms': WHATEVER THE INPUT: true; the input reads as it did. -/
def replyTermsSpec : ChangeSpec := { name := "replyTerms", fn := fun _ => fun
  | [d1, d2, d3] => { results := [.lit (.bool true)], args := [d1, d2, d3] }
  | _ => none }
def replyTermsRow : OpenClaim := { program := "ythncmjlcmlmnmaa", sum := "a4959e5f74b292ea280115b5e354caf25c6c84e54b4dfe722edb3d35eda5e756", func := "touchstone/touchstonelaw26.ReplyTerms", spec := "replyTerms", unfollowed := true, recurses := true, apart := false }
def ReplyTermsSaid : Prop := replyTermsRow.holds Try.pinned (OpenSpec.ofChange replyTermsSpec)

/-- ITS FALSE NEIGHBOUR: 'it returns false'. Refute it at one input. -/
def replyTermsWrong : ChangeSpec := { name := "replyTerms", fn := fun _ => fun
  | [d1, d2, d3] => { results := [.lit (.bool false)], args := [d1, d2, d3] }
  | _ => none }
def ReplyTermsWrongFalsely : Prop := replyTermsRow.holds Try.pinned (OpenSpec.ofChange replyTermsWrong)

/- THE SECOND FORM. 'bulk': how many values and letters a reading holds, each counted each time it is reached (what is shared counts as often as it is met; a slice's spare places count too). A statement '..UptoSaid' is the law's where the arguments, and the package variables that the reading takes, are together of bulk at most 1048576: NARROWER than '..Said'. Prove '..Said' where nothing that the law and all that it calls make is longer than what came in: it says more and counts as full. Else prove '..UptoSaid'. A law counts once. -/
mutual
def uptoBulk {H : Type} : DataW H → Nat
  | .lit (.string bytes) => bytes.length + 1
  | .lit _ => 1
  | .nil => 1
  | .ptr d => uptoBulk d + 1
  | .slice elems spare => uptoBulkAll elems + uptoBulkAll spare + 1
  | .agg parts => uptoBulkAll parts + 1
  | .iface _ d => uptoBulk d + 1
  | .map entries => uptoBulkEntries entries + 1
  | .held _ => 1
def uptoBulkAll {H : Type} : List (DataW H) → Nat
  | [] => 0
  | d :: r => uptoBulk d + uptoBulkAll r
def uptoBulkEntries {H : Type} : List (Lit × DataW H) → Nat
  | [] => 0
  | x :: r => uptoBulkEntry x + uptoBulkEntries r
def uptoBulkEntry {H : Type} : Lit × DataW H → Nat
  | (.string bytes, d) => bytes.length + uptoBulk d + 1
  | (_, d) => uptoBulk d + 1
 end
def uptoSmall : (H : Type) → List (DataW H) → Bool := fun _ ds => decide (uptoBulkAll ds ≤ 1048576)
def OpenSpec.upto (s : _root_.Go.ChangeSpec) : _root_.Go.OpenSpec := { _root_.Go.OpenSpec.ofChange s with cond := some uptoSmall }

/-- 'touchstonelaw6.CodecRows', WHERE WHAT IT READS IS OF BULK AT MOST 1048576: true; the input reads as it did. -/
def codecRowsUptoRow : OpenClaim := { program := "ythncmjlcmlmnmaa", sum := "a4959e5f74b292ea280115b5e354caf25c6c84e54b4dfe722edb3d35eda5e756", func := "touchstone/touchstonelaw6.CodecRows", spec := "codecRows", recurses := true, apart := false, narrowed := true }
def CodecRowsUptoSaid : Prop := codecRowsUptoRow.holds Try.pinned (OpenSpec.upto codecRowsSpec)

/-- 'touchstonelaw6.CodecDeep', WHERE WHAT IT READS IS OF BULK AT MOST 1048576: true; the input reads as it did. -/
def codecDeepUptoRow : OpenClaim := { program := "ythncmjlcmlmnmaa", sum := "a4959e5f74b292ea280115b5e354caf25c6c84e54b4dfe722edb3d35eda5e756", func := "touchstone/touchstonelaw6.CodecDeep", spec := "codecDeep", recurses := true, apart := false, narrowed := true }
def CodecDeepUptoSaid : Prop := codecDeepUptoRow.holds Try.pinned (OpenSpec.upto codecDeepSpec)

/-- 'touchstonelaw6.CodecWrites', WHERE WHAT IT READS IS OF BULK AT MOST 1048576: true; the input reads as it did. -/
def codecWritesUptoRow : OpenClaim := { program := "ythncmjlcmlmnmaa", sum := "a4959e5f74b292ea280115b5e354caf25c6c84e54b4dfe722edb3d35eda5e756", func := "touchstone/touchstonelaw6.CodecWrites", spec := "codecWrites", recurses := true, loops := true, apart := false, narrowed := true }
def CodecWritesUptoSaid : Prop := codecWritesUptoRow.holds Try.pinned (OpenSpec.upto codecWritesSpec)

/-- 'touchstonelaw6.CodecReads', WHERE WHAT IT READS IS OF BULK AT MOST 1048576: true; the input reads as it did. -/
def codecReadsUptoRow : OpenClaim := { program := "ythncmjlcmlmnmaa", sum := "a4959e5f74b292ea280115b5e354caf25c6c84e54b4dfe722edb3d35eda5e756", func := "touchstone/touchstonelaw6.CodecReads", spec := "codecReads", recurses := true, apart := false, narrowed := true }
def CodecReadsUptoSaid : Prop := codecReadsUptoRow.holds Try.pinned (OpenSpec.upto codecReadsSpec)

/-- 'touchstonelaw6.CodecBack', WHERE WHAT IT READS IS OF BULK AT MOST 1048576: true; the input reads as it did. -/
def codecBackUptoRow : OpenClaim := { program := "ythncmjlcmlmnmaa", sum := "a4959e5f74b292ea280115b5e354caf25c6c84e54b4dfe722edb3d35eda5e756", func := "touchstone/touchstonelaw6.CodecBack", spec := "codecBack", recurses := true, loops := true, apart := false, narrowed := true }
def CodecBackUptoSaid : Prop := codecBackUptoRow.holds Try.pinned (OpenSpec.upto codecBackSpec)

/-- 'touchstonelaw6.CodecOnly', WHERE WHAT IT READS IS OF BULK AT MOST 1048576: true; the input reads as it did. -/
def codecOnlyUptoRow : OpenClaim := { program := "ythncmjlcmlmnmaa", sum := "a4959e5f74b292ea280115b5e354caf25c6c84e54b4dfe722edb3d35eda5e756", func := "touchstone/touchstonelaw6.CodecOnly", spec := "codecOnly", recurses := true, apart := false, narrowed := true }
def CodecOnlyUptoSaid : Prop := codecOnlyUptoRow.holds Try.pinned (OpenSpec.upto codecOnlySpec)

/-- 'touchstonelaw26.ReplyWrites', WHERE WHAT IT READS IS OF BULK AT MOST 1048576: true; the input reads as it did. -/
def replyWritesUptoRow : OpenClaim := { program := "ythncmjlcmlmnmaa", sum := "a4959e5f74b292ea280115b5e354caf25c6c84e54b4dfe722edb3d35eda5e756", func := "touchstone/touchstonelaw26.ReplyWrites", spec := "replyWrites", unfollowed := true, recurses := true, loops := true, apart := false, narrowed := true }
def ReplyWritesUptoSaid : Prop := replyWritesUptoRow.holds Try.pinned (OpenSpec.upto replyWritesSpec)

/-- 'touchstonelaw26.ReplyReads', WHERE WHAT IT READS IS OF BULK AT MOST 1048576: true; the input reads as it did. -/
def replyReadsUptoRow : OpenClaim := { program := "ythncmjlcmlmnmaa", sum := "a4959e5f74b292ea280115b5e354caf25c6c84e54b4dfe722edb3d35eda5e756", func := "touchstone/touchstonelaw26.ReplyReads", spec := "replyReads", unfollowed := true, recurses := true, apart := false, narrowed := true }
def ReplyReadsUptoSaid : Prop := replyReadsUptoRow.holds Try.pinned (OpenSpec.upto replyReadsSpec)

/-- 'touchstonelaw26.ReplyBack', WHERE WHAT IT READS IS OF BULK AT MOST 1048576: true; the input reads as it did. -/
def replyBackUptoRow : OpenClaim := { program := "ythncmjlcmlmnmaa", sum := "a4959e5f74b292ea280115b5e354caf25c6c84e54b4dfe722edb3d35eda5e756", func := "touchstone/touchstonelaw26.ReplyBack", spec := "replyBack", unfollowed := true, recurses := true, loops := true, apart := false, narrowed := true }
def ReplyBackUptoSaid : Prop := replyBackUptoRow.holds Try.pinned (OpenSpec.upto replyBackSpec)

/-- 'touchstonelaw26.ReplyTerms', WHERE WHAT IT READS IS OF BULK AT MOST 1048576: true; the input reads as it did. -/
def replyTermsUptoRow : OpenClaim := { program := "ythncmjlcmlmnmaa", sum := "a4959e5f74b292ea280115b5e354caf25c6c84e54b4dfe722edb3d35eda5e756", func := "touchstone/touchstonelaw26.ReplyTerms", spec := "replyTerms", unfollowed := true, recurses := true, apart := false, narrowed := true }
def ReplyTermsUptoSaid : Prop := replyTermsUptoRow.holds Try.pinned (OpenSpec.upto replyTermsSpec)

end Rows
end Go.Proofs.Ythncmjlcmlmnmaa
