/-
  No cell of these rows narrows 'for every input' (looked for: loops, veiled, ifaces, maps, wideKeys, modest, calm, conditions, laid).
  DERIVED. THE GIVEN ROWS OF THIS SEAT. 5 by the template 'for every input the law returns true; each argument reads behind the call as it read before'; 0 by the template 'total and deterministic' (their statements: YtcmlegpfapomnaaTotals.lean).
  GIVEN WITH THE SEED: the statements are not yours to turn. If you find one false, say at which input.
  Laid BY PROGRAM, IN A SANDBOX (cutbox-rows.mjs): the forced cells as the released guide's own fill.sh prints them over the translation 3aeed157c9f6f9a8… (all of the seat's roots in one cut). By AI agents, Wed Nov 11 2026. No macro, syntax, notation, axiom, sorry.
-/
import Derived.Test.YtcmlegpfapomnaaChecked
import GoSem.Claim
import GoSem.ClaimJoined
import GoSem.ClaimMapViews
import Derived.JoinedTies
import Derived.KernelRfl
namespace Go.Proofs.Ytcmlegpfapomnaa
/- THE CELL 'sum', in the pinned program and in every row, IS THE sha256 OF THE DUMP (.gsa) THAT YtcmlegpfapomnaaProg.lean LOADS. Nothing in Lean hashes anything: it is a label: what it is worth is what the hold of that sum in a sandbox is worth. -/
noncomputable def Try.pinned : Pinned := { name := "ytcmlegpfapomnaa", sum := "3aeed157c9f6f9a8e19c229ca7a19198ccf098fb4305dcd3aa55e85e9f73103a", checked := Try.checked }
namespace Rows
def none {H : Type} : Left H := { results := [], args := [] }

/-- 'fasciclelaw31.DeltaThen': WHATEVER THE INPUT: true; the input reads as it did. -/
def deltaThenSpec : ChangeSpec := { name := "deltaThen", fn := fun _ => fun
  | [d1, d2, d3] => { results := [.lit (.bool true)], args := [d1, d2, d3] }
  | _ => none }
def deltaThenRow : OpenClaim := { program := "ytcmlegpfapomnaa", sum := "3aeed157c9f6f9a8e19c229ca7a19198ccf098fb4305dcd3aa55e85e9f73103a", func := "fascicle/fasciclelaw31.DeltaThen", spec := "deltaThen", inPlace := ["internal/bytealg.abigen_runtime_cmpstring"], unfollowed := true, recurses := true, apart := false }
def DeltaThenSaid : Prop := deltaThenRow.holds Try.pinned (OpenSpec.ofChange deltaThenSpec)

/-- ITS FALSE NEIGHBOUR: 'it returns false'. Refute it at one input. -/
def deltaThenWrong : ChangeSpec := { name := "deltaThen", fn := fun _ => fun
  | [d1, d2, d3] => { results := [.lit (.bool false)], args := [d1, d2, d3] }
  | _ => none }
def DeltaThenWrongFalsely : Prop := deltaThenRow.holds Try.pinned (OpenSpec.ofChange deltaThenWrong)

/-- 'fasciclelaw31.DeltaApart': WHATEVER THE INPUT: true; the input reads as it did. -/
def deltaApartSpec : ChangeSpec := { name := "deltaApart", fn := fun _ => fun
  | [d1, d2, d3] => { results := [.lit (.bool true)], args := [d1, d2, d3] }
  | _ => none }
def deltaApartRow : OpenClaim := { program := "ytcmlegpfapomnaa", sum := "3aeed157c9f6f9a8e19c229ca7a19198ccf098fb4305dcd3aa55e85e9f73103a", func := "fascicle/fasciclelaw31.DeltaApart", spec := "deltaApart", inPlace := ["internal/bytealg.abigen_runtime_cmpstring"], unfollowed := true, recurses := true, apart := false }
def DeltaApartSaid : Prop := deltaApartRow.holds Try.pinned (OpenSpec.ofChange deltaApartSpec)

/-- ITS FALSE NEIGHBOUR: 'it returns false'. Refute it at one input. -/
def deltaApartWrong : ChangeSpec := { name := "deltaApart", fn := fun _ => fun
  | [d1, d2, d3] => { results := [.lit (.bool false)], args := [d1, d2, d3] }
  | _ => none }
def DeltaApartWrongFalsely : Prop := deltaApartRow.holds Try.pinned (OpenSpec.ofChange deltaApartWrong)

/-- 'fasciclelaw31.DeltaViews': WHATEVER THE INPUT: true; the input reads as it did. -/
def deltaViewsSpec : ChangeSpec := { name := "deltaViews", fn := fun _ => fun
  | [d1, d2, d3] => { results := [.lit (.bool true)], args := [d1, d2, d3] }
  | _ => none }
def deltaViewsRow : OpenClaim := { program := "ytcmlegpfapomnaa", sum := "3aeed157c9f6f9a8e19c229ca7a19198ccf098fb4305dcd3aa55e85e9f73103a", func := "fascicle/fasciclelaw31.DeltaViews", spec := "deltaViews", inPlace := ["internal/bytealg.abigen_runtime_cmpstring"], unfollowed := true, recurses := true, apart := false }
def DeltaViewsSaid : Prop := deltaViewsRow.holds Try.pinned (OpenSpec.ofChange deltaViewsSpec)

/-- ITS FALSE NEIGHBOUR: 'it returns false'. Refute it at one input. -/
def deltaViewsWrong : ChangeSpec := { name := "deltaViews", fn := fun _ => fun
  | [d1, d2, d3] => { results := [.lit (.bool false)], args := [d1, d2, d3] }
  | _ => none }
def DeltaViewsWrongFalsely : Prop := deltaViewsRow.holds Try.pinned (OpenSpec.ofChange deltaViewsWrong)

/-- 'fasciclelaw31.DeltaChanges': WHATEVER THE INPUT: true; the input reads as it did. -/
def deltaChangesSpec : ChangeSpec := { name := "deltaChanges", fn := fun _ => fun
  | [d1, d2] => { results := [.lit (.bool true)], args := [d1, d2] }
  | _ => none }
def deltaChangesRow : OpenClaim := { program := "ytcmlegpfapomnaa", sum := "3aeed157c9f6f9a8e19c229ca7a19198ccf098fb4305dcd3aa55e85e9f73103a", func := "fascicle/fasciclelaw31.DeltaChanges", spec := "deltaChanges", inPlace := ["internal/bytealg.abigen_runtime_cmpstring"], unfollowed := true, recurses := true, apart := false }
def DeltaChangesSaid : Prop := deltaChangesRow.holds Try.pinned (OpenSpec.ofChange deltaChangesSpec)

/-- ITS FALSE NEIGHBOUR: 'it returns false'. Refute it at one input. -/
def deltaChangesWrong : ChangeSpec := { name := "deltaChanges", fn := fun _ => fun
  | [d1, d2] => { results := [.lit (.bool false)], args := [d1, d2] }
  | _ => none }
def DeltaChangesWrongFalsely : Prop := deltaChangesRow.holds Try.pinned (OpenSpec.ofChange deltaChangesWrong)

/-- 'fasciclelaw31.DeltaBack': WHATEVER THE INPUT: true; the input reads as it did. -/
def deltaBackSpec : ChangeSpec := { name := "deltaBack", fn := fun _ => fun
  | [d1, d2] => { results := [.lit (.bool true)], args := [d1, d2] }
  | _ => none }
def deltaBackRow : OpenClaim := { program := "ytcmlegpfapomnaa", sum := "3aeed157c9f6f9a8e19c229ca7a19198ccf098fb4305dcd3aa55e85e9f73103a", func := "fascicle/fasciclelaw31.DeltaBack", spec := "deltaBack", inPlace := ["internal/bytealg.abigen_runtime_cmpstring"], unfollowed := true, recurses := true, apart := false }
def DeltaBackSaid : Prop := deltaBackRow.holds Try.pinned (OpenSpec.ofChange deltaBackSpec)

/-- ITS FALSE NEIGHBOUR: 'it returns false'. Refute it at one input. -/
def deltaBackWrong : ChangeSpec := { name := "deltaBack", fn := fun _ => fun
  | [d1, d2] => { results := [.lit (.bool false)], args := [d1, d2] }
  | _ => none }
def DeltaBackWrongFalsely : Prop := deltaBackRow.holds Try.pinned (OpenSpec.ofChange deltaBackWrong)

/- THE SECOND FORM. 'bulk': how many values and letters a reading holds, each counted each time it is reached (what is shared counts as often as it is met; a slice's spare places count too). A statement '..UptoSaid' is the law's where the arguments, and the package variables that the reading takes, are together of bulk at most 1048576: NARROWER than '..Said'. Prove '..Said' where nothing that the law and all that it calls make is longer than what came in: it says more and counts as full. Else prove '..UptoSaid'. A law counts once. -/
mutual
def uptoBulk {H : Type} : DataW H → Nat
  | .lit (.string bytes) => bytes.length + 1
  | .lit _ => 1
  | .nil => 1
  | .ptr d => uptoBulk d + 1
  | .slice elems spare => uptoBulkAll elems + uptoBulkAll spare + 1
  | .agg parts => uptoBulkAll parts + 1
  | .iface _ d => uptoBulk d + 1
  | .map entries => uptoBulkEntries entries + 1
  | .held _ => 1
def uptoBulkAll {H : Type} : List (DataW H) → Nat
  | [] => 0
  | d :: r => uptoBulk d + uptoBulkAll r
def uptoBulkEntries {H : Type} : List (Lit × DataW H) → Nat
  | [] => 0
  | x :: r => uptoBulkEntry x + uptoBulkEntries r
def uptoBulkEntry {H : Type} : Lit × DataW H → Nat
  | (.string bytes, d) => bytes.length + uptoBulk d + 1
  | (_, d) => uptoBulk d + 1
 end
def uptoSmall : (H : Type) → List (DataW H) → Bool := fun _ ds => decide (uptoBulkAll ds ≤ 1048576)
def OpenSpec.upto (s : _root_.Go.ChangeSpec) : _root_.Go.OpenSpec := { _root_.Go.OpenSpec.ofChange s with cond := some uptoSmall }

/-- 'fasciclelaw31.DeltaThen', WHERE WHAT IT READS IS OF BULK AT MOST 1048576: true; the input reads as it did. -/
def deltaThenUptoRow : OpenClaim := { program := "ytcmlegpfapomnaa", sum := "3aeed157c9f6f9a8e19c229ca7a19198ccf098fb4305dcd3aa55e85e9f73103a", func := "fascicle/fasciclelaw31.DeltaThen", spec := "deltaThen", inPlace := ["internal/bytealg.abigen_runtime_cmpstring"], unfollowed := true, recurses := true, apart := false, narrowed := true }
def DeltaThenUptoSaid : Prop := deltaThenUptoRow.holds Try.pinned (OpenSpec.upto deltaThenSpec)

/-- 'fasciclelaw31.DeltaApart', WHERE WHAT IT READS IS OF BULK AT MOST 1048576: true; the input reads as it did. -/
def deltaApartUptoRow : OpenClaim := { program := "ytcmlegpfapomnaa", sum := "3aeed157c9f6f9a8e19c229ca7a19198ccf098fb4305dcd3aa55e85e9f73103a", func := "fascicle/fasciclelaw31.DeltaApart", spec := "deltaApart", inPlace := ["internal/bytealg.abigen_runtime_cmpstring"], unfollowed := true, recurses := true, apart := false, narrowed := true }
def DeltaApartUptoSaid : Prop := deltaApartUptoRow.holds Try.pinned (OpenSpec.upto deltaApartSpec)

/-- 'fasciclelaw31.DeltaViews', WHERE WHAT IT READS IS OF BULK AT MOST 1048576: true; the input reads as it did. -/
def deltaViewsUptoRow : OpenClaim := { program := "ytcmlegpfapomnaa", sum := "3aeed157c9f6f9a8e19c229ca7a19198ccf098fb4305dcd3aa55e85e9f73103a", func := "fascicle/fasciclelaw31.DeltaViews", spec := "deltaViews", inPlace := ["internal/bytealg.abigen_runtime_cmpstring"], unfollowed := true, recurses := true, apart := false, narrowed := true }
def DeltaViewsUptoSaid : Prop := deltaViewsUptoRow.holds Try.pinned (OpenSpec.upto deltaViewsSpec)

/-- 'fasciclelaw31.DeltaChanges', WHERE WHAT IT READS IS OF BULK AT MOST 1048576: true; the input reads as it did. -/
def deltaChangesUptoRow : OpenClaim := { program := "ytcmlegpfapomnaa", sum := "3aeed157c9f6f9a8e19c229ca7a19198ccf098fb4305dcd3aa55e85e9f73103a", func := "fascicle/fasciclelaw31.DeltaChanges", spec := "deltaChanges", inPlace := ["internal/bytealg.abigen_runtime_cmpstring"], unfollowed := true, recurses := true, apart := false, narrowed := true }
def DeltaChangesUptoSaid : Prop := deltaChangesUptoRow.holds Try.pinned (OpenSpec.upto deltaChangesSpec)

/-- 'fasciclelaw31.DeltaBack', WHERE WHAT IT READS IS OF BULK AT MOST 1048576: true; the input reads as it did. -/
def deltaBackUptoRow : OpenClaim := { program := "ytcmlegpfapomnaa", sum := "3aeed157c9f6f9a8e19c229ca7a19198ccf098fb4305dcd3aa55e85e9f73103a", func := "fascicle/fasciclelaw31.DeltaBack", spec := "deltaBack", inPlace := ["internal/bytealg.abigen_runtime_cmpstring"], unfollowed := true, recurses := true, apart := false, narrowed := true }
def DeltaBackUptoSaid : Prop := deltaBackUptoRow.holds Try.pinned (OpenSpec.upto deltaBackSpec)

end Rows
end Go.Proofs.Ytcmlegpfapomnaa
