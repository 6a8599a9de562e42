/-
  No cell of these rows narrows 'for every input' (looked for: loops, veiled, ifaces, maps, wideKeys, modest, calm, conditions, laid).
  DERIVED. THE GIVEN ROWS OF THIS SEAT. 5 by the template 'for every input the law returns true; each argument reads behind the call as it read before'; 0 by the template 'total and deterministic' (their statements: YtdfafpmolbgklaaTotals.lean).
  GIVEN WITH THE SEED: the statements are not yours to turn. If you find one false, say at which input.
  Laid BY PROGRAM, IN A SANDBOX (cutbox-rows.mjs): the forced cells as the released guide's own fill.sh prints them over the translation 6062f4b38569e94d… (all of the seat's roots in one cut). By AI agents, Wed Nov 11 2026. No macro, syntax, notation, axiom, sorry.
-/
import Derived.Test.YtdfafpmolbgklaaChecked
import GoSem.Claim
import GoSem.ClaimJoined
import GoSem.ClaimMapViews
import Derived.JoinedTies
import Derived.KernelRfl
namespace Go.Proofs.Ytdfafpmolbgklaa
/- THE CELL 'sum', in the pinned program and in every row, IS THE sha256 OF THE DUMP (.gsa) THAT YtdfafpmolbgklaaProg.lean LOADS. Nothing in Lean hashes anything: it is a label: what it is worth is what the hold of that sum in a sandbox is worth. -/
noncomputable def Try.pinned : Pinned := { name := "ytdfafpmolbgklaa", sum := "6062f4b38569e94deb8fb2808d430a639aa9d343cefec06200c5c3d4a40adcee", checked := Try.checked }
namespace Rows
def none {H : Type} : Left H := { results := [], args := [] }

/-- 'podiumlaw24.AdvanceSpec': WHATEVER THE INPUT: true; the input reads as it did. -/
def advanceSpecSpec : ChangeSpec := { name := "advanceSpec", fn := fun _ => fun
  | [d1, d2, d3, d4] => { results := [.lit (.bool true)], args := [d1, d2, d3, d4] }
  | _ => none }
def advanceSpecRow : OpenClaim := { program := "ytdfafpmolbgklaa", sum := "6062f4b38569e94deb8fb2808d430a639aa9d343cefec06200c5c3d4a40adcee", func := "podium/podiumlaw24.AdvanceSpec", spec := "advanceSpec", unfollowed := true, recurses := true, apart := false }
def AdvanceSpecSaid : Prop := advanceSpecRow.holds Try.pinned (OpenSpec.ofChange advanceSpecSpec)

/-- ITS FALSE NEIGHBOUR: 'it returns false'. Refute it at one input. -/
def advanceSpecWrong : ChangeSpec := { name := "advanceSpec", fn := fun _ => fun
  | [d1, d2, d3, d4] => { results := [.lit (.bool false)], args := [d1, d2, d3, d4] }
  | _ => none }
def AdvanceSpecWrongFalsely : Prop := advanceSpecRow.holds Try.pinned (OpenSpec.ofChange advanceSpecWrong)

/-- 'podiumlaw24.AdvanceFair': WHATEVER THE INPUT: true; the input reads as it did. -/
def advanceFairSpec : ChangeSpec := { name := "advanceFair", fn := fun _ => fun
  | [d1, d2, d3, d4] => { results := [.lit (.bool true)], args := [d1, d2, d3, d4] }
  | _ => none }
def advanceFairRow : OpenClaim := { program := "ytdfafpmolbgklaa", sum := "6062f4b38569e94deb8fb2808d430a639aa9d343cefec06200c5c3d4a40adcee", func := "podium/podiumlaw24.AdvanceFair", spec := "advanceFair", unfollowed := true, recurses := true, apart := false }
def AdvanceFairSaid : Prop := advanceFairRow.holds Try.pinned (OpenSpec.ofChange advanceFairSpec)

/-- ITS FALSE NEIGHBOUR: 'it returns false'. Refute it at one input. -/
def advanceFairWrong : ChangeSpec := { name := "advanceFair", fn := fun _ => fun
  | [d1, d2, d3, d4] => { results := [.lit (.bool false)], args := [d1, d2, d3, d4] }
  | _ => none }
def AdvanceFairWrongFalsely : Prop := advanceFairRow.holds Try.pinned (OpenSpec.ofChange advanceFairWrong)

/-- 'podiumlaw24.AdvanceMany': WHATEVER THE INPUT: true; the input reads as it did. -/
def advanceManySpec : ChangeSpec := { name := "advanceMany", fn := fun _ => fun
  | [d1, d2, d3] => { results := [.lit (.bool true)], args := [d1, d2, d3] }
  | _ => none }
def advanceManyRow : OpenClaim := { program := "ytdfafpmolbgklaa", sum := "6062f4b38569e94deb8fb2808d430a639aa9d343cefec06200c5c3d4a40adcee", func := "podium/podiumlaw24.AdvanceMany", spec := "advanceMany", unfollowed := true, recurses := true, apart := false }
def AdvanceManySaid : Prop := advanceManyRow.holds Try.pinned (OpenSpec.ofChange advanceManySpec)

/-- ITS FALSE NEIGHBOUR: 'it returns false'. Refute it at one input. -/
def advanceManyWrong : ChangeSpec := { name := "advanceMany", fn := fun _ => fun
  | [d1, d2, d3] => { results := [.lit (.bool false)], args := [d1, d2, d3] }
  | _ => none }
def AdvanceManyWrongFalsely : Prop := advanceManyRow.holds Try.pinned (OpenSpec.ofChange advanceManyWrong)

/-- 'podiumlaw24.AdvanceLots': WHATEVER THE INPUT: true; the input reads as it did. -/
def advanceLotsSpec : ChangeSpec := { name := "advanceLots", fn := fun _ => fun
  | [d1, d2, d3, d4] => { results := [.lit (.bool true)], args := [d1, d2, d3, d4] }
  | _ => none }
def advanceLotsRow : OpenClaim := { program := "ytdfafpmolbgklaa", sum := "6062f4b38569e94deb8fb2808d430a639aa9d343cefec06200c5c3d4a40adcee", func := "podium/podiumlaw24.AdvanceLots", spec := "advanceLots", unfollowed := true, recurses := true, apart := false }
def AdvanceLotsSaid : Prop := advanceLotsRow.holds Try.pinned (OpenSpec.ofChange advanceLotsSpec)

/-- ITS FALSE NEIGHBOUR: 'it returns false'. Refute it at one input. -/
def advanceLotsWrong : ChangeSpec := { name := "advanceLots", fn := fun _ => fun
  | [d1, d2, d3, d4] => { results := [.lit (.bool false)], args := [d1, d2, d3, d4] }
  | _ => none }
def AdvanceLotsWrongFalsely : Prop := advanceLotsRow.holds Try.pinned (OpenSpec.ofChange advanceLotsWrong)

/-- 'podiumlaw24.AdvanceMore': WHATEVER THE INPUT: true; the input reads as it did. -/
def advanceMoreSpec : ChangeSpec := { name := "advanceMore", fn := fun _ => fun
  | [d1, d2, d3, d4, d5] => { results := [.lit (.bool true)], args := [d1, d2, d3, d4, d5] }
  | _ => none }
def advanceMoreRow : OpenClaim := { program := "ytdfafpmolbgklaa", sum := "6062f4b38569e94deb8fb2808d430a639aa9d343cefec06200c5c3d4a40adcee", func := "podium/podiumlaw24.AdvanceMore", spec := "advanceMore", unfollowed := true, recurses := true, apart := false }
def AdvanceMoreSaid : Prop := advanceMoreRow.holds Try.pinned (OpenSpec.ofChange advanceMoreSpec)

/-- ITS FALSE NEIGHBOUR: 'it returns false'. Refute it at one input. -/
def advanceMoreWrong : ChangeSpec := { name := "advanceMore", fn := fun _ => fun
  | [d1, d2, d3, d4, d5] => { results := [.lit (.bool false)], args := [d1, d2, d3, d4, d5] }
  | _ => none }
def AdvanceMoreWrongFalsely : Prop := advanceMoreRow.holds Try.pinned (OpenSpec.ofChange advanceMoreWrong)

/- THE SECOND FORM. 'bulk': how many values and letters a reading holds, each counted each time it is reached (what is shared counts as often as it is met; a slice's spare places count too). A statement '..UptoSaid' is the law's where the arguments, and the package variables that the reading takes, are together of bulk at most 1048576: NARROWER than '..Said'. Prove '..Said' where nothing that the law and all that it calls make is longer than what came in: it says more and counts as full. Else prove '..UptoSaid'. A law counts once. -/
mutual
def uptoBulk {H : Type} : DataW H → Nat
  | .lit (.string bytes) => bytes.length + 1
  | .lit _ => 1
  | .nil => 1
  | .ptr d => uptoBulk d + 1
  | .slice elems spare => uptoBulkAll elems + uptoBulkAll spare + 1
  | .agg parts => uptoBulkAll parts + 1
  | .iface _ d => uptoBulk d + 1
  | .map entries => uptoBulkEntries entries + 1
  | .held _ => 1
def uptoBulkAll {H : Type} : List (DataW H) → Nat
  | [] => 0
  | d :: r => uptoBulk d + uptoBulkAll r
def uptoBulkEntries {H : Type} : List (Lit × DataW H) → Nat
  | [] => 0
  | x :: r => uptoBulkEntry x + uptoBulkEntries r
def uptoBulkEntry {H : Type} : Lit × DataW H → Nat
  | (.string bytes, d) => bytes.length + uptoBulk d + 1
  | (_, d) => uptoBulk d + 1
 end
def uptoSmall : (H : Type) → List (DataW H) → Bool := fun _ ds => decide (uptoBulkAll ds ≤ 1048576)
def OpenSpec.upto (s : _root_.Go.ChangeSpec) : _root_.Go.OpenSpec := { _root_.Go.OpenSpec.ofChange s with cond := some uptoSmall }

/-- 'podiumlaw24.AdvanceSpec', WHERE WHAT IT READS IS OF BULK AT MOST 1048576: true; the input reads as it did. -/
def advanceSpecUptoRow : OpenClaim := { program := "ytdfafpmolbgklaa", sum := "6062f4b38569e94deb8fb2808d430a639aa9d343cefec06200c5c3d4a40adcee", func := "podium/podiumlaw24.AdvanceSpec", spec := "advanceSpec", unfollowed := true, recurses := true, apart := false, narrowed := true }
def AdvanceSpecUptoSaid : Prop := advanceSpecUptoRow.holds Try.pinned (OpenSpec.upto advanceSpecSpec)

/-- 'podiumlaw24.AdvanceFair', WHERE WHAT IT READS IS OF BULK AT MOST 1048576: true; the input reads as it did. -/
def advanceFairUptoRow : OpenClaim := { program := "ytdfafpmolbgklaa", sum := "6062f4b38569e94deb8fb2808d430a639aa9d343cefec06200c5c3d4a40adcee", func := "podium/podiumlaw24.AdvanceFair", spec := "advanceFair", unfollowed := true, recurses := true, apart := false, narrowed := true }
def AdvanceFairUptoSaid : Prop := advanceFairUptoRow.holds Try.pinned (OpenSpec.upto advanceFairSpec)

/-- 'podiumlaw24.AdvanceMany', WHERE WHAT IT READS IS OF BULK AT MOST 1048576: true; the input reads as it did. -/
def advanceManyUptoRow : OpenClaim := { program := "ytdfafpmolbgklaa", sum := "6062f4b38569e94deb8fb2808d430a639aa9d343cefec06200c5c3d4a40adcee", func := "podium/podiumlaw24.AdvanceMany", spec := "advanceMany", unfollowed := true, recurses := true, apart := false, narrowed := true }
def AdvanceManyUptoSaid : Prop := advanceManyUptoRow.holds Try.pinned (OpenSpec.upto advanceManySpec)

/-- 'podiumlaw24.AdvanceLots', WHERE WHAT IT READS IS OF BULK AT MOST 1048576: true; the input reads as it did. -/
def advanceLotsUptoRow : OpenClaim := { program := "ytdfafpmolbgklaa", sum := "6062f4b38569e94deb8fb2808d430a639aa9d343cefec06200c5c3d4a40adcee", func := "podium/podiumlaw24.AdvanceLots", spec := "advanceLots", unfollowed := true, recurses := true, apart := false, narrowed := true }
def AdvanceLotsUptoSaid : Prop := advanceLotsUptoRow.holds Try.pinned (OpenSpec.upto advanceLotsSpec)

/-- 'podiumlaw24.AdvanceMore', WHERE WHAT IT READS IS OF BULK AT MOST 1048576: true; the input reads as it did. -/
def advanceMoreUptoRow : OpenClaim := { program := "ytdfafpmolbgklaa", sum := "6062f4b38569e94deb8fb2808d430a639aa9d343cefec06200c5c3d4a40adcee", func := "podium/podiumlaw24.AdvanceMore", spec := "advanceMore", unfollowed := true, recurses := true, apart := false, narrowed := true }
def AdvanceMoreUptoSaid : Prop := advanceMoreUptoRow.holds Try.pinned (OpenSpec.upto advanceMoreSpec)

end Rows
end Go.Proofs.Ytdfafpmolbgklaa
