/-
  No cell of these rows narrows 'for every input' (looked for: loops, veiled, ifaces, maps, wideKeys, modest, calm, conditions, laid).
  DERIVED. THE GIVEN ROWS OF THIS SEAT. 6 by the template 'for every input the law returns true; each argument reads behind the call as it read before'; 0 by the template 'total and deterministic' (their statements: YteglanpnmnkkbaaTotals.lean).
  GIVEN WITH THE SEED: the statements are not yours to turn. If you find one false, say at which input.
  Laid BY PROGRAM, IN A SANDBOX (cutbox-rows.mjs): the forced cells as the released guide's own fill.sh prints them over the translation 1ccebf32f81141f8… (all of the seat's roots in one cut). By AI agents, Wed Nov 11 2026. No macro, syntax, notation, axiom, sorry.
-/
import Derived.Test.YteglanpnmnkkbaaChecked
import GoSem.Claim
import GoSem.ClaimJoined
import GoSem.ClaimMapViews
import Derived.JoinedTies
import Derived.KernelRfl
namespace Go.Proofs.Yteglanpnmnkkbaa
/- THE CELL 'sum', in the pinned program and in every row, IS THE sha256 OF THE DUMP (.gsa) THAT YteglanpnmnkkbaaProg.lean LOADS. Nothing in Lean hashes anything: it is a label: what it is worth is what the hold of that sum in a sandbox is worth. -/
noncomputable def Try.pinned : Pinned := { name := "yteglanpnmnkkbaa", sum := "1ccebf32f81141f8502404517093a00d230a1afc2ac8523b0690deeaaf831396", checked := Try.checked }
namespace Rows
def none {H : Type} : Left H := { results := [], args := [] }

/-- 'podiumlaw22.PlacesSpec': WHATEVER THE INPUT: true; the input reads as it did. -/
def placesSpecSpec : ChangeSpec := { name := "placesSpec", fn := fun _ => fun
  | [d1, d2, d3, d4] => { results := [.lit (.bool true)], args := [d1, d2, d3, d4] }
  | _ => none }
def placesSpecRow : OpenClaim := { program := "yteglanpnmnkkbaa", sum := "1ccebf32f81141f8502404517093a00d230a1afc2ac8523b0690deeaaf831396", func := "podium/podiumlaw22.PlacesSpec", spec := "placesSpec", unfollowed := true, recurses := true, apart := false }
def PlacesSpecSaid : Prop := placesSpecRow.holds Try.pinned (OpenSpec.ofChange placesSpecSpec)

/-- ITS FALSE NEIGHBOUR: 'it returns false'. Refute it at one input. -/
def placesSpecWrong : ChangeSpec := { name := "placesSpec", fn := fun _ => fun
  | [d1, d2, d3, d4] => { results := [.lit (.bool false)], args := [d1, d2, d3, d4] }
  | _ => none }
def PlacesSpecWrongFalsely : Prop := placesSpecRow.holds Try.pinned (OpenSpec.ofChange placesSpecWrong)

/-- 'podiumlaw22.PlacesRanking': WHATEVER THE INPUT: true; the input reads as it did. -/
def placesRankingSpec : ChangeSpec := { name := "placesRanking", fn := fun _ => fun
  | [d] => { results := [.lit (.bool true)], args := [d] }
  | _ => none }
def placesRankingRow : OpenClaim := { program := "yteglanpnmnkkbaa", sum := "1ccebf32f81141f8502404517093a00d230a1afc2ac8523b0690deeaaf831396", func := "podium/podiumlaw22.PlacesRanking", spec := "placesRanking", unfollowed := true, recurses := true, apart := false }
def PlacesRankingSaid : Prop := placesRankingRow.holds Try.pinned (OpenSpec.ofChange placesRankingSpec)

/-- ITS FALSE NEIGHBOUR: 'it returns false'. Refute it at one input. -/
def placesRankingWrong : ChangeSpec := { name := "placesRanking", fn := fun _ => fun
  | [d] => { results := [.lit (.bool false)], args := [d] }
  | _ => none }
def PlacesRankingWrongFalsely : Prop := placesRankingRow.holds Try.pinned (OpenSpec.ofChange placesRankingWrong)

/-- 'podiumlaw22.PlacesDecide': WHATEVER THE INPUT: true; the input reads as it did. -/
def placesDecideSpec : ChangeSpec := { name := "placesDecide", fn := fun _ => fun
  | [d] => { results := [.lit (.bool true)], args := [d] }
  | _ => none }
def placesDecideRow : OpenClaim := { program := "yteglanpnmnkkbaa", sum := "1ccebf32f81141f8502404517093a00d230a1afc2ac8523b0690deeaaf831396", func := "podium/podiumlaw22.PlacesDecide", spec := "placesDecide", unfollowed := true, recurses := true, apart := false }
def PlacesDecideSaid : Prop := placesDecideRow.holds Try.pinned (OpenSpec.ofChange placesDecideSpec)

/-- ITS FALSE NEIGHBOUR: 'it returns false'. Refute it at one input. -/
def placesDecideWrong : ChangeSpec := { name := "placesDecide", fn := fun _ => fun
  | [d] => { results := [.lit (.bool false)], args := [d] }
  | _ => none }
def PlacesDecideWrongFalsely : Prop := placesDecideRow.holds Try.pinned (OpenSpec.ofChange placesDecideWrong)

/-- 'podiumlaw22.PlacesOrder': WHATEVER THE INPUT: true; the input reads as it did. -/
def placesOrderSpec : ChangeSpec := { name := "placesOrder", fn := fun _ => fun
  | [d1, d2, d3] => { results := [.lit (.bool true)], args := [d1, d2, d3] }
  | _ => none }
def placesOrderRow : OpenClaim := { program := "yteglanpnmnkkbaa", sum := "1ccebf32f81141f8502404517093a00d230a1afc2ac8523b0690deeaaf831396", func := "podium/podiumlaw22.PlacesOrder", spec := "placesOrder", unfollowed := true, recurses := true, apart := false }
def PlacesOrderSaid : Prop := placesOrderRow.holds Try.pinned (OpenSpec.ofChange placesOrderSpec)

/-- ITS FALSE NEIGHBOUR: 'it returns false'. Refute it at one input. -/
def placesOrderWrong : ChangeSpec := { name := "placesOrder", fn := fun _ => fun
  | [d1, d2, d3] => { results := [.lit (.bool false)], args := [d1, d2, d3] }
  | _ => none }
def PlacesOrderWrongFalsely : Prop := placesOrderRow.holds Try.pinned (OpenSpec.ofChange placesOrderWrong)

/-- 'podiumlaw22.PlacesOne': WHATEVER THE INPUT: true; the input reads as it did. -/
def placesOneSpec : ChangeSpec := { name := "placesOne", fn := fun _ => fun
  | [d1, d2] => { results := [.lit (.bool true)], args := [d1, d2] }
  | _ => none }
def placesOneRow : OpenClaim := { program := "yteglanpnmnkkbaa", sum := "1ccebf32f81141f8502404517093a00d230a1afc2ac8523b0690deeaaf831396", func := "podium/podiumlaw22.PlacesOne", spec := "placesOne", unfollowed := true, recurses := true, apart := false }
def PlacesOneSaid : Prop := placesOneRow.holds Try.pinned (OpenSpec.ofChange placesOneSpec)

/-- ITS FALSE NEIGHBOUR: 'it returns false'. Refute it at one input. -/
def placesOneWrong : ChangeSpec := { name := "placesOne", fn := fun _ => fun
  | [d1, d2] => { results := [.lit (.bool false)], args := [d1, d2] }
  | _ => none }
def PlacesOneWrongFalsely : Prop := placesOneRow.holds Try.pinned (OpenSpec.ofChange placesOneWrong)

/-- 'podiumlaw22.PlacesAlike': WHATEVER THE INPUT: true; the input reads as it did. -/
def placesAlikeSpec : ChangeSpec := { name := "placesAlike", fn := fun _ => fun
  | [d1, d2] => { results := [.lit (.bool true)], args := [d1, d2] }
  | _ => none }
def placesAlikeRow : OpenClaim := { program := "yteglanpnmnkkbaa", sum := "1ccebf32f81141f8502404517093a00d230a1afc2ac8523b0690deeaaf831396", func := "podium/podiumlaw22.PlacesAlike", spec := "placesAlike", unfollowed := true, recurses := true, apart := false }
def PlacesAlikeSaid : Prop := placesAlikeRow.holds Try.pinned (OpenSpec.ofChange placesAlikeSpec)

/-- ITS FALSE NEIGHBOUR: 'it returns false'. Refute it at one input. -/
def placesAlikeWrong : ChangeSpec := { name := "placesAlike", fn := fun _ => fun
  | [d1, d2] => { results := [.lit (.bool false)], args := [d1, d2] }
  | _ => none }
def PlacesAlikeWrongFalsely : Prop := placesAlikeRow.holds Try.pinned (OpenSpec.ofChange placesAlikeWrong)

/- THE SECOND FORM. 'bulk': how many values and letters a reading holds, each counted each time it is reached (what is shared counts as often as it is met; a slice's spare places count too). A statement '..UptoSaid' is the law's where the arguments, and the package variables that the reading takes, are together of bulk at most 1048576: NARROWER than '..Said'. Prove '..Said' where nothing that the law and all that it calls make is longer than what came in: it says more and counts as full. Else prove '..UptoSaid'. A law counts once. -/
mutual
def uptoBulk {H : Type} : DataW H → Nat
  | .lit (.string bytes) => bytes.length + 1
  | .lit _ => 1
  | .nil => 1
  | .ptr d => uptoBulk d + 1
  | .slice elems spare => uptoBulkAll elems + uptoBulkAll spare + 1
  | .agg parts => uptoBulkAll parts + 1
  | .iface _ d => uptoBulk d + 1
  | .map entries => uptoBulkEntries entries + 1
  | .held _ => 1
def uptoBulkAll {H : Type} : List (DataW H) → Nat
  | [] => 0
  | d :: r => uptoBulk d + uptoBulkAll r
def uptoBulkEntries {H : Type} : List (Lit × DataW H) → Nat
  | [] => 0
  | x :: r => uptoBulkEntry x + uptoBulkEntries r
def uptoBulkEntry {H : Type} : Lit × DataW H → Nat
  | (.string bytes, d) => bytes.length + uptoBulk d + 1
  | (_, d) => uptoBulk d + 1
 end
def uptoSmall : (H : Type) → List (DataW H) → Bool := fun _ ds => decide (uptoBulkAll ds ≤ 1048576)
def OpenSpec.upto (s : _root_.Go.ChangeSpec) : _root_.Go.OpenSpec := { _root_.Go.OpenSpec.ofChange s with cond := some uptoSmall }

/-- 'podiumlaw22.PlacesSpec', WHERE WHAT IT READS IS OF BULK AT MOST 1048576: true; the input reads as it did. -/
def placesSpecUptoRow : OpenClaim := { program := "yteglanpnmnkkbaa", sum := "1ccebf32f81141f8502404517093a00d230a1afc2ac8523b0690deeaaf831396", func := "podium/podiumlaw22.PlacesSpec", spec := "placesSpec", unfollowed := true, recurses := true, apart := false, narrowed := true }
def PlacesSpecUptoSaid : Prop := placesSpecUptoRow.holds Try.pinned (OpenSpec.upto placesSpecSpec)

/-- 'podiumlaw22.PlacesRanking', WHERE WHAT IT READS IS OF BULK AT MOST 1048576: true; the input reads as it did. -/
def placesRankingUptoRow : OpenClaim := { program := "yteglanpnmnkkbaa", sum := "1ccebf32f81141f8502404517093a00d230a1afc2ac8523b0690deeaaf831396", func := "podium/podiumlaw22.PlacesRanking", spec := "placesRanking", unfollowed := true, recurses := true, apart := false, narrowed := true }
def PlacesRankingUptoSaid : Prop := placesRankingUptoRow.holds Try.pinned (OpenSpec.upto placesRankingSpec)

/-- 'podiumlaw22.PlacesDecide', WHERE WHAT IT READS IS OF BULK AT MOST 1048576: true; the input reads as it did. -/
def placesDecideUptoRow : OpenClaim := { program := "yteglanpnmnkkbaa", sum := "1ccebf32f81141f8502404517093a00d230a1afc2ac8523b0690deeaaf831396", func := "podium/podiumlaw22.PlacesDecide", spec := "placesDecide", unfollowed := true, recurses := true, apart := false, narrowed := true }
def PlacesDecideUptoSaid : Prop := placesDecideUptoRow.holds Try.pinned (OpenSpec.upto placesDecideSpec)

/-- 'podiumlaw22.PlacesOrder', WHERE WHAT IT READS IS OF BULK AT MOST 1048576: true; the input reads as it did. -/
def placesOrderUptoRow : OpenClaim := { program := "yteglanpnmnkkbaa", sum := "1ccebf32f81141f8502404517093a00d230a1afc2ac8523b0690deeaaf831396", func := "podium/podiumlaw22.PlacesOrder", spec := "placesOrder", unfollowed := true, recurses := true, apart := false, narrowed := true }
def PlacesOrderUptoSaid : Prop := placesOrderUptoRow.holds Try.pinned (OpenSpec.upto placesOrderSpec)

/-- 'podiumlaw22.PlacesOne', WHERE WHAT IT READS IS OF BULK AT MOST 1048576: true; the input reads as it did. -/
def placesOneUptoRow : OpenClaim := { program := "yteglanpnmnkkbaa", sum := "1ccebf32f81141f8502404517093a00d230a1afc2ac8523b0690deeaaf831396", func := "podium/podiumlaw22.PlacesOne", spec := "placesOne", unfollowed := true, recurses := true, apart := false, narrowed := true }
def PlacesOneUptoSaid : Prop := placesOneUptoRow.holds Try.pinned (OpenSpec.upto placesOneSpec)

/-- 'podiumlaw22.PlacesAlike', WHERE WHAT IT READS IS OF BULK AT MOST 1048576: true; the input reads as it did. -/
def placesAlikeUptoRow : OpenClaim := { program := "yteglanpnmnkkbaa", sum := "1ccebf32f81141f8502404517093a00d230a1afc2ac8523b0690deeaaf831396", func := "podium/podiumlaw22.PlacesAlike", spec := "placesAlike", unfollowed := true, recurses := true, apart := false, narrowed := true }
def PlacesAlikeUptoSaid : Prop := placesAlikeUptoRow.holds Try.pinned (OpenSpec.upto placesAlikeSpec)

end Rows
end Go.Proofs.Yteglanpnmnkkbaa
