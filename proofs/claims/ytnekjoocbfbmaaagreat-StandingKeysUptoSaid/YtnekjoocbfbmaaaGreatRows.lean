/-
  No cell of these rows narrows 'for every input' (looked for: loops, veiled, ifaces, maps, wideKeys, modest, calm, conditions, laid).
  DERIVED. THE GIVEN ROWS OF THIS SEAT. 8 by the template 'for every input the law returns true; each argument reads behind the call as it read before'; 0 by the template 'total and deterministic' (their statements: YtnekjoocbfbmaaaGreatTotals.lean).
  GIVEN WITH THE SEED: the statements are not yours to turn. If you find one false, say at which input.
  Laid BY PROGRAM, IN A SANDBOX (cutbox-rows.mjs): the forced cells as the released guide's own fill.sh prints them over the translation d35e493c70511fd1… (all of the seat's roots in one cut). By AI agents, Wed Nov 11 2026. No macro, syntax, notation, axiom, sorry.
-/
import Derived.Test.YtnekjoocbfbmaaaGreatChecked
import GoSem.Claim
import GoSem.ClaimJoined
import GoSem.ClaimMapViews
import Derived.JoinedTies
import Derived.KernelRfl
namespace Go.Proofs.YtnekjoocbfbmaaaGreat
/- THE CELL 'sum', in the pinned program and in every row, IS THE sha256 OF THE DUMP (.gsa) THAT YtnekjoocbfbmaaaGreatProg.lean LOADS. Nothing in Lean hashes anything: it is a label: what it is worth is what the hold of that sum in a sandbox is worth. -/
noncomputable def Tryz.pinned : Pinned := { name := "ytnekjoocbfbmaaagreat", sum := "d35e493c70511fd1b99724b5a5c7e54f60e854ea1a2becef0c0521d2727a5051", checked := Tryz.checked }
namespace Rows
def none {H : Type} : Left H := { results := [], args := [] }

/-- 'podiumlaw23.StandingSpec': WHATEVER THE INPUT: true; the input reads as it did. -/
def standingSpecSpec : ChangeSpec := { name := "standingSpec", fn := fun _ => fun
  | [d1, d2] => { results := [.lit (.bool true)], args := [d1, d2] }
  | _ => none }
def standingSpecRow : OpenClaim := { program := "ytnekjoocbfbmaaagreat", sum := "d35e493c70511fd1b99724b5a5c7e54f60e854ea1a2becef0c0521d2727a5051", func := "podium/podiumlaw23.StandingSpec", spec := "standingSpec", unfollowed := true, recurses := true, apart := false }
def StandingSpecSaid : Prop := standingSpecRow.holds Tryz.pinned (OpenSpec.ofChange standingSpecSpec)

/-- ITS FALSE NEIGHBOUR: 'it returns false'. Refute it at one input. -/
def standingSpecWrong : ChangeSpec := { name := "standingSpec", fn := fun _ => fun
  | [d1, d2] => { results := [.lit (.bool false)], args := [d1, d2] }
  | _ => none }
def StandingSpecWrongFalsely : Prop := standingSpecRow.holds Tryz.pinned (OpenSpec.ofChange standingSpecWrong)

/-- 'podiumlaw23.StandingPlacesSpec': WHATEVER THE INPUT: true; the input reads as it did. -/
def standingPlacesSpecSpec : ChangeSpec := { name := "standingPlacesSpec", fn := fun _ => fun
  | [d1, d2, d3, d4] => { results := [.lit (.bool true)], args := [d1, d2, d3, d4] }
  | _ => none }
def standingPlacesSpecRow : OpenClaim := { program := "ytnekjoocbfbmaaagreat", sum := "d35e493c70511fd1b99724b5a5c7e54f60e854ea1a2becef0c0521d2727a5051", func := "podium/podiumlaw23.StandingPlacesSpec", spec := "standingPlacesSpec", unfollowed := true, recurses := true, apart := false }
def StandingPlacesSpecSaid : Prop := standingPlacesSpecRow.holds Tryz.pinned (OpenSpec.ofChange standingPlacesSpecSpec)

/-- ITS FALSE NEIGHBOUR: 'it returns false'. Refute it at one input. -/
def standingPlacesSpecWrong : ChangeSpec := { name := "standingPlacesSpec", fn := fun _ => fun
  | [d1, d2, d3, d4] => { results := [.lit (.bool false)], args := [d1, d2, d3, d4] }
  | _ => none }
def StandingPlacesSpecWrongFalsely : Prop := standingPlacesSpecRow.holds Tryz.pinned (OpenSpec.ofChange standingPlacesSpecWrong)

/-- 'podiumlaw23.StandingRight': WHATEVER THE INPUT: true; the input reads as it did. -/
def standingRightSpec : ChangeSpec := { name := "standingRight", fn := fun _ => fun
  | [d1, d2] => { results := [.lit (.bool true)], args := [d1, d2] }
  | _ => none }
def standingRightRow : OpenClaim := { program := "ytnekjoocbfbmaaagreat", sum := "d35e493c70511fd1b99724b5a5c7e54f60e854ea1a2becef0c0521d2727a5051", func := "podium/podiumlaw23.StandingRight", spec := "standingRight", unfollowed := true, recurses := true, apart := false }
def StandingRightSaid : Prop := standingRightRow.holds Tryz.pinned (OpenSpec.ofChange standingRightSpec)

/-- ITS FALSE NEIGHBOUR: 'it returns false'. Refute it at one input. -/
def standingRightWrong : ChangeSpec := { name := "standingRight", fn := fun _ => fun
  | [d1, d2] => { results := [.lit (.bool false)], args := [d1, d2] }
  | _ => none }
def StandingRightWrongFalsely : Prop := standingRightRow.holds Tryz.pinned (OpenSpec.ofChange standingRightWrong)

/-- 'podiumlaw23.StandingMajority': WHATEVER THE INPUT: true; the input reads as it did. -/
def standingMajoritySpec : ChangeSpec := { name := "standingMajority", fn := fun _ => fun
  | [d1, d2, d3] => { results := [.lit (.bool true)], args := [d1, d2, d3] }
  | _ => none }
def standingMajorityRow : OpenClaim := { program := "ytnekjoocbfbmaaagreat", sum := "d35e493c70511fd1b99724b5a5c7e54f60e854ea1a2becef0c0521d2727a5051", func := "podium/podiumlaw23.StandingMajority", spec := "standingMajority", unfollowed := true, recurses := true, apart := false }
def StandingMajoritySaid : Prop := standingMajorityRow.holds Tryz.pinned (OpenSpec.ofChange standingMajoritySpec)

/-- ITS FALSE NEIGHBOUR: 'it returns false'. Refute it at one input. -/
def standingMajorityWrong : ChangeSpec := { name := "standingMajority", fn := fun _ => fun
  | [d1, d2, d3] => { results := [.lit (.bool false)], args := [d1, d2, d3] }
  | _ => none }
def StandingMajorityWrongFalsely : Prop := standingMajorityRow.holds Tryz.pinned (OpenSpec.ofChange standingMajorityWrong)

/-- 'podiumlaw23.StandingOrder': WHATEVER THE INPUT: true; the input reads as it did. -/
def standingOrderSpec : ChangeSpec := { name := "standingOrder", fn := fun _ => fun
  | [d1, d2, d3] => { results := [.lit (.bool true)], args := [d1, d2, d3] }
  | _ => none }
def standingOrderRow : OpenClaim := { program := "ytnekjoocbfbmaaagreat", sum := "d35e493c70511fd1b99724b5a5c7e54f60e854ea1a2becef0c0521d2727a5051", func := "podium/podiumlaw23.StandingOrder", spec := "standingOrder", unfollowed := true, recurses := true, apart := false }
def StandingOrderSaid : Prop := standingOrderRow.holds Tryz.pinned (OpenSpec.ofChange standingOrderSpec)

/-- ITS FALSE NEIGHBOUR: 'it returns false'. Refute it at one input. -/
def standingOrderWrong : ChangeSpec := { name := "standingOrder", fn := fun _ => fun
  | [d1, d2, d3] => { results := [.lit (.bool false)], args := [d1, d2, d3] }
  | _ => none }
def StandingOrderWrongFalsely : Prop := standingOrderRow.holds Tryz.pinned (OpenSpec.ofChange standingOrderWrong)

/-- 'podiumlaw23.StandingWithout': WHATEVER THE INPUT: true; the input reads as it did. -/
def standingWithoutSpec : ChangeSpec := { name := "standingWithout", fn := fun _ => fun
  | [d1, d2, d3] => { results := [.lit (.bool true)], args := [d1, d2, d3] }
  | _ => none }
def standingWithoutRow : OpenClaim := { program := "ytnekjoocbfbmaaagreat", sum := "d35e493c70511fd1b99724b5a5c7e54f60e854ea1a2becef0c0521d2727a5051", func := "podium/podiumlaw23.StandingWithout", spec := "standingWithout", unfollowed := true, recurses := true, apart := false }
def StandingWithoutSaid : Prop := standingWithoutRow.holds Tryz.pinned (OpenSpec.ofChange standingWithoutSpec)

/-- ITS FALSE NEIGHBOUR: 'it returns false'. Refute it at one input. -/
def standingWithoutWrong : ChangeSpec := { name := "standingWithout", fn := fun _ => fun
  | [d1, d2, d3] => { results := [.lit (.bool false)], args := [d1, d2, d3] }
  | _ => none }
def StandingWithoutWrongFalsely : Prop := standingWithoutRow.holds Tryz.pinned (OpenSpec.ofChange standingWithoutWrong)

/-- 'podiumlaw23.StandingKeys': WHATEVER THE INPUT: true; the input reads as it did. -/
def standingKeysSpec : ChangeSpec := { name := "standingKeys", fn := fun _ => fun
  | [d1, d2, d3] => { results := [.lit (.bool true)], args := [d1, d2, d3] }
  | _ => none }
def standingKeysRow : OpenClaim := { program := "ytnekjoocbfbmaaagreat", sum := "d35e493c70511fd1b99724b5a5c7e54f60e854ea1a2becef0c0521d2727a5051", func := "podium/podiumlaw23.StandingKeys", spec := "standingKeys", unfollowed := true, recurses := true, apart := false }
def StandingKeysSaid : Prop := standingKeysRow.holds Tryz.pinned (OpenSpec.ofChange standingKeysSpec)

/-- ITS FALSE NEIGHBOUR: 'it returns false'. Refute it at one input. -/
def standingKeysWrong : ChangeSpec := { name := "standingKeys", fn := fun _ => fun
  | [d1, d2, d3] => { results := [.lit (.bool false)], args := [d1, d2, d3] }
  | _ => none }
def StandingKeysWrongFalsely : Prop := standingKeysRow.holds Tryz.pinned (OpenSpec.ofChange standingKeysWrong)

/-- 'podiumlaw23.StandingRanks': WHATEVER THE INPUT: true; the input reads as it did. -/
def standingRanksSpec : ChangeSpec := { name := "standingRanks", fn := fun _ => fun
  | [d] => { results := [.lit (.bool true)], args := [d] }
  | _ => none }
def standingRanksRow : OpenClaim := { program := "ytnekjoocbfbmaaagreat", sum := "d35e493c70511fd1b99724b5a5c7e54f60e854ea1a2becef0c0521d2727a5051", func := "podium/podiumlaw23.StandingRanks", spec := "standingRanks", unfollowed := true, recurses := true, apart := false }
def StandingRanksSaid : Prop := standingRanksRow.holds Tryz.pinned (OpenSpec.ofChange standingRanksSpec)

/-- ITS FALSE NEIGHBOUR: 'it returns false'. Refute it at one input. -/
def standingRanksWrong : ChangeSpec := { name := "standingRanks", fn := fun _ => fun
  | [d] => { results := [.lit (.bool false)], args := [d] }
  | _ => none }
def StandingRanksWrongFalsely : Prop := standingRanksRow.holds Tryz.pinned (OpenSpec.ofChange standingRanksWrong)

/- THE SECOND FORM. 'bulk': how many values and letters a reading holds, each counted each time it is reached (what is shared counts as often as it is met; a slice's spare places count too). A statement '..UptoSaid' is the law's where the arguments, and the package variables that the reading takes, are together of bulk at most 1048576: NARROWER than '..Said'. Prove '..Said' where nothing that the law and all that it calls make is longer than what came in: it says more and counts as full. Else prove '..UptoSaid'. A law counts once. -/
mutual
def uptoBulk {H : Type} : DataW H → Nat
  | .lit (.string bytes) => bytes.length + 1
  | .lit _ => 1
  | .nil => 1
  | .ptr d => uptoBulk d + 1
  | .slice elems spare => uptoBulkAll elems + uptoBulkAll spare + 1
  | .agg parts => uptoBulkAll parts + 1
  | .iface _ d => uptoBulk d + 1
  | .map entries => uptoBulkEntries entries + 1
  | .held _ => 1
def uptoBulkAll {H : Type} : List (DataW H) → Nat
  | [] => 0
  | d :: r => uptoBulk d + uptoBulkAll r
def uptoBulkEntries {H : Type} : List (Lit × DataW H) → Nat
  | [] => 0
  | x :: r => uptoBulkEntry x + uptoBulkEntries r
def uptoBulkEntry {H : Type} : Lit × DataW H → Nat
  | (.string bytes, d) => bytes.length + uptoBulk d + 1
  | (_, d) => uptoBulk d + 1
 end
def uptoSmall : (H : Type) → List (DataW H) → Bool := fun _ ds => decide (uptoBulkAll ds ≤ 1048576)
def OpenSpec.upto (s : _root_.Go.ChangeSpec) : _root_.Go.OpenSpec := { _root_.Go.OpenSpec.ofChange s with cond := some uptoSmall }

/-- 'podiumlaw23.StandingSpec', WHERE WHAT IT READS IS OF BULK AT MOST 1048576: true; the input reads as it did. -/
def standingSpecUptoRow : OpenClaim := { program := "ytnekjoocbfbmaaagreat", sum := "d35e493c70511fd1b99724b5a5c7e54f60e854ea1a2becef0c0521d2727a5051", func := "podium/podiumlaw23.StandingSpec", spec := "standingSpec", unfollowed := true, recurses := true, apart := false, narrowed := true }
def StandingSpecUptoSaid : Prop := standingSpecUptoRow.holds Tryz.pinned (OpenSpec.upto standingSpecSpec)

/-- 'podiumlaw23.StandingPlacesSpec', WHERE WHAT IT READS IS OF BULK AT MOST 1048576: true; the input reads as it did. -/
def standingPlacesSpecUptoRow : OpenClaim := { program := "ytnekjoocbfbmaaagreat", sum := "d35e493c70511fd1b99724b5a5c7e54f60e854ea1a2becef0c0521d2727a5051", func := "podium/podiumlaw23.StandingPlacesSpec", spec := "standingPlacesSpec", unfollowed := true, recurses := true, apart := false, narrowed := true }
def StandingPlacesSpecUptoSaid : Prop := standingPlacesSpecUptoRow.holds Tryz.pinned (OpenSpec.upto standingPlacesSpecSpec)

/-- 'podiumlaw23.StandingRight', WHERE WHAT IT READS IS OF BULK AT MOST 1048576: true; the input reads as it did. -/
def standingRightUptoRow : OpenClaim := { program := "ytnekjoocbfbmaaagreat", sum := "d35e493c70511fd1b99724b5a5c7e54f60e854ea1a2becef0c0521d2727a5051", func := "podium/podiumlaw23.StandingRight", spec := "standingRight", unfollowed := true, recurses := true, apart := false, narrowed := true }
def StandingRightUptoSaid : Prop := standingRightUptoRow.holds Tryz.pinned (OpenSpec.upto standingRightSpec)

/-- 'podiumlaw23.StandingMajority', WHERE WHAT IT READS IS OF BULK AT MOST 1048576: true; the input reads as it did. -/
def standingMajorityUptoRow : OpenClaim := { program := "ytnekjoocbfbmaaagreat", sum := "d35e493c70511fd1b99724b5a5c7e54f60e854ea1a2becef0c0521d2727a5051", func := "podium/podiumlaw23.StandingMajority", spec := "standingMajority", unfollowed := true, recurses := true, apart := false, narrowed := true }
def StandingMajorityUptoSaid : Prop := standingMajorityUptoRow.holds Tryz.pinned (OpenSpec.upto standingMajoritySpec)

/-- 'podiumlaw23.StandingOrder', WHERE WHAT IT READS IS OF BULK AT MOST 1048576: true; the input reads as it did. -/
def standingOrderUptoRow : OpenClaim := { program := "ytnekjoocbfbmaaagreat", sum := "d35e493c70511fd1b99724b5a5c7e54f60e854ea1a2becef0c0521d2727a5051", func := "podium/podiumlaw23.StandingOrder", spec := "standingOrder", unfollowed := true, recurses := true, apart := false, narrowed := true }
def StandingOrderUptoSaid : Prop := standingOrderUptoRow.holds Tryz.pinned (OpenSpec.upto standingOrderSpec)

/-- 'podiumlaw23.StandingWithout', WHERE WHAT IT READS IS OF BULK AT MOST 1048576: true; the input reads as it did. -/
def standingWithoutUptoRow : OpenClaim := { program := "ytnekjoocbfbmaaagreat", sum := "d35e493c70511fd1b99724b5a5c7e54f60e854ea1a2becef0c0521d2727a5051", func := "podium/podiumlaw23.StandingWithout", spec := "standingWithout", unfollowed := true, recurses := true, apart := false, narrowed := true }
def StandingWithoutUptoSaid : Prop := standingWithoutUptoRow.holds Tryz.pinned (OpenSpec.upto standingWithoutSpec)

/-- 'podiumlaw23.StandingKeys', WHERE WHAT IT READS IS OF BULK AT MOST 1048576: true; the input reads as it did. -/
def standingKeysUptoRow : OpenClaim := { program := "ytnekjoocbfbmaaagreat", sum := "d35e493c70511fd1b99724b5a5c7e54f60e854ea1a2becef0c0521d2727a5051", func := "podium/podiumlaw23.StandingKeys", spec := "standingKeys", unfollowed := true, recurses := true, apart := false, narrowed := true }
def StandingKeysUptoSaid : Prop := standingKeysUptoRow.holds Tryz.pinned (OpenSpec.upto standingKeysSpec)

/-- 'podiumlaw23.StandingRanks', WHERE WHAT IT READS IS OF BULK AT MOST 1048576: true; the input reads as it did. -/
def standingRanksUptoRow : OpenClaim := { program := "ytnekjoocbfbmaaagreat", sum := "d35e493c70511fd1b99724b5a5c7e54f60e854ea1a2becef0c0521d2727a5051", func := "podium/podiumlaw23.StandingRanks", spec := "standingRanks", unfollowed := true, recurses := true, apart := false, narrowed := true }
def StandingRanksUptoSaid : Prop := standingRanksUptoRow.holds Tryz.pinned (OpenSpec.upto standingRanksSpec)

end Rows
end Go.Proofs.YtnekjoocbfbmaaaGreat
