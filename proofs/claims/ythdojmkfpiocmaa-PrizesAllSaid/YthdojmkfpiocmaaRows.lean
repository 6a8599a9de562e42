/-
  No cell of these rows narrows 'for every input' (looked for: loops, veiled, ifaces, maps, wideKeys, modest, calm, conditions, laid).
  DERIVED. THE GIVEN ROWS OF THIS SEAT. 5 by the template 'for every input the law returns true; each argument reads behind the call as it read before'; 0 by the template 'total and deterministic' (their statements: YthdojmkfpiocmaaTotals.lean).
  GIVEN WITH THE SEED: the statements are not yours to turn. If you find one false, say at which input.
  Laid BY PROGRAM, IN A SANDBOX (cutbox-rows.mjs): the forced cells as the released guide's own fill.sh prints them over the translation ef5526a24b7f8fc9… (all of the seat's roots in one cut). By AI agents, Wed Nov 11 2026. No macro, syntax, notation, axiom, sorry.
-/
import Derived.Test.YthdojmkfpiocmaaChecked
import GoSem.Claim
import GoSem.ClaimJoined
import GoSem.ClaimMapViews
import Derived.JoinedTies
import Derived.KernelRfl
namespace Go.Proofs.Ythdojmkfpiocmaa
/- THE CELL 'sum', in the pinned program and in every row, IS THE sha256 OF THE DUMP (.gsa) THAT YthdojmkfpiocmaaProg.lean LOADS. Nothing in Lean hashes anything: it is a label: what it is worth is what the hold of that sum in a sandbox is worth. -/
noncomputable def Try.pinned : Pinned := { name := "ythdojmkfpiocmaa", sum := "ef5526a24b7f8fc90949d15ccf37c303fede172f228f4a73b9e5990ef1b80c4d", checked := Try.checked }
namespace Rows
def none {H : Type} : Left H := { results := [], args := [] }

/-- 'podiumlaw25.PrizesSpec': WHATEVER THE INPUT: true; the input reads as it did. -/
def prizesSpecSpec : ChangeSpec := { name := "prizesSpec", fn := fun _ => fun
  | [d1, d2] => { results := [.lit (.bool true)], args := [d1, d2] }
  | _ => none }
def prizesSpecRow : OpenClaim := { program := "ythdojmkfpiocmaa", sum := "ef5526a24b7f8fc90949d15ccf37c303fede172f228f4a73b9e5990ef1b80c4d", func := "podium/podiumlaw25.PrizesSpec", spec := "prizesSpec", unfollowed := true, recurses := true, apart := false }
def PrizesSpecSaid : Prop := prizesSpecRow.holds Try.pinned (OpenSpec.ofChange prizesSpecSpec)

/-- ITS FALSE NEIGHBOUR: 'it returns false'. Refute it at one input. -/
def prizesSpecWrong : ChangeSpec := { name := "prizesSpec", fn := fun _ => fun
  | [d1, d2] => { results := [.lit (.bool false)], args := [d1, d2] }
  | _ => none }
def PrizesSpecWrongFalsely : Prop := prizesSpecRow.holds Try.pinned (OpenSpec.ofChange prizesSpecWrong)

/-- 'podiumlaw25.PrizesAll': WHATEVER THE INPUT: true; the input reads as it did. -/
def prizesAllSpec : ChangeSpec := { name := "prizesAll", fn := fun _ => fun
  | [d1, d2] => { results := [.lit (.bool true)], args := [d1, d2] }
  | _ => none }
def prizesAllRow : OpenClaim := { program := "ythdojmkfpiocmaa", sum := "ef5526a24b7f8fc90949d15ccf37c303fede172f228f4a73b9e5990ef1b80c4d", func := "podium/podiumlaw25.PrizesAll", spec := "prizesAll", unfollowed := true, recurses := true, apart := false }
def PrizesAllSaid : Prop := prizesAllRow.holds Try.pinned (OpenSpec.ofChange prizesAllSpec)

/-- ITS FALSE NEIGHBOUR: 'it returns false'. Refute it at one input. -/
def prizesAllWrong : ChangeSpec := { name := "prizesAll", fn := fun _ => fun
  | [d1, d2] => { results := [.lit (.bool false)], args := [d1, d2] }
  | _ => none }
def PrizesAllWrongFalsely : Prop := prizesAllRow.holds Try.pinned (OpenSpec.ofChange prizesAllWrong)

/-- 'podiumlaw25.PrizesFair': WHATEVER THE INPUT: true; the input reads as it did. -/
def prizesFairSpec : ChangeSpec := { name := "prizesFair", fn := fun _ => fun
  | [d1, d2] => { results := [.lit (.bool true)], args := [d1, d2] }
  | _ => none }
def prizesFairRow : OpenClaim := { program := "ythdojmkfpiocmaa", sum := "ef5526a24b7f8fc90949d15ccf37c303fede172f228f4a73b9e5990ef1b80c4d", func := "podium/podiumlaw25.PrizesFair", spec := "prizesFair", unfollowed := true, recurses := true, apart := false }
def PrizesFairSaid : Prop := prizesFairRow.holds Try.pinned (OpenSpec.ofChange prizesFairSpec)

/-- ITS FALSE NEIGHBOUR: 'it returns false'. Refute it at one input. -/
def prizesFairWrong : ChangeSpec := { name := "prizesFair", fn := fun _ => fun
  | [d1, d2] => { results := [.lit (.bool false)], args := [d1, d2] }
  | _ => none }
def PrizesFairWrongFalsely : Prop := prizesFairRow.holds Try.pinned (OpenSpec.ofChange prizesFairWrong)

/-- 'podiumlaw25.PrizesOwn': WHATEVER THE INPUT: true; the input reads as it did. -/
def prizesOwnSpec : ChangeSpec := { name := "prizesOwn", fn := fun _ => fun
  | [d1, d2] => { results := [.lit (.bool true)], args := [d1, d2] }
  | _ => none }
def prizesOwnRow : OpenClaim := { program := "ythdojmkfpiocmaa", sum := "ef5526a24b7f8fc90949d15ccf37c303fede172f228f4a73b9e5990ef1b80c4d", func := "podium/podiumlaw25.PrizesOwn", spec := "prizesOwn", unfollowed := true, recurses := true, apart := false }
def PrizesOwnSaid : Prop := prizesOwnRow.holds Try.pinned (OpenSpec.ofChange prizesOwnSpec)

/-- ITS FALSE NEIGHBOUR: 'it returns false'. Refute it at one input. -/
def prizesOwnWrong : ChangeSpec := { name := "prizesOwn", fn := fun _ => fun
  | [d1, d2] => { results := [.lit (.bool false)], args := [d1, d2] }
  | _ => none }
def PrizesOwnWrongFalsely : Prop := prizesOwnRow.holds Try.pinned (OpenSpec.ofChange prizesOwnWrong)

/-- 'podiumlaw25.PrizesMore': WHATEVER THE INPUT: true; the input reads as it did. -/
def prizesMoreSpec : ChangeSpec := { name := "prizesMore", fn := fun _ => fun
  | [d1, d2, d3] => { results := [.lit (.bool true)], args := [d1, d2, d3] }
  | _ => none }
def prizesMoreRow : OpenClaim := { program := "ythdojmkfpiocmaa", sum := "ef5526a24b7f8fc90949d15ccf37c303fede172f228f4a73b9e5990ef1b80c4d", func := "podium/podiumlaw25.PrizesMore", spec := "prizesMore", unfollowed := true, recurses := true, apart := false }
def PrizesMoreSaid : Prop := prizesMoreRow.holds Try.pinned (OpenSpec.ofChange prizesMoreSpec)

/-- ITS FALSE NEIGHBOUR: 'it returns false'. Refute it at one input. -/
def prizesMoreWrong : ChangeSpec := { name := "prizesMore", fn := fun _ => fun
  | [d1, d2, d3] => { results := [.lit (.bool false)], args := [d1, d2, d3] }
  | _ => none }
def PrizesMoreWrongFalsely : Prop := prizesMoreRow.holds Try.pinned (OpenSpec.ofChange prizesMoreWrong)

/- THE SECOND FORM. 'bulk': how many values and letters a reading holds, each counted each time it is reached (what is shared counts as often as it is met; a slice's spare places count too). A statement '..UptoSaid' is the law's where the arguments, and the package variables that the reading takes, are together of bulk at most 1048576: NARROWER than '..Said'. Prove '..Said' where nothing that the law and all that it calls make is longer than what came in: it says more and counts as full. Else prove '..UptoSaid'. A law counts once. -/
mutual
def uptoBulk {H : Type} : DataW H → Nat
  | .lit (.string bytes) => bytes.length + 1
  | .lit _ => 1
  | .nil => 1
  | .ptr d => uptoBulk d + 1
  | .slice elems spare => uptoBulkAll elems + uptoBulkAll spare + 1
  | .agg parts => uptoBulkAll parts + 1
  | .iface _ d => uptoBulk d + 1
  | .map entries => uptoBulkEntries entries + 1
  | .held _ => 1
def uptoBulkAll {H : Type} : List (DataW H) → Nat
  | [] => 0
  | d :: r => uptoBulk d + uptoBulkAll r
def uptoBulkEntries {H : Type} : List (Lit × DataW H) → Nat
  | [] => 0
  | x :: r => uptoBulkEntry x + uptoBulkEntries r
def uptoBulkEntry {H : Type} : Lit × DataW H → Nat
  | (.string bytes, d) => bytes.length + uptoBulk d + 1
  | (_, d) => uptoBulk d + 1
 end
def uptoSmall : (H : Type) → List (DataW H) → Bool := fun _ ds => decide (uptoBulkAll ds ≤ 1048576)
def OpenSpec.upto (s : _root_.Go.ChangeSpec) : _root_.Go.OpenSpec := { _root_.Go.OpenSpec.ofChange s with cond := some uptoSmall }

/-- 'podiumlaw25.PrizesSpec', WHERE WHAT IT READS IS OF BULK AT MOST 1048576: true; the input reads as it did. -/
def prizesSpecUptoRow : OpenClaim := { program := "ythdojmkfpiocmaa", sum := "ef5526a24b7f8fc90949d15ccf37c303fede172f228f4a73b9e5990ef1b80c4d", func := "podium/podiumlaw25.PrizesSpec", spec := "prizesSpec", unfollowed := true, recurses := true, apart := false, narrowed := true }
def PrizesSpecUptoSaid : Prop := prizesSpecUptoRow.holds Try.pinned (OpenSpec.upto prizesSpecSpec)

/-- 'podiumlaw25.PrizesAll', WHERE WHAT IT READS IS OF BULK AT MOST 1048576: true; the input reads as it did. -/
def prizesAllUptoRow : OpenClaim := { program := "ythdojmkfpiocmaa", sum := "ef5526a24b7f8fc90949d15ccf37c303fede172f228f4a73b9e5990ef1b80c4d", func := "podium/podiumlaw25.PrizesAll", spec := "prizesAll", unfollowed := true, recurses := true, apart := false, narrowed := true }
def PrizesAllUptoSaid : Prop := prizesAllUptoRow.holds Try.pinned (OpenSpec.upto prizesAllSpec)

/-- 'podiumlaw25.PrizesFair', WHERE WHAT IT READS IS OF BULK AT MOST 1048576: true; the input reads as it did. -/
def prizesFairUptoRow : OpenClaim := { program := "ythdojmkfpiocmaa", sum := "ef5526a24b7f8fc90949d15ccf37c303fede172f228f4a73b9e5990ef1b80c4d", func := "podium/podiumlaw25.PrizesFair", spec := "prizesFair", unfollowed := true, recurses := true, apart := false, narrowed := true }
def PrizesFairUptoSaid : Prop := prizesFairUptoRow.holds Try.pinned (OpenSpec.upto prizesFairSpec)

/-- 'podiumlaw25.PrizesOwn', WHERE WHAT IT READS IS OF BULK AT MOST 1048576: true; the input reads as it did. -/
def prizesOwnUptoRow : OpenClaim := { program := "ythdojmkfpiocmaa", sum := "ef5526a24b7f8fc90949d15ccf37c303fede172f228f4a73b9e5990ef1b80c4d", func := "podium/podiumlaw25.PrizesOwn", spec := "prizesOwn", unfollowed := true, recurses := true, apart := false, narrowed := true }
def PrizesOwnUptoSaid : Prop := prizesOwnUptoRow.holds Try.pinned (OpenSpec.upto prizesOwnSpec)

/-- 'podiumlaw25.PrizesMore', WHERE WHAT IT READS IS OF BULK AT MOST 1048576: true; the input reads as it did. -/
def prizesMoreUptoRow : OpenClaim := { program := "ythdojmkfpiocmaa", sum := "ef5526a24b7f8fc90949d15ccf37c303fede172f228f4a73b9e5990ef1b80c4d", func := "podium/podiumlaw25.PrizesMore", spec := "prizesMore", unfollowed := true, recurses := true, apart := false, narrowed := true }
def PrizesMoreUptoSaid : Prop := prizesMoreUptoRow.holds Try.pinned (OpenSpec.upto prizesMoreSpec)

end Rows
end Go.Proofs.Ythdojmkfpiocmaa
