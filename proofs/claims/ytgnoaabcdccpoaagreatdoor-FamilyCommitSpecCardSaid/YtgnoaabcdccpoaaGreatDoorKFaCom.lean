/- 'FamilyCommitSpec' answers true at every input and leaves its arguments as they were. No condition. -/
import Derived.Test.YtgnoaabcdccpoaaGreatDoorK11
import Derived.JoinedOf
import Derived.Handed
import Derived.Test.YtgnoaabcdccpoaaGreatDoorTie
import Derived.Test.YtgnoaabcdccpoaaGreatDoorCards
import Derived.ProofKit
import Derived.OpenShut
import Derived.LaidMore
import Derived.Lay
import Derived.SevenTiedAt
import Derived.Stop.Joined
namespace Go.Proofs.YtgnoaabcdccpoaaGreatDoor
open Go.Am Go.ChangeShapes Go.WideShapes Go.RowKit

theorem own : ownKnob Tryz.prog.godebug = none := by kernel_rfl
theorem laidOut : laidOutB Tryz.prog = true := by kernel_rfl
theorem tyS : TyOf Tryz.prog (.slice tI) 23 := tyOf_of_B _ _ (by kernel_rfl)
theorem tyQ : TyOf Tryz.prog (tRat) 27 := tyOf_of_B _ _ (by kernel_rfl)
theorem readable2 : ∀ T ∈ ([23, 27] : List TypeId), Tryz.prog.readableRec T = true ∧ T < Tryz.prog.types.size := by
  simp only [List.forall_mem_cons]
  exact ⟨⟨by kernel_rfl, of_decide_eq_true (by kernel_rfl)⟩, ⟨by kernel_rfl, of_decide_eq_true (by kernel_rfl)⟩, by simp⟩
theorem pre2 : ∀ xs : List (Sigma Ty.T), xs.map (·.1) = [.slice tI, tRat] → (∀ x ∈ xs, argIn x) → conFComW.pre (xs.map argOf) := by
  intro xs h hin
  match xs, h with
  | [⟨_, x0⟩, ⟨_, x1⟩], h =>
    simp only [List.map_cons, List.map_nil, List.cons.injEq, and_true] at h
    obtain ⟨rfl, rfl⟩ := h
    exact ⟨x0, x1, rfl⟩

set_option maxRecDepth 100000 in
theorem fcom_lifted (os : Os) (started : os.Started) (H : Type) (enc : TypeId × Value → H) :
    ReturnsInHanded {} Tryz.checked os 4 .any (fun w args => (Rows.familyCommitSpecSpec.pre enc Tryz.prog Tryz.f4 Rows.familyCommitSpecRow.domain false w args ∧ laidMetH Tryz.prog Rows.familyCommitSpecRow.laid w) ∧ sizedMet enc Tryz.prog Tryz.f4 (OpenSpec.ofChange Rows.familyCommitSpecSpec) false w args) (Rows.familyCommitSpecSpec.post enc Tryz.prog Tryz.f4 false true false false) := by
  refine returnsInHanded_of_change_and (C := Tryz.checked) (X := fun w _ => laidMetH Tryz.prog Rows.familyCommitSpecRow.laid w) (fun _ _ _ hh h => h.of_heap hh) own started (by kernel_rfl) Tryz.func4
    (ChangeSpec.witness_shaped (enc := enc) (C := Tryz.checked) (os := os) (X := fun w _ => laidMetH Tryz.prog Rows.familyCommitSpecRow.laid w) false (World.laidAll Tryz.prog os Rows.familyCommitSpecRow.laid) #[.slice none 0 0, .agg #[.bool false, .slice none 0 0, .bool false, .slice none 0 0]] 8 (World.laidAll_os _ _ _)
      (World.shaped_of_ZipB (by kernel_rfl) (by kernel_rfl)) (by kernel_rfl) (by kernel_rfl) (by kernel_rfl)
      (by rw [MakeChecks.laidMetH_plain _ _ _ (by kernel_rfl)]; exact laidMet_laidAll _ (by kernel_rfl) (by kernel_rfl))) ?_
  intro W base args ds gs before hval hW _ _ hL _
  refine law_contract (con := conFComW) (tys := [.slice tI, tRat]) (T := 4) false fcom_okW pre2 (fun _ => rfl) (.cons tyS (.cons tyQ (.nil))) readable2 laidOut rfl (by kernel_rfl) rfl enc ?_ W base args ds gs before hval hW (globs_laid hL)
  intro ds h
  match ds, h with
  | [d0, d1], _ => exact ⟨rfl, rfl, rfl⟩

theorem fcom_holds : Rows.FamilyCommitSpecSaid :=
  OpenClaim.holds_of_wide 4 Tryz.f4 rfl rfl rfl rfl rfl rfl rfl ⟨rfl, rfl, rfl, rfl, rfl⟩ rfl rfl rfl rfl rfl (by kernel_rfl) Tryz.func4 (by kernel_rfl)
    (of_decide_eq_true (by kernel_rfl)) (by unfold Func.isWrapper; first | (rw [if_pos (by decide +kernel)]; kernel_rfl) | (rw [if_neg (by decide +kernel)]; exact ⟨rfl, rfl⟩))
    (fun os started H enc _ => fcom_lifted os started H enc)
theorem fcom_params : Tryz.f4.params = #[23, 27] := by kernel_rfl
theorem fcom_card : Rows.FamilyCommitSpecCardSaid :=
  Claim7.holds_tied_plain_at .later [] [.data, .data, .data, .pinned] true (true, "97b53c10642d6f138096431997d429c80f6734721beaa727991626cffc2dd1f0") true fcom_holds (fun _ h => by cases h) (by kernel_rfl) (fun _ h => by cases h) familyCommitSpec_row_tie rfl ⟨rfl, rfl⟩ (by kernel_rfl) rfl
    (fun f fn hf hfn => by
      obtain rfl : f = 4 := Option.some.inj ((show Tryz.prog.funcNamed "podium/podiumlaw43.FamilyCommitSpec" = some 4 by kernel_rfl).symm.trans hf) |>.symm
      obtain rfl : fn = Tryz.f4 := (Option.some.inj (Tryz.func4.symm.trans hfn)).symm
      exact ⟨by kernel_rfl, fun j t ht => by
        rw [fcom_params] at ht
        have hm : t ∈ [23, 27] := by simpa using Array.mem_of_getElem? ht
        have hall : ([23, 27].all fun u => !Tryz.prog.wantsStandIn u) = true := by kernel_rfl
        exact (show Tryz.prog.wantsStandIn t = false by simpa using List.all_eq_true.1 hall t hm)⟩)
    (by kernel_rfl)
#print axioms fcom_holds
#print axioms fcom_card
end Go.Proofs.YtgnoaabcdccpoaaGreatDoor
