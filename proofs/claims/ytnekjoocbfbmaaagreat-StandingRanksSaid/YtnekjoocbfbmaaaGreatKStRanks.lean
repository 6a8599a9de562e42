/- 'StandingRanks' answers true at every input and leaves its arguments as they were. No condition. -/
import Derived.Test.YtnekjoocbfbmaaaGreatK11
import Derived.JoinedOf
import Derived.Handed
namespace Go.Proofs.YtnekjoocbfbmaaaGreat
open Go.Am Go.ChangeShapes Go.WideShapes Go.RowKit

theorem own : ownKnob Tryz.prog.godebug = none := by kernel_rfl
theorem laidOut : laidOutB Tryz.prog = true := by kernel_rfl
theorem tyL : TyOf Tryz.prog (.slice tPlc) 26 := tyOf_of_B _ _ (by kernel_rfl)
theorem readable2 : ∀ T ∈ ([26] : List TypeId), Tryz.prog.readableRec T = true ∧ T < Tryz.prog.types.size := by
  simp only [List.forall_mem_cons]
  exact ⟨⟨by kernel_rfl, of_decide_eq_true (by kernel_rfl)⟩, by simp⟩
theorem pre2 : ∀ xs : List (Sigma Ty.T), xs.map (·.1) = [.slice tPlc] → (∀ x ∈ xs, argIn x) → conRanksW.pre (xs.map argOf) := by
  intro xs h hin
  match xs, h with
  | [⟨_, x0⟩], h =>
    simp only [List.map_cons, List.map_nil, List.cons.injEq, and_true] at h
    obtain ⟨rfl⟩ := h
    exact ⟨x0, rfl⟩

set_option maxRecDepth 100000 in
theorem ranks_lifted (os : Os) (started : os.Started) (H : Type) (enc : TypeId × Value → H) :
    ReturnsInHanded {} Tryz.checked os 10 .any (Rows.standingRanksSpec.pre6 enc Tryz.prog Tryz.f10 Rows.standingRanksRow.domain false) (Rows.standingRanksSpec.post enc Tryz.prog Tryz.f10 false true false false) := by
  refine returnsInHanded_of_change (C := Tryz.checked) own started (by kernel_rfl) Tryz.func10
    (ChangeSpec.witness6 (enc := enc) (C := Tryz.checked) false ⟨#[], #[.slice none 0 0], []⟩ 8 (by kernel_rfl) (by kernel_rfl) (by kernel_rfl) (by kernel_rfl)) ?_
  intro W base args ds gs before hval hW _ _
  refine law_contract (con := conRanksW) (tys := [.slice tPlc]) (T := 4) false ranksW_ok pre2 (fun _ => rfl) (.cons tyL (.nil)) readable2 laidOut rfl (by kernel_rfl) rfl enc ?_ W base args ds gs before hval hW
  intro ds h
  match ds, h with
  | [d0], _ => exact ⟨rfl, rfl, rfl⟩

theorem ranks_holds : Rows.StandingRanksSaid :=
  OpenClaim.holds_of_wide 10 Tryz.f10 rfl rfl rfl rfl rfl rfl rfl ⟨rfl, rfl, rfl, rfl, rfl⟩ rfl rfl rfl rfl rfl (by kernel_rfl) Tryz.func10 (by kernel_rfl)
    (of_decide_eq_true (by kernel_rfl)) (by unfold Func.isWrapper; first | (rw [if_pos (by decide +kernel)]; kernel_rfl) | (rw [if_neg (by decide +kernel)]; exact ⟨rfl, rfl⟩))
    (fun os started H enc _ => ranks_lifted os started H enc)
#print axioms ranks_holds
end Go.Proofs.YtnekjoocbfbmaaaGreat
