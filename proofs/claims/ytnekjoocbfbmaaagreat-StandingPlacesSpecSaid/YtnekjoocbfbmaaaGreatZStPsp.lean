/- 'StandingPlacesSpec' answers true at every input and leaves its arguments as they were. No condition. -/
import Derived.Test.YtnekjoocbfbmaaaGreatZtmStSpc2
import Derived.JoinedOf
import Derived.Handed
namespace Go.Proofs.YtnekjoocbfbmaaaGreat
open Go.Am Go.ChangeShapes Go.WideShapes Go.RowKit

theorem own : ownKnob Tryz.prog.godebug = none := by kernel_rfl
theorem laidOut : laidOutB Tryz.prog = true := by kernel_rfl
theorem tyR : TyOf Tryz.prog (.slice (.slice tI)) 31 := tyOf_of_B _ _ (by kernel_rfl)
theorem tyY : TyOf Tryz.prog (.slice tKey) 22 := tyOf_of_B _ _ (by kernel_rfl)
theorem tyK : TyOf Tryz.prog (.slice tKd) 23 := tyOf_of_B _ _ (by kernel_rfl)
theorem tyL : TyOf Tryz.prog (.slice tPlc) 26 := tyOf_of_B _ _ (by kernel_rfl)
theorem readable2 : ∀ T ∈ ([31, 22, 23, 26] : List TypeId), Tryz.prog.readableRec T = true ∧ T < Tryz.prog.types.size := by
  simp only [List.forall_mem_cons]
  exact ⟨⟨by kernel_rfl, of_decide_eq_true (by kernel_rfl)⟩, ⟨by kernel_rfl, of_decide_eq_true (by kernel_rfl)⟩, ⟨by kernel_rfl, of_decide_eq_true (by kernel_rfl)⟩, ⟨by kernel_rfl, of_decide_eq_true (by kernel_rfl)⟩, by simp⟩
theorem pre2 : ∀ xs : List (Sigma Ty.T), xs.map (·.1) = [.slice (.slice tI), .slice tKey, .slice tKd, .slice tPlc] → (∀ x ∈ xs, argIn x) → conSPSpecW.pre (xs.map argOf) := by
  intro xs h hin
  match xs, h with
  | [⟨_, x0⟩, ⟨_, x1⟩, ⟨_, x2⟩, ⟨_, x3⟩], h =>
    simp only [List.map_cons, List.map_nil, List.cons.injEq, and_true] at h
    obtain ⟨rfl, rfl, rfl, rfl⟩ := h
    exact ⟨x0, x1, x2, x3, rfl⟩

set_option maxRecDepth 100000 in
theorem spspec_lifted (os : Os) (started : os.Started) (H : Type) (enc : TypeId × Value → H) :
    ReturnsInHanded {} Tryz.checked os 4 .any (Rows.standingPlacesSpecSpec.pre6 enc Tryz.prog Tryz.f4 Rows.standingPlacesSpecRow.domain false) (Rows.standingPlacesSpecSpec.post enc Tryz.prog Tryz.f4 false true false false) := by
  refine returnsInHanded_of_change (C := Tryz.checked) own started (by kernel_rfl) Tryz.func4
    (ChangeSpec.witness6 (enc := enc) (C := Tryz.checked) false ⟨#[], #[.slice none 0 0, .slice none 0 0, .slice none 0 0, .slice none 0 0], []⟩ 8 (by kernel_rfl) (by kernel_rfl) (by kernel_rfl) (by kernel_rfl)) ?_
  intro W base args ds gs before hval hW _ _
  refine law_contract (con := conSPSpecW) (tys := [.slice (.slice tI), .slice tKey, .slice tKd, .slice tPlc]) (T := 4) false spspec_okW pre2 (fun _ => rfl) (.cons tyR (.cons tyY (.cons tyK (.cons tyL (.nil))))) readable2 laidOut rfl (by kernel_rfl) rfl enc ?_ W base args ds gs before hval hW
  intro ds h
  match ds, h with
  | [d0, d1, d2, d3], _ => exact ⟨rfl, rfl, rfl⟩

theorem spspec_holds : Rows.StandingPlacesSpecSaid :=
  OpenClaim.holds_of_wide 4 Tryz.f4 rfl rfl rfl rfl rfl rfl rfl ⟨rfl, rfl, rfl, rfl, rfl⟩ rfl rfl rfl rfl rfl (by kernel_rfl) Tryz.func4 (by kernel_rfl)
    (of_decide_eq_true (by kernel_rfl)) (by unfold Func.isWrapper; first | (rw [if_pos (by decide +kernel)]; kernel_rfl) | (rw [if_neg (by decide +kernel)]; exact ⟨rfl, rfl⟩))
    (fun os started H enc _ => spspec_lifted os started H enc)
#print axioms spspec_holds
end Go.Proofs.YtnekjoocbfbmaaaGreat
