/- 'StandingSpec' answers true at every input and leaves its arguments as they were. No condition. -/
import Derived.Test.YtnekjoocbfbmaaaGreatZtmStSpc2
import Derived.JoinedOf
import Derived.Handed
namespace Go.Proofs.YtnekjoocbfbmaaaGreat
open Go.Am Go.ChangeShapes Go.WideShapes Go.RowKit

theorem own : ownKnob Tryz.prog.godebug = none := by kernel_rfl
theorem laidOut : laidOutB Tryz.prog = true := by kernel_rfl
theorem tyY : TyOf Tryz.prog (.slice tKey) 22 := tyOf_of_B _ _ (by kernel_rfl)
theorem tyK : TyOf Tryz.prog (.slice tKd) 23 := tyOf_of_B _ _ (by kernel_rfl)
theorem readable2 : ∀ T ∈ ([22, 23] : List TypeId), Tryz.prog.readableRec T = true ∧ T < Tryz.prog.types.size := by
  simp only [List.forall_mem_cons]
  exact ⟨⟨by kernel_rfl, of_decide_eq_true (by kernel_rfl)⟩, ⟨by kernel_rfl, of_decide_eq_true (by kernel_rfl)⟩, by simp⟩
theorem pre2 : ∀ xs : List (Sigma Ty.T), xs.map (·.1) = [.slice tKey, .slice tKd] → (∀ x ∈ xs, argIn x) → conSSpecW.pre (xs.map argOf) := by
  intro xs h hin
  match xs, h with
  | [⟨_, x0⟩, ⟨_, x1⟩], h =>
    simp only [List.map_cons, List.map_nil, List.cons.injEq, and_true] at h
    obtain ⟨rfl, rfl⟩ := h
    exact ⟨x0, x1, rfl⟩

set_option maxRecDepth 100000 in
theorem sspec_lifted (os : Os) (started : os.Started) (H : Type) (enc : TypeId × Value → H) :
    ReturnsInHanded {} Tryz.checked os 3 .any (Rows.standingSpecSpec.pre6 enc Tryz.prog Tryz.f3 Rows.standingSpecRow.domain false) (Rows.standingSpecSpec.post enc Tryz.prog Tryz.f3 false true false false) := by
  refine returnsInHanded_of_change (C := Tryz.checked) own started (by kernel_rfl) Tryz.func3
    (ChangeSpec.witness6 (enc := enc) (C := Tryz.checked) false ⟨#[], #[.slice none 0 0, .slice none 0 0], []⟩ 8 (by kernel_rfl) (by kernel_rfl) (by kernel_rfl) (by kernel_rfl)) ?_
  intro W base args ds gs before hval hW _ _
  refine law_contract (con := conSSpecW) (tys := [.slice tKey, .slice tKd]) (T := 4) false sspec_okW pre2 (fun _ => rfl) (.cons tyY (.cons tyK (.nil))) readable2 laidOut rfl (by kernel_rfl) rfl enc ?_ W base args ds gs before hval hW
  intro ds h
  match ds, h with
  | [d0, d1], _ => exact ⟨rfl, rfl, rfl⟩

theorem sspec_holds : Rows.StandingSpecSaid :=
  OpenClaim.holds_of_wide 3 Tryz.f3 rfl rfl rfl rfl rfl rfl rfl ⟨rfl, rfl, rfl, rfl, rfl⟩ rfl rfl rfl rfl rfl (by kernel_rfl) Tryz.func3 (by kernel_rfl)
    (of_decide_eq_true (by kernel_rfl)) (by unfold Func.isWrapper; first | (rw [if_pos (by decide +kernel)]; kernel_rfl) | (rw [if_neg (by decide +kernel)]; exact ⟨rfl, rfl⟩))
    (fun os started H enc _ => sspec_lifted os started H enc)
#print axioms sspec_holds
end Go.Proofs.YtnekjoocbfbmaaaGreat
