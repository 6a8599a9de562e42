/- 'PrizesMore' answers true at every input and leaves its arguments as they were. No condition. -/
import Derived.Test.YthdojmkfpiocmaaPz15
import Derived.Test.YthdojmkfpiocmaaAm16
import Derived.JoinedOf
import Derived.Handed
namespace Go.Proofs.Ythdojmkfpiocmaa
open Go.Am Go.ChangeShapes Go.WideShapes Go.RowKit

theorem own : ownKnob Try.prog.godebug = none := by kernel_rfl
theorem laidOut : laidOutB Try.prog = true := by kernel_rfl
theorem tyI : TyOf Try.prog (.slice tI) 22 := tyOf_of_B _ _ (by kernel_rfl)
theorem tyP : TyOf Try.prog (.slice tPlace) 23 := tyOf_of_B _ _ (by kernel_rfl)
theorem readable2 : ∀ T ∈ ([22, 22, 23] : List TypeId), Try.prog.readableRec T = true ∧ T < Try.prog.types.size := by
  simp only [List.forall_mem_cons]
  exact ⟨⟨by kernel_rfl, of_decide_eq_true (by kernel_rfl)⟩, ⟨by kernel_rfl, of_decide_eq_true (by kernel_rfl)⟩, ⟨by kernel_rfl, of_decide_eq_true (by kernel_rfl)⟩, by simp⟩
theorem pre2 : ∀ xs : List (Sigma Ty.T), xs.map (·.1) = [.slice tI, .slice tI, .slice tPlace] → conLaw3.pre (xs.map argOf) := by
  intro xs h
  match xs, h with
  | [⟨_, l⟩, ⟨_, m⟩, ⟨_, p⟩], h =>
    simp only [List.map_cons, List.map_nil, List.cons.injEq, and_true] at h
    obtain ⟨rfl, rfl, rfl⟩ := h
    exact ⟨l, false, m, false, p, false, rfl⟩

set_option maxRecDepth 100000 in
theorem more_lifted (os : Os) (started : os.Started) (H : Type) (enc : TypeId × Value → H) :
    ReturnsInHanded {} Try.checked os 7 .any (Rows.prizesMoreSpec.pre6 enc Try.prog Try.f7 Rows.prizesMoreRow.domain false) (Rows.prizesMoreSpec.post enc Try.prog Try.f7 false true false false) := by
  refine returnsInHanded_of_change (C := Try.checked) own started (by kernel_rfl) Try.func7
    (ChangeSpec.witness6 (enc := enc) (C := Try.checked) false ⟨#[], #[.slice none 0 0, .slice none 0 0, .slice none 0 0], []⟩ 8 (by kernel_rfl) (by kernel_rfl) (by kernel_rfl) (by kernel_rfl)) ?_
  intro W base args ds gs before hval hW _ _
  refine law_contract (con := conLaw3) (tys := [.slice tI, .slice tI, .slice tPlace]) (T := 4) false more_ok pre2 (fun _ => rfl) (.cons tyI (.cons tyI (.cons tyP .nil))) readable2 laidOut rfl (by kernel_rfl) rfl enc ?_ W base args ds gs before hval hW
  intro ds h
  match ds, h with
  | [d1, d2, d3], _ => exact ⟨rfl, rfl, rfl⟩

theorem more_holds : Rows.PrizesMoreSaid :=
  OpenClaim.holds_of_wide 7 Try.f7 rfl rfl rfl rfl rfl rfl rfl ⟨rfl, rfl, rfl, rfl, rfl⟩ rfl rfl rfl rfl rfl (by kernel_rfl) Try.func7 (by kernel_rfl)
    (of_decide_eq_true (by kernel_rfl)) (by unfold Func.isWrapper; first | (rw [if_pos (by decide +kernel)]; kernel_rfl) | (rw [if_neg (by decide +kernel)]; exact ⟨rfl, rfl⟩))
    (fun os started H enc _ => more_lifted os started H enc)
#print axioms more_holds
end Go.Proofs.Ythdojmkfpiocmaa
