/- 'PrizesAll' answers true at every input and leaves its arguments as they were. No condition. -/
import Derived.Test.YthdojmkfpiocmaaPz12
import Derived.Test.YthdojmkfpiocmaaAm16
import Derived.JoinedOf
import Derived.Handed
namespace Go.Proofs.Ythdojmkfpiocmaa
open Go.Am Go.ChangeShapes Go.WideShapes Go.RowKit

theorem own : ownKnob Try.prog.godebug = none := by kernel_rfl
theorem laidOut : laidOutB Try.prog = true := by kernel_rfl
theorem tyI : TyOf Try.prog (.slice tI) 22 := tyOf_of_B _ _ (by kernel_rfl)
theorem tyP : TyOf Try.prog (.slice tPlace) 23 := tyOf_of_B _ _ (by kernel_rfl)
theorem readable2 : ∀ T ∈ ([22, 23] : List TypeId), Try.prog.readableRec T = true ∧ T < Try.prog.types.size := by
  simp only [List.forall_mem_cons]
  exact ⟨⟨by kernel_rfl, of_decide_eq_true (by kernel_rfl)⟩, ⟨by kernel_rfl, of_decide_eq_true (by kernel_rfl)⟩, by simp⟩
theorem pre2 : ∀ xs : List (Sigma Ty.T), xs.map (·.1) = [.slice tI, .slice tPlace] → conLaw.pre (xs.map argOf) := by
  intro xs h
  match xs, h with
  | [⟨_, l⟩, ⟨_, p⟩], h =>
    simp only [List.map_cons, List.map_nil, List.cons.injEq, and_true] at h
    obtain ⟨rfl, rfl⟩ := h
    exact ⟨l, false, p, false, rfl⟩

set_option maxRecDepth 100000 in
theorem all_lifted (os : Os) (started : os.Started) (H : Type) (enc : TypeId × Value → H) :
    ReturnsInHanded {} Try.checked os 4 .any (Rows.prizesAllSpec.pre6 enc Try.prog Try.f4 Rows.prizesAllRow.domain false) (Rows.prizesAllSpec.post enc Try.prog Try.f4 false true false false) := by
  refine returnsInHanded_of_change (C := Try.checked) own started (by kernel_rfl) Try.func4
    (ChangeSpec.witness6 (enc := enc) (C := Try.checked) false ⟨#[], #[.slice none 0 0, .slice none 0 0], []⟩ 8 (by kernel_rfl) (by kernel_rfl) (by kernel_rfl) (by kernel_rfl)) ?_
  intro W base args ds gs before hval hW _ _
  refine law_contract (con := conLaw) (tys := [.slice tI, .slice tPlace]) (T := 4) false all_ok pre2 (fun _ => rfl) (.cons tyI (.cons tyP .nil)) readable2 laidOut rfl (by kernel_rfl) rfl enc ?_ W base args ds gs before hval hW
  intro ds h
  match ds, h with
  | [d1, d2], _ => exact ⟨rfl, rfl, rfl⟩

theorem all_holds : Rows.PrizesAllSaid :=
  OpenClaim.holds_of_wide 4 Try.f4 rfl rfl rfl rfl rfl rfl rfl ⟨rfl, rfl, rfl, rfl, rfl⟩ rfl rfl rfl rfl rfl (by kernel_rfl) Try.func4 (by kernel_rfl)
    (of_decide_eq_true (by kernel_rfl)) (by unfold Func.isWrapper; first | (rw [if_pos (by decide +kernel)]; kernel_rfl) | (rw [if_neg (by decide +kernel)]; exact ⟨rfl, rfl⟩))
    (fun os started H enc _ => all_lifted os started H enc)
#print axioms all_holds
end Go.Proofs.Ythdojmkfpiocmaa
