/- 'AdvanceMore' answers true at every input and leaves its arguments as they were. No condition. -/
import Derived.Test.YtdfafpmolbgklaaAd16
import Derived.Test.YtdfafpmolbgklaaAm16
import Derived.JoinedOf
import Derived.Handed
namespace Go.Proofs.Ytdfafpmolbgklaa
open Go.Am Go.ChangeShapes Go.WideShapes Go.RowKit

theorem own : ownKnob Try.prog.godebug = none := by kernel_rfl
theorem laidOut : laidOutB Try.prog = true := by kernel_rfl
theorem tyP : TyOf Try.prog (.slice tPlace) 22 := tyOf_of_B _ _ (by kernel_rfl)
theorem tyInt : TyOf Try.prog (.int .i64) 3 := tyOf_of_B _ _ (by kernel_rfl)
theorem tyU : TyOf Try.prog (.int .u8) 5 := tyOf_of_B _ _ (by kernel_rfl)
theorem tyS : TyOf Try.prog (.slice tI) 23 := tyOf_of_B _ _ (by kernel_rfl)
theorem readable2 : ∀ T ∈ ([22, 3, 5, 23, 5] : List TypeId), Try.prog.readableRec T = true ∧ T < Try.prog.types.size := by
  simp only [List.forall_mem_cons]
  exact ⟨⟨by kernel_rfl, of_decide_eq_true (by kernel_rfl)⟩, ⟨by kernel_rfl, of_decide_eq_true (by kernel_rfl)⟩, ⟨by kernel_rfl, of_decide_eq_true (by kernel_rfl)⟩, ⟨by kernel_rfl, of_decide_eq_true (by kernel_rfl)⟩, ⟨by kernel_rfl, of_decide_eq_true (by kernel_rfl)⟩, by simp⟩
theorem u8_in {n : Int} (h : argIn ⟨.int .u8, n⟩) : 0 ≤ n ∧ n ≤ 255 := by
  have h' : IntKind.u8.has n := h
  simp [IntKind.has, IntKind.min, IntKind.max, IntKind.signed, IntKind.bits] at h'
  exact h'
theorem pre2 : ∀ xs : List (Sigma Ty.T), xs.map (·.1) = [.slice tPlace, .int .i64, .int .u8, .slice tI, .int .u8] → (∀ x ∈ xs, argIn x) → conMore.pre (xs.map argOf) := by
  intro xs h hin
  match xs, h with
  | [⟨_, x0⟩, ⟨_, x1⟩, ⟨_, x2⟩, ⟨_, x3⟩, ⟨_, x4⟩], h =>
    simp only [List.map_cons, List.map_nil, List.cons.injEq, and_true] at h
    obtain ⟨rfl, rfl, rfl, rfl, rfl⟩ := h
    exact ⟨x0, x1, x2, x3, x4, u8_in (hin ⟨.int .u8, x2⟩ (by simp)), u8_in (hin ⟨.int .u8, x4⟩ (by simp)), rfl⟩

set_option maxRecDepth 100000 in
theorem more_lifted (os : Os) (started : os.Started) (H : Type) (enc : TypeId × Value → H) :
    ReturnsInHanded {} Try.checked os 7 .any (Rows.advanceMoreSpec.pre6 enc Try.prog Try.f7 Rows.advanceMoreRow.domain false) (Rows.advanceMoreSpec.post enc Try.prog Try.f7 false true false false) := by
  refine returnsInHanded_of_change (C := Try.checked) own started (by kernel_rfl) Try.func7
    (ChangeSpec.witness6 (enc := enc) (C := Try.checked) false ⟨#[], #[.slice none 0 0, .int .i64 0, .int .u8 0, .slice none 0 0, .int .u8 0], []⟩ 8 (by kernel_rfl) (by kernel_rfl) (by kernel_rfl) (by kernel_rfl)) ?_
  intro W base args ds gs before hval hW _ _
  refine law_contract (con := conMore) (tys := [.slice tPlace, .int .i64, .int .u8, .slice tI, .int .u8]) (T := 4) false more_ok pre2 (fun _ => rfl) (.cons tyP (.cons tyInt (.cons tyU (.cons tyS (.cons tyU (.nil)))))) readable2 laidOut rfl (by kernel_rfl) rfl enc ?_ W base args ds gs before hval hW
  intro ds h
  match ds, h with
  | [d0, d1, d2, d3, d4], _ => exact ⟨rfl, rfl, rfl⟩

theorem more_holds : Rows.AdvanceMoreSaid :=
  OpenClaim.holds_of_wide 7 Try.f7 rfl rfl rfl rfl rfl rfl rfl ⟨rfl, rfl, rfl, rfl, rfl⟩ rfl rfl rfl rfl rfl (by kernel_rfl) Try.func7 (by kernel_rfl)
    (of_decide_eq_true (by kernel_rfl)) (by unfold Func.isWrapper; first | (rw [if_pos (by decide +kernel)]; kernel_rfl) | (rw [if_neg (by decide +kernel)]; exact ⟨rfl, rfl⟩))
    (fun os started H enc _ => more_lifted os started H enc)
#print axioms more_holds
end Go.Proofs.Ytdfafpmolbgklaa
