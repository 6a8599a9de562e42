/- Functions that are handed on, and what is known of them. -/
import Derived.Test.YteglanpnmnkkbaaBs3
namespace Go.Am
set_option linter.unusedVariables false
set_option linter.unusedSimpArgs false
open Go.RowKit

abbrev tI : Ty := .int .i64
theorem ok_of_all {P : Program} {g : G} (h : ∀ p ∈ g.τ, p.2.ok P p.1) : G.ok P g := by
  intro t d hl
  have : ∀ l : List (TypeId × TD), look l t = some d → (t, d) ∈ l := by
    intro l
    induction l with
    | nil => intro h; simp [look] at h
    | cons p l ih =>
      intro h
      obtain ⟨k, x⟩ := p
      simp only [look] at h
      split at h
      · rename_i e; subst e; injection h with h; subst h; exact .head _
      · exact .tail _ (ih h)
  exact h _ (this _ hl)
def fieldsOf (P : Program) (t : TypeId) : Array Field := match P.underlying t with
  | some (.struct fs) => fs
  | _ => #[]

theorem below_of_pure {x : SV} (n : Nat) (h : x.pure = true) : x.below n = true := by
  cases x <;> simp_all [SV.pure, SV.below]
theorem flats_below (t : Ty) (xs : List t.T) (n : Nat) : (t.flats xs).all (fun x => x.below n) = true := by
  have h := flats_pure t xs
  rw [List.all_eq_true] at h ⊢
  exact fun x hx => below_of_pure n (h x hx)

theorem arr_below (al : Bool) (t : Ty) (xs : List t.T) (n : Nat) : (Blk.arr al (t.flats xs)).below n = true := flats_below t xs n
/-- Functions of which a contract is proved. -/
def Known (P : Program) (Γ : List (FuncId × Con)) : Prop := ∀ f c, look Γ f = some c → (∀ (args : Array Value) (w : World), (callFunc f args).run P w = .ok (.enter f args) w) ∧ PureOk P f c
theorem Known.nil {P : Program} : Known P [] := fun f c h => by simp [look] at h
theorem Known.cons {P : Program} {Γ : List (FuncId × Con)} {f : FuncId} {c : Con} (h1 : ∀ (args : Array Value) (w : World), (callFunc f args).run P w = .ok (.enter f args) w) (h2 : PureOk P f c) (h : Known P Γ) : Known P ((f, c) :: Γ) := by
  intro f' c' hl
  simp only [look] at hl
  split at hl
  · rename_i e; subst e; injection hl with hl; subst hl; exact ⟨h1, h2⟩
  · exact h f' c' hl
/-- What a function that is handed on makes of arguments. -/
noncomputable def apV (Γ : List (FuncId × Con)) (f : FuncId) (caps : List (Sigma Ty.T)) (args : List AV) : RV := match look Γ f with
  | some c => c.val (args ++ caps.map capAV)
  | none => .v (.s .any)
/-- It makes data of data. -/
def fnTo (Γ : List (FuncId × Con)) (t u : Ty) (f : FuncId) (caps : List (Sigma Ty.T)) (h : t.T → u.T) (D : t.T → Prop) : Prop :=
  ∃ c, look Γ f = some c ∧ (∀ x, c.val (t.av x :: caps.map capAV) = .v (u.av (h x))) ∧ ∀ x, D x → c.pre (t.av x :: caps.map capAV)
noncomputable def mapV (Γ : List (FuncId × Con)) (t u : Ty) (f : FuncId) (caps : List (Sigma Ty.T)) (xs : List t.T) : List u.T := xs.map fun x => (u.of (apV Γ f caps [t.av x]).av).getD u.dflt
theorem of_av : ∀ (t : Ty), t ≠ .nil → ∀ x : t.T, t.of (t.av x) = some x
  | .int k, _, x => by simp [Ty.av, Ty.of, Ty.nfld, Ty.parse]
  | .bool, _, x => by simp [Ty.av, Ty.of, Ty.nfld, Ty.parse]
  | .str, _, x => by simp [Ty.av, Ty.of, Ty.nfld, Ty.parse]
  | .slice t, _, x => by simp [Ty.av, Ty.of, Ty.nfld, Ty.parse]
  | .nil, h, _ => absurd rfl h
  | .fn, _, x => by simp [Ty.av, Ty.of, Ty.nfld, Ty.parse]
  | .cons t r, _, x => by
    have := parses_flat (.cons t r) x []
    simp only [List.append_nil] at this
    simp [Ty.av, Ty.of, Ty.nfld, this]
theorem mapV_eq {Γ : List (FuncId × Con)} {t u : Ty} {f : FuncId} {caps : List (Sigma Ty.T)} {h : t.T → u.T} {D : t.T → Prop} (hu : u ≠ .nil) (hf : fnTo Γ t u f caps h D) (xs : List t.T) : mapV Γ t u f caps xs = xs.map h := by
  obtain ⟨c, h1, h2, _⟩ := hf
  unfold mapV
  refine List.map_congr_left fun x _ => ?_
  simp only [apV, h1, List.singleton_append, h2, RV.av, of_av u hu, Option.getD_some]
noncomputable def apB (Γ : List (FuncId × Con)) (t : Ty) (f : FuncId) (caps : List (Sigma Ty.T)) (x : t.T) : Bool := (Ty.of .bool (apV Γ f caps [t.av x]).av).getD false
theorem apB_eq {Γ : List (FuncId × Con)} {t : Ty} {f : FuncId} {caps : List (Sigma Ty.T)} {h : t.T → Bool} {D : t.T → Prop} (hf : fnTo Γ t .bool f caps h D) (x : t.T) : apB Γ t f caps x = h x := by
  obtain ⟨c, h1, h2, _⟩ := hf
  unfold apB
  simp only [apV, h1, List.singleton_append, h2, RV.av, of_av .bool (by decide), Option.getD_some]
/-- The first place of an element of a kind. -/
def idxOf {α : Type} (p : α → Bool) (xs : List α) : Int := match xs.findIdx? p with
  | some i => i
  | none => -1
theorem idxOf_at {α : Type} {p : α → Bool} {xs : List α} {i : Nat} (hi : i < xs.length) (d : α) (h : p (xs[i]?.getD d) = true) (hno : ∀ j, j < i → p (xs[j]?.getD d) = false) : idxOf p xs = i := by
  have : xs.findIdx? p = some i := by
    rw [List.findIdx?_eq_some_iff_getElem]
    refine ⟨hi, by rw [getD_lt hi] at h; exact h, fun j hj => ?_⟩
    have := hno j hj
    rw [getD_lt (by omega)] at this
    simp [this]
  simp [idxOf, this]
theorem idxOf_none {α : Type} {p : α → Bool} {xs : List α} (d : α) (hno : ∀ j, j < xs.length → p (xs[j]?.getD d) = false) : idxOf p xs = -1 := by
  have : xs.findIdx? p = none := by
    rw [List.findIdx?_eq_none_iff]
    intro x hx
    obtain ⟨j, hj, rfl⟩ := List.mem_iff_getElem.1 hx
    have := hno j hj
    rwa [getD_lt hj] at this
  simp [idxOf, this]
theorem idxOf_any {α : Type} (p : α → Bool) (xs : List α) : decide (0 ≤ idxOf p xs) = xs.any p := by
  unfold idxOf
  rw [Bool.eq_iff_iff, decide_eq_true_eq, List.any_eq_true]
  cases h : xs.findIdx? p with
  | none =>
    rw [List.findIdx?_eq_none_iff] at h
    constructor
    · intro h0; exact absurd h0 (by decide)
    · rintro ⟨x, hx, hp⟩; rw [h x hx] at hp; cases hp
  | some i =>
    rw [List.findIdx?_eq_some_iff_getElem] at h
    obtain ⟨hi, hp, _⟩ := h
    constructor
    · intro _; exact ⟨_, List.getElem_mem hi, hp⟩
    · intro _; exact Int.natCast_nonneg i
theorem fnTo.mono {Γ : List (FuncId × Con)} {t u : Ty} {f : FuncId} {caps : List (Sigma Ty.T)} {h : t.T → u.T} {D D' : t.T → Prop} (hf : fnTo Γ t u f caps h D) (hd : ∀ x, D' x → D x) : fnTo Γ t u f caps h D' := by
  obtain ⟨c, h1, h2, h3⟩ := hf
  exact ⟨c, h1, h2, fun x hx => h3 x (hd x hx)⟩
theorem caps_all (caps : List (Sigma Ty.T)) : (caps.map capAV).all AV.pure = true := by
  rw [List.all_map, List.all_eq_true]; intro x _; rfl
theorem caps_all' (caps : List (Sigma Ty.T)) : caps.all (AV.pure ∘ capAV) = true := by
  rw [List.all_eq_true]; intro x _; rfl
theorem PureOk.of {P : Program} {f : FuncId} {con : Con} (h : ∀ args, con.pre args → ∃ con', PureOk P f con' ∧ con'.pre args ∧ con'.val args = con.val args) : PureOk P f con := by
  intro w M0 args vs hpre hM hargs
  obtain ⟨con', h1, h2, h3⟩ := h args hpre
  have := h1 w M0 args vs h2 hM hargs
  rwa [h3] at this
theorem EffOk.of {P : Program} {f : FuncId} {con : ECon} (h : ∀ args hp K, con.wp args hp K → ∃ con', EffOk P f con' ∧ con'.wp args hp K) : EffOk P f con := by
  intro w M0 bs hp args vs K hpre hr hpure hargs
  obtain ⟨con', h1, h2⟩ := h args hp K hpre
  exact h1 w M0 bs hp args vs K h2 hr hpure hargs
/-- One function is known. -/
def g1 (τ : List (TypeId × TD)) (f : FuncId) (c : Con) : G := { τ := τ, Γ := [(f, c)] }
theorem g1_good {P : Program} {τ : List (TypeId × TD)} {f : FuncId} {c : Con} (hτ : ∀ g : G, g.τ = τ → G.ok P g) (h1 : ∀ (args : Array Value) (w : World), (callFunc f args).run P w = .ok (.enter f args) w) (h2 : PureOk P f c) : (g1 τ f c).good P :=
  good_of_all (hτ _ rfl) (fun p hp => by simp only [g1, List.mem_singleton] at hp; subst hp; exact ⟨h1, h2⟩) (fun p hp => by cases hp)
theorem g1_td {τ : List (TypeId × TD)} {f : FuncId} {c : Con} (t : TypeId) : (g1 τ f c).td t = (look τ t).getD .other := rfl
theorem g1_y {τ : List (TypeId × TD)} {f : FuncId} {c : Con} : (g1 τ f c).y = false := rfl
theorem g1_Γ {τ : List (TypeId × TD)} {f : FuncId} {c : Con} : (g1 τ f c).Γ = [(f, c)] := rfl
theorem g1_E {τ : List (TypeId × TD)} {f : FuncId} {c : Con} : (g1 τ f c).E = [] := rfl
theorem g1_fz {τ : List (TypeId × TD)} {f : FuncId} {c : Con} : (g1 τ f c).fz = [] := rfl

/-- What an iterator hands over. -/
def seqOf (It : List (FuncId × ItCon)) (f : FuncId) (caps : List (Sigma Ty.T)) (t : Ty) (xs : List t.T) : Prop := ∃ ic, look It f = some ic ∧ ic.pre (caps.map capAV) ∧ ic.xs (caps.map capAV) = xs.map fun x => [t.av x]
def KnownIt (P : Program) (It : List (FuncId × ItCon)) : Prop := ∀ f ic, look It f = some ic → ItOk P f ic
theorem KnownIt.nil {P : Program} : KnownIt P [] := fun f c h => by simp [look] at h
theorem KnownIt.cons {P : Program} {It : List (FuncId × ItCon)} {f : FuncId} {c : ItCon} (h2 : ItOk P f c) (h : KnownIt P It) : KnownIt P ((f, c) :: It) := by
  intro f' c' hl
  simp only [look] at hl
  split at hl
  · rename_i e; subst e; injection hl with hl; subst hl; exact h2
  · exact h f' c' hl
theorem take_map_av {t : Ty} (xs : List t.T) (i : Nat) {args : List AV} (h : (xs.map fun x => [t.av x])[i]? = some args) : ∃ hl : i < xs.length, args = [t.av xs[i]] := by
  rw [List.getElem?_map] at h
  cases hx : xs[i]? with
  | none => rw [hx] at h; cases h
  | some x => rw [hx] at h; cases h; obtain ⟨h1, h2⟩ := List.getElem?_eq_some_iff.1 hx; exact ⟨h1, by rw [h2]⟩
theorem map_take_succ {α β : Type} (h : α → β) (xs : List α) {i : Nat} (hi : i < xs.length) (d : α) : (xs.map h).take (i + 1) = (xs.map h).take i ++ [h (xs[i]?.getD d)] := by
  rw [List.take_add_one, List.getElem?_map, List.getElem?_eq_getElem hi]; rfl
theorem map_take_all {α β : Type} (h : α → β) (xs : List α) {i : Nat} (hi : xs.length ≤ i) : (xs.map h).take i = xs.map h := List.take_of_length_le (by simpa using hi)
theorem take_succ_get {α : Type} (xs : List α) {i : Nat} (hi : i < xs.length) (d : α) : xs.take (i + 1) = xs.take i ++ [xs[i]?.getD d] := by
  rw [List.take_add_one, List.getElem?_eq_getElem hi]; rfl
theorem wrap_u8 {w : Int} (h : 0 ≤ w ∧ w ≤ 255) : IntKind.wrap .i64 w = w := IntWalk.i64_in _ (by omega)
end Go.Am
