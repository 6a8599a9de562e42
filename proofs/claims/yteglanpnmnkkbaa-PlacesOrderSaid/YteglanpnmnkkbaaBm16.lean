/- From the contract of a law's function to the law's statement: arguments are opened, the answer is true, the arguments read as before. -/
import Derived.Test.YteglanpnmnkkbaaBm15
import Derived.Carry
import Derived.WideKeyArgs
import Derived.ChangeSame
import Derived.OpenShut
namespace Go.Am
set_option linter.unusedVariables false
open Go.RowKit Go.ChangeShapes Go.WideShapes

/-- A datum, told as an argument of the abstract machine. -/
def argOf : Sigma Ty.T → AV
  | ⟨.int k, n⟩ => .s (.int k n)
  | ⟨.bool, b⟩ => .s (.bool b)
  | ⟨.str, s⟩ => .s (.str s)
  | ⟨.slice t, xs⟩ => .s (.sl t xs false)
  | ⟨.nil, _⟩ => .agg []
  | ⟨.cons t r, x⟩ => .agg ((Ty.cons t r).flat x)
  | ⟨.fn, x⟩ => .s (.fv x)

/-- What is known of an argument: integers lie in their kind's range. -/
def argIn (x : Sigma Ty.T) : Prop := x.1.inR x.2
theorem okWide_intIn {P : Program} {w : World} {r : Reach} {base : Nat} {t : TypeId} {v : Value} {k : IntKind} (ht : P.underlying t = some (.int k)) (h : Value.okWide P w r base t v) : ∃ n, v = .int k n ∧ k.has n := by
  simp only [Value.okWide, ht, Cell.okWide] at h
  cases v <;> simp_all [Cell.ok]

section
variable {H : Type} {enc : TypeId × Value → H} {P : Program} {W : World} {base : Nat} {spare : Nat → Bool} {held : Bool}

theorem trod_arg {ty : Ty} {T : TypeId} {r : Reach} {b0 : Nat} {v : Value} {d : DataW H} {ps : List MemPlace} (ht : TyOf P ty T) (hok : Value.okWide P W r b0 T v) (h : DataW.Trod enc P W base spare held T v d ps) :
    ∃ x : ty.T, relAV W (fun _ => False) [] [] (argOf ⟨ty, x⟩) v ∧ argIn ⟨ty, x⟩ := by
  obtain ⟨fuel, hf⟩ := h
  obtain ⟨x, hx, hxr⟩ := trod_rep ty T fuel _ _ ht hf
  refine ⟨x, ?_⟩
  cases ty with
  | int k =>
    simp only [TyOf] at ht
    obtain ⟨n, rfl, hin⟩ := okWide_intIn ht hok
    simp [rep, Value.cells] at hx
    subst hx
    exact ⟨rfl, hxr⟩
  | bool =>
    simp only [TyOf] at ht
    obtain ⟨n, rfl⟩ := okWide_bool ht hok
    simp [rep, Value.cells] at hx
    exact ⟨by simp [argOf, relAV, relSV, hx], hxr⟩
  | str =>
    simp only [TyOf] at ht
    obtain ⟨n, rfl⟩ := okWide_string ht hok
    simp [rep, Value.cells] at hx
    exact ⟨by simp [argOf, relAV, relSV, hx], hxr⟩
  | slice t =>
    simp only [TyOf] at ht
    obtain ⟨e, h1, _⟩ := ht
    obtain ⟨a, len, cap, rfl⟩ := okWide_slice h1 hok
    simp only [rep, Value.cells] at hx
    obtain ⟨a', c, hc, h2, h3, h4⟩ := hx
    have hc' : Value.slice a len cap = Value.slice a' x.length c := by simpa using hc
    simp only [argOf, relAV, relSV]
    exact ⟨⟨a', c, hc', h2, h3, (fun h => by cases h), h4⟩, hxr⟩
  | nil => simp only [TyOf] at ht
  | fn => simp only [TyOf] at ht
  | cons t r' =>
    have ht' := ht
    simp only [TyOf] at ht
    obtain ⟨fs, f, l, h1, _⟩ := ht
    obtain ⟨cs, rfl, _⟩ := okWide_struct h1 hok
    have hx' := rep_flat (bs := []) (hp := []) _ _ _ hx
    simp only [argOf, relAV]
    refine ⟨⟨cs.toList, by simp, ?_⟩, hxr⟩
    simpa [Value.cells] using hx'

theorem trodAll_args : ∀ {tys : List Ty} {Ts : List TypeId} {r : Reach} {b0 : Nat} {vs : List Value} {ds : List (DataW H)} {ps : List MemPlace}, All2 (TyOf P) tys Ts →
    (∀ (j : Nat) t v, Ts[j]? = some t → vs[j]? = some v → Value.okWide P W r b0 t v) → DataW.TrodAll enc P W base spare held Ts vs ds ps →
    ∃ xs : List (Sigma Ty.T), xs.map (·.1) = tys ∧ All2 (relAV W (fun _ => False) [] []) (xs.map argOf) vs ∧ ∀ x ∈ xs, argIn x := by
  intro tys Ts r b0 vs ds ps ht
  induction ht generalizing vs ds ps with
  | nil =>
    intro _ h
    obtain ⟨rfl, _, _⟩ := trodAll_nil h
    exact ⟨[], rfl, .nil, by simp⟩
  | cons h1 _ ih =>
    intro hok h
    obtain ⟨v, vs', d, ds', p, q, rfl, rfl, rfl, h2, h3⟩ := trodAll_cons h
    obtain ⟨x, hx, hi⟩ := trod_arg h1 (hok 0 _ _ rfl rfl) h2
    obtain ⟨xs, e, hxs, his⟩ := ih (fun j t u h h' => hok (j + 1) t u (by simpa using h) (by simpa using h')) h3
    exact ⟨⟨_, x⟩ :: xs, by simp [e], .cons hx hxs, by simp only [List.forall_mem_cons]; exact ⟨hi, his⟩⟩

theorem trodAll_stays (hl : laidOutB P = true) : ∀ {Ts : List TypeId} {W' : World} {sp : Nat → Bool} {vs : List Value} {ds : List (DataW H)} {ps : List MemPlace}, (∀ T ∈ Ts, P.readableRec T = true ∧ T < P.types.size) →
    DataW.TrodAll enc P W 0 (fun _ => true) true Ts vs ds ps → (∀ p ∈ ps, W.sameAt W' p) → (∀ p ∈ ps, sp p.block = true) → DataW.TrodAll enc P W' 0 sp true Ts vs ds ps
  | [], W', sp, vs, ds, ps, _, h, _, _ => by
    obtain ⟨rfl, rfl, rfl⟩ := trodAll_nil h
    exact trodAll_mk0
  | T :: Ts, W', sp, vs, ds, ps, hr, h, h1, h2 => by
    obtain ⟨v, vs', d, ds', p, q, rfl, rfl, rfl, h3, h4⟩ := trodAll_cons h
    exact trodAll_cons_mk (WideElems.Trod_stays hl (hr T (by simp)).1 (hr T (by simp)).2 h3 (fun x hx => h1 x (by simp [hx])) (fun x hx => h2 x (by simp [hx])))
      (trodAll_stays hl (fun t ht => hr t (by simp [ht])) h4 (fun x hx => h1 x (by simp [hx])) (fun x hx => h2 x (by simp [hx])))
end

/-- What the kit's 'post_of_same' says, where of the cells that froze nothing is known but of those that were there. -/
theorem post_same {H : Type} {enc : TypeId × Value → H} {P : Program} {f : Func} {s : ChangeSpec} {apart fresh handsOn again : Bool} {W W' : World} {args : Array Value} {v : Value} {ds gs : List (DataW H)} {before pa pv : List MemPlace}
    (hW : DataW.Whole enc P f.params.toList s.vars apart W args.toList ds gs before)
    (hres : ∀ (b : Nat) (sp : Nat → Bool) (hd : Bool), DataW.TrodAll enc P W' b sp hd f.resultTypes.toList (v.resultList f.resultTypes.size) (s.fn H (ds ++ gs)).results [])
    (hargs : ∀ sp : Nat → Bool, (∀ p ∈ before, sp p.block = true) → DataW.TrodAll enc P W' 0 sp true f.params.toList args.toList (s.fn H (ds ++ gs)).args pa)
    (hvars : ∀ sp : Nat → Bool, (∀ p ∈ before, sp p.block = true) → DataW.TrodVars enc P W' sp s.vars (s.fn H (ds ++ gs)).vars pv)
    (hps : before = pa ++ pv) (hk : W.keptBut W' (· ∈ before)) (hfz : ∀ p : Addr, p.block < W.heap.size → W'.frozen? p = W.frozen? p)
    (hok : ∀ (j : Nat) (t : TypeId) (r : Value), f.resultTypes[j]? = some t → (v.resultList f.resultTypes.size)[j]? = some r → Value.okWide P W' .any 0 t r) :
    s.post enc P f apart fresh handsOn again W args v W' := by
  have hlt : ∀ p ∈ before, p.block < W.heap.size := fun p hp => hW.lt p hp
  have hold : ∀ p ∈ before, (fun b => decide (b < W.heap.size)) p.block = true := fun p hp => by simpa using hlt p hp
  refine ⟨ds, gs, before, [], pa, pv, hW, hres _ _ _, hargs _ hold, hvars _ hold, World.keptBut_mono (fun p hp => ⟨hp, ?_⟩) hk, fun _ => ?_⟩
  · rw [hps, List.mem_append] at hp
    exact Or.inr hp
  · obtain ⟨_, _, _, _, _, hz, hn⟩ := hW
    refine ⟨hok, _, _, ([] ++ pa) ++ pv, ⟨[] ++ pa, pv, trodAll_append (hargs _ (fun _ _ => rfl)) (hres _ _ _), hvars _ (fun _ _ => rfl), rfl, ?_, ?_⟩, ?_⟩
    · intro b off hp
      have hp' : MemPlace.cell b off ∈ before := by rw [hps]; simpa using hp
      rw [hfz _ (hlt _ hp')]
      exact hz b off hp'
    · intro ha
      have := hn ha
      rw [hps] at this
      simpa using this
    · intro p hp _
      rw [hps]
      simpa using hp

/-- A law's function that answers true and turns nothing keeps the law's statement. -/
theorem law_contract {P : Program} {f : FuncId} {fn : Func} {con : Con} {s : ChangeSpec} {tys : List Ty} {T : TypeId} (apart : Bool)
    (hp : PureOk P f con) (hpre : ∀ xs : List (Sigma Ty.T), xs.map (·.1) = tys → (∀ x ∈ xs, argIn x) → con.pre (xs.map argOf)) (hval : ∀ args, con.val args = .v (.s (.bool true)))
    (ht : All2 (TyOf P) tys fn.params.toList) (hr : ∀ T ∈ fn.params.toList, P.readableRec T = true ∧ T < P.types.size) (hl : laidOutB P = true)
    (hres : fn.resultTypes = #[T]) (hT : P.underlying T = some .bool) (hv : s.vars = [])
    {H : Type} (enc : TypeId × Value → H) (hs : ∀ ds : List (DataW H), ds.length = tys.length → (s.fn H ds).results = [.lit (.bool true)] ∧ (s.fn H ds).args = ds ∧ (s.fn H ds).vars = [])
    (W : World) (base : Nat) (args : Array Value) (ds gs : List (DataW H)) (before : List MemPlace)
    (hok : ∀ (j : Nat) t v, fn.params[j]? = some t → args[j]? = some v → Value.okWide P W .any base t v)
    (hW : DataW.Whole enc P fn.params.toList s.vars apart W args.toList ds gs before) :
    Calls P f args W fun e W' => ∃ v, e = .returned v ∧ s.post enc P fn apart true false false W args v W' := by
  have hW' := hW
  obtain ⟨p, q, hA, hV, rfl, _, _⟩ := hW
  rw [hv] at hV
  obtain ⟨rfl, rfl⟩ := trodVars_none hV
  simp only [List.append_nil] at hW'
  obtain ⟨xs, e, hxs, his⟩ := trodAll_args ht (fun j t v h h' => hok j t v (by simpa [Array.getElem?_toList] using h) (by simpa [Array.getElem?_toList] using h')) hA
  have hlen : ds.length = tys.length := by
    have h1 := ht.length
    have h2 : ∀ {Ts : List TypeId} {vs : List Value} {ds : List (DataW H)} {ps : List MemPlace}, DataW.TrodAll enc P W 0 (fun _ => true) true Ts vs ds ps → ds.length = Ts.length := by
      intro Ts
      induction Ts with
      | nil => intro vs ds ps h; obtain ⟨_, rfl, _⟩ := trodAll_nil h; rfl
      | cons t Ts ih => intro vs ds ps h; obtain ⟨v, vs', d, ds', p, q, rfl, rfl, rfl, h3, h4⟩ := trodAll_cons h; simp [ih h4]
    rw [h2 hA, h1]
  obtain ⟨h1, h2, h3⟩ := hs ds hlen
  have hc := hp W (fun _ => False) (xs.map argOf) args.toList (hpre xs e his) (fun _ h => h.elim) hxs
  rw [Array.toArray_toList] at hc
  refine hc.mono fun o W' ⟨v, he, hv', hb, _⟩ => ?_
  rw [hval] at hv'
  simp only [relRV, relAV, relSV] at hv'
  subst hv'
  subst he
  have hlt : ∀ x ∈ p, x.block < W.heap.size := fun x hx => by simpa using hW'.lt x hx
  refine ⟨_, rfl, post_same (pa := p) (pv := []) hW' (fun b sp hd => ?_) (fun sp hsp => ?_) (fun sp _ => ?_) (by simp) (hb.frame _) (fun q hq => hb.frozen hq) (ok_one hres rfl (okWide_bool_mk hT _))⟩
  · rw [List.append_nil, h1, hres]
    exact trodAll_cons_mk (shut_bool hT _) trodAll_mk0
  · rw [List.append_nil, h2]
    exact trodAll_stays hl hr hA (fun x hx => hb.same (hlt x hx)) hsp
  · rw [List.append_nil, h3, hv]
    rfl
end Go.Am
