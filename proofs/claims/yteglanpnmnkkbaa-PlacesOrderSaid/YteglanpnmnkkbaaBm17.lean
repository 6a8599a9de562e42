/- Contracts with effects, from verification conditions. -/
import Derived.Test.YteglanpnmnkkbaaBm14
namespace Go.Am
set_option linter.unusedVariables false
open Go.RowKit

/-- What a function hands back, and the blocks that go with it: those of its arguments, and new ones. -/
def retEff (g : G) (fn : Func) (k : Nat) (s : St) (K : RV → List Blk → Prop) : Prop :=
  resOk g s.e s.hp fn.results.toList ∧
  ((dedup (List.range k) ((resVs g s.e s.hp fn.results.toList).flatMap AV.ids)).all fun id => (Blk.look s.hp id).pureB) = true ∧
  K (oneRV ((resVs g s.e s.hp fn.results.toList).map (AV.ren (idx (dedup (List.range k) ((resVs g s.e s.hp fn.results.toList).flatMap AV.ids))))))
    ((dedup (List.range k) ((resVs g s.e s.hp fn.results.toList).flatMap AV.ids)).map (Blk.look s.hp))

theorem dedup_prefix : ∀ (l acc : List Nat), ∃ r, dedup acc l = acc ++ r
  | [], acc => ⟨[], by simp [dedup]⟩
  | y :: l, acc => by
    simp only [dedup]
    split
    · exact dedup_prefix l acc
    · obtain ⟨r, hr⟩ := dedup_prefix l (acc ++ [y])
      exact ⟨y :: r, by rw [hr]; simp⟩

section
variable {P : Program} {g : G} {X : XT} {N : Nat} {L : Cfg} {w : World} {M0 : Nat → Prop} {bs : Bs} {hp : List Blk}

theorem relAV_more {M M' : Nat → Prop} (h : ∀ b, M' b → M b) {x : AV} {v : Value} (hx : relAV w M bs hp x v) : relAV w M' bs hp x v :=
  relAV_step (v₀ := false) ⟨Evo.more w fun b _ => h b, Nat.le_refl _, fun id cs _ h => ⟨⟨cs, h⟩, rfl⟩, fun id b k u es h1 h2 => ⟨h1, es, h2⟩, fun id al cs _ h => ⟨al, cs, h, .inr ⟨rfl, rfl, fun _ => rfl, fun b hb cap size ho => ho⟩⟩, fun _ => Only.refl _ _ _⟩ x v hx

/-- A contract with effects from the verification condition of the function's body. -/
theorem effOk_of (hg : g.good P) (hy : g.y = false) (hm : P.follows .mixedOrders = true) {f : FuncId} {fn : Func} {c : Code} (hf : P.funcs[f]? = some fn) (hb : fn.body = some c) (ec : ECon) (k : Nat) (hk : k ≤ fn.ntmps)
    (hok : codeOk' L g.ye fn.ntmps c = true)
    (h : ∀ args hp K, ec.wp args hp K → allLen args → args.length = k ∧ vc P g X0 fn.ntmps L c ⟨argEnv 0 args, hp⟩ (fun e s => (e = .normal ∨ e = .ret) ∧ retEff g fn hp.length s K)) : EffOk P f ec := by
  intro w M0 bs hp args vs K hpre hr00 hpure hargs
  obtain ⟨hlen, hvc⟩ := h args hp K hpre (allLen_rel hargs)
  have hwp := vc_sound (X := X0) (L := L) hg X0_ok hm c hok _ _ hvc
  refine (callsIn_wide (n := 0)).1 ?_
  have hF : (FW none) = Fence.wide := rfl
  rw [← hF]
  have hN : (vs.toArray ++ Array.replicate (fn.ntmps - vs.toArray.size) undef).size = fn.ntmps := by
    have := hargs.length
    simp; omega
  have hnotr : ∀ (l : List Blk), l.all Blk.pureB = true → ∀ id a b c d, Blk.look l id ≠ .trace a b c d := by
    intro l hl id a b c d ht
    rw [List.all_eq_true] at hl
    have hlt : id < l.length := look_lt (by rw [ht]; simp)
    have := hl l[id] (List.getElem_mem hlt)
    simp only [Blk.look, List.getElem?_eq_getElem hlt, Option.getD_some] at ht
    rw [ht] at this
    simp [Blk.pureB] at this
  refine callsIn_of_wp_marks (n := 0) hf hb trivial (wpIn_mono (hwp 0 none (some w.heap.size) M0 bs { tmps := vs.toArray ++ Array.replicate (fn.ntmps - vs.toArray.size) undef, defers := [] } w ⟨fun _ => rfl, by simp [hy]⟩ ⟨hr00, ?_, ?_, hN, ⟨Nat.le_refl _, [], rfl, .nil, by simp⟩⟩) ?_)
  · intro l xs i st ht; exact absurd ht (hnotr hp hpure 0 l xs i st)
  · refine argEnv_rel 0 _ hargs (fun j v hj => ?_)
    have hj2 := (List.getElem?_eq_some_iff.1 hj).1
    simp only [Array.getD_eq_getD_getElem?, Nat.zero_add]
    rw [Array.getElem?_append_left (by simpa using hj2)]
    simp [hj]
  · rintro e a' w' ⟨s', M0', bs', ⟨hke, hk1, hk2, hk3⟩, hr', hn⟩
    obtain rfl : M0' = M0 := hn.eq hy
    obtain ⟨_, Ds, hdf, hnd, hD⟩ := hr'.df
    have hst : Step false w (Mof M0' bs) bs hp w' (Mof M0' bs') bs' s'.hp := by have := hn.st; rwa [hy] at this
    have hold := hst.only rfl
    have : LeavesInM (FW none) 0 P fn a'.tmps (fun o w' => ∃ v rv hp' bs', o = .returned v ∧ K rv hp' ∧ relRV w' (Mof M0' bs') bs' hp' rv v ∧ hp'.all Blk.pureB = true ∧ HR w' M0' bs' hp' ∧ Step false w (Mof M0' bs) bs hp w' (Mof M0' bs') bs' hp') a'.defers .returning w' := by
      rw [hdf]
      refine shut_marks Ds w' _ hnd (fun D h => (hD D h).2.2.2) fun w'' h1 h2 h3 h4 hdr h5 => ?_
      have hsame : Same w' w'' bs' := by
        refine ⟨fun p u hp => ?_, h1, fun id b hb => h5 b fun hm => (hD b hm).2.2.1 (.inr ⟨id, hb⟩)⟩
        have hne : p.block ∉ Ds := fun hm => by
          have := (hD _ hm).2.2.2
          simp [World.cell?, this] at hp
        rw [← hp]
        exact World.cell?_of_block (h5 _ hne)
      have hr2 := hr'.hr.same hsame
      obtain ⟨us, q1, q2⟩ := results_run hg.1 hr2 (relEnv_same hsame hr'.env) fn hk1 _ rfl
      generalize hrs : resVs g s'.e s'.hp fn.results.toList = rs at *
      obtain ⟨r, hpre⟩ := dedup_prefix (rs.flatMap AV.ids) (List.range hp.length)
      obtain ⟨hsn, hsm⟩ := dedup_spec (rs.flatMap AV.ids) (List.range hp.length) List.nodup_range
      generalize hsel : dedup (List.range hp.length) (rs.flatMap AV.ids) = sel at *
      have hfst : ∀ id, id < hp.length → sel[id]? = some id := fun id hid => by
        rw [hpre, List.getElem?_append_left (by simpa using hid)]
        simp [hid]
      have hpu : ∀ id ∈ sel, (Blk.look s'.hp id).pureB = true := by simpa only [List.all_eq_true] using hk2
      have hsub : ∀ b, Mof M0' (sel.map bs'.at) b → Mof M0' bs' b := by
        rintro b (hb | ⟨j, hb⟩)
        · exact .inl hb
        · rw [at_map] at hb
          cases hs : sel[j]? with
          | none => rw [hs] at hb; cases hb
          | some id => rw [hs] at hb; exact .inr ⟨id, hb⟩
      have hr3 := hr2.select (M0' := M0') sel hsn hpu hr2.m0 (fun id _ b hb => hr2.out id b hb) (fun b _ => hsub b)
      have hpsel : (sel.map (Blk.look s'.hp)).all Blk.pureB = true := by rw [List.all_map, List.all_eq_true]; exact hpu
      refine ⟨_, q1, _, _, sel.map (Blk.look s'.hp), sel.map bs'.at, rfl, hk3, ?_, hpsel, hr3, ?_⟩
      · refine oneRV_rel ?_
        refine all2_ren (by simpa using hr2.len) (fun id hid _ => ?_) (q2.imp fun x v hx => relAV_more hsub hx)
        have hs := idx_spec sel id ((hsm id).2 (.inr hid))
        exact ⟨by rw [look_map, hs], by rw [at_map, hs]; rfl, by simpa using (List.getElem?_eq_some_iff.1 hs).1⟩
      · have e1 := hst.evo
        have hlk : ∀ id, id < hp.length → Blk.look (sel.map (Blk.look s'.hp)) id = Blk.look s'.hp id ∧ Bs.at (sel.map bs'.at) id = bs'.at id := fun id hid => by
          rw [look_map, at_map, hfst id hid]; exact ⟨rfl, rfl⟩
        have hDn : ∀ b, b < w.heap.size → b ∉ Ds := fun b hb hm => by have := (hD b hm).1; omega
        refine ⟨⟨h2.trans e1.os, h3.trans e1.tape, h4.trans e1.output, by rw [h1]; exact e1.size, by rw [hdr]; exact e1.drawn, fun b hb hn => (h5 b (hDn b hb)).trans (e1.block b hb hn), fun b hb hn hm => e1.free b hb hn (hsub b hm)⟩, ?_, ?_, ?_, ?_, fun _ => ⟨?_, ?_, ?_⟩⟩
        · rw [hpre]; simp
        · intro id cs hid hl
          rw [(hlk id hid).1] at hl
          rw [(hlk id hid).2]
          exact hst.box id cs hid hl
        · intro id b kt u es g1 g2
          have hid : id < hp.length := look_lt (by rw [g2]; simp)
          obtain ⟨g3, es', g4⟩ := hst.map id b kt u es g1 g2
          exact ⟨by rw [(hlk id hid).2]; exact g3, es', by rw [(hlk id hid).1]; exact g4⟩
        · intro id al cs hid hl
          rw [(hlk id hid).1] at hl
          obtain ⟨al0, cs0, g1, g2⟩ := hst.own id al cs hid hl
          refine ⟨al0, cs0, g1, ?_⟩
          rw [(hlk id hid).2]
          rcases g2 with g2 | ⟨g2, g3, g4, g5⟩
          · exact .inl g2
          · refine .inr ⟨g2, g3, g4, fun b hb cap size ho => ?_⟩
            obtain ⟨cur, e, j1, j2⟩ := g5 b hb cap size ho
            exact ⟨cur, e, by rw [hsame.own id b (by rw [g3]; exact hb)]; exact j1, j2⟩
        · intro b hb hn
          exact (h5 b (hDn b hb)).trans (hold.old b hb hn)
        · intro b hb hn id hid
          rw [at_map] at hid
          cases hs : sel[id]? with
          | none => rw [hs] at hid; cases hid
          | some j => rw [hs] at hid; exact hold.new b hb hn j hid
        · intro id l xs i st ht
          exact absurd ht (hnotr _ hpsel id l xs i st)
    rcases hke with rfl | rfl <;> exact this
end
section
variable {P : Program} {g : G} {X : XT} {N : Nat} {L : Cfg}
theorem effOkD (hg : g.good P) (hy : g.y = false) (hm : P.follows .mixedOrders = true) {f : FuncId} {fn : Func} {c : Code} (hf : P.funcs[f]? = some fn) (hb : fn.body = some c) (ec : ECon) (k : Nat) (hk : k ≤ fn.ntmps)
    (hok : codeOk' L g.ye fn.ntmps c = true)
    (h : ∀ args hp K, ec.wp args hp K → allLen args → args.length = k ∧ vcD P g X0 fn.ntmps L c ⟨argEnv 0 args, hp⟩ (fun e s => (e = .normal ∨ e = .ret) ∧ retEff g fn hp.length s K) ⟨⟩) : EffOk P f ec := effOk_of (L := L) hg hy hm hf hb ec k hk hok h
theorem flat_pure : ∀ (t : Ty) (x : t.T), (t.flat x).all SV.pure = true
  | .int _, _ => rfl
  | .bool, _ => rfl
  | .str, _ => rfl
  | .slice _, _ => rfl
  | .nil, _ => rfl
  | .cons t r, x => by simp only [Ty.flat, List.all_append, flat_pure t x.1, flat_pure r x.2, Bool.and_true]
  | .fn, _ => rfl
theorem flats_pure (t : Ty) (xs : List t.T) : (t.flats xs).all SV.pure = true := by
  induction xs with
  | nil => rfl
  | cons x xs ih => simp only [Ty.flats, List.all_append, flat_pure, ih, Bool.and_true]
theorem av_fn {x : D .fn} : Ty.av .fn x = .s (.fv x) := rfl
theorem round_E : g.round.E = g.E := rfl
theorem round_fz : g.round.fz = g.fz := rfl
theorem good_of_all {P : Program} {g : G} (h0 : g.ok P) (h : ∀ p ∈ g.Γ, (∀ (args : Array Value) (w : World), (callFunc p.1 args).run P w = .ok (.enter p.1 args) w) ∧ PureOk P p.1 p.2)
    (hE : ∀ p ∈ g.E, (∀ (args : Array Value) (w : World), (callFunc p.1 args).run P w = .ok (.enter p.1 args) w) ∧ EffOk P p.1 p.2) : g.good P := by
  have key : ∀ {α : Type} (l : List (Nat × α)) (f : Nat) (c : α), look l f = some c → (f, c) ∈ l := by
    intro α l
    induction l with
    | nil => intro f c h; simp [look] at h
    | cons p r ih =>
      intro f c hl
      obtain ⟨k, x⟩ := p
      simp only [look] at hl
      split at hl
      · rename_i e; subst e; injection hl with hl; subst hl; exact List.mem_cons_self ..
      · exact List.mem_cons_of_mem _ (ih f c hl)
  exact ⟨h0, fun f c hl => h _ (key _ f c hl), fun f c hl => hE _ (key _ f c hl)⟩
end
end Go.Am
