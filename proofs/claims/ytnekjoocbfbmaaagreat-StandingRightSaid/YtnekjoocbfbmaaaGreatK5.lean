/- Part 5 of the proof's base. -/
import Derived.Test.YtnekjoocbfbmaaaGreatK4
set_option linter.all false
namespace Go.Am
open Go.RowKit
def retEff (g : G) (fn : Func) (k : Nat) (s : St) (K : RV → List Blk → Prop) : Prop :=
 resOk g s.e s.hp fn.results.toList ∧
 ((dedup (List.range k) ((resVs g s.e s.hp fn.results.toList).flatMap AV.ids)).all fun id => (Blk.look s.hp id).pureB) = true ∧
 K (oneRV ((resVs g s.e s.hp fn.results.toList).map (AV.ren (idx (dedup (List.range k) ((resVs g s.e s.hp fn.results.toList).flatMap AV.ids))))))
  ((dedup (List.range k) ((resVs g s.e s.hp fn.results.toList).flatMap AV.ids)).map (Blk.look s.hp))
theorem dedup_prefix : ∀ (l acc : List Nat), ∃ r, dedup acc l = acc ++ r
 | [], acc => ⟨[], by simp [dedup]⟩
 | y :: l, acc => by
  simp only [dedup]
  split
  ·
   exact dedup_prefix l acc
  ·
   obtain ⟨r, hr⟩ := dedup_prefix l (acc ++ [y])
   exact ⟨y :: r, by rw [hr]; simp⟩
section
variable {P : Program} {g : G} {X : XT} {N : Nat} {L : Cfg} {w : World} {M0 : Nat → Prop} {bs : Bs} {hp : List Blk}
theorem relAV_more {M M' : Nat → Prop} (h : ∀ b, M' b → M b) {x : AV} {v : Value} (hx : relAV w M bs hp x v) : relAV w M' bs hp x v :=
 relAV_step (v₀ := false) ⟨Evo.more w fun b _ => h b, Nat.le_refl _, fun id cs _ h => ⟨⟨cs, h⟩, rfl⟩, fun id b k u es h1 h2 => ⟨h1, es, h2⟩, fun id al cs _ h => ⟨al, cs, h, .inr ⟨rfl, rfl, fun _ => rfl, fun b hb cap size ho => ho⟩⟩, fun _ => Only.refl _ _ _⟩ x v hx
theorem effOk_of (hg : g.good P) (hy : g.y = false) (hm : P.follows .mixedOrders = true) {f : FuncId} {fn : Func} {c : Code} (hf : P.funcs[f]? = some fn) (hb : fn.body = some c) (ec : ECon) (k : Nat) (hk : k ≤ fn.ntmps)
  (hok : codeOk' L g.ye fn.ntmps c = true)
  (h : ∀ args hp K, ec.wp args hp K → allLen args → args.length = k ∧ vc P g X0 fn.ntmps L c ⟨argEnv 0 args, hp⟩ (fun e s => (e = .normal ∨ e = .ret) ∧ retEff g fn hp.length s K)) : EffOk P f ec := by
 intro w M0 bs hp args vs K hpre hr00 hpure hargs
 obtain ⟨hlen, hvc⟩ := h args hp K hpre (allLen_rel hargs)
 have hwp := vc_sound (X := X0) (L := L) hg X0_ok hm c hok _ _ hvc
 refine (callsIn_wide (n := 0)).1 ?_
 have hF : (FW none) = Fence.wide := rfl
 rw [← hF]
 have hN : (vs.toArray ++ Array.replicate (fn.ntmps - vs.toArray.size) undef).size = fn.ntmps := by
  have := hargs.length
  simp; omega
 have hnotr : ∀ (l : List Blk), l.all Blk.pureB = true → ∀ id a b c d, Blk.look l id ≠ .trace a b c d := by
  intro l hl id a b c d ht
  rw [List.all_eq_true] at hl
  have hlt : id < l.length := look_lt (by rw [ht]; simp)
  have := hl l[id] (List.getElem_mem hlt)
  simp only [Blk.look, List.getElem?_eq_getElem hlt, Option.getD_some] at ht
  rw [ht] at this
  simp [Blk.pureB] at this
 refine callsIn_of_wp_marks (n := 0) hf hb trivial (wpIn_mono (hwp 0 none (some (w.heap.size, [])) M0 bs { tmps := vs.toArray ++ Array.replicate (fn.ntmps - vs.toArray.size) undef, defers := [] } w ⟨fun _ => rfl, by simp [hy]⟩ ⟨hr00, ?_, ?_, hN, ⟨Nat.le_refl _, [], rfl, .nil, by simp⟩⟩) ?_)
 ·
  intro l xs i st ht; exact absurd ht (hnotr hp hpure 0 l xs i st)
 ·
  refine argEnv_rel 0 _ hargs (fun j v hj => ?_)
  have hj2 := (List.getElem?_eq_some_iff.1 hj).1
  simp only [Array.getD_eq_getD_getElem?, Nat.zero_add]
  rw [Array.getElem?_append_left (by simpa using hj2)]
  simp [hj]
 ·
  rintro e a' w' ⟨s', M0', bs', ⟨hke, hk1, hk2, hk3⟩, hr', hn⟩
  obtain rfl : M0' = M0 := hn.eq hy
  obtain ⟨_, Ds, hdf, hnd, hD⟩ := hr'.df
  have hst : Step false w (Mof M0' bs) bs hp w' (Mof M0' bs') bs' s'.hp := by have := hn.st; rwa [hy] at this
  have hold := hst.only rfl
  have : LeavesInM (FW none) 0 P fn a'.tmps (fun o w' => ∃ v rv hp' bs', o = .returned v ∧ K rv hp' ∧ relRV w' (Mof M0' bs') bs' hp' rv v ∧ hp'.all Blk.pureB = true ∧ HR w' M0' bs' hp' ∧ Step false w (Mof M0' bs) bs hp w' (Mof M0' bs') bs' hp') a'.defers .returning w' := by
   rw [hdf, List.append_nil]
   refine shut_marks Ds w' _ hnd (fun D h => (hD D h).2.2.2) fun w'' h1 h2 h3 h4 hdr h5 => ?_
   have hsame : Same w' w'' bs' := by
    refine ⟨fun p u hp => ?_, h1, fun id b hb => h5 b fun hm => (hD b hm).2.2.1 (.inr ⟨id, hb⟩)⟩
    have hne : p.block ∉ Ds := fun hm => by
     have := (hD _ hm).2.2.2
     simp [World.cell?, this] at hp
    rw [← hp]
    exact World.cell?_of_block (h5 _ hne)
   have hr2 := hr'.hr.same hsame
   obtain ⟨us, q1, q2⟩ := results_run hg.1 hr2 (relEnv_same hsame hr'.env) fn hk1 _ rfl
   generalize hrs : resVs g s'.e s'.hp fn.results.toList = rs at *
   obtain ⟨r, hpre⟩ := dedup_prefix (rs.flatMap AV.ids) (List.range hp.length)
   obtain ⟨hsn, hsm⟩ := dedup_spec (rs.flatMap AV.ids) (List.range hp.length) List.nodup_range
   generalize hsel : dedup (List.range hp.length) (rs.flatMap AV.ids) = sel at *
   have hfst : ∀ id, id < hp.length → sel[id]? = some id := fun id hid => by
    rw [hpre, List.getElem?_append_left (by simpa using hid)]
    simp [hid]
   have hpu : ∀ id ∈ sel, (Blk.look s'.hp id).pureB = true := by simpa only [List.all_eq_true] using hk2
   have hsub : ∀ b, Mof M0' (sel.map bs'.at) b → Mof M0' bs' b := by
    rintro b (hb | ⟨j, hb⟩)
    ·
     exact .inl hb
    ·
     rw [at_map] at hb
     cases hs : sel[j]? with
     | none => rw [hs] at hb; cases hb
     | some id => rw [hs] at hb; exact .inr ⟨id, hb⟩
   have hr3 := hr2.select (M0' := M0') sel hsn hpu hr2.m0 (fun id _ b hb => hr2.out id b hb) (fun b _ => hsub b)
   have hpsel : (sel.map (Blk.look s'.hp)).all Blk.pureB = true := by rw [List.all_map, List.all_eq_true]; exact hpu
   refine ⟨_, q1, _, _, sel.map (Blk.look s'.hp), sel.map bs'.at, rfl, hk3, ?_, hpsel, hr3, ?_⟩
   ·
    refine oneRV_rel ?_
    refine all2_ren (by simpa using hr2.len) (fun id hid _ => ?_) (q2.imp fun x v hx => relAV_more hsub hx)
    have hs := idx_spec sel id ((hsm id).2 (.inr hid))
    exact ⟨by rw [look_map, hs], by rw [at_map, hs]; rfl, by simpa using (List.getElem?_eq_some_iff.1 hs).1⟩
   ·
    have e1 := hst.evo
    have hlk : ∀ id, id < hp.length → Blk.look (sel.map (Blk.look s'.hp)) id = Blk.look s'.hp id ∧ Bs.at (sel.map bs'.at) id = bs'.at id := fun id hid => by
     rw [look_map, at_map, hfst id hid]; exact ⟨rfl, rfl⟩
    have hDn : ∀ b, b < w.heap.size → b ∉ Ds := fun b hb hm => by have := (hD b hm).1; omega
    refine ⟨⟨h2.trans e1.os, h3.trans e1.tape, h4.trans e1.output, by rw [h1]; exact e1.size, by rw [hdr]; exact e1.drawn, fun b hb hn => (h5 b (hDn b hb)).trans (e1.block b hb hn), fun b hb hn hm => e1.free b hb hn (hsub b hm)⟩, ?_, ?_, ?_, ?_, fun _ => ⟨?_, ?_, ?_⟩⟩
    ·
     rw [hpre]; simp
    ·
     intro id cs hid hl
     rw [(hlk id hid).1] at hl
     rw [(hlk id hid).2]
     exact hst.box id cs hid hl
    ·
     intro id b kt u es g1 g2
     have hid : id < hp.length := look_lt (by rw [g2]; simp)
     obtain ⟨g3, es', g4⟩ := hst.map id b kt u es g1 g2
     exact ⟨by rw [(hlk id hid).2]; exact g3, es', by rw [(hlk id hid).1]; exact g4⟩
    ·
     intro id al cs hid hl
     rw [(hlk id hid).1] at hl
     obtain ⟨al0, cs0, g1, g2⟩ := hst.own id al cs hid hl
     refine ⟨al0, cs0, g1, ?_⟩
     rw [(hlk id hid).2]
     rcases g2 with g2 | ⟨g2, g3, g4, g5⟩
     ·
      exact .inl g2
     ·
      refine .inr ⟨g2, g3, g4, fun b hb cap size ho => ?_⟩
      obtain ⟨cur, e, j1, j2⟩ := g5 b hb cap size ho
      exact ⟨cur, e, by rw [hsame.own id b (by rw [g3]; exact hb)]; exact j1, j2⟩
    ·
     intro b hb hn
     exact (h5 b (hDn b hb)).trans (hold.old b hb hn)
    ·
     intro b hb hn id hid
     rw [at_map] at hid
     cases hs : sel[id]? with
     | none => rw [hs] at hid; cases hid
     | some j => rw [hs] at hid; exact hold.new b hb hn j hid
    ·
     intro id l xs i st ht
     exact absurd ht (hnotr _ hpsel id l xs i st)
  rcases hke with rfl | rfl <;> exact this
end
section
variable {P : Program} {g : G} {X : XT} {N : Nat} {L : Cfg}
theorem effOkD (hg : g.good P) (hy : g.y = false) (hm : P.follows .mixedOrders = true) {f : FuncId} {fn : Func} {c : Code} (hf : P.funcs[f]? = some fn) (hb : fn.body = some c) (ec : ECon) (k : Nat) (hk : k ≤ fn.ntmps)
  (hok : codeOk' L g.ye fn.ntmps c = true)
  (h : ∀ args hp K, ec.wp args hp K → allLen args → args.length = k ∧ vcD P g X0 fn.ntmps L c ⟨argEnv 0 args, hp⟩ (fun e s => (e = .normal ∨ e = .ret) ∧ retEff g fn hp.length s K) ⟨⟩) : EffOk P f ec := effOk_of (L := L) hg hy hm hf hb ec k hk hok h
theorem flat_pure : ∀ (t : Ty) (x : t.T), (t.flat x).all SV.pure = true
 | .int _, _ => rfl
 | .bool, _ => rfl
 | .str, _ => rfl
 | .slice _, _ => rfl
 | .nil, _ => rfl
 | .cons t r, x => by simp only [Ty.flat, List.all_append, flat_pure t x.1, flat_pure r x.2, Bool.and_true]
 | .fn, _ => rfl
theorem flats_pure (t : Ty) (xs : List t.T) : (t.flats xs).all SV.pure = true := by
 induction xs with
 | nil => rfl
 | cons x xs ih => simp only [Ty.flats, List.all_append, flat_pure, ih, Bool.and_true]
theorem av_fn {x : D .fn} : Ty.av .fn x = .s (.fv x) := rfl
theorem round_E : g.round.E = g.E := rfl
theorem round_Pn : g.round.Pn = g.Pn := rfl
theorem round_fz : g.round.fz = g.fz := rfl
theorem good_of_all {P : Program} {g : G} (h0 : g.ok P) (h : ∀ p ∈ g.Γ, (∀ (args : Array Value) (w : World), (callFunc p.1 args).run P w = .ok (.enter p.1 args) w) ∧ PureOk P p.1 p.2)
  (hE : ∀ p ∈ g.E, (∀ (args : Array Value) (w : World), (callFunc p.1 args).run P w = .ok (.enter p.1 args) w) ∧ EffOk P p.1 p.2)
  (hP : ∀ p ∈ g.Pn, (∀ (args : Array Value) (w : World), (callFunc p.1 args).run P w = .ok (.enter p.1 args) w) ∧ PanOk P p.1 p.2) : g.good P := by
 have key : ∀ {α : Type} (l : List (Nat × α)) (f : Nat) (c : α), look l f = some c → (f, c) ∈ l := by
  intro α l
  induction l with
  | nil => intro f c h; simp [look] at h
  | cons p r ih =>
   intro f c hl
   obtain ⟨k, x⟩ := p
   simp only [look] at hl
   split at hl
   ·
    rename_i e; subst e; injection hl with hl; subst hl; exact List.mem_cons_self ..
   ·
    exact List.mem_cons_of_mem _ (ih f c hl)
 exact ⟨h0, fun f c hl => h _ (key _ f c hl), fun f c hl => hE _ (key _ f c hl), fun f c hl => hP _ (key _ f c hl)⟩
end
structure DCon where
 run : Option Value → List AV → List Blk → Option (List Blk)
def modeOf : Option Value → FrameMode
 | none => .returning
 | some v => .panicking [{ v := v, recovered := false }]
def DefCOk (P : Program) (f : FuncId) (c : DCon) : Prop :=
 ∀ (n : Nat) (w : World) (M0 : Nat → Prop) (bs : Bs) (hp hp' : List Blk) (args : List AV) (vs : List Value) (m : Option Value), c.run m args hp = some hp' → HR w M0 bs hp → All2 (relAV w (Mof M0 bs) bs hp) args vs →
  CallsDIn (FW none) n P f vs.toArray (modeOf m) w (fun e u' w' => (∃ v, e = .returned v) ∧ settle u' = .returning ∧ HR w' M0 bs hp' ∧ Step false w (Mof M0 bs) bs hp w' (Mof M0 bs) bs hp')
def runDefs : Option Value → List (DCon × List AV) → List Blk → (List Blk → Prop) → (Value → Prop) → Prop
 | none, [], hp, K, _ => K hp
 | some v, [], _, _, KP => KP v
 | m, (dc, args) :: ds, hp, K, KP => match dc.run m args hp with
  | some hp' => runDefs none ds hp' K KP
  | none => False
def exitOk (ds : List (DCon × List AV)) (e : Exit) (s : St) (K : List Blk → Prop) (KP : Value → Prop) : Prop := match e with
 | .normal => runDefs none ds s.hp K KP
 | .ret => runDefs none ds s.hp K KP
 | .panic [⟨v, false, false⟩] => runDefs (some v) ds s.hp K KP
 | _ => False
def isDefer (o : Oper) : Bool := match o.op with
 | .defer _ => o.guard.isNone && o.dst.isNone
 | _ => false
def defReg : Code → Option Oper
 | .region _ ops false => match ops.toList with
  | [o] => if isDefer o then some o else none
  | _ => none
 | _ => none
def defOf (g : G) (Dl : List (FuncId × DCon)) (e : Env) (o : Oper) : Option (DCon × List AV) := match o.op with
 | .defer { callee := .value (.func d), args := xs, argTypes := ts } => (look Dl d).map fun dc => (dc, argsEv g e xs.toList ts.toList)
 | .defer { callee := .value (.tmp t), args := xs, argTypes := _ } => match xs.toList, getE e t with
  | [], ⟨true, .v (.s (.fn d ids))⟩ => (look Dl d).map fun dc => (dc, ids.map fun id => .s (.box id 0))
  | _, _ => none
 | _ => none
def vcDef (P : Program) (g : G) (N : Nat) (L : Cfg) (Dl : List (FuncId × DCon)) (K : List (DCon × List AV) → Exit → St → Prop) : List (DCon × List AV) → Code → St → Prop
 | ds, .seq (.region id ops dr) rest, s => match defReg (.region id ops dr) with
  | some o => match defOf g Dl s.e o with
   | some x => okOps s.e o.op ∧ vcDef P g N L Dl K (x :: ds) rest s
   | none => False
  | none => vc P g X0 N L (.region id ops dr) s (thenK (fun s' => vcDef P g N L Dl K ds rest s') (K ds))
 | ds, c, s => vc P g X0 N L c s (K ds)
def DlOk (P : Program) (Dl : List (FuncId × DCon)) : Prop := ∀ f c, look Dl f = some c → (∀ (args : Array Value) (w : World), (callFunc f args).run P w = .ok (.enter f args) w) ∧ DefCOk P f c
section
variable {P : Program} {g : G} {N : Nat} {L : Cfg} {w : World} {M0 : Nat → Prop} {bs : Bs} {hp : List Blk}
theorem shut_marksB {fn : Func} {tmps : Array Value} {r : Option Nat} {n : Nat} {B : List Deferred} {m : FrameMode} (hm : m ≠ .run) : ∀ (Ds : List Nat) (w : World) (R : Ending → World → Prop), Ds.Nodup → (∀ D ∈ Ds, w.heap[D]? = some (.deferred (some []))) →
  (∀ w', w'.heap.size = w.heap.size → w'.os = w.os → w'.tape = w.tape → w'.output = w.output → w'.drawn = w.drawn → (∀ b, b ∉ Ds → w'.heap[b]? = w.heap[b]?) → LeavesInM (FW r) n P fn tmps R B m w') →
  LeavesInM (FW r) n P fn tmps R (Ds.map markOf ++ B) m w
 | [], w, R, _, _, h => h w rfl rfl rfl rfl rfl (fun _ _ => rfl)
 | D :: Ds, w, R, hnd, hd, h => by
  refine ⟨hm, .inl ⟨D, w.putObj D (.deferred none), rfl, run_takeDeferred (hd D (by simp)), ?_⟩⟩
  refine shut_marksB hm Ds _ R (List.nodup_cons.1 hnd).2 (fun E hE => ?_) (fun w' h1 h2 h3 h4 hdr h5 => ?_)
  ·
   have hne : E ≠ D := fun e => (List.nodup_cons.1 hnd).1 (e ▸ hE)
   rw [World.putObj_heap_other hne]
   exact hd E (by simp [hE])
  ·
   refine h w' (by rw [h1]; simp) h2 h3 h4 hdr (fun b hb => ?_)
   simp only [List.mem_cons, not_or] at hb
   rw [h5 b hb.2, World.putObj_heap_other hb.1]
def Waits (P : Program) (w : World) (M : Nat → Prop) (bs : Bs) (hp : List Blk) (x : DCon × List AV) (d : Deferred) : Prop :=
 ∃ (f : FuncId) (vs : List Value) (fv : Fn) (cap : Array Value), d.target = .fn fv cap ∧ (∀ w, (invoke d.target d.args).run P w = .ok (.enter f vs.toArray) w) ∧ DefCOk P f x.1 ∧ All2 (relAV w M bs hp) x.2 vs
theorem Waits.step {v : Bool} {w' : World} {M M' : Nat → Prop} {bs' : Bs} {hp' : List Blk} {x : DCon × List AV} {d : Deferred} (h : Waits P w M bs hp x d) (k : Step v w M bs hp w' M' bs' hp') : Waits P w' M' bs' hp' x d := by
 obtain ⟨f, vs, fv, cap, h1, h2, h3, h4⟩ := h
 exact ⟨f, vs, fv, cap, h1, h2, h3, h4.imp fun x u hu => relAV_step k x u hu⟩
theorem modeOf_run (m : Option Value) : modeOf m ≠ .run := by cases m <;> simp [modeOf]
theorem leaves_defs {fn : Func} {tmps : Array Value} {n : Nat} {R : Ending → World → Prop} {K : List Blk → Prop} {KP : Value → Prop} : ∀ (ds : List (DCon × List AV)) (B : List Deferred) (m : Option Value) (w : World) (hp : List Blk),
  All2 (Waits P w (Mof M0 bs) bs hp) ds B → runDefs m ds hp K KP → HR w M0 bs hp →
  (∀ w' hp', K hp' → HR w' M0 bs hp' → Step false w (Mof M0 bs) bs hp w' (Mof M0 bs) bs hp' → ∃ v, (results fn tmps).run P w' = .ok v w' ∧ R (.returned v) w') →
  (∀ v, m = some v → KP v → R (.panicked [{ v := v, recovered := false }]) w) →
  LeavesInM (FW none) n P fn tmps R B (modeOf m) w
 | [], _, m, w, hp, .nil, h, hr, hK, hP => by
  cases m with
  | none => exact hK w hp h hr (Step.refl _ _ _ _)
  | some v => exact hP v rfl h
 | (dc, args) :: ds, _, m, w, hp, .cons (b := d) hd hds, h, hr, hK, hP => by
  obtain ⟨f, vs, fv, cap, h1, h2, h3, h4⟩ := hd
  have hrun : ∃ hp', dc.run m args hp = some hp' ∧ runDefs none ds hp' K KP := by
   cases m <;> (simp only [runDefs] at h; split at h) <;> first | exact ⟨_, by assumption, h⟩ | exact h.elim
  obtain ⟨hp', e1, e2⟩ := hrun
  refine ⟨modeOf_run m, .inr ⟨fun hd => by simp [FW] at hd, fv, cap, f, vs.toArray, h1, h2 w, fun _ _ => trivial, ?_⟩⟩
  obtain ⟨k1, k2⟩ := h3 (n - 1) w M0 bs hp hp' args vs m e1 hr h4
  refine ⟨k1, fun c cs hc hroom => ?_⟩
  obtain ⟨e, u', w', fr, ⟨⟨v, rfl⟩, hu, hr', hst⟩, rest⟩ := k2 c cs hc hroom
  refine ⟨.returned v, u', w', fr, ?_, rest⟩
  show LeavesInM (FW none) n P fn tmps R _ (settle u') w'
  rw [hu]
  exact leaves_defs ds _ none w' hp' (hds.imp fun x d hd => hd.step hst) e2 hr' (fun w'' hp'' q1 q2 q3 => hK w'' hp'' q1 q2 (hst.trans q3)) (fun v hv => by cases hv)
theorem deferred_wp (hg : g.good P) {Dl : List (FuncId × DCon)} (hD : DlOk P Dl) {n : Nat} {Q : Exit → Act → World → Prop} {id : Nat} {ops : Array Oper} {dr : Bool} {o : Oper} {e : Env} {hp : List Blk} {a : Act} {x : DCon × List AV}
  (h1 : defReg (.region id ops dr) = some o) (h2 : defOf g Dl e o = some x) (hok : okOps e o.op) (hr : HR w M0 bs hp) (he : relEnv w (Mof M0 bs) bs hp e a)
  (hQ : ∀ d, Waits P w (Mof M0 bs) bs hp x d → Q .normal { a with defers := d :: a.defers } w) : (Code.region id ops dr).wpIn (FW none) n P Q a w := by
 unfold defReg at h1
 split at h1
 ·
  rename_i heq
  injection heq with e1 e2 e3
  subst e1; subst e2; subst e3
  split at h1
  ·
   rename_i o' hops
   split at h1
   ·
    rename_i hdf
    injection h1 with h1
    subst h1
    refine wpIn_region_list ?_
    rw [hops]
    obtain ⟨dst, op, t, pos, after, guard⟩ := o'
    unfold isDefer at hdf
    split at hdf
    ·
     rename_i c heq
     simp only at heq hdf
     subst heq
     simp only [Bool.and_eq_true, Option.isNone_iff_eq_none] at hdf
     obtain ⟨hgd, hdd⟩ := hdf
     subst hgd
     subst hdd
     show ite _ _ _
     rw [if_pos (by simp [Region.wanted])]
     refine ⟨fun f _ => trivial, ?_⟩
     have hsem : ∀ o : Oper, Oper.semAt (FW none).round a.eval o = execOp a.eval o := fun o => Oper.semAt_none _ _
     rw [hsem]
     unfold defOf at h2
     split at h2
     ·
      rename_i d xs ts heq
      simp only at heq
      injection heq with heq
      subst heq
      cases hl : look Dl d with
      | none => simp [hl] at h2
      | some dc =>
       simp [hl] at h2
       subst h2
       obtain ⟨hent, hdc⟩ := hD d dc hl
       have hall := okOps_all (by simp) hok
       have hargs := args_rel hg.1 xs.toList ts.toList (fun x hx => oper_rel he x (hall x (by simp [Op.operands, Call.operands]; exact .inr (by simpa using hx))))
       have hrun : (execOp a.eval { dst := none, op := .defer { callee := .value (.func d), args := xs, argTypes := ts }, type := t, pos := pos, after := after, guard := none }).run P w = .ok (.defer { target := .fn (.func d) #[], args := (xs.toList.map a.eval).toArray }) w := by
        simp [execOp, resolve, Act.eval, Deferred.ofValue, Sem.run_bind, map_arr]
       rw [hrun]
       refine hQ _ ⟨d, xs.toList.map a.eval, _, _, rfl, fun w => ?_, hdc, hargs⟩
       simpa [invoke] using hent (xs.toList.map a.eval).toArray w
     ·
      rename_i t xs ts heq
      simp only at heq
      injection heq with heq
      subst heq
      split at h2
      ·
       rename_i d ids hxs hgt
       cases hl : look Dl d with
       | none => simp [hl] at h2
       | some dc =>
        simp [hl] at h2
        subst h2
        obtain ⟨hent, hdc⟩ := hD d dc hl
        have hrel := (getE_rel he t)
        rw [hgt] at hrel
        obtain ⟨ps, hv, hps⟩ := hrel.1 rfl
        have hxs' : xs = #[] := by cases xs; simpa using hxs
        subst hxs'
        have hrun : ∀ (ta : Array TypeId) (tt : TypeId), (execOp a.eval { dst := none, op := .defer { callee := .value (.tmp t), args := #[], argTypes := ta }, type := tt, pos := pos, after := after, guard := none }).run P w = .ok (.defer { target := .fn (.func d) (ps.map fun b => .pointer (some ⟨b, 0, none⟩)).toArray, args := #[] }) w := fun ta tt => by
         simp [execOp, resolve, Act.eval, hv, Deferred.ofValue, Sem.run_bind]
        rw [hrun]
        refine hQ _ ⟨d, ps.map fun b => .pointer (some ⟨b, 0, none⟩), _, _, rfl, fun w => ?_, hdc, ?_⟩
        ·
         simpa [invoke] using hent (ps.map fun b => .pointer (some ⟨b, 0, none⟩)).toArray w
        ·
         clear hv hgt hrel hQ hrun
         induction hps with
         | nil => exact .nil
         | cons r _ ih => exact .cons ⟨r.1, fun cs hc => ⟨_, r.2 cs hc, rfl⟩⟩ ih
      ·
       cases h2
     ·
      cases h2
    ·
     cases hdf
   ·
    cases h1
  ·
   cases h1
 ·
  cases h1
def PostDef (P : Program) (g : G) (N m : Nat) (K : List (DCon × List AV) → Exit → St → Prop) (w : World) (M0 : Nat → Prop) (bs : Bs) (hp : List Blk) (e : Exit) (a' : Act) (w' : World) : Prop :=
 ∃ s' M0' bs' ds' B', K ds' e s' ∧ Rel P X0 N (some (m, B')) w' M0' bs' a' s' ∧ Nx P g X0 w M0 bs hp w' M0' bs' s'.hp ∧ All2 (Waits P w' (Mof M0' bs') bs' s'.hp) ds' B'
theorem vcDef_sound (hg : g.good P) (hm : P.follows .mixedOrders = true) (hy : g.y = false) {Dl : List (FuncId × DCon)} (hD : DlOk P Dl) (K : List (DCon × List AV) → Exit → St → Prop) : ∀ (c : Code), codeOk' L g.ye N c = true →
  ∀ (ds : List (DCon × List AV)) (s : St), vcDef P g N L Dl K ds c s → ∀ (n m : Nat) (M0 : Nat → Prop) (bs : Bs) (a : Act) (w : World) (B : List Deferred), Rel P X0 N (some (m, B)) w M0 bs a s → a.defers = B → All2 (Waits P w (Mof M0 bs) bs s.hp) ds B →
  c.wpIn (FW none) n P (PostDef P g N m K w M0 bs s.hp) a w := by
 have plain : ∀ (c : Code), codeOk' L g.ye N c = true → ∀ (ds : List (DCon × List AV)) (s : St), vc P g X0 N L c s (K ds) → ∀ (n m : Nat) (M0 : Nat → Prop) (bs : Bs) (a : Act) (w : World) (B : List Deferred), Rel P X0 N (some (m, B)) w M0 bs a s →
   All2 (Waits P w (Mof M0 bs) bs s.hp) ds B → c.wpIn (FW none) n P (PostDef P g N m K w M0 bs s.hp) a w := by
  intro c hok ds s hv n m M0 bs a w B hr hw
  refine wpIn_mono (vc_sound hg X0_ok hm c hok s (K ds) hv n none (some (m, B)) M0 bs a w ⟨fun _ => rfl, by simp [hy]⟩ hr) ?_
  rintro e a' w' ⟨s', M0', bs', k, x, y⟩
  exact ⟨s', M0', bs', ds, B, k, x, y, hw.imp fun x d hd => hd.step y.st⟩
 intro c
 induction c with
 | seq x rest _ ihr =>
  cases x with
  | region id ops dr =>
   intro hok ds s hv n m M0 bs a w B hr hB hw
   simp only [codeOk', Bool.and_eq_true] at hok
   simp only [vcDef] at hv
   refine wpIn_seq ?_
   cases hdr : defReg (.region id ops dr) with
   | some o =>
    rw [hdr] at hv
    cases hdo : defOf g Dl s.e o with
    | none => simp [hdo] at hv
    | some x =>
     simp only [hdo] at hv
     refine deferred_wp hg hD hdr hdo hv.1 hr.hr hr.env fun d hd => ?_
     refine ihr hok.2 (x :: ds) s hv.2 n m M0 bs _ w (d :: B) ⟨hr.hr, hr.xr, hr.env, hr.size, ?_⟩ (by rw [hB]) (.cons hd hw)
     obtain ⟨h0, _⟩ := hr.df
     exact ⟨h0, [], by rw [hB]; rfl, .nil, by simp⟩
   | none =>
    rw [hdr] at hv
    refine wpIn_mono (vc_region hg X0_ok hm id ops dr (by simpa [codeOk'] using hok.1) s _ hv n none (some (m, B)) M0 bs a w ⟨fun _ => rfl, by simp [hy]⟩ hr) ?_
    rintro e a' w' ⟨⟨s', M0', bs', k, hr', hn⟩, hdf⟩
    have hw' := hw.imp fun x d hd => hd.step hn.st
    cases e with
    | normal =>
     refine wpIn_mono (ihr hok.2 ds s' k n m M0' bs' a' w' B hr' (hdf.trans hB) hw') ?_
     rintro e2 a2 w2 ⟨s2, M2, bs2, ds2, B2, k2, hr2, hn2, hw2⟩
     exact ⟨s2, M2, bs2, ds2, B2, k2, hr2, hn.trans hn2, hw2⟩
    | _ => exact ⟨s', M0', bs', ds, B, k, hr', hn, hw'⟩
  | _ => intro hok ds s hv n m M0 bs a w B hr hB hw; exact plain _ hok ds s hv n m M0 bs a w B hr hw
 | _ => intro hok ds s hv n m M0 bs a w B hr hB hw; exact plain _ hok ds s hv n m M0 bs a w B hr hw
theorem Waits.same {w' : World} (hs : Same w w' bs) {x : DCon × List AV} {d : Deferred} (h : Waits P w (Mof M0 bs) bs hp x d) : Waits P w' (Mof M0 bs) bs hp x d := by
 obtain ⟨f, vs, fv, cap, h1, h2, h3, h4⟩ := h
 exact ⟨f, vs, fv, cap, h1, h2, h3, h4.imp fun x u hu => relAV_same hs hu⟩
theorem calls_gen (hg : g.good P) (hy : g.y = false) (hm : P.follows .mixedOrders = true) {Dl : List (FuncId × DCon)} (hD : DlOk P Dl) {f : FuncId} {fn : Func} {c : Code} (hf : P.funcs[f]? = some fn) (hb : fn.body = some c) (k : Nat) (hk : k ≤ fn.ntmps)
  (hok : codeOk' L g.ye fn.ntmps c = true) {A : Prop} {B : Value → Prop} {rv : RV} {args : List AV} {vs : List Value} (hM0 : ∀ b, M0 b → b < w.heap.size) (hargs : All2 (relAV w M0 [] []) args vs) (hlen : args.length = k)
  (h : vcDef P g fn.ntmps L Dl (fun ds e s => exitOk ds e s (fun hp' => A ∧ retOk g fn ⟨s.e, hp'⟩ rv) B) [] c ⟨argEnv 0 args, []⟩) :
  Calls P f vs.toArray w (fun e w' => ((A ∧ ∃ v, e = .returned v ∧ relRV w' M0 [] [] rv v) ∨ ∃ v, B v ∧ e = .panicked [{ v := v, recovered := false }]) ∧ Below w.heap.size w w' ∧ w.drawn ≤ w'.drawn) := by
 refine (callsIn_wide (n := 0)).1 ?_
 have hF : (FW none) = Fence.wide := rfl
 rw [← hF]
 have hr0 : HR w M0 [] [] := by
  refine ⟨rfl, hM0, ?_, ?_, ?_, ?_, ?_, ?_, ?_⟩ <;> intros <;> simp_all [Bs.at, Blk.look]
 have hN : (vs.toArray ++ Array.replicate (fn.ntmps - vs.toArray.size) undef).size = fn.ntmps := by
  have := hargs.length
  simp; omega
 refine callsIn_of_wp_marks (n := 0) hf hb trivial (wpIn_mono (vcDef_sound hg hm hy hD _ c hok [] _ h 0 w.heap.size M0 [] { tmps := vs.toArray ++ Array.replicate (fn.ntmps - vs.toArray.size) undef, defers := [] } w [] ⟨hr0, ?_, ?_, hN, ⟨Nat.le_refl _, [], rfl, .nil, by simp⟩⟩ rfl .nil) ?_)
 ·
  intro l xs i st ht; simp [Blk.look] at ht
 ·
  refine argEnv_rel 0 _ (hargs.imp fun x v h => relAV_weaken (fun b hb => hb.elim id fun ⟨id, h⟩ => by simp [Bs.at] at h) h) (fun j v hj => ?_)
  have hj2 := (List.getElem?_eq_some_iff.1 hj).1
  simp only [Array.getD_eq_getD_getElem?, Nat.zero_add]
  rw [Array.getElem?_append_left (by simpa using hj2)]
  simp [hj]
 ·
  rintro e a' w' ⟨s', M0', bs', ds', B', hK, hr', hn, hw⟩
  obtain rfl : M0' = M0 := hn.eq hy
  obtain ⟨_, Ds, hdf, hnd, hD'⟩ := hr'.df
  have hst : Step false w (Mof M0' []) [] [] w' (Mof M0' bs') bs' s'.hp := by have := hn.st; rwa [hy] at this
  have hold := hst.only rfl
  have key : ∀ m : Option Value, runDefs m ds' s'.hp (fun hp' => A ∧ retOk g fn ⟨s'.e, hp'⟩ rv) B → LeavesInM (FW none) 0 P fn a'.tmps (fun e w' => ((A ∧ ∃ v, e = .returned v ∧ relRV w' M0' [] [] rv v) ∨ ∃ v, B v ∧ e = .panicked [{ v := v, recovered := false }]) ∧ Below w.heap.size w w' ∧ w.drawn ≤ w'.drawn) a'.defers (modeOf m) w' := by
   intro m hrun
   rw [hdf]
   refine shut_marksB (modeOf_run m) Ds w' _ hnd (fun D h => (hD' D h).2.2.2) fun w'' h1 h2 h3 h4 hdr h5 => ?_
   have hsame : Same w' w'' bs' := by
    refine ⟨fun p u hp => ?_, h1, fun id b hb => h5 b fun hm => (hD' b hm).2.2.1 (.inr ⟨id, hb⟩)⟩
    have hne : p.block ∉ Ds := fun hm => by
     have := (hD' _ hm).2.2.2
     simp [World.cell?, this] at hp
    rw [← hp]
    exact World.cell?_of_block (h5 _ hne)
   have hbel : Below w.heap.size w w'' ∧ w.drawn ≤ w''.drawn := by
    have e1 := hst.evo
    exact ⟨⟨h2.trans e1.os, h3.trans e1.tape, h4.trans e1.output, by rw [h1]; exact e1.size, fun b hb => by
     rw [h5 b (fun hm => by have := (hD' b hm).1; omega)]
     exact hold.old b hb (by simp [Bs.at])⟩, by rw [hdr]; exact e1.drawn⟩
   refine leaves_defs ds' B' m w'' s'.hp (hw.imp fun x d hd => hd.same hsame) hrun (hr'.hr.same hsame) (fun w3 hp3 hK3 hr3 hst3 => ?_) (fun v _ hv => ⟨.inr ⟨v, hv, rfl⟩, hbel⟩)
   obtain ⟨hA, hk1, vs', hk2, hk3⟩ := hK3
   obtain ⟨us, q1, q2⟩ := results_run hg.1 hr3 (relEnv_step hst3 (relEnv_same hsame hr'.env)) fn hk1 _ rfl
   have q3 := frzAs_sound hr3 q2 hk2
   refine ⟨_, q1, .inl ⟨hA, _, rfl, ?_⟩, ?_⟩
   ·
    rw [← hk3]; exact oneRV_rel q3
   ·
    have e3 := hst3.evo
    have ho3 := (hst3.only rfl).old
    refine ⟨⟨e3.os.trans hbel.1.os, e3.tape.trans hbel.1.tape, e3.output.trans hbel.1.output, Nat.le_trans hbel.1.size e3.size, fun b hb => ?_⟩, Nat.le_trans hbel.2 e3.drawn⟩
    rw [ho3 b (Nat.lt_of_lt_of_le hb hbel.1.size) (fun id hid => hold.new b hb (by simp [Bs.at]) id hid)]
    exact hbel.1.block b hb
  cases e with
  | normal => exact key none hK
  | ret => exact key none hK
  | panic ch =>
   simp only [exitOk] at hK
   split at hK
   ·
    rename_i heq; cases heq
   ·
    rename_i heq; cases heq
   ·
    rename_i v heq
    injection heq with heq
    subst heq
    exact key (some v) hK
   ·
    exact hK.elim
  | exit id => exact hK.elim
  | goto l => exact hK.elim
  | outgrown => exact hK.elim
theorem pureOk_def (hg : g.good P) (hy : g.y = false) (hm : P.follows .mixedOrders = true) {Dl : List (FuncId × DCon)} (hD : DlOk P Dl) {f : FuncId} {fn : Func} {c : Code} (hf : P.funcs[f]? = some fn) (hb : fn.body = some c) (con : Con) (k : Nat) (hk : k ≤ fn.ntmps)
  (hok : codeOk' L g.ye fn.ntmps c = true)
  (h : ∀ args, con.pre args → allLen args → args.length = k ∧ vcDef P g fn.ntmps L Dl (fun ds e s => exitOk ds e s (fun hp' => retOk g fn ⟨s.e, hp'⟩ (con.val args)) fun _ => False) [] c ⟨argEnv 0 args, []⟩) : PureOk P f con := by
 intro w M0 args vs hpre hM0 hargs
 obtain ⟨hlen, hvc⟩ := h args hpre (allLen_rel hargs)
 refine (calls_gen (L := L) (A := True) (B := fun _ => False) hg hy hm hD hf hb k hk hok hM0 hargs hlen (by simpa only [true_and] using hvc)).mono ?_
 rintro e w' ⟨⟨_, v, h1, h2⟩ | ⟨v, hB, _⟩, h3, h4⟩
 ·
  exact ⟨v, h1, h2, h3, h4⟩
 ·
  exact hB.elim
theorem panOk_def (hg : g.good P) (hy : g.y = false) (hm : P.follows .mixedOrders = true) {Dl : List (FuncId × DCon)} (hD : DlOk P Dl) {f : FuncId} {fn : Func} {c : Code} (hf : P.funcs[f]? = some fn) (hb : fn.body = some c) (con : PCon) (k : Nat) (hk : k ≤ fn.ntmps)
  (hok : codeOk' L g.ye fn.ntmps c = true)
  (h : ∀ args, con.when args → allLen args → args.length = k ∧ vcDef P g fn.ntmps L Dl (fun ds e s => exitOk ds e s (fun hp' => False) fun v => v = con.what args) [] c ⟨argEnv 0 args, []⟩) : PanOk P f con := by
 intro w M0 args vs hpre hM0 hargs
 obtain ⟨hlen, hvc⟩ := h args hpre (allLen_rel hargs)
 refine (calls_gen (L := L) (A := False) (B := fun v => v = con.what args) (rv := .tup []) hg hy hm hD hf hb k hk hok hM0 hargs hlen (by simpa only [false_and] using hvc)).mono ?_
 rintro e w' ⟨⟨hA, _⟩ | ⟨v, rfl, h1⟩, h3, h4⟩
 ·
  exact hA.elim
 ·
  exact ⟨h1, h3, h4⟩
structure CaughtRaw (P : Program) (f : FuncId) (tE : TypeId) : Prop where
 idle : ∀ (n : Nat) (p : Addr) (w : World), CallsDIn (FW none) n P f #[.pointer (some p)] .returning w fun e u' w' => e = .returned (.tuple #[]) ∧ u' = .returning ∧ w' = w
 hit : ∀ (n : Nat) (p : Addr) (x m : Int) (w : World), w.cell? p = some (.int .i64 x) → w.frozen? p = false → CallsDIn (FW none) n P f #[.pointer (some p)] (.panicking [{ v := .iface tE (.int .i64 m), recovered := false }]) w fun e u' w' =>
  e = .returned (.tuple #[]) ∧ u' = .panicking [{ v := .iface tE (.int .i64 m), recovered := true }] ∧ w' = w.setCell p (.int .i64 m)
def caughtCon (tE : TypeId) : DCon := ⟨fun m args hp => match args with
 | [.s (.box id 0)] => match Blk.look hp id with
  | .cells [.int .i64 _] => match m with
   | none => some hp
   | some (.iface t (.int .i64 n)) => if t = tE then some (hp.set id (.cells [.int .i64 n])) else none
   | _ => none
  | _ => none
 | _ => none⟩
theorem caught_ok {f : FuncId} {tE : TypeId} (h : CaughtRaw P f tE) : DefCOk P f (caughtCon tE) := by
 intro n w M0 bs hp hp' args vs m hrun hr hargs
 simp only [caughtCon] at hrun
 split at hrun
 ·
  rename_i id
  split at hrun
  ·
   rename_i x hl
   obtain ⟨b, cur, e, h1, h2, h3, h4⟩ := hr.cells id _ hl
   cases hargs with
   | cons ha hnil =>
    cases hnil
    obtain ⟨b', hb', rfl⟩ := ha.2 _ hl
    rw [h1] at hb'; cases hb'
    obtain ⟨u, k1, k2, k3⟩ := h4 0 _ rfl
    obtain rfl : u = .int .i64 x := k3
    have hsz : cur.size = 1 := by simpa using h3.symm
    have hcell : w.cell? ⟨b, 0, none⟩ = some (.int .i64 x) := by simp [World.cell?, h2, k1]
    split at hrun
    ·
     injection hrun with hrun; subst hrun
     obtain ⟨q1, q2⟩ := h.idle n ⟨b, 0, none⟩ w
     refine ⟨q1, fun c cs hc hroom => ?_⟩
     obtain ⟨e', u', w', fr, ⟨rfl, rfl, rfl⟩, rest⟩ := q2 c cs hc hroom
     exact ⟨_, _, _, fr, ⟨⟨_, rfl⟩, rfl, hr, Step.refl _ _ _ _⟩, rest⟩
    ·
     rename_i t n'
     split at hrun
     ·
      rename_i ht
      subst ht
      injection hrun with hrun; subst hrun
      obtain ⟨q1, q2⟩ := h.hit n ⟨b, 0, none⟩ x n' w hcell (by simp [World.frozen?, h2])
      refine ⟨q1, fun c cs hc hroom => ?_⟩
      obtain ⟨e', u', w', fr, ⟨rfl, rfl, rfl⟩, rest⟩ := q2 c cs hc hroom
      have hheap : ∀ c, (w.setCell ⟨b, 0, none⟩ (.int .i64 n')).heap[c]? = if b = c then some (.cells (cur.setIfInBounds 0 (.int .i64 n')) e (0, 0)) else w.heap[c]? := by
       intro c
       simp only [World.setCell, Array.getElem?_modify]
       split
       ·
        rename_i hbc; subst hbc; rw [h2]; rfl
       ·
        rfl
      have hMb : Mof M0 bs b := .inr ⟨id, h1⟩
      have hevo : Evo (Mof M0 bs) (Mof M0 bs) w (w.setCell ⟨b, 0, none⟩ (.int .i64 n')) :=
       ⟨rfl, rfl, rfl, by simp [World.setCell], Nat.le_refl _, fun c _ hm => by rw [hheap, if_neg (by rintro rfl; exact hm hMb)], fun _ _ h => h⟩
      obtain ⟨r1, r2⟩ := hr.rewrite h1 hevo (fun c hne _ => by rw [hheap, if_neg (fun e => hne e.symm)]) (by rw [hheap, if_pos rfl]) (.cells [.int .i64 n'])
       ⟨_, e, rfl, by simp [hsz], fun j y hj => by
        cases j with
        | zero =>
         simp at hj; subst hj
         exact ⟨.int .i64 n', by simp [hsz], rfl, rfl⟩
        | succ j => simp at hj⟩ (by rw [hl]; trivial)
      exact ⟨_, _, _, fr, ⟨⟨_, rfl⟩, rfl, r1, r2⟩, rest⟩
     ·
      cases hrun
    ·
     cases hrun
  ·
   cases hrun
 ·
  cases hrun
theorem dl_nil : DlOk P [] := fun f c h => by simp [look] at h
theorem dl_cons {f : FuncId} {c : DCon} {Dl : List (FuncId × DCon)} (h1 : (∀ (args : Array Value) (w : World), (callFunc f args).run P w = .ok (.enter f args) w) ∧ DefCOk P f c) (h2 : DlOk P Dl) : DlOk P ((f, c) :: Dl) := fun f' c' h => by
 simp only [look] at h
 split at h
 ·
  rename_i e; subst e; injection h with h; subst h; exact h1
 ·
  exact h2 f' c' h
end
section
variable {P : Program} {g : G} {N : Nat} {L : Cfg}
def vcDefD (P : Program) (g : G) (N : Nat) (L : Cfg) (Dl : List (FuncId × DCon)) (K : List (DCon × List AV) → Exit → St → Prop) (ds : List (DCon × List AV)) (c : Code) (s : St) (_ : Dum ((c, L), (K, Dl))) : Prop := vcDef P g N L Dl K ds c s
def defRegD (id : Nat) (ops : List Oper) (dr : Bool) : Option Oper := match dr, ops with
 | false, [o] => if isDefer o then some o else none
 | _, _ => none
variable {Dl : List (FuncId × DCon)} {K : List (DCon × List AV) → Exit → St → Prop} {ds : List (DCon × List AV)} {s : St}
theorem vcDefD_seqR {id : Nat} {ops : List Oper} {dr : Bool} {rest : Code} {d : Dum ((Code.seq (.region id (List.toArray ops) dr) rest, L), (K, Dl))} : vcDefD P g N L Dl K ds (.seq (.region id (List.toArray ops) dr) rest) s d = match defRegD id ops dr with
  | some o => match defOf g Dl s.e o with
   | some x => okOps s.e o.op ∧ vcDefD P g N L Dl K (x :: ds) rest s ⟨⟩
   | none => False
  | none => vcD P g X0 N L (.region id (List.toArray ops) dr) s (thenKD (fun s' => vcDefD P g N L Dl K ds rest s' ⟨⟩) (K ds) ⟨⟩) ⟨⟩ := by
 have : defReg (.region id (List.toArray ops) dr) = defRegD id ops dr := by
  unfold defReg defRegD
  cases dr
  ·
   cases ops with
   | nil => rfl
   | cons o r => cases r <;> rfl
  ·
   rfl
 show vcDef P g N L Dl K ds (.seq (.region id (List.toArray ops) dr) rest) s = _
 rw [vcDef, this]
 cases defRegD id ops dr with
 | none => rfl
 | some o =>
  simp only
  cases defOf g Dl s.e o <;> rfl
theorem vcDefD_seqS {x y rest : Code} {d : Dum ((Code.seq (.seq x y) rest, L), (K, Dl))} : vcDefD P g N L Dl K ds (.seq (.seq x y) rest) s d = vcD P g X0 N L (.seq (.seq x y) rest) s (K ds) ⟨⟩ := rfl
theorem vcDefD_seqC {o : Operand} {x y rest : Code} {d : Dum ((Code.seq (.cond o x y) rest, L), (K, Dl))} : vcDefD P g N L Dl K ds (.seq (.cond o x y) rest) s d = vcD P g X0 N L (.seq (.cond o x y) rest) s (K ds) ⟨⟩ := rfl
theorem vcDefD_seqB {i : Nat} {x rest : Code} {d : Dum ((Code.seq (.block i x) rest, L), (K, Dl))} : vcDefD P g N L Dl K ds (.seq (.block i x) rest) s d = vcD P g X0 N L (.seq (.block i x) rest) s (K ds) ⟨⟩ := rfl
theorem vcDefD_seqL {x rest : Code} {d : Dum ((Code.seq (.loop x) rest, L), (K, Dl))} : vcDefD P g N L Dl K ds (.seq (.loop x) rest) s d = vcD P g X0 N L (.seq (.loop x) rest) s (K ds) ⟨⟩ := rfl
theorem vcDefD_seqF {o : Operand} {ps : Array Tmp} {x y rest : Code} {d : Dum ((Code.seq (.rangeFunc o ps x y) rest, L), (K, Dl))} : vcDefD P g N L Dl K ds (.seq (.rangeFunc o ps x y) rest) s d = vcD P g X0 N L (.seq (.rangeFunc o ps x y) rest) s (K ds) ⟨⟩ := rfl
theorem vcDefD_seqSc {x rest : Code} {d : Dum ((Code.seq (.scope x) rest, L), (K, Dl))} : vcDefD P g N L Dl K ds (.seq (.scope x) rest) s d = vcD P g X0 N L (.seq (.scope x) rest) s (K ds) ⟨⟩ := rfl
theorem vcDefD_region {id : Nat} {ops : Array Oper} {dr : Bool} {d : Dum ((Code.region id ops dr, L), (K, Dl))} : vcDefD P g N L Dl K ds (.region id ops dr) s d = vcD P g X0 N L (.region id ops dr) s (K ds) ⟨⟩ := rfl
theorem vcDefD_ret {d : Dum ((Code.ret, L), (K, Dl))} : vcDefD P g N L Dl K ds .ret s d = K ds .ret s := rfl
theorem vcDefD_cond {o : Operand} {x y : Code} {d : Dum ((Code.cond o x y, L), (K, Dl))} : vcDefD P g N L Dl K ds (.cond o x y) s d = vcD P g X0 N L (.cond o x y) s (K ds) ⟨⟩ := rfl
theorem vcDefD_block {i : Nat} {x : Code} {d : Dum ((Code.block i x, L), (K, Dl))} : vcDefD P g N L Dl K ds (.block i x) s d = vcD P g X0 N L (.block i x) s (K ds) ⟨⟩ := rfl
theorem vcDefD_loop {x : Code} {d : Dum ((Code.loop x, L), (K, Dl))} : vcDefD P g N L Dl K ds (.loop x) s d = vcD P g X0 N L (.loop x) s (K ds) ⟨⟩ := rfl
variable {K0 : Exit → St → Prop} {K1 : St → Prop} {ch : List PanicEntry}
theorem thenKD_panic {d : Dum (K1, K0)} : thenKD K1 K0 d (.panic ch) s = K0 (.panic ch) s := rfl
theorem inBlockKD_panic {i : Nat} {d : Dum K0} : inBlockKD i K0 d (.panic ch) s = K0 (.panic ch) s := rfl
theorem noGotoKD_panic {d : Dum K0} : noGotoKD K0 d (.panic ch) s = K0 (.panic ch) s := rfl
theorem exitOk_normal {K : List Blk → Prop} {KP : Value → Prop} : exitOk ds .normal s K KP = runDefs none ds s.hp K KP := rfl
theorem exitOk_ret {K : List Blk → Prop} {KP : Value → Prop} : exitOk ds .ret s K KP = runDefs none ds s.hp K KP := rfl
theorem exitOk_panic {K : List Blk → Prop} {KP : Value → Prop} {v : Value} : exitOk ds (.panic [⟨v, false, false⟩]) s K KP = runDefs (some v) ds s.hp K KP := rfl
theorem exitOk_exit {K : List Blk → Prop} {KP : Value → Prop} {i : Nat} : exitOk ds (.exit i) s K KP = False := rfl
theorem runDefs_none {K : List Blk → Prop} {KP : Value → Prop} {hp : List Blk} : runDefs none [] hp K KP = K hp := rfl
theorem runDefs_some {K : List Blk → Prop} {KP : Value → Prop} {hp : List Blk} {v : Value} : runDefs (some v) [] hp K KP = KP v := rfl
theorem runDefs_cons {K : List Blk → Prop} {KP : Value → Prop} {hp : List Blk} {m : Option Value} {dc : DCon} {args : List AV} : runDefs m ((dc, args) :: ds) hp K KP = match dc.run m args hp with
  | some hp' => runDefs none ds hp' K KP
  | none => False := by cases m <;> rfl
theorem pureDefD (hg : g.good P) (hy : g.y = false) (hm : P.follows .mixedOrders = true) {Dl : List (FuncId × DCon)} (hD : DlOk P Dl) {f : FuncId} {fn : Func} {c : Code} (hf : P.funcs[f]? = some fn) (hb : fn.body = some c) (con : Con) (k : Nat) (hk : k ≤ fn.ntmps)
  (hok : codeOk' L g.ye fn.ntmps c = true)
  (h : ∀ args, con.pre args → allLen args → args.length = k ∧ vcDefD P g fn.ntmps L Dl (fun ds e s => exitOk ds e s (fun hp' => retOk g fn ⟨s.e, hp'⟩ (con.val args)) fun _ => False) [] c ⟨argEnv 0 args, []⟩ ⟨⟩) : PureOk P f con :=
 pureOk_def (L := L) hg hy hm hD hf hb con k hk hok h
theorem panDefD (hg : g.good P) (hy : g.y = false) (hm : P.follows .mixedOrders = true) {Dl : List (FuncId × DCon)} (hD : DlOk P Dl) {f : FuncId} {fn : Func} {c : Code} (hf : P.funcs[f]? = some fn) (hb : fn.body = some c) (con : PCon) (k : Nat) (hk : k ≤ fn.ntmps)
  (hok : codeOk' L g.ye fn.ntmps c = true)
  (h : ∀ args, con.when args → allLen args → args.length = k ∧ vcDefD P g fn.ntmps L Dl (fun ds e s => exitOk ds e s (fun hp' => False) fun v => v = con.what args) [] c ⟨argEnv 0 args, []⟩ ⟨⟩) : PanOk P f con :=
 panOk_def (L := L) hg hy hm hD hf hb con k hk hok h
end
end Go.Am
namespace Go.Am
def dig (n : Nat) : List Int := if h : n = 0 then [] else ((n % 1073741824 : Nat) : Int) :: dig (n / 1073741824)
termination_by n
decreasing_by omega
def vl : List Int → Nat
 | [] => 0
 | d :: r => d.toNat + 1073741824 * vl r
def okD (xs : List Int) : Prop := ∀ d ∈ xs, 0 ≤ d ∧ d ≤ 1073741823
def trimL : List Int → List Int
 | [] => []
 | d :: r => match trimL r with
  | [] => if d = 0 then [] else [d]
  | s => d :: s
def canon (xs : List Int) : Prop := okD xs ∧ xs.getLast? ≠ some 0
theorem dig_zero : dig 0 = [] := by rw [dig]; rfl
theorem dig_pos {n : Nat} (h : n ≠ 0) : dig n = ((n % 1073741824 : Nat) : Int) :: dig (n / 1073741824) := by rw [dig]; simp [h]
theorem vl_dig (n : Nat) : vl (dig n) = n := by
 induction n using Nat.strongRecOn with
 | _ n ih =>
  by_cases h : n = 0
  ·
   subst h; rw [dig_zero]; rfl
  ·
   rw [dig_pos h]
   simp only [vl]
   rw [ih _ (by omega)]
   omega
theorem okD_dig (n : Nat) : okD (dig n) := by
 induction n using Nat.strongRecOn with
 | _ n ih =>
  by_cases h : n = 0
  ·
   subst h; rw [dig_zero]; intro d hd; cases hd
  ·
   rw [dig_pos h]
   intro d hd
   rcases List.mem_cons.1 hd with rfl | hd
   ·
    omega
   ·
    exact ih _ (by omega) d hd
theorem okD_nil : okD [] := fun d h => by cases h
theorem okD_cons {d : Int} {r : List Int} : okD (d :: r) ↔ (0 ≤ d ∧ d ≤ 1073741823) ∧ okD r := by simp [okD]
theorem okD_append {x y : List Int} : okD (x ++ y) ↔ okD x ∧ okD y := by
 simp only [okD, List.mem_append]
 constructor
 ·
  intro h; exact ⟨fun d hd => h d (.inl hd), fun d hd => h d (.inr hd)⟩
 ·
  rintro ⟨h1, h2⟩ d (hd | hd)
  ·
   exact h1 d hd
  ·
   exact h2 d hd
theorem okD_get {xs : List Int} (h : okD xs) {i : Nat} (hi : i < xs.length) : 0 ≤ xs[i]?.getD 0 ∧ xs[i]?.getD 0 ≤ 1073741823 := by
 rw [List.getElem?_eq_getElem hi]; exact h _ (List.getElem_mem hi)
theorem okD_take {xs : List Int} (h : okD xs) (n : Nat) : okD (xs.take n) := fun d hd => h d (List.mem_of_mem_take hd)
theorem okD_drop {xs : List Int} (h : okD xs) (n : Nat) : okD (xs.drop n) := fun d hd => h d (List.mem_of_mem_drop hd)
theorem okD_set {xs : List Int} (h : okD xs) {i : Nat} {x : Int} (hx : 0 ≤ x ∧ x ≤ 1073741823) : okD (xs.set i x) := fun d hd => by
 rcases List.mem_or_eq_of_mem_set hd with hd | rfl
 ·
  exact h d hd
 ·
  exact hx
theorem okD_rep (n : Nat) : okD (List.replicate n 0) := fun d hd => by rw [List.eq_of_mem_replicate hd]; omega
theorem vl_append (x y : List Int) : vl (x ++ y) = vl x + 1073741824 ^ x.length * vl y := by
 induction x with
 | nil => simp [vl]
 | cons d r ih => simp only [List.cons_append, vl, ih, List.length_cons, Nat.pow_succ]; grind
theorem vl_rep (n : Nat) : vl (List.replicate n 0) = 0 := by
 induction n with
 | zero => rfl
 | succ n ih => simp [List.replicate_succ, vl, ih]
theorem vl_one (d : Int) : vl [d] = d.toNat := by simp [vl]
theorem pow_pos' (n : Nat) : 0 < 1073741824 ^ n := Nat.pow_pos (by decide)
theorem vl_lt {xs : List Int} (h : okD xs) : vl xs < 1073741824 ^ xs.length := by
 induction xs with
 | nil => simp [vl]
 | cons d r ih =>
  obtain ⟨h1, h2⟩ := okD_cons.1 h
  have := ih h2
  simp only [vl, List.length_cons, Nat.pow_succ]
  generalize 1073741824 ^ r.length = p at *
  omega
theorem vl_take_drop (xs : List Int) (n : Nat) (h : n ≤ xs.length) : vl xs = vl (xs.take n) + 1073741824 ^ n * vl (xs.drop n) := by
 conv => lhs; rw [← List.take_append_drop n xs]
 rw [vl_append, List.length_take, Nat.min_eq_left h]
theorem vl_take_succ {xs : List Int} {i : Nat} (hi : i < xs.length) : vl (xs.take (i + 1)) = vl (xs.take i) + 1073741824 ^ i * (xs[i]?.getD 0).toNat := by
 rw [List.take_add_one, List.getElem?_eq_getElem hi]
 simp only [Option.toList_some, Option.getD_some]
 rw [vl_append, vl_one, List.length_take, Nat.min_eq_left (by omega)]
theorem vl_set {xs : List Int} {i : Nat} (hi : i < xs.length) (x : Int) : vl (xs.set i x) + 1073741824 ^ i * (xs[i]?.getD 0).toNat = vl xs + 1073741824 ^ i * x.toNat := by
 induction xs generalizing i with
 | nil => simp at hi
 | cons d r ih =>
  cases i with
  | zero => simp [vl]; omega
  | succ i =>
   have := ih (i := i) (by simpa using hi)
   simp only [List.set_cons_succ, vl, List.getElem?_cons_succ, Nat.pow_succ]
   grind
theorem trimL_nil {r : List Int} : trimL r = [] ↔ ∀ d ∈ r, d = 0 := by
 induction r with
 | nil => simp [trimL]
 | cons d r ih =>
  simp only [trimL, List.mem_cons, forall_eq_or_imp]
  cases ht : trimL r with
  | nil =>
   rw [ht] at ih
   have := ih.1 rfl
   by_cases h : d = 0
   ·
    simp only [h, if_true, true_and]; exact ⟨fun _ => this, fun _ => trivial⟩
   ·
    simp [h]
  | cons e s =>
   rw [ht] at ih
   have : ¬ ∀ d ∈ r, d = 0 := fun h => by have := ih.2 h; cases this
   simp [this]
theorem vl_trim (xs : List Int) : vl (trimL xs) = vl xs := by
 induction xs with
 | nil => rfl
 | cons d r ih =>
  simp only [trimL]
  cases ht : trimL r with
  | nil =>
   rw [ht] at ih
   have h0 : vl r = 0 := ih.symm
   simp only [vl, h0]
   split
   ·
    rename_i h; subst h; rfl
   ·
    simp [vl]
  | cons e s => rw [ht] at ih; simp only [vl, ← ih]
theorem okD_trim {xs : List Int} (h : okD xs) : okD (trimL xs) := by
 induction xs with
 | nil => exact okD_nil
 | cons d r ih =>
  obtain ⟨h1, h2⟩ := okD_cons.1 h
  simp only [trimL]
  have := ih h2
  cases ht : trimL r with
  | nil =>
   by_cases h0 : d = 0
   ·
    simp only [h0, if_true]; exact okD_nil
   ·
    simp only [h0, if_false]; exact okD_cons.2 ⟨h1, okD_nil⟩
  | cons e s => rw [ht] at this; exact okD_cons.2 ⟨h1, this⟩
theorem vl_zero {xs : List Int} (h : okD xs) (hz : vl xs = 0) : ∀ d ∈ xs, d = 0 := by
 induction xs with
 | nil => intro d hd; cases hd
 | cons d r ih =>
  obtain ⟨h1, h2⟩ := okD_cons.1 h
  simp only [vl] at hz
  intro e he
  rcases List.mem_cons.1 he with rfl | he
  ·
   omega
  ·
   exact ih h2 (by omega) e he
theorem dig_vl {xs : List Int} (h : okD xs) : dig (vl xs) = trimL xs := by
 induction xs with
 | nil => exact dig_zero
 | cons d r ih =>
  obtain ⟨h1, h2⟩ := okD_cons.1 h
  have ih := ih h2
  by_cases hz : vl (d :: r) = 0
  ·
   rw [hz, dig_zero]
   exact (trimL_nil.2 (vl_zero h hz)).symm
  ·
   rw [dig_pos hz]
   have e1 : vl (d :: r) % 1073741824 = d.toNat := by simp only [vl]; omega
   have e2 : vl (d :: r) / 1073741824 = vl r := by simp only [vl]; omega
   rw [e1, e2, ih, Int.toNat_of_nonneg h1.1]
   simp only [trimL]
   cases ht : trimL r with
   | nil =>
    have h0 : vl r = 0 := by rw [← vl_trim, ht]; rfl
    rw [if_neg]
    intro hd; subst hd
    simp [vl, h0] at hz
   | cons e s => rfl
theorem trim_canon {xs : List Int} (h : canon xs) : trimL xs = xs := by
 obtain ⟨h1, h2⟩ := h
 clear h1
 induction xs with
 | nil => rfl
 | cons d r ih =>
  simp only [trimL]
  cases r with
  | nil =>
   simp only [List.getLast?_singleton] at h2
   simp only [trimL]
   rw [if_neg (fun e => h2 (by rw [e]))]
  | cons e s =>
   rw [ih (by rwa [List.getLast?_cons_cons] at h2)]
theorem canon_dig (n : Nat) : canon (dig n) := by
 refine ⟨okD_dig n, ?_⟩
 induction n using Nat.strongRecOn with
 | _ n ih =>
  by_cases h : n = 0
  ·
   subst h; rw [dig_zero]; simp
  ·
   rw [dig_pos h]
   by_cases h2 : n / 1073741824 = 0
   ·
    rw [h2, dig_zero]
    simp only [List.getLast?_singleton]
    intro hh
    injection hh with hh
    omega
   ·
    have := ih _ (show n / 1073741824 < n by omega)
    rw [dig_pos h2] at this ⊢
    rw [List.getLast?_cons_cons]
    exact this
theorem canon_eq {xs : List Int} (h : canon xs) : dig (vl xs) = xs := by rw [dig_vl h.1, trim_canon h]
theorem canon_nil : canon [] := ⟨okD_nil, by simp⟩
theorem canon_len {xs : List Int} (h : canon xs) {k : Nat} : xs.length ≤ k ↔ vl xs < 1073741824 ^ k := by
 constructor
 ·
  intro hk
  exact Nat.lt_of_lt_of_le (vl_lt h.1) (Nat.pow_le_pow_right (by decide) hk)
 ·
  intro hv
  rcases Nat.lt_or_ge k xs.length with hlt | hge
  ·
   exfalso
   have h0 : xs ≠ [] := by intro e; subst e; simp at hlt
   have hl : xs = xs.dropLast ++ [xs.getLast h0] := (List.dropLast_concat_getLast h0).symm
   have hne : xs.getLast h0 ≠ 0 := fun e => h.2 (by rw [List.getLast?_eq_some_getLast h0, e])
   have hr := h.1 _ (List.getLast_mem h0)
   rw [hl, vl_append, vl_one] at hv
   have hle : 1073741824 ^ k ≤ 1073741824 ^ xs.dropLast.length := Nat.pow_le_pow_right (by decide) (by rw [List.length_dropLast]; omega)
   have h1 : 1 ≤ (xs.getLast h0).toNat := by omega
   have := Nat.mul_le_mul_left (1073741824 ^ xs.dropLast.length) h1
   omega
  ·
   exact hge
theorem dig_len {n k : Nat} : (dig n).length ≤ k ↔ n < 1073741824 ^ k := by rw [canon_len (canon_dig n), vl_dig]
theorem dig_le {n k j : Nat} (h : n < 1073741824 ^ k) (hk : k ≤ j) : (dig n).length ≤ j := by rw [dig_len]; exact Nat.lt_of_lt_of_le h (Nat.pow_le_pow_right (by decide) hk)
theorem canon_zero {xs : List Int} (h : canon xs) : vl xs = 0 ↔ xs = [] := by
 constructor
 ·
  intro hz; rw [← canon_eq h, hz, dig_zero]
 ·
  intro e; subst e; rfl
theorem dig_nil {n : Nat} : dig n = [] ↔ n = 0 := by
 constructor
 ·
  intro h
  have := vl_dig n
  rw [h] at this
  exact this.symm
 ·
  rintro rfl; exact dig_zero
theorem dig_one : dig 1 = [1] := by rw [dig_pos (by decide), dig_zero]; rfl
theorem vl_pos {xs : List Int} (h : canon xs) : 0 < vl xs ↔ 0 < xs.length := by
 have := canon_zero h
 constructor
 ·
  intro hp; rw [List.length_pos_iff]; intro e; rw [this.2 e] at hp; omega
 ·
  intro hp; rw [List.length_pos_iff] at hp; rcases Nat.eq_zero_or_pos (vl xs) with h | h
  ·
   exact absurd (this.1 h) hp
  ·
   exact h
theorem canon_last {xs : List Int} (h : canon xs) (hp : 0 < xs.length) : 1 ≤ xs[xs.length - 1]?.getD 0 ∧ xs[xs.length - 1]?.getD 0 ≤ 1073741823 := by
 have hr := okD_get h.1 (i := xs.length - 1) (by omega)
 refine ⟨?_, hr.2⟩
 have hne : xs[xs.length - 1]?.getD 0 ≠ 0 := fun e => h.2 (by rw [List.getLast?_eq_getElem?, List.getElem?_eq_getElem (by omega)]; rw [List.getElem?_eq_getElem (by omega)] at e; simpa using e)
 omega
theorem canon_of {xs : List Int} (h : okD xs) (hl : 0 < xs.length → xs[xs.length - 1]?.getD 0 ≠ 0) : canon xs := by
 refine ⟨h, fun e => ?_⟩
 rw [List.getLast?_eq_getElem?] at e
 have hp : 0 < xs.length := by
  cases xs with
  | nil => simp at e
  | cons a b => simp
 exact hl hp (by rw [e]; rfl)
theorem vl_drop (xs : List Int) {i : Nat} (h : i < xs.length) : vl (xs.drop i) = (xs[i]?.getD 0).toNat + 1073741824 * vl (xs.drop (i + 1)) := by
 rw [List.drop_eq_getElem_cons h, List.getElem?_eq_getElem h]; rfl
theorem vl_less {a b : List Int} (ha : okD a) (hb : okD b) {i : Nat} (hia : i < a.length) (hib : i < b.length) (hd : a.drop (i + 1) = b.drop (i + 1)) (h : a[i]?.getD 0 < b[i]?.getD 0) : vl a < vl b := by
 rw [vl_take_drop a i (by omega), vl_take_drop b i (by omega), vl_drop a hia, vl_drop b hib, hd]
 have h1 := vl_lt (okD_take ha i)
 rw [List.length_take, Nat.min_eq_left (by omega)] at h1
 have h2 := okD_get ha hia
 have h3 : (a[i]?.getD 0).toNat + 1 ≤ (b[i]?.getD 0).toNat := by omega
 have h4 := Nat.mul_le_mul_left (1073741824 ^ i) h3
 rw [Nat.mul_add, Nat.mul_one] at h4
 rw [Nat.mul_add, Nat.mul_add]
 omega
theorem vl_len {a b : List Int} (ha : canon a) (hb : canon b) (h : a.length < b.length) : vl a < vl b := by
 have h1 := vl_lt ha.1
 have h2 : ¬ vl b < 1073741824 ^ a.length := fun h2 => by have := (canon_len hb).2 h2; omega
 omega
def cmpN (a b : Nat) : Int := if a < b then -1 else if b < a then 1 else 0
theorem cmpN_lt {a b : Nat} (h : a < b) : cmpN a b = -1 := if_pos h
theorem cmpN_gt {a b : Nat} (h : b < a) : cmpN a b = 1 := by unfold cmpN; rw [if_neg (by omega), if_pos h]
theorem cmpN_eq (a : Nat) : cmpN a a = 0 := by unfold cmpN; rw [if_neg (by omega), if_neg (by omega)]
theorem trimL_append_zero (x y : List Int) (h : ∀ d ∈ y, d = 0) : trimL (x ++ y) = trimL x := by
 induction x with
 | nil => exact trimL_nil.2 h
 | cons d r ih => simp only [List.cons_append, trimL, ih]
theorem trimL_last (x : List Int) (d : Int) (h : d ≠ 0) : trimL (x ++ [d]) = x ++ [d] := by
 induction x with
 | nil => simp [trimL, h]
 | cons e r ih =>
  simp only [List.cons_append, trimL, ih]
  cases r <;> rfl
theorem take_trim {xs : List Int} {n : Nat} (hn : n ≤ xs.length) (hz : ∀ d ∈ xs.drop n, d = 0) (h : 0 < n → xs[n - 1]?.getD 0 ≠ 0) : xs.take n = trimL xs := by
 conv => rhs; rw [← List.take_append_drop n xs, trimL_append_zero _ _ hz]
 rcases Nat.eq_zero_or_pos n with rfl | hp
 ·
  rfl
 ·
  have := h hp
  rw [List.getElem?_eq_getElem (by omega), Option.getD_some] at this
  have e : xs.take n = xs.take (n - 1) ++ [xs[n - 1]] := by
   conv => lhs; rw [show n = (n - 1) + 1 by omega]
   rw [List.take_add_one, List.getElem?_eq_getElem (by omega)]
   rfl
  rw [e, trimL_last _ _ this]
theorem trimL_len (xs : List Int) : (trimL xs).length ≤ xs.length := by
 induction xs with
 | nil => exact Nat.le_refl _
 | cons d r ih =>
  simp only [trimL]
  cases ht : trimL r with
  | nil => by_cases h : d = 0 <;> simp [h]
  | cons e s => rw [ht] at ih; simp only [List.length_cons] at ih ⊢; omega
theorem trimL_take (xs : List Int) : trimL xs = xs.take (trimL xs).length := by
 induction xs with
 | nil => rfl
 | cons d r ih =>
  simp only [trimL]
  cases ht : trimL r with
  | nil => by_cases h : d = 0 <;> simp [h]
  | cons e s => rw [ht] at ih; simp only [List.length_cons, List.take_succ_cons] at ih ⊢; rw [← ih]
theorem mul_range {x y : Int} (hx : 0 ≤ x ∧ x ≤ 1073741823) (hy : 0 ≤ y ∧ y ≤ 1073741823) : 0 ≤ x * y ∧ x * y ≤ 1152921502459363329 := by
 refine ⟨Int.mul_nonneg hx.1 hy.1, ?_⟩
 have h1 := Int.mul_le_mul hx.2 hy.2 hy.1 (by decide : (0 : Int) ≤ 1073741823)
 simpa using h1
theorem mul_step {xs ys b : List Int} {i k : Nat} {A ov s : Int} (hyo : okD ys) (hik : i + k < ys.length) (hk : k < b.length) (hb : okD b) (hA : 0 ≤ A ∧ A ≤ 1073741823) (hov : 0 ≤ ov ∧ ov ≤ 1073741823)
  (hyv : vl ys + 1073741824 ^ (i + k) * ov.toNat = vl xs + 1073741824 ^ i * (A.toNat * vl (b.take k))) (hs : s = ys[i + k]?.getD 0 + A * b[k]?.getD 0 + ov) :
  (0 ≤ s ∧ s ≤ 1152921504606846975) ∧ (0 ≤ s / 1073741824 ∧ s / 1073741824 ≤ 1073741823) ∧ (0 ≤ s % 1073741824 ∧ s % 1073741824 ≤ 1073741823) ∧ okD (ys.set (i + k) (s % 1073741824)) ∧
   vl (ys.set (i + k) (s % 1073741824)) + 1073741824 ^ (i + (k + 1)) * (s / 1073741824).toNat = vl xs + 1073741824 ^ i * (A.toNat * vl (b.take (k + 1))) := by
 have hy := okD_get hyo hik
 have hbk := okD_get hb hk
 have hm := mul_range hA hbk
 have hs0 : 0 ≤ s ∧ s ≤ 1152921504606846975 := by omega
 have hr : 0 ≤ s % 1073741824 ∧ s % 1073741824 ≤ 1073741823 := by omega
 refine ⟨hs0, by omega, hr, okD_set hyo hr, ?_⟩
 have h1 := vl_set hik (s % 1073741824)
 have h2 := vl_take_succ hk
 have hsn : s.toNat = (ys[i + k]?.getD 0).toNat + A.toNat * (b[k]?.getD 0).toNat + ov.toNat := by
  rw [← Int.toNat_mul hA.1 hbk.1]
  omega
 have hdm : s.toNat = 1073741824 * (s / 1073741824).toNat + (s % 1073741824).toNat := by omega
 rw [h2]
 generalize (s / 1073741824).toNat = q at *
 generalize (s % 1073741824).toNat = r at *
 generalize (ys[i + k]?.getD 0).toNat = Y at *
 generalize (b[k]?.getD 0).toNat = C at *
 generalize A.toNat = A' at *
 generalize ov.toNat = o at *
 generalize vl (ys.set (i + k) (s % 1073741824)) = V at *
 generalize vl ys = W at *
 generalize vl xs = X at *
 generalize vl (b.take k) = T at *
 have e1 : 1073741824 ^ (i + (k + 1)) = 1073741824 ^ (i + k) * 1073741824 := by rw [← Nat.add_assoc, Nat.pow_succ]
 have e2 : 1073741824 ^ (i + k) = 1073741824 ^ i * 1073741824 ^ k := Nat.pow_add ..
 rw [e1]
 generalize hp : 1073741824 ^ (i + k) = p at *
 generalize 1073741824 ^ i = pi at *
 generalize 1073741824 ^ k = pk at *
 grind
theorem drop_set_succ (ys : List Int) (j : Nat) (r : Int) : (ys.set j r).drop (j + 1) = ys.drop (j + 1) := List.drop_set_of_lt (by omega)
theorem drop_eq_succ {ys xs : List Int} {j : Nat} (h : ys.drop j = xs.drop j) : ys.drop (j + 1) = xs.drop (j + 1) := by
 rw [← List.drop_drop, ← List.drop_drop, h]
theorem row_end {xs ys a b : List Int} {i : Nat} {ov : Int} (hil : i < a.length) (hl : ys.length = a.length + b.length) (hyo : okD ys) (ha : okD a) (hov : 0 ≤ ov ∧ ov ≤ 1073741823)
  (hyv : vl ys + 1073741824 ^ (i + b.length) * ov.toNat = vl xs + 1073741824 ^ i * ((a[i]?.getD 0).toNat * vl (b.take b.length))) (hyd : ys.drop (i + b.length) = xs.drop (i + b.length)) (hxz : ∀ d ∈ xs.drop (i + b.length), d = 0)
  (hxv : vl xs = vl (a.take i) * vl b) : okD (ys.set (i + b.length) ov) ∧ vl (ys.set (i + b.length) ov) = vl (a.take (i + 1)) * vl b ∧ ∀ d ∈ (ys.set (i + b.length) ov).drop (i + 1 + b.length), d = 0 := by
 have hlt : i + b.length < ys.length := by omega
 have h0 : ys[i + b.length]?.getD 0 = 0 := by
  rw [List.getElem?_eq_getElem hlt, Option.getD_some]
  refine hxz _ ?_
  rw [← hyd, List.drop_eq_getElem_cons hlt]
  exact List.mem_cons_self ..
 refine ⟨okD_set hyo hov, ?_, ?_⟩
 ·
  have h1 := vl_set hlt ov
  rw [h0] at h1
  have h2 := vl_take_succ hil
  rw [h2]
  rw [List.take_of_length_le (Nat.le_refl _), hxv] at hyv
  simp only [Int.toNat_zero, Nat.mul_zero, Nat.add_zero] at h1
  rw [h1, hyv]
  generalize (a[i]?.getD 0).toNat = A
  generalize 1073741824 ^ i = p
  grind
 ·
  rw [show i + 1 + b.length = i + b.length + 1 by omega, drop_set_succ, drop_eq_succ hyd]
  intro d hd
  refine hxz d ?_
  rw [← List.drop_drop] at hd
  exact List.mem_of_mem_drop hd
theorem less_ring1 {p v d b y a x o : Nat} (h : v + b = a + p * o) (hd : d + y + o = x + 1073741824) : v + p * d + (b + p * y) = a + p * x + p * 1073741824 * 1 := by
 have h1 : p * d + p * y + p * o = p * x + p * 1073741824 := by rw [← Nat.mul_add, ← Nat.mul_add, ← Nat.mul_add, hd]
 rw [Nat.mul_one]
 generalize p * d = q1 at *
 generalize p * y = q2 at *
 generalize p * o = q3 at *
 generalize p * x = q4 at *
 generalize p * 1073741824 = q5 at *
 omega
theorem less_ring2 {p v d b y a x o q : Nat} (h : v + b = a + p * o) (hd : d + y + o = x) : v + p * d + (b + p * y) = a + p * x + q * 0 := by
 have h1 : p * d + p * y + p * o = p * x := by rw [← Nat.mul_add, ← Nat.mul_add, hd]
 rw [Nat.mul_zero]
 omega
theorem less_step {a b out : List Int} {i ow : Nat} {n : Int} (ha : okD a) (hb : okD b) (hi : i < a.length) (hlen : out.length = i) (ho : okD out) (how : ow = 0 ∨ ow = 1)
  (hv : vl out + vl (b.take i) = vl (a.take i) + 1073741824 ^ i * ow) (hn : n = a[i]?.getD 0 - b[i]?.getD 0 - ow) :
  (-1073741824 ≤ n ∧ n ≤ 1073741823) ∧ (n < 0 → okD (out ++ [n + 1073741824]) ∧ vl (out ++ [n + 1073741824]) + vl (b.take (i + 1)) = vl (a.take (i + 1)) + 1073741824 ^ (i + 1) * 1) ∧
   (0 ≤ n → okD (out ++ [n]) ∧ vl (out ++ [n]) + vl (b.take (i + 1)) = vl (a.take (i + 1)) + 1073741824 ^ (i + 1) * 0) := by
 have h1 := okD_get ha hi
 have h2 : 0 ≤ b[i]?.getD 0 ∧ b[i]?.getD 0 ≤ 1073741823 := by
  rcases Nat.lt_or_ge i b.length with h | h
  ·
   exact okD_get hb h
  ·
   rw [List.getElem?_eq_none h, Option.getD_none]; omega
 have e1 := vl_take_succ hi
 have e2 : vl (b.take (i + 1)) = vl (b.take i) + 1073741824 ^ i * (b[i]?.getD 0).toNat := by
  rcases Nat.lt_or_ge i b.length with h | h
  ·
   exact vl_take_succ h
  ·
   rw [List.getElem?_eq_none h, List.take_of_length_le (by omega), List.take_of_length_le (by omega), Option.getD_none, Int.toNat_zero, Nat.mul_zero, Nat.add_zero]
 have hr : -1073741824 ≤ n ∧ n ≤ 1073741823 := by omega
 have key : ∀ d : Int, 0 ≤ d → vl (out ++ [d]) = vl out + 1073741824 ^ i * d.toNat := fun d hd => by rw [vl_append, vl_one, hlen]
 refine ⟨hr, fun hneg => ⟨okD_append.2 ⟨ho, okD_cons.2 ⟨⟨by omega, by omega⟩, okD_nil⟩⟩, ?_⟩, fun hpos => ⟨okD_append.2 ⟨ho, okD_cons.2 ⟨⟨by omega, by omega⟩, okD_nil⟩⟩, ?_⟩⟩
 ·
  rw [key _ (by omega), e1, e2, Nat.pow_succ]
  exact less_ring1 hv (by omega)
 ·
  rw [key _ hpos, e1, e2]
  exact less_ring2 hv (by omega)
theorem less_end {a b out : List Int} {ow : Nat} (ha : okD a) (hb : canon b) (hle : vl b ≤ vl a) (hlen : out.length = a.length) (ho : okD out) (how : ow = 0 ∨ ow = 1)
  (hv : vl out + vl (b.take a.length) = vl (a.take a.length) + 1073741824 ^ a.length * ow) : trimL out = dig (vl a - vl b) := by
 have hbl : b.length ≤ a.length := (canon_len hb).2 (Nat.lt_of_le_of_lt hle (vl_lt ha))
 rw [List.take_of_length_le hbl, List.take_of_length_le (Nat.le_refl _)] at hv
 have hlt := vl_lt ho
 rw [hlen] at hlt
 rw [← dig_vl ho]
 congr 1
 generalize 1073741824 ^ a.length = p at *
 rcases how with rfl | rfl
 ·
  rw [Nat.mul_zero] at hv; omega
 ·
  rw [Nat.mul_one] at hv; omega
theorem cmpN_neg {a b : Nat} : cmpN a b < 0 ↔ a < b := by
 unfold cmpN
 split
 ·
  simp_all
 ·
  split <;> simp_all
theorem cmpN_pos {a b : Nat} : 0 < cmpN a b ↔ b < a := by
 unfold cmpN
 split
 ·
  simp_all; omega
 ·
  split <;> simp_all
theorem div_push {a : List Int} (ha : okD a) {k : Nat} (hk : k < a.length) (R : Nat) : trimL (a[k]?.getD 0 :: dig R) = dig ((a[k]?.getD 0).toNat + 1073741824 * R) := by
 rw [← dig_vl (okD_cons.2 ⟨okD_get ha hk, okD_dig R⟩)]
 simp only [vl, vl_dig]
theorem div_lt {x R v : Nat} (hx : x ≤ 1073741823) (hR : R < v) : x + 1073741824 * R < (1073741823 + 1) * v := by omega
theorem div_row {a q : List Int} {k R lo vb : Nat} (hk : k < a.length) (hql : q.length = a.length) (hqo : okD q) (hqz : ∀ d ∈ q.take (k + 1), d = 0) (hqv : vl (a.drop (k + 1)) = vl (q.drop (k + 1)) * vb + R)
  (hlo : lo ≤ 1073741823) (h1 : lo * vb ≤ (a[k]?.getD 0).toNat + 1073741824 * R) : okD (q.set k lo) ∧ (∀ d ∈ (q.set k lo).take k, d = 0) ∧
   vl (a.drop k) = vl ((q.set k (lo : Int)).drop k) * vb + ((a[k]?.getD 0).toNat + 1073741824 * R - lo * vb) := by
 have hkq : k < q.length := by omega
 refine ⟨okD_set hqo (by omega), fun d hd => ?_, ?_⟩
 ·
  rw [List.take_set_of_le (by omega)] at hd
  exact hqz d (List.mem_of_mem_take (by rw [List.take_take, Nat.min_eq_left (by omega)]; exact hd : d ∈ List.take k (q.take (k + 1))))
 ·
  rw [vl_drop a hk, vl_drop (q.set k lo) (by rw [List.length_set]; exact hkq), drop_set_succ, hqv]
  rw [List.getElem?_set_self hkq, Option.getD_some, Int.toNat_natCast]
  have e : (lo + 1073741824 * vl (q.drop (k + 1))) * vb = lo * vb + 1073741824 * (vl (q.drop (k + 1)) * vb) := by rw [Nat.add_mul, Nat.mul_assoc]
  rw [e]
  generalize vl (q.drop (k + 1)) * vb = Q
  generalize lo * vb = L at *
  omega
theorem set_same {q : List Int} {k : Nat} (hk : k < q.length) (h : ∀ d ∈ q.take (k + 1), d = 0) : q.set k ((0 : Nat) : Int) = q := by
 have : q[k] = 0 := h _ (by rw [List.mem_take_iff_getElem]; exact ⟨k, by omega, rfl⟩)
 rw [show ((0 : Nat) : Int) = q[k] from this.symm]
 exact List.set_getElem_self hk
theorem dig_len_mul {n m k : Nat} {b : List Int} (hb : canon b) (hm : m ≤ 1073741823) (hn : n ≤ m * vl b) (hk : b.length + 1 ≤ k) : (dig n).length ≤ k := by
 rw [dig_len]
 have h1 := vl_lt hb.1
 have h2 : 1073741824 ^ (b.length + 1) ≤ 1073741824 ^ k := Nat.pow_le_pow_right (by decide) hk
 have h3 : m * vl b ≤ 1073741823 * vl b := Nat.mul_le_mul_right _ hm
 rw [Nat.pow_succ] at h2
 generalize 1073741824 ^ b.length = p at *
 omega
def cmpZ (a b : Int) : Int := if a < b then -1 else if b < a then 1 else 0
theorem cmpZ_nat (a b : Nat) : cmpZ (a : Int) (b : Int) = cmpN a b := by
 unfold cmpZ cmpN
 simp only [Int.ofNat_lt]
theorem cmpZ_neg (a b : Int) : cmpZ (-a) (-b) = cmpZ b a := by
 unfold cmpZ
 split <;> split <;> (try split) <;> (try split) <;> omega
theorem cmpZ_lt {a b : Int} (h : a < b) : cmpZ a b = -1 := if_pos h
theorem cmpZ_gt {a b : Int} (h : b < a) : cmpZ a b = 1 := by unfold cmpZ; rw [if_neg (by omega), if_pos h]
def sgn (ng : Bool) (m : List Int) : Int := if ng then -(vl m : Int) else (vl m : Int)
theorem sgn_true (m : List Int) : sgn true m = -(vl m : Int) := rfl
theorem sgn_false (m : List Int) : sgn false m = (vl m : Int) := rfl
theorem make_step {out : List Int} {k n : Int} (ho : okD out) (hv : vl out + 1073741824 ^ out.length * k.natAbs = n.natAbs) (d : Int) (hd : d = if k.tmod 1073741824 < 0 then -(k.tmod 1073741824) else k.tmod 1073741824) :
  okD (out ++ [d]) ∧ vl (out ++ [d]) + 1073741824 ^ (out ++ [d]).length * (k.tdiv 1073741824).natAbs = n.natAbs := by
 have h1 : (k.tdiv 1073741824).natAbs = k.natAbs / 1073741824 := by rw [Int.natAbs_tdiv]; rfl
 have h2 : d = ((k.natAbs % 1073741824 : Nat) : Int) := by
  have h3 : (k.tmod 1073741824).natAbs = k.natAbs % 1073741824 := by rw [Int.natAbs_tmod]; rfl
  split at hd <;> omega
 refine ⟨okD_append.2 ⟨ho, okD_cons.2 ⟨by omega, okD_nil⟩⟩, ?_⟩
 rw [vl_append, vl_one, h1, h2, List.length_append, List.length_singleton, Nat.pow_succ, Int.toNat_natCast, ← hv, Nat.mul_assoc, Nat.add_assoc, ← Nat.mul_add]
 congr 2
 omega
theorem canon_snoc {x : List Int} {d : Int} (h : okD (x ++ [d])) (hd : d ≠ 0) : canon (x ++ [d]) := ⟨h, by rw [List.getLast?_concat]; simpa using hd⟩
theorem flats_int_get {k : IntKind} : ∀ (xs : List Int) (j : Nat), ((Ty.int k).flats xs)[j]? = (xs[j]?).map (SV.int k)
 | [], j => by simp [Ty.flats]
 | x :: xs, 0 => by simp [Ty.flats, Ty.flat]
 | x :: xs, j + 1 => by simp [Ty.flats, Ty.flat, flats_int_get xs j]
def fvParts : SV → Option (FuncId × List (Sigma Ty.T))
 | .fn f [] => some (f, [])
 | .fnp f caps => some (f, caps)
 | .fv x => x.parts
 | _ => none
end Go.Am
namespace Go.Am
open Go.RowKit
abbrev tI : Ty := .int .i64
theorem ok_of_all {P : Program} {g : G} (h : ∀ p ∈ g.τ, p.2.ok P p.1) : G.ok P g := by
 intro t d hl
 have : ∀ l : List (TypeId × TD), look l t = some d → (t, d) ∈ l := by
  intro l
  induction l with
  | nil => intro h; simp [look] at h
  | cons p l ih =>
   intro h
   obtain ⟨k, x⟩ := p
   simp only [look] at h
   split at h
   ·
    rename_i e; subst e; injection h with h; subst h; exact .head _
   ·
    exact .tail _ (ih h)
 exact h _ (this _ hl)
def fieldsOf (P : Program) (t : TypeId) : Array Field := match P.underlying t with
 | some (.struct fs) => fs
 | _ => #[]
theorem below_of_pure {x : SV} (n : Nat) (h : x.pure = true) : x.below n = true := by
 cases x <;> simp_all [SV.pure, SV.below]
theorem flats_below (t : Ty) (xs : List t.T) (n : Nat) : (t.flats xs).all (fun x => x.below n) = true := by
 have h := flats_pure t xs
 rw [List.all_eq_true] at h ⊢
 exact fun x hx => below_of_pure n (h x hx)
theorem arr_below (al : Bool) (t : Ty) (xs : List t.T) (n : Nat) : (Blk.arr al (t.flats xs)).below n = true := flats_below t xs n
def Known (P : Program) (Γ : List (FuncId × Con)) : Prop := ∀ f c, look Γ f = some c → (∀ (args : Array Value) (w : World), (callFunc f args).run P w = .ok (.enter f args) w) ∧ PureOk P f c
theorem Known.nil {P : Program} : Known P [] := fun f c h => by simp [look] at h
theorem Known.cons {P : Program} {Γ : List (FuncId × Con)} {f : FuncId} {c : Con} (h1 : ∀ (args : Array Value) (w : World), (callFunc f args).run P w = .ok (.enter f args) w) (h2 : PureOk P f c) (h : Known P Γ) : Known P ((f, c) :: Γ) := by
 intro f' c' hl
 simp only [look] at hl
 split at hl
 ·
  rename_i e; subst e; injection hl with hl; subst hl; exact ⟨h1, h2⟩
 ·
  exact h f' c' hl
noncomputable def apV (Γ : List (FuncId × Con)) (f : FuncId) (caps : List (Sigma Ty.T)) (args : List AV) : RV := match look Γ f with
 | some c => c.val (args ++ caps.map capAV)
 | none => .v (.s .any)
def fnTo (Γ : List (FuncId × Con)) (t u : Ty) (f : FuncId) (caps : List (Sigma Ty.T)) (h : t.T → u.T) (D : t.T → Prop) : Prop :=
 ∃ c, look Γ f = some c ∧ (∀ x, c.val (t.av x :: caps.map capAV) = .v (u.av (h x))) ∧ ∀ x, D x → c.pre (t.av x :: caps.map capAV)
noncomputable def mapV (Γ : List (FuncId × Con)) (t u : Ty) (f : FuncId) (caps : List (Sigma Ty.T)) (xs : List t.T) : List u.T := xs.map fun x => (u.of (apV Γ f caps [t.av x]).av).getD u.dflt
theorem of_av : ∀ (t : Ty), t ≠ .nil → ∀ x : t.T, t.of (t.av x) = some x
 | .int k, _, x => by simp [Ty.av, Ty.of, Ty.nfld, Ty.parse]
 | .bool, _, x => by simp [Ty.av, Ty.of, Ty.nfld, Ty.parse]
 | .str, _, x => by simp [Ty.av, Ty.of, Ty.nfld, Ty.parse]
 | .slice t, _, x => by simp [Ty.av, Ty.of, Ty.nfld, Ty.parse]
 | .nil, h, _ => absurd rfl h
 | .fn, _, x => by simp [Ty.av, Ty.of, Ty.nfld, Ty.parse]
 | .cons t r, _, x => by
  have := parses_flat (.cons t r) x []
  simp only [List.append_nil] at this
  simp [Ty.av, Ty.of, Ty.nfld, this]
theorem mapV_eq {Γ : List (FuncId × Con)} {t u : Ty} {f : FuncId} {caps : List (Sigma Ty.T)} {h : t.T → u.T} {D : t.T → Prop} (hu : u ≠ .nil) (hf : fnTo Γ t u f caps h D) (xs : List t.T) : mapV Γ t u f caps xs = xs.map h := by
 obtain ⟨c, h1, h2, _⟩ := hf
 unfold mapV
 refine List.map_congr_left fun x _ => ?_
 simp only [apV, h1, List.singleton_append, h2, RV.av, of_av u hu, Option.getD_some]
noncomputable def apB (Γ : List (FuncId × Con)) (t : Ty) (f : FuncId) (caps : List (Sigma Ty.T)) (x : t.T) : Bool := (Ty.of .bool (apV Γ f caps [t.av x]).av).getD false
theorem apB_eq {Γ : List (FuncId × Con)} {t : Ty} {f : FuncId} {caps : List (Sigma Ty.T)} {h : t.T → Bool} {D : t.T → Prop} (hf : fnTo Γ t .bool f caps h D) (x : t.T) : apB Γ t f caps x = h x := by
 obtain ⟨c, h1, h2, _⟩ := hf
 unfold apB
 simp only [apV, h1, List.singleton_append, h2, RV.av, of_av .bool (by decide), Option.getD_some]
def idxOf {α : Type} (p : α → Bool) (xs : List α) : Int := match xs.findIdx? p with
 | some i => i
 | none => -1
theorem idxOf_at {α : Type} {p : α → Bool} {xs : List α} {i : Nat} (hi : i < xs.length) (d : α) (h : p (xs[i]?.getD d) = true) (hno : ∀ j, j < i → p (xs[j]?.getD d) = false) : idxOf p xs = i := by
 have : xs.findIdx? p = some i := by
  rw [List.findIdx?_eq_some_iff_getElem]
  refine ⟨hi, by rw [getD_lt hi] at h; exact h, fun j hj => ?_⟩
  have := hno j hj
  rw [getD_lt (by omega)] at this
  simp [this]
 simp [idxOf, this]
theorem idxOf_none {α : Type} {p : α → Bool} {xs : List α} (d : α) (hno : ∀ j, j < xs.length → p (xs[j]?.getD d) = false) : idxOf p xs = -1 := by
 have : xs.findIdx? p = none := by
  rw [List.findIdx?_eq_none_iff]
  intro x hx
  obtain ⟨j, hj, rfl⟩ := List.mem_iff_getElem.1 hx
  have := hno j hj
  rwa [getD_lt hj] at this
 simp [idxOf, this]
theorem idxOf_any {α : Type} (p : α → Bool) (xs : List α) : decide (0 ≤ idxOf p xs) = xs.any p := by
 unfold idxOf
 rw [Bool.eq_iff_iff, decide_eq_true_eq, List.any_eq_true]
 cases h : xs.findIdx? p with
 | none =>
  rw [List.findIdx?_eq_none_iff] at h
  constructor
  ·
   intro h0; exact absurd h0 (by decide)
  ·
   rintro ⟨x, hx, hp⟩; rw [h x hx] at hp; cases hp
 | some i =>
  rw [List.findIdx?_eq_some_iff_getElem] at h
  obtain ⟨hi, hp, _⟩ := h
  constructor
  ·
   intro _; exact ⟨_, List.getElem_mem hi, hp⟩
  ·
   intro _; exact Int.natCast_nonneg i
theorem fnTo.mono {Γ : List (FuncId × Con)} {t u : Ty} {f : FuncId} {caps : List (Sigma Ty.T)} {h : t.T → u.T} {D D' : t.T → Prop} (hf : fnTo Γ t u f caps h D) (hd : ∀ x, D' x → D x) : fnTo Γ t u f caps h D' := by
 obtain ⟨c, h1, h2, h3⟩ := hf
 exact ⟨c, h1, h2, fun x hx => h3 x (hd x hx)⟩
theorem caps_all (caps : List (Sigma Ty.T)) : (caps.map capAV).all AV.pure = true := by
 rw [List.all_map, List.all_eq_true]; intro x _; rfl
theorem caps_all' (caps : List (Sigma Ty.T)) : caps.all (AV.pure ∘ capAV) = true := by
 rw [List.all_eq_true]; intro x _; rfl
theorem PureOk.of {P : Program} {f : FuncId} {con : Con} (h : ∀ args, con.pre args → ∃ con', PureOk P f con' ∧ con'.pre args ∧ con'.val args = con.val args) : PureOk P f con := by
 intro w M0 args vs hpre hM hargs
 obtain ⟨con', h1, h2, h3⟩ := h args hpre
 have := h1 w M0 args vs h2 hM hargs
 rwa [h3] at this
theorem EffOk.of {P : Program} {f : FuncId} {con : ECon} (h : ∀ args hp K, con.wp args hp K → ∃ con', EffOk P f con' ∧ con'.wp args hp K) : EffOk P f con := by
 intro w M0 bs hp args vs K hpre hr hpure hargs
 obtain ⟨con', h1, h2⟩ := h args hp K hpre
 exact h1 w M0 bs hp args vs K h2 hr hpure hargs
def g1 (τ : List (TypeId × TD)) (f : FuncId) (c : Con) : G := { τ := τ, Γ := [(f, c)] }
theorem g1_good {P : Program} {τ : List (TypeId × TD)} {f : FuncId} {c : Con} (hτ : ∀ g : G, g.τ = τ → G.ok P g) (h1 : ∀ (args : Array Value) (w : World), (callFunc f args).run P w = .ok (.enter f args) w) (h2 : PureOk P f c) : (g1 τ f c).good P :=
 good_of_all (hτ _ rfl) (fun p hp => by simp only [g1, List.mem_singleton] at hp; subst hp; exact ⟨h1, h2⟩) (fun p hp => by cases hp) (fun p hp => by cases hp)
theorem g1_td {τ : List (TypeId × TD)} {f : FuncId} {c : Con} (t : TypeId) : (g1 τ f c).td t = (look τ t).getD .other := rfl
theorem g1_y {τ : List (TypeId × TD)} {f : FuncId} {c : Con} : (g1 τ f c).y = false := rfl
theorem g1_Γ {τ : List (TypeId × TD)} {f : FuncId} {c : Con} : (g1 τ f c).Γ = [(f, c)] := rfl
theorem g1_E {τ : List (TypeId × TD)} {f : FuncId} {c : Con} : (g1 τ f c).E = [] := rfl
theorem g1_Pn {τ : List (TypeId × TD)} {f : FuncId} {c : Con} : (g1 τ f c).Pn = [] := rfl
theorem g1_fz {τ : List (TypeId × TD)} {f : FuncId} {c : Con} : (g1 τ f c).fz = [] := rfl
def seqOf (It : List (FuncId × ItCon)) (f : FuncId) (caps : List (Sigma Ty.T)) (t : Ty) (xs : List t.T) : Prop := ∃ ic, look It f = some ic ∧ ic.pre (caps.map capAV) ∧ ic.xs (caps.map capAV) = xs.map fun x => [t.av x]
def KnownIt (P : Program) (It : List (FuncId × ItCon)) : Prop := ∀ f ic, look It f = some ic → ItOk P f ic
theorem KnownIt.nil {P : Program} : KnownIt P [] := fun f c h => by simp [look] at h
theorem KnownIt.cons {P : Program} {It : List (FuncId × ItCon)} {f : FuncId} {c : ItCon} (h2 : ItOk P f c) (h : KnownIt P It) : KnownIt P ((f, c) :: It) := by
 intro f' c' hl
 simp only [look] at hl
 split at hl
 ·
  rename_i e; subst e; injection hl with hl; subst hl; exact h2
 ·
  exact h f' c' hl
theorem take_map_av {t : Ty} (xs : List t.T) (i : Nat) {args : List AV} (h : (xs.map fun x => [t.av x])[i]? = some args) : ∃ hl : i < xs.length, args = [t.av xs[i]] := by
 rw [List.getElem?_map] at h
 cases hx : xs[i]? with
 | none => rw [hx] at h; cases h
 | some x => rw [hx] at h; cases h; obtain ⟨h1, h2⟩ := List.getElem?_eq_some_iff.1 hx; exact ⟨h1, by rw [h2]⟩
theorem map_take_succ {α β : Type} (h : α → β) (xs : List α) {i : Nat} (hi : i < xs.length) (d : α) : (xs.map h).take (i + 1) = (xs.map h).take i ++ [h (xs[i]?.getD d)] := by
 rw [List.take_add_one, List.getElem?_map, List.getElem?_eq_getElem hi]; rfl
theorem map_take_all {α β : Type} (h : α → β) (xs : List α) {i : Nat} (hi : xs.length ≤ i) : (xs.map h).take i = xs.map h := List.take_of_length_le (by simpa using hi)
theorem take_succ_get {α : Type} (xs : List α) {i : Nat} (hi : i < xs.length) (d : α) : xs.take (i + 1) = xs.take i ++ [xs[i]?.getD d] := by
 rw [List.take_add_one, List.getElem?_eq_getElem hi]; rfl
theorem wrap_u8 {w : Int} (h : 0 ≤ w ∧ w ≤ 255) : IntKind.wrap .i64 w = w := IntWalk.i64_in _ (by omega)
end Go.Am
namespace Go.Am
set_option maxHeartbeats 4000000
set_option maxRecDepth 20000
open Go.RowKit Go.Proofs
attribute [local simp] thenKD_normal thenKD_exit thenKD_goto thenKD_ret inBlockKD_normal inBlockKD_exit inBlockKD_goto inBlockKD_ret noGotoKD_normal noGotoKD_exit noGotoKD_goto noGotoKD_ret roundKD_normal roundKD_exit roundKD_goto roundKD_ret frzSlotsD_nil frzSlotsD_cons frzSlotD_eq yieldVCD_trace opVCD_eq vcOpsD_nil vcOpsD_cons vcAllD_zero vcAllD_succ allAtD_nil allAtD_cons readyAux edgA vcD_skip vcD_label vcD_exit vcD_goto vcD_ret vcD_region vcD_seq vcD_seqC vcD_cond vcCondD_bool vcD_block vcD_scope vcD_loop vcD_rangeFunc yieldOf isMem isMem0 keepE envLe St.le psE yieldAV round_td round_y round_Γ vI vB vS aI aB aS look getE oper opRV putE allOk okOps Op.operands Call.operands pEv qEv mEv constRV coe RV.av loadEv loadCs takeAt indexAddrEv fieldAddrEv binEv intEv arith unEv gcond pickEv argsEv callVal callEv capAV_mk lenArgs lenEv minEv extractEv convEv funcEv allBox bound sliceEv lookupEv TD.isBool allocEv boxEv storeEv spl plainTD appendEv appendArgs makeMapEv mapUpdateEv buildEv buildSliceEv fillSV zsvOf sizeTD Ty.parses parses_flats' coeA flats_length AV.good AV.cells AV.pure SV.pure av_int av_bool av_str av_slice av_cons av_fld0 av_fld1 av_fld2 av_fld3 av_fld4 Ty.of Ty.dflt Ty.parse Ty.flat Ty.zsv Ty.fld Ty.get Ty.off Ty.nfld Ty.size coeTy junk Blk.look argEnv resEv resOk resVs oneRV retOk frzAs frzAV frzL frzSV boxCaps boxCap SV.sig sigs RV.scalar AV.scalar SV.scalar nope effVCD_eq effOf SV.ids AV.ids dedup SV.ren AV.ren RV.ren idx outId mergeB Blk.pureB flats_pure flat_pure epsSlotsD_nil epsSlotsD_cons epsSlotD_eq allEp D.parts_fnOf fvParts retEff round_E av_fn G.ye isCutD_nil isCutD_cons firstReg_region firstReg_seq firstReg_skip firstReg_ret firstReg_label firstReg_exit firstReg_goto firstReg_cond firstReg_block firstReg_scope firstReg_loop firstReg_rf eptrOf_mk flOfD_nil flOfD_cons vcFlD_cons vcFlD_nil flPairs_nil flPairs_cons vcFrD_nil vcFrD_cons makeSliceEv vcCondD_ib fzEv unfl_flats isFz round_fz panVCD_eq panOf isShift strIdxEv ifaceEv nilChkEv sliceAnyEv sliceOwnEv sliceSufEv appendEv0 appendEv1 Ty.beq Ty.isAgg round_Pn vcDefD_seqR vcDefD_seqS vcDefD_seqC vcDefD_seqB vcDefD_seqL vcDefD_seqF vcDefD_seqSc vcDefD_region vcDefD_ret vcDefD_cond vcDefD_block vcDefD_loop thenKD_panic inBlockKD_panic noGotoKD_panic exitOk_normal exitOk_ret exitOk_panic exitOk_exit runDefs_none runDefs_some runDefs_cons defRegD isDefer defOf caughtCon unfl_cons D.bpart_bndOf D.parts_bndOf AV.sig
attribute [local simp ←] flats_append
def nrT : List (TypeId × TD) := [(1, .func), (2, .sc tI), (3, .sc tI), (4, .sc .bool), (5, .sc (.int .u8)), (8, .struct (.cons tI (.cons tI (.cons .bool (.cons (.int .u8) .nil))))), (9, .sc .str), (27, .sc tI), (39, .slice 3 tI 8), (41, .struct (.cons .bool (.cons (.slice tI) .nil))), (43, .struct (.cons (.cons .bool (.cons (.slice tI) .nil)) (.cons (.cons .bool (.cons (.slice tI) .nil)) .nil))), (44, .slice 43 (.cons (.cons .bool (.cons (.slice tI) .nil)) (.cons (.cons .bool (.cons (.slice tI) .nil)) .nil)) 64), (146, .func), (149, .sc (.int .u64)), (159, .func), (171, .sc (.int .u32)), (173, .sc (.int .u64)), (177, .slice 41 (.cons .bool (.cons (.slice tI) .nil)) 32), (185, .func), (208, .slice 3 tI 8), (218, .func), (220, .func), (227, .func), (228, .func)]
theorem nrT_ok (g : G) (hg : g.τ = nrT) : G.ok Tryz.prog g := by
 refine ok_of_all ?_
 rw [hg]
 simp only [nrT, List.forall_mem_cons]
 refine ⟨?_, ?_, ?_, ?_, ?_, ?_, ?_, ?_, ?_, ?_, ?_, ?_, ?_, ?_, ?_, ?_, ?_, ?_, ?_, ?_, ?_, ?_, ?_, ?_, by simp⟩
 ·
  exact ⟨⟨_, _, _, Tryz.underlying1⟩, by kernel_rfl⟩
 ·
  exact ⟨by kernel_rfl, rfl, by kernel_rfl, rfl⟩
 ·
  exact ⟨by kernel_rfl, rfl, by kernel_rfl, rfl⟩
 ·
  exact ⟨by kernel_rfl, rfl, by kernel_rfl, rfl⟩
 ·
  exact ⟨by kernel_rfl, rfl, by kernel_rfl, rfl⟩
 ·
  exact ⟨fieldsOf Tryz.prog 8, by kernel_rfl, by kernel_rfl, by kernel_rfl, by decide, by kernel_rfl⟩
 ·
  exact ⟨by kernel_rfl, rfl, by kernel_rfl, rfl⟩
 ·
  exact ⟨by kernel_rfl, rfl, by kernel_rfl, rfl⟩
 ·
  exact ⟨by kernel_rfl, by decide, by kernel_rfl, ⟨cellsV (Ty.zcells tI), by kernel_rfl, by kernel_rfl, by kernel_rfl⟩, by kernel_rfl⟩
 ·
  exact ⟨fieldsOf Tryz.prog 41, by kernel_rfl, by kernel_rfl, by kernel_rfl, by decide, by kernel_rfl⟩
 ·
  exact ⟨fieldsOf Tryz.prog 43, by kernel_rfl, by kernel_rfl, by kernel_rfl, by decide, by kernel_rfl⟩
 ·
  exact ⟨by kernel_rfl, by decide, by kernel_rfl, ⟨cellsV (Ty.zcells (.cons (.cons .bool (.cons (.slice tI) .nil)) (.cons (.cons .bool (.cons (.slice tI) .nil)) .nil))), by kernel_rfl, by kernel_rfl, by kernel_rfl⟩, by kernel_rfl⟩
 ·
  exact ⟨⟨_, _, _, Tryz.underlying146⟩, by kernel_rfl⟩
 ·
  exact ⟨by kernel_rfl, rfl, by kernel_rfl, rfl⟩
 ·
  exact ⟨⟨_, _, _, Tryz.underlying159⟩, by kernel_rfl⟩
 ·
  exact ⟨by kernel_rfl, rfl, by kernel_rfl, rfl⟩
 ·
  exact ⟨by kernel_rfl, rfl, by kernel_rfl, rfl⟩
 ·
  exact ⟨by kernel_rfl, by decide, by kernel_rfl, ⟨cellsV (Ty.zcells (.cons .bool (.cons (.slice tI) .nil))), by kernel_rfl, by kernel_rfl, by kernel_rfl⟩, by kernel_rfl⟩
 ·
  exact ⟨⟨_, _, _, Tryz.underlying185⟩, by kernel_rfl⟩
 ·
  exact ⟨by kernel_rfl, by decide, by kernel_rfl, ⟨cellsV (Ty.zcells tI), by kernel_rfl, by kernel_rfl, by kernel_rfl⟩, by kernel_rfl⟩
 ·
  exact ⟨⟨_, _, _, Tryz.underlying218⟩, by kernel_rfl⟩
 ·
  exact ⟨⟨_, _, _, Tryz.underlying220⟩, by kernel_rfl⟩
 ·
  exact ⟨⟨_, _, _, Tryz.underlying227⟩, by kernel_rfl⟩
 ·
  exact ⟨⟨_, _, _, Tryz.underlying228⟩, by kernel_rfl⟩
theorem nr_mixed : Tryz.prog.follows .mixedOrders = true := by kernel_rfl
noncomputable def nr0Γ : List (FuncId × Con) := []
theorem nr0Γ_ok : ∀ p ∈ nr0Γ, (∀ (args : Array Value) (w : World), (callFunc p.1 args).run Tryz.prog w = .ok (.enter p.1 args) w) ∧ PureOk Tryz.prog p.1 p.2 := by simp [nr0Γ]
noncomputable def nr0E : List (FuncId × ECon) := []
theorem nr0E_ok : ∀ p ∈ nr0E, (∀ (args : Array Value) (w : World), (callFunc p.1 args).run Tryz.prog w = .ok (.enter p.1 args) w) ∧ EffOk Tryz.prog p.1 p.2 := by simp [nr0E]
noncomputable def nr0P : List (FuncId × PCon) := []
theorem nr0P_ok : ∀ p ∈ nr0P, (∀ (args : Array Value) (w : World), (callFunc p.1 args).run Tryz.prog w = .ok (.enter p.1 args) w) ∧ PanOk Tryz.prog p.1 p.2 := by simp [nr0P]
noncomputable def nr0 : G := { τ := nrT, Γ := nr0Γ, E := nr0E, Pn := nr0P }
theorem nr0_good : nr0.good Tryz.prog := good_of_all (nrT_ok _ rfl) nr0Γ_ok nr0E_ok nr0P_ok
theorem nr0_all : (∀ t, nr0.td t = (look nrT t).getD .other) ∧ nr0.y = false ∧ nr0.Γ = nr0Γ ∧ nr0.E = nr0E ∧ nr0.Pn = nr0P ∧ nr0.fz = [] := ⟨fun _ => rfl, rfl, rfl, rfl, rfl, rfl⟩
noncomputable def conCoDI (Γ : List (FuncId × Con)) : Con := ⟨fun args => (match args with
 | [.s (.sl (.int .i64) xs _), .s (.fnp f caps)] => ∃ h, fnTo Γ tI .bool f caps h (· ∈ xs)
 | _ => False), fun args => match args with
 | [.s (.sl (.int .i64) xs _), .s (.fnp f caps)] => .v (.s (.int .i64 (idxOf (apB Γ tI f caps) xs)))
 | _ => .v (.s .any)⟩
theorem conCoDI_one (f : FuncId) (caps : List (Sigma Ty.T)) (c : Con) (he : ∀ (args : Array Value) (w : World), (callFunc f args).run Tryz.prog w = .ok (.enter f args) w) (hc : PureOk Tryz.prog f c) (h : Ty.T tI → Bool)
  (hv : ∀ x, c.val (Ty.av tI x :: caps.map capAV) = .v (.s (.bool (h x)))) :
  PureOk Tryz.prog 201 ⟨fun args => ∃ xs ex, args = [.s (.sl tI xs ex), .s (.fnp f caps)] ∧ ∀ x ∈ xs, c.pre (Ty.av tI x :: caps.map capAV), fun args => match args with
   | [.s (.sl (.int .i64) xs _), _] => .v (.s (.int .i64 (idxOf h xs)))
   | _ => .v (.s .any)⟩ := by
 refine pureOkD (L := { live := [0, 1, 4, 5, 7, 8, 9, 16] }) (g1_good nrT_ok he hc) rfl nr_mixed Tryz.func201 rfl _ 2 (by decide) (by kernel_rfl) ?_
 rintro _ ⟨xs, ex, rfl, hp⟩ hlens
 obtain ⟨⟨hl, _⟩, _⟩ := hlens
 simp only [maxLen] at hl
 refine ⟨rfl, ?_⟩
 first | simp only [av_int, av_slice, av_bool] at hv hp | simp only [av_cons, av_bool, Ty.flat, List.cons_append, List.nil_append] at hv hp
 simp -dsimp -implicitDefEqProofs [Tryz.f201, g1_td, g1_y, g1_Γ, g1_E, g1_Pn, g1_fz, nrT, inI64]
 refine WpD.loop (L := { live := [0, 1, 4, 5, 7, 8, 9, 16] }) (g1_good nrT_ok he hc) X0_ok nr_mixed (by kernel_rfl) (ι := Nat)
  (fun i => ⟨[(0, vS tI xs ex), (1, ⟨true, .v (.s (.fnp f caps))⟩), (7, vI xs.length), (8, vI i)], []⟩)
  (fun i => i ≤ xs.length ∧ ∀ j, j < i → h (xs[j]?.getD (Ty.dflt tI)) = false) (fun i => xs.length - i) 0 (by simp) (Turn.le (by simp -dsimp -implicitDefEqProofs)) ?_
 rintro i ⟨hi, hno⟩
 simp only [Ty.dflt] at hno
 simp -dsimp -implicitDefEqProofs [hv, caps_all, caps_all', g1_td, g1_y, g1_Γ, g1_E, g1_Pn, g1_fz, nrT, inI64]
 refine ⟨fun hlt => ⟨hlt, hp _ (by rw [getD_lt hlt]; exact List.getElem_mem hlt), fun he => ?_, fun hne => ⟨⟨by omega, by omega⟩, i + 1, ⟨by omega, fun j hj => ?_⟩, by omega, TurnT.le (by simp -dsimp -implicitDefEqProofs)⟩⟩, fun hge => ?_⟩
 ·
  exact (idxOf_at hlt _ he hno).symm
 ·
  rcases Nat.lt_succ_iff_lt_or_eq.1 hj with h' | rfl
  ·
   exact hno j h'
  ·
   exact hne
 ·
  exact (idxOf_none _ fun j hj => hno j (by omega)).symm
theorem conCoDI_known (Γ : List (FuncId × Con)) (hΓ : Known Tryz.prog Γ) : PureOk Tryz.prog 201 (conCoDI Γ) := by
 refine PureOk.of fun args hpre => ?_
 simp only [conCoDI] at hpre
 split at hpre
 ·
  rename_i xs ex f caps
  obtain ⟨h, hf⟩ := hpre
  have hm : apB Γ tI f caps = h := funext (apB_eq hf)
  obtain ⟨c, h1, h2, h3⟩ := hf
  refine ⟨_, conCoDI_one f caps c (hΓ f c h1).1 (hΓ f c h1).2 h h2, ⟨xs, ex, rfl, h3⟩, ?_⟩
  simp only [conCoDI, hm]
 ·
  exact hpre.elim
theorem conCoDI_pre {Γ : List (FuncId × Con)} {f : FuncId} {caps : List (Sigma Ty.T)} (xs : List (Ty.T tI)) (ex : Bool) : (conCoDI Γ).pre [.s (.sl tI xs ex), .s (.fnp f caps)] = ∃ h, fnTo Γ tI .bool f caps h (· ∈ xs) := rfl
theorem conCoDI_val {Γ : List (FuncId × Con)} {f : FuncId} {caps : List (Sigma Ty.T)} (xs : List (Ty.T tI)) (ex : Bool) : (conCoDI Γ).val [.s (.sl tI xs ex), .s (.fnp f caps)] = .v (.s (.int .i64 (idxOf (apB Γ tI f caps) xs))) := rfl
noncomputable def conCoD (Γ : List (FuncId × Con)) : Con := ⟨fun args => (match args with
 | [.s (.sl (.int .i64) xs _), .s (.fnp f caps)] => ∃ h, fnTo Γ tI .bool f caps h (· ∈ xs)
 | _ => False), fun args => match args with
 | [.s (.sl (.int .i64) xs _), .s (.fnp f caps)] => .v (.s (.bool (xs.any (apB Γ tI f caps))))
 | _ => .v (.s .any)⟩
theorem conCoD_pre {Γ : List (FuncId × Con)} {f : FuncId} {caps : List (Sigma Ty.T)} (xs : List (Ty.T tI)) (ex : Bool) : (conCoD Γ).pre [.s (.sl tI xs ex), .s (.fnp f caps)] = ∃ h, fnTo Γ tI .bool f caps h (· ∈ xs) := rfl
theorem conCoD_val {Γ : List (FuncId × Con)} {f : FuncId} {caps : List (Sigma Ty.T)} (xs : List (Ty.T tI)) (ex : Bool) : (conCoD Γ).val [.s (.sl tI xs ex), .s (.fnp f caps)] = .v (.s (.bool (xs.any (apB Γ tI f caps)))) := rfl
theorem conCoD_known (Γ : List (FuncId × Con)) (hΓ : Known Tryz.prog Γ) : PureOk Tryz.prog 179 (conCoD Γ) := by
 have hg := g1_good nrT_ok (enters_of Tryz.func201 (by kernel_rfl) rfl) (conCoDI_known Γ hΓ)
 refine pureOkD (L := { live := [0, 1, 4] }) hg rfl nr_mixed Tryz.func179 rfl _ 2 (by decide) (by kernel_rfl) ?_
 intro args hpre hlens
 simp only [conCoD] at hpre
 split at hpre
 ·
  rename_i xs ex f caps
  refine ⟨rfl, ?_⟩
  simp -dsimp -implicitDefEqProofs [Tryz.f179, conCoDI_pre, conCoDI_val, conCoD_val, idxOf_any, g1_td, g1_y, g1_Γ, g1_E, g1_Pn, g1_fz, nrT, inI64]
  exact hpre
 ·
  exact hpre.elim
noncomputable def conOdd : Con := ⟨fun args => (match args with
 | [.s (.int .i64 d)] => True
 | _ => False), fun args => match args with
 | [.s (.int _ d)] => .v (aB (decide (d < 0) || decide (1073741823 < d)))
 | _ => .v (.s .any)⟩
theorem conOdd_eq (d : Int) : conOdd.pre [.s (.int .i64 d)] = (True) ∧ conOdd.val [.s (.int .i64 d)] = .v (aB (decide (d < 0) || decide (1073741823 < d))) := ⟨rfl, rfl⟩
theorem odd_ok : PureOk Tryz.prog 178 conOdd := by
 refine pureOkD (L := { live := [0, 2] }) nr0_good rfl nr_mixed Tryz.func178 rfl conOdd 1 (by decide) (by kernel_rfl) ?_
 intro args hpre hlens
 simp only [conOdd] at hpre
 split at hpre
 case h_2 => exact hpre.elim
 rename_i d
 simp only [allLen, AV.lenOk, SV.lenOk, Ty.lenOk, maxLen, and_true, implies_true, true_and, List.forall_mem_cons, List.not_mem_nil, false_implies] at hlens
 refine ⟨rfl, ?_⟩
 simp -dsimp -implicitDefEqProofs [Tryz.f178, conOdd_eq, nr0_all, nrT, nr0Γ, nr0E, nr0P, inI64]
noncomputable def nr1Γ : List (FuncId × Con) := (178, conOdd) :: nr0Γ
theorem nr1Γ_ok : ∀ p ∈ nr1Γ, (∀ (args : Array Value) (w : World), (callFunc p.1 args).run Tryz.prog w = .ok (.enter p.1 args) w) ∧ PureOk Tryz.prog p.1 p.2 := by
 simp only [nr1Γ, List.forall_mem_cons]
 exact ⟨⟨enters_of Tryz.func178 (by kernel_rfl) rfl, odd_ok⟩, nr0Γ_ok⟩
noncomputable def nr1E : List (FuncId × ECon) := nr0E
theorem nr1E_ok : ∀ p ∈ nr1E, (∀ (args : Array Value) (w : World), (callFunc p.1 args).run Tryz.prog w = .ok (.enter p.1 args) w) ∧ EffOk Tryz.prog p.1 p.2 := by
 simp only [nr1E]
 exact nr0E_ok
noncomputable def nr1P : List (FuncId × PCon) := nr0P
theorem nr1P_ok : ∀ p ∈ nr1P, (∀ (args : Array Value) (w : World), (callFunc p.1 args).run Tryz.prog w = .ok (.enter p.1 args) w) ∧ PanOk Tryz.prog p.1 p.2 := by
 simp only [nr1P]
 exact nr0P_ok
theorem nr1_known : Known Tryz.prog nr1Γ := Known.cons (enters_of Tryz.func178 (by kernel_rfl) rfl) odd_ok .nil
noncomputable def nr2Γ : List (FuncId × Con) := (201, (conCoDI nr1Γ)) :: (179, (conCoD nr1Γ)) :: nr1Γ
theorem nr2Γ_ok : ∀ p ∈ nr2Γ, (∀ (args : Array Value) (w : World), (callFunc p.1 args).run Tryz.prog w = .ok (.enter p.1 args) w) ∧ PureOk Tryz.prog p.1 p.2 := by
 simp only [nr2Γ, List.forall_mem_cons]
 exact ⟨⟨enters_of Tryz.func201 (by kernel_rfl) rfl, (conCoDI_known nr1Γ nr1_known)⟩, ⟨enters_of Tryz.func179 (by kernel_rfl) rfl, (conCoD_known nr1Γ nr1_known)⟩, nr1Γ_ok⟩
noncomputable def nr2E : List (FuncId × ECon) := nr1E
theorem nr2E_ok : ∀ p ∈ nr2E, (∀ (args : Array Value) (w : World), (callFunc p.1 args).run Tryz.prog w = .ok (.enter p.1 args) w) ∧ EffOk Tryz.prog p.1 p.2 := by
 simp only [nr2E]
 exact nr1E_ok
noncomputable def nr2P : List (FuncId × PCon) := nr1P
theorem nr2P_ok : ∀ p ∈ nr2P, (∀ (args : Array Value) (w : World), (callFunc p.1 args).run Tryz.prog w = .ok (.enter p.1 args) w) ∧ PanOk Tryz.prog p.1 p.2 := by
 simp only [nr2P]
 exact nr1P_ok
noncomputable def nr2 : G := { τ := nrT, Γ := nr2Γ, E := nr2E, Pn := nr2P }
theorem nr2_good : nr2.good Tryz.prog := good_of_all (nrT_ok _ rfl) nr2Γ_ok nr2E_ok nr2P_ok
theorem nr2_all : (∀ t, nr2.td t = (look nrT t).getD .other) ∧ nr2.y = false ∧ nr2.Γ = nr2Γ ∧ nr2.E = nr2E ∧ nr2.Pn = nr2P ∧ nr2.fz = [] := ⟨fun _ => rfl, rfl, rfl, rfl, rfl, rfl⟩
def okBig (neg : Bool) (m : List Int) : Prop := canon m ∧ m.length ≤ 2048 ∧ (neg = true → m ≠ [])
noncomputable instance (neg : Bool) (m : List Int) : Decidable (okBig neg m) := Classical.propDecidable _
noncomputable def natErr (neg : Bool) (m : List Int) : Int := if okBig neg m then 0 else 90
noncomputable def conNCheck : Con := ⟨fun args => (match args with
 | [.agg [.bool neg, .sl (.int .i64) m _]] => True
 | _ => False), fun args => match args with
 | [.agg [.bool neg, .sl (.int .i64) m _]] => .v (aI (natErr neg m))
 | _ => .v (.s .any)⟩
theorem conNCheck_eq (neg : Bool) (m : List (Ty.T tI)) (exm : Bool) : conNCheck.pre [.agg [.bool neg, .sl tI m exm]] = (True) ∧ conNCheck.val [.agg [.bool neg, .sl tI m exm]] = .v (aI (natErr neg m)) := ⟨rfl, rfl⟩
theorem ncheck_ok : PureOk Tryz.prog 144 conNCheck := by
 refine pureOkD (L := { live := [0, 1, 2, 3, 4, 36] }) nr2_good rfl nr_mixed Tryz.func144 rfl conNCheck 1 (by decide) (by kernel_rfl) ?_
 intro args hpre hlens
 simp only [conNCheck] at hpre
 split at hpre
 case h_2 => exact hpre.elim
 rename_i ng m ex
 simp only [allLen, AV.lenOk, SV.lenOk, Ty.lenOk, maxLen, and_true, implies_true, true_and, List.forall_mem_cons, List.not_mem_nil, false_implies] at hlens
 refine ⟨rfl, ?_⟩
 simp -dsimp -implicitDefEqProofs [Tryz.f144, conNCheck_eq, nr2_all, nrT, nr2Γ, nr2E, nr2P, nr1Γ, nr1E, nr1P, nr0Γ, nr0E, nr0P, conCoDI_pre, conCoDI_val, conCoD_pre, conCoD_val, conOdd_eq, inI64]
 have hfn : fnTo [(178, conOdd)] tI .bool 178 [] (fun d => decide (d < 0) || decide (1073741823 < d)) (· ∈ m) := ⟨conOdd, rfl, fun x => rfl, fun x _ => trivial⟩
 have hap : ∀ x, apB [(178, conOdd)] tI 178 [] x = (decide (x < 0) || decide (1073741823 < x)) := fun x => apB_eq hfn x
 have hne : m = [] ∨ 0 < m.length := by cases m <;> simp
 have hd : (∀ x ∈ m, apB [(178, conOdd)] tI 178 [] x = false) ↔ okD m := by
  simp only [hap, Bool.or_eq_false_iff, decide_eq_false_iff_not, okD]
  exact ⟨fun h d hd => ⟨Int.not_lt.1 (h d hd).1, Int.not_lt.1 (h d hd).2⟩, fun h d hd => ⟨Int.not_lt.2 (h d hd).1, Int.not_lt.2 (h d hd).2⟩⟩
 have hdn : (∃ x, x ∈ m ∧ apB [(178, conOdd)] tI 178 [] x = true) → ¬ okD m := by
  rintro ⟨x, hx, he⟩ h
  rw [hd.2 h x hx] at he
  cases he
 refine ⟨fun a => ⟨a, fun b => ⟨a, b⟩⟩, fun a b c => ⟨⟨⟨a, b⟩, c⟩, by omega, by omega⟩, fun a b c => ⟨⟨⟨a, b⟩, c⟩, by omega, by omega⟩, fun a b => ⟨⟨a, b⟩, fun c => ⟨⟨a, b⟩, c⟩⟩, fun a b => ⟨a, ?_⟩, fun a b c => ⟨⟨⟨a, b⟩, c⟩, _, hfn⟩, fun a b c => ⟨⟨a, ?_⟩, ?_⟩, fun h => ?_, fun a b c h => ?_⟩
 ·
  rcases hne with h | h
  ·
   exact .inr (b h)
  ·
   exact .inl (List.length_pos_iff.1 h)
 ·
  rcases hne with h | h
  ·
   exact .inr (b h)
  ·
   exact .inl (List.length_pos_iff.1 h)
 ·
  rcases hne with h | h
  ·
   exact .inl h
  ·
   exact .inr (c h)
 ·
  unfold natErr
  rw [if_neg]
  rintro ⟨hc, h1, h2⟩
  rcases h with ((h | ⟨h, h3⟩) | ⟨h, h3⟩) | h
  ·
   omega
  ·
   exact h2 h3 h
  ·
   have := canon_last hc h; omega
  ·
   exact hdn h hc.1
 ·
  unfold natErr
  rw [if_pos]
  exact ⟨canon_of (hd.1 h) c, by omega, fun hn he => by have := b he; rw [hn] at this; cases this⟩
noncomputable def conRCheck : Con := ⟨fun args => (match args with
 | [.agg [.bool neg, .sl (.int .i64) m _]] => True
 | _ => False), fun args => match args with
 | [.agg [.bool neg, .sl (.int .i64) m _]] => .v (aI (natErr neg m))
 | _ => .v (.s .any)⟩
theorem conRCheck_eq (neg : Bool) (m : List (Ty.T tI)) (exm : Bool) : conRCheck.pre [.agg [.bool neg, .sl tI m exm]] = (True) ∧ conRCheck.val [.agg [.bool neg, .sl tI m exm]] = .v (aI (natErr neg m)) := ⟨rfl, rfl⟩
theorem rcheck_ok : PureOk Tryz.prog 161 conRCheck := by
 refine pureOkD (L := { live := [0, 1, 2, 3, 4, 30, 33, 49] }) nr0_good rfl nr_mixed Tryz.func161 rfl conRCheck 1 (by decide) (by kernel_rfl) ?_
 intro args hpre hlens
 simp only [conRCheck] at hpre
 split at hpre
 case h_2 => exact hpre.elim
 rename_i ng m ex
 simp only [allLen, AV.lenOk, SV.lenOk, Ty.lenOk, maxLen, and_true, implies_true, true_and, List.forall_mem_cons, List.not_mem_nil, false_implies] at hlens
 refine ⟨rfl, ?_⟩
 simp -dsimp -implicitDefEqProofs [Tryz.f161, conRCheck_eq, nr0_all, nrT, nr0Γ, nr0E, nr0P, inI64]
 have hne : m = [] ∨ 0 < m.length := by cases m <;> simp
 refine ⟨fun a => ⟨a, fun b => ⟨a, b⟩⟩, fun a b c => ⟨⟨⟨a, b⟩, c⟩, by omega, by omega⟩, fun a b c => ⟨⟨⟨a, b⟩, c⟩, by omega, by omega⟩, fun a b => ⟨⟨a, b⟩, fun c => ⟨⟨a, b⟩, c⟩⟩, fun a b => ⟨a, ?_⟩, fun h => ?_, fun a b c => ?_⟩
 ·
  rcases hne with h | h
  ·
   exact .inr (b h)
  ·
   exact .inl (List.length_pos_iff.1 h)
 ·
  unfold natErr
  rw [if_neg]
  rintro ⟨hc, h1, h2⟩
  rcases h with (h | ⟨h, h3⟩) | ⟨h, h3⟩
  ·
   omega
  ·
   exact h2 h3 h
  ·
   have := canon_last hc h; omega
 refine WpD.loop (L := { live := [0, 1, 2, 3, 4, 30, 33, 49] }) nr0_good X0_ok nr_mixed (by kernel_rfl)
  (fun i : Nat => ⟨[(0, ⟨true, .v (.agg [.bool ng, .sl tI m ex])⟩), (1, ⟨true, .v (.s (.box 0 0))⟩), (2, vI 0), (3, vI m.length), (4, vI i)], [.cells [.bool ng, .sl tI m ex]]⟩)
  (fun i => i ≤ m.length ∧ ∀ j, j < i → 0 ≤ m[j]?.getD 0 ∧ m[j]?.getD 0 ≤ 1073741823) (fun i => m.length - i) 0 (by simp) (Turn.le (by simp -dsimp -implicitDefEqProofs)) ?_
 rintro i ⟨hi, hj⟩
 simp -dsimp -implicitDefEqProofs [conRCheck_eq, nr0_all, nrT, nr0Γ, nr0E, nr0P, inI64]
 refine ⟨fun hil => ⟨hil, fun h => ⟨h, hil⟩, fun h => ?_, fun h1 h2 => ⟨⟨by omega, by omega⟩, i + 1, ⟨by omega, fun j hj2 => ?_⟩, by omega, TurnT.le (by simp -dsimp -implicitDefEqProofs)⟩⟩, fun hge => ?_⟩
 ·
  unfold natErr
  rw [if_neg]
  rintro ⟨hc, _⟩
  have := okD_get hc.1 hil
  omega
 ·
  rcases Nat.lt_succ_iff_lt_or_eq.1 hj2 with h' | rfl
  ·
   exact hj j h'
  ·
   exact ⟨h1, Int.lt_add_one_iff.1 h2⟩
 ·
  unfold natErr
  rw [if_pos]
  refine ⟨canon_of (fun d hd => ?_) c, by omega, fun hn he => by have := b he; rw [hn] at this; cases this⟩
  obtain ⟨j, hjl, rfl⟩ := List.mem_iff_getElem.1 hd
  have := hj j (by omega)
  rwa [List.getElem?_eq_getElem hjl] at this
noncomputable def conRCmpD : Con := ⟨fun args => (match args with
 | [.s (.sl (.int .i64) a _), .s (.sl (.int .i64) b _)] => canon a ∧ canon b ∧ a.length ≤ 4096 ∧ b.length ≤ 4096
 | _ => False), fun args => match args with
 | [.s (.sl (.int .i64) a _), .s (.sl (.int .i64) b _)] => .v (aI (cmpN (vl a) (vl b)))
 | _ => .v (.s .any)⟩
theorem conRCmpD_eq (a : List (Ty.T tI)) (exa : Bool) (b : List (Ty.T tI)) (exb : Bool) : conRCmpD.pre [.s (.sl tI a exa), .s (.sl tI b exb)] = (canon a ∧ canon b ∧ a.length ≤ 4096 ∧ b.length ≤ 4096) ∧ conRCmpD.val [.s (.sl tI a exa), .s (.sl tI b exb)] = .v (aI (cmpN (vl a) (vl b))) := ⟨rfl, rfl⟩
theorem rcmpd_ok : PureOk Tryz.prog 196 conRCmpD := by
 refine pureOkD (L := { live := [0, 1, 4, 5, 10, 15, 20, 31, 40] }) nr0_good rfl nr_mixed Tryz.func196 rfl conRCmpD 2 (by decide) (by kernel_rfl) ?_
 intro args hpre hlens
 simp only [conRCmpD] at hpre
 split at hpre
 case h_2 => exact hpre.elim
 rename_i a ea b eb
 simp only [allLen, AV.lenOk, SV.lenOk, Ty.lenOk, maxLen, and_true, implies_true, true_and, List.forall_mem_cons, List.not_mem_nil, false_implies] at hlens
 refine ⟨rfl, ?_⟩
 simp -dsimp -implicitDefEqProofs [Tryz.f196, conRCmpD_eq, nr0_all, nrT, nr0Γ, nr0E, nr0P, inI64]
 obtain ⟨ha, hb, ha2, hb2⟩ := hpre
 refine ⟨fun hne => ⟨fun h => (cmpN_lt (vl_len ha hb h)).symm, fun h => (cmpN_gt (vl_len hb ha (by omega))).symm⟩, fun he => ⟨⟨by omega, by omega⟩, ?_⟩⟩
 refine WpD.loop (L := { live := [0, 1, 4, 5, 10, 15, 20, 31, 40] }) nr0_good X0_ok nr_mixed (by kernel_rfl)
  (fun n : Nat => ⟨[(0, vS tI a ea), (1, vS tI b eb), (4, vI 0), (5, vI ((n : Int) - 1))], []⟩)
  (fun n => n ≤ a.length ∧ a.drop n = b.drop n) (fun n => n) a.length ⟨Nat.le_refl _, by rw [List.drop_eq_nil_of_le (by omega), List.drop_eq_nil_of_le (by omega)]⟩ (Turn.le (by simp -dsimp -implicitDefEqProofs)) ?_
 rintro n ⟨hn, hd⟩
 simp -dsimp -implicitDefEqProofs [conRCmpD_eq, nr0_all, nrT, nr0Γ, nr0E, nr0P, inI64]
 refine ⟨fun h1 => ?_, fun h0 => ?_⟩
 ·
  obtain ⟨k, rfl⟩ : ∃ k, n = k + 1 := ⟨n - 1, by omega⟩
  have hka : k < a.length := by omega
  have hkb : k < b.length := by omega
  have e : ((k + 1 : Nat) : Int) - 1 - 1 = (k : Int) - 1 := by omega
  simp only [Nat.add_sub_cancel]
  refine ⟨⟨h1, by omega⟩, ⟨h1, by omega⟩, fun h => (cmpN_lt (vl_less ha.1 hb.1 hka hkb hd h)).symm, fun hge => ⟨⟨h1, by omega⟩, ⟨h1, by omega⟩, fun h => (cmpN_gt (vl_less hb.1 ha.1 hkb hka hd.symm h)).symm, fun hle => ⟨⟨by omega, by omega⟩, k, ⟨by omega, ?_⟩, by omega, TurnT.le (by simp -dsimp -implicitDefEqProofs [e])⟩⟩⟩
  rw [List.drop_eq_getElem_cons hka, List.drop_eq_getElem_cons hkb, hd]
  rw [List.getElem?_eq_getElem hka, List.getElem?_eq_getElem hkb] at hge hle
  congr 1
  exact Int.le_antisymm hle hge
 ·
  obtain rfl : n = 0 := by omega
  rw [List.drop_zero, List.drop_zero] at hd
  subst hd
  exact (cmpN_eq _).symm
noncomputable def conTrim : Con := ⟨fun args => (match args with
 | [.s (.sl (.int .i64) m _)] => True
 | _ => False), fun args => match args with
 | [.s (.sl (.int .i64) m _)] => .v (aS tI (trimL m) false)
 | _ => .v (.s .any)⟩
theorem conTrim_eq (m : List (Ty.T tI)) (exm : Bool) : conTrim.pre [.s (.sl tI m exm)] = (True) ∧ conTrim.val [.s (.sl tI m exm)] = .v (aS tI (trimL m) false) := ⟨rfl, rfl⟩
theorem rtrim_ok : PureOk Tryz.prog 210 conTrim := by
 refine pureOkD (L := { live := [0, 2, 3, 15] }) nr0_good rfl nr_mixed Tryz.func210 rfl conTrim 1 (by decide) (by kernel_rfl) ?_
 intro args hpre hlens
 simp only [conTrim] at hpre
 split at hpre
 case h_2 => exact hpre.elim
 rename_i m em
 simp only [allLen, AV.lenOk, SV.lenOk, Ty.lenOk, maxLen, and_true, implies_true, true_and, List.forall_mem_cons, List.not_mem_nil, false_implies] at hlens
 refine ⟨rfl, ?_⟩
 simp -dsimp -implicitDefEqProofs [Tryz.f210, conTrim_eq, nr0_all, nrT, nr0Γ, nr0E, nr0P, inI64]
 refine WpD.loop (L := { live := [0, 2, 3, 15] }) nr0_good X0_ok nr_mixed (by kernel_rfl)
  (fun n : Nat => ⟨[(0, vS tI m em), (2, vS tI [] true), (3, vI n)], []⟩)
  (fun n => n ≤ m.length ∧ ∀ d ∈ m.drop n, d = 0) (fun n => n) m.length ⟨Nat.le_refl _, by rw [List.drop_eq_nil_of_le (Nat.le_refl _)]; intro d hd; cases hd⟩ (Turn.le (by simp -dsimp -implicitDefEqProofs)) ?_
 rintro n ⟨hn, hd⟩
 simp -dsimp -implicitDefEqProofs [conTrim_eq, nr0_all, nrT, nr0Γ, nr0E, nr0P, inI64]
 refine ⟨fun h => ⟨h, by omega, by omega⟩, fun h => ⟨h, by omega, by omega⟩, fun h1 h2 => ?_, fun h => ⟨hn, ?_⟩⟩
 ·
  obtain ⟨k, rfl⟩ : ∃ k, n = k + 1 := ⟨n - 1, by omega⟩
  have e : ((k + 1 : Nat) : Int) - 1 = (k : Int) := by omega
  refine ⟨⟨by omega, by omega⟩, k, ⟨by omega, fun d hd2 => ?_⟩, by omega, TurnT.le (by simp -dsimp -implicitDefEqProofs [e])⟩
  rw [List.drop_eq_getElem_cons (by omega)] at hd2
  rw [Nat.add_sub_cancel, List.getElem?_eq_getElem (by omega)] at h2
  rcases List.mem_cons.1 hd2 with rfl | hd2
  ·
   exact h2
  ·
   exact hd d hd2
 ·
  exact take_trim hn hd h
theorem trim_ok : PureOk Tryz.prog 203 conTrim := by
 refine pureOkD (L := { live := [0, 2, 3, 15] }) nr0_good rfl nr_mixed Tryz.func203 rfl conTrim 1 (by decide) (by kernel_rfl) ?_
 intro args hpre hlens
 simp only [conTrim] at hpre
 split at hpre
 case h_2 => exact hpre.elim
 rename_i m em
 simp only [allLen, AV.lenOk, SV.lenOk, Ty.lenOk, maxLen, and_true, implies_true, true_and, List.forall_mem_cons, List.not_mem_nil, false_implies] at hlens
 refine ⟨rfl, ?_⟩
 simp -dsimp -implicitDefEqProofs [Tryz.f203, conTrim_eq, nr0_all, nrT, nr0Γ, nr0E, nr0P, inI64]
 refine WpD.loop (L := { live := [0, 2, 3, 15] }) nr0_good X0_ok nr_mixed (by kernel_rfl)
  (fun n : Nat => ⟨[(0, vS tI m em), (2, vS tI [] true), (3, vI n)], []⟩)
  (fun n => n ≤ m.length ∧ ∀ d ∈ m.drop n, d = 0) (fun n => n) m.length ⟨Nat.le_refl _, by rw [List.drop_eq_nil_of_le (Nat.le_refl _)]; intro d hd; cases hd⟩ (Turn.le (by simp -dsimp -implicitDefEqProofs)) ?_
 rintro n ⟨hn, hd⟩
 simp -dsimp -implicitDefEqProofs [conTrim_eq, nr0_all, nrT, nr0Γ, nr0E, nr0P, inI64]
 refine ⟨fun h => ⟨h, by omega, by omega⟩, fun h => ⟨h, by omega, by omega⟩, fun h1 h2 => ?_, fun h => ⟨hn, ?_⟩⟩
 ·
  obtain ⟨k, rfl⟩ : ∃ k, n = k + 1 := ⟨n - 1, by omega⟩
  have e : ((k + 1 : Nat) : Int) - 1 = (k : Int) := by omega
  refine ⟨⟨by omega, by omega⟩, k, ⟨by omega, fun d hd2 => ?_⟩, by omega, TurnT.le (by simp -dsimp -implicitDefEqProofs [e])⟩
  rw [List.drop_eq_getElem_cons (by omega)] at hd2
  rw [Nat.add_sub_cancel, List.getElem?_eq_getElem (by omega)] at h2
  rcases List.mem_cons.1 hd2 with rfl | hd2
  ·
   exact h2
  ·
   exact hd d hd2
 ·
  exact take_trim hn hd h
noncomputable def conAt : Con := ⟨fun args => (match args with
 | [.s (.sl (.int .i64) m _), .s (.int .i64 i)] => 0 ≤ i
 | _ => False), fun args => match args with
 | [.s (.sl (.int .i64) m _), .s (.int _ i)] => .v (aI (m[i.toNat]?.getD 0))
 | _ => .v (.s .any)⟩
theorem conAt_eq (m : List (Ty.T tI)) (exm : Bool) (i : Int) : conAt.pre [.s (.sl tI m exm), .s (.int .i64 i)] = (0 ≤ i) ∧ conAt.val [.s (.sl tI m exm), .s (.int .i64 i)] = .v (aI (m[i.toNat]?.getD 0)) := ⟨rfl, rfl⟩
theorem rdigit_ok : PureOk Tryz.prog 217 conAt := by
 refine pureOkD (L := { live := [0, 1, 4, 8] }) nr0_good rfl nr_mixed Tryz.func217 rfl conAt 2 (by decide) (by kernel_rfl) ?_
 intro args hpre hlens
 simp only [conAt] at hpre
 split at hpre
 case h_2 => exact hpre.elim
 rename_i m em i
 simp only [allLen, AV.lenOk, SV.lenOk, Ty.lenOk, maxLen, and_true, implies_true, true_and, List.forall_mem_cons, List.not_mem_nil, false_implies] at hlens
 refine ⟨rfl, ?_⟩
 simp -dsimp -implicitDefEqProofs [Tryz.f217, conAt_eq, nr0_all, nrT, nr0Γ, nr0E, nr0P, inI64]
 exact ⟨fun h => ⟨hpre, h⟩, fun h => by rw [List.getElem?_eq_none (by omega)]; rfl⟩
theorem at_ok : PureOk Tryz.prog 221 conAt := by
 refine pureOkD (L := { live := [0, 1, 4, 8] }) nr0_good rfl nr_mixed Tryz.func221 rfl conAt 2 (by decide) (by kernel_rfl) ?_
 intro args hpre hlens
 simp only [conAt] at hpre
 split at hpre
 case h_2 => exact hpre.elim
 rename_i m em i
 simp only [allLen, AV.lenOk, SV.lenOk, Ty.lenOk, maxLen, and_true, implies_true, true_and, List.forall_mem_cons, List.not_mem_nil, false_implies] at hlens
 refine ⟨rfl, ?_⟩
 simp -dsimp -implicitDefEqProofs [Tryz.f221, conAt_eq, nr0_all, nrT, nr0Γ, nr0E, nr0P, inI64]
 exact ⟨fun h => ⟨hpre, h⟩, fun h => by rw [List.getElem?_eq_none (by omega)]; rfl⟩
noncomputable def conZero : Con := ⟨fun args => (match args with
 | [.agg [.bool ng, .sl (.int .i64) m _]] => True
 | _ => False), fun args => match args with
 | [.agg [.bool ng, .sl (.int .i64) m _]] => .v (aB (decide (m = [])))
 | _ => .v (.s .any)⟩
theorem conZero_eq (ng : Bool) (m : List (Ty.T tI)) (exm : Bool) : conZero.pre [.agg [.bool ng, .sl tI m exm]] = (True) ∧ conZero.val [.agg [.bool ng, .sl tI m exm]] = .v (aB (decide (m = []))) := ⟨rfl, rfl⟩
theorem zero_ok : PureOk Tryz.prog 162 conZero := by
 refine pureOkD (L := { live := [0, 1, 2] }) nr0_good rfl nr_mixed Tryz.func162 rfl conZero 1 (by decide) (by kernel_rfl) ?_
 intro args hpre hlens
 simp only [conZero] at hpre
 split at hpre
 case h_2 => exact hpre.elim
 rename_i ng m em
 simp only [allLen, AV.lenOk, SV.lenOk, Ty.lenOk, maxLen, and_true, implies_true, true_and, List.forall_mem_cons, List.not_mem_nil, false_implies] at hlens
 refine ⟨rfl, ?_⟩
 simp -dsimp -implicitDefEqProofs [Tryz.f162, conZero_eq, nr0_all, nrT, nr0Γ, nr0E, nr0P, inI64]
 cases m <;> simp <;> omega
noncomputable def conPosi : Con := ⟨fun args => (match args with
 | [.agg [.bool ng, .sl (.int .i64) m _]] => True
 | _ => False), fun args => match args with
 | [.agg [.bool ng, .sl (.int .i64) m _]] => .v (aB (!ng && decide (m ≠ [])))
 | _ => .v (.s .any)⟩
theorem conPosi_eq (ng : Bool) (m : List (Ty.T tI)) (exm : Bool) : conPosi.pre [.agg [.bool ng, .sl tI m exm]] = (True) ∧ conPosi.val [.agg [.bool ng, .sl tI m exm]] = .v (aB (!ng && decide (m ≠ []))) := ⟨rfl, rfl⟩
theorem posi_ok : PureOk Tryz.prog 145 conPosi := by
 refine pureOkD (L := { live := [0, 1, 2] }) nr0_good rfl nr_mixed Tryz.func145 rfl conPosi 1 (by decide) (by kernel_rfl) ?_
 intro args hpre hlens
 simp only [conPosi] at hpre
 split at hpre
 case h_2 => exact hpre.elim
 rename_i ng m em
 simp only [allLen, AV.lenOk, SV.lenOk, Ty.lenOk, maxLen, and_true, implies_true, true_and, List.forall_mem_cons, List.not_mem_nil, false_implies] at hlens
 refine ⟨rfl, ?_⟩
 simp -dsimp -implicitDefEqProofs [Tryz.f145, conPosi_eq, nr0_all, nrT, nr0Γ, nr0E, nr0P, inI64]
 cases m <;> simp
noncomputable def nr3Γ : List (FuncId × Con) := (161, conRCheck) :: (196, conRCmpD) :: nr0Γ
theorem nr3Γ_ok : ∀ p ∈ nr3Γ, (∀ (args : Array Value) (w : World), (callFunc p.1 args).run Tryz.prog w = .ok (.enter p.1 args) w) ∧ PureOk Tryz.prog p.1 p.2 := by
 simp only [nr3Γ, List.forall_mem_cons]
 exact ⟨⟨enters_of Tryz.func161 (by kernel_rfl) rfl, rcheck_ok⟩, ⟨enters_of Tryz.func196 (by kernel_rfl) rfl, rcmpd_ok⟩, nr0Γ_ok⟩
noncomputable def nr3E : List (FuncId × ECon) := nr0E
theorem nr3E_ok : ∀ p ∈ nr3E, (∀ (args : Array Value) (w : World), (callFunc p.1 args).run Tryz.prog w = .ok (.enter p.1 args) w) ∧ EffOk Tryz.prog p.1 p.2 := by
 simp only [nr3E]
 exact nr0E_ok
noncomputable def nr3P : List (FuncId × PCon) := nr0P
theorem nr3P_ok : ∀ p ∈ nr3P, (∀ (args : Array Value) (w : World), (callFunc p.1 args).run Tryz.prog w = .ok (.enter p.1 args) w) ∧ PanOk Tryz.prog p.1 p.2 := by
 simp only [nr3P]
 exact nr0P_ok
noncomputable def nr3 : G := { τ := nrT, Γ := nr3Γ, E := nr3E, Pn := nr3P }
theorem nr3_good : nr3.good Tryz.prog := good_of_all (nrT_ok _ rfl) nr3Γ_ok nr3E_ok nr3P_ok
theorem nr3_all : (∀ t, nr3.td t = (look nrT t).getD .other) ∧ nr3.y = false ∧ nr3.Γ = nr3Γ ∧ nr3.E = nr3E ∧ nr3.Pn = nr3P ∧ nr3.fz = [] := ⟨fun _ => rfl, rfl, rfl, rfl, rfl, rfl⟩
noncomputable def twoErr (n1 : Bool) (m1 : List Int) (n2 : Bool) (m2 : List Int) : Int := if okBig n1 m1 then natErr n2 m2 else 90
noncomputable def conTwo : Con := ⟨fun args => (match args with
 | [.agg [.bool n1, .sl (.int .i64) m1 _], .agg [.bool n2, .sl (.int .i64) m2 _]] => True
 | _ => False), fun args => match args with
 | [.agg [.bool n1, .sl (.int .i64) m1 _], .agg [.bool n2, .sl (.int .i64) m2 _]] => .v (aI (twoErr n1 m1 n2 m2))
 | _ => .v (.s .any)⟩
theorem conTwo_eq (n1 : Bool) (m1 : List (Ty.T tI)) (exm1 : Bool) (n2 : Bool) (m2 : List (Ty.T tI)) (exm2 : Bool) : conTwo.pre [.agg [.bool n1, .sl tI m1 exm1], .agg [.bool n2, .sl tI m2 exm2]] = (True) ∧ conTwo.val [.agg [.bool n1, .sl tI m1 exm1], .agg [.bool n2, .sl tI m2 exm2]] = .v (aI (twoErr n1 m1 n2 m2)) := ⟨rfl, rfl⟩
theorem two_ok : PureOk Tryz.prog 193 conTwo := by
 refine pureOkD (L := { live := [0, 1, 2, 3, 4, 7] }) nr3_good rfl nr_mixed Tryz.func193 rfl conTwo 2 (by decide) (by kernel_rfl) ?_
 intro args hpre hlens
 simp only [conTwo] at hpre
 split at hpre
 case h_2 => exact hpre.elim
 rename_i n1 m1 e1 n2 m2 e2
 simp only [allLen, AV.lenOk, SV.lenOk, Ty.lenOk, maxLen, and_true, implies_true, true_and, List.forall_mem_cons, List.not_mem_nil, false_implies] at hlens
 refine ⟨rfl, ?_⟩
 simp -dsimp -implicitDefEqProofs [Tryz.f193, conTwo_eq, nr3_all, nrT, nr3Γ, nr3E, nr3P, nr0Γ, nr0E, nr0P, conRCheck_eq, conRCmpD_eq, inI64]
 unfold twoErr
 by_cases h : okBig n1 m1
 ·
  have : natErr n1 m1 = 0 := if_pos h
  rw [if_pos h, this]
  exact ⟨fun h => absurd rfl h, fun _ => rfl⟩
 ·
  have : natErr n1 m1 = 90 := if_neg h
  rw [if_neg h, this]
  exact ⟨fun _ => rfl, fun h => by cases h⟩
theorem fl_at {xs : List Int} {j : Nat} (h : j < xs.length) : (((Ty.int .i64).flats xs)[j]?).getD .any = .int .i64 (xs[j]?.getD 0) := by
 rw [flats_int_get, List.getElem?_eq_getElem h]; rfl
theorem fl_set {xs : List Int} {j : Nat} (h : j < xs.length) (v : Int) : List.take j ((Ty.int .i64).flats xs) ++ SV.int .i64 v :: List.drop (j + 1) ((Ty.int .i64).flats xs) = (Ty.int .i64).flats (xs.set j v) := by
 have e : ∀ l : List Int, (Ty.int .i64).flats l = l.map (SV.int .i64) := fun l => by
  induction l with
  | nil => rfl
  | cons x l ih => simp [Ty.flats, Ty.flat, ih]
 rw [e, e, List.map_set, List.set_eq_take_append_cons_drop, if_pos (by simpa using h)]
noncomputable def nr4Γ : List (FuncId × Con) := (193, conTwo) :: (210, conTrim) :: (217, conAt) :: nr3Γ
theorem nr4Γ_ok : ∀ p ∈ nr4Γ, (∀ (args : Array Value) (w : World), (callFunc p.1 args).run Tryz.prog w = .ok (.enter p.1 args) w) ∧ PureOk Tryz.prog p.1 p.2 := by
 simp only [nr4Γ, List.forall_mem_cons]
 exact ⟨⟨enters_of Tryz.func193 (by kernel_rfl) rfl, two_ok⟩, ⟨enters_of Tryz.func210 (by kernel_rfl) rfl, rtrim_ok⟩, ⟨enters_of Tryz.func217 (by kernel_rfl) rfl, rdigit_ok⟩, nr3Γ_ok⟩
noncomputable def nr4E : List (FuncId × ECon) := nr3E
theorem nr4E_ok : ∀ p ∈ nr4E, (∀ (args : Array Value) (w : World), (callFunc p.1 args).run Tryz.prog w = .ok (.enter p.1 args) w) ∧ EffOk Tryz.prog p.1 p.2 := by
 simp only [nr4E]
 exact nr3E_ok
noncomputable def nr4P : List (FuncId × PCon) := nr3P
theorem nr4P_ok : ∀ p ∈ nr4P, (∀ (args : Array Value) (w : World), (callFunc p.1 args).run Tryz.prog w = .ok (.enter p.1 args) w) ∧ PanOk Tryz.prog p.1 p.2 := by
 simp only [nr4P]
 exact nr3P_ok
noncomputable def nr4 : G := { τ := nrT, Γ := nr4Γ, E := nr4E, Pn := nr4P }
theorem nr4_good : nr4.good Tryz.prog := good_of_all (nrT_ok _ rfl) nr4Γ_ok nr4E_ok nr4P_ok
theorem nr4_all : (∀ t, nr4.td t = (look nrT t).getD .other) ∧ nr4.y = false ∧ nr4.Γ = nr4Γ ∧ nr4.E = nr4E ∧ nr4.Pn = nr4P ∧ nr4.fz = [] := ⟨fun _ => rfl, rfl, rfl, rfl, rfl, rfl⟩
noncomputable def conTimes : Con := ⟨fun args => (match args with
 | [.s (.sl (.int .i64) a _), .s (.sl (.int .i64) b _)] => okD a ∧ okD b ∧ a.length ≤ 2048 ∧ b.length ≤ 2048
 | _ => False), fun args => match args with
 | [.s (.sl (.int .i64) a _), .s (.sl (.int .i64) b _)] => .v (aS tI (dig (vl a * vl b)) false)
 | _ => .v (.s .any)⟩
theorem conTimes_eq (a : List (Ty.T tI)) (exa : Bool) (b : List (Ty.T tI)) (exb : Bool) : conTimes.pre [.s (.sl tI a exa), .s (.sl tI b exb)] = (okD a ∧ okD b ∧ a.length ≤ 2048 ∧ b.length ≤ 2048) ∧ conTimes.val [.s (.sl tI a exa), .s (.sl tI b exb)] = .v (aS tI (dig (vl a * vl b)) false) := ⟨rfl, rfl⟩
theorem times_ok : PureOk Tryz.prog 211 conTimes := by
 refine pureOkD (L := { live := [0, 1, 4, 5, 6, 7, 8, 9, 19, 25], frz := [(13, [5])] }) nr4_good rfl nr_mixed Tryz.func211 rfl conTimes 2 (by decide) (by kernel_rfl) ?_
 intro args hpre hlens
 simp only [conTimes] at hpre
 split at hpre
 case h_2 => exact hpre.elim
 rename_i a ea b eb
 simp only [allLen, AV.lenOk, SV.lenOk, Ty.lenOk, maxLen, and_true, implies_true, true_and, List.forall_mem_cons, List.not_mem_nil, false_implies] at hlens
 refine ⟨rfl, ?_⟩
 simp -dsimp -implicitDefEqProofs [Tryz.f211, conTimes_eq, nr4_all, nrT, nr4Γ, nr4E, nr4P, nr3Γ, nr3E, nr3P, nr0Γ, nr0E, nr0P, conTwo_eq, conTrim_eq, conAt_eq, conRCheck_eq, conRCmpD_eq, inI64]
 obtain ⟨ha, hb, ha2, hb2⟩ := hpre
 have hn : ((a.length : Int) + (b.length : Int)).toNat = a.length + b.length := by omega
 refine ⟨⟨by omega, by omega⟩, ⟨by omega, by omega, by omega⟩, ?_⟩
 rw [hn]
 refine WpD.loop (L := { live := [0, 1, 4, 5, 6, 7, 8, 9, 19, 25], frz := [(13, [5])] }) nr4_good X0_ok nr_mixed (by kernel_rfl)
  (fun p : Nat × List Int => ⟨[(0, vS tI a ea), (1, vS tI b eb), (5, ⟨true, .v (.s (.own tI 0 (a.length + b.length)))⟩), (6, vI p.1)], [.arr true (tI.flats p.2)]⟩)
  (fun p => p.1 ≤ a.length ∧ p.2.length = a.length + b.length ∧ okD p.2 ∧ vl p.2 = vl (a.take p.1) * vl b ∧ ∀ d ∈ p.2.drop (p.1 + b.length), d = 0) (fun p => a.length - p.1) (0, List.replicate (a.length + b.length) 0)
  ⟨Nat.zero_le _, List.length_replicate, okD_rep _, by simp [vl_rep, vl], fun d hd => List.eq_of_mem_replicate (List.mem_of_mem_drop hd)⟩ (Turn.le (by simp -dsimp -implicitDefEqProofs)) ?_
 rintro ⟨i, xs⟩ ⟨hi, hxl, hxo, hxv, hxz⟩
 simp only at hi hxl hxo hxv hxz
 simp -dsimp -implicitDefEqProofs [conTimes_eq, nr4_all, nrT, nr4Γ, nr4E, nr4P, nr3Γ, nr3E, nr3P, nr0Γ, nr0E, nr0P, conTwo_eq, conTrim_eq, conAt_eq, conRCheck_eq, conRCmpD_eq, inI64]
 refine ⟨fun hil => ?_, fun hge => ⟨xs, rfl, hxl.symm, ?_⟩⟩
 ·
  have hai := okD_get ha hil
  refine WpD.loop (L := { live := [0, 1, 4, 5, 6, 7, 8, 9, 19, 25], frz := [(13, [5])] }) nr4_good X0_ok nr_mixed (by kernel_rfl)
   (fun p : Nat × List Int × Int => ⟨[(0, vS tI a ea), (1, vS tI b eb), (5, ⟨true, .v (.s (.own tI 0 (a.length + b.length)))⟩), (6, vI i), (7, vI p.2.2), (8, vI p.1)], [.arr true (tI.flats p.2.1)]⟩)
   (fun p => p.1 ≤ b.length ∧ p.2.1.length = a.length + b.length ∧ okD p.2.1 ∧ (0 ≤ p.2.2 ∧ p.2.2 ≤ 1073741823) ∧ vl p.2.1 + 1073741824 ^ (i + p.1) * p.2.2.toNat = vl xs + 1073741824 ^ i * ((a[i]?.getD 0).toNat * vl (b.take p.1)) ∧ p.2.1.drop (i + p.1) = xs.drop (i + p.1)) (fun p => b.length - p.1) (0, xs, 0)
   ⟨Nat.zero_le _, hxl, hxo, ⟨Int.le_refl _, by show (0 : Int) ≤ 1073741823; decide⟩, by simp [vl], rfl⟩ (Turn.le (by simp -dsimp -implicitDefEqProofs)) ?_
  rintro ⟨k, ys, ov⟩ ⟨hk, hyl, hyo, hov, hyv, hyd⟩
  simp only at hk hyl hyo hov hyv hyd
  rcases Nat.lt_or_ge k b.length with hkl | hkl
  ·
   have e1 : ((i : Int) + (k : Int)).toNat = i + k := by omega
   have hfl := fl_at (xs := ys) (j := i + k) (by omega)
   obtain ⟨s1, s2, s3, s4, s5⟩ := mul_step (s := ys[i + k]?.getD 0 + a[i]?.getD 0 * b[k] + ov) hyo (by omega) hkl hb hai hov hyv (by rw [List.getElem?_eq_getElem hkl]; rfl)
   simp -dsimp -implicitDefEqProofs [conTimes_eq, e1, hfl, hkl, nr4_all, nrT, nr4Γ, nr4E, nr4P, nr3Γ, nr3E, nr3P, nr0Γ, nr0E, nr0P, conTwo_eq, conTrim_eq, conAt_eq, conRCheck_eq, conRCmpD_eq, inI64]
   have hm := mul_range hai (okD_get hb hkl)
   rw [List.getElem?_eq_getElem hkl, Option.getD_some] at hm
   have hy := okD_get hyo (i := i + k) (by omega)
   rw [Int.tdiv_eq_ediv_of_nonneg s1.1, Int.tmod_eq_emod_of_nonneg s1.1, fl_set (by omega)]
   generalize ys[i + k]?.getD 0 + a[i]?.getD 0 * b[k] + ov = s at *
   refine ⟨⟨by omega, by omega⟩, ⟨hyl, by omega, by omega⟩, ⟨hyl, by omega⟩, hil, ⟨by omega, by omega⟩, ⟨by omega, by omega⟩, ⟨by omega, by omega⟩, ⟨by omega, by omega⟩, ⟨hyl, by omega, by omega⟩, ⟨hyl, by omega⟩, ⟨by omega, by omega⟩, ⟨by omega, by omega⟩,
    k + 1, ys.set (i + k) (s % 1073741824), s / 1073741824, ⟨by omega, by rw [List.length_set]; exact hyl, s4, s2, s5, ?_⟩, by omega, TurnT.le (by simp -dsimp -implicitDefEqProofs)⟩
   rw [← Nat.add_assoc, drop_set_succ]
   exact drop_eq_succ hyd
  ·
   have hkn : ¬ k < b.length := by omega
   obtain rfl : k = b.length := by omega
   obtain ⟨r1, r2, r3⟩ := row_end hil hyl hyo ha hov hyv hyd hxz hxv
   have e1 : ((i : Int) + (b.length : Int)).toNat = i + b.length := by omega
   simp -dsimp -implicitDefEqProofs [conTimes_eq, hkn, e1, nr4_all, nrT, nr4Γ, nr4E, nr4P, nr3Γ, nr3E, nr3P, nr0Γ, nr0E, nr0P, conTwo_eq, conTrim_eq, conAt_eq, conRCheck_eq, conRCmpD_eq, inI64]
   rw [fl_set (by omega)]
   exact ⟨⟨by omega, by omega⟩, ⟨hyl, by omega, hil⟩, ⟨hyl, by omega⟩, ⟨by omega, by omega⟩, i + 1, ys.set (i + b.length) ov, ⟨by omega, by rw [List.length_set]; exact hyl, r1, r2, r3⟩, by omega, TurnT.le (by simp -dsimp -implicitDefEqProofs)⟩
 ·
  obtain rfl : i = a.length := by omega
  rw [← dig_vl hxo, hxv, List.take_of_length_le (Nat.le_refl _)]
noncomputable def conLess9 : Con := ⟨fun args => (match args with
 | [.s (.sl (.int .i64) a _), .s (.sl (.int .i64) b _)] => okD a ∧ canon b ∧ vl b ≤ vl a ∧ a.length ≤ 4096
 | _ => False), fun args => match args with
 | [.s (.sl (.int .i64) a _), .s (.sl (.int .i64) b _)] => .v (aS tI (dig (vl a - vl b)) false)
 | _ => .v (.s .any)⟩
theorem conLess9_eq (a : List (Ty.T tI)) (exa : Bool) (b : List (Ty.T tI)) (exb : Bool) : conLess9.pre [.s (.sl tI a exa), .s (.sl tI b exb)] = (okD a ∧ canon b ∧ vl b ≤ vl a ∧ a.length ≤ 4096) ∧ conLess9.val [.s (.sl tI a exa), .s (.sl tI b exb)] = .v (aS tI (dig (vl a - vl b)) false) := ⟨rfl, rfl⟩
theorem less9_ok : PureOk Tryz.prog 212 conLess9 := by
 refine pureOkD (L := { live := [0, 1, 4, 5, 6, 7, 8, 13, 27], frz := [(12, [5])] }) nr4_good rfl nr_mixed Tryz.func212 rfl conLess9 2 (by decide) (by kernel_rfl) ?_
 intro args hpre hlens
 simp only [conLess9] at hpre
 split at hpre
 case h_2 => exact hpre.elim
 rename_i a ea b eb
 simp only [allLen, AV.lenOk, SV.lenOk, Ty.lenOk, maxLen, and_true, implies_true, true_and, List.forall_mem_cons, List.not_mem_nil, false_implies] at hlens
 refine ⟨rfl, ?_⟩
 simp -dsimp -implicitDefEqProofs [Tryz.f212, conLess9_eq, nr4_all, nrT, nr4Γ, nr4E, nr4P, nr3Γ, nr3E, nr3P, nr0Γ, nr0E, nr0P, conTwo_eq, conTrim_eq, conAt_eq, conRCheck_eq, conRCmpD_eq, inI64]
 obtain ⟨a, rfl⟩ : ∃ y : List Int, y = a := ⟨a, rfl⟩; obtain ⟨b, rfl⟩ : ∃ y : List Int, y = b := ⟨b, rfl⟩
 obtain ⟨ha, hb, hle, hal⟩ := hpre
 refine WpD.turn _ (Turn.virt (k := 5) (t := tI) (xs := []) (by simp [look])) ?_
 refine WpD.loop (L := { live := [0, 1, 4, 5, 6, 7, 8, 13, 27], frz := [(12, [5])] }) nr4_good X0_ok nr_mixed (by kernel_rfl)
  (fun p : Nat × List Int × Nat => ⟨[(0, vS tI a ea), (1, vS tI b eb), (5, ⟨true, .v (.s (.own tI 0 p.1))⟩), (6, vI p.2.2), (7, vI p.1)], [.arr (decide (0 < p.1)) (tI.flats p.2.1)]⟩)
  (fun p => p.1 ≤ a.length ∧ p.2.1.length = p.1 ∧ okD p.2.1 ∧ (p.2.2 = 0 ∨ p.2.2 = 1) ∧ vl p.2.1 + vl (b.take p.1) = vl (a.take p.1) + 1073741824 ^ p.1 * p.2.2) (fun p => a.length - p.1) (0, [], 0)
  ⟨Nat.zero_le _, rfl, okD_nil, .inl rfl, by simp [vl]⟩ (Turn.le (by simp -dsimp -implicitDefEqProofs)) ?_
 rintro ⟨i, out, ow⟩ ⟨hi, hol, hoo, how, hov⟩
 simp only at hi hol hoo how hov
 simp -dsimp -implicitDefEqProofs [conLess9_eq, nr4_all, nrT, nr4Γ, nr4E, nr4P, nr3Γ, nr3E, nr3P, nr0Γ, nr0E, nr0P, conTwo_eq, conTrim_eq, conAt_eq, conRCheck_eq, conRCmpD_eq, inI64]
 have hmx : 4096 ≤ maxLen := by simp only [maxLen]; omega
 refine ⟨fun hil => ?_, fun hge => ⟨out, rfl, by omega, ?_⟩⟩
 ·
  obtain ⟨l1, l2, l3⟩ := less_step ha hb.1 hil hol hoo how hov rfl
  have h1 := okD_get ha hil
  generalize hn : a[i]?.getD 0 - b[i]?.getD 0 - (ow : Int) = n at *
  refine ⟨hil, ⟨by omega, by omega⟩, ⟨by omega, by omega⟩, fun hneg => ?_, fun hpos => ?_⟩
  ·
   obtain ⟨k1, k2⟩ := l2 hneg
   refine ⟨⟨by omega, by omega⟩, ⟨hol, by omega, by omega⟩, ⟨by omega, by omega⟩, i + 1, out ++ [n + 1073741824], 1, ⟨by omega, by simp [hol], k1, .inr rfl, k2⟩, by omega, TurnT.le (by simp -dsimp -implicitDefEqProofs)⟩
  ·
   obtain ⟨k1, k2⟩ := l3 (by omega)
   refine ⟨⟨hol, by omega, by omega⟩, ⟨by omega, by omega⟩, i + 1, out ++ [n], 0, ⟨by omega, by simp [hol], k1, .inl rfl, k2⟩, by omega, TurnT.le (by simp -dsimp -implicitDefEqProofs)⟩
 ·
  obtain rfl : i = a.length := by omega
  exact less_end ha hb hle hol hoo how hov
noncomputable def nr5Γ : List (FuncId × Con) := (211, conTimes) :: (212, conLess9) :: nr4Γ
theorem nr5Γ_ok : ∀ p ∈ nr5Γ, (∀ (args : Array Value) (w : World), (callFunc p.1 args).run Tryz.prog w = .ok (.enter p.1 args) w) ∧ PureOk Tryz.prog p.1 p.2 := by
 simp only [nr5Γ, List.forall_mem_cons]
 exact ⟨⟨enters_of Tryz.func211 (by kernel_rfl) rfl, times_ok⟩, ⟨enters_of Tryz.func212 (by kernel_rfl) rfl, less9_ok⟩, nr4Γ_ok⟩
noncomputable def nr5E : List (FuncId × ECon) := nr4E
theorem nr5E_ok : ∀ p ∈ nr5E, (∀ (args : Array Value) (w : World), (callFunc p.1 args).run Tryz.prog w = .ok (.enter p.1 args) w) ∧ EffOk Tryz.prog p.1 p.2 := by
 simp only [nr5E]
 exact nr4E_ok
noncomputable def nr5P : List (FuncId × PCon) := nr4P
theorem nr5P_ok : ∀ p ∈ nr5P, (∀ (args : Array Value) (w : World), (callFunc p.1 args).run Tryz.prog w = .ok (.enter p.1 args) w) ∧ PanOk Tryz.prog p.1 p.2 := by
 simp only [nr5P]
 exact nr4P_ok
noncomputable def nr5 : G := { τ := nrT, Γ := nr5Γ, E := nr5E, Pn := nr5P, fz := [23, 39] }
theorem nr5_good : nr5.good Tryz.prog := good_of_all (nrT_ok _ rfl) nr5Γ_ok nr5E_ok nr5P_ok
theorem nr5_all : (∀ t, nr5.td t = (look nrT t).getD .other) ∧ nr5.y = false ∧ nr5.Γ = nr5Γ ∧ nr5.E = nr5E ∧ nr5.Pn = nr5P ∧ nr5.fz = [23, 39] := ⟨fun _ => rfl, rfl, rfl, rfl, rfl, rfl⟩
noncomputable def conDivide : Con := ⟨fun args => (match args with
 | [.s (.sl (.int .i64) a _), .s (.sl (.int .i64) b _)] => canon a ∧ canon b ∧ 0 < vl b ∧ a.length ≤ 2048 ∧ b.length ≤ 2048
 | _ => False), fun args => match args with
 | [.s (.sl (.int .i64) a _), .s (.sl (.int .i64) b _)] => .tup [aS tI (dig (vl a / vl b)) false, aS tI (dig (vl a % vl b)) false]
 | _ => .v (.s .any)⟩
theorem conDivide_eq (a : List (Ty.T tI)) (exa : Bool) (b : List (Ty.T tI)) (exb : Bool) : conDivide.pre [.s (.sl tI a exa), .s (.sl tI b exb)] = (canon a ∧ canon b ∧ 0 < vl b ∧ a.length ≤ 2048 ∧ b.length ≤ 2048) ∧ conDivide.val [.s (.sl tI a exa), .s (.sl tI b exb)] = .tup [aS tI (dig (vl a / vl b)) false, aS tI (dig (vl a % vl b)) false] := ⟨rfl, rfl⟩
theorem divide_ok : PureOk Tryz.prog 194 conDivide := by
 refine pureOkD (L := { live := [0, 1, 4, 5, 6, 7, 8, 9, 10, 11, 12, 32, 46, 49, 61], frz := [(18, [6])] }) nr5_good rfl nr_mixed Tryz.func194 rfl conDivide 2 (by decide) (by kernel_rfl) ?_
 intro args hpre hlens
 simp only [conDivide] at hpre
 split at hpre
 case h_2 => exact hpre.elim
 rename_i a ea b eb
 simp only [allLen, AV.lenOk, SV.lenOk, Ty.lenOk, maxLen, and_true, implies_true, true_and, List.forall_mem_cons, List.not_mem_nil, false_implies] at hlens
 refine ⟨rfl, ?_⟩
 simp -dsimp -implicitDefEqProofs [Tryz.f194, conDivide_eq, nr5_all, nrT, nr5Γ, nr5E, nr5P, nr4Γ, nr4E, nr4P, nr3Γ, nr3E, nr3P, nr0Γ, nr0E, nr0P, conTimes_eq, conLess9_eq, conTwo_eq, conTrim_eq, conAt_eq, conRCheck_eq, conRCmpD_eq, inI64]
 obtain ⟨a, rfl⟩ : ∃ y : List Int, y = a := ⟨a, rfl⟩; obtain ⟨b, rfl⟩ : ∃ y : List Int, y = b := ⟨b, rfl⟩
 obtain ⟨ha, hb, hbp, ha2, hb2⟩ := hpre
 have hbl : 0 < b.length := (vl_pos hb).1 hbp
 obtain ⟨st, hst⟩ : ∃ st : Nat, (if 0 < (a.length : Int) - (b.length : Int) + 1 then (a.length : Int) - (b.length : Int) + 1 else 0) = (st : Int) := by
  split
  ·
   exact ⟨((a.length : Int) - (b.length : Int) + 1).toNat, by omega⟩
  ·
   exact ⟨0, rfl⟩
 have hst2 : st ≤ a.length ∧ a.length - st < b.length := by
  split at hst <;> omega
 have hmx : 4096 ≤ maxLen := by simp only [maxLen]; omega
 rw [hst]
 refine ⟨⟨by omega, by omega⟩, ⟨by omega, by omega⟩, ⟨by omega, by omega⟩, ⟨by omega, by omega⟩, ⟨by omega, by omega⟩, ⟨by omega, by omega⟩, ?_⟩
 simp only [Int.toNat_natCast]
 refine WpD.loop (L := { live := [0, 1, 4, 5, 6, 7, 8, 9, 10, 11, 12, 32, 46, 49, 61], frz := [(18, [6])] }) nr5_good X0_ok nr_mixed (by kernel_rfl)
  (fun p : Nat × List Int × Nat => ⟨[(0, vS tI a ea), (1, vS tI b eb), (6, ⟨true, .v (.s (.own tI 0 a.length))⟩), (8, vS tI (dig p.2.2) false), (9, vI ((p.1 : Int) - 1))], [.arr true (tI.flats p.2.1), .dead]⟩)
  (fun p => p.1 ≤ a.length ∧ p.2.1.length = a.length ∧ okD p.2.1 ∧ (∀ d ∈ p.2.1.take p.1, d = 0) ∧ vl (a.drop p.1) = vl (p.2.1.drop p.1) * vl b + p.2.2 ∧ p.2.2 < vl b) (fun p => p.1) (st, List.replicate a.length 0, vl (a.drop st))
  ⟨hst2.1, List.length_replicate, okD_rep _, fun d hd => List.eq_of_mem_replicate (List.mem_of_mem_take hd), by simp [vl_rep], ?_⟩ (Turn.le ?_) ?_
 ·
  have h1 := vl_lt (okD_drop ha.1 st)
  rw [List.length_drop] at h1
  have h2 : ¬ vl b < 1073741824 ^ (b.length - 1) := fun h => by have := (canon_len hb).2 h; omega
  have h3 : 1073741824 ^ (a.length - st) ≤ 1073741824 ^ (b.length - 1) := Nat.pow_le_pow_right (by decide) (by omega)
  show vl (a.drop st) < vl b
  omega
 ·
  simp -dsimp -implicitDefEqProofs [(dig_vl (okD_drop ha.1 st)).symm]
 rintro ⟨n, q, R⟩ ⟨hn, hql, hqo, hqz, hqv, hR⟩
 simp only at hn hql hqo hqz hqv hR
 simp -dsimp -implicitDefEqProofs [conDivide_eq, Nat.add_comm 1, nr5_all, nrT, nr5Γ, nr5E, nr5P, nr4Γ, nr4E, nr4P, nr3Γ, nr3E, nr3P, nr0Γ, nr0E, nr0P, conTimes_eq, conLess9_eq, conTwo_eq, conTrim_eq, conAt_eq, conRCheck_eq, conRCmpD_eq, inI64]
 refine ⟨fun h1 => ?_, fun h0 => ⟨q, rfl, hql.symm, ?_⟩⟩
 ·
  obtain ⟨k, rfl⟩ : ∃ k, n = k + 1 := ⟨n - 1, by omega⟩
  have hka : k < a.length := by omega
  have e : ((k + 1 : Nat) : Int) - 1 - 1 = (k : Int) - 1 := by omega
  have hak := okD_get ha.1 hka
  rw [Nat.add_sub_cancel, div_push ha.1 hka, vl_dig]
  obtain ⟨x, hx⟩ : ∃ x, (a[k]?.getD 0).toNat = x := ⟨_, rfl⟩
  have hx2 : x ≤ 1073741823 := by omega
  have hRl : (dig R).length ≤ 2048 := dig_le (Nat.lt_trans hR (vl_lt hb.1)) hb2
  have hR2 : x + 1073741824 * R < (1073741823 + 1) * vl b := div_lt hx2 hR
  have hRl2 : (dig (x + 1073741824 * R)).length ≤ 4096 := dig_le (k := b.length + 1) (by
   have := vl_lt hb.1
   rw [Nat.pow_succ]
   omega) (by omega)
  have hrow := fun lo => div_row (lo := lo) hka hql hqo hqz hqv
  rw [hx] at hrow ⊢
  generalize hN : x + 1073741824 * R = N at *
  refine ⟨⟨h1, by omega⟩, ⟨by omega, by omega⟩, ⟨canon_dig _, hb, by omega, by omega⟩, fun hlt => ?_, fun hge => ?_⟩
  ·
   rw [cmpN_neg] at hlt
   obtain ⟨r1, r2, r3⟩ := hrow 0 (by omega) (by omega)
   rw [set_same (by omega) hqz] at r1 r2 r3
   refine ⟨⟨by omega, by omega⟩, k, q, N, ⟨by omega, hql, r1, r2, by simpa using r3, hlt⟩, by omega, ?_⟩
   rw [e]
   exact TurnT.trunc X0_ok (hp := [_, _]) (junk := [_]) (by simp) (by simp only [List.length_cons, List.length_nil, List.all_cons, List.all_nil, arr_below, Bool.and_true] <;> simp [Blk.below, SV.below]) (by simp -dsimp -implicitDefEqProofs []) (by simp [envBelow, RV.below, AV.below, SV.below])
  ·
   have hge2 : vl b ≤ N := by
    rcases Nat.lt_or_ge N (vl b) with h | h
    ·
     have := cmpN_neg.2 h; omega
    ·
     exact h
   refine WpD.loop (L := { live := [0, 1, 4, 5, 6, 7, 8, 9, 10, 11, 12, 32, 46, 49, 61], frz := [(18, [6])] }) nr5_good X0_ok nr_mixed (by kernel_rfl)
    (fun p : Nat × Nat => ⟨[(0, vS tI a ea), (1, vS tI b eb), (6, ⟨true, .v (.s (.own tI 0 a.length))⟩), (8, vS tI (dig N) false), (9, vI (((k + 1 : Nat) : Int) - 1)), (10, vI p.1), (11, vI p.2)], [.arr true (tI.flats q), .dead, .dead]⟩)
    (fun p => p.1 ≤ p.2 ∧ p.2 ≤ 1073741823 ∧ p.1 * vl b ≤ N ∧ N < (p.2 + 1) * vl b) (fun p => p.2 - p.1) (0, 1073741823)
    ⟨by omega, by omega, by omega, hR2⟩ (Turn.le (by simp -dsimp -implicitDefEqProofs)) ?_
   rintro ⟨lo, hi⟩ ⟨hlh, hhi, hlo, hNh⟩
   simp only at hlh hhi hlo hNh
   rcases Nat.lt_or_ge lo hi with hll | hll
   ·
    have e2 : ((lo : Int) + (hi : Int) + 1).tdiv 2 = (((lo + hi + 1) / 2 : Nat) : Int) := by
     rw [Int.tdiv_eq_ediv_of_nonneg (by omega)]; omega
    obtain ⟨mid, hmid⟩ : ∃ mid, (lo + hi + 1) / 2 = mid := ⟨_, rfl⟩
    have hm1 : lo < mid ∧ mid ≤ hi := by omega
    rw [hmid] at e2
    have hvm : vl [(mid : Int)] = mid := by rw [vl_one]; omega
    have hml : (dig (mid * vl b)).length ≤ 4096 := dig_len_mul hb (m := mid) (by omega) (Nat.le_refl _) (by omega)
    simp -dsimp -implicitDefEqProofs [conDivide_eq, e2, hll, hvm, nr5_all, nrT, nr5Γ, nr5E, nr5P, nr4Γ, nr4E, nr4P, nr3Γ, nr3E, nr3P, nr0Γ, nr0E, nr0P, conTimes_eq, conLess9_eq, conTwo_eq, conTrim_eq, conAt_eq, conRCheck_eq, conRCmpD_eq, inI64]
    rw [vl_dig, vl_dig]
    refine ⟨⟨by omega, by omega⟩, ⟨by omega, by omega⟩, by omega, ⟨okD_cons.2 ⟨⟨by omega, by omega⟩, okD_nil⟩, hb.1, hb2⟩, ⟨canon_dig _, canon_dig _, hml, hRl2⟩, fun hle => ⟨mid, hi, ⟨by omega, hhi, ?_, hNh⟩, by omega, TurnT.le (by simp -dsimp -implicitDefEqProofs)⟩, fun hgt => ⟨by omega, lo, mid - 1, ⟨by omega, by omega, hlo, ?_⟩, by omega, TurnT.le (by simp -dsimp -implicitDefEqProofs; omega)⟩⟩
    ·
     rcases Nat.lt_or_ge N (mid * vl b) with h | h
     ·
      have := cmpN_pos.2 h; omega
     ·
      exact h
    ·
     rw [Nat.sub_add_cancel (by omega)]
     exact cmpN_pos.1 hgt
   ·
    obtain rfl : lo = hi := by omega
    have hnn : ¬ lo < lo := by omega
    have hvm : vl [(lo : Int)] = lo := by rw [vl_one]; omega
    simp -dsimp -implicitDefEqProofs [conDivide_eq, hnn, nr5_all, nrT, nr5Γ, nr5E, nr5P, nr4Γ, nr4E, nr4P, nr3Γ, nr3E, nr3P, nr0Γ, nr0E, nr0P, conTimes_eq, conLess9_eq, conTwo_eq, conTrim_eq, conAt_eq, conRCheck_eq, conRCmpD_eq, inI64]
    rw [hvm, vl_dig, vl_dig, fl_set (by omega)]
    obtain ⟨r1, r2, r3⟩ := hrow lo (by omega) hlo
    have hlt : N - lo * vl b < vl b := by
     rw [Nat.add_mul, Nat.one_mul] at hNh
     omega
    refine ⟨⟨hql, hka⟩, ⟨hql, by omega⟩, ⟨okD_cons.2 ⟨⟨by omega, by omega⟩, okD_nil⟩, hb.1, hb2⟩, ⟨okD_dig _, canon_dig _, hlo, hRl2⟩, ⟨by omega, by omega⟩, k, q.set k lo, N - lo * vl b, ⟨by omega, by rw [List.length_set]; exact hql, r1, r2, r3, hlt⟩, by omega, ?_⟩
    exact TurnT.trunc X0_ok (hp := [_, _]) (junk := [_]) (by simp) (by simp only [List.length_cons, List.length_nil, List.all_cons, List.all_nil, arr_below, Bool.and_true] <;> simp [Blk.below, SV.below]) (by simp -dsimp -implicitDefEqProofs []) (by simp [envBelow, RV.below, AV.below, SV.below])
 ·
  obtain rfl : n = 0 := by omega
  rw [List.drop_zero, List.drop_zero] at hqv
  rw [← dig_vl hqo]
  have := Nat.div_mod_unique hbp (a := vl a) (c := R) (d := vl q)
  obtain ⟨d1, d2⟩ := this.2 ⟨by rw [hqv, Nat.mul_comm, Nat.add_comm], hR⟩
  rw [d1, d2]
  exact ⟨rfl, rfl⟩
noncomputable def nr6Γ : List (FuncId × Con) := (194, conDivide) :: nr5Γ
theorem nr6Γ_ok : ∀ p ∈ nr6Γ, (∀ (args : Array Value) (w : World), (callFunc p.1 args).run Tryz.prog w = .ok (.enter p.1 args) w) ∧ PureOk Tryz.prog p.1 p.2 := by
 simp only [nr6Γ, List.forall_mem_cons]
 exact ⟨⟨enters_of Tryz.func194 (by kernel_rfl) rfl, divide_ok⟩, nr5Γ_ok⟩
noncomputable def nr6E : List (FuncId × ECon) := nr5E
theorem nr6E_ok : ∀ p ∈ nr6E, (∀ (args : Array Value) (w : World), (callFunc p.1 args).run Tryz.prog w = .ok (.enter p.1 args) w) ∧ EffOk Tryz.prog p.1 p.2 := by
 simp only [nr6E]
 exact nr5E_ok
noncomputable def nr6P : List (FuncId × PCon) := nr5P
theorem nr6P_ok : ∀ p ∈ nr6P, (∀ (args : Array Value) (w : World), (callFunc p.1 args).run Tryz.prog w = .ok (.enter p.1 args) w) ∧ PanOk Tryz.prog p.1 p.2 := by
 simp only [nr6P]
 exact nr5P_ok
noncomputable def nr6 : G := { τ := nrT, Γ := nr6Γ, E := nr6E, Pn := nr6P }
theorem nr6_good : nr6.good Tryz.prog := good_of_all (nrT_ok _ rfl) nr6Γ_ok nr6E_ok nr6P_ok
theorem nr6_all : (∀ t, nr6.td t = (look nrT t).getD .other) ∧ nr6.y = false ∧ nr6.Γ = nr6Γ ∧ nr6.E = nr6E ∧ nr6.Pn = nr6P ∧ nr6.fz = [] := ⟨fun _ => rfl, rfl, rfl, rfl, rfl, rfl⟩
end Go.Am
