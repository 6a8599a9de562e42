/- Part 7 of the proof's base. -/
import Derived.Test.YtejcoioabaejlaaGreatDoorK6
set_option linter.all false
noncomputable section
namespace Go.Am
theorem nodup_len {α:Type}:∀ {S T:List α},S.Nodup→(∀ y∈S,y∈T)→S.length≤T.length
 | [],T,_,_=>Nat.zero_le _
 | x::S,T,hn,hs=>by
  classical
  obtain ⟨h1,h2⟩:=List.nodup_cons.1 hn
  have hx:x∈T:=hs x (by simp)
  have:=nodup_len (S:=S) (T:=T.erase x) h2 fun y hy=>(List.mem_erase_of_ne (by rintro rfl; exact h1 hy)).2 (hs y (by simp [hy]))
  rw [List.length_erase_of_mem hx] at this
  have h0:=List.length_pos_of_mem hx
  simp only [List.length_cons]
  omega
section
variable {α:Type} (ok:Nat→α→Prop)
def closedP (l:List α) (x:α):Prop:=∀ S:List α,S.Nodup→(∀ y∈S,y∈l)→x∈S→∃ y∈S,ok S.length y
variable {ok}
theorem closedP_congr {l l':List α} {x:α} (h:∀ y,y∈l'→y∈l) (hc:closedP ok l x):closedP ok l' x:=fun S h1 h2 h3=>hc S h1 (fun y hy=>h y (h2 y hy)) h3
theorem closedP_map {β:Type} {ok':Nat→β→Prop} {l:List α} {l':List β} {x:β} (f:β→α) (hf:∀ y∈l',f y∈l) (hi:∀ y∈l',∀ z∈l',f y=f z→y=z) (ho:∀ n,∀ y∈l',ok n (f y)→ok' n y) (hc:closedP ok l (f x)):closedP ok' l' x:=by
 intro S h1 h2 h3
 obtain ⟨y,hy,hk⟩:=hc (S.map f) (by
  rw [List.Nodup,List.pairwise_map]
  exact h1.imp_of_mem fun {a b} ha hb hab e=>hab (hi a (h2 a ha) b (h2 b hb) e)) (fun y hy=>by
   obtain ⟨z,hz,rfl⟩:=List.mem_map.1 hy
   exact hf z (h2 z hz)) (List.mem_map.2 ⟨x,h3,rfl⟩)
 obtain ⟨z,hz,rfl⟩:=List.mem_map.1 hy
 rw [List.length_map] at hk
 exact ⟨z,hz,ho _ z (h2 z hz) hk⟩
variable {le:α→α→Prop} (hm:∀ m m' y,m'≤m→ok m y→ok m' y)
include hm
theorem holm {s:List α} (hl:∀ m,∀ x∈s,∀ y∈s,le x y→ok m y→ok m x) (hr:∀ x∈s,le x x) (hn:s.Nodup) (hp:s.Pairwise le) {k:Nat} (hk:k<s.length) :
  closedP ok s s[k]↔∀ j (h:j<s.length),j≤k→ok (s.length - j) s[j]:=by
 have hle:∀ i j (h1:i<s.length) (h2:j<s.length),i≤j→le s[i] s[j]:=fun i j h1 h2 h=>by
  rcases Nat.lt_or_eq_of_le h with h | h
  ·
   exact List.pairwise_iff_getElem.1 hp i j h1 h2 h
  ·
   subst h; exact hr _ (List.getElem_mem h1)
 constructor
 ·
  intro hc j hj hjk
  obtain ⟨y,hy,ho⟩:=hc (s.drop j) (hn.sublist (List.drop_sublist j s)) (fun y hy=>List.mem_of_mem_drop hy) (List.mem_drop_iff_getElem.2 ⟨k - j,by omega,by congr 1; omega⟩)
  obtain ⟨i,hi,rfl⟩:=List.mem_drop_iff_getElem.1 hy
  rw [List.length_drop] at ho
  exact hl _ _ (List.getElem_mem _) _ (List.getElem_mem _) (hle j (j+i) hj (by omega) (by omega)) ho
 ·
  intro h S h1 h2 h3
  classical
  have hex:∃ j,∃ h:j<s.length,s[j]∈S:=⟨k,hk,h3⟩
  obtain ⟨j,hj,hj2,hmin⟩:∃ j,∃ h:j<s.length,s[j]∈S∧∀ i (h:i<s.length),i<j→s[i]∉S:=by
   have:∀ n,(∃ j,∃ h:j<s.length,j<n∧s[j]∈S)→∃ j,∃ h:j<s.length,s[j]∈S∧∀ i (h:i<s.length),i<j→s[i]∉S:=by
    intro n
    induction n with
    | zero=>rintro ⟨j,_,hj,_⟩; omega
    | succ n ih =>
     rintro ⟨j,hj,hjn,hjS⟩
     by_cases hc:∃ j,∃ h:j<s.length,j<n∧s[j]∈S
     ·
      exact ih hc
     ·
      exact ⟨j,hj,hjS,fun i hi hij hiS=>hc ⟨i,hi,by omega,hiS⟩⟩
   exact this (k+1) ⟨k,hk,by omega,h3⟩
  have hjk:j≤k:=by
   apply Classical.byContradiction
   intro hn
   exact hmin k hk (by omega) h3
  have hsub:∀ y∈S,y∈s.drop j:=fun y hy=>by
   obtain ⟨i,hi,rfl⟩:=List.mem_iff_getElem.1 (h2 y hy)
   have:¬ i<j:=fun hij=>hmin i hi hij hy
   exact List.mem_drop_iff_getElem.2 ⟨i - j,by omega,by congr 1; omega⟩
  have hlen:=nodup_len h1 hsub
  rw [List.length_drop] at hlen
  exact ⟨s[j],hj2,hm _ _ _ hlen (h j hj hjk)⟩
omit hm
theorem closed_by {x:α} {o:List α} (hl:∀ m,∀ x∈o,∀ y∈o,le x y→ok m y→ok m x) (hr:∀ x∈o,le x x) (hn:(x::o).Nodup) (hp:o.Pairwise le) :
  closedP ok (x::o) x↔ok 1 x∧∀ m (h:m<o.length),ok (o.length - m+1) x∨ok (o.length - m+1) o[m]:=by
 obtain ⟨hx,hno⟩:=List.nodup_cons.1 hn
 have hle:∀ i j (h1:i<o.length) (h2:j<o.length),i≤j→le o[i] o[j]:=fun i j h1 h2 h=>by
  rcases Nat.lt_or_eq_of_le h with h | h
  ·
   exact List.pairwise_iff_getElem.1 hp i j h1 h2 h
  ·
   subst h; exact hr _ (List.getElem_mem h1)
 constructor
 ·
  intro hc
  refine ⟨?_,fun m hmo => ?_⟩
  ·
   obtain ⟨y,hy,ho⟩:=hc [x] (by simp) (by simp) (by simp)
   obtain rfl:y=x:=by simpa using hy
   exact ho
  ·
   obtain ⟨y,hy,ho⟩:=hc (x::o.drop m) (List.nodup_cons.2 ⟨fun h=>hx (List.mem_of_mem_drop h),hno.sublist (List.drop_sublist m o)⟩) (fun y hy=>by
    rcases List.mem_cons.1 hy with rfl | hy
    ·
     simp
    ·
     exact List.mem_cons_of_mem _ (List.mem_of_mem_drop hy)) (by simp)
   rw [List.length_cons,List.length_drop] at ho
   rcases List.mem_cons.1 hy with rfl | hy
   ·
    exact .inl ho
   ·
    right
    obtain ⟨i,hi,rfl⟩:=List.mem_drop_iff_getElem.1 hy
    exact hl _ _ (List.getElem_mem _) _ (List.getElem_mem _) (hle m (m+i) hmo (by omega) (by omega)) ho
 ·
  rintro ⟨h1,h⟩ S hS hsub hxS
  classical
  have hlen:(S.erase x).length=S.length - 1:=List.length_erase_of_mem hxS
  have hpos:=List.length_pos_of_mem hxS
  have hen:(S.erase x).Nodup:=hS.sublist List.erase_sublist
  have hxe:x∉S.erase x:=fun h=>(hS.mem_erase_iff.1 h).1 rfl
  have heo:∀ y∈S.erase x,y∈o:=fun y hy=>by
   rcases List.mem_cons.1 (hsub y (List.mem_of_mem_erase hy)) with rfl | h
   ·
    exact absurd hy hxe
   ·
    exact h
  have hl2:=nodup_len hen heo
  rcases Nat.lt_or_ge 1 S.length with h2 | h2
  ·
   have hmo:o.length - (S.length - 1)<o.length:=by omega
   have e:o.length - (o.length - (S.length - 1))+1=S.length:=by omega
   have hh:=h _ hmo
   rw [e] at hh
   rcases hh with hh | hh
   ·
    exact ⟨x,hxS,hh⟩
   ·
    
    have:∃ i,∃ hi:i<o.length,i≤o.length - (S.length - 1)∧o[i]∈S.erase x:=by
     apply Classical.byContradiction
     intro hc
     have hsub2:∀ y∈S.erase x,y∈o.drop (o.length - (S.length - 1)+1):=fun y hy=>by
      obtain ⟨i,hi,rfl⟩:=List.mem_iff_getElem.1 (heo y hy)
      have:¬ i≤o.length - (S.length - 1):=fun hij=>hc ⟨i,hi,hij,hy⟩
      exact List.mem_drop_iff_getElem.2 ⟨i - (o.length - (S.length - 1)+1),by omega,by congr 1; omega⟩
     have:=nodup_len hen hsub2
     rw [List.length_drop] at this
     omega
    obtain ⟨i,hi,hij,hiS⟩:=this
    exact ⟨o[i],List.mem_of_mem_erase hiS,hl _ _ (List.getElem_mem _) _ (List.getElem_mem _) (hle i _ hi hmo hij) hh⟩
  ·
   exact ⟨x,hxS,by rw [show S.length=1 by omega]; exact h1⟩
def refusedP (ok:Nat→α→Prop):List α→List α→Prop
 | sm,[]=>∃ y∈sm,ok sm.length y
 | sm,z::os=>refusedP ok sm os∧refusedP ok (sm++[z]) os
theorem refused_iff:∀ (os sm:List α),os.Nodup→(refusedP ok sm os↔∀ T:List α,T.Nodup→(∀ y∈T,y∈os)→∃ y,(y∈sm∨y∈T)∧ok (sm.length+T.length) y)
 | [],sm,_=>by
  constructor
  ·
   rintro ⟨y,hy,ho⟩ T _ hT
   obtain rfl:T=[]:=List.eq_nil_iff_forall_not_mem.2 fun y hy=>by simpa using hT y hy
   exact ⟨y,.inl hy,ho⟩
  ·
   intro h
   obtain ⟨y,hy,ho⟩:=h [] (by simp) (by simp)
   exact ⟨y,by simpa using hy,ho⟩
 | z::os,sm,hn=>by
  classical
  obtain ⟨h1,h2⟩:=List.nodup_cons.1 hn
  show refusedP ok sm os∧refusedP ok (sm++[z]) os↔_
  rw [refused_iff os sm h2,refused_iff os (sm++[z]) h2]
  constructor
  ·
   rintro ⟨a,b⟩ T hT hsub
   by_cases hz:z∈T
   ·
    obtain ⟨y,hy,ho⟩:=b (T.erase z) (hT.sublist List.erase_sublist) (fun y hy=>by
     obtain ⟨q1,q2⟩:=hT.mem_erase_iff.1 hy
     rcases List.mem_cons.1 (hsub y q2) with h | h
     ·
      exact absurd h q1
     ·
      exact h)
    refine ⟨y,?_,?_⟩
    ·
     rcases hy with hy | hy
     ·
      rcases List.mem_append.1 hy with hy | hy
      ·
       exact .inl hy
      ·
       obtain rfl:y=z:=by simpa using hy
       exact .inr hz
     ·
      exact .inr (List.mem_of_mem_erase hy)
    ·
     have:=List.length_pos_of_mem hz
     rw [List.length_erase_of_mem hz,List.length_append,List.length_singleton] at ho
     rw [show sm.length+T.length=sm.length+1+(T.length - 1) by omega]
     exact ho
   ·
    exact a T hT fun y hy=>by
     rcases List.mem_cons.1 (hsub y hy) with h | h
     ·
      rw [h] at hy; exact absurd hy hz
     ·
      exact h
  ·
   intro h
   refine ⟨fun T hT hsub=>h T hT fun y hy=>List.mem_cons_of_mem _ (hsub y hy),fun T hT hsub => ?_⟩
   obtain ⟨y,hy,ho⟩:=h (z::T) (List.nodup_cons.2 ⟨fun hz=>h1 (hsub z hz),hT⟩) (fun y hy=>by
    rcases List.mem_cons.1 hy with rfl | hy
    ·
     simp
    ·
     exact List.mem_cons_of_mem _ (hsub y hy))
   refine ⟨y,?_,?_⟩
   ·
    rcases hy with hy | hy
    ·
     left; simp [hy]
    ·
     rcases List.mem_cons.1 hy with rfl | hy
     ·
      left; simp
     ·
      exact .inr hy
   ·
    rw [List.length_append,List.length_singleton]
    rw [List.length_cons] at ho
    rw [show sm.length+1+T.length=sm.length+(T.length+1) by omega]
    exact ho
theorem closed_refused {x:α} {o:List α} (hn:(x::o).Nodup):closedP ok (x::o) x↔refusedP ok [x] o:=by
 classical
 obtain ⟨hx,hno⟩:=List.nodup_cons.1 hn
 rw [refused_iff o [x] hno]
 constructor
 ·
  intro hc T hT hsub
  obtain ⟨y,hy,ho⟩:=hc (x::T) (List.nodup_cons.2 ⟨fun h=>hx (hsub x h),hT⟩) (fun y hy=>by
   rcases List.mem_cons.1 hy with rfl | hy
   ·
    simp
   ·
    exact List.mem_cons_of_mem _ (hsub y hy)) (by simp)
  refine ⟨y,by simpa using hy,?_⟩
  rw [List.length_cons] at ho
  rw [List.length_singleton,Nat.add_comm]
  exact ho
 ·
  intro h S hS hsub hxS
  obtain ⟨y,hy,ho⟩:=h (S.erase x) (hS.sublist List.erase_sublist) (fun y hy=>by
   obtain ⟨q1,q2⟩:=hS.mem_erase_iff.1 hy
   rcases List.mem_cons.1 (hsub y q2) with h | h
   ·
    exact absurd h q1
   ·
    exact h)
  have:=List.length_pos_of_mem hxS
  refine ⟨y,?_,?_⟩
  ·
   rcases hy with hy | hy
   ·
    obtain rfl:y=x:=by simpa using hy
    exact hxS
   ·
    exact List.mem_of_mem_erase hy
  ·
   rw [List.length_erase_of_mem hxS,List.length_singleton] at ho
   rw [show S.length=1+(S.length - 1) by omega]
   exact ho
end
end Go.Am
namespace Go.Am
set_option maxHeartbeats 4000000
set_option maxRecDepth 20000
open Go.RowKit Go.Proofs
attribute [local simp] thenKD_normal thenKD_exit thenKD_goto thenKD_ret inBlockKD_normal inBlockKD_exit inBlockKD_goto inBlockKD_ret noGotoKD_normal noGotoKD_exit noGotoKD_goto noGotoKD_ret roundKD_normal roundKD_exit roundKD_goto roundKD_ret frzSlotsD_nil frzSlotsD_cons frzSlotD_eq yieldVCD_trace opVCD_eq vcOpsD_nil vcOpsD_cons vcAllD_zero vcAllD_succ allAtD_nil allAtD_cons readyAux edgA vcD_skip vcD_label vcD_exit vcD_goto vcD_ret vcD_region vcD_seq vcD_seqC vcD_cond vcCondD_bool vcD_block vcD_scope vcD_loop vcD_rangeFunc yieldOf isMem isMem0 keepE envLe St.le psE yieldAV round_td round_y round_Γ vI vB vS aI aB aS look getE oper opRV putE allOk okOps Op.operands Call.operands pEv qEv mEv constRV coe RV.av loadEv loadCs takeAt indexAddrEv fieldAddrEv binEv intEv arith unEv gcond pickEv argsEv callVal callEv capAV_mk lenArgs lenEv minEv extractEv convEv funcEv allBox bound sliceEv lookupEv TD.isBool allocEv boxEv storeEv spl plainTD appendEv appendArgs makeMapEv mapUpdateEv buildEv buildSliceEv fillSV zsvOf sizeTD Ty.parses parses_flats' coeA flats_length AV.good AV.cells AV.pure SV.pure av_int av_bool av_str av_slice av_cons av_fld0 av_fld1 av_fld2 av_fld3 av_fld4 Ty.of Ty.dflt Ty.parse Ty.flat Ty.zsv Ty.fld Ty.get Ty.off Ty.nfld Ty.size coeTy junk Blk.look argEnv resEv resOk resVs oneRV retOk frzAs frzAV frzL frzSV boxCaps boxCap SV.sig sigs RV.scalar AV.scalar SV.scalar nope effVCD_eq effOf SV.ids AV.ids dedup SV.ren AV.ren RV.ren idx outId mergeB Blk.pureB flats_pure flat_pure epsSlotsD_nil epsSlotsD_cons epsSlotD_eq allEp D.parts_fnOf fvParts retEff round_E av_fn G.ye isCutD_nil isCutD_cons firstReg_region firstReg_seq firstReg_skip firstReg_ret firstReg_label firstReg_exit firstReg_goto firstReg_cond firstReg_block firstReg_scope firstReg_loop firstReg_rf eptrOf_mk flOfD_nil flOfD_cons vcFlD_cons vcFlD_nil flPairs_nil flPairs_cons vcFrD_nil vcFrD_cons makeSliceEv vcCondD_ib fzEv unfl_flats isFz round_fz panVCD_eq panOf isShift strIdxEv ifaceEv nilChkEv sliceAnyEv sliceOwnEv sliceSufEv appendEv0 appendEv1 Ty.beq Ty.isAgg round_Pn vcDefD_seqR vcDefD_seqS vcDefD_seqC vcDefD_seqB vcDefD_seqL vcDefD_seqF vcDefD_seqSc vcDefD_region vcDefD_ret vcDefD_cond vcDefD_block vcDefD_loop thenKD_panic inBlockKD_panic noGotoKD_panic exitOk_normal exitOk_ret exitOk_panic exitOk_exit runDefs_none runDefs_some runDefs_cons defRegD defReg2D isDefer defOf caughtCon unfl_cons D.bpart_bndOf D.parts_bndOf AV.sig zapEv capArgs capEv
attribute [local simp ←] flats_append
theorem lowN_one (a:Nat):lowN a 1=dig a:=by unfold lowN; rw [Nat.gcd_one_right,Nat.div_one]
theorem lowD_one (a:Nat):lowD a 1=[1]:=by unfold lowD; rw [Nat.gcd_one_right,Nat.div_one,dig_one]
theorem okBig_dig {n k:Nat} (h:n<1073741824 ^ k) (hk:k≤2048):okBig false (dig n):=⟨canon_dig _,dig_le h hk,fun h=>(by cases h)⟩
theorem okBig_one:okBig false [1]:=by rw [← dig_one]; exact okBig_dig (k:=1) (by decide) (by decide)
theorem okRat_whole {n:Nat} (h:n<9223372036854775808):okRat false (dig n) false [1] :=
 ⟨okBig_dig (k:=3) (by simp only [Nat.reducePow]; omega) (by decide),okBig_one,rfl,by simp,by rw [vl_one]; exact Nat.gcd_one_right _⟩
theorem vl_one1:vl [1]=1:=by rw [vl_one]; rfl
theorem sgn_abs (s:Bool) (m:List Int):sgn s m=if s=true then - (vl m:Int) else (vl m:Int):=by cases s <;> simp [sgn]
theorem low_len1 {a d k:Nat} (h:a<1073741824 ^ k):(lowN a d).length≤k:=dig_len.2 (Nat.lt_of_le_of_lt (Nat.div_le_self _ _) h)
theorem low_len2 {a d k:Nat} (h:d<1073741824 ^ k):(lowD a d).length≤k:=dig_len.2 (Nat.lt_of_le_of_lt (Nat.div_le_self _ _) h)
theorem okRat_low {s:Bool} {a d k1 k2:Nat} (hd:0<d) (h1:a<1073741824 ^ k1) (hk1:k1≤2048) (h2:d<1073741824 ^ k2) (hk2:k2≤2048):okRat (s&&decide (lowN a d≠[])) (lowN a d) false (lowD a d):=by
 have hg:=gcd_pos (a:=a) hd
 have p2:0<d / Nat.gcd a d:=Nat.div_pos (Nat.le_of_dvd hd (Nat.gcd_dvd_right _ _)) hg
 refine ⟨⟨canon_dig _,Nat.le_trans (low_len1 h1) hk1,fun h => ?_⟩,⟨canon_dig _,Nat.le_trans (low_len2 h2) hk2,fun h=>by cases h⟩,rfl,fun h => ?_,?_⟩
 ·
  simp only [Bool.and_eq_true,decide_eq_true_eq] at h
  exact h.2
 ·
  have:=dig_nil.1 h
  omega
 ·
  unfold lowN lowD
  rw [vl_dig,vl_dig]
  rw [Nat.gcd_div (Nat.gcd_dvd_left a d) (Nat.gcd_dvd_right a d),Nat.div_self hg]
theorem small_mul {n:Nat} {m:List Int} (hn:n≤1000) (hm:okD m):n*vl m<1073741824 ^ (m.length+1):=by
 have h1:=vl_lt hm
 have h2:n*vl m≤1000*vl m:=Nat.mul_le_mul_right _ hn
 rw [Nat.pow_succ]
 generalize 1073741824 ^ m.length=X at *
 omega
def okS (n1:Bool) (m1:List Int) (n2:Bool) (m2:List Int):Prop:=okRat n1 m1 n2 m2∧m1.length≤512∧m2.length≤512
noncomputable instance (n1:Bool) (m1:List Int) (n2:Bool) (m2:List Int):Decidable (okS n1 m1 n2 m2):=Classical.propDecidable _
theorem okRat_pos {n1:Bool} {m1:List Int} {n2:Bool} {m2:List Int} (h:okRat n1 m1 n2 m2):0<vl m2:=(vl_pos h.2.1.1).2 (List.length_pos_iff.2 h.2.2.2.1)
theorem low_le {K L:Int} {a d:Nat} {s:Bool} (hd:0<d):sgn (s&&decide (lowN a d≠[])) (lowN a d)*L≤K*(vl (lowD a d):Int)↔(if s=true then - (a:Int) else (a:Int))*L≤K*(d:Int):=by
 have hg:=gcd_pos (a:=a) hd
 have hx:Nat.gcd a d*(a / Nat.gcd a d)=a:=Nat.mul_div_cancel' (Nat.gcd_dvd_left a d)
 have hy:Nat.gcd a d*(d / Nat.gcd a d)=d:=Nat.mul_div_cancel' (Nat.gcd_dvd_right a d)
 have v1:vl (lowN a d)=a / Nat.gcd a d:=vl_dig _
 have v2:vl (lowD a d)=d / Nat.gcd a d:=vl_dig _
 have hs:sgn (s&&decide (lowN a d≠[])) (lowN a d)=if s=true then - ((a / Nat.gcd a d:Nat):Int) else ((a / Nat.gcd a d:Nat):Int):=by
  cases s
  ·
   simp [sgn_abs,v1]
  ·
   by_cases h:lowN a d=[]
   ·
    have h0:a / Nat.gcd a d=0:=dig_nil.1 h
    rw [h,h0]
    simp [sgn,vl]
   ·
    simp [sgn_abs,v1,h]
 rw [hs,v2]
 have key:∀ g x y:Nat,0<g→((if s=true then - (x:Int) else (x:Int))*L≤K*(y:Int)↔(if s=true then - ((g*x:Nat):Int) else ((g*x:Nat):Int))*L≤K*((g*y:Nat):Int)):=by
  intro g x y hg
  have e1:K*((g*y:Nat):Int)=(g:Int)*(K*y):=by rw [Int.natCast_mul,← Int.mul_assoc,Int.mul_comm K,Int.mul_assoc]
  have e2:(if s=true then - ((g*x:Nat):Int) else ((g*x:Nat):Int))*L=(g:Int)*((if s=true then - (x:Int) else (x:Int))*L):=by
   cases s
   ·
    simp only [Bool.false_eq_true,if_false,Int.natCast_mul,Int.mul_assoc]
   ·
    simp only [if_true,Int.natCast_mul,Int.neg_mul,Int.mul_neg,Int.mul_assoc]
  rw [e1,e2]
  have hg':(0:Int)<g:=by omega
  exact ⟨fun h=>Int.mul_le_mul_of_nonneg_left h (by omega),fun h=>Int.le_of_mul_le_mul_left h hg'⟩
 have:=key _ (a / Nat.gcd a d) (d / Nat.gcd a d) hg
 rw [hx,hy] at this
 exact this
def fa7Γ:List (FuncId×Con):=(112,conMkR)::(22,conMulR)::(24,conCmpR)::(61,conMkR)::(75,conMulR)::(74,conCmpR)::(82,conRatC)::(73,conRInt)::fa3Γ
theorem fa7Γ_ok:∀ p∈fa7Γ,(∀ (args:Array Value) (w:World),(callFunc p.1 args).run Tryz.prog w=.ok (.enter p.1 args) w)∧PureOk Tryz.prog p.1 p.2:=by
 simp only [fa7Γ,List.forall_mem_cons]
 exact ⟨⟨enters_of Tryz.func112 (by kernel_rfl) rfl,mkr_ok⟩,⟨enters_of Tryz.func22 (by kernel_rfl) rfl,mulr_ok⟩,⟨enters_of Tryz.func24 (by kernel_rfl) rfl,cmpr_ok⟩,⟨enters_of Tryz.func61 (by kernel_rfl) rfl,rmk_ok⟩,⟨enters_of Tryz.func75 (by kernel_rfl) rfl,rmulr_ok⟩,⟨enters_of Tryz.func74 (by kernel_rfl) rfl,rcmpr_ok⟩,⟨enters_of Tryz.func82 (by kernel_rfl) rfl,rratc_ok⟩,⟨enters_of Tryz.func73 (by kernel_rfl) rfl,rint_ok⟩,fa3Γ_ok⟩
def fa7E:List (FuncId×ECon):=fa3E
theorem fa7E_ok:∀ p∈fa7E,(∀ (args:Array Value) (w:World),(callFunc p.1 args).run Tryz.prog w=.ok (.enter p.1 args) w)∧EffOk Tryz.prog p.1 p.2:=by
 simp only [fa7E]
 exact fa3E_ok
def fa7P:List (FuncId×PCon):=fa3P
theorem fa7P_ok:∀ p∈fa7P,(∀ (args:Array Value) (w:World),(callFunc p.1 args).run Tryz.prog w=.ok (.enter p.1 args) w)∧PanOk Tryz.prog p.1 p.2:=by
 simp only [fa7P]
 exact fa3P_ok
def fa7:G:={ τ:=nrT,Γ:=fa7Γ,E:=fa7E,Pn:=fa7P }
theorem fa7_good:fa7.good Tryz.prog:=good_of_all (nrT_ok _ rfl) fa7Γ_ok fa7E_ok fa7P_ok
theorem fa7_all:(∀ t,fa7.td t=(look nrT t).getD .other)∧fa7.y=false∧fa7.Γ=fa7Γ∧fa7.E=fa7E∧fa7.Pn=fa7P∧fa7.fz=[]:=⟨fun _=>rfl,rfl,rfl,rfl,rfl,rfl⟩
def conWhole:Con:=⟨fun args=>(match args with
 | [.s (.int .i64 n)]=>0≤n∧n<9223372036854775808
 | _=>False),fun args=>match args with
 | [.s (.int _ n)]=>.v (.agg [.bool false,.sl tI (dig n.natAbs) false,.bool false,.sl tI [1] false])
 | _=>.v (.s .any)⟩
theorem conWhole_eq (n:Int):conWhole.pre [.s (.int .i64 n)]=(0≤n∧n<9223372036854775808)∧conWhole.val [.s (.int .i64 n)]=.v (.agg [.bool false,.sl tI (dig n.natAbs) false,.bool false,.sl tI [1] false]):=⟨rfl,rfl⟩
theorem whole_ok:PureOk Tryz.prog 66 conWhole:=by
 refine pureOkD (L:={ live:=[0,2,3] }) fa7_good rfl nr_mixed Tryz.func66 rfl conWhole 1 (by decide) (by kernel_rfl) ?_
 intro args hpre hlens
 simp only [conWhole] at hpre
 split at hpre
 case h_2=>exact hpre.elim
 rename_i n
 simp only [allLen,AV.lenOk,SV.lenOk,Ty.lenOk,maxLen,and_true,implies_true,true_and,List.forall_mem_cons,List.not_mem_nil,false_implies] at hlens
 refine ⟨rfl,?_⟩
 simp -dsimp -implicitDefEqProofs [Tryz.f66,conWhole_eq,fa7_all,nrT,fa7Γ,fa7E,fa7P,fa3Γ,fa3E,fa3P,fa2Γ,fa2E,fa2P,fa1Γ,fa1E,fa1P,nr20Γ,nr20E,nr20P,nr19Γ,nr19E,nr19P,nr18Γ,nr18E,nr18P,nr17Γ,nr17E,nr17P,nr16Γ,nr16E,nr16P,nr15Γ,nr15E,nr15P,nr14Γ,nr14E,nr14P,nr13Γ,nr13E,nr13P,nr9Γ,nr9E,nr9P,nr8Γ,nr8E,nr8P,nr7Γ,nr7E,nr7P,nr6Γ,nr6E,nr6P,nr5Γ,nr5E,nr5P,nr4Γ,nr4E,nr4P,nr3Γ,nr3E,nr3P,nr0Γ,nr0E,nr0P,conMkR_eq,conMulR_eq,conCmpR_eq,conRatC_eq,conRInt_eq,conOf_eq,conLow_eq,conDivX_eq,conMakeN_eq,conProd_eq,conDidB_eq,conDidI_eq,conValid_eq,panValid_when,panValid_what,conNeed_eq,panNeed_when,panNeed_what,conGcdN_eq,conMulN_eq,conCmpN2_eq,conPosi_eq,conChk_eq,conBigN_eq,conDiv_eq,conTimes_eq,conNCheck_eq,conLong_eq,conLead64_eq,conShort_eq,conMovE,conTrim_eq,conAt_eq,conNCmp_eq,conBack_eq,conOf9_eq,conDivide_eq,conLess9_eq,conTwo_eq,conRCheck_eq,conRCmpD_eq,inI64]
 obtain ⟨h0,h1⟩:=hpre
 rw [lowN_one,lowD_one]
 exact ⟨⟨h0,h1⟩,rfl,rfl⟩
def conOrdR:Con:=⟨fun args=>(match args with
 | [.agg [.bool n1,.sl (.int .i64) m1 _,.bool n2,.sl (.int .i64) m2 _],.agg [.bool k1,.sl (.int .i64) l1 _,.bool k2,.sl (.int .i64) l2 _]]=>(okRat n1 m1 n2 m2∧okRat k1 l1 k2 l2)∧m1.length+l2.length≤2048∧l1.length+m2.length≤2048
 | _=>False),fun args=>match args with
 | [.agg [.bool n1,.sl (.int .i64) m1 _,.bool n2,.sl (.int .i64) m2 _],.agg [.bool k1,.sl (.int .i64) l1 _,.bool k2,.sl (.int .i64) l2 _]]=>.v (aI (ratCmp n1 m1 m2 k1 l1 l2))
 | _=>.v (.s .any)⟩
theorem conOrdR_eq (n1:Bool) (m1:List (Ty.T tI)) (exm1:Bool) (n2:Bool) (m2:List (Ty.T tI)) (exm2:Bool) (k1:Bool) (l1:List (Ty.T tI)) (exl1:Bool) (k2:Bool) (l2:List (Ty.T tI)) (exl2:Bool):conOrdR.pre [.agg [.bool n1,.sl tI m1 exm1,.bool n2,.sl tI m2 exm2],.agg [.bool k1,.sl tI l1 exl1,.bool k2,.sl tI l2 exl2]]=((okRat n1 m1 n2 m2∧okRat k1 l1 k2 l2)∧m1.length+l2.length≤2048∧l1.length+m2.length≤2048)∧conOrdR.val [.agg [.bool n1,.sl tI m1 exm1,.bool n2,.sl tI m2 exm2],.agg [.bool k1,.sl tI l1 exl1,.bool k2,.sl tI l2 exl2]]=.v (aI (ratCmp n1 m1 m2 k1 l1 l2)):=⟨rfl,rfl⟩
theorem ord_ok:PureOk Tryz.prog 37 conOrdR:=by
 refine pureOkD (L:={ live:=[0,1,2,3,4,5] }) fa7_good rfl nr_mixed Tryz.func37 rfl conOrdR 2 (by decide) (by kernel_rfl) ?_
 intro args hpre hlens
 simp only [conOrdR] at hpre
 split at hpre
 case h_2=>exact hpre.elim
 rename_i n1 m1 e1 n2 m2 e2 k1 l1 f1 k2 l2 f2
 simp only [allLen,AV.lenOk,SV.lenOk,Ty.lenOk,maxLen,and_true,implies_true,true_and,List.forall_mem_cons,List.not_mem_nil,false_implies] at hlens
 refine ⟨rfl,?_⟩
 simp -dsimp -implicitDefEqProofs [Tryz.f37,conOrdR_eq,fa7_all,nrT,fa7Γ,fa7E,fa7P,fa3Γ,fa3E,fa3P,fa2Γ,fa2E,fa2P,fa1Γ,fa1E,fa1P,nr20Γ,nr20E,nr20P,nr19Γ,nr19E,nr19P,nr18Γ,nr18E,nr18P,nr17Γ,nr17E,nr17P,nr16Γ,nr16E,nr16P,nr15Γ,nr15E,nr15P,nr14Γ,nr14E,nr14P,nr13Γ,nr13E,nr13P,nr9Γ,nr9E,nr9P,nr8Γ,nr8E,nr8P,nr7Γ,nr7E,nr7P,nr6Γ,nr6E,nr6P,nr5Γ,nr5E,nr5P,nr4Γ,nr4E,nr4P,nr3Γ,nr3E,nr3P,nr0Γ,nr0E,nr0P,conMkR_eq,conMulR_eq,conCmpR_eq,conRatC_eq,conRInt_eq,conOf_eq,conLow_eq,conDivX_eq,conMakeN_eq,conProd_eq,conDidB_eq,conDidI_eq,conValid_eq,panValid_when,panValid_what,conNeed_eq,panNeed_when,panNeed_what,conGcdN_eq,conMulN_eq,conCmpN2_eq,conPosi_eq,conChk_eq,conBigN_eq,conDiv_eq,conTimes_eq,conNCheck_eq,conLong_eq,conLead64_eq,conShort_eq,conMovE,conTrim_eq,conAt_eq,conNCmp_eq,conBack_eq,conOf9_eq,conDivide_eq,conLess9_eq,conTwo_eq,conRCheck_eq,conRCmpD_eq,inI64]
 obtain ⟨h1,h2⟩:=hpre
 exact ⟨fun _ _=>h2,fun h=>absurd h1.2 (h h1.1)⟩
def fa8Γ:List (FuncId×Con):=(66,conWhole)::(37,conOrdR)::fa7Γ
theorem fa8Γ_ok:∀ p∈fa8Γ,(∀ (args:Array Value) (w:World),(callFunc p.1 args).run Tryz.prog w=.ok (.enter p.1 args) w)∧PureOk Tryz.prog p.1 p.2:=by
 simp only [fa8Γ,List.forall_mem_cons]
 exact ⟨⟨enters_of Tryz.func66 (by kernel_rfl) rfl,whole_ok⟩,⟨enters_of Tryz.func37 (by kernel_rfl) rfl,ord_ok⟩,fa7Γ_ok⟩
def fa8E:List (FuncId×ECon):=fa7E
theorem fa8E_ok:∀ p∈fa8E,(∀ (args:Array Value) (w:World),(callFunc p.1 args).run Tryz.prog w=.ok (.enter p.1 args) w)∧EffOk Tryz.prog p.1 p.2:=by
 simp only [fa8E]
 exact fa7E_ok
def fa8P:List (FuncId×PCon):=fa7P
theorem fa8P_ok:∀ p∈fa8P,(∀ (args:Array Value) (w:World),(callFunc p.1 args).run Tryz.prog w=.ok (.enter p.1 args) w)∧PanOk Tryz.prog p.1 p.2:=by
 simp only [fa8P]
 exact fa7P_ok
def fa8:G:={ τ:=nrT,Γ:=fa8Γ,E:=fa8E,Pn:=fa8P }
theorem fa8_good:fa8.good Tryz.prog:=good_of_all (nrT_ok _ rfl) fa8Γ_ok fa8E_ok fa8P_ok
theorem fa8_all:(∀ t,fa8.td t=(look nrT t).getD .other)∧fa8.y=false∧fa8.Γ=fa8Γ∧fa8.E=fa8E∧fa8.Pn=fa8P∧fa8.fz=[]:=⟨fun _=>rfl,rfl,rfl,rfl,rfl,rfl⟩
def fitB (n:Int) (n1:Bool) (m1 m2:List Int) (k1:Bool) (l1 l2:List Int):Bool:=decide (n*sgn n1 m1*(vl l2:Int)≤sgn k1 l1*(vl m2:Int))
theorem fit_low {n:Int} {n1:Bool} {m1 m2:List Int} {k1:Bool} {l1 l2:List Int} (hn:0≤n) (hd:0<vl m2) :
  decide (ratCmp (n1&&decide (lowN (n.natAbs*vl m1) (vl m2)≠[])) (lowN (n.natAbs*vl m1) (vl m2)) (lowD (n.natAbs*vl m1) (vl m2)) k1 l1 l2≤0)=fitB n n1 m1 m2 k1 l1 l2:=by
 unfold fitB ratCmp
 refine decide_eq_decide.2 ?_
 rw [cmpZ_le,low_le hd,sgn_abs n1]
 have e:((n.natAbs*vl m1:Nat):Int)=n*(vl m1:Int):=by rw [Int.natCast_mul]; congr 1; omega
 rw [e]
 cases n1
 ·
  simp
 ·
  simp [Int.mul_neg]
def conFits:Con:=⟨fun args=>(match args with
 | [.s (.int .i64 n),.agg [.bool n1,.sl (.int .i64) m1 _,.bool n2,.sl (.int .i64) m2 _],.agg [.bool k1,.sl (.int .i64) l1 _,.bool k2,.sl (.int .i64) l2 _]]=>(0≤n∧n≤1000)∧okS n1 m1 n2 m2∧okS k1 l1 k2 l2
 | _=>False),fun args=>match args with
 | [.s (.int _ n),.agg [.bool n1,.sl (.int .i64) m1 _,.bool n2,.sl (.int .i64) m2 _],.agg [.bool k1,.sl (.int .i64) l1 _,.bool k2,.sl (.int .i64) l2 _]]=>.v (aB (fitB n n1 m1 m2 k1 l1 l2))
 | _=>.v (.s .any)⟩
theorem conFits_eq (n:Int) (n1:Bool) (m1:List (Ty.T tI)) (exm1:Bool) (n2:Bool) (m2:List (Ty.T tI)) (exm2:Bool) (k1:Bool) (l1:List (Ty.T tI)) (exl1:Bool) (k2:Bool) (l2:List (Ty.T tI)) (exl2:Bool):conFits.pre [.s (.int .i64 n),.agg [.bool n1,.sl tI m1 exm1,.bool n2,.sl tI m2 exm2],.agg [.bool k1,.sl tI l1 exl1,.bool k2,.sl tI l2 exl2]]=((0≤n∧n≤1000)∧okS n1 m1 n2 m2∧okS k1 l1 k2 l2)∧conFits.val [.s (.int .i64 n),.agg [.bool n1,.sl tI m1 exm1,.bool n2,.sl tI m2 exm2],.agg [.bool k1,.sl tI l1 exl1,.bool k2,.sl tI l2 exl2]]=.v (aB (fitB n n1 m1 m2 k1 l1 l2)):=⟨rfl,rfl⟩
theorem fits_ok:PureOk Tryz.prog 38 conFits:=by
 refine pureOkD (L:={ live:=[0,1,2,4,5,6,7,8],fl:=[(1,[(2,0),(2,8)])] }) fa8_good rfl nr_mixed Tryz.func38 rfl conFits 3 (by decide) (by kernel_rfl) ?_
 intro args hpre hlens
 simp only [conFits] at hpre
 split at hpre
 case h_2=>exact hpre.elim
 rename_i n n1 m1 e1 n2 m2 e2 k1 l1 f1 k2 l2 f2
 simp only [allLen,AV.lenOk,SV.lenOk,Ty.lenOk,maxLen,and_true,implies_true,true_and,List.forall_mem_cons,List.not_mem_nil,false_implies] at hlens
 refine ⟨rfl,?_⟩
 simp -dsimp -implicitDefEqProofs [Tryz.f38,conFits_eq,fa8_all,nrT,fa8Γ,fa8E,fa8P,fa7Γ,fa7E,fa7P,fa3Γ,fa3E,fa3P,fa2Γ,fa2E,fa2P,fa1Γ,fa1E,fa1P,nr20Γ,nr20E,nr20P,nr19Γ,nr19E,nr19P,nr18Γ,nr18E,nr18P,nr17Γ,nr17E,nr17P,nr16Γ,nr16E,nr16P,nr15Γ,nr15E,nr15P,nr14Γ,nr14E,nr14P,nr13Γ,nr13E,nr13P,nr9Γ,nr9E,nr9P,nr8Γ,nr8E,nr8P,nr7Γ,nr7E,nr7P,nr6Γ,nr6E,nr6P,nr5Γ,nr5E,nr5P,nr4Γ,nr4E,nr4P,nr3Γ,nr3E,nr3P,nr0Γ,nr0E,nr0P,conWhole_eq,conOrdR_eq,conMkR_eq,conMulR_eq,conCmpR_eq,conRatC_eq,conRInt_eq,conOf_eq,conLow_eq,conDivX_eq,conMakeN_eq,conProd_eq,conDidB_eq,conDidI_eq,conValid_eq,panValid_when,panValid_what,conNeed_eq,panNeed_when,panNeed_what,conGcdN_eq,conMulN_eq,conCmpN2_eq,conPosi_eq,conChk_eq,conBigN_eq,conDiv_eq,conTimes_eq,conNCheck_eq,conLong_eq,conLead64_eq,conShort_eq,conMovE,conTrim_eq,conAt_eq,conNCmp_eq,conBack_eq,conOf9_eq,conDivide_eq,conLess9_eq,conTwo_eq,conRCheck_eq,conRCmpD_eq,inI64]
 obtain ⟨m1,rfl⟩:∃ y:List Int,y=m1:=⟨m1,rfl⟩; obtain ⟨m2,rfl⟩:∃ y:List Int,y=m2:=⟨m2,rfl⟩; obtain ⟨l1,rfl⟩:∃ y:List Int,y=l1:=⟨l1,rfl⟩; obtain ⟨l2,rfl⟩:∃ y:List Int,y=l2:=⟨l2,rfl⟩
 obtain ⟨⟨h0,h1⟩,⟨a1,a2,a3⟩,b1,b2,b3⟩:=hpre
 have hw:=okRat_whole (n:=n.natAbs) (by omega)
 have hd:=okRat_pos a1
 have hdl:(dig n.natAbs).length≤1:=dig_le (k:=1) (by omega) (Nat.le_refl _)
 have hs:=small_mul (n:=n.natAbs) (m:=m1) (by omega) a1.1.1.1
 have hl:=okRat_low (s:=n1) (a:=n.natAbs*vl m1) (d:=vl m2) hd hs (by omega) (vl_lt a1.2.1.1.1) (by omega)
 have q1:=low_len1 (d:=vl m2) hs
 have q2:=low_len2 (a:=n.natAbs*vl m1) (vl_lt a1.2.1.1.1)
 have hf:=fit_low (n:=n) (n1:=n1) (m1:=m1) (m2:=m2) (k1:=k1) (l1:=l1) (l2:=l2) h0 hd
 rw [vl_dig,vl_one1,Nat.one_mul]
 rw [decide_not] at hl hf
 exact ⟨⟨h0,by omega⟩,⟨hw,a1,by omega,by omega⟩,⟨⟨hl,b1⟩,by omega,by omega⟩,hf⟩
def conMost:Con:=⟨fun args=>(match args with
 | [.agg [.bool n1,.sl (.int .i64) m1 _,.bool n2,.sl (.int .i64) m2 _],.agg [.bool k1,.sl (.int .i64) l1 _,.bool k2,.sl (.int .i64) l2 _]]=>(okRat n1 m1 n2 m2∧okRat k1 l1 k2 l2)∧m1.length+l2.length≤2048∧l1.length+m2.length≤2048
 | _=>False),fun args=>match args with
 | [.agg [.bool n1,.sl (.int .i64) m1 _,.bool n2,.sl (.int .i64) m2 _],.agg [.bool k1,.sl (.int .i64) l1 _,.bool k2,.sl (.int .i64) l2 _]]=>.v (aB (decide (ratCmp n1 m1 m2 k1 l1 l2≤0)))
 | _=>.v (.s .any)⟩
theorem conMost_eq (n1:Bool) (m1:List (Ty.T tI)) (exm1:Bool) (n2:Bool) (m2:List (Ty.T tI)) (exm2:Bool) (k1:Bool) (l1:List (Ty.T tI)) (exl1:Bool) (k2:Bool) (l2:List (Ty.T tI)) (exl2:Bool):conMost.pre [.agg [.bool n1,.sl tI m1 exm1,.bool n2,.sl tI m2 exm2],.agg [.bool k1,.sl tI l1 exl1,.bool k2,.sl tI l2 exl2]]=((okRat n1 m1 n2 m2∧okRat k1 l1 k2 l2)∧m1.length+l2.length≤2048∧l1.length+m2.length≤2048)∧conMost.val [.agg [.bool n1,.sl tI m1 exm1,.bool n2,.sl tI m2 exm2],.agg [.bool k1,.sl tI l1 exl1,.bool k2,.sl tI l2 exl2]]=.v (aB (decide (ratCmp n1 m1 m2 k1 l1 l2≤0))):=⟨rfl,rfl⟩
theorem most_ok:PureOk Tryz.prog 31 conMost:=by
 refine pureOkD (L:={ live:=[0,1,2,3,4,5] }) fa8_good rfl nr_mixed Tryz.func31 rfl conMost 2 (by decide) (by kernel_rfl) ?_
 intro args hpre hlens
 simp only [conMost] at hpre
 split at hpre
 case h_2=>exact hpre.elim
 rename_i n1 m1 e1 n2 m2 e2 k1 l1 f1 k2 l2 f2
 simp only [allLen,AV.lenOk,SV.lenOk,Ty.lenOk,maxLen,and_true,implies_true,true_and,List.forall_mem_cons,List.not_mem_nil,false_implies] at hlens
 refine ⟨rfl,?_⟩
 simp -dsimp -implicitDefEqProofs [Tryz.f31,conMost_eq,fa8_all,nrT,fa8Γ,fa8E,fa8P,fa7Γ,fa7E,fa7P,fa3Γ,fa3E,fa3P,fa2Γ,fa2E,fa2P,fa1Γ,fa1E,fa1P,nr20Γ,nr20E,nr20P,nr19Γ,nr19E,nr19P,nr18Γ,nr18E,nr18P,nr17Γ,nr17E,nr17P,nr16Γ,nr16E,nr16P,nr15Γ,nr15E,nr15P,nr14Γ,nr14E,nr14P,nr13Γ,nr13E,nr13P,nr9Γ,nr9E,nr9P,nr8Γ,nr8E,nr8P,nr7Γ,nr7E,nr7P,nr6Γ,nr6E,nr6P,nr5Γ,nr5E,nr5P,nr4Γ,nr4E,nr4P,nr3Γ,nr3E,nr3P,nr0Γ,nr0E,nr0P,conWhole_eq,conOrdR_eq,conMkR_eq,conMulR_eq,conCmpR_eq,conRatC_eq,conRInt_eq,conOf_eq,conLow_eq,conDivX_eq,conMakeN_eq,conProd_eq,conDidB_eq,conDidI_eq,conValid_eq,panValid_when,panValid_what,conNeed_eq,panNeed_when,panNeed_what,conGcdN_eq,conMulN_eq,conCmpN2_eq,conPosi_eq,conChk_eq,conBigN_eq,conDiv_eq,conTimes_eq,conNCheck_eq,conLong_eq,conLead64_eq,conShort_eq,conMovE,conTrim_eq,conAt_eq,conNCmp_eq,conBack_eq,conOf9_eq,conDivide_eq,conLess9_eq,conTwo_eq,conRCheck_eq,conRCmpD_eq,inI64]
 obtain ⟨h1,h2⟩:=hpre
 rw [if_pos h1]
 exact ⟨fun _ _=>h2,Iff.rfl⟩
def conTimesR:Con:=⟨fun args=>(match args with
 | [.s (.int .i64 n),.agg [.bool n1,.sl (.int .i64) m1 _,.bool n2,.sl (.int .i64) m2 _]]=>(0≤n∧n≤1000)∧okS n1 m1 n2 m2
 | _=>False),fun args=>match args with
 | [.s (.int _ n),.agg [.bool n1,.sl (.int .i64) m1 _,.bool n2,.sl (.int .i64) m2 _]]=>.v (.agg [.bool (n1&&decide (lowN (n.natAbs*vl m1) (vl m2)≠[])),.sl tI (lowN (n.natAbs*vl m1) (vl m2)) false,.bool false,.sl tI (lowD (n.natAbs*vl m1) (vl m2)) false])
 | _=>.v (.s .any)⟩
theorem conTimesR_eq (n:Int) (n1:Bool) (m1:List (Ty.T tI)) (exm1:Bool) (n2:Bool) (m2:List (Ty.T tI)) (exm2:Bool):conTimesR.pre [.s (.int .i64 n),.agg [.bool n1,.sl tI m1 exm1,.bool n2,.sl tI m2 exm2]]=((0≤n∧n≤1000)∧okS n1 m1 n2 m2)∧conTimesR.val [.s (.int .i64 n),.agg [.bool n1,.sl tI m1 exm1,.bool n2,.sl tI m2 exm2]]=.v (.agg [.bool (n1&&decide (lowN (n.natAbs*vl m1) (vl m2)≠[])),.sl tI (lowN (n.natAbs*vl m1) (vl m2)) false,.bool false,.sl tI (lowD (n.natAbs*vl m1) (vl m2)) false]):=⟨rfl,rfl⟩
theorem timesr_ok:PureOk Tryz.prog 32 conTimesR:=by
 refine pureOkD (L:={ live:=[0,1,3,4,5,7] }) fa8_good rfl nr_mixed Tryz.func32 rfl conTimesR 2 (by decide) (by kernel_rfl) ?_
 intro args hpre hlens
 simp only [conTimesR] at hpre
 split at hpre
 case h_2=>exact hpre.elim
 rename_i n n1 m1 e1 n2 m2 e2
 simp only [allLen,AV.lenOk,SV.lenOk,Ty.lenOk,maxLen,and_true,implies_true,true_and,List.forall_mem_cons,List.not_mem_nil,false_implies] at hlens
 refine ⟨rfl,?_⟩
 simp -dsimp -implicitDefEqProofs [Tryz.f32,conTimesR_eq,fa8_all,nrT,fa8Γ,fa8E,fa8P,fa7Γ,fa7E,fa7P,fa3Γ,fa3E,fa3P,fa2Γ,fa2E,fa2P,fa1Γ,fa1E,fa1P,nr20Γ,nr20E,nr20P,nr19Γ,nr19E,nr19P,nr18Γ,nr18E,nr18P,nr17Γ,nr17E,nr17P,nr16Γ,nr16E,nr16P,nr15Γ,nr15E,nr15P,nr14Γ,nr14E,nr14P,nr13Γ,nr13E,nr13P,nr9Γ,nr9E,nr9P,nr8Γ,nr8E,nr8P,nr7Γ,nr7E,nr7P,nr6Γ,nr6E,nr6P,nr5Γ,nr5E,nr5P,nr4Γ,nr4E,nr4P,nr3Γ,nr3E,nr3P,nr0Γ,nr0E,nr0P,conWhole_eq,conOrdR_eq,conMkR_eq,conMulR_eq,conCmpR_eq,conRatC_eq,conRInt_eq,conOf_eq,conLow_eq,conDivX_eq,conMakeN_eq,conProd_eq,conDidB_eq,conDidI_eq,conValid_eq,panValid_when,panValid_what,conNeed_eq,panNeed_when,panNeed_what,conGcdN_eq,conMulN_eq,conCmpN2_eq,conPosi_eq,conChk_eq,conBigN_eq,conDiv_eq,conTimes_eq,conNCheck_eq,conLong_eq,conLead64_eq,conShort_eq,conMovE,conTrim_eq,conAt_eq,conNCmp_eq,conBack_eq,conOf9_eq,conDivide_eq,conLess9_eq,conTwo_eq,conRCheck_eq,conRCmpD_eq,inI64]
 obtain ⟨m1,rfl⟩:∃ y:List Int,y=m1:=⟨m1,rfl⟩; obtain ⟨m2,rfl⟩:∃ y:List Int,y=m2:=⟨m2,rfl⟩
 obtain ⟨⟨h0,h1⟩,⟨a1,a2,a3⟩⟩:=hpre
 have hw:=okRat_whole (n:=n.natAbs) (by omega)
 have hdl:(dig n.natAbs).length≤1:=dig_le (k:=1) (by omega) (Nat.le_refl _)
 rw [lowN_one,lowD_one,vl_dig,vl_one1,Nat.one_mul]
 exact ⟨⟨h0,by omega⟩,⟨hw,a1,by omega,by simp; omega⟩,rfl,rfl,rfl⟩
theorem times_pre {n:Int} {n1:Bool} {m1:List Int} {n2:Bool} {m2:List Int} {k1:Bool} {l1:List Int} {k2:Bool} {l2:List Int} (h0:0≤n) (h1:n≤1000) (ha:okS n1 m1 n2 m2) (hb:okS k1 l1 k2 l2) :
  (okRat (n1 && !decide (lowN (n.natAbs*vl m1) (vl m2)=[])) (lowN (n.natAbs*vl m1) (vl m2)) false (lowD (n.natAbs*vl m1) (vl m2))∧okRat k1 l1 k2 l2) ∧
   (lowN (n.natAbs*vl m1) (vl m2)).length+l2.length≤2048∧l1.length+(lowD (n.natAbs*vl m1) (vl m2)).length≤2048:=by
 obtain ⟨a1,a2,a3⟩:=ha
 obtain ⟨b1,b2,b3⟩:=hb
 have hd:=okRat_pos a1
 have hs:=small_mul (n:=n.natAbs) (m:=m1) (by omega) a1.1.1.1
 have hl:=okRat_low (s:=n1) (a:=n.natAbs*vl m1) (d:=vl m2) hd hs (by omega) (vl_lt a1.2.1.1.1) (by omega)
 have q1:=low_len1 (d:=vl m2) hs
 have q2:=low_len2 (a:=n.natAbs*vl m1) (vl_lt a1.2.1.1.1)
 rw [decide_not] at hl
 exact ⟨⟨hl,b1⟩,by omega,by omega⟩
theorem times_fit {n:Int} {n1:Bool} {m1:List Int} {n2:Bool} {m2:List Int} {k1:Bool} {l1:List Int} {l2:List Int} (h0:0≤n) (ha:okS n1 m1 n2 m2) :
  decide (ratCmp (n1 && !decide (lowN (n.natAbs*vl m1) (vl m2)=[])) (lowN (n.natAbs*vl m1) (vl m2)) (lowD (n.natAbs*vl m1) (vl m2)) k1 l1 l2≤0)=fitB n n1 m1 m2 k1 l1 l2:=by
 have:=fit_low (n1:=n1) (m1:=m1) (k1:=k1) (l1:=l1) (l2:=l2) h0 (okRat_pos ha.1)
 rw [decide_not] at this
 exact this
def faT:List (TypeId×TD):=[(1,.func),(2,.sc tI),(3,.sc tI),(4,.sc .bool),(5,.sc (.int .u8)),(8,.struct (.cons tI (.cons tI (.cons .bool (.cons (.int .u8) .nil))))),(9,.sc .str),(22,.slice 52 (.cons tI (.cons tRat .nil)) 72),(23,.slice 3 tI 8),(25,.struct tBig),(27,.struct tRat),(30,.sc tI),(34,.func),(38,.arr 32 5 (.int .u8)),(46,.slice 5 (.int .u8) 1),(52,.struct (.cons tI (.cons tRat .nil))),(54,.slice 4 .bool 1),(64,.func),(65,.func),(71,.func),(78,.func),(97,.slice 25 tBig 32),(100,.struct (.cons tRat .nil)),(109,.func),(111,.func),(113,.func),(114,.func),(118,.func),(119,.slice 22 (.slice (.cons tI (.cons tRat .nil))) 24),(123,.slice 27 tRat 64),(136,.sc (.int .u64)),(138,.sc (.int .u32)),(156,.sc (.int .u64)),(195,.sc tI)]
theorem faT_ok (g:G) (hg:g.τ=faT):G.ok Tryz.prog g:=by
 refine ok_of_all ?_
 rw [hg]
 simp only [faT,List.forall_mem_cons]
 refine ⟨?_,?_,?_,?_,?_,?_,?_,?_,?_,?_,?_,?_,?_,?_,?_,?_,?_,?_,?_,?_,?_,?_,?_,?_,?_,?_,?_,?_,?_,?_,?_,?_,?_,?_,by simp⟩
 ·
  exact ⟨⟨_,_,_,Tryz.underlying1⟩,by kernel_rfl⟩
 ·
  exact ⟨by kernel_rfl,rfl,by kernel_rfl,rfl⟩
 ·
  exact ⟨by kernel_rfl,rfl,by kernel_rfl,rfl⟩
 ·
  exact ⟨by kernel_rfl,rfl,by kernel_rfl,rfl⟩
 ·
  exact ⟨by kernel_rfl,rfl,by kernel_rfl,rfl⟩
 ·
  exact ⟨fieldsOf Tryz.prog 8,by kernel_rfl,by kernel_rfl,by kernel_rfl,by decide,by kernel_rfl⟩
 ·
  exact ⟨by kernel_rfl,rfl,by kernel_rfl,rfl⟩
 ·
  exact ⟨by kernel_rfl,by decide,by kernel_rfl,⟨cellsV (Ty.zcells (.cons tI (.cons tRat .nil))),by kernel_rfl,by kernel_rfl,by kernel_rfl⟩,by kernel_rfl⟩
 ·
  exact ⟨by kernel_rfl,by decide,by kernel_rfl,⟨cellsV (Ty.zcells tI),by kernel_rfl,by kernel_rfl,by kernel_rfl⟩,by kernel_rfl⟩
 ·
  exact ⟨fieldsOf Tryz.prog 25,by kernel_rfl,by kernel_rfl,by kernel_rfl,by decide,by kernel_rfl⟩
 ·
  exact ⟨fieldsOf Tryz.prog 27,by kernel_rfl,by kernel_rfl,by kernel_rfl,by decide,by kernel_rfl⟩
 ·
  exact ⟨by kernel_rfl,rfl,by kernel_rfl,rfl⟩
 ·
  exact ⟨⟨_,_,_,Tryz.underlying34⟩,by kernel_rfl⟩
 ·
  exact ⟨by kernel_rfl,by kernel_rfl,by kernel_rfl⟩
 ·
  exact ⟨by kernel_rfl,by decide,by kernel_rfl,⟨cellsV (Ty.zcells (.int .u8)),by kernel_rfl,by kernel_rfl,by kernel_rfl⟩,by kernel_rfl⟩
 ·
  exact ⟨fieldsOf Tryz.prog 52,by kernel_rfl,by kernel_rfl,by kernel_rfl,by decide,by kernel_rfl⟩
 ·
  exact ⟨by kernel_rfl,by decide,by kernel_rfl,⟨cellsV (Ty.zcells .bool),by kernel_rfl,by kernel_rfl,by kernel_rfl⟩,by kernel_rfl⟩
 ·
  exact ⟨⟨_,_,_,Tryz.underlying64⟩,by kernel_rfl⟩
 ·
  exact ⟨⟨_,_,_,Tryz.underlying65⟩,by kernel_rfl⟩
 ·
  exact ⟨⟨_,_,_,Tryz.underlying71⟩,by kernel_rfl⟩
 ·
  exact ⟨⟨_,_,_,Tryz.underlying78⟩,by kernel_rfl⟩
 ·
  exact ⟨by kernel_rfl,by decide,by kernel_rfl,⟨cellsV (Ty.zcells tBig),by kernel_rfl,by kernel_rfl,by kernel_rfl⟩,by kernel_rfl⟩
 ·
  exact ⟨fieldsOf Tryz.prog 100,by kernel_rfl,by kernel_rfl,by kernel_rfl,by decide,by kernel_rfl⟩
 ·
  exact ⟨⟨_,_,_,Tryz.underlying109⟩,by kernel_rfl⟩
 ·
  exact ⟨⟨_,_,_,Tryz.underlying111⟩,by kernel_rfl⟩
 ·
  exact ⟨⟨_,_,_,Tryz.underlying113⟩,by kernel_rfl⟩
 ·
  exact ⟨⟨_,_,_,Tryz.underlying114⟩,by kernel_rfl⟩
 ·
  exact ⟨⟨_,_,_,Tryz.underlying118⟩,by kernel_rfl⟩
 ·
  exact ⟨by kernel_rfl,by decide,by kernel_rfl,⟨cellsV (Ty.zcells (.slice (.cons tI (.cons tRat .nil)))),by kernel_rfl,by kernel_rfl,by kernel_rfl⟩,by kernel_rfl⟩
 ·
  exact ⟨by kernel_rfl,by decide,by kernel_rfl,⟨cellsV (Ty.zcells tRat),by kernel_rfl,by kernel_rfl,by kernel_rfl⟩,by kernel_rfl⟩
 ·
  exact ⟨by kernel_rfl,rfl,by kernel_rfl,rfl⟩
 ·
  exact ⟨by kernel_rfl,rfl,by kernel_rfl,rfl⟩
 ·
  exact ⟨by kernel_rfl,rfl,by kernel_rfl,rfl⟩
 ·
  exact ⟨by kernel_rfl,rfl,by kernel_rfl,rfl⟩
abbrev tTst:Ty:=.cons (.int .i64) (.cons tRat .nil)
def dT:tTst.T:=(0,((false,[],()),(false,[],()),()),())
theorem cmpZ_lt0 {a b:Int}:cmpZ a b<0↔a<b:=by
 unfold cmpZ
 split
 ·
  simp; assumption
 ·
  split
  ·
   simp; omega
  ·
   simp; omega
theorem cmpZ_gt0 {a b:Int}:0<cmpZ a b↔b<a:=by
 unfold cmpZ
 split
 ·
  simp; omega
 ·
  split
  ·
   simp; omega
  ·
   simp; omega
theorem rat0 (n1:Bool) (m1 m2:List Int):ratCmp n1 m1 m2 false (dig 0) [1]=cmpZ (sgn n1 m1) 0:=by
 unfold ratCmp
 rw [dig_zero,vl_one1,sgn_false]
 simp [vl]
theorem rat0' (n1:Bool) (m1 m2:List Int):ratCmp false (dig 0) [1] n1 m1 m2=cmpZ 0 (sgn n1 m1):=by
 unfold ratCmp
 rw [dig_zero,vl_one1,sgn_false]
 simp [vl]
theorem rat1 (n1:Bool) (m1 m2:List Int):ratCmp n1 m1 m2 false (dig 1) [1]=cmpZ (sgn n1 m1) (vl m2):=by
 unfold ratCmp
 rw [dig_one,vl_one1,sgn_false,vl_one1]
 simp
theorem okRat_0:okRat false (dig 0) false [1]:=okRat_whole (n:=0) (by omega)
theorem okRat_1:okRat false (dig 1) false [1]:=okRat_whole (n:=1) (by omega)
theorem len_0:(dig 0).length=0:=by rw [dig_zero]; rfl
theorem len_1:(dig 1).length=1:=by rw [dig_one]; rfl
def fa9Γ:List (FuncId×Con):=(38,conFits)::fa8Γ
theorem fa9Γ_ok:∀ p∈fa9Γ,(∀ (args:Array Value) (w:World),(callFunc p.1 args).run Tryz.prog w=.ok (.enter p.1 args) w)∧PureOk Tryz.prog p.1 p.2:=by
 simp only [fa9Γ,List.forall_mem_cons]
 exact ⟨⟨enters_of Tryz.func38 (by kernel_rfl) rfl,fits_ok⟩,fa8Γ_ok⟩
def fa9E:List (FuncId×ECon):=fa8E
theorem fa9E_ok:∀ p∈fa9E,(∀ (args:Array Value) (w:World),(callFunc p.1 args).run Tryz.prog w=.ok (.enter p.1 args) w)∧EffOk Tryz.prog p.1 p.2:=by
 simp only [fa9E]
 exact fa8E_ok
def fa9P:List (FuncId×PCon):=fa8P
theorem fa9P_ok:∀ p∈fa9P,(∀ (args:Array Value) (w:World),(callFunc p.1 args).run Tryz.prog w=.ok (.enter p.1 args) w)∧PanOk Tryz.prog p.1 p.2:=by
 simp only [fa9P]
 exact fa8P_ok
def fa9:G:={ τ:=faT,Γ:=fa9Γ,E:=fa9E,Pn:=fa9P }
theorem fa9_good:fa9.good Tryz.prog:=good_of_all (faT_ok _ rfl) fa9Γ_ok fa9E_ok fa9P_ok
theorem fa9_all:(∀ t,fa9.td t=(look faT t).getD .other)∧fa9.y=false∧fa9.Γ=fa9Γ∧fa9.E=fa9E∧fa9.Pn=fa9P∧fa9.fz=[]:=⟨fun _=>rfl,rfl,rfl,rfl,rfl,rfl⟩
def conShrtF:Con:=⟨fun args=>(match args with
 | [.agg [.bool n1,.sl (.int .i64) m1 _,.bool n2,.sl (.int .i64) m2 _]]=>True
 | _=>False),fun args=>match args with
 | [.agg [.bool n1,.sl (.int .i64) m1 _,.bool n2,.sl (.int .i64) m2 _]]=>.v (aB (decide (okS n1 m1 n2 m2)))
 | _=>.v (.s .any)⟩
theorem conShrtF_eq (n1:Bool) (m1:List (Ty.T tI)) (exm1:Bool) (n2:Bool) (m2:List (Ty.T tI)) (exm2:Bool):conShrtF.pre [.agg [.bool n1,.sl tI m1 exm1,.bool n2,.sl tI m2 exm2]]=(True)∧conShrtF.val [.agg [.bool n1,.sl tI m1 exm1,.bool n2,.sl tI m2 exm2]]=.v (aB (decide (okS n1 m1 n2 m2))):=⟨rfl,rfl⟩
theorem shrtf_ok:PureOk Tryz.prog 65 conShrtF:=by
 refine pureOkD (L:={ live:=[0,1,2] }) fa9_good rfl nr_mixed Tryz.func65 rfl conShrtF 1 (by decide) (by kernel_rfl) ?_
 intro args hpre hlens
 simp only [conShrtF] at hpre
 split at hpre
 case h_2=>exact hpre.elim
 rename_i n1 m1 e1 n2 m2 e2
 simp only [allLen,AV.lenOk,SV.lenOk,Ty.lenOk,maxLen,and_true,implies_true,true_and,List.forall_mem_cons,List.not_mem_nil,false_implies] at hlens
 refine ⟨rfl,?_⟩
 simp -dsimp -implicitDefEqProofs [Tryz.f65,conShrtF_eq,fa9_all,faT,fa9Γ,fa9E,fa9P,fa8Γ,fa8E,fa8P,fa7Γ,fa7E,fa7P,fa3Γ,fa3E,fa3P,fa2Γ,fa2E,fa2P,fa1Γ,fa1E,fa1P,nr20Γ,nr20E,nr20P,nr19Γ,nr19E,nr19P,nr18Γ,nr18E,nr18P,nr17Γ,nr17E,nr17P,nr16Γ,nr16E,nr16P,nr15Γ,nr15E,nr15P,nr14Γ,nr14E,nr14P,nr13Γ,nr13E,nr13P,nr9Γ,nr9E,nr9P,nr8Γ,nr8E,nr8P,nr7Γ,nr7E,nr7P,nr6Γ,nr6E,nr6P,nr5Γ,nr5E,nr5P,nr4Γ,nr4E,nr4P,nr3Γ,nr3E,nr3P,nr0Γ,nr0E,nr0P,conFits_eq,conWhole_eq,conOrdR_eq,conMkR_eq,conMulR_eq,conCmpR_eq,conRatC_eq,conRInt_eq,conOf_eq,conLow_eq,conDivX_eq,conMakeN_eq,conProd_eq,conDidB_eq,conDidI_eq,conValid_eq,panValid_when,panValid_what,conNeed_eq,panNeed_when,panNeed_what,conGcdN_eq,conMulN_eq,conCmpN2_eq,conPosi_eq,conChk_eq,conBigN_eq,conDiv_eq,conTimes_eq,conNCheck_eq,conLong_eq,conLead64_eq,conShort_eq,conMovE,conTrim_eq,conAt_eq,conNCmp_eq,conBack_eq,conOf9_eq,conDivide_eq,conLess9_eq,conTwo_eq,conRCheck_eq,conRCmpD_eq,inI64]
 rw [← Bool.decide_and]
 refine decide_eq_decide.2 ?_
 unfold okS
 rw [ratErr_0]
 refine and_congr_right fun _ => ?_
 split <;> omega
theorem rshrtf_ok:PureOk Tryz.prog 72 conShrtF:=by
 refine pureOkD (L:={ live:=[0,1,2] }) fa9_good rfl nr_mixed Tryz.func72 rfl conShrtF 1 (by decide) (by kernel_rfl) ?_
 intro args hpre hlens
 simp only [conShrtF] at hpre
 split at hpre
 case h_2=>exact hpre.elim
 rename_i n1 m1 e1 n2 m2 e2
 simp only [allLen,AV.lenOk,SV.lenOk,Ty.lenOk,maxLen,and_true,implies_true,true_and,List.forall_mem_cons,List.not_mem_nil,false_implies] at hlens
 refine ⟨rfl,?_⟩
 simp -dsimp -implicitDefEqProofs [Tryz.f72,conShrtF_eq,fa9_all,faT,fa9Γ,fa9E,fa9P,fa8Γ,fa8E,fa8P,fa7Γ,fa7E,fa7P,fa3Γ,fa3E,fa3P,fa2Γ,fa2E,fa2P,fa1Γ,fa1E,fa1P,nr20Γ,nr20E,nr20P,nr19Γ,nr19E,nr19P,nr18Γ,nr18E,nr18P,nr17Γ,nr17E,nr17P,nr16Γ,nr16E,nr16P,nr15Γ,nr15E,nr15P,nr14Γ,nr14E,nr14P,nr13Γ,nr13E,nr13P,nr9Γ,nr9E,nr9P,nr8Γ,nr8E,nr8P,nr7Γ,nr7E,nr7P,nr6Γ,nr6E,nr6P,nr5Γ,nr5E,nr5P,nr4Γ,nr4E,nr4P,nr3Γ,nr3E,nr3P,nr0Γ,nr0E,nr0P,conFits_eq,conWhole_eq,conOrdR_eq,conMkR_eq,conMulR_eq,conCmpR_eq,conRatC_eq,conRInt_eq,conOf_eq,conLow_eq,conDivX_eq,conMakeN_eq,conProd_eq,conDidB_eq,conDidI_eq,conValid_eq,panValid_when,panValid_what,conNeed_eq,panNeed_when,panNeed_what,conGcdN_eq,conMulN_eq,conCmpN2_eq,conPosi_eq,conChk_eq,conBigN_eq,conDiv_eq,conTimes_eq,conNCheck_eq,conLong_eq,conLead64_eq,conShort_eq,conMovE,conTrim_eq,conAt_eq,conNCmp_eq,conBack_eq,conOf9_eq,conDivide_eq,conLess9_eq,conTwo_eq,conRCheck_eq,conRCmpD_eq,inI64]
 rw [← Bool.decide_and,← Bool.decide_and]
 refine decide_eq_decide.2 ?_
 unfold okS
 rw [ratErr_0,and_assoc]
 refine and_congr_right fun _ => ?_
 omega
def lvlE (n1:Bool) (m1:List Int) (n2:Bool) (m2:List Int):Int:=if okS n1 m1 n2 m2 then (if 0<sgn n1 m1∧sgn n1 m1≤(vl m2:Int) then 0 else 1) else 100
theorem lvlE_100 {n1:Bool} {m1:List Int} {n2:Bool} {m2:List Int} (h:¬ okS n1 m1 n2 m2):lvlE n1 m1 n2 m2=100:=if_neg h
theorem lvlE_1 {n1:Bool} {m1:List Int} {n2:Bool} {m2:List Int} (h:okS n1 m1 n2 m2) (h2:¬ (0<sgn n1 m1∧sgn n1 m1≤(vl m2:Int))):lvlE n1 m1 n2 m2=1:=by unfold lvlE; rw [if_pos h,if_neg h2]
theorem lvlE_0 {n1:Bool} {m1:List Int} {n2:Bool} {m2:List Int}:lvlE n1 m1 n2 m2=0↔okS n1 m1 n2 m2∧0<sgn n1 m1∧sgn n1 m1≤(vl m2:Int):=by
 unfold lvlE
 split
 ·
  split <;> simp_all
 ·
  simp_all
def fa10Γ:List (FuncId×Con):=(65,conShrtF)::(72,conShrtF)::(31,conMost)::(32,conTimesR)::fa9Γ
theorem fa10Γ_ok:∀ p∈fa10Γ,(∀ (args:Array Value) (w:World),(callFunc p.1 args).run Tryz.prog w=.ok (.enter p.1 args) w)∧PureOk Tryz.prog p.1 p.2:=by
 simp only [fa10Γ,List.forall_mem_cons]
 exact ⟨⟨enters_of Tryz.func65 (by kernel_rfl) rfl,shrtf_ok⟩,⟨enters_of Tryz.func72 (by kernel_rfl) rfl,rshrtf_ok⟩,⟨enters_of Tryz.func31 (by kernel_rfl) rfl,most_ok⟩,⟨enters_of Tryz.func32 (by kernel_rfl) rfl,timesr_ok⟩,fa9Γ_ok⟩
def fa10E:List (FuncId×ECon):=fa9E
theorem fa10E_ok:∀ p∈fa10E,(∀ (args:Array Value) (w:World),(callFunc p.1 args).run Tryz.prog w=.ok (.enter p.1 args) w)∧EffOk Tryz.prog p.1 p.2:=by
 simp only [fa10E]
 exact fa9E_ok
def fa10P:List (FuncId×PCon):=fa9P
theorem fa10P_ok:∀ p∈fa10P,(∀ (args:Array Value) (w:World),(callFunc p.1 args).run Tryz.prog w=.ok (.enter p.1 args) w)∧PanOk Tryz.prog p.1 p.2:=by
 simp only [fa10P]
 exact fa9P_ok
def fa10:G:={ τ:=faT,Γ:=fa10Γ,E:=fa10E,Pn:=fa10P }
theorem fa10_good:fa10.good Tryz.prog:=good_of_all (faT_ok _ rfl) fa10Γ_ok fa10E_ok fa10P_ok
theorem fa10_all:(∀ t,fa10.td t=(look faT t).getD .other)∧fa10.y=false∧fa10.Γ=fa10Γ∧fa10.E=fa10E∧fa10.Pn=fa10P∧fa10.fz=[]:=⟨fun _=>rfl,rfl,rfl,rfl,rfl,rfl⟩
def conLvl:Con:=⟨fun args=>(match args with
 | [.agg [.bool n1,.sl (.int .i64) m1 _,.bool n2,.sl (.int .i64) m2 _]]=>True
 | _=>False),fun args=>match args with
 | [.agg [.bool n1,.sl (.int .i64) m1 _,.bool n2,.sl (.int .i64) m2 _]]=>.v (aI (lvlE n1 m1 n2 m2))
 | _=>.v (.s .any)⟩
theorem conLvl_eq (n1:Bool) (m1:List (Ty.T tI)) (exm1:Bool) (n2:Bool) (m2:List (Ty.T tI)) (exm2:Bool):conLvl.pre [.agg [.bool n1,.sl tI m1 exm1,.bool n2,.sl tI m2 exm2]]=(True)∧conLvl.val [.agg [.bool n1,.sl tI m1 exm1,.bool n2,.sl tI m2 exm2]]=.v (aI (lvlE n1 m1 n2 m2)):=⟨rfl,rfl⟩
theorem lvl_ok:PureOk Tryz.prog 42 conLvl:=by
 refine pureOkD (L:={ live:=[0,1,2,3,7] }) fa10_good rfl nr_mixed Tryz.func42 rfl conLvl 1 (by decide) (by kernel_rfl) ?_
 intro args hpre hlens
 simp only [conLvl] at hpre
 split at hpre
 case h_2=>exact hpre.elim
 rename_i n1 m1 e1 n2 m2 e2
 simp only [allLen,AV.lenOk,SV.lenOk,Ty.lenOk,maxLen,and_true,implies_true,true_and,List.forall_mem_cons,List.not_mem_nil,false_implies] at hlens
 refine ⟨rfl,?_⟩
 simp -dsimp -implicitDefEqProofs [Tryz.f42,conLvl_eq,rat0,rat1,len_0,len_1,cmpZ_lt0,cmpZ_le,cmpZ_gt0,fa10_all,faT,fa10Γ,fa10E,fa10P,fa9Γ,fa9E,fa9P,fa8Γ,fa8E,fa8P,fa7Γ,fa7E,fa7P,fa3Γ,fa3E,fa3P,fa2Γ,fa2E,fa2P,fa1Γ,fa1E,fa1P,nr20Γ,nr20E,nr20P,nr19Γ,nr19E,nr19P,nr18Γ,nr18E,nr18P,nr17Γ,nr17E,nr17P,nr16Γ,nr16E,nr16P,nr15Γ,nr15E,nr15P,nr14Γ,nr14E,nr14P,nr13Γ,nr13E,nr13P,nr9Γ,nr9E,nr9P,nr8Γ,nr8E,nr8P,nr7Γ,nr7E,nr7P,nr6Γ,nr6E,nr6P,nr5Γ,nr5E,nr5P,nr4Γ,nr4E,nr4P,nr3Γ,nr3E,nr3P,nr0Γ,nr0E,nr0P,conShrtF_eq,conMost_eq,conTimesR_eq,conFits_eq,conWhole_eq,conOrdR_eq,conMkR_eq,conMulR_eq,conCmpR_eq,conRatC_eq,conRInt_eq,conOf_eq,conLow_eq,conDivX_eq,conMakeN_eq,conProd_eq,conDidB_eq,conDidI_eq,conValid_eq,panValid_when,panValid_what,conNeed_eq,panNeed_when,panNeed_what,conGcdN_eq,conMulN_eq,conCmpN2_eq,conPosi_eq,conChk_eq,conBigN_eq,conDiv_eq,conTimes_eq,conNCheck_eq,conLong_eq,conLead64_eq,conShort_eq,conMovE,conTrim_eq,conAt_eq,conNCmp_eq,conBack_eq,conOf9_eq,conDivide_eq,conLess9_eq,conTwo_eq,conRCheck_eq,conRCmpD_eq,inI64]
 obtain ⟨m1,rfl⟩:∃ y:List Int,y=m1:=⟨m1,rfl⟩; obtain ⟨m2,rfl⟩:∃ y:List Int,y=m2:=⟨m2,rfl⟩
 exact ⟨fun h=>(lvlE_100 h).symm,fun h=>⟨⟨⟨h.1,okRat_0⟩,by have:=h.2; omega,by have:=h.2; omega⟩,fun h1=>⟨h1,⟨h.1,okRat_1⟩,by have:=h.2; omega,by have:=h.2; omega⟩,fun h1=>(lvlE_1 h (by omega)).symm,fun h1 h2=>(lvlE_0.2 ⟨h,h1,h2⟩).symm⟩⟩
theorem rlvl_ok:PureOk Tryz.prog 44 conLvl:=by
 refine pureOkD (L:={ live:=[0,1,2,5,14] }) fa10_good rfl nr_mixed Tryz.func44 rfl conLvl 1 (by decide) (by kernel_rfl) ?_
 intro args hpre hlens
 simp only [conLvl] at hpre
 split at hpre
 case h_2=>exact hpre.elim
 rename_i n1 m1 e1 n2 m2 e2
 simp only [allLen,AV.lenOk,SV.lenOk,Ty.lenOk,maxLen,and_true,implies_true,true_and,List.forall_mem_cons,List.not_mem_nil,false_implies] at hlens
 refine ⟨rfl,?_⟩
 simp -dsimp -implicitDefEqProofs [Tryz.f44,conLvl_eq,rat0,rat1,len_0,len_1,cmpZ_lt0,cmpZ_le,cmpZ_gt0,fa10_all,faT,fa10Γ,fa10E,fa10P,fa9Γ,fa9E,fa9P,fa8Γ,fa8E,fa8P,fa7Γ,fa7E,fa7P,fa3Γ,fa3E,fa3P,fa2Γ,fa2E,fa2P,fa1Γ,fa1E,fa1P,nr20Γ,nr20E,nr20P,nr19Γ,nr19E,nr19P,nr18Γ,nr18E,nr18P,nr17Γ,nr17E,nr17P,nr16Γ,nr16E,nr16P,nr15Γ,nr15E,nr15P,nr14Γ,nr14E,nr14P,nr13Γ,nr13E,nr13P,nr9Γ,nr9E,nr9P,nr8Γ,nr8E,nr8P,nr7Γ,nr7E,nr7P,nr6Γ,nr6E,nr6P,nr5Γ,nr5E,nr5P,nr4Γ,nr4E,nr4P,nr3Γ,nr3E,nr3P,nr0Γ,nr0E,nr0P,conShrtF_eq,conMost_eq,conTimesR_eq,conFits_eq,conWhole_eq,conOrdR_eq,conMkR_eq,conMulR_eq,conCmpR_eq,conRatC_eq,conRInt_eq,conOf_eq,conLow_eq,conDivX_eq,conMakeN_eq,conProd_eq,conDidB_eq,conDidI_eq,conValid_eq,panValid_when,panValid_what,conNeed_eq,panNeed_when,panNeed_what,conGcdN_eq,conMulN_eq,conCmpN2_eq,conPosi_eq,conChk_eq,conBigN_eq,conDiv_eq,conTimes_eq,conNCheck_eq,conLong_eq,conLead64_eq,conShort_eq,conMovE,conTrim_eq,conAt_eq,conNCmp_eq,conBack_eq,conOf9_eq,conDivide_eq,conLess9_eq,conTwo_eq,conRCheck_eq,conRCmpD_eq,inI64]
 obtain ⟨m1,rfl⟩:∃ y:List Int,y=m1:=⟨m1,rfl⟩; obtain ⟨m2,rfl⟩:∃ y:List Int,y=m2:=⟨m2,rfl⟩
 exact ⟨fun h=>(lvlE_100 h).symm,fun h=>⟨⟨⟨h.1,okRat_0⟩,by have:=h.2; omega,by have:=h.2; omega⟩,fun h1=>⟨h1,⟨h.1,okRat_1⟩,by have:=h.2; omega,by have:=h.2; omega⟩,fun h1=>(lvlE_1 h (by omega)).symm,fun h1 h2=>(lvlE_0.2 ⟨h,h1,h2⟩).symm⟩⟩
def nosAt (l:List Int) (j:Nat):Prop:=(0≤l[j]?.getD 0∧l[j]?.getD 0≤1048576)∧(0<j→l[j - 1]?.getD 0<l[j]?.getD 0)
def okNos (l:List Int):Prop:=∀ j,j<l.length→nosAt l j
noncomputable instance (l:List Int):Decidable (okNos l):=Classical.propDecidable _
theorem nos_step {l:List Int} {i:Nat} (h:∀ j,j<i→nosAt l j) (h1:nosAt l i):∀ j,j<i+1→nosAt l j:=by
 intro j hj
 rcases Nat.lt_succ_iff_lt_or_eq.1 hj with h' | rfl
 ·
  exact h j h'
 ·
  exact h1
theorem nos_not {l:List Int} {i:Nat} (hi:i<l.length) (h:¬ nosAt l i):¬ okNos l:=fun hk=>h (hk i hi)
def lastNo (l:List Int) (i:Nat):Int:=if i=0 then -1 else l[i - 1]?.getD 0
theorem lastNo_zero (l:List Int):lastNo l 0 = -1:=rfl
theorem lastNo_succ (l:List Int) (i:Nat):lastNo l (i+1)=l[i]?.getD 0:=rfl
theorem nos_iff {l:List Int} {i:Nat} (h:∀ j,j<i→nosAt l j):nosAt l i↔lastNo l i<l[i]?.getD 0∧l[i]?.getD 0≤1048576:=by
 unfold nosAt
 rcases Nat.eq_zero_or_pos i with rfl | h0
 ·
  rw [lastNo_zero]
  constructor
  ·
   rintro ⟨⟨a,b⟩,c⟩; omega
  ·
   rintro ⟨a,b⟩; exact ⟨⟨by omega,b⟩,fun h=>absurd h (by omega)⟩
 ·
  obtain ⟨k,rfl⟩:∃ k,i=k+1:=⟨i - 1,by omega⟩
  rw [lastNo_succ]
  have:=(h k (by omega)).1.1
  rw [Nat.add_sub_cancel]
  constructor
  ·
   rintro ⟨⟨a,b⟩,c⟩; exact ⟨c (by omega),b⟩
  ·
   rintro ⟨a,b⟩; exact ⟨⟨by omega,b⟩,fun _=>a⟩
def conKeyI:Con:=⟨fun args=>(match args with
 | [.s (.int .i64 n)]=>True
 | _=>False),fun args=>match args with
 | [.s (.int _ n)]=>.v (aI n)
 | _=>.v (.s .any)⟩
theorem conKeyI_eq (n:Int):conKeyI.pre [.s (.int .i64 n)]=(True)∧conKeyI.val [.s (.int .i64 n)]=.v (aI n):=⟨rfl,rfl⟩
theorem keyi_ok:PureOk Tryz.prog 41 conKeyI:=by
 refine pureOkD (L:={ live:=[0,2] }) fa10_good rfl nr_mixed Tryz.func41 rfl conKeyI 1 (by decide) (by kernel_rfl) ?_
 intro args hpre hlens
 simp only [conKeyI] at hpre
 split at hpre
 case h_2=>exact hpre.elim
 rename_i n
 simp only [allLen,AV.lenOk,SV.lenOk,Ty.lenOk,maxLen,and_true,implies_true,true_and,List.forall_mem_cons,List.not_mem_nil,false_implies] at hlens
 refine ⟨rfl,?_⟩
 simp -dsimp -implicitDefEqProofs [Tryz.f41,conKeyI_eq,fa10_all,faT,fa10Γ,fa10E,fa10P,fa9Γ,fa9E,fa9P,fa8Γ,fa8E,fa8P,fa7Γ,fa7E,fa7P,fa3Γ,fa3E,fa3P,fa2Γ,fa2E,fa2P,fa1Γ,fa1E,fa1P,nr20Γ,nr20E,nr20P,nr19Γ,nr19E,nr19P,nr18Γ,nr18E,nr18P,nr17Γ,nr17E,nr17P,nr16Γ,nr16E,nr16P,nr15Γ,nr15E,nr15P,nr14Γ,nr14E,nr14P,nr13Γ,nr13E,nr13P,nr9Γ,nr9E,nr9P,nr8Γ,nr8E,nr8P,nr7Γ,nr7E,nr7P,nr6Γ,nr6E,nr6P,nr5Γ,nr5E,nr5P,nr4Γ,nr4E,nr4P,nr3Γ,nr3E,nr3P,nr0Γ,nr0E,nr0P,conShrtF_eq,conMost_eq,conTimesR_eq,conFits_eq,conWhole_eq,conOrdR_eq,conMkR_eq,conMulR_eq,conCmpR_eq,conRatC_eq,conRInt_eq,conOf_eq,conLow_eq,conDivX_eq,conMakeN_eq,conProd_eq,conDidB_eq,conDidI_eq,conValid_eq,panValid_when,panValid_what,conNeed_eq,panNeed_when,panNeed_what,conGcdN_eq,conMulN_eq,conCmpN2_eq,conPosi_eq,conChk_eq,conBigN_eq,conDiv_eq,conTimes_eq,conNCheck_eq,conLong_eq,conLead64_eq,conShort_eq,conMovE,conTrim_eq,conAt_eq,conNCmp_eq,conBack_eq,conOf9_eq,conDivide_eq,conLess9_eq,conTwo_eq,conRCheck_eq,conRCmpD_eq,inI64]
def conKeyT:Con:=⟨fun args=>(match args with
 | [.agg [.int .i64 no,.bool n1,.sl (.int .i64) m1 _,.bool n2,.sl (.int .i64) m2 _]]=>True
 | _=>False),fun args=>match args with
 | [.agg [.int _ no,.bool n1,.sl (.int .i64) m1 _,.bool n2,.sl (.int .i64) m2 _]]=>.v (aI no)
 | _=>.v (.s .any)⟩
theorem conKeyT_eq (no:Int) (n1:Bool) (m1:List (Ty.T tI)) (exm1:Bool) (n2:Bool) (m2:List (Ty.T tI)) (exm2:Bool):conKeyT.pre [.agg [.int .i64 no,.bool n1,.sl tI m1 exm1,.bool n2,.sl tI m2 exm2]]=(True)∧conKeyT.val [.agg [.int .i64 no,.bool n1,.sl tI m1 exm1,.bool n2,.sl tI m2 exm2]]=.v (aI no):=⟨rfl,rfl⟩
theorem keyt_ok:PureOk Tryz.prog 68 conKeyT:=by
 refine pureOkD (L:={ live:=[0,1,2] }) fa10_good rfl nr_mixed Tryz.func68 rfl conKeyT 1 (by decide) (by kernel_rfl) ?_
 intro args hpre hlens
 simp only [conKeyT] at hpre
 split at hpre
 case h_2=>exact hpre.elim
 rename_i no n1 m1 e1 n2 m2 e2
 simp only [allLen,AV.lenOk,SV.lenOk,Ty.lenOk,maxLen,and_true,implies_true,true_and,List.forall_mem_cons,List.not_mem_nil,false_implies] at hlens
 refine ⟨rfl,?_⟩
 simp -dsimp -implicitDefEqProofs [Tryz.f68,conKeyT_eq,fa10_all,faT,fa10Γ,fa10E,fa10P,fa9Γ,fa9E,fa9P,fa8Γ,fa8E,fa8P,fa7Γ,fa7E,fa7P,fa3Γ,fa3E,fa3P,fa2Γ,fa2E,fa2P,fa1Γ,fa1E,fa1P,nr20Γ,nr20E,nr20P,nr19Γ,nr19E,nr19P,nr18Γ,nr18E,nr18P,nr17Γ,nr17E,nr17P,nr16Γ,nr16E,nr16P,nr15Γ,nr15E,nr15P,nr14Γ,nr14E,nr14P,nr13Γ,nr13E,nr13P,nr9Γ,nr9E,nr9P,nr8Γ,nr8E,nr8P,nr7Γ,nr7E,nr7P,nr6Γ,nr6E,nr6P,nr5Γ,nr5E,nr5P,nr4Γ,nr4E,nr4P,nr3Γ,nr3E,nr3P,nr0Γ,nr0E,nr0P,conShrtF_eq,conMost_eq,conTimesR_eq,conFits_eq,conWhole_eq,conOrdR_eq,conMkR_eq,conMulR_eq,conCmpR_eq,conRatC_eq,conRInt_eq,conOf_eq,conLow_eq,conDivX_eq,conMakeN_eq,conProd_eq,conDidB_eq,conDidI_eq,conValid_eq,panValid_when,panValid_what,conNeed_eq,panNeed_when,panNeed_what,conGcdN_eq,conMulN_eq,conCmpN2_eq,conPosi_eq,conChk_eq,conBigN_eq,conDiv_eq,conTimes_eq,conNCheck_eq,conLong_eq,conLead64_eq,conShort_eq,conMovE,conTrim_eq,conAt_eq,conNCmp_eq,conBack_eq,conOf9_eq,conDivide_eq,conLess9_eq,conTwo_eq,conRCheck_eq,conRCmpD_eq,inI64]
def fa11Γ:List (FuncId×Con):=(41,conKeyI)::(68,conKeyT)::fa10Γ
theorem fa11Γ_ok:∀ p∈fa11Γ,(∀ (args:Array Value) (w:World),(callFunc p.1 args).run Tryz.prog w=.ok (.enter p.1 args) w)∧PureOk Tryz.prog p.1 p.2:=by
 simp only [fa11Γ,List.forall_mem_cons]
 exact ⟨⟨enters_of Tryz.func41 (by kernel_rfl) rfl,keyi_ok⟩,⟨enters_of Tryz.func68 (by kernel_rfl) rfl,keyt_ok⟩,fa10Γ_ok⟩
def fa11E:List (FuncId×ECon):=fa10E
theorem fa11E_ok:∀ p∈fa11E,(∀ (args:Array Value) (w:World),(callFunc p.1 args).run Tryz.prog w=.ok (.enter p.1 args) w)∧EffOk Tryz.prog p.1 p.2:=by
 simp only [fa11E]
 exact fa10E_ok
def fa11P:List (FuncId×PCon):=fa10P
theorem fa11P_ok:∀ p∈fa11P,(∀ (args:Array Value) (w:World),(callFunc p.1 args).run Tryz.prog w=.ok (.enter p.1 args) w)∧PanOk Tryz.prog p.1 p.2:=by
 simp only [fa11P]
 exact fa10P_ok
def fa11:G:={ τ:=faT,Γ:=fa11Γ,E:=fa11E,Pn:=fa11P }
theorem fa11_good:fa11.good Tryz.prog:=good_of_all (faT_ok _ rfl) fa11Γ_ok fa11E_ok fa11P_ok
theorem fa11_all:(∀ t,fa11.td t=(look faT t).getD .other)∧fa11.y=false∧fa11.Γ=fa11Γ∧fa11.E=fa11E∧fa11.Pn=fa11P∧fa11.fz=[]:=⟨fun _=>rfl,rfl,rfl,rfl,rfl,rfl⟩
def conRisI:Con:=⟨fun args=>(match args with
 | [.s (.sl (.int .i64) l _),.s (.fnp f caps)]=>f=41∧caps=[]
 | _=>False),fun args=>match args with
 | [.s (.sl (.int .i64) l _),.s (.fnp f caps)]=>.v (aB (decide (okNos l)))
 | _=>.v (.s .any)⟩
theorem conRisI_eq (l:List (Ty.T tI)) (exl:Bool) (f:FuncId) (caps:List (Sigma Ty.T)):conRisI.pre [.s (.sl tI l exl),.s (.fnp f caps)]=(f=41∧caps=[])∧conRisI.val [.s (.sl tI l exl),.s (.fnp f caps)]=.v (aB (decide (okNos l))):=⟨rfl,rfl⟩
theorem risi_ok:PureOk Tryz.prog 40 conRisI:=by
 refine pureOkD (L:={ live:=[0,1,4,5,7,8,9,10,11,12,24] }) fa11_good rfl nr_mixed Tryz.func40 rfl conRisI 2 (by decide) (by kernel_rfl) ?_
 intro args hpre hlens
 simp only [conRisI] at hpre
 split at hpre
 case h_2=>exact hpre.elim
 rename_i l el f caps
 simp only [allLen,AV.lenOk,SV.lenOk,Ty.lenOk,maxLen,and_true,implies_true,true_and,List.forall_mem_cons,List.not_mem_nil,false_implies] at hlens
 obtain ⟨rfl,rfl⟩:=hpre
 refine ⟨rfl,?_⟩
 simp -dsimp -implicitDefEqProofs [Tryz.f40,conRisI_eq,fa11_all,faT,fa11Γ,fa11E,fa11P,fa10Γ,fa10E,fa10P,fa9Γ,fa9E,fa9P,fa8Γ,fa8E,fa8P,fa7Γ,fa7E,fa7P,fa3Γ,fa3E,fa3P,fa2Γ,fa2E,fa2P,fa1Γ,fa1E,fa1P,nr20Γ,nr20E,nr20P,nr19Γ,nr19E,nr19P,nr18Γ,nr18E,nr18P,nr17Γ,nr17E,nr17P,nr16Γ,nr16E,nr16P,nr15Γ,nr15E,nr15P,nr14Γ,nr14E,nr14P,nr13Γ,nr13E,nr13P,nr9Γ,nr9E,nr9P,nr8Γ,nr8E,nr8P,nr7Γ,nr7E,nr7P,nr6Γ,nr6E,nr6P,nr5Γ,nr5E,nr5P,nr4Γ,nr4E,nr4P,nr3Γ,nr3E,nr3P,nr0Γ,nr0E,nr0P,conKeyI_eq,conKeyT_eq,conShrtF_eq,conMost_eq,conTimesR_eq,conFits_eq,conWhole_eq,conOrdR_eq,conMkR_eq,conMulR_eq,conCmpR_eq,conRatC_eq,conRInt_eq,conOf_eq,conLow_eq,conDivX_eq,conMakeN_eq,conProd_eq,conDidB_eq,conDidI_eq,conValid_eq,panValid_when,panValid_what,conNeed_eq,panNeed_when,panNeed_what,conGcdN_eq,conMulN_eq,conCmpN2_eq,conPosi_eq,conChk_eq,conBigN_eq,conDiv_eq,conTimes_eq,conNCheck_eq,conLong_eq,conLead64_eq,conShort_eq,conMovE,conTrim_eq,conAt_eq,conNCmp_eq,conBack_eq,conOf9_eq,conDivide_eq,conLess9_eq,conTwo_eq,conRCheck_eq,conRCmpD_eq,inI64]
 obtain ⟨l,rfl⟩:∃ y:List Int,y=l:=⟨l,rfl⟩
 refine WpD.loop (L:={ live:=[0,1,4,5,7,8,9,10,11,12,24] }) fa11_good X0_ok nr_mixed (by kernel_rfl)
  (fun i:Nat=>⟨[(1,⟨true,.v (.s (.fnp 41 []))⟩),(5,vI (lastNo l i)),(9,vS tI l el),(10,vI l.length),(11,vI i)],[]⟩)
  (fun i=>i≤l.length∧∀ j,j<i→nosAt l j) (fun i=>l.length - i) 0 ⟨Nat.zero_le _,fun j h=>absurd h (by omega)⟩ (Turn.le (by simp -dsimp -implicitDefEqProofs [lastNo_zero])) ?_
 rintro i ⟨hi,hj⟩
 rcases Nat.lt_or_ge i l.length with hil | hge
 ·
  have hli:l[i]=l[i]?.getD 0:=by rw [List.getElem?_eq_getElem hil]; rfl
  have hiff:=nos_iff hj
  rw [← hli] at hiff
  have hls:=lastNo_succ l i
  rw [← hli] at hls
  simp -dsimp -implicitDefEqProofs [conRisI_eq,hil,fa11_all,faT,fa11Γ,fa11E,fa11P,fa10Γ,fa10E,fa10P,fa9Γ,fa9E,fa9P,fa8Γ,fa8E,fa8P,fa7Γ,fa7E,fa7P,fa3Γ,fa3E,fa3P,fa2Γ,fa2E,fa2P,fa1Γ,fa1E,fa1P,nr20Γ,nr20E,nr20P,nr19Γ,nr19E,nr19P,nr18Γ,nr18E,nr18P,nr17Γ,nr17E,nr17P,nr16Γ,nr16E,nr16P,nr15Γ,nr15E,nr15P,nr14Γ,nr14E,nr14P,nr13Γ,nr13E,nr13P,nr9Γ,nr9E,nr9P,nr8Γ,nr8E,nr8P,nr7Γ,nr7E,nr7P,nr6Γ,nr6E,nr6P,nr5Γ,nr5E,nr5P,nr4Γ,nr4E,nr4P,nr3Γ,nr3E,nr3P,nr0Γ,nr0E,nr0P,conKeyI_eq,conKeyT_eq,conShrtF_eq,conMost_eq,conTimesR_eq,conFits_eq,conWhole_eq,conOrdR_eq,conMkR_eq,conMulR_eq,conCmpR_eq,conRatC_eq,conRInt_eq,conOf_eq,conLow_eq,conDivX_eq,conMakeN_eq,conProd_eq,conDidB_eq,conDidI_eq,conValid_eq,panValid_when,panValid_what,conNeed_eq,panNeed_when,panNeed_what,conGcdN_eq,conMulN_eq,conCmpN2_eq,conPosi_eq,conChk_eq,conBigN_eq,conDiv_eq,conTimes_eq,conNCheck_eq,conLong_eq,conLead64_eq,conShort_eq,conMovE,conTrim_eq,conAt_eq,conNCmp_eq,conBack_eq,conOf9_eq,conDivide_eq,conLess9_eq,conTwo_eq,conRCheck_eq,conRCmpD_eq,inI64]
  refine ⟨fun h=>nos_not hil fun hc => ?_,fun h1 h2=>⟨⟨by omega,by omega⟩,i+1,⟨by omega,nos_step hj (hiff.2 ⟨h1,h2⟩)⟩,by omega,?_⟩⟩
  ·
   have:=hiff.1 hc; omega
  ·
   rw [hls]; exact TurnT.le (by simp -dsimp -implicitDefEqProofs)
 ·
  have hn:¬ i<l.length:=by omega
  simp -dsimp -implicitDefEqProofs [conRisI_eq,hn,fa11_all,faT,fa11Γ,fa11E,fa11P,fa10Γ,fa10E,fa10P,fa9Γ,fa9E,fa9P,fa8Γ,fa8E,fa8P,fa7Γ,fa7E,fa7P,fa3Γ,fa3E,fa3P,fa2Γ,fa2E,fa2P,fa1Γ,fa1E,fa1P,nr20Γ,nr20E,nr20P,nr19Γ,nr19E,nr19P,nr18Γ,nr18E,nr18P,nr17Γ,nr17E,nr17P,nr16Γ,nr16E,nr16P,nr15Γ,nr15E,nr15P,nr14Γ,nr14E,nr14P,nr13Γ,nr13E,nr13P,nr9Γ,nr9E,nr9P,nr8Γ,nr8E,nr8P,nr7Γ,nr7E,nr7P,nr6Γ,nr6E,nr6P,nr5Γ,nr5E,nr5P,nr4Γ,nr4E,nr4P,nr3Γ,nr3E,nr3P,nr0Γ,nr0E,nr0P,conKeyI_eq,conKeyT_eq,conShrtF_eq,conMost_eq,conTimesR_eq,conFits_eq,conWhole_eq,conOrdR_eq,conMkR_eq,conMulR_eq,conCmpR_eq,conRatC_eq,conRInt_eq,conOf_eq,conLow_eq,conDivX_eq,conMakeN_eq,conProd_eq,conDidB_eq,conDidI_eq,conValid_eq,panValid_when,panValid_what,conNeed_eq,panNeed_when,panNeed_what,conGcdN_eq,conMulN_eq,conCmpN2_eq,conPosi_eq,conChk_eq,conBigN_eq,conDiv_eq,conTimes_eq,conNCheck_eq,conLong_eq,conLead64_eq,conShort_eq,conMovE,conTrim_eq,conAt_eq,conNCmp_eq,conBack_eq,conOf9_eq,conDivide_eq,conLess9_eq,conTwo_eq,conRCheck_eq,conRCmpD_eq,inI64]
  exact fun j h=>hj j (by omega)
def nosL (l:List tTst.T):List Int:=l.map fun x=>x.1
theorem nosL_len (l:List tTst.T):(nosL l).length=l.length:=by simp [nosL]
theorem nosL_get {l:List tTst.T} {i:Nat} (h:i<l.length):(nosL l)[i]?.getD 0=l[i].1:=by
 unfold nosL
 rw [List.getElem?_map,List.getElem?_eq_getElem h]
 rfl
def conRisT:Con:=⟨fun args=>(match args with
 | [.s (.sl (.cons (.int .i64) (.cons (.cons (.cons .bool (.cons (.slice (.int .i64)) .nil)) (.cons (.cons .bool (.cons (.slice (.int .i64)) .nil)) .nil)) .nil)) l _),.s (.fnp f caps)]=>f=68∧caps=[]
 | _=>False),fun args=>match args with
 | [.s (.sl (.cons (.int .i64) (.cons (.cons (.cons .bool (.cons (.slice (.int .i64)) .nil)) (.cons (.cons .bool (.cons (.slice (.int .i64)) .nil)) .nil)) .nil)) l _),.s (.fnp f caps)]=>.v (aB (decide (okNos (nosL l))))
 | _=>.v (.s .any)⟩
theorem conRisT_eq (l:List (Ty.T tTst)) (exl:Bool) (f:FuncId) (caps:List (Sigma Ty.T)):conRisT.pre [.s (.sl tTst l exl),.s (.fnp f caps)]=(f=68∧caps=[])∧conRisT.val [.s (.sl tTst l exl),.s (.fnp f caps)]=.v (aB (decide (okNos (nosL l)))):=⟨rfl,rfl⟩
theorem rist_ok:PureOk Tryz.prog 67 conRisT:=by
 refine pureOkD (L:={ live:=[0,1,4,5,7,8,9,10,11,12,24] }) fa11_good rfl nr_mixed Tryz.func67 rfl conRisT 2 (by decide) (by kernel_rfl) ?_
 intro args hpre hlens
 simp only [conRisT] at hpre
 split at hpre
 case h_2=>exact hpre.elim
 rename_i l el f caps
 simp only [allLen,AV.lenOk,SV.lenOk,Ty.lenOk,maxLen,and_true,implies_true,true_and,List.forall_mem_cons,List.not_mem_nil,false_implies] at hlens
 obtain ⟨rfl,rfl⟩:=hpre
 refine ⟨rfl,?_⟩
 simp -dsimp -implicitDefEqProofs [Tryz.f67,conRisT_eq,fa11_all,faT,fa11Γ,fa11E,fa11P,fa10Γ,fa10E,fa10P,fa9Γ,fa9E,fa9P,fa8Γ,fa8E,fa8P,fa7Γ,fa7E,fa7P,fa3Γ,fa3E,fa3P,fa2Γ,fa2E,fa2P,fa1Γ,fa1E,fa1P,nr20Γ,nr20E,nr20P,nr19Γ,nr19E,nr19P,nr18Γ,nr18E,nr18P,nr17Γ,nr17E,nr17P,nr16Γ,nr16E,nr16P,nr15Γ,nr15E,nr15P,nr14Γ,nr14E,nr14P,nr13Γ,nr13E,nr13P,nr9Γ,nr9E,nr9P,nr8Γ,nr8E,nr8P,nr7Γ,nr7E,nr7P,nr6Γ,nr6E,nr6P,nr5Γ,nr5E,nr5P,nr4Γ,nr4E,nr4P,nr3Γ,nr3E,nr3P,nr0Γ,nr0E,nr0P,conKeyI_eq,conKeyT_eq,conShrtF_eq,conMost_eq,conTimesR_eq,conFits_eq,conWhole_eq,conOrdR_eq,conMkR_eq,conMulR_eq,conCmpR_eq,conRatC_eq,conRInt_eq,conOf_eq,conLow_eq,conDivX_eq,conMakeN_eq,conProd_eq,conDidB_eq,conDidI_eq,conValid_eq,panValid_when,panValid_what,conNeed_eq,panNeed_when,panNeed_what,conGcdN_eq,conMulN_eq,conCmpN2_eq,conPosi_eq,conChk_eq,conBigN_eq,conDiv_eq,conTimes_eq,conNCheck_eq,conLong_eq,conLead64_eq,conShort_eq,conMovE,conTrim_eq,conAt_eq,conNCmp_eq,conBack_eq,conOf9_eq,conDivide_eq,conLess9_eq,conTwo_eq,conRCheck_eq,conRCmpD_eq,inI64]
 refine WpD.loop (L:={ live:=[0,1,4,5,7,8,9,10,11,12,24] }) fa11_good X0_ok nr_mixed (by kernel_rfl)
  (fun i:Nat=>⟨[(1,⟨true,.v (.s (.fnp 68 []))⟩),(5,vI (lastNo (nosL l) i)),(9,vS tTst l el),(10,vI l.length),(11,vI i)],[]⟩)
  (fun i=>i≤l.length∧∀ j,j<i→nosAt (nosL l) j) (fun i=>l.length - i) 0 ⟨Nat.zero_le _,fun j h=>absurd h (by omega)⟩ (Turn.le (by simp -dsimp -implicitDefEqProofs [lastNo_zero])) ?_
 rintro i ⟨hi,hj⟩
 have hnl:=nosL_len l
 rcases Nat.lt_or_ge i l.length with hil | hge
 ·
  have hli:=nosL_get hil
  have hiff:=nos_iff hj
  rw [hli] at hiff
  have hls:=lastNo_succ (nosL l) i
  rw [hli] at hls
  simp -dsimp -implicitDefEqProofs [conRisT_eq,hil,fa11_all,faT,fa11Γ,fa11E,fa11P,fa10Γ,fa10E,fa10P,fa9Γ,fa9E,fa9P,fa8Γ,fa8E,fa8P,fa7Γ,fa7E,fa7P,fa3Γ,fa3E,fa3P,fa2Γ,fa2E,fa2P,fa1Γ,fa1E,fa1P,nr20Γ,nr20E,nr20P,nr19Γ,nr19E,nr19P,nr18Γ,nr18E,nr18P,nr17Γ,nr17E,nr17P,nr16Γ,nr16E,nr16P,nr15Γ,nr15E,nr15P,nr14Γ,nr14E,nr14P,nr13Γ,nr13E,nr13P,nr9Γ,nr9E,nr9P,nr8Γ,nr8E,nr8P,nr7Γ,nr7E,nr7P,nr6Γ,nr6E,nr6P,nr5Γ,nr5E,nr5P,nr4Γ,nr4E,nr4P,nr3Γ,nr3E,nr3P,nr0Γ,nr0E,nr0P,conKeyI_eq,conKeyT_eq,conShrtF_eq,conMost_eq,conTimesR_eq,conFits_eq,conWhole_eq,conOrdR_eq,conMkR_eq,conMulR_eq,conCmpR_eq,conRatC_eq,conRInt_eq,conOf_eq,conLow_eq,conDivX_eq,conMakeN_eq,conProd_eq,conDidB_eq,conDidI_eq,conValid_eq,panValid_when,panValid_what,conNeed_eq,panNeed_when,panNeed_what,conGcdN_eq,conMulN_eq,conCmpN2_eq,conPosi_eq,conChk_eq,conBigN_eq,conDiv_eq,conTimes_eq,conNCheck_eq,conLong_eq,conLead64_eq,conShort_eq,conMovE,conTrim_eq,conAt_eq,conNCmp_eq,conBack_eq,conOf9_eq,conDivide_eq,conLess9_eq,conTwo_eq,conRCheck_eq,conRCmpD_eq,inI64]
  refine ⟨fun h=>nos_not (i:=i) (by omega) fun hc => ?_,fun h1 h2=>⟨⟨by omega,by omega⟩,i+1,⟨by omega,nos_step hj (hiff.2 ⟨h1,h2⟩)⟩,by omega,?_⟩⟩
  ·
   have:=hiff.1 hc; omega
  ·
   rw [hls]; exact TurnT.trunc X0_ok (hp:=[]) (junk:=[_]) (by simp) (by simp only [List.length_cons,List.length_nil,List.all_cons,List.all_nil,arr_below,Bool.and_true] <;> simp [Blk.below,SV.below]) (by simp -dsimp -implicitDefEqProofs []) (by simp [envBelow,RV.below,AV.below,SV.below])
 ·
  have hn:¬ i<l.length:=by omega
  simp -dsimp -implicitDefEqProofs [conRisT_eq,hn,fa11_all,faT,fa11Γ,fa11E,fa11P,fa10Γ,fa10E,fa10P,fa9Γ,fa9E,fa9P,fa8Γ,fa8E,fa8P,fa7Γ,fa7E,fa7P,fa3Γ,fa3E,fa3P,fa2Γ,fa2E,fa2P,fa1Γ,fa1E,fa1P,nr20Γ,nr20E,nr20P,nr19Γ,nr19E,nr19P,nr18Γ,nr18E,nr18P,nr17Γ,nr17E,nr17P,nr16Γ,nr16E,nr16P,nr15Γ,nr15E,nr15P,nr14Γ,nr14E,nr14P,nr13Γ,nr13E,nr13P,nr9Γ,nr9E,nr9P,nr8Γ,nr8E,nr8P,nr7Γ,nr7E,nr7P,nr6Γ,nr6E,nr6P,nr5Γ,nr5E,nr5P,nr4Γ,nr4E,nr4P,nr3Γ,nr3E,nr3P,nr0Γ,nr0E,nr0P,conKeyI_eq,conKeyT_eq,conShrtF_eq,conMost_eq,conTimesR_eq,conFits_eq,conWhole_eq,conOrdR_eq,conMkR_eq,conMulR_eq,conCmpR_eq,conRatC_eq,conRInt_eq,conOf_eq,conLow_eq,conDivX_eq,conMakeN_eq,conProd_eq,conDidB_eq,conDidI_eq,conValid_eq,panValid_when,panValid_what,conNeed_eq,panNeed_when,panNeed_what,conGcdN_eq,conMulN_eq,conCmpN2_eq,conPosi_eq,conChk_eq,conBigN_eq,conDiv_eq,conTimes_eq,conNCheck_eq,conLong_eq,conLead64_eq,conShort_eq,conMovE,conTrim_eq,conAt_eq,conNCmp_eq,conBack_eq,conOf9_eq,conDivide_eq,conLess9_eq,conTwo_eq,conRCheck_eq,conRCmpD_eq,inI64]
  exact fun j h=>hj j (by omega)
def pOk (n1:Bool) (m1:List Int) (n2:Bool) (m2:List Int):Prop:=okS n1 m1 n2 m2∧0≤sgn n1 m1∧sgn n1 m1≤(vl m2:Int)
def tstOk (x:tTst.T):Prop:=pOk x.2.1.1.1 x.2.1.1.2.1 x.2.1.2.1.1 x.2.1.2.1.2.1
def famP (l:List tTst.T):Prop:=okNos (nosL l)∧∀ x∈l,tstOk x
noncomputable instance (l:List tTst.T):Decidable (famP l):=Classical.propDecidable _
def chkF (l:List tTst.T) (k1:Bool) (l1:List Int) (k2:Bool) (l2:List Int):Int:=if 64<l.length then 2 else if famP l then lvlE k1 l1 k2 l2 else 430
theorem chkF_2 {l:List tTst.T} {k1:Bool} {l1:List Int} {k2:Bool} {l2:List Int} (h:64<l.length):chkF l k1 l1 k2 l2=2:=if_pos h
theorem chkF_430 {l:List tTst.T} {k1:Bool} {l1:List Int} {k2:Bool} {l2:List Int} (h:l.length≤64) (h2:¬ famP l):chkF l k1 l1 k2 l2=430:=by unfold chkF; rw [if_neg (by omega),if_neg h2]
theorem chkF_l {l:List tTst.T} {k1:Bool} {l1:List Int} {k2:Bool} {l2:List Int} (h:l.length≤64) (h2:famP l):chkF l k1 l1 k2 l2=lvlE k1 l1 k2 l2:=by unfold chkF; rw [if_neg (by omega),if_pos h2]
theorem chkF_0 {l:List tTst.T} {k1:Bool} {l1:List Int} {k2:Bool} {l2:List Int}:chkF l k1 l1 k2 l2=0↔l.length≤64∧famP l∧lvlE k1 l1 k2 l2=0:=by
 unfold chkF
 split
 ·
  simp; omega
 ·
  split
  ·
   simp_all
  ·
   simp_all
def fa12Γ:List (FuncId×Con):=(40,conRisI)::(67,conRisT)::(42,conLvl)::(44,conLvl)::fa11Γ
theorem fa12Γ_ok:∀ p∈fa12Γ,(∀ (args:Array Value) (w:World),(callFunc p.1 args).run Tryz.prog w=.ok (.enter p.1 args) w)∧PureOk Tryz.prog p.1 p.2:=by
 simp only [fa12Γ,List.forall_mem_cons]
 exact ⟨⟨enters_of Tryz.func40 (by kernel_rfl) rfl,risi_ok⟩,⟨enters_of Tryz.func67 (by kernel_rfl) rfl,rist_ok⟩,⟨enters_of Tryz.func42 (by kernel_rfl) rfl,lvl_ok⟩,⟨enters_of Tryz.func44 (by kernel_rfl) rfl,rlvl_ok⟩,fa11Γ_ok⟩
def fa12E:List (FuncId×ECon):=fa11E
theorem fa12E_ok:∀ p∈fa12E,(∀ (args:Array Value) (w:World),(callFunc p.1 args).run Tryz.prog w=.ok (.enter p.1 args) w)∧EffOk Tryz.prog p.1 p.2:=by
 simp only [fa12E]
 exact fa11E_ok
def fa12P:List (FuncId×PCon):=fa11P
theorem fa12P_ok:∀ p∈fa12P,(∀ (args:Array Value) (w:World),(callFunc p.1 args).run Tryz.prog w=.ok (.enter p.1 args) w)∧PanOk Tryz.prog p.1 p.2:=by
 simp only [fa12P]
 exact fa11P_ok
def fa12:G:={ τ:=faT,Γ:=fa12Γ,E:=fa12E,Pn:=fa12P }
theorem fa12_good:fa12.good Tryz.prog:=good_of_all (faT_ok _ rfl) fa12Γ_ok fa12E_ok fa12P_ok
theorem fa12_all:(∀ t,fa12.td t=(look faT t).getD .other)∧fa12.y=false∧fa12.Γ=fa12Γ∧fa12.E=fa12E∧fa12.Pn=fa12P∧fa12.fz=[]:=⟨fun _=>rfl,rfl,rfl,rfl,rfl,rfl⟩
def conChkF:Con:=⟨fun args=>(match args with
 | [.s (.sl (.cons (.int .i64) (.cons (.cons (.cons .bool (.cons (.slice (.int .i64)) .nil)) (.cons (.cons .bool (.cons (.slice (.int .i64)) .nil)) .nil)) .nil)) l _),.agg [.bool k1,.sl (.int .i64) l1 _,.bool k2,.sl (.int .i64) l2 _]]=>True
 | _=>False),fun args=>match args with
 | [.s (.sl (.cons (.int .i64) (.cons (.cons (.cons .bool (.cons (.slice (.int .i64)) .nil)) (.cons (.cons .bool (.cons (.slice (.int .i64)) .nil)) .nil)) .nil)) l _),.agg [.bool k1,.sl (.int .i64) l1 _,.bool k2,.sl (.int .i64) l2 _]]=>.v (aI (chkF l k1 l1 k2 l2))
 | _=>.v (.s .any)⟩
theorem conChkF_eq (l:List (Ty.T tTst)) (exl:Bool) (k1:Bool) (l1:List (Ty.T tI)) (exl1:Bool) (k2:Bool) (l2:List (Ty.T tI)) (exl2:Bool):conChkF.pre [.s (.sl tTst l exl),.agg [.bool k1,.sl tI l1 exl1,.bool k2,.sl tI l2 exl2]]=(True)∧conChkF.val [.s (.sl tTst l exl),.agg [.bool k1,.sl tI l1 exl1,.bool k2,.sl tI l2 exl2]]=.v (aI (chkF l k1 l1 k2 l2)):=⟨rfl,rfl⟩
theorem chkf_ok:PureOk Tryz.prog 26 conChkF:=by
 refine pureOkD (L:={ live:=[0,1,3,4,6,9,10,11,12,13,16,38] }) fa12_good rfl nr_mixed Tryz.func26 rfl conChkF 2 (by decide) (by kernel_rfl) ?_
 intro args hpre hlens
 simp only [conChkF] at hpre
 split at hpre
 case h_2=>exact hpre.elim
 rename_i l el k1 l1 f1 k2 l2 f2
 simp only [allLen,AV.lenOk,SV.lenOk,Ty.lenOk,maxLen,and_true,implies_true,true_and,List.forall_mem_cons,List.not_mem_nil,false_implies] at hlens
 refine ⟨rfl,?_⟩
 simp -dsimp -implicitDefEqProofs [Tryz.f26,conChkF_eq,fa12_all,faT,fa12Γ,fa12E,fa12P,fa11Γ,fa11E,fa11P,fa10Γ,fa10E,fa10P,fa9Γ,fa9E,fa9P,fa8Γ,fa8E,fa8P,fa7Γ,fa7E,fa7P,fa3Γ,fa3E,fa3P,fa2Γ,fa2E,fa2P,fa1Γ,fa1E,fa1P,nr20Γ,nr20E,nr20P,nr19Γ,nr19E,nr19P,nr18Γ,nr18E,nr18P,nr17Γ,nr17E,nr17P,nr16Γ,nr16E,nr16P,nr15Γ,nr15E,nr15P,nr14Γ,nr14E,nr14P,nr13Γ,nr13E,nr13P,nr9Γ,nr9E,nr9P,nr8Γ,nr8E,nr8P,nr7Γ,nr7E,nr7P,nr6Γ,nr6E,nr6P,nr5Γ,nr5E,nr5P,nr4Γ,nr4E,nr4P,nr3Γ,nr3E,nr3P,nr0Γ,nr0E,nr0P,conRisI_eq,conRisT_eq,conLvl_eq,conKeyI_eq,conKeyT_eq,conShrtF_eq,conMost_eq,conTimesR_eq,conFits_eq,conWhole_eq,conOrdR_eq,conMkR_eq,conMulR_eq,conCmpR_eq,conRatC_eq,conRInt_eq,conOf_eq,conLow_eq,conDivX_eq,conMakeN_eq,conProd_eq,conDidB_eq,conDidI_eq,conValid_eq,panValid_when,panValid_what,conNeed_eq,panNeed_when,panNeed_what,conGcdN_eq,conMulN_eq,conCmpN2_eq,conPosi_eq,conChk_eq,conBigN_eq,conDiv_eq,conTimes_eq,conNCheck_eq,conLong_eq,conLead64_eq,conShort_eq,conMovE,conTrim_eq,conAt_eq,conNCmp_eq,conBack_eq,conOf9_eq,conDivide_eq,conLess9_eq,conTwo_eq,conRCheck_eq,conRCmpD_eq,inI64]
 obtain ⟨l1,rfl⟩:∃ y:List Int,y=l1:=⟨l1,rfl⟩; obtain ⟨l2,rfl⟩:∃ y:List Int,y=l2:=⟨l2,rfl⟩
 refine ⟨fun h=>(chkF_2 (by omega)).symm,fun hle => ?_⟩
 have hle':l.length≤64:=by omega
 refine WpD.loop (L:={ live:=[0,1,3,4,6,9,10,11,12,13,16,38] }) fa12_good X0_ok nr_mixed (by kernel_rfl)
  (fun i:Nat=>⟨[(0,vS tTst l el),(3,⟨true,.v (.s (.box 0 0))⟩),(4,vI 0),(10,vS tTst l el),(11,vI l.length),(12,vI i)],[.cells [.bool k1,.sl tI l1 f1,.bool k2,.sl tI l2 f2]]⟩)
  (fun i=>i≤l.length∧∀ j (h:j<l.length),j<i→tstOk l[j]) (fun i=>l.length - i) 0 ⟨Nat.zero_le _,fun j _ h=>absurd h (by omega)⟩ (Turn.le (by simp -dsimp -implicitDefEqProofs)) ?_
 rintro i ⟨hi,hj⟩
 rcases Nat.lt_or_ge i l.length with hil | hge
 ·
  have hnot:¬ tstOk l[i]→(430:Int)=chkF l k1 l1 k2 l2:=fun h=>(chkF_430 hle' fun hf=>h (hf.2 _ (List.getElem_mem hil))).symm
  simp -dsimp -implicitDefEqProofs [conChkF_eq,hil,rat0,rat1,len_0,len_1,cmpZ_lt0,cmpZ_le,cmpZ_gt0,fa12_all,faT,fa12Γ,fa12E,fa12P,fa11Γ,fa11E,fa11P,fa10Γ,fa10E,fa10P,fa9Γ,fa9E,fa9P,fa8Γ,fa8E,fa8P,fa7Γ,fa7E,fa7P,fa3Γ,fa3E,fa3P,fa2Γ,fa2E,fa2P,fa1Γ,fa1E,fa1P,nr20Γ,nr20E,nr20P,nr19Γ,nr19E,nr19P,nr18Γ,nr18E,nr18P,nr17Γ,nr17E,nr17P,nr16Γ,nr16E,nr16P,nr15Γ,nr15E,nr15P,nr14Γ,nr14E,nr14P,nr13Γ,nr13E,nr13P,nr9Γ,nr9E,nr9P,nr8Γ,nr8E,nr8P,nr7Γ,nr7E,nr7P,nr6Γ,nr6E,nr6P,nr5Γ,nr5E,nr5P,nr4Γ,nr4E,nr4P,nr3Γ,nr3E,nr3P,nr0Γ,nr0E,nr0P,conRisI_eq,conRisT_eq,conLvl_eq,conKeyI_eq,conKeyT_eq,conShrtF_eq,conMost_eq,conTimesR_eq,conFits_eq,conWhole_eq,conOrdR_eq,conMkR_eq,conMulR_eq,conCmpR_eq,conRatC_eq,conRInt_eq,conOf_eq,conLow_eq,conDivX_eq,conMakeN_eq,conProd_eq,conDidB_eq,conDidI_eq,conValid_eq,panValid_when,panValid_what,conNeed_eq,panNeed_when,panNeed_what,conGcdN_eq,conMulN_eq,conCmpN2_eq,conPosi_eq,conChk_eq,conBigN_eq,conDiv_eq,conTimes_eq,conNCheck_eq,conLong_eq,conLead64_eq,conShort_eq,conMovE,conTrim_eq,conAt_eq,conNCmp_eq,conBack_eq,conOf9_eq,conDivide_eq,conLess9_eq,conTwo_eq,conRCheck_eq,conRCmpD_eq,inI64]
  refine ⟨fun h=>⟨fun _=>hnot fun q=>h q.1,fun h2=>absurd h2 h⟩,fun h=>⟨⟨⟨h.1,okRat_0⟩,by have:=h.2; omega,by have:=h.2; omega⟩,fun h1=>⟨fun _=>hnot fun q=>absurd q.2.1 (by omega),fun h2=>absurd h2 (by omega)⟩,fun h1=>⟨⟨⟨h.1,okRat_1⟩,by have:=h.2; omega,by have:=h.2; omega⟩,fun h2=>hnot fun q=>absurd q.2.2 (by omega),fun h2=>⟨⟨by omega,by omega⟩,i+1,⟨by omega,fun j q1 q2 => ?_⟩,by omega,TurnT.trunc X0_ok (hp:=[_]) (junk:=[_]) (by simp) (by simp only [List.length_cons,List.length_nil,List.all_cons,List.all_nil,arr_below,Bool.and_true] <;> simp [Blk.below,SV.below]) (by simp -dsimp -implicitDefEqProofs []) (by simp [envBelow,RV.below,AV.below,SV.below])⟩⟩⟩⟩
  rcases Nat.lt_succ_iff_lt_or_eq.1 q2 with h' | rfl
  ·
   exact hj j q1 h'
  ·
   exact ⟨h,h1,h2⟩
 ·
  have hn:¬ i<l.length:=by omega
  have hall:∀ x∈l,tstOk x:=fun x hx=>by
   obtain ⟨j,hjl,rfl⟩:=List.mem_iff_getElem.1 hx
   exact hj j hjl (by omega)
  simp -dsimp -implicitDefEqProofs [conChkF_eq,hn,fa12_all,faT,fa12Γ,fa12E,fa12P,fa11Γ,fa11E,fa11P,fa10Γ,fa10E,fa10P,fa9Γ,fa9E,fa9P,fa8Γ,fa8E,fa8P,fa7Γ,fa7E,fa7P,fa3Γ,fa3E,fa3P,fa2Γ,fa2E,fa2P,fa1Γ,fa1E,fa1P,nr20Γ,nr20E,nr20P,nr19Γ,nr19E,nr19P,nr18Γ,nr18E,nr18P,nr17Γ,nr17E,nr17P,nr16Γ,nr16E,nr16P,nr15Γ,nr15E,nr15P,nr14Γ,nr14E,nr14P,nr13Γ,nr13E,nr13P,nr9Γ,nr9E,nr9P,nr8Γ,nr8E,nr8P,nr7Γ,nr7E,nr7P,nr6Γ,nr6E,nr6P,nr5Γ,nr5E,nr5P,nr4Γ,nr4E,nr4P,nr3Γ,nr3E,nr3P,nr0Γ,nr0E,nr0P,conRisI_eq,conRisT_eq,conLvl_eq,conKeyI_eq,conKeyT_eq,conShrtF_eq,conMost_eq,conTimesR_eq,conFits_eq,conWhole_eq,conOrdR_eq,conMkR_eq,conMulR_eq,conCmpR_eq,conRatC_eq,conRInt_eq,conOf_eq,conLow_eq,conDivX_eq,conMakeN_eq,conProd_eq,conDidB_eq,conDidI_eq,conValid_eq,panValid_when,panValid_what,conNeed_eq,panNeed_when,panNeed_what,conGcdN_eq,conMulN_eq,conCmpN2_eq,conPosi_eq,conChk_eq,conBigN_eq,conDiv_eq,conTimes_eq,conNCheck_eq,conLong_eq,conLead64_eq,conShort_eq,conMovE,conTrim_eq,conAt_eq,conNCmp_eq,conBack_eq,conOf9_eq,conDivide_eq,conLess9_eq,conTwo_eq,conRCheck_eq,conRCmpD_eq,inI64]
  exact ⟨fun h=>(chkF_430 hle' fun hf=>h hf.1).symm,fun h=>(chkF_l hle' ⟨h,hall⟩).symm⟩
def numE (l:List Int):Int:=if 64<l.length then 2 else if okNos l then 0 else 430
theorem numE_2 {l:List Int} (h:64<l.length):numE l=2:=if_pos h
theorem numE_430 {l:List Int} (h:l.length≤64) (h2:¬ okNos l):numE l=430:=by unfold numE; rw [if_neg (by omega),if_neg h2]
theorem numE_0 {l:List Int} (h:l.length≤64) (h2:okNos l):numE l=0:=by unfold numE; rw [if_neg (by omega),if_pos h2]
def conNumE:Con:=⟨fun args=>(match args with
 | [.s (.sl (.int .i64) l _)]=>True
 | _=>False),fun args=>match args with
 | [.s (.sl (.int .i64) l _)]=>.v (aI (numE l))
 | _=>.v (.s .any)⟩
theorem conNumE_eq (l:List (Ty.T tI)) (exl:Bool):conNumE.pre [.s (.sl tI l exl)]=(True)∧conNumE.val [.s (.sl tI l exl)]=.v (aI (numE l)):=⟨rfl,rfl⟩
theorem nume_ok:PureOk Tryz.prog 43 conNumE:=by
 refine pureOkD (L:={ live:=[0,2,3,6,10,40] }) fa12_good rfl nr_mixed Tryz.func43 rfl conNumE 1 (by decide) (by kernel_rfl) ?_
 intro args hpre hlens
 simp only [conNumE] at hpre
 split at hpre
 case h_2=>exact hpre.elim
 rename_i l el
 simp only [allLen,AV.lenOk,SV.lenOk,Ty.lenOk,maxLen,and_true,implies_true,true_and,List.forall_mem_cons,List.not_mem_nil,false_implies] at hlens
 refine ⟨rfl,?_⟩
 simp -dsimp -implicitDefEqProofs [Tryz.f43,conNumE_eq,fa12_all,faT,fa12Γ,fa12E,fa12P,fa11Γ,fa11E,fa11P,fa10Γ,fa10E,fa10P,fa9Γ,fa9E,fa9P,fa8Γ,fa8E,fa8P,fa7Γ,fa7E,fa7P,fa3Γ,fa3E,fa3P,fa2Γ,fa2E,fa2P,fa1Γ,fa1E,fa1P,nr20Γ,nr20E,nr20P,nr19Γ,nr19E,nr19P,nr18Γ,nr18E,nr18P,nr17Γ,nr17E,nr17P,nr16Γ,nr16E,nr16P,nr15Γ,nr15E,nr15P,nr14Γ,nr14E,nr14P,nr13Γ,nr13E,nr13P,nr9Γ,nr9E,nr9P,nr8Γ,nr8E,nr8P,nr7Γ,nr7E,nr7P,nr6Γ,nr6E,nr6P,nr5Γ,nr5E,nr5P,nr4Γ,nr4E,nr4P,nr3Γ,nr3E,nr3P,nr0Γ,nr0E,nr0P,conRisI_eq,conRisT_eq,conLvl_eq,conKeyI_eq,conKeyT_eq,conShrtF_eq,conMost_eq,conTimesR_eq,conFits_eq,conWhole_eq,conOrdR_eq,conMkR_eq,conMulR_eq,conCmpR_eq,conRatC_eq,conRInt_eq,conOf_eq,conLow_eq,conDivX_eq,conMakeN_eq,conProd_eq,conDidB_eq,conDidI_eq,conValid_eq,panValid_when,panValid_what,conNeed_eq,panNeed_when,panNeed_what,conGcdN_eq,conMulN_eq,conCmpN2_eq,conPosi_eq,conChk_eq,conBigN_eq,conDiv_eq,conTimes_eq,conNCheck_eq,conLong_eq,conLead64_eq,conShort_eq,conMovE,conTrim_eq,conAt_eq,conNCmp_eq,conBack_eq,conOf9_eq,conDivide_eq,conLess9_eq,conTwo_eq,conRCheck_eq,conRCmpD_eq,inI64]
 obtain ⟨l,rfl⟩:∃ y:List Int,y=l:=⟨l,rfl⟩
 refine ⟨fun h=>(numE_2 (by omega)).symm,fun hle => ?_⟩
 have hle':l.length≤64:=by omega
 refine WpD.loop (L:={ live:=[0,2,3,6,10,40] }) fa12_good X0_ok nr_mixed (by kernel_rfl)
  (fun i:Nat=>⟨[(0,vS tI l el),(3,vI i)],[]⟩)
  (fun i=>i≤l.length∧∀ j,j<i→nosAt l j) (fun i=>l.length - i) 0 ⟨Nat.zero_le _,fun j h=>absurd h (by omega)⟩ (Turn.le (by simp -dsimp -implicitDefEqProofs)) ?_
 rintro i ⟨hi,hj⟩
 rcases Nat.lt_or_ge i l.length with hil | hge
 ·
  have hli:l[i]=l[i]?.getD 0:=by rw [List.getElem?_eq_getElem hil]; rfl
  simp -dsimp -implicitDefEqProofs [conNumE_eq,hil,fa12_all,faT,fa12Γ,fa12E,fa12P,fa11Γ,fa11E,fa11P,fa10Γ,fa10E,fa10P,fa9Γ,fa9E,fa9P,fa8Γ,fa8E,fa8P,fa7Γ,fa7E,fa7P,fa3Γ,fa3E,fa3P,fa2Γ,fa2E,fa2P,fa1Γ,fa1E,fa1P,nr20Γ,nr20E,nr20P,nr19Γ,nr19E,nr19P,nr18Γ,nr18E,nr18P,nr17Γ,nr17E,nr17P,nr16Γ,nr16E,nr16P,nr15Γ,nr15E,nr15P,nr14Γ,nr14E,nr14P,nr13Γ,nr13E,nr13P,nr9Γ,nr9E,nr9P,nr8Γ,nr8E,nr8P,nr7Γ,nr7E,nr7P,nr6Γ,nr6E,nr6P,nr5Γ,nr5E,nr5P,nr4Γ,nr4E,nr4P,nr3Γ,nr3E,nr3P,nr0Γ,nr0E,nr0P,conRisI_eq,conRisT_eq,conLvl_eq,conKeyI_eq,conKeyT_eq,conShrtF_eq,conMost_eq,conTimesR_eq,conFits_eq,conWhole_eq,conOrdR_eq,conMkR_eq,conMulR_eq,conCmpR_eq,conRatC_eq,conRInt_eq,conOf_eq,conLow_eq,conDivX_eq,conMakeN_eq,conProd_eq,conDidB_eq,conDidI_eq,conValid_eq,panValid_when,panValid_what,conNeed_eq,panNeed_when,panNeed_what,conGcdN_eq,conMulN_eq,conCmpN2_eq,conPosi_eq,conChk_eq,conBigN_eq,conDiv_eq,conTimes_eq,conNCheck_eq,conLong_eq,conLead64_eq,conShort_eq,conMovE,conTrim_eq,conAt_eq,conNCmp_eq,conBack_eq,conOf9_eq,conDivide_eq,conLess9_eq,conTwo_eq,conRCheck_eq,conRCmpD_eq,inI64]
  refine ⟨fun a b c=>⟨⟨⟨a,b⟩,c⟩,by omega,by omega⟩,fun a b c=>⟨⟨⟨a,b⟩,c⟩,by omega,by omega⟩,fun a b=>⟨⟨a,b⟩,fun c=>⟨⟨a,b⟩,c⟩⟩,fun h => ?_,fun a b c=>⟨⟨by omega,by omega⟩,i+1,⟨by omega,nos_step hj ⟨by rw [← hli]; exact ⟨a,b⟩,fun h=>by rw [← hli]; exact c h⟩⟩,by omega,TurnT.le (by simp -dsimp -implicitDefEqProofs)⟩⟩
  refine (numE_430 hle' (nos_not hil fun hc => ?_)).symm
  unfold nosAt at hc
  rw [← hli] at hc
  obtain ⟨⟨a,b⟩,c⟩:=hc
  rcases h with h | ⟨h1,h2⟩
  ·
   omega
  ·
   have:=c h1; omega
 ·
  have hn:¬ i<l.length:=by omega
  simp -dsimp -implicitDefEqProofs [conNumE_eq,hn,fa12_all,faT,fa12Γ,fa12E,fa12P,fa11Γ,fa11E,fa11P,fa10Γ,fa10E,fa10P,fa9Γ,fa9E,fa9P,fa8Γ,fa8E,fa8P,fa7Γ,fa7E,fa7P,fa3Γ,fa3E,fa3P,fa2Γ,fa2E,fa2P,fa1Γ,fa1E,fa1P,nr20Γ,nr20E,nr20P,nr19Γ,nr19E,nr19P,nr18Γ,nr18E,nr18P,nr17Γ,nr17E,nr17P,nr16Γ,nr16E,nr16P,nr15Γ,nr15E,nr15P,nr14Γ,nr14E,nr14P,nr13Γ,nr13E,nr13P,nr9Γ,nr9E,nr9P,nr8Γ,nr8E,nr8P,nr7Γ,nr7E,nr7P,nr6Γ,nr6E,nr6P,nr5Γ,nr5E,nr5P,nr4Γ,nr4E,nr4P,nr3Γ,nr3E,nr3P,nr0Γ,nr0E,nr0P,conRisI_eq,conRisT_eq,conLvl_eq,conKeyI_eq,conKeyT_eq,conShrtF_eq,conMost_eq,conTimesR_eq,conFits_eq,conWhole_eq,conOrdR_eq,conMkR_eq,conMulR_eq,conCmpR_eq,conRatC_eq,conRInt_eq,conOf_eq,conLow_eq,conDivX_eq,conMakeN_eq,conProd_eq,conDidB_eq,conDidI_eq,conValid_eq,panValid_when,panValid_what,conNeed_eq,panNeed_when,panNeed_what,conGcdN_eq,conMulN_eq,conCmpN2_eq,conPosi_eq,conChk_eq,conBigN_eq,conDiv_eq,conTimes_eq,conNCheck_eq,conLong_eq,conLead64_eq,conShort_eq,conMovE,conTrim_eq,conAt_eq,conNCmp_eq,conBack_eq,conOf9_eq,conDivide_eq,conLess9_eq,conTwo_eq,conRCheck_eq,conRCmpD_eq,inI64]
  exact (numE_0 hle' fun j h=>hj j (by omega)).symm
def fa13Γ:List (FuncId×Con):=(26,conChkF)::(43,conNumE)::fa12Γ
theorem fa13Γ_ok:∀ p∈fa13Γ,(∀ (args:Array Value) (w:World),(callFunc p.1 args).run Tryz.prog w=.ok (.enter p.1 args) w)∧PureOk Tryz.prog p.1 p.2:=by
 simp only [fa13Γ,List.forall_mem_cons]
 exact ⟨⟨enters_of Tryz.func26 (by kernel_rfl) rfl,chkf_ok⟩,⟨enters_of Tryz.func43 (by kernel_rfl) rfl,nume_ok⟩,fa12Γ_ok⟩
def fa13E:List (FuncId×ECon):=fa12E
theorem fa13E_ok:∀ p∈fa13E,(∀ (args:Array Value) (w:World),(callFunc p.1 args).run Tryz.prog w=.ok (.enter p.1 args) w)∧EffOk Tryz.prog p.1 p.2:=by
 simp only [fa13E]
 exact fa12E_ok
def fa13P:List (FuncId×PCon):=fa12P
theorem fa13P_ok:∀ p∈fa13P,(∀ (args:Array Value) (w:World),(callFunc p.1 args).run Tryz.prog w=.ok (.enter p.1 args) w)∧PanOk Tryz.prog p.1 p.2:=by
 simp only [fa13P]
 exact fa12P_ok
def fa13:G:={ τ:=faT,Γ:=fa13Γ,E:=fa13E,Pn:=fa13P }
theorem fa13_good:fa13.good Tryz.prog:=good_of_all (faT_ok _ rfl) fa13Γ_ok fa13E_ok fa13P_ok
theorem fa13_all:(∀ t,fa13.td t=(look faT t).getD .other)∧fa13.y=false∧fa13.Γ=fa13Γ∧fa13.E=fa13E∧fa13.Pn=fa13P∧fa13.fz=[]:=⟨fun _=>rfl,rfl,rfl,rfl,rfl,rfl⟩
def fa13y:G:={ τ:=faT,Γ:=fa13Γ,E:=fa13E,Pn:=fa13P,y:=true }
theorem fa13y_good:fa13y.good Tryz.prog:=good_of_all (faT_ok _ rfl) fa13Γ_ok fa13E_ok fa13P_ok
theorem fa13y_all:(∀ t,fa13y.td t=(look faT t).getD .other)∧fa13y.y=true∧fa13y.Γ=fa13Γ∧fa13y.E=fa13E∧fa13y.Pn=fa13P∧fa13y.fz=[]:=⟨fun _=>rfl,rfl,rfl,rfl,rfl,rfl⟩
theorem fa13y_q:fa13y.quiet=fa13:=rfl
theorem numE_chk {l:List tTst.T} {k1:Bool} {l1:List Int} {k2:Bool} {l2:List Int} (h:numE (nosL l)≠0):numE (nosL l)=chkF l k1 l1 k2 l2:=by
 have hl:=nosL_len l
 by_cases h1:64<l.length
 ·
  rw [numE_2 (by omega),chkF_2 h1]
 ·
  by_cases h2:okNos (nosL l)
  ·
   exact absurd (numE_0 (by omega) h2) h
  ·
   rw [numE_430 (by omega) h2,chkF_430 (by omega) fun q=>h2 q.1]
theorem numE_ok {l:List tTst.T} (h:numE (nosL l)=0):l.length≤64∧okNos (nosL l):=by
 have hl:=nosL_len l
 by_cases h1:64<l.length
 ·
  rw [numE_2 (by omega)] at h; cases h
 ·
  by_cases h2:okNos (nosL l)
  ·
   exact ⟨by omega,h2⟩
  ·
   rw [numE_430 (by omega) h2] at h; cases h
theorem nosL_take {l:List tTst.T} {i:Nat} (h:i<l.length):nosL (l.take (i+1))=nosL (l.take i)++[l[i].1]:=by
 rw [List.take_add_one,nosL,List.map_append,List.getElem?_eq_getElem h]
 rfl
def conWrongF:Con:=⟨fun args=>(match args with
 | [.s (.sl (.cons (.int .i64) (.cons (.cons (.cons .bool (.cons (.slice (.int .i64)) .nil)) (.cons (.cons .bool (.cons (.slice (.int .i64)) .nil)) .nil)) .nil)) l _),.agg [.bool k1,.sl (.int .i64) l1 _,.bool k2,.sl (.int .i64) l2 _]]=>l.length≤1000
 | _=>False),fun args=>match args with
 | [.s (.sl (.cons (.int .i64) (.cons (.cons (.cons .bool (.cons (.slice (.int .i64)) .nil)) (.cons (.cons .bool (.cons (.slice (.int .i64)) .nil)) .nil)) .nil)) l _),.agg [.bool k1,.sl (.int .i64) l1 _,.bool k2,.sl (.int .i64) l2 _]]=>.v (aI (chkF l k1 l1 k2 l2))
 | _=>.v (.s .any)⟩
theorem conWrongF_eq (l:List (Ty.T tTst)) (exl:Bool) (k1:Bool) (l1:List (Ty.T tI)) (exl1:Bool) (k2:Bool) (l2:List (Ty.T tI)) (exl2:Bool):conWrongF.pre [.s (.sl tTst l exl),.agg [.bool k1,.sl tI l1 exl1,.bool k2,.sl tI l2 exl2]]=(l.length≤1000)∧conWrongF.val [.s (.sl tTst l exl),.agg [.bool k1,.sl tI l1 exl1,.bool k2,.sl tI l2 exl2]]=.v (aI (chkF l k1 l1 k2 l2)):=⟨rfl,rfl⟩
theorem wrongf_ok:PureOk Tryz.prog 29 conWrongF:=by
 refine pureOkD (L:={ live:=[0,1,3,4,5,6,7,8,12,26,31,60],frz:=[(6,[5])] }) fa13_good rfl nr_mixed Tryz.func29 rfl conWrongF 2 (by decide) (by kernel_rfl) ?_
 intro args hpre hlens
 simp only [conWrongF] at hpre
 split at hpre
 case h_2=>exact hpre.elim
 rename_i l el k1 l1 f1 k2 l2 f2
 simp only [allLen,AV.lenOk,SV.lenOk,Ty.lenOk,maxLen,and_true,implies_true,true_and,List.forall_mem_cons,List.not_mem_nil,false_implies] at hlens
 refine ⟨rfl,?_⟩
 simp -dsimp -implicitDefEqProofs [Tryz.f29,conWrongF_eq,fa13_all,faT,fa13Γ,fa13E,fa13P,fa12Γ,fa12E,fa12P,fa11Γ,fa11E,fa11P,fa10Γ,fa10E,fa10P,fa9Γ,fa9E,fa9P,fa8Γ,fa8E,fa8P,fa7Γ,fa7E,fa7P,fa3Γ,fa3E,fa3P,fa2Γ,fa2E,fa2P,fa1Γ,fa1E,fa1P,nr20Γ,nr20E,nr20P,nr19Γ,nr19E,nr19P,nr18Γ,nr18E,nr18P,nr17Γ,nr17E,nr17P,nr16Γ,nr16E,nr16P,nr15Γ,nr15E,nr15P,nr14Γ,nr14E,nr14P,nr13Γ,nr13E,nr13P,nr9Γ,nr9E,nr9P,nr8Γ,nr8E,nr8P,nr7Γ,nr7E,nr7P,nr6Γ,nr6E,nr6P,nr5Γ,nr5E,nr5P,nr4Γ,nr4E,nr4P,nr3Γ,nr3E,nr3P,nr0Γ,nr0E,nr0P,conChkF_eq,conNumE_eq,conRisI_eq,conRisT_eq,conLvl_eq,conKeyI_eq,conKeyT_eq,conShrtF_eq,conMost_eq,conTimesR_eq,conFits_eq,conWhole_eq,conOrdR_eq,conMkR_eq,conMulR_eq,conCmpR_eq,conRatC_eq,conRInt_eq,conOf_eq,conLow_eq,conDivX_eq,conMakeN_eq,conProd_eq,conDidB_eq,conDidI_eq,conValid_eq,panValid_when,panValid_what,conNeed_eq,panNeed_when,panNeed_what,conGcdN_eq,conMulN_eq,conCmpN2_eq,conPosi_eq,conChk_eq,conBigN_eq,conDiv_eq,conTimes_eq,conNCheck_eq,conLong_eq,conLead64_eq,conShort_eq,conMovE,conTrim_eq,conAt_eq,conNCmp_eq,conBack_eq,conOf9_eq,conDivide_eq,conLess9_eq,conTwo_eq,conRCheck_eq,conRCmpD_eq,inI64]
 obtain ⟨l1,rfl⟩:∃ y:List Int,y=l1:=⟨l1,rfl⟩; obtain ⟨l2,rfl⟩:∃ y:List Int,y=l2:=⟨l2,rfl⟩
 have hpre:l.length≤1000:=hpre
 refine WpD.turn _ (Turn.virt (k:=5) (t:=tI) (xs:=[]) (by simp [look])) ?_
 refine WpD.loop (L:={ live:=[0,1,3,4,5,6,7,8,12,26,31,60],frz:=[(6,[5])] }) fa13_good X0_ok nr_mixed (by kernel_rfl)
  (fun i:Nat=>⟨[(0,vS tTst l el),(3,⟨true,.v (.s (.box 0 0))⟩),(5,⟨true,.v (.s (.own tI 1 (nosL (l.take i)).length))⟩),(6,vI i)],[.cells [.bool k1,.sl tI l1 f1,.bool k2,.sl tI l2 f2],.arr (decide (0<i)) (tI.flats (nosL (l.take i)))]⟩)
  (fun i=>i≤l.length) (fun i=>l.length - i) 0 (Nat.zero_le _) (Turn.le (by simp -dsimp -implicitDefEqProofs [nosL])) ?_
 intro i hi
 have hln:=nosL_len (l.take i)
 rw [List.length_take,Nat.min_eq_left hi] at hln
 rcases Nat.lt_or_ge i l.length with hil | hge
 ·
  have e1:=nosL_take hil
  have hln1:=nosL_len (l.take (i+1))
  rw [List.length_take,Nat.min_eq_left hil] at hln1
  simp -dsimp -implicitDefEqProofs [conWrongF_eq,hil,hln,fa13_all,faT,fa13Γ,fa13E,fa13P,fa12Γ,fa12E,fa12P,fa11Γ,fa11E,fa11P,fa10Γ,fa10E,fa10P,fa9Γ,fa9E,fa9P,fa8Γ,fa8E,fa8P,fa7Γ,fa7E,fa7P,fa3Γ,fa3E,fa3P,fa2Γ,fa2E,fa2P,fa1Γ,fa1E,fa1P,nr20Γ,nr20E,nr20P,nr19Γ,nr19E,nr19P,nr18Γ,nr18E,nr18P,nr17Γ,nr17E,nr17P,nr16Γ,nr16E,nr16P,nr15Γ,nr15E,nr15P,nr14Γ,nr14E,nr14P,nr13Γ,nr13E,nr13P,nr9Γ,nr9E,nr9P,nr8Γ,nr8E,nr8P,nr7Γ,nr7E,nr7P,nr6Γ,nr6E,nr6P,nr5Γ,nr5E,nr5P,nr4Γ,nr4E,nr4P,nr3Γ,nr3E,nr3P,nr0Γ,nr0E,nr0P,conChkF_eq,conNumE_eq,conRisI_eq,conRisT_eq,conLvl_eq,conKeyI_eq,conKeyT_eq,conShrtF_eq,conMost_eq,conTimesR_eq,conFits_eq,conWhole_eq,conOrdR_eq,conMkR_eq,conMulR_eq,conCmpR_eq,conRatC_eq,conRInt_eq,conOf_eq,conLow_eq,conDivX_eq,conMakeN_eq,conProd_eq,conDidB_eq,conDidI_eq,conValid_eq,panValid_when,panValid_what,conNeed_eq,panNeed_when,panNeed_what,conGcdN_eq,conMulN_eq,conCmpN2_eq,conPosi_eq,conChk_eq,conBigN_eq,conDiv_eq,conTimes_eq,conNCheck_eq,conLong_eq,conLead64_eq,conShort_eq,conMovE,conTrim_eq,conAt_eq,conNCmp_eq,conBack_eq,conOf9_eq,conDivide_eq,conLess9_eq,conTwo_eq,conRCheck_eq,conRCmpD_eq,inI64]
  refine ⟨⟨by omega,by simp only [maxLen]; omega⟩,⟨by omega,by omega⟩,i+1,by omega,by omega,?_⟩
  rw [hln1,e1]
  exact TurnT.le (by simp -dsimp -implicitDefEqProofs)
 have hn:¬ i<l.length:=by omega
 have hta:l.take i=l:=List.take_of_length_le hge
 simp -dsimp -implicitDefEqProofs [conWrongF_eq,hn,hln,fa13_all,faT,fa13Γ,fa13E,fa13P,fa12Γ,fa12E,fa12P,fa11Γ,fa11E,fa11P,fa10Γ,fa10E,fa10P,fa9Γ,fa9E,fa9P,fa8Γ,fa8E,fa8P,fa7Γ,fa7E,fa7P,fa3Γ,fa3E,fa3P,fa2Γ,fa2E,fa2P,fa1Γ,fa1E,fa1P,nr20Γ,nr20E,nr20P,nr19Γ,nr19E,nr19P,nr18Γ,nr18E,nr18P,nr17Γ,nr17E,nr17P,nr16Γ,nr16E,nr16P,nr15Γ,nr15E,nr15P,nr14Γ,nr14E,nr14P,nr13Γ,nr13E,nr13P,nr9Γ,nr9E,nr9P,nr8Γ,nr8E,nr8P,nr7Γ,nr7E,nr7P,nr6Γ,nr6E,nr6P,nr5Γ,nr5E,nr5P,nr4Γ,nr4E,nr4P,nr3Γ,nr3E,nr3P,nr0Γ,nr0E,nr0P,conChkF_eq,conNumE_eq,conRisI_eq,conRisT_eq,conLvl_eq,conKeyI_eq,conKeyT_eq,conShrtF_eq,conMost_eq,conTimesR_eq,conFits_eq,conWhole_eq,conOrdR_eq,conMkR_eq,conMulR_eq,conCmpR_eq,conRatC_eq,conRInt_eq,conOf_eq,conLow_eq,conDivX_eq,conMakeN_eq,conProd_eq,conDidB_eq,conDidI_eq,conValid_eq,panValid_when,panValid_what,conNeed_eq,panNeed_when,panNeed_what,conGcdN_eq,conMulN_eq,conCmpN2_eq,conPosi_eq,conChk_eq,conBigN_eq,conDiv_eq,conTimes_eq,conNCheck_eq,conLong_eq,conLead64_eq,conShort_eq,conMovE,conTrim_eq,conAt_eq,conNCmp_eq,conBack_eq,conOf9_eq,conDivide_eq,conLess9_eq,conTwo_eq,conRCheck_eq,conRCmpD_eq,inI64]
 refine ⟨nosL l,by rw [hta],by rw [nosL_len]; omega,fun h=>numE_chk h,fun h => ?_⟩
 obtain ⟨hle,hnos⟩:=numE_ok h
 have hnot:∀ {j:Nat} (hj:j<l.length),¬ tstOk l[j]→(430:Int)=chkF l k1 l1 k2 l2:=fun hj h=>(chkF_430 hle fun hf=>h (hf.2 _ (List.getElem_mem hj))).symm
 refine WpD.loop (L:={ live:=[0,1,3,4,5,6,7,8,12,26,31,60],frz:=[(6,[5])] }) fa13_good X0_ok nr_mixed (by kernel_rfl)
  (fun i:Nat=>⟨[(0,vS tTst l el),(3,⟨true,.v (.s (.box 0 0))⟩),(8,vI i)],[.cells [.bool k1,.sl tI l1 f1,.bool k2,.sl tI l2 f2],.dead]⟩)
  (fun i=>i≤l.length∧∀ j (h:j<l.length),j<i→tstOk l[j]) (fun i=>l.length - i) 0 ⟨Nat.zero_le _,fun j _ h=>absurd h (by omega)⟩ (Turn.le (by simp -dsimp -implicitDefEqProofs)) ?_
 rintro i ⟨hi,hj⟩
 rcases Nat.lt_or_ge i l.length with hil | hge
 ·
  simp -dsimp -implicitDefEqProofs [conWrongF_eq,hil,rat0',rat1,len_0,len_1,cmpZ_lt0,cmpZ_le,cmpZ_gt0,fa13_all,faT,fa13Γ,fa13E,fa13P,fa12Γ,fa12E,fa12P,fa11Γ,fa11E,fa11P,fa10Γ,fa10E,fa10P,fa9Γ,fa9E,fa9P,fa8Γ,fa8E,fa8P,fa7Γ,fa7E,fa7P,fa3Γ,fa3E,fa3P,fa2Γ,fa2E,fa2P,fa1Γ,fa1E,fa1P,nr20Γ,nr20E,nr20P,nr19Γ,nr19E,nr19P,nr18Γ,nr18E,nr18P,nr17Γ,nr17E,nr17P,nr16Γ,nr16E,nr16P,nr15Γ,nr15E,nr15P,nr14Γ,nr14E,nr14P,nr13Γ,nr13E,nr13P,nr9Γ,nr9E,nr9P,nr8Γ,nr8E,nr8P,nr7Γ,nr7E,nr7P,nr6Γ,nr6E,nr6P,nr5Γ,nr5E,nr5P,nr4Γ,nr4E,nr4P,nr3Γ,nr3E,nr3P,nr0Γ,nr0E,nr0P,conChkF_eq,conNumE_eq,conRisI_eq,conRisT_eq,conLvl_eq,conKeyI_eq,conKeyT_eq,conShrtF_eq,conMost_eq,conTimesR_eq,conFits_eq,conWhole_eq,conOrdR_eq,conMkR_eq,conMulR_eq,conCmpR_eq,conRatC_eq,conRInt_eq,conOf_eq,conLow_eq,conDivX_eq,conMakeN_eq,conProd_eq,conDidB_eq,conDidI_eq,conValid_eq,panValid_when,panValid_what,conNeed_eq,panNeed_when,panNeed_what,conGcdN_eq,conMulN_eq,conCmpN2_eq,conPosi_eq,conChk_eq,conBigN_eq,conDiv_eq,conTimes_eq,conNCheck_eq,conLong_eq,conLead64_eq,conShort_eq,conMovE,conTrim_eq,conAt_eq,conNCmp_eq,conBack_eq,conOf9_eq,conDivide_eq,conLess9_eq,conTwo_eq,conRCheck_eq,conRCmpD_eq,inI64]
  refine ⟨fun h=>⟨h,⟨okRat_0,h.1⟩,by have:=h.2; omega,by have:=h.2; omega⟩,fun h h1=>⟨⟨h,h1⟩,⟨h.1,okRat_1⟩,by have:=h.2; omega,by have:=h.2; omega⟩,fun h=>hnot hil fun q => ?_,fun h h1 h2=>⟨⟨by omega,by omega⟩,i+1,⟨by omega,fun j q1 q2 => ?_⟩,by omega,TurnT.le (by simp -dsimp -implicitDefEqProofs)⟩⟩
  ·
   rcases h with (h | h) | h
   ·
    exact h q.1
   ·
    exact absurd q.2.1 (by omega)
   ·
    exact absurd q.2.2 (by omega)
  ·
   rcases Nat.lt_succ_iff_lt_or_eq.1 q2 with h' | rfl
   ·
    exact hj j q1 h'
   ·
    exact ⟨h,h1,h2⟩
 ·
  have hn:¬ i<l.length:=by omega
  have hall:∀ x∈l,tstOk x:=fun x hx=>by
   obtain ⟨j,hjl,rfl⟩:=List.mem_iff_getElem.1 hx
   exact hj j hjl (by omega)
  simp -dsimp -implicitDefEqProofs [conWrongF_eq,hn,fa13_all,faT,fa13Γ,fa13E,fa13P,fa12Γ,fa12E,fa12P,fa11Γ,fa11E,fa11P,fa10Γ,fa10E,fa10P,fa9Γ,fa9E,fa9P,fa8Γ,fa8E,fa8P,fa7Γ,fa7E,fa7P,fa3Γ,fa3E,fa3P,fa2Γ,fa2E,fa2P,fa1Γ,fa1E,fa1P,nr20Γ,nr20E,nr20P,nr19Γ,nr19E,nr19P,nr18Γ,nr18E,nr18P,nr17Γ,nr17E,nr17P,nr16Γ,nr16E,nr16P,nr15Γ,nr15E,nr15P,nr14Γ,nr14E,nr14P,nr13Γ,nr13E,nr13P,nr9Γ,nr9E,nr9P,nr8Γ,nr8E,nr8P,nr7Γ,nr7E,nr7P,nr6Γ,nr6E,nr6P,nr5Γ,nr5E,nr5P,nr4Γ,nr4E,nr4P,nr3Γ,nr3E,nr3P,nr0Γ,nr0E,nr0P,conChkF_eq,conNumE_eq,conRisI_eq,conRisT_eq,conLvl_eq,conKeyI_eq,conKeyT_eq,conShrtF_eq,conMost_eq,conTimesR_eq,conFits_eq,conWhole_eq,conOrdR_eq,conMkR_eq,conMulR_eq,conCmpR_eq,conRatC_eq,conRInt_eq,conOf_eq,conLow_eq,conDivX_eq,conMakeN_eq,conProd_eq,conDidB_eq,conDidI_eq,conValid_eq,panValid_when,panValid_what,conNeed_eq,panNeed_when,panNeed_what,conGcdN_eq,conMulN_eq,conCmpN2_eq,conPosi_eq,conChk_eq,conBigN_eq,conDiv_eq,conTimes_eq,conNCheck_eq,conLong_eq,conLead64_eq,conShort_eq,conMovE,conTrim_eq,conAt_eq,conNCmp_eq,conBack_eq,conOf9_eq,conDivide_eq,conLess9_eq,conTwo_eq,conRCheck_eq,conRCmpD_eq,inI64]
  exact (chkF_l hle ⟨hnos,hall⟩).symm
end Go.Am
namespace Go.Am
set_option maxHeartbeats 4000000
theorem flats_take (t:Ty):∀ (xs:List t.T) (j:Nat),(t.flats xs).take (j*t.size)=t.flats (xs.take j)
 | xs,0=>by simp [Ty.flats]
 | [],j+1=>by simp [Ty.flats]
 | x::xs,j+1=>by
  have hl:=flat_length t x
  rw [List.take_succ_cons,Ty.flats,Ty.flats,Nat.succ_mul,Nat.add_comm,← hl,List.take_length_add_append,hl,flats_take t xs j]
theorem flats_drop (t:Ty):∀ (xs:List t.T) (j:Nat),(t.flats xs).drop (j*t.size)=t.flats (xs.drop j)
 | xs,0=>by simp
 | [],j+1=>by simp [Ty.flats]
 | x::xs,j+1=>by
  have hl:=flat_length t x
  rw [List.drop_succ_cons,Ty.flats,Nat.succ_mul,Nat.add_comm,← hl,List.drop_length_add_append,hl,flats_drop t xs j]
theorem flats_at (t:Ty) {xs:List t.T} {j:Nat} (h:j<xs.length):((t.flats xs).drop (j*t.size)).take t.size=t.flat xs[j]:=by
 rw [flats_drop,List.drop_eq_getElem_cons h,Ty.flats]
 have hl:=flat_length t xs[j]
 rw [List.take_append_of_le_length (by omega),List.take_of_length_le (by omega)]
theorem flats_set (t:Ty) {xs:List t.T} {j:Nat} (h:j<xs.length) (v:t.T):(t.flats xs).take (j*t.size)++(t.flat v++(t.flats xs).drop (j*t.size+t.size))=t.flats (xs.set j v):=by
 have e:j*t.size+t.size=(j+1)*t.size:=by rw [Nat.succ_mul]
 rw [e,flats_take,flats_drop,List.set_eq_take_append_cons_drop,if_pos h]
 have hc:∀ a b:List t.T,t.flats (a++b)=t.flats a++t.flats b:=fun a b=>by
  induction a with
  | nil=>rfl
  | cons x a ih=>simp [Ty.flats,ih]
 rw [hc,Ty.flats]
section
variable {α:Type} (c:α→α→Int) (d:α)
def srtTo (ys:List α) (i:Nat):Prop:=∀ p q,p<q→q<i→c (ys[p]?.getD d) (ys[q]?.getD d)≤0
def insP (ys:List α) (i j:Nat):Prop:=∀ p q,p<q→q≤i→q≠j→c (ys[p]?.getD d) (ys[q]?.getD d)≤0
variable {c d}
theorem ins_start {ys:List α} {i:Nat} (h:srtTo c d ys i):insP c d ys i i:=fun p q h1 h2 h3=>h p q h1 (by omega)
theorem ins_done {D:α→Prop} (ho:Ordr D c) {ys:List α} (hD:∀ x∈ys,D x) {i j:Nat} (hi:i<ys.length) (hj:j≤i) (h:insP c d ys i j) (he:j=0∨0≤c (ys[j]?.getD d) (ys[j - 1]?.getD d)):srtTo c d ys (i+1):=by
 have hm:∀ k,k<ys.length→D (ys[k]?.getD d):=fun k hk=>hD _ (by rw [List.getElem?_eq_getElem hk]; exact List.getElem_mem hk)
 intro p q h1 h2
 by_cases hq:q=j
 ·
  subst hq
  have h0:0≤c (ys[q]?.getD d) (ys[q - 1]?.getD d):=by
   rcases he with he | he
   ·
    omega
   ·
    exact he
  have a:=ho.anti _ _ (hm (q - 1) (by omega)) (hm q (by omega))
  by_cases hp:p=q - 1
  ·
   subst hp; omega
  ·
   have t1:=h p (q - 1) (by omega) (by omega) (by omega)
   exact ho.trans _ _ _ (hm p (by omega)) (hm (q - 1) (by omega)) (hm q (by omega)) t1 (by omega)
 ·
  exact h p q h1 (by omega) hq
theorem ins_swap {ys:List α} {i j:Nat} (hi:i<ys.length) (hj:j+1≤i) (h:insP c d ys i (j+1)) (he:c (ys[j+1]?.getD d) (ys[j]?.getD d)<0) :
  insP c d ((ys.set (j+1) (ys[j]?.getD d)).set j (ys[j+1]?.getD d)) i j:=by
 have e:∀ k,((ys.set (j+1) (ys[j]?.getD d)).set j (ys[j+1]?.getD d))[k]?.getD d=if k=j then ys[j+1]?.getD d else if k=j+1 then ys[j]?.getD d else ys[k]?.getD d:=by
  intro k
  by_cases h1:k=j
  ·
   subst h1
   rw [if_pos rfl,List.getElem?_set_self (by rw [List.length_set]; omega)]; rfl
  ·
   rw [if_neg h1,List.getElem?_set_ne (fun e=>h1 e.symm)]
   by_cases h2:k=j+1
   ·
    subst h2
    rw [if_pos rfl,List.getElem?_set_self (by omega)]; rfl
   ·
    rw [if_neg h2,List.getElem?_set_ne (fun e=>h2 e.symm)]
 intro p q h1 h2 h3
 rw [e,e]
 rw [if_neg h3]
 by_cases hq:q=j+1
 ·
  subst hq
  rw [if_pos rfl]
  by_cases hp:p=j
  ·
   subst hp; rw [if_pos rfl]; omega
  ·
   rw [if_neg hp,if_neg (by omega)]
   exact h p j (by omega) (by omega) (by omega)
 ·
  rw [if_neg hq]
  by_cases hp:p=j
  ·
   subst hp; rw [if_pos rfl]; exact h (p+1) q (by omega) h2 hq
  ·
   rw [if_neg hp]
   by_cases hp2:p=j+1
   ·
    subst hp2; rw [if_pos rfl]; exact h j q (by omega) h2 hq
   ·
    rw [if_neg hp2]; exact h p q h1 h2 hq
theorem swap_perm {ys:List α} {j:Nat} (h:j+1<ys.length):((ys.set (j+1) (ys[j]?.getD d)).set j (ys[j+1]?.getD d)).Perm ys:=by
 rw [List.getElem?_eq_getElem h,List.getElem?_eq_getElem (show j<ys.length by omega)]
 exact List.set_set_perm h (by omega)
theorem srt_all {ys:List α} (h:srtTo c d ys ys.length):ys.Pairwise fun x y=>c x y≤0:=by
 rw [List.pairwise_iff_getElem]
 intro p q hp hq hpq
 have:=h p q hpq hq
 rw [List.getElem?_eq_getElem hp,List.getElem?_eq_getElem hq] at this
 exact this
end
def cmpTo (Γ:List (FuncId×Con)) (t:Ty) (f:FuncId) (caps:List (Sigma Ty.T)) (cmp:t.T→t.T→Int) (D:t.T→Prop):Prop :=
 ∃ c,look Γ f=some c∧∀ x y,D x→D y→c.pre (t.av x::t.av y::caps.map capAV)∧c.val (t.av x::t.av y::caps.map capAV)=.v (.s (.int .i64 (cmp x y)))
end Go.Am
namespace Go.Am
set_option maxHeartbeats 4000000
set_option maxRecDepth 20000
open Go.RowKit Go.Proofs
attribute [local simp] thenKD_normal thenKD_exit thenKD_goto thenKD_ret inBlockKD_normal inBlockKD_exit inBlockKD_goto inBlockKD_ret noGotoKD_normal noGotoKD_exit noGotoKD_goto noGotoKD_ret roundKD_normal roundKD_exit roundKD_goto roundKD_ret frzSlotsD_nil frzSlotsD_cons frzSlotD_eq yieldVCD_trace opVCD_eq vcOpsD_nil vcOpsD_cons vcAllD_zero vcAllD_succ allAtD_nil allAtD_cons readyAux edgA vcD_skip vcD_label vcD_exit vcD_goto vcD_ret vcD_region vcD_seq vcD_seqC vcD_cond vcCondD_bool vcD_block vcD_scope vcD_loop vcD_rangeFunc yieldOf isMem isMem0 keepE envLe St.le psE yieldAV round_td round_y round_Γ vI vB vS aI aB aS look getE oper opRV putE allOk okOps Op.operands Call.operands pEv qEv mEv constRV coe RV.av loadEv loadCs takeAt indexAddrEv fieldAddrEv binEv intEv arith unEv gcond pickEv argsEv callVal callEv capAV_mk lenArgs lenEv minEv extractEv convEv funcEv allBox bound sliceEv lookupEv TD.isBool allocEv boxEv storeEv spl plainTD appendEv appendArgs makeMapEv mapUpdateEv buildEv buildSliceEv fillSV zsvOf sizeTD Ty.parses parses_flats' coeA flats_length AV.good AV.cells AV.pure SV.pure av_int av_bool av_str av_slice av_cons av_fld0 av_fld1 av_fld2 av_fld3 av_fld4 Ty.of Ty.dflt Ty.parse Ty.flat Ty.zsv Ty.fld Ty.get Ty.off Ty.nfld Ty.size coeTy junk Blk.look argEnv resEv resOk resVs oneRV retOk frzAs frzAV frzL frzSV boxCaps boxCap SV.sig sigs RV.scalar AV.scalar SV.scalar nope effVCD_eq effOf SV.ids AV.ids dedup SV.ren AV.ren RV.ren idx outId mergeB Blk.pureB flats_pure flat_pure epsSlotsD_nil epsSlotsD_cons epsSlotD_eq allEp D.parts_fnOf fvParts retEff round_E av_fn G.ye isCutD_nil isCutD_cons firstReg_region firstReg_seq firstReg_skip firstReg_ret firstReg_label firstReg_exit firstReg_goto firstReg_cond firstReg_block firstReg_scope firstReg_loop firstReg_rf eptrOf_mk flOfD_nil flOfD_cons vcFlD_cons vcFlD_nil flPairs_nil flPairs_cons vcFrD_nil vcFrD_cons makeSliceEv vcCondD_ib fzEv unfl_flats isFz round_fz panVCD_eq panOf isShift strIdxEv ifaceEv nilChkEv sliceAnyEv sliceOwnEv sliceSufEv appendEv0 appendEv1 Ty.beq Ty.isAgg round_Pn vcDefD_seqR vcDefD_seqS vcDefD_seqC vcDefD_seqB vcDefD_seqL vcDefD_seqF vcDefD_seqSc vcDefD_region vcDefD_ret vcDefD_cond vcDefD_block vcDefD_loop thenKD_panic inBlockKD_panic noGotoKD_panic exitOk_normal exitOk_ret exitOk_panic exitOk_exit runDefs_none runDefs_some runDefs_cons defRegD defReg2D isDefer defOf caughtCon unfl_cons D.bpart_bndOf D.parts_bndOf AV.sig zapEv capArgs capEv
attribute [local simp ←] flats_append
def cmT:List (TypeId×TD):=[(3,.sc tI),(4,.sc .bool),(23,.slice 3 tI 8)]
theorem cmT_ok (g:G) (hg:g.τ=cmT):G.ok Tryz.prog g:=by
 refine ok_of_all ?_
 rw [hg]
 simp only [cmT,List.forall_mem_cons]
 refine ⟨?_,?_,?_,by simp⟩
 ·
  exact ⟨by kernel_rfl,rfl,by kernel_rfl,rfl⟩
 ·
  exact ⟨by kernel_rfl,rfl,by kernel_rfl,rfl⟩
 ·
  exact ⟨by kernel_rfl,by decide,by kernel_rfl,⟨cellsV (Ty.zcells tI),by kernel_rfl,by kernel_rfl,by kernel_rfl⟩,by kernel_rfl⟩
def cm0Γ:List (FuncId×Con):=[]
theorem cm0Γ_ok:∀ p∈cm0Γ,(∀ (args:Array Value) (w:World),(callFunc p.1 args).run Tryz.prog w=.ok (.enter p.1 args) w)∧PureOk Tryz.prog p.1 p.2:=by simp [cm0Γ]
def cm0E:List (FuncId×ECon):=[]
theorem cm0E_ok:∀ p∈cm0E,(∀ (args:Array Value) (w:World),(callFunc p.1 args).run Tryz.prog w=.ok (.enter p.1 args) w)∧EffOk Tryz.prog p.1 p.2:=by simp [cm0E]
def cm0P:List (FuncId×PCon):=[]
theorem cm0P_ok:∀ p∈cm0P,(∀ (args:Array Value) (w:World),(callFunc p.1 args).run Tryz.prog w=.ok (.enter p.1 args) w)∧PanOk Tryz.prog p.1 p.2:=by simp [cm0P]
def cm0:G:={ τ:=cmT,Γ:=cm0Γ,E:=cm0E,Pn:=cm0P }
theorem cm0_good:cm0.good Tryz.prog:=good_of_all (cmT_ok _ rfl) cm0Γ_ok cm0E_ok cm0P_ok
theorem cm0_all:(∀ t,cm0.td t=(look cmT t).getD .other)∧cm0.y=false∧cm0.Γ=cm0Γ∧cm0.E=cm0E∧cm0.Pn=cm0P∧cm0.fz=[]:=⟨fun _=>rfl,rfl,rfl,rfl,rfl,rfl⟩
def conNaT:Con:=⟨fun args=>(match args with
 | [.s (.int .i64 a)]=>True
 | _=>False),fun args=>match args with
 | [.s (.int _ a)]=>.v (aB false)
 | _=>.v (.s .any)⟩
theorem conNaT_eq (a:Int):conNaT.pre [.s (.int .i64 a)]=(True)∧conNaT.val [.s (.int .i64 a)]=.v (aB false):=⟨rfl,rfl⟩
theorem nat_ok:PureOk Tryz.prog 124 conNaT:=by
 refine pureOkD (L:={ live:=[0,2] }) cm0_good rfl nr_mixed Tryz.func124 rfl conNaT 1 (by decide) (by kernel_rfl) ?_
 intro args hpre hlens
 simp only [conNaT] at hpre
 split at hpre
 case h_2=>exact hpre.elim
 rename_i a
 simp only [allLen,AV.lenOk,SV.lenOk,Ty.lenOk,maxLen,and_true,implies_true,true_and,List.forall_mem_cons,List.not_mem_nil,false_implies] at hlens
 refine ⟨rfl,?_⟩
 simp -dsimp -implicitDefEqProofs [Tryz.f124,conNaT_eq,cm0_all,cmT,cm0Γ,cm0E,cm0P,inI64]
def cm1Γ:List (FuncId×Con):=(124,conNaT)::cm0Γ
theorem cm1Γ_ok:∀ p∈cm1Γ,(∀ (args:Array Value) (w:World),(callFunc p.1 args).run Tryz.prog w=.ok (.enter p.1 args) w)∧PureOk Tryz.prog p.1 p.2:=by
 simp only [cm1Γ,List.forall_mem_cons]
 exact ⟨⟨enters_of Tryz.func124 (by kernel_rfl) rfl,nat_ok⟩,cm0Γ_ok⟩
def cm1E:List (FuncId×ECon):=cm0E
theorem cm1E_ok:∀ p∈cm1E,(∀ (args:Array Value) (w:World),(callFunc p.1 args).run Tryz.prog w=.ok (.enter p.1 args) w)∧EffOk Tryz.prog p.1 p.2:=by
 simp only [cm1E]
 exact cm0E_ok
def cm1P:List (FuncId×PCon):=cm0P
theorem cm1P_ok:∀ p∈cm1P,(∀ (args:Array Value) (w:World),(callFunc p.1 args).run Tryz.prog w=.ok (.enter p.1 args) w)∧PanOk Tryz.prog p.1 p.2:=by
 simp only [cm1P]
 exact cm0P_ok
def cm1:G:={ τ:=cmT,Γ:=cm1Γ,E:=cm1E,Pn:=cm1P }
theorem cm1_good:cm1.good Tryz.prog:=good_of_all (cmT_ok _ rfl) cm1Γ_ok cm1E_ok cm1P_ok
theorem cm1_all:(∀ t,cm1.td t=(look cmT t).getD .other)∧cm1.y=false∧cm1.Γ=cm1Γ∧cm1.E=cm1E∧cm1.Pn=cm1P∧cm1.fz=[]:=⟨fun _=>rfl,rfl,rfl,rfl,rfl,rfl⟩
def conCmpI:Con:=⟨fun args=>(match args with
 | [.s (.int .i64 a),.s (.int .i64 b)]=>True
 | _=>False),fun args=>match args with
 | [.s (.int _ a),.s (.int _ b)]=>.v (aI (cmpZ a b))
 | _=>.v (.s .any)⟩
theorem conCmpI_eq (a:Int) (b:Int):conCmpI.pre [.s (.int .i64 a),.s (.int .i64 b)]=(True)∧conCmpI.val [.s (.int .i64 a),.s (.int .i64 b)]=.v (aI (cmpZ a b)):=⟨rfl,rfl⟩
theorem cmpi_ok:PureOk Tryz.prog 80 conCmpI:=by
 refine pureOkD (L:={ live:=[0,1,4,5,6,11,12,13,16,19] }) cm1_good rfl nr_mixed Tryz.func80 rfl conCmpI 2 (by decide) (by kernel_rfl) ?_
 intro args hpre hlens
 simp only [conCmpI] at hpre
 split at hpre
 case h_2=>exact hpre.elim
 rename_i a b
 simp only [allLen,AV.lenOk,SV.lenOk,Ty.lenOk,maxLen,and_true,implies_true,true_and,List.forall_mem_cons,List.not_mem_nil,false_implies] at hlens
 refine ⟨rfl,?_⟩
 simp -dsimp -implicitDefEqProofs [Tryz.f80,conCmpI_eq,cm1_all,cmT,cm1Γ,cm1E,cm1P,cm0Γ,cm0E,cm0P,conNaT_eq,inI64]
 refine ⟨fun h=>(cmpZ_lt h).symm,fun h=>⟨fun h2=>(cmpZ_gt h2).symm,fun h2 => ?_⟩⟩
 rw [Int.le_antisymm h h2]
 exact (cmpZ_zero.2 rfl).symm
def orI:List Int→Int
 | []=>0
 | x::r=>if x=0 then orI r else x
theorem orI_at {l:List Int} {i:Nat} (hi:i<l.length) (hz:∀ j,j<i→l[j]?.getD 0=0) (h:l[i]?.getD 0≠0):orI l=l[i]?.getD 0:=by
 induction l generalizing i with
 | nil=>simp at hi
 | cons x r ih =>
  cases i with
  | zero=>simp at h; simp [orI,h]
  | succ i =>
   have h0:x=0:=by have:=hz 0 (by omega); simpa using this
   subst h0
   simp only [orI,if_pos,List.getElem?_cons_succ] at h ⊢
   exact ih (by simpa using hi) (fun j hj=>by have:=hz (j+1) (by omega); simpa using this) h
theorem orI_none {l:List Int} (hz:∀ j,j<l.length→l[j]?.getD 0=0):orI l=0:=by
 induction l with
 | nil=>rfl
 | cons x r ih =>
  have h0:x=0:=by have:=hz 0 (by simp); simpa using this
  subst h0
  simp only [orI,if_pos]
  exact ih fun j hj=>by have:=hz (j+1) (by simpa using hj); simpa using this
def conOrI:Con:=⟨fun args=>(match args with
 | [.s (.sl (.int .i64) l _)]=>True
 | _=>False),fun args=>match args with
 | [.s (.sl (.int .i64) l _)]=>.v (aI (orI l))
 | _=>.v (.s .any)⟩
theorem conOrI_eq (l:List (Ty.T tI)) (exl:Bool):conOrI.pre [.s (.sl tI l exl)]=(True)∧conOrI.val [.s (.sl tI l exl)]=.v (aI (orI l)):=⟨rfl,rfl⟩
theorem ori_ok:PureOk Tryz.prog 79 conOrI:=by
 refine pureOkD (L:={ live:=[0,2,3,5,6,7,8,9,14] }) cm0_good rfl nr_mixed Tryz.func79 rfl conOrI 1 (by decide) (by kernel_rfl) ?_
 intro args hpre hlens
 simp only [conOrI] at hpre
 split at hpre
 case h_2=>exact hpre.elim
 rename_i l el
 simp only [allLen,AV.lenOk,SV.lenOk,Ty.lenOk,maxLen,and_true,implies_true,true_and,List.forall_mem_cons,List.not_mem_nil,false_implies] at hlens
 refine ⟨rfl,?_⟩
 simp -dsimp -implicitDefEqProofs [Tryz.f79,conOrI_eq,cm0_all,cmT,cm0Γ,cm0E,cm0P,inI64]
 obtain ⟨l,rfl⟩:∃ y:List Int,y=l:=⟨l,rfl⟩
 refine WpD.loop (L:={ live:=[0,2,3,5,6,7,8,9,14] }) cm0_good X0_ok nr_mixed (by kernel_rfl)
  (fun i:Nat=>⟨[(3,vI 0),(6,vS tI l el),(7,vI l.length),(8,vI i)],[]⟩)
  (fun i=>i≤l.length∧∀ j,j<i→l[j]?.getD 0=0) (fun i=>l.length - i) 0 ⟨Nat.zero_le _,fun j h=>absurd h (by omega)⟩ (Turn.le (by simp -dsimp -implicitDefEqProofs)) ?_
 rintro i ⟨hi,hz⟩
 simp -dsimp -implicitDefEqProofs [conOrI_eq,cm0_all,cmT,cm0Γ,cm0E,cm0P,inI64]
 refine ⟨fun hil=>⟨hil,fun h=>(orI_at hil hz h).symm,fun h=>⟨⟨by omega,by omega⟩,i+1,⟨by omega,fun j hj => ?_⟩,by omega,TurnT.le (by simp -dsimp -implicitDefEqProofs)⟩⟩,fun h => ?_⟩
 ·
  rcases Nat.lt_succ_iff_lt_or_eq.1 hj with h' | rfl
  ·
   exact hz j h'
  ·
   exact h
 ·
  exact (orI_none fun j hj=>hz j (by omega)).symm
theorem orI_two (x y:Int):orI [x,y]=if x=0 then y else x:=by
 simp only [orI]
 split
 ·
  split
  ·
   rename_i h; exact h.symm
  ·
   rfl
 ·
  rfl
end Go.Am
