/- Part 7 of the proof's base. -/
import Derived.Test.YtgnoaabcdccpoaaGreatDoorK6
set_option linter.all false
noncomputable section
namespace Go.Am
def dig (n:Nat):List Int:=if h:n=0 then [] else ((n % 1073741824:Nat):Int)::dig (n / 1073741824)
termination_by n
decreasing_by omega
def vl:List Int→Nat
 | []=>0
 | d::r=>d.toNat+1073741824*vl r
def okD (xs:List Int):Prop:=∀ d∈xs,0≤d∧d≤1073741823
def trimL:List Int→List Int
 | []=>[]
 | d::r=>match trimL r with
  | []=>if d=0 then [] else [d]
  | s=>d::s
def canon (xs:List Int):Prop:=okD xs∧xs.getLast?≠some 0
theorem dig_zero:dig 0=[]:=by rw [dig]; rfl
theorem dig_pos {n:Nat} (h:n≠0):dig n=((n % 1073741824:Nat):Int)::dig (n / 1073741824):=by rw [dig]; simp [h]
theorem vl_dig (n:Nat):vl (dig n)=n:=by
 induction n using Nat.strongRecOn with
 | _ n ih =>
  by_cases h:n=0
  ·
   subst h; rw [dig_zero]; rfl
  ·
   rw [dig_pos h]
   simp only [vl]
   rw [ih _ (by omega)]
   omega
theorem okD_dig (n:Nat):okD (dig n):=by
 induction n using Nat.strongRecOn with
 | _ n ih =>
  by_cases h:n=0
  ·
   subst h; rw [dig_zero]; intro d hd; cases hd
  ·
   rw [dig_pos h]
   intro d hd
   rcases List.mem_cons.1 hd with rfl | hd
   ·
    omega
   ·
    exact ih _ (by omega) d hd
theorem okD_nil:okD []:=fun d h=>by cases h
theorem okD_cons {d:Int} {r:List Int}:okD (d::r)↔(0≤d∧d≤1073741823)∧okD r:=by simp [okD]
theorem okD_append {x y:List Int}:okD (x++y)↔okD x∧okD y:=by
 simp only [okD,List.mem_append]
 constructor
 ·
  intro h; exact ⟨fun d hd=>h d (.inl hd),fun d hd=>h d (.inr hd)⟩
 ·
  rintro ⟨h1,h2⟩ d (hd | hd)
  ·
   exact h1 d hd
  ·
   exact h2 d hd
theorem okD_get {xs:List Int} (h:okD xs) {i:Nat} (hi:i<xs.length):0≤xs[i]?.getD 0∧xs[i]?.getD 0≤1073741823:=by
 rw [List.getElem?_eq_getElem hi]; exact h _ (List.getElem_mem hi)
theorem okD_take {xs:List Int} (h:okD xs) (n:Nat):okD (xs.take n):=fun d hd=>h d (List.mem_of_mem_take hd)
theorem okD_drop {xs:List Int} (h:okD xs) (n:Nat):okD (xs.drop n):=fun d hd=>h d (List.mem_of_mem_drop hd)
theorem okD_set {xs:List Int} (h:okD xs) {i:Nat} {x:Int} (hx:0≤x∧x≤1073741823):okD (xs.set i x):=fun d hd=>by
 rcases List.mem_or_eq_of_mem_set hd with hd | rfl
 ·
  exact h d hd
 ·
  exact hx
theorem okD_rep (n:Nat):okD (List.replicate n 0):=fun d hd=>by rw [List.eq_of_mem_replicate hd]; omega
theorem vl_append (x y:List Int):vl (x++y)=vl x+1073741824 ^ x.length*vl y:=by
 induction x with
 | nil=>simp [vl]
 | cons d r ih=>simp only [List.cons_append,vl,ih,List.length_cons,Nat.pow_succ]; grind
theorem vl_rep (n:Nat):vl (List.replicate n 0)=0:=by
 induction n with
 | zero=>rfl
 | succ n ih=>simp [List.replicate_succ,vl,ih]
theorem vl_one (d:Int):vl [d]=d.toNat:=by simp [vl]
theorem pow_pos' (n:Nat):0<1073741824 ^ n:=Nat.pow_pos (by decide)
theorem vl_lt {xs:List Int} (h:okD xs):vl xs<1073741824 ^ xs.length:=by
 induction xs with
 | nil=>simp [vl]
 | cons d r ih =>
  obtain ⟨h1,h2⟩:=okD_cons.1 h
  have:=ih h2
  simp only [vl,List.length_cons,Nat.pow_succ]
  generalize 1073741824 ^ r.length=p at *
  omega
theorem vl_take_drop (xs:List Int) (n:Nat) (h:n≤xs.length):vl xs=vl (xs.take n)+1073741824 ^ n*vl (xs.drop n):=by
 conv=>lhs; rw [← List.take_append_drop n xs]
 rw [vl_append,List.length_take,Nat.min_eq_left h]
theorem vl_take_succ {xs:List Int} {i:Nat} (hi:i<xs.length):vl (xs.take (i+1))=vl (xs.take i)+1073741824 ^ i*(xs[i]?.getD 0).toNat:=by
 rw [List.take_add_one,List.getElem?_eq_getElem hi]
 simp only [Option.toList_some,Option.getD_some]
 rw [vl_append,vl_one,List.length_take,Nat.min_eq_left (by omega)]
theorem vl_set {xs:List Int} {i:Nat} (hi:i<xs.length) (x:Int):vl (xs.set i x)+1073741824 ^ i*(xs[i]?.getD 0).toNat=vl xs+1073741824 ^ i*x.toNat:=by
 induction xs generalizing i with
 | nil=>simp at hi
 | cons d r ih =>
  cases i with
  | zero=>simp [vl]; omega
  | succ i =>
   have:=ih (i:=i) (by simpa using hi)
   simp only [List.set_cons_succ,vl,List.getElem?_cons_succ,Nat.pow_succ]
   grind
theorem trimL_nil {r:List Int}:trimL r=[]↔∀ d∈r,d=0:=by
 induction r with
 | nil=>simp [trimL]
 | cons d r ih =>
  simp only [trimL,List.mem_cons,forall_eq_or_imp]
  cases ht:trimL r with
  | nil =>
   rw [ht] at ih
   have:=ih.1 rfl
   by_cases h:d=0
   ·
    simp only [h,if_true,true_and]; exact ⟨fun _=>this,fun _=>trivial⟩
   ·
    simp [h]
  | cons e s =>
   rw [ht] at ih
   have:¬ ∀ d∈r,d=0:=fun h=>by have:=ih.2 h; cases this
   simp [this]
theorem vl_trim (xs:List Int):vl (trimL xs)=vl xs:=by
 induction xs with
 | nil=>rfl
 | cons d r ih =>
  simp only [trimL]
  cases ht:trimL r with
  | nil =>
   rw [ht] at ih
   have h0:vl r=0:=ih.symm
   simp only [vl,h0]
   split
   ·
    rename_i h; subst h; rfl
   ·
    simp [vl]
  | cons e s=>rw [ht] at ih; simp only [vl,← ih]
theorem okD_trim {xs:List Int} (h:okD xs):okD (trimL xs):=by
 induction xs with
 | nil=>exact okD_nil
 | cons d r ih =>
  obtain ⟨h1,h2⟩:=okD_cons.1 h
  simp only [trimL]
  have:=ih h2
  cases ht:trimL r with
  | nil =>
   by_cases h0:d=0
   ·
    simp only [h0,if_true]; exact okD_nil
   ·
    simp only [h0,if_false]; exact okD_cons.2 ⟨h1,okD_nil⟩
  | cons e s=>rw [ht] at this; exact okD_cons.2 ⟨h1,this⟩
theorem vl_zero {xs:List Int} (h:okD xs) (hz:vl xs=0):∀ d∈xs,d=0:=by
 induction xs with
 | nil=>intro d hd; cases hd
 | cons d r ih =>
  obtain ⟨h1,h2⟩:=okD_cons.1 h
  simp only [vl] at hz
  intro e he
  rcases List.mem_cons.1 he with rfl | he
  ·
   omega
  ·
   exact ih h2 (by omega) e he
theorem dig_vl {xs:List Int} (h:okD xs):dig (vl xs)=trimL xs:=by
 induction xs with
 | nil=>exact dig_zero
 | cons d r ih =>
  obtain ⟨h1,h2⟩:=okD_cons.1 h
  have ih:=ih h2
  by_cases hz:vl (d::r)=0
  ·
   rw [hz,dig_zero]
   exact (trimL_nil.2 (vl_zero h hz)).symm
  ·
   rw [dig_pos hz]
   have e1:vl (d::r) % 1073741824=d.toNat:=by simp only [vl]; omega
   have e2:vl (d::r) / 1073741824=vl r:=by simp only [vl]; omega
   rw [e1,e2,ih,Int.toNat_of_nonneg h1.1]
   simp only [trimL]
   cases ht:trimL r with
   | nil =>
    have h0:vl r=0:=by rw [← vl_trim,ht]; rfl
    rw [if_neg]
    intro hd; subst hd
    simp [vl,h0] at hz
   | cons e s=>rfl
theorem trim_canon {xs:List Int} (h:canon xs):trimL xs=xs:=by
 obtain ⟨h1,h2⟩:=h
 clear h1
 induction xs with
 | nil=>rfl
 | cons d r ih =>
  simp only [trimL]
  cases r with
  | nil =>
   simp only [List.getLast?_singleton] at h2
   simp only [trimL]
   rw [if_neg (fun e=>h2 (by rw [e]))]
  | cons e s =>
   rw [ih (by rwa [List.getLast?_cons_cons] at h2)]
theorem canon_dig (n:Nat):canon (dig n):=by
 refine ⟨okD_dig n,?_⟩
 induction n using Nat.strongRecOn with
 | _ n ih =>
  by_cases h:n=0
  ·
   subst h; rw [dig_zero]; simp
  ·
   rw [dig_pos h]
   by_cases h2:n / 1073741824=0
   ·
    rw [h2,dig_zero]
    simp only [List.getLast?_singleton]
    intro hh
    injection hh with hh
    omega
   ·
    have:=ih _ (show n / 1073741824<n by omega)
    rw [dig_pos h2] at this ⊢
    rw [List.getLast?_cons_cons]
    exact this
theorem canon_eq {xs:List Int} (h:canon xs):dig (vl xs)=xs:=by rw [dig_vl h.1,trim_canon h]
theorem canon_nil:canon []:=⟨okD_nil,by simp⟩
theorem canon_len {xs:List Int} (h:canon xs) {k:Nat}:xs.length≤k↔vl xs<1073741824 ^ k:=by
 constructor
 ·
  intro hk
  exact Nat.lt_of_lt_of_le (vl_lt h.1) (Nat.pow_le_pow_right (by decide) hk)
 ·
  intro hv
  rcases Nat.lt_or_ge k xs.length with hlt | hge
  ·
   exfalso
   have h0:xs≠[]:=by intro e; subst e; simp at hlt
   have hl:xs=xs.dropLast++[xs.getLast h0]:=(List.dropLast_concat_getLast h0).symm
   have hne:xs.getLast h0≠0:=fun e=>h.2 (by rw [List.getLast?_eq_some_getLast h0,e])
   have hr:=h.1 _ (List.getLast_mem h0)
   rw [hl,vl_append,vl_one] at hv
   have hle:1073741824 ^ k≤1073741824 ^ xs.dropLast.length:=Nat.pow_le_pow_right (by decide) (by rw [List.length_dropLast]; omega)
   have h1:1≤(xs.getLast h0).toNat:=by omega
   have:=Nat.mul_le_mul_left (1073741824 ^ xs.dropLast.length) h1
   omega
  ·
   exact hge
theorem dig_len {n k:Nat}:(dig n).length≤k↔n<1073741824 ^ k:=by rw [canon_len (canon_dig n),vl_dig]
theorem dig_le {n k j:Nat} (h:n<1073741824 ^ k) (hk:k≤j):(dig n).length≤j:=by rw [dig_len]; exact Nat.lt_of_lt_of_le h (Nat.pow_le_pow_right (by decide) hk)
theorem dig_same {n j:Nat} {xs:List Int} (hc:canon xs) (h:n≤vl xs) (hk:xs.length≤j):(dig n).length≤j:=dig_le (Nat.lt_of_le_of_lt h (vl_lt hc.1)) hk
theorem canon_zero {xs:List Int} (h:canon xs):vl xs=0↔xs=[]:=by
 constructor
 ·
  intro hz; rw [← canon_eq h,hz,dig_zero]
 ·
  intro e; subst e; rfl
theorem dig_nil {n:Nat}:dig n=[]↔n=0:=by
 constructor
 ·
  intro h
  have:=vl_dig n
  rw [h] at this
  exact this.symm
 ·
  rintro rfl; exact dig_zero
theorem dig_one:dig 1=[1]:=by rw [dig_pos (by decide),dig_zero]; rfl
theorem vl_pos {xs:List Int} (h:canon xs):0<vl xs↔0<xs.length:=by
 have:=canon_zero h
 constructor
 ·
  intro hp; rw [List.length_pos_iff]; intro e; rw [this.2 e] at hp; omega
 ·
  intro hp; rw [List.length_pos_iff] at hp; rcases Nat.eq_zero_or_pos (vl xs) with h | h
  ·
   exact absurd (this.1 h) hp
  ·
   exact h
theorem canon_last {xs:List Int} (h:canon xs) (hp:0<xs.length):1≤xs[xs.length - 1]?.getD 0∧xs[xs.length - 1]?.getD 0≤1073741823:=by
 have hr:=okD_get h.1 (i:=xs.length - 1) (by omega)
 refine ⟨?_,hr.2⟩
 have hne:xs[xs.length - 1]?.getD 0≠0:=fun e=>h.2 (by rw [List.getLast?_eq_getElem?,List.getElem?_eq_getElem (by omega)]; rw [List.getElem?_eq_getElem (by omega)] at e; simpa using e)
 omega
theorem canon_of {xs:List Int} (h:okD xs) (hl:0<xs.length→xs[xs.length - 1]?.getD 0≠0):canon xs:=by
 refine ⟨h,fun e => ?_⟩
 rw [List.getLast?_eq_getElem?] at e
 have hp:0<xs.length:=by
  cases xs with
  | nil=>simp at e
  | cons a b=>simp
 exact hl hp (by rw [e]; rfl)
theorem vl_drop (xs:List Int) {i:Nat} (h:i<xs.length):vl (xs.drop i)=(xs[i]?.getD 0).toNat+1073741824*vl (xs.drop (i+1)):=by
 rw [List.drop_eq_getElem_cons h,List.getElem?_eq_getElem h]; rfl
theorem vl_less {a b:List Int} (ha:okD a) (hb:okD b) {i:Nat} (hia:i<a.length) (hib:i<b.length) (hd:a.drop (i+1)=b.drop (i+1)) (h:a[i]?.getD 0<b[i]?.getD 0):vl a<vl b:=by
 rw [vl_take_drop a i (by omega),vl_take_drop b i (by omega),vl_drop a hia,vl_drop b hib,hd]
 have h1:=vl_lt (okD_take ha i)
 rw [List.length_take,Nat.min_eq_left (by omega)] at h1
 have h2:=okD_get ha hia
 have h3:(a[i]?.getD 0).toNat+1≤(b[i]?.getD 0).toNat:=by omega
 have h4:=Nat.mul_le_mul_left (1073741824 ^ i) h3
 rw [Nat.mul_add,Nat.mul_one] at h4
 rw [Nat.mul_add,Nat.mul_add]
 omega
theorem vl_len {a b:List Int} (ha:canon a) (hb:canon b) (h:a.length<b.length):vl a<vl b:=by
 have h1:=vl_lt ha.1
 have h2:¬ vl b<1073741824 ^ a.length:=fun h2=>by have:=(canon_len hb).2 h2; omega
 omega
def cmpN (a b:Nat):Int:=if a<b then -1 else if b<a then 1 else 0
theorem cmpN_lt {a b:Nat} (h:a<b):cmpN a b = -1:=if_pos h
theorem cmpN_gt {a b:Nat} (h:b<a):cmpN a b=1:=by unfold cmpN; rw [if_neg (by omega),if_pos h]
theorem cmpN_eq (a:Nat):cmpN a a=0:=by unfold cmpN; rw [if_neg (by omega),if_neg (by omega)]
theorem trimL_append_zero (x y:List Int) (h:∀ d∈y,d=0):trimL (x++y)=trimL x:=by
 induction x with
 | nil=>exact trimL_nil.2 h
 | cons d r ih=>simp only [List.cons_append,trimL,ih]
theorem trimL_last (x:List Int) (d:Int) (h:d≠0):trimL (x++[d])=x++[d]:=by
 induction x with
 | nil=>simp [trimL,h]
 | cons e r ih =>
  simp only [List.cons_append,trimL,ih]
  cases r <;> rfl
theorem take_trim {xs:List Int} {n:Nat} (hn:n≤xs.length) (hz:∀ d∈xs.drop n,d=0) (h:0<n→xs[n - 1]?.getD 0≠0):xs.take n=trimL xs:=by
 conv=>rhs; rw [← List.take_append_drop n xs,trimL_append_zero _ _ hz]
 rcases Nat.eq_zero_or_pos n with rfl | hp
 ·
  rfl
 ·
  have:=h hp
  rw [List.getElem?_eq_getElem (by omega),Option.getD_some] at this
  have e:xs.take n=xs.take (n - 1)++[xs[n - 1]]:=by
   conv=>lhs; rw [show n=(n - 1)+1 by omega]
   rw [List.take_add_one,List.getElem?_eq_getElem (by omega)]
   rfl
  rw [e,trimL_last _ _ this]
theorem trimL_len (xs:List Int):(trimL xs).length≤xs.length:=by
 induction xs with
 | nil=>exact Nat.le_refl _
 | cons d r ih =>
  simp only [trimL]
  cases ht:trimL r with
  | nil=>by_cases h:d=0 <;> simp [h]
  | cons e s=>rw [ht] at ih; simp only [List.length_cons] at ih ⊢; omega
theorem trimL_take (xs:List Int):trimL xs=xs.take (trimL xs).length:=by
 induction xs with
 | nil=>rfl
 | cons d r ih =>
  simp only [trimL]
  cases ht:trimL r with
  | nil=>by_cases h:d=0 <;> simp [h]
  | cons e s=>rw [ht] at ih; simp only [List.length_cons,List.take_succ_cons] at ih ⊢; rw [← ih]
theorem mul_range {x y:Int} (hx:0≤x∧x≤1073741823) (hy:0≤y∧y≤1073741823):0≤x*y∧x*y≤1152921502459363329:=by
 refine ⟨Int.mul_nonneg hx.1 hy.1,?_⟩
 have h1:=Int.mul_le_mul hx.2 hy.2 hy.1 (by decide:(0:Int)≤1073741823)
 simpa using h1
theorem mul_step {xs ys b:List Int} {i k:Nat} {A ov s:Int} (hyo:okD ys) (hik:i+k<ys.length) (hk:k<b.length) (hb:okD b) (hA:0≤A∧A≤1073741823) (hov:0≤ov∧ov≤1073741823)
  (hyv:vl ys+1073741824 ^ (i+k)*ov.toNat=vl xs+1073741824 ^ i*(A.toNat*vl (b.take k))) (hs:s=ys[i+k]?.getD 0+A*b[k]?.getD 0+ov) :
  (0≤s∧s≤1152921504606846975)∧(0≤s / 1073741824∧s / 1073741824≤1073741823)∧(0≤s % 1073741824∧s % 1073741824≤1073741823)∧okD (ys.set (i+k) (s % 1073741824)) ∧
   vl (ys.set (i+k) (s % 1073741824))+1073741824 ^ (i+(k+1))*(s / 1073741824).toNat=vl xs+1073741824 ^ i*(A.toNat*vl (b.take (k+1))):=by
 have hy:=okD_get hyo hik
 have hbk:=okD_get hb hk
 have hm:=mul_range hA hbk
 have hs0:0≤s∧s≤1152921504606846975:=by omega
 have hr:0≤s % 1073741824∧s % 1073741824≤1073741823:=by omega
 refine ⟨hs0,by omega,hr,okD_set hyo hr,?_⟩
 have h1:=vl_set hik (s % 1073741824)
 have h2:=vl_take_succ hk
 have hsn:s.toNat=(ys[i+k]?.getD 0).toNat+A.toNat*(b[k]?.getD 0).toNat+ov.toNat:=by
  rw [← Int.toNat_mul hA.1 hbk.1]
  omega
 have hdm:s.toNat=1073741824*(s / 1073741824).toNat+(s % 1073741824).toNat:=by omega
 rw [h2]
 generalize (s / 1073741824).toNat=q at *
 generalize (s % 1073741824).toNat=r at *
 generalize (ys[i+k]?.getD 0).toNat=Y at *
 generalize (b[k]?.getD 0).toNat=C at *
 generalize A.toNat=A' at *
 generalize ov.toNat=o at *
 generalize vl (ys.set (i+k) (s % 1073741824))=V at *
 generalize vl ys=W at *
 generalize vl xs=X at *
 generalize vl (b.take k)=T at *
 have e1:1073741824 ^ (i+(k+1))=1073741824 ^ (i+k)*1073741824:=by rw [← Nat.add_assoc,Nat.pow_succ]
 have e2:1073741824 ^ (i+k)=1073741824 ^ i*1073741824 ^ k:=Nat.pow_add ..
 rw [e1]
 generalize hp:1073741824 ^ (i+k)=p at *
 generalize 1073741824 ^ i=pi at *
 generalize 1073741824 ^ k=pk at *
 grind
theorem drop_set_succ (ys:List Int) (j:Nat) (r:Int):(ys.set j r).drop (j+1)=ys.drop (j+1):=List.drop_set_of_lt (by omega)
theorem drop_eq_succ {ys xs:List Int} {j:Nat} (h:ys.drop j=xs.drop j):ys.drop (j+1)=xs.drop (j+1):=by
 rw [← List.drop_drop,← List.drop_drop,h]
theorem row_end {xs ys a b:List Int} {i:Nat} {ov:Int} (hil:i<a.length) (hl:ys.length=a.length+b.length) (hyo:okD ys) (ha:okD a) (hov:0≤ov∧ov≤1073741823)
  (hyv:vl ys+1073741824 ^ (i+b.length)*ov.toNat=vl xs+1073741824 ^ i*((a[i]?.getD 0).toNat*vl (b.take b.length))) (hyd:ys.drop (i+b.length)=xs.drop (i+b.length)) (hxz:∀ d∈xs.drop (i+b.length),d=0)
  (hxv:vl xs=vl (a.take i)*vl b):okD (ys.set (i+b.length) ov)∧vl (ys.set (i+b.length) ov)=vl (a.take (i+1))*vl b∧∀ d∈(ys.set (i+b.length) ov).drop (i+1+b.length),d=0:=by
 have hlt:i+b.length<ys.length:=by omega
 have h0:ys[i+b.length]?.getD 0=0:=by
  rw [List.getElem?_eq_getElem hlt,Option.getD_some]
  refine hxz _ ?_
  rw [← hyd,List.drop_eq_getElem_cons hlt]
  exact List.mem_cons_self ..
 refine ⟨okD_set hyo hov,?_,?_⟩
 ·
  have h1:=vl_set hlt ov
  rw [h0] at h1
  have h2:=vl_take_succ hil
  rw [h2]
  rw [List.take_of_length_le (Nat.le_refl _),hxv] at hyv
  simp only [Int.toNat_zero,Nat.mul_zero,Nat.add_zero] at h1
  rw [h1,hyv]
  generalize (a[i]?.getD 0).toNat=A
  generalize 1073741824 ^ i=p
  grind
 ·
  rw [show i+1+b.length=i+b.length+1 by omega,drop_set_succ,drop_eq_succ hyd]
  intro d hd
  refine hxz d ?_
  rw [← List.drop_drop] at hd
  exact List.mem_of_mem_drop hd
theorem less_ring1 {p v d b y a x o:Nat} (h:v+b=a+p*o) (hd:d+y+o=x+1073741824):v+p*d+(b+p*y)=a+p*x+p*1073741824*1:=by
 have h1:p*d+p*y+p*o=p*x+p*1073741824:=by rw [← Nat.mul_add,← Nat.mul_add,← Nat.mul_add,hd]
 rw [Nat.mul_one]
 generalize p*d=q1 at *
 generalize p*y=q2 at *
 generalize p*o=q3 at *
 generalize p*x=q4 at *
 generalize p*1073741824=q5 at *
 omega
theorem less_ring2 {p v d b y a x o q:Nat} (h:v+b=a+p*o) (hd:d+y+o=x):v+p*d+(b+p*y)=a+p*x+q*0:=by
 have h1:p*d+p*y+p*o=p*x:=by rw [← Nat.mul_add,← Nat.mul_add,hd]
 rw [Nat.mul_zero]
 omega
theorem less_step {a b out:List Int} {i ow:Nat} {n:Int} (ha:okD a) (hb:okD b) (hi:i<a.length) (hlen:out.length=i) (ho:okD out) (how:ow=0∨ow=1)
  (hv:vl out+vl (b.take i)=vl (a.take i)+1073741824 ^ i*ow) (hn:n=a[i]?.getD 0 - b[i]?.getD 0 - ow) :
  (-1073741824≤n∧n≤1073741823)∧(n<0→okD (out++[n+1073741824])∧vl (out++[n+1073741824])+vl (b.take (i+1))=vl (a.take (i+1))+1073741824 ^ (i+1)*1) ∧
   (0≤n→okD (out++[n])∧vl (out++[n])+vl (b.take (i+1))=vl (a.take (i+1))+1073741824 ^ (i+1)*0):=by
 have h1:=okD_get ha hi
 have h2:0≤b[i]?.getD 0∧b[i]?.getD 0≤1073741823:=by
  rcases Nat.lt_or_ge i b.length with h | h
  ·
   exact okD_get hb h
  ·
   rw [List.getElem?_eq_none h,Option.getD_none]; omega
 have e1:=vl_take_succ hi
 have e2:vl (b.take (i+1))=vl (b.take i)+1073741824 ^ i*(b[i]?.getD 0).toNat:=by
  rcases Nat.lt_or_ge i b.length with h | h
  ·
   exact vl_take_succ h
  ·
   rw [List.getElem?_eq_none h,List.take_of_length_le (by omega),List.take_of_length_le (by omega),Option.getD_none,Int.toNat_zero,Nat.mul_zero,Nat.add_zero]
 have hr : -1073741824≤n∧n≤1073741823:=by omega
 have key:∀ d:Int,0≤d→vl (out++[d])=vl out+1073741824 ^ i*d.toNat:=fun d hd=>by rw [vl_append,vl_one,hlen]
 refine ⟨hr,fun hneg=>⟨okD_append.2 ⟨ho,okD_cons.2 ⟨⟨by omega,by omega⟩,okD_nil⟩⟩,?_⟩,fun hpos=>⟨okD_append.2 ⟨ho,okD_cons.2 ⟨⟨by omega,by omega⟩,okD_nil⟩⟩,?_⟩⟩
 ·
  rw [key _ (by omega),e1,e2,Nat.pow_succ]
  exact less_ring1 hv (by omega)
 ·
  rw [key _ hpos,e1,e2]
  exact less_ring2 hv (by omega)
theorem less_end {a b out:List Int} {ow:Nat} (ha:okD a) (hb:canon b) (hle:vl b≤vl a) (hlen:out.length=a.length) (ho:okD out) (how:ow=0∨ow=1)
  (hv:vl out+vl (b.take a.length)=vl (a.take a.length)+1073741824 ^ a.length*ow):trimL out=dig (vl a - vl b):=by
 have hbl:b.length≤a.length:=(canon_len hb).2 (Nat.lt_of_le_of_lt hle (vl_lt ha))
 rw [List.take_of_length_le hbl,List.take_of_length_le (Nat.le_refl _)] at hv
 have hlt:=vl_lt ho
 rw [hlen] at hlt
 rw [← dig_vl ho]
 congr 1
 generalize 1073741824 ^ a.length=p at *
 rcases how with rfl | rfl
 ·
  rw [Nat.mul_zero] at hv; omega
 ·
  rw [Nat.mul_one] at hv; omega
theorem cmpN_neg {a b:Nat}:cmpN a b<0↔a<b:=by
 unfold cmpN
 split
 ·
  simp_all
 ·
  split <;> simp_all
theorem cmpN_pos {a b:Nat}:0<cmpN a b↔b<a:=by
 unfold cmpN
 split
 ·
  simp_all; omega
 ·
  split <;> simp_all
theorem div_push {a:List Int} (ha:okD a) {k:Nat} (hk:k<a.length) (R:Nat):trimL (a[k]?.getD 0::dig R)=dig ((a[k]?.getD 0).toNat+1073741824*R):=by
 rw [← dig_vl (okD_cons.2 ⟨okD_get ha hk,okD_dig R⟩)]
 simp only [vl,vl_dig]
theorem div_lt {x R v:Nat} (hx:x≤1073741823) (hR:R<v):x+1073741824*R<(1073741823+1)*v:=by omega
theorem div_row {a q:List Int} {k R lo vb:Nat} (hk:k<a.length) (hql:q.length=a.length) (hqo:okD q) (hqz:∀ d∈q.take (k+1),d=0) (hqv:vl (a.drop (k+1))=vl (q.drop (k+1))*vb+R)
  (hlo:lo≤1073741823) (h1:lo*vb≤(a[k]?.getD 0).toNat+1073741824*R):okD (q.set k lo)∧(∀ d∈(q.set k lo).take k,d=0) ∧
   vl (a.drop k)=vl ((q.set k (lo:Int)).drop k)*vb+((a[k]?.getD 0).toNat+1073741824*R - lo*vb):=by
 have hkq:k<q.length:=by omega
 refine ⟨okD_set hqo (by omega),fun d hd => ?_,?_⟩
 ·
  rw [List.take_set_of_le (by omega)] at hd
  exact hqz d (List.mem_of_mem_take (by rw [List.take_take,Nat.min_eq_left (by omega)]; exact hd:d∈List.take k (q.take (k+1))))
 ·
  rw [vl_drop a hk,vl_drop (q.set k lo) (by rw [List.length_set]; exact hkq),drop_set_succ,hqv]
  rw [List.getElem?_set_self hkq,Option.getD_some,Int.toNat_natCast]
  have e:(lo+1073741824*vl (q.drop (k+1)))*vb=lo*vb+1073741824*(vl (q.drop (k+1))*vb):=by rw [Nat.add_mul,Nat.mul_assoc]
  rw [e]
  generalize vl (q.drop (k+1))*vb=Q
  generalize lo*vb=L at *
  omega
theorem set_same {q:List Int} {k:Nat} (hk:k<q.length) (h:∀ d∈q.take (k+1),d=0):q.set k ((0:Nat):Int)=q:=by
 have:q[k]=0:=h _ (by rw [List.mem_take_iff_getElem]; exact ⟨k,by omega,rfl⟩)
 rw [show ((0:Nat):Int)=q[k] from this.symm]
 exact List.set_getElem_self hk
theorem dig_len_mul {n m k:Nat} {b:List Int} (hb:canon b) (hm:m≤1073741823) (hn:n≤m*vl b) (hk:b.length+1≤k):(dig n).length≤k:=by
 rw [dig_len]
 have h1:=vl_lt hb.1
 have h2:1073741824 ^ (b.length+1)≤1073741824 ^ k:=Nat.pow_le_pow_right (by decide) hk
 have h3:m*vl b≤1073741823*vl b:=Nat.mul_le_mul_right _ hm
 rw [Nat.pow_succ] at h2
 generalize 1073741824 ^ b.length=p at *
 omega
def cmpZ (a b:Int):Int:=if a<b then -1 else if b<a then 1 else 0
theorem cmpZ_nat (a b:Nat):cmpZ (a:Int) (b:Int)=cmpN a b:=by
 unfold cmpZ cmpN
 simp only [Int.ofNat_lt]
theorem cmpZ_neg (a b:Int):cmpZ (-a) (-b)=cmpZ b a:=by
 unfold cmpZ
 split <;> split <;> (try split) <;> (try split) <;> omega
theorem cmpZ_lt {a b:Int} (h:a<b):cmpZ a b = -1:=if_pos h
theorem cmpZ_gt {a b:Int} (h:b<a):cmpZ a b=1:=by unfold cmpZ; rw [if_neg (by omega),if_pos h]
def sgn (ng:Bool) (m:List Int):Int:=if ng then -(vl m:Int) else (vl m:Int)
theorem sgn_true (m:List Int):sgn true m = -(vl m:Int):=rfl
theorem sgn_false (m:List Int):sgn false m=(vl m:Int):=rfl
theorem make_step {out:List Int} {k n:Int} (ho:okD out) (hv:vl out+1073741824 ^ out.length*k.natAbs=n.natAbs) (d:Int) (hd:d=if k.tmod 1073741824<0 then -(k.tmod 1073741824) else k.tmod 1073741824) :
  okD (out++[d])∧vl (out++[d])+1073741824 ^ (out++[d]).length*(k.tdiv 1073741824).natAbs=n.natAbs:=by
 have h1:(k.tdiv 1073741824).natAbs=k.natAbs / 1073741824:=by rw [Int.natAbs_tdiv]; rfl
 have h2:d=((k.natAbs % 1073741824:Nat):Int):=by
  have h3:(k.tmod 1073741824).natAbs=k.natAbs % 1073741824:=by rw [Int.natAbs_tmod]; rfl
  split at hd <;> omega
 refine ⟨okD_append.2 ⟨ho,okD_cons.2 ⟨by omega,okD_nil⟩⟩,?_⟩
 rw [vl_append,vl_one,h1,h2,List.length_append,List.length_singleton,Nat.pow_succ,Int.toNat_natCast,← hv,Nat.mul_assoc,Nat.add_assoc,← Nat.mul_add]
 congr 2
 omega
theorem canon_snoc {x:List Int} {d:Int} (h:okD (x++[d])) (hd:d≠0):canon (x++[d]):=⟨h,by rw [List.getLast?_concat]; simpa using hd⟩
end Go.Am
namespace Go.Am
set_option maxHeartbeats 8000000
set_option maxRecDepth 20000
open Go.RowKit Go.Proofs Go.Proofs.Tryz
theorem natCaught:CaughtRaw prog 109 30:=by
 constructor
 ·
  intro n p w
  refine callsDIn_of_wpSIn func109 rfl trivial fun c₀ cs hu => ?_
  apply wpSIn_seq
  apply wpSIn_region
  simp [wpOpsSIn,go_sem,recoverD,hu,Tryz.ntmps109,Exit.thenS]
  apply wpSIn_seq
  apply wpSIn_region
  simp [wpOpsSIn,go_sem,Exit.thenS,eqGuard,Op.equal,Op.equalIn,Op.maxDepth,run_underlying underlying20]
  refine wpSIn_cond (t:=false) (by simp [Act.eval,Array.replicate]) ?_
  simp only [Bool.false_eq_true,if_false]
  refine wpSIn_of_wpIn rfl (wpIn_skip ?_)
  cases c₀
  simp_all [bodyPostS,results,Tryz.results109]
 ·
  intro n p x m w hc hf
  refine callsDIn_of_wpSIn func109 rfl trivial fun c₀ cs hu => ?_
  apply wpSIn_seq
  apply wpSIn_region
  simp [wpOpsSIn,go_sem,recoverD,hu,Tryz.ntmps109,Exit.thenS]
  apply wpSIn_seq
  apply wpSIn_region
  simp [wpOpsSIn,go_sem,Exit.thenS,eqGuard,Op.equal,Op.equalIn,Op.maxDepth,run_underlying underlying20]
  refine wpSIn_cond (t:=true) (by simp [Act.eval,Array.replicate]) ?_
  simp only [if_true]
  apply wpSIn_seq
  apply wpSIn_region
  simp [wpOpsSIn,go_sem,Exit.thenS,Instr.typeAssert,run_underlying underlying20,run_underlying underlying30]
  apply wpSIn_seq
  apply wpSIn_seq
  apply wpSIn_region
  simp [wpOpsSIn,go_sem,Exit.thenS]
  refine wpSIn_cond (t:=false) (by simp [Act.eval,Array.replicate]) ?_
  simp only [Bool.false_eq_true,if_false]
  refine wpSIn_of_wpIn rfl (wpIn_skip ?_)
  show Code.wpSIn _ _ _ _ _ _ _ _
  apply wpSIn_region
  simp [wpOpsSIn,go_sem,hc,hf,bodyPostS,results,Tryz.results109]
theorem ratioCaught:CaughtRaw prog 51 30:=by
 constructor
 ·
  intro n p w
  refine callsDIn_of_wpSIn func51 rfl trivial fun c₀ cs hu => ?_
  apply wpSIn_seq
  apply wpSIn_region
  simp [wpOpsSIn,go_sem,recoverD,hu,Tryz.ntmps51,Exit.thenS]
  refine wpSIn_of_wpIn rfl (wpIn_block (wpIn_seq (wpIn_region_list ?_)))
  simp [wpListIn,Region.wanted,go_sem,Oper.wpIn,Oper.uponIn,Oper.semAt_none,FW,eqGuard,Op.equal,Op.equalIn,Op.maxDepth,Instr.typeAssert,run_underlying underlying20,run_underlying underlying30]
  refine wpIn_cond (t:=true) (by simp [Act.eval,Array.replicate]) ?_
  simp only [if_true]
  refine wpIn_region_list ?_
  cases c₀
  simp [wpListIn,Region.wanted,go_sem,Oper.wpIn,Oper.uponIn,Oper.semAt_none,FW,eqGuard,Op.equal,Op.equalIn,Op.maxDepth,Instr.typeAssert,run_underlying underlying20,run_underlying underlying30,bodyPostS,results,Tryz.results51,Exit.inBlock]
  simp_all
 ·
  intro n p x m w hc hf
  refine callsDIn_of_wpSIn func51 rfl trivial fun c₀ cs hu => ?_
  apply wpSIn_seq
  apply wpSIn_region
  simp [wpOpsSIn,go_sem,recoverD,hu,Tryz.ntmps51,Exit.thenS]
  refine wpSIn_of_wpIn rfl (wpIn_block (wpIn_seq (wpIn_region_list ?_)))
  simp [wpListIn,Region.wanted,go_sem,Oper.wpIn,Oper.uponIn,Oper.semAt_none,FW,eqGuard,Op.equal,Op.equalIn,Op.maxDepth,Instr.typeAssert,run_underlying underlying20,run_underlying underlying30]
  refine wpIn_cond (t:=false) (by simp [Act.eval,Array.replicate]) ?_
  simp only [Bool.false_eq_true,if_false]
  refine wpIn_seq (wpIn_region_list ?_)
  simp [wpListIn,Region.wanted,go_sem,Oper.wpIn,Oper.uponIn,Oper.semAt_none,FW,eqGuard,Op.equal,Op.equalIn,Op.maxDepth,Instr.typeAssert,run_underlying underlying20,run_underlying underlying30]
  refine wpIn_cond (t:=true) (by simp [Act.eval,Array.replicate]) ?_
  simp only [if_true]
  refine wpIn_seq (wpIn_region_list ?_)
  simp [wpListIn,Region.wanted,go_sem,Oper.wpIn,Oper.uponIn,Oper.semAt_none,FW,eqGuard,Op.equal,Op.equalIn,Op.maxDepth,Instr.typeAssert,run_underlying underlying20,run_underlying underlying30]
  refine wpIn_region_list ?_
  simp [wpListIn,Region.wanted,go_sem,Oper.wpIn,Oper.uponIn,Oper.semAt_none,FW,eqGuard,Op.equal,Op.equalIn,Op.maxDepth,Instr.typeAssert,run_underlying underlying20,run_underlying underlying30,hc,hf,bodyPostS,results,Tryz.results51,Exit.inBlock]
end Go.Am
namespace Go.Am
def decL (n:Nat):List Int:=if h:n=0 then [] else decL (n / 10)++[48+((n % 10:Nat):Int)]
termination_by n
decreasing_by exact Nat.div_lt_self (by omega) (by decide)
theorem decL_zero:decL 0=[]:=by rw [decL,dif_pos rfl]
theorem decL_pos {n:Nat} (h:n≠0):decL n=decL (n / 10)++[48+((n % 10:Nat):Int)]:=by rw [decL,dif_neg h]
theorem decL_ne {n:Nat} (h:n≠0):decL n≠[]:=by rw [decL_pos h]; simp
def padL:Nat→Nat→List Int
 | 0,_=>[]
 | k+1,n=>padL k (n / 10)++[48+((n % 10:Nat):Int)]
def decBk:Nat→Nat→List Int
 | 0,_=>[]
 | k+1,n=>(48+((n % 10:Nat):Int))::decBk k (n / 10)
theorem decBk_rev:∀ (k n:Nat),(decBk k n).reverse=padL k n
 | 0,_=>rfl
 | k+1,n=>by rw [decBk,padL,List.reverse_cons,decBk_rev k]
theorem decBk_len:∀ (k n:Nat),(decBk k n).length=k
 | 0,_=>rfl
 | k+1,n=>by rw [decBk,List.length_cons,decBk_len k]
theorem decBk_add:∀ (i k n:Nat),decBk (i+k) n=decBk i n++decBk k (n / 10 ^ i)
 | 0,k,n=>by simp [decBk]
 | i+1,k,n=>by
  rw [show i+1+k=(i+k)+1 by omega,decBk,decBk,decBk_add i k,List.cons_append,Nat.div_div_eq_div_mul,Nat.pow_succ,Nat.mul_comm 10]
theorem decBk_mod:∀ (k n:Nat),decBk k (n % 10 ^ k)=decBk k n
 | 0,_=>rfl
 | k+1,n=>by
  rw [decBk,decBk]
  have e1:n % 10 ^ (k+1) % 10=n % 10:=Nat.mod_mod_of_dvd n ⟨10 ^ k,by rw [Nat.pow_succ,Nat.mul_comm]⟩
  have e2:n % 10 ^ (k+1) / 10=n / 10 % 10 ^ k:=by
   rw [Nat.pow_succ,Nat.mul_comm,Nat.mod_mul_right_div_self]
  rw [e1,e2,decBk_mod k]
theorem padL_zero:∀ k,padL k 0=List.replicate k 48
 | 0=>rfl
 | k+1=>by rw [padL,Nat.zero_div,padL_zero k,List.replicate_succ']; rfl
theorem drop_rep:∀ (k:Nat) (l:List Int),(List.replicate k (48:Int)++l).dropWhile (fun c=>decide (c=48))=l.dropWhile (fun c=>decide (c=48))
 | 0,l=>by simp
 | k+1,l=>by rw [List.replicate_succ,List.cons_append,List.dropWhile_cons_of_pos (by simp),drop_rep k l]
theorem drop_app:∀ (l m:List Int),l.dropWhile (fun c=>decide (c=48))≠[]→(l++m).dropWhile (fun c=>decide (c=48))=l.dropWhile (fun c=>decide (c=48))++m
 | [],m,h=>by simp at h
 | a::l,m,h=>by
  by_cases ha:a=48
  ·
   rw [List.dropWhile_cons_of_pos (by simp [ha])] at h ⊢
   rw [List.cons_append,List.dropWhile_cons_of_pos (by simp [ha]),drop_app l m h]
  ·
   rw [List.dropWhile_cons_of_neg (by simp [ha]),List.cons_append,List.dropWhile_cons_of_neg (by simp [ha])]
theorem pad_dec:∀ (k n:Nat),n<10 ^ k→(padL k n).dropWhile (fun c=>decide (c=48))=decL n
 | 0,n,h=>by
  obtain rfl:n=0:=by simpa using h
  rw [decL_zero]; rfl
 | k+1,n,h=>by
  have h':n / 10<10 ^ k:=by rw [Nat.pow_succ] at h; exact Nat.div_lt_of_lt_mul (by rw [Nat.mul_comm]; exact h)
  have ih:=pad_dec k (n / 10) h'
  rw [padL]
  by_cases hq:n / 10=0
  ·
   rw [hq,padL_zero,drop_rep]
   by_cases hn:n=0
   ·
    subst hn; rw [decL_zero]; rfl
   ·
    rw [decL_pos hn,hq,decL_zero,List.nil_append,List.dropWhile_cons_of_neg]
    have:n % 10≠0:=by omega
    simp; omega
  ·
   rw [drop_app _ _ (by rw [ih]; exact decL_ne hq),ih,decL_pos (n:=n) (by omega)]
theorem decL_rng (n:Nat):∀ c∈decL n,48≤c∧c≤57:=by
 induction n using Nat.strongRecOn with
 | _ n ih =>
  intro c hc
  by_cases hn:n=0
  ·
   subst hn; rw [decL_zero] at hc; cases hc
  ·
   rw [decL_pos hn] at hc
   rcases List.mem_append.1 hc with h | h
   ·
    exact ih _ (Nat.div_lt_self (by omega) (by decide)) c h
   ·
    rw [List.mem_singleton] at h
    omega
theorem decL_len:∀ (k n:Nat),n<10 ^ k→(decL n).length≤k
 | 0,n,h=>by
  obtain rfl:n=0:=by simpa using h
  rw [decL_zero]; simp
 | k+1,n,h=>by
  by_cases hn:n=0
  ·
   subst hn; rw [decL_zero]; simp
  ·
   have h':n / 10<10 ^ k:=by rw [Nat.pow_succ] at h; exact Nat.div_lt_of_lt_mul (by rw [Nat.mul_comm]; exact h)
   rw [decL_pos hn,List.length_append,List.length_singleton]
   exact Nat.succ_le_succ (decL_len k _ h')
end Go.Am
namespace Go.Am
open Go.RowKit
section
variable {P:Program} {w:World} {M0:Nat→Prop} {bs:Bs} {α:Type} [Inhabited α]
theorem heap_putRow {enc:α→Value} {b:Nat} {d:Array α} {m:Nat} {os:Array Obj} {cur:Array Value} {e:TypeId} {fr:Nat×Nat} (hb:w.heap[b]?=some (.cells cur e fr)) :
  (Sort.grow (Sort.putRow enc (Sort.ahead w m) b 0 d) os).heap[b]?=some (.cells (Sort.putCells enc 0 d cur) e fr):=by
 have hlt:=(Array.getElem?_eq_some_iff.1 hb).1
 simp only [Sort.grow,Sort.putRow,Sort.mapBlock,Sort.ahead]
 rw [Array.getElem?_append_left (by simpa using hlt),Array.getElem?_modify]
 simp only [if_true,hb,Option.map_some,Sort.onCells]
theorem heap_putRow_other {enc:α→Value} {b c:Nat} {d:Array α} {m:Nat} {os:Array Obj} (hne:c≠b) (hc:c<w.heap.size) :
  (Sort.grow (Sort.putRow enc (Sort.ahead w m) b 0 d) os).heap[c]?=w.heap[c]?:=by
 simp only [Sort.grow,Sort.putRow,Sort.mapBlock,Sort.ahead]
 rw [Array.getElem?_append_left (by simpa using hc),Array.getElem?_modify,if_neg (fun e=>hne e.symm)]
theorem row_anew {enc:α→Value} {b cap:Nat} {d:Array α} {m:Nat} {os:Array Obj} {al:Bool} {cs cs':List SV} (hr:HR w M0 bs [.arr al cs]) (hb:bs.at 0=some b) (ho:OwnAt w b cap 1) (hlen:cs'.length=cs.length) (hd:d.size=cs.length) (hcap:cs.length≤cap)
  (hrel:∀ (j:Nat) (x:SV),cs'[j]?=some x→(enc d[j]!).oneCell'=true∧relSV w (Mof M0 bs) bs [.arr al cs] x (enc d[j]!)) :
  HR (Sort.grow (Sort.putRow enc (Sort.ahead w m) b 0 d) os) M0 bs [.arr al cs'] ∧
   Step false w (Mof M0 bs) bs [.arr al cs] (Sort.grow (Sort.putRow enc (Sort.ahead w m) b 0 d) os) (Mof M0 bs) bs [.arr al cs']:=by
 obtain ⟨cur,e,h1,h2,h3⟩:=ho
 have hnew:=heap_putRow (enc:=enc) (d:=d) (m:=m) (os:=os) h1
 have hoth:=fun c hne hc=>heap_putRow_other (w:=w) (enc:=enc) (b:=b) (c:=c) (d:=d) (m:=m) (os:=os) hne hc
 have hcs:(Sort.putCells enc 0 d cur).size=cur.size:=by simp [Sort.putCells]
 have hev:Evo (Mof M0 bs) (Mof M0 bs) w (Sort.grow (Sort.putRow enc (Sort.ahead w m) b 0 d) os) :=
  ⟨rfl,rfl,rfl,by simp [Sort.grow,Sort.putRow,Sort.mapBlock,Sort.ahead],by simp [Sort.grow,Sort.putRow,Sort.mapBlock,Sort.ahead],fun c hc hn=>hoth c (fun e=>hn (e▸.inr ⟨0,hb⟩)) hc,fun _ _ h=>h⟩
 refine hr.rewrite (id:=0) hb hev hoth hnew (.arr al cs') ⟨_,e,rfl,fun j x hj => ?_⟩ ?_
 ·
  have hjl:=(List.getElem?_eq_some_iff.1 hj).1
  obtain ⟨k1,k2⟩:=hrel j x hj
  refine ⟨enc d[j]!,?_,k1,k2⟩
  have hjc:j<cur.size:=by omega
  simp [Sort.putCells,hjc]
  intro hge
  omega
 ·
  refine .inr ⟨hlen.symm,fun cap' size ⟨cur',e',g1,g2,g3⟩ => ?_⟩
  rw [h1] at g1
  injection g1 with g1; injection g1 with g1 g1'
  subst g1; subst g1'
  exact ⟨_,e,hnew,by rw [hcs]; exact g2,g3⟩
theorem own_cases {t:Ty} {al:Bool} {n:Nat} {cs:List SV} {v:Value} (hr:HR w M0 bs [.arr al cs]) (hlen:cs.length=n*t.size) (h:relSV w (Mof M0 bs) bs [.arr al cs] (.own t 0 n) v) :
  (∃ b cap cur e,bs.at 0=some b∧v=.slice (some ⟨b,0,none⟩) n cap∧n≤cap∧OwnAt w b cap t.size∧w.heap[b]?=some (.cells cur e (0,0))∧cur.size=cap*t.size∧cap≤maxLen∧b<w.heap.size ∧
   ∀ (j:Nat) (x:SV),cs[j]?=some x→∃ u,cur[j]?=some u∧u.oneCell'=true∧relSV w (Mof M0 bs) bs [.arr al cs] x u) ∨
  (al=false∧∃ a:Option Addr,v=.slice a n n∧n≤maxLen):=by
 obtain ⟨_,h⟩:=h
 rcases (h al cs rfl).2 hlen with ⟨b,cap,h1,h2,h3,h4⟩ | ⟨h1,xs,a,h2,h3,h4,h5,h6⟩
 ·
  left
  obtain ⟨cur,e,g1,g2⟩:=hr.arr 0 al cs b rfl h1
  obtain ⟨cur',e',g3,g4,g5⟩:=h4
  rw [g1] at g3
  injection g3 with g3; injection g3 with g3 g3'
  subst g3; subst g3'
  exact ⟨b,cap,cur,e,h1,h2,h3,⟨cur,e,g1,g4,g5⟩,g1,g4,g5,hr.lt 0 b h1,g2⟩
 ·
  right
  refine ⟨?_,a,h5,h3⟩
  cases al with
  | false=>rfl
  | true =>
   obtain ⟨b,hb⟩:=hr.al 0 cs rfl
   rw [h1] at hb; cases hb
def isort (xs:List Int):List Int:=xs.mergeSort fun x y=>decide (x≤y)
theorem isort_length (xs:List Int):(isort xs).length=xs.length:=by simp [isort]
def conSort:ECon:={ wp:=fun args hp K=>match args,hp with
 | [.s (.own (.int .i64) 0 n)],[.arr al cs]=>∃ xs:List Int,cs=(Ty.int .i64).flats xs∧xs.length=n∧xs.length<4611686018427387904∧(al=true∨xs=[])∧K (.tup []) [.arr al ((Ty.int .i64).flats (isort xs))]
 | _,_=>False }
theorem sort_eff {ρ:Shelf.Ren} (L:Proofs.SlLaysM.n5 P ρ):EffOk P (ρ.f 5) conSort:=by
 intro w M0 bs hp args vs K hpre hr hpure hargs
 simp only [conSort] at hpre
 split at hpre
 ·
  rename_i n al cs
  obtain ⟨xs,rfl,rfl,hsz,hal,hK⟩:=hpre
  obtain ⟨v,rfl,hv⟩:∃ v,vs=[v]∧relAV w (Mof M0 bs) bs [.arr al ((Ty.int .i64).flats xs)] (.s (.own tI 0 xs.length)) v:=by
   cases hargs with
   | cons h1 h2=>cases h2; exact ⟨_,rfl,h1⟩
  rcases own_cases hr (by rw [flats_length]) hv with ⟨b,cap,cur,e,h1,rfl,h3,h4,h5,h6,h7,h8,h9⟩ | ⟨hfal,a,rfl,hn⟩
  ·
   have hH:Sort.Holds (Value.int .i64) w b 0 xs.toArray:=by
    intro j hj
    have hj':j<xs.length:=by simpa using hj
    obtain ⟨u,k1,k2,k3⟩:=h9 j (.int .i64 xs[j]) (by rw [flats_int_get]; simp [hj'])
    obtain rfl:u=_:=k3
    refine ⟨?_,?_⟩
    ·
     simp only [Nat.zero_add,World.cell?,h5,Option.isSome_none,Bool.false_eq_true,if_false,k1]
     simp [hj']
    ·
     simp [World.frozen?,h5]
   refine (Proofs.AnyM.slices_Sort_int L b 0 cap xs w hH h8 hsz).mono ?_
   rintro o w' ⟨rfl,m,os,rfl⟩
   obtain ⟨k1,k2⟩:=row_anew (enc:=Value.int .i64) (d:=(isort xs).toArray) (m:=m) (os:=os) (cs':=(Ty.int .i64).flats (isort xs)) hr h1 h4 (by rw [flats_length,flats_length,isort_length]) (by rw [flats_length]; simp [isort_length]) (by rw [flats_length]; simpa using h3) (fun j x hj=>by
    rw [flats_int_get] at hj
    cases hi:(isort xs)[j]? with
    | none=>rw [hi] at hj; cases hj
    | some y =>
     rw [hi] at hj
     simp at hj; subst hj
     have hlt:=(List.getElem?_eq_some_iff.1 hi).1
     have hy:(isort xs).toArray[j]! = y:=by
      rw [getElem!_pos _ _ (by simpa using hlt)]
      simp only [List.getElem_toArray]
      rw [List.getElem?_eq_getElem hlt] at hi
      injection hi
     rw [hy]
     exact ⟨rfl,rfl⟩)
   exact ⟨_,.tup [],[.arr al ((Ty.int .i64).flats (isort xs))],bs,rfl,hK,⟨[],rfl,.nil⟩,by simp [Blk.pureB,flats_pure],k1,k2⟩
  ·
   have hx:xs=[]:=by
    rcases hal with hal | hal
    ·
     rw [hfal] at hal; cases hal
    ·
     exact hal
   subst hx
   refine (Proofs.AnyM.slices_Sort_int_none L a 0 w).mono ?_
   rintro o w' ⟨rfl,rfl⟩
   have h0:isort []=[]:=by simp [isort]
   rw [h0] at hK
   exact ⟨_,.tup [],_,bs,rfl,hK,⟨[],rfl,.nil⟩,hpure,hr,Step.refl _ _ _ _⟩
 ·
  exact hpre.elim
end
end Go.Am
namespace Go.Am
open Go.RowKit
section
variable {P:Program} {w:World} {M0:Nat→Prop} {bs:Bs}
theorem isort_perm (xs:List Int):(isort xs).Perm xs:=List.mergeSort_perm ..
theorem isort_sorted (xs:List Int):(isort xs).Pairwise (fun x y=>x≤y):=by
 have:=List.pairwise_mergeSort (le:=fun x y:Int=>decide (x≤y)) (by intro a b c; simp; omega) (by intro a b; simp; omega) xs
 exact this.imp (by simp)
end
end Go.Am
namespace Go.Proofs
set_option maxRecDepth 20000
def Tryz.laySort_ren:Go.Shelf.Ren:=⟨fun | 5=>70 | 8=>115 | 7=>114 | 19=>166 | 20=>167 | 10=>157 | 11=>158 | 12=>159 | 13=>160 | 14=>161 | 15=>162 | 16=>163 | 17=>164 | 18=>165 | 30=>190 | 31=>191 | 32=>192 | 33=>193 | 34=>194 | 35=>124 | 40=>208 | n=>n,fun | 23=>23 | 25=>3 | 3=>3 | 32=>156 | 22=>23 | 0=>0 | 44=>138 | 46=>136 | 4=>4 | 36=>196 | 35=>195 | 41=>131 | 5=>5 | 9=>9 | 53=>219 | 57=>223 | 63=>232 | 64=>233 | n=>n,fun | n=>n⟩
theorem Tryz.laySort:Go.Proofs.SlLaysM.n5 Tryz.prog Tryz.laySort_ren:={
 mixed:=by kernel_rfl,
 f5:=⟨Tryz.f70.name,by decide,Tryz.func70.trans (congrArg some (by kernel_rfl))⟩,
 f7:=⟨Tryz.f114.name,by decide,Tryz.func114.trans (congrArg some (by kernel_rfl))⟩,
 f8:=Tryz.func115.trans (congrArg some (by kernel_rfl)),
 f10:=⟨Tryz.f157.name,by decide,Tryz.func157.trans (congrArg some (by kernel_rfl))⟩,
 f11:=⟨Tryz.f158.name,by decide,Tryz.func158.trans (congrArg some (by kernel_rfl))⟩,
 f12:=⟨Tryz.f159.name,by decide,Tryz.func159.trans (congrArg some (by kernel_rfl))⟩,
 f13:=⟨Tryz.f160.name,by decide,Tryz.func160.trans (congrArg some (by kernel_rfl))⟩,
 f14:=⟨Tryz.f161.name,by decide,Tryz.func161.trans (congrArg some (by kernel_rfl))⟩,
 f15:=⟨Tryz.f162.name,by decide,Tryz.func162.trans (congrArg some (by kernel_rfl))⟩,
 f16:=⟨Tryz.f163.name,by decide,Tryz.func163.trans (congrArg some (by kernel_rfl))⟩,
 f17:=⟨Tryz.f164.name,by decide,Tryz.func164.trans (congrArg some (by kernel_rfl))⟩,
 f18:=⟨Tryz.f165.name,by decide,Tryz.func165.trans (congrArg some (by kernel_rfl))⟩,
 f19:=Tryz.func166.trans (congrArg some (by kernel_rfl)),
 f20:=Tryz.func167.trans (congrArg some (by kernel_rfl)),
 f30:=⟨Tryz.f190.name,by decide,Tryz.func190.trans (congrArg some (by kernel_rfl))⟩,
 f31:=Tryz.func191.trans (congrArg some (by kernel_rfl)),
 f32:=Tryz.func192.trans (congrArg some (by kernel_rfl)),
 f33:=⟨Tryz.f193.name,by decide,Tryz.func193.trans (congrArg some (by kernel_rfl))⟩,
 f34:=⟨Tryz.f194.name,by decide,Tryz.func194.trans (congrArg some (by kernel_rfl))⟩,
 f35:=⟨Tryz.f124.name,by decide,Tryz.func124.trans (congrArg some (by kernel_rfl))⟩,
 f40:=⟨Tryz.f208.name,by decide,Tryz.func208.trans (congrArg some (by kernel_rfl))⟩,
 t0:=Tryz.underlying0,
 a0:=Tryz.isAgg0,
 z0:=Tryz.sizeOf0,
 v0:=Tryz.zeroValue0,
 t3:=Tryz.underlying3,
 a3:=Tryz.isAgg3,
 z3:=Tryz.sizeOf3,
 v3:=Tryz.zeroValue3,
 t4:=Tryz.underlying4,
 a4:=Tryz.isAgg4,
 z4:=Tryz.sizeOf4,
 v4:=Tryz.zeroValue4,
 t5:=Tryz.underlying5,
 a5:=Tryz.isAgg5,
 z5:=Tryz.sizeOf5,
 v5:=Tryz.zeroValue5,
 t9:=Tryz.underlying9,
 a9:=Tryz.isAgg9,
 z9:=Tryz.sizeOf9,
 v9:=Tryz.zeroValue9,
 t22:=Tryz.underlying23,
 a22:=Tryz.isAgg23,
 z22:=Tryz.sizeOf23,
 v22:=Tryz.zeroValue23,
 t23:=Tryz.underlying23,
 a23:=Tryz.isAgg23,
 z23:=Tryz.sizeOf23,
 v23:=Tryz.zeroValue23,
 t25:=Tryz.underlying3,
 a25:=Tryz.isAgg3,
 z25:=Tryz.sizeOf3,
 v25:=Tryz.zeroValue3,
 t32:=Tryz.underlying156,
 a32:=Tryz.isAgg156,
 z32:=Tryz.sizeOf156,
 v32:=Tryz.zeroValue156,
 t35:=Tryz.underlying195,
 a35:=Tryz.isAgg195,
 z35:=Tryz.sizeOf195,
 v35:=Tryz.zeroValue195,
 t36:=Tryz.underlying196,
 a36:=Tryz.isAgg196,
 z36:=Tryz.sizeOf196,
 v36:=Tryz.zeroValue196,
 t41:=Tryz.underlying131,
 a41:=Tryz.isAgg131,
 z41:=Tryz.sizeOf131,
 v41:=Tryz.zeroValue131,
 t44:=Tryz.underlying138,
 a44:=Tryz.isAgg138,
 z44:=Tryz.sizeOf138,
 v44:=Tryz.zeroValue138,
 t46:=Tryz.underlying136,
 a46:=Tryz.isAgg136,
 z46:=Tryz.sizeOf136,
 v46:=Tryz.zeroValue136,
 t53:=Tryz.underlying219,
 a53:=Tryz.isAgg219,
 z53:=Tryz.sizeOf219,
 v53:=Tryz.zeroValue219,
 t57:=Tryz.underlying223,
 a57:=Tryz.isAgg223,
 z57:=Tryz.sizeOf223,
 v57:=Tryz.zeroValue223,
 t63:=Tryz.underlying232,
 a63:=Tryz.isAgg232,
 z63:=Tryz.sizeOf232,
 v63:=Tryz.zeroValue232,
 t64:=Tryz.underlying233,
 a64:=Tryz.isAgg233,
 z64:=Tryz.sizeOf233,
 v64:=Tryz.zeroValue233 }
end Go.Proofs
namespace Go.Am
open Go.RowKit
def repsL {k:IntKind}:(n:Nat)→(Ty.reps n (.int k)).T→List Int
 | 0,_=>[]
 | n+1,x=>x.1::repsL n x.2
theorem repsL_len {k:IntKind}:∀ (n:Nat) (x:(Ty.reps n (.int k)).T),(repsL n x).length=n
 | 0,_=>rfl
 | n+1,x=>by rw [repsL,List.length_cons,repsL_len n x.2]
theorem repsL_V {k:IntKind}:∀ (n:Nat) (xs:List Int),xs.length=n→repsL (k:=k) n (Ty.repsV n (.int k) xs)=xs
 | 0,[],_=>rfl
 | n+1,x::xs,h=>by
  show x::repsL n (Ty.repsV n (.int k) xs)=_
  rw [repsL_V n xs (by simpa using h)]
theorem rep_repsL {w:World} {M:Nat→Prop} {k:IntKind}:∀ (n:Nat) (x:(Ty.reps n (.int k)).T) (cs:List Value),rep w M (.reps n (.int k)) x cs→cs=(repsL n x).map (.int k)
 | 0,_,_,h=>h
 | n+1,x,cs,h=>by
  obtain ⟨c1,c2,rfl,h1,h2⟩:=h
  rw [rep_repsL n x.2 c2 h2]
  simp only [rep] at h1
  rw [h1]; rfl
theorem beq_repsL {k:IntKind}:∀ (n:Nat) (x y:(Ty.reps n (.int k)).T),(Ty.reps n (.int k)).beq x y=decide (repsL n x=repsL n y)
 | 0,_,_=>rfl
 | n+1,x,y=>by
  show (x.1==y.1&&(Ty.reps n (.int k)).beq x.2 y.2)=decide (x.1::repsL n x.2=y.1::repsL n y.2)
  rw [beq_repsL n x.2 y.2,Bool.eq_iff_iff]
  simp
theorem eqItems_int {P:Program} {w:World} {e:TypeId} {k:IntKind} (d:Nat) (he:P.underlying e=some (.int k)) (A B:List Int):∀ is:List Nat,(∀ i∈is,i<A.length∧i<B.length) →
  (Op.eqItems (d+1) e 1 (A.map (Value.int k)).toArray (B.map (Value.int k)).toArray is).run P w=.ok (is.all fun i=>A[i]?.getD 0==B[i]?.getD 0) w
 | [],_=>by simp [Op.eqItems]
 | i::is,h=>by
  obtain ⟨h1,h2⟩:=h i List.mem_cons_self
  have ih:=eqItems_int (w:=w) d he A B is fun j hj=>h j (List.mem_cons_of_mem _ hj)
  have hp:P.plainKey e=true:=by unfold Program.plainKey; rw [he]
  have p1:(part e (A.map (Value.int k)).toArray (i*1)).run P w=.ok (.int k (A[i]?.getD 0)) w:=run_part_plain w hp (by simp [h1])
  have p2:(part e (B.map (Value.int k)).toArray (i*1)).run P w=.ok (.int k (B[i]?.getD 0)) w:=run_part_plain w hp (by simp [h2])
  simp only [Op.eqItems,Sem.run_bind,p1,p2,Result.andThen_ok,run_equalIn_int w d e k k _ _ he,List.all_cons]
  cases hq:(A[i]?.getD 0==B[i]?.getD 0)
  ·
   simp
  ·
   simpa using ih
theorem all_range {A B:List Int} {n:Nat} (ha:A.length=n) (hb:B.length=n):((List.range n).all fun i=>A[i]?.getD 0==B[i]?.getD 0)=decide (A=B):=by
 rw [Bool.eq_iff_iff,List.all_eq_true,decide_eq_true_iff]
 constructor
 ·
  intro h
  refine List.ext_getElem (by omega) fun i h1 h2 => ?_
  have:=h i (List.mem_range.2 (by omega))
  rw [List.getElem?_eq_getElem h1,List.getElem?_eq_getElem h2] at this
  simpa using this
 ·
  rintro rfl i _
  simp
theorem eq_ints {P:Program} {t e:TypeId} {n:Nat} {i:TypeInfo} {k:IntKind} (hu:P.underlying t=some (.array n e)) (he:P.underlying e=some (.int k)) (hi:P.info? e=some i) (hc:P.cellsOf e=1) (hm:P.eqGuardType P.depth t=false):EqOk P t (.reps n (.int k)):=by
 intro w M x y cs ds hx hy ox oy
 rw [rep_repsL n x cs hx,rep_repsL n y ds hy]
 refine ⟨run_eqGuard_agg _ _ _ _ _ _ _ hm,run_eqGuard_agg _ _ _ _ _ _ _ hm,?_⟩
 show (Op.equalIn (9999+1) t _ _).run P w=_
 rw [run_equalIn_array w 9999 _ _ hu hi,hc,eqItems_int 9998 he _ _ _ (fun i hi=>by rw [repsL_len,repsL_len]; exact ⟨List.mem_range.1 hi,List.mem_range.1 hi⟩),all_range (repsL_len n x) (repsL_len n y),beq_repsL]
theorem parse_reps {k:IntKind}:∀ (n:Nat) (xs:List Int) (r:List SV),xs.length=n→(Ty.reps n (.int k)).parse ((Ty.int k).flats xs++r)=some (Ty.repsV n (.int k) xs,r)
 | 0,[],r,_=>rfl
 | n+1,x::xs,r,h=>by
  have ih:=parse_reps (k:=k) n xs r (by simpa using h)
  have h1:(Ty.int k).parse (.int k x::((Ty.int k).flats xs++r))=some (x,(Ty.int k).flats xs++r):=if_pos rfl
  show (Ty.cons (.int k) (Ty.reps n (.int k))).parse (.int k x::((Ty.int k).flats xs++r))=_
  rw [Ty.parse,h1]
  simp only [ih]
  rfl
theorem of_reps {k:IntKind} {n:Nat} {xs:List Int} (h:xs.length=n) (h0:0<n):(Ty.reps n (.int k)).of (.agg ((Ty.int k).flats xs))=some (Ty.repsV n (.int k) xs):=by
 have:=parse_reps (k:=k) n xs [] h
 rw [List.append_nil] at this
 obtain ⟨m,rfl⟩:∃ m,n=m+1:=⟨n - 1,by omega⟩
 have hn:¬ (Ty.reps (m+1) (.int k)).nfld=0:=by simp [Ty.nfld]
 unfold Ty.of
 simp only [hn,if_false,this]
theorem beq_V {k:IntKind} {n:Nat} {xs ys:List Int} (hx:xs.length=n) (hy:ys.length=n):(Ty.reps n (.int k)).beq (Ty.repsV n (.int k) xs) (Ty.repsV n (.int k) ys)=decide (xs=ys):=by
 rw [beq_repsL,repsL_V n xs hx,repsL_V n ys hy]
mutual
def TyOf (P:Program):Ty→TypeId→Prop
 | .int k,T=>P.underlying T=some (.int k)
 | .bool,T=>P.underlying T=some .bool
 | .str,T=>P.underlying T=some .string
 | .slice t,T=>∃ e,P.underlying T=some (.slice e)∧0<t.size∧P.cellsOf e=t.size∧TyOf P t e
 | .nil,_=>False
 | .fn,_=>False
 | .tree _,_=>False
 | .cons t r,T=>∃ (fs:Array Field) (f:Field) (l:List Field),P.underlying T=some (.struct fs)∧fs.toList=f::l∧f.offset=0∧P.cellsOf f.type=t.size∧TyOf P t f.type∧FieldsOf P r l t.size∧P.cellsOf T=t.size+r.size
def FieldsOf (P:Program):Ty→List Field→Nat→Prop
 | .nil,l,_=>l=[]
 | .cons t r,l,off=>∃ (f:Field) (l':List Field),l=f::l'∧f.offset=off∧P.cellsOf f.type=t.size∧TyOf P t f.type∧FieldsOf P r l' (off+t.size)
 | _,_,_=>False
end
mutual
def tyOfB (P:Program):Ty→TypeId→Bool
 | .int k,T=>match P.underlying T with | some (.int k')=>decide (k'=k) | _=>false
 | .bool,T=>match P.underlying T with | some .bool=>true | _=>false
 | .str,T=>match P.underlying T with | some .string=>true | _=>false
 | .slice t,T=>match P.underlying T with | some (.slice e)=>decide (0<t.size)&&decide (P.cellsOf e=t.size)&&tyOfB P t e | _=>false
 | .nil,_=>false
 | .fn,_=>false
 | .tree _,_=>false
 | .cons t r,T=>match P.underlying T with
  | some (.struct fs)=>match fs.toList with
   | f::l=>decide (f.offset=0)&&decide (P.cellsOf f.type=t.size)&&tyOfB P t f.type&&fieldsOfB P r l t.size&&decide (P.cellsOf T=t.size+r.size)
   | []=>false
  | _=>false
def fieldsOfB (P:Program):Ty→List Field→Nat→Bool
 | .nil,l,_=>match l with | []=>true | _::_=>false
 | .cons t r,l,off=>match l with
  | f::l'=>decide (f.offset=off)&&decide (P.cellsOf f.type=t.size)&&tyOfB P t f.type&&fieldsOfB P r l' (off+t.size)
  | []=>false
 | .int _,_,_=>false
 | .bool,_,_=>false
 | .str,_,_=>false
 | .slice _,_,_=>false
 | .fn,_,_=>false
 | .tree _,_,_=>false
end
mutual
theorem tyOf_of_B {P:Program}:∀ (ty:Ty) (T:TypeId),tyOfB P ty T=true→TyOf P ty T
 | .int k,T,h=>by
  simp only [tyOfB] at h
  split at h
  ·
   rename_i k' hk
   simp only [TyOf,hk]
   rw [of_decide_eq_true h]
  ·
   cases h
 | .bool,T,h=>by
  simp only [tyOfB] at h
  split at h
  ·
   rename_i hk; simpa only [TyOf] using hk
  ·
   cases h
 | .str,T,h=>by
  simp only [tyOfB] at h
  split at h
  ·
   rename_i hk; simpa only [TyOf] using hk
  ·
   cases h
 | .slice t,T,h=>by
  simp only [tyOfB] at h
  split at h
  ·
   rename_i e hk
   simp only [Bool.and_eq_true,decide_eq_true_eq] at h
   simp only [TyOf]
   exact ⟨e,hk,h.1.1,h.1.2,tyOf_of_B t e h.2⟩
  ·
   cases h
 | .nil,T,h=>by simp [tyOfB] at h
 | .fn,T,h=>by simp [tyOfB] at h
 | .tree _,T,h=>by simp [tyOfB] at h
 | .cons t r,T,h=>by
  simp only [tyOfB] at h
  split at h
  ·
   rename_i fs hk
   split at h
   ·
    rename_i f l hl
    simp only [Bool.and_eq_true,decide_eq_true_eq] at h
    simp only [TyOf]
    exact ⟨fs,f,l,hk,hl,h.1.1.1.1,h.1.1.1.2,tyOf_of_B t _ h.1.1.2,fieldsOf_of_B r l _ h.1.2,h.2⟩
   ·
    cases h
  ·
   cases h
theorem fieldsOf_of_B {P:Program}:∀ (ty:Ty) (l:List Field) (off:Nat),fieldsOfB P ty l off=true→FieldsOf P ty l off
 | .nil,l,off,h=>by
  cases l with
  | nil=>simp only [FieldsOf]
  | cons f l=>simp [fieldsOfB] at h
 | .cons t r,l,off,h=>by
  cases l with
  | nil=>simp [fieldsOfB] at h
  | cons f l =>
   simp only [fieldsOfB,Bool.and_eq_true,decide_eq_true_eq] at h
   simp only [FieldsOf]
   exact ⟨f,l,rfl,h.1.1.1,h.1.1.2,tyOf_of_B t _ h.1.2,fieldsOf_of_B r l _ h.2⟩
 | .int _,l,off,h=>by simp [fieldsOfB] at h
 | .bool,l,off,h=>by simp [fieldsOfB] at h
 | .str,l,off,h=>by simp [fieldsOfB] at h
 | .slice _,l,off,h=>by simp [fieldsOfB] at h
 | .fn,l,off,h=>by simp [fieldsOfB] at h
 | .tree _,l,off,h=>by simp [fieldsOfB] at h
end
section
variable {H:Type} {enc:TypeId×Value→H} {P:Program} {w:World} {base:Nat} {spare:Nat→Bool} {held:Bool}
theorem choose_list {α:Type} (n:Nat) (p:Nat→α→Prop) (h:∀ i,i<n→∃ x,p i x):∃ xs:List α,xs.length=n∧∀ i x,xs[i]?=some x→p i x:=by
 induction n with
 | zero=>exact ⟨[],rfl,fun i x h=>by simp at h⟩
 | succ n ih =>
  obtain ⟨xs,h1,h2⟩:=ih fun i hi=>h i (by omega)
  obtain ⟨x,hx⟩:=h n (by omega)
  refine ⟨xs++[x],by simp [h1],fun i y hy => ?_⟩
  rw [List.getElem?_append] at hy
  split at hy
  ·
   exact h2 i y hy
  ·
   obtain ⟨h3,h4⟩:=List.getElem?_eq_some_iff.1 hy
   rw [List.length_singleton] at h3
   have h5:i=n:=by omega
   subst h5
   rw [List.getElem_singleton] at h4
   rw [← h4]; exact hx
def Ty.inR:(t:Ty)→t.T→Prop
 | .int k,n=>k.min≤n∧n≤k.max
 | .slice t,xs=>∀ x∈xs,t.inR x
 | .cons t r,x=>t.inR x.1∧r.inR x.2
 | .bool,_=>True
 | .str,s=>s.size≤maxLen
 | .nil,_=>True
 | .fn,_=>True
 | .tree _,_=>True
mutual
theorem trod_rep:∀ (ty:Ty) (T:TypeId) (fuel:Nat) (cs:List Value) (x:DataW H×List MemPlace),TyOf P ty T→DataW.trod enc P w base spare held fuel T cs=some x→∃ v:ty.T,rep w (fun _=>False) ty v cs∧ty.inR v
 | .int k,T,fuel,cs,x,ht,h=>by
  obtain ⟨n,rfl,_,hw⟩:=DataW.trod_int (by simpa only [TyOf] using ht) h
  exact ⟨n,by simp only [rep],by simpa [Lit.wf,Ty.inR] using hw⟩
 | .bool,T,fuel,cs,x,ht,h=>by
  obtain ⟨n,rfl,_⟩:=DataW.trod_bool (by simpa only [TyOf] using ht) h
  exact ⟨n,by simp only [rep],trivial⟩
 | .str,T,fuel,cs,x,ht,h=>by
  obtain ⟨n,rfl,_,hs⟩:=DataW.trod_string (by simpa only [TyOf] using ht) h
  exact ⟨n,by simp only [rep],hs⟩
 | .slice t,T,fuel,cs,x,ht,h=>by
  simp only [TyOf] at ht
  obtain ⟨e,h1,h2,h3,h4⟩:=ht
  rcases DataW.trod_slice h1 h with ⟨rfl,_⟩ | ⟨a,len,cap,elems,rest,n,_,rfl,_,hb,hl,hm,hlen,hel,_,_⟩
  ·
   exact ⟨[],by simp only [rep]; exact ⟨none,0,rfl,Nat.le_refl _,Nat.zero_le _,.inl rfl⟩,fun x hx=>by cases hx⟩
  ·
   have each:∀ i,i<len→∃ v:t.T,∃ cs',cs'.length=t.size∧rep w (fun _=>False) t v cs'∧t.inR v∧∀ j u,cs'[j]?=some u→w.cell? ((a.add (i*t.size)).add j)=some u:=by
    intro i hi
    have hi':=hel i hi
    rw [List.getElem?_eq_getElem (by omega),h3] at hi'
    simp only [Option.bind_eq_some_iff] at hi'
    obtain ⟨cs',q1,q2⟩:=hi'
    obtain ⟨v,hv,hvr⟩:=trod_rep t e n cs' _ h4 q2
    obtain ⟨_,q3,q4⟩:=World.cells?_some q1
    refine ⟨v,cs',q3,hv,hvr,fun j u hj => ?_⟩
    have hjl:=(List.getElem?_eq_some_iff.1 hj).1
    rw [q4 j (by omega)]; exact hj
   obtain ⟨xs,hxl,hxs⟩:=choose_list len _ each
   refine ⟨xs,?_,fun x hx=>by
    obtain ⟨i,hi⟩:=List.getElem?_of_mem hx
    obtain ⟨_,_,_,hr,_⟩:=hxs i x hi
    exact hr⟩
   simp only [rep]
   refine ⟨some a,cap,by rw [hxl],by omega,hm,?_⟩
   rcases Nat.eq_zero_or_pos len with h0 | h0
   ·
    left; exact List.length_eq_zero_iff.1 (by omega)
   ·
    right
    have ⟨cs0,c1,c2,_,c3⟩:=hxs 0 xs[0] (List.getElem?_eq_getElem (by omega))
    have hu:cs0[0]?=some cs0[0]:=List.getElem?_eq_getElem (by omega)
    have hc:=c3 0 _ hu
    have ha0:(a.add (0*t.size)).add 0=a:=by simp [Addr.add]
    rw [ha0] at hc
    have hsp:a.spot=none:=by
     unfold World.cell? at hc
     split at hc
     ·
      split at hc
      ·
       cases hc
      ·
       rename_i hs; simpa using hs
     ·
      cases hc
    have hblk:a.block<w.heap.size:=by
     unfold World.cell? at hc
     split at hc
     ·
      rename_i hh; exact (Array.getElem?_eq_some_iff.1 hh).1
     ·
      cases hc
    obtain ⟨blk,off,sp⟩:=a
    simp only at hsp hblk
    subst hsp
    refine ⟨blk,off,rfl,fun h=>h,hblk,fun i x hx => ?_⟩
    obtain ⟨cs',c1,c2,_,c3⟩:=hxs i x hx
    refine ⟨cs',c1,c2,fun j u hj => ?_⟩
    have:=c3 j u hj
    rw [addr_add,addr_add] at this
    exact this
 | .nil,T,fuel,cs,x,ht,h=>by simp only [TyOf] at ht
 | .fn,T,fuel,cs,x,ht,h=>by simp only [TyOf] at ht
 | .tree _,T,fuel,cs,x,ht,h=>by simp only [TyOf] at ht
 | .cons t r,T,fuel,cs,x,ht,h=>by
  simp only [TyOf] at ht
  obtain ⟨fs,f,l,h1,h2,h3,h4,h5,h6,h7⟩:=ht
  obtain ⟨xs,n,_,_,hcl,hxl,hx⟩:=DataW.trod_struct h1 h
  have hget:∀ (i:Nat) (g:Field),(f::l)[i]?=some g→∃ y,DataW.trod enc P w base spare held n g.type ((cs.drop g.offset).take (P.cellsOf g.type))=some y:=by
   intro i g hg
   rw [← h2,Array.getElem?_toList] at hg
   have hi:=(Array.getElem?_eq_some_iff.1 hg).1
   have:=hx i g hg
   rw [List.getElem?_eq_getElem (by omega)] at this
   exact ⟨_,this⟩
  obtain ⟨y,hy⟩:=hget 0 f rfl
  rw [h3,h4] at hy
  obtain ⟨v,hv,hvr⟩:=trod_rep t f.type n _ _ h5 hy
  obtain ⟨u,hu,hur⟩:=trod_fields r l t.size n cs h6 (fun i g hg=>hget (i+1) g (by simpa using hg))
  refine ⟨(v,u),?_,hvr,hur⟩
  simp only [rep]
  refine ⟨cs.take t.size,cs.drop t.size,(List.take_append_drop _ _).symm,by simpa using hv,?_⟩
  rw [List.take_of_length_le (by rw [List.length_drop,hcl,h7]; omega)] at hu
  exact hu
theorem trod_fields:∀ (ty:Ty) (l:List Field) (off n:Nat) (cs:List Value),FieldsOf P ty l off→(∀ (i:Nat) (g:Field),l[i]?=some g→∃ y,DataW.trod enc P w base spare held n g.type ((cs.drop g.offset).take (P.cellsOf g.type))=some y) →
  ∃ v:ty.T,rep w (fun _=>False) ty v ((cs.drop off).take ty.size)∧ty.inR v
 | .nil,l,off,n,cs,h,_=>⟨(),by simp only [rep]; simp,trivial⟩
 | .cons t r,l,off,n,cs,h,hget=>by
  simp only [FieldsOf] at h
  obtain ⟨f,l',rfl,h1,h2,h3,h4⟩:=h
  obtain ⟨y,hy⟩:=hget 0 f rfl
  rw [h1,h2] at hy
  obtain ⟨v,hv,hvr⟩:=trod_rep t f.type n _ _ h3 hy
  obtain ⟨u,hu,hur⟩:=trod_fields r l' (off+t.size) n cs h4 (fun i g hg=>hget (i+1) g (by simpa using hg))
  refine ⟨(v,u),?_,hvr,hur⟩
  simp only [rep]
  refine ⟨_,_,?_,hv,hu⟩
  rw [List.take_add,List.drop_drop]
 | .int _,l,off,n,cs,h,_=>by simp only [FieldsOf] at h
 | .bool,l,off,n,cs,h,_=>by simp only [FieldsOf] at h
 | .str,l,off,n,cs,h,_=>by simp only [FieldsOf] at h
 | .slice _,l,off,n,cs,h,_=>by simp only [FieldsOf] at h
 | .fn,l,off,n,cs,h,_=>by simp only [FieldsOf] at h
 | .tree _,l,off,n,cs,h,_=>by simp only [FieldsOf] at h
end
end
end Go.Am
namespace Go.Am
open Go.RowKit Go.ChangeShapes Go.WideShapes
def argOf:Sigma Ty.T→AV
 | ⟨.int k,n⟩=>.s (.int k n)
 | ⟨.bool,b⟩=>.s (.bool b)
 | ⟨.str,s⟩=>.s (.str s)
 | ⟨.slice t,xs⟩=>.s (.sl t xs false)
 | ⟨.nil,_⟩=>.agg []
 | ⟨.cons t r,x⟩=>.agg ((Ty.cons t r).flat x)
 | ⟨.fn,x⟩=>.s (.fv x)
 | ⟨.tree h,x⟩=>.agg ((Ty.tree h).flat x)
def argIn (x:Sigma Ty.T):Prop:=x.1.inR x.2
theorem okWide_intIn {P:Program} {w:World} {r:Reach} {base:Nat} {t:TypeId} {v:Value} {k:IntKind} (ht:P.underlying t=some (.int k)) (h:Value.okWide P w r base t v):∃ n,v=.int k n∧k.has n:=by
 simp only [Value.okWide,ht,Cell.okWide] at h
 cases v <;> simp_all [Cell.ok]
section
variable {H:Type} {enc:TypeId×Value→H} {P:Program} {W:World} {base:Nat} {spare:Nat→Bool} {held:Bool}
theorem trod_arg {ty:Ty} {T:TypeId} {r:Reach} {b0:Nat} {v:Value} {d:DataW H} {ps:List MemPlace} (ht:TyOf P ty T) (hok:Value.okWide P W r b0 T v) (h:DataW.Trod enc P W base spare held T v d ps) :
  ∃ x:ty.T,relAV W (fun _=>False) [] [] (argOf ⟨ty,x⟩) v∧argIn ⟨ty,x⟩:=by
 obtain ⟨fuel,hf⟩:=h
 obtain ⟨x,hx,hxr⟩:=trod_rep ty T fuel _ _ ht hf
 refine ⟨x,?_⟩
 cases ty with
 | int k =>
  simp only [TyOf] at ht
  obtain ⟨n,rfl,hin⟩:=okWide_intIn ht hok
  simp [rep,Value.cells] at hx
  subst hx
  exact ⟨rfl,hxr⟩
 | bool =>
  simp only [TyOf] at ht
  obtain ⟨n,rfl⟩:=okWide_bool ht hok
  simp [rep,Value.cells] at hx
  exact ⟨by simp [argOf,relAV,relSV,hx],hxr⟩
 | str =>
  simp only [TyOf] at ht
  obtain ⟨n,rfl⟩:=okWide_string ht hok
  simp [rep,Value.cells] at hx
  exact ⟨by simp [argOf,relAV,relSV,hx],hxr⟩
 | slice t =>
  simp only [TyOf] at ht
  obtain ⟨e,h1,_⟩:=ht
  obtain ⟨a,len,cap,rfl⟩:=okWide_slice h1 hok
  simp only [rep,Value.cells] at hx
  obtain ⟨a',c,hc,h2,h3,h4⟩:=hx
  have hc':Value.slice a len cap=Value.slice a' x.length c:=by simpa using hc
  simp only [argOf,relAV,relSV]
  exact ⟨⟨a',c,hc',h2,h3,(fun h=>by cases h),h4⟩,hxr⟩
 | nil=>simp only [TyOf] at ht
 | fn=>simp only [TyOf] at ht
 | tree h=>simp only [TyOf] at ht
 | cons t r' =>
  have ht':=ht
  simp only [TyOf] at ht
  obtain ⟨fs,f,l,h1,_⟩:=ht
  obtain ⟨cs,rfl,_⟩:=okWide_struct h1 hok
  have hx':=rep_flat (bs:=[]) (hp:=[]) _ _ _ hx
  simp only [argOf,relAV]
  refine ⟨⟨cs.toList,by simp,?_⟩,hxr⟩
  simpa [Value.cells] using hx'
theorem trodAll_args:∀ {tys:List Ty} {Ts:List TypeId} {r:Reach} {b0:Nat} {vs:List Value} {ds:List (DataW H)} {ps:List MemPlace},All2 (TyOf P) tys Ts →
  (∀ (j:Nat) t v,Ts[j]?=some t→vs[j]?=some v→Value.okWide P W r b0 t v)→DataW.TrodAll enc P W base spare held Ts vs ds ps →
  ∃ xs:List (Sigma Ty.T),xs.map (·.1)=tys∧All2 (relAV W (fun _=>False) [] []) (xs.map argOf) vs∧∀ x∈xs,argIn x:=by
 intro tys Ts r b0 vs ds ps ht
 induction ht generalizing vs ds ps with
 | nil =>
  intro _ h
  obtain ⟨rfl,_,_⟩:=trodAll_nil h
  exact ⟨[],rfl,.nil,by simp⟩
 | cons h1 _ ih =>
  intro hok h
  obtain ⟨v,vs',d,ds',p,q,rfl,rfl,rfl,h2,h3⟩:=trodAll_cons h
  obtain ⟨x,hx,hi⟩:=trod_arg h1 (hok 0 _ _ rfl rfl) h2
  obtain ⟨xs,e,hxs,his⟩:=ih (fun j t u h h'=>hok (j+1) t u (by simpa using h) (by simpa using h')) h3
  exact ⟨⟨_,x⟩::xs,by simp [e],.cons hx hxs,by simp only [List.forall_mem_cons]; exact ⟨hi,his⟩⟩
theorem trodAll_stays (hl:laidOutB P=true):∀ {Ts:List TypeId} {W':World} {sp:Nat→Bool} {vs:List Value} {ds:List (DataW H)} {ps:List MemPlace},(∀ T∈Ts,P.readableRec T=true∧T<P.types.size) →
  DataW.TrodAll enc P W 0 (fun _=>true) true Ts vs ds ps→(∀ p∈ps,W.sameAt W' p)→(∀ p∈ps,sp p.block=true)→DataW.TrodAll enc P W' 0 sp true Ts vs ds ps
 | [],W',sp,vs,ds,ps,_,h,_,_=>by
  obtain ⟨rfl,rfl,rfl⟩:=trodAll_nil h
  exact trodAll_mk0
 | T::Ts,W',sp,vs,ds,ps,hr,h,h1,h2=>by
  obtain ⟨v,vs',d,ds',p,q,rfl,rfl,rfl,h3,h4⟩:=trodAll_cons h
  exact trodAll_cons_mk (WideElems.Trod_stays hl (hr T (by simp)).1 (hr T (by simp)).2 h3 (fun x hx=>h1 x (by simp [hx])) (fun x hx=>h2 x (by simp [hx])))
   (trodAll_stays hl (fun t ht=>hr t (by simp [ht])) h4 (fun x hx=>h1 x (by simp [hx])) (fun x hx=>h2 x (by simp [hx])))
end
theorem post_same {H:Type} {enc:TypeId×Value→H} {P:Program} {f:Func} {s:ChangeSpec} {apart fresh handsOn again:Bool} {W W':World} {args:Array Value} {v:Value} {ds gs:List (DataW H)} {before pa pv:List MemPlace}
  (hW:DataW.Whole enc P f.params.toList s.vars apart W args.toList ds gs before)
  (hres:∀ (b:Nat) (sp:Nat→Bool) (hd:Bool),DataW.TrodAll enc P W' b sp hd f.resultTypes.toList (v.resultList f.resultTypes.size) (s.fn H (ds++gs)).results [])
  (hargs:∀ sp:Nat→Bool,(∀ p∈before,sp p.block=true)→DataW.TrodAll enc P W' 0 sp true f.params.toList args.toList (s.fn H (ds++gs)).args pa)
  (hvars:∀ sp:Nat→Bool,(∀ p∈before,sp p.block=true)→DataW.TrodVars enc P W' sp s.vars (s.fn H (ds++gs)).vars pv)
  (hps:before=pa++pv) (hk:W.keptBut W' (·∈before)) (hfz:∀ p:Addr,p.block<W.heap.size→W'.frozen? p=W.frozen? p)
  (hok:∀ (j:Nat) (t:TypeId) (r:Value),f.resultTypes[j]?=some t→(v.resultList f.resultTypes.size)[j]?=some r→Value.okWide P W' .any 0 t r) :
  s.post enc P f apart fresh handsOn again W args v W':=by
 have hlt:∀ p∈before,p.block<W.heap.size:=fun p hp=>hW.lt p hp
 have hold:∀ p∈before,(fun b=>decide (b<W.heap.size)) p.block=true:=fun p hp=>by simpa using hlt p hp
 refine ⟨ds,gs,before,[],pa,pv,hW,hres _ _ _,hargs _ hold,hvars _ hold,World.keptBut_mono (fun p hp=>⟨hp,?_⟩) hk,fun _ => ?_⟩
 ·
  rw [hps,List.mem_append] at hp
  exact Or.inr hp
 ·
  obtain ⟨_,_,_,_,_,hz,hn⟩:=hW
  refine ⟨hok,_,_,([]++pa)++pv,⟨[]++pa,pv,trodAll_append (hargs _ (fun _ _=>rfl)) (hres _ _ _),hvars _ (fun _ _=>rfl),rfl,?_,?_⟩,?_⟩
  ·
   intro b off hp
   have hp':MemPlace.cell b off∈before:=by rw [hps]; simpa using hp
   rw [hfz _ (hlt _ hp')]
   exact hz b off hp'
  ·
   intro ha
   have:=hn ha
   rw [hps] at this
   simpa using this
  ·
   intro p hp _
   rw [hps]
   simpa using hp
theorem law_contract {P:Program} {f:FuncId} {fn:Func} {con:Con} {s:ChangeSpec} {tys:List Ty} {T:TypeId} (apart:Bool)
  (hp:PureOk P f con) (hpre:∀ xs:List (Sigma Ty.T),xs.map (·.1)=tys→(∀ x∈xs,argIn x)→con.pre (xs.map argOf)) (hval:∀ args,con.val args=.v (.s (.bool true)))
  (ht:All2 (TyOf P) tys fn.params.toList) (hr:∀ T∈fn.params.toList,P.readableRec T=true∧T<P.types.size) (hl:laidOutB P=true)
  (hres:fn.resultTypes=#[T]) (hT:P.underlying T=some .bool) (hv:s.vars=[])
  {H:Type} (enc:TypeId×Value→H) (hs:∀ ds:List (DataW H),ds.length=tys.length→(s.fn H ds).results=[.lit (.bool true)]∧(s.fn H ds).args=ds∧(s.fn H ds).vars=[])
  (W:World) (base:Nat) (args:Array Value) (ds gs:List (DataW H)) (before:List MemPlace)
  (hok:∀ (j:Nat) t v,fn.params[j]?=some t→args[j]?=some v→Value.okWide P W .any base t v)
  (hW:DataW.Whole enc P fn.params.toList s.vars apart W args.toList ds gs before) (hgl:GlobOk W (fun _=>False)) :
  Calls P f args W fun e W'=>∃ v,e=.returned v∧s.post enc P fn apart true false false W args v W':=by
 have hW':=hW
 obtain ⟨p,q,hA,hV,rfl,_,_⟩:=hW
 rw [hv] at hV
 obtain ⟨rfl,rfl⟩:=trodVars_none hV
 simp only [List.append_nil] at hW'
 obtain ⟨xs,e,hxs,his⟩:=trodAll_args ht (fun j t v h h'=>hok j t v (by simpa [Array.getElem?_toList] using h) (by simpa [Array.getElem?_toList] using h')) hA
 have hlen:ds.length=tys.length:=by
  have h1:=ht.length
  have h2:∀ {Ts:List TypeId} {vs:List Value} {ds:List (DataW H)} {ps:List MemPlace},DataW.TrodAll enc P W 0 (fun _=>true) true Ts vs ds ps→ds.length=Ts.length:=by
   intro Ts
   induction Ts with
   | nil=>intro vs ds ps h; obtain ⟨_,rfl,_⟩:=trodAll_nil h; rfl
   | cons t Ts ih=>intro vs ds ps h; obtain ⟨v,vs',d,ds',p,q,rfl,rfl,rfl,h3,h4⟩:=trodAll_cons h; simp [ih h4]
  rw [h2 hA,h1]
 obtain ⟨h1,h2,h3⟩:=hs ds hlen
 have hc:=hp W (fun _=>False) (xs.map argOf) args.toList (hpre xs e his) ⟨fun _ h=>h.elim,hgl⟩ hxs
 rw [Array.toArray_toList] at hc
 refine hc.mono fun o W' ⟨v,he,hv',hb,_⟩ => ?_
 rw [hval] at hv'
 simp only [relRV,relAV,relSV] at hv'
 subst hv'
 subst he
 have hlt:∀ x∈p,x.block<W.heap.size:=fun x hx=>by simpa using hW'.lt x hx
 refine ⟨_,rfl,post_same (pa:=p) (pv:=[]) hW' (fun b sp hd => ?_) (fun sp hsp => ?_) (fun sp _ => ?_) (by simp) (hb.frame _) (fun q hq=>hb.frozen hq) (ok_one hres rfl (okWide_bool_mk hT _))⟩
 ·
  rw [List.append_nil,h1,hres]
  exact trodAll_cons_mk (shut_bool hT _) trodAll_mk0
 ·
  rw [List.append_nil,h2]
  exact trodAll_stays hl hr hA (fun x hx=>hb.same (hlt x hx)) hsp
 ·
  rw [List.append_nil,h3,hv]
  rfl
end Go.Am
namespace Go.Am
open Go.RowKit Go.Proofs Go.Proofs.Tryz
theorem laid_mem {P:Program} {w:World} {n:String} {d:DataW Unit}:∀ {l:List (String×DataW Unit)} {ps:List MemPlace},DataW.LaidVars P w l ps→(n,d)∈l →
  ∃ g t cs fuel p,P.globalNamed n=some g∧(P.globals[g]?).map (·.type)=some t∧w.var? P n=some cs∧DataW.trod (fun _=>()) P w 0 (fun _=>true) false fuel t cs.toList=some (d,p)
 | [],_,_,hm=>by cases hm
 | (n',d')::r,ps,h,hm=>by
  obtain ⟨g,t,cs,fuel,p,q,e1,e2,e3,e4,hr,_⟩:=h
  rcases List.mem_cons.1 hm with e | hm
  ·
   cases e; exact ⟨g,t,cs,fuel,p,e1,e2,e3,e4⟩
  ·
   exact laid_mem hr hm
theorem rep_ints {w:World} {M:Nat→Prop} {k:IntKind}:∀ (N:Nat) (xs:List Int),xs.length=N→rep w M (.reps N (.int k)) (Ty.repsV N (.int k) xs) (xs.map (.int k))
 | 0,[],_=>rfl
 | N+1,x::xs,h=>⟨[.int k x],xs.map (.int k),rfl,rfl,rep_ints N xs (by simpa using h)⟩
theorem frz_laid {P:Program} {w:World} {l:List (String×DataW Unit)} {n:String} {g N:Nat} {T e:TypeId} {k:IntKind} {xs:List Int} {M:Nat→Prop} (hM:¬ M g)
  (h:laidMetH P l w) (hm:(n,(.agg (xs.map fun x=>.lit (.int k x)):DataW Unit))∈l) (hg:P.globalNamed n=some g) (ht:(P.globals[g]?).map (·.type)=some T)
  (hT:P.underlying T=some (.array N e)) (he:P.underlying e=some (.int k)) (hc1:P.cellsOf e=1) (hcT:P.cellsOf T=N) (hl:xs.length=N):FrozenAt w M ⟨.reps N (.int k),Ty.repsV N (.int k) xs⟩ (.pointer (some ⟨g,0,none⟩)):=by
 obtain ⟨⟨ps,h,_⟩,_⟩:=laidMetH_iff.1 h
 obtain ⟨g',t',cs,fuel,p,e1,e2,e3,e4⟩:=laid_mem h (List.mem_filter.2 ⟨hm,rfl⟩)
 obtain rfl:=Option.some.inj (hg.symm.trans e1)
 obtain rfl:=Option.some.inj (ht.symm.trans e2)
 obtain ⟨ys,m,_,ex,hlen,hyl,hel⟩:=DataW.trod_array hT e4
 rw [hcT] at hlen
 have e5:ys.map (·.1)=xs.map fun x=>.lit (.int k x):=(DataW.agg.inj (Prod.mk.inj ex).1).symm
 have hsz:g<w.heap.size:=by
  rcases Nat.lt_or_ge g w.heap.size with q | q
  ·
   exact q
  ·
   simp only [World.var?,hg,Option.bind_some,Array.getElem?_eq_none q] at e3
   cases e3
 refine ⟨g,0,xs.map (.int k),rfl,hM,hsz,rep_ints N xs hl,fun j v hj => ?_⟩
 rw [List.getElem?_map] at hj
 have hjl:j<N:=by
  rcases Nat.lt_or_ge j N with q | q
  ·
   exact q
  ·
   rw [List.getElem?_eq_none (by omega)] at hj; cases hj
 rw [List.getElem?_eq_getElem (by omega)] at hj
 simp only [Option.map_some,Option.some.injEq] at hj
 have h1:=hel j hjl
 rw [hc1,Nat.mul_one,List.getElem?_eq_getElem (by omega)] at h1
 obtain ⟨z,z1,z2,_⟩:=DataW.trod_int he h1
 have e6:(ys.map (·.1))[j]?=(xs.map fun x=>(.lit (.int k x):DataW Unit))[j]?:=by rw [e5]
 rw [List.getElem?_map,List.getElem?_map,List.getElem?_eq_getElem (by omega:j<ys.length),List.getElem?_eq_getElem (by omega:j<xs.length),z2] at e6
 simp only [Option.map_some,Option.some.injEq,DataW.lit.injEq,Lit.int.injEq,true_and] at e6
 rw [World.var?_cell hg e3,Nat.zero_add,← hj,← e6]
 have h0:((cs.toList.drop j).take 1)[0]?=some (.int k z):=by rw [z1]; rfl
 simpa using h0
end Go.Am
namespace Go.Am
set_option maxHeartbeats 8000000
set_option maxRecDepth 20000
open Go.RowKit Go.Proofs Go.Proofs.Tryz
attribute [local simp ←] flats_append
attribute [local simp] thenKD_normal thenKD_exit thenKD_goto thenKD_ret inBlockKD_normal inBlockKD_exit inBlockKD_goto inBlockKD_ret noGotoKD_normal noGotoKD_exit noGotoKD_goto noGotoKD_ret roundKD_normal roundKD_exit roundKD_goto roundKD_ret frzSlotsD_nil frzSlotsD_cons frzSlotD_eq yieldVCD_trace opVCD_eq vcOpsD_nil vcOpsD_cons vcAllD_zero vcAllD_succ allAtD_nil allAtD_cons readyAux edgA vcD_skip vcD_label vcD_exit vcD_goto vcD_ret vcD_region vcD_seq vcD_seqC vcD_cond vcCondD_bool vcD_block vcD_scope vcD_loop vcD_rangeFunc yieldOf isMem isMem0 keepE envLe St.le psE yieldAV round_td round_y round_Γ vI vB vS aI aB aS look getE oper opRV putE allOk okOps Op.operands Call.operands pEv qEv mEv constRV coe RV.av loadEv loadCs takeAt indexAddrEv fieldAddrEv binEv intEv arith unEv gcond pickEv argsEv callVal callEv capAV_mk lenArgs lenEv minEv extractEv convEv funcEv allBox bound sliceEv lookupEv TD.isBool allocEv boxEv storeEv spl plainTD appendEv appendArgs makeMapEv mapUpdateEv buildEv buildSliceEv fillSV zsvOf sizeTD Ty.parses parses_flats' coeA flats_length AV.good AV.cells AV.pure SV.pure av_int av_bool av_str av_slice av_cons av_fld0 av_fld1 av_fld2 av_fld3 av_fld4 Ty.of Ty.dflt Ty.parse Ty.flat Ty.zsv Ty.fld Ty.un Ty.unv Ty.snoc Ty.snocV hd_mk kids_mk hd_dflt kids_dflt Ty.get Ty.off Ty.nfld Ty.size coeTy junk Blk.look argEnv resEv resOk resVs oneRV retOk frzAs frzAV frzL frzSV boxCaps boxCap SV.sig sigs RV.scalar AV.scalar SV.scalar nope effVCD_eq effOf SV.ids AV.ids dedup SV.ren AV.ren RV.ren idx outId mergeB Blk.pureB flats_pure flat_pure epsSlotsD_nil epsSlotsD_cons epsSlotD_eq allEp D.parts_fnOf fvParts retEff round_E av_fn G.ye isCutD_nil isCutD_cons firstReg_region firstReg_seq firstReg_skip firstReg_ret firstReg_label firstReg_exit firstReg_goto firstReg_cond firstReg_block firstReg_scope firstReg_loop firstReg_rf eptrOf_mk flOfD_nil flOfD_cons vcFlD_cons vcFlD_nil flPairs_nil flPairs_cons vcFrD_nil vcFrD_cons makeSliceEv vcCondD_ib fzEv unfl_flats isFz round_fz panVCD_eq panOf isShift strIdxEv ifaceEv nilChkEv sliceAnyEv sliceOwnEv sliceSufEv appendEv0 appendEv1 Ty.beq Ty.isAgg round_Pn vcDefD_seqR vcDefD_seqS vcDefD_seqC vcDefD_seqB vcDefD_seqL vcDefD_seqF vcDefD_seqSc vcDefD_region vcDefD_ret vcDefD_cond vcDefD_block vcDefD_loop thenKD_panic inBlockKD_panic noGotoKD_panic exitOk_normal exitOk_ret exitOk_panic exitOk_exit runDefs_none runDefs_some runDefs_cons defRegD defReg2D isDefer defOf caughtCon unfl_cons D.bpart_bndOf D.parts_bndOf AV.sig zapEv capArgs capEv effVC2D_eq effSelD_eq effOf2 effOf2V borAt borAll borAV borSV borIds selOf reachB closedB Blk.sound Blk.ids Blk.ren Blk.scalarB retEff2 retEff2S round_E2 round_te round_bo round_pm andEv orEv xorEv bitsEv utop cvEv callAny callBor slicePartEv makePartEv copyEv copyArgs boundEv globs vcPiD_nil vcPiD_cons piOpD_eq appStrEv
def nrT:List (TypeId×TD):=[(1,.func),(2,.sc tI),(3,.sc tI),(4,.sc .bool),(5,.sc (.int .u8)),(8,.struct (.cons tI (.cons tI (.cons .bool (.cons (.int .u8) .nil))))),(9,.sc .str),(23,.slice 3 tI 8),(25,.struct (.cons .bool (.cons (.slice tI) .nil))),(27,.struct (.cons (.cons .bool (.cons (.slice tI) .nil)) (.cons (.cons .bool (.cons (.slice tI) .nil)) .nil))),(30,.sc tI),(46,.slice 5 (.int .u8) 1),(78,.func),(85,.ptr),(97,.slice 25 (.cons .bool (.cons (.slice tI) .nil)) 32),(100,.struct (.cons (.cons (.cons .bool (.cons (.slice tI) .nil)) (.cons (.cons .bool (.cons (.slice tI) .nil)) .nil)) .nil)),(111,.func),(123,.slice 27 (.cons (.cons .bool (.cons (.slice tI) .nil)) (.cons (.cons .bool (.cons (.slice tI) .nil)) .nil)) 64),(126,.slice 3 tI 8),(136,.sc (.int .u64)),(138,.sc (.int .u32)),(151,.func),(156,.sc (.int .u64)),(171,.func),(172,.func),(186,.func),(188,.slice 138 (.int .u32) 4),(199,.func),(203,.func),(216,.func)]
theorem nrT_ok (g:G) (hg:g.τ=nrT):G.ok prog g:=by
 refine ok_of_all ?_
 rw [hg]
 simp only [nrT,List.forall_mem_cons]
 exact ⟨⟨⟨_,_,_,underlying1⟩,by kernel_rfl⟩,
 ⟨by kernel_rfl,rfl,by kernel_rfl,rfl⟩,
 ⟨by kernel_rfl,rfl,by kernel_rfl,rfl⟩,
 ⟨by kernel_rfl,rfl,by kernel_rfl,rfl⟩,
 ⟨by kernel_rfl,rfl,by kernel_rfl,rfl⟩,
 ⟨fieldsOf prog 8,by kernel_rfl,by kernel_rfl,by kernel_rfl,by decide,by kernel_rfl⟩,
 ⟨by kernel_rfl,rfl,by kernel_rfl,rfl⟩,
 ⟨by kernel_rfl,by decide,by kernel_rfl,⟨cellsV (Ty.zcells tI),by kernel_rfl,by kernel_rfl,by kernel_rfl⟩,by kernel_rfl⟩,
 ⟨fieldsOf prog 25,by kernel_rfl,by kernel_rfl,by kernel_rfl,by decide,by kernel_rfl⟩,
 ⟨fieldsOf prog 27,by kernel_rfl,by kernel_rfl,by kernel_rfl,by decide,by kernel_rfl⟩,
 ⟨by kernel_rfl,rfl,by kernel_rfl,rfl⟩,
 ⟨by kernel_rfl,by decide,by kernel_rfl,⟨cellsV (Ty.zcells (.int .u8)),by kernel_rfl,by kernel_rfl,by kernel_rfl⟩,by kernel_rfl⟩,
 ⟨⟨_,_,_,underlying78⟩,by kernel_rfl⟩,
 ⟨⟨_,underlying85⟩,by kernel_rfl⟩,
 ⟨by kernel_rfl,by decide,by kernel_rfl,⟨cellsV (Ty.zcells (.cons .bool (.cons (.slice tI) .nil))),by kernel_rfl,by kernel_rfl,by kernel_rfl⟩,by kernel_rfl⟩,
 ⟨fieldsOf prog 100,by kernel_rfl,by kernel_rfl,by kernel_rfl,by decide,by kernel_rfl⟩,
 ⟨⟨_,_,_,underlying111⟩,by kernel_rfl⟩,
 ⟨by kernel_rfl,by decide,by kernel_rfl,⟨cellsV (Ty.zcells (.cons (.cons .bool (.cons (.slice tI) .nil)) (.cons (.cons .bool (.cons (.slice tI) .nil)) .nil))),by kernel_rfl,by kernel_rfl,by kernel_rfl⟩,by kernel_rfl⟩,
 ⟨by kernel_rfl,by decide,by kernel_rfl,⟨cellsV (Ty.zcells tI),by kernel_rfl,by kernel_rfl,by kernel_rfl⟩,by kernel_rfl⟩,
 ⟨by kernel_rfl,rfl,by kernel_rfl,rfl⟩,
 ⟨by kernel_rfl,rfl,by kernel_rfl,rfl⟩,
 ⟨⟨_,_,_,underlying151⟩,by kernel_rfl⟩,
 ⟨by kernel_rfl,rfl,by kernel_rfl,rfl⟩,
 ⟨⟨_,_,_,underlying171⟩,by kernel_rfl⟩,
 ⟨⟨_,_,_,underlying172⟩,by kernel_rfl⟩,
 ⟨⟨_,_,_,underlying186⟩,by kernel_rfl⟩,
 ⟨by kernel_rfl,by decide,by kernel_rfl,⟨cellsV (Ty.zcells (.int .u32)),by kernel_rfl,by kernel_rfl,by kernel_rfl⟩,by kernel_rfl⟩,
 ⟨⟨_,_,_,underlying199⟩,by kernel_rfl⟩,
 ⟨⟨_,_,_,underlying203⟩,by kernel_rfl⟩,
 ⟨⟨_,_,_,underlying216⟩,by kernel_rfl⟩,by simp⟩
theorem nr_mixed:prog.follows .mixedOrders=true:=by kernel_rfl
def nr0Γ:List (FuncId×Con):=[]
abbrev EntT (f:FuncId):Prop:=∀ (args:Array Value) (w:World),(callFunc f args).run prog w=.ok (.enter f args) w
abbrev OkΓ (l:List (FuncId×Con)):Prop:=∀ p∈l,EntT p.1∧PureOk prog p.1 p.2
abbrev OkE (l:List (FuncId×ECon)):Prop:=∀ p∈l,EntT p.1∧EffOk prog p.1 p.2
abbrev OkP (l:List (FuncId×PCon)):Prop:=∀ p∈l,EntT p.1∧PanOk prog p.1 p.2
abbrev OkF (l:List (FuncId×ECon2)):Prop:=∀ p∈l,EntT p.1∧EffOk2 prog p.1 p.2
theorem nr0Γ_ok:OkΓ nr0Γ:=by simp [nr0Γ]
def nr0E:List (FuncId×ECon):=[]
theorem nr0E_ok:OkE nr0E:=by simp [nr0E]
def nr0P:List (FuncId×PCon):=[]
theorem nr0P_ok:OkP nr0P:=by simp [nr0P]
def nr0F:List (FuncId×ECon2):=[]
theorem nr0F_ok:OkF nr0F:=by simp [nr0F]
def nr0:G:={ τ:=nrT,Γ:=nr0Γ,E:=nr0E,Pn:=nr0P,E2:=nr0F }
theorem nr0_good:nr0.good prog:=good_of_all (nrT_ok _ rfl) nr0Γ_ok nr0E_ok nr0P_ok nr0F_ok
theorem nr0_all:(∀ t,nr0.td t=(look nrT t).getD .other)∧nr0.y=false∧nr0.Γ=nr0Γ∧nr0.E=nr0E∧nr0.Pn=nr0P∧nr0.E2=nr0F∧nr0.fz=[]∧nr0.te=false∧nr0.bo=false∧nr0.pm=false:=⟨fun _=>rfl,rfl,rfl,rfl,rfl,rfl,rfl,rfl,rfl,rfl⟩
def nr0_S:=And.intro @nrT.eq_1 (And.intro @nr0Γ.eq_1 (And.intro @nr0E.eq_1 (And.intro @nr0P.eq_1 (@nr0F.eq_1))))
def conCoDI (Γ:List (FuncId×Con)):Con:=⟨fun args=>(match args with
 | [.s (.sl (.int .i64) xs _),.s (.fnp f caps)]=>∃ h,fnTo Γ tI .bool f caps h (·∈xs)
 | _=>False),fun args=>match args with
 | [.s (.sl (.int .i64) xs _),.s (.fnp f caps)]=>.v (.s (.int .i64 (idxOf (apB Γ tI f caps) xs)))
 | _=>.v (.s .any)⟩
theorem conCoDI_one (f:FuncId) (caps:List (Sigma Ty.T)) (c:Con) (he:∀ (args:Array Value) (w:World),(callFunc f args).run prog w=.ok (.enter f args) w) (hc:PureOk prog f c) (h:Ty.T tI→Bool)
  (hv:∀ x,c.val (Ty.av tI x::caps.map capAV)=.v (.s (.bool (h x)))) :
  PureOk prog 179 ⟨fun args=>∃ xs ex,args=[.s (.sl tI xs ex),.s (.fnp f caps)]∧∀ x∈xs,c.pre (Ty.av tI x::caps.map capAV),fun args=>match args with
   | [.s (.sl (.int .i64) xs _),_]=>.v (.s (.int .i64 (idxOf h xs)))
   | _=>.v (.s .any)⟩:=by
 refine pureOkD (L:={ live:=[0,1,4,5,7,8,9,16] }) (g1_good nrT_ok he hc) rfl nr_mixed func179 rfl _ 2 (by decide) (by kernel_rfl) ?_
 rintro _ ⟨xs,ex,rfl,hp⟩ hlens
 obtain ⟨⟨hl,_⟩,_⟩:=hlens
 simp only [maxLen] at hl
 refine ⟨rfl,?_⟩
 first | simp only [av_int,av_slice,av_bool] at hv hp | simp only [av_cons,av_bool,Ty.flat,List.cons_append,List.nil_append] at hv hp
 simp -dsimp -implicitDefEqProofs [f179,g1_all,nrT,inI64]
 refine WpD.loop (L:={ live:=[0,1,4,5,7,8,9,16] }) (g1_good nrT_ok he hc) X0_ok nr_mixed (by kernel_rfl) (ι:=Nat)
  (fun i=>⟨[(0,vS tI xs ex),(1,⟨true,.v (.s (.fnp f caps))⟩),(7,vI xs.length),(8,vI i)],[]⟩)
  (fun i=>i≤xs.length∧∀ j,j<i→h (xs[j]?.getD (Ty.dflt tI))=false) (fun i=>xs.length - i) 0 (by simp) (Turn.le (by simp -dsimp -implicitDefEqProofs)) ?_
 rintro i ⟨hi,hno⟩
 simp only [Ty.dflt] at hno
 simp -dsimp -implicitDefEqProofs [hv,caps_all,caps_all',g1_all,nrT,inI64]
 refine ⟨fun hlt=>⟨hlt,hp _ (by rw [getD_lt hlt]; exact List.getElem_mem hlt),fun he => ?_,fun hne=>⟨⟨by omega,by omega⟩,i+1,⟨by omega,fun j hj => ?_⟩,by omega,TurnT.le (by simp -dsimp -implicitDefEqProofs)⟩⟩,fun hge => ?_⟩
 ·
  exact (idxOf_at hlt _ he hno).symm
 ·
  rcases Nat.lt_succ_iff_lt_or_eq.1 hj with h' | rfl
  ·
   exact hno j h'
  ·
   exact hne
 ·
  exact (idxOf_none _ fun j hj=>hno j (by omega)).symm
theorem conCoDI_known (Γ:List (FuncId×Con)) (hΓ:Known prog Γ):PureOk prog 179 (conCoDI Γ):=by
 refine PureOk.of fun args hpre => ?_
 simp only [conCoDI] at hpre
 split at hpre
 ·
  rename_i xs ex f caps
  obtain ⟨h,hf⟩:=hpre
  have hm:apB Γ tI f caps=h:=funext (apB_eq hf)
  obtain ⟨c,h1,h2,h3⟩:=hf
  refine ⟨_,conCoDI_one f caps c (hΓ f c h1).1 (hΓ f c h1).2 h h2,⟨xs,ex,rfl,h3⟩,?_⟩
  simp only [conCoDI,hm]
 ·
  exact hpre.elim
theorem conCoDI_pre {Γ:List (FuncId×Con)} {f:FuncId} {caps:List (Sigma Ty.T)} (xs:List (Ty.T tI)) (ex:Bool):(conCoDI Γ).pre [.s (.sl tI xs ex),.s (.fnp f caps)]=∃ h,fnTo Γ tI .bool f caps h (·∈xs):=rfl
theorem conCoDI_val {Γ:List (FuncId×Con)} {f:FuncId} {caps:List (Sigma Ty.T)} (xs:List (Ty.T tI)) (ex:Bool):(conCoDI Γ).val [.s (.sl tI xs ex),.s (.fnp f caps)]=.v (.s (.int .i64 (idxOf (apB Γ tI f caps) xs))):=rfl
def conCoD (Γ:List (FuncId×Con)):Con:=⟨fun args=>(match args with
 | [.s (.sl (.int .i64) xs _),.s (.fnp f caps)]=>∃ h,fnTo Γ tI .bool f caps h (·∈xs)
 | _=>False),fun args=>match args with
 | [.s (.sl (.int .i64) xs _),.s (.fnp f caps)]=>.v (.s (.bool (xs.any (apB Γ tI f caps))))
 | _=>.v (.s .any)⟩
theorem conCoD_pre {Γ:List (FuncId×Con)} {f:FuncId} {caps:List (Sigma Ty.T)} (xs:List (Ty.T tI)) (ex:Bool):(conCoD Γ).pre [.s (.sl tI xs ex),.s (.fnp f caps)]=∃ h,fnTo Γ tI .bool f caps h (·∈xs):=rfl
theorem conCoD_val {Γ:List (FuncId×Con)} {f:FuncId} {caps:List (Sigma Ty.T)} (xs:List (Ty.T tI)) (ex:Bool):(conCoD Γ).val [.s (.sl tI xs ex),.s (.fnp f caps)]=.v (.s (.bool (xs.any (apB Γ tI f caps)))):=rfl
theorem conCoD_known (Γ:List (FuncId×Con)) (hΓ:Known prog Γ):PureOk prog 138 (conCoD Γ):=by
 have hg:=g1_good nrT_ok (enters_of func179 (by kernel_rfl) rfl) (conCoDI_known Γ hΓ)
 refine pureOkD (L:={ live:=[0,1,4] }) hg rfl nr_mixed func138 rfl _ 2 (by decide) (by kernel_rfl) ?_
 intro args hpre hlens
 simp only [conCoD] at hpre
 split at hpre
 ·
  rename_i xs ex f caps
  refine ⟨rfl,?_⟩
  simp -dsimp -implicitDefEqProofs [f138,conCoDI_pre,conCoDI_val,conCoD_val,idxOf_any,g1_all,nrT,inI64]
  exact hpre
 ·
  exact hpre.elim
def conOdd:Con:=⟨fun args=>(match args with
 | [.s (.int .i64 d)]=>True
 | _=>False),fun args=>match args with
 | [.s (.int _ d)]=>.v (aB (decide (d<0)||decide (1073741823<d)))
 | _=>.v (.s .any)⟩
theorem conOdd_eq (d:Int):conOdd.pre [.s (.int .i64 d)]=(True)∧conOdd.val [.s (.int .i64 d)]=.v (aB (decide (d<0)||decide (1073741823<d))):=⟨rfl,rfl⟩
theorem odd_ok:PureOk prog 137 conOdd:=by
 refine pureOkD (L:={ live:=[0,2] }) nr0_good rfl nr_mixed func137 rfl conOdd 1 (by decide) (by kernel_rfl) ?_
 intro args hpre hlens
 simp only [conOdd] at hpre
 split at hpre
 case h_2=>exact hpre.elim
 rename_i d
 simp only [lenS] at hlens
 refine ⟨rfl,?_⟩
 simp -dsimp -implicitDefEqProofs [f137,conOdd_eq,nr0_all,nr0_S,inI64]
def nr1Γ:List (FuncId×Con):=(137,conOdd)::nr0Γ
theorem nr1Γ_ok:OkΓ nr1Γ:=by
 simp only [OkΓ,nr1Γ,List.forall_mem_cons]
 exact ⟨⟨enters_of func137 (by kernel_rfl) rfl,odd_ok⟩,nr0Γ_ok⟩
def nr1E:=nr0E
theorem nr1E_ok:OkE nr1E:=nr0E_ok
def nr1P:=nr0P
theorem nr1P_ok:OkP nr1P:=nr0P_ok
def nr1F:=nr0F
theorem nr1F_ok:OkF nr1F:=nr0F_ok
def nr1_S:=And.intro (And.intro @nrT.eq_1 (And.intro @nr1Γ.eq_1 (And.intro @nr1E.eq_1 (And.intro @nr1P.eq_1 (And.intro @nr1F.eq_1 (@conOdd_eq)))))) nr0_S
theorem nr1_known:Known prog nr1Γ:=Known.cons (enters_of func137 (by kernel_rfl) rfl) odd_ok .nil
def nr2Γ:List (FuncId×Con):=(179,(conCoDI nr1Γ))::(138,(conCoD nr1Γ))::nr1Γ
theorem nr2Γ_ok:OkΓ nr2Γ:=by
 simp only [OkΓ,nr2Γ,List.forall_mem_cons]
 exact ⟨⟨enters_of func179 (by kernel_rfl) rfl,(conCoDI_known nr1Γ nr1_known)⟩,⟨enters_of func138 (by kernel_rfl) rfl,(conCoD_known nr1Γ nr1_known)⟩,nr1Γ_ok⟩
def nr2E:=nr1E
theorem nr2E_ok:OkE nr2E:=nr1E_ok
def nr2P:=nr1P
theorem nr2P_ok:OkP nr2P:=nr1P_ok
def nr2F:=nr1F
theorem nr2F_ok:OkF nr2F:=nr1F_ok
def nr2:G:={ τ:=nrT,Γ:=nr2Γ,E:=nr2E,Pn:=nr2P,E2:=nr2F }
theorem nr2_good:nr2.good prog:=good_of_all (nrT_ok _ rfl) nr2Γ_ok nr2E_ok nr2P_ok nr2F_ok
theorem nr2_all:(∀ t,nr2.td t=(look nrT t).getD .other)∧nr2.y=false∧nr2.Γ=nr2Γ∧nr2.E=nr2E∧nr2.Pn=nr2P∧nr2.E2=nr2F∧nr2.fz=[]∧nr2.te=false∧nr2.bo=false∧nr2.pm=false:=⟨fun _=>rfl,rfl,rfl,rfl,rfl,rfl,rfl,rfl,rfl,rfl⟩
def nr2_S:=And.intro (And.intro @nrT.eq_1 (And.intro @nr2Γ.eq_1 (And.intro @nr2E.eq_1 (And.intro @nr2P.eq_1 (And.intro @nr2F.eq_1 (And.intro @conCoDI_pre (And.intro @conCoDI_val (And.intro @conCoD_pre (@conCoD_val))))))))) nr1_S
def okBig (neg:Bool) (m:List Int):Prop:=canon m∧m.length≤2048∧(neg=true→m≠[])
noncomputable instance (neg:Bool) (m:List Int):Decidable (okBig neg m):=Classical.propDecidable _
def natErr (neg:Bool) (m:List Int):Int:=if okBig neg m then 0 else 90
def conNCheck:Con:=⟨fun args=>(match args with
 | [.agg [.bool neg,.sl (.int .i64) m _]]=>True
 | _=>False),fun args=>match args with
 | [.agg [.bool neg,.sl (.int .i64) m _]]=>.v (aI (natErr neg m))
 | _=>.v (.s .any)⟩
theorem conNCheck_eq (neg:Bool) (m:List (Ty.T tI)) (exm:Bool):conNCheck.pre [.agg [.bool neg,.sl tI m exm]]=(True)∧conNCheck.val [.agg [.bool neg,.sl tI m exm]]=.v (aI (natErr neg m)):=⟨rfl,rfl⟩
theorem ncheck_ok:PureOk prog 90 conNCheck:=by
 refine pureOkD (L:={ live:=[0,1,2,3,4,36] }) nr2_good rfl nr_mixed func90 rfl conNCheck 1 (by decide) (by kernel_rfl) ?_
 intro args hpre hlens
 simp only [conNCheck] at hpre
 split at hpre
 case h_2=>exact hpre.elim
 rename_i ng m ex
 simp only [lenS] at hlens
 refine ⟨rfl,?_⟩
 simp -dsimp -implicitDefEqProofs [f90,conNCheck_eq,nr2_all,nr2_S,inI64]
 have hfn:fnTo [(137,conOdd)] tI .bool 137 [] (fun d=>decide (d<0)||decide (1073741823<d)) (·∈m):=⟨conOdd,rfl,fun x=>rfl,fun x _=>trivial⟩
 have hap:∀ x,apB [(137,conOdd)] tI 137 [] x=(decide (x<0)||decide (1073741823<x)):=fun x=>apB_eq hfn x
 have hne:m=[]∨0<m.length:=by cases m <;> simp
 have hd:(∀ x∈m,apB [(137,conOdd)] tI 137 [] x=false)↔okD m:=by
  simp only [hap,Bool.or_eq_false_iff,decide_eq_false_iff_not,okD]
  exact ⟨fun h d hd=>⟨Int.not_lt.1 (h d hd).1,Int.not_lt.1 (h d hd).2⟩,fun h d hd=>⟨Int.not_lt.2 (h d hd).1,Int.not_lt.2 (h d hd).2⟩⟩
 have hdn:(∃ x,x∈m∧apB [(137,conOdd)] tI 137 [] x=true)→¬ okD m:=by
  rintro ⟨x,hx,he⟩ h
  rw [hd.2 h x hx] at he
  cases he
 refine ⟨fun a=>⟨a,fun b=>⟨a,b⟩⟩,fun a b c=>⟨⟨⟨a,b⟩,c⟩,by omega,by omega⟩,fun a b c=>⟨⟨⟨a,b⟩,c⟩,by omega,by omega⟩,fun a b=>⟨⟨a,b⟩,fun c=>⟨⟨a,b⟩,c⟩⟩,fun a b=>⟨a,?_⟩,fun a b c=>⟨⟨⟨a,b⟩,c⟩,_,hfn⟩,fun a b c=>⟨⟨a,?_⟩,?_⟩,fun h => ?_,fun a b c h => ?_⟩
 ·
  rcases hne with h | h
  ·
   exact .inr (b h)
  ·
   exact .inl (List.length_pos_iff.1 h)
 ·
  rcases hne with h | h
  ·
   exact .inr (b h)
  ·
   exact .inl (List.length_pos_iff.1 h)
 ·
  rcases hne with h | h
  ·
   exact .inl h
  ·
   exact .inr (c h)
 ·
  unfold natErr
  rw [if_neg]
  rintro ⟨hc,h1,h2⟩
  rcases h with ((h | ⟨h,h3⟩) | ⟨h,h3⟩) | h
  ·
   omega
  ·
   exact h2 h3 h
  ·
   have:=canon_last hc h; omega
  ·
   exact hdn h hc.1
 ·
  unfold natErr
  rw [if_pos]
  exact ⟨canon_of (hd.1 h) c,by omega,fun hn he=>by have:=b he; rw [hn] at this; cases this⟩
def conRCheck:Con:=⟨fun args=>(match args with
 | [.agg [.bool neg,.sl (.int .i64) m _]]=>True
 | _=>False),fun args=>match args with
 | [.agg [.bool neg,.sl (.int .i64) m _]]=>.v (aI (natErr neg m))
 | _=>.v (.s .any)⟩
theorem conRCheck_eq (neg:Bool) (m:List (Ty.T tI)) (exm:Bool):conRCheck.pre [.agg [.bool neg,.sl tI m exm]]=(True)∧conRCheck.val [.agg [.bool neg,.sl tI m exm]]=.v (aI (natErr neg m)):=⟨rfl,rfl⟩
theorem rcheck_ok:PureOk prog 125 conRCheck:=by
 refine pureOkD (L:={ live:=[0,1,2,3,4,30,33,49] }) nr0_good rfl nr_mixed func125 rfl conRCheck 1 (by decide) (by kernel_rfl) ?_
 intro args hpre hlens
 simp only [conRCheck] at hpre
 split at hpre
 case h_2=>exact hpre.elim
 rename_i ng m ex
 simp only [lenS] at hlens
 refine ⟨rfl,?_⟩
 simp -dsimp -implicitDefEqProofs [f125,conRCheck_eq,nr0_all,nr0_S,inI64]
 have hne:m=[]∨0<m.length:=by cases m <;> simp
 refine ⟨fun a=>⟨a,fun b=>⟨a,b⟩⟩,fun a b c=>⟨⟨⟨a,b⟩,c⟩,by omega,by omega⟩,fun a b c=>⟨⟨⟨a,b⟩,c⟩,by omega,by omega⟩,fun a b=>⟨⟨a,b⟩,fun c=>⟨⟨a,b⟩,c⟩⟩,fun a b=>⟨a,?_⟩,fun h => ?_,fun a b c => ?_⟩
 ·
  rcases hne with h | h
  ·
   exact .inr (b h)
  ·
   exact .inl (List.length_pos_iff.1 h)
 ·
  unfold natErr
  rw [if_neg]
  rintro ⟨hc,h1,h2⟩
  rcases h with (h | ⟨h,h3⟩) | ⟨h,h3⟩
  ·
   omega
  ·
   exact h2 h3 h
  ·
   have:=canon_last hc h; omega
 refine WpD.loop (L:={ live:=[0,1,2,3,4,30,33,49] }) nr0_good X0_ok nr_mixed (by kernel_rfl)
  (fun i:Nat=>⟨[(0,⟨true,.v (.agg [.bool ng,.sl tI m ex])⟩),(1,⟨true,.v (.s (.box 0 0))⟩),(2,vI 0),(3,vI m.length),(4,vI i)],[.cells [.bool ng,.sl tI m ex]]⟩)
  (fun i=>i≤m.length∧∀ j,j<i→0≤m[j]?.getD 0∧m[j]?.getD 0≤1073741823) (fun i=>m.length - i) 0 (by simp) (Turn.le (by simp -dsimp -implicitDefEqProofs)) ?_
 rintro i ⟨hi,hj⟩
 simp -dsimp -implicitDefEqProofs [conRCheck_eq,nr0_all,nr0_S,inI64]
 refine ⟨fun hil=>⟨hil,fun h=>⟨h,hil⟩,fun h => ?_,fun h1 h2=>⟨⟨by omega,by omega⟩,i+1,⟨by omega,fun j hj2 => ?_⟩,by omega,TurnT.le (by simp -dsimp -implicitDefEqProofs)⟩⟩,fun hge => ?_⟩
 ·
  unfold natErr
  rw [if_neg]
  rintro ⟨hc,_⟩
  have:=okD_get hc.1 hil
  omega
 ·
  rcases Nat.lt_succ_iff_lt_or_eq.1 hj2 with h' | rfl
  ·
   exact hj j h'
  ·
   exact ⟨h1,Int.lt_add_one_iff.1 h2⟩
 ·
  unfold natErr
  rw [if_pos]
  refine ⟨canon_of (fun d hd => ?_) c,by omega,fun hn he=>by have:=b he; rw [hn] at this; cases this⟩
  obtain ⟨j,hjl,rfl⟩:=List.mem_iff_getElem.1 hd
  have:=hj j (by omega)
  rwa [List.getElem?_eq_getElem hjl] at this
def conRCmpD:Con:=⟨fun args=>(match args with
 | [.s (.sl (.int .i64) a _),.s (.sl (.int .i64) b _)]=>canon a∧canon b∧a.length≤4096∧b.length≤4096
 | _=>False),fun args=>match args with
 | [.s (.sl (.int .i64) a _),.s (.sl (.int .i64) b _)]=>.v (aI (cmpN (vl a) (vl b)))
 | _=>.v (.s .any)⟩
theorem conRCmpD_eq (a:List (Ty.T tI)) (exa:Bool) (b:List (Ty.T tI)) (exb:Bool):conRCmpD.pre [.s (.sl tI a exa),.s (.sl tI b exb)]=(canon a∧canon b∧a.length≤4096∧b.length≤4096)∧conRCmpD.val [.s (.sl tI a exa),.s (.sl tI b exb)]=.v (aI (cmpN (vl a) (vl b))):=⟨rfl,rfl⟩
theorem rcmpd_ok:PureOk prog 169 conRCmpD:=by
 refine pureOkD (L:={ live:=[0,1,4,5,10,15,20,31,40] }) nr0_good rfl nr_mixed func169 rfl conRCmpD 2 (by decide) (by kernel_rfl) ?_
 intro args hpre hlens
 simp only [conRCmpD] at hpre
 split at hpre
 case h_2=>exact hpre.elim
 rename_i a ea b eb
 simp only [lenS] at hlens
 refine ⟨rfl,?_⟩
 simp -dsimp -implicitDefEqProofs [f169,conRCmpD_eq,nr0_all,nr0_S,inI64]
 obtain ⟨ha,hb,ha2,hb2⟩:=hpre
 refine ⟨fun hne=>⟨fun h=>(cmpN_lt (vl_len ha hb h)).symm,fun h=>(cmpN_gt (vl_len hb ha (by omega))).symm⟩,fun he=>⟨⟨by omega,by omega⟩,?_⟩⟩
 refine WpD.loop (L:={ live:=[0,1,4,5,10,15,20,31,40] }) nr0_good X0_ok nr_mixed (by kernel_rfl)
  (fun n:Nat=>⟨[(0,vS tI a ea),(1,vS tI b eb),(4,vI 0),(5,vI ((n:Int) - 1))],[]⟩)
  (fun n=>n≤a.length∧a.drop n=b.drop n) (fun n=>n) a.length ⟨Nat.le_refl _,by rw [List.drop_eq_nil_of_le (by omega),List.drop_eq_nil_of_le (by omega)]⟩ (Turn.le (by simp -dsimp -implicitDefEqProofs)) ?_
 rintro n ⟨hn,hd⟩
 simp -dsimp -implicitDefEqProofs [conRCmpD_eq,nr0_all,nr0_S,inI64]
 refine ⟨fun h1 => ?_,fun h0 => ?_⟩
 ·
  obtain ⟨k,rfl⟩:∃ k,n=k+1:=⟨n - 1,by omega⟩
  have hka:k<a.length:=by omega
  have hkb:k<b.length:=by omega
  have e:((k+1:Nat):Int) - 1 - 1=(k:Int) - 1:=by omega
  simp only [Nat.add_sub_cancel]
  refine ⟨⟨h1,by omega⟩,⟨h1,by omega⟩,fun h=>(cmpN_lt (vl_less ha.1 hb.1 hka hkb hd h)).symm,fun hge=>⟨⟨h1,by omega⟩,⟨h1,by omega⟩,fun h=>(cmpN_gt (vl_less hb.1 ha.1 hkb hka hd.symm h)).symm,fun hle=>⟨⟨by omega,by omega⟩,k,⟨by omega,?_⟩,by omega,TurnT.le (by simp -dsimp -implicitDefEqProofs [e])⟩⟩⟩
  rw [List.drop_eq_getElem_cons hka,List.drop_eq_getElem_cons hkb,hd]
  rw [List.getElem?_eq_getElem hka,List.getElem?_eq_getElem hkb] at hge hle
  congr 1
  exact Int.le_antisymm hle hge
 ·
  obtain rfl:n=0:=by omega
  rw [List.drop_zero,List.drop_zero] at hd
  subst hd
  exact (cmpN_eq _).symm
def conTrim:Con:=⟨fun args=>(match args with
 | [.s (.sl (.int .i64) m _)]=>True
 | _=>False),fun args=>match args with
 | [.s (.sl (.int .i64) m _)]=>.v (aS tI (trimL m) false)
 | _=>.v (.s .any)⟩
theorem conTrim_eq (m:List (Ty.T tI)) (exm:Bool):conTrim.pre [.s (.sl tI m exm)]=(True)∧conTrim.val [.s (.sl tI m exm)]=.v (aS tI (trimL m) false):=⟨rfl,rfl⟩
theorem rtrim_ok:PureOk prog 174 conTrim:=by
 refine pureOkD (L:={ live:=[0,2,3,15] }) nr0_good rfl nr_mixed func174 rfl conTrim 1 (by decide) (by kernel_rfl) ?_
 intro args hpre hlens
 simp only [conTrim] at hpre
 split at hpre
 case h_2=>exact hpre.elim
 rename_i m em
 simp only [lenS] at hlens
 refine ⟨rfl,?_⟩
 simp -dsimp -implicitDefEqProofs [f174,conTrim_eq,nr0_all,nr0_S,inI64]
 refine WpD.loop (L:={ live:=[0,2,3,15] }) nr0_good X0_ok nr_mixed (by kernel_rfl)
  (fun n:Nat=>⟨[(0,vS tI m em),(2,vS tI [] true),(3,vI n)],[]⟩)
  (fun n=>n≤m.length∧∀ d∈m.drop n,d=0) (fun n=>n) m.length ⟨Nat.le_refl _,by rw [List.drop_eq_nil_of_le (Nat.le_refl _)]; intro d hd; cases hd⟩ (Turn.le (by simp -dsimp -implicitDefEqProofs)) ?_
 rintro n ⟨hn,hd⟩
 simp -dsimp -implicitDefEqProofs [conTrim_eq,nr0_all,nr0_S,inI64]
 refine ⟨fun h=>⟨h,by omega,by omega⟩,fun h=>⟨h,by omega,by omega⟩,fun h1 h2 => ?_,fun h=>⟨hn,?_⟩⟩
 ·
  obtain ⟨k,rfl⟩:∃ k,n=k+1:=⟨n - 1,by omega⟩
  have e:((k+1:Nat):Int) - 1=(k:Int):=by omega
  refine ⟨⟨by omega,by omega⟩,k,⟨by omega,fun d hd2 => ?_⟩,by omega,TurnT.le (by simp -dsimp -implicitDefEqProofs [e])⟩
  rw [List.drop_eq_getElem_cons (by omega)] at hd2
  rw [Nat.add_sub_cancel,List.getElem?_eq_getElem (by omega)] at h2
  rcases List.mem_cons.1 hd2 with rfl | hd2
  ·
   exact h2
  ·
   exact hd d hd2
 ·
  exact take_trim hn hd h
theorem trim_ok:PureOk prog 140 conTrim:=by
 refine pureOkD (L:={ live:=[0,2,3,15] }) nr0_good rfl nr_mixed func140 rfl conTrim 1 (by decide) (by kernel_rfl) ?_
 intro args hpre hlens
 simp only [conTrim] at hpre
 split at hpre
 case h_2=>exact hpre.elim
 rename_i m em
 simp only [lenS] at hlens
 refine ⟨rfl,?_⟩
 simp -dsimp -implicitDefEqProofs [f140,conTrim_eq,nr0_all,nr0_S,inI64]
 refine WpD.loop (L:={ live:=[0,2,3,15] }) nr0_good X0_ok nr_mixed (by kernel_rfl)
  (fun n:Nat=>⟨[(0,vS tI m em),(2,vS tI [] true),(3,vI n)],[]⟩)
  (fun n=>n≤m.length∧∀ d∈m.drop n,d=0) (fun n=>n) m.length ⟨Nat.le_refl _,by rw [List.drop_eq_nil_of_le (Nat.le_refl _)]; intro d hd; cases hd⟩ (Turn.le (by simp -dsimp -implicitDefEqProofs)) ?_
 rintro n ⟨hn,hd⟩
 simp -dsimp -implicitDefEqProofs [conTrim_eq,nr0_all,nr0_S,inI64]
 refine ⟨fun h=>⟨h,by omega,by omega⟩,fun h=>⟨h,by omega,by omega⟩,fun h1 h2 => ?_,fun h=>⟨hn,?_⟩⟩
 ·
  obtain ⟨k,rfl⟩:∃ k,n=k+1:=⟨n - 1,by omega⟩
  have e:((k+1:Nat):Int) - 1=(k:Int):=by omega
  refine ⟨⟨by omega,by omega⟩,k,⟨by omega,fun d hd2 => ?_⟩,by omega,TurnT.le (by simp -dsimp -implicitDefEqProofs [e])⟩
  rw [List.drop_eq_getElem_cons (by omega)] at hd2
  rw [Nat.add_sub_cancel,List.getElem?_eq_getElem (by omega)] at h2
  rcases List.mem_cons.1 hd2 with rfl | hd2
  ·
   exact h2
  ·
   exact hd d hd2
 ·
  exact take_trim hn hd h
def conAt:Con:=⟨fun args=>(match args with
 | [.s (.sl (.int .i64) m _),.s (.int .i64 i)]=>0≤i
 | _=>False),fun args=>match args with
 | [.s (.sl (.int .i64) m _),.s (.int _ i)]=>.v (aI (m[i.toNat]?.getD 0))
 | _=>.v (.s .any)⟩
theorem conAt_eq (m:List (Ty.T tI)) (exm:Bool) (i:Int):conAt.pre [.s (.sl tI m exm),.s (.int .i64 i)]=(0≤i)∧conAt.val [.s (.sl tI m exm),.s (.int .i64 i)]=.v (aI (m[i.toNat]?.getD 0)):=⟨rfl,rfl⟩
theorem rdigit_ok:PureOk prog 129 conAt:=by
 refine pureOkD (L:={ live:=[0,1,4,8] }) nr0_good rfl nr_mixed func129 rfl conAt 2 (by decide) (by kernel_rfl) ?_
 intro args hpre hlens
 simp only [conAt] at hpre
 split at hpre
 case h_2=>exact hpre.elim
 rename_i m em i
 simp only [lenS] at hlens
 refine ⟨rfl,?_⟩
 simp -dsimp -implicitDefEqProofs [f129,conAt_eq,nr0_all,nr0_S,inI64]
 exact ⟨fun h=>⟨hpre,h⟩,fun h=>by rw [List.getElem?_eq_none (by omega)]; rfl⟩
theorem at_ok:PureOk prog 187 conAt:=by
 refine pureOkD (L:={ live:=[0,1,4,8] }) nr0_good rfl nr_mixed func187 rfl conAt 2 (by decide) (by kernel_rfl) ?_
 intro args hpre hlens
 simp only [conAt] at hpre
 split at hpre
 case h_2=>exact hpre.elim
 rename_i m em i
 simp only [lenS] at hlens
 refine ⟨rfl,?_⟩
 simp -dsimp -implicitDefEqProofs [f187,conAt_eq,nr0_all,nr0_S,inI64]
 exact ⟨fun h=>⟨hpre,h⟩,fun h=>by rw [List.getElem?_eq_none (by omega)]; rfl⟩
def conZero:Con:=⟨fun args=>(match args with
 | [.agg [.bool ng,.sl (.int .i64) m _]]=>True
 | _=>False),fun args=>match args with
 | [.agg [.bool ng,.sl (.int .i64) m _]]=>.v (aB (decide (m=[])))
 | _=>.v (.s .any)⟩
theorem conZero_eq (ng:Bool) (m:List (Ty.T tI)) (exm:Bool):conZero.pre [.agg [.bool ng,.sl tI m exm]]=(True)∧conZero.val [.agg [.bool ng,.sl tI m exm]]=.v (aB (decide (m=[]))):=⟨rfl,rfl⟩
theorem zero_ok:PureOk prog 126 conZero:=by
 refine pureOkD (L:={ live:=[0,1,2] }) nr0_good rfl nr_mixed func126 rfl conZero 1 (by decide) (by kernel_rfl) ?_
 intro args hpre hlens
 simp only [conZero] at hpre
 split at hpre
 case h_2=>exact hpre.elim
 rename_i ng m em
 simp only [lenS] at hlens
 refine ⟨rfl,?_⟩
 simp -dsimp -implicitDefEqProofs [f126,conZero_eq,nr0_all,nr0_S,inI64]
 cases m <;> simp <;> omega
def conPosi:Con:=⟨fun args=>(match args with
 | [.agg [.bool ng,.sl (.int .i64) m _]]=>True
 | _=>False),fun args=>match args with
 | [.agg [.bool ng,.sl (.int .i64) m _]]=>.v (aB (!ng&&decide (m≠[])))
 | _=>.v (.s .any)⟩
theorem conPosi_eq (ng:Bool) (m:List (Ty.T tI)) (exm:Bool):conPosi.pre [.agg [.bool ng,.sl tI m exm]]=(True)∧conPosi.val [.agg [.bool ng,.sl tI m exm]]=.v (aB (!ng&&decide (m≠[]))):=⟨rfl,rfl⟩
theorem posi_ok:PureOk prog 136 conPosi:=by
 refine pureOkD (L:={ live:=[0,1,2] }) nr0_good rfl nr_mixed func136 rfl conPosi 1 (by decide) (by kernel_rfl) ?_
 intro args hpre hlens
 simp only [conPosi] at hpre
 split at hpre
 case h_2=>exact hpre.elim
 rename_i ng m em
 simp only [lenS] at hlens
 refine ⟨rfl,?_⟩
 simp -dsimp -implicitDefEqProofs [f136,conPosi_eq,nr0_all,nr0_S,inI64]
 cases m <;> simp
def nr3Γ:List (FuncId×Con):=(125,conRCheck)::(169,conRCmpD)::nr0Γ
theorem nr3Γ_ok:OkΓ nr3Γ:=by
 simp only [OkΓ,nr3Γ,List.forall_mem_cons]
 exact ⟨⟨enters_of func125 (by kernel_rfl) rfl,rcheck_ok⟩,⟨enters_of func169 (by kernel_rfl) rfl,rcmpd_ok⟩,nr0Γ_ok⟩
def nr3E:=nr0E
theorem nr3E_ok:OkE nr3E:=nr0E_ok
def nr3P:=nr0P
theorem nr3P_ok:OkP nr3P:=nr0P_ok
def nr3F:=nr0F
theorem nr3F_ok:OkF nr3F:=nr0F_ok
def nr3:G:={ τ:=nrT,Γ:=nr3Γ,E:=nr3E,Pn:=nr3P,E2:=nr3F }
theorem nr3_good:nr3.good prog:=good_of_all (nrT_ok _ rfl) nr3Γ_ok nr3E_ok nr3P_ok nr3F_ok
theorem nr3_all:(∀ t,nr3.td t=(look nrT t).getD .other)∧nr3.y=false∧nr3.Γ=nr3Γ∧nr3.E=nr3E∧nr3.Pn=nr3P∧nr3.E2=nr3F∧nr3.fz=[]∧nr3.te=false∧nr3.bo=false∧nr3.pm=false:=⟨fun _=>rfl,rfl,rfl,rfl,rfl,rfl,rfl,rfl,rfl,rfl⟩
def nr3_S:=And.intro (And.intro @nrT.eq_1 (And.intro @nr3Γ.eq_1 (And.intro @nr3E.eq_1 (And.intro @nr3P.eq_1 (And.intro @nr3F.eq_1 (And.intro @conRCheck_eq (@conRCmpD_eq))))))) nr0_S
def twoErr (n1:Bool) (m1:List Int) (n2:Bool) (m2:List Int):Int:=if okBig n1 m1 then natErr n2 m2 else 90
def conTwo:Con:=⟨fun args=>(match args with
 | [.agg [.bool n1,.sl (.int .i64) m1 _],.agg [.bool n2,.sl (.int .i64) m2 _]]=>True
 | _=>False),fun args=>match args with
 | [.agg [.bool n1,.sl (.int .i64) m1 _],.agg [.bool n2,.sl (.int .i64) m2 _]]=>.v (aI (twoErr n1 m1 n2 m2))
 | _=>.v (.s .any)⟩
theorem conTwo_eq (n1:Bool) (m1:List (Ty.T tI)) (exm1:Bool) (n2:Bool) (m2:List (Ty.T tI)) (exm2:Bool):conTwo.pre [.agg [.bool n1,.sl tI m1 exm1],.agg [.bool n2,.sl tI m2 exm2]]=(True)∧conTwo.val [.agg [.bool n1,.sl tI m1 exm1],.agg [.bool n2,.sl tI m2 exm2]]=.v (aI (twoErr n1 m1 n2 m2)):=⟨rfl,rfl⟩
theorem two_ok:PureOk prog 168 conTwo:=by
 refine pureOkD (L:={ live:=[0,1,2,3,4,7] }) nr3_good rfl nr_mixed func168 rfl conTwo 2 (by decide) (by kernel_rfl) ?_
 intro args hpre hlens
 simp only [conTwo] at hpre
 split at hpre
 case h_2=>exact hpre.elim
 rename_i n1 m1 e1 n2 m2 e2
 simp only [lenS] at hlens
 refine ⟨rfl,?_⟩
 simp -dsimp -implicitDefEqProofs [f168,conTwo_eq,nr3_all,nr3_S,inI64]
 unfold twoErr
 by_cases h:okBig n1 m1
 ·
  have:natErr n1 m1=0:=if_pos h
  rw [if_pos h,this]
  exact ⟨fun h=>absurd rfl h,fun _=>rfl⟩
 ·
  have:natErr n1 m1=90:=if_neg h
  rw [if_neg h,this]
  exact ⟨fun _=>rfl,fun h=>by cases h⟩
theorem fl_at {xs:List Int} {j:Nat} (h:j<xs.length):(((Ty.int .i64).flats xs)[j]?).getD .any=.int .i64 (xs[j]?.getD 0):=by
 rw [flats_int_get,List.getElem?_eq_getElem h]; rfl
theorem fl_set {xs:List Int} {j:Nat} (h:j<xs.length) (v:Int):List.take j ((Ty.int .i64).flats xs)++SV.int .i64 v::List.drop (j+1) ((Ty.int .i64).flats xs)=(Ty.int .i64).flats (xs.set j v):=by
 have e:∀ l:List Int,(Ty.int .i64).flats l=l.map (SV.int .i64):=fun l=>by
  induction l with
  | nil=>rfl
  | cons x l ih=>simp [Ty.flats,Ty.flat,ih]
 rw [e,e,List.map_set,List.set_eq_take_append_cons_drop,if_pos (by simpa using h)]
def nr4Γ:List (FuncId×Con):=(168,conTwo)::(174,conTrim)::(129,conAt)::nr3Γ
theorem nr4Γ_ok:OkΓ nr4Γ:=by
 simp only [OkΓ,nr4Γ,List.forall_mem_cons]
 exact ⟨⟨enters_of func168 (by kernel_rfl) rfl,two_ok⟩,⟨enters_of func174 (by kernel_rfl) rfl,rtrim_ok⟩,⟨enters_of func129 (by kernel_rfl) rfl,rdigit_ok⟩,nr3Γ_ok⟩
def nr4E:=nr3E
theorem nr4E_ok:OkE nr4E:=nr3E_ok
def nr4P:=nr3P
theorem nr4P_ok:OkP nr4P:=nr3P_ok
def nr4F:=nr3F
theorem nr4F_ok:OkF nr4F:=nr3F_ok
def nr4:G:={ τ:=nrT,Γ:=nr4Γ,E:=nr4E,Pn:=nr4P,E2:=nr4F }
theorem nr4_good:nr4.good prog:=good_of_all (nrT_ok _ rfl) nr4Γ_ok nr4E_ok nr4P_ok nr4F_ok
theorem nr4_all:(∀ t,nr4.td t=(look nrT t).getD .other)∧nr4.y=false∧nr4.Γ=nr4Γ∧nr4.E=nr4E∧nr4.Pn=nr4P∧nr4.E2=nr4F∧nr4.fz=[]∧nr4.te=false∧nr4.bo=false∧nr4.pm=false:=⟨fun _=>rfl,rfl,rfl,rfl,rfl,rfl,rfl,rfl,rfl,rfl⟩
def nr4_S:=And.intro (And.intro @nrT.eq_1 (And.intro @nr4Γ.eq_1 (And.intro @nr4E.eq_1 (And.intro @nr4P.eq_1 (And.intro @nr4F.eq_1 (And.intro @conTwo_eq (And.intro @conTrim_eq (@conAt_eq)))))))) nr3_S
def conTimes:Con:=⟨fun args=>(match args with
 | [.s (.sl (.int .i64) a _),.s (.sl (.int .i64) b _)]=>okD a∧okD b∧a.length≤2048∧b.length≤2048
 | _=>False),fun args=>match args with
 | [.s (.sl (.int .i64) a _),.s (.sl (.int .i64) b _)]=>.v (aS tI (dig (vl a*vl b)) false)
 | _=>.v (.s .any)⟩
theorem conTimes_eq (a:List (Ty.T tI)) (exa:Bool) (b:List (Ty.T tI)) (exb:Bool):conTimes.pre [.s (.sl tI a exa),.s (.sl tI b exb)]=(okD a∧okD b∧a.length≤2048∧b.length≤2048)∧conTimes.val [.s (.sl tI a exa),.s (.sl tI b exb)]=.v (aS tI (dig (vl a*vl b)) false):=⟨rfl,rfl⟩
theorem times_ok:PureOk prog 171 conTimes:=by
 refine pureOkD (L:={ live:=[0,1,4,5,6,7,8,9,19,25],frz:=[(13,[5])] }) nr4_good rfl nr_mixed func171 rfl conTimes 2 (by decide) (by kernel_rfl) ?_
 intro args hpre hlens
 simp only [conTimes] at hpre
 split at hpre
 case h_2=>exact hpre.elim
 rename_i a ea b eb
 simp only [lenS] at hlens
 refine ⟨rfl,?_⟩
 simp -dsimp -implicitDefEqProofs [f171,conTimes_eq,nr4_all,nr4_S,inI64]
 obtain ⟨ha,hb,ha2,hb2⟩:=hpre
 have hn:((a.length:Int)+(b.length:Int)).toNat=a.length+b.length:=by omega
 refine ⟨⟨by omega,by omega⟩,⟨by omega,by omega,by omega⟩,?_⟩
 rw [hn]
 refine WpD.loop (L:={ live:=[0,1,4,5,6,7,8,9,19,25],frz:=[(13,[5])] }) nr4_good X0_ok nr_mixed (by kernel_rfl)
  (fun p:Nat×List Int=>⟨[(0,vS tI a ea),(1,vS tI b eb),(5,⟨true,.v (.s (.own tI 0 (a.length+b.length)))⟩),(6,vI p.1)],[.arr true (tI.flats p.2)]⟩)
  (fun p=>p.1≤a.length∧p.2.length=a.length+b.length∧okD p.2∧vl p.2=vl (a.take p.1)*vl b∧∀ d∈p.2.drop (p.1+b.length),d=0) (fun p=>a.length - p.1) (0,List.replicate (a.length+b.length) 0)
  ⟨Nat.zero_le _,List.length_replicate,okD_rep _,by simp [vl_rep,vl],fun d hd=>List.eq_of_mem_replicate (List.mem_of_mem_drop hd)⟩ (Turn.le (by simp -dsimp -implicitDefEqProofs)) ?_
 rintro ⟨i,xs⟩ ⟨hi,hxl,hxo,hxv,hxz⟩
 simp only at hi hxl hxo hxv hxz
 simp -dsimp -implicitDefEqProofs [conTimes_eq,nr4_all,nr4_S,inI64]
 refine ⟨fun hil => ?_,fun hge=>⟨xs,rfl,hxl.symm,?_⟩⟩
 ·
  have hai:=okD_get ha hil
  refine WpD.loop (L:={ live:=[0,1,4,5,6,7,8,9,19,25],frz:=[(13,[5])] }) nr4_good X0_ok nr_mixed (by kernel_rfl)
   (fun p:Nat×List Int×Int=>⟨[(0,vS tI a ea),(1,vS tI b eb),(5,⟨true,.v (.s (.own tI 0 (a.length+b.length)))⟩),(6,vI i),(7,vI p.2.2),(8,vI p.1)],[.arr true (tI.flats p.2.1)]⟩)
   (fun p=>p.1≤b.length∧p.2.1.length=a.length+b.length∧okD p.2.1∧(0≤p.2.2∧p.2.2≤1073741823)∧vl p.2.1+1073741824 ^ (i+p.1)*p.2.2.toNat=vl xs+1073741824 ^ i*((a[i]?.getD 0).toNat*vl (b.take p.1))∧p.2.1.drop (i+p.1)=xs.drop (i+p.1)) (fun p=>b.length - p.1) (0,xs,0)
   ⟨Nat.zero_le _,hxl,hxo,⟨Int.le_refl _,by show (0:Int)≤1073741823; decide⟩,by simp [vl],rfl⟩ (Turn.le (by simp -dsimp -implicitDefEqProofs)) ?_
  rintro ⟨k,ys,ov⟩ ⟨hk,hyl,hyo,hov,hyv,hyd⟩
  simp only at hk hyl hyo hov hyv hyd
  rcases Nat.lt_or_ge k b.length with hkl | hkl
  ·
   have e1:((i:Int)+(k:Int)).toNat=i+k:=by omega
   have hfl:=fl_at (xs:=ys) (j:=i+k) (by omega)
   obtain ⟨s1,s2,s3,s4,s5⟩:=mul_step (s:=ys[i+k]?.getD 0+a[i]?.getD 0*b[k]+ov) hyo (by omega) hkl hb hai hov hyv (by rw [List.getElem?_eq_getElem hkl]; rfl)
   simp -dsimp -implicitDefEqProofs [conTimes_eq,e1,hfl,hkl,nr4_all,nr4_S,inI64]
   have hm:=mul_range hai (okD_get hb hkl)
   rw [List.getElem?_eq_getElem hkl,Option.getD_some] at hm
   have hy:=okD_get hyo (i:=i+k) (by omega)
   rw [Int.tdiv_eq_ediv_of_nonneg s1.1,Int.tmod_eq_emod_of_nonneg s1.1,fl_set (by omega)]
   generalize ys[i+k]?.getD 0+a[i]?.getD 0*b[k]+ov=s at *
   refine ⟨⟨by omega,by omega⟩,⟨hyl,by omega,by omega⟩,⟨hyl,by omega⟩,hil,⟨by omega,by omega⟩,⟨by omega,by omega⟩,⟨by omega,by omega⟩,⟨by omega,by omega⟩,⟨hyl,by omega,by omega⟩,⟨hyl,by omega⟩,⟨by omega,by omega⟩,⟨by omega,by omega⟩,
    k+1,ys.set (i+k) (s % 1073741824),s / 1073741824,⟨by omega,by rw [List.length_set]; exact hyl,s4,s2,s5,?_⟩,by omega,TurnT.le (by simp -dsimp -implicitDefEqProofs)⟩
   rw [← Nat.add_assoc,drop_set_succ]
   exact drop_eq_succ hyd
  ·
   have hkn:¬ k<b.length:=by omega
   obtain rfl:k=b.length:=by omega
   obtain ⟨r1,r2,r3⟩:=row_end hil hyl hyo ha hov hyv hyd hxz hxv
   have e1:((i:Int)+(b.length:Int)).toNat=i+b.length:=by omega
   simp -dsimp -implicitDefEqProofs [conTimes_eq,hkn,e1,nr4_all,nr4_S,inI64]
   rw [fl_set (by omega)]
   exact ⟨⟨by omega,by omega⟩,⟨hyl,by omega,hil⟩,⟨hyl,by omega⟩,⟨by omega,by omega⟩,i+1,ys.set (i+b.length) ov,⟨by omega,by rw [List.length_set]; exact hyl,r1,r2,r3⟩,by omega,TurnT.le (by simp -dsimp -implicitDefEqProofs)⟩
 ·
  obtain rfl:i=a.length:=by omega
  rw [← dig_vl hxo,hxv,List.take_of_length_le (Nat.le_refl _)]
def conLess9:Con:=⟨fun args=>(match args with
 | [.s (.sl (.int .i64) a _),.s (.sl (.int .i64) b _)]=>okD a∧canon b∧vl b≤vl a∧a.length≤4096
 | _=>False),fun args=>match args with
 | [.s (.sl (.int .i64) a _),.s (.sl (.int .i64) b _)]=>.v (aS tI (dig (vl a - vl b)) false)
 | _=>.v (.s .any)⟩
theorem conLess9_eq (a:List (Ty.T tI)) (exa:Bool) (b:List (Ty.T tI)) (exb:Bool):conLess9.pre [.s (.sl tI a exa),.s (.sl tI b exb)]=(okD a∧canon b∧vl b≤vl a∧a.length≤4096)∧conLess9.val [.s (.sl tI a exa),.s (.sl tI b exb)]=.v (aS tI (dig (vl a - vl b)) false):=⟨rfl,rfl⟩
theorem less9_ok:PureOk prog 175 conLess9:=by
 refine pureOkD (L:={ live:=[0,1,4,5,6,7,8,13,27],frz:=[(12,[5])] }) nr4_good rfl nr_mixed func175 rfl conLess9 2 (by decide) (by kernel_rfl) ?_
 intro args hpre hlens
 simp only [conLess9] at hpre
 split at hpre
 case h_2=>exact hpre.elim
 rename_i a ea b eb
 simp only [lenS] at hlens
 refine ⟨rfl,?_⟩
 simp -dsimp -implicitDefEqProofs [f175,conLess9_eq,nr4_all,nr4_S,inI64]
 change List Int at a; change List Int at b
 obtain ⟨ha,hb,hle,hal⟩:=hpre
 refine WpD.turn _ (Turn.virt (k:=5) (t:=tI) (xs:=[]) (by simp [look])) ?_
 refine WpD.loop (L:={ live:=[0,1,4,5,6,7,8,13,27],frz:=[(12,[5])] }) nr4_good X0_ok nr_mixed (by kernel_rfl)
  (fun p:Nat×List Int×Nat=>⟨[(0,vS tI a ea),(1,vS tI b eb),(5,⟨true,.v (.s (.own tI 0 p.1))⟩),(6,vI p.2.2),(7,vI p.1)],[.arr (decide (0<p.1)) (tI.flats p.2.1)]⟩)
  (fun p=>p.1≤a.length∧p.2.1.length=p.1∧okD p.2.1∧(p.2.2=0∨p.2.2=1)∧vl p.2.1+vl (b.take p.1)=vl (a.take p.1)+1073741824 ^ p.1*p.2.2) (fun p=>a.length - p.1) (0,[],0)
  ⟨Nat.zero_le _,rfl,okD_nil,.inl rfl,by simp [vl]⟩ (Turn.le (by simp -dsimp -implicitDefEqProofs)) ?_
 rintro ⟨i,out,ow⟩ ⟨hi,hol,hoo,how,hov⟩
 simp only at hi hol hoo how hov
 simp -dsimp -implicitDefEqProofs [conLess9_eq,nr4_all,nr4_S,inI64]
 have hmx:4096≤maxLen:=by simp only [maxLen]; omega
 refine ⟨fun hil => ?_,fun hge=>⟨out,rfl,by omega,?_⟩⟩
 ·
  obtain ⟨l1,l2,l3⟩:=less_step ha hb.1 hil hol hoo how hov rfl
  have h1:=okD_get ha hil
  generalize hn:a[i]?.getD 0 - b[i]?.getD 0 - (ow:Int)=n at *
  refine ⟨hil,⟨by omega,by omega⟩,⟨by omega,by omega⟩,fun hneg => ?_,fun hpos => ?_⟩
  ·
   obtain ⟨k1,k2⟩:=l2 hneg
   refine ⟨⟨by omega,by omega⟩,⟨hol,by omega,by omega⟩,⟨by omega,by omega⟩,i+1,out++[n+1073741824],1,⟨by omega,by simp [hol],k1,.inr rfl,k2⟩,by omega,TurnT.le (by simp -dsimp -implicitDefEqProofs)⟩
  ·
   obtain ⟨k1,k2⟩:=l3 (by omega)
   refine ⟨⟨hol,by omega,by omega⟩,⟨by omega,by omega⟩,i+1,out++[n],0,⟨by omega,by simp [hol],k1,.inl rfl,k2⟩,by omega,TurnT.le (by simp -dsimp -implicitDefEqProofs)⟩
 ·
  obtain rfl:i=a.length:=by omega
  exact less_end ha hb hle hol hoo how hov
def nr5Γ:List (FuncId×Con):=(171,conTimes)::(175,conLess9)::nr4Γ
theorem nr5Γ_ok:OkΓ nr5Γ:=by
 simp only [OkΓ,nr5Γ,List.forall_mem_cons]
 exact ⟨⟨enters_of func171 (by kernel_rfl) rfl,times_ok⟩,⟨enters_of func175 (by kernel_rfl) rfl,less9_ok⟩,nr4Γ_ok⟩
def nr5E:=nr4E
theorem nr5E_ok:OkE nr5E:=nr4E_ok
def nr5P:=nr4P
theorem nr5P_ok:OkP nr5P:=nr4P_ok
def nr5F:=nr4F
theorem nr5F_ok:OkF nr5F:=nr4F_ok
def nr5:G:={ τ:=nrT,Γ:=nr5Γ,E:=nr5E,Pn:=nr5P,E2:=nr5F,fz:=[23,39] }
theorem nr5_good:nr5.good prog:=good_of_all (nrT_ok _ rfl) nr5Γ_ok nr5E_ok nr5P_ok nr5F_ok
theorem nr5_all:(∀ t,nr5.td t=(look nrT t).getD .other)∧nr5.y=false∧nr5.Γ=nr5Γ∧nr5.E=nr5E∧nr5.Pn=nr5P∧nr5.E2=nr5F∧nr5.fz=[23,39]∧nr5.te=false∧nr5.bo=false∧nr5.pm=false:=⟨fun _=>rfl,rfl,rfl,rfl,rfl,rfl,rfl,rfl,rfl,rfl⟩
def nr5_S:=And.intro (And.intro @nrT.eq_1 (And.intro @nr5Γ.eq_1 (And.intro @nr5E.eq_1 (And.intro @nr5P.eq_1 (And.intro @nr5F.eq_1 (And.intro @conTimes_eq (@conLess9_eq))))))) nr4_S
def conDivide:Con:=⟨fun args=>(match args with
 | [.s (.sl (.int .i64) a _),.s (.sl (.int .i64) b _)]=>canon a∧canon b∧0<vl b∧a.length≤2048∧b.length≤2048
 | _=>False),fun args=>match args with
 | [.s (.sl (.int .i64) a _),.s (.sl (.int .i64) b _)]=>.tup [aS tI (dig (vl a / vl b)) false,aS tI (dig (vl a % vl b)) false]
 | _=>.v (.s .any)⟩
theorem conDivide_eq (a:List (Ty.T tI)) (exa:Bool) (b:List (Ty.T tI)) (exb:Bool):conDivide.pre [.s (.sl tI a exa),.s (.sl tI b exb)]=(canon a∧canon b∧0<vl b∧a.length≤2048∧b.length≤2048)∧conDivide.val [.s (.sl tI a exa),.s (.sl tI b exb)]=.tup [aS tI (dig (vl a / vl b)) false,aS tI (dig (vl a % vl b)) false]:=⟨rfl,rfl⟩
theorem divide_ok:PureOk prog 128 conDivide:=by
 refine pureOkD (L:={ live:=[0,1,4,5,6,7,8,9,10,11,12,32,46,49,61],frz:=[(18,[6])] }) nr5_good rfl nr_mixed func128 rfl conDivide 2 (by decide) (by kernel_rfl) ?_
 intro args hpre hlens
 simp only [conDivide] at hpre
 split at hpre
 case h_2=>exact hpre.elim
 rename_i a ea b eb
 simp only [lenS] at hlens
 refine ⟨rfl,?_⟩
 simp -dsimp -implicitDefEqProofs [f128,conDivide_eq,nr5_all,nr5_S,inI64]
 change List Int at a; change List Int at b
 obtain ⟨ha,hb,hbp,ha2,hb2⟩:=hpre
 have hbl:0<b.length:=(vl_pos hb).1 hbp
 obtain ⟨st,hst⟩:∃ st:Nat,(if 0<(a.length:Int) - (b.length:Int)+1 then (a.length:Int) - (b.length:Int)+1 else 0)=(st:Int):=by
  split
  ·
   exact ⟨((a.length:Int) - (b.length:Int)+1).toNat,by omega⟩
  ·
   exact ⟨0,rfl⟩
 have hst2:st≤a.length∧a.length - st<b.length:=by
  split at hst <;> omega
 have hmx:4096≤maxLen:=by simp only [maxLen]; omega
 rw [hst]
 refine ⟨⟨by omega,by omega⟩,⟨by omega,by omega⟩,⟨by omega,by omega⟩,⟨by omega,by omega⟩,⟨by omega,by omega⟩,⟨by omega,by omega⟩,?_⟩
 simp only [Int.toNat_natCast]
 refine WpD.loop (L:={ live:=[0,1,4,5,6,7,8,9,10,11,12,32,46,49,61],frz:=[(18,[6])] }) nr5_good X0_ok nr_mixed (by kernel_rfl)
  (fun p:Nat×List Int×Nat=>⟨[(0,vS tI a ea),(1,vS tI b eb),(6,⟨true,.v (.s (.own tI 0 a.length))⟩),(8,vS tI (dig p.2.2) false),(9,vI ((p.1:Int) - 1))],[.arr true (tI.flats p.2.1),.dead]⟩)
  (fun p=>p.1≤a.length∧p.2.1.length=a.length∧okD p.2.1∧(∀ d∈p.2.1.take p.1,d=0)∧vl (a.drop p.1)=vl (p.2.1.drop p.1)*vl b+p.2.2∧p.2.2<vl b) (fun p=>p.1) (st,List.replicate a.length 0,vl (a.drop st))
  ⟨hst2.1,List.length_replicate,okD_rep _,fun d hd=>List.eq_of_mem_replicate (List.mem_of_mem_take hd),by simp [vl_rep],?_⟩ (Turn.le ?_) ?_
 ·
  have h1:=vl_lt (okD_drop ha.1 st)
  rw [List.length_drop] at h1
  have h2:¬ vl b<1073741824 ^ (b.length - 1):=fun h=>by have:=(canon_len hb).2 h; omega
  have h3:1073741824 ^ (a.length - st)≤1073741824 ^ (b.length - 1):=Nat.pow_le_pow_right (by decide) (by omega)
  show vl (a.drop st)<vl b
  omega
 ·
  simp -dsimp -implicitDefEqProofs [(dig_vl (okD_drop ha.1 st)).symm]
 rintro ⟨n,q,R⟩ ⟨hn,hql,hqo,hqz,hqv,hR⟩
 simp only at hn hql hqo hqz hqv hR
 simp -dsimp -implicitDefEqProofs [conDivide_eq,Nat.add_comm 1,nr5_all,nr5_S,inI64]
 refine ⟨fun h1 => ?_,fun h0=>⟨q,rfl,hql.symm,?_⟩⟩
 ·
  obtain ⟨k,rfl⟩:∃ k,n=k+1:=⟨n - 1,by omega⟩
  have hka:k<a.length:=by omega
  have e:((k+1:Nat):Int) - 1 - 1=(k:Int) - 1:=by omega
  have hak:=okD_get ha.1 hka
  rw [Nat.add_sub_cancel,div_push ha.1 hka,vl_dig]
  obtain ⟨x,hx⟩:∃ x,(a[k]?.getD 0).toNat=x:=⟨_,rfl⟩
  have hx2:x≤1073741823:=by omega
  have hRl:(dig R).length≤2048:=dig_le (Nat.lt_trans hR (vl_lt hb.1)) hb2
  have hR2:x+1073741824*R<(1073741823+1)*vl b:=div_lt hx2 hR
  have hRl2:(dig (x+1073741824*R)).length≤4096:=dig_le (k:=b.length+1) (by
   have:=vl_lt hb.1
   rw [Nat.pow_succ]
   omega) (by omega)
  have hrow:=fun lo=>div_row (lo:=lo) hka hql hqo hqz hqv
  rw [hx] at hrow ⊢
  generalize hN:x+1073741824*R=N at *
  refine ⟨⟨h1,by omega⟩,⟨by omega,by omega⟩,⟨canon_dig _,hb,by omega,by omega⟩,fun hlt => ?_,fun hge => ?_⟩
  ·
   rw [cmpN_neg] at hlt
   obtain ⟨r1,r2,r3⟩:=hrow 0 (by omega) (by omega)
   rw [set_same (by omega) hqz] at r1 r2 r3
   refine ⟨⟨by omega,by omega⟩,k,q,N,⟨by omega,hql,r1,r2,by simpa using r3,hlt⟩,by omega,?_⟩
   rw [e]
   exact TurnT.trunc X0_ok (hp:=[_,_]) (junk:=[_]) (by simp) (by simp only [List.length_cons,List.length_nil,List.all_cons,List.all_nil,arr_below,Bool.and_true] <;> simp [Blk.below,SV.below]) (by simp -dsimp -implicitDefEqProofs []) (by simp [envBelow,RV.below,AV.below,SV.below])
  ·
   have hge2:vl b≤N:=by
    rcases Nat.lt_or_ge N (vl b) with h | h
    ·
     have:=cmpN_neg.2 h; omega
    ·
     exact h
   refine WpD.loop (L:={ live:=[0,1,4,5,6,7,8,9,10,11,12,32,46,49,61],frz:=[(18,[6])] }) nr5_good X0_ok nr_mixed (by kernel_rfl)
    (fun p:Nat×Nat=>⟨[(0,vS tI a ea),(1,vS tI b eb),(6,⟨true,.v (.s (.own tI 0 a.length))⟩),(8,vS tI (dig N) false),(9,vI (((k+1:Nat):Int) - 1)),(10,vI p.1),(11,vI p.2)],[.arr true (tI.flats q),.dead,.dead]⟩)
    (fun p=>p.1≤p.2∧p.2≤1073741823∧p.1*vl b≤N∧N<(p.2+1)*vl b) (fun p=>p.2 - p.1) (0,1073741823)
    ⟨by omega,by omega,by omega,hR2⟩ (Turn.le (by simp -dsimp -implicitDefEqProofs)) ?_
   rintro ⟨lo,hi⟩ ⟨hlh,hhi,hlo,hNh⟩
   simp only at hlh hhi hlo hNh
   rcases Nat.lt_or_ge lo hi with hll | hll
   ·
    have e2:((lo:Int)+(hi:Int)+1).tdiv 2=(((lo+hi+1) / 2:Nat):Int):=by
     rw [Int.tdiv_eq_ediv_of_nonneg (by omega)]; omega
    obtain ⟨mid,hmid⟩:∃ mid,(lo+hi+1) / 2=mid:=⟨_,rfl⟩
    have hm1:lo<mid∧mid≤hi:=by omega
    rw [hmid] at e2
    have hvm:vl [(mid:Int)]=mid:=by rw [vl_one]; omega
    have hml:(dig (mid*vl b)).length≤4096:=dig_len_mul hb (m:=mid) (by omega) (Nat.le_refl _) (by omega)
    simp -dsimp -implicitDefEqProofs [conDivide_eq,e2,hll,hvm,nr5_all,nr5_S,inI64]
    rw [vl_dig,vl_dig]
    refine ⟨⟨by omega,by omega⟩,⟨by omega,by omega⟩,by omega,⟨okD_cons.2 ⟨⟨by omega,by omega⟩,okD_nil⟩,hb.1,hb2⟩,⟨canon_dig _,canon_dig _,hml,hRl2⟩,fun hle=>⟨mid,hi,⟨by omega,hhi,?_,hNh⟩,by omega,TurnT.le (by simp -dsimp -implicitDefEqProofs)⟩,fun hgt=>⟨by omega,lo,mid - 1,⟨by omega,by omega,hlo,?_⟩,by omega,TurnT.le (by simp -dsimp -implicitDefEqProofs; omega)⟩⟩
    ·
     rcases Nat.lt_or_ge N (mid*vl b) with h | h
     ·
      have:=cmpN_pos.2 h; omega
     ·
      exact h
    ·
     rw [Nat.sub_add_cancel (by omega)]
     exact cmpN_pos.1 hgt
   ·
    obtain rfl:lo=hi:=by omega
    have hnn:¬ lo<lo:=by omega
    have hvm:vl [(lo:Int)]=lo:=by rw [vl_one]; omega
    simp -dsimp -implicitDefEqProofs [conDivide_eq,hnn,nr5_all,nr5_S,inI64]
    rw [hvm,vl_dig,vl_dig,fl_set (by omega)]
    obtain ⟨r1,r2,r3⟩:=hrow lo (by omega) hlo
    have hlt:N - lo*vl b<vl b:=by
     rw [Nat.add_mul,Nat.one_mul] at hNh
     omega
    refine ⟨⟨hql,hka⟩,⟨hql,by omega⟩,⟨okD_cons.2 ⟨⟨by omega,by omega⟩,okD_nil⟩,hb.1,hb2⟩,⟨okD_dig _,canon_dig _,hlo,hRl2⟩,⟨by omega,by omega⟩,k,q.set k lo,N - lo*vl b,⟨by omega,by rw [List.length_set]; exact hql,r1,r2,r3,hlt⟩,by omega,?_⟩
    exact TurnT.trunc X0_ok (hp:=[_,_]) (junk:=[_]) (by simp) (by simp only [List.length_cons,List.length_nil,List.all_cons,List.all_nil,arr_below,Bool.and_true] <;> simp [Blk.below,SV.below]) (by simp -dsimp -implicitDefEqProofs []) (by simp [envBelow,RV.below,AV.below,SV.below])
 ·
  obtain rfl:n=0:=by omega
  rw [List.drop_zero,List.drop_zero] at hqv
  rw [← dig_vl hqo]
  have:=Nat.div_mod_unique hbp (a:=vl a) (c:=R) (d:=vl q)
  obtain ⟨d1,d2⟩:=this.2 ⟨by rw [hqv,Nat.mul_comm,Nat.add_comm],hR⟩
  rw [d1,d2]
  exact ⟨rfl,rfl⟩
def nr6Γ:List (FuncId×Con):=(128,conDivide)::nr5Γ
theorem nr6Γ_ok:OkΓ nr6Γ:=by
 simp only [OkΓ,nr6Γ,List.forall_mem_cons]
 exact ⟨⟨enters_of func128 (by kernel_rfl) rfl,divide_ok⟩,nr5Γ_ok⟩
def nr6E:=nr5E
theorem nr6E_ok:OkE nr6E:=nr5E_ok
def nr6P:=nr5P
theorem nr6P_ok:OkP nr6P:=nr5P_ok
def nr6F:=nr5F
theorem nr6F_ok:OkF nr6F:=nr5F_ok
def nr6:G:={ τ:=nrT,Γ:=nr6Γ,E:=nr6E,Pn:=nr6P,E2:=nr6F }
theorem nr6_good:nr6.good prog:=good_of_all (nrT_ok _ rfl) nr6Γ_ok nr6E_ok nr6P_ok nr6F_ok
theorem nr6_all:(∀ t,nr6.td t=(look nrT t).getD .other)∧nr6.y=false∧nr6.Γ=nr6Γ∧nr6.E=nr6E∧nr6.Pn=nr6P∧nr6.E2=nr6F∧nr6.fz=[]∧nr6.te=false∧nr6.bo=false∧nr6.pm=false:=⟨fun _=>rfl,rfl,rfl,rfl,rfl,rfl,rfl,rfl,rfl,rfl⟩
def nr6_S:=And.intro (And.intro @nrT.eq_1 (And.intro @nr6Γ.eq_1 (And.intro @nr6E.eq_1 (And.intro @nr6P.eq_1 (And.intro @nr6F.eq_1 (@conDivide_eq)))))) nr5_S
theorem natErr_0 {ng:Bool} {m:List Int}:natErr ng m=0↔okBig ng m:=by
 unfold natErr
 split <;> simp_all
theorem twoErr_0 {n1:Bool} {m1:List Int} {n2:Bool} {m2:List Int}:twoErr n1 m1 n2 m2=0↔okBig n1 m1∧okBig n2 m2:=by
 unfold twoErr
 split
 ·
  rw [natErr_0]; simp_all
 ·
  simp_all
def gcdD (n1:Bool) (m1:List Int) (n2:Bool) (m2:List Int):List Int:=if twoErr n1 m1 n2 m2=0 then dig (Nat.gcd (vl m1) (vl m2)) else []
def limD (n:Nat):List Int:=if (dig n).length≤2048 then dig n else []
def limE (n:Nat):Int:=if (dig n).length≤2048 then 0 else 2
structure TwoL where
 x:List Int
 ex:Bool
 y:List Int
 ey:Bool
def conOf9:Con:=⟨fun args=>(match args with
 | [.s (.bool ng),.s (.sl (.int .i64) m _)]=>okD m
 | _=>False),fun args=>match args with
 | [.s (.bool ng),.s (.sl (.int .i64) m _)]=>.tup [.agg [.bool (ng&&decide (limD (vl m)≠[])),.sl tI (limD (vl m)) false],aI (limE (vl m))]
 | _=>.v (.s .any)⟩
theorem conOf9_eq (ng:Bool) (m:List (Ty.T tI)) (exm:Bool):conOf9.pre [.s (.bool ng),.s (.sl tI m exm)]=(okD m)∧conOf9.val [.s (.bool ng),.s (.sl tI m exm)]=.tup [.agg [.bool (ng&&decide (limD (vl m)≠[])),.sl tI (limD (vl m)) false],aI (limE (vl m))]:=⟨rfl,rfl⟩
theorem of9_ok:PureOk prog 170 conOf9:=by
 refine pureOkD (L:={ live:=[0,1,4,5,10] }) nr6_good rfl nr_mixed func170 rfl conOf9 2 (by decide) (by kernel_rfl) ?_
 intro args hpre hlens
 simp only [conOf9] at hpre
 split at hpre
 case h_2=>exact hpre.elim
 rename_i ng m em
 simp only [lenS] at hlens
 refine ⟨rfl,?_⟩
 simp -dsimp -implicitDefEqProofs [f170,conOf9_eq,nr6_all,nr6_S,inI64]
 change List Int at m
 unfold limD limE
 rw [dig_vl hpre]
 refine ⟨fun h => ?_,fun h => ?_⟩
 ·
  rw [if_neg (by omega),if_neg (by omega)]; simp
 ·
  rw [if_pos (by omega),if_pos (by omega)]
  cases trimL m <;> simp
def conGcd9:Con:=⟨fun args=>(match args with
 | [.agg [.bool n1,.sl (.int .i64) m1 _],.agg [.bool n2,.sl (.int .i64) m2 _]]=>True
 | _=>False),fun args=>match args with
 | [.agg [.bool n1,.sl (.int .i64) m1 _],.agg [.bool n2,.sl (.int .i64) m2 _]]=>.tup [.agg [.bool false,.sl tI (gcdD n1 m1 n2 m2) false],aI (twoErr n1 m1 n2 m2)]
 | _=>.v (.s .any)⟩
theorem conGcd9_eq (n1:Bool) (m1:List (Ty.T tI)) (exm1:Bool) (n2:Bool) (m2:List (Ty.T tI)) (exm2:Bool):conGcd9.pre [.agg [.bool n1,.sl tI m1 exm1],.agg [.bool n2,.sl tI m2 exm2]]=(True)∧conGcd9.val [.agg [.bool n1,.sl tI m1 exm1],.agg [.bool n2,.sl tI m2 exm2]]=.tup [.agg [.bool false,.sl tI (gcdD n1 m1 n2 m2) false],aI (twoErr n1 m1 n2 m2)]:=⟨rfl,rfl⟩
def nr7Γ:List (FuncId×Con):=(170,conOf9)::nr6Γ
theorem nr7Γ_ok:OkΓ nr7Γ:=by
 simp only [OkΓ,nr7Γ,List.forall_mem_cons]
 exact ⟨⟨enters_of func170 (by kernel_rfl) rfl,of9_ok⟩,nr6Γ_ok⟩
def nr7E:=nr6E
theorem nr7E_ok:OkE nr7E:=nr6E_ok
def nr7P:=nr6P
theorem nr7P_ok:OkP nr7P:=nr6P_ok
def nr7F:=nr6F
theorem nr7F_ok:OkF nr7F:=nr6F_ok
def nr7:G:={ τ:=nrT,Γ:=nr7Γ,E:=nr7E,Pn:=nr7P,E2:=nr7F }
theorem nr7_good:nr7.good prog:=good_of_all (nrT_ok _ rfl) nr7Γ_ok nr7E_ok nr7P_ok nr7F_ok
theorem nr7_all:(∀ t,nr7.td t=(look nrT t).getD .other)∧nr7.y=false∧nr7.Γ=nr7Γ∧nr7.E=nr7E∧nr7.Pn=nr7P∧nr7.E2=nr7F∧nr7.fz=[]∧nr7.te=false∧nr7.bo=false∧nr7.pm=false:=⟨fun _=>rfl,rfl,rfl,rfl,rfl,rfl,rfl,rfl,rfl,rfl⟩
def nr7_S:=And.intro (And.intro @nrT.eq_1 (And.intro @nr7Γ.eq_1 (And.intro @nr7E.eq_1 (And.intro @nr7P.eq_1 (And.intro @nr7F.eq_1 (@conOf9_eq)))))) nr6_S
theorem gcd9_ok:PureOk prog 127 conGcd9:=by
 refine pureOkD (L:={ live:=[0,1,2,3,4,5,6,7,8,10,15,24] }) nr7_good rfl nr_mixed func127 rfl conGcd9 2 (by decide) (by kernel_rfl) ?_
 intro args hpre hlens
 simp only [conGcd9] at hpre
 split at hpre
 case h_2=>exact hpre.elim
 rename_i n1 m1 e1 n2 m2 e2
 simp only [lenS] at hlens
 refine ⟨rfl,?_⟩
 simp -dsimp -implicitDefEqProofs [f127,conGcd9_eq,nr7_all,nr7_S,inI64]
 change List Int at m1; change List Int at m2
 refine ⟨fun h => ?_,fun h => ?_⟩
 ·
  unfold gcdD; rw [if_neg h]
 obtain ⟨h1,h2⟩:=twoErr_0.1 h
 refine WpD.loop (L:={ live:=[0,1,2,3,4,5,6,7,8,10,15,24] }) nr7_good X0_ok nr_mixed (by kernel_rfl)
  (fun p:TwoL=>⟨[(4,⟨true,.v (.s (.box 2 0))⟩),(5,vI 0),(7,vS tI p.x p.ex),(8,vS tI p.y p.ey)],[.cells [.bool n1,.sl tI m1 e1],.cells [.bool n2,.sl tI m2 e2],.cells [.bool false,.sl tI [] true]]⟩)
  (fun p=>canon p.x∧canon p.y∧p.x.length≤2048∧p.y.length≤2048∧Nat.gcd (vl p.x) (vl p.y)=Nat.gcd (vl m1) (vl m2)) (fun p=>vl p.y) ⟨m1,e1,m2,e2⟩ ⟨h1.1,h2.1,h1.2.1,h2.2.1,rfl⟩ (Turn.le (by simp -dsimp -implicitDefEqProofs)) ?_
 rintro ⟨x,ex,y,ey⟩ ⟨hx,hy,hxl,hyl,hg⟩
 simp only at hx hy hxl hyl hg
 simp -dsimp -implicitDefEqProofs [conGcd9_eq,nr7_all,nr7_S,inI64]
 refine ⟨fun hp => ?_,fun he => ?_⟩
 ·
  have hvp:=(vl_pos hy).2 hp
  refine ⟨⟨hx,hy,hvp,hxl,hyl⟩,⟨y,ey,dig (vl x % vl y),false⟩,⟨hy,canon_dig _,hyl,?_,?_⟩,?_,TurnT.le (by simp -dsimp -implicitDefEqProofs)⟩
  ·
   show (dig _).length≤2048
   exact dig_le (Nat.lt_trans (Nat.mod_lt _ hvp) (vl_lt hy.1)) hyl
  ·
   show Nat.gcd (vl y) (vl (dig _))=_
   rw [vl_dig,← hg,Nat.gcd_comm (vl y),← Nat.gcd_rec,Nat.gcd_comm]
  ·
   show vl (dig _)<vl y
   rw [vl_dig]; exact Nat.mod_lt _ hvp
 ·
  subst he
  have hv:vl x=Nat.gcd (vl m1) (vl m2):=by rw [← hg]; simp [vl]
  have hl:(dig (vl x)).length≤2048:=by rw [canon_eq hx]; exact hxl
  refine ⟨hx.1,?_,?_⟩
  ·
   unfold limD gcdD
   rw [if_pos hl,if_pos h,hv]
  ·
   unfold limE
   rw [if_pos hl,h]
def cmpV9 (n1:Bool) (m1:List Int) (n2:Bool) (m2:List Int):Int:=if twoErr n1 m1 n2 m2=0 then cmpZ (sgn n1 m1) (sgn n2 m2) else 0
def conCmp9:Con:=⟨fun args=>(match args with
 | [.agg [.bool n1,.sl (.int .i64) m1 _],.agg [.bool n2,.sl (.int .i64) m2 _]]=>True
 | _=>False),fun args=>match args with
 | [.agg [.bool n1,.sl (.int .i64) m1 _],.agg [.bool n2,.sl (.int .i64) m2 _]]=>.tup [aI (cmpV9 n1 m1 n2 m2),aI (twoErr n1 m1 n2 m2)]
 | _=>.v (.s .any)⟩
theorem conCmp9_eq (n1:Bool) (m1:List (Ty.T tI)) (exm1:Bool) (n2:Bool) (m2:List (Ty.T tI)) (exm2:Bool):conCmp9.pre [.agg [.bool n1,.sl tI m1 exm1],.agg [.bool n2,.sl tI m2 exm2]]=(True)∧conCmp9.val [.agg [.bool n1,.sl tI m1 exm1],.agg [.bool n2,.sl tI m2 exm2]]=.tup [aI (cmpV9 n1 m1 n2 m2),aI (twoErr n1 m1 n2 m2)]:=⟨rfl,rfl⟩
theorem cmp9_ok:PureOk prog 118 conCmp9:=by
 refine pureOkD (L:={ live:=[0,1,2,3,4,5,6,11,17,19,21] }) nr7_good rfl nr_mixed func118 rfl conCmp9 2 (by decide) (by kernel_rfl) ?_
 intro args hpre hlens
 simp only [conCmp9] at hpre
 split at hpre
 case h_2=>exact hpre.elim
 rename_i n1 m1 e1 n2 m2 e2
 simp only [lenS] at hlens
 refine ⟨rfl,?_⟩
 simp -dsimp -implicitDefEqProofs [f118,conCmp9_eq,nr7_all,nr7_S,inI64]
 change List Int at m1; change List Int at m2
 refine ⟨fun h=>by unfold cmpV9; rw [if_neg h],fun h => ?_⟩
 obtain ⟨h1,h2⟩:=twoErr_0.1 h
 have hp1:n1=true→0<vl m1:=fun e=>(vl_pos h1.1).2 (List.length_pos_iff.2 (h1.2.2 e))
 have hp2:n2=true→0<vl m2:=fun e=>(vl_pos h2.1).2 (List.length_pos_iff.2 (h2.2.2 e))
 unfold cmpV9
 rw [if_pos h,h]
 have l1:=h1.2.1
 have l2:=h2.2.1
 refine ⟨fun hne=>⟨fun e1=>⟨?_,rfl⟩,fun e1=>⟨?_,rfl⟩⟩,fun he=>⟨fun e1=>⟨⟨h2.1,h1.1,by omega,by omega⟩,?_,rfl⟩,fun e1=>⟨⟨h1.1,h2.1,by omega,by omega⟩,?_,rfl⟩⟩⟩
 ·
  have e2:n2=false:=by cases n2 <;> simp_all
  subst e1 e2
  rw [sgn_true,sgn_false,cmpZ_lt]
  have:=hp1 rfl
  omega
 ·
  have e2:n2=true:=by cases n2 <;> simp_all
  subst e1 e2
  rw [sgn_true,sgn_false,cmpZ_gt]
  have:=hp2 rfl
  omega
 ·
  subst he e1
  rw [sgn_true,sgn_true,cmpZ_neg,cmpZ_nat]
 ·
  subst he e1
  rw [sgn_false,sgn_false,cmpZ_nat]
def mulD (n1:Bool) (m1:List Int) (n2:Bool) (m2:List Int):List Int:=if twoErr n1 m1 n2 m2=0 then limD (vl m1*vl m2) else []
def mulErr (n1:Bool) (m1:List Int) (n2:Bool) (m2:List Int):Int:=if twoErr n1 m1 n2 m2=0 then limE (vl m1*vl m2) else 90
def conMul9:Con:=⟨fun args=>(match args with
 | [.agg [.bool n1,.sl (.int .i64) m1 _],.agg [.bool n2,.sl (.int .i64) m2 _]]=>True
 | _=>False),fun args=>match args with
 | [.agg [.bool n1,.sl (.int .i64) m1 _],.agg [.bool n2,.sl (.int .i64) m2 _]]=>.tup [.agg [.bool ((n1 != n2)&&decide (mulD n1 m1 n2 m2≠[])),.sl tI (mulD n1 m1 n2 m2) false],aI (mulErr n1 m1 n2 m2)]
 | _=>.v (.s .any)⟩
theorem conMul9_eq (n1:Bool) (m1:List (Ty.T tI)) (exm1:Bool) (n2:Bool) (m2:List (Ty.T tI)) (exm2:Bool):conMul9.pre [.agg [.bool n1,.sl tI m1 exm1],.agg [.bool n2,.sl tI m2 exm2]]=(True)∧conMul9.val [.agg [.bool n1,.sl tI m1 exm1],.agg [.bool n2,.sl tI m2 exm2]]=.tup [.agg [.bool ((n1 != n2)&&decide (mulD n1 m1 n2 m2≠[])),.sl tI (mulD n1 m1 n2 m2) false],aI (mulErr n1 m1 n2 m2)]:=⟨rfl,rfl⟩
theorem mul9_ok:PureOk prog 119 conMul9:=by
 refine pureOkD (L:={ live:=[0,1,2,3,4,5,6,11] }) nr7_good rfl nr_mixed func119 rfl conMul9 2 (by decide) (by kernel_rfl) ?_
 intro args hpre hlens
 simp only [conMul9] at hpre
 split at hpre
 case h_2=>exact hpre.elim
 rename_i n1 m1 e1 n2 m2 e2
 simp only [lenS] at hlens
 refine ⟨rfl,?_⟩
 simp -dsimp -implicitDefEqProofs [f119,conMul9_eq,nr7_all,nr7_S,inI64]
 change List Int at m1; change List Int at m2
 refine ⟨fun h => ?_,fun h => ?_⟩
 ·
  have e1:mulD n1 m1 n2 m2=[]:=if_neg h
  have e2:mulErr n1 m1 n2 m2=90:=if_neg h
  have e3:twoErr n1 m1 n2 m2=90:=by
   unfold twoErr at h ⊢
   unfold natErr at h ⊢
   split
   ·
    rename_i hq; rw [if_pos hq] at h; split <;> simp_all
   ·
    rfl
  exact ⟨⟨fun _=>e1,e1⟩,by rw [e2,e3]⟩
 ·
  obtain ⟨h1,h2⟩:=twoErr_0.1 h
  rw [vl_dig]
  unfold mulD mulErr
  rw [if_pos h,if_pos h]
  exact ⟨⟨h1.1.1,h2.1.1,h1.2.1,h2.2.1⟩,okD_dig _,⟨rfl,rfl⟩,rfl⟩
def conMake9:Con:=⟨fun args=>(match args with
 | [.s (.int .i64 n)]=>inI64 n
 | _=>False),fun args=>match args with
 | [.s (.int _ n)]=>.v (.agg [.bool (decide (n<0)),.sl tI (dig n.natAbs) false])
 | _=>.v (.s .any)⟩
theorem conMake9_eq (n:Int):conMake9.pre [.s (.int .i64 n)]=(inI64 n)∧conMake9.val [.s (.int .i64 n)]=.v (.agg [.bool (decide (n<0)),.sl tI (dig n.natAbs) false]):=⟨rfl,rfl⟩
theorem make9_ok:PureOk prog 108 conMake9:=by
 refine pureOkD (L:={ live:=[0,2,3,4,5,9,15] }) nr0_good rfl nr_mixed func108 rfl conMake9 1 (by decide) (by kernel_rfl) ?_
 intro args hpre hlens
 simp only [conMake9] at hpre
 split at hpre
 case h_2=>exact hpre.elim
 rename_i n
 simp only [lenS] at hlens
 refine ⟨rfl,?_⟩
 simp -dsimp -implicitDefEqProofs [f108,conMake9_eq,nr0_all,nr0_S,inI64]
 refine WpD.turn _ (Turn.virt (k:=3) (t:=tI) (xs:=[]) (by simp [look])) ?_
 refine WpD.loop (L:={ live:=[0,2,3,4,5,9,15] }) nr0_good X0_ok nr_mixed (by kernel_rfl)
  (fun p:List Int×Int=>⟨[(0,vI n),(2,⟨true,.v (.s (.box 0 0))⟩),(3,⟨true,.v (.s (.own tI 1 p.1.length))⟩),(4,vI p.2)],[.cells [.bool false,.sl tI [] true],.arr (decide (0<p.1.length)) (tI.flats p.1)]⟩)
  (fun p=>okD p.1∧vl p.1+1073741824 ^ p.1.length*p.2.natAbs=n.natAbs∧(p.2=0→canon p.1)) (fun p=>p.2.natAbs) ([],n) ⟨okD_nil,by simp [vl],fun _=>canon_nil⟩ (Turn.le (by simp -dsimp -implicitDefEqProofs)) ?_
 rintro ⟨out,k⟩ ⟨ho,hv,hc⟩
 simp only at ho hv hc
 simp only [inI64] at hpre
 have hlen:k≠0→out.length≤2:=fun hk=>by
  apply Classical.byContradiction
  intro h3
  have h1:1073741824 ^ 3≤1073741824 ^ out.length:=Nat.pow_le_pow_right (by decide) (by omega)
  have h2:1≤k.natAbs:=by omega
  have h4:=Nat.mul_le_mul_left (1073741824 ^ out.length) h2
  simp only [Nat.reducePow] at h1
  omega
 have hmx:4096≤maxLen:=by simp only [maxLen]; omega
 have hkn:k.natAbs≤n.natAbs:=by
  have h1:=Nat.mul_le_mul_right k.natAbs (pow_pos' out.length)
  omega
 have hq:(k.tdiv 1073741824).natAbs=k.natAbs / 1073741824:=by rw [Int.natAbs_tdiv]; rfl
 have hr:(k.tmod 1073741824).natAbs=k.natAbs % 1073741824:=by rw [Int.natAbs_tmod]; rfl
 simp -dsimp -implicitDefEqProofs [conMake9_eq,nr0_all,nr0_S,inI64]
 refine ⟨fun hk => ?_,fun hk => ?_⟩
 ·
  have hl:=hlen hk
  refine ⟨fun hneg => ?_,fun hpos => ?_⟩
  ·
   obtain ⟨s1,s2⟩:=make_step ho hv (-(k.tmod 1073741824)) (by rw [if_pos hneg])
   exact ⟨⟨by omega,by omega⟩,⟨by omega,by omega⟩,⟨by omega,by omega⟩,_,_,⟨s1,s2,fun h0=>canon_snoc s1 (by omega)⟩,by omega,TurnT.le (by simp -dsimp -implicitDefEqProofs)⟩
  ·
   obtain ⟨s1,s2⟩:=make_step ho hv (k.tmod 1073741824) (by rw [if_neg (by omega)])
   exact ⟨⟨by omega,by omega⟩,⟨by omega,by omega⟩,_,_,⟨s1,s2,fun h0=>canon_snoc s1 (by omega)⟩,by omega,TurnT.le (by simp -dsimp -implicitDefEqProofs)⟩
 ·
  subst hk
  rw [← canon_eq (hc rfl)]
  simp at hv
  rw [hv]
def backL (m:List Int):List (List AV):=(List.range m.length).map fun t=>[aI (((m.length - 1 - t:Nat)):Int),aI (m[m.length - 1 - t]?.getD 0)]
theorem backL_len (m:List Int):(backL m).length=m.length:=by simp [backL]
theorem backL_get {m:List Int} {t:Nat} (h:t<m.length):(backL m)[t]?=some [aI (((m.length - 1 - t:Nat)):Int),aI (m[m.length - 1 - t]?.getD 0)]:=by
 simp [backL,h]
def itBack:ItCon:=⟨fun caps=>(match caps with
 | [.s (.eptr (.slice (.int .i64)) _)]=>True
 | _=>False),fun caps=>match caps with
 | [.s (.eptr (.slice (.int .i64)) xs)]=>backL xs
 | _=>[]⟩
theorem itBack_xs (xs:List Int):itBack.xs [.s (.eptr (.slice tI) xs)]=backL xs:=rfl
def nriΓ:List (FuncId×Con):=[]
theorem nriΓ_ok:OkΓ nriΓ:=by simp [nriΓ]
def nriE:List (FuncId×ECon):=[]
theorem nriE_ok:OkE nriE:=by simp [nriE]
def nriP:List (FuncId×PCon):=[]
theorem nriP_ok:OkP nriP:=by simp [nriP]
def nriF:List (FuncId×ECon2):=[]
theorem nriF_ok:OkF nriF:=by simp [nriF]
def nri:G:={ τ:=nrT,Γ:=nriΓ,E:=nriE,Pn:=nriP,E2:=nriF }
theorem nri_good:nri.good prog:=good_of_all (nrT_ok _ rfl) nriΓ_ok nriE_ok nriP_ok nriF_ok
theorem nri_all:(∀ t,nri.td t=(look nrT t).getD .other)∧nri.y=false∧nri.Γ=nriΓ∧nri.E=nriE∧nri.Pn=nriP∧nri.E2=nriF∧nri.fz=[]∧nri.te=false∧nri.bo=false∧nri.pm=false:=⟨fun _=>rfl,rfl,rfl,rfl,rfl,rfl,rfl,rfl,rfl,rfl⟩
def nriy:G:={ τ:=nrT,Γ:=nriΓ,E:=nriE,Pn:=nriP,E2:=nriF,y:=true }
theorem nriy_good:nriy.good prog:=good_of_all (nrT_ok _ rfl) nriΓ_ok nriE_ok nriP_ok nriF_ok
theorem nriy_all:(∀ t,nriy.td t=(look nrT t).getD .other)∧nriy.y=true∧nriy.Γ=nriΓ∧nriy.E=nriE∧nriy.Pn=nriP∧nriy.E2=nriF∧nriy.fz=[]∧nriy.te=false∧nriy.bo=false∧nriy.pm=false:=⟨fun _=>rfl,rfl,rfl,rfl,rfl,rfl,rfl,rfl,rfl,rfl⟩
theorem nriy_q:nriy.quiet=nri:=rfl
def nri_S:=And.intro @nrT.eq_1 (And.intro @nriΓ.eq_1 (And.intro @nriE.eq_1 (And.intro @nriP.eq_1 (@nriF.eq_1))))
theorem back1_ok:ItOk prog 203 itBack:=by
 refine itOkD (L:={ live:=[0,1,3,8,18] }) nriy_good rfl nr_mixed func203 (enters_of func203 (by kernel_rfl) rfl) rfl rfl itBack 1 (by decide) (by kernel_rfl) ?_
 intro caps l hpre hlens
 simp only [itBack] at hpre
 split at hpre
 ·
  rename_i xs
  obtain ⟨⟨hl,_⟩,_⟩:=hlens
  change List Int at xs
  refine ⟨rfl,fun X hX => ?_⟩
  rw [itBack_xs]
  simp only [maxLen] at hl
  simp -dsimp -implicitDefEqProofs [f203,nriy_q,nriy_all,nri_all,nri_S,inI64]
  refine ⟨⟨by omega,by omega⟩,?_⟩
  refine WpD.loop (L:={ live:=[0,1,3,8,18] }) nriy_good hX nr_mixed (by kernel_rfl)
   (fun t:Nat=>⟨[(0,⟨true,.v (.s (.val (.func (.yield l) #[] #[])))⟩),(1,⟨true,.v (.s (.eptr (.slice tI) xs))⟩),(3,vI ((xs.length:Int) - 1 - t))],[.trace l (backL xs) t false]⟩)
   (fun t=>t≤xs.length) (fun t=>xs.length - t) 0 (by simp) (Turn.le (by simp -dsimp -implicitDefEqProofs)) ?_
  intro t ht
  rcases Nat.lt_or_ge t xs.length with hlt | hge
  ·
   have hg:=backL_get hlt
   have e1:((xs.length:Int) - 1 - t)=((xs.length - 1 - t:Nat):Int):=by omega
   have h2:xs.length - 1 - t<xs.length:=by omega
   have e2:((xs.length - 1 - t:Nat):Int) - 1=(xs.length:Int) - 1 - ((t+1:Nat):Int):=by omega
   simp -dsimp -implicitDefEqProofs [e1,hg,h2,nriy_q,nriy_all,nri_all,nri_S,inI64]
   refine ⟨⟨by omega,by omega⟩,t+1,by omega,by omega,TurnT.le (by simp -dsimp -implicitDefEqProofs [e2])⟩
  ·
   obtain rfl:t=xs.length:=by omega
   simp -dsimp -implicitDefEqProofs [backL_len,nriy_q,nriy_all,nri_all,nri_S,inI64]
   omega
 ·
  exact hpre.elim
def conBack:Con:=⟨fun args=>(match args with
 | [.s (.sl (.int .i64) m _)]=>True
 | _=>False),fun args=>match args with
 | [.s (.sl (.int .i64) m _)]=>.v (.s (.fnp 203 [⟨.slice tI,m⟩]))
 | _=>.v (.s .any)⟩
theorem conBack_eq (m:List (Ty.T tI)) (exm:Bool):conBack.pre [.s (.sl tI m exm)]=(True)∧conBack.val [.s (.sl tI m exm)]=.v (.s (.fnp 203 [⟨.slice tI,m⟩])):=⟨rfl,rfl⟩
theorem back_ok:PureOk prog 180 conBack:=by
 refine pureOkD (L:={ live:=[0,1,2] }) nri_good rfl nr_mixed func180 rfl conBack 1 (by decide) (by kernel_rfl) ?_
 intro args hpre hlens
 simp only [conBack] at hpre
 split at hpre
 case h_2=>exact hpre.elim
 rename_i m em
 simp only [lenS] at hlens
 refine ⟨rfl,?_⟩
 simp -dsimp -implicitDefEqProofs [f180,conBack_eq,nri_all,nri_S,inI64]
 done
def nrjΓ:List (FuncId×Con):=(180,conBack)::nriΓ
theorem nrjΓ_ok:OkΓ nrjΓ:=by
 simp only [OkΓ,nrjΓ,List.forall_mem_cons]
 exact ⟨⟨enters_of func180 (by kernel_rfl) rfl,back_ok⟩,nriΓ_ok⟩
def nrjE:=nriE
theorem nrjE_ok:OkE nrjE:=nriE_ok
def nrjP:=nriP
theorem nrjP_ok:OkP nrjP:=nriP_ok
def nrjF:=nriF
theorem nrjF_ok:OkF nrjF:=nriF_ok
def nrj:G:={ τ:=nrT,Γ:=nrjΓ,E:=nrjE,Pn:=nrjP,E2:=nrjF }
theorem nrj_good:nrj.good prog:=good_of_all (nrT_ok _ rfl) nrjΓ_ok nrjE_ok nrjP_ok nrjF_ok
theorem nrj_all:(∀ t,nrj.td t=(look nrT t).getD .other)∧nrj.y=false∧nrj.Γ=nrjΓ∧nrj.E=nrjE∧nrj.Pn=nrjP∧nrj.E2=nrjF∧nrj.fz=[]∧nrj.te=false∧nrj.bo=false∧nrj.pm=false:=⟨fun _=>rfl,rfl,rfl,rfl,rfl,rfl,rfl,rfl,rfl,rfl⟩
def nrj_S:=And.intro (And.intro @nrT.eq_1 (And.intro @nrjΓ.eq_1 (And.intro @nrjE.eq_1 (And.intro @nrjP.eq_1 (And.intro @nrjF.eq_1 (@conBack_eq)))))) nri_S
theorem down_ok:PureOk prog 139 conBack:=by
 refine pureOkD (L:={ live:=[0,2] }) nrj_good rfl nr_mixed func139 rfl conBack 1 (by decide) (by kernel_rfl) ?_
 intro args hpre hlens
 simp only [conBack] at hpre
 split at hpre
 case h_2=>exact hpre.elim
 rename_i m em
 simp only [lenS] at hlens
 refine ⟨rfl,?_⟩
 simp -dsimp -implicitDefEqProofs [f139,conBack_eq,nrj_all,nrj_S,inI64]
 done
def nr8Γ:List (FuncId×Con):=(139,conBack)::nr7Γ
theorem nr8Γ_ok:OkΓ nr8Γ:=by
 simp only [OkΓ,nr8Γ,List.forall_mem_cons]
 exact ⟨⟨enters_of func139 (by kernel_rfl) rfl,down_ok⟩,nr7Γ_ok⟩
def nr8E:=nr7E
theorem nr8E_ok:OkE nr8E:=nr7E_ok
def nr8P:=nr7P
theorem nr8P_ok:OkP nr8P:=nr7P_ok
def nr8F:=nr7F
theorem nr8F_ok:OkF nr8F:=nr7F_ok
def nr8:G:={ τ:=nrT,Γ:=nr8Γ,E:=nr8E,Pn:=nr8P,E2:=nr8F }
theorem nr8_good:nr8.good prog:=good_of_all (nrT_ok _ rfl) nr8Γ_ok nr8E_ok nr8P_ok nr8F_ok
theorem nr8_all:(∀ t,nr8.td t=(look nrT t).getD .other)∧nr8.y=false∧nr8.Γ=nr8Γ∧nr8.E=nr8E∧nr8.Pn=nr8P∧nr8.E2=nr8F∧nr8.fz=[]∧nr8.te=false∧nr8.bo=false∧nr8.pm=false:=⟨fun _=>rfl,rfl,rfl,rfl,rfl,rfl,rfl,rfl,rfl,rfl⟩
def nr8_S:=And.intro (And.intro @nrT.eq_1 (And.intro @nr8Γ.eq_1 (And.intro @nr8E.eq_1 (And.intro @nr8P.eq_1 (And.intro @nr8F.eq_1 (@conBack_eq)))))) nr7_S
def conNCmp:Con:=⟨fun args=>(match args with
 | [.s (.sl (.int .i64) a _),.s (.sl (.int .i64) b _)]=>canon a∧canon b
 | _=>False),fun args=>match args with
 | [.s (.sl (.int .i64) a _),.s (.sl (.int .i64) b _)]=>.v (aI (cmpN (vl a) (vl b)))
 | _=>.v (.s .any)⟩
theorem conNCmp_eq (a:List (Ty.T tI)) (exa:Bool) (b:List (Ty.T tI)) (exb:Bool):conNCmp.pre [.s (.sl tI a exa),.s (.sl tI b exb)]=(canon a∧canon b)∧conNCmp.val [.s (.sl tI a exa),.s (.sl tI b exb)]=.v (aI (cmpN (vl a) (vl b))):=⟨rfl,rfl⟩
theorem cmp_lens {a b:List Int} (ha:canon a) (hb:canon b) (h:¬ (a.length:Int)=b.length):cmpN (vl a) (vl b)=if b.length<a.length then 1 else -1:=by
 split
 ·
  rename_i h2; exact cmpN_gt (vl_len hb ha h2)
 ·
  exact cmpN_lt (vl_len ha hb (by omega))
theorem drop_eq_all {a b:List Int} (h:a.drop (a.length - a.length)=b.drop (a.length - a.length)):a=b:=by simpa using h
theorem ncmp_ok:PureOk prog 111 conNCmp:=by
 refine pureOkD (L:={ live:=[0,1,3,4,5,6,11,22,23,24,25,32] }) nr8_good rfl nr_mixed func111 rfl conNCmp 2 (by decide) (by kernel_rfl) ?_
 intro args hpre hlens
 simp only [conNCmp] at hpre
 split at hpre
 case h_2=>exact hpre.elim
 rename_i a ea b eb
 simp only [lenS] at hlens
 refine ⟨rfl,?_⟩
 simp -dsimp -implicitDefEqProofs [f111,conNCmp_eq,nr8_all,nr8_S,inI64]
 change List Int at a; change List Int at b
 obtain ⟨ha,hb⟩:=hpre
 refine ⟨fun hne => ?_,fun he => ?_⟩
 ·
  rw [cmp_lens ha hb hne]
  refine ⟨⟨by omega,by omega⟩,?_⟩
  split <;> rename_i h1
  ·
   have e1:(if (a.length:Int) - (b.length:Int)<1 then (a.length:Int) - (b.length:Int) else 1)=1:=by split <;> omega
   rw [e1]; omega
  ·
   exact ⟨⟨by omega,by omega⟩,⟨by omega,by omega⟩,by omega⟩
 have he:a.length=b.length:=by omega
 refine WpD.rangeFunc (L:={ live:=[0,1,3,4,5,6,11,22,23,24,25,32] }) (d:=⟨⟩) nr8_good nr_mixed rfl rfl 203 [⟨.slice tI,a⟩] (by simp -dsimp -implicitDefEqProofs) itBack back1_ok trivial (by decide) (by kernel_rfl) (by kernel_rfl) (by intro a b c d; simp -dsimp -implicitDefEqProofs)
  (fun t hp=>hp=[.cells [.sl tI b eb],.cells [.int .i64 0]]∧a.drop (a.length - t)=b.drop (a.length - t)) ⟨rfl,by rw [Nat.sub_zero,List.drop_eq_nil_of_le (Nat.le_refl _),List.drop_eq_nil_of_le (by omega)]⟩ ?_ ?_
 ·
  rintro t args hp hx ⟨rfl,hd⟩
  rw [List.map_singleton,show itBack.xs [capAV ⟨.slice tI,a⟩]=backL a from rfl] at hx
  have ht:t<a.length:=by
   obtain ⟨h1,_⟩:=List.getElem?_eq_some_iff.1 hx
   rwa [backL_len] at h1
  rw [backL_get ht] at hx
  injection hx with hx
  subst hx
  have hb2:a.length - 1 - t<b.length:=by omega
  have hk:a.length - t=a.length - 1 - t+1:=by omega
  have hk2:a.length - (t+1)=a.length - 1 - t:=by omega
  simp -dsimp -implicitDefEqProofs [hb2,conNCmp_eq,hk2,nr8_all,nr8_S,inI64]
  rw [hk] at hd
  have ha2:a.length - 1 - t<a.length:=by omega
  generalize a.length - 1 - t=i at *
  have eb:b[i]=b[i]?.getD 0:=by rw [List.getElem?_eq_getElem hb2]; rfl
  rw [eb]
  refine ⟨fun h=>(cmpN_lt (vl_less ha.1 hb.1 ha2 hb2 hd h)).symm,fun h1=>⟨fun h=>(cmpN_gt (vl_less hb.1 ha.1 hb2 ha2 hd.symm h)).symm,fun h=>⟨_,TrT.refl _ _,rfl,?_⟩⟩⟩
  rw [List.drop_eq_getElem_cons ha2,List.drop_eq_getElem_cons hb2,hd]
  congr 1
  rw [eb,← (show a[i]?.getD 0=a[i] by rw [List.getElem?_eq_getElem ha2]; rfl)]
  omega
 ·
  rintro hp ⟨rfl,hd⟩
  rw [List.map_singleton,show itBack.xs [capAV ⟨.slice tI,a⟩]=backL a from rfl,backL_len] at hd
  simp -dsimp -implicitDefEqProofs [conNCmp_eq,nr8_all,nr8_S,inI64]
  rw [drop_eq_all hd,cmpN_eq]
end Go.Am
