/-
  Parts of the proof: Whole regions: the order of the text, and any order.
-/
import Derived.Test.YtokckcnfojjpjaaNg9
import Derived.Control
set_option linter.unusedVariables false
set_option linter.unusedSimpArgs false
namespace Go.Proofs.Ytokckcnfojjpjaa
open Go.RowKit
def dstOk (N:Nat):Option Nat→Bool
 | none => true
 | some d => Nat.ble (d+1) N
def bR (P:Program) (N:Nat) (ops:Array Oper) (o:Oper):Option tB:=match pU P o with
 | none => none
 | some x => match dstOk N o.dst with
  | false => none
  | true => match o.guard with
   | none => some ⟨o.dst,x,none⟩
   | some (j,want) => match (ops[j]?).bind (·.dst) with
    | some t => some ⟨o.dst,x,some (t,want)⟩
    | none => none
def compL (P:Program) (N:Nat) (ops:Array Oper):List Oper→Option (List tB)
 | [] => some []
 | o :: r => match bR P N ops o with
  | none => none
  | some x => match compL P N ops r with
   | none => none
   | some xs => some (x :: xs)
structure CRel (base:Nat→Prop) (N:Nat) (D:List Deferred) (st:St) (a:Act) (w:World) (β:Nat→Nat):Prop where
 rel:SRel base st a w β
 size:a.tmps.size=N
 defers:a.defers=D
section
variable {P:Program} {base:Nat→Prop} {N:Nat} {D:List Deferred} {st:St} {a:Act} {w:World} {β:Nat→Nat}
theorem CRel.put {w':World} {β':Nat→Nat} {H':Hp} {d:Option Nat} {v:Value} {u:V} (h:CRel base N D st a w β) (hd:dstOk N d=true) (hp:HRel base w' β' H') (hx:Ext w β st.H w' β' H') (hv:RV (cx base w' β' H') u v) :
  CRel base N D (st.put d u H') (a.put d v) w' β':=by
 have he:∀ t q,st.env t=some q→RV (cx base w' β' H') q (a.tmps.getD t undef):=fun t q hq => (h.rel.env t q hq).to (hx.to base)
 cases d with
 | none => exact ⟨⟨hp,he⟩,h.size,h.defers⟩
 | some d =>
  have hlt:d<a.tmps.size:=by rw [h.size]; exact Nat.le_of_ble_eq_true hd
  refine ⟨⟨hp,fun t q hq => ?_⟩,by simp [Act.put,h.size],h.defers⟩
  show RV (cx base w' β' H') q ((a.tmps.setIfInBounds d v).getD t undef)
  by_cases hdt:d=t
  ·subst hdt
   have hq':some u=some q:=by
    have:Proofs.Ytokckcnfojjpjaa.put st.env d u d=some q:=hq
    simpa [Proofs.Ytokckcnfojjpjaa.put] using this
   cases hq'
   simp [hlt]
   exact hv
  ·have hq':st.env t=some q:=by
    have:Proofs.Ytokckcnfojjpjaa.put st.env d u t=some q:=hq
    rwa [put_ne hdt] at this
   have:=he t q hq'
   simpa [Array.getElem?_setIfInBounds_ne hdt] using this
theorem tmps_bool {t:Nat} {b:Bool} (h:SRel base st a w β) (ht:st.env t=some (.c (.bool b))):a.tmps[t]?=some (.bool b):=by
 have h1:=(h.env t _ ht).c_inv.bool_inv
 rcases Nat.lt_or_ge t a.tmps.size with hlt | hge
 ·simpa [hlt] using h1
 ·simp [hge,undef] at h1
theorem nO {ops:Array Oper} {o:Oper} {x:tB} (h:bR P N ops o=some x):pU P o=some x.op∧o.dst=x.dst∧dstOk N x.dst=true∧((o.guard=none∧x.guard=none)∨∃ j want t,o.guard=some (j,want)∧x.guard=some (t,want)∧(ops[j]?).bind (·.dst)=some t):=by
 unfold bR at h
 split at h
 ·cases h
 ·rename_i y hy
  split at h
  ·cases h
  ·rename_i hd
   split at h
   ·rename_i hg
    simp at h
    subst h
    exact ⟨hy,rfl,hd,.inl ⟨hg,rfl⟩⟩
   ·rename_i j want hg
    split at h
    ·rename_i t ht
     simp at h
     subst h
     exact ⟨hy,rfl,hd,.inr ⟨j,want,t,hg,rfl,ht⟩⟩
    ·cases h
theorem guard_sound {ops:Array Oper} {o:Oper} {x:tB} {A B:Prop} (h:SRel base st a w β) (hc:bR P N ops o=some x) (hg:guarded st.env x.guard A B) :
  (Region.wanted o (yielded ops a.tmps)=true∧A)∨(Region.wanted o (yielded ops a.tmps)=false∧B):=by
 obtain ⟨_,_,_,h2⟩:=nO hc
 rcases h2 with ⟨g1,g2⟩ | ⟨j,want,t,g1,g2,g3⟩
 ·rw [g2] at hg
  exact .inl ⟨by simp [Region.wanted,g1],hg⟩
 ·rw [g2] at hg
  unfold guarded at hg
  dsimp only at hg
  split at hg
  ·rename_i b hb
   have ht:=tmps_bool h hb
   have hy:yielded ops a.tmps j=some b:=by
    unfold yielded
    rw [g3]
    simp [ht]
   rcases gL hg with ⟨hp,hA⟩ | ⟨hp,hB⟩
   ·refine .inl ⟨?_,hA⟩
    cases want <;> cases b <;> simp_all [Region.wanted]
   ·refine .inr ⟨?_,hB⟩
    cases want <;> cases b <;> simp_all [Region.wanted]
  ·rename_i hb
   have h1:=h.env t _ hb
   have hy:yielded ops a.tmps j=none:=by
    unfold yielded
    rw [g3]
    generalize hz:a.tmps.getD t undef=z at h1
    cases h1
    rename_i hv
    cases hv
    rcases Nat.lt_or_ge t a.tmps.size with hlt | hge
    ·simp [hlt] at hz
     simp [hlt,hz]
    ·simp [hge]
   refine .inr ⟨?_,hg⟩
   cases want <;> simp_all [Region.wanted]
  ·exact hg.elim
def After (base:Nat→Prop) (N:Nat) (D:List Deferred) (w:World) (β:Nat→Nat) (H:Hp) (K:St→Prop) (a':Act) (w':World):Prop :=
 ∃ st' β',CRel base N D st' a' w' β'∧Ext w β H w' β' st'.H∧K st'
theorem reg_sound {ops:Array Oper} {Q:Exit→Act→World→Prop} {K:St→Prop}:∀ (l:List Oper) (xs:List tB) (st:St) (a:Act) (w:World) (β:Nat→Nat),compL P N ops l=some xs→CRel base N D st a w β →
  (∀ a' w',After base N D w β st.H K a' w'→Q .normal a' w')→awpOps P xs st K→wpList P ops Q l a w
 | [],xs,st,a,w,β,hc,hr,hQ,h => by
  simp [compL] at hc
  subst hc
  exact hQ a w ⟨st,β,hr,Ext.refl _ _ _,h⟩
 | o :: r,xs,st,a,w,β,hc,hr,hQ,h => by
  unfold compL at hc
  split at hc
  ·cases hc
  ·rename_i x hx
   split at hc
   ·cases hc
   ·rename_i ys hys
    simp at hc
    subst hc
    obtain ⟨c1,c2,c3,_⟩:=nO hx
    unfold awpOps stepX at h
    have goOn:∀ (v:Value) (u:V) (w':World) (β':Nat→Nat) (H':Hp),HRel base w' β' H'→Ext w β st.H w' β' H'→RV (cx base w' β' H') u v→awpOps P ys (st.put x.dst u H') K→wpList P ops Q r (a.put o.dst v) w':=by
     intro v u w' β' H' hp hxt hv hk
     rw [c2]
     have hr':=hr.put c3 hp hxt hv
     have hH:(st.put x.dst u H').H=H':=by cases x.dst <;> rfl
     refine reg_sound r ys _ _ _ _ hys hr' (fun a' w'' ha => hQ a' w'' ?_) hk
     obtain ⟨st',β'',h1,h2,h3⟩:=ha
     rw [hH] at h2
     exact ⟨st',β'',h1,hxt.trans h2,h3⟩
    unfold wpList
    rcases guard_sound hr.rel hx h with ⟨hw,hA⟩ | ⟨hw,hB⟩
    ·rw [if_pos hw]
     refine .inl (Oper.wp_mono ?_ (xop_sound hr.rel c1 hA))
     rintro a' w' ⟨v,u,β',H',rfl,hk,hp,hxt,hv⟩
     exact goOn v u w' β' H' hp hxt hv hk
    ·rw [if_neg (by simp [hw])]
     exact goOn undef (.tup []) w β st.H hr.rel.hp (Ext.refl _ _ _) (.tup .nil) hB
structure RegOk (P:Program) (N:Nat) (ops:Array Oper) (B:List Nat) (ds:List DOp):Prop where
 comp:∀ d∈ds,∃ o x,ops[d.idx]?=some o∧bR P N ops o=some x∧(d.o=x∨d.o={ x with op:=frzOp x.op })
 all:∀ i,i<ops.size→∃ d∈ds,d.idx=i
 nodup:(ds.map (·.idx)).Nodup
 early:∀ (i:Nat) (o:Oper),ops[i]?=some o→∀ e∈o.after,Region.binds .any e=true→e.on<i
 anc:∀ i j,(B.getD i 0).testBit j=true→∃ o,ops[i]?=some o∧∃ e∈o.after,Region.binds .any e=true∧(e.on=j∨(B.getD e.on 0).testBit j=true)
 pairs:ds.Pairwise fun d1 d2 => (B.getD d2.idx 0).testBit d1.idx=true∨gZ d1 d2
theorem anc_listed {ops:Array Oper} {B:List Nat} {ds:List DOp} (hk:RegOk P N ops B ds) {listed:Array Bool}
  (hcl:∀ i o,ops[i]?=some o→listed.getD i false=true→∀ e∈o.after,Region.binds .any e=true→listed.getD e.on false=true) :
  ∀ i j:Nat,(∀ o,ops[i]?=some o→∀ e∈o.after,Region.binds .any e=true→listed.getD e.on false=true)→(B.getD i 0).testBit j=true→listed.getD j false=true:=by
 intro i
 induction i using Nat.strongRecOn with
 | _ i ih =>
  intro j hi hb
  obtain ⟨o,ho,e,he,hbd,hor⟩:=hk.anc i j hb
  have h1:=hi o ho e he hbd
  rcases hor with rfl | hb'
  ·exact h1
  ·exact ih e.on (hk.early i o ho e he hbd) j (fun o' ho' e' he' hbd' => hcl e.on o' ho' h1 e' he' hbd') hb'
theorem nodup_map_split {α β:Type} {f:α→β} {l1 l2:List α} {x:α} (h:((l1++x :: l2).map f).Nodup):((l1++l2).map f).Nodup∧∀ y∈l1++l2,f y≠f x:=by
 simp only [List.map_append,List.map_cons,List.nodup_append,List.nodup_cons,List.mem_map,List.mem_cons,List.mem_append] at h ⊢
 obtain ⟨h1,⟨h2,h3⟩,h4⟩:=h
 refine ⟨⟨h1,h3,fun a ha b hb => h4 a ha b (.inr hb)⟩,fun y hy e => ?_⟩
 rcases hy with hy | hy
 ·exact h4 (f y) ⟨y,hy,rfl⟩ (f x) (.inl rfl) e
 ·exact h2 ⟨y,hy,e⟩
theorem any_sound {ops:Array Oper} {B:List Nat} {ds0:List DOp} {n0:Nat} {Q:Exit→Act→World→Prop} {K:St→Prop} (hk:RegOk P N ops B ds0) :
  ∀ (fuel:Nat) (ds:List DOp) (listed:Array Bool) (log:List (Nat × Option Nat)) (st:St) (a:Act) (w:World) (β:Nat→Nat),
   ds.length≤fuel→listed.size=ops.size→(∀ d∈ds,d∈ds0)→(ds.map (·.idx)).Nodup→(∀ i,i<ops.size→(listed.getD i true=false↔∃ d∈ds,d.idx=i)) →
   (ds.Pairwise fun d1 d2 => (B.getD d2.idx 0).testBit d1.idx=true∨gZ d1 d2) →
   (∀ i o,ops[i]?=some o→listed.getD i false=true→∀ e∈o.after,Region.binds .any e=true→listed.getD e.on false=true) →
   CRel base N D st a w β→(∀ a' w',After base N D w β st.H K a' w'→Q .normal a' w')→awpD P n0 ds log st K→wpAny P .any ops Q fuel listed a w:=by
 intro fuel
 induction fuel with
 | zero =>
  intro ds listed log st a w β hl hsz hin hnd hun hpw hcl hr hQ h
  have:ds=[]:=List.eq_nil_of_length_eq_zero (by omega)
  subst this
  refine ⟨?_,hQ a w ⟨st,β,hr,Ext.refl _ _ _,h⟩⟩
  refine List.eq_nil_iff_forall_not_mem.2 fun i hi => ?_
  obtain ⟨hf,o,ho,_⟩:=mem_ready.1 hi
  have hlt:=(Array.getElem?_eq_some_iff.1 ho).1
  obtain ⟨d,hd,_⟩:=(hun i hlt).1 hf
  cases hd
 | succ fuel ih =>
  intro ds listed log st a w β hl hsz hin hnd hun hpw hcl hr hQ h
  refine ⟨fun hready => ?_,fun i hi => ?_⟩
  ·-- nothing is ready: nothing is left
   have hnil:ds=[]:=by
    cases hds:ds with
    | nil => rfl
    | cons d0 dr =>
     exfalso
     have hex:∃ i,∃ d∈ds,d.idx=i:=⟨d0.idx,d0,by rw [hds]; simp,rfl⟩
     have hmin:∃ i,(∃ d∈ds,d.idx=i)∧∀ j,(∃ d∈ds,d.idx=j)→i≤j:=by
      obtain ⟨i,hi⟩:=hex
      induction i using Nat.strongRecOn with
      | _ i ihi =>
       by_cases hj:∃ j,j<i∧∃ d∈ds,d.idx=j
       ·obtain ⟨j,hji,hd⟩:=hj
        exact ihi j hji hd
       ·exact ⟨i,hi,fun j hd => by
         rcases Nat.lt_or_ge j i with hlt | hge
         ·exact absurd ⟨j,hlt,hd⟩ hj
         ·exact hge⟩
     obtain ⟨i,⟨d,hd,rfl⟩,hle⟩:=hmin
     obtain ⟨o,_,ho,_⟩:=hk.comp d (hin d hd)
     have hlt:=(Array.getElem?_eq_some_iff.1 ho).1
     have hmem:d.idx∈Region.ready .any ops listed:=by
      refine mem_ready.2 ⟨(hun _ hlt).2 ⟨d,hd,rfl⟩,o,ho,fun e he hb => ?_⟩
      have hlt':=hk.early _ o ho e he hb
      cases hg:listed.getD e.on false with
      | true => rfl
      | false =>
       exfalso
       have hsz':e.on<listed.size:=by omega
       have:listed.getD e.on true=false:=by
        simp [hsz'] at hg ⊢
        exact hg
       have h3:=(hun e.on (by omega)).1 this
       have:=hle _ h3
       omega
     rw [hready] at hmem
     cases hmem
   subst hnil
   exact hQ a w ⟨st,β,hr,Ext.refl _ _ _,h⟩
  ·obtain ⟨hf,o,ho,hall⟩:=mem_ready.1 hi
   have hlt:=(Array.getElem?_eq_some_iff.1 ho).1
   obtain ⟨d,hd,rfl⟩:=(hun i hlt).1 hf
   obtain ⟨pre,post,rfl⟩:=List.append_of_mem hd
   obtain ⟨hnd',hne⟩:=nodup_map_split hnd
   have hswap:∀ x∈pre,gZ x d:=by
    intro x hx
    have hpw':=(List.pairwise_append.1 hpw).2.2 x hx d (by simp)
    rcases hpw' with hb | hs
    ·exfalso
     have h1:=anc_listed hk hcl d.idx x.idx (fun o' ho' e he hbd => by
      rw [ho] at ho'
      cases ho'
      exact hall e he hbd) hb
     obtain ⟨ox,_,hox,_⟩:=hk.comp x (hin x (by simp [hx]))
     have hxlt:=(Array.getElem?_eq_some_iff.1 hox).1
     have h2:=(hun x.idx hxlt).2 ⟨x,by simp [hx],rfl⟩
     have hxs:x.idx<listed.size:=by omega
     simp [hxs] at h1 h2
     rw [h1] at h2
     cases h2
    ·exact hs
   have h:=bring pre log st hswap h
   unfold awpD qB at h
   obtain ⟨_,h⟩:=wB h
   obtain ⟨o',x0,ho',hco,hx0⟩:=hk.comp d (hin d hd)
   rw [ho] at ho'
   cases ho'
   obtain ⟨c1,c2,c3,_⟩:=nO hco
   have hx1:d.o.op=x0.op∨d.o.op=frzOp x0.op:=by
    rcases hx0 with hx0 | hx0
    ·exact .inl (by rw [hx0])
    ·exact .inr (by rw [hx0])
   have hx2:d.o.dst=x0.dst:=by rcases hx0 with hx0 | hx0 <;> rw [hx0]
   have hx3:d.o.guard=x0.guard:=by rcases hx0 with hx0 | hx0 <;> rw [hx0]
   rw [←hx2] at c2 c3
   rw [hx3] at h
   have goOn:∀ (v:Value) (u:V) (w':World) (β':Nat→Nat) (H':Hp),HRel base w' β' H'→Ext w β st.H w' β' H'→RV (cx base w' β' H') u v→awpD P n0 (pre++post) ((d.idx,tch st.env (n0+d.aid) d.o.op) :: log) (st.put d.o.dst u H') K→wpAny P .any ops Q fuel (listed.setIfInBounds d.idx true) (a.put o.dst v) w':=by
    intro v u w' β' H' hp hxt hv hkk
    rw [c2]
    have hr':=hr.put c3 hp hxt hv
    have hH:(st.put d.o.dst u H').H=H':=by cases d.o.dst <;> rfl
    have hds:d.idx<listed.size:=by omega
    refine ih (pre++post) _ _ _ _ _ _ (by simp at hl ⊢; omega) (by simp [hsz]) (fun x hx => hin x (by simp at hx ⊢; rcases hx with hx | hx <;> simp [hx])) hnd' (fun i hi => ?_) ?_ ?_ hr' (fun a' w'' ha => hQ a' w'' ?_) hkk
    ·by_cases hid:d.idx=i
     ·subst hid
      constructor
      ·intro h1
       simp [hds] at h1
      ·rintro ⟨x,hx,he⟩
       exact absurd he (hne x hx)
     ·rw [getD_set_ne true hid,hun i hi]
      constructor
      ·rintro ⟨x,hx,he⟩
       refine ⟨x,?_,he⟩
       simp at hx ⊢
       rcases hx with hx | rfl | hx
       ·exact .inl hx
       ·exact absurd he hid
       ·exact .inr hx
      ·rintro ⟨x,hx,he⟩
       refine ⟨x,?_,he⟩
       simp at hx ⊢
       rcases hx with hx | hx
       ·exact .inl hx
       ·exact .inr (.inr hx)
    ·have h1:=List.pairwise_append.1 hpw
     have h2:=List.pairwise_cons.1 h1.2.1
     exact List.pairwise_append.2 ⟨h1.1,h2.2,fun x hx y hy => h1.2.2 x hx y (by simp [hy])⟩
    ·intro i oi hoi hli e he hbd
     by_cases hid:d.idx=i
     ·subst hid
      rw [ho] at hoi
      cases hoi
      exact getD_set_true (hall e he hbd)
     ·rw [getD_set_ne false hid] at hli
      exact getD_set_true (hcl i oi hoi hli e he hbd)
    ·obtain ⟨st',β'',h1,h2,h3⟩:=ha
     rw [hH] at h2
     exact ⟨st',β'',h1,hxt.trans h2,h3⟩
   unfold wpOp
   simp only [ho]
   rcases guard_sound hr.rel hco h with ⟨hw,hA⟩ | ⟨hw,hB⟩
   ·rw [if_pos hw]
    refine .inl (Oper.wp_mono ?_ (hA.elim (fun hA => xopD_sound2 hr.rel c1 hx1 hA) (fun hA => xop_sound2 hr.rel c1 hx1 (xop_mono_call (late_call hA.1) (fun _ _ h => h.2) hA.2))))
    rintro a' w' ⟨v,u,β',H',rfl,hk',hp,hxt,hv⟩
    exact goOn v u w' β' H' hp hxt hv hk'
   ·rw [if_neg (by simp [hw])]
    exact goOn undef (.tup []) w β st.H hr.rel.hp (Ext.refl _ _ _) (.tup .nil) hB
end
end Go.Proofs.Ytokckcnfojjpjaa
