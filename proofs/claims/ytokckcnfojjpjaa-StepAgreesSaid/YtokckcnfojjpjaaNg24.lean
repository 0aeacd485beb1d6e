/-
  Parts of the proof: The law that steps of a linear system are those of the polynomials (law19.StepAgrees).
-/
import Derived.Test.YtokckcnfojjpjaaNg23
set_option linter.unusedVariables false
set_option linter.unusedSimpArgs false
namespace Go.Proofs.Ytokckcnfojjpjaa
open Go.RowKit
set_option maxRecDepth 20000
def intL (l:List Int):List C:=l.map fun z => iC z
inductive TCs (lo N:Nat) (H:Hp):List C→List Tm→Prop
 | nil:TCs lo N H [] []
 | snoc {cs:List C} {l:List Tm} {w:R2} {X:List Int} {b:Nat} (h:TCs lo N H cs l) (h1:lo≤b) (h2:b<N) (hb:H[b]?=some (.live ⟨intL X,T_int,.rw⟩)) (hX:(∀ z∈X,-9223372036854775808≤z∧z<9223372036854775808)∧X.length<vZ):TCs lo N H (cs++(ratC w++[.sl b 0 X.length (some X.length) 1])) (l++[(w,X)])
def Same3 (lo N:Nat) (H H':Hp):Prop:=∀ j cs el,lo≤j→j<N→H[j]?=some (.live ⟨cs,el,.rw⟩)→(el=T_int∨el=uC)→H'[j]?=H[j]?
def SameI (lo N:Nat) (H H':Hp):Prop:=∀ j cs,lo≤j→j<N→H[j]?=some (.live ⟨cs,T_int,.rw⟩)→H'[j]?=H[j]?
theorem Same3.i {lo N:Nat} {H H':Hp} (h:Same3 lo N H H'):SameI lo N H H':=fun j cs h1 h2 h3 => h j cs _ h1 h2 h3 (.inl rfl)
theorem Same3.grow {lo N:Nat} {H X:Hp}:Same3 lo N H (H++X):=fun j cs el h1 h2 h3 h4 => List.getElem?_append_left (lt_of_getElem? h3)
theorem TCs.len {lo N:Nat} {H:Hp} {cs:List C} {l:List Tm} (h:TCs lo N H cs l):cs.length=l.length*3:=by
 induction h with
 | nil => rfl
 | snoc h h1 h2 hb hX ih => simp [ih,ratC,Nat.add_mul]
theorem TCs.keep {lo N lo' N':Nat} {H H':Hp} {cs:List C} {l:List Tm} (h:TCs lo N H cs l) (k:SameI lo N H H') (hlo:lo'≤lo) (hN:N≤N'):TCs lo' N' H' cs l:=by
 induction h with
 | nil => exact .nil
 | snoc h h1 h2 hb hX ih => exact .snoc ih (by omega) (by omega) ((k _ _ h1 h2 hb).trans hb) hX
def nS (lo N:Nat) (H:Hp) (c:C) (l:List Tm):Prop:=l.length<1048576∧((c=.nilSl∧l=[])∨∃ b co cells,c=.sl b 0 l.length co 3∧lo≤b∧b<N∧H[b]?=some (.live ⟨cells,uC,.rw⟩)∧TCs lo N H (cells.take (l.length*3)) l)
theorem nS.keep {lo N lo' N':Nat} {H H':Hp} {c:C} {l:List Tm} (h:nS lo N H c l) (k:Same3 lo N H H') (hlo:lo'≤lo) (hN:N≤N'):nS lo' N' H' c l:=by
 obtain ⟨h0,h⟩:=h
 refine ⟨h0,?_⟩
 rcases h with h | ⟨b,co,cells,h1,h2,h3,h4,h5⟩
 ·exact .inl h
 ·exact .inr ⟨b,co,cells,h1,by omega,by omega,(k _ _ _ h2 h3 h4 (.inr rfl)).trans h4,h5.keep k.i hlo hN⟩
inductive RCs (N:Nat) (H:Hp):List C→List Pl→Prop
 | nil:RCs N H [] []
 | snoc {cs:List C} {l:List Pl} {c:C} {p:Pl} (h:RCs N H cs l) (ht:nS 0 N H c p):RCs N H (cs++[c]) (l++[p])
theorem RCs.keep {N N':Nat} {H H':Hp} {cs:List C} {l:List Pl} (h:RCs N H cs l) (k:Same3 0 N H H') (hN:N≤N'):RCs N' H' cs l:=by
 induction h with
 | nil => exact .nil
 | snoc h ht ih => exact .snoc ih (ht.keep k (Nat.le_refl _) hN)
theorem RCs.len {N:Nat} {H:Hp} {cs:List C} {l:List Pl} (h:RCs N H cs l):cs.length=l.length:=by
 induction h with
 | nil => rfl
 | snoc h ht ih => simp [ih]
def FB (N:Nat) (H:Hp) (c:C) (l:List Pl):Prop:=∃ cs,RCs N H cs l∧((c=.nilSl∧l=[])∨∃ b co cells,c=.sl b 0 l.length co 1∧2≤b∧b<N∧H[b]?=some (.live ⟨cells,qN,.rw⟩)∧cells.take l.length=cs)
theorem FB.keep {N N':Nat} {H H':Hp} {c:C} {l:List Pl} (h:FB N H c l) (k:∀ j,2≤j→j<N→H'[j]?=H[j]?) (k0:∀ cs el,(H[0]?=some (.live ⟨cs,el,.rw⟩)∨H[1]?=some (.live ⟨cs,el,.rw⟩))→el≠T_int∧el≠uC) (hN:N≤N'):FB N' H' c l:=by
 obtain ⟨cs,h1,h2⟩:=h
 refine ⟨cs,h1.keep (fun j cs el _ g2 g3 g4 => ?_) hN,?_⟩
 ·rcases (show j=0∨j=1∨2≤j by omega) with rfl | rfl | g5
  ·obtain ⟨e1,e2⟩:=k0 _ _ (.inl g3)
   rcases g4 with g4 | g4
   ·exact absurd g4 e1
   ·exact absurd g4 e2
  ·obtain ⟨e1,e2⟩:=k0 _ _ (.inr g3)
   rcases g4 with g4 | g4
   ·exact absurd g4 e1
   ·exact absurd g4 e2
  ·exact k j g5 g2
 ·rcases h2 with h2 | ⟨b,co,cells,g1,g2,g3,g4,g5⟩
  ·exact .inl h2
  ·exact .inr ⟨b,co,cells,g1,g2,by omega,(k b g2 g3).trans g4,g5⟩
theorem FzL.append' {p:BK→Prop} {H:Hp}:∀ {cs ds cs' ds':List C},FzL p H cs ds→FzL p H cs' ds'→FzL p H (cs++cs') (ds++ds')
 | [],_,_,_,.nil,h2 => h2
 | _ :: _,_,_,_,.cons h t,h2 => .cons h (FzL.append' t h2)
theorem els_ints {X:List Int} (h:∀ z∈X,-9223372036854775808≤z∧z<9223372036854775808):Els elI (intL X) X:=by
 induction X with
 | nil => exact .nil
 | cons z X ih => exact .cons (cs:=[iC z]) ⟨rfl,h z (by simp)⟩ (ih fun y hy => h y (by simp [hy]))
theorem sl_close {H:Hp} {bs:List Nat} {b n es:Nat} {co:Option Nat} {cells ds:List C} {el:TypeId} (hb:H[b]?=some (.live ⟨cells,el,.rw⟩)) (hin:b∈bs) (hd:FzL (·=.ro) (xQ H bs) (cells.take (n*es)) ds):Fz (·=.ro) (xQ H bs) (.sl b 0 n co es) (.imm n ds):=by
 obtain ⟨k',h1,h2,h3⟩:=pP hb (.inl rfl) bs
 obtain rfl:=h3 hin
 exact .sl (bx:=⟨cells,el,.ro⟩) h1 rfl (by simp) (by rw [List.drop_zero]; exact hd)
theorem TCs.fz {lo N:Nat} {H:Hp} {cs:List C} {l:List Tm} (h:TCs lo N H cs l):∃ ds,FzL (·=.ro) (xQ H (List.range N)) cs ds∧Els elT ds l:=by
 induction h with
 | nil => exact ⟨[],.nil,.nil⟩
 | @snoc cs l w X b h h1 h2 hb hX ih =>
  obtain ⟨ds,g1,g2⟩:=ih
  have hl:(intL X).length=X.length:=by simp [intL]
  have e:=els_ints hX.1
  refine ⟨ds++(ratC w++[.imm X.length (intL X)]),g1.append' (FzL.append' (.hf (qU _)) (.cons (sl_close hb (List.mem_range.2 h2) (by rw [Nat.mul_one,←hl,List.take_length]; exact .hf e.hf)) .nil)),g2.snoc ⟨_,rfl,.imm e,hX.2⟩⟩
theorem RCs.fz {N:Nat} {H:Hp} {cs:List C} {l:List Pl} (h:RCs N H cs l):∃ ds,FzL (·=.ro) (xQ H (List.range N)) cs ds∧Els elM ds l:=by
 induction h with
 | nil => exact ⟨[],.nil,.nil⟩
 | @snoc cs l c p h ht ih =>
  obtain ⟨ds,g1,g2⟩:=ih
  obtain ⟨t0,ht⟩:=ht
  have hm:p.length<vZ:=by
   unfold vZ
   omega
  rcases ht with ⟨rfl,rfl⟩ | ⟨b,co,cells,rfl,_,h3,h4,h5⟩
  ·exact ⟨ds++[.nilSl],g1.append' (.cons (Fz.hf (c:=.nilSl) trivial) .nil),g2.snoc ⟨_,rfl,.nil,hm⟩⟩
  ·obtain ⟨ts,f1,f2⟩:=h5.fz
   exact ⟨ds++[.imm p.length ts],g1.append' (.cons (sl_close h4 (List.mem_range.2 h3) f1) .nil),g2.snoc ⟨_,rfl,.imm f2,hm⟩⟩
theorem FB.fz {N:Nat} {H:Hp} {c:C} {l:List Pl} (h:FB N H c l):∃ d,Fz (·=.ro) (xQ H (List.range N)) c d∧Ls elM d l:=by
 obtain ⟨cs,h1,h2⟩:=h
 obtain ⟨ds,g1,g2⟩:=h1.fz
 rcases h2 with ⟨rfl,rfl⟩ | ⟨b,co,cells,rfl,_,h4,h5,rfl⟩
 ·exact ⟨.nilSl,.hf trivial,.nil⟩
 ·exact ⟨_,sl_close h5 (List.mem_range.2 h4) (by rw [Nat.mul_one]; exact g1),.imm g2⟩
def linFm (k:Nat) (W:List R2) (i:Nat):List Pl:=(List.range i).map fun r => rowF k W r k
theorem linFm_succ {k i:Nat} {W:List R2}:linFm k W (i+1)=linFm k W i++[rowF k W i k]:=by simp [linFm,List.range_succ]
theorem linFm_len {k i:Nat} {W:List R2}:(linFm k W i).length=i:=by simp [linFm]
theorem unit_cells {k j:Nat} (hj:j<k):splice (List.replicate (((k+1:Nat):Int).toNat) [C.int .i64 0]).flatten j [C.int .i64 1]=intL (unitL k j):=by
 have e:(List.replicate (((k+1:Nat):Int).toNat) [C.int .i64 0]).flatten=List.replicate (k+1) (C.int .i64 0):=by
  rw [Int.toNat_natCast]
  simp
 rw [e]
 unfold splice unitL intL
 rw [List.map_set,List.map_replicate,List.set_eq_take_append_cons_drop,if_pos (by simp; omega)]
 simp
 rfl
theorem rowF_len {k i:Nat} {W:List R2}:∀ {j:Nat},(rowF k W i j).length≤j
 | 0 => Nat.le_refl _
 | j+1 => by
  have:=rowF_len (k:=k) (i:=i) (W:=W) (j:=j)
  rw [rowF,List.length_append]
  split <;> simp <;> omega
theorem SameI.app {lo N b:Nat} {H:Hp} {cells:List C} {X:Hp} (hb:H[b]?=some (.live ⟨cells,uC,.rw⟩)):SameI lo N H (H.set b .dead++X):=fun j cs h1 h2 h3 => by
 have hne:b≠j:=fun e => by
  subst e
  rw [hb] at h3
  simp at h3
  exact absurd h3.2 (by decide)
 rw [List.getElem?_append_left (by simp; exact lt_of_getElem? h3),List.getElem?_set_ne hne]
theorem app_terms {lo N nX bu:Nat} {H:Hp} {cL:C} {l:List Tm} {w:R2} {X:List Int} {s x:Option V} {K:V→Hp→Prop} (hT:nS lo N H cL l) (hN:N≤H.length) (hlo:lo≤H.length) (hnx:nX=X.length) (hu:H[bu]?=some (.live ⟨intL X,T_int,.rw⟩)) (hb1:lo≤bu) (hX:(∀ z∈X,-9223372036854775808≤z∧z<9223372036854775808)∧X.length<vZ) (hl:l.length<1000) (hs:s=some (.c cL)) (hx:x=some (.c (.imm 1 (ratC w++[.sl bu 0 nX (some nX) 1]))))
  (q:∀ c' H3,H.length<H3.length→(∀ j,j<lo→H3[j]?=H[j]?)→nS lo H3.length H3 c' (l++[(w,X)])→K (.c c') H3):appX H uC 3 40 s x K:=by
 subst hnx hs hx
 have hbl:=lt_of_getElem? hu
 obtain ⟨_,hT⟩:=hT
 have hlen:(l++[(w,X)]).length=l.length+1:=by simp
 rcases hT with ⟨rfl,rfl⟩ | ⟨b,co,cells,rfl,b1,b2,hb,hTC⟩
 ·show chk _ _
  refine xF (by rfl) ?_
  show chk _ _
  refine xF (by rw [yE.2 (by omega),yE.2 (by omega)]; rfl) ?_
  refine q (.sl H.length 0 1 none 3) (H++[.live ⟨ratC w++[.sl bu 0 X.length (some X.length) 1],uC,.rw⟩]) (by simp) (fun j hj => List.getElem?_append_left (by omega)) ⟨by simp,.inr ⟨H.length,none,_,rfl,hlo,by simp,yJ _ _,?_⟩⟩
  have:=TCs.snoc (lo:=lo) (N:=(H++[Slot.live ⟨ratC w++[.sl bu 0 X.length (some X.length) 1],uC,.rw⟩]).length) (H:=H++[.live ⟨ratC w++[.sl bu 0 X.length (some X.length) 1],uC,.rw⟩]) (w:=w) .nil hb1 (by simp; omega) (by rw [List.getElem?_append_left hbl]; exact hu) hX
  exact this
 ·have hcl:(cells.take (l.length*3)).length=l.length*3:=hTC.len
  have hle:l.length*3≤cells.length:=by
   rw [List.length_take] at hcl
   omega
  refine app_sl (cs:=cells) (xs:=ratC w++[.sl bu 0 X.length (some X.length) 1]) (m:=1) rfl rfl rfl rfl rfl hb hle (by omega) (by omega) ?_
  refine q _ _ (by simp) (fun j hj => ?_) ⟨by rw [hlen]; omega,.inr ⟨H.length,none,cells.take (l.length*3)++(ratC w++[.sl bu 0 X.length (some X.length) 1]),by rw [hlen],hlo,by simp,?_,?_⟩⟩
  ·rw [List.getElem?_append_left (by simp; omega),List.getElem?_set_ne (by omega)]
  ·have:=yJ (H.set b .dead) (.live ⟨cells.take (l.length*3)++(ratC w++[.sl bu 0 X.length (some X.length) 1]),uC,.rw⟩)
   rwa [show (H.set b Slot.dead).length=H.length by simp] at this
  ·have h1:=hTC.keep (H':=H.set b .dead++[.live ⟨cells.take (l.length*3)++(ratC w++[.sl bu 0 X.length (some X.length) 1]),uC,.rw⟩]) (lo':=lo) (N':=(H.set b .dead++[Slot.live ⟨cells.take (l.length*3)++(ratC w++[.sl bu 0 X.length (some X.length) 1]),uC,.rw⟩]).length) (SameI.app hb) (Nat.le_refl _) (by simp; omega)
   have h2:=h1.snoc (w:=w) hb1 (by simp; omega) ((SameI.app (lo:=lo) (N:=H.length) hb bu _ hb1 hbl hu).trans hu) hX
   have e:(cells.take (l.length*3)++(ratC w++[C.sl bu 0 X.length (some X.length) 1])).take ((l++[(w,X)]).length*3)=cells.take (l.length*3)++(ratC w++[C.sl bu 0 X.length (some X.length) 1]):=by
    rw [List.take_of_length_le]
    rw [hlen,List.length_append,hcl]
    simp [ratC]
    omega
   rw [e]
   exact h2
theorem Same3.app {lo N b:Nat} {H:Hp} {cells:List C} {X:Hp} (hb:H[b]?=some (.live ⟨cells,qN,.rw⟩)):Same3 lo N H (H.set b .dead++X):=fun j cs el h1 h2 h3 h4 => by
 have hne:b≠j:=fun e => by
  subst e
  rw [hb] at h3
  simp at h3
  rcases h4 with h4 | h4
  ·exact absurd (h3.2.trans h4) (by decide)
  ·exact absurd (h3.2.trans h4) (by decide)
 rw [List.getElem?_append_left (by simp; exact lt_of_getElem? h3),List.getElem?_set_ne hne]
theorem app_row {N:Nat} {H:Hp} {cF cL:C} {l:List Pl} {p:Pl} {s x:Option V} {K:V→Hp→Prop} (hF:FB N H cF l) (hN:N≤H.length) (h2:2≤H.length) (hT:nS 0 H.length H cL p) (hl:l.length<1000) (hs:s=some (.c cF)) (hx:x=some (.c (.imm 1 [cL])))
  (q:∀ c' H3,H.length<H3.length→(∀ j,j<2→H3[j]?=H[j]?)→FB H3.length H3 c' (l++[p])→K (.c c') H3):appX H qN 1 24 s x K:=by
 subst hs hx
 obtain ⟨cs,hR,hF⟩:=hF
 have hlen:(l++[p]).length=l.length+1:=by simp
 rcases hF with ⟨rfl,rfl⟩ | ⟨b,co,cells,rfl,b1,b2,hb,rfl⟩
 ·show chk _ _
  refine xF (by rfl) ?_
  show chk _ _
  refine xF (by rw [yE.2 (by omega),yE.2 (by omega)]; rfl) ?_
  refine q (.sl H.length 0 1 none 1) (H++[.live ⟨[cL],qN,.rw⟩]) (by simp) (fun j hj => List.getElem?_append_left (by omega)) ⟨[]++[cL],.snoc .nil (hT.keep Same3.grow (Nat.le_refl _) (by simp)),.inr ⟨H.length,none,_,rfl,h2,by simp,yJ _ _,rfl⟩⟩
 ·have hcl:(cells.take l.length).length=l.length:=hR.len
  have hle:l.length≤cells.length:=by
   rw [List.length_take] at hcl
   omega
  refine app_sl (cs:=cells) (xs:=[cL]) (m:=1) rfl rfl rfl rfl rfl hb (by omega) (by omega) (by omega) ?_
  rw [Nat.mul_one]
  refine q _ _ (by simp) (fun j hj => ?_) ⟨cells.take l.length++[cL],.snoc (hR.keep (Same3.app hb) (by simp; omega)) (hT.keep (Same3.app hb) (Nat.le_refl _) (by simp)),.inr ⟨H.length,none,cells.take l.length++[cL],by rw [hlen],h2,by simp,?_,?_⟩⟩
  ·rw [List.getElem?_append_left (by simp; omega),List.getElem?_set_ne (by omega)]
  ·have:=yJ (H.set b .dead) (.live ⟨cells.take l.length++[cL],qN,.rw⟩)
   rwa [show (H.set b Slot.dead).length=H.length by simp] at this
  ·rw [List.take_of_length_le]
   rw [hlen,List.length_append,hcl]
   simp
theorem linE_zero {m R Cc n:Int} {W x:List R2} {h:R2} (he:linE m R Cc W x h n=0):gY R Cc W∧¬ (¬ tA x∨¬ wL h.1 h.2∨m<0∨6<m∨h.1≤0∨n<0∨60<n)∧¬ (R≠Cc∨(x.length:Int)≠R):=by
 refine ⟨Classical.byContradiction fun h1 => ?_,Classical.byContradiction fun h1 => ?_,Classical.byContradiction fun h1 => ?_⟩
 ·rw [linE_mat h1] at he
  cases he
 ·rw [jT (Classical.not_not.1 h1)] at he
  cases he
 ·have h1:=Classical.not_not.1 h1
  unfold linE at he
  rw [yE.2 h1] at he
  cases h2:dec (gY R Cc W)
  ·rw [h2] at he
   cases he
  ·rw [h2] at he
   cases h3:dec (¬ tA x∨¬ wL h.1 h.2∨m<0∨6<m∨h.1≤0∨n<0∨60<n)
   ·rw [h3] at he
    cases he
   ·rw [h3] at he
    cases he
theorem lin_ok {m R Cc n:Int} {W x:List R2} {h:R2} {y:List Rat} (ho:qR m R Cc W x h n=.ok y):linE m R Cc W x h n=0∧∃ z,qQ m R.toNat (matM R.toNat (W.map rt)) (rt h) (x.map rt) n.toNat=some (y,z):=by
 unfold qR at ho
 cases h1:dec (linE m R Cc W x h n=0)
 ·rw [h1] at ho
  cases ho
 ·rw [h1] at ho
  refine ⟨yE.1 h1,?_⟩
  simp only [cond_true] at ho
  split at ho
  ·cases ho
  ·rename_i p hp
   rw [hp]
   cases h2:dec (pY p.1)
   ·rw [h2] at ho
    cases ho
   ·rw [h2] at ho
    simp only [cond_true,Except.ok.injEq] at ho
    subst ho
    exact ⟨p.2,rfl⟩
theorem eql_selfA (a:Int):yA Cm.eql a a=true:=by simp [yA]
attribute [local irreducible] yA semH semC qLen qNil qIad qSlc qIdx yW yI xA appX appI slcX awpF yP xH xopF xM qval lval seqQ xJ xY xU xR cnd arith IntKind.wrap
theorem law19_StepAgrees {cV cx:C} {W x:List R2} (m R Cc n:Int) (h:R2) (hV:Ls elP cV W) (hVl:W.length<9223372036854775808) (hx:Ls elP cx x) (hxl:x.length<9223372036854775808):semC Try.prog n_law19_StepAgrees [i64 m,.agg [iC R,iC Cc,cV],.c cx,.agg (ratC h),i64 n] TrueK:=by
 refine yD ok_law19_StepAgrees rfl (show HFVs [i64 m,.agg [iC R,iC Cc,cV],.c cx,.agg (ratC h),i64 n] from ⟨trivial,⟨trivial,trivial,hV.hf,trivial⟩,hx.hf,qU _,trivial,trivial⟩) ?_
 (refine go13 ?_; repeat (refine yC (by rfl) ?_; refine go13 ?_))
 refine yB (law19_IsLong R Cc n h hV hVl hx hxl) (fun u hu => ?_)
 obtain ⟨b,rfl⟩:=hu
 cases b
 case true =>
  (refine go13 ?_; repeat (refine yC (by rfl) ?_; refine go13 ?_))
  refine yB qI (fun u hu => ?_)
  obtain rfl:=hu
  (refine go13 ?_; repeat (refine yC (by rfl) ?_; refine go13 ?_))
  exact TrueK.fz
 (refine go13 ?_; repeat (refine yC (by rfl) ?_; refine go13 ?_))
 refine yB (step_Linear m R Cc n h hV hVl hx hxl) (fun u hu => ?_)
 rcases hu with ⟨y,c,ho,hyl,rfl,hc⟩ | ⟨e,ho,he,rfl⟩
 case inr =>
  (refine go13 ?_; repeat (refine yC (by rfl) ?_; refine go13 ?_))
  rw [show yA Cm.neq e 0=true by simp [yA,he]]
  (refine go13 ?_; repeat (refine yC (by rfl) ?_; refine go13 ?_))
  repeat refine d_guardT (by rfl) (by rfl) (by rfl) ?_
  (refine go13 ?_; repeat (refine yC (by rfl) ?_; refine go13 ?_))
  refine yB qI (fun u hu => ?_)
  obtain rfl:=hu
  (refine go13 ?_; repeat (refine yC (by rfl) ?_; refine go13 ?_))
  exact TrueK.fz
 obtain ⟨hE0,zz,hrun⟩:=lin_ok ho
 obtain ⟨hMO,harg,hfit⟩:=linE_zero hE0
 (refine go13 ?_; repeat (refine yC (by rfl) ?_; refine go13 ?_))
 rw [show yA Cm.neq 0 0=false by simp [yA]]
 (refine go13 ?_; repeat (refine yC (by rfl) ?_; refine go13 ?_))
 refine yB (ref04_Validate R Cc hV hVl) (fun u hu => ?_)
 obtain rfl:=hu
 rw [mat_ok hMO]
 (refine go13 ?_; repeat (refine yC (by rfl) ?_; refine go13 ?_))
 rw [show yA Cm.neq 0 0=false by simp [yA]]
 (refine go13 ?_; repeat (refine yC (by rfl) ?_; refine go13 ?_))
 rw [show yA Cm.neq R Cc=false by simp [yA]; omega]
 (refine go13 ?_; repeat (refine yC (by rfl) ?_; refine go13 ?_))
 cases q1:yA Cm.lss R 1
 case true =>
  (refine go13 ?_; repeat (refine yC (by rfl) ?_; refine go13 ?_))
  repeat refine d_guardT (by rfl) (by rfl) (by rfl) ?_
  (refine go13 ?_; repeat (refine yC (by rfl) ?_; refine go13 ?_))
  refine yB qI (fun u hu => ?_)
  obtain rfl:=hu
  (refine go13 ?_; repeat (refine yC (by rfl) ?_; refine go13 ?_))
  exact TrueK.fz
 simp [yA] at q1
 (refine go13 ?_; repeat (refine yC (by rfl) ?_; refine go13 ?_))
 cases q2:yA Cm.gtr R 3
 case true =>
  (refine go13 ?_; repeat (refine yC (by rfl) ?_; refine go13 ?_))
  refine yB qI (fun u hu => ?_)
  obtain rfl:=hu
  (refine go13 ?_; repeat (refine yC (by rfl) ?_; refine go13 ?_))
  exact TrueK.fz
 simp [yA] at q2
 (refine go13 ?_; repeat (refine yC (by rfl) ?_; refine go13 ?_))
 obtain ⟨k0,k12,_,_,hWl,hvW⟩:=hMO
 have hvx:tA x:=Classical.byContradiction fun hh => harg (.inl hh)
 have hvh:wL h.1 h.2:=Classical.byContradiction fun hh => harg (.inr (.inl hh))
 have hrest:0≤m∧m≤6∧0≤n∧n≤60:=by
  refine ⟨?_,?_,?_,?_⟩ <;> refine Classical.byContradiction fun hh => harg (.inr (.inr ?_)) <;> omega
 clear harg
 obtain ⟨rfl,hxR⟩:R=Cc∧(x.length:Int)=R:=by omega
 obtain ⟨k,hkR⟩:∃ k:Nat,R=(k:Int):=Int.eq_ofNat_of_zero_le k0
 subst hkR
 obtain ⟨n',rfl⟩:=Int.eq_ofNat_of_zero_le hrest.2.2.1
 rw [Int.toNat_natCast,Int.toNat_natCast] at hrun
 have hk3:k≤3:=by omega
 have hkk:k*k≤9:=Nat.mul_le_mul hk3 hk3
 have hWk:W.length=k*k:=by exact_mod_cast hWl
 have hxk:x.length=k:=by omega
 try refine goN ?_
 refine yX (fun w vs H => ∃ (i:Nat) (cF:C),vs=[i64 m,.c cx,i64 n',.c (.ptr 0 0),.c (.ptr 1 0),.c c,.c cF,i64 i]∧w=k - i∧i≤k∧2≤H.length∧H[0]?=some (.live ⟨[iC k,iC k,cV],T_api_Mat,.rw⟩)∧H[1]?=some (.live ⟨ratC h,uD,.rw⟩)∧FB H.length H cF (linFm k W i)) (by rfl) ⟨0,.nilSl,rfl,rfl,by omega,by simp,rfl,rfl,[],.nil,.inl ⟨rfl,rfl⟩⟩ ?_
 rintro w vs H ⟨i,cF,rfl,rfl,i1,hH2,hM,hh1,hF⟩
 (refine go13 ?_; repeat (refine yC (by rfl) ?_; refine go13 ?_))
 refine yU hM (by rfl) ?_
 (refine go13 ?_; repeat (refine yC (by rfl) ?_; refine go13 ?_))
 cases hi:yA Cm.lss (i:Int) (k:Int)
 case true =>
  simp [yA] at hi
  (refine go13 ?_; repeat (refine yC (by rfl) ?_; refine go13 ?_))
  try refine goN ?_
  refine yX (fun w vs H' => ∃ (j:Nat) (cL:C),vs=[i64 m,.c cx,i64 n',.c (.ptr 0 0),.c (.ptr 1 0),.c c,.c cF,i64 i,.c (.ptr H.length 0),i64 j]∧w=k - j∧j≤k∧H.length<H'.length∧H'[0]?=some (.live ⟨[iC k,iC k,cV],T_api_Mat,.rw⟩)∧H'[1]?=some (.live ⟨ratC h,uD,.rw⟩)∧H'[H.length]?=some (.live ⟨[cL],qN,.rw⟩)∧nS (H.length+1) H'.length H' cL (rowF k W i j)∧FB H.length H' cF (linFm k W i)) (by rfl) ⟨0,.nilSl,rfl,rfl,by omega,by simp,by rw [List.getElem?_append_left (by omega)]; exact hM,by rw [List.getElem?_append_left (by omega)]; exact hh1,yJ _ _,⟨by simp [rowF],.inl ⟨rfl,rfl⟩⟩,hF.keep (fun j h1 h2 => List.getElem?_append_left h2) (fun cs el hh => by rcases hh with hh | hh; (rw [hM] at hh; cases hh; decide); (rw [hh1] at hh; cases hh; decide)) (Nat.le_refl _)⟩ ?_
  clear hF hM hh1
  rintro w vs H' ⟨j,cL,rfl,rfl,j1,hl',hM,hh1,hp,hT,hF⟩
  (refine go13 ?_; repeat (refine yC (by rfl) ?_; refine go13 ?_))
  refine yU hM (by rfl) ?_
  (refine go13 ?_; repeat (refine yC (by rfl) ?_; refine go13 ?_))
  cases hj:yA Cm.lss (j:Int) (k:Int)
  case true =>
   simp [yA] at hj
   (refine go13 ?_; repeat (refine yC (by rfl) ?_; refine go13 ?_))
   refine yU hM (by rfl) ?_
   (refine go13 ?_; repeat (refine yC (by rfl) ?_; refine go13 ?_))
   rw [xL k (by omega)]
   refine vQ (by rfl) (by rfl) ⟨by omega,by omega,by omega,by omega⟩ ?_
   (refine go13 ?_; repeat (refine yC (by rfl) ?_; refine go13 ?_))
   refine xC (yJ _ _) (by rfl) (by rfl) (by simp; omega) ?_
   rw [gP,show 0+(j:Int).toNat*1=j by omega,unit_cells hj]
   (refine go13 ?_; repeat (refine yC (by rfl) ?_; refine go13 ?_))
   refine yU (by rw [List.getElem?_append_left (by omega)]; exact hM) (by rfl) ?_
   (refine go13 ?_; repeat (refine yC (by rfl) ?_; refine go13 ?_))
   refine yU (by rw [List.getElem?_append_left (by omega)]; exact hM) (by rfl) ?_
   (refine go13 ?_; repeat (refine yC (by rfl) ?_; refine go13 ?_))
   rw [ar_idx hi hj (by omega)]
   have hix:=idx_lt hi hj
   (refine go13 ?_; repeat (refine yC (by rfl) ?_; refine go13 ?_))
   refine uX hV (i:=i*k+j) (by omega) (by omega) rfl (fun e0 he0 => ?_)
   obtain rfl:e0=ratC (W[i*k+j]'(by omega)):=he0
   (refine go13 ?_; repeat (refine yC (by rfl) ?_; refine go13 ?_))
   simp only [List.append_assoc,List.cons_append,List.nil_append,List.length_append,List.length_cons,List.length_nil]
   have eW:W.getD (i*k+j) (0,1)=W[i*k+j]'(by omega):=by simp [List.getD,show i*k+j<W.length by omega]
   cases hN:yA Cm.neq (W[i*k+j]'(by omega)).1 0
   case false =>
    simp [yA] at hN
    have er:rowF k W i (j+1)=rowF k W i j:=by
     rw [rowF,eW,if_pos hN,List.append_nil]
    (refine go13 ?_; repeat (refine yC (by rfl) ?_; refine go13 ?_))
    rw [xL j (by omega)]
    exact l_n (by rfl) (n':=k - (j+1)) (by omega) ⟨j+1,cL,rfl,rfl,by omega,by simp; omega,by rw [List.getElem?_append_left (by omega)]; exact hM,by rw [List.getElem?_append_left (by omega)]; exact hh1,by rw [List.getElem?_append_left (by omega)]; exact hp,by rw [er]; exact hT.keep Same3.grow (Nat.le_refl _) (by simp),hF.keep (fun j h1 h2 => List.getElem?_append_left (by omega)) (fun cs el hh => by rcases hh with hh | hh; (rw [hM] at hh; cases hh; decide); (rw [hh1] at hh; cases hh; decide)) (Nat.le_refl _)⟩
   simp [yA] at hN
   have er:rowF k W i (j+1)=rowF k W i j++[(W[i*k+j]'(by omega),unitL k j)]:=by
    rw [rowF,eW,if_neg hN]
   obtain ⟨H2,e2⟩:∃ H2:Hp,H2=H'++[Slot.live ⟨intL (unitL k j),T_int,.rw⟩,Slot.live ⟨ratC (W[i*k+j]'(by omega)),uD,.rw⟩]:=⟨_,rfl⟩
   have l2:H2.length=H'.length+2:=by rw [e2]; simp
   have k2:∀ j,j<H'.length→H2[j]?=H'[j]?:=fun j hj => by rw [e2,List.getElem?_append_left hj]
   have u2:H2[H'.length]?=some (.live ⟨intL (unitL k j),T_int,.rw⟩):=by
    rw [e2,List.getElem?_append_right (Nat.le_refl _),Nat.sub_self]
    rfl
   have w2:H2[H'.length+1]?=some (.live ⟨ratC (W[i*k+j]'(by omega)),uD,.rw⟩):=by
    rw [e2,List.getElem?_append_right (Nat.le_add_right _ _),show H'.length+1 - H'.length=1 by omega]
    rfl
   have eS:splice [C.int .i64 0,C.int .i64 0] 0 (ratC (W[i*k+j]'(by omega)))=ratC (W[i*k+j]'(by omega)):=rfl
   rw [eS,←e2]
   clear e2
   (refine go13 ?_; repeat (refine yC (by rfl) ?_; refine go13 ?_))
   refine yU (by rw [k2 _ hl']; exact hp) (by rfl) ?_
   (refine go13 ?_; repeat (refine yC (by rfl) ?_; refine go13 ?_))
   refine yM w2 (by rfl) ?_
   (refine go13 ?_; repeat (refine yC (by rfl) ?_; refine go13 ?_))
   have hTk:nS (H.length+1) H'.length H2 cL (rowF k W i j):=hT.keep (fun j cs el h1 h2 h3 h4 => k2 j h2) (Nat.le_refl _) (Nat.le_refl _)
   have hul:(unitL k j).length=k+1:=by simp [unitL]
   refine app_terms (nX:=((k+1:Nat):Int).toNat) (X:=unitL k j) (bu:=H'.length) hTk (by omega) (by omega) (by rw [hul,Int.toNat_natCast]) u2 (by omega) ⟨fun z hz => ?_,by rw [hul]; unfold vZ; omega⟩ (by have:=rowF_len (k:=k) (i:=i) (W:=W) (j:=j); omega) (by rfl) (by rfl) (fun c' H3 g1 g2 g3 => ?_)
   ·unfold unitL at hz
    rcases List.mem_or_eq_of_mem_set hz with hz | rfl
    ·rw [(List.mem_replicate.1 hz).2]
     decide
    ·decide
   rw [←er] at g3
   have hp3:H3[H.length]?=some (.live ⟨[cL],qN,.rw⟩):=by rw [g2 _ (by omega),k2 _ hl']; exact hp
   have kk:∀ j,j≤H.length→H3[j]?=H'[j]?:=fun j hj => (g2 j (by omega)).trans (k2 j (by omega))
   (refine go13 ?_; repeat (refine yC (by rfl) ?_; refine go13 ?_))
   refine xC hp3 (by rfl) (by rfl) (by simp) ?_
   (refine go13 ?_; repeat (refine yC (by rfl) ?_; refine go13 ?_))
   rw [xL j (by omega)]
   exact l_n (by rfl) (n':=k - (j+1)) (by omega) ⟨j+1,c',rfl,rfl,by omega,by simp; omega,by rw [List.getElem?_set_ne (by omega),kk _ (by omega)]; exact hM,by rw [List.getElem?_set_ne (by omega),kk _ (by omega)]; exact hh1,by rw [List.getElem?_set_self (by omega)]; rfl,g3.keep (fun j cs el h1 h2 h3 h4 => List.getElem?_set_ne (by omega)) (Nat.le_refl _) (by simp),hF.keep (fun j h1 h2 => by rw [List.getElem?_set_ne (by omega),kk _ (by omega)]) (fun cs el hh => by rcases hh with hh | hh; (rw [hM] at hh; cases hh; decide); (rw [hh1] at hh; cases hh; decide)) (Nat.le_refl _)⟩
  simp [yA] at hj
  have ej:j=k:=by omega
  subst ej
  (refine go13 ?_; repeat (refine yC (by rfl) ?_; refine go13 ?_))
  refine yM hp (by rfl) ?_
  (refine go13 ?_; repeat (refine yC (by rfl) ?_; refine go13 ?_))
  refine app_row hF (by omega) (by omega) (hT.keep (fun j cs el h1 h2 h3 h4 => rfl) (Nat.zero_le _) (Nat.le_refl _)) (by rw [linFm_len]; omega) (by rfl) (by rfl) (fun c' H3 g1 g2 g3 => ?_)
  rw [←linFm_succ] at g3
  (refine go13 ?_; repeat (refine yC (by rfl) ?_; refine go13 ?_))
  rw [xL i (by omega)]
  exact l_n (by rfl) (n':=j - (i+1)) (by omega) ⟨i+1,c',rfl,rfl,by omega,by omega,by rw [g2 _ (by decide)]; exact hM,by rw [g2 _ (by decide)]; exact hh1,g3⟩
 simp [yA] at hi
 have ei:i=k:=by omega
 subst ei
 obtain ⟨d,f1,lf⟩:=hF.fz
 have hsys:linFm i W i=linF i W:=rfl
 rw [hsys] at lf
 have hfl:(linF i W).length=i:=linFm_len (k:=i) (W:=W)
 (refine go13 ?_; repeat (refine yC (by rfl) ?_; refine go13 ?_))
 refine yM hh1 (by rfl) ?_
 (refine go13 ?_; repeat (refine yC (by rfl) ?_; refine go13 ?_))
 refine xK (List.range H.length) (.cons (.c (.hf trivial)) (.cons (.c f1) (.cons (.agg (.hf (qU (0,1)))) (.cons (.c (.hf hx.hf)) (.cons (.agg (.hf (qU h))) (.cons (.c (.hf trivial)) (.cons (.c (.hf trivial)) .nil))))))) (step_Run m (0,1) h 0 n' lf (by rw [hfl]; unfold vZ; omega) hx (by unfold vZ; omega) (imp_all m)) (fun u hu => ?_)
 rcases hu with ⟨_,e,_,he,rfl⟩ | ⟨_,out,c3,hr,_,hol,rfl,l3⟩ | ⟨_,e,he,rfl,_⟩
 ·(refine go13 ?_; repeat (refine yC (by rfl) ?_; refine go13 ?_))
  rw [show yA Cm.neq e 0=true by simp [yA,he]]
  (refine go13 ?_; repeat (refine yC (by rfl) ?_; refine go13 ?_))
  refine yB qI (fun u hu => ?_)
  obtain rfl:=hu
  (refine go13 ?_; repeat (refine yC (by rfl) ?_; refine go13 ?_))
  exact TrueK.fz
 ·rw [Int.toNat_natCast] at hr hol
  obtain ⟨_,y',z',hr2,hyl',_,hy',_⟩:=run_lin (k:=i) (t:=rt (0,1)) hrest.1 hrest.2.1 (by rw [List.length_map]; exact hxk) hWk hr
  rw [hrun] at hr2
  cases hr2
  (refine go13 ?_; repeat (refine yC (by rfl) ?_; refine go13 ?_))
  rw [show yA Cm.neq 0 0=false by simp [yA]]
  (refine go13 ?_; repeat (refine yC (by rfl) ?_; refine go13 ?_))
  have hol2:(out.map fun l => l.map rp).length=n'+1:=by rw [List.length_map]; exact hol
  rw [xL n' (by omega),hol2,eql_selfA]
  (refine go13 ?_; repeat (refine yC (by rfl) ?_; refine go13 ?_))
  rw [show yA Cm.geq (n':Int) 0=true by simp [yA]]
  (refine go13 ?_; repeat (refine yC (by rfl) ?_; refine go13 ?_))
  refine ld_LRs l3 (i:=n') (by rw [List.length_map]; omega) (by omega) (fun d1 l4 l4l => ?_)
  have e4:(out.map fun l => l.map rp)[n']'(by rw [List.length_map]; omega)=y.map rp:=by
   rw [List.getElem_map]
   congr 1
   rw [←hy']
   simp [List.getD,hol]
  rw [e4] at l4
  (refine go13 ?_; repeat (refine yC (by rfl) ?_; refine go13 ?_))
  refine yB (law19_same l4 hc (by rw [List.length_map]; omega) (by rw [List.length_map]; omega)) (fun u hu => ?_)
  obtain ⟨z,rfl,hz⟩:=hu
  obtain rfl:z=true:=hz.2 rfl
  (refine go13 ?_; repeat (refine yC (by rfl) ?_; refine go13 ?_))
  refine yB qI (fun u hu => ?_)
  obtain rfl:=hu
  (refine go13 ?_; repeat (refine yC (by rfl) ?_; refine go13 ?_))
  exact TrueK.fz
 ·(refine go13 ?_; repeat (refine yC (by rfl) ?_; refine go13 ?_))
  rw [show yA Cm.neq e 0=true by simp [yA,he]]
  (refine go13 ?_; repeat (refine yC (by rfl) ?_; refine go13 ?_))
  refine yB qI (fun u hu => ?_)
  obtain rfl:=hu
  (refine go13 ?_; repeat (refine yC (by rfl) ?_; refine go13 ?_))
  exact TrueK.fz
end Go.Proofs.Ytokckcnfojjpjaa
