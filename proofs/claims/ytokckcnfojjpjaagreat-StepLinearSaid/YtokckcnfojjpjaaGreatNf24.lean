/-
  Parts of the proof: An implicit step of a linear system in the reference (ref19.turned).
-/
import Derived.Test.YtokckcnfojjpjaaGreatNf23
set_option linter.unusedVariables false
set_option linter.unusedSimpArgs false
namespace Go.Proofs.YtokckcnfojjpjaaGreat
open Go.RowKit
set_option maxRecDepth 20000
def OneRK (r:Option (List Rat)) (u:V):Prop:=(∃ y c,r=some y∧u=.tup [.c c,.c (.bool true)]∧Ls (elR 4194304) c y)∨(r=none∧u=.tup [.c .nilSl,.c (.bool false)])
theorem zero_along {k:Nat} {y:List Rat} (hy:y.length=k):yX (sH k) oneQ y=y:=by
 apply List.ext_getElem
 ·rw [xJ (by simp [sH]; exact hy)]
  simp [sH]
  exact hy.symm
 ·intro i h1 h2
  rw [bD (by simp [sH]; exact hy) (by simp [sH]; omega)]
  simp only [sH,List.getElem_replicate]
  have:oneQ=1:=rfl
  rw [this]
  grind
theorem ser_4 {k:Nat} {a:Mx} {h:Rat} {y:List Rat} (hy:y.length=k):uK k a h (xZ 4).1 y=y:=by
 have e:(xZ 4).1=[oneQ]:=rfl
 rw [e]
 show yX (sH k) oneQ y=y
 exact zero_along hy
theorem sc_half (x a h b:Rat):x+a*(b*h)=x+h*a*b:=by grind
theorem ser_5 {k:Nat} {a:Mx} {h:Rat} {y:List Rat} (hy:y.length=k):uK k a h (xZ 5).1 y=yX y (h*fr 1 2) (vC k a y):=by
 have e:(xZ 5).1=[oneQ,fr 1 2]:=rfl
 rw [e]
 show yX (yX (sH k) oneQ y) (fr 1 2) (jS h (vC k a y))=_
 rw [zero_along hy]
 apply List.ext_getElem
 ·simp [yX,jS,xV]
 ·intro i h1 h2
  simp only [yX,jS,List.getElem_zipWith,List.getElem_map]
  exact sc_half _ _ _ _
theorem semC_of_semO {P:Program} {f:FuncId} {args:List V} {K':V→Hp→Prop} {K:V→Prop} (h:semO P f args K') (hK:∀ u H,K' u H→∃ d,FzV H u d∧K d):semC P f args K :=
 ⟨h.1,h.2.1,fun base w vs hb hv => (h.2.2 base w vs hb hv).mono (by
  rintro e w' ⟨v,u,β',H',he,hk,hp',hx,hr⟩
  obtain ⟨d,hd,hKd⟩:=hK u H' hk
  refine ⟨v,d,he,hKd,hd.sound hp' (fun b bx hb hk => hp'.nbase b bx hb hk) (fun k hk => .inl hk) hr,⟨hx.size,fun k hk => (hx.keep k hk ?_).2,hx.os,hx.tape,hx.output⟩⟩
  rintro (⟨i,bx,hi,_⟩ | ⟨i,es,hi,_⟩)
  ·simp at hi
  ·simp at hi)⟩
theorem times_C {cy cV:C} {k n DA Dh:Nat} {y:List Rat} {W:List R2} {h:Rat} (hV:Ls elP cV W) (hvW:uG W) (hWk:W.length=k*k) (hy:Ls (elR 4194304) cy y) (hyl:y.length=k) (l:qM k (matM k (W.map rt)) h DA Dh) (hb:CpL n y) (hn:n≤9000000) :
  semC Tryz.prog n_ref19_times [.agg [iC k,iC k,cV],.c cy] (LsK (elR 4194304) (vC k (matM k (W.map rt)) y)) :=
 semC_of_semO (ref19_times hV hvW hWk hy hyl l hb hn) (fun u H hu => by
  obtain ⟨b,cells,rfl,hb,hE⟩:=hu
  have hcl:=hE.len
  have hcl:cells.length=(vC k (matM k (W.map rt)) y).length*4:=hcl
  exact ⟨_,.c (fz_sl (bx:=⟨cells,yF,.rw⟩) (ds:=cells) hb (by simp) (by simp) (by rw [List.drop_zero,List.take_of_length_le (by simp only; omega)]) hE.hf),_,rfl,.imm hE⟩)
structure HIm (H:Hp) (a t z:Slot):Prop where
 a:H[0]?=some a
 t:H[1]?=some t
 z:H[2]?=some z
theorem HIm.grow {H X:Hp} {a t z:Slot} (h:HIm H a t z):HIm (H++X) a t z :=
 ⟨by rw [List.getElem?_append_left (lt_of_getElem? h.a)]; exact h.a,by rw [List.getElem?_append_left (lt_of_getElem? h.t)]; exact h.t,by rw [List.getElem?_append_left (lt_of_getElem? h.z)]; exact h.z⟩
theorem HIm.set {H:Hp} {a t z:Slot} {p:Nat} {x:Slot} (h:HIm H a t z) (hp:2<p):HIm (H.set p x) a t z :=
 ⟨by rw [List.getElem?_set_ne (by omega)]; exact h.a,by rw [List.getElem?_set_ne (by omega)]; exact h.t,by rw [List.getElem?_set_ne (by omega)]; exact h.z⟩
attribute [local irreducible] yA semH semC qLen qNil qIad qSlc qIdx yU yL yY appX appI slcX awpF yP xE xopF xL qval lval seqQ xD xW xT xP cnd arith IntKind.wrap
theorem ref19_turned {cy cV:C} {ch:List C} {k n DA Dh:Nat} {y:List Rat} {W:List R2} {h:Rat} {m:Int} (hm:m=4∨m=5) (hV:Ls elP cV W) (hvW:uG W) (hWk:W.length=k*k) (hy:Ls (elR 4194304) cy y) (hyl:y.length=k) (hh:IR 4 ch h) (l:qM k (matM k (W.map rt)) h DA Dh) (hb:CpL n y) (hn:n≤8000000) :
  semC Tryz.prog n_ref19_turned [i64 m,.agg [iC k,iC k,cV],.c cy,.agg ch] (OneRK (uP m k (matM k (W.map rt)) h y)):=by
 refine yD ok_ref19_turned rfl (show HFVs [i64 m,.agg [iC k,iC k,cV],.c cy,.agg ch] from ⟨trivial,⟨trivial,trivial,hV.hf,trivial⟩,hy.hf,hh.hf,trivial⟩) ?_
 have hk:=l.k12
 obtain ⟨a0,a1,a2,a3,rfl⟩:=id hh.four
 have hp:=pol_ok m
 have c1:CpL (n+24000) (uK k (matM k (W.map rt)) h (xZ m).1 y):=ser_cpl l hb hyl hp (Nat.le_refl _)
 have hsl:(uK k (matM k (W.map rt)) h (xZ m).1 y).length=k:=jC hyl _
 have hst:uP m k (matM k (W.map rt)) h y=qH k (linM k (matM k (W.map rt)) (byV m h) (uK k (matM k (W.map rt)) h (xZ m).1 y)):=by
  unfold uP
  rw [yG.2 hm]
  rfl
 obtain ⟨sv,hsv2⟩:∃ s,s=uK k (matM k (W.map rt)) h (xZ m).1 y:=⟨_,rfl⟩
 rw [←hsv2] at c1 hsl hst
 (refine go13 ?_; repeat (refine yC (by rfl) ?_; refine go13 ?_))
 cases q5:yA Cm.eql m 5
 case false =>
  simp [yA] at q5
  have hm4:m=4:=by omega
  have hsv:sv=y:=by rw [hsv2,hm4]; exact ser_4 hyl
  obtain ⟨cc,hcc⟩:∃ c,c=cy:=⟨_,rfl⟩
  have lcc:Ls (elR 4194304) cc sv:=by rw [hcc,hsv]; exact hy
  have hby:IR 8 [a0,.bool a1,a2,.bool a3] (byV m h):=by
   rw [show byV m h=h by unfold byV; rw [if_pos hm4]]
   exact hh.up (by decide)
  (refine go13 ?_; repeat (refine yC (by rfl) ?_; refine go13 ?_))
  try refine goN ?_
  rw [←hcc]
  obtain ⟨H0,hH0⟩:∃ H0:Hp,H0=[.live ⟨[iC k,iC k,cV],uF,.rw⟩,.live ⟨[a0,.bool a1,a2,.bool a3],yF,.rw⟩,.live ⟨[a0,.bool a1,a2,.bool a3],yF,.rw⟩]:=⟨_,rfl⟩
  obtain ⟨b0,eb0⟩:∃ b,b=a0:=⟨_,rfl⟩
  obtain ⟨b1,eb1⟩:∃ b,b=a1:=⟨_,rfl⟩
  obtain ⟨b2,eb2⟩:∃ b,b=a2:=⟨_,rfl⟩
  obtain ⟨b3,eb3⟩:∃ b,b=a3:=⟨_,rfl⟩
  have hI0:HIm H0 (.live ⟨[iC k,iC k,cV],uF,.rw⟩) (.live ⟨[a0,.bool a1,a2,.bool a3],yF,.rw⟩) (.live ⟨[b0,.bool b1,b2,.bool b3],yF,.rw⟩):=by rw [hH0,eb0,eb1,eb2,eb3]; exact ⟨rfl,rfl,rfl⟩
  have hby:IR 8 [b0,.bool b1,b2,.bool b3] (byV m h):=by rw [eb0,eb1,eb2,eb3]; exact hby
  clear eb0 eb1 eb2 eb3
  have hGB:=lin_gb l (by_cap (m:=m) l) c1 (by omega)
  obtain ⟨M,hM⟩:∃ M,M=linM k (matM k (W.map rt)) (byV m h) sv:=⟨_,rfl⟩
  rw [←hM] at hGB hst
  have hBd:∀ i j,i<k→j≤k→Bd 2097152 (rp (M i j)):=fun i j hi hj => hGB 0 M (by omega) rfl i j hi hj
  have hMlow:∀ i j,j<k→i≠j→M i j = -(byV m h*matM k (W.map rt) i j):=fun i j hj hne => by
   rw [hM]
   unfold linM
   rw [if_pos hj,if_neg hne]
  have hMdg:∀ i,i<k→M i i = -(byV m h*matM k (W.map rt) i i)+((1:Int):Rat):=fun i hi => by
   rw [hM]
   unfold linM
   rw [if_pos hi,if_pos rfl]
   rfl
  have hMk:∀ i (hi:i<k),M i k=sv[i]'(by omega):=fun i hi => by
   rw [hM]
   unfold linM
   rw [if_neg (by omega)]
   simp [List.getD,show i<sv.length by omega]
  refine wX (by rfl) (by rfl) ⟨by omega,by omega,by omega,by omega⟩ ?_
  (refine go13 ?_; repeat (refine yC (by rfl) ?_; refine go13 ?_))
  rw [nil_rep]
  have hI1:=hI0.grow (X:=[.live ⟨List.replicate k C.nilSl,wW,.rw⟩])
  have hl0:=lt_of_getElem? hI0.z
  obtain ⟨o,ho⟩:∃ o,o=H0.length:=⟨_,rfl⟩
  try subst hH0
  refine yR (fun w vs H => ∃ (i:Nat) (bx:Nat→Nat) (ds:Nat→List C),vs=[.c (.ptr 0 0),.c (.ptr 2 0),.c cc,.c (.sl o 0 k (some k) 1),i64 k,i64 i]∧w=k - i∧i≤k∧HIm H (.live ⟨[iC k,iC k,cV],uF,.rw⟩) (.live ⟨[a0,.bool a1,a2,.bool a3],yF,.rw⟩) (.live ⟨[b0,.bool b1,b2,.bool b3],yF,.rw⟩)∧(∀ l,l<i→o<bx l)∧MtPR 2097152 o bx ds H i k (k+1) (fun _ _ => True) M) (by rfl) ⟨0,fun _ => 0,fun _ => [],by rw [ho]; rfl,rfl,by omega,hI1,fun l h => by omega,.start (by rw [ho]; first | exact yM _ _ | rfl)⟩ ?_
  rintro w vs H ⟨i,bx',ds,rfl,rfl,i1,hI,i2,hP⟩
  have hIa:=hI.a
  (refine go13 ?_; repeat (refine yC (by rfl) ?_; refine go13 ?_))
  cases hi:yA Cm.lss (i:Int) (k:Int)
  case false =>
   simp [yA] at hi
   have ei:i=k:=by omega
   subst ei
   have hF:=hP.full (fun i' j' h1 h2 => trivial)
   (refine go13 ?_; repeat (refine yC (by rfl) ?_; refine go13 ?_))
   refine yS hIa (by rfl) ?_
   (refine go13 ?_; repeat (refine yC (by rfl) ?_; refine go13 ?_))
   refine ref19_solved hF (by omega) hGB (fun v' H' hg => ?_)
   rcases hg with ⟨hs,rfl⟩ | ⟨z,b,yc,hs,rfl,hb,hE⟩
   ·(refine go13 ?_; repeat (refine yC (by rfl) ?_; refine go13 ?_))
    exact ⟨_,.tup (.cons (.c (.hf trivial)) (.cons (.c (.hf trivial)) .nil)),.inr ⟨by rw [hst]; exact hs,rfl⟩⟩
   ·have hyl2:=mB hs
    have hlen:=hE.len
    have lz:=Ls.imm hE
    rw [hyl2] at lz
    (refine go13 ?_; repeat (refine yC (by rfl) ?_; refine go13 ?_))
    exact ⟨_,.tup (.cons (.c (fz_sl (bx:=⟨yc,yF,.rw⟩) (ds:=yc) hb (by simp) (by simp) (by rw [List.drop_zero,List.take_of_length_le (by simp only; rw [hlen,hyl2]; exact Nat.le_refl _)]) hE.hf)) (.cons (.c (.hf trivial)) .nil)),.inl ⟨z,_,by rw [hst]; exact hs,rfl,lz⟩⟩
  simp [yA] at hi
  have hpl:=lt_of_getElem? hP.T
  (refine go13 ?_; repeat (refine yC (by rfl) ?_; refine go13 ?_))
  refine yS hIa (by rfl) ?_
  (refine go13 ?_; repeat (refine yC (by rfl) ?_; refine go13 ?_))
  rw [yZ k (by omega)]
  refine wX (by rfl) (by rfl) ⟨by omega,by omega,by omega,by omega⟩ ?_
  (refine go13 ?_; repeat (refine yC (by rfl) ?_; refine go13 ?_))
  have hG:=(hP.weak (Q:=fun i' _ => i'<i) (fun i' j' h1 h2 h3 => trivial)).grow (X:=[.live ⟨(List.replicate ((k+1:Nat):Int).toNat qG).flatten,yF,.rw⟩])
  refine xA hG.T (by rfl) (by rfl) (by simp; omega) ?_
  have hN:=hG.next (b:=H.length) hi (yM _ _) (fun l hl => by have:=lt_of_getElem? (hP.row l hl); omega) (by omega) (by simp [qG]) (fun j h => by omega)
  have hIN:=(hI.grow (X:=[.live ⟨(List.replicate ((k+1:Nat):Int).toNat qG).flatten,yF,.rw⟩])).set (p:=o) (x:=.live ⟨splice ((List.range i).map (nN bx' (fun _ => some (k+1)) (k+1))++List.replicate (k - i) .nilSl) i [.sl H.length 0 (k+1) (some (k+1)) 4],wW,.rw⟩) (by omega)
  rw [show 0+(i:Int).toNat*1=i by omega]
  have hge:∀ l,l<i+1→o<(fun l => if l=i then H.length else bx' l) l:=fun l hl => by
   simp only
   split
   ·omega
   ·exact i2 l (by omega)
  generalize (fun l => if l=i then H.length else bx' l)=bx2 at hN hge
  generalize (fun l => if l=i then (List.replicate ((k+1:Nat):Int).toNat qG).flatten else ds l)=ds2 at hN
  obtain ⟨M2,hM2⟩:∃ M2,M2=updQR M i i (-(byV m h*matM k (W.map rt) i i)):=⟨_,rfl⟩
  have hM2o:∀ i' j',¬ (i'=i∧j'=i)→M i' j'=M2 i' j':=fun i' j' hne => by rw [hM2]; unfold updQR; rw [if_neg hne]
  have hM2i:∀ j,j<k→M2 i j = -(byV m h*matM k (W.map rt) i j):=fun j hj => by
   by_cases e:i=j
   ·subst e
    rw [hM2]
    unfold updQR
    rw [if_pos ⟨rfl,rfl⟩]
   ·rw [←hM2o i j (by omega),hMlow i j hj e]
  have hN2:=hN.congr (M':=M2) (fun i' j' p => hM2o i' j' (by omega))
  (refine go13 ?_; repeat (refine yC (by rfl) ?_; refine go13 ?_))
  refine yR (fun w vs H => ∃ (j:Nat) (bx:Nat→Nat) (ds:Nat→List C),vs=[.c (.ptr 0 0),.c (.ptr 2 0),.c cc,.c (.sl o 0 k (some k) 1),i64 i,i64 j,i64 k,i64 i]∧w=k - j∧j≤k∧HIm H (.live ⟨[iC k,iC k,cV],uF,.rw⟩) (.live ⟨[a0,.bool a1,a2,.bool a3],yF,.rw⟩) (.live ⟨[b0,.bool b1,b2,.bool b3],yF,.rw⟩)∧(∀ l,l<i+1→o<bx l)∧MtPR 2097152 o bx ds H (i+1) k (k+1) (fun i' j' => i'<i∨(i'=i∧j'<j)) M2) (by rfl) ⟨0,bx2,ds2,rfl,rfl,by omega,hIN,hge,hN2.weak (fun i' j' h1 h2 h3 => by omega)⟩ ?_
  clear hN hN2 hge hG hP i2 hpl bx' ds bx2 ds2 hIN hIa hI
  rintro w vs H2 ⟨j,bx',ds,rfl,rfl,j1,hI,j2,hP⟩
  have hIa:=hI.a
  have hIz:=hI.z
  (refine go13 ?_; repeat (refine yC (by rfl) ?_; refine go13 ?_))
  refine yS hIa (by rfl) ?_
  (refine go13 ?_; repeat (refine yC (by rfl) ?_; refine go13 ?_))
  cases hj:yA Cm.lss (j:Int) (k:Int)
  case true =>
   simp [yA] at hj
   have hpl:=lt_of_getElem? hP.T
   have hix:=mI hi hj
   (refine go13 ?_; repeat (refine yC (by rfl) ?_; refine go13 ?_))
   refine hP.ldT (i:=i) (by omega) (by omega) ?_
   (refine go13 ?_; repeat (refine yC (by rfl) ?_; refine go13 ?_))
   refine yO hIz (by rfl) ?_
   (refine go13 ?_; repeat (refine yC (by rfl) ?_; refine go13 ?_))
   refine yS hIa (by rfl) ?_
   (refine go13 ?_; repeat (refine yC (by rfl) ?_; refine go13 ?_))
   refine yS hIa (by rfl) ?_
   (refine go13 ?_; repeat (refine yC (by rfl) ?_; refine go13 ?_))
   rw [ar_idx hi hj hk]
   (refine go13 ?_; repeat (refine yC (by rfl) ?_; refine go13 ?_))
   refine uB hV (i:=i*k+j) (by omega) (by omega) rfl (fun e0 he0 => ?_)
   obtain rfl:e0=ratC (W[i*k+j]'(by omega)):=he0
   (refine go13 ?_; repeat (refine yC (by rfl) ?_; refine go13 ?_))
   refine yK (r_Of (hvW _ (List.getElem_mem (show i*k+j<W.length by omega)))) (fun u hu => ?_)
   obtain ⟨e1,rfl,he1⟩:=hu
   have he1:IR 2 e1 (matM k (W.map rt) i j):=by
    unfold matM
    rw [show (W.map rt).getD (i*k+j) 0=rt (W[i*k+j]'(by omega)) by simp [List.getD,show i*k+j<W.length by omega]]
    exact he1
   (refine go13 ?_; repeat (refine yC (by rfl) ?_; refine go13 ?_))
   refine yK (nC hby he1 (by decide)) (fun u hu => ?_)
   obtain ⟨e2,rfl,he2⟩:=hu
   (refine go13 ?_; repeat (refine yC (by rfl) ?_; refine go13 ?_))
   refine yK (r_Neg he2 (by decide)) (fun u hu => ?_)
   obtain ⟨e3,rfl,he3⟩:=hu
   rw [←hM2i j hj] at he3
   have he3:=he3.up (show _≤2097152 by decide)
   obtain ⟨_,_,_,_,rfl⟩:=id he3.four
   (refine go13 ?_; repeat (refine yC (by rfl) ?_; refine go13 ?_))
   refine hP.st (i:=i) (j:=j) (by omega) (by omega) (by omega) (by rfl) (by rfl) ?_
   have hP2:=hP.put (i:=i) (j:=j) (by omega) (by omega) he3
   have hb4:=j2 i (by omega)
   (refine go13 ?_; repeat (refine yC (by rfl) ?_; refine go13 ?_))
   rw [yZ j (by omega)]
   exact l_n (by rfl) (n':=k - (j+1)) (by omega) ⟨j+1,bx',_,rfl,rfl,by omega,hI.set (by omega),j2,hP2.weak (fun i' j' h1 h2 h3 => by omega)⟩
  simp [yA] at hj
  have ej:j=k:=by omega
  have hpl:=lt_of_getElem? hP.T
  have hb4:=j2 i (by omega)
  (refine go13 ?_; repeat (refine yC (by rfl) ?_; refine go13 ?_))
  refine hP.ldT (i:=i) (by omega) (by omega) ?_
  (refine go13 ?_; repeat (refine yC (by rfl) ?_; refine go13 ?_))
  refine hP.ldT (i:=i) (by omega) (by omega) ?_
  (refine go13 ?_; repeat (refine yC (by rfl) ?_; refine go13 ?_))
  refine hP.ldE (i:=i) (j:=i) (by omega) (by omega) (.inr ⟨rfl,by omega⟩) (by omega) (fun e6 he6 => ?_)
  rw [hM2i i hi] at he6
  (refine go13 ?_; repeat (refine yC (by rfl) ?_; refine go13 ?_))
  refine yK (r_Int (g:=1) (by decide)) (fun u hu => ?_)
  obtain ⟨e7,rfl,he7⟩:=hu
  (refine go13 ?_; repeat (refine yC (by rfl) ?_; refine go13 ?_))
  refine yK (r_Add2 he6 he7 (by decide)) (fun u hu => ?_)
  obtain ⟨e8,rfl,he8⟩:=hu
  rw [←hMdg i hi] at he8
  have he8:=he8.tightS (hBd i i hi (by omega))
  obtain ⟨g0,g1,g2,g3,rfl⟩:=id he8.four
  have hP4:=(hP.weak (Q:=fun i' j' => (i'<i∨(i'=i∧j'<j))∧¬ (i'=i∧j'=i)) (fun i' j' h1 h2 h3 => h3.1)).congr (M':=M) (fun i' j' p => (hM2o i' j' p.2).symm)
  (refine go13 ?_; repeat (refine yC (by rfl) ?_; refine go13 ?_))
  refine hP4.st (i:=i) (j:=i) (by omega) (by omega) (by omega) (by rfl) (by rfl) ?_
  have hP5:=hP4.put (i:=i) (j:=i) (by omega) (by omega) he8
  have hI5:=hI.set (p:=bx' i) (x:=.live ⟨splice (ds i) (i*4) [g0,.bool g1,g2,.bool g3],yF,.rw⟩) (by omega)
  (refine go13 ?_; repeat (refine yC (by rfl) ?_; refine go13 ?_))
  refine hP5.ldT (i:=i) (by omega) (by omega) ?_
  (refine go13 ?_; repeat (refine yC (by rfl) ?_; refine go13 ?_))
  refine yS hI5.a (by rfl) ?_
  (refine go13 ?_; repeat (refine yC (by rfl) ?_; refine go13 ?_))
  refine uB lcc (i:=i) (by omega) (by omega) rfl (fun e9 he9 => ?_)
  have he9:IR 4194304 e9 (M i k):=by rw [hMk i hi]; exact he9
  have he9:=he9.tightS (hBd i k hi (by omega))
  obtain ⟨_,_,_,_,rfl⟩:=id he9.four
  (refine go13 ?_; repeat (refine yC (by rfl) ?_; refine go13 ?_))
  refine hP5.st (i:=i) (j:=k) (by omega) (by omega) (by omega) (by rfl) (by rfl) ?_
  have hP6:=hP5.put (i:=i) (j:=k) (by omega) (by omega) he9
  (refine go13 ?_; repeat (refine yC (by rfl) ?_; refine go13 ?_))
  rw [yZ i (by omega)]
  exact l_n (by rfl) (n':=k - (i+1)) (by omega) ⟨i+1,bx',_,rfl,rfl,by omega,hI5.set (by omega),j2,hP6.weak (fun i' j' h1 h2 h3 => by
   by_cases e1:i'=i
   ·by_cases e2:j'=k
    ·exact .inr ⟨e1,e2⟩
    ·by_cases e3:j'=i
     ·exact .inl (.inr ⟨e1,e3⟩)
     ·exact .inl (.inl ⟨.inr ⟨e1,by omega⟩,fun h => e3 h.2⟩)
   ·exact .inl (.inl ⟨.inl (by omega),fun h => e1 h.1⟩))⟩
 simp [yA] at q5
 have hsv:sv=yX y (h*fr 1 2) (vC k (matM k (W.map rt)) y):=by rw [hsv2,q5]; exact ser_5 hyl
 (refine go13 ?_; repeat (refine yC (by rfl) ?_; refine go13 ?_))
 refine yK (r_Half (a:=1) (b:=2) (by decide) (by decide) (by decide)) (fun u hu => ?_)
 obtain ⟨p1,rfl,i1⟩:=hu
 (refine go13 ?_; repeat (refine yC (by rfl) ?_; refine go13 ?_))
 refine yB (nC hh i1 (by decide)) (fun u hu => ?_)
 obtain ⟨p2,rfl,i2⟩:=hu
 obtain ⟨b0,b1,b2,b3,rfl⟩:=id i2.four
 have hby:IR 8 [b0,.bool b1,b2,.bool b3] (byV m h):=by
  rw [show byV m h=h*fr 1 2 by unfold byV; rw [if_neg (by omega)]; rfl]
  exact i2.up (by decide)
 (refine go13 ?_; repeat (refine yC (by rfl) ?_; refine go13 ?_))
 try refine goN ?_
 refine yK (times_C hV hvW hWk hy hyl l hb (by omega)) (fun u hu => ?_)
 obtain ⟨ct,rfl,lt⟩:=hu
 (refine go13 ?_; repeat (refine yC (by rfl) ?_; refine go13 ?_))
 refine yB (gE hy (hby.up (by decide)) lt (by rw [xV,hyl]) (by omega) (by rw [show byV m h=h*fr 1 2 by unfold byV; rw [if_neg (by omega)]; rfl,←hsv]; exact c1) (by omega)) (fun u hu => ?_)
 obtain ⟨cc,rfl,lcc⟩:=hu
 rw [show byV m h=h*fr 1 2 by unfold byV; rw [if_neg (by omega)]; rfl,←hsv] at lcc
 (refine go13 ?_; repeat (refine yC (by rfl) ?_; refine go13 ?_))
 try refine goN ?_
 obtain ⟨H0,hH0⟩:∃ H0:Hp,H0=[.live ⟨[iC k,iC k,cV],uF,.rw⟩,.live ⟨[a0,.bool a1,a2,.bool a3],yF,.rw⟩,.live ⟨[b0,.bool b1,b2,.bool b3],yF,.rw⟩]:=⟨_,rfl⟩
 have hI0:HIm H0 (.live ⟨[iC k,iC k,cV],uF,.rw⟩) (.live ⟨[a0,.bool a1,a2,.bool a3],yF,.rw⟩) (.live ⟨[b0,.bool b1,b2,.bool b3],yF,.rw⟩):=by rw [hH0]; exact ⟨rfl,rfl,rfl⟩
 have hGB:=lin_gb l (by_cap (m:=m) l) c1 (by omega)
 obtain ⟨M,hM⟩:∃ M,M=linM k (matM k (W.map rt)) (byV m h) sv:=⟨_,rfl⟩
 rw [←hM] at hGB hst
 have hBd:∀ i j,i<k→j≤k→Bd 2097152 (rp (M i j)):=fun i j hi hj => hGB 0 M (by omega) rfl i j hi hj
 have hMlow:∀ i j,j<k→i≠j→M i j = -(byV m h*matM k (W.map rt) i j):=fun i j hj hne => by
  rw [hM]
  unfold linM
  rw [if_pos hj,if_neg hne]
 have hMdg:∀ i,i<k→M i i = -(byV m h*matM k (W.map rt) i i)+((1:Int):Rat):=fun i hi => by
  rw [hM]
  unfold linM
  rw [if_pos hi,if_pos rfl]
  rfl
 have hMk:∀ i (hi:i<k),M i k=sv[i]'(by omega):=fun i hi => by
  rw [hM]
  unfold linM
  rw [if_neg (by omega)]
  simp [List.getD,show i<sv.length by omega]
 refine wX (by rfl) (by rfl) ⟨by omega,by omega,by omega,by omega⟩ ?_
 (refine go13 ?_; repeat (refine yC (by rfl) ?_; refine go13 ?_))
 rw [nil_rep]
 have hI1:=hI0.grow (X:=[.live ⟨List.replicate k C.nilSl,wW,.rw⟩])
 have hl0:=lt_of_getElem? hI0.z
 obtain ⟨o,ho⟩:∃ o,o=H0.length:=⟨_,rfl⟩
 try subst hH0
 refine yR (fun w vs H => ∃ (i:Nat) (bx:Nat→Nat) (ds:Nat→List C),vs=[.c (.ptr 0 0),.c (.ptr 2 0),.c cc,.c (.sl o 0 k (some k) 1),i64 k,i64 i]∧w=k - i∧i≤k∧HIm H (.live ⟨[iC k,iC k,cV],uF,.rw⟩) (.live ⟨[a0,.bool a1,a2,.bool a3],yF,.rw⟩) (.live ⟨[b0,.bool b1,b2,.bool b3],yF,.rw⟩)∧(∀ l,l<i→o<bx l)∧MtPR 2097152 o bx ds H i k (k+1) (fun _ _ => True) M) (by rfl) ⟨0,fun _ => 0,fun _ => [],by rw [ho]; rfl,rfl,by omega,hI1,fun l h => by omega,.start (by rw [ho]; first | exact yM _ _ | rfl)⟩ ?_
 rintro w vs H ⟨i,bx',ds,rfl,rfl,i1,hI,i2,hP⟩
 have hIa:=hI.a
 (refine go13 ?_; repeat (refine yC (by rfl) ?_; refine go13 ?_))
 cases hi:yA Cm.lss (i:Int) (k:Int)
 case false =>
  simp [yA] at hi
  have ei:i=k:=by omega
  subst ei
  have hF:=hP.full (fun i' j' h1 h2 => trivial)
  (refine go13 ?_; repeat (refine yC (by rfl) ?_; refine go13 ?_))
  refine yS hIa (by rfl) ?_
  (refine go13 ?_; repeat (refine yC (by rfl) ?_; refine go13 ?_))
  refine ref19_solved hF (by omega) hGB (fun v' H' hg => ?_)
  rcases hg with ⟨hs,rfl⟩ | ⟨z,b,yc,hs,rfl,hb,hE⟩
  ·(refine go13 ?_; repeat (refine yC (by rfl) ?_; refine go13 ?_))
   exact ⟨_,.tup (.cons (.c (.hf trivial)) (.cons (.c (.hf trivial)) .nil)),.inr ⟨by rw [hst]; exact hs,rfl⟩⟩
  ·have hyl2:=mB hs
   have hlen:=hE.len
   have lz:=Ls.imm hE
   rw [hyl2] at lz
   (refine go13 ?_; repeat (refine yC (by rfl) ?_; refine go13 ?_))
   exact ⟨_,.tup (.cons (.c (fz_sl (bx:=⟨yc,yF,.rw⟩) (ds:=yc) hb (by simp) (by simp) (by rw [List.drop_zero,List.take_of_length_le (by simp only; rw [hlen,hyl2]; exact Nat.le_refl _)]) hE.hf)) (.cons (.c (.hf trivial)) .nil)),.inl ⟨z,_,by rw [hst]; exact hs,rfl,lz⟩⟩
 simp [yA] at hi
 have hpl:=lt_of_getElem? hP.T
 (refine go13 ?_; repeat (refine yC (by rfl) ?_; refine go13 ?_))
 refine yS hIa (by rfl) ?_
 (refine go13 ?_; repeat (refine yC (by rfl) ?_; refine go13 ?_))
 rw [yZ k (by omega)]
 refine wX (by rfl) (by rfl) ⟨by omega,by omega,by omega,by omega⟩ ?_
 (refine go13 ?_; repeat (refine yC (by rfl) ?_; refine go13 ?_))
 have hG:=(hP.weak (Q:=fun i' _ => i'<i) (fun i' j' h1 h2 h3 => trivial)).grow (X:=[.live ⟨(List.replicate ((k+1:Nat):Int).toNat qG).flatten,yF,.rw⟩])
 refine xA hG.T (by rfl) (by rfl) (by simp; omega) ?_
 have hN:=hG.next (b:=H.length) hi (yM _ _) (fun l hl => by have:=lt_of_getElem? (hP.row l hl); omega) (by omega) (by simp [qG]) (fun j h => by omega)
 have hIN:=(hI.grow (X:=[.live ⟨(List.replicate ((k+1:Nat):Int).toNat qG).flatten,yF,.rw⟩])).set (p:=o) (x:=.live ⟨splice ((List.range i).map (nN bx' (fun _ => some (k+1)) (k+1))++List.replicate (k - i) .nilSl) i [.sl H.length 0 (k+1) (some (k+1)) 4],wW,.rw⟩) (by omega)
 rw [show 0+(i:Int).toNat*1=i by omega]
 have hge:∀ l,l<i+1→o<(fun l => if l=i then H.length else bx' l) l:=fun l hl => by
  simp only
  split
  ·omega
  ·exact i2 l (by omega)
 generalize (fun l => if l=i then H.length else bx' l)=bx2 at hN hge
 generalize (fun l => if l=i then (List.replicate ((k+1:Nat):Int).toNat qG).flatten else ds l)=ds2 at hN
 obtain ⟨M2,hM2⟩:∃ M2,M2=updQR M i i (-(byV m h*matM k (W.map rt) i i)):=⟨_,rfl⟩
 have hM2o:∀ i' j',¬ (i'=i∧j'=i)→M i' j'=M2 i' j':=fun i' j' hne => by rw [hM2]; unfold updQR; rw [if_neg hne]
 have hM2i:∀ j,j<k→M2 i j = -(byV m h*matM k (W.map rt) i j):=fun j hj => by
  by_cases e:i=j
  ·subst e
   rw [hM2]
   unfold updQR
   rw [if_pos ⟨rfl,rfl⟩]
  ·rw [←hM2o i j (by omega),hMlow i j hj e]
 have hN2:=hN.congr (M':=M2) (fun i' j' p => hM2o i' j' (by omega))
 (refine go13 ?_; repeat (refine yC (by rfl) ?_; refine go13 ?_))
 refine yR (fun w vs H => ∃ (j:Nat) (bx:Nat→Nat) (ds:Nat→List C),vs=[.c (.ptr 0 0),.c (.ptr 2 0),.c cc,.c (.sl o 0 k (some k) 1),i64 i,i64 j,i64 k,i64 i]∧w=k - j∧j≤k∧HIm H (.live ⟨[iC k,iC k,cV],uF,.rw⟩) (.live ⟨[a0,.bool a1,a2,.bool a3],yF,.rw⟩) (.live ⟨[b0,.bool b1,b2,.bool b3],yF,.rw⟩)∧(∀ l,l<i+1→o<bx l)∧MtPR 2097152 o bx ds H (i+1) k (k+1) (fun i' j' => i'<i∨(i'=i∧j'<j)) M2) (by rfl) ⟨0,bx2,ds2,rfl,rfl,by omega,hIN,hge,hN2.weak (fun i' j' h1 h2 h3 => by omega)⟩ ?_
 clear hN hN2 hge hG hP i2 hpl bx' ds bx2 ds2 hIN hIa hI
 rintro w vs H2 ⟨j,bx',ds,rfl,rfl,j1,hI,j2,hP⟩
 have hIa:=hI.a
 have hIz:=hI.z
 (refine go13 ?_; repeat (refine yC (by rfl) ?_; refine go13 ?_))
 refine yS hIa (by rfl) ?_
 (refine go13 ?_; repeat (refine yC (by rfl) ?_; refine go13 ?_))
 cases hj:yA Cm.lss (j:Int) (k:Int)
 case true =>
  simp [yA] at hj
  have hpl:=lt_of_getElem? hP.T
  have hix:=mI hi hj
  (refine go13 ?_; repeat (refine yC (by rfl) ?_; refine go13 ?_))
  refine hP.ldT (i:=i) (by omega) (by omega) ?_
  (refine go13 ?_; repeat (refine yC (by rfl) ?_; refine go13 ?_))
  refine yO hIz (by rfl) ?_
  (refine go13 ?_; repeat (refine yC (by rfl) ?_; refine go13 ?_))
  refine yS hIa (by rfl) ?_
  (refine go13 ?_; repeat (refine yC (by rfl) ?_; refine go13 ?_))
  refine yS hIa (by rfl) ?_
  (refine go13 ?_; repeat (refine yC (by rfl) ?_; refine go13 ?_))
  rw [ar_idx hi hj hk]
  (refine go13 ?_; repeat (refine yC (by rfl) ?_; refine go13 ?_))
  refine uB hV (i:=i*k+j) (by omega) (by omega) rfl (fun e0 he0 => ?_)
  obtain rfl:e0=ratC (W[i*k+j]'(by omega)):=he0
  (refine go13 ?_; repeat (refine yC (by rfl) ?_; refine go13 ?_))
  refine yK (r_Of (hvW _ (List.getElem_mem (show i*k+j<W.length by omega)))) (fun u hu => ?_)
  obtain ⟨e1,rfl,he1⟩:=hu
  have he1:IR 2 e1 (matM k (W.map rt) i j):=by
   unfold matM
   rw [show (W.map rt).getD (i*k+j) 0=rt (W[i*k+j]'(by omega)) by simp [List.getD,show i*k+j<W.length by omega]]
   exact he1
  (refine go13 ?_; repeat (refine yC (by rfl) ?_; refine go13 ?_))
  refine yK (nC hby he1 (by decide)) (fun u hu => ?_)
  obtain ⟨e2,rfl,he2⟩:=hu
  (refine go13 ?_; repeat (refine yC (by rfl) ?_; refine go13 ?_))
  refine yK (r_Neg he2 (by decide)) (fun u hu => ?_)
  obtain ⟨e3,rfl,he3⟩:=hu
  rw [←hM2i j hj] at he3
  have he3:=he3.up (show _≤2097152 by decide)
  obtain ⟨_,_,_,_,rfl⟩:=id he3.four
  (refine go13 ?_; repeat (refine yC (by rfl) ?_; refine go13 ?_))
  refine hP.st (i:=i) (j:=j) (by omega) (by omega) (by omega) (by rfl) (by rfl) ?_
  have hP2:=hP.put (i:=i) (j:=j) (by omega) (by omega) he3
  have hb4:=j2 i (by omega)
  (refine go13 ?_; repeat (refine yC (by rfl) ?_; refine go13 ?_))
  rw [yZ j (by omega)]
  exact l_n (by rfl) (n':=k - (j+1)) (by omega) ⟨j+1,bx',_,rfl,rfl,by omega,hI.set (by omega),j2,hP2.weak (fun i' j' h1 h2 h3 => by omega)⟩
 simp [yA] at hj
 have ej:j=k:=by omega
 have hpl:=lt_of_getElem? hP.T
 have hb4:=j2 i (by omega)
 (refine go13 ?_; repeat (refine yC (by rfl) ?_; refine go13 ?_))
 refine hP.ldT (i:=i) (by omega) (by omega) ?_
 (refine go13 ?_; repeat (refine yC (by rfl) ?_; refine go13 ?_))
 refine hP.ldT (i:=i) (by omega) (by omega) ?_
 (refine go13 ?_; repeat (refine yC (by rfl) ?_; refine go13 ?_))
 refine hP.ldE (i:=i) (j:=i) (by omega) (by omega) (.inr ⟨rfl,by omega⟩) (by omega) (fun e6 he6 => ?_)
 rw [hM2i i hi] at he6
 (refine go13 ?_; repeat (refine yC (by rfl) ?_; refine go13 ?_))
 refine yK (r_Int (g:=1) (by decide)) (fun u hu => ?_)
 obtain ⟨e7,rfl,he7⟩:=hu
 (refine go13 ?_; repeat (refine yC (by rfl) ?_; refine go13 ?_))
 refine yK (r_Add2 he6 he7 (by decide)) (fun u hu => ?_)
 obtain ⟨e8,rfl,he8⟩:=hu
 rw [←hMdg i hi] at he8
 have he8:=he8.tightS (hBd i i hi (by omega))
 obtain ⟨g0,g1,g2,g3,rfl⟩:=id he8.four
 have hP4:=(hP.weak (Q:=fun i' j' => (i'<i∨(i'=i∧j'<j))∧¬ (i'=i∧j'=i)) (fun i' j' h1 h2 h3 => h3.1)).congr (M':=M) (fun i' j' p => (hM2o i' j' p.2).symm)
 (refine go13 ?_; repeat (refine yC (by rfl) ?_; refine go13 ?_))
 refine hP4.st (i:=i) (j:=i) (by omega) (by omega) (by omega) (by rfl) (by rfl) ?_
 have hP5:=hP4.put (i:=i) (j:=i) (by omega) (by omega) he8
 have hI5:=hI.set (p:=bx' i) (x:=.live ⟨splice (ds i) (i*4) [g0,.bool g1,g2,.bool g3],yF,.rw⟩) (by omega)
 (refine go13 ?_; repeat (refine yC (by rfl) ?_; refine go13 ?_))
 refine hP5.ldT (i:=i) (by omega) (by omega) ?_
 (refine go13 ?_; repeat (refine yC (by rfl) ?_; refine go13 ?_))
 refine yS hI5.a (by rfl) ?_
 (refine go13 ?_; repeat (refine yC (by rfl) ?_; refine go13 ?_))
 refine uB lcc (i:=i) (by omega) (by omega) rfl (fun e9 he9 => ?_)
 have he9:IR 4194304 e9 (M i k):=by rw [hMk i hi]; exact he9
 have he9:=he9.tightS (hBd i k hi (by omega))
 obtain ⟨_,_,_,_,rfl⟩:=id he9.four
 (refine go13 ?_; repeat (refine yC (by rfl) ?_; refine go13 ?_))
 refine hP5.st (i:=i) (j:=k) (by omega) (by omega) (by omega) (by rfl) (by rfl) ?_
 have hP6:=hP5.put (i:=i) (j:=k) (by omega) (by omega) he9
 (refine go13 ?_; repeat (refine yC (by rfl) ?_; refine go13 ?_))
 rw [yZ i (by omega)]
 exact l_n (by rfl) (n':=k - (i+1)) (by omega) ⟨i+1,bx',_,rfl,rfl,by omega,hI5.set (by omega),j2,hP6.weak (fun i' j' h1 h2 h3 => by
  by_cases e1:i'=i
  ·by_cases e2:j'=k
   ·exact .inr ⟨e1,e2⟩
   ·by_cases e3:j'=i
    ·exact .inl (.inr ⟨e1,e3⟩)
    ·exact .inl (.inl ⟨.inr ⟨e1,by omega⟩,fun h => e3 h.2⟩)
  ·exact .inl (.inl ⟨.inl (by omega),fun h => e1 h.1⟩))⟩
end Go.Proofs.YtokckcnfojjpjaaGreat

namespace Go.Proofs.YtokckcnfojjpjaaGreat
open Go.RowKit
set_option maxRecDepth 20000
section
variable {m R Cc n:Int} {W x:List R2} {h:R2}
noncomputable def sF (m R Cc:Int) (W x:List R2) (h:R2) (n:Int):Except Int (List Rat) :=
 bif dec (linE m R Cc W x h n=0) then match tC m R.toNat (matM R.toNat (W.map rt)) (rt h) (x.map rt) n.toNat with
  | none => .error 4
  | some p => bif dec (pU p.1) then .ok p.1 else .error 3
 else .error (linE m R Cc W x h n)
def LinK (m R Cc:Int) (W x:List R2) (h:R2) (n:Int) (u:V):Prop :=
 (∃ y c,sF m R Cc W x h n=.ok y∧y.length≤12∧u=.tup [.c c,i64 0]∧Ls elP c (y.map rp))∨(∃ e:Int,sF m R Cc W x h n=.error e∧e≠0∧u=.tup [.c .nilSl,i64 e])
theorem LinK.err {e:Int} {H:Hp} (h1:sF m R Cc W x h n=.error e) (h2:e≠0):∃ d,FzV H (.tup [.c .nilSl,i64 e]) d∧LinK m R Cc W x h n d :=
 ⟨_,.tup (.cons (.c (.hf trivial)) (.cons (.c (.hf trivial)) .nil)),.inr ⟨e,h1,h2,rfl⟩⟩
theorem jE {e:Int} (h1:linE m R Cc W x h n=e) (h2:e≠0):sF m R Cc W x h n=.error e:=by
 unfold sF
 rw [yI.2 (by rw [h1]; exact h2),h1]
 rfl
theorem linE_mat (h1:¬ nT R Cc W):linE m R Cc W x h n=1:=by
 unfold linE
 rw [yI.2 h1]
 rfl
theorem sQ (h2:¬ uG x∨¬ wI h.1 h.2∨m<0∨6<m∨h.1≤0∨n<0∨60<n):linE m R Cc W x h n=1:=by
 unfold linE
 rw [yG.2 h2]
 cases dec (nT R Cc W) <;> rfl
theorem linE_fit (h1:nT R Cc W) (h2:¬ (¬ uG x∨¬ wI h.1 h.2∨m<0∨6<m∨h.1≤0∨n<0∨60<n)) (h3:R≠Cc∨(x.length:Int)≠R):linE m R Cc W x h n=8:=by
 unfold linE
 rw [yG.2 h1,yI.2 h2,yG.2 h3]
 rfl
theorem linE_ok (h1:nT R Cc W) (h2:¬ (¬ uG x∨¬ wI h.1 h.2∨m<0∨6<m∨h.1≤0∨n<0∨60<n)) (h3:¬ (R≠Cc∨(x.length:Int)≠R)):linE m R Cc W x h n=0:=by
 unfold linE
 rw [yG.2 h1,yI.2 h2,yI.2 h3]
 rfl
end
structure LH (k:Nat) (cv:C) (hc:List C) (H:Hp):Prop where
 k2:∃ el kd,(kd=.rw∨kd=.ro)∧H[2]?=some (.live ⟨[iC k],el,kd⟩)
 k3:∃ el kd,(kd=.rw∨kd=.ro)∧H[3]?=some (.live ⟨[cv],el,kd⟩)
 k4:∃ el kd,(kd=.rw∨kd=.ro)∧H[4]?=some (.live ⟨hc,el,kd⟩)
 k5:∃ el kd,(kd=.rw∨kd=.ro)∧H[5]?=some (.live ⟨[.fn n_step_Linear_1 [.ptr 2 0,.ptr 3 0]],el,kd⟩)
section
variable {k:Nat} {cv:C} {hc:List C} {H:Hp}
theorem LH.grow {X:Hp} (h:LH k cv hc H):LH k cv hc (H++X):=by
 obtain ⟨⟨e2,d2,a2,b2⟩,⟨e3,d3,a3,b3⟩,⟨e4,d4,a4,b4⟩,⟨e5,d5,a5,b5⟩⟩:=h
 exact ⟨⟨e2,d2,a2,by rw [List.getElem?_append_left (lt_of_getElem? b2)]; exact b2⟩,⟨e3,d3,a3,by rw [List.getElem?_append_left (lt_of_getElem? b3)]; exact b3⟩,⟨e4,d4,a4,by rw [List.getElem?_append_left (lt_of_getElem? b4)]; exact b4⟩,⟨e5,d5,a5,by rw [List.getElem?_append_left (lt_of_getElem? b5)]; exact b5⟩⟩
theorem LH.close (h:LH k cv hc H) (bs:List Nat):LH k cv hc (xX H bs):=by
 obtain ⟨⟨e2,d2,a2,b2⟩,⟨e3,d3,a3,b3⟩,⟨e4,d4,a4,b4⟩,⟨e5,d5,a5,b5⟩⟩:=h
 obtain ⟨x2,y2,z2,_⟩:=pZ b2 a2 bs
 obtain ⟨x3,y3,z3,_⟩:=pZ b3 a3 bs
 obtain ⟨x4,y4,z4,_⟩:=pZ b4 a4 bs
 obtain ⟨x5,y5,z5,_⟩:=pZ b5 a5 bs
 exact ⟨⟨e2,x2,z2,y2⟩,⟨e3,x3,z3,y3⟩,⟨e4,x4,z4,y4⟩,⟨e5,x5,z5,y5⟩⟩
theorem ptr_fz {b:Nat} {cs ds:List C} {el:TypeId} {kd:BK} (hb:H[b]?=some (.live ⟨cs,el,kd⟩)) (hk:kd=.rw∨kd=.ro) {bs:List Nat} (hbs:b∈bs) (hd:FzL (·=.ro) (xX H bs) cs ds):Fz (·=.ro) (xX H bs) (.ptr b 0) (.ipt ds):=by
 obtain ⟨k',h1,h2,h3⟩:=pZ hb hk bs
 obtain rfl:=h3 hbs
 exact .ptr (bx:=⟨cs,el,.ro⟩) h1 rfl (by simp) (by simpa using hd)
theorem LH.fz23 (h:LH k cv hc H) (hv:HFC cv) {bs:List Nat} (h2:2∈bs) (h3:3∈bs):Fz (·=.ro) (xX H bs) (.ptr 2 0) (.ipt [iC k])∧Fz (·=.ro) (xX H bs) (.ptr 3 0) (.ipt [cv]):=by
 obtain ⟨⟨e2,d2,a2,b2⟩,⟨e3,d3,a3,b3⟩,_,_⟩:=h
 exact ⟨ptr_fz b2 a2 h2 (.cons (.hf trivial) .nil),ptr_fz b3 a3 h3 (.cons (.hf hv) .nil)⟩
theorem LH.fz45 (h:LH k cv hc H) (hv:HFC cv) (hh:HFL hc) {bs:List Nat} (h2:2∈bs) (h3:3∈bs) (h4:4∈bs) (h5:5∈bs):Fz (·=.ro) (xX H bs) (.ptr 4 0) (.ipt hc)∧Fz (·=.ro) (xX H bs) (.ptr 5 0) (.ipt [.fn n_step_Linear_1 [.ipt [iC k],.ipt [cv]]]):=by
 obtain ⟨f2,f3⟩:=h.fz23 hv h2 h3
 obtain ⟨_,_,⟨e4,d4,a4,b4⟩,⟨e5,d5,a5,b5⟩⟩:=h
 exact ⟨ptr_fz b4 a4 h4 (FzL.hf hh),ptr_fz b5 a5 h5 (.cons (.fn (.cons f2 (.cons f3 .nil))) .nil)⟩
end
theorem semH_closed {P:Program} {f:FuncId} {args:List V} {H:Hp} {K:V→Hp→Prop} (bs:List Nat) (h:semH P f args (xX H bs) K):semH P f args H K :=
 ⟨h.1,fun base w β vs hp hv => by
  obtain ⟨hp1,hx1⟩:=HRel.closeB hp bs
  refine (h.2 base w β vs hp1 (RVL.to (hx1.to base) hv)).mono ?_
  rintro e w' ⟨v,u,β',H',he,hk,hp',hx',hr⟩
  exact ⟨v,u,β',H',he,hk,hp',hx1.trans hx',hr⟩⟩
theorem keep_45 {inc:List Nat} {log:List (Nat × Option Nat)} {H H':Hp} (h:(log.all fun p => match p.2 with | none => true | some b => Nat.beq b 4 || Nat.beq b 5)=true) (e4:H'[4]?=H[4]?) (e5:H'[5]?=H[5]?):jP inc log H H':=fun p hp _ b hb => by
 have:=List.all_eq_true.1 h p hp
 rw [hb] at this
 simp only [Bool.or_eq_true] at this
 rcases this with h | h
 ·rw [Nat.eq_of_beq_eq_true h]
  exact e4
 ·rw [Nat.eq_of_beq_eq_true h]
  exact e5
theorem times_imm {cy cv:C} {hc:List C} {k n DA Dh:Nat} {y v:List Rat} {h:Rat} {H:Hp} {K:V→Hp→Prop} (hL:LH k cv hc H) (hy:Ls (elQ 4194304) cy y) (hyl:y.length=k) (hv:Ls (elQ 2) cv v) (hvl:v.length=k*k) (l:qM k (matM k v) h DA Dh) (hb:CpL n y) (hn:n≤9000000)
  (q:∀ c H',Ls (elQ 4194304) c (vC k (matM k v) y)→LH k cv hc H'→H'[4]?=H[4]?→H'[5]?=H[5]?→K (.c c) H'):semH Tryz.prog n_step_Linear_1 [.c cy,.c (.ptr 2 0),.c (.ptr 3 0)] H K:=by
 obtain ⟨f2,f3⟩:=hL.fz23 hv.hf (bs:=[2,3]) (by simp) (by simp)
 have hL1:=hL.close [2,3]
 have e4:(xX H [2,3])[4]?=H[4]?:=sG (by simp)
 have e5:(xX H [2,3])[5]?=H[5]?:=sG (by simp)
 have l5:5<(xX H [2,3]).length:=by
  obtain ⟨_,_,_,b5⟩:=hL1.k5
  exact lt_of_getElem? b5
 refine semH_closed [2,3] (semH_close (K':=fun u H' => ∃ cells,Els (elQ 4194304) cells (vC k (matM k v) y)∧u=.c (.sl (xX H [2,3]).length 0 k (some k) 6)∧H'=xX H [2,3]++[.live ⟨cells,xK,.rw⟩]) (gM (.cons (.c (.hf hy.hf)) (.cons (.c f2) (.cons (.c f3) .nil))) (lin_times hy hyl hv hvl l hb hn) (fun u H' hu => .inr (by
  obtain ⟨b,cells,rfl,hb,hE⟩:=hu
  refine ⟨b,_,_,hb,rfl,hE.hf,.c,?_⟩
  rw [xV]
  exact ⟨cells,hE,rfl,rfl⟩))) (fun u H' hu => ?_))
 obtain ⟨cells,hE,rfl,rfl⟩:=hu
 have hcl:=hE.len
 rw [xV] at hcl
 have hcl:cells.length=k*6:=hcl
 have hlm:=Ls.imm hE
 rw [xV] at hlm
 have hco:xX (xX H [2,3]++[Slot.live ⟨cells,xK,.rw⟩]) [(xX H [2,3]).length]=xX H [2,3]++[Slot.live ⟨cells,xK,.ro⟩]:=by rw [close_one (yM _ _),qN]
 refine ⟨[(xX H [2,3]).length],.c (.imm k cells),?_,?_⟩
 ·rw [hco]
  exact .c (.sl (bx:=⟨cells,xK,.ro⟩) (yM _ _) rfl (by simp) (by rw [List.drop_zero,List.take_of_length_le (by simp only; omega)]; exact .hf hE.hf))
 ·rw [hco]
  refine q _ _ hlm hL1.grow ?_ ?_
  ·rw [List.getElem?_append_left (by omega)]
   exact e4
  ·rw [List.getElem?_append_left l5]
   exact e5
attribute [local irreducible] yA semH semC qLen qNil qIad qSlc qIdx yU yL yY appX appI slcX awpF yP xE xopF xL qval lval seqQ xD xW xT xP cnd arith IntKind.wrap
theorem step_Linear {cV cx:C} {W x:List R2} (m R Cc n:Int) (h:R2) (hV:Ls elP cV W) (hVl:W.length<9223372036854775808) (hx:Ls elP cx x) (hxl:x.length<9223372036854775808):semC Tryz.prog n_step_Linear [i64 m,.agg [iC R,iC Cc,cV],.c cx,.agg (ratC h),i64 n] (LinK m R Cc W x h n):=by
 refine yD ok_step_Linear rfl (show HFVs [i64 m,.agg [iC R,iC Cc,cV],.c cx,.agg (ratC h),i64 n] from ⟨trivial,⟨trivial,trivial,hV.hf,trivial⟩,hx.hf,jL _,trivial,trivial⟩) ?_
 (refine go13 ?_; repeat (refine yC (by rfl) ?_; refine go13 ?_))
 refine yB (mat_Validate R Cc hV hVl) (fun u hu => ?_)
 obtain rfl:=hu
 (refine go13 ?_; repeat (refine yC (by rfl) ?_; refine go13 ?_))
 cases h1:dec (nT R Cc W)
 case false =>
  rw [mat_no (yI.1 h1),show yA Cm.neq 1 0=true by simp [yA]]
  (refine go13 ?_; repeat (refine yC (by rfl) ?_; refine go13 ?_))
  exact LinK.err (jE (linE_mat (yI.1 h1)) (by decide)) (by decide)
 have h1:=yG.1 h1
 rw [mat_ok h1,show yA Cm.neq 0 0=false by simp [yA]]
 (refine go13 ?_; repeat (refine yC (by rfl) ?_; refine go13 ?_))
 refine yB (nE hx hxl) (fun u hu => ?_)
 obtain ⟨z,rfl,hz⟩:=hu
 cases z
 case false =>
  (refine go13 ?_; repeat (refine yC (by rfl) ?_; refine go13 ?_))
  exact LinK.err (jE (sQ (.inl fun hh => by cases hz.2 hh)) (by decide)) (by decide)
 have hvx:=hz.1 rfl
 (refine go13 ?_; repeat (refine yC (by rfl) ?_; refine go13 ?_))
 refine yB (nP h.1 h.2) (fun u hu => ?_)
 obtain ⟨z,rfl,hz2⟩:=hu
 cases z
 case false =>
  (refine go13 ?_; repeat (refine yC (by rfl) ?_; refine go13 ?_))
  exact LinK.err (jE (sQ (.inr (.inl fun hh => by cases hz2.2 hh))) (by decide)) (by decide)
 have hvh:=hz2.1 rfl
 (refine go13 ?_; repeat (refine yC (by rfl) ?_; refine go13 ?_))
 cases q1:yA Cm.lss m 0
 case true =>
  simp [yA] at q1
  (refine go13 ?_; repeat (refine yC (by rfl) ?_; refine go13 ?_))
  exact LinK.err (jE (sQ (by omega)) (by decide)) (by decide)
 simp [yA] at q1
 (refine go13 ?_; repeat (refine yC (by rfl) ?_; refine go13 ?_))
 cases q2:yA Cm.gtr m 6
 case true =>
  simp [yA] at q2
  (refine go13 ?_; repeat (refine yC (by rfl) ?_; refine go13 ?_))
  exact LinK.err (jE (sQ (by omega)) (by decide)) (by decide)
 simp [yA] at q2
 (refine go13 ?_; repeat (refine yC (by rfl) ?_; refine go13 ?_))
 cases q3:yA Cm.leq h.1 0
 case true =>
  simp [yA] at q3
  (refine go13 ?_; repeat (refine yC (by rfl) ?_; refine go13 ?_))
  exact LinK.err (jE (sQ (by omega)) (by decide)) (by decide)
 simp [yA] at q3
 (refine go13 ?_; repeat (refine yC (by rfl) ?_; refine go13 ?_))
 cases q4:yA Cm.lss n 0
 case true =>
  simp [yA] at q4
  (refine go13 ?_; repeat (refine yC (by rfl) ?_; refine go13 ?_))
  exact LinK.err (jE (sQ (by omega)) (by decide)) (by decide)
 simp [yA] at q4
 (refine go13 ?_; repeat (refine yC (by rfl) ?_; refine go13 ?_))
 cases q5:yA Cm.gtr n 60
 case true =>
  simp [yA] at q5
  (refine go13 ?_; repeat (refine yC (by rfl) ?_; refine go13 ?_))
  exact LinK.err (jE (sQ (by omega)) (by decide)) (by decide)
 simp [yA] at q5
 have harg:¬ (¬ uG x∨¬ wI h.1 h.2∨m<0∨6<m∨h.1≤0∨n<0∨60<n):=by
  rintro (hh | hh | hh)
  ·exact hh hvx
  ·exact hh hvh
  ·omega
 (refine go13 ?_; repeat (refine yC (by rfl) ?_; refine go13 ?_))
 cases q6:yA Cm.neq R Cc
 case true =>
  simp [yA] at q6
  (refine go13 ?_; repeat (refine yC (by rfl) ?_; refine go13 ?_))
  exact LinK.err (jE (linE_fit h1 harg (.inl q6)) (by decide)) (by decide)
 simp [yA] at q6
 (refine go13 ?_; repeat (refine yC (by rfl) ?_; refine go13 ?_))
 cases q7:yA Cm.neq (x.length:Int) R
 case true =>
  simp [yA] at q7
  (refine go13 ?_; repeat (refine yC (by rfl) ?_; refine go13 ?_))
  exact LinK.err (jE (linE_fit h1 harg (.inr q7)) (by decide)) (by decide)
 simp [yA] at q7
 have hE0:=linE_ok h1 harg (show ¬ (R≠Cc∨(x.length:Int)≠R) by omega)
 have hMO:=h1
 obtain ⟨k0,k12,_,_,hWl,hvW⟩:=h1
 subst q6
 obtain ⟨k,hkR⟩:∃ k:Nat,R=(k:Int):=Int.eq_ofNat_of_zero_le k0
 subst hkR
 obtain ⟨n',rfl⟩:=Int.eq_ofNat_of_zero_le q4
 obtain ⟨DA,Dh,l⟩:=lin_in (k:=k) hMO rfl hvh
 have hkk:k*k≤144:=Nat.mul_le_mul (show k≤12 by omega) (show k≤12 by omega)
 have hWk:W.length=k*k:=by exact_mod_cast hWl
 have hxk:x.length=k:=by omega
 (refine go13 ?_; repeat (refine yC (by rfl) ?_; refine go13 ?_))
 refine yK (num_In hV hvW (by omega)) (fun u hu => ?_)
 obtain ⟨cv,rfl,hv⟩:=hu
 (refine go13 ?_; repeat (refine yC (by rfl) ?_; refine go13 ?_))
 refine yK (q_Of hvh) (fun u hu => ?_)
 obtain ⟨r1,rfl,g1⟩:=hu
 obtain ⟨h0,h1',h2,h3,h4,h5,rfl⟩:=id g1.six
 (refine go13 ?_; repeat (refine yC (by rfl) ?_; refine go13 ?_))
 try refine goN ?_
 refine yB (num_In hx hvx (by omega)) (fun u hu => ?_)
 obtain ⟨c1,rfl,ly⟩:=hu
 (refine go13 ?_; repeat (refine yC (by rfl) ?_; refine go13 ?_))
 refine yR (fun w vs H => ∃ (i:Nat) (cy cz:C) (y z:List Rat),vs=[i64 m,.c (.ptr 4 0),.c (.ptr 5 0),.c (.fn n_step_Linear_2 [.ptr 5 0,.ptr 4 0,.ptr 2 0,.ptr 3 0]),.c cy,.c cz,i64 n',i64 i]∧w=n' - i∧i≤n'∧LH k cv [h0,h1',h2,h3,h4,h5] H∧tC m k (matM k (W.map rt)) (rt h) (x.map rt) i=some (y,z)∧LinAt k m i y z∧Ls (elQ 4194304) cy y∧(0<i→Ls (elQ 4194304) cz z)) (by rfl) ⟨0,c1,.nilSl,x.map rt,[],rfl,rfl,by omega,⟨⟨_,.rw,.inl rfl,rfl⟩,⟨_,.rw,.inl rfl,rfl⟩,⟨_,.rw,.inl rfl,rfl⟩,⟨_,.rw,.inl rfl,rfl⟩⟩,rfl,⟨by rw [List.length_map]; exact hxk,fun hh => by omega,(CpL.rats hvx).mono (by omega),fun _ hh => by omega⟩,ly.up (by decide),fun hh => by omega⟩ ?_
 rintro w vs H ⟨i,cy,cz,y,z,rfl,rfl,i1,hL,hr,hA,lcy,lcz⟩
 have hv2:Ls (elQ 2) cv (W.map rt):=hv
 (refine go13 ?_; repeat (refine yC (by rfl) ?_; refine go13 ?_))
 cases hi:yA Cm.lss (i:Int) (n':Int)
 case false =>
  simp [yA] at hi
  have ei:i=n':=by omega
  subst ei
  have ho:sF m k k W x h i=bif dec (pU y) then .ok y else .error 3:=by
   unfold sF
   rw [yG.2 hE0,Int.toNat_natCast,Int.toNat_natCast,hr]
   rfl
  (refine go13 ?_; repeat (refine yC (by rfl) ?_; refine go13 ?_))
  refine yB (num_Outs lcy (by rw [hA.ly]; omega)) (fun u hu => ?_)
  obtain ⟨c5,l5,rfl⟩:=hu
  cases hfit:dec (pU y)
  case false =>
   rw [hfit] at ho
   have e5:bP y=([],false):=by unfold bP; rw [show dec (∀ q∈y,fitR (rp q)=true)=false from hfit]; rfl
   rw [e5] at l5 ⊢
   (refine go13 ?_; repeat (refine yC (by rfl) ?_; refine go13 ?_))
   exact LinK.err ho (by decide)
  rw [hfit] at ho
  have e5:bP y=(y.map rp,true):=by unfold bP; rw [show dec (∀ q∈y,fitR (rp q)=true)=true from hfit]; rfl
  rw [e5] at l5 ⊢
  (refine go13 ?_; repeat (refine yC (by rfl) ?_; refine go13 ?_))
  exact ⟨_,.tup (.cons (.c (.hf l5.hf)) (.cons (.c (.hf trivial)) .nil)),.inl ⟨y,_,ho,by rw [hA.ly]; omega,rfl,l5⟩⟩
 simp [yA] at hi
 have hnx:=linRun_next hr
 (refine go13 ?_; repeat (refine yC (by rfl) ?_; refine go13 ?_))
 cases c6:yA Cm.eql m 6
 case false =>
  simp [yA] at c6
  have hln:uQ m k (matM k (W.map rt)) (rt h) i y z=uP m k (matM k (W.map rt)) (rt h) y:=by
   unfold uQ
   rw [yI.2 (by omega),if_neg c6]
   rfl
  (refine go13 ?_; repeat (refine yC (by rfl) ?_; refine go13 ?_))
  rw [show yA Cm.eql m 6=false by simp [yA,c6]]
  (refine go13 ?_; repeat (refine yC (by rfl) ?_; refine go13 ?_))
  obtain ⟨f4,f5⟩:=hL.fz45 hv.hf g1.hf (bs:=[2,3,4,5]) (by simp) (by simp) (by simp) (by simp)
  obtain ⟨f2,f3⟩:=hL.fz23 hv.hf (bs:=[2,3,4,5]) (by simp) (by simp)
  refine nV (by rfl) (by rfl) ?_
  refine yV [2,3,4,5] (.cons (.c (.hf trivial)) (.cons (.c (.hf lcy.hf)) (.cons (.c f5) (.cons (.c f4) (.cons (.c f2) (.cons (.c f3) .nil)))))) (lin_do (by omega) (by omega) lcy hA.ly hv2 (by rw [List.length_map]; exact hWk) (g1.up (by decide)) l hA.cy (by omega)) (fun u hu => ?_)
  have hL2:=hL.close [2,3,4,5]
  rcases hu with ⟨y2,cy2,hy2,rfl,ly2⟩ | ⟨hy2,rfl⟩
  case inr =>
   have he:tC m k (matM k (W.map rt)) (rt h) (x.map rt) (i+1)=none:=by rw [hnx,hln,hy2]; rfl
   have he:=bR he (show i+1≤n' by omega)
   have ho:sF m k k W x h n'=.error 4:=by
    unfold sF
    rw [yG.2 hE0,Int.toNat_natCast,Int.toNat_natCast,he]
    rfl
   (refine go13 ?_; repeat (refine yC (by rfl) ?_; refine go13 ?_))
   exact LinK.err ho (by decide)
  (refine go13 ?_; repeat (refine yC (by rfl) ?_; refine go13 ?_))
  rw [yZ i (by omega)]
  exact l_n (by rfl) (n':=n' - (i+1)) (by omega) ⟨i+1,cy2,cy,y2,y,rfl,rfl,by omega,hL2,by rw [hnx,hln,hy2]; rfl,qV l hA (by rw [hln,hy2]),ly2,fun _ => lcy⟩
 simp [yA] at c6
 (refine go13 ?_; repeat (refine yC (by rfl) ?_; refine go13 ?_))
 cases c7:yA Cm.gtr (i:Int) 0
 case false =>
  simp [yA] at c7
  have hln:uQ m k (matM k (W.map rt)) (rt h) i y z=uP 1 k (matM k (W.map rt)) (rt h) y:=by
   unfold uQ
   rw [yI.2 (by omega),if_pos c6]
   rfl
  (refine go13 ?_; repeat (refine yC (by rfl) ?_; refine go13 ?_))
  rw [show yA Cm.eql m 6=true by simp [yA,c6]]
  (refine go13 ?_; repeat (refine yC (by rfl) ?_; refine go13 ?_))
  obtain ⟨f4,f5⟩:=hL.fz45 hv.hf g1.hf (bs:=[2,3,4,5]) (by simp) (by simp) (by simp) (by simp)
  obtain ⟨f2,f3⟩:=hL.fz23 hv.hf (bs:=[2,3,4,5]) (by simp) (by simp)
  refine nV (by rfl) (by rfl) ?_
  refine yV [2,3,4,5] (.cons (.c (.hf trivial)) (.cons (.c (.hf lcy.hf)) (.cons (.c f5) (.cons (.c f4) (.cons (.c f2) (.cons (.c f3) .nil)))))) (lin_do (by omega) (by omega) lcy hA.ly hv2 (by rw [List.length_map]; exact hWk) (g1.up (by decide)) l hA.cy (by omega)) (fun u hu => ?_)
  have hL2:=hL.close [2,3,4,5]
  rcases hu with ⟨y2,cy2,hy2,rfl,ly2⟩ | ⟨hy2,rfl⟩
  case inr =>
   have he:tC m k (matM k (W.map rt)) (rt h) (x.map rt) (i+1)=none:=by rw [hnx,hln,hy2]; rfl
   have he:=bR he (show i+1≤n' by omega)
   have ho:sF m k k W x h n'=.error 4:=by
    unfold sF
    rw [yG.2 hE0,Int.toNat_natCast,Int.toNat_natCast,he]
    rfl
   (refine go13 ?_; repeat (refine yC (by rfl) ?_; refine go13 ?_))
   exact LinK.err ho (by decide)
  (refine go13 ?_; repeat (refine yC (by rfl) ?_; refine go13 ?_))
  rw [yZ i (by omega)]
  exact l_n (by rfl) (n':=n' - (i+1)) (by omega) ⟨i+1,cy2,cy,y2,y,rfl,rfl,by omega,hL2,by rw [hnx,hln,hy2]; rfl,qV l hA (by rw [hln,hy2]),ly2,fun _ => lcy⟩
 simp [yA] at c7
 (refine go13 ?_; repeat (refine yC (by rfl) ?_; refine go13 ?_))
 have hln:uQ m k (matM k (W.map rt)) (rt h) i y z=some (twoV k (matM k (W.map rt)) (rt h) y z):=by
  unfold uQ
  rw [yG.2 ⟨c6,by omega⟩]
  rfl
 have lz':=lcz (by omega)
 have hzl:=hA.lz (by omega)
 have cyz:=hA.cz c6 (by omega)
 have ctm:=two_mid l cyz hA.ly hzl
 have hWm:(W.map rt).length=k*k:=by rw [List.length_map]; exact hWk
 have b32:CpL 2 [fr 3 2]:=c32
 have b12:CpL 2 [fr (-1) 2]:=c12
 have bh:=num_two hvh
 obtain ⟨e4,d4,a4,p4⟩:=hL.k4
 obtain ⟨e5,d5,a5,p5⟩:=hL.k5
 have hz4:(cyz.sub (m:=z) (fun q hq => List.mem_append.2 (.inr hq)))=(cyz.sub (m:=z) (fun q hq => List.mem_append.2 (.inr hq))):=rfl
 have cz2:CpL (1000+130000*i) z:=cyz.sub (fun q hq => List.mem_append.2 (.inr hq))
 clear hz4
 refine yO p4 (by rfl) ?_
 (refine go13 ?_; repeat (refine yC (by rfl) ?_; refine go13 ?_))
 refine yS p5 (by rfl) ?_
 (refine go13 ?_; repeat (refine yC (by rfl) ?_; refine go13 ?_))
 refine yO p4 (by rfl) ?_
 (refine go13 ?_; repeat (refine yC (by rfl) ?_; refine go13 ?_))
 refine yS p5 (by rfl) ?_
 (refine go13 ?_; repeat (refine yC (by rfl) ?_; refine go13 ?_))
 refine yK (jT (a:=3) (b:=2) (by decide) (by decide) (by decide)) (fun u hu => ?_)
 obtain ⟨s4,rfl,l4⟩:=hu
 have l4:IQ 1 s4 (fr 3 2):=l4
 (refine go13 ?_; repeat (refine yC (by rfl) ?_; refine go13 ?_))
 refine yK (qT g1 l4 (by decide)) (fun u hu => ?_)
 obtain ⟨s5,rfl,l5⟩:=hu
 refine d_keep (by rfl) (by rfl) (by rfl) ?_
 refine nV (by rfl) (by rfl) ?_
 refine times_imm hL lcy hA.ly hv2 hWm l hA.cy (by omega) (fun c6' H2 l6 hL2 x4 x5 => ⟨keep_45 (by rfl) x4 x5,?_⟩)
 (refine go13 ?_; repeat (refine yC (by rfl) ?_; refine go13 ?_))
 refine yK (mA lcy (l5.up (by decide)) l6 (by rw [xV,hA.ly]) (by rw [hA.ly]; omega) ctm.1 (by omega)) (fun u hu => ?_)
 obtain ⟨s7,rfl,l7⟩:=hu
 (refine go13 ?_; repeat (refine yC (by rfl) ?_; refine go13 ?_))
 refine yK (jT (a:=-1) (b:=2) (by decide) (by decide) (by decide)) (fun u hu => ?_)
 obtain ⟨s8,rfl,l8⟩:=hu
 have l8:IQ 1 s8 (fr (-1) 2):=l8
 (refine go13 ?_; repeat (refine yC (by rfl) ?_; refine go13 ?_))
 refine yK (qT g1 l8 (by decide)) (fun u hu => ?_)
 obtain ⟨s9,rfl,l9⟩:=hu
 refine d_keep (by rfl) (by rfl) (by rfl) ?_
 refine nV (by rfl) (by rfl) ?_
 refine times_imm hL2 lz' hzl hv2 hWm l cz2 (by omega) (fun c8 H3 l10 hL3 y4 y5 => ⟨keep_45 (by rfl) y4 y5,?_⟩)
 (refine go13 ?_; repeat (refine yC (by rfl) ?_; refine go13 ?_))
 have hml:(yX y (rt h*fr 3 2) (vC k (matM k (W.map rt)) y)).length=k:=by rw [xJ (by rw [xV,hA.ly]),hA.ly]
 refine yB (mA l7 (l9.up (by decide)) l10 (by rw [xV]; exact hml.symm) (by have:=hml; omega) (show CpL _ (yX (yX y (rt h*fr 3 2) (vC k (matM k (W.map rt)) y)) (rt h*fr (-1) 2) (vC k (matM k (W.map rt)) z)) from ctm.2.sub (fun q hq => List.mem_append.2 (.inl hq))) (by omega)) (fun u hu => ?_)
 obtain ⟨s11,rfl,l11⟩:=hu
 have l11:Ls (elQ 4194304) s11 (twoV k (matM k (W.map rt)) (rt h) y z):=l11
 (refine go13 ?_; repeat (refine yC (by rfl) ?_; refine go13 ?_))
 rw [yZ i (by omega)]
 exact l_n (by rfl) (n':=n' - (i+1)) (by omega) ⟨i+1,s11,cy,_,y,rfl,rfl,by omega,hL3,by rw [hnx,hln]; rfl,qV l hA hln,l11,fun _ => lcy⟩
end Go.Proofs.YtokckcnfojjpjaaGreat

namespace Go.Proofs.YtokckcnfojjpjaaGreat
open Go.RowKit
set_option maxRecDepth 20000
attribute [local irreducible] yA semH semC qLen qNil qIad qSlc qIdx yU yL yY appX appI slcX awpF yP xE xopF xL qval lval seqQ xD xW xT xP cnd arith IntKind.wrap
set_option maxHeartbeats 1000000 in
theorem ref19_Linear {cV cx:C} {W x:List R2} (m R Cc n:Int) (h:R2) (hV:Ls elP cV W) (hVl:W.length<9223372036854775808) (hx:Ls elP cx x) (hxl:x.length<9223372036854775808):semC Tryz.prog n_ref19_Linear [i64 m,.agg [iC R,iC Cc,cV],.c cx,.agg (ratC h),i64 n] (LinK m R Cc W x h n):=by
 refine yD ok_ref19_Linear rfl (show HFVs [i64 m,.agg [iC R,iC Cc,cV],.c cx,.agg (ratC h),i64 n] from ⟨trivial,⟨trivial,trivial,hV.hf,trivial⟩,hx.hf,jL _,trivial,trivial⟩) ?_
 (refine go13 ?_; repeat (refine yC (by rfl) ?_; refine go13 ?_))
 refine yB (ref04_Validate R Cc hV hVl) (fun u hu => ?_)
 obtain rfl:=hu
 (refine go13 ?_; repeat (refine yC (by rfl) ?_; refine go13 ?_))
 cases h1:dec (nT R Cc W)
 case false =>
  rw [mat_no (yI.1 h1),show yA Cm.neq 1 0=true by simp [yA]]
  (refine go13 ?_; repeat (refine yC (by rfl) ?_; refine go13 ?_))
  exact LinK.err (jE (linE_mat (yI.1 h1)) (by decide)) (by decide)
 have h1:=yG.1 h1
 rw [mat_ok h1,show yA Cm.neq 0 0=false by simp [yA]]
 (refine go13 ?_; repeat (refine yC (by rfl) ?_; refine go13 ?_))
 refine yB (ref01_AreW hx hxl) (fun u hu => ?_)
 obtain ⟨z,rfl,hz⟩:=hu
 cases z
 case false =>
  (refine go13 ?_; repeat (refine yC (by rfl) ?_; refine go13 ?_))
  repeat refine gJ (by rfl) (by rfl) (by rfl) ?_
  (refine go13 ?_; repeat (refine yC (by rfl) ?_; refine go13 ?_))
  exact LinK.err (jE (sQ (.inl fun hh => by cases hz.2 hh)) (by decide)) (by decide)
 have hvx:=hz.1 rfl
 (refine go13 ?_; repeat (refine yC (by rfl) ?_; refine go13 ?_))
 refine yB (ref01_Is h.1 h.2) (fun u hu => ?_)
 obtain ⟨z,rfl,hz2⟩:=hu
 cases z
 case false =>
  (refine go13 ?_; repeat (refine yC (by rfl) ?_; refine go13 ?_))
  repeat refine gJ (by rfl) (by rfl) (by rfl) ?_
  (refine go13 ?_; repeat (refine yC (by rfl) ?_; refine go13 ?_))
  exact LinK.err (jE (sQ (.inr (.inl fun hh => by cases hz2.2 hh))) (by decide)) (by decide)
 have hvh:=hz2.1 rfl
 (refine go13 ?_; repeat (refine yC (by rfl) ?_; refine go13 ?_))
 refine yB (ref19_isMethod m) (fun u hu => ?_)
 obtain ⟨z,rfl,hz3⟩:=hu
 cases z
 case false =>
  have hm:¬ (0≤m∧m≤6):=fun hh => by cases hz3.2 hh
  (refine go13 ?_; repeat (refine yC (by rfl) ?_; refine go13 ?_))
  repeat refine gJ (by rfl) (by rfl) (by rfl) ?_
  (refine go13 ?_; repeat (refine yC (by rfl) ?_; refine go13 ?_))
  exact LinK.err (jE (sQ (by omega)) (by decide)) (by decide)
 have hm:0≤m∧m≤6:=hz3.1 rfl
 (refine go13 ?_; repeat (refine yC (by rfl) ?_; refine go13 ?_))
 cases q3:yA Cm.leq h.1 0
 case true =>
  simp [yA] at q3
  (refine go13 ?_; repeat (refine yC (by rfl) ?_; refine go13 ?_))
  repeat refine gJ (by rfl) (by rfl) (by rfl) ?_
  (refine go13 ?_; repeat (refine yC (by rfl) ?_; refine go13 ?_))
  exact LinK.err (jE (sQ (by omega)) (by decide)) (by decide)
 simp [yA] at q3
 (refine go13 ?_; repeat (refine yC (by rfl) ?_; refine go13 ?_))
 cases q4:yA Cm.lss n 0
 case true =>
  simp [yA] at q4
  (refine go13 ?_; repeat (refine yC (by rfl) ?_; refine go13 ?_))
  repeat refine gJ (by rfl) (by rfl) (by rfl) ?_
  (refine go13 ?_; repeat (refine yC (by rfl) ?_; refine go13 ?_))
  exact LinK.err (jE (sQ (by omega)) (by decide)) (by decide)
 simp [yA] at q4
 (refine go13 ?_; repeat (refine yC (by rfl) ?_; refine go13 ?_))
 cases q5:yA Cm.gtr n 60
 case true =>
  simp [yA] at q5
  (refine go13 ?_; repeat (refine yC (by rfl) ?_; refine go13 ?_))
  repeat refine gJ (by rfl) (by rfl) (by rfl) ?_
  (refine go13 ?_; repeat (refine yC (by rfl) ?_; refine go13 ?_))
  exact LinK.err (jE (sQ (by omega)) (by decide)) (by decide)
 simp [yA] at q5
 have harg:¬ (¬ uG x∨¬ wI h.1 h.2∨m<0∨6<m∨h.1≤0∨n<0∨60<n):=by
  rintro (hh | hh | hh)
  ·exact hh hvx
  ·exact hh hvh
  ·omega
 (refine go13 ?_; repeat (refine yC (by rfl) ?_; refine go13 ?_))
 cases q6:yA Cm.neq R Cc
 case true =>
  simp [yA] at q6
  (refine go13 ?_; repeat (refine yC (by rfl) ?_; refine go13 ?_))
  repeat refine gJ (by rfl) (by rfl) (by rfl) ?_
  (refine go13 ?_; repeat (refine yC (by rfl) ?_; refine go13 ?_))
  exact LinK.err (jE (linE_fit h1 harg (.inl q6)) (by decide)) (by decide)
 simp [yA] at q6
 (refine go13 ?_; repeat (refine yC (by rfl) ?_; refine go13 ?_))
 cases q7:yA Cm.neq (x.length:Int) R
 case true =>
  simp [yA] at q7
  (refine go13 ?_; repeat (refine yC (by rfl) ?_; refine go13 ?_))
  repeat refine gJ (by rfl) (by rfl) (by rfl) ?_
  (refine go13 ?_; repeat (refine yC (by rfl) ?_; refine go13 ?_))
  exact LinK.err (jE (linE_fit h1 harg (.inr q7)) (by decide)) (by decide)
 simp [yA] at q7
 have hE0:=linE_ok h1 harg (show ¬ (R≠Cc∨(x.length:Int)≠R) by omega)
 have hMO:=h1
 obtain ⟨k0,k12,_,_,hWl,hvW⟩:=h1
 subst q6
 obtain ⟨k,hkR⟩:∃ k:Nat,R=(k:Int):=Int.eq_ofNat_of_zero_le k0
 subst hkR
 obtain ⟨n',rfl⟩:=Int.eq_ofNat_of_zero_le q4
 obtain ⟨DA,Dh,l⟩:=lin_in (k:=k) hMO rfl hvh
 have hkk:k*k≤144:=Nat.mul_le_mul (show k≤12 by omega) (show k≤12 by omega)
 have hWk:W.length=k*k:=by exact_mod_cast hWl
 have hxk:x.length=k:=by omega
 (refine go13 ?_; repeat (refine yC (by rfl) ?_; refine go13 ?_))
 try refine goN ?_
 refine yK (ref01_List hx hvx (by omega)) (fun u hu => ?_)
 obtain ⟨c1,rfl,ly⟩:=hu
 (refine go13 ?_; repeat (refine yC (by rfl) ?_; refine go13 ?_))
 refine yK (r_Of hvh) (fun u hu => ?_)
 obtain ⟨r1,rfl,g1⟩:=hu
 obtain ⟨h0,h1',h2,h3,rfl⟩:=id g1.four
 (refine go13 ?_; repeat (refine yC (by rfl) ?_; refine go13 ?_))
 try refine goN ?_
 refine yR (fun w vs H => ∃ (i:Nat) (cy cz:C) (y z:List Rat),vs=[i64 m,i64 n',.c (.ptr 0 0),.c cy,.c (.ptr 2 0),.c cz,i64 i]∧H=[.live ⟨[iC k,iC k,cV],uF,.rw⟩,.live ⟨ratC h,uW,.rw⟩,.live ⟨[h0,.bool h1',h2,.bool h3],yF,.rw⟩]∧w=n' - i∧i≤n'∧tC m k (matM k (W.map rt)) (rt h) (x.map rt) i=some (y,z)∧LinAt k m i y z∧Ls (elR 4194304) cy y∧(0<i→Ls (elR 4194304) cz z)) (by rfl) ⟨0,c1,.nilSl,x.map rt,[],rfl,rfl,rfl,by omega,rfl,⟨by rw [List.length_map]; exact hxk,fun hh => by omega,(CpL.rats hvx).mono (by omega),fun _ hh => by omega⟩,ly.up' (by decide),fun hh => by omega⟩ ?_
 rintro w vs H ⟨i,cy,cz,y,z,rfl,rfl,rfl,i1,hr,hA,lcy,lcz⟩
 (refine go13 ?_; repeat (refine yC (by rfl) ?_; refine go13 ?_))
 cases hi:yA Cm.lss (i:Int) (n':Int)
 case false =>
  simp [yA] at hi
  have ei:i=n':=by omega
  subst ei
  have ho:sF m k k W x h i=bif dec (pU y) then .ok y else .error 3:=by
   unfold sF
   rw [yG.2 hE0,Int.toNat_natCast,Int.toNat_natCast,hr]
   rfl
  (refine go13 ?_; repeat (refine yC (by rfl) ?_; refine go13 ?_))
  refine yB (ref01_Rats lcy (by rw [hA.ly]; omega)) (fun u hu => ?_)
  obtain ⟨c5,l5,rfl⟩:=hu
  cases hfit:dec (pU y)
  case false =>
   rw [hfit] at ho
   have e5:bP y=([],false):=by unfold bP; rw [show dec (∀ q∈y,fitR (rp q)=true)=false from hfit]; rfl
   rw [e5] at l5 ⊢
   (refine go13 ?_; repeat (refine yC (by rfl) ?_; refine go13 ?_))
   exact LinK.err ho (by decide)
  rw [hfit] at ho
  have e5:bP y=(y.map rp,true):=by unfold bP; rw [show dec (∀ q∈y,fitR (rp q)=true)=true from hfit]; rfl
  rw [e5] at l5 ⊢
  (refine go13 ?_; repeat (refine yC (by rfl) ?_; refine go13 ?_))
  exact ⟨_,.tup (.cons (.c (.hf l5.hf)) (.cons (.c (.hf trivial)) .nil)),.inl ⟨y,_,ho,by rw [hA.ly]; omega,rfl,l5⟩⟩
 simp [yA] at hi
 have hnx:=linRun_next hr
 have hyl:=hA.ly
 have hser:∀ mm:Int,mm≠4→mm≠5→uP mm k (matM k (W.map rt)) (rt h) y=some (uK k (matM k (W.map rt)) (rt h) (xZ mm).1 y):=fun mm a b => by
  unfold uP
  rw [yI.2 (by omega)]
  rfl
 (refine go13 ?_; repeat (refine yC (by rfl) ?_; refine go13 ?_))
 cases c6:yA Cm.eql m 6
 case true =>
  simp [yA] at c6
  (refine go13 ?_; repeat (refine yC (by rfl) ?_; refine go13 ?_))
  cases c7:yA Cm.gtr (i:Int) 0
  case true =>
   simp [yA] at c7
   have hln:uQ m k (matM k (W.map rt)) (rt h) i y z=some (twoV k (matM k (W.map rt)) (rt h) y z):=by
    unfold uQ
    rw [yG.2 ⟨c6,by omega⟩]
    rfl
   have lz':=lcz (by omega)
   have hzl:=hA.lz (by omega)
   have cyz:=hA.cz c6 (by omega)
   have ctm:=two_mid l cyz hA.ly hzl
   have cz2:CpL (1000+130000*i) z:=cyz.sub (fun q hq => List.mem_append.2 (.inr hq))
   (refine go13 ?_; repeat (refine yC (by rfl) ?_; refine go13 ?_))
   refine yK (r_Half (a:=3) (b:=2) (by decide) (by decide) (by decide)) (fun u hu => ?_)
   obtain ⟨s4,rfl,l4⟩:=hu
   (refine go13 ?_; repeat (refine yC (by rfl) ?_; refine go13 ?_))
   refine yK (nC g1 l4 (by decide)) (fun u hu => ?_)
   obtain ⟨s5,rfl,l5⟩:=hu
   (refine go13 ?_; repeat (refine yC (by rfl) ?_; refine go13 ?_))
   refine yK (times_C hV hvW hWk lcy hyl l hA.cy (by omega)) (fun u hu => ?_)
   obtain ⟨s6,rfl,l6⟩:=hu
   (refine go13 ?_; repeat (refine yC (by rfl) ?_; refine go13 ?_))
   refine yK (gE lcy (l5.up (by decide)) l6 (by rw [xV,hyl]) (by rw [hyl]; omega) ctm.1 (by omega)) (fun u hu => ?_)
   obtain ⟨s7,rfl,l7⟩:=hu
   (refine go13 ?_; repeat (refine yC (by rfl) ?_; refine go13 ?_))
   refine yK (r_Half (a:=-1) (b:=2) (by decide) (by decide) (by decide)) (fun u hu => ?_)
   obtain ⟨s8,rfl,l8⟩:=hu
   (refine go13 ?_; repeat (refine yC (by rfl) ?_; refine go13 ?_))
   refine yK (nC g1 l8 (by decide)) (fun u hu => ?_)
   obtain ⟨s9,rfl,l9⟩:=hu
   (refine go13 ?_; repeat (refine yC (by rfl) ?_; refine go13 ?_))
   refine yB (times_C hV hvW hWk lz' hzl l cz2 (by omega)) (fun u hu => ?_)
   obtain ⟨s10,rfl,l10⟩:=hu
   (refine go13 ?_; repeat (refine yC (by rfl) ?_; refine go13 ?_))
   have hml:(yX y (rt h*fr 3 2) (vC k (matM k (W.map rt)) y)).length=k:=by rw [xJ (by rw [xV,hA.ly]),hA.ly]
   refine yB (gE l7 (l9.up (by decide)) l10 (by rw [xV]; exact hml.symm) (by have:=hml; omega) (show CpL _ (yX (yX y (rt h*fr 3 2) (vC k (matM k (W.map rt)) y)) (rt h*fr (-1) 2) (vC k (matM k (W.map rt)) z)) from ctm.2.sub (fun q hq => List.mem_append.2 (.inl hq))) (by omega)) (fun u hu => ?_)
   obtain ⟨c9,rfl,l9⟩:=hu
   obtain ⟨w',hw'⟩:∃ w,w=twoV k (matM k (W.map rt)) (rt h) y z:=⟨_,rfl⟩
   have l9:Ls (elR 4194304) c9 w':=by rw [hw']; exact l9
   rw [←hw'] at hln
   have he:tC m k (matM k (W.map rt)) (rt h) (x.map rt) (i+1)=some (w',y):=by rw [hnx,hln]; rfl
   (refine go13 ?_; repeat (refine yC (by rfl) ?_; refine go13 ?_))
   rw [yZ i (by omega)]
   exact l_n (by rfl) (n':=n' - (i+1)) (by omega) ⟨i+1,c9,cy,w',y,rfl,rfl,rfl,by omega,he,qV l hA hln,l9,fun _ => lcy⟩
  simp [yA] at c7
  have hln:=hser 1 (by decide) (by decide)
  have hln:uQ m k (matM k (W.map rt)) (rt h) i y z=some (uK k (matM k (W.map rt)) (rt h) (xZ 1).1 y):=by
   unfold uQ
   rw [yI.2 (by omega),if_pos c6]
   exact hln
  (refine go13 ?_; repeat (refine yC (by rfl) ?_; refine go13 ?_))
  rw [show yA Cm.eql m 4=false by simp [yA,c6]]
  (refine go13 ?_; repeat (refine yC (by rfl) ?_; refine go13 ?_))
  rw [show yA Cm.eql m 5=false by simp [yA,c6]]
  (refine go13 ?_; repeat (refine yC (by rfl) ?_; refine go13 ?_))
  refine yB (ref19_series (m:=m) hV hvW hWk lcy hyl (g1.up (by decide)) l hA.cy (by omega)) (fun u hu => ?_)
  obtain ⟨c9,rfl,l9⟩:=hu
  rw [if_pos c6] at l9
  obtain ⟨w',hw'⟩:∃ w,w=uK k (matM k (W.map rt)) (rt h) (xZ 1).1 y:=⟨_,rfl⟩
  rw [←hw'] at l9 hln
  have he:tC m k (matM k (W.map rt)) (rt h) (x.map rt) (i+1)=some (w',y):=by rw [hnx,hln]; rfl
  (refine go13 ?_; repeat (refine yC (by rfl) ?_; refine go13 ?_))
  rw [yZ i (by omega)]
  exact l_n (by rfl) (n':=n' - (i+1)) (by omega) ⟨i+1,c9,cy,w',y,rfl,rfl,rfl,by omega,he,qV l hA hln,l9,fun _ => lcy⟩
 simp [yA] at c6
 (refine go13 ?_; repeat (refine yC (by rfl) ?_; refine go13 ?_))
 have hl0:uQ m k (matM k (W.map rt)) (rt h) i y z=uP m k (matM k (W.map rt)) (rt h) y:=by
  unfold uQ
  rw [yI.2 (by omega),if_neg c6]
  rfl
 have l9':=fun h1 h2 => ref19_series (m:=m) (n:=1000+130000*i) hV hvW hWk lcy hyl (g1.up h1) l hA.cy h2
 have t9':=fun hm h1 h2 => ref19_turned (m:=m) (n:=1000+130000*i) hm hV hvW hWk lcy hyl (g1.up h1) l hA.cy h2
 cases q8:yA Cm.eql m 4
 case false =>
  simp [yA] at q8
  (refine go13 ?_; repeat (refine yC (by rfl) ?_; refine go13 ?_))
  cases q9:yA Cm.eql m 5
  case false =>
   simp [yA] at q9
   have hln:uQ m k (matM k (W.map rt)) (rt h) i y z=some (uK k (matM k (W.map rt)) (rt h) (xZ m).1 y):=by
    rw [hl0]
    exact hser m q8 q9
   (refine go13 ?_; repeat (refine yC (by rfl) ?_; refine go13 ?_))
   refine yB (l9' (by decide) (by omega)) (fun u hu => ?_)
   obtain ⟨c9,rfl,l9⟩:=hu
   rw [if_neg c6] at l9
   obtain ⟨w',hw'⟩:∃ w,w=uK k (matM k (W.map rt)) (rt h) (xZ m).1 y:=⟨_,rfl⟩
   rw [←hw'] at l9 hln
   clear l9' t9'
   have he:tC m k (matM k (W.map rt)) (rt h) (x.map rt) (i+1)=some (w',y):=by rw [hnx,hln]; rfl
   (refine go13 ?_; repeat (refine yC (by rfl) ?_; refine go13 ?_))
   rw [yZ i (by omega)]
   exact l_n (by rfl) (n':=n' - (i+1)) (by omega) ⟨i+1,c9,cy,w',y,rfl,rfl,rfl,by omega,he,qV l hA hln,l9,fun _ => lcy⟩
  simp [yA] at q9
  (refine go13 ?_; repeat (refine yC (by rfl) ?_; refine go13 ?_))
  refine yB (t9' (.inr q9) (by decide) (by omega)) (fun u hu => ?_)
  clear l9' t9'
  rcases hu with ⟨w',c9,hw',rfl,l9⟩ | ⟨hw',rfl⟩
  case inr =>
   have he:tC m k (matM k (W.map rt)) (rt h) (x.map rt) (i+1)=none:=by rw [hnx,hl0,hw']; rfl
   have he:=bR he (show i+1≤n' by omega)
   have ho:sF m k k W x h n'=.error 4:=by
    unfold sF
    rw [yG.2 hE0,Int.toNat_natCast,Int.toNat_natCast,he]
    rfl
   (refine go13 ?_; repeat (refine yC (by rfl) ?_; refine go13 ?_))
   exact LinK.err ho (by decide)
  have hln:=hl0.trans hw'
  have he:tC m k (matM k (W.map rt)) (rt h) (x.map rt) (i+1)=some (w',y):=by rw [hnx,hln]; rfl
  (refine go13 ?_; repeat (refine yC (by rfl) ?_; refine go13 ?_))
  rw [yZ i (by omega)]
  exact l_n (by rfl) (n':=n' - (i+1)) (by omega) ⟨i+1,c9,cy,w',y,rfl,rfl,rfl,by omega,he,qV l hA hln,l9,fun _ => lcy⟩
 simp [yA] at q8
 (refine go13 ?_; repeat (refine yC (by rfl) ?_; refine go13 ?_))
 refine yB (t9' (.inl q8) (by decide) (by omega)) (fun u hu => ?_)
 clear l9' t9'
 rcases hu with ⟨w',c9,hw',rfl,l9⟩ | ⟨hw',rfl⟩
 case inr =>
  have he:tC m k (matM k (W.map rt)) (rt h) (x.map rt) (i+1)=none:=by rw [hnx,hl0,hw']; rfl
  have he:=bR he (show i+1≤n' by omega)
  have ho:sF m k k W x h n'=.error 4:=by
   unfold sF
   rw [yG.2 hE0,Int.toNat_natCast,Int.toNat_natCast,he]
   rfl
  (refine go13 ?_; repeat (refine yC (by rfl) ?_; refine go13 ?_))
  exact LinK.err ho (by decide)
 have hln:=hl0.trans hw'
 have he:tC m k (matM k (W.map rt)) (rt h) (x.map rt) (i+1)=some (w',y):=by rw [hnx,hln]; rfl
 (refine go13 ?_; repeat (refine yC (by rfl) ?_; refine go13 ?_))
 rw [yZ i (by omega)]
 exact l_n (by rfl) (n':=n' - (i+1)) (by omega) ⟨i+1,c9,cy,w',y,rfl,rfl,rfl,by omega,he,qV l hA hln,l9,fun _ => lcy⟩
end Go.Proofs.YtokckcnfojjpjaaGreat

namespace Go.Proofs.YtokckcnfojjpjaaGreat
open Go.RowKit
set_option maxRecDepth 20000
def BitK (u:V):Prop:=∃ b:Int,0≤b∧b≤63∧u=i64 b
def elJ:El Int:=⟨fun cs n => cs=[iC n],1,fun h => by rw [h]; rfl,fun h => by rw [h]; exact ⟨trivial,trivial⟩⟩
theorem ld_J {c:C} {l:List Int} {n i:Nat} {K:V→Prop} (hc:Ls elJ c l) (hi:i<l.length) (hn:n=i) (k:K (.c (iC l[i]))):yL (c.ds.drop (n*1)) false 1 K:=by
 subst hn
 obtain ⟨cs,r,h1,h2⟩:=hc.els.get hi
 obtain rfl:cs=[iC l[n]]:=h1
 have h2:c.ds.drop (n*1)=[iC l[n]]++r:=h2
 rw [h2]
 exact yC (by rfl) k
theorem needs_quo {b:Int} (h:b≠0):needs .quo b=true:=by simp [needs,h]
attribute [local irreducible] yA semH semC qLen qNil qIad qSlc qIdx yU yL yY appX appI slcX awpF yP xE xopF xL qval lval seqQ xD xW xT xP cnd arith IntKind.wrap
theorem law19_bits {c:C} {l:List R2} (hc:Ls elP c l) (hl:l.length<9223372036854775808):semC Tryz.prog n_law19_bits [.c c] BitK:=by
 refine yD ok_law19_bits rfl (show HFVs [.c c] from ⟨hc.hf,trivial⟩) ?_
 (refine go13 ?_; repeat (refine yC (by rfl) ?_; refine go13 ?_))
 refine yR (fun w vs H => ∃ (i:Nat) (b:Int),vs=[i64 b,.c c,i64 l.length,i64 i]∧w=l.length - i∧i≤l.length∧0≤b∧b≤63) (by rfl) ⟨0,0,rfl,rfl,by omega,by decide,by decide⟩ ?_
 rintro w vs H ⟨i,b,rfl,rfl,i1,b0,b63⟩
 (refine go13 ?_; repeat (refine yC (by rfl) ?_; refine go13 ?_))
 cases hi:yA Cm.lss (i:Int) (l.length:Int)
 case false =>
  simp [yA] at hi
  (refine go13 ?_; repeat (refine yC (by rfl) ?_; refine go13 ?_))
  exact ⟨_,.c (.hf trivial),b,b0,b63,rfl⟩
 simp [yA] at hi
 (refine go13 ?_; repeat (refine yC (by rfl) ?_; refine go13 ?_))
 refine uB hc (i:=i) hi (by omega) rfl (fun cs hcs => ?_)
 obtain rfl:cs=ratC l[i]:=hcs
 (refine go13 ?_; repeat (refine yC (by rfl) ?_; refine go13 ?_))
 have lp:Ls elJ (.imm 2 [iC l[i].1,iC l[i].2]) [l[i].1,l[i].2]:=.imm (.cons (cs:=[iC l[i].1]) rfl (.cons (cs:=[iC l[i].2]) rfl .nil))
 generalize hpl:[l[i].1,l[i].2]=pl at lp
 have hpl2:pl.length=2:=by rw [←hpl]; rfl
 refine yR (fun w vs H => ∃ (j:Nat) (b:Int),vs=[i64 b,.c c,i64 l.length,i64 i,.c (.imm 2 [iC l[i].1,iC l[i].2]),i64 2,i64 j]∧w=2 - j∧j≤2∧0≤b∧b≤63) (by rfl) ⟨0,b,rfl,rfl,by omega,b0,b63⟩ ?_
 clear b0 b63 b
 rintro w vs H2 ⟨j,b,rfl,rfl,j1,b0,b63⟩
 (refine go13 ?_; repeat (refine yC (by rfl) ?_; refine go13 ?_))
 cases hj:yA Cm.lss (j:Int) 2
 case false =>
  simp [yA] at hj
  (refine go13 ?_; repeat (refine yC (by rfl) ?_; refine go13 ?_))
  rw [yZ i (by omega)]
  exact l_n (by rfl) (n':=l.length - (i+1)) (by omega) ⟨i+1,b,rfl,rfl,by omega,b0,b63⟩
 simp [yA] at hj
 (refine go13 ?_; repeat (refine yC (by rfl) ?_; refine go13 ?_))
 refine ld_J lp (i:=j) (by omega) (by omega) ?_
 generalize pl[j]'(by omega)=kk
 (refine go13 ?_; repeat (refine yC (by rfl) ?_; refine go13 ?_))
 refine yR (fun w vs H => ∃ (d:Nat) (b:Int),vs=[i64 b,i64 kk,i64 d,.c c,i64 l.length,i64 i,.c (.imm 2 [iC l[i].1,iC l[i].2]),i64 2,i64 j]∧w=63 - d∧d≤63∧0≤b∧b≤63) (by rfl) ⟨0,b,rfl,rfl,by omega,b0,b63⟩ ?_
 clear b0 b63 b
 rintro w vs H3 ⟨d,b,rfl,rfl,d1,b0,b63⟩
 (refine go13 ?_; repeat (refine yC (by rfl) ?_; refine go13 ?_))
 cases hd:yA Cm.lss (d:Int) 63
 case false =>
  simp [yA] at hd
  (refine go13 ?_; repeat (refine yC (by rfl) ?_; refine go13 ?_))
  rw [yZ j (by omega)]
  exact l_n (by rfl) (n':=2 - (j+1)) (by omega) ⟨j+1,b,rfl,rfl,by omega,b0,b63⟩
 simp [yA] at hd
 (refine go13 ?_; repeat (refine yC (by rfl) ?_; refine go13 ?_))
 have fin:∀ (b2:Int),0≤b2→b2≤63→0≤(if ((d+1:Nat):Int) > b2 then ((d+1:Nat):Int) else b2)∧(if ((d+1:Nat):Int) > b2 then ((d+1:Nat):Int) else b2)≤63:=fun b2 h1 h2 => by split <;> omega
 generalize yA Cm.neq _ 0=w1
 cases w1
 case true =>
  (refine go13 ?_; repeat (refine yC (by rfl) ?_; refine go13 ?_))
  cases w2:yA Cm.gtr kk 0
  case true =>
   (refine go13 ?_; repeat (refine yC (by rfl) ?_; refine go13 ?_))
   rw [yZ d (by omega)]
   exact l_n (by rfl) (n':=63 - (d+1)) (by omega) ⟨d+1,_,rfl,rfl,by omega,(fin b b0 b63).1,(fin b b0 b63).2⟩
  (refine go13 ?_; repeat (refine yC (by rfl) ?_; refine go13 ?_))
  generalize yA Cm.neq _ 0=w3
  cases w3
  case true =>
   (refine go13 ?_; repeat (refine yC (by rfl) ?_; refine go13 ?_))
   cases w4:yA Cm.lss kk 0
   case true =>
    (refine go13 ?_; repeat (refine yC (by rfl) ?_; refine go13 ?_))
    rw [yZ d (by omega)]
    exact l_n (by rfl) (n':=63 - (d+1)) (by omega) ⟨d+1,_,rfl,rfl,by omega,(fin b b0 b63).1,(fin b b0 b63).2⟩
   (refine go13 ?_; repeat (refine yC (by rfl) ?_; refine go13 ?_))
   rw [yZ d (by omega)]
   exact l_n (by rfl) (n':=63 - (d+1)) (by omega) ⟨d+1,_,rfl,rfl,by omega,b0,b63⟩
  (refine go13 ?_; repeat (refine yC (by rfl) ?_; refine go13 ?_))
  rw [yZ d (by omega)]
  exact l_n (by rfl) (n':=63 - (d+1)) (by omega) ⟨d+1,_,rfl,rfl,by omega,b0,b63⟩
 (refine go13 ?_; repeat (refine yC (by rfl) ?_; refine go13 ?_))
 generalize yA Cm.neq _ 0=w3
 cases w3
 case true =>
  (refine go13 ?_; repeat (refine yC (by rfl) ?_; refine go13 ?_))
  cases w4:yA Cm.lss kk 0
  case true =>
   (refine go13 ?_; repeat (refine yC (by rfl) ?_; refine go13 ?_))
   rw [yZ d (by omega)]
   exact l_n (by rfl) (n':=63 - (d+1)) (by omega) ⟨d+1,_,rfl,rfl,by omega,(fin b b0 b63).1,(fin b b0 b63).2⟩
  (refine go13 ?_; repeat (refine yC (by rfl) ?_; refine go13 ?_))
  rw [yZ d (by omega)]
  exact l_n (by rfl) (n':=63 - (d+1)) (by omega) ⟨d+1,_,rfl,rfl,by omega,b0,b63⟩
 (refine go13 ?_; repeat (refine yC (by rfl) ?_; refine go13 ?_))
 rw [yZ d (by omega)]
 exact l_n (by rfl) (n':=63 - (d+1)) (by omega) ⟨d+1,_,rfl,rfl,by omega,b0,b63⟩
theorem law19_IsLong {cV cx:C} {W x:List R2} (R Cc n:Int) (h:R2) (hV:Ls elP cV W) (hVl:W.length<9223372036854775808) (hx:Ls elP cx x) (hxl:x.length<9223372036854775808):semC Tryz.prog n_law19_IsLong [.agg [iC R,iC Cc,cV],.c cx,.agg (ratC h),i64 n] (fun u => ∃ b:Bool,u=.c (.bool b)):=by
 refine yD ok_law19_IsLong rfl (show HFVs [.agg [iC R,iC Cc,cV],.c cx,.agg (ratC h),i64 n] from ⟨⟨trivial,trivial,hV.hf,trivial⟩,hx.hf,jL _,trivial,trivial⟩) ?_
 (refine go13 ?_; repeat (refine yC (by rfl) ?_; refine go13 ?_))
 cases q1:yA Cm.lss n 0
 case true =>
  (refine go13 ?_; repeat (refine yC (by rfl) ?_; refine go13 ?_))
  exact ⟨_,.c (.hf trivial),_,rfl⟩
 (refine go13 ?_; repeat (refine yC (by rfl) ?_; refine go13 ?_))
 cases q2:yA Cm.gtr n 60
 case true =>
  (refine go13 ?_; repeat (refine yC (by rfl) ?_; refine go13 ?_))
  exact ⟨_,.c (.hf trivial),_,rfl⟩
 (refine go13 ?_; repeat (refine yC (by rfl) ?_; refine go13 ?_))
 cases q3:yA Cm.lss R 0
 case true =>
  (refine go13 ?_; repeat (refine yC (by rfl) ?_; refine go13 ?_))
  exact ⟨_,.c (.hf trivial),_,rfl⟩
 (refine go13 ?_; repeat (refine yC (by rfl) ?_; refine go13 ?_))
 cases q4:yA Cm.gtr R 64
 case true =>
  (refine go13 ?_; repeat (refine yC (by rfl) ?_; refine go13 ?_))
  exact ⟨_,.c (.hf trivial),_,rfl⟩
 simp [yA] at q1 q2 q3 q4
 (refine go13 ?_; repeat (refine yC (by rfl) ?_; refine go13 ?_))
 refine yK (law19_bits hV hVl) (fun u hu => ?_)
 obtain ⟨b1,b10,b163,rfl⟩:=hu
 (refine go13 ?_; repeat (refine yC (by rfl) ?_; refine go13 ?_))
 refine yK (law19_bits hx hxl) (fun u hu => ?_)
 obtain ⟨b2,b20,b263,rfl⟩:=hu
 (refine go13 ?_; repeat (refine yC (by rfl) ?_; refine go13 ?_))
 refine yB (law19_bits (c:=.imm 1 (ratC h)) (l:=[h]) (.imm (.one rfl)) (by simp)) (fun u hu => ?_)
 obtain ⟨b3,b30,b363,rfl⟩:=hu
 (refine go13 ?_; repeat (refine yC (by rfl) ?_; refine go13 ?_))
 refine q_ar (by rfl) (by rfl) (needs_quo (by split <;> omega)) ?_
 (refine go13 ?_; repeat (refine yC (by rfl) ?_; refine go13 ?_))
 exact ⟨_,.c (.hf trivial),_,rfl⟩
end Go.Proofs.YtokckcnfojjpjaaGreat

namespace Go.Proofs.YtokckcnfojjpjaaGreat
open Go.RowKit
set_option maxRecDepth 20000
theorem eql_selfL (a:Int):yA Cm.eql a a=true:=by simp [yA]
attribute [local irreducible] yA semH semC qLen qNil qIad qSlc qIdx yU yL yY appX appI slcX awpF yP xE xopF xL qval lval seqQ xD xW xT xP cnd arith IntKind.wrap
theorem law19_StepLinear {cV cx:C} {W x:List R2} (m R Cc n:Int) (h:R2) (hV:Ls elP cV W) (hVl:W.length<9223372036854775808) (hx:Ls elP cx x) (hxl:x.length<9223372036854775808):semC Tryz.prog n_law19_StepLinear [i64 m,.agg [iC R,iC Cc,cV],.c cx,.agg (ratC h),i64 n] TrueK:=by
 refine yD ok_law19_StepLinear rfl (show HFVs [i64 m,.agg [iC R,iC Cc,cV],.c cx,.agg (ratC h),i64 n] from ⟨trivial,⟨trivial,trivial,hV.hf,trivial⟩,hx.hf,jL _,trivial,trivial⟩) ?_
 (refine go13 ?_; repeat (refine yC (by rfl) ?_; refine go13 ?_))
 refine yB (law19_IsLong R Cc n h hV hVl hx hxl) (fun u hu => ?_)
 obtain ⟨b,rfl⟩:=hu
 cases b
 case true =>
  (refine go13 ?_; repeat (refine yC (by rfl) ?_; refine go13 ?_))
  refine yB law19_known (fun u hu => ?_)
  obtain rfl:=hu
  (refine go13 ?_; repeat (refine yC (by rfl) ?_; refine go13 ?_))
  exact TrueK.fz
 (refine go13 ?_; repeat (refine yC (by rfl) ?_; refine go13 ?_))
 refine yB (step_Linear m R Cc n h hV hVl hx hxl) (fun u hu => ?_)
 rcases hu with ⟨y,c,ho,hyl,rfl,hc⟩ | ⟨e,ho,he,rfl⟩
 ·(refine go13 ?_; repeat (refine yC (by rfl) ?_; refine go13 ?_))
  refine yB (ref19_Linear m R Cc n h hV hVl hx hxl) (fun u hu => ?_)
  rcases hu with ⟨y2,c2,ho2,hyl2,rfl,hc2⟩ | ⟨e2,ho2,he2,rfl⟩
  ·rw [ho] at ho2
   cases ho2
   (refine go13 ?_; repeat (refine yC (by rfl) ?_; refine go13 ?_))
   refine yB (law19_same hc hc2 (by rw [List.length_map]; omega) (by rw [List.length_map]; omega)) (fun u hu => ?_)
   obtain ⟨z,rfl,hz⟩:=hu
   obtain rfl:z=true:=hz.2 rfl
   (refine go13 ?_; repeat (refine yC (by rfl) ?_; refine go13 ?_))
   rw [eql_selfL]
   (refine go13 ?_; repeat (refine yC (by rfl) ?_; refine go13 ?_))
   refine yB law19_known (fun u hu => ?_)
   obtain rfl:=hu
   (refine go13 ?_; repeat (refine yC (by rfl) ?_; refine go13 ?_))
   exact TrueK.fz
  ·rw [ho] at ho2
   cases ho2
 ·(refine go13 ?_; repeat (refine yC (by rfl) ?_; refine go13 ?_))
  refine yB (ref19_Linear m R Cc n h hV hVl hx hxl) (fun u hu => ?_)
  rcases hu with ⟨y2,c2,ho2,hyl2,rfl,hc2⟩ | ⟨e2,ho2,he2,rfl⟩
  ·rw [ho] at ho2
   cases ho2
  ·rw [ho] at ho2
   cases ho2
   (refine go13 ?_; repeat (refine yC (by rfl) ?_; refine go13 ?_))
   refine yB (law19_same (l:=[]) (m:=[]) .nil .nil (by simp) (by simp)) (fun u hu => ?_)
   obtain ⟨z,rfl,hz⟩:=hu
   obtain rfl:z=true:=hz.2 rfl
   (refine go13 ?_; repeat (refine yC (by rfl) ?_; refine go13 ?_))
   rw [eql_selfL]
   (refine go13 ?_; repeat (refine yC (by rfl) ?_; refine go13 ?_))
   refine yB law19_known (fun u hu => ?_)
   obtain rfl:=hu
   (refine go13 ?_; repeat (refine yC (by rfl) ?_; refine go13 ?_))
   exact TrueK.fz
end Go.Proofs.YtokckcnfojjpjaaGreat
