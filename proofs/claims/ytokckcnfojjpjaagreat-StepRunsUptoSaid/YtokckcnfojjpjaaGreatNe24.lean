/-
  Parts of the proof: The reference's run (ref19.Run).
-/
import Derived.Test.YtokckcnfojjpjaaGreatNe23
set_option linter.unusedVariables false
set_option linter.unusedSimpArgs false
namespace Go.Proofs.YtokckcnfojjpjaaGreat
open Go.RowKit
set_option maxRecDepth 20000
section
variable {α:Type} {E:El α}
theorem jT {el:TypeId} {es bytes:Nat} {s x:Option V} {K:V→Hp→Prop} {b n m:Nat} {co:Option Nat} {out:List α} {cs:List C} {a:α} {H:Hp} (ho:Out E el m H (.sl b 0 n co es) out) (hs:s=some (.c (.sl b 0 n co es))) (hx:x=some (.c (.imm 1 cs))) (he:E.s=es) (ha:E.p cs a) (hl:(out.length+1)*bytes≤140737488355328∧out.length+1≤140737488355328) (hm:m≤H.length)
  (k:∀ H',H.length<H'.length→(∀ j,j<H.length→j≠b→H'[j]?=H[j]?)→Out E el m H' (.sl H.length 0 (n+1) none es) (out++[a])→K (.c (.sl H.length 0 (n+1) none es)) H'):appX H el es bytes s x K:=by
 subst hs hx he
 have hlen:=E.len ha
 have hxs:tJ H E.s (.imm 1 cs)=some cs:=by
  simp only [tJ]
  rw [Nat.one_mul,List.take_of_length_le (Nat.le_of_eq hlen)]
 cases ho with
 | @sl b n co' cells ds l hm' hb hn hc h =>
  subst hn
  have hdl:(cells.take (out.length*E.s)).length=out.length*E.s:=by rw [hc]; exact h.len
  have hle:out.length*E.s≤cells.length:=by
   rw [List.length_take] at hdl
   omega
  have hlt:=lt_of_getElem? hb
  refine app_sl (cs:=cells) (xs:=cs) (m:=1) rfl rfl hxs rfl (by rw [hlen,Nat.one_mul]) hb hle hl.1 hl.2 ?_
  have e':(H.set b .dead).length=H.length:=by simp
  refine k _ (by simp) (fun j hj hne => ?_) (.sl (cells:=cells.take (out.length*E.s)++cs) (ds:=ds++cs) hm (by have:=yL (H.set b .dead) (.live ⟨cells.take (out.length*E.s)++cs,el,.rw⟩); rwa [e'] at this) (by simp) ?_ (h.snoc ha))
  ·rw [List.getElem?_append_left (by rw [e']; exact hj),List.getElem?_set_ne (Ne.symm hne)]
  ·rw [hc]
   exact List.take_of_length_le (by rw [List.length_append,h.len,hlen]; simp [Nat.add_mul])
theorem Out.other {el:TypeId} {m b n p:Nat} {co:Option Nat} {H:Hp} {s:Slot} {out:List α} (ho:Out E el m H (.sl b 0 n co E.s) out) (hp:p≠b):Out E el m (H.set p s) (.sl b 0 n co E.s) out:=by
 cases ho with
 | @sl _ _ _ cells ds _ hm hb hn hc h => exact .sl hm (by rw [List.getElem?_set_ne hp]; exact hb) hn hc h
end
theorem moved_ownY {x:List Rat} {x3:x.length≤3} {cx:C} (hx:Ls (elR 4194304) cx x) {cc:List C} {ck:C} {k:List Rat} {c:Rat} {a d e:Nat} (bx:CpL a x) (hc:IR 4194304 cc c) (bc:CpL d [c]) (lk:Ls (elR 4194304) ck k) (hk:k.length=x.length) (bk:CpL e k) (hn:(a+d+e+1)+(a+d+e+1)<134217728) {H:Hp} {K:V→Hp→Prop}
  (q:∀ cells,Els (elR 4194304) cells (yM x c k)→K (.c (.sl H.length 0 (yM x c k).length (some (yM x c k).length) 4)) (H++[.live ⟨cells,yC,.rw⟩])):semH Tryz.prog n_ref19_moved [.c cx,.agg cc,.c ck] H K :=
 bI (ref19_movedO hx hc lk hk (by omega) (wJ bx bc bk) hn) (fun u H' hu => .inr (by
  obtain ⟨b,cells,rfl,hb,hE⟩:=hu
  exact ⟨b,_,_,hb,rfl,hE.hf,.c,q cells hE⟩))
attribute [local irreducible] yA semH semC qLen qNil qIad qSlc qIdx yW yN xB appX appI slcX awpF yQ xH xopF xN qval lval seqQ xI xY xW xT cnd arith IntKind.wrap
set_option maxHeartbeats 1000000 in
theorem ref19_Run {cf cx:C} {f:List Pl} {x:List R2} (m:Int) (t h:R2) (g n:Int) (hc:Ls elM cf f) (hf:f.length<wD) (hx:Ls elP cx x) (hxl:x.length<wD):semC Tryz.prog n_ref19_Run [i64 m,.c cf,.agg (ratC t),.c cx,.agg (ratC h),i64 g,i64 n] (RunRK m f t x h g n):=by
 refine yD ok_ref19_Run rfl (show HFVs [i64 m,.c cf,.agg (ratC t),.c cx,.agg (ratC h),i64 g,i64 n] from ⟨trivial,hc.hf,tN _,hx.hf,tN _,trivial,trivial,trivial⟩) ?_
 refine go13 ?_
 refine yB (ref19_args m t h g n hc hf hx hxl) (fun u hu => ?_)
 obtain rfl:=hu
 refine go13 ?_
 rw [sT]
 cases h1:dec (sV m f t x h g n≠0)
 case true =>
  have h1:=yF.1 h1
  obtain ⟨b1,b2⟩:=args_bad h1
  refine go13 ?_
  exact ⟨_,.tup (.cons (.c (.hf trivial)) (.cons (.c (.hf trivial)) .nil)),.inr (.inr ⟨b2,_,h1,rfl,fun _ => b1.symm⟩)⟩
 have h1:sV m f t x h g n=0:=Classical.byContradiction (yG.1 h1)
 obtain ⟨z1,z2,z3,z4⟩:=args_zero h1
 have hsys:=jJ z1
 have hf3:=hsys.1.len
 have hT:=told_in z2.2.1 z4
 refine go13 ?_
 refine goN ?_
 cases q4:yA Cm.eql m 4
 case true =>
  simp [yA] at q4
  refine go13 ?_
  refine yB (jM hc hf) (fun u hu => ?_)
  obtain ⟨z,rfl,hz⟩:=hu
  cases z
  case false =>
   have ha:(m=4∨m=5)∧¬ AffS f:=⟨by omega,fun hh => by cases hz.2 hh⟩
   obtain ⟨b1,b2⟩:=args_aff h1 ha
   refine go13 ?_
   exact ⟨_,.tup (.cons (.c (.hf trivial)) (.cons (.c (.hf trivial)) .nil)),.inr (.inr ⟨b2,6,by decide,rfl,fun _ => b1.symm⟩)⟩
  have haf:¬ ((m=4∨m=5)∧¬ AffS f):=fun hh => hh.2 (hz.1 rfl)
  have hk:=gU h1 haf
  obtain ⟨n',rfl⟩:=Int.eq_ofNat_of_zero_le hk.n0
  have hn60:=hk.nm
  have hgm:=hk.gm
  have hm0:=hk.m0
  have hm6:=hk.m6
  have bt:=tV z2.1
  have bh:=tV z2.2.2
  refine go5 ?_
  try refine goN ?_
  refine yH (r_Of z2.1) (fun u hu => ?_)
  obtain ⟨r1,rfl,g1⟩:=hu
  obtain ⟨_,_,_,_,rfl⟩:=id g1.four
  refine go13 ?_
  try refine goN ?_
  refine yH (r_Of z2.2.2) (fun u hu => ?_)
  obtain ⟨r3,rfl,g3⟩:=hu
  obtain ⟨s0,s1,s2,s3,rfl⟩:=id g3.four
  refine go13 ?_
  try refine goN ?_
  refine yB (hZ hx z2.2.1 (by omega)) (fun u hu => ?_)
  obtain ⟨r2,rfl,g2⟩:=hu
  refine go13 ?_
  try refine goN ?_
  refine yR (fun w vs H => ∃ (i:Nat) (b:Nat) (co:Option Nat) (cn cl:C) (ac:List C) (out:List (List Rat)),vs=[i64 m,.c cf,i64 g,i64 n',.c (.sl b 0 (i+1) co 1),.c (.ptr 3 0),.c (.ptr 4 0),.c cn,.c cl,i64 i]∧w=n' - i∧i≤n'∧H[3]?=some (.live ⟨ac,yC,.rw⟩)∧IR 4194304 ac (rt t+rt h*((i:Int):Rat))∧H[4]?=some (.live ⟨[s0,.bool s1,s2,.bool s3],yC,.rw⟩)∧b≠3∧b≠4∧5≤H.length∧Out elLR jV 2 H (.sl b 0 (i+1) co 1) (out.map fun l => l.map rp)∧runV m f (rt h) (rt t) g (x.map rt) i=.ok out∧out.length=i+1∧(∀ l∈out,Told f l)∧Ls (elR 2) cn (out.getD i [])∧(0<i→Ls (elR 2) cl (out.getD (i - 1) []))) (by rfl) ⟨0,2,some 1,r2,.nilSl,_,[x.map rt],rfl,rfl,by omega,rfl,?_,rfl,by decide,by decide,by simp,?_,rfl,rfl,fun l hl => by simp at hl; subst hl; exact hT,g2,fun h0 => by omega⟩ ?_
  ·have e:rt t+rt h*(((0:Nat):Int):Rat)=rt t:=by
    have:(((0:Nat):Int):Rat)=0:=rfl
    rw [this]
    grind
   rw [e]
   exact g1.up (by decide)
  ·refine Out.sl (E:=elLR) (cells:=[cx]) (ds:=[cx]) (Nat.le_refl _) rfl rfl rfl ?_
   show Els elLR [cx] [(x.map rt).map rp]
   rw [rt_map z2.2.1]
   exact .one ⟨cx,rfl,hx,by omega⟩
  rintro w vs H ⟨i,b,co,cn,cl,ac,out,rfl,rfl,i1,hA,hat,hS,b3,b4,hH,i5,hr,hol,hot,lcn,lcl⟩
  obtain ⟨c0,c1,c2,c3,rfl⟩:=id hat.four
  have hgm':g<4294967296:=by omega
  refine go13 ?_
  cases hi:yA Cm.lss (i:Int) (n':Int)
  case false =>
   simp [yA] at hi
   have ei:i=n':=by omega
   subst ei
   refine go13 ?_
   obtain ⟨d,f1,l1⟩:=i5.fz (p:=(·≠.bor)) (by simp)
   exact ⟨_,.tup (.cons (.c f1) (.cons (.c (.hf trivial)) .nil)),.inr (.inl ⟨hk,out,d,hr,hot,hol,rfl,l1⟩)⟩
  simp [yA] at hi
  have hgl:out.getD i []=out[i]'(by omega):=by simp [List.getD,hol]
  have hlast:Told f (out.getD i []):=by rw [hgl]; exact hot _ (List.getElem_mem _)
  have bi:CpL 6 [((i:Int):Rat)]:=uV (by omega)
  have ba:CpL 90 [rt t+rt h*((i:Int):Rat)]:=(uW bt (vF bh bi)).mono (by decide)
  have bl:=tQ hf3 hlast
  obtain ⟨last,hla⟩:∃ last,last=out.getD i []:=⟨_,rfl⟩
  obtain ⟨at',hat'⟩:∃ a,a=rt t+rt h*((i:Int):Rat):=⟨_,rfl⟩
  have hnat:at'+rt h=rt t+rt h*(((i+1:Nat):Int):Rat):=by
   rw [hat']
   push_cast
   grind
  have hin:pN cf cn [s0,.bool s1,s2,.bool s3] [c0,.bool c1,c2,.bool c3] f last (rt h) at':=by
   rw [hla,hat']
   exact ⟨hc,vD hsys.1 (by rw [hlast.1]),hlast.1.symm,g3.up (by decide),lcn.up' (by decide),hat,bl,ba,bh.mono (by decide)⟩
  refine go13 ?_
  cases c6:yA Cm.eql m 6
  case false =>
   simp [yA] at c6
   have hnx:uT m f (rt h) (rt t+rt h*((i:Int):Rat)) i (out.getD i []) (out.getD (i - 1) [])=wF m f (rt h) at' last:=by
    unfold uT
    rw [yG.2 (by omega),hla,hat']
    rfl
   refine go13 ?_
   refine yJ hA (by rfl) ?_
   refine go13 ?_
   refine yJ hS (by rfl) ?_
   refine go13 ?_
   refine nM hm0 hm6 hin (fun e hr1 he => ?_) (fun y cells hr1 hyl hE => ?_)
   ·rcases qN hr1 with ⟨a1,a2,a3⟩ | ⟨a1,a2,a3⟩
    ·exact absurd ⟨a1,a2⟩ haf
    have he4:runV m f (rt h) (rt t) g (x.map rt) (i+1)=.error 4:=by
     simp only [runV,hr,wG,hnx,a2]
    subst a3
    refine go13 ?_
    rw [show yA Cm.neq 4 0=true by simp [yA]]
    refine go13 ?_
    exact ⟨_,.tup (.cons (.c (.hf trivial)) (.cons (.c (.hf trivial)) .nil)),.inl ⟨hk,4,uK he4 (by omega),by decide,rfl⟩⟩
   obtain ⟨a1,a2⟩:=uR hr1
   rw [a2] at hnx
   have hny:y.length=f.length:=by rw [hyl,hin.hl]
   refine go13 ?_
   rw [show yA Cm.neq 0 0=false by simp [yA]]
   refine go13 ?_
   refine uQ (yL _ _) hE (by omega) hgm' (fun hno s => ?_) (fun hfit c e s lc le => ?_)
   ·have he3:runV m f (rt h) (rt t) g (x.map rt) (i+1)=.error 3:=by
     simp only [runV,hr,wG,hnx]
     rw [yG.2 hno]
     rfl
    rw [wN]
    refine go13 ?_
    rw [show yA Cm.neq 3 0=true by simp [yA]]
    refine go13 ?_
    exact ⟨_,.tup (.cons (.c (.hf trivial)) (.cons (.c (.hf trivial)) .nil)),.inl ⟨hk,3,uK he3 (by omega),by decide,rfl⟩⟩
   have hr2:runV m f (rt h) (rt t) g (x.map rt) (i+1)=.ok (out++[y.map (rdV g)]):=by
    simp only [runV,hr,wG,hnx]
    rw [yF.2 hfit]
    rfl
   rw [wN]
   refine go13 ?_
   rw [show yA Cm.neq 0 0=false by simp [yA]]
   refine go13 ?_
   refine jT (E:=elLR) (i5.extS) (by rfl) (by rfl) rfl ⟨e,rfl,le,by simp only [List.length_map]; omega⟩ (by simp only [List.length_map,hol]; omega) (by simp; omega) (fun H' hl1 hl2 ho' => ?_)
   simp only [List.length_append,List.length_cons,List.length_nil] at hl1 hl2 ho' ⊢
   have hA':H'[3]?=some (.live ⟨[c0,.bool c1,c2,.bool c3],yC,.rw⟩):=by
    rw [hl2 3 (by omega) (Ne.symm b3),List.getElem?_append_left (by omega)]
    exact hA
   have hS':H'[4]?=some (.live ⟨[s0,.bool s1,s2,.bool s3],yC,.rw⟩):=by
    rw [hl2 4 (by omega) (Ne.symm b4),List.getElem?_append_left (by omega)]
    exact hS
   refine go13 ?_
   refine yJ hA' (by rfl) ?_
   refine go13 ?_
   refine yJ hS' (by rfl) ?_
   refine go13 ?_
   refine yB (tE hin.ht g3 (by decide)) (fun u hu => ?_)
   obtain ⟨u1,rfl,gu⟩:=hu
   rw [hnat] at gu
   have bi2:CpL 6 [(((i+1:Nat):Int):Rat)]:=uV (by omega)
   have gu:=gu.tightS (((uW bt (vF bh bi2)).mono (show _≤90 by decide)).bd (k:=4194304) (by decide) (by simp))
   obtain ⟨u0,u1,u2,u3,rfl⟩:=id gu.four
   refine go13 ?_
   refine yY hA' (by rfl) (by rfl) (by simp) ?_
   try refine goN ?_
   refine go13 ?_
   rw [yZ i (by omega)]
   refine l_n (by rfl) (n':=n' - (i+1)) (by omega) ⟨i+1,H.length+1,none,c,cn,_,out++[y.map (rdV g)],rfl,rfl,by omega,List.getElem?_set_self (by omega),gu,by rw [List.getElem?_set_ne (by decide)]; exact hS',by omega,by omega,by simp; omega,?_,hr2,by simp [hol],fun l hl => ?_,?_,fun _ => ?_⟩
   ·rw [List.map_append]
    exact ho'.other (by omega)
   ·rcases List.mem_append.1 hl with hl | hl
    ·exact hot l hl
    ·simp at hl
     subst hl
     exact ⟨by simp [hny],hfit⟩
   ·have:(out++[y.map (rdV g)]).getD (i+1) []=y.map (rdV g):=by simp [List.getD,hol]
    rw [this]
    exact lc
   ·have:(out++[y.map (rdV g)]).getD (i+1 - 1) []=out.getD i []:=by
     simp only [List.getD,Nat.add_sub_cancel]
     rw [List.getElem?_append_left (by omega)]
    rw [this]
    exact lcn
  simp [yA] at c6
  refine go13 ?_
  cases c7:yA Cm.gtr (i:Int) 0
  case false =>
   simp [yA] at c7
   have hnx:uT m f (rt h) (rt t+rt h*((i:Int):Rat)) i (out.getD i []) (out.getD (i - 1) [])=wF m f (rt h) at' last:=by
    unfold uT
    rw [yG.2 (by omega),hla,hat']
    rfl
   refine go13 ?_
   refine yJ hA (by rfl) ?_
   refine go13 ?_
   refine yJ hS (by rfl) ?_
   refine go13 ?_
   refine nM hm0 hm6 hin (fun e hr1 he => ?_) (fun y cells hr1 hyl hE => ?_)
   ·rcases qN hr1 with ⟨a1,a2,a3⟩ | ⟨a1,a2,a3⟩
    ·exact absurd ⟨a1,a2⟩ haf
    have he4:runV m f (rt h) (rt t) g (x.map rt) (i+1)=.error 4:=by
     simp only [runV,hr,wG,hnx,a2]
    subst a3
    refine go13 ?_
    rw [show yA Cm.neq 4 0=true by simp [yA]]
    refine go13 ?_
    exact ⟨_,.tup (.cons (.c (.hf trivial)) (.cons (.c (.hf trivial)) .nil)),.inl ⟨hk,4,uK he4 (by omega),by decide,rfl⟩⟩
   obtain ⟨a1,a2⟩:=uR hr1
   rw [a2] at hnx
   have hny:y.length=f.length:=by rw [hyl,hin.hl]
   refine go13 ?_
   rw [show yA Cm.neq 0 0=false by simp [yA]]
   refine go13 ?_
   refine uQ (yL _ _) hE (by omega) hgm' (fun hno s => ?_) (fun hfit c e s lc le => ?_)
   ·have he3:runV m f (rt h) (rt t) g (x.map rt) (i+1)=.error 3:=by
     simp only [runV,hr,wG,hnx]
     rw [yG.2 hno]
     rfl
    rw [wN]
    refine go13 ?_
    rw [show yA Cm.neq 3 0=true by simp [yA]]
    refine go13 ?_
    exact ⟨_,.tup (.cons (.c (.hf trivial)) (.cons (.c (.hf trivial)) .nil)),.inl ⟨hk,3,uK he3 (by omega),by decide,rfl⟩⟩
   have hr2:runV m f (rt h) (rt t) g (x.map rt) (i+1)=.ok (out++[y.map (rdV g)]):=by
    simp only [runV,hr,wG,hnx]
    rw [yF.2 hfit]
    rfl
   rw [wN]
   refine go13 ?_
   rw [show yA Cm.neq 0 0=false by simp [yA]]
   refine go13 ?_
   refine jT (E:=elLR) (i5.extS) (by rfl) (by rfl) rfl ⟨e,rfl,le,by simp only [List.length_map]; omega⟩ (by simp only [List.length_map,hol]; omega) (by simp; omega) (fun H' hl1 hl2 ho' => ?_)
   simp only [List.length_append,List.length_cons,List.length_nil] at hl1 hl2 ho' ⊢
   have hA':H'[3]?=some (.live ⟨[c0,.bool c1,c2,.bool c3],yC,.rw⟩):=by
    rw [hl2 3 (by omega) (Ne.symm b3),List.getElem?_append_left (by omega)]
    exact hA
   have hS':H'[4]?=some (.live ⟨[s0,.bool s1,s2,.bool s3],yC,.rw⟩):=by
    rw [hl2 4 (by omega) (Ne.symm b4),List.getElem?_append_left (by omega)]
    exact hS
   refine go13 ?_
   refine yJ hA' (by rfl) ?_
   refine go13 ?_
   refine yJ hS' (by rfl) ?_
   refine go13 ?_
   refine yB (tE hin.ht g3 (by decide)) (fun u hu => ?_)
   obtain ⟨u1,rfl,gu⟩:=hu
   rw [hnat] at gu
   have bi2:CpL 6 [(((i+1:Nat):Int):Rat)]:=uV (by omega)
   have gu:=gu.tightS (((uW bt (vF bh bi2)).mono (show _≤90 by decide)).bd (k:=4194304) (by decide) (by simp))
   obtain ⟨u0,u1,u2,u3,rfl⟩:=id gu.four
   refine go13 ?_
   refine yY hA' (by rfl) (by rfl) (by simp) ?_
   try refine goN ?_
   refine go13 ?_
   rw [yZ i (by omega)]
   refine l_n (by rfl) (n':=n' - (i+1)) (by omega) ⟨i+1,H.length+1,none,c,cn,_,out++[y.map (rdV g)],rfl,rfl,by omega,List.getElem?_set_self (by omega),gu,by rw [List.getElem?_set_ne (by decide)]; exact hS',by omega,by omega,by simp; omega,?_,hr2,by simp [hol],fun l hl => ?_,?_,fun _ => ?_⟩
   ·rw [List.map_append]
    exact ho'.other (by omega)
   ·rcases List.mem_append.1 hl with hl | hl
    ·exact hot l hl
    ·simp at hl
     subst hl
     exact ⟨by simp [hny],hfit⟩
   ·have:(out++[y.map (rdV g)]).getD (i+1) []=y.map (rdV g):=by simp [List.getD,hol]
    rw [this]
    exact lc
   ·have:(out++[y.map (rdV g)]).getD (i+1 - 1) []=out.getD i []:=by
     simp only [List.getD,Nat.add_sub_cancel]
     rw [List.getElem?_append_left (by omega)]
    rw [this]
    exact lcn
  simp [yA] at c7
  have hprev:Told f (out.getD (i - 1) []):=by
   rw [show out.getD (i - 1) []=out[i - 1]'(by omega) by
    have:i - 1<out.length:=by omega
    simp [List.getD,this]]
   exact hot _ (List.getElem_mem _)
  have lcl':=lcl (by omega)
  obtain ⟨prev,hpv⟩:∃ prev,prev=out.getD (i - 1) []:=⟨_,rfl⟩
  have bp:=tQ hf3 hprev
  rw [←hla] at bl hlast
  rw [←hpv] at bp lcl' hprev
  rw [←hat'] at ba
  have bm:CpL 140 [at' - rt h]:=(cp_sub ba bh).mono (by decide)
  have hnx:uT m f (rt h) (rt t+rt h*((i:Int):Rat)) i (out.getD i []) (out.getD (i - 1) [])=some (yM (yM last (rt h*fr 3 2) (yU f last at')) (rt h*fr (-1) 2) (yU f prev (at' - rt h))):=by
   unfold uT
   rw [yF.2 ⟨c6,by omega⟩,hla,hpv,hat']
   rfl
  have k1:CpL 9720 (yU f last at'):=(wO hin.hf bl ba).mono (by decide)
  have n1:(yU f last at').length=last.length:=by rw [wA,hlast.1]
  have k2:CpL 11000 (yU f prev (at' - rt h)):=(wO (vD hsys.1 (show _=prev.length+1 by rw [hprev.1])) bp bm).mono (by decide)
  have n2:(yU f prev (at' - rt h)).length=last.length:=by rw [wA,hlast.1]
  have c32':CpL 2 [fr 3 2]:=c32
  have c12':CpL 2 [fr (-1) 2]:=c12
  have x1:CpL 10000 (yM last (rt h*fr 3 2) (yU f last at')):=(wJ bl (vF bh c32') k1).mono (by decide)
  have m1:(yM last (rt h*fr 3 2) (yU f last at')).length=last.length:=yX n1
  refine go13 ?_
  refine yJ hA (by rfl) ?_
  refine go13 ?_
  refine yJ hA (by rfl) ?_
  refine go13 ?_
  refine yJ hS (by rfl) ?_
  refine go13 ?_
  refine yH (sU hin hin.hx rfl hin.ht bl ba (by decide)) (fun u hu => ?_)
  obtain ⟨w1,rfl,l1⟩:=hu
  refine go13 ?_
  refine yB (r_Sub2 hin.ht g3 (by decide)) (fun u hu => ?_)
  obtain ⟨w2,rfl,l2⟩:=hu
  have l2:=l2.tightS (bm.bd (k:=4194304) (by decide) (by simp))
  refine go13 ?_
  refine yB (sU hin (lcl'.up' (by decide)) (by rw [hprev.1,hlast.1]) l2 bp bm (by decide)) (fun u hu => ?_)
  obtain ⟨w3,rfl,l3⟩:=hu
  refine go13 ?_
  refine yJ hS (by rfl) ?_
  refine go13 ?_
  refine yJ hS (by rfl) ?_
  refine go13 ?_
  refine yH (bB (a:=3) (b:=2) (by decide) (by decide) (by decide)) (fun u hu => ?_)
  obtain ⟨w4,rfl,l4⟩:=hu
  refine go13 ?_
  refine yH (qH g3 l4 (by decide)) (fun u hu => ?_)
  obtain ⟨w5,rfl,l5⟩:=hu
  refine go13 ?_
  refine yH (tH (x3:=hin.x3) hin.hx bl (l5.up (by decide)) (vF bh c32') l1 n1 k1 (by decide)) (fun u hu => ?_)
  obtain ⟨w6,rfl,l6⟩:=hu
  refine go13 ?_
  refine yH (bB (a:=-1) (b:=2) (by decide) (by decide) (by decide)) (fun u hu => ?_)
  obtain ⟨w7,rfl,l7⟩:=hu
  refine go13 ?_
  refine yB (qH g3 l7 (by decide)) (fun u hu => ?_)
  obtain ⟨w8,rfl,l8⟩:=hu
  refine go13 ?_
  refine moved_ownY (x3:=by rw [m1]; exact hin.x3) l6 x1 (l8.up (by decide)) (vF bh c12') l3 (by rw [n2,m1]) k2 (by decide) (fun cells hE => ?_)
  generalize hyy:yM (yM last (rt h*fr 3 2) (yU f last at')) (rt h*fr (-1) 2) (yU f prev (at' - rt h))=y at hnx hE ⊢
  have hny:y.length=f.length:=by rw [←hyy,yX (by rw [n2,m1]),m1,hlast.1]
  refine go13 ?_
  refine uQ (yL _ _) hE (by omega) hgm' (fun hno s => ?_) (fun hfit c e s lc le => ?_)
  ·have he3:runV m f (rt h) (rt t) g (x.map rt) (i+1)=.error 3:=by
    simp only [runV,hr,wG,hnx]
    rw [yG.2 hno]
    rfl
   rw [wN]
   refine go13 ?_
   rw [show yA Cm.neq 3 0=true by simp [yA]]
   refine go13 ?_
   exact ⟨_,.tup (.cons (.c (.hf trivial)) (.cons (.c (.hf trivial)) .nil)),.inl ⟨hk,3,uK he3 (by omega),by decide,rfl⟩⟩
  have hr2:runV m f (rt h) (rt t) g (x.map rt) (i+1)=.ok (out++[y.map (rdV g)]):=by
   simp only [runV,hr,wG,hnx]
   rw [yF.2 hfit]
   rfl
  rw [wN]
  refine go13 ?_
  rw [show yA Cm.neq 0 0=false by simp [yA]]
  refine go13 ?_
  refine jT (E:=elLR) (i5.extS) (by rfl) (by rfl) rfl ⟨e,rfl,le,by simp only [List.length_map]; omega⟩ (by simp only [List.length_map,hol]; omega) (by simp; omega) (fun H' hl1 hl2 ho' => ?_)
  simp only [List.length_append,List.length_cons,List.length_nil] at hl1 hl2 ho' ⊢
  have hA':H'[3]?=some (.live ⟨[c0,.bool c1,c2,.bool c3],yC,.rw⟩):=by
   rw [hl2 3 (by omega) (Ne.symm b3),List.getElem?_append_left (by omega)]
   exact hA
  have hS':H'[4]?=some (.live ⟨[s0,.bool s1,s2,.bool s3],yC,.rw⟩):=by
   rw [hl2 4 (by omega) (Ne.symm b4),List.getElem?_append_left (by omega)]
   exact hS
  refine go13 ?_
  refine yJ hA' (by rfl) ?_
  refine go13 ?_
  refine yJ hS' (by rfl) ?_
  refine go13 ?_
  refine yB (tE hin.ht g3 (by decide)) (fun u hu => ?_)
  obtain ⟨u1,rfl,gu⟩:=hu
  rw [hnat] at gu
  have bi2:CpL 6 [(((i+1:Nat):Int):Rat)]:=uV (by omega)
  have gu:=gu.tightS (((uW bt (vF bh bi2)).mono (show _≤90 by decide)).bd (k:=4194304) (by decide) (by simp))
  obtain ⟨u0,u1,u2,u3,rfl⟩:=id gu.four
  refine go13 ?_
  refine yY hA' (by rfl) (by rfl) (by simp) ?_
  try refine goN ?_
  refine go13 ?_
  rw [yZ i (by omega)]
  refine l_n (by rfl) (n':=n' - (i+1)) (by omega) ⟨i+1,H.length+1,none,c,cn,_,out++[y.map (rdV g)],rfl,rfl,by omega,List.getElem?_set_self (by omega),gu,by rw [List.getElem?_set_ne (by decide)]; exact hS',by omega,by omega,by simp; omega,?_,hr2,by simp [hol],fun l hl => ?_,?_,fun _ => ?_⟩
  ·rw [List.map_append]
   exact ho'.other (by omega)
  ·rcases List.mem_append.1 hl with hl | hl
   ·exact hot l hl
   ·simp at hl
    subst hl
    exact ⟨by simp [hny],hfit⟩
  ·have:(out++[y.map (rdV g)]).getD (i+1) []=y.map (rdV g):=by simp [List.getD,hol]
   rw [this]
   exact lc
  ·have:(out++[y.map (rdV g)]).getD (i+1 - 1) []=out.getD i []:=by
    simp only [List.getD,Nat.add_sub_cancel]
    rw [List.getElem?_append_left (by omega)]
   rw [this]
   exact lcn
 refine go13 ?_
 cases q5:yA Cm.eql m 5
 case true =>
  simp [yA] at q5
  refine go13 ?_
  refine yB (jM hc hf) (fun u hu => ?_)
  obtain ⟨z,rfl,hz⟩:=hu
  cases z
  case false =>
   have ha:(m=4∨m=5)∧¬ AffS f:=⟨by omega,fun hh => by cases hz.2 hh⟩
   obtain ⟨b1,b2⟩:=args_aff h1 ha
   refine go13 ?_
   exact ⟨_,.tup (.cons (.c (.hf trivial)) (.cons (.c (.hf trivial)) .nil)),.inr (.inr ⟨b2,6,by decide,rfl,fun _ => b1.symm⟩)⟩
  have haf:¬ ((m=4∨m=5)∧¬ AffS f):=fun hh => hh.2 (hz.1 rfl)
  have hk:=gU h1 haf
  obtain ⟨n',rfl⟩:=Int.eq_ofNat_of_zero_le hk.n0
  have hn60:=hk.nm
  have hgm:=hk.gm
  have hm0:=hk.m0
  have hm6:=hk.m6
  have bt:=tV z2.1
  have bh:=tV z2.2.2
  refine go5 ?_
  try refine goN ?_
  refine yH (r_Of z2.1) (fun u hu => ?_)
  obtain ⟨r1,rfl,g1⟩:=hu
  obtain ⟨_,_,_,_,rfl⟩:=id g1.four
  refine go13 ?_
  try refine goN ?_
  refine yH (r_Of z2.2.2) (fun u hu => ?_)
  obtain ⟨r3,rfl,g3⟩:=hu
  obtain ⟨s0,s1,s2,s3,rfl⟩:=id g3.four
  refine go13 ?_
  try refine goN ?_
  refine yB (hZ hx z2.2.1 (by omega)) (fun u hu => ?_)
  obtain ⟨r2,rfl,g2⟩:=hu
  refine go13 ?_
  try refine goN ?_
  refine yR (fun w vs H => ∃ (i:Nat) (b:Nat) (co:Option Nat) (cn cl:C) (ac:List C) (out:List (List Rat)),vs=[i64 m,.c cf,i64 g,i64 n',.c (.sl b 0 (i+1) co 1),.c (.ptr 3 0),.c (.ptr 4 0),.c cn,.c cl,i64 i]∧w=n' - i∧i≤n'∧H[3]?=some (.live ⟨ac,yC,.rw⟩)∧IR 4194304 ac (rt t+rt h*((i:Int):Rat))∧H[4]?=some (.live ⟨[s0,.bool s1,s2,.bool s3],yC,.rw⟩)∧b≠3∧b≠4∧5≤H.length∧Out elLR jV 2 H (.sl b 0 (i+1) co 1) (out.map fun l => l.map rp)∧runV m f (rt h) (rt t) g (x.map rt) i=.ok out∧out.length=i+1∧(∀ l∈out,Told f l)∧Ls (elR 2) cn (out.getD i [])∧(0<i→Ls (elR 2) cl (out.getD (i - 1) []))) (by rfl) ⟨0,2,some 1,r2,.nilSl,_,[x.map rt],rfl,rfl,by omega,rfl,?_,rfl,by decide,by decide,by simp,?_,rfl,rfl,fun l hl => by simp at hl; subst hl; exact hT,g2,fun h0 => by omega⟩ ?_
  ·have e:rt t+rt h*(((0:Nat):Int):Rat)=rt t:=by
    have:(((0:Nat):Int):Rat)=0:=rfl
    rw [this]
    grind
   rw [e]
   exact g1.up (by decide)
  ·refine Out.sl (E:=elLR) (cells:=[cx]) (ds:=[cx]) (Nat.le_refl _) rfl rfl rfl ?_
   show Els elLR [cx] [(x.map rt).map rp]
   rw [rt_map z2.2.1]
   exact .one ⟨cx,rfl,hx,by omega⟩
  rintro w vs H ⟨i,b,co,cn,cl,ac,out,rfl,rfl,i1,hA,hat,hS,b3,b4,hH,i5,hr,hol,hot,lcn,lcl⟩
  obtain ⟨c0,c1,c2,c3,rfl⟩:=id hat.four
  have hgm':g<4294967296:=by omega
  refine go13 ?_
  cases hi:yA Cm.lss (i:Int) (n':Int)
  case false =>
   simp [yA] at hi
   have ei:i=n':=by omega
   subst ei
   refine go13 ?_
   obtain ⟨d,f1,l1⟩:=i5.fz (p:=(·≠.bor)) (by simp)
   exact ⟨_,.tup (.cons (.c f1) (.cons (.c (.hf trivial)) .nil)),.inr (.inl ⟨hk,out,d,hr,hot,hol,rfl,l1⟩)⟩
  simp [yA] at hi
  have hgl:out.getD i []=out[i]'(by omega):=by simp [List.getD,hol]
  have hlast:Told f (out.getD i []):=by rw [hgl]; exact hot _ (List.getElem_mem _)
  have bi:CpL 6 [((i:Int):Rat)]:=uV (by omega)
  have ba:CpL 90 [rt t+rt h*((i:Int):Rat)]:=(uW bt (vF bh bi)).mono (by decide)
  have bl:=tQ hf3 hlast
  obtain ⟨last,hla⟩:∃ last,last=out.getD i []:=⟨_,rfl⟩
  obtain ⟨at',hat'⟩:∃ a,a=rt t+rt h*((i:Int):Rat):=⟨_,rfl⟩
  have hnat:at'+rt h=rt t+rt h*(((i+1:Nat):Int):Rat):=by
   rw [hat']
   push_cast
   grind
  have hin:pN cf cn [s0,.bool s1,s2,.bool s3] [c0,.bool c1,c2,.bool c3] f last (rt h) at':=by
   rw [hla,hat']
   exact ⟨hc,vD hsys.1 (by rw [hlast.1]),hlast.1.symm,g3.up (by decide),lcn.up' (by decide),hat,bl,ba,bh.mono (by decide)⟩
  refine go13 ?_
  cases c6:yA Cm.eql m 6
  case false =>
   simp [yA] at c6
   have hnx:uT m f (rt h) (rt t+rt h*((i:Int):Rat)) i (out.getD i []) (out.getD (i - 1) [])=wF m f (rt h) at' last:=by
    unfold uT
    rw [yG.2 (by omega),hla,hat']
    rfl
   refine go13 ?_
   refine yJ hA (by rfl) ?_
   refine go13 ?_
   refine yJ hS (by rfl) ?_
   refine go13 ?_
   refine nM hm0 hm6 hin (fun e hr1 he => ?_) (fun y cells hr1 hyl hE => ?_)
   ·rcases qN hr1 with ⟨a1,a2,a3⟩ | ⟨a1,a2,a3⟩
    ·exact absurd ⟨a1,a2⟩ haf
    have he4:runV m f (rt h) (rt t) g (x.map rt) (i+1)=.error 4:=by
     simp only [runV,hr,wG,hnx,a2]
    subst a3
    refine go13 ?_
    rw [show yA Cm.neq 4 0=true by simp [yA]]
    refine go13 ?_
    exact ⟨_,.tup (.cons (.c (.hf trivial)) (.cons (.c (.hf trivial)) .nil)),.inl ⟨hk,4,uK he4 (by omega),by decide,rfl⟩⟩
   obtain ⟨a1,a2⟩:=uR hr1
   rw [a2] at hnx
   have hny:y.length=f.length:=by rw [hyl,hin.hl]
   refine go13 ?_
   rw [show yA Cm.neq 0 0=false by simp [yA]]
   refine go13 ?_
   refine uQ (yL _ _) hE (by omega) hgm' (fun hno s => ?_) (fun hfit c e s lc le => ?_)
   ·have he3:runV m f (rt h) (rt t) g (x.map rt) (i+1)=.error 3:=by
     simp only [runV,hr,wG,hnx]
     rw [yG.2 hno]
     rfl
    rw [wN]
    refine go13 ?_
    rw [show yA Cm.neq 3 0=true by simp [yA]]
    refine go13 ?_
    exact ⟨_,.tup (.cons (.c (.hf trivial)) (.cons (.c (.hf trivial)) .nil)),.inl ⟨hk,3,uK he3 (by omega),by decide,rfl⟩⟩
   have hr2:runV m f (rt h) (rt t) g (x.map rt) (i+1)=.ok (out++[y.map (rdV g)]):=by
    simp only [runV,hr,wG,hnx]
    rw [yF.2 hfit]
    rfl
   rw [wN]
   refine go13 ?_
   rw [show yA Cm.neq 0 0=false by simp [yA]]
   refine go13 ?_
   refine jT (E:=elLR) (i5.extS) (by rfl) (by rfl) rfl ⟨e,rfl,le,by simp only [List.length_map]; omega⟩ (by simp only [List.length_map,hol]; omega) (by simp; omega) (fun H' hl1 hl2 ho' => ?_)
   simp only [List.length_append,List.length_cons,List.length_nil] at hl1 hl2 ho' ⊢
   have hA':H'[3]?=some (.live ⟨[c0,.bool c1,c2,.bool c3],yC,.rw⟩):=by
    rw [hl2 3 (by omega) (Ne.symm b3),List.getElem?_append_left (by omega)]
    exact hA
   have hS':H'[4]?=some (.live ⟨[s0,.bool s1,s2,.bool s3],yC,.rw⟩):=by
    rw [hl2 4 (by omega) (Ne.symm b4),List.getElem?_append_left (by omega)]
    exact hS
   refine go13 ?_
   refine yJ hA' (by rfl) ?_
   refine go13 ?_
   refine yJ hS' (by rfl) ?_
   refine go13 ?_
   refine yB (tE hin.ht g3 (by decide)) (fun u hu => ?_)
   obtain ⟨u1,rfl,gu⟩:=hu
   rw [hnat] at gu
   have bi2:CpL 6 [(((i+1:Nat):Int):Rat)]:=uV (by omega)
   have gu:=gu.tightS (((uW bt (vF bh bi2)).mono (show _≤90 by decide)).bd (k:=4194304) (by decide) (by simp))
   obtain ⟨u0,u1,u2,u3,rfl⟩:=id gu.four
   refine go13 ?_
   refine yY hA' (by rfl) (by rfl) (by simp) ?_
   try refine goN ?_
   refine go13 ?_
   rw [yZ i (by omega)]
   refine l_n (by rfl) (n':=n' - (i+1)) (by omega) ⟨i+1,H.length+1,none,c,cn,_,out++[y.map (rdV g)],rfl,rfl,by omega,List.getElem?_set_self (by omega),gu,by rw [List.getElem?_set_ne (by decide)]; exact hS',by omega,by omega,by simp; omega,?_,hr2,by simp [hol],fun l hl => ?_,?_,fun _ => ?_⟩
   ·rw [List.map_append]
    exact ho'.other (by omega)
   ·rcases List.mem_append.1 hl with hl | hl
    ·exact hot l hl
    ·simp at hl
     subst hl
     exact ⟨by simp [hny],hfit⟩
   ·have:(out++[y.map (rdV g)]).getD (i+1) []=y.map (rdV g):=by simp [List.getD,hol]
    rw [this]
    exact lc
   ·have:(out++[y.map (rdV g)]).getD (i+1 - 1) []=out.getD i []:=by
     simp only [List.getD,Nat.add_sub_cancel]
     rw [List.getElem?_append_left (by omega)]
    rw [this]
    exact lcn
  simp [yA] at c6
  refine go13 ?_
  cases c7:yA Cm.gtr (i:Int) 0
  case false =>
   simp [yA] at c7
   have hnx:uT m f (rt h) (rt t+rt h*((i:Int):Rat)) i (out.getD i []) (out.getD (i - 1) [])=wF m f (rt h) at' last:=by
    unfold uT
    rw [yG.2 (by omega),hla,hat']
    rfl
   refine go13 ?_
   refine yJ hA (by rfl) ?_
   refine go13 ?_
   refine yJ hS (by rfl) ?_
   refine go13 ?_
   refine nM hm0 hm6 hin (fun e hr1 he => ?_) (fun y cells hr1 hyl hE => ?_)
   ·rcases qN hr1 with ⟨a1,a2,a3⟩ | ⟨a1,a2,a3⟩
    ·exact absurd ⟨a1,a2⟩ haf
    have he4:runV m f (rt h) (rt t) g (x.map rt) (i+1)=.error 4:=by
     simp only [runV,hr,wG,hnx,a2]
    subst a3
    refine go13 ?_
    rw [show yA Cm.neq 4 0=true by simp [yA]]
    refine go13 ?_
    exact ⟨_,.tup (.cons (.c (.hf trivial)) (.cons (.c (.hf trivial)) .nil)),.inl ⟨hk,4,uK he4 (by omega),by decide,rfl⟩⟩
   obtain ⟨a1,a2⟩:=uR hr1
   rw [a2] at hnx
   have hny:y.length=f.length:=by rw [hyl,hin.hl]
   refine go13 ?_
   rw [show yA Cm.neq 0 0=false by simp [yA]]
   refine go13 ?_
   refine uQ (yL _ _) hE (by omega) hgm' (fun hno s => ?_) (fun hfit c e s lc le => ?_)
   ·have he3:runV m f (rt h) (rt t) g (x.map rt) (i+1)=.error 3:=by
     simp only [runV,hr,wG,hnx]
     rw [yG.2 hno]
     rfl
    rw [wN]
    refine go13 ?_
    rw [show yA Cm.neq 3 0=true by simp [yA]]
    refine go13 ?_
    exact ⟨_,.tup (.cons (.c (.hf trivial)) (.cons (.c (.hf trivial)) .nil)),.inl ⟨hk,3,uK he3 (by omega),by decide,rfl⟩⟩
   have hr2:runV m f (rt h) (rt t) g (x.map rt) (i+1)=.ok (out++[y.map (rdV g)]):=by
    simp only [runV,hr,wG,hnx]
    rw [yF.2 hfit]
    rfl
   rw [wN]
   refine go13 ?_
   rw [show yA Cm.neq 0 0=false by simp [yA]]
   refine go13 ?_
   refine jT (E:=elLR) (i5.extS) (by rfl) (by rfl) rfl ⟨e,rfl,le,by simp only [List.length_map]; omega⟩ (by simp only [List.length_map,hol]; omega) (by simp; omega) (fun H' hl1 hl2 ho' => ?_)
   simp only [List.length_append,List.length_cons,List.length_nil] at hl1 hl2 ho' ⊢
   have hA':H'[3]?=some (.live ⟨[c0,.bool c1,c2,.bool c3],yC,.rw⟩):=by
    rw [hl2 3 (by omega) (Ne.symm b3),List.getElem?_append_left (by omega)]
    exact hA
   have hS':H'[4]?=some (.live ⟨[s0,.bool s1,s2,.bool s3],yC,.rw⟩):=by
    rw [hl2 4 (by omega) (Ne.symm b4),List.getElem?_append_left (by omega)]
    exact hS
   refine go13 ?_
   refine yJ hA' (by rfl) ?_
   refine go13 ?_
   refine yJ hS' (by rfl) ?_
   refine go13 ?_
   refine yB (tE hin.ht g3 (by decide)) (fun u hu => ?_)
   obtain ⟨u1,rfl,gu⟩:=hu
   rw [hnat] at gu
   have bi2:CpL 6 [(((i+1:Nat):Int):Rat)]:=uV (by omega)
   have gu:=gu.tightS (((uW bt (vF bh bi2)).mono (show _≤90 by decide)).bd (k:=4194304) (by decide) (by simp))
   obtain ⟨u0,u1,u2,u3,rfl⟩:=id gu.four
   refine go13 ?_
   refine yY hA' (by rfl) (by rfl) (by simp) ?_
   try refine goN ?_
   refine go13 ?_
   rw [yZ i (by omega)]
   refine l_n (by rfl) (n':=n' - (i+1)) (by omega) ⟨i+1,H.length+1,none,c,cn,_,out++[y.map (rdV g)],rfl,rfl,by omega,List.getElem?_set_self (by omega),gu,by rw [List.getElem?_set_ne (by decide)]; exact hS',by omega,by omega,by simp; omega,?_,hr2,by simp [hol],fun l hl => ?_,?_,fun _ => ?_⟩
   ·rw [List.map_append]
    exact ho'.other (by omega)
   ·rcases List.mem_append.1 hl with hl | hl
    ·exact hot l hl
    ·simp at hl
     subst hl
     exact ⟨by simp [hny],hfit⟩
   ·have:(out++[y.map (rdV g)]).getD (i+1) []=y.map (rdV g):=by simp [List.getD,hol]
    rw [this]
    exact lc
   ·have:(out++[y.map (rdV g)]).getD (i+1 - 1) []=out.getD i []:=by
     simp only [List.getD,Nat.add_sub_cancel]
     rw [List.getElem?_append_left (by omega)]
    rw [this]
    exact lcn
  simp [yA] at c7
  have hprev:Told f (out.getD (i - 1) []):=by
   rw [show out.getD (i - 1) []=out[i - 1]'(by omega) by
    have:i - 1<out.length:=by omega
    simp [List.getD,this]]
   exact hot _ (List.getElem_mem _)
  have lcl':=lcl (by omega)
  obtain ⟨prev,hpv⟩:∃ prev,prev=out.getD (i - 1) []:=⟨_,rfl⟩
  have bp:=tQ hf3 hprev
  rw [←hla] at bl hlast
  rw [←hpv] at bp lcl' hprev
  rw [←hat'] at ba
  have bm:CpL 140 [at' - rt h]:=(cp_sub ba bh).mono (by decide)
  have hnx:uT m f (rt h) (rt t+rt h*((i:Int):Rat)) i (out.getD i []) (out.getD (i - 1) [])=some (yM (yM last (rt h*fr 3 2) (yU f last at')) (rt h*fr (-1) 2) (yU f prev (at' - rt h))):=by
   unfold uT
   rw [yF.2 ⟨c6,by omega⟩,hla,hpv,hat']
   rfl
  have k1:CpL 9720 (yU f last at'):=(wO hin.hf bl ba).mono (by decide)
  have n1:(yU f last at').length=last.length:=by rw [wA,hlast.1]
  have k2:CpL 11000 (yU f prev (at' - rt h)):=(wO (vD hsys.1 (show _=prev.length+1 by rw [hprev.1])) bp bm).mono (by decide)
  have n2:(yU f prev (at' - rt h)).length=last.length:=by rw [wA,hlast.1]
  have c32':CpL 2 [fr 3 2]:=c32
  have c12':CpL 2 [fr (-1) 2]:=c12
  have x1:CpL 10000 (yM last (rt h*fr 3 2) (yU f last at')):=(wJ bl (vF bh c32') k1).mono (by decide)
  have m1:(yM last (rt h*fr 3 2) (yU f last at')).length=last.length:=yX n1
  refine go13 ?_
  refine yJ hA (by rfl) ?_
  refine go13 ?_
  refine yJ hA (by rfl) ?_
  refine go13 ?_
  refine yJ hS (by rfl) ?_
  refine go13 ?_
  refine yH (sU hin hin.hx rfl hin.ht bl ba (by decide)) (fun u hu => ?_)
  obtain ⟨w1,rfl,l1⟩:=hu
  refine go13 ?_
  refine yB (r_Sub2 hin.ht g3 (by decide)) (fun u hu => ?_)
  obtain ⟨w2,rfl,l2⟩:=hu
  have l2:=l2.tightS (bm.bd (k:=4194304) (by decide) (by simp))
  refine go13 ?_
  refine yB (sU hin (lcl'.up' (by decide)) (by rw [hprev.1,hlast.1]) l2 bp bm (by decide)) (fun u hu => ?_)
  obtain ⟨w3,rfl,l3⟩:=hu
  refine go13 ?_
  refine yJ hS (by rfl) ?_
  refine go13 ?_
  refine yJ hS (by rfl) ?_
  refine go13 ?_
  refine yH (bB (a:=3) (b:=2) (by decide) (by decide) (by decide)) (fun u hu => ?_)
  obtain ⟨w4,rfl,l4⟩:=hu
  refine go13 ?_
  refine yH (qH g3 l4 (by decide)) (fun u hu => ?_)
  obtain ⟨w5,rfl,l5⟩:=hu
  refine go13 ?_
  refine yH (tH (x3:=hin.x3) hin.hx bl (l5.up (by decide)) (vF bh c32') l1 n1 k1 (by decide)) (fun u hu => ?_)
  obtain ⟨w6,rfl,l6⟩:=hu
  refine go13 ?_
  refine yH (bB (a:=-1) (b:=2) (by decide) (by decide) (by decide)) (fun u hu => ?_)
  obtain ⟨w7,rfl,l7⟩:=hu
  refine go13 ?_
  refine yB (qH g3 l7 (by decide)) (fun u hu => ?_)
  obtain ⟨w8,rfl,l8⟩:=hu
  refine go13 ?_
  refine moved_ownY (x3:=by rw [m1]; exact hin.x3) l6 x1 (l8.up (by decide)) (vF bh c12') l3 (by rw [n2,m1]) k2 (by decide) (fun cells hE => ?_)
  generalize hyy:yM (yM last (rt h*fr 3 2) (yU f last at')) (rt h*fr (-1) 2) (yU f prev (at' - rt h))=y at hnx hE ⊢
  have hny:y.length=f.length:=by rw [←hyy,yX (by rw [n2,m1]),m1,hlast.1]
  refine go13 ?_
  refine uQ (yL _ _) hE (by omega) hgm' (fun hno s => ?_) (fun hfit c e s lc le => ?_)
  ·have he3:runV m f (rt h) (rt t) g (x.map rt) (i+1)=.error 3:=by
    simp only [runV,hr,wG,hnx]
    rw [yG.2 hno]
    rfl
   rw [wN]
   refine go13 ?_
   rw [show yA Cm.neq 3 0=true by simp [yA]]
   refine go13 ?_
   exact ⟨_,.tup (.cons (.c (.hf trivial)) (.cons (.c (.hf trivial)) .nil)),.inl ⟨hk,3,uK he3 (by omega),by decide,rfl⟩⟩
  have hr2:runV m f (rt h) (rt t) g (x.map rt) (i+1)=.ok (out++[y.map (rdV g)]):=by
   simp only [runV,hr,wG,hnx]
   rw [yF.2 hfit]
   rfl
  rw [wN]
  refine go13 ?_
  rw [show yA Cm.neq 0 0=false by simp [yA]]
  refine go13 ?_
  refine jT (E:=elLR) (i5.extS) (by rfl) (by rfl) rfl ⟨e,rfl,le,by simp only [List.length_map]; omega⟩ (by simp only [List.length_map,hol]; omega) (by simp; omega) (fun H' hl1 hl2 ho' => ?_)
  simp only [List.length_append,List.length_cons,List.length_nil] at hl1 hl2 ho' ⊢
  have hA':H'[3]?=some (.live ⟨[c0,.bool c1,c2,.bool c3],yC,.rw⟩):=by
   rw [hl2 3 (by omega) (Ne.symm b3),List.getElem?_append_left (by omega)]
   exact hA
  have hS':H'[4]?=some (.live ⟨[s0,.bool s1,s2,.bool s3],yC,.rw⟩):=by
   rw [hl2 4 (by omega) (Ne.symm b4),List.getElem?_append_left (by omega)]
   exact hS
  refine go13 ?_
  refine yJ hA' (by rfl) ?_
  refine go13 ?_
  refine yJ hS' (by rfl) ?_
  refine go13 ?_
  refine yB (tE hin.ht g3 (by decide)) (fun u hu => ?_)
  obtain ⟨u1,rfl,gu⟩:=hu
  rw [hnat] at gu
  have bi2:CpL 6 [(((i+1:Nat):Int):Rat)]:=uV (by omega)
  have gu:=gu.tightS (((uW bt (vF bh bi2)).mono (show _≤90 by decide)).bd (k:=4194304) (by decide) (by simp))
  obtain ⟨u0,u1,u2,u3,rfl⟩:=id gu.four
  refine go13 ?_
  refine yY hA' (by rfl) (by rfl) (by simp) ?_
  try refine goN ?_
  refine go13 ?_
  rw [yZ i (by omega)]
  refine l_n (by rfl) (n':=n' - (i+1)) (by omega) ⟨i+1,H.length+1,none,c,cn,_,out++[y.map (rdV g)],rfl,rfl,by omega,List.getElem?_set_self (by omega),gu,by rw [List.getElem?_set_ne (by decide)]; exact hS',by omega,by omega,by simp; omega,?_,hr2,by simp [hol],fun l hl => ?_,?_,fun _ => ?_⟩
  ·rw [List.map_append]
   exact ho'.other (by omega)
  ·rcases List.mem_append.1 hl with hl | hl
   ·exact hot l hl
   ·simp at hl
    subst hl
    exact ⟨by simp [hny],hfit⟩
  ·have:(out++[y.map (rdV g)]).getD (i+1) []=y.map (rdV g):=by simp [List.getD,hol]
   rw [this]
   exact lc
  ·have:(out++[y.map (rdV g)]).getD (i+1 - 1) []=out.getD i []:=by
    simp only [List.getD,Nat.add_sub_cancel]
    rw [List.getElem?_append_left (by omega)]
   rw [this]
   exact lcn
 have haf:¬ ((m=4∨m=5)∧¬ AffS f):=by
  simp [yA] at q4 q5
  omega
 have hk:=gU h1 haf
 obtain ⟨n',rfl⟩:=Int.eq_ofNat_of_zero_le hk.n0
 have hn60:=hk.nm
 have hgm:=hk.gm
 have hm0:=hk.m0
 have hm6:=hk.m6
 have bt:=tV z2.1
 have bh:=tV z2.2.2
 refine go5 ?_
 try refine goN ?_
 refine yH (r_Of z2.1) (fun u hu => ?_)
 obtain ⟨r1,rfl,g1⟩:=hu
 obtain ⟨_,_,_,_,rfl⟩:=id g1.four
 refine go13 ?_
 try refine goN ?_
 refine yH (r_Of z2.2.2) (fun u hu => ?_)
 obtain ⟨r3,rfl,g3⟩:=hu
 obtain ⟨s0,s1,s2,s3,rfl⟩:=id g3.four
 refine go13 ?_
 try refine goN ?_
 refine yB (hZ hx z2.2.1 (by omega)) (fun u hu => ?_)
 obtain ⟨r2,rfl,g2⟩:=hu
 refine go13 ?_
 try refine goN ?_
 refine yR (fun w vs H => ∃ (i:Nat) (b:Nat) (co:Option Nat) (cn cl:C) (ac:List C) (out:List (List Rat)),vs=[i64 m,.c cf,i64 g,i64 n',.c (.sl b 0 (i+1) co 1),.c (.ptr 3 0),.c (.ptr 4 0),.c cn,.c cl,i64 i]∧w=n' - i∧i≤n'∧H[3]?=some (.live ⟨ac,yC,.rw⟩)∧IR 4194304 ac (rt t+rt h*((i:Int):Rat))∧H[4]?=some (.live ⟨[s0,.bool s1,s2,.bool s3],yC,.rw⟩)∧b≠3∧b≠4∧5≤H.length∧Out elLR jV 2 H (.sl b 0 (i+1) co 1) (out.map fun l => l.map rp)∧runV m f (rt h) (rt t) g (x.map rt) i=.ok out∧out.length=i+1∧(∀ l∈out,Told f l)∧Ls (elR 2) cn (out.getD i [])∧(0<i→Ls (elR 2) cl (out.getD (i - 1) []))) (by rfl) ⟨0,2,some 1,r2,.nilSl,_,[x.map rt],rfl,rfl,by omega,rfl,?_,rfl,by decide,by decide,by simp,?_,rfl,rfl,fun l hl => by simp at hl; subst hl; exact hT,g2,fun h0 => by omega⟩ ?_
 ·have e:rt t+rt h*(((0:Nat):Int):Rat)=rt t:=by
   have:(((0:Nat):Int):Rat)=0:=rfl
   rw [this]
   grind
  rw [e]
  exact g1.up (by decide)
 ·refine Out.sl (E:=elLR) (cells:=[cx]) (ds:=[cx]) (Nat.le_refl _) rfl rfl rfl ?_
  show Els elLR [cx] [(x.map rt).map rp]
  rw [rt_map z2.2.1]
  exact .one ⟨cx,rfl,hx,by omega⟩
 rintro w vs H ⟨i,b,co,cn,cl,ac,out,rfl,rfl,i1,hA,hat,hS,b3,b4,hH,i5,hr,hol,hot,lcn,lcl⟩
 obtain ⟨c0,c1,c2,c3,rfl⟩:=id hat.four
 have hgm':g<4294967296:=by omega
 refine go13 ?_
 cases hi:yA Cm.lss (i:Int) (n':Int)
 case false =>
  simp [yA] at hi
  have ei:i=n':=by omega
  subst ei
  refine go13 ?_
  obtain ⟨d,f1,l1⟩:=i5.fz (p:=(·≠.bor)) (by simp)
  exact ⟨_,.tup (.cons (.c f1) (.cons (.c (.hf trivial)) .nil)),.inr (.inl ⟨hk,out,d,hr,hot,hol,rfl,l1⟩)⟩
 simp [yA] at hi
 have hgl:out.getD i []=out[i]'(by omega):=by simp [List.getD,hol]
 have hlast:Told f (out.getD i []):=by rw [hgl]; exact hot _ (List.getElem_mem _)
 have bi:CpL 6 [((i:Int):Rat)]:=uV (by omega)
 have ba:CpL 90 [rt t+rt h*((i:Int):Rat)]:=(uW bt (vF bh bi)).mono (by decide)
 have bl:=tQ hf3 hlast
 obtain ⟨last,hla⟩:∃ last,last=out.getD i []:=⟨_,rfl⟩
 obtain ⟨at',hat'⟩:∃ a,a=rt t+rt h*((i:Int):Rat):=⟨_,rfl⟩
 have hnat:at'+rt h=rt t+rt h*(((i+1:Nat):Int):Rat):=by
  rw [hat']
  push_cast
  grind
 have hin:pN cf cn [s0,.bool s1,s2,.bool s3] [c0,.bool c1,c2,.bool c3] f last (rt h) at':=by
  rw [hla,hat']
  exact ⟨hc,vD hsys.1 (by rw [hlast.1]),hlast.1.symm,g3.up (by decide),lcn.up' (by decide),hat,bl,ba,bh.mono (by decide)⟩
 refine go13 ?_
 cases c6:yA Cm.eql m 6
 case false =>
  simp [yA] at c6
  have hnx:uT m f (rt h) (rt t+rt h*((i:Int):Rat)) i (out.getD i []) (out.getD (i - 1) [])=wF m f (rt h) at' last:=by
   unfold uT
   rw [yG.2 (by omega),hla,hat']
   rfl
  refine go13 ?_
  refine yJ hA (by rfl) ?_
  refine go13 ?_
  refine yJ hS (by rfl) ?_
  refine go13 ?_
  refine nM hm0 hm6 hin (fun e hr1 he => ?_) (fun y cells hr1 hyl hE => ?_)
  ·rcases qN hr1 with ⟨a1,a2,a3⟩ | ⟨a1,a2,a3⟩
   ·exact absurd ⟨a1,a2⟩ haf
   have he4:runV m f (rt h) (rt t) g (x.map rt) (i+1)=.error 4:=by
    simp only [runV,hr,wG,hnx,a2]
   subst a3
   refine go13 ?_
   rw [show yA Cm.neq 4 0=true by simp [yA]]
   refine go13 ?_
   exact ⟨_,.tup (.cons (.c (.hf trivial)) (.cons (.c (.hf trivial)) .nil)),.inl ⟨hk,4,uK he4 (by omega),by decide,rfl⟩⟩
  obtain ⟨a1,a2⟩:=uR hr1
  rw [a2] at hnx
  have hny:y.length=f.length:=by rw [hyl,hin.hl]
  refine go13 ?_
  rw [show yA Cm.neq 0 0=false by simp [yA]]
  refine go13 ?_
  refine uQ (yL _ _) hE (by omega) hgm' (fun hno s => ?_) (fun hfit c e s lc le => ?_)
  ·have he3:runV m f (rt h) (rt t) g (x.map rt) (i+1)=.error 3:=by
    simp only [runV,hr,wG,hnx]
    rw [yG.2 hno]
    rfl
   rw [wN]
   refine go13 ?_
   rw [show yA Cm.neq 3 0=true by simp [yA]]
   refine go13 ?_
   exact ⟨_,.tup (.cons (.c (.hf trivial)) (.cons (.c (.hf trivial)) .nil)),.inl ⟨hk,3,uK he3 (by omega),by decide,rfl⟩⟩
  have hr2:runV m f (rt h) (rt t) g (x.map rt) (i+1)=.ok (out++[y.map (rdV g)]):=by
   simp only [runV,hr,wG,hnx]
   rw [yF.2 hfit]
   rfl
  rw [wN]
  refine go13 ?_
  rw [show yA Cm.neq 0 0=false by simp [yA]]
  refine go13 ?_
  refine jT (E:=elLR) (i5.extS) (by rfl) (by rfl) rfl ⟨e,rfl,le,by simp only [List.length_map]; omega⟩ (by simp only [List.length_map,hol]; omega) (by simp; omega) (fun H' hl1 hl2 ho' => ?_)
  simp only [List.length_append,List.length_cons,List.length_nil] at hl1 hl2 ho' ⊢
  have hA':H'[3]?=some (.live ⟨[c0,.bool c1,c2,.bool c3],yC,.rw⟩):=by
   rw [hl2 3 (by omega) (Ne.symm b3),List.getElem?_append_left (by omega)]
   exact hA
  have hS':H'[4]?=some (.live ⟨[s0,.bool s1,s2,.bool s3],yC,.rw⟩):=by
   rw [hl2 4 (by omega) (Ne.symm b4),List.getElem?_append_left (by omega)]
   exact hS
  refine go13 ?_
  refine yJ hA' (by rfl) ?_
  refine go13 ?_
  refine yJ hS' (by rfl) ?_
  refine go13 ?_
  refine yB (tE hin.ht g3 (by decide)) (fun u hu => ?_)
  obtain ⟨u1,rfl,gu⟩:=hu
  rw [hnat] at gu
  have bi2:CpL 6 [(((i+1:Nat):Int):Rat)]:=uV (by omega)
  have gu:=gu.tightS (((uW bt (vF bh bi2)).mono (show _≤90 by decide)).bd (k:=4194304) (by decide) (by simp))
  obtain ⟨u0,u1,u2,u3,rfl⟩:=id gu.four
  refine go13 ?_
  refine yY hA' (by rfl) (by rfl) (by simp) ?_
  try refine goN ?_
  refine go13 ?_
  rw [yZ i (by omega)]
  refine l_n (by rfl) (n':=n' - (i+1)) (by omega) ⟨i+1,H.length+1,none,c,cn,_,out++[y.map (rdV g)],rfl,rfl,by omega,List.getElem?_set_self (by omega),gu,by rw [List.getElem?_set_ne (by decide)]; exact hS',by omega,by omega,by simp; omega,?_,hr2,by simp [hol],fun l hl => ?_,?_,fun _ => ?_⟩
  ·rw [List.map_append]
   exact ho'.other (by omega)
  ·rcases List.mem_append.1 hl with hl | hl
   ·exact hot l hl
   ·simp at hl
    subst hl
    exact ⟨by simp [hny],hfit⟩
  ·have:(out++[y.map (rdV g)]).getD (i+1) []=y.map (rdV g):=by simp [List.getD,hol]
   rw [this]
   exact lc
  ·have:(out++[y.map (rdV g)]).getD (i+1 - 1) []=out.getD i []:=by
    simp only [List.getD,Nat.add_sub_cancel]
    rw [List.getElem?_append_left (by omega)]
   rw [this]
   exact lcn
 simp [yA] at c6
 refine go13 ?_
 cases c7:yA Cm.gtr (i:Int) 0
 case false =>
  simp [yA] at c7
  have hnx:uT m f (rt h) (rt t+rt h*((i:Int):Rat)) i (out.getD i []) (out.getD (i - 1) [])=wF m f (rt h) at' last:=by
   unfold uT
   rw [yG.2 (by omega),hla,hat']
   rfl
  refine go13 ?_
  refine yJ hA (by rfl) ?_
  refine go13 ?_
  refine yJ hS (by rfl) ?_
  refine go13 ?_
  refine nM hm0 hm6 hin (fun e hr1 he => ?_) (fun y cells hr1 hyl hE => ?_)
  ·rcases qN hr1 with ⟨a1,a2,a3⟩ | ⟨a1,a2,a3⟩
   ·exact absurd ⟨a1,a2⟩ haf
   have he4:runV m f (rt h) (rt t) g (x.map rt) (i+1)=.error 4:=by
    simp only [runV,hr,wG,hnx,a2]
   subst a3
   refine go13 ?_
   rw [show yA Cm.neq 4 0=true by simp [yA]]
   refine go13 ?_
   exact ⟨_,.tup (.cons (.c (.hf trivial)) (.cons (.c (.hf trivial)) .nil)),.inl ⟨hk,4,uK he4 (by omega),by decide,rfl⟩⟩
  obtain ⟨a1,a2⟩:=uR hr1
  rw [a2] at hnx
  have hny:y.length=f.length:=by rw [hyl,hin.hl]
  refine go13 ?_
  rw [show yA Cm.neq 0 0=false by simp [yA]]
  refine go13 ?_
  refine uQ (yL _ _) hE (by omega) hgm' (fun hno s => ?_) (fun hfit c e s lc le => ?_)
  ·have he3:runV m f (rt h) (rt t) g (x.map rt) (i+1)=.error 3:=by
    simp only [runV,hr,wG,hnx]
    rw [yG.2 hno]
    rfl
   rw [wN]
   refine go13 ?_
   rw [show yA Cm.neq 3 0=true by simp [yA]]
   refine go13 ?_
   exact ⟨_,.tup (.cons (.c (.hf trivial)) (.cons (.c (.hf trivial)) .nil)),.inl ⟨hk,3,uK he3 (by omega),by decide,rfl⟩⟩
  have hr2:runV m f (rt h) (rt t) g (x.map rt) (i+1)=.ok (out++[y.map (rdV g)]):=by
   simp only [runV,hr,wG,hnx]
   rw [yF.2 hfit]
   rfl
  rw [wN]
  refine go13 ?_
  rw [show yA Cm.neq 0 0=false by simp [yA]]
  refine go13 ?_
  refine jT (E:=elLR) (i5.extS) (by rfl) (by rfl) rfl ⟨e,rfl,le,by simp only [List.length_map]; omega⟩ (by simp only [List.length_map,hol]; omega) (by simp; omega) (fun H' hl1 hl2 ho' => ?_)
  simp only [List.length_append,List.length_cons,List.length_nil] at hl1 hl2 ho' ⊢
  have hA':H'[3]?=some (.live ⟨[c0,.bool c1,c2,.bool c3],yC,.rw⟩):=by
   rw [hl2 3 (by omega) (Ne.symm b3),List.getElem?_append_left (by omega)]
   exact hA
  have hS':H'[4]?=some (.live ⟨[s0,.bool s1,s2,.bool s3],yC,.rw⟩):=by
   rw [hl2 4 (by omega) (Ne.symm b4),List.getElem?_append_left (by omega)]
   exact hS
  refine go13 ?_
  refine yJ hA' (by rfl) ?_
  refine go13 ?_
  refine yJ hS' (by rfl) ?_
  refine go13 ?_
  refine yB (tE hin.ht g3 (by decide)) (fun u hu => ?_)
  obtain ⟨u1,rfl,gu⟩:=hu
  rw [hnat] at gu
  have bi2:CpL 6 [(((i+1:Nat):Int):Rat)]:=uV (by omega)
  have gu:=gu.tightS (((uW bt (vF bh bi2)).mono (show _≤90 by decide)).bd (k:=4194304) (by decide) (by simp))
  obtain ⟨u0,u1,u2,u3,rfl⟩:=id gu.four
  refine go13 ?_
  refine yY hA' (by rfl) (by rfl) (by simp) ?_
  try refine goN ?_
  refine go13 ?_
  rw [yZ i (by omega)]
  refine l_n (by rfl) (n':=n' - (i+1)) (by omega) ⟨i+1,H.length+1,none,c,cn,_,out++[y.map (rdV g)],rfl,rfl,by omega,List.getElem?_set_self (by omega),gu,by rw [List.getElem?_set_ne (by decide)]; exact hS',by omega,by omega,by simp; omega,?_,hr2,by simp [hol],fun l hl => ?_,?_,fun _ => ?_⟩
  ·rw [List.map_append]
   exact ho'.other (by omega)
  ·rcases List.mem_append.1 hl with hl | hl
   ·exact hot l hl
   ·simp at hl
    subst hl
    exact ⟨by simp [hny],hfit⟩
  ·have:(out++[y.map (rdV g)]).getD (i+1) []=y.map (rdV g):=by simp [List.getD,hol]
   rw [this]
   exact lc
  ·have:(out++[y.map (rdV g)]).getD (i+1 - 1) []=out.getD i []:=by
    simp only [List.getD,Nat.add_sub_cancel]
    rw [List.getElem?_append_left (by omega)]
   rw [this]
   exact lcn
 simp [yA] at c7
 have hprev:Told f (out.getD (i - 1) []):=by
  rw [show out.getD (i - 1) []=out[i - 1]'(by omega) by
   have:i - 1<out.length:=by omega
   simp [List.getD,this]]
  exact hot _ (List.getElem_mem _)
 have lcl':=lcl (by omega)
 obtain ⟨prev,hpv⟩:∃ prev,prev=out.getD (i - 1) []:=⟨_,rfl⟩
 have bp:=tQ hf3 hprev
 rw [←hla] at bl hlast
 rw [←hpv] at bp lcl' hprev
 rw [←hat'] at ba
 have bm:CpL 140 [at' - rt h]:=(cp_sub ba bh).mono (by decide)
 have hnx:uT m f (rt h) (rt t+rt h*((i:Int):Rat)) i (out.getD i []) (out.getD (i - 1) [])=some (yM (yM last (rt h*fr 3 2) (yU f last at')) (rt h*fr (-1) 2) (yU f prev (at' - rt h))):=by
  unfold uT
  rw [yF.2 ⟨c6,by omega⟩,hla,hpv,hat']
  rfl
 have k1:CpL 9720 (yU f last at'):=(wO hin.hf bl ba).mono (by decide)
 have n1:(yU f last at').length=last.length:=by rw [wA,hlast.1]
 have k2:CpL 11000 (yU f prev (at' - rt h)):=(wO (vD hsys.1 (show _=prev.length+1 by rw [hprev.1])) bp bm).mono (by decide)
 have n2:(yU f prev (at' - rt h)).length=last.length:=by rw [wA,hlast.1]
 have c32':CpL 2 [fr 3 2]:=c32
 have c12':CpL 2 [fr (-1) 2]:=c12
 have x1:CpL 10000 (yM last (rt h*fr 3 2) (yU f last at')):=(wJ bl (vF bh c32') k1).mono (by decide)
 have m1:(yM last (rt h*fr 3 2) (yU f last at')).length=last.length:=yX n1
 refine go13 ?_
 refine yJ hA (by rfl) ?_
 refine go13 ?_
 refine yJ hA (by rfl) ?_
 refine go13 ?_
 refine yJ hS (by rfl) ?_
 refine go13 ?_
 refine yH (sU hin hin.hx rfl hin.ht bl ba (by decide)) (fun u hu => ?_)
 obtain ⟨w1,rfl,l1⟩:=hu
 refine go13 ?_
 refine yB (r_Sub2 hin.ht g3 (by decide)) (fun u hu => ?_)
 obtain ⟨w2,rfl,l2⟩:=hu
 have l2:=l2.tightS (bm.bd (k:=4194304) (by decide) (by simp))
 refine go13 ?_
 refine yB (sU hin (lcl'.up' (by decide)) (by rw [hprev.1,hlast.1]) l2 bp bm (by decide)) (fun u hu => ?_)
 obtain ⟨w3,rfl,l3⟩:=hu
 refine go13 ?_
 refine yJ hS (by rfl) ?_
 refine go13 ?_
 refine yJ hS (by rfl) ?_
 refine go13 ?_
 refine yH (bB (a:=3) (b:=2) (by decide) (by decide) (by decide)) (fun u hu => ?_)
 obtain ⟨w4,rfl,l4⟩:=hu
 refine go13 ?_
 refine yH (qH g3 l4 (by decide)) (fun u hu => ?_)
 obtain ⟨w5,rfl,l5⟩:=hu
 refine go13 ?_
 refine yH (tH (x3:=hin.x3) hin.hx bl (l5.up (by decide)) (vF bh c32') l1 n1 k1 (by decide)) (fun u hu => ?_)
 obtain ⟨w6,rfl,l6⟩:=hu
 refine go13 ?_
 refine yH (bB (a:=-1) (b:=2) (by decide) (by decide) (by decide)) (fun u hu => ?_)
 obtain ⟨w7,rfl,l7⟩:=hu
 refine go13 ?_
 refine yB (qH g3 l7 (by decide)) (fun u hu => ?_)
 obtain ⟨w8,rfl,l8⟩:=hu
 refine go13 ?_
 refine moved_ownY (x3:=by rw [m1]; exact hin.x3) l6 x1 (l8.up (by decide)) (vF bh c12') l3 (by rw [n2,m1]) k2 (by decide) (fun cells hE => ?_)
 generalize hyy:yM (yM last (rt h*fr 3 2) (yU f last at')) (rt h*fr (-1) 2) (yU f prev (at' - rt h))=y at hnx hE ⊢
 have hny:y.length=f.length:=by rw [←hyy,yX (by rw [n2,m1]),m1,hlast.1]
 refine go13 ?_
 refine uQ (yL _ _) hE (by omega) hgm' (fun hno s => ?_) (fun hfit c e s lc le => ?_)
 ·have he3:runV m f (rt h) (rt t) g (x.map rt) (i+1)=.error 3:=by
   simp only [runV,hr,wG,hnx]
   rw [yG.2 hno]
   rfl
  rw [wN]
  refine go13 ?_
  rw [show yA Cm.neq 3 0=true by simp [yA]]
  refine go13 ?_
  exact ⟨_,.tup (.cons (.c (.hf trivial)) (.cons (.c (.hf trivial)) .nil)),.inl ⟨hk,3,uK he3 (by omega),by decide,rfl⟩⟩
 have hr2:runV m f (rt h) (rt t) g (x.map rt) (i+1)=.ok (out++[y.map (rdV g)]):=by
  simp only [runV,hr,wG,hnx]
  rw [yF.2 hfit]
  rfl
 rw [wN]
 refine go13 ?_
 rw [show yA Cm.neq 0 0=false by simp [yA]]
 refine go13 ?_
 refine jT (E:=elLR) (i5.extS) (by rfl) (by rfl) rfl ⟨e,rfl,le,by simp only [List.length_map]; omega⟩ (by simp only [List.length_map,hol]; omega) (by simp; omega) (fun H' hl1 hl2 ho' => ?_)
 simp only [List.length_append,List.length_cons,List.length_nil] at hl1 hl2 ho' ⊢
 have hA':H'[3]?=some (.live ⟨[c0,.bool c1,c2,.bool c3],yC,.rw⟩):=by
  rw [hl2 3 (by omega) (Ne.symm b3),List.getElem?_append_left (by omega)]
  exact hA
 have hS':H'[4]?=some (.live ⟨[s0,.bool s1,s2,.bool s3],yC,.rw⟩):=by
  rw [hl2 4 (by omega) (Ne.symm b4),List.getElem?_append_left (by omega)]
  exact hS
 refine go13 ?_
 refine yJ hA' (by rfl) ?_
 refine go13 ?_
 refine yJ hS' (by rfl) ?_
 refine go13 ?_
 refine yB (tE hin.ht g3 (by decide)) (fun u hu => ?_)
 obtain ⟨u1,rfl,gu⟩:=hu
 rw [hnat] at gu
 have bi2:CpL 6 [(((i+1:Nat):Int):Rat)]:=uV (by omega)
 have gu:=gu.tightS (((uW bt (vF bh bi2)).mono (show _≤90 by decide)).bd (k:=4194304) (by decide) (by simp))
 obtain ⟨u0,u1,u2,u3,rfl⟩:=id gu.four
 refine go13 ?_
 refine yY hA' (by rfl) (by rfl) (by simp) ?_
 try refine goN ?_
 refine go13 ?_
 rw [yZ i (by omega)]
 refine l_n (by rfl) (n':=n' - (i+1)) (by omega) ⟨i+1,H.length+1,none,c,cn,_,out++[y.map (rdV g)],rfl,rfl,by omega,List.getElem?_set_self (by omega),gu,by rw [List.getElem?_set_ne (by decide)]; exact hS',by omega,by omega,by simp; omega,?_,hr2,by simp [hol],fun l hl => ?_,?_,fun _ => ?_⟩
 ·rw [List.map_append]
  exact ho'.other (by omega)
 ·rcases List.mem_append.1 hl with hl | hl
  ·exact hot l hl
  ·simp at hl
   subst hl
   exact ⟨by simp [hny],hfit⟩
 ·have:(out++[y.map (rdV g)]).getD (i+1) []=y.map (rdV g):=by simp [List.getD,hol]
  rw [this]
  exact lc
 ·have:(out++[y.map (rdV g)]).getD (i+1 - 1) []=out.getD i []:=by
   simp only [List.getD,Nat.add_sub_cancel]
   rw [List.getElem?_append_left (by omega)]
  rw [this]
  exact lcn
end Go.Proofs.YtokckcnfojjpjaaGreat

namespace Go.Proofs.YtokckcnfojjpjaaGreat
open Go.RowKit
set_option maxRecDepth 20000
noncomputable def errsV (m:Int) (f:List Pl) (h t:Rat) (x:List Rat):Except Int (List Rat) :=
 match runV m f h t 0 x 1 with
 | .error e => .error e
 | .ok a => match runV m f (h*fr 1 2) t 0 x 2 with
  | .error e => .error e
  | .ok b => bif dec (uZ (yM (b.getD 2 []) ((-1:Int):Rat) (a.getD 1 []))) then .ok (yM (b.getD 2 []) ((-1:Int):Rat) (a.getD 1 [])) else .error 3
def ErrRK (m:Int) (f:List Pl) (t:R2) (x:List R2) (h:R2) (u:V):Prop :=
 (gV m f t x h 0 1∧m≠6∧∃ e,errsV m f (rt h) (rt t) (x.map rt)=.error e∧e≠0∧u=.tup [.c .nilSl,i64 e]) ∨
 (gV m f t x h 0 1∧m≠6∧∃ y c,errsV m f (rt h) (rt t) (x.map rt)=.ok y∧y.length=f.length∧u=.tup [.c c,i64 0]∧Ls elP c (y.map rp)) ∨
 (gV m f t x h 0 1∧m=6∧u=.tup [.c .nilSl,i64 6]) ∨
 (¬ gV m f t x h 0 1∧∃ e,e≠0∧u=.tup [.c .nilSl,i64 e]∧(qY f→e=tS m f t x h 0 1))
theorem err_1 {m:Int} {f:List Pl} {h t:Rat} {x:List Rat} {e:Int} (h1:runV m f h t 0 x 1=.error e):errsV m f h t x=.error e:=by
 unfold errsV
 rw [h1]
theorem err_2 {m:Int} {f:List Pl} {h t:Rat} {x:List Rat} {a:List (List Rat)} {e:Int} (h1:runV m f h t 0 x 1=.ok a) (h2:runV m f (h*fr 1 2) t 0 x 2=.error e):errsV m f h t x=.error e:=by
 unfold errsV
 rw [h1]
 simp only
 rw [h2]
theorem err_3 {m:Int} {f:List Pl} {h t:Rat} {x:List Rat} {a b:List (List Rat)} (h1:runV m f h t 0 x 1=.ok a) (h2:runV m f (h*fr 1 2) t 0 x 2=.ok b):errsV m f h t x=bif dec (uZ (yM (b.getD 2 []) ((-1:Int):Rat) (a.getD 1 []))) then .ok (yM (b.getD 2 []) ((-1:Int):Rat) (a.getD 1 [])) else .error 3:=by
 unfold errsV
 rw [h1]
 simp only
 rw [h2]
theorem half_div (h:Rat):h / ((2:Int):Rat)=h*fr 1 2:=by
 unfold fr
 have e1:((1:Int):Rat)=1:=rfl
 rw [e1]
 grind
theorem outs_all {l:List Rat} (h:uZ l):jX l=(l.map rp,true):=by
 unfold jX
 rw [show dec (∀ q∈l,fitR (rp q)=true)=true from yF.2 h]
 rfl
theorem outs_not {l:List Rat} (h:¬ uZ l):jX l=([],false):=by
 unfold jX
 rw [show dec (∀ q∈l,fitR (rp q)=true)=false from yG.2 h]
 rfl
attribute [local irreducible] yA semH semC qLen qNil qIad qSlc qIdx yW yN xB appX appI slcX awpF yQ xH xopF xN qval lval seqQ xI xY xW xT cnd arith IntKind.wrap
theorem step_Error {cf cx:C} {f:List Pl} {x:List R2} (m:Int) (t h:R2) (hc:Ls elM cf f) (hf:f.length<wD) (hx:Ls elP cx x) (hxl:x.length<wD):semC Tryz.prog n_step_Error [i64 m,.c cf,.agg (ratC t),.c cx,.agg (ratC h)] (ErrRK m f t x h):=by
 refine yD ok_step_Error rfl (show HFVs [i64 m,.c cf,.agg (ratC t),.c cx,.agg (ratC h)] from ⟨trivial,hc.hf,tN _,hx.hf,tN _,trivial⟩) ?_
 refine go13 ?_
 refine yB (step_known m t h 0 1 hc hf hx hxl) (fun u hu => ?_)
 obtain ⟨e,rfl,k1,k2⟩:=hu
 refine go13 ?_
 rw [sT]
 cases h1:dec (e≠0)
 case true =>
  have h1:=yF.1 h1
  refine go13 ?_
  refine ⟨_,.tup (.cons (.c (.hf trivial)) (.cons (.c (.hf trivial)) .nil)),.inr (.inr (.inr ⟨fun hk => ?_,e,h1,rfl,k1⟩))⟩
  have hv:=jJ hk.sys
  have hS:qY f:=fun p hp t ht => by
   have:=((hv.1.poly p hp).term t ht).len
   have:=hv.1.len
   omega
  rw [k1 hS,run_known hk] at h1
  exact h1 rfl
 have h1:e=0:=Classical.byContradiction (yG.1 h1)
 have hk:=k2 h1
 have hsys:=jJ hk.sys
 have hf3:=hsys.1.len
 have hxl3:=hk.len
 have hT:=told_in hk.hx hk.len
 refine go13 ?_
 cases h6:yA Cm.eql m 6
 case true =>
  simp [yA] at h6
  refine go13 ?_
  exact ⟨_,.tup (.cons (.c (.hf trivial)) (.cons (.c (.hf trivial)) .nil)),.inr (.inr (.inl ⟨hk,h6,rfl⟩))⟩
 simp [yA] at h6
 refine go13 ?_
 refine yH (q_Of hk.hh) (fun u hu => ?_)
 obtain ⟨r1,rfl,g1⟩:=hu
 obtain ⟨a0,a1,a2,a3,a4,a5,rfl⟩:=id g1.six
 refine go13 ?_
 refine yB (q_Of hk.ht) (fun u hu => ?_)
 obtain ⟨r2,rfl,g2⟩:=hu
 refine go13 ?_
 refine yB (num_In hx hk.hx (by omega)) (fun u hu => ?_)
 obtain ⟨r3,rfl,g3⟩:=hu
 refine go13 ?_
 refine yB (step_run (n:=1) hc hsys.1 g3 hT (g1.up (by decide)) ((tV hk.hh).mono (by decide)) (g2.up (by decide)) (tV hk.ht) hk.m0 hk.m6 (by decide) (by decide) (imp_all m) hk.aff) (fun u hu => ?_)
 rcases hu with ⟨e2,hr,he2,rfl⟩ | ⟨out,cl,hr,rfl,hl⟩
 case inl =>
  refine go13 ?_
  rw [sT,yF.2 he2]
  refine go13 ?_
  exact ⟨_,.tup (.cons (.c (.hf trivial)) (.cons (.c (.hf trivial)) .nil)),.inl ⟨hk,h6,e2,err_1 hr,he2,rfl⟩⟩
 obtain ⟨o1,o2⟩:=run_told hT hr
 refine go13 ?_
 rw [show yA Cm.neq 0 0=false by simp [yA]]
 refine go13 ?_
 refine yH (q_Of hk.hh) (fun u hu => ?_)
 obtain ⟨p1,rfl,i1⟩:=hu
 refine go13 ?_
 refine yH (nL (g:=2) (by decide)) (fun u hu => ?_)
 obtain ⟨p2,rfl,i2⟩:=hu
 refine go13 ?_
 refine yH (q_Div2 i1 i2 (by decide) (by decide)) (fun u hu => ?_)
 obtain ⟨p3,rfl,i3⟩:=hu
 rw [half_div] at i3
 obtain ⟨b0,b1,b2,b3,b4,b5,rfl⟩:=id i3.six
 have bh2:CpL 42 [rt h*fr 1 2]:=(vF (tV hk.hh) nP).mono (by decide)
 refine go13 ?_
 refine yB (q_Of hk.ht) (fun u hu => ?_)
 obtain ⟨p4,rfl,i4⟩:=hu
 refine go13 ?_
 refine yB (num_In hx hk.hx (by omega)) (fun u hu => ?_)
 obtain ⟨p5,rfl,i5⟩:=hu
 refine go13 ?_
 refine yB (step_run (n:=2) hc hsys.1 i5 hT (i3.up (by decide)) bh2 (i4.up (by decide)) (tV hk.ht) hk.m0 hk.m6 (by decide) (by decide) (imp_all m) hk.aff) (fun u hu => ?_)
 rcases hu with ⟨e2,hr2,he2,rfl⟩ | ⟨out2,cl2,hr2,rfl,hl2⟩
 case inl =>
  refine go13 ?_
  rw [sT,yF.2 he2]
  refine go13 ?_
  exact ⟨_,.tup (.cons (.c (.hf trivial)) (.cons (.c (.hf trivial)) .nil)),.inl ⟨hk,h6,e2,err_2 hr hr2,he2,rfl⟩⟩
 obtain ⟨o3,o4⟩:=run_told hT hr2
 have e3:=err_3 hr hr2
 have g1':out.getD 1 []=out[1]'(by omega):=by simp [List.getD,o1]
 have g2':out2.getD 2 []=out2[2]'(by omega):=by simp [List.getD,o3]
 have t1:=o2 _ (List.getElem_mem (show 1<out.length by omega))
 have t2:=o4 _ (List.getElem_mem (show 2<out2.length by omega))
 refine go13 ?_
 rw [show yA Cm.neq 0 0=false by simp [yA]]
 refine go13 ?_
 refine ld_L hl2 (i:=2) (by omega) (by decide) (fun d2 hd2 => ?_)
 refine go13 ?_
 refine ld_L hl (i:=1) (by omega) (by decide) (fun d1 hd1 => ?_)
 refine go13 ?_
 refine yB (nL (g:=-1) (by decide)) (fun u hu => ?_)
 obtain ⟨p6,rfl,i6⟩:=hu
 refine go13 ?_
 rw [g1',g2'] at e3
 refine yB (uX (x3:=by rw [t2.1]; exact hf3) (hd2.up (by decide)) (tQ hf3 t2) (mW i6 (by decide)) (uV (n:=1) (by decide)) (hd1.up (by decide)) (by rw [t1.1,t2.1]) (tQ hf3 t1) (by decide)) (fun u hu => ?_)
 obtain ⟨p7,rfl,i7⟩:=hu
 have hyl:(yM (out2[2]'(by omega)) ((-1:Int):Rat) (out[1]'(by omega))).length=f.length:=by rw [yX (by rw [t1.1,t2.1]),t2.1]
 refine go13 ?_
 refine yB (num_Outs i7 (by omega)) (fun u hu => ?_)
 obtain ⟨c5,l5,rfl⟩:=hu
 cases hfit:dec (uZ (yM (out2[2]'(by omega)) ((-1:Int):Rat) (out[1]'(by omega))))
 case false =>
  rw [hfit] at e3
  rw [outs_not (yG.1 hfit)] at l5 ⊢
  refine go13 ?_
  exact ⟨_,.tup (.cons (.c (.hf trivial)) (.cons (.c (.hf trivial)) .nil)),.inl ⟨hk,h6,3,e3,by decide,rfl⟩⟩
 rw [hfit] at e3
 rw [outs_all (yF.1 hfit)] at l5 ⊢
 refine go13 ?_
 exact ⟨_,.tup (.cons (.c (.hf l5.hf)) (.cons (.c (.hf trivial)) .nil)),.inr (.inl ⟨hk,h6,_,_,e3,hyl,rfl,l5⟩)⟩
end Go.Proofs.YtokckcnfojjpjaaGreat

namespace Go.Proofs.YtokckcnfojjpjaaGreat
open Go.RowKit
set_option maxRecDepth 20000
theorem behind_box {b:Nat} {cells:List C} {y:List Rat} {g:Int} {H:Hp} {co:Option Nat} {K:V→Hp→Prop} (hb:H[b]?=some (.live ⟨cells,yC,.rw⟩)) (hE:Els (elR 4194304) cells y) (hl:y.length<1048576) (hg:g<4294967296)
  (k0:¬ uZ (y.map (rdV g))→∀ s,K (.tup [.c .nilSl,.c .nilSl,i64 3]) (H.set b s))
  (k:uZ (y.map (rdV g))→∀ cs c e,Els (elR 2) cs (y.map (rdV g))→Ls elP e ((y.map (rdV g)).map rp)→K (.tup [.c c,.c e,i64 0]) (H.set b (.live ⟨cs,yC,.ro⟩))):semH Tryz.prog n_ref19_behind [.c (.sl b 0 y.length co 4),i64 g] H K :=
 semH_close (behind_raw hb hE hl hg) (fun u H' hu => by
  rcases hu with ⟨h1,s,rfl,rfl⟩ | ⟨h1,cs,e,h2,h3,rfl,rfl⟩
  ·exact ⟨[],_,.tup (.cons (.c (.hf trivial)) (.cons (.c (.hf trivial)) (.cons (.c (.hf trivial)) .nil))),k0 h1 s⟩
  ·have h4:=h2.len
   rw [List.length_map] at h4
   have h4:cs.length=y.length*4:=h4
   exact ⟨[],_,.tup (.cons (.c (.sl (bx:=⟨cs,yC,.ro⟩) (ds:=cs) (List.getElem?_set_self (lt_of_getElem? hb)) rfl (by simp) (by rw [List.drop_zero,List.take_of_length_le (by simp only; omega)]; exact .hf h2.hf))) (.cons (.c (.hf h3.hf)) (.cons (.c (.hf trivial)) .nil))),k h1 cs _ e h2 h3⟩)
theorem one_ro {cf cx cx':C} {ch ct:List C} {f:List Pl} {x:List Rat} {h t:Rat} {m:Int} (h0:0≤m) (h6:m≤6) (hi:pN cf cx' ch ct f x h t) {H:Hp} {K:V→Hp→Prop} (hz:Fz (·=.ro) H cx cx')
  (q0:∀ e,sS m f h t x=.error e→e≠0→K (.tup [.c .nilSl,i64 e]) H)
  (q:∀ y cells,sS m f h t x=.ok y→y.length=x.length→Els (elR 4194304) cells y→K (.tup [.c (.sl H.length 0 y.length (some y.length) 4),i64 0]) (H++[.live ⟨cells,yC,.rw⟩])):semH Tryz.prog n_ref19_one [i64 m,.c cf,.agg ct,.c cx,.agg ch] H K :=
 semH_of_semO_ro (.cons (.c (.hf trivial)) (.cons (.c (.hf hi.hc.hf)) (.cons (.agg (.hf hi.ht.hf)) (.cons (.c hz) (.cons (.agg (.hf hi.hh.hf)) .nil))))) (ref19_one h0 h6 hi) (fun u H' hu => by
  rcases hu with ⟨y,b,cells,hy,rfl,hb,hE⟩ | ⟨e,hy,he,rfl⟩
  ·exact .inr ⟨b,_,_,hb,rfl,hE.hf,.two trivial,q y cells hy (mF hi.hl (uR hy).2) hE⟩
  ·exact .inl ⟨_,.tup (.cons (.c (.hf trivial)) (.cons (.c (.hf trivial)) .nil)),q0 e hy he⟩)
theorem fz_ro {b n:Nat} {co:Option Nat} {cs:List C} {l:List Rat} {el:TypeId} {H:Hp} {k:Nat} (hb:H[b]?=some (.live ⟨cs,el,.ro⟩)) (hE:Els (elR k) cs l) (hn:n=l.length):Fz (·=.ro) H (.sl b 0 n co 4) (.imm l.length cs):=by
 subst hn
 have h4:=hE.len
 have h4:cs.length=l.length*4:=h4
 exact .sl (bx:=⟨cs,el,.ro⟩) hb rfl (by simp) (by rw [List.drop_zero,List.take_of_length_le (by simp only; omega)]; exact .hf hE.hf)
theorem run_2 {m:Int} {f:List Pl} {h t:Rat} {g:Int} {x y:List Rat} {i:Nat} {out:List (List Rat)} (hm:m≠6) (hr:runV m f h t g x i=.ok out) (hy:wF m f h (t+h*((i:Int):Rat)) (out.getD i [])=some y):runV m f h t g x (i+1)=bif dec (uZ (y.map (rdV g))) then .ok (out++[y.map (rdV g)]) else .error 3:=by
 have hnx:uT m f h (t+h*((i:Int):Rat)) i (out.getD i []) (out.getD (i - 1) [])=wF m f h (t+h*((i:Int):Rat)) (out.getD i []):=by
  unfold uT
  rw [yG.2 (by omega)]
  rfl
 simp only [runV,hr,wG,hnx,hy]
theorem run_0 {m:Int} {f:List Pl} {h t:Rat} {g:Int} {x:List Rat} {i:Nat} {out:List (List Rat)} (hm:m≠6) (hr:runV m f h t g x i=.ok out) (hy:wF m f h (t+h*((i:Int):Rat)) (out.getD i [])=none):runV m f h t g x (i+1)=.error 4:=by
 have hnx:uT m f h (t+h*((i:Int):Rat)) i (out.getD i []) (out.getD (i - 1) [])=wF m f h (t+h*((i:Int):Rat)) (out.getD i []):=by
  unfold uT
  rw [yG.2 (by omega)]
  rfl
 simp only [runV,hr,wG,hnx,hy]
theorem map_none {y:List Rat}:y.map (rdV 0)=y:=by
 conv => rhs; rw [←List.map_id y]
 exact List.map_congr_left (fun q _ => rd_none (by decide))
def BxR (H:Hp) (c:C) (l:List Rat):Prop:=Ls (elR 2) c l∨∃ b cs,6≤b∧c=.sl b 0 l.length (some l.length) 4∧H[b]?=some (.live ⟨cs,yC,.ro⟩)∧Els (elR 2) cs l
theorem BxR.fz {H:Hp} {c:C} {l:List Rat} (h:BxR H c l):∃ d,Fz (·=.ro) H c d∧Ls (elR 2) d l:=by
 rcases h with h | ⟨b,cs,_,rfl,h2,h3⟩
 ·exact ⟨c,.hf h.hf,h⟩
 ·exact ⟨_,fz_ro h2 h3 rfl,.imm h3⟩
attribute [local irreducible] yA semH semC qLen qNil qIad qSlc qIdx yW yN xB appX appI slcX awpF yQ xH xopF xN qval lval seqQ xI xY xW xT cnd arith IntKind.wrap
theorem ref19_Error {cf cx:C} {f:List Pl} {x:List R2} (m:Int) (t h:R2) (hc:Ls elM cf f) (hf:f.length<wD) (hx:Ls elP cx x) (hxl:x.length<wD):semC Tryz.prog n_ref19_Error [i64 m,.c cf,.agg (ratC t),.c cx,.agg (ratC h)] (ErrRK m f t x h):=by
 refine yD ok_ref19_Error rfl (show HFVs [i64 m,.c cf,.agg (ratC t),.c cx,.agg (ratC h)] from ⟨trivial,hc.hf,tN _,hx.hf,tN _,trivial⟩) ?_
 refine go13 ?_
 refine yB (ref19_args m t h 0 0 hc hf hx hxl) (fun u hu => ?_)
 obtain rfl:=hu
 refine go13 ?_
 rw [sT,args_n (n:=0) 1 (by decide) (by decide)]
 cases h1:dec (sV m f t x h 0 1≠0)
 case true =>
  have h1:=yF.1 h1
  obtain ⟨b1,b2⟩:=args_bad h1
  refine go13 ?_
  exact ⟨_,.tup (.cons (.c (.hf trivial)) (.cons (.c (.hf trivial)) .nil)),.inr (.inr (.inr ⟨b2,_,h1,rfl,fun _ => b1.symm⟩))⟩
 have h1:sV m f t x h 0 1=0:=Classical.byContradiction (yG.1 h1)
 obtain ⟨z1,z2,z3,z4⟩:=args_zero h1
 have hsys:=jJ z1
 have hf3:=hsys.1.len
 have hT:=told_in z2.2.1 z4
 have hm0:0≤m:=by omega
 have hm6:m≤6:=by omega
 refine go13 ?_
 cases h6:yA Cm.eql m 6
 case true =>
  simp [yA] at h6
  refine go13 ?_
  exact ⟨_,.tup (.cons (.c (.hf trivial)) (.cons (.c (.hf trivial)) .nil)),.inr (.inr (.inl ⟨gU h1 (by omega),h6,rfl⟩))⟩
 simp [yA] at h6
 refine go13 ?_
 try refine goN ?_
 refine yH (r_Of z2.1) (fun u hu => ?_)
 obtain ⟨r1,rfl,g1⟩:=hu
 obtain ⟨d0,d1,d2,d3,rfl⟩:=id g1.four
 refine go13 ?_
 try refine goN ?_
 refine yH (r_Of z2.2.2) (fun u hu => ?_)
 obtain ⟨r3,rfl,g3⟩:=hu
 obtain ⟨s0,s1,s2,s3,rfl⟩:=id g3.four
 refine go13 ?_
 try refine goN ?_
 refine yH (hZ hx z2.2.1 (by omega)) (fun u hu => ?_)
 obtain ⟨r2,rfl,g2⟩:=hu
 have hin:pN cf r2 [s0,.bool s1,s2,.bool s3] [d0,.bool d1,d2,.bool d3] f (x.map rt) (rt h) (rt t):=⟨hc,by rw [List.length_map,z4]; exact hsys.1,by rw [List.length_map,z4],g3.up (by decide),g2.up' (by decide),g1.up (by decide),tQ hf3 hT,(tV z2.1).mono (by decide),(tV z2.2.2).mono (by decide)⟩
 refine go13 ?_
 refine nM (by omega) (by omega) hin (fun e hr he => ?_) (fun y cells hr hyl hE => ?_)
 ·refine go13 ?_
  rw [show yA Cm.eql e 0=false by simp [yA,he]]
  refine go13 ?_
  rw [sT,yF.2 he]
  refine go13 ?_
  rcases qN hr with ⟨a1,a2,a3⟩ | ⟨a1,a2,a3⟩
  ·obtain ⟨b1,b2⟩:=args_aff h1 ⟨a1,a2⟩
   exact ⟨_,.tup (.cons (.c (.hf trivial)) (.cons (.c (.hf trivial)) .nil)),.inr (.inr (.inr ⟨b2,e,he,rfl,fun _ => by rw [b1,a3]⟩))⟩
  ·exact ⟨_,.tup (.cons (.c (.hf trivial)) (.cons (.c (.hf trivial)) .nil)),.inl ⟨gU h1 a1,h6,e,err_1 (by rw [run_1,a2,a3]),he,rfl⟩⟩
 obtain ⟨a1,a2⟩:=uR hr
 have hk:=gU h1 a1
 have hrun:=run_1 m f (rt h) (rt t) 0 (x.map rt)
 rw [a2] at hrun
 simp only at hrun
 refine go13 ?_
 rw [show yA Cm.eql 0 0=true by simp [yA]]
 refine go13 ?_
 refine behind_box (yL _ _) hE (by rw [hyl,List.length_map]; omega) (by decide) (fun hno s => ?_) (fun hfit cs c e hEs le => ?_)
 ·rw [yG.2 hno] at hrun
  refine go13 ?_
  rw [show yA Cm.neq 3 0=true by simp [yA]]
  refine go13 ?_
  exact ⟨_,.tup (.cons (.c (.hf trivial)) (.cons (.c (.hf trivial)) .nil)),.inl ⟨hk,h6,3,err_1 hrun,by decide,rfl⟩⟩
 rw [yF.2 hfit] at hrun
 have hrun:runV m f (rt h) (rt t) 0 (x.map rt) 1=.ok [x.map rt,y.map (rdV 0)]:=hrun
 rw [map_none] at hrun hEs hfit
 have hy1:y.length=f.length:=by rw [hyl,List.length_map,z4]
 rw [wN]
 refine go13 ?_
 rw [show yA Cm.neq 0 0=false by simp [yA]]
 refine go13 ?_
 try refine goN ?_
 refine yH (bB (a:=1) (b:=2) (by decide) (by decide) (by decide)) (fun u hu => ?_)
 obtain ⟨p1,rfl,i1⟩:=hu
 refine go13 ?_
 try refine goN ?_
 refine yH (qH g3 i1 (by decide)) (fun u hu => ?_)
 obtain ⟨p2,rfl,i2⟩:=hu
 obtain ⟨q0,q1,q2,q3,rfl⟩:=id i2.four
 refine go13 ?_
 try refine goN ?_
 refine yB (hZ hx z2.2.1 (by omega)) (fun u hu => ?_)
 obtain ⟨r4,rfl,g4⟩:=hu
 refine go13 ?_
 try refine goN ?_
 rw [map_none] at le
 obtain ⟨hh,hhh⟩:∃ q,q=rt h*fr 1 2:=⟨_,rfl⟩
 rw [←hhh] at i2
 have bh2:CpL 42 [hh]:=by rw [hhh]; exact (vF (tV z2.2.2) nP).mono (by decide)
 have bt:=tV z2.1
 refine yR (fun w vs H => ∃ (i:Nat) (cb:C) (ac:List C) (out:List (List Rat)),vs=[i64 m,.c cf,.c (.ptr 2 0),.c (.sl 4 0 y.length (some y.length) 4),.c (.ptr 5 0),.c cb,i64 i]∧w=2 - i∧i≤2∧H[2]?=some (.live ⟨ac,yC,.rw⟩)∧IR 4194304 ac (rt t+hh*((i:Int):Rat))∧H[4]?=some (.live ⟨cs,yC,.ro⟩)∧H[5]?=some (.live ⟨[q0,.bool q1,q2,.bool q3],yC,.rw⟩)∧6≤H.length∧BxR H cb (out.getD i [])∧runV m f hh (rt t) 0 (x.map rt) i=.ok out∧out.length=i+1∧(∀ l∈out,Told f l)) (by rfl) ⟨0,r4,_,[x.map rt],rfl,rfl,by omega,rfl,?_,rfl,rfl,by simp,.inl g4,rfl,rfl,fun l hl => by simp at hl; subst hl; exact hT⟩ ?_
 ·have e:rt t+hh*(((0:Nat):Int):Rat)=rt t:=by
   have:(((0:Nat):Int):Rat)=0:=rfl
   rw [this]
   grind
  rw [e]
  exact g1.up (by decide)
 rintro w vs H ⟨i,cb,ac,out,rfl,rfl,i1,hA,hat,hB,hS,hH,hcb,hr2,hol,hot⟩
 obtain ⟨c0,c1,c2,c3,rfl⟩:=id hat.four
 obtain ⟨db,hz,ldb⟩:=hcb.fz
 have hgl:out.getD i []=out[i]'(by omega):=by simp [List.getD,hol]
 have hlast:Told f (out.getD i []):=by rw [hgl]; exact hot _ (List.getElem_mem _)
 refine go13 ?_
 cases hi:yA Cm.lss (i:Int) 2
 case false =>
  simp [yA] at hi
  have ei:i=2:=by omega
  subst ei
  have e3:=err_3 hrun (by rw [hhh] at hr2; exact hr2)
  have ea:([x.map rt,y]:List (List Rat)).getD 1 []=y:=rfl
  rw [ea] at e3
  have hT1:Told f y:=⟨hy1,hfit⟩
  refine go13 ?_
  refine yB (r_Int (g:=-1) (by decide)) (fun u hu => ?_)
  obtain ⟨p6,rfl,i6⟩:=hu
  obtain ⟨_,_,_,_,rfl⟩:=id i6.four
  refine go13 ?_
  refine yS [] (.cons (.c hz) (.cons (.agg (.hf i6.hf)) (.cons (.c (fz_ro hB hEs rfl)) .nil))) (tH (x3:=by rw [hlast.1]; exact hf3) (ldb.up' (by decide)) (tQ hf3 hlast) (i6.up (by decide)) (uV (n:=1) (by decide)) (Ls.up' (.imm hEs) (by decide)) (by rw [hy1,hlast.1]) (tQ hf3 hT1) (by decide)) (fun u hu => ?_)
  obtain ⟨p7,rfl,i7⟩:=hu
  have hyl2:(yM (out.getD 2 []) ((-1:Int):Rat) y).length=f.length:=by rw [yX (by rw [hy1,hlast.1]),hlast.1]
  rw [show vV H []=H from rfl]
  refine go13 ?_
  refine yB (ref01_Rats i7 (by omega)) (fun u hu => ?_)
  obtain ⟨c5,l5,rfl⟩:=hu
  cases hfit2:dec (uZ (yM (out.getD 2 []) ((-1:Int):Rat) y))
  case false =>
   rw [hfit2] at e3
   rw [outs_not (yG.1 hfit2)] at l5 ⊢
   refine go13 ?_
   exact ⟨_,.tup (.cons (.c (.hf trivial)) (.cons (.c (.hf trivial)) .nil)),.inl ⟨hk,h6,3,e3,by decide,rfl⟩⟩
  rw [hfit2] at e3
  rw [outs_all (yF.1 hfit2)] at l5 ⊢
  refine go13 ?_
  exact ⟨_,.tup (.cons (.c (.hf l5.hf)) (.cons (.c (.hf trivial)) .nil)),.inr (.inl ⟨hk,h6,_,_,e3,hyl2,rfl,l5⟩)⟩
 simp [yA] at hi
 have bi:CpL 6 [((i:Int):Rat)]:=uV (by omega)
 have ba:CpL 90 [rt t+hh*((i:Int):Rat)]:=(uW bt (vF bh2 bi)).mono (by decide)
 have hin2:pN cf db [q0,.bool q1,q2,.bool q3] [c0,.bool c1,c2,.bool c3] f (out.getD i []) hh (rt t+hh*((i:Int):Rat)) :=
  ⟨hc,vD hsys.1 (by rw [hlast.1]),hlast.1.symm,i2.up (by decide),ldb.up' (by decide),hat,tQ hf3 hlast,ba,bh2.mono (by decide)⟩
 refine go13 ?_
 refine yJ hA (by rfl) ?_
 refine go13 ?_
 refine yJ hS (by rfl) ?_
 refine go13 ?_
 refine one_ro hm0 hm6 hin2 hz (fun e hr1 he => ?_) (fun z cells hr1 hzl hE => ?_)
 ·rcases qN hr1 with ⟨b1,b2,b3⟩ | ⟨b1,b2,b3⟩
  ·exact absurd ⟨b1,b2⟩ a1
  have he4:=uK (run_0 h6 hr2 b2) (show i+1≤2 by omega)
  rw [hhh] at he4
  subst b3
  refine go13 ?_
  rw [show yA Cm.eql 4 0=false by simp [yA]]
  refine go13 ?_
  rw [show yA Cm.neq 4 0=true by simp [yA]]
  refine go13 ?_
  exact ⟨_,.tup (.cons (.c (.hf trivial)) (.cons (.c (.hf trivial)) .nil)),.inl ⟨hk,h6,4,err_2 hrun he4,by decide,rfl⟩⟩
 obtain ⟨b1,b2⟩:=uR hr1
 have hrz:=run_2 h6 hr2 b2
 have hz1:z.length=f.length:=by rw [hzl,hlast.1]
 refine go13 ?_
 rw [show yA Cm.eql 0 0=true by simp [yA]]
 refine go13 ?_
 refine behind_box (yL _ _) hE (by omega) (by decide) (fun hno s => ?_) (fun hfz cs2 c e hEz le2 => ?_)
 ·rw [yG.2 hno] at hrz
  have he3:=uK hrz (show i+1≤2 by omega)
  rw [hhh] at he3
  rw [wN]
  refine go13 ?_
  rw [show yA Cm.neq 3 0=true by simp [yA]]
  refine go13 ?_
  exact ⟨_,.tup (.cons (.c (.hf trivial)) (.cons (.c (.hf trivial)) .nil)),.inl ⟨hk,h6,3,err_2 hrun he3,by decide,rfl⟩⟩
 rw [yF.2 hfz] at hrz
 rw [map_none] at hrz hEz hfz
 rw [wN]
 have hrz:runV m f hh (rt t) 0 (x.map rt) (i+1)=.ok (out++[z]):=hrz
 have hA':(H++[Slot.live ⟨cs2,yC,.ro⟩])[2]?=some (.live ⟨[c0,.bool c1,c2,.bool c3],yC,.rw⟩):=by rw [List.getElem?_append_left (by omega)]; exact hA
 have hS':(H++[Slot.live ⟨cs2,yC,.ro⟩])[5]?=some (.live ⟨[q0,.bool q1,q2,.bool q3],yC,.rw⟩):=by rw [List.getElem?_append_left (by omega)]; exact hS
 refine go13 ?_
 rw [show yA Cm.neq 0 0=false by simp [yA]]
 refine go13 ?_
 refine yJ hA' (by rfl) ?_
 refine go13 ?_
 refine yJ hS' (by rfl) ?_
 refine go13 ?_
 refine yB (tE hat i2 (by decide)) (fun u hu => ?_)
 obtain ⟨u1,rfl,gu⟩:=hu
 have hnat:rt t+hh*((i:Int):Rat)+hh=rt t+hh*(((i+1:Nat):Int):Rat):=by
  push_cast
  grind
 rw [hnat] at gu
 have bi2:CpL 6 [(((i+1:Nat):Int):Rat)]:=uV (by omega)
 have gu:=gu.tightS (((uW bt (vF bh2 bi2)).mono (show _≤90 by decide)).bd (k:=4194304) (by decide) (by simp))
 obtain ⟨u0,u1,u2,u3,rfl⟩:=id gu.four
 refine go13 ?_
 refine yY hA' (by rfl) (by rfl) (by simp) ?_
 try refine goN ?_
 refine go13 ?_
 rw [yZ i (by omega)]
 refine l_n (by rfl) (n':=2 - (i+1)) (by omega) ⟨i+1,_,_,out++[z],rfl,rfl,by omega,List.getElem?_set_self (by simp; omega),gu,?_,?_,by simp; omega,.inr ⟨H.length,cs2,hH,?_,?_,?_⟩,hrz,by simp [hol],fun l hl => ?_⟩
 ·rw [List.getElem?_set_ne (by decide),List.getElem?_append_left (by omega)]
  exact hB
 ·rw [List.getElem?_set_ne (by decide)]
  exact hS'
 ·have:(out++[z]).getD (i+1) []=z:=by simp [List.getD,hol]
  rw [this]
 ·rw [List.getElem?_set_ne (by omega)]
  exact yL _ _
 ·have:(out++[z]).getD (i+1) []=z:=by simp [List.getD,hol]
  rw [this]
  exact hEz
 ·rcases List.mem_append.1 hl with hl | hl
  ·exact hot l hl
  ·simp at hl
   subst hl
   exact ⟨hz1,hfz⟩
end Go.Proofs.YtokckcnfojjpjaaGreat

namespace Go.Proofs.YtokckcnfojjpjaaGreat
open Go.RowKit
set_option maxRecDepth 20000
section
variable {m:Int} {f:List Pl} {t:R2} {x:List R2} {h:R2} {g n:Int} {u v:V}
def SameK (u v:V):Prop:=∃ e c d L,u=.tup [.c c,i64 e]∧v=.tup [.c d,i64 e]∧Ls elP c L∧Ls elP d L∧L.length<1048576
def SameAllK (u v:V):Prop:=∃ e c d L,u=.tup [.c c,i64 e]∧v=.tup [.c d,i64 e]∧Ls elLR c L∧Ls elLR d L∧L.length<1048576
theorem mB (e:Int):SameK (.tup [.c .nilSl,i64 e]) (.tup [.c .nilSl,i64 e]):=⟨e,_,_,[],rfl,rfl,.nil,.nil,by decide⟩
theorem StepRK.same (hS:qY f) (h1:StepRK m f t x h g u) (h2:StepRK m f t x h g v):SameK u v:=by
 rcases h1 with ⟨k1,e1,r1,_,rfl⟩ | ⟨k1,y1,c1,r1,t1,rfl,l1⟩ | ⟨k1,e1,_,rfl,s1⟩ <;> rcases h2 with ⟨k2,e2,r2,_,rfl⟩ | ⟨k2,y2,c2,r2,t2,rfl,l2⟩ | ⟨k2,e2,_,rfl,s2⟩
 ·rw [r1] at r2
  cases r2
  exact mB _
 ·rw [r1] at r2
  cases r2
 ·exact absurd k1 k2
 ·rw [r1] at r2
  cases r2
 ·rw [r1] at r2
  cases r2
  have:=(jJ k1.sys).1.len
  exact ⟨0,c1,c2,_,rfl,rfl,l1,l2,by rw [List.length_map,t1.1]; omega⟩
 ·exact absurd k1 k2
 ·exact absurd k2 k1
 ·exact absurd k2 k1
 ·rw [s1 hS,s2 hS]
  exact mB _
theorem RunRK.same (hS:qY f) (h1:RunRK m f t x h g n u) (h2:RunRK m f t x h g n v):SameAllK u v:=by
 rcases h1 with ⟨k1,e1,r1,_,rfl⟩ | ⟨k1,y1,c1,r1,t1,n1,rfl,l1⟩ | ⟨k1,e1,_,rfl,s1⟩ <;> rcases h2 with ⟨k2,e2,r2,_,rfl⟩ | ⟨k2,y2,c2,r2,t2,n2,rfl,l2⟩ | ⟨k2,e2,_,rfl,s2⟩
 ·rw [r1] at r2
  cases r2
  exact ⟨_,_,_,[],rfl,rfl,.nil,.nil,by decide⟩
 ·rw [r1] at r2
  cases r2
 ·exact absurd k1 k2
 ·rw [r1] at r2
  cases r2
 ·rw [r1] at r2
  cases r2
  have:=k1.nm
  exact ⟨0,c1,c2,_,rfl,rfl,l1,l2,by rw [List.length_map,n1]; omega⟩
 ·exact absurd k1 k2
 ·exact absurd k2 k1
 ·exact absurd k2 k1
 ·rw [s1 hS,s2 hS]
  exact ⟨_,_,_,[],rfl,rfl,.nil,.nil,by decide⟩
theorem ErrRK.same (hS:qY f) (h1:ErrRK m f t x h u) (h2:ErrRK m f t x h v):SameK u v:=by
 rcases h1 with ⟨k1,q1,e1,r1,_,rfl⟩ | ⟨k1,q1,y1,c1,r1,t1,rfl,l1⟩ | ⟨k1,q1,rfl⟩ | ⟨k1,e1,_,rfl,s1⟩ <;> rcases h2 with ⟨k2,q2,e2,r2,_,rfl⟩ | ⟨k2,q2,y2,c2,r2,t2,rfl,l2⟩ | ⟨k2,q2,rfl⟩ | ⟨k2,e2,_,rfl,s2⟩
 ·rw [r1] at r2
  cases r2
  exact mB _
 ·rw [r1] at r2
  cases r2
 ·exact absurd q2 q1
 ·exact absurd k1 k2
 ·rw [r1] at r2
  cases r2
 ·rw [r1] at r2
  cases r2
  have:=(jJ k1.sys).1.len
  exact ⟨0,c1,c2,_,rfl,rfl,l1,l2,by rw [List.length_map,t1]; omega⟩
 ·exact absurd q2 q1
 ·exact absurd k1 k2
 ·exact absurd q1 q2
 ·exact absurd q1 q2
 ·exact mB _
 ·exact absurd k1 k2
 ·exact absurd k2 k1
 ·exact absurd k2 k1
 ·exact absurd k2 k1
 ·rw [s1 hS,s2 hS]
  exact mB _
end
theorem neq_self (a:Int):yA Cm.neq a a=false:=by simp [yA]
theorem eql_self (a:Int):yA Cm.eql a a=true:=by simp [yA]
attribute [local irreducible] yA semH semC qLen qNil qIad qSlc qIdx yW yN xB appX appI slcX awpF yQ xH xopF xN qval lval seqQ xI xY xW xT cnd arith IntKind.wrap
theorem law19_StepRuns {cf cx:C} {f:List Pl} {x:List R2} (m:Int) (t h:R2) (g n:Int) (hS:qY f) (hc:Ls elM cf f) (hf:f.length<wD) (hx:Ls elP cx x) (hxl:x.length<wD):semC Tryz.prog n_law19_StepRuns [i64 m,.c cf,.agg (ratC t),.c cx,.agg (ratC h),i64 g,i64 n] TrueK:=by
 refine yD ok_law19_StepRuns rfl (show HFVs [i64 m,.c cf,.agg (ratC t),.c cx,.agg (ratC h),i64 g,i64 n] from ⟨trivial,hc.hf,tN _,hx.hf,tN _,trivial,trivial,trivial⟩) ?_
 refine go13 ?_
 refine yB (step_Step m t h g hc hf hx hxl (imp_all m)) (fun u hu => ?_)
 have hu1:=hu
 obtain ⟨e1,c1,_,_,rfl,_,_⟩:=hu1.same hS hu1
 clear hu
 refine go13 ?_
 refine yB (ref19_Step m t h g hc hf hx hxl) (fun u hu => ?_)
 obtain ⟨e,c3,c2,L,q1,rfl,l1,l2,hL⟩:=hu1.same hS hu
 obtain ⟨rfl,rfl⟩:c1=c3∧e1=e:=by simpa [i64] using q1
 clear q1 hu1 hu
 refine go13 ?_
 refine yB (step_Validate hc hf) (fun u hu => ?_)
 obtain ⟨ev,rfl,v1,_⟩:=hu
 obtain rfl:=v1 hS
 refine go13 ?_
 refine yB (ref19_Validate hc hf) (fun u hu => ?_)
 obtain rfl:=hu
 refine go13 ?_
 rw [neq_self]
 refine go13 ?_
 refine yB (law19_same l1 l2 (by omega) (by omega)) (fun u hu => ?_)
 obtain ⟨z,rfl,hz⟩:=hu
 obtain rfl:=(hz.2 rfl:z=true)
 refine go13 ?_
 rw [neq_self]
 refine go13 ?_
 refine yB (step_Run m t h g n hc hf hx hxl (imp_all m)) (fun u hu => ?_)
 have hu1:=hu
 obtain ⟨e3,c3,_,_,rfl,_,_⟩:=hu1.same hS hu1
 clear hu
 refine go13 ?_
 refine yB (ref19_Run m t h g n hc hf hx hxl) (fun u hu => ?_)
 obtain ⟨e4,c5,c4,L2,q1,rfl,l3,l4,hL2⟩:=hu1.same hS hu
 obtain ⟨rfl,rfl⟩:c3=c5∧e3=e4:=by simpa [i64] using q1
 clear q1 hu1 hu
 refine go13 ?_
 refine yB (law19_sameAll l3 l4 (by omega) (by omega)) (fun u hu => ?_)
 obtain ⟨z,rfl,hz⟩:=hu
 obtain rfl:=(hz.2 rfl:z=true)
 refine go13 ?_
 rw [neq_self]
 refine go13 ?_
 refine yB (step_Error m t h hc hf hx hxl) (fun u hu => ?_)
 have hu1:=hu
 obtain ⟨e5,c5,_,_,rfl,_,_⟩:=hu1.same hS hu1
 clear hu
 refine go13 ?_
 refine yB (ref19_Error m t h hc hf hx hxl) (fun u hu => ?_)
 obtain ⟨e6,c7,c6,L3,q1,rfl,l5,l6,hL3⟩:=hu1.same hS hu
 obtain ⟨rfl,rfl⟩:c5=c7∧e5=e6:=by simpa [i64] using q1
 clear q1 hu1 hu
 refine go13 ?_
 refine yB (law19_same l5 l6 (by omega) (by omega)) (fun u hu => ?_)
 obtain ⟨z,rfl,hz⟩:=hu
 obtain rfl:=(hz.2 rfl:z=true)
 refine go13 ?_
 rw [eql_self]
 refine go13 ?_
 refine yB law19_known (fun u hu => ?_)
 obtain rfl:=hu
 refine go13 ?_
 exact TrueK.fz
end Go.Proofs.YtokckcnfojjpjaaGreat
