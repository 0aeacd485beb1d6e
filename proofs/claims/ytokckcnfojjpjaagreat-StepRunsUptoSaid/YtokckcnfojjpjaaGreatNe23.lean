/-
  Parts of the proof: Runs and steps as they are told (step.Run, step.Step).
-/
import Derived.Test.YtokckcnfojjpjaaGreatNe22
import Derived.Test.YtokckcnfojjpjaaGreatNe20
import Derived.Test.YtokckcnfojjpjaaGreatNe17
set_option linter.unusedVariables false
set_option linter.unusedSimpArgs false
namespace Go.Proofs.YtokckcnfojjpjaaGreat
open Go.RowKit
set_option maxRecDepth 20000
def elLR:El (List R2):=⟨fun cs l => ∃ c,cs=[c]∧Ls elP c l∧l.length<1048576,1,fun h => by obtain ⟨c,rfl,_⟩:=h; rfl,fun h => by obtain ⟨c,rfl,h,_⟩:=h; exact ⟨h.hf,trivial⟩⟩
def RunRK (m:Int) (f:List Pl) (t:R2) (x:List R2) (h:R2) (g n:Int) (u:V):Prop :=
 (gV m f t x h g n∧∃ e,runV m f (rt h) (rt t) g (x.map rt) n.toNat=.error e∧e≠0∧u=.tup [.c .nilSl,i64 e]) ∨
 (gV m f t x h g n∧∃ out c,runV m f (rt h) (rt t) g (x.map rt) n.toNat=.ok out∧(∀ l∈out,Told f l)∧out.length=n.toNat+1∧u=.tup [.c c,i64 0]∧Ls elLR c (out.map fun l => l.map rp)) ∨
 (¬ gV m f t x h g n∧∃ e,e≠0∧u=.tup [.c .nilSl,i64 e]∧(qY f→e=tS m f t x h g n))
theorem run_told {m:Int} {f:List Pl} {h t:Rat} {g:Int} {x:List Rat} (hT:Told f x):∀ {n:Nat} {out:List (List Rat)},runV m f h t g x n=.ok out→out.length=n+1∧∀ l∈out,Told f l
 | 0,out,h1 => by
  cases h1
  exact ⟨rfl,by simpa using hT⟩
 | n+1,out,h1 => by
  simp only [runV] at h1
  cases h2:runV m f h t g x n with
  | error e => rw [h2] at h1; cases h1
  | ok o =>
   rw [h2] at h1
   obtain ⟨l1,l2⟩:=run_told hT h2
   simp only [wG] at h1
   have hgl:o.getD n []=o[n]'(by omega):=by simp [List.getD,l1]
   cases h3:uT m f h (t+h*((n:Int):Rat)) n (o.getD n []) (o.getD (n - 1) []) with
   | none => rw [h3] at h1; cases h1
   | some y =>
    rw [h3] at h1
    simp only at h1
    cases h4:dec (uZ (y.map (rdV g)))
    ·rw [h4] at h1; cases h1
    ·rw [h4] at h1
     simp only [cond_true,Except.ok.injEq] at h1
     subst h1
     have hfit:=yF.1 h4
     refine ⟨by simp; omega,fun l hl => ?_⟩
     rcases List.mem_append.1 hl with hl | hl
     ·exact l2 l hl
     ·simp only [List.mem_singleton] at hl
      subst hl
      refine ⟨?_,hfit⟩
      have hy:y.length=(o[n]'(by omega)).length:=by
       have hlast:=l2 _ (List.getElem_mem (show n<o.length by omega))
       rw [hgl] at h3
       unfold uT at h3
       cases h5:dec (m=6∧0<n) <;> rw [h5] at h3
       ·exact mF hlast.1.symm h3
       ·cases h3
        rw [yX,yX]
        ·rw [wA,hlast.1]
        ·rw [wA,yX (by rw [wA,hlast.1]),hlast.1]
      rw [List.length_map,hy]
      exact (l2 _ (List.getElem_mem (show n<o.length by omega))).1
theorem told_in {f:List Pl} {x:List R2} (hv:tT x) (hl:x.length=f.length):Told f (x.map rt):=by
 refine ⟨by simpa using hl,fun q hq => ?_⟩
 obtain ⟨p,hp,rfl⟩:=List.mem_map.1 hq
 have:=hv p hp
 rw [this.rp]
 exact this.fit
theorem outs_told {f:List Pl} {l:List Rat} (h:Told f l):jX l=(l.map rp,true):=by
 unfold jX
 rw [yF.2 (show ∀ q∈l,fitR (rp q)=true from h.2)]
 rfl
theorem tV {p:R2} (h:wE p.1 p.2):CpL 40 [rt p]:=CpL.one h
theorem ld_LR {c:C} {l:List (List R2)} {n i:Nat} {K:V→Prop} (hc:Ls elLR c l) (hi:i<l.length) (hn:n=i) (h:∀ d,Ls elP d l[i]→K (.c d)):yN (c.ds.drop (n*1)) false 1 K:=by
 subst hn
 obtain ⟨cs,r,⟨d,rfl,h1,_⟩,h2⟩:=hc.els.get hi
 have h2:c.ds.drop (n*1)=[d]++r:=h2
 rw [h2]
 exact h d h1
theorem run_first {m:Int} {f:List Pl} {h t:Rat} {g:Int} {x:List Rat}:∀ {n:Nat} {out:List (List Rat)},runV m f h t g x n=.ok out→∃ r,out=x :: r
 | 0,out,h1 => by
  cases h1
  exact ⟨[],rfl⟩
 | n+1,out,h1 => by
  simp only [runV] at h1
  cases h2:runV m f h t g x n with
  | error e => rw [h2] at h1; cases h1
  | ok o =>
   rw [h2] at h1
   obtain ⟨r,rfl⟩:=run_first h2
   simp only [wG] at h1
   split at h1
   ·cases h1
   ·rename_i y hy
    cases h4:dec (uZ (y.map (rdV g)))
    ·rw [h4] at h1; cases h1
    ·rw [h4] at h1
     simp only [cond_true,Except.ok.injEq] at h1
     subst h1
     exact ⟨_,rfl⟩
attribute [local irreducible] yA semH semC qLen qNil qIad qSlc qIdx yW yN xB appX appI slcX awpF yQ xH xopF xN qval lval seqQ xI xY xW xT cnd arith IntKind.wrap
theorem step_Run {cf cx:C} {f:List Pl} {x:List R2} (m:Int) (t h:R2) (g n:Int) (hc:Ls elM cf f) (hf:f.length<wD) (hx:Ls elP cx x) (hxl:x.length<wD) (hi:ImpOk m):semC Tryz.prog n_step_Run [i64 m,.c cf,.agg (ratC t),.c cx,.agg (ratC h),i64 g,i64 n] (RunRK m f t x h g n):=by
 refine yD ok_step_Run rfl (show HFVs [i64 m,.c cf,.agg (ratC t),.c cx,.agg (ratC h),i64 g,i64 n] from ⟨trivial,hc.hf,tN _,hx.hf,tN _,trivial,trivial,trivial⟩) ?_
 refine go13 ?_
 refine yB (step_known m t h g n hc hf hx hxl) (fun u hu => ?_)
 obtain ⟨e,rfl,k1,k2⟩:=hu
 refine go13 ?_
 rw [sT]
 cases h1:dec (e≠0)
 case true =>
  have h1:=yF.1 h1
  refine go13 ?_
  refine ⟨_,.tup (.cons (.c (.hf trivial)) (.cons (.c (.hf trivial)) .nil)),.inr (.inr ⟨fun hk => ?_,e,h1,rfl,k1⟩)⟩
  have hv:=jJ hk.sys
  have hS:qY f:=fun p hp t ht => by
   have:=((hv.1.poly p hp).term t ht).len
   have:=hv.1.len
   omega
  have e2:=nA (m:=m) (f:=f) (t:=t) (x:=x) (h:=h) (g:=g) (n:=n) hk.sys ⟨hk.ht,hk.hx,hk.hh⟩ (by have:=hk.m0; have:=hk.m6; have:=hk.hp; have:=hk.g0; have:=hk.gm; have:=hk.n0; have:=hk.nm; omega) hk.len (fun h => h.2 (hk.aff h.1))
  rw [k1 hS,e2.1] at h1
  exact h1 rfl
 have h1:e=0:=Classical.byContradiction (yG.1 h1)
 have hk:=k2 h1
 have hsys:=jJ hk.sys
 have hf3:=hsys.1.len
 have hxl3:=hk.len
 have hT:=told_in hk.hx hk.len
 obtain ⟨n',rfl⟩:=Int.eq_ofNat_of_zero_le hk.n0
 have hn60:=hk.nm
 have hgm:=hk.gm
 refine go13 ?_
 refine yH (q_Of hk.hh) (fun u hu => ?_)
 obtain ⟨r1,rfl,g1⟩:=hu
 obtain ⟨a0,a1,a2,a3,a4,a5,rfl⟩:=id g1.six
 refine go13 ?_
 refine yB (q_Of hk.ht) (fun u hu => ?_)
 obtain ⟨r2,rfl,g2⟩:=hu
 refine go13 ?_
 refine yB (num_In hx hk.hx (by omega)) (fun u hu => ?_)
 obtain ⟨r3,rfl,g3⟩:=hu
 refine go13 ?_
 refine yB (step_run (n:=n') hc hsys.1 g3 hT (g1.up (by decide)) ((tV hk.hh).mono (by decide)) (g2.up (by decide)) (tV hk.ht) hk.m0 hk.m6 (by omega) (by omega) hi hk.aff) (fun u hu => ?_)
 rcases hu with ⟨e2,hr,he2,rfl⟩ | ⟨out,cl,hr,rfl,hl⟩
 case inl =>
  refine go13 ?_
  rw [sT]
  rw [yF.2 he2]
  refine go13 ?_
  exact ⟨_,.tup (.cons (.c (.hf trivial)) (.cons (.c (.hf trivial)) .nil)),.inl ⟨hk,e2,hr,he2,rfl⟩⟩
 obtain ⟨o1,o2⟩:=run_told hT hr
 refine go13 ?_
 rw [show yA Cm.neq 0 0=false by simp [yA]]
 refine go13 ?_
 refine yR (fun w vs H => ∃ (i:Nat) (o:C) (R:Hp),vs=[.c o,.c cl,i64 out.length,i64 i]∧H=[.live ⟨ratC t,tD,.rw⟩,.live ⟨ratC h,tD,.rw⟩]++R∧w=out.length - i∧i≤out.length∧Out elLR jV 2 H o ((out.take i).map fun l => l.map rp)) (by rfl) ⟨0,_,[],rfl,rfl,rfl,by omega,.nil⟩ ?_
 rintro w vs H ⟨i,o,R,rfl,rfl,rfl,i1,i2⟩
 refine go13 ?_
 cases hi:yA Cm.lss (i:Int) (out.length:Int)
 case false =>
  simp [yA] at hi
  rw [vE (by omega)] at i2
  refine go13 ?_
  obtain ⟨d,f1,l1⟩:=i2.fz (p:=(·≠.bor)) (by simp)
  exact ⟨_,.tup (.cons (.c f1) (.cons (.c (.hf trivial)) .nil)),.inr (.inl ⟨hk,out,d,hr,o2,o1,rfl,l1⟩)⟩
 simp [yA] at hi
 have htl:=o2 _ (xZ hi)
 refine go13 ?_
 refine ld_L hl (i:=i) hi (by omega) (fun d hd => ?_)
 refine go13 ?_
 refine yB (num_Outs hd (by have:=htl.1; omega)) (fun u hu => ?_)
 obtain ⟨c5,l5,rfl⟩:=hu
 rw [outs_told htl] at l5 ⊢
 refine go13 ?_
 refine app_imm (bytes:=24) (E:=elLR) (F:=[.live ⟨ratC t,tD,.rw⟩,.live ⟨ratC h,tD,.rw⟩]) (R:=R) (a:=out[i].map rp) rfl i2 (by rfl) (by rfl) rfl ⟨c5,rfl,l5,by rw [List.length_map]; have:=htl.1; omega⟩ (by simp only [List.length_map,List.length_take]; omega) (fun R2 o2' q2 => ?_)
 refine go13 ?_
 rw [yZ i (by omega)]
 refine l_n (by rfl) (n':=out.length - (i+1)) (by omega) ⟨i+1,_,_,rfl,rfl,rfl,by omega,?_⟩
 rw [xU hi,List.map_append]
 exact q2
def StepRK (m:Int) (f:List Pl) (t:R2) (x:List R2) (h:R2) (g:Int) (u:V):Prop :=
 (gV m f t x h g 1∧∃ e,runV m f (rt h) (rt t) g (x.map rt) 1=.error e∧e≠0∧u=.tup [.c .nilSl,i64 e]) ∨
 (gV m f t x h g 1∧∃ y c,runV m f (rt h) (rt t) g (x.map rt) 1=.ok [x.map rt,y]∧Told f y∧u=.tup [.c c,i64 0]∧Ls elP c (y.map rp)) ∨
 (¬ gV m f t x h g 1∧∃ e,e≠0∧u=.tup [.c .nilSl,i64 e]∧(qY f→e=tS m f t x h g 1))
theorem step_Step {cf cx:C} {f:List Pl} {x:List R2} (m:Int) (t h:R2) (g:Int) (hc:Ls elM cf f) (hf:f.length<wD) (hx:Ls elP cx x) (hxl:x.length<wD) (hi:ImpOk m):semC Tryz.prog n_step_Step [i64 m,.c cf,.agg (ratC t),.c cx,.agg (ratC h),i64 g] (StepRK m f t x h g):=by
 refine yD ok_step_Step rfl (show HFVs [i64 m,.c cf,.agg (ratC t),.c cx,.agg (ratC h),i64 g] from ⟨trivial,hc.hf,tN _,hx.hf,tN _,trivial,trivial⟩) ?_
 refine go13 ?_
 refine yB (step_Run m t h g 1 hc hf hx hxl hi) (fun u hu => ?_)
 rcases hu with ⟨hk,e,hr,he,rfl⟩ | ⟨hk,out,c,hr,ho,hl,rfl,lc⟩ | ⟨hk,e,he,rfl,h1⟩
 ·refine go13 ?_
  rw [sT,yF.2 he]
  refine go13 ?_
  exact ⟨_,.tup (.cons (.c (.hf trivial)) (.cons (.c (.hf trivial)) .nil)),.inl ⟨hk,e,hr,he,rfl⟩⟩
 ·have hl2:out.length=2:=hl
  have hr:runV m f (rt h) (rt t) g (x.map rt) 1=.ok out:=hr
  obtain ⟨r,rfl⟩:=run_first hr
  obtain ⟨y,rfl⟩:∃ y,r=[y]:=by
   match r,hl2 with
   | [y],_ => exact ⟨y,rfl⟩
  obtain ⟨L,hL⟩:∃ L:List (List R2),L=[x.map rt,y].map fun l => l.map rp:=⟨_,rfl⟩
  rw [←hL] at lc
  have hLl:L.length=2:=by rw [hL]; rfl
  refine go13 ?_
  rw [show yA Cm.neq 0 0=false by simp [yA]]
  refine go13 ?_
  refine ld_LR lc (i:=1) (by omega) (by decide) (fun d hd => ?_)
  have hy:L[1]'(by omega)=y.map rp:=by simp [hL]
  rw [hy] at hd
  refine go13 ?_
  exact ⟨_,.tup (.cons (.c (.hf hd.hf)) (.cons (.c (.hf trivial)) .nil)),.inr (.inl ⟨hk,y,d,hr,ho _ (by simp),rfl,hd⟩)⟩
 ·refine go13 ?_
  rw [sT,yF.2 he]
  refine go13 ?_
  exact ⟨_,.tup (.cons (.c (.hf trivial)) (.cons (.c (.hf trivial)) .nil)),.inr (.inr ⟨hk,e,he,rfl,h1⟩)⟩
end Go.Proofs.YtokckcnfojjpjaaGreat

namespace Go.Proofs.YtokckcnfojjpjaaGreat
open Go.RowKit
set_option maxRecDepth 20000
def TrueK (u:V):Prop:=u=.c (.bool true)
theorem TrueK.fz {H:Hp}:∃ d,FzV H (.c (.bool true)) d∧TrueK d:=⟨_,.c (.hf trivial),rfl⟩
def kF:List Pl:=[[((1,1),[1,0])]]
theorem k_run:gT kF (rt (1,1)) (rt (0,1)+rt (1,1)*(((0:Nat):Int):Rat)) [rt (24,1)]=[65]:=by decide +kernel
theorem k_val:valS kF=0:=by
 refine sys_ok (by decide) ?_ ?_
 ·rintro ⟨p,hp,h⟩
  simp [kF] at hp
  subst hp
  rcases h with h | ⟨t,ht,h⟩
  ·simp at h
  ·simp at ht
   subst ht
   rcases h with h | ⟨_,h⟩ <;> simp [sumP] at h
 ·rintro ⟨p,hp,i,hi,h⟩
  simp [kF] at hp
  subst hp
  simp at hi
  subst hi
  rcases h with h | ⟨h,_⟩
  ·rcases h with h | h | h | ⟨k,hk,h⟩
   ·simp [kF] at h
   ·exact h (show wE 1 1 from ⟨by decide,by decide,by decide,by decide,by decide⟩)
   ·simp at h
   ·simp at hk
    rcases hk with rfl | rfl <;> simp at h
  ·omega
theorem k_ok:gV 3 kF (0,1) [(24,1)] (1,1) 0 1:=⟨k_val,⟨by decide,by decide,by decide,by decide,by decide⟩,fun p hp => by simp at hp; subst hp; exact ⟨by decide,by decide,by decide,by decide,by decide⟩,⟨by decide,by decide,by decide,by decide,by decide⟩,by decide,by decide,by decide,by decide,by decide,by decide,by decide,by decide,by rintro (h | h) <;> cases h⟩
theorem k_runV:runV 3 kF (rt (1,1)) (rt (0,1)) 0 [rt (24,1)] 1=.ok [[rt (24,1)],[65]]:=by
 have h1:uT 3 kF (rt (1,1)) (rt (0,1)+rt (1,1)*(((0:Nat):Int):Rat)) 0 [rt (24,1)] [rt (24,1)]=some [65]:=by
  unfold uT
  rw [yG.2 (by omega)]
  simp only [cond_false]
  rw [one_3,k_run]
 have h2:rdV 0 65=65:=rd_none (by decide)
 have h3:uZ ([65].map (rdV 0)):=by
  intro q hq
  simp only [List.map_cons,List.map_nil,List.mem_singleton] at hq
  subst hq
  rw [h2]
  unfold fitR
  exact yF.2 (by decide +kernel)
 show wG 3 kF (rt (1,1)) (rt (0,1)) 0 0 [[rt (24,1)]]=_
 unfold wG
 simp only [List.getD_cons_zero,Nat.zero_sub]
 rw [h1]
 simp only
 rw [yF.2 h3]
 simp [h2]
theorem imp3 {m:Int} (h:m≠4) (h2:m≠5):ImpOk m:=fun _ _ _ => ⟨fun e => absurd e h,fun e => absurd e h2⟩
theorem k_elM:Ls elM (.imm 1 [.imm 1 [iC 1,iC 1,.imm 2 [iC 1,iC 0]]]) kF:=by
 have h1:Ls elI (.imm 2 [iC 1,iC 0]) [1,0]:=.imm (.cons (E:=elI) (a:=1) (cs:=[iC 1]) ⟨rfl,by decide,by decide⟩ (.one (E:=elI) (a:=0) ⟨rfl,by decide,by decide⟩))
 have h2:Ls elT (.imm 1 [iC 1,iC 1,.imm 2 [iC 1,iC 0]]) [((1,1),[1,0])]:=.imm (.one (E:=elT) (a:=((1,1),[1,0])) ⟨_,rfl,h1,by decide⟩)
 exact .imm (.one (E:=elM) (a:=[((1,1),[1,0])]) ⟨_,rfl,h2,by decide⟩)
theorem k_x:Ls elP (.imm 1 [iC 24,iC 1]) [(24,1)]:=.imm (.one (E:=elP) (a:=(24,1)) rfl)
attribute [local irreducible] yA semH semC qLen qNil qIad qSlc qIdx yW yN xB appX appI slcX awpF yQ xH xopF xN qval lval seqQ xI xY xW xT cnd arith IntKind.wrap
theorem law19_known:semC Tryz.prog n_law19_known [] TrueK:=by
 refine yD ok_law19_known rfl (show HFVs [] from trivial) ?_
 refine go13 ?_
 refine goN ?_
 refine yB (step_Step 3 (0,1) (1,1) 0 k_elM (by decide) k_x (by decide) (imp3 (by decide) (by decide))) (fun u hu => ?_)
 rcases hu with ⟨_,e,hr,_⟩ | ⟨_,y,c,hr,hT,rfl,hc⟩ | ⟨hn,_⟩
 ·have hr:runV 3 kF (rt (1,1)) (rt (0,1)) 0 [rt (24,1)] 1=.error e:=hr
  rw [k_runV] at hr
  cases hr
 ·have hr:runV 3 kF (rt (1,1)) (rt (0,1)) 0 [rt (24,1)] 1=.ok [[rt (24,1)],y]:=hr
  rw [k_runV] at hr
  simp only [Except.ok.injEq,List.cons.injEq,and_true,true_and] at hr
  subst hr
  obtain ⟨L,hL⟩:∃ L:List R2,L=[65].map rp:=⟨_,rfl⟩
  rw [←hL] at hc
  have hl:L=[(65,1)]:=by rw [hL]; decide +kernel
  have hLl:L.length=1:=by rw [hl]; rfl
  refine go13 ?_
  rw [show yA Cm.eql (L.length:Int) 1=true by rw [hLl]; simp [yA]]
  refine go13 ?_
  refine uA hc (i:=0) (by omega) (by decide) rfl (fun cs hcs => ?_)
  have h0:L[0]'(by omega)=(65,1):=by simp [hl]
  rw [h0] at hcs
  obtain rfl:=(show cs=ratC (65,1) from hcs)
  refine go13 ?_
  rw [show yA Cm.eql 0 0=true by simp [yA]]
  exact TrueK.fz
 ·exact absurd k_ok hn
end Go.Proofs.YtokckcnfojjpjaaGreat

namespace Go.Proofs.YtokckcnfojjpjaaGreat
open Go.RowKit
set_option maxRecDepth 20000
def capS (s:Int):Int:=if 1000<s then 1000 else s
theorem capS_bd {X:List Int}:0≤capS (sumP X)∧capS (sumP X)≤1000:=by
 have:=nJ X
 unfold capS
 split <;> omega
theorem capS_gt {s n:Int} (h:n<1000):n<capS s↔n<s:=by
 unfold capS
 split <;> omega
def SumsK (X:List Int) (u:V):Prop:=u=.tup [i64 (capS (sumP X)),i64 (capS (sumP (X.take (X.length - 1))))]
theorem sumP_step {X:List Int} {i:Nat} (h:i<X.length):sumP (X.take (i+1))=sumP (X.take i)+(if 0<X[i] then X[i] else 0):=by
 rw [xU h,nK]
 simp [sumP]
attribute [local irreducible] yA semH semC qLen qNil qIad qSlc qIdx yW yN xB appX appI slcX awpF yQ xH xopF xN qval lval seqQ xI xY xW xT cnd arith IntKind.wrap
theorem ref19_sums {c:C} {X:List Int} (hc:Ls elI c X) (hl:X.length<wD):semC Tryz.prog n_ref19_sums [.c c] (SumsK X):=by
 unfold wD at hl
 refine yD ok_ref19_sums rfl (show HFVs [.c c] from ⟨hc.hf,trivial⟩) ?_
 refine go13 ?_
 refine yR (fun w vs H => ∃ (i:Nat),vs=[.c c,i64 (capS (sumP (X.take i))),i64 (capS (sumP (X.take (i - 1)))),i64 i]∧w=X.length - i∧i≤X.length) (by rfl) ⟨0,rfl,rfl,by omega⟩ ?_
 rintro w vs H ⟨i,rfl,rfl,i1⟩
 refine go13 ?_
 cases hi:yA Cm.lss (i:Int) (X.length:Int)
 case false =>
  simp [yA] at hi
  obtain rfl:i=X.length:=by omega
  refine go13 ?_
  exact ⟨_,.tup (.cons (.c (.hf trivial)) (.cons (.c (.hf trivial)) .nil)),by unfold SumsK; rw [List.take_length]; rfl⟩
 simp [yA] at hi
 have hs:=sumP_step hi
 have hb:=capS_bd (X:=X.take i)
 refine go13 ?_
 cases h0:yA Cm.gtr X[i] 0
 case false =>
  simp [yA] at h0
  refine go13 ?_
  rw [yZ i (by omega)]
  refine l_n (by rfl) (n':=X.length - (i+1)) (by omega) ⟨i+1,?_,rfl,by omega⟩
  rw [hs,if_neg (by omega),Int.add_zero]
  rfl
 simp [yA] at h0
 refine go13 ?_
 rw [yZ i (by omega)]
 refine l_n (by rfl) (n':=X.length - (i+1)) (by omega) ⟨i+1,?_,rfl,by omega⟩
 have hm:0<(if (1000:Int)<X[i] then 1000 else X[i])∧(if (1000:Int)<X[i] then 1000 else X[i])≤1000:=by split <;> omega
 have hn:=nJ (X.take i)
 have ea:arith .add .i64 (capS (sumP (X.take i))) (if (1000:Int)<X[i] then 1000 else X[i])=capS (sumP (X.take i))+(if (1000:Int)<X[i] then 1000 else X[i]):=by rw [xC,yI (by omega) (by omega)]
 rw [ea,hs,if_pos h0]
 have ec:(if (1000:Int)<capS (sumP (X.take i))+(if (1000:Int)<X[i] then 1000 else X[i]) then 1000 else capS (sumP (X.take i))+(if (1000:Int)<X[i] then 1000 else X[i]))=capS (sumP (X.take i)+X[i]):=by
  unfold capS
  split <;> split <;> (try split) <;> (try split) <;> omega
 rw [ec]
 rfl
theorem ref19_isBelow {c:C} {X:List Int} (hc:Ls elI c X) (hl:X.length<wD):semC Tryz.prog n_ref19_isBelow [.c c] (uC (∃ k∈X,k<0)):=by
 unfold wD at hl
 refine yD ok_ref19_isBelow rfl (show HFVs [.c c] from ⟨hc.hf,trivial⟩) ?_
 refine go13 ?_
 refine yR (fun w vs H => ∃ (i:Nat),vs=[.c c,i64 X.length,i64 i]∧w=X.length - i∧i≤X.length∧∀ k∈X.take i,¬ k<0) (by rfl) ⟨0,rfl,rfl,by omega,by simp⟩ ?_
 rintro w vs H ⟨i,rfl,rfl,i1,i2⟩
 refine go13 ?_
 cases hi:yA Cm.lss (i:Int) (X.length:Int)
 case false =>
  simp [yA] at hi
  rw [vE (by omega)] at i2
  refine go13 ?_
  exact ⟨_,.c (.hf trivial),false,rfl,⟨fun h => (by cases h),fun ⟨k,h1,h2⟩ => absurd h2 (i2 k h1)⟩⟩
 simp [yA] at hi
 refine go13 ?_
 cases h0:yA Cm.lss X[i] 0
 case true =>
  simp [yA] at h0
  refine go13 ?_
  exact ⟨_,.c (.hf trivial),true,rfl,⟨fun _ => ⟨X[i],List.getElem_mem _,h0⟩,fun _ => rfl⟩⟩
 simp [yA] at h0
 refine go13 ?_
 rw [yZ i (by omega)]
 refine l_n (by rfl) (n':=X.length - (i+1)) (by omega) ⟨i+1,rfl,rfl,by omega,fun k hk => ?_⟩
 rw [xU hi] at hk
 rcases List.mem_append.1 hk with hk | hk
 ·exact i2 k hk
 ·simp at hk
  omega
def ordL (X Y:List Int):Int:=if X.length=Y.length then lexI X Y else 0
theorem ref19_order {c d:C} {X Y:List Int} (hc:Ls elI c X) (hd:Ls elI d Y) (hx:X.length<wD) (hy:Y.length<wD):semC Tryz.prog n_ref19_order [.c c,.c d] (IntK (ordL X Y)):=by
 unfold wD at hx hy
 refine yD ok_ref19_order rfl (show HFVs [.c c,.c d] from ⟨hc.hf,hd.hf,trivial⟩) ?_
 refine go13 ?_
 cases h1:yA Cm.neq (X.length:Int) (Y.length:Int)
 case true =>
  simp [yA] at h1
  have e:ordL X Y=0:=if_neg (by omega)
  refine go13 ?_
  rw [←e]
  exact IntK.fz
 simp [yA] at h1
 have e:ordL X Y=lexI X Y:=if_pos (by omega)
 rw [e]
 refine go13 ?_
 refine yR (fun w vs H => ∃ (i:Nat),vs=[.c c,.c d,i64 X.length,i64 i]∧w=X.length - i∧i≤X.length∧lexI X Y=lexI (X.drop i) (Y.drop i)) (by rfl) ⟨0,rfl,rfl,by omega,rfl⟩ ?_
 rintro w vs H ⟨i,rfl,rfl,i1,i2⟩
 refine go13 ?_
 cases hi:yA Cm.lss (i:Int) (X.length:Int)
 case false =>
  simp [yA] at hi
  have h3:lexI X Y=0:=by
   rw [i2,List.drop_of_length_le (by omega),List.drop_of_length_le (by omega)]
   rfl
  refine go13 ?_
  rw [←h3]
  exact IntK.fz
 simp [yA] at hi
 have hj:i<Y.length:=by omega
 refine go13 ?_
 cases h2:yA Cm.neq X[i] Y[i]
 case false =>
  simp [yA] at h2
  refine go13 ?_
  rw [yZ i (by omega)]
  exact l_n (by rfl) (n':=X.length - (i+1)) (by omega) ⟨i+1,rfl,rfl,by omega,by rw [i2,lex_drop hi hj h2]⟩
 simp [yA] at h2
 refine go13 ?_
 have hd:=lex_diff hi hj (show cmpI X[i] Y[i]≠0 by unfold cmpI; split <;> (try split) <;> omega)
 rw [←i2] at hd
 cases h3:yA Cm.lss X[i] Y[i]
 case true =>
  simp [yA] at h3
  have e:lexI X Y = -1:=by rw [hd]; exact if_pos h3
  refine go13 ?_
  rw [←e]
  exact IntK.fz
 simp [yA] at h3
 have e:lexI X Y=1:=by rw [hd]; unfold cmpI; rw [if_neg (by omega),if_pos (by omega)]
 refine go13 ?_
 rw [←e]
 exact IntK.fz
def BadAtR (u:Int) (p:Pl) (i:Nat):Prop:=∃ h:i<p.length,BadT u p[i]∨(0<i∧ordL (p[i - 1]'(by omega)).2 p[i].2≤0)
theorem bad_same {u:Int} {p:Pl}:(∃ i,BadAtR u p i)↔BadP u p:=by
 constructor
 ·rintro ⟨i,hi,h | ⟨h1,h2⟩⟩
  ·exact ⟨i,hi,.inl h⟩
  ·by_cases e:(p[i - 1]'(by omega)).2.length=p[i].2.length
   ·rw [ordL,if_pos e] at h2
    exact ⟨i,hi,.inr ⟨h1,h2⟩⟩
   ·by_cases e1:((p[i]).2.length:Int)=u
    ·exact ⟨i - 1,by omega,.inl (.inl (by omega))⟩
    ·exact ⟨i,hi,.inl (.inl e1)⟩
 ·rintro ⟨i,hi,h | ⟨h1,h2⟩⟩
  ·exact ⟨i,hi,.inl h⟩
  ·by_cases e:(p[i - 1]'(by omega)).2.length=p[i].2.length
   ·exact ⟨i,hi,.inr ⟨h1,by rw [ordL,if_pos e]; exact h2⟩⟩
   ·exact ⟨i,hi,.inr ⟨h1,by rw [ordL,if_neg e]; decide⟩⟩
def nF (f:List Pl) (v:V):Prop:=v=i64 (valS f)
theorem nF.of {f:List Pl} {e:Int} {H:Hp} (h:valS f=e):∃ d,FzV H (i64 e) d∧nF f d:=⟨_,.c (.hf trivial),by unfold nF; rw [h]; rfl⟩
theorem ref19_Validate {c:C} {f:List Pl} (hc:Ls elM c f) (hf:f.length<wD):semC Tryz.prog n_ref19_Validate [.c c] (nF f):=by
 unfold wD at hf
 refine yD ok_ref19_Validate rfl (show HFVs [.c c] from ⟨hc.hf,trivial⟩) ?_
 refine go13 ?_
 cases h1:yA Cm.lss (f.length:Int) 1
 case true =>
  simp [yA] at h1
  refine go13 ?_
  exact nF.of (hU (.inl (by simp [h1])))
 simp [yA] at h1
 refine go13 ?_
 cases h2:yA Cm.gtr (f.length:Int) 3
 case true =>
  simp [yA] at h2
  refine go13 ?_
  exact nF.of (hU (.inr (by omega)))
 simp [yA] at h2
 have hcount:¬ ((f.length:Int)<1∨3<f.length):=by omega
 refine go13 ?_
 refine yR (fun w vs H => ∃ (i:Nat),vs=[.c c,.c c,i64 f.length,i64 i]∧w=f.length - i∧i≤f.length∧∀ p∈f.take i,¬ WideP true p) (by rfl) ⟨0,rfl,rfl,by omega,by simp⟩ ?_
 rintro w vs H ⟨i,rfl,rfl,i1,i2⟩
 refine go13 ?_
 cases hi:yA Cm.lss (i:Int) (f.length:Int)
 case false =>
  simp [yA] at hi
  rw [List.take_of_length_le (by omega)] at i2
  clear i1
  refine go13 ?_
  have hnw:¬ ∃ p∈f,WideP true p:=fun ⟨p,hp,h⟩ => i2 p hp h
  refine yR (fun w vs H => ∃ (i:Nat),vs=[.c c,.c c,i64 f.length,i64 i]∧w=f.length - i∧i≤f.length∧∀ p∈f.take i,∀ a,¬ BadAtR ((f.length:Int)+1) p a) (by rfl) ⟨0,rfl,rfl,by omega,by simp⟩ ?_
  clear hi i2
  rintro w vs H ⟨i,rfl,rfl,i1,i2⟩
  refine go13 ?_
  cases hi:yA Cm.lss (i:Int) (f.length:Int)
  case false =>
   simp [yA] at hi
   rw [List.take_of_length_le (by omega)] at i2
   refine go13 ?_
   exact nF.of (sys_ok hcount hnw (fun ⟨p,hp,h⟩ => by
    obtain ⟨a,ha⟩:=bad_same.2 h
    exact i2 p hp a ha))
  simp [yA] at hi
  have bad:∀ {j:Nat},BadAtR ((f.length:Int)+1) f[i] j→valS f=1:=fun h => sys_bad hcount hnw ⟨f[i],xZ hi,bad_same.1 ⟨_,h⟩⟩
  refine go13 ?_
  refine uA hc (i:=i) hi (by omega) rfl (fun cs hcs => ?_)
  obtain ⟨d,rfl,hd,hdl⟩:=hcs
  unfold wD at hdl
  refine go13 ?_
  refine goN ?_
  refine yR (fun w vs H' => ∃ (j:Nat) (S:Hp),vs=[.c c,.c (.ptr H.length 0),.c c,i64 f.length,i64 i,.c d,i64 f[i].length,i64 j]∧H'=H++.live ⟨[d],nG,.rw⟩ :: S∧w=f[i].length - j∧j≤f[i].length∧∀ a,a<j→¬ BadAtR ((f.length:Int)+1) f[i] a) (by rfl) ⟨0,[],rfl,rfl,rfl,by omega,fun a h => by omega⟩ ?_
  rintro w vs H' ⟨j,S,rfl,rfl,rfl,j1,j2⟩
  refine go13 ?_
  cases hj:yA Cm.lss (j:Int) (f[i].length:Int)
  case false =>
   simp [yA] at hj
   refine go13 ?_
   rw [yZ i (by omega)]
   refine l_n (by rfl) (n':=f.length - (i+1)) (by omega) ⟨i+1,rfl,rfl,by omega,fun p hp => ?_⟩
   rw [xU hi] at hp
   rcases List.mem_append.1 hp with hp | hp
   ·exact i2 p hp
   ·simp at hp
    subst hp
    intro a ha
    obtain ⟨hl,_⟩:=id ha
    exact j2 a (by omega) ha
  simp [yA] at hj
  refine go13 ?_
  refine uA hd (i:=j) hj (by omega) rfl (fun cs hcs => ?_)
  obtain ⟨e,rfl,he,hel⟩:=hcs
  refine go13 ?_
  rw [yZ f.length (by omega)]
  refine go13 ?_
  cases c1:yA Cm.neq (f[i][j].2.length:Int) ((f.length+1:Nat):Int)
  case true =>
   simp [yA] at c1
   refine go13 ?_
   repeat refine d_guardT (by rfl) (by rfl) (by rfl) ?_
   refine go13 ?_
   exact nF.of (bad ⟨hj,.inl (.inl (by omega))⟩)
  simp [yA] at c1
  refine go13 ?_
  refine yH (ref01_Is f[i][j].1.1 f[i][j].1.2) (fun u hu => ?_)
  obtain ⟨z1,rfl,hz1⟩:=hu
  cases z1
  case false =>
   refine go13 ?_
   repeat refine d_guardT (by rfl) (by rfl) (by rfl) ?_
   refine go13 ?_
   exact nF.of (bad ⟨hj,.inl (.inr (.inl fun h => by cases hz1.2 h))⟩)
  have hz1:=hz1.1 rfl
  refine go13 ?_
  cases c2:yA Cm.eql f[i][j].1.1 0
  case true =>
   simp [yA] at c2
   refine go13 ?_
   repeat refine d_guardT (by rfl) (by rfl) (by rfl) ?_
   refine go13 ?_
   exact nF.of (bad ⟨hj,.inl (.inr (.inr (.inl c2)))⟩)
  simp [yA] at c2
  refine go13 ?_
  refine yH (ref19_isBelow he hel) (fun u hu => ?_)
  obtain ⟨z2,rfl,hz2⟩:=hu
  cases z2
  case true =>
   refine go13 ?_
   repeat refine d_guardT (by rfl) (by rfl) (by rfl) ?_
   refine go13 ?_
   exact nF.of (bad ⟨hj,.inl (.inr (.inr (.inr (hz2.1 rfl))))⟩)
  have hgood:¬ BadT ((f.length:Int)+1) f[i][j]:=by
   rintro (h | h | h | h)
   ·exact h (by omega)
   ·exact h hz1
   ·exact c2 h
   ·cases hz2.2 h
  refine go13 ?_
  cases c3:yA Cm.gtr (j:Int) 0
  case false =>
   simp [yA] at c3
   refine go13 ?_
   rw [yZ j (by omega)]
   refine l_n (by rfl) (n':=f[i].length - (j+1)) (by omega) ⟨j+1,_,rfl,by rw [List.append_assoc]; rfl,rfl,by omega,fun a ha => ?_⟩
   rcases Nat.lt_or_ge a j with h | h
   ·exact j2 a h
   ·have:a=j:=by omega
    subst this
    rintro ⟨_,h | ⟨h,_⟩⟩
    ·exact hgood h
    ·omega
  simp [yA] at c3
  refine go13 ?_
  rw [jK j (by omega) (by omega)]
  refine go13 ?_
  refine ld_tx hd (i:=j - 1) (by omega) (by omega) (fun g hg hgl => ?_)
  refine go13 ?_
  refine yH (ref19_order hg he hgl hel) (fun u hu => ?_)
  obtain rfl:=hu
  refine go13 ?_
  cases c4:yA Cm.leq (ordL f[i][j - 1].2 f[i][j].2) 0
  case true =>
   simp [yA] at c4
   refine go13 ?_
   exact nF.of (bad ⟨hj,.inr ⟨by omega,c4⟩⟩)
  simp [yA] at c4
  refine go13 ?_
  rw [yZ j (by omega)]
  refine l_n (by rfl) (n':=f[i].length - (j+1)) (by omega) ⟨j+1,_,rfl,by rw [List.append_assoc]; rfl,rfl,by omega,fun a ha => ?_⟩
  rcases Nat.lt_or_ge a j with h | h
  ·exact j2 a h
  ·have:a=j:=by omega
   subst this
   rintro ⟨_,h | ⟨_,h⟩⟩
   ·exact hgood h
   ·omega
 simp [yA] at hi
 refine go13 ?_
 refine uA hc (i:=i) hi (by omega) rfl (fun cs hcs => ?_)
 obtain ⟨d,rfl,hd,hdl⟩:=hcs
 unfold wD at hdl
 refine go13 ?_
 cases h3:yA Cm.gtr (f[i].length:Int) 60
 case true =>
  simp [yA] at h3
  refine go13 ?_
  exact nF.of (bU hcount ⟨f[i],xZ hi,.inl (by omega)⟩)
 simp [yA] at h3
 refine go13 ?_
 refine yR (fun w vs H => ∃ (j:Nat),vs=[.c c,.c c,i64 f.length,i64 i,.c d,i64 f[i].length,i64 j]∧w=f[i].length - j∧j≤f[i].length∧∀ t∈f[i].take j,¬ WideT true t) (by rfl) ⟨0,rfl,rfl,by omega,by simp⟩ ?_
 rintro w vs H ⟨j,rfl,rfl,j1,j2⟩
 refine go13 ?_
 cases hj:yA Cm.lss (j:Int) (f[i].length:Int)
 case false =>
  simp [yA] at hj
  rw [List.take_of_length_le (by omega)] at j2
  refine go13 ?_
  rw [yZ i (by omega)]
  refine l_n (by rfl) (n':=f.length - (i+1)) (by omega) ⟨i+1,rfl,rfl,by omega,fun p hp => ?_⟩
  rw [xU hi] at hp
  rcases List.mem_append.1 hp with hp | hp
  ·exact i2 p hp
  ·simp at hp
   subst hp
   rintro (h | ⟨t,ht,h⟩)
   ·omega
   ·exact j2 t ht h
 simp [yA] at hj
 refine go13 ?_
 refine uA hd (i:=j) hj (by omega) rfl (fun cs hcs => ?_)
 obtain ⟨e,rfl,he,hel⟩:=hcs
 refine go13 ?_
 refine yB (ref19_sums he hel) (fun u hu => ?_)
 obtain rfl:=hu
 refine go13 ?_
 cases h4:yA Cm.gtr (capS (sumP f[i][j].2)) 12
 case true =>
  simp only [yA] at h4
  have h4:=yF.1 h4
  refine go13 ?_
  exact nF.of (bU hcount ⟨f[i],xZ hi,.inr ⟨f[i][j],xZ hj,.inl ((capS_gt (by decide)).1 h4)⟩⟩)
 simp only [yA] at h4
 have h4:=yG.1 h4
 refine go13 ?_
 cases h5:yA Cm.gtr (capS (sumP (f[i][j].2.take (f[i][j].2.length - 1)))) 3
 case true =>
  simp only [yA] at h5
  have h5:=yF.1 h5
  refine go13 ?_
  exact nF.of (bU hcount ⟨f[i],xZ hi,.inr ⟨f[i][j],xZ hj,.inr ⟨rfl,(capS_gt (by decide)).1 h5⟩⟩⟩)
 simp only [yA] at h5
 have h5:=yG.1 h5
 refine go13 ?_
 rw [yZ j (by omega)]
 refine l_n (by rfl) (n':=f[i].length - (j+1)) (by omega) ⟨j+1,rfl,rfl,by omega,fun t ht => ?_⟩
 rw [xU hj] at ht
 rcases List.mem_append.1 ht with ht | ht
 ·exact j2 t ht
 ·simp at ht
  subst ht
  rintro (h | ⟨_,h⟩)
  ·exact h4 ((capS_gt (by decide)).2 h)
  ·exact h5 ((capS_gt (by decide)).2 h)
end Go.Proofs.YtokckcnfojjpjaaGreat

namespace Go.Proofs.YtokckcnfojjpjaaGreat
open Go.RowKit
set_option maxRecDepth 20000
noncomputable def sV (m:Int) (f:List Pl) (t:R2) (x:List R2) (h:R2) (g n:Int):Int :=
 bif dec (valS f=0) then bif dec (wE t.1 t.2∧tT x∧wE h.1 h.2) then bif dec (m<0∨6<m∨h.1≤0∨g<0∨1000000<g∨n<0∨60<n) then 1 else
  bif dec (x.length=f.length) then 0 else 8 else 1 else valS f
section
variable {m:Int} {f:List Pl} {t:R2} {x:List R2} {h:R2} {g n:Int}
theorem args_sys (h1:valS f≠0):sV m f t x h g n=valS f:=by
 unfold sV
 rw [yG.2 h1]
 rfl
theorem args_rat (h1:valS f=0) (h2:¬ (wE t.1 t.2∧tT x∧wE h.1 h.2)):sV m f t x h g n=1:=by
 unfold sV
 rw [yF.2 h1,yG.2 h2]
 rfl
theorem jS (h1:valS f=0) (h3:m<0∨6<m∨h.1≤0∨g<0∨1000000<g∨n<0∨60<n):sV m f t x h g n=1:=by
 unfold sV
 rw [yF.2 h1,yF.2 h3]
 cases dec (wE t.1 t.2∧tT x∧wE h.1 h.2) <;> rfl
theorem args_fit (h1:valS f=0) (h2:wE t.1 t.2∧tT x∧wE h.1 h.2) (h3:¬ (m<0∨6<m∨h.1≤0∨g<0∨1000000<g∨n<0∨60<n)) (h4:x.length≠f.length):sV m f t x h g n=8:=by
 unfold sV
 rw [yF.2 h1,yF.2 h2,yG.2 h3,yG.2 h4]
 rfl
theorem args_ok (h1:valS f=0) (h2:wE t.1 t.2∧tT x∧wE h.1 h.2) (h3:¬ (m<0∨6<m∨h.1≤0∨g<0∨1000000<g∨n<0∨60<n)) (h4:x.length=f.length):sV m f t x h g n=0:=by
 unfold sV
 rw [yF.2 h1,yF.2 h2,yG.2 h3,yF.2 h4]
 rfl
theorem known_args:tS m f t x h g n=bif dec (sV m f t x h g n=0∧(m=4∨m=5)∧¬ AffS f) then 6 else sV m f t x h g n:=by
 by_cases h1:valS f=0
 ·by_cases h2:wE t.1 t.2∧tT x∧wE h.1 h.2
  ·by_cases h3:m<0∨6<m∨h.1≤0∨g<0∨1000000<g∨n<0∨60<n
   ·rw [jF h1 h3,jS h1 h3,yG.2 (fun hh => absurd hh.1 (by decide))]
    rfl
   ·by_cases h4:x.length=f.length
    ·by_cases h5:(m=4∨m=5)∧¬ AffS f
     ·rw [known_aff h1 h2 h3 h4 h5,args_ok h1 h2 h3 h4,yF.2 ⟨rfl,h5⟩]
      rfl
     ·rw [(nA h1 h2 h3 h4 h5).1,args_ok h1 h2 h3 h4,yG.2 (fun hh => h5 hh.2)]
      rfl
    ·rw [known_fit h1 h2 h3 h4,args_fit h1 h2 h3 h4,yG.2 (fun hh => absurd hh.1 (by decide))]
     rfl
  ·rw [mG h1 h2,args_rat h1 h2,yG.2 (fun hh => absurd hh.1 (by decide))]
   rfl
 ·rw [known_sys h1,args_sys h1,yG.2 (fun hh => h1 hh.1)]
  rfl
def gW (m:Int) (f:List Pl) (t:R2) (x:List R2) (h:R2) (g n:Int) (u:V):Prop:=u=i64 (sV m f t x h g n)
theorem gW.of {e:Int} {H:Hp} (he:sV m f t x h g n=e):∃ d,FzV H (i64 e) d∧gW m f t x h g n d:=⟨_,.c (.hf trivial),by unfold gW; rw [he]; rfl⟩
end
attribute [local irreducible] yA semH semC qLen qNil qIad qSlc qIdx yW yN xB appX appI slcX awpF yQ xH xopF xN qval lval seqQ xI xY xW xT cnd arith IntKind.wrap
theorem jM {c:C} {f:List Pl} (hc:Ls elM c f) (hf:f.length<wD):semC Tryz.prog n_ref19_isAffine [.c c] (uC (AffS f)):=by
 unfold wD at hf
 refine yD ok_ref19_isAffine rfl (show HFVs [.c c] from ⟨hc.hf,trivial⟩) ?_
 refine go13 ?_
 refine yR (fun w vs H => ∃ (i:Nat),vs=[.c c,i64 f.length,i64 i]∧w=f.length - i∧i≤f.length∧∀ p∈f.take i,∀ t∈p,sumP (t.2.take (t.2.length - 1))≤1) (by rfl) ⟨0,rfl,rfl,by omega,by simp⟩ ?_
 rintro w vs H ⟨i,rfl,rfl,i1,i2⟩
 refine go13 ?_
 cases hi:yA Cm.lss (i:Int) (f.length:Int)
 case false =>
  simp [yA] at hi
  rw [List.take_of_length_le (by omega)] at i2
  refine go13 ?_
  exact ⟨_,.c (.hf trivial),true,rfl,⟨fun _ => i2,fun _ => rfl⟩⟩
 simp [yA] at hi
 refine go13 ?_
 refine uA hc (i:=i) hi (by omega) rfl (fun cs hcs => ?_)
 obtain ⟨d,rfl,hd,hdl⟩:=hcs
 unfold wD at hdl
 refine go13 ?_
 refine yR (fun w vs H => ∃ (j:Nat),vs=[.c c,i64 f.length,i64 i,.c d,i64 f[i].length,i64 j]∧w=f[i].length - j∧j≤f[i].length∧∀ t∈f[i].take j,sumP (t.2.take (t.2.length - 1))≤1) (by rfl) ⟨0,rfl,rfl,by omega,by simp⟩ ?_
 rintro w vs H ⟨j,rfl,rfl,j1,j2⟩
 refine go13 ?_
 cases hj:yA Cm.lss (j:Int) (f[i].length:Int)
 case false =>
  simp [yA] at hj
  rw [List.take_of_length_le (by omega)] at j2
  refine go13 ?_
  rw [yZ i (by omega)]
  refine l_n (by rfl) (n':=f.length - (i+1)) (by omega) ⟨i+1,rfl,rfl,by omega,fun p hp => ?_⟩
  rw [xU hi] at hp
  rcases List.mem_append.1 hp with hp | hp
  ·exact i2 p hp
  ·simp at hp
   subst hp
   exact j2
 simp [yA] at hj
 refine go13 ?_
 refine uA hd (i:=j) hj (by omega) rfl (fun cs hcs => ?_)
 obtain ⟨e,rfl,he,hel⟩:=hcs
 refine go13 ?_
 refine yB (ref19_sums he hel) (fun u hu => ?_)
 obtain rfl:=hu
 refine go13 ?_
 cases h5:yA Cm.gtr (capS (sumP (f[i][j].2.take (f[i][j].2.length - 1)))) 1
 case true =>
  simp only [yA] at h5
  have h5:=(capS_gt (by decide)).1 (yF.1 h5)
  refine go13 ?_
  exact ⟨_,.c (.hf trivial),false,rfl,⟨fun h => (by cases h),fun h => absurd (h f[i] (xZ hi) f[i][j] (xZ hj)) (by omega)⟩⟩
 simp only [yA] at h5
 have h5:=yG.1 h5
 refine go13 ?_
 rw [yZ j (by omega)]
 refine l_n (by rfl) (n':=f[i].length - (j+1)) (by omega) ⟨j+1,rfl,rfl,by omega,fun t ht => ?_⟩
 rw [xU hj] at ht
 rcases List.mem_append.1 ht with ht | ht
 ·exact j2 t ht
 ·simp at ht
  subst ht
  exact Int.not_lt.1 (fun h => h5 ((capS_gt (by decide)).2 h))
theorem ref19_args {cf cx:C} {f:List Pl} {x:List R2} (m:Int) (t h:R2) (g n:Int) (hc:Ls elM cf f) (hf:f.length<wD) (hx:Ls elP cx x) (hxl:x.length<wD):semC Tryz.prog n_ref19_args [i64 m,.c cf,.agg (ratC t),.c cx,.agg (ratC h),i64 g,i64 n] (gW m f t x h g n):=by
 refine yD ok_ref19_args rfl (show HFVs [i64 m,.c cf,.agg (ratC t),.c cx,.agg (ratC h),i64 g,i64 n] from ⟨trivial,hc.hf,tN _,hx.hf,tN _,trivial,trivial,trivial⟩) ?_
 refine go13 ?_
 refine yB (ref19_Validate hc hf) (fun u hu => ?_)
 obtain rfl:=hu
 refine go13 ?_
 rw [sT]
 cases h1:dec (valS f≠0)
 case true =>
  have h1:=yF.1 h1
  refine go13 ?_
  exact gW.of (args_sys h1)
 have hv:valS f=0:=Classical.byContradiction (yG.1 h1)
 obtain ⟨hsys,hf1⟩:=jJ hv
 have hsl:=hsys.len
 refine go13 ?_
 refine yB (ref01_Is t.1 t.2) (fun u hu => ?_)
 obtain ⟨z1,rfl,k1⟩:=hu
 cases z1
 case false =>
  refine go13 ?_
  exact gW.of (args_rat hv (fun h => by cases k1.2 h.1))
 refine go13 ?_
 refine yB (ref01_AreW hx hxl) (fun u hu => ?_)
 obtain ⟨z2,rfl,k2⟩:=hu
 cases z2
 case false =>
  refine go13 ?_
  exact gW.of (args_rat hv (fun h => by cases k2.2 h.2.1))
 refine go13 ?_
 refine yB (ref01_Is h.1 h.2) (fun u hu => ?_)
 obtain ⟨z3,rfl,k3⟩:=hu
 cases z3
 case false =>
  refine go13 ?_
  exact gW.of (args_rat hv (fun h => by cases k3.2 h.2.2))
 have hr:wE t.1 t.2∧tT x∧wE h.1 h.2:=⟨k1.1 rfl,k2.1 rfl,k3.1 rfl⟩
 refine go13 ?_
 cases c1:yA Cm.lss m 0
 case true =>
  simp [yA] at c1
  refine go13 ?_
  exact gW.of (jS hv (by omega))
 simp [yA] at c1
 refine go13 ?_
 cases c2:yA Cm.gtr m 6
 case true =>
  simp [yA] at c2
  refine go13 ?_
  exact gW.of (jS hv (by omega))
 simp [yA] at c2
 refine go13 ?_
 cases c3:yA Cm.leq h.1 0
 case true =>
  simp [yA] at c3
  refine go13 ?_
  exact gW.of (jS hv (by omega))
 simp [yA] at c3
 refine go13 ?_
 cases c4:yA Cm.lss g 0
 case true =>
  simp [yA] at c4
  refine go13 ?_
  exact gW.of (jS hv (by omega))
 simp [yA] at c4
 refine go13 ?_
 cases c5:yA Cm.gtr g 1000000
 case true =>
  simp [yA] at c5
  refine go13 ?_
  exact gW.of (jS hv (by omega))
 simp [yA] at c5
 refine go13 ?_
 cases c6:yA Cm.lss n 0
 case true =>
  simp [yA] at c6
  refine go13 ?_
  exact gW.of (jS hv (by omega))
 simp [yA] at c6
 refine go13 ?_
 cases c7:yA Cm.gtr n 60
 case true =>
  simp [yA] at c7
  refine go13 ?_
  exact gW.of (jS hv (by omega))
 simp [yA] at c7
 refine go13 ?_
 have hno:¬ (m<0∨6<m∨h.1≤0∨g<0∨1000000<g∨n<0∨60<n):=by omega
 cases c8:yA Cm.neq (x.length:Int) (f.length:Int)
 case true =>
  simp [yA] at c8
  refine go13 ?_
  exact gW.of (args_fit hv hr hno (by omega))
 simp [yA] at c8
 refine go13 ?_
 exact gW.of (args_ok hv hr hno (by omega))
end Go.Proofs.YtokckcnfojjpjaaGreat

namespace Go.Proofs.YtokckcnfojjpjaaGreat
open Go.RowKit
set_option maxRecDepth 20000
theorem zeroRQ_is:IR 1 qC 0:=by
 have e:rp (0:Rat)=(0,1):=nV 0
 refine ⟨?_,?_⟩
 ·rw [e]
  exact IsRQ.mk (n:=[.nilSl,.bool false]) (d:=[.nilSl,.bool false]) rw_zero rw_zero
 ·rw [e]
  exact one_bd (k:=0) (n:=0) (by decide)
section
variable {α:Type} {E:El α}
end
attribute [local irreducible] yA semH semC qLen qNil qIad qSlc qIdx yW yN xB appX appI slcX awpF yQ xH xopF xN qval lval seqQ xI xY xW xT cnd arith IntKind.wrap
end Go.Proofs.YtokckcnfojjpjaaGreat

namespace Go.Proofs.YtokckcnfojjpjaaGreat
open Go.RowKit
set_option maxRecDepth 20000
theorem Fill.same {α:Type} {E:El α} {z:List C} {n:Nat} {cells:List C} {l:List α} (h:Fill E z n cells l) (hl:l.length<n):splice cells (l.length*E.s) z=cells:=by
 obtain ⟨⟨ds,h1,h2⟩,h3,h4⟩:=h
 have hd:=h2.len
 obtain ⟨r,hr⟩:∃ r,n - l.length=r+1:=⟨n - l.length - 1,by omega⟩
 rw [hr,List.replicate_succ,List.flatten_cons] at h1
 subst h1
 unfold splice
 rw [List.take_left' hd,←hd,List.drop_append,show ds.length+z.length - ds.length=z.length by omega,List.drop_of_length_le (show ds.length≤ds.length+z.length by omega),List.drop_left,List.nil_append,List.append_assoc]
attribute [local irreducible] yA semH semC qLen qNil qIad qSlc qIdx yW yN xB appX appI slcX awpF yQ xH xopF xN qval lval seqQ xI xY xW xT cnd arith IntKind.wrap
theorem ref19_moved {cx ck:C} {cc:List C} {x k:List Rat} {c:Rat} {n:Nat} (hx:Ls (elR 4194304) cx x) (hc:IR 4194304 cc c) (hk:Ls (elR 4194304) ck k) (hl:k.length=x.length) (hlen:x.length<1048576) (hb:CpL n (yM x c k)) (hn:n+n<134217728):semC Tryz.prog n_ref19_moved [.c cx,.agg cc,.c ck] (LsK (elR 4194304) (yM x c k)):=by
 refine yD ok_ref19_moved rfl (show HFVs [.c cx,.agg cc,.c ck] from ⟨hx.hf,hc.hf,hk.hf,trivial⟩) ?_
 obtain ⟨a0,a1,a2,a3,rfl⟩:=id hc.four
 refine go13 ?_
 refine vG (by rfl) (by rfl) ⟨by omega,by omega,by omega,by omega⟩ ?_
 refine go13 ?_
 refine goN ?_
 have hal:=yX (c:=c) hl
 refine yR (fun w vs H => ∃ (i:Nat) (cells:List C),vs=[.c cx,.c ck,.c (.ptr 0 0),.c (.sl 1 0 x.length (some x.length) 4),i64 x.length,i64 i]∧H=[.live ⟨[a0,.bool a1,a2,.bool a3],yC,.rw⟩,.live ⟨cells,yC,.rw⟩]∧w=x.length - i∧i≤x.length∧Fill (elR 4194304) qC x.length cells ((yM x c k).take i)) (by rfl) ⟨0,_,rfl,rfl,rfl,by omega,.zero rfl⟩ ?_
 rintro w vs H ⟨i,cells,rfl,rfl,rfl,i1,i2⟩
 have hcl:cells.length=x.length*4:=i2.len
 have htl:((yM x c k).take i).length=i:=by rw [List.length_take]; omega
 refine go13 ?_
 cases hi:yA Cm.lss (i:Int) (x.length:Int)
 case false =>
  simp [yA] at hi
  have ei:i=x.length:=by omega
  subst ei
  rw [vE (by omega)] at i2
  have h4:=i2.done (by omega)
  have h5:=Ls.imm h4
  rw [hal] at h5
  refine go13 ?_
  exact ⟨_,.c (fz_sl (bx:=⟨cells,yC,.rw⟩) (ds:=cells) (by rfl) (by simp) (by simp) (by rw [List.drop_zero,List.take_of_length_le (by simp only; omega)]) h4.hf),_,rfl,h5⟩
 simp [yA] at hi
 refine go13 ?_
 refine uA hx (i:=i) hi (by omega) rfl (fun cs hcs => ?_)
 refine go13 ?_
 refine uA hk (i:=i) (by omega) (by omega) rfl (fun ds hds => ?_)
 refine go13 ?_
 refine yB (qH hc hds (by decide)) (fun u hu => ?_)
 obtain ⟨es,rfl,g1⟩:=hu
 refine go13 ?_
 refine yB (tE hcs g1 (by decide)) (fun u hu => ?_)
 obtain ⟨gs,rfl,g2⟩:=hu
 rw [←along_get hl hi] at g2
 have g2:=g2.tightS (hb.bd (k:=4194304) (by omega) (List.getElem_mem (by omega)))
 obtain ⟨_,_,_,_,rfl⟩:=id g2.four
 refine go13 ?_
 rw [yZ i (by omega)]
 have h4:=i2.put (cs:=_) (a:=_) (by rw [htl]; exact hi) g2
 rw [htl] at h4
 refine l_n (by rfl) (n':=x.length - (i+1)) (by omega) ⟨i+1,_,rfl,by rw [Nat.zero_add,Int.toNat_natCast]; rfl,rfl,by omega,?_⟩
 rw [xU (show i<(yM x c k).length by omega)]
 exact h4
theorem ref19_field {cf cx:C} {ct:List C} {f:List Pl} {x:List Rat} {tt:Rat} {n:Nat} (hc:Ls elM cf f) (hf:nH (x.length+1) f) (hx:Ls (elR 4194304) cx x) (ht0:IR 4194304 ct tt) (hb:CpL n (x++[tt])) (hn:2446+24*n<134217728):semC Tryz.prog n_ref19_field [.c cf,.c cx,.agg ct] (LsK (elR 4194304) (yU f x tt)):=by
 refine yD ok_ref19_field rfl (show HFVs [.c cf,.c cx,.agg ct] from ⟨hc.hf,hx.hf,ht0.hf,trivial⟩) ?_
 obtain ⟨t0,t1,t2,t3,rfl⟩:=id ht0.four
 unfold yU
 generalize hxs:x++[tt]=xs at hb ⊢
 have hxl0:xs.length=x.length+1:=by rw [←hxs]; simp
 rw [←hxl0] at hf
 have hlen:=hf.len
 refine go13 ?_
 refine vG (by rfl) (by rfl) ⟨by omega,by omega,by omega,by omega⟩ ?_
 refine go13 ?_
 refine goN ?_
 refine yR (fun w vs H => ∃ (i:Nat) (cells:List C) (R:Hp),vs=[.c cx,.c (.ptr 0 0),.c (.sl 1 0 f.length (some f.length) 4),.c cf,i64 f.length,i64 i]∧H=.live ⟨[t0,.bool t1,t2,.bool t3],yC,.rw⟩ :: .live ⟨cells,yC,.rw⟩ :: R∧w=f.length - i∧i≤f.length∧Fill (elR 4194304) qC f.length cells ((qP f xs).take i)) (by rfl) ⟨0,_,[],rfl,rfl,rfl,by omega,.zero rfl⟩ ?_
 rintro w vs H ⟨i,cells,R,rfl,rfl,rfl,i1,i2⟩
 have hcl:cells.length=f.length*4:=i2.len
 have hfl:(qP f xs).length=f.length:=by simp [qP]
 have htl:((qP f xs).take i).length=i:=by rw [List.length_take]; omega
 refine go13 ?_
 cases hi:yA Cm.lss (i:Int) (f.length:Int)
 case false =>
  simp [yA] at hi
  have ei:i=f.length:=by omega
  subst ei
  rw [vE (by omega)] at i2
  have h4:=i2.done (by omega)
  have h5:=Ls.imm h4
  rw [hfl] at h5
  refine go13 ?_
  exact ⟨_,.c (fz_sl (bx:=⟨cells,yC,.rw⟩) (ds:=cells) (by rfl) (by simp) (by simp) (by rw [List.drop_zero,List.take_of_length_le (by simp only; omega)]) h4.hf),_,rfl,h5⟩
 simp [yA] at hi
 refine go13 ?_
 refine uA hc (i:=i) hi (by omega) rfl (fun cs hcs => ?_)
 obtain ⟨d,rfl,hd,hdl⟩:=hcs
 unfold wD at hdl
 have hp:=hf.poly f[i] (xZ hi)
 have hpl:=hp.len
 refine go13 ?_
 have hsame:=i2.same (by rw [htl]; exact hi)
 rw [htl] at hsame
 have hsame:splice cells (i*4) qC=cells:=hsame
 refine yR (fun w vs H => ∃ (j:Nat) (acc:List C) (R:Hp),vs=[.c cx,.c (.ptr 0 0),.c (.sl 1 0 f.length (some f.length) 4),i64 i,.c cf,i64 f.length,i64 i,.c d,i64 f[i].length,i64 j]∧H=.live ⟨[t0,.bool t1,t2,.bool t3],yC,.rw⟩ :: .live ⟨splice cells (i*4) acc,yC,.rw⟩ :: R∧w=f[i].length - j∧j≤f[i].length∧IR 4194304 acc (polV xs (f[i].take j))) (by rfl) ⟨0,qC,_,rfl,by rw [hsame]; rfl,rfl,by omega,by rw [List.take_zero]; exact zeroRQ_is.up (by decide)⟩ ?_
 rintro w vs H ⟨j,acc,R,rfl,rfl,rfl,j1,j2⟩
 obtain ⟨a0,a1,a2,a3,rfl⟩:=id j2.four
 refine go13 ?_
 cases hj:yA Cm.lss (j:Int) (f[i].length:Int)
 case false =>
  simp [yA] at hj
  rw [vE (by omega)] at j2
  refine go13 ?_
  rw [yZ i (by omega)]
  have h4:=i2.put (cs:=[a0,.bool a1,a2,.bool a3]) (a:=polV xs f[i]) (by rw [htl]; exact hi) j2
  rw [htl] at h4
  refine l_n (by rfl) (n':=f.length - (i+1)) (by omega) ⟨i+1,_,_,rfl,rfl,rfl,by omega,?_⟩
  rw [xU (show i<(qP f xs).length by omega),show (qP f xs)[i]'(by omega)=polV xs f[i] by simp [qP]]
  exact h4
 simp [yA] at hj
 refine go13 ?_
 refine uA hd (i:=j) hj (by omega) rfl (fun cs hcs => ?_)
 obtain ⟨e,rfl,he,hel⟩:=hcs
 unfold wD at hel
 have ht:=hp.term f[i][j] (xZ hj)
 have hxl:=ht.len
 refine go13 ?_
 refine yB (r_Of ht.rat) (fun u hu => ?_)
 obtain ⟨es,rfl,g1⟩:=hu
 obtain ⟨_,_,_,_,rfl⟩:=id g1.four
 refine go13 ?_
 refine yR (fun w vs H => ∃ (k:Nat) (ac:List C),vs=[.c cx,.c (.ptr 0 0),.c (.sl 1 0 f.length (some f.length) 4),i64 i,.c (.ptr (((.live ⟨[t0,.bool t1,t2,.bool t3],yC,.rw⟩ :: .live ⟨splice cells (i*4) [a0,.bool a1,a2,.bool a3],yC,.rw⟩ :: R)++[.live ⟨[iC f[i][j].1.1,iC f[i][j].1.2,e],jC,.rw⟩]):Hp).length 0),.c cf,i64 f.length,i64 i,.c d,i64 f[i].length,i64 j,.c e,i64 f[i][j].2.length,i64 k]∧H=((.live ⟨[t0,.bool t1,t2,.bool t3],yC,.rw⟩ :: .live ⟨splice cells (i*4) [a0,.bool a1,a2,.bool a3],yC,.rw⟩ :: R)++[.live ⟨[iC f[i][j].1.1,iC f[i][j].1.2,e],jC,.rw⟩])++[.live ⟨ac,yC,.rw⟩]∧w=f[i][j].2.length - k∧k≤f[i][j].2.length∧IR 4194304 ac (rt f[i][j].1*monV (xs.take k) (f[i][j].2.take k))) (by rfl) ⟨0,_,rfl,rfl,rfl,by omega,by rw [List.take_zero,List.take_zero]; simp only [monV]; rw [Rat.mul_one]; exact g1.up (by decide)⟩ ?_
 clear g1
 rintro w vs H ⟨k,ac,rfl,rfl,rfl,k1,k2⟩
 obtain ⟨b0,b1,b2,b3,rfl⟩:=id k2.four
 refine go13 ?_
 cases hk:yA Cm.lss (k:Int) (f[i][j].2.length:Int)
 case false =>
  simp [yA] at hk
  rw [vE (by omega),vE (by omega)] at k2
  refine go13 ?_
  refine ld_splice (cells:=cells) (off:=i*4) (cs:=[a0,.bool a1,a2,.bool a3]) (by rfl) (by rfl) (by omega) (by omega) ?_
  refine go13 ?_
  refine yB (tE j2 k2 (by decide)) (fun u hu => ?_)
  obtain ⟨gs,rfl,g2⟩:=hu
  have hs:polV xs (f[i].take j)+rt f[i][j].1*monV xs f[i][j].2=polV xs (f[i].take (j+1)):=(polV_take hj).symm
  rw [hs] at g2
  have g2:=g2.tightS (pol_bd (j:=j+1) (K:=4194304) hp hb (by omega))
  obtain ⟨_,_,_,_,rfl⟩:=id g2.four
  refine go13 ?_
  refine yY (cs:=splice cells (i*4) [a0,.bool a1,a2,.bool a3]) (by rfl) (by rfl) (by rfl) (by rw [sW (by simp only [List.length_cons,List.length_nil]; omega)]; omega) ?_
  refine go13 ?_
  rw [yZ j (by omega)]
  refine l_n (by rfl) (n':=f[i].length - (j+1)) (by omega) ⟨j+1,_,_,rfl,by rw [Nat.zero_add,Int.toNat_natCast,mR (by omega) (by rfl)]; rfl,rfl,by omega,g2⟩
 simp [yA] at hk
 have hnn:=ht.nn _ (xZ hk)
 have hmt:=monV_take (xs:=xs) (X:=f[i][j].2) (k:=k) hxl.symm hk
 refine go13 ?_
 obtain ⟨m,hm⟩:=Int.eq_ofNat_of_zero_le hnn
 have hm2:f[i][j].2[k].toNat=m:=by omega
 have hle:m≤12:=by
  have h1:=ht.deg
  have h2:=sumP_mem (xZ hk) (X:=f[i][j].2)
  omega
 rw [hm2] at hmt
 cases hkx:yA Cm.lss (k:Int) (x.length:Int)
 case true =>
  simp [yA] at hkx
  have exk:xs[k]'(by omega)=x[k]:=by subst hxs; rw [List.getElem_append_left hkx]
  rw [exk] at hmt
  refine go13 ?_
  refine uA hx (i:=k) hkx (by omega) rfl (fun cs hcs => ?_)
  refine go13 ?_
  rw [hm]
  refine yH (r_PowS m hcs (by omega) (by omega)) (fun u hu => ?_)
  obtain ⟨gs,rfl,g2⟩:=hu
  refine go13 ?_
  refine yB (qH k2 g2 (by omega)) (fun u hu => ?_)
  obtain ⟨ms,rfl,g3⟩:=hu
  have hs:rt f[i][j].1*monV (xs.take k) (f[i][j].2.take k)*x[k] ^ m=rt f[i][j].1*monV (xs.take (k+1)) (f[i][j].2.take (k+1)):=by rw [hmt,Rat.mul_assoc]
  rw [hs] at g3
  have g3:=g3.tightS (term_bd (K:=4194304) ht hb (by omega))
  obtain ⟨_,_,_,_,rfl⟩:=id g3.four
  refine go13 ?_
  rw [yZ _ (by omega)]
  exact l_n (by rfl) (n':=f[i][j].2.length - (_+1)) (by omega) ⟨_+1,_,rfl,rfl,rfl,by omega,g3⟩
 simp [yA] at hkx
 obtain rfl:k=x.length:=by omega
 have exk:xs[x.length]'(by omega)=tt:=by subst hxs; simp
 rw [exk] at hmt
 refine go13 ?_
 rw [hm]
 refine yH (r_PowS m ht0 (by omega) (by omega)) (fun u hu => ?_)
 obtain ⟨gs,rfl,g2⟩:=hu
 refine go13 ?_
 refine yB (qH k2 g2 (by omega)) (fun u hu => ?_)
 obtain ⟨ms,rfl,g3⟩:=hu
 have hs:rt f[i][j].1*monV (xs.take x.length) (f[i][j].2.take x.length)*tt ^ m=rt f[i][j].1*monV (xs.take (x.length+1)) (f[i][j].2.take (x.length+1)):=by rw [hmt,Rat.mul_assoc]
 rw [hs] at g3
 have g3:=g3.tightS (term_bd (K:=4194304) ht hb (by omega))
 obtain ⟨_,_,_,_,rfl⟩:=id g3.four
 refine go13 ?_
 rw [yZ _ (by omega)]
 exact l_n (by rfl) (n':=f[i][j].2.length - (_+1)) (by omega) ⟨_+1,_,rfl,rfl,rfl,by omega,g3⟩
end Go.Proofs.YtokckcnfojjpjaaGreat

namespace Go.Proofs.YtokckcnfojjpjaaGreat
open Go.RowKit
set_option maxRecDepth 20000
def rowQ (bx:Nat→Nat) (co:Nat→Option Nat) (w i:Nat):C:=.sl (bx i) 0 w (co i) 6
def updQ (A:Mx) (i j:Nat) (a:Rat):Mx:=fun i' j' => if i'=i∧j'=j then a else A i' j'
structure Mt (K o:Nat) (bx:Nat→Nat) (co:Nat→Option Nat) (ds:Nat→List C) (L:Nat) (H:Hp) (m w:Nat) (M:Mx):Prop where
 T:H[o]?=some (.live ⟨(List.range m).map (rowQ bx co w),pI,.rw⟩)
 oL:o<L
 pos:∀ i,i<m→bx i≠o∧bx i<L
 row:∀ i,i<m→H[bx i]?=some (.live ⟨ds i,xK,.rw⟩)
 len:∀ i,i<m→(ds i).length=w*6
 at_:∀ i j,i<m→j<w→IQ K (((ds i).drop (j*6)).take 6) (M i j)
 inj:∀ i k,i<m→k<m→bx i=bx k→i=k
section
variable {K o:Nat} {bx:Nat→Nat} {co:Nat→Option Nat} {ds:Nat→List C} {L:Nat} {H:Hp} {m w:Nat} {M:Mx}
theorem Mt.congr {M':Mx} (h:Mt K o bx co ds L H m w M) (hv:∀ i j,i<m→j<w→M i j=M' i j):Mt K o bx co ds L H m w M' :=
 ⟨h.T,h.oL,h.pos,h.row,h.len,fun i j hi hj => by rw [←hv i j hi hj]; exact h.at_ i j hi hj,h.inj⟩
theorem Mt.grow {X:Hp} (h:Mt K o bx co ds L H m w M):Mt K o bx co ds L (H++X) m w M :=
 ⟨by rw [List.getElem?_append_left (lt_of_getElem? h.T)]; exact h.T,h.oL,h.pos,fun i hi => by rw [List.getElem?_append_left (lt_of_getElem? (h.row i hi))]; exact h.row i hi,h.len,h.at_,h.inj⟩
theorem Mt.other {p:Nat} {s:Slot} (h:Mt K o bx co ds L H m w M) (hp:L≤p):Mt K o bx co ds L (H.set p s) m w M :=
 ⟨by rw [List.getElem?_set_ne (by have:=h.oL; omega)]; exact h.T,h.oL,h.pos,fun i hi => by rw [List.getElem?_set_ne (by have:=h.pos i hi; omega)]; exact h.row i hi,h.len,h.at_,h.inj⟩
theorem splice_otherQ {cells cs:List C} {i j:Nat} (h:j*6+6≤cells.length) (hl:cs.length=6) (hij:i≠j):((splice cells (j*6) cs).drop (i*6)).take 6=(cells.drop (i*6)).take 6:=by
 unfold splice
 apply List.ext_getElem?
 intro n
 simp only [List.getElem?_take,List.getElem?_drop]
 split
 ·rename_i hn
  rcases Nat.lt_or_ge i j with h1 | h1
  ·rw [List.append_assoc,List.getElem?_append_left (by simp; omega),List.getElem?_take,if_pos (by omega)]
  ·rw [List.getElem?_append_right (by simp; omega),List.getElem?_drop]
   congr 1
   simp
   omega
 ·rfl
theorem Mt.put {i j:Nat} {a:Rat} {cs:List C} (h:Mt K o bx co ds L H m w M) (hi:i<m) (hj:j<w) (hc:IQ K cs a) :
  Mt K o bx co (fun i' => if i'=i then splice (ds i) (j*6) cs else ds i') L (H.set (bx i) (.live ⟨splice (ds i) (j*6) cs,xK,.rw⟩)) m w (updQ M i j a):=by
 have hlt:=lt_of_getElem? (h.row i hi)
 have hcl:cs.length=6:=(elQ K).len (show (elQ K).p cs a from hc)
 have hle:j*6+6≤(ds i).length:=by
  rw [h.len i hi]
  omega
 refine ⟨?_,h.oL,h.pos,fun i' hi' => ?_,fun i' hi' => ?_,fun i' j' hi' hj' => ?_,h.inj⟩
 ·rw [List.getElem?_set_ne (h.pos i hi).1]
  exact h.T
 ·by_cases e:i'=i
  ·subst e
   rw [List.getElem?_set_self hlt,if_pos rfl]
  ·rw [List.getElem?_set_ne (fun x => e (h.inj i' i hi' hi x.symm)),if_neg e]
   exact h.row i' hi'
 ·by_cases e:i'=i
  ·subst e
   rw [if_pos rfl,sW (by rw [hcl]; exact hle)]
   exact h.len i' hi'
  ·rw [if_neg e]
   exact h.len i' hi'
 ·unfold updQ
  by_cases e:i'=i
  ·subst e
   rw [if_pos rfl]
   by_cases e2:j'=j
   ·subst e2
    rw [if_pos ⟨rfl,rfl⟩,nB (by omega) hcl]
    exact hc
   ·rw [if_neg (fun x => e2 x.2),splice_otherQ hle hcl e2]
    exact h.at_ i' j' hi' hj'
  ·rw [if_neg e,if_neg (fun x => e x.1)]
   exact h.at_ i' j' hi' hj'
def sigQ (r k i:Nat):Nat:=if i=r then k else if i=k then r else i
theorem sigQ_lt {r k i m:Nat} (hr:r<m) (hk:k<m) (hi:i<m):sigQ r k i<m:=by
 unfold sigQ
 split
 ·exact hk
 ·split
  ·exact hr
  ·exact hi
theorem sigQ_inj {r k i l:Nat} (h:sigQ r k i=sigQ r k l):i=l:=by
 unfold sigQ at h
 split at h <;> split at h <;> (try split at h) <;> (try split at h) <;> omega
def bV {α:Type} (f:Nat→α) (r k:Nat):Nat→α:=fun i => if i=r then f k else if i=k then f r else f i
theorem swapQ_sig {α:Type} (f:Nat→α) (r k i:Nat):bV f r k i=f (sigQ r k i):=by
 unfold bV sigQ
 split
 ·rfl
 ·split <;> rfl
theorem Mt.swap {r k:Nat} (h:Mt K o bx co ds L H m w M) (hr:r<m) (hk:k<m) :
  Mt K o (bV bx r k) (bV co r k) (bV ds r k) L (H.set o (.live ⟨splice (splice ((List.range m).map (rowQ bx co w)) r [rowQ bx co w k]) k [rowQ bx co w r],pI,.rw⟩)) m w (qE M r k):=by
 have hlt:=lt_of_getElem? h.T
 have sw:∀ {α:Type} (f:Nat→α) (p:α→Prop) (i:Nat),i<m→(∀ i,i<m→p (f i))→p (bV f r k i):=by
  intro α f p i hi hp
  unfold bV
  split
  ·exact hp k hk
  ·split
   ·exact hp r hr
   ·exact hp i hi
 have hpos:∀ i,i<m→bV bx r k i≠o∧bV bx r k i<L:=fun i hi => sw bx (fun b => b≠o∧b<L) i hi h.pos
 refine ⟨?_,h.oL,hpos,fun i hi => ?_,fun i hi => sw ds (fun d => d.length=w*6) i hi h.len,fun i j hi hj => ?_,fun i l hi hl he => ?_⟩
 ·rw [List.getElem?_set_self hlt]
  congr 3
  have e1:∀ (cells:List C) (i:Nat) (c:C),i<cells.length→splice cells i [c]=cells.set i c:=by
   intro cells i c hi
   unfold splice
   rw [List.set_eq_take_append_cons_drop,if_pos hi]
   simp
  rw [e1 _ r _ (by simp; omega),e1 _ k _ (by simp; omega)]
  apply List.ext_getElem
  ·simp
  ·intro i h1 h2
   simp only [List.getElem_map,List.getElem_range,List.getElem_set]
   unfold rowQ bV
   by_cases e:k=i
   ·subst e
    by_cases e2:k=r
    ·subst e2
     simp
    ·simp [e2]
   ·by_cases e2:r=i
    ·subst e2
     simp [e]
    ·simp [e,e2,Ne.symm e,Ne.symm e2,show ¬ i=r from fun x => e2 x.symm,show ¬ i=k from fun x => e x.symm]
 ·rw [List.getElem?_set_ne (fun x => (hpos i hi).1 x.symm)]
  unfold bV
  split
  ·exact h.row k hk
  ·split
   ·exact h.row r hr
   ·exact h.row i hi
 ·unfold bV qE
  by_cases c1:i=r
  ·rw [if_pos c1,if_pos c1]
   exact h.at_ k j hk hj
  ·rw [if_neg c1,if_neg c1]
   by_cases c2:i=k
   ·rw [if_pos c2,if_pos c2]
    exact h.at_ r j hr hj
   ·rw [if_neg c2,if_neg c2]
    exact h.at_ i j hi hj
 ·rw [swapQ_sig,swapQ_sig] at he
  exact sigQ_inj (h.inj _ _ (sigQ_lt hr hk hi) (sigQ_lt hr hk hl) he)
theorem Mt.ldT {off i:Nat} {Q:V→Prop} (h:Mt K o bx co ds L H m w M) (hi:i<m) (ho:off=i) (k:Q (.c (rowQ bx co w i))):yW H[o]? false 1 off Q:=by
 subst ho
 refine xA h.T ?_ k
 simp [hi]
theorem Mt.ldE {off i j:Nat} {Q:V→Prop} (h:Mt K o bx co ds L H m w M) (hi:i<m) (hj:j<w) (ho:off=j*6) (k:∀ cs,IQ K cs (M i j)→Q (.agg cs)):yW H[bx i]? true 6 off Q:=by
 subst ho
 have hl:=h.len i hi
 refine yJ (h.row i hi) (Nat.ble_eq_true_of_le (by simp only; omega)) (k _ (h.at_ i j hi hj))
theorem Mt.st {off i j:Nat} {cs:List C} {a:Rat} {ds':Option (List C)} {Q:Nat→Slot→Prop} (h:Mt K o bx co ds L H m w M) (hi:i<m) (hj:j<w) (ho:off=j*6) (hd:ds'=some cs) (hc:IQ K cs a) (k:Q (bx i) (.live ⟨splice (ds i) (j*6) cs,xK,.rw⟩)):xB H[bx i]? (bx i) 6 off ds' Q:=by
 subst ho
 have hl:=h.len i hi
 have hcl:cs.length=6:=(elQ K).len (show (elQ K).p cs a from hc)
 exact yY (h.row i hi) hd (by rw [hcl]; rfl) (by omega) k
end
theorem piv_uniq {M:Mx} {n k p q:Nat} (h1:IsPiv M n k p) (h2:IsPiv M n k q):p=q:=by
 rcases Nat.lt_trichotomy p q with h | h | h
 ·exact absurd (h2.2.2.2 p h1.1 h) h1.2.2.1
 ·exact h
 ·exact absurd (h1.2.2.2 q h2.1 h) h2.2.2.1
theorem stage_some {M:Mx} {n k p:Nat} (h:IsPiv M n k p):stageV n k M=some (bE (qE M k p) k):=by
 unfold stageV
 rw [yF.2 ⟨p,h⟩]
 have:=Classical.epsilon_spec (p:=fun p => IsPiv M n k p) ⟨p,h⟩
 rw [piv_uniq this h]
 rfl
theorem stage_none {M:Mx} {n k:Nat} (h:∀ i,k≤i→i<n→M i k=0):stageV n k M=none:=by
 unfold stageV
 rw [yG.2 (fun ⟨p,h1,h2,h3,_⟩ => h3 (h p h1 h2))]
 rfl
theorem gauss_none {n:Nat} {M:Mx} {k l:Nat} (h:uN n M k=none) (hl:k≤l):uN n M l=none:=by
 induction l with
 | zero =>
  have:k=0:=by omega
  subst this
  exact h
 | succ l ih =>
  rcases Nat.lt_or_ge k (l+1) with h1 | h1
  ·simp only [uN,ih (by omega),Option.bind_none]
  ·have:k=l+1:=by omega
   subst this
   exact h
theorem nD {M:Mx} {k j:Nat}:bE M k k j=M k j:=by
 unfold bE
 rw [yF.2 (.inl rfl)]
 rfl
theorem elim_zero {M:Mx} {k i j:Nat} (h:M i k=0):bE M k i j=M i j:=by
 unfold bE
 rw [yF.2 (.inr (.inl h))]
 rfl
theorem elim_left {M:Mx} {k i j:Nat} (h:j<k):bE M k i j=M i j:=by
 unfold bE
 rw [yF.2 (.inr (.inr h))]
 rfl
theorem elim_else {M:Mx} {k i j:Nat} (h1:i≠k) (h2:M i k≠0) (h3:k≤j):bE M k i j=M i j - M i k / M k k*M k j:=by
 unfold bE
 rw [yG.2 (by rintro (h | h | h); exact h1 h; exact h2 h; omega)]
 rfl
def GB (K n:Nat) (M:Mx):Prop:=∀ k R,k≤n→uN n M k=some R→∀ i j,i<n→j≤n→Bd K (rp (R i j))
end Go.Proofs.YtokckcnfojjpjaaGreat

namespace Go.Proofs.YtokckcnfojjpjaaGreat
open Go.RowKit
set_option maxRecDepth 20000
def rowQR (bx:Nat→Nat) (co:Nat→Option Nat) (w i:Nat):C:=.sl (bx i) 0 w (co i) 4
def updQR (A:Mx) (i j:Nat) (a:Rat):Mx:=fun i' j' => if i'=i∧j'=j then a else A i' j'
structure MtR (K o:Nat) (bx:Nat→Nat) (co:Nat→Option Nat) (ds:Nat→List C) (L:Nat) (H:Hp) (m w:Nat) (M:Mx):Prop where
 T:H[o]?=some (.live ⟨(List.range m).map (rowQR bx co w),uD,.rw⟩)
 oL:o<L
 pos:∀ i,i<m→bx i≠o∧bx i<L
 row:∀ i,i<m→H[bx i]?=some (.live ⟨ds i,yC,.rw⟩)
 len:∀ i,i<m→(ds i).length=w*4
 at_:∀ i j,i<m→j<w→IR K (((ds i).drop (j*4)).take 4) (M i j)
 inj:∀ i k,i<m→k<m→bx i=bx k→i=k
section
variable {K o:Nat} {bx:Nat→Nat} {co:Nat→Option Nat} {ds:Nat→List C} {L:Nat} {H:Hp} {m w:Nat} {M:Mx}
theorem MtR.congr {M':Mx} (h:MtR K o bx co ds L H m w M) (hv:∀ i j,i<m→j<w→M i j=M' i j):MtR K o bx co ds L H m w M' :=
 ⟨h.T,h.oL,h.pos,h.row,h.len,fun i j hi hj => by rw [←hv i j hi hj]; exact h.at_ i j hi hj,h.inj⟩
theorem MtR.grow {X:Hp} (h:MtR K o bx co ds L H m w M):MtR K o bx co ds L (H++X) m w M :=
 ⟨by rw [List.getElem?_append_left (lt_of_getElem? h.T)]; exact h.T,h.oL,h.pos,fun i hi => by rw [List.getElem?_append_left (lt_of_getElem? (h.row i hi))]; exact h.row i hi,h.len,h.at_,h.inj⟩
theorem MtR.other {p:Nat} {s:Slot} (h:MtR K o bx co ds L H m w M) (hp:L≤p):MtR K o bx co ds L (H.set p s) m w M :=
 ⟨by rw [List.getElem?_set_ne (by have:=h.oL; omega)]; exact h.T,h.oL,h.pos,fun i hi => by rw [List.getElem?_set_ne (by have:=h.pos i hi; omega)]; exact h.row i hi,h.len,h.at_,h.inj⟩
theorem splice_otherQR {cells cs:List C} {i j:Nat} (h:j*4+4≤cells.length) (hl:cs.length=4) (hij:i≠j):((splice cells (j*4) cs).drop (i*4)).take 4=(cells.drop (i*4)).take 4:=by
 unfold splice
 apply List.ext_getElem?
 intro n
 simp only [List.getElem?_take,List.getElem?_drop]
 split
 ·rename_i hn
  rcases Nat.lt_or_ge i j with h1 | h1
  ·rw [List.append_assoc,List.getElem?_append_left (by simp; omega),List.getElem?_take,if_pos (by omega)]
  ·rw [List.getElem?_append_right (by simp; omega),List.getElem?_drop]
   congr 1
   simp
   omega
 ·rfl
theorem MtR.put {i j:Nat} {a:Rat} {cs:List C} (h:MtR K o bx co ds L H m w M) (hi:i<m) (hj:j<w) (hc:IR K cs a) :
  MtR K o bx co (fun i' => if i'=i then splice (ds i) (j*4) cs else ds i') L (H.set (bx i) (.live ⟨splice (ds i) (j*4) cs,yC,.rw⟩)) m w (updQR M i j a):=by
 have hlt:=lt_of_getElem? (h.row i hi)
 have hcl:cs.length=4:=(elR K).len (show (elR K).p cs a from hc)
 have hle:j*4+4≤(ds i).length:=by
  rw [h.len i hi]
  omega
 refine ⟨?_,h.oL,h.pos,fun i' hi' => ?_,fun i' hi' => ?_,fun i' j' hi' hj' => ?_,h.inj⟩
 ·rw [List.getElem?_set_ne (h.pos i hi).1]
  exact h.T
 ·by_cases e:i'=i
  ·subst e
   rw [List.getElem?_set_self hlt,if_pos rfl]
  ·rw [List.getElem?_set_ne (fun x => e (h.inj i' i hi' hi x.symm)),if_neg e]
   exact h.row i' hi'
 ·by_cases e:i'=i
  ·subst e
   rw [if_pos rfl,sW (by rw [hcl]; exact hle)]
   exact h.len i' hi'
  ·rw [if_neg e]
   exact h.len i' hi'
 ·unfold updQR
  by_cases e:i'=i
  ·subst e
   rw [if_pos rfl]
   by_cases e2:j'=j
   ·subst e2
    rw [if_pos ⟨rfl,rfl⟩,nB (by omega) hcl]
    exact hc
   ·rw [if_neg (fun x => e2 x.2),splice_otherQR hle hcl e2]
    exact h.at_ i' j' hi' hj'
  ·rw [if_neg e,if_neg (fun x => e x.1)]
   exact h.at_ i' j' hi' hj'
def sigQR (r k i:Nat):Nat:=if i=r then k else if i=k then r else i
theorem sigQ_ltR {r k i m:Nat} (hr:r<m) (hk:k<m) (hi:i<m):sigQR r k i<m:=by
 unfold sigQR
 split
 ·exact hk
 ·split
  ·exact hr
  ·exact hi
theorem sigQ_injR {r k i l:Nat} (h:sigQR r k i=sigQR r k l):i=l:=by
 unfold sigQR at h
 split at h <;> split at h <;> (try split at h) <;> (try split at h) <;> omega
def pZ {α:Type} (f:Nat→α) (r k:Nat):Nat→α:=fun i => if i=r then f k else if i=k then f r else f i
theorem swapQ_sigR {α:Type} (f:Nat→α) (r k i:Nat):pZ f r k i=f (sigQR r k i):=by
 unfold pZ sigQR
 split
 ·rfl
 ·split <;> rfl
theorem MtR.swap {r k:Nat} (h:MtR K o bx co ds L H m w M) (hr:r<m) (hk:k<m) :
  MtR K o (pZ bx r k) (pZ co r k) (pZ ds r k) L (H.set o (.live ⟨splice (splice ((List.range m).map (rowQR bx co w)) r [rowQR bx co w k]) k [rowQR bx co w r],uD,.rw⟩)) m w (qE M r k):=by
 have hlt:=lt_of_getElem? h.T
 have sw:∀ {α:Type} (f:Nat→α) (p:α→Prop) (i:Nat),i<m→(∀ i,i<m→p (f i))→p (pZ f r k i):=by
  intro α f p i hi hp
  unfold pZ
  split
  ·exact hp k hk
  ·split
   ·exact hp r hr
   ·exact hp i hi
 have hpos:∀ i,i<m→pZ bx r k i≠o∧pZ bx r k i<L:=fun i hi => sw bx (fun b => b≠o∧b<L) i hi h.pos
 refine ⟨?_,h.oL,hpos,fun i hi => ?_,fun i hi => sw ds (fun d => d.length=w*4) i hi h.len,fun i j hi hj => ?_,fun i l hi hl he => ?_⟩
 ·rw [List.getElem?_set_self hlt]
  congr 3
  have e1:∀ (cells:List C) (i:Nat) (c:C),i<cells.length→splice cells i [c]=cells.set i c:=by
   intro cells i c hi
   unfold splice
   rw [List.set_eq_take_append_cons_drop,if_pos hi]
   simp
  rw [e1 _ r _ (by simp; omega),e1 _ k _ (by simp; omega)]
  apply List.ext_getElem
  ·simp
  ·intro i h1 h2
   simp only [List.getElem_map,List.getElem_range,List.getElem_set]
   unfold rowQR pZ
   by_cases e:k=i
   ·subst e
    by_cases e2:k=r
    ·subst e2
     simp
    ·simp [e2]
   ·by_cases e2:r=i
    ·subst e2
     simp [e]
    ·simp [e,e2,Ne.symm e,Ne.symm e2,show ¬ i=r from fun x => e2 x.symm,show ¬ i=k from fun x => e x.symm]
 ·rw [List.getElem?_set_ne (fun x => (hpos i hi).1 x.symm)]
  unfold pZ
  split
  ·exact h.row k hk
  ·split
   ·exact h.row r hr
   ·exact h.row i hi
 ·unfold pZ qE
  by_cases c1:i=r
  ·rw [if_pos c1,if_pos c1]
   exact h.at_ k j hk hj
  ·rw [if_neg c1,if_neg c1]
   by_cases c2:i=k
   ·rw [if_pos c2,if_pos c2]
    exact h.at_ r j hr hj
   ·rw [if_neg c2,if_neg c2]
    exact h.at_ i j hi hj
 ·rw [swapQ_sigR,swapQ_sigR] at he
  exact sigQ_injR (h.inj _ _ (sigQ_ltR hr hk hi) (sigQ_ltR hr hk hl) he)
theorem MtR.ldT {off i:Nat} {Q:V→Prop} (h:MtR K o bx co ds L H m w M) (hi:i<m) (ho:off=i) (k:Q (.c (rowQR bx co w i))):yW H[o]? false 1 off Q:=by
 subst ho
 refine xA h.T ?_ k
 simp [hi]
theorem MtR.ldE {off i j:Nat} {Q:V→Prop} (h:MtR K o bx co ds L H m w M) (hi:i<m) (hj:j<w) (ho:off=j*4) (k:∀ cs,IR K cs (M i j)→Q (.agg cs)):yW H[bx i]? true 4 off Q:=by
 subst ho
 have hl:=h.len i hi
 refine yJ (h.row i hi) (Nat.ble_eq_true_of_le (by simp only; omega)) (k _ (h.at_ i j hi hj))
theorem MtR.st {off i j:Nat} {cs:List C} {a:Rat} {ds':Option (List C)} {Q:Nat→Slot→Prop} (h:MtR K o bx co ds L H m w M) (hi:i<m) (hj:j<w) (ho:off=j*4) (hd:ds'=some cs) (hc:IR K cs a) (k:Q (bx i) (.live ⟨splice (ds i) (j*4) cs,yC,.rw⟩)):xB H[bx i]? (bx i) 4 off ds' Q:=by
 subst ho
 have hl:=h.len i hi
 have hcl:cs.length=4:=(elR K).len (show (elR K).p cs a from hc)
 exact yY (h.row i hi) hd (by rw [hcl]; rfl) (by omega) k
end
end Go.Proofs.YtokckcnfojjpjaaGreat

namespace Go.Proofs.YtokckcnfojjpjaaGreat
open Go.RowKit
set_option maxRecDepth 20000
def GaussR (K n:Nat) (M:Mx) (v:V) (H:Hp):Prop:=(jL n M=none∧v=.tup [.c .nilSl,.c (.bool false)])∨(∃ y b cells,jL n M=some y∧v=.tup [.c (.sl b 0 n (some n) 6),.c (.bool true)]∧H[b]?=some (.live ⟨cells,xK,.rw⟩)∧Els (elQ K) cells y)
theorem solve_none {n:Nat} {M:Mx} (h:uN n M n=none):jL n M=none:=by
 unfold jL
 rw [h]
 rfl
theorem solve_some {n:Nat} {M R:Mx} (h:uN n M n=some R):jL n M=some ((List.range n).map fun i => R i n / R i i):=by
 unfold jL
 rw [h]
 rfl
theorem stage_inv {M E:Mx} {n k:Nat} (h:stageV n k M=some E):∃ p,IsPiv M n k p∧E=bE (qE M k p) k:=by
 by_cases hp:∃ p,IsPiv M n k p
 ·obtain ⟨p,hp⟩:=hp
  rw [stage_some hp] at h
  cases h
  exact ⟨p,hp,rfl⟩
 ·unfold stageV at h
  rw [yG.2 hp] at h
  cases h
theorem gauss_piv {n:Nat} {M:Mx}:∀ {k:Nat} {R:Mx},uN n M k=some R→∀ i,i<k→R i i≠0
 | 0,R,_,i,hi => by omega
 | k+1,R,h,i,hi => by
  simp only [uN] at h
  cases h1:uN n M k with
  | none => rw [h1] at h; cases h
  | some S =>
   rw [h1,Option.bind_some] at h
   obtain ⟨p,hp,rfl⟩:=stage_inv h
   rcases Nat.lt_or_ge i k with h2 | h2
   ·rw [elim_left h2]
    have:qE S k p i=S i:=by
     unfold qE
     rw [if_neg (by omega),if_neg (by have:=hp.1; omega)]
    rw [this]
    exact gauss_piv h1 i h2
   ·have:i=k:=by omega
    subst this
    rw [nD]
    have:qE S i p i=S p:=by unfold qE; rw [if_pos rfl]
    rw [this]
    exact hp.2.2.1
def pO (M E:Mx) (i:Nat):Mx:=fun i' j' => if i'<i then E i' j' else M i' j'
def bD (M E:Mx) (i j:Nat):Mx:=fun i' j' => if i'<i∨(i'=i∧j'<j) then E i' j' else M i' j'
def lowT (n:Nat):Option Nat→Prop
 | none => True
 | some b => b<n
def lowL (n:Nat):List (Nat × Option Nat)→Prop
 | [] => True
 | p :: r => lowT n p.2∧lowL n r
theorem logOk_low {inc:List Nat} {n:Nat} {log:List (Nat × Option Nat)} (h:lowL n log):qR inc (some n) log=true:=by
 cases inc with
 | nil => rfl
 | cons i r =>
  simp only [qR]
  rw [List.all_eq_true]
  intro p hp
  have h2:∀ {log:List (Nat × Option Nat)},lowL n log→∀ p∈log,lowT n p.2:=by
   intro log
   induction log with
   | nil => intro _ p hp; cases hp
   | cons a l ih =>
    intro h p hp
    rcases List.mem_cons.1 hp with rfl | hp
    ·exact h.1
    ·exact ih h.2 p hp
  have h3:=h2 h p hp
  have h4:same? p.2 (some n)=false:=by
   cases hc:p.2 with
   | none => rfl
   | some b =>
    rw [hc] at h3
    have h3:b<n:=h3
    simp only [same?]
    cases hb:Nat.beq b n with
    | false => rfl
    | true =>
     have:=Nat.eq_of_beq_eq_true hb
     omega
  rw [h4]
  simp
attribute [local irreducible] yA semH semC qLen qNil qIad qSlc qIdx yW yN xB appX appI slcX awpF yQ xH xopF xN qval lval seqQ xI xY xW xT cnd arith IntKind.wrap
theorem step_gauss {o n:Nat} {bx:Nat→Nat} {co:Nat→Option Nat} {ds:Nat→List C} {H0:Hp} {M:Mx} {K':V→Hp→Prop} (hM:Mt 2097152 o bx co ds H0.length H0 n (n+1) M) (hn:n<1048576) (hB:GB 2097152 n M) (hk:∀ v H,GaussR 4194304 n M v H→K' v H):semH Tryz.prog n_step_gauss [.c (.sl o 0 n (some n) 1)] H0 K':=by
 refine sR ok_step_gauss rfl ?_
 obtain ⟨L,hL⟩:∃ L,L=H0.length:=⟨_,rfl⟩
 rw [←hL] at hM
 refine go13 ?_
 refine yR (fun w vs H => ∃ (k:Nat) (bx:Nat→Nat) (co:Nat→Option Nat) (ds:Nat→List C) (R:Mx),vs=[.c (.sl o 0 n (some n) 1),i64 n,i64 n,i64 k]∧w=n - k∧k≤n∧uN n M k=some R∧L≤H.length∧Mt 2097152 o bx co ds L H n (n+1) R) (by rfl) ⟨0,bx,co,ds,M,rfl,rfl,by omega,rfl,by omega,hM⟩ ?_
 clear hM bx co ds
 rintro w vs H ⟨k,bx,co,ds,R,rfl,rfl,k1,k2,k3,hM⟩
 refine go13 ?_
 cases hkn:yA Cm.lss (k:Int) (n:Int)
 case false =>
  simp [yA] at hkn
  have ek:k=n:=by omega
  subst ek
  refine go13 ?_
  refine vG (by rfl) (by rfl) ⟨by omega,by omega,by omega,by omega⟩ ?_
  refine go13 ?_
  have hpv:=gauss_piv k2
  have hyl:((List.range k).map fun i => R i k / R i i).length=k:=by simp
  have hMg:=hM.grow (X:=[.live ⟨(List.replicate ((k:Int).toNat) zeroQ).flatten,xK,.rw⟩])
  refine yR (fun w vs H' => ∃ (i:Nat) (cells:List C),vs=[.c (.sl o 0 k (some k) 1),i64 k,.c (.sl H.length 0 k (some k) 6),i64 k,i64 i]∧H'=H++[.live ⟨cells,xK,.rw⟩]∧w=k - i∧i≤k∧Fill (elQ 4194304) zeroQ k cells (((List.range k).map fun i => R i k / R i i).take i)) (by rfl) ⟨0,_,rfl,rfl,rfl,by omega,.zero rfl⟩ ?_
  rintro w vs H' ⟨i,cells,rfl,rfl,rfl,i1,i2⟩
  have hcl:cells.length=k*6:=i2.len
  have htl:(((List.range k).map fun i => R i k / R i i).take i).length=i:=by rw [List.length_take,hyl]; omega
  have hG:=hM.grow (X:=[.live ⟨cells,xK,.rw⟩])
  refine go13 ?_
  cases hi:yA Cm.lss (i:Int) (k:Int)
  case false =>
   simp [yA] at hi
   have ei:i=k:=by omega
   subst ei
   rw [vE (by omega)] at i2
   refine go13 ?_
   exact hk _ _ (.inr ⟨_,_,cells,solve_some k2,rfl,yL _ _,i2.done hyl⟩)
  simp [yA] at hi
  refine go13 ?_
  refine hG.ldT (i:=i) hi (by omega) ?_
  refine go13 ?_
  refine hG.ldE (i:=i) (j:=k) hi (by omega) (by omega) (fun c1 hc1 => ?_)
  refine go13 ?_
  refine hG.ldT (i:=i) hi (by omega) ?_
  refine go13 ?_
  refine hG.ldE (i:=i) (j:=i) hi (by omega) (by omega) (fun c2 hc2 => ?_)
  refine go13 ?_
  refine yB (q_Div2 hc1 hc2 (by decide) (hpv i hi)) (fun u hu => ?_)
  obtain ⟨c3,rfl,hc3⟩:=hu
  have hc3:IQ 4194304 c3 (R i k / R i i):=hc3
  obtain ⟨_,_,_,_,_,_,rfl⟩:=id hc3.six
  refine go13 ?_
  refine yY (yL _ _) (by rfl) (by rfl) (by omega) ?_
  rw [wN]
  refine go13 ?_
  rw [yZ i (by omega)]
  have h4:=i2.put (cs:=_) (a:=_) (by rw [htl]; exact hi) hc3
  rw [htl] at h4
  refine l_n (by rfl) (n':=k - (i+1)) (by omega) ⟨i+1,_,rfl,by rw [Nat.zero_add,Int.toNat_natCast],rfl,by omega,?_⟩
  rw [xU (by rw [hyl]; exact hi),List.getElem_map,List.getElem_range]
  exact h4
 simp [yA] at hkn
 refine go13 ?_
 refine yR (fun w vs H' => ∃ (p:Nat),vs=[.c (.sl o 0 n (some n) 1),i64 n,i64 k,i64 p,i64 n,i64 k]∧H'=H∧w=n - p∧k≤p∧p≤n∧∀ i,k≤i→i<p→R i k=0) (by rfl) ⟨k,rfl,rfl,rfl,by omega,by omega,fun i h1 h2 => by omega⟩ ?_
 rintro w vs H' ⟨p,rfl,rfl,rfl,p1,p2,p3⟩
 refine go13 ?_
 cases hp:yA Cm.lss (p:Int) (n:Int)
 case false =>
  simp [yA] at hp
  have ep:p=n:=by omega
  subst ep
  have hnone:=gauss_none (show uN p M (k+1)=none by simp only [uN,k2,Option.bind_some]; exact stage_none p3) (show k+1≤p by omega)
  refine go13 ?_
  rw [show yA Cm.eql (p:Int) (p:Int)=true by simp [yA]]
  refine go13 ?_
  exact hk _ _ (.inl ⟨solve_none hnone,rfl⟩)
 simp [yA] at hp
 refine go13 ?_
 refine hM.ldT (i:=p) hp (by omega) ?_
 refine go13 ?_
 refine hM.ldE (i:=p) (j:=k) hp (by omega) (by omega) (fun cs hcs => ?_)
 refine go13 ?_
 refine yB (num_Q_IsZero hcs) (fun u hu => ?_)
 obtain ⟨z,rfl,hz⟩:=hu
 cases z
 case true =>
  refine go13 ?_
  rw [yZ p (by omega)]
  refine l_n (by rfl) (n':=n - (p+1)) (by omega) ⟨p+1,rfl,rfl,rfl,by omega,by omega,fun i h1 h2 => ?_⟩
  rcases Nat.lt_or_ge i p with h | h
  ·exact p3 i h1 h
  ·have:i=p:=by omega
   subst this
   exact hz.1 rfl
 have hpiv:IsPiv R n k p:=⟨p1,hp,(fun h => by cases hz.2 h),p3⟩
 refine go13 ?_
 rw [show yA Cm.eql (p:Int) (n:Int)=false by simp [yA]; omega]
 refine go13 ?_
 refine hM.ldT (i:=p) hp (by omega) ?_
 refine go13 ?_
 refine hM.ldT (i:=k) (by omega) (by omega) ?_
 refine go13 ?_
 refine yY hM.T (by rfl) (by rfl) (by simp; omega) ?_
 refine go13 ?_
 refine yY (List.getElem?_set_self (lt_of_getElem? hM.T)) (by rfl) (by rfl) (by rw [sW (by simp; omega)]; simp; omega) ?_
 have hsw:=hM.swap (r:=k) (k:=p) (by omega) hp
 rw [List.set_set,show 0+(k:Int).toNat*1=k by omega,show 0+(p:Int).toNat*1=p by omega]
 have hE:uN n M (k+1)=some (bE (qE R k p) k):=by
  simp only [uN,k2,Option.bind_some]
  exact stage_some hpiv
 have hEB:=hB (k+1) _ (by omega) hE
 have hS0:qE R k p k k≠0:=by
  have:qE R k p k=R p:=by unfold qE; rw [if_pos rfl]
  rw [this]
  exact hpiv.2.2.1
 generalize qE R k p=S at hsw hE hEB hS0
 generalize bV bx k p=bx at hsw
 generalize bV co k p=co at hsw
 generalize bV ds k p=ds at hsw
 obtain ⟨E,hEe⟩:∃ E,E=bE S k:=⟨_,rfl⟩
 rw [←hEe] at hE hEB
 refine go13 ?_
 refine yR (fun w vs H => ∃ (i:Nat) (ds:Nat→List C),vs=[.c (.sl o 0 n (some n) 1),i64 n,i64 k,i64 n,i64 k,i64 n,i64 i]∧w=n - i∧i≤n∧L≤H.length∧Mt 2097152 o bx co ds L H n (n+1) (pO S E i)) (by rfl) ⟨0,ds,rfl,rfl,by omega,by simp; omega,hsw.congr (fun i j _ _ => by unfold pO; rw [if_neg (by omega)])⟩ ?_
 clear hsw hM p3 k3 ds
 rintro w vs H ⟨i,ds,rfl,rfl,i1,i2,hM⟩
 refine go13 ?_
 cases hi:yA Cm.lss (i:Int) (n:Int)
 case false =>
  simp [yA] at hi
  have ei:i=n:=by omega
  subst ei
  refine go13 ?_
  rw [yZ k (by omega)]
  exact l_n (by rfl) (n':=i - (k+1)) (by omega) ⟨k+1,bx,co,ds,E,rfl,rfl,by omega,hE,i2,hM.congr (fun i' j _ _ => by unfold pO; rw [if_pos (by omega)])⟩
 simp [yA] at hi
 have skip:(∀ j,E i j=S i j)→Mt 2097152 o bx co ds L H n (n+1) (pO S E (i+1)):=fun h => hM.congr (fun i' j _ _ => by
  unfold pO
  by_cases e:i'<i
  ·rw [if_pos e,if_pos (by omega)]
  ·rw [if_neg e]
   by_cases e2:i'<i+1
   ·have:i'=i:=by omega
    subst this
    rw [if_pos e2,h j]
   ·rw [if_neg e2])
 refine go13 ?_
 cases hik:yA Cm.eql (i:Int) (k:Int)
 case true =>
  simp [yA] at hik
  have hik:i=k:=by omega
  refine go13 ?_
  rw [yZ i (by omega)]
  exact l_n (by rfl) (n':=n - (i+1)) (by omega) ⟨i+1,ds,rfl,rfl,by omega,i2,skip (fun j => by rw [hEe,hik]; exact nD)⟩
 simp [yA] at hik
 have hik:i≠k:=by omega
 have rowi:∀ j,pO S E i i j=S i j:=fun j => by unfold pO; rw [if_neg (by omega)]
 have rowk:∀ i0 j,pO S E i0 k j=S k j:=fun i0 j => by
  unfold pO
  split
  ·rw [hEe]; exact nD
  ·rfl
 refine go13 ?_
 refine hM.ldT (i:=i) hi (by omega) ?_
 refine go13 ?_
 refine hM.ldE (i:=i) (j:=k) hi (by omega) (by omega) (fun cs hcs => ?_)
 rw [rowi] at hcs
 refine go13 ?_
 refine yB (num_Q_IsZero hcs) (fun u hu => ?_)
 obtain ⟨z,rfl,hz⟩:=hu
 cases z
 case true =>
  refine go13 ?_
  rw [yZ i (by omega)]
  exact l_n (by rfl) (n':=n - (i+1)) (by omega) ⟨i+1,ds,rfl,rfl,by omega,i2,skip (fun j => by rw [hEe]; exact elim_zero (hz.1 rfl))⟩
 have hz0:S i k≠0:=fun h => by cases hz.2 h
 refine go13 ?_
 have hG:=hM.grow (X:=List.replicate (0+1) .unb)
 refine hG.ldT (i:=i) hi (by omega) ?_
 refine go13 ?_
 refine hG.ldE (i:=i) (j:=k) hi (by omega) (by omega) (fun c1 hc1 => ?_)
 rw [rowi] at hc1
 refine go13 ?_
 refine hG.ldT (i:=k) (by omega) (by omega) ?_
 refine go13 ?_
 refine hG.ldE (i:=k) (j:=k) (by omega) (by omega) (by omega) (fun c2 hc2 => ?_)
 rw [rowk] at hc2
 refine go13 ?_
 have ho':o<H.length:=by have:=hM.oL; omega
 have hbi':bx i<H.length:=by have:=(hM.pos i hi).2; omega
 have hbk':bx k<H.length:=by have:=(hM.pos k (by omega)).2; omega
 refine gD (T:=some H.length) (by rfl) (logOk_low (n:=H.length) ⟨hbk',trivial,trivial,ho',trivial,trivial,trivial,hbi',trivial,trivial,ho',trivial,trivial,trivial,trivial⟩) ?_
 refine bL ?_
 refine go13 ?_
 refine yH (q_Div2 hc1 hc2 (by decide) hS0) (fun u hu => ?_)
 obtain ⟨c3,rfl,hc3⟩:=hu
 obtain ⟨e0,e1,e2,e3,e4,e5,rfl⟩:=id hc3.six
 clear hG hc1 hc2 hcs
 refine go13 ?_
 refine goN ?_
 have hG:=hM.grow (X:=[.live ⟨[e0,e1,e2,e3,e4,e5],xK,.rw⟩])
 refine yR (fun w vs H' => ∃ (j:Nat) (ds:Nat→List C),vs=[.c (.sl o 0 n (some n) 1),i64 n,i64 k,i64 i,.c (.ptr H.length 0),i64 j,i64 n,i64 k,i64 n,i64 i]∧w=n+1 - j∧k≤j∧j≤n+1∧L≤H'.length∧H'[H.length]?=some (.live ⟨[e0,e1,e2,e3,e4,e5],xK,.rw⟩)∧Mt 2097152 o bx co ds L H' n (n+1) (bD S E i j)) (by rfl) ⟨k,ds,rfl,rfl,by omega,by omega,by simp; omega,yL _ _,hG.congr (fun i' j' _ _ => by
  unfold pO bD
  by_cases e:i'<i
  ·rw [if_pos e,if_pos (.inl e)]
  ·rw [if_neg e]
   by_cases e2:i'=i∧j'<k
   ·rw [if_pos (.inr e2),hEe,elim_left e2.2]
   ·rw [if_neg (by rintro (h | h); exact e h; exact e2 h)])⟩ ?_
 clear hG hM skip rowi rowk ds
 rintro w vs H' ⟨j,ds,rfl,rfl,j1,j2,j3,j4,hM⟩
 refine go13 ?_
 cases hj:yA Cm.leq (j:Int) (n:Int)
 case false =>
  simp [yA] at hj
  have ej:j=n+1:=by omega
  subst ej
  refine go13 ?_
  rw [yZ i (by omega)]
  exact l_n (by rfl) (n':=n - (i+1)) (by omega) ⟨i+1,ds,rfl,rfl,by omega,j3,hM.congr (fun i' j' _ hj' => by
   unfold pO bD
   by_cases e:i'<i+1
   ·rw [if_pos e,if_pos (by omega)]
   ·rw [if_neg e,if_neg (by omega)])⟩
 simp [yA] at hj
 have pi:bD S E i j i j=S i j:=by unfold bD; rw [if_neg (by omega)]
 have pk:bD S E i j k j=S k j:=by
  unfold bD
  split
  ·rw [hEe]; exact nD
  ·rfl
 have hcH:H.length<H'.length:=lt_of_getElem? j4
 refine go13 ?_
 refine hM.ldT (i:=i) hi (by omega) ?_
 refine go13 ?_
 refine hM.ldT (i:=i) hi (by omega) ?_
 refine go13 ?_
 refine hM.ldE (i:=i) (j:=j) hi (by omega) (by omega) (fun d1 hd1 => ?_)
 rw [pi] at hd1
 refine go13 ?_
 refine yJ j4 (by rfl) ?_
 refine go13 ?_
 refine hM.ldT (i:=k) (by omega) (by omega) ?_
 refine go13 ?_
 refine hM.ldE (i:=k) (j:=j) (by omega) (by omega) (by omega) (fun d2 hd2 => ?_)
 rw [pk] at hd2
 refine go13 ?_
 refine yH (jN hc3 hd2 (by decide)) (fun u hu => ?_)
 obtain ⟨d3,rfl,hd3⟩:=hu
 refine go13 ?_
 refine yH (q_Sub2 hd1 hd3 (by decide)) (fun u hu => ?_)
 obtain ⟨d4,rfl,hd4⟩:=hu
 have hnew:S i j - S i k / S k k*S k j=E i j:=by rw [hEe]; exact (elim_else hik hz0 j1).symm
 rw [hnew] at hd4
 have hd4:=hd4.tightS (hEB i j hi (by omega))
 obtain ⟨_,_,_,_,_,_,rfl⟩:=id hd4.six
 refine go13 ?_
 refine hM.st (i:=i) (j:=j) hi (by omega) (by omega) (by rfl) hd4 ?_
 have hP:=hM.put (i:=i) (j:=j) hi (by omega) hd4
 have hbi:=(hM.pos i hi).2
 refine go13 ?_
 rw [yZ j (by omega)]
 refine l_n (by rfl) (n':=n+1 - (j+1)) (by omega) ⟨j+1,_,rfl,rfl,by omega,by omega,by simp; omega,?_,hP.congr (fun i' j' _ _ => ?_)⟩
 ·rw [List.getElem?_set_ne (by omega)]
  exact j4
 ·unfold updQ bD
  by_cases e:i'=i∧j'=j
  ·rw [if_pos e,if_pos (by omega),e.1,e.2]
  ·rw [if_neg e]
   by_cases e2:i'<i∨i'=i∧j'<j
   ·rw [if_pos e2,if_pos (by omega)]
   ·rw [if_neg e2,if_neg (by omega)]
end Go.Proofs.YtokckcnfojjpjaaGreat

namespace Go.Proofs.YtokckcnfojjpjaaGreat
open Go.RowKit
set_option maxRecDepth 20000
def GaussRR (K n:Nat) (M:Mx) (v:V) (H:Hp):Prop:=(jL n M=none∧v=.tup [.c .nilSl,.c (.bool false)])∨(∃ y b cells,jL n M=some y∧v=.tup [.c (.sl b 0 n (some n) 4),.c (.bool true)]∧H[b]?=some (.live ⟨cells,yC,.rw⟩)∧Els (elR K) cells y)
attribute [local irreducible] yA semH semC qLen qNil qIad qSlc qIdx yW yN xB appX appI slcX awpF yQ xH xopF xN qval lval seqQ xI xY xW xT cnd arith IntKind.wrap
theorem ref19_solved {o n:Nat} {bx:Nat→Nat} {co:Nat→Option Nat} {ds:Nat→List C} {H0:Hp} {M:Mx} {K':V→Hp→Prop} (hM:MtR 2097152 o bx co ds H0.length H0 n (n+1) M) (hn:n<1048576) (hB:GB 2097152 n M) (hk:∀ v H,GaussRR 4194304 n M v H→K' v H):semH Tryz.prog n_ref19_solved [.c (.sl o 0 n (some n) 1),i64 n] H0 K':=by
 refine sR ok_ref19_solved rfl ?_
 obtain ⟨L,hL⟩:∃ L,L=H0.length:=⟨_,rfl⟩
 rw [←hL] at hM
 refine go13 ?_
 refine yR (fun w vs H => ∃ (k:Nat) (bx:Nat→Nat) (co:Nat→Option Nat) (ds:Nat→List C) (R:Mx),vs=[.c (.sl o 0 n (some n) 1),i64 n,i64 k]∧w=n - k∧k≤n∧uN n M k=some R∧L≤H.length∧MtR 2097152 o bx co ds L H n (n+1) R) (by rfl) ⟨0,bx,co,ds,M,rfl,rfl,by omega,rfl,by omega,hM⟩ ?_
 clear hM bx co ds
 rintro w vs H ⟨k,bx,co,ds,R,rfl,rfl,k1,k2,k3,hM⟩
 refine go13 ?_
 cases hkn:yA Cm.lss (k:Int) (n:Int)
 case false =>
  simp [yA] at hkn
  have ek:k=n:=by omega
  subst ek
  refine go13 ?_
  refine vG (by rfl) (by rfl) ⟨by omega,by omega,by omega,by omega⟩ ?_
  refine go13 ?_
  have hpv:=gauss_piv k2
  have hyl:((List.range k).map fun i => R i k / R i i).length=k:=by simp
  have hMg:=hM.grow (X:=[.live ⟨(List.replicate ((k:Int).toNat) qC).flatten,yC,.rw⟩])
  refine yR (fun w vs H' => ∃ (i:Nat) (cells:List C),vs=[.c (.sl o 0 k (some k) 1),i64 k,.c (.sl H.length 0 k (some k) 4),i64 k,i64 i]∧H'=H++[.live ⟨cells,yC,.rw⟩]∧w=k - i∧i≤k∧Fill (elR 4194304) qC k cells (((List.range k).map fun i => R i k / R i i).take i)) (by rfl) ⟨0,_,rfl,rfl,rfl,by omega,.zero rfl⟩ ?_
  rintro w vs H' ⟨i,cells,rfl,rfl,rfl,i1,i2⟩
  have hcl:cells.length=k*4:=i2.len
  have htl:(((List.range k).map fun i => R i k / R i i).take i).length=i:=by rw [List.length_take,hyl]; omega
  have hG:=hM.grow (X:=[.live ⟨cells,yC,.rw⟩])
  refine go13 ?_
  cases hi:yA Cm.lss (i:Int) (k:Int)
  case false =>
   simp [yA] at hi
   have ei:i=k:=by omega
   subst ei
   rw [vE (by omega)] at i2
   refine go13 ?_
   exact hk _ _ (.inr ⟨_,_,cells,solve_some k2,rfl,yL _ _,i2.done hyl⟩)
  simp [yA] at hi
  refine go13 ?_
  refine hG.ldT (i:=i) hi (by omega) ?_
  refine go13 ?_
  refine hG.ldE (i:=i) (j:=k) hi (by omega) (by omega) (fun c1 hc1 => ?_)
  refine go13 ?_
  refine hG.ldT (i:=i) hi (by omega) ?_
  refine go13 ?_
  refine hG.ldE (i:=i) (j:=i) hi (by omega) (by omega) (fun c2 hc2 => ?_)
  refine go13 ?_
  refine yB (r_Div2 hc1 hc2 (by decide) (hpv i hi)) (fun u hu => ?_)
  obtain ⟨c3,rfl,hc3⟩:=hu
  have hc3:IR 4194304 c3 (R i k / R i i):=hc3
  obtain ⟨_,_,_,_,rfl⟩:=id hc3.four
  refine go13 ?_
  refine yY (yL _ _) (by rfl) (by rfl) (by omega) ?_
  rw [wN]
  refine go13 ?_
  rw [yZ i (by omega)]
  have h4:=i2.put (cs:=_) (a:=_) (by rw [htl]; exact hi) hc3
  rw [htl] at h4
  refine l_n (by rfl) (n':=k - (i+1)) (by omega) ⟨i+1,_,rfl,by rw [Nat.zero_add,Int.toNat_natCast],rfl,by omega,?_⟩
  rw [xU (by rw [hyl]; exact hi),List.getElem_map,List.getElem_range]
  exact h4
 simp [yA] at hkn
 refine go13 ?_
 refine yR (fun w vs H' => ∃ (p:Nat),vs=[.c (.sl o 0 n (some n) 1),i64 n,i64 k,i64 p]∧H'=H∧w=n - p∧k≤p∧p≤n∧∀ i,k≤i→i<p→R i k=0) (by rfl) ⟨k,rfl,rfl,rfl,by omega,by omega,fun i h1 h2 => by omega⟩ ?_
 rintro w vs H' ⟨p,rfl,rfl,rfl,p1,p2,p3⟩
 refine go13 ?_
 cases hp:yA Cm.lss (p:Int) (n:Int)
 case false =>
  simp [yA] at hp
  have ep:p=n:=by omega
  subst ep
  have hnone:=gauss_none (show uN p M (k+1)=none by simp only [uN,k2,Option.bind_some]; exact stage_none p3) (show k+1≤p by omega)
  refine go13 ?_
  rw [show yA Cm.eql (p:Int) (p:Int)=true by simp [yA]]
  refine go13 ?_
  exact hk _ _ (.inl ⟨solve_none hnone,rfl⟩)
 simp [yA] at hp
 refine go13 ?_
 refine hM.ldT (i:=p) hp (by omega) ?_
 refine go13 ?_
 refine hM.ldE (i:=p) (j:=k) hp (by omega) (by omega) (fun cs hcs => ?_)
 refine go13 ?_
 refine yB (ref01_Q_IsZero hcs) (fun u hu => ?_)
 obtain ⟨z,rfl,hz⟩:=hu
 cases z
 case true =>
  refine go13 ?_
  rw [yZ p (by omega)]
  refine l_n (by rfl) (n':=n - (p+1)) (by omega) ⟨p+1,rfl,rfl,rfl,by omega,by omega,fun i h1 h2 => ?_⟩
  rcases Nat.lt_or_ge i p with h | h
  ·exact p3 i h1 h
  ·have:i=p:=by omega
   subst this
   exact hz.1 rfl
 have hpiv:IsPiv R n k p:=⟨p1,hp,(fun h => by cases hz.2 h),p3⟩
 refine go13 ?_
 rw [show yA Cm.eql (p:Int) (n:Int)=false by simp [yA]; omega]
 refine go13 ?_
 refine hM.ldT (i:=p) hp (by omega) ?_
 refine go13 ?_
 refine hM.ldT (i:=k) (by omega) (by omega) ?_
 refine go13 ?_
 refine yY hM.T (by rfl) (by rfl) (by simp; omega) ?_
 refine go13 ?_
 refine yY (List.getElem?_set_self (lt_of_getElem? hM.T)) (by rfl) (by rfl) (by rw [sW (by simp; omega)]; simp; omega) ?_
 have hsw:=hM.swap (r:=k) (k:=p) (by omega) hp
 rw [List.set_set,show 0+(k:Int).toNat*1=k by omega,show 0+(p:Int).toNat*1=p by omega]
 have hE:uN n M (k+1)=some (bE (qE R k p) k):=by
  simp only [uN,k2,Option.bind_some]
  exact stage_some hpiv
 have hEB:=hB (k+1) _ (by omega) hE
 have hS0:qE R k p k k≠0:=by
  have:qE R k p k=R p:=by unfold qE; rw [if_pos rfl]
  rw [this]
  exact hpiv.2.2.1
 generalize qE R k p=S at hsw hE hEB hS0
 generalize pZ bx k p=bx at hsw
 generalize pZ co k p=co at hsw
 generalize pZ ds k p=ds at hsw
 obtain ⟨E,hEe⟩:∃ E,E=bE S k:=⟨_,rfl⟩
 rw [←hEe] at hE hEB
 refine go13 ?_
 refine yR (fun w vs H => ∃ (i:Nat) (ds:Nat→List C),vs=[.c (.sl o 0 n (some n) 1),i64 n,i64 k,i64 i]∧w=n - i∧i≤n∧L≤H.length∧MtR 2097152 o bx co ds L H n (n+1) (pO S E i)) (by rfl) ⟨0,ds,rfl,rfl,by omega,by simp; omega,hsw.congr (fun i j _ _ => by unfold pO; rw [if_neg (by omega)])⟩ ?_
 clear hsw hM p3 k3 ds
 rintro w vs H ⟨i,ds,rfl,rfl,i1,i2,hM⟩
 refine go13 ?_
 cases hi:yA Cm.lss (i:Int) (n:Int)
 case false =>
  simp [yA] at hi
  have ei:i=n:=by omega
  subst ei
  refine go13 ?_
  rw [yZ k (by omega)]
  exact l_n (by rfl) (n':=i - (k+1)) (by omega) ⟨k+1,bx,co,ds,E,rfl,rfl,by omega,hE,i2,hM.congr (fun i' j _ _ => by unfold pO; rw [if_pos (by omega)])⟩
 simp [yA] at hi
 have skip:(∀ j,E i j=S i j)→MtR 2097152 o bx co ds L H n (n+1) (pO S E (i+1)):=fun h => hM.congr (fun i' j _ _ => by
  unfold pO
  by_cases e:i'<i
  ·rw [if_pos e,if_pos (by omega)]
  ·rw [if_neg e]
   by_cases e2:i'<i+1
   ·have:i'=i:=by omega
    subst this
    rw [if_pos e2,h j]
   ·rw [if_neg e2])
 refine go13 ?_
 cases hik:yA Cm.eql (i:Int) (k:Int)
 case true =>
  simp [yA] at hik
  have hik:i=k:=by omega
  refine go13 ?_
  rw [yZ i (by omega)]
  exact l_n (by rfl) (n':=n - (i+1)) (by omega) ⟨i+1,ds,rfl,rfl,by omega,i2,skip (fun j => by rw [hEe,hik]; exact nD)⟩
 simp [yA] at hik
 have hik:i≠k:=by omega
 have rowi:∀ j,pO S E i i j=S i j:=fun j => by unfold pO; rw [if_neg (by omega)]
 have rowk:∀ i0 j,pO S E i0 k j=S k j:=fun i0 j => by
  unfold pO
  split
  ·rw [hEe]; exact nD
  ·rfl
 refine go13 ?_
 refine hM.ldT (i:=i) hi (by omega) ?_
 refine go13 ?_
 refine hM.ldE (i:=i) (j:=k) hi (by omega) (by omega) (fun cs hcs => ?_)
 rw [rowi] at hcs
 refine go13 ?_
 refine yB (ref01_Q_IsZero hcs) (fun u hu => ?_)
 obtain ⟨z,rfl,hz⟩:=hu
 cases z
 case true =>
  refine go13 ?_
  rw [yZ i (by omega)]
  exact l_n (by rfl) (n':=n - (i+1)) (by omega) ⟨i+1,ds,rfl,rfl,by omega,i2,skip (fun j => by rw [hEe]; exact elim_zero (hz.1 rfl))⟩
 have hz0:S i k≠0:=fun h => by cases hz.2 h
 refine go13 ?_
 have hG:=hM.grow (X:=List.replicate (0+1) .unb)
 refine hG.ldT (i:=i) hi (by omega) ?_
 refine go13 ?_
 refine hG.ldE (i:=i) (j:=k) hi (by omega) (by omega) (fun c1 hc1 => ?_)
 rw [rowi] at hc1
 refine go13 ?_
 refine hG.ldT (i:=k) (by omega) (by omega) ?_
 refine go13 ?_
 refine hG.ldE (i:=k) (j:=k) (by omega) (by omega) (by omega) (fun c2 hc2 => ?_)
 rw [rowk] at hc2
 refine go13 ?_
 have ho':o<H.length:=by have:=hM.oL; omega
 have hbi':bx i<H.length:=by have:=(hM.pos i hi).2; omega
 have hbk':bx k<H.length:=by have:=(hM.pos k (by omega)).2; omega
 refine gD (T:=some H.length) (by rfl) (logOk_low (n:=H.length) ⟨hbk',trivial,trivial,ho',trivial,trivial,trivial,hbi',trivial,trivial,ho',trivial,trivial,trivial,trivial⟩) ?_
 refine bL ?_
 refine go13 ?_
 refine yH (r_Div2 hc1 hc2 (by decide) hS0) (fun u hu => ?_)
 obtain ⟨c3,rfl,hc3⟩:=hu
 obtain ⟨e0,e1,e2,e3,rfl⟩:=id hc3.four
 clear hG hc1 hc2 hcs
 refine go13 ?_
 refine goN ?_
 have hG:=hM.grow (X:=[.live ⟨[e0,.bool e1,e2,.bool e3],yC,.rw⟩])
 refine yR (fun w vs H' => ∃ (j:Nat) (ds:Nat→List C),vs=[.c (.sl o 0 n (some n) 1),i64 n,i64 k,i64 i,.c (.ptr H.length 0),i64 j]∧w=n+1 - j∧k≤j∧j≤n+1∧L≤H'.length∧H'[H.length]?=some (.live ⟨[e0,.bool e1,e2,.bool e3],yC,.rw⟩)∧MtR 2097152 o bx co ds L H' n (n+1) (bD S E i j)) (by rfl) ⟨k,ds,rfl,rfl,by omega,by omega,by simp; omega,yL _ _,hG.congr (fun i' j' _ _ => by
  unfold pO bD
  by_cases e:i'<i
  ·rw [if_pos e,if_pos (.inl e)]
  ·rw [if_neg e]
   by_cases e2:i'=i∧j'<k
   ·rw [if_pos (.inr e2),hEe,elim_left e2.2]
   ·rw [if_neg (by rintro (h | h); exact e h; exact e2 h)])⟩ ?_
 clear hG hM skip rowi rowk ds
 rintro w vs H' ⟨j,ds,rfl,rfl,j1,j2,j3,j4,hM⟩
 refine go13 ?_
 cases hj:yA Cm.leq (j:Int) (n:Int)
 case false =>
  simp [yA] at hj
  have ej:j=n+1:=by omega
  subst ej
  refine go13 ?_
  rw [yZ i (by omega)]
  exact l_n (by rfl) (n':=n - (i+1)) (by omega) ⟨i+1,ds,rfl,rfl,by omega,j3,hM.congr (fun i' j' _ hj' => by
   unfold pO bD
   by_cases e:i'<i+1
   ·rw [if_pos e,if_pos (by omega)]
   ·rw [if_neg e,if_neg (by omega)])⟩
 simp [yA] at hj
 have pi:bD S E i j i j=S i j:=by unfold bD; rw [if_neg (by omega)]
 have pk:bD S E i j k j=S k j:=by
  unfold bD
  split
  ·rw [hEe]; exact nD
  ·rfl
 have hcH:H.length<H'.length:=lt_of_getElem? j4
 refine go13 ?_
 refine hM.ldT (i:=i) hi (by omega) ?_
 refine go13 ?_
 refine hM.ldT (i:=i) hi (by omega) ?_
 refine go13 ?_
 refine hM.ldE (i:=i) (j:=j) hi (by omega) (by omega) (fun d1 hd1 => ?_)
 rw [pi] at hd1
 refine go13 ?_
 refine yJ j4 (by rfl) ?_
 refine go13 ?_
 refine hM.ldT (i:=k) (by omega) (by omega) ?_
 refine go13 ?_
 refine hM.ldE (i:=k) (j:=j) (by omega) (by omega) (by omega) (fun d2 hd2 => ?_)
 rw [pk] at hd2
 refine go13 ?_
 refine yH (qH hc3 hd2 (by decide)) (fun u hu => ?_)
 obtain ⟨d3,rfl,hd3⟩:=hu
 refine go13 ?_
 refine yH (r_Sub2 hd1 hd3 (by decide)) (fun u hu => ?_)
 obtain ⟨d4,rfl,hd4⟩:=hu
 have hnew:S i j - S i k / S k k*S k j=E i j:=by rw [hEe]; exact (elim_else hik hz0 j1).symm
 rw [hnew] at hd4
 have hd4:=hd4.tightS (hEB i j hi (by omega))
 obtain ⟨_,_,_,_,rfl⟩:=id hd4.four
 refine go13 ?_
 refine hM.st (i:=i) (j:=j) hi (by omega) (by omega) (by rfl) hd4 ?_
 have hP:=hM.put (i:=i) (j:=j) hi (by omega) hd4
 have hbi:=(hM.pos i hi).2
 refine go13 ?_
 rw [yZ j (by omega)]
 refine l_n (by rfl) (n':=n+1 - (j+1)) (by omega) ⟨j+1,_,rfl,rfl,by omega,by omega,by simp; omega,?_,hP.congr (fun i' j' _ _ => ?_)⟩
 ·rw [List.getElem?_set_ne (by omega)]
  exact j4
 ·unfold updQR bD
  by_cases e:i'=i∧j'=j
  ·rw [if_pos e,if_pos (by omega),e.1,e.2]
  ·rw [if_neg e]
   by_cases e2:i'<i∨i'=i∧j'<j
   ·rw [if_pos e2,if_pos (by omega)]
   ·rw [if_neg e2,if_neg (by omega)]
end Go.Proofs.YtokckcnfojjpjaaGreat

namespace Go.Proofs.YtokckcnfojjpjaaGreat
open Go.RowKit
set_option maxRecDepth 20000
structure MtP (K o:Nat) (bx:Nat→Nat) (ds:Nat→List C) (H:Hp) (r m w:Nat) (P:Nat→Nat→Prop) (M:Mx):Prop where
 T:H[o]?=some (.live ⟨(List.range r).map (rowQ bx (fun _ => some w) w)++List.replicate (m - r) .nilSl,pI,.rw⟩)
 le:r≤m
 ne:∀ i,i<r→bx i≠o
 row:∀ i,i<r→H[bx i]?=some (.live ⟨ds i,xK,.rw⟩)
 len:∀ i,i<r→(ds i).length=w*6
 at_:∀ i j,i<r→j<w→P i j→IQ K (((ds i).drop (j*6)).take 6) (M i j)
 inj:∀ i k,i<r→k<r→bx i=bx k→i=k
section
variable {K o:Nat} {bx:Nat→Nat} {ds:Nat→List C} {H:Hp} {r m w:Nat} {P:Nat→Nat→Prop} {M:Mx}
theorem MtP.start (h:H[o]?=some (.live ⟨List.replicate m .nilSl,pI,.rw⟩)):MtP K o bx ds H 0 m w P M :=
 ⟨by simpa using h,by omega,fun i h => by omega,fun i h => by omega,fun i h => by omega,fun i j h => by omega,fun i k h => by omega⟩
theorem MtP.grow {X:Hp} (h:MtP K o bx ds H r m w P M):MtP K o bx ds (H++X) r m w P M :=
 ⟨by rw [List.getElem?_append_left (lt_of_getElem? h.T)]; exact h.T,h.le,h.ne,fun i hi => by rw [List.getElem?_append_left (lt_of_getElem? (h.row i hi))]; exact h.row i hi,h.len,h.at_,h.inj⟩
theorem MtP.weak {Q:Nat→Nat→Prop} (h:MtP K o bx ds H r m w P M) (hq:∀ i j,i<r→j<w→Q i j→P i j):MtP K o bx ds H r m w Q M :=
 ⟨h.T,h.le,h.ne,h.row,h.len,fun i j hi hj q => h.at_ i j hi hj (hq i j hi hj q),h.inj⟩
theorem MtP.other {p:Nat} {s:Slot} (h:MtP K o bx ds H r m w P M) (hp:p≠o) (hb:∀ i,i<r→p≠bx i):MtP K o bx ds (H.set p s) r m w P M :=
 ⟨by rw [List.getElem?_set_ne hp]; exact h.T,h.le,h.ne,fun i hi => by rw [List.getElem?_set_ne (hb i hi)]; exact h.row i hi,h.len,h.at_,h.inj⟩
theorem splice_at {cells:List C} {i:Nat} {c:C} (hi:i<cells.length):splice cells i [c]=cells.set i c:=by
 unfold splice
 rw [List.set_eq_take_append_cons_drop,if_pos hi]
 simp
theorem MtP.next {b:Nat} {cells:List C} (h:MtP K o bx ds H r m w P M) (hr:r<m) (hb:H[b]?=some (.live ⟨cells,xK,.rw⟩)) (hbn:∀ i,i<r→bx i≠b) (hbo:b≠o) (hl:cells.length=w*6) (hP:∀ j,¬ P r j) :
  MtP K o (fun i => if i=r then b else bx i) (fun i => if i=r then cells else ds i) (H.set o (.live ⟨splice ((List.range r).map (rowQ bx (fun _ => some w) w)++List.replicate (m - r) .nilSl) r [.sl b 0 w (some w) 6],pI,.rw⟩)) (r+1) m w P M:=by
 have hlt:=lt_of_getElem? h.T
 refine ⟨?_,hr,fun i hi => ?_,fun i hi => ?_,fun i hi => ?_,fun i j hi hj p => ?_,fun i k hi hk he => ?_⟩
 ·rw [List.getElem?_set_self hlt]
  congr 3
  rw [splice_at (by simp; omega)]
  apply List.ext_getElem
  ·simp
   omega
  ·intro i h1 h2
   simp only [List.length_set,List.length_append,List.length_map,List.length_range,List.length_replicate] at h1
   rw [List.getElem_set]
   by_cases e:r=i
   ·subst e
    rw [if_pos rfl,List.getElem_append_left (by simp)]
    simp [rowQ]
   ·rw [if_neg e]
    by_cases e2:i<r
    ·rw [List.getElem_append_left (by simpa using e2),List.getElem_append_left (by simp; omega)]
     simp [rowQ,Ne.symm e]
    ·rw [List.getElem_append_right (by simp; omega),List.getElem_append_right (by simp; omega)]
     simp
 ·by_cases e:i=r
  ·rw [if_pos e]; exact hbo
  ·rw [if_neg e]; exact h.ne i (by omega)
 ·by_cases e:i=r
  ·rw [if_pos e,if_pos e,List.getElem?_set_ne (Ne.symm hbo)]; exact hb
  ·rw [if_neg e,if_neg e,List.getElem?_set_ne (Ne.symm (h.ne i (by omega)))]; exact h.row i (by omega)
 ·by_cases e:i=r
  ·rw [if_pos e]; exact hl
  ·rw [if_neg e]; exact h.len i (by omega)
 ·by_cases e:i=r
  ·subst e; exact absurd p (hP j)
  ·rw [if_neg e]; exact h.at_ i j (by omega) hj p
 ·by_cases e:i=r <;> by_cases e2:k=r
  ·omega
  ·rw [if_pos e,if_neg e2] at he
   exact absurd he.symm (hbn k (by omega))
  ·rw [if_neg e,if_pos e2] at he
   exact absurd he (hbn i (by omega))
  ·rw [if_neg e,if_neg e2] at he
   exact h.inj i k (by omega) (by omega) he
theorem MtP.put {i j:Nat} {cs:List C} (h:MtP K o bx ds H r m w P M) (hi:i<r) (hj:j<w) (hc:IQ K cs (M i j)) :
  MtP K o bx (fun i' => if i'=i then splice (ds i) (j*6) cs else ds i') (H.set (bx i) (.live ⟨splice (ds i) (j*6) cs,xK,.rw⟩)) r m w (fun i' j' => P i' j'∨(i'=i∧j'=j)) M:=by
 have hlt:=lt_of_getElem? (h.row i hi)
 have hcl:cs.length=6:=(elQ K).len (show (elQ K).p cs (M i j) from hc)
 have hle:j*6+6≤(ds i).length:=by
  rw [h.len i hi]
  omega
 refine ⟨?_,h.le,h.ne,fun i' hi' => ?_,fun i' hi' => ?_,fun i' j' hi' hj' p => ?_,h.inj⟩
 ·rw [List.getElem?_set_ne (h.ne i hi)]
  exact h.T
 ·by_cases e:i'=i
  ·subst e
   rw [List.getElem?_set_self hlt,if_pos rfl]
  ·rw [List.getElem?_set_ne (fun x => e (h.inj i' i hi' hi x.symm)),if_neg e]
   exact h.row i' hi'
 ·by_cases e:i'=i
  ·subst e
   rw [if_pos rfl,sW (by rw [hcl]; exact hle)]
   exact h.len i' hi'
  ·rw [if_neg e]
   exact h.len i' hi'
 ·by_cases e:i'=i
  ·subst e
   rw [if_pos rfl]
   by_cases e2:j'=j
   ·subst e2
    rw [nB (by omega) hcl]
    exact hc
   ·rw [splice_otherQ hle hcl e2]
    exact h.at_ i' j' hi' hj' (p.resolve_right fun x => e2 x.2)
  ·rw [if_neg e]
   exact h.at_ i' j' hi' hj' (p.resolve_right fun x => e x.1)
theorem MtP.ldT {off i:Nat} {Q:V→Prop} (h:MtP K o bx ds H r m w P M) (hi:i<r) (ho:off=i) (k:Q (.c (.sl (bx i) 0 w (some w) 6))):yW H[o]? false 1 off Q:=by
 subst ho
 refine xA h.T ?_ k
 simp only
 rw [List.getElem?_append_left (by simpa using hi)]
 simp [hi,rowQ]
theorem MtP.st {off i j:Nat} {cs:List C} {ds':Option (List C)} {Q:Nat→Slot→Prop} (h:MtP K o bx ds H r m w P M) (hi:i<r) (hj:j<w) (ho:off=j*6) (hd:ds'=some cs) (hl:cs.length=6) (k:Q (bx i) (.live ⟨splice (ds i) (j*6) cs,xK,.rw⟩)):xB H[bx i]? (bx i) 6 off ds' Q:=by
 subst ho
 have hl2:=h.len i hi
 exact yY (h.row i hi) hd (by rw [hl]; rfl) (by omega) k
theorem MtP.full (h:MtP K o bx ds H m m w P M) (hp:∀ i j,i<m→j<w→P i j):Mt K o bx (fun _ => some w) ds H.length H m w M :=
 ⟨by simpa using h.T,lt_of_getElem? h.T,fun i hi => ⟨h.ne i hi,lt_of_getElem? (h.row i hi)⟩,h.row,h.len,fun i j hi hj => h.at_ i j hi hj (hp i j hi hj),h.inj⟩
end
theorem bS_sub {k m:Nat} {a b:Rat} (h1:Bd k (rp a)) (h2:Bd m (rp b)):Bd (k+m+1) (rp (a - b)) :=
 bd_divS (dd_ne a b) (rat_sub a b) ((h1.n.mulT h2.d).add2 ((h2.n.neg.mulT h1.d).up (show m+k≤k+m by omega)) (Nat.le_refl _)) ((h1.d.mulT h2.d).up (by omega))
theorem bS_mul {k m:Nat} {a b:Rat} (h1:Bd k (rp a)) (h2:Bd m (rp b)):Bd (k+m) (rp (a*b)) :=
 bd_divS (dd_ne a b) (rat_mul a b) (h1.n.mulT h2.n) (h1.d.mulT h2.d)
theorem bS_div {k m:Nat} {a b:Rat} (h1:Bd k (rp a)) (h2:Bd m (rp b)) (h0:b≠0):Bd (k+m) (rp (a / b)) :=
 bd_divS (Int.mul_ne_zero (Int.ne_of_gt (bW a)) (num_ne h0)) (rat_div a b h0) (h1.n.mulT h2.d) (h1.d.mulT h2.n)
def EB (k n:Nat) (M:Mx):Prop:=∀ i j,i<n→j≤n→Bd k (rp (M i j))
theorem stage_EB {k n l:Nat} {M E:Mx} (h:EB k n M) (hs:stageV n l M=some E):EB (4*k+1) n E:=by
 obtain ⟨p,hp,rfl⟩:=stage_inv hs
 have hln:l<n:=by have:=hp.1; have:=hp.2.1; omega
 have hsw:EB k n (qE M l p):=fun i j hi hj => by
  unfold qE
  split
  ·exact h p j hp.2.1 hj
  ·split
   ·exact h l j hln hj
   ·exact h i j hi hj
 have hpv:qE M l p l l≠0:=by
  have:qE M l p l=M p:=by unfold qE; rw [if_pos rfl]
  rw [this]
  exact hp.2.2.1
 intro i j hi hj
 unfold bE
 cases hd:dec (i=l∨qE M l p i l=0∨j<l)
 ·have:=bS_sub (hsw i j hi hj) (bS_mul (bS_div (hsw i l hi (by omega)) (hsw l l hln (by omega)) hpv) (hsw l j hln hj))
  exact this.to (by omega)
 ·exact (hsw i j hi hj).to (by omega)
theorem gauss_EB {k n:Nat} {M:Mx} (h:EB k n M):∀ {l:Nat} {E:Mx},uN n M l=some E→EB (4 ^ l*(k+1) - 1) n E
 | 0,E,hg => by
  cases hg
  exact fun i j hi hj => (h i j hi hj).to (by omega)
 | l+1,E,hg => by
  simp only [uN] at hg
  cases h1:uN n M l with
  | none => rw [h1] at hg; cases hg
  | some S =>
   rw [h1,Option.bind_some] at hg
   have h2:=stage_EB (gauss_EB h h1) hg
   intro i j hi hj
   have h3:1≤4 ^ l*(k+1):=Nat.mul_pos (Nat.pow_pos (by decide)) (by omega)
   refine (h2 i j hi hj).to ?_
   rw [Nat.pow_succ,Nat.mul_comm (4 ^ l) 4,Nat.mul_assoc]
   omega
theorem gb_of {k n:Nat} {M:Mx} (h:EB k n M) (hn:n≤3) (hk:64*(k+1)≤2097152):GB 2097152 n M:=fun l R hl hg i j hi hj => by
 have h1:4 ^ l≤64:=by
  have:l≤3:=by omega
  calc 4 ^ l≤4 ^ 3:=Nat.pow_le_pow_right (by decide) this
   _=64:=rfl
 have h2:4 ^ l*(k+1)≤64*(k+1):=Nat.mul_le_mul_right _ h1
 exact (gauss_EB h hg i j hi hj).to (by omega)
def vC (n:Nat):List Rat:=List.replicate n 0
theorem mH (n:Nat):CpL 0 (vC n):=⟨1,by decide,by decide,fun q hq => by
 have:=(List.mem_replicate.1 hq).2
 subst this
 exact Cap.zero⟩
theorem cp_unit (n k:Nat):CpL 0 (tW n k):=⟨1,by decide,by decide,fun q hq => by
 unfold tW at hq
 rcases List.mem_or_eq_of_mem_set hq with h | h
 ·have:=(List.mem_replicate.1 h).2
  subst this
  exact Cap.zero
 ·subst h
  exact Cap.one⟩
theorem gM (n k:Nat):(tW n k).length=n:=by simp [tW]
end Go.Proofs.YtokckcnfojjpjaaGreat

namespace Go.Proofs.YtokckcnfojjpjaaGreat
open Go.RowKit
set_option maxRecDepth 20000
structure MtPR (K o:Nat) (bx:Nat→Nat) (ds:Nat→List C) (H:Hp) (r m w:Nat) (P:Nat→Nat→Prop) (M:Mx):Prop where
 T:H[o]?=some (.live ⟨(List.range r).map (rowQR bx (fun _ => some w) w)++List.replicate (m - r) .nilSl,uD,.rw⟩)
 le:r≤m
 ne:∀ i,i<r→bx i≠o
 row:∀ i,i<r→H[bx i]?=some (.live ⟨ds i,yC,.rw⟩)
 len:∀ i,i<r→(ds i).length=w*4
 at_:∀ i j,i<r→j<w→P i j→IR K (((ds i).drop (j*4)).take 4) (M i j)
 inj:∀ i k,i<r→k<r→bx i=bx k→i=k
section
variable {K o:Nat} {bx:Nat→Nat} {ds:Nat→List C} {H:Hp} {r m w:Nat} {P:Nat→Nat→Prop} {M:Mx}
theorem MtPR.start (h:H[o]?=some (.live ⟨List.replicate m .nilSl,uD,.rw⟩)):MtPR K o bx ds H 0 m w P M :=
 ⟨by simpa using h,by omega,fun i h => by omega,fun i h => by omega,fun i h => by omega,fun i j h => by omega,fun i k h => by omega⟩
theorem MtPR.grow {X:Hp} (h:MtPR K o bx ds H r m w P M):MtPR K o bx ds (H++X) r m w P M :=
 ⟨by rw [List.getElem?_append_left (lt_of_getElem? h.T)]; exact h.T,h.le,h.ne,fun i hi => by rw [List.getElem?_append_left (lt_of_getElem? (h.row i hi))]; exact h.row i hi,h.len,h.at_,h.inj⟩
theorem MtPR.weak {Q:Nat→Nat→Prop} (h:MtPR K o bx ds H r m w P M) (hq:∀ i j,i<r→j<w→Q i j→P i j):MtPR K o bx ds H r m w Q M :=
 ⟨h.T,h.le,h.ne,h.row,h.len,fun i j hi hj q => h.at_ i j hi hj (hq i j hi hj q),h.inj⟩
theorem MtPR.other {p:Nat} {s:Slot} (h:MtPR K o bx ds H r m w P M) (hp:p≠o) (hb:∀ i,i<r→p≠bx i):MtPR K o bx ds (H.set p s) r m w P M :=
 ⟨by rw [List.getElem?_set_ne hp]; exact h.T,h.le,h.ne,fun i hi => by rw [List.getElem?_set_ne (hb i hi)]; exact h.row i hi,h.len,h.at_,h.inj⟩
theorem splice_atR {cells:List C} {i:Nat} {c:C} (hi:i<cells.length):splice cells i [c]=cells.set i c:=by
 unfold splice
 rw [List.set_eq_take_append_cons_drop,if_pos hi]
 simp
theorem MtPR.next {b:Nat} {cells:List C} (h:MtPR K o bx ds H r m w P M) (hr:r<m) (hb:H[b]?=some (.live ⟨cells,yC,.rw⟩)) (hbn:∀ i,i<r→bx i≠b) (hbo:b≠o) (hl:cells.length=w*4) (hP:∀ j,¬ P r j) :
  MtPR K o (fun i => if i=r then b else bx i) (fun i => if i=r then cells else ds i) (H.set o (.live ⟨splice ((List.range r).map (rowQR bx (fun _ => some w) w)++List.replicate (m - r) .nilSl) r [.sl b 0 w (some w) 4],uD,.rw⟩)) (r+1) m w P M:=by
 have hlt:=lt_of_getElem? h.T
 refine ⟨?_,hr,fun i hi => ?_,fun i hi => ?_,fun i hi => ?_,fun i j hi hj p => ?_,fun i k hi hk he => ?_⟩
 ·rw [List.getElem?_set_self hlt]
  congr 3
  rw [splice_atR (by simp; omega)]
  apply List.ext_getElem
  ·simp
   omega
  ·intro i h1 h2
   simp only [List.length_set,List.length_append,List.length_map,List.length_range,List.length_replicate] at h1
   rw [List.getElem_set]
   by_cases e:r=i
   ·subst e
    rw [if_pos rfl,List.getElem_append_left (by simp)]
    simp [rowQR]
   ·rw [if_neg e]
    by_cases e2:i<r
    ·rw [List.getElem_append_left (by simpa using e2),List.getElem_append_left (by simp; omega)]
     simp [rowQR,Ne.symm e]
    ·rw [List.getElem_append_right (by simp; omega),List.getElem_append_right (by simp; omega)]
     simp
 ·by_cases e:i=r
  ·rw [if_pos e]; exact hbo
  ·rw [if_neg e]; exact h.ne i (by omega)
 ·by_cases e:i=r
  ·rw [if_pos e,if_pos e,List.getElem?_set_ne (Ne.symm hbo)]; exact hb
  ·rw [if_neg e,if_neg e,List.getElem?_set_ne (Ne.symm (h.ne i (by omega)))]; exact h.row i (by omega)
 ·by_cases e:i=r
  ·rw [if_pos e]; exact hl
  ·rw [if_neg e]; exact h.len i (by omega)
 ·by_cases e:i=r
  ·subst e; exact absurd p (hP j)
  ·rw [if_neg e]; exact h.at_ i j (by omega) hj p
 ·by_cases e:i=r <;> by_cases e2:k=r
  ·omega
  ·rw [if_pos e,if_neg e2] at he
   exact absurd he.symm (hbn k (by omega))
  ·rw [if_neg e,if_pos e2] at he
   exact absurd he (hbn i (by omega))
  ·rw [if_neg e,if_neg e2] at he
   exact h.inj i k (by omega) (by omega) he
theorem MtPR.put {i j:Nat} {cs:List C} (h:MtPR K o bx ds H r m w P M) (hi:i<r) (hj:j<w) (hc:IR K cs (M i j)) :
  MtPR K o bx (fun i' => if i'=i then splice (ds i) (j*4) cs else ds i') (H.set (bx i) (.live ⟨splice (ds i) (j*4) cs,yC,.rw⟩)) r m w (fun i' j' => P i' j'∨(i'=i∧j'=j)) M:=by
 have hlt:=lt_of_getElem? (h.row i hi)
 have hcl:cs.length=4:=(elR K).len (show (elR K).p cs (M i j) from hc)
 have hle:j*4+4≤(ds i).length:=by
  rw [h.len i hi]
  omega
 refine ⟨?_,h.le,h.ne,fun i' hi' => ?_,fun i' hi' => ?_,fun i' j' hi' hj' p => ?_,h.inj⟩
 ·rw [List.getElem?_set_ne (h.ne i hi)]
  exact h.T
 ·by_cases e:i'=i
  ·subst e
   rw [List.getElem?_set_self hlt,if_pos rfl]
  ·rw [List.getElem?_set_ne (fun x => e (h.inj i' i hi' hi x.symm)),if_neg e]
   exact h.row i' hi'
 ·by_cases e:i'=i
  ·subst e
   rw [if_pos rfl,sW (by rw [hcl]; exact hle)]
   exact h.len i' hi'
  ·rw [if_neg e]
   exact h.len i' hi'
 ·by_cases e:i'=i
  ·subst e
   rw [if_pos rfl]
   by_cases e2:j'=j
   ·subst e2
    rw [nB (by omega) hcl]
    exact hc
   ·rw [splice_otherQR hle hcl e2]
    exact h.at_ i' j' hi' hj' (p.resolve_right fun x => e2 x.2)
  ·rw [if_neg e]
   exact h.at_ i' j' hi' hj' (p.resolve_right fun x => e x.1)
theorem MtPR.ldT {off i:Nat} {Q:V→Prop} (h:MtPR K o bx ds H r m w P M) (hi:i<r) (ho:off=i) (k:Q (.c (.sl (bx i) 0 w (some w) 4))):yW H[o]? false 1 off Q:=by
 subst ho
 refine xA h.T ?_ k
 simp only
 rw [List.getElem?_append_left (by simpa using hi)]
 simp [hi,rowQR]
theorem MtPR.st {off i j:Nat} {cs:List C} {ds':Option (List C)} {Q:Nat→Slot→Prop} (h:MtPR K o bx ds H r m w P M) (hi:i<r) (hj:j<w) (ho:off=j*4) (hd:ds'=some cs) (hl:cs.length=4) (k:Q (bx i) (.live ⟨splice (ds i) (j*4) cs,yC,.rw⟩)):xB H[bx i]? (bx i) 4 off ds' Q:=by
 subst ho
 have hl2:=h.len i hi
 exact yY (h.row i hi) hd (by rw [hl]; rfl) (by omega) k
theorem MtPR.full (h:MtPR K o bx ds H m m w P M) (hp:∀ i j,i<m→j<w→P i j):MtR K o bx (fun _ => some w) ds H.length H m w M :=
 ⟨by simpa using h.T,lt_of_getElem? h.T,fun i hi => ⟨h.ne i hi,lt_of_getElem? (h.row i hi)⟩,h.row,h.len,fun i j hi hj => h.at_ i j hi hj (hp i j hi hj),h.inj⟩
end
end Go.Proofs.YtokckcnfojjpjaaGreat

namespace Go.Proofs.YtokckcnfojjpjaaGreat
open Go.RowKit
set_option maxRecDepth 20000
attribute [local irreducible] yA semH semC qLen qNil qIad qSlc qIdx yW yN xB appX appI slcX awpF yQ xH xopF xN qval lval seqQ xI xY xW xT cnd arith IntKind.wrap
theorem ref01_Q_IsInt {k:Nat} {cs:List C} {q:Rat} (hx:IR k cs q) (hk:k+1≤1073741824):semC Tryz.prog n_ref01_Q_IsInt [.agg cs] (uC ((rp q).2=1)):=by
 refine yD ok_ref01_Q_IsInt rfl (show HFVs [.agg cs] from ⟨hx.hf,trivial⟩) ?_
 obtain ⟨c1,m1,c2,m2,x,rfl,hn,hd,ex⟩:=hx.is.four
 refine go13 ?_
 refine yB (sP hn hd) (fun u hu => ?_)
 obtain ⟨es,rfl,h1⟩:=hu
 rw [←ex] at h1
 refine go13 ?_
 refine yB ref01_one (fun u hu => ?_)
 obtain ⟨gs,rfl,h3⟩:=hu
 refine go13 ?_
 refine yB (ref01_whole_cmp (n:=k+1) h1 h3 (hx.bd.d.up (by omega)) ((Sz.one (n:=0)).up (by omega)) hk) (fun u hu => ?_)
 obtain rfl:=hu
 refine go13 ?_
 have e:yA Cm.eql (sgn ((rp q).2 - 1)) 0=dec ((rp q).2=1):=by
  by_cases h:(rp q).2=1
  ·rw [yF.2 h,h]
   simp [yA,sgn]
  ·rw [yG.2 h]
   have hs:sgn ((rp q).2 - 1)≠0:=by unfold sgn; split <;> (try split) <;> omega
   simp [yA,hs]
 rw [e]
 exact ⟨_,.c (.hf trivial),_,rfl,yF⟩
end Go.Proofs.YtokckcnfojjpjaaGreat

namespace Go.Proofs.YtokckcnfojjpjaaGreat
open Go.RowKit
set_option maxRecDepth 20000
def fr (a b:Int):Rat:=(a:Rat) / (b:Rat)
def oneQ:Rat:=((1:Int):Rat)
def growP (m:Int):List Rat × List Rat :=
 if m=0 then ([oneQ,oneQ],[oneQ]) else if m=1∨m=2 then ([oneQ,oneQ,fr 1 2],[oneQ]) else
  if m=3 then ([oneQ,oneQ,fr 1 2,fr 1 6,fr 1 24],[oneQ]) else if m=4 then ([oneQ],[oneQ,((-1:Int):Rat)]) else ([oneQ,fr 1 2],[oneQ,fr (-1) 2])
def GroK (E:El Rat) (m:Int) (u:V):Prop:=∃ c d,u=.tup [.c c,.c d]∧Ls E c (growP m).1∧Ls E d (growP m).2
theorem GroK.of {E:El Rat} {m:Int} {c d:C} {p q:List Rat} {H:Hp} (h:growP m=(p,q)) (hc:Ls E c p) (hd:Ls E d q):∃ e,FzV H (.tup [.c c,.c d]) e∧GroK E m e:=⟨_,.tup (.cons (.c (.hf hc.hf)) (.cons (.c (.hf hd.hf)) .nil)),c,d,rfl,by rw [h]; exact hc,by rw [h]; exact hd⟩
def grR (m:Int):List R2 × List R2 × Int:=if m<0∨6<m then ([],[],1) else if m=6 then ([],[],6) else ((growP m).1.map rp,(growP m).2.map rp,0)
def GrK (m:Int) (u:V):Prop:=∃ c d,u=.tup [.c c,.c d,i64 (grR m).2.2]∧Ls elP c (grR m).1∧Ls elP d (grR m).2.1
theorem GrK.of {m e:Int} {c d:C} {p q:List R2} {H:Hp} (h:grR m=(p,q,e)) (hc:Ls elP c p) (hd:Ls elP d q):∃ a,FzV H (.tup [.c c,.c d,i64 e]) a∧GrK m a:=⟨_,.tup (.cons (.c (.hf hc.hf)) (.cons (.c (.hf hd.hf)) (.cons (.c (.hf trivial)) .nil))),c,d,by rw [h]; rfl,by rw [h]; exact hc,by rw [h]; exact hd⟩
def ordR (m:Int):Int × Int:=if m=0∨m=4 then (1,0) else if m=1∨m=2∨m=5∨m=6 then (2,0) else if m=3 then (4,0) else (0,1)
def OrdK (m:Int) (u:V):Prop:=u=.tup [i64 (ordR m).1,i64 (ordR m).2]
theorem OrdK.of {m a b:Int} {H:Hp} (h:ordR m=(a,b)):∃ d,FzV H (.tup [i64 a,i64 b]) d∧OrdK m d:=⟨_,.tup (.cons (.c (.hf trivial)) (.cons (.c (.hf trivial)) .nil)),by unfold OrdK; rw [h]; rfl⟩
def absV (q:Rat):Rat:=if q<0 then -q else q
noncomputable def stabR (m:Int) (z:R2):Bool × Int :=
 bif dec (m<0∨6<m∨¬ wE z.1 z.2) then (false,1) else bif dec (m=6) then (false,6) else bif dec (ev (growP m).2 (rt z)=0) then (false,4) else
  (dec (absV (ev (growP m).1 (rt z) / ev (growP m).2 (rt z))≤((1:Int):Rat)),0)
def StabK (m:Int) (z:R2) (u:V):Prop:=u=.tup [.c (.bool (stabR m z).1),i64 (stabR m z).2]
theorem StabK.of {m e:Int} {z:R2} {b:Bool} {H:Hp} (h:stabR m z=(b,e)):∃ d,FzV H (.tup [.c (.bool b),i64 e]) d∧StabK m z d:=⟨_,.tup (.cons (.c (.hf trivial)) (.cons (.c (.hf trivial)) .nil)),by unfold StabK; rw [h]; rfl⟩
attribute [local irreducible] yA semH semC qLen qNil qIad qSlc qIdx yW yN xB appX appI slcX awpF yQ xH xopF xN qval lval seqQ xI xY xW xT cnd arith IntKind.wrap
end Go.Proofs.YtokckcnfojjpjaaGreat

namespace Go.Proofs.YtokckcnfojjpjaaGreat
open Go.RowKit
set_option maxRecDepth 20000
attribute [local irreducible] yA semH semC qLen qNil qIad qSlc qIdx yW yN xB appX appI slcX awpF yQ xH xopF xN qval lval seqQ xI xY xW xT cnd arith IntKind.wrap
theorem bB {a b:Int} (h1:a.natAbs<4294967296) (h2:b.natAbs<4294967296) (h0:b≠0):semC Tryz.prog n_ref01_Half [i64 a,i64 b] (RQV 1 (fr a b)):=by
 refine yD ok_ref01_Half rfl (show HFVs [i64 a,i64 b] from ⟨trivial,trivial,trivial⟩) ?_
 have s1:Sz 1 a:=by unfold Sz; simpa using h1
 have s2:Sz 1 b:=by unfold Sz; simpa using h2
 refine go2 ?_
 refine yB (gO (v:=a) (by omega) (by omega)) (fun u hu => ?_)
 obtain ⟨cs,rfl,g1⟩:=hu
 refine go2 ?_
 refine yB (gO (v:=b) (by omega) (by omega)) (fun u hu => ?_)
 obtain ⟨ds,rfl,g2⟩:=hu
 refine go2 ?_
 refine yB (vH (fun u hu => RRK.rat hu.rr h0 (Rat.divInt_eq_div a b) s1 s2) (pD (k:=1) g1 g2 s1 s2 (by decide) h0)) (fun u hu => ?_)
 obtain ⟨es,rfl,g3⟩:=hu
 obtain ⟨_,_,_,_,rfl⟩:=id g3.four
 refine go2 ?_
 exact RQV.fz g3
theorem law19_same {c d:C} {l m:List R2} (hc:Ls elP c l) (hd:Ls elP d m) (hl:l.length<1073741824) (hm:m.length<1073741824):semC Tryz.prog n_law19_same [.c c,.c d] (uC (l=m)):=by
 refine yD ok_law19_same rfl (show HFVs [.c c,.c d] from ⟨hc.hf,hd.hf,trivial⟩) ?_
 refine go13 ?_
 cases h1:yA Cm.neq (l.length:Int) (m.length:Int)
 case true =>
  simp [yA] at h1
  refine go13 ?_
  exact ⟨_,.c (.hf trivial),false,rfl,⟨fun h => (by cases h),fun h => absurd (congrArg List.length h) (by omega)⟩⟩
 simp [yA] at h1
 refine go13 ?_
 refine yR (fun w vs H => ∃ (i:Nat),vs=[.c c,.c d,i64 l.length,i64 i]∧w=l.length - i∧i≤l.length∧l.take i=m.take i) (by rfl) ⟨0,rfl,rfl,by omega,rfl⟩ ?_
 rintro w vs H ⟨i,rfl,rfl,i1,i2⟩
 refine go13 ?_
 cases hi:yA Cm.lss (i:Int) (l.length:Int)
 case false =>
  simp [yA] at hi
  rw [vE (by omega),vE (by omega)] at i2
  refine go13 ?_
  exact ⟨_,.c (.hf trivial),true,rfl,⟨fun _ => i2,fun _ => rfl⟩⟩
 simp [yA] at hi
 refine go13 ?_
 refine uA hc (i:=i) hi (by omega) rfl (fun cs hcs => ?_)
 obtain rfl:=(show cs=ratC _ from hcs)
 refine go13 ?_
 refine uA hd (i:=i) (by omega) (by omega) rfl (fun ds hds => ?_)
 obtain rfl:=(show ds=ratC _ from hds)
 refine go13 ?_
 rw [ne_pair l[i] (m[i]'(by omega))]
 cases he:dec (l[i]=m[i]'(by omega))
 case false =>
  refine go13 ?_
  refine ⟨_,.c (.hf trivial),false,rfl,⟨fun h => (by cases h),fun h => absurd ?_ (yG.1 he)⟩⟩
  subst h
  rfl
 refine go13 ?_
 rw [yZ i (by omega)]
 refine l_n (by rfl) (n':=l.length - (i+1)) (by omega) ⟨i+1,rfl,rfl,by omega,?_⟩
 rw [xU hi,xU (show i<m.length by omega),i2,yF.1 he]
end Go.Proofs.YtokckcnfojjpjaaGreat

namespace Go.Proofs.YtokckcnfojjpjaaGreat
open Go.RowKit
set_option maxRecDepth 20000
theorem half_int {z:Int}:(rp ((z:Rat)*fr 1 2)).2=1↔z % 2=0:=by
 have e:(z:Rat)*fr 1 2=(z:Rat) / 2:=by
  unfold fr
  rw [Rat.div_def,Rat.div_def]
  simp
 rw [e]
 constructor
 ·intro h
  have h1:((z:Rat) / 2).den=1:=by
   have h:(((z:Rat) / 2).den:Int)=1:=h
   omega
  have h2:(z:Rat) / 2=((((z:Rat) / 2).num:Int):Rat):=by
   have h3:=Rat.num_divInt_den ((z:Rat) / 2)
   rw [h1,Rat.divInt_eq_div] at h3
   refine h3.symm.trans ?_
   rw [Rat.div_def]
   have h4:((((1:Nat):Int):Rat))⁻¹=1:=by decide +kernel
   rw [h4,Rat.mul_one]
  generalize ((z:Rat) / 2).num=w at h2
  have h3:(z:Rat)=((w*2:Int):Rat):=by
   have h5:(z:Rat)=(w:Rat)*2:=by rw [←h2,Rat.div_mul_cancel (by decide)]
   rw [h5]
   simp
  have h4:z=w*2:=by exact_mod_cast h3
  omega
 ·intro h
  obtain ⟨w,rfl⟩:∃ w,z=w*2:=⟨z / 2,by omega⟩
  have h2:((w*2:Int):Rat) / 2=(w:Rat):=by
   simp
   rw [Rat.mul_div_cancel (by decide)]
  rw [h2,nV]
attribute [local irreducible] yA semH semC qLen qNil qIad qSlc qIdx yW yN xB appX appI slcX awpF yQ xH xopF xN qval lval seqQ xI xY xW xT cnd arith IntKind.wrap
theorem ref01_Rounded {k:Nat} {cs:List C} {q:Rat} {g:Int} (hx:IR k cs q) (hg:0<g) (hg2:g<4294967296) (hk:3*k+20≤134217728):semC Tryz.prog n_ref01_Rounded [.agg cs,i64 g] (RQV (k+4) (qG q g)):=by
 refine yD ok_ref01_Rounded rfl (show HFVs [.agg cs,i64 g] from ⟨hx.hf,trivial,trivial⟩) ?_
 obtain ⟨a0,a1,a2,a3,rfl⟩:=id hx.four
 refine go13 ?_
 refine yH (r_Int (g:=g) (by omega)) (fun u hu => ?_)
 obtain ⟨es,rfl,g1⟩:=hu
 refine go13 ?_
 refine yH (qH hx g1 (by omega)) (fun u hu => ?_)
 obtain ⟨fs,rfl,g2⟩:=hu
 have e:(q*((g:Int):Rat))=q*(g:Rat):=rfl
 obtain ⟨f0,f1,f2,f3,rfl⟩:=id g2.four
 refine go13 ?_
 refine yB (ref01_Q_Floor (k:=k+1) g2.is g2.bd (by omega)) (fun u hu => ?_)
 obtain ⟨ks,rfl,g3⟩:=hu
 have sk:Sz (k+1) (flQ (q*g)):=fl_bd g2.bd
 have hI:IR (k+1) ks ((flQ (q*g):Int):Rat):=⟨by rw [nV]; exact g3,by rw [nV]; exact ⟨sk,(Sz.one (n:=0)).up (by omega),by simp⟩⟩
 obtain ⟨k0,k1,k2,k3,rfl⟩:=id hI.four
 refine go13 ?_
 refine goN ?_
 refine yB (r_Sub2 g2 hI (by omega)) (fun u hu => ?_)
 obtain ⟨ds,rfl,g4⟩:=hu
 obtain ⟨_,_,_,_,rfl⟩:=id g4.four
 refine go13 ?_
 refine yB (bB (a:=1) (b:=2) (by decide) (by decide) (by decide)) (fun u hu => ?_)
 obtain ⟨hs,rfl,g5⟩:=hu
 obtain ⟨_,_,_,_,rfl⟩:=id g5.four
 refine go13 ?_
 refine yB (r_Cmp2 g4 g5 (by omega)) (fun u hu => ?_)
 obtain rfl:=hu
 have e12:fr 1 2=(1:Rat) / 2:=by unfold fr; simp
 refine go13 ?_
 rw [cq_gtr,e12]
 cases c1:dec ((1:Rat) / 2<q*g - flQ (q*g))
 case true =>
  have c1:=yF.1 c1
  have hr:pA q g=flQ (q*g)+1:=by
   unfold pA
   rw [yF.2 (by first | exact .inl c1 | exact .inr ⟨c2,hz⟩)]
   rfl
  refine go13 ?_
  refine yH (r_Int (g:=1) (by decide)) (fun u hu => ?_)
  obtain ⟨us,rfl,gu⟩:=hu
  obtain ⟨_,_,_,_,rfl⟩:=id gu.four
  refine go13 ?_
  refine yB (tE hI gu (by omega)) (fun u hu => ?_)
  obtain ⟨ws,rfl,gw⟩:=hu
  obtain ⟨_,_,_,_,rfl⟩:=id gw.four
  rw [show ((flQ (q*g):Int):Rat)+((1:Int):Rat)=((flQ (q*g)+1:Int):Rat) by simp] at gw
  have gw:=gw.up (show k+1+1+1≤k+3 by omega)
  refine go13 ?_
  refine goN ?_
  refine yH (r_Int (g:=g) (by omega)) (fun u hu => ?_)
  obtain ⟨ps,rfl,g7⟩:=hu
  refine go13 ?_
  refine yB (r_Div2 gw g7 (by omega) (by intro h; have h:((g:Int):Rat)=((0:Int):Rat):=h; have h:g=0:=(by exact_mod_cast h); omega)) (fun u hu => ?_)
  obtain ⟨gs,rfl,g8⟩:=hu
  obtain ⟨_,_,_,_,rfl⟩:=id g8.four
  refine go13 ?_
  rw [show qG q g=_ / ((g:Int):Rat) by unfold qG; rw [hr]]
  exact RQV.fz (g8.up (by omega))
 have c1:=yG.1 c1
 refine go13 ?_
 rw [cq_eql]
 cases c2:dec (q*g - flQ (q*g)=(1:Rat) / 2)
 case false =>
  have c2:=yG.1 c2
  have hr:pA q g=flQ (q*g):=by
   unfold pA
   rw [yG.2 (by rintro (h | ⟨h,_⟩) <;> contradiction)]
   rfl
  have gw:=hI.up (show k+1≤k+3 by omega)
  refine go13 ?_
  refine yH (r_Int (g:=g) (by omega)) (fun u hu => ?_)
  obtain ⟨ps,rfl,g7⟩:=hu
  refine go13 ?_
  refine yB (r_Div2 gw g7 (by omega) (by intro h; have h:((g:Int):Rat)=((0:Int):Rat):=h; have h:g=0:=(by exact_mod_cast h); omega)) (fun u hu => ?_)
  obtain ⟨gs,rfl,g8⟩:=hu
  obtain ⟨_,_,_,_,rfl⟩:=id g8.four
  refine go13 ?_
  rw [show qG q g=_ / ((g:Int):Rat) by unfold qG; rw [hr]]
  exact RQV.fz (g8.up (by omega))
 have c2:=yF.1 c2
 refine go13 ?_
 refine yH (bB (a:=1) (b:=2) (by decide) (by decide) (by decide)) (fun u hu => ?_)
 obtain ⟨hs,rfl,g5'⟩:=hu
 refine go13 ?_
 refine yH (qH hI g5' (by omega)) (fun u hu => ?_)
 obtain ⟨ms,rfl,g6⟩:=hu
 refine go13 ?_
 refine yH (ref01_Q_IsInt g6 (by omega)) (fun u hu => ?_)
 obtain ⟨z,rfl,hz⟩:=hu
 rw [half_int] at hz
 cases z
 case true =>
  have hz:=hz.1 rfl
  have hr:pA q g=flQ (q*g):=by
   unfold pA
   rw [yG.2 (by
    rintro (h | ⟨_,h⟩)
    ·exact c1 h
    ·omega)]
   rfl
  have gw:=hI.up (show k+1≤k+3 by omega)
  refine go13 ?_
  refine yH (r_Int (g:=g) (by omega)) (fun u hu => ?_)
  obtain ⟨ps,rfl,g7⟩:=hu
  refine go13 ?_
  refine yB (r_Div2 gw g7 (by omega) (by intro h; have h:((g:Int):Rat)=((0:Int):Rat):=h; have h:g=0:=(by exact_mod_cast h); omega)) (fun u hu => ?_)
  obtain ⟨gs,rfl,g8⟩:=hu
  obtain ⟨_,_,_,_,rfl⟩:=id g8.four
  refine go13 ?_
  rw [show qG q g=_ / ((g:Int):Rat) by unfold qG; rw [hr]]
  exact RQV.fz (g8.up (by omega))
 have hz:flQ (q*g) % 2=1:=by
  rcases Int.emod_two_eq (flQ (q*g)) with h | h
  ·cases hz.2 h
  ·exact h
 have hr:pA q g=flQ (q*g)+1:=by
  unfold pA
  rw [yF.2 (by first | exact .inl c1 | exact .inr ⟨c2,hz⟩)]
  rfl
 refine go13 ?_
 refine yH (r_Int (g:=1) (by decide)) (fun u hu => ?_)
 obtain ⟨us,rfl,gu⟩:=hu
 obtain ⟨_,_,_,_,rfl⟩:=id gu.four
 refine go13 ?_
 refine yB (tE hI gu (by omega)) (fun u hu => ?_)
 obtain ⟨ws,rfl,gw⟩:=hu
 obtain ⟨_,_,_,_,rfl⟩:=id gw.four
 rw [show ((flQ (q*g):Int):Rat)+((1:Int):Rat)=((flQ (q*g)+1:Int):Rat) by simp] at gw
 have gw:=gw.up (show k+1+1+1≤k+3 by omega)
 refine go13 ?_
 refine goN ?_
 refine yH (r_Int (g:=g) (by omega)) (fun u hu => ?_)
 obtain ⟨ps,rfl,g7⟩:=hu
 refine go13 ?_
 refine yB (r_Div2 gw g7 (by omega) (by intro h; have h:((g:Int):Rat)=((0:Int):Rat):=h; have h:g=0:=(by exact_mod_cast h); omega)) (fun u hu => ?_)
 obtain ⟨gs,rfl,g8⟩:=hu
 obtain ⟨_,_,_,_,rfl⟩:=id g8.four
 refine go13 ?_
 rw [show qG q g=_ / ((g:Int):Rat) by unfold qG; rw [hr]]
 exact RQV.fz (g8.up (by omega))
end Go.Proofs.YtokckcnfojjpjaaGreat

namespace Go.Proofs.YtokckcnfojjpjaaGreat
open Go.RowKit
set_option maxRecDepth 20000
section
variable {α:Type} {E:El α}
theorem app_xs {F R:Hp} {el:TypeId} {es bytes:Nat} {s x:Option V} {K:V→Hp→Prop} {c d:C} {xs:List C} {out l:List α} {H:Hp} (hH:H=F++R) (ho:Out E el F.length (F++R) c out) (hs:s=some (.c c)) (hx:x=some (.c d)) (hxs:tJ (F++R) E.s d=some xs) (hm:slLen d=some l.length) (hxl:xs.length=l.length*E.s) (hxe:Els E xs l) (he:E.s=es) (hl:(out.length+l.length)*bytes≤140737488355328∧out.length+l.length≤140737488355328)
  (k:∀ R' c',Out E el F.length (F++R') c' (out++l)→K (.c c') (F++R')):appX H el es bytes s x K:=by
 subst hH hs hx he
 cases ho with
 | nil =>
  simp only [appX,hxs,hm]
  refine xL (by simp [hxl]) ?_
  rcases Nat.eq_zero_or_pos l.length with h0 | h0
  ·have:l=[]:=List.eq_nil_of_length_eq_zero h0
   subst this
   exact gS rfl (k _ _ .nil)
  ·refine jH (by cases hL:l.length; omega; rfl) (xL (by simp only [List.length_nil,Nat.zero_add] at hl; simp only [Bool.and_eq_true,yF]; exact hl) ?_)
   have:=k (R++[.live ⟨xs,el,.rw⟩]) (.sl (F++R).length 0 l.length none E.s) (.sl (cells:=xs) (ds:=xs) (by simp) (by rw [←List.append_assoc]; exact yL _ _) rfl (by simp only [List.nil_append]; exact List.take_of_length_le (by omega)) hxe)
   rw [←List.append_assoc] at this
   exact this
 | @sl b n co' cells ds l' hm' hb hn hc h =>
  subst hn
  have hdl:(cells.take (out.length*E.s)).length=out.length*E.s:=by rw [hc]; exact h.len
  have hle:out.length*E.s≤cells.length:=by
   rw [List.length_take] at hdl
   omega
  have hlt:=lt_of_getElem? hb
  refine app_sl (cs:=cells) (xs:=xs) (m:=l.length) rfl rfl hxs hm hxl hb hle hl.1 hl.2 ?_
  have e:(F++R).set b .dead=F++R.set (b - F.length) .dead:=List.set_append_right _ _ hm'
  have e':(F++R).length=(F++R.set (b - F.length) .dead).length:=by simp
  rw [e,e',List.append_assoc]
  refine k _ _ (.sl (cells:=cells.take (out.length*E.s)++xs) (ds:=ds++xs) (by simp) (by rw [←List.append_assoc]; exact yL _ _) (by simp) ?_ (h.append hxe))
  rw [hc]
  exact List.take_of_length_le (by rw [List.length_append,List.length_append,h.len,hxl,Nat.add_mul]; exact Nat.le_refl _)
end
theorem Out.stS {k:Nat} {el:TypeId} {m b n i off:Nat} {co:Option Nat} {H:Hp} {l:List Rat} {a:Rat} {cs:List C} {ds':Option (List C)} {Q:Nat→Slot→Prop} (h:Out (elQ k) el m H (.sl b 0 n co 6) l) (hi:i<l.length) (hoff:off=i*6) (hd:ds'=some cs) (hc:IQ k cs a)
  (q:∀ cells,m≤b→b<H.length→Out (elQ k) el m (H.set b (.live ⟨cells,el,.rw⟩)) (.sl b 0 n co 6) (l.set i a)→Q b (.live ⟨cells,el,.rw⟩)):xB H[b]? b 6 off ds' Q:=by
 subst hoff
 cases h with
 | @sl _ _ _ cells ds _ hm hb hn hcd hE =>
  have hcl:cs.length=6:=(elQ k).len (show (elQ k).p cs a from hc)
  have hdl:=hE.len
  have hle:l.length*6≤cells.length:=by
   have:=congrArg List.length hcd
   rw [List.length_take,hdl] at this
   have e6:(elQ k).s=6:=rfl
   rw [e6] at this
   omega
  have hlt:=lt_of_getElem? hb
  refine yY hb hd (by rw [hcl]; rfl) (by omega) (q _ hm hlt ?_)
  refine .sl hm (List.getElem?_set_self hlt) (by simp [hn]) ?_ (hE.set hi hc)
  rw [List.length_set,←hcd]
  have e6:(elQ k).s=6:=rfl
  rw [e6]
  have hi6:i*6+6≤l.length*6:=by omega
  unfold splice
  have e1:(cells.take (i*6)++cs).length=i*6+6:=by simp; omega
  rw [List.take_append,List.take_of_length_le (by omega),e1,List.take_take,Nat.min_eq_left (by omega),List.drop_take,hcl]
theorem mJ {H:Hp} {b:Nat} {cells:List C} {el:TypeId} (hb:H[b]?=some (.live ⟨cells,el,.rw⟩)):vV H [b]=H.set b (.live ⟨cells,el,.ro⟩):=by
 simp only [vV,hb]
theorem Out.closeOne {α:Type} {E:El α} {el:TypeId} {m b off n es:Nat} {co:Option Nat} {H:Hp} {l:List α} (h:Out E el m H (.sl b off n co es) l):∃ cells d,vV H [b]=H.set b (.live ⟨cells,el,.ro⟩)∧Fz (·=.ro) (vV H [b]) (.sl b off n co es) d∧Ls E d l:=by
 cases h with
 | @sl _ _ _ cells ds _ hm hb hn hc h =>
  subst hn
  refine ⟨cells,_,mJ hb,.sl (bx:=⟨cells,el,.ro⟩) (by rw [mJ hb]; exact List.getElem?_set_self (lt_of_getElem? hb)) rfl (by simp) ?_,.imm h⟩
  simp only [List.drop_zero]
  rw [hc]
  exact .hf h.hf
structure HI (H:Hp) (s a t z:Slot):Prop where
 s:H[0]?=some s
 a:H[1]?=some a
 t:H[2]?=some t
 z:H[3]?=some z
theorem HI.grow {H X:Hp} {s a t z:Slot} (h:HI H s a t z):HI (H++X) s a t z :=
 ⟨by rw [List.getElem?_append_left (lt_of_getElem? h.s)]; exact h.s,by rw [List.getElem?_append_left (lt_of_getElem? h.a)]; exact h.a,by rw [List.getElem?_append_left (lt_of_getElem? h.t)]; exact h.t,by rw [List.getElem?_append_left (lt_of_getElem? h.z)]; exact h.z⟩
theorem HI.set {H:Hp} {s a t z:Slot} {p:Nat} {x:Slot} (h:HI H s a t z) (hp:3<p):HI (H.set p x) s a t z :=
 ⟨by rw [List.getElem?_set_ne (by omega)]; exact h.s,by rw [List.getElem?_set_ne (by omega)]; exact h.a,by rw [List.getElem?_set_ne (by omega)]; exact h.t,by rw [List.getElem?_set_ne (by omega)]; exact h.z⟩
theorem imp_last {f:List Pl} {x:List Rat} {a t:Rat} {i:Nat} (hi:i<x.length) (hb:(yU f (vC x.length) t).length=x.length):impM f x a t i x.length=x[i]+a*(yU f (vC x.length) t)[i]'(by omega):=by
 unfold impM
 rw [if_neg (by omega)]
 have e1:x.getD i 0=x[i]:=by simp [List.getD,hi]
 have e2:(yU f (List.replicate x.length 0) t).getD i 0=(yU f (vC x.length) t)[i]'(by omega):=by
  show (yU f (vC x.length) t).getD i 0=_
  simp [List.getD,show i<(yU f (vC x.length) t).length by omega]
 rw [e1,e2]
theorem imp_col {f:List Pl} {x:List Rat} {a t:Rat} {i k:Nat} (hi:i<x.length) (hk:k<x.length) (hb:(yU f (vC x.length) t).length=x.length) (hc:(yU f (tW x.length k) t).length=x.length) :
  impM f x a t i k=if i=k then -(a*((yU f (tW x.length k) t)[i]'(by omega) - (yU f (vC x.length) t)[i]'(by omega)))+1 else -(a*((yU f (tW x.length k) t)[i]'(by omega) - (yU f (vC x.length) t)[i]'(by omega))):=by
 unfold impM
 rw [if_pos hk]
 have e1:(yU f (tW x.length k) t).getD i 0=(yU f (tW x.length k) t)[i]'(by omega):=by simp [List.getD,show i<(yU f (tW x.length k) t).length by omega]
 have e2:(yU f (List.replicate x.length 0) t).getD i 0=(yU f (vC x.length) t)[i]'(by omega):=by
  show (yU f (vC x.length) t).getD i 0=_
  simp [List.getD,show i<(yU f (vC x.length) t).length by omega]
 rw [e1,e2]
theorem cp_mem {n:Nat} {l:List Rat} {q:Rat} (h:CpL n l) (hq:q∈l):CpL n [q]:=h.sub (fun r hr => by simp at hr; subst hr; exact hq)
theorem cp_bd {n k:Nat} {q:Rat} (h:CpL n [q]) (hk:n+n<32*k):Bd k (rp q):=h.bd hk (by simp)
theorem imp_bd {f:List Pl} {x:List Rat} {a t:Rat} (hf:nH (x.length+1) f) (hl:f.length=x.length) (bx:CpL 10500 x) (bA:CpL 46 [a]) (bT:CpL 140 [t]):EB 2400 x.length (impM f x a t):=by
 intro i j hi hj
 have hb:(yU f (vC x.length) t).length=x.length:=by rw [wA,hl]
 have cb:CpL 9000 (yU f (vC x.length) t):=(wO (vD hf (show _=(vC x.length).length+1 by simp [vC])) (mH _) bT).mono (by decide)
 rcases Nat.lt_or_ge j x.length with h | h
 ·have hc:(yU f (tW x.length j) t).length=x.length:=by rw [wA,hl]
  have cc:CpL 9000 (yU f (tW x.length j) t):=(wO (vD hf (show _=(tW x.length j).length+1 by rw [gM])) (cp_unit _ _) bT).mono (by decide)
  rw [imp_col hi h hb hc]
  have c1:=cp_neg (vF bA (cp_sub (cp_mem cc (List.getElem_mem (show i<_ by omega))) (cp_mem cb (List.getElem_mem (show i<_ by omega)))))
  split
  ·exact cp_bd (uW c1 (uV (z:=1) (n:=1) (by decide))) (by decide)
  ·exact cp_bd c1 (by decide)
 ·have:j=x.length:=by omega
  subst this
  rw [imp_last hi hb]
  exact cp_bd (uW (cp_mem bx (List.getElem_mem hi)) (vF bA (cp_mem cb (List.getElem_mem (show i<_ by omega))))) (by decide)
attribute [local irreducible] yA semH semC qLen qNil qIad qSlc qIdx yW yN xB appX appI slcX awpF yQ xH xopF xN qval lval seqQ xI xY xW xT cnd arith IntKind.wrap
theorem slices_CloneB {k b n:Nat} {co:Option Nat} {kd:BK} {cells:List C} {l:List Rat} {H:Hp} {K:V→Hp→Prop} (hb:H[b]?=some (.live ⟨cells,xK,kd⟩)) (hE:Els (elQ k) cells l) (hn:n=l.length) (hl:l.length<1048576) (h:∀ R' c',Out (elQ k) xK H.length (H++R') c' l→K (.c c') (H++R')):semH Tryz.prog n_slices_Clone_sl_num_Q_num_Q [.c (.sl b 0 n co 6)] H K:=by
 refine sR ok_slices_Clone_sl_num_Q_num_Q rfl ?_
 have hlen:=hE.len
 refine go2 ?_
 refine app_xs (F:=H) (R:=[.live ⟨[],xK,.rw⟩]) (c:=.sl H.length 0 0 (some 0) 6) (out:=[]) (E:=elQ k) (xs:=cells) rfl (.sl (cells:=[]) (ds:=[]) (Nat.le_refl _) (yL _ _) rfl rfl .nil) (by rfl) (by rfl) ?_ (by rw [hn]; rfl) hlen hE rfl (by simp; omega) (fun R' c' q => ?_)
 ·simp only [tJ]
  rw [List.getElem?_append_left (lt_of_getElem? hb),hb]
  simp only [List.drop_zero]
  rw [List.take_of_length_le (by rw [hlen,hn]; exact Nat.le_refl _)]
 ·refine go2 ?_
  exact h R' c' q
theorem step_implicit {cf cx:C} {ch ca ct:List C} {f:List Pl} {x:List Rat} {h a t:Rat} (hc:Ls elM cf f) (hf:nH (x.length+1) f) (hl:f.length=x.length) (hh:IQ 4194304 ch h) (hx:Ls (elQ 4194304) cx x) (ha:IQ 4194304 ca a) (ht:IQ 4194304 ct t) (bx:CpL 10500 x) (bA:CpL 46 [a]) (bT:CpL 140 [t]) :
  semC Tryz.prog n_step_system_implicit [.agg (cf :: ch),.c cx,.agg ca,.agg ct] (OneK (tP f x a t)):=by
 refine yD ok_step_system_implicit rfl (show HFVs [.agg (cf :: ch),.c cx,.agg ca,.agg ct] from ⟨⟨hc.hf,hh.hf⟩,hx.hf,ha.hf,ht.hf,trivial⟩) ?_
 have h3:x.length≤3:=by rw [←hl]; exact hf.len
 obtain ⟨a0,a1,a2,a3,a4,a5,rfl⟩:=id hh.six
 obtain ⟨b0,b1,b2,b3,b4,b5,rfl⟩:=id ha.six
 obtain ⟨d0,d1,d2,d3,d4,d5,rfl⟩:=id ht.six
 have hzl:(vC x.length).length=x.length:=by simp [vC]
 refine go13 ?_
 refine vG (by rfl) (by rfl) ⟨by omega,by omega,by omega,by omega⟩ ?_
 refine go13 ?_
 refine goN ?_
 refine yR (fun w vs H => ∃ (i:Nat) (cells:List C),vs=[.c cx,.c (.ptr 0 0),.c (.ptr 1 0),.c (.ptr 2 0),i64 x.length,.c (.sl 3 0 x.length (some x.length) 6),i64 x.length,i64 i]∧H=[.live ⟨[cf,a0,a1,a2,a3,a4,a5],vX,.rw⟩,.live ⟨[b0,b1,b2,b3,b4,b5],xK,.rw⟩,.live ⟨[d0,d1,d2,d3,d4,d5],xK,.rw⟩,.live ⟨cells,xK,.rw⟩]∧w=x.length - i∧i≤x.length∧Fill (elQ 4194304) zeroQ x.length cells ((vC x.length).take i)) (by rfl) ⟨0,_,rfl,rfl,rfl,by omega,.zero rfl⟩ ?_
 rintro w vs H ⟨i,cells,rfl,rfl,rfl,i1,i2⟩
 have hcl:cells.length=x.length*6:=i2.len
 have htl:((vC x.length).take i).length=i:=by rw [List.length_take,hzl]; omega
 refine go13 ?_
 cases hi:yA Cm.lss (i:Int) (x.length:Int)
 case true =>
  simp [yA] at hi
  refine go13 ?_
  refine yB (nL (g:=0) (by decide)) (fun u hu => ?_)
  obtain ⟨es,rfl,g0⟩:=hu
  have g0:IQ 4194304 es 0:=g0.up (by decide)
  obtain ⟨_,_,_,_,_,_,rfl⟩:=id g0.six
  refine go13 ?_
  rw [yZ i (by omega)]
  have h4:=i2.put (cs:=_) (a:=(0:Rat)) (by rw [htl]; exact hi) g0
  rw [htl] at h4
  refine l_n (by rfl) (n':=x.length - (i+1)) (by omega) ⟨i+1,_,rfl,by rw [Nat.zero_add,Int.toNat_natCast]; rfl,rfl,by omega,?_⟩
  rw [xU (by rw [hzl]; exact hi),show (vC x.length)[i]'(by omega)=0 by simp [vC]]
  exact h4
 simp [yA] at hi
 have ei:i=x.length:=by omega
 subst ei
 rw [vE (by omega)] at i2
 have hz:=i2.done hzl
 have lz:Ls (elQ 4194304) (.imm x.length cells) (vC x.length):=by
  have:=Ls.imm hz
  rwa [hzl] at this
 clear i1 i2 htl
 refine go13 ?_
 refine yS [3] (.cons (.agg (.hf ⟨hc.hf,hh.hf⟩)) (.cons (.c (.sl (bx:=⟨cells,xK,.ro⟩) (ds:=cells) (by rfl) rfl (by simp) ?_)) (.cons (.agg (.hf ht.hf)) .nil))) (step_rate hc (vD hf (show _=(vC x.length).length+1 by rw [hzl])) hh lz ht (by omega) ((mH _).append bT) (by decide)) (fun u hu => ?_)
 ·simp only [List.drop_zero]
  rw [List.take_of_length_le (by omega)]
  exact .hf hz.hf
 obtain ⟨cb,rfl,lb⟩:=hu
 have lb:Ls (elQ 4194304) cb (yU f (vC x.length) t):=lb
 have hbl:(yU f (vC x.length) t).length=x.length:=by rw [wA,hl]
 refine go13 ?_
 refine goN ?_
 refine vG (by rfl) (by rfl) ⟨by omega,by omega,by omega,by omega⟩ ?_
 refine go13 ?_
 refine goN ?_
 have hEB:=imp_bd hf hl bx bA bT
 have cbB:∀ i (h:i<x.length),CpL 9000 [(yU f (vC x.length) t)[i]'(by omega)]:=fun i h => cp_mem ((wO (vD hf (show _=(vC x.length).length+1 by rw [hzl])) (mH _) bT).mono (by decide)) (List.getElem_mem (by omega))
 obtain ⟨M,hM⟩:∃ M,M=impM f x a t:=⟨_,rfl⟩
 rw [←hM] at hEB
 have h7:(List.replicate ((x.length:Int).toNat) [C.nilSl]).flatten=List.replicate x.length C.nilSl:=by
  rw [Int.toNat_natCast]
  induction x.length with
  | zero => rfl
  | succ n ih => rw [List.replicate_succ,List.flatten_cons,ih]; rfl
 rw [h7]
 refine yR (fun w vs H => ∃ (i:Nat) (bx:Nat→Nat) (ds:Nat→List C),vs=[.c cx,.c (.ptr 0 0),.c (.ptr 1 0),.c (.ptr 2 0),i64 x.length,.c (.sl 3 0 x.length (some x.length) 6),.c cb,.c (.sl 4 0 x.length (some x.length) 1),i64 x.length,i64 i]∧w=x.length - i∧i≤x.length∧HI H (.live ⟨[cf,a0,a1,a2,a3,a4,a5],vX,.rw⟩) (.live ⟨[b0,b1,b2,b3,b4,b5],xK,.rw⟩) (.live ⟨[d0,d1,d2,d3,d4,d5],xK,.rw⟩) (.live ⟨cells,xK,.ro⟩)∧(∀ l,l<i→4<bx l)∧MtP 2097152 4 bx ds H i x.length (x.length+1) (fun i' j' => i'<i∧j'=x.length) M) (by rfl) ⟨0,fun _ => 0,fun _ => [],rfl,rfl,by omega,⟨rfl,rfl,rfl,rfl⟩,fun l h => by omega,.start rfl⟩ ?_
 rintro w vs H ⟨i,bx',ds,rfl,rfl,i1,hI,i2,hP⟩
 refine go13 ?_
 cases hi:yA Cm.lss (i:Int) (x.length:Int)
 case true =>
  simp [yA] at hi
  have hpl:=lt_of_getElem? hP.T
  refine go13 ?_
  rw [yZ x.length (by omega)]
  refine vG (by rfl) (by rfl) ⟨by omega,by omega,by omega,by omega⟩ ?_
  refine go13 ?_
  have hG:=hP.grow (X:=[.live ⟨(List.replicate ((x.length+1:Nat):Int).toNat zeroQ).flatten,xK,.rw⟩])
  refine yY hG.T (by rfl) (by rfl) (by simp; omega) ?_
  have hN:=hG.next (b:=H.length) hi (yL _ _) (fun l hl => by have:=lt_of_getElem? (hP.row l hl); omega) (by omega) (by simp [zeroQ]) (fun j h => by omega)
  have hIN:=(hI.grow (X:=[.live ⟨(List.replicate ((x.length+1:Nat):Int).toNat zeroQ).flatten,xK,.rw⟩])).set (p:=4) (x:=.live ⟨splice ((List.range i).map (rowQ bx' (fun _ => some (x.length+1)) (x.length+1))++List.replicate (x.length - i) .nilSl) i [.sl H.length 0 (x.length+1) (some (x.length+1)) 6],pI,.rw⟩) (by omega)
  rw [show 0+(i:Int).toNat*1=i by omega]
  have hge:∀ l,l<i+1→4<(fun l => if l=i then H.length else bx' l) l:=fun l hl => by
   simp only
   split
   ·omega
   ·exact i2 l (by omega)
  generalize (fun l => if l=i then H.length else bx' l)=bx2 at hN hge
  generalize (fun l => if l=i then (List.replicate ((x.length+1:Nat):Int).toNat zeroQ).flatten else ds l)=ds2 at hN
  refine go13 ?_
  refine hN.ldT (i:=i) (by omega) (by omega) ?_
  refine go13 ?_
  refine uA hx (i:=i) hi (by omega) rfl (fun e1 he1 => ?_)
  refine go13 ?_
  refine yJ hIN.a (by rfl) ?_
  refine go13 ?_
  refine uA lb (i:=i) (by omega) (by omega) rfl (fun e2 he2 => ?_)
  refine go13 ?_
  refine yH (jN ha he2 (by decide)) (fun u hu => ?_)
  obtain ⟨e3,rfl,he3⟩:=hu
  refine go13 ?_
  refine yH (bC he1 he3 (by decide)) (fun u hu => ?_)
  obtain ⟨e4,rfl,he4⟩:=hu
  have hval:x[i]+a*(yU f (vC x.length) t)[i]'(by omega)=M i x.length:=by rw [hM]; exact (imp_last hi hbl).symm
  rw [hval] at he4
  have he4:=he4.tightS ((hEB i x.length hi (Nat.le_refl _)).to (show 2400≤2097152 by decide))
  obtain ⟨_,_,_,_,_,_,rfl⟩:=id he4.six
  refine go13 ?_
  refine hN.st (i:=i) (j:=x.length) (by omega) (by omega) (by omega) (by rfl) (by rfl) ?_
  have hP2:=hN.put (i:=i) (j:=x.length) (by omega) (by omega) he4
  have hb4:=hge i (by omega)
  refine go13 ?_
  rw [yZ i (by omega)]
  exact l_n (by rfl) (n':=x.length - (i+1)) (by omega) ⟨i+1,bx2,_,rfl,rfl,by omega,hIN.set (by omega),hge,hP2.weak (fun i' j' h1 h2 h3 => by
   rcases Nat.lt_or_ge i' i with h | h
   ·exact .inl ⟨h,h3.2⟩
   ·exact .inr ⟨by omega,h3.2⟩)⟩
 simp [yA] at hi
 have ei:i=x.length:=by omega
 subst ei
 refine go13 ?_
 refine yR (fun w vs H => ∃ (k:Nat) (bx:Nat→Nat) (ds:Nat→List C),vs=[.c (.ptr 0 0),.c (.ptr 1 0),.c (.ptr 2 0),i64 x.length,.c (.sl 3 0 x.length (some x.length) 6),.c cb,.c (.sl 4 0 x.length (some x.length) 1),i64 x.length,i64 k]∧w=x.length - k∧k≤x.length∧HI H (.live ⟨[cf,a0,a1,a2,a3,a4,a5],vX,.rw⟩) (.live ⟨[b0,b1,b2,b3,b4,b5],xK,.rw⟩) (.live ⟨[d0,d1,d2,d3,d4,d5],xK,.rw⟩) (.live ⟨cells,xK,.ro⟩)∧(∀ l,l<x.length→4<bx l)∧MtP 2097152 4 bx ds H x.length x.length (x.length+1) (fun i' j' => j'=x.length∨j'<k) M) (by rfl) ⟨0,bx',ds,rfl,rfl,by omega,hI,i2,hP.weak (fun i' j' h1 h2 h3 => ⟨h1,by omega⟩)⟩ ?_
 clear hP i2 hI i1 bx' ds
 rintro w vs H ⟨k,bx',ds,rfl,rfl,k1,hI,k2,hP⟩
 refine go13 ?_
 cases hk:yA Cm.lss (k:Int) (x.length:Int)
 case false =>
  simp [yA] at hk
  have ek:k=x.length:=by omega
  subst ek
  have hF:=hP.full (fun i' j' h1 h2 => by omega)
  refine go13 ?_
  refine step_gauss hF (by omega) (gb_of hEB h3 (by decide)) (fun v H' hg => ?_)
  rcases hg with ⟨hs,rfl⟩ | ⟨y,b,yc,hs,rfl,hb,hE⟩
  ·refine go13 ?_
   exact ⟨_,.tup (.cons (.c (.hf trivial)) (.cons (.c (.hf trivial)) .nil)),.inr ⟨by unfold tP; rw [←hM]; exact hs,rfl⟩⟩
  ·have hyl:y.length=x.length:=by
    unfold jL at hs
    cases hg2:uN x.length M x.length with
    | none => rw [hg2] at hs; cases hs
    | some R =>
     rw [hg2] at hs
     simp at hs
     subst hs
     simp
   have hlen:=hE.len
   have ly:=Ls.imm hE
   rw [hyl] at ly
   refine go13 ?_
   exact ⟨_,.tup (.cons (.c (fz_sl (bx:=⟨yc,xK,.rw⟩) (ds:=yc) hb (by simp) (by simp) (by rw [List.drop_zero,List.take_of_length_le (by simp only; rw [hlen,hyl]; exact Nat.le_refl _)]) hE.hf)) (.cons (.c (.hf trivial)) .nil)),.inl ⟨y,_,by unfold tP; rw [←hM]; exact hs,rfl,ly⟩⟩
 simp [yA] at hk
 have hpl:=lt_of_getElem? hP.T
 refine go13 ?_
 refine slices_CloneB hI.z hz hzl.symm (by omega) (fun R c q => ?_)
 obtain ⟨b,co,rfl⟩:=q.isSl (by omega)
 rw [hzl] at q ⊢
 refine go13 ?_
 refine yB (nL (g:=1) (by decide)) (fun u hu => ?_)
 obtain ⟨e1,rfl,g1⟩:=hu
 have g1:IQ 4194304 e1 1:=g1.up (by decide)
 obtain ⟨_,_,_,_,_,_,rfl⟩:=id g1.six
 refine go13 ?_
 refine q.stS (i:=k) (by omega) (by omega) (by rfl) g1 (fun cl q1 q2 q3 => ?_)
 refine go13 ?_
 have hI1:=(hI.grow (X:=R)).set (p:=b) (x:=.live ⟨cl,xK,.rw⟩) (by omega)
 refine yJ hI1.s (by rfl) ?_
 refine go13 ?_
 refine yJ hI1.t (by rfl) ?_
 refine go13 ?_
 obtain ⟨cl2,dd,w1,w2,w3⟩:=q3.closeOne
 have w3:Ls (elQ 4194304) dd (tW x.length k):=w3
 have ccp:CpL 9000 (yU f (tW x.length k) t):=(wO (vD hf (show _=(tW x.length k).length+1 by rw [gM])) (cp_unit _ _) bT).mono (by decide)
 refine yS [b] (.cons (.agg (.hf ⟨hc.hf,hh.hf⟩)) (.cons (.c w2) (.cons (.agg (.hf ht.hf)) .nil))) (step_rate hc (vD hf (show _=(tW x.length k).length+1 by rw [gM])) hh w3 ht (by rw [gM]; omega) ((cp_unit _ _).append bT) (by decide)) (fun u hu => ?_)
 obtain ⟨cc,rfl,lc⟩:=hu
 have lc:Ls (elQ 4194304) cc (yU f (tW x.length k) t):=lc
 have hcl2:(yU f (tW x.length k) t).length=x.length:=by rw [wA,hl]
 rw [w1,List.set_set]
 have hI2:=(hI.grow (X:=R)).set (p:=b) (x:=.live ⟨cl2,xK,.ro⟩) (by omega)
 have hP2:=(hP.grow (X:=R)).other (p:=b) (s:=.live ⟨cl2,xK,.ro⟩) (by omega) (fun l hl => by have:=lt_of_getElem? (hP.row l hl); omega)
 refine go13 ?_
 refine yR (fun w vs H => ∃ (i:Nat) (bx:Nat→Nat) (ds:Nat→List C),vs=[.c (.ptr 0 0),.c (.ptr 1 0),.c (.ptr 2 0),i64 x.length,.c (.sl 3 0 x.length (some x.length) 6),.c cb,.c (.sl 4 0 x.length (some x.length) 1),i64 k,.c cc,i64 x.length,i64 k,i64 x.length,i64 i]∧w=x.length - i∧i≤x.length∧HI H (.live ⟨[cf,a0,a1,a2,a3,a4,a5],vX,.rw⟩) (.live ⟨[b0,b1,b2,b3,b4,b5],xK,.rw⟩) (.live ⟨[d0,d1,d2,d3,d4,d5],xK,.rw⟩) (.live ⟨cells,xK,.ro⟩)∧(∀ l,l<x.length→4<bx l)∧MtP 2097152 4 bx ds H x.length x.length (x.length+1) (fun i' j' => j'=x.length∨j'<k∨(j'=k∧i'<i)) M) (by rfl) ⟨0,bx',ds,rfl,rfl,by omega,hI2,k2,hP2.weak (fun i' j' h1 h2 h3 => by omega)⟩ ?_
 clear hP2 hI2 hI1 hP hI k2 bx' ds q q1 q2 q3 w1 w2 hpl
 rintro w vs H ⟨i,bx',ds,rfl,rfl,i1,hI,i2,hP⟩
 refine go13 ?_
 cases hi:yA Cm.lss (i:Int) (x.length:Int)
 case false =>
  simp [yA] at hi
  refine go13 ?_
  rw [yZ k (by omega)]
  exact l_n (by rfl) (n':=x.length - (k+1)) (by omega) ⟨k+1,bx',ds,rfl,rfl,by omega,hI,i2,hP.weak (fun i' j' h1 h2 h3 => by omega)⟩
 simp [yA] at hi
 have hpl:=lt_of_getElem? hP.T
 have hIg:=hI.grow (X:=List.replicate (0+1) .unb)
 refine go13 ?_
 refine yJ hIg.a (by rfl) ?_
 refine go13 ?_
 refine uA lc (i:=i) (by omega) (by omega) rfl (fun e1 he1 => ?_)
 refine go13 ?_
 refine uA lb (i:=i) (by omega) (by omega) rfl (fun e2 he2 => ?_)
 refine go13 ?_
 refine gD (T:=some H.length) (by rfl) (logOk_low (n:=H.length) ⟨trivial,trivial,trivial,trivial,trivial,trivial,trivial,trivial,show 1<H.length by omega,trivial⟩) ?_
 refine bL ?_
 refine go13 ?_
 refine yH (q_Sub2 he1 he2 (by decide)) (fun u hu => ?_)
 obtain ⟨e3,rfl,he3⟩:=hu
 refine go13 ?_
 refine yH (jN ha he3 (by decide)) (fun u hu => ?_)
 obtain ⟨e4,rfl,he4⟩:=hu
 refine go13 ?_
 refine yH (q_Neg he4 (by decide)) (fun u hu => ?_)
 obtain ⟨e5,rfl,he5⟩:=hu
 obtain ⟨u0,u1,u2,u3,u4,u5,rfl⟩:=id he5.six
 have hbd:=(hEB i k hi (by omega)).to (show 2400≤2097152 by decide)
 have hcol:=imp_col (a:=a) (t:=t) hi hk hbl hcl2
 rw [←hM] at hcol
 refine go13 ?_
 refine goN ?_
 cases hik:yA Cm.eql (i:Int) (k:Int)
 case true =>
  simp [yA] at hik
  have hik:i=k:=by omega
  rw [if_pos hik] at hcol
  refine go13 ?_
  refine yH (nL (g:=1) (by decide)) (fun u hu => ?_)
  obtain ⟨e6,rfl,he6⟩:=hu
  refine go13 ?_
  refine yB (bC he5 he6 (by decide)) (fun u hu => ?_)
  obtain ⟨e7,rfl,he7⟩:=hu
  have hv:-(a*((yU f (tW x.length k) t)[i]'(by omega) - (yU f (vC x.length) t)[i]'(by omega)))+((1:Int):Rat)=M i k:=by rw [hcol]; rfl
  rw [hv] at he7
  have he7:=he7.tightS hbd
  obtain ⟨v0,v1,v2,v3,v4,v5,rfl⟩:=id he7.six
  refine go13 ?_
  refine goN ?_
  have hPg:=hP.grow (X:=[.live ⟨[v0,v1,v2,v3,v4,v5],xK,.rw⟩])
  have hIg2:=hI.grow (X:=[.live ⟨[v0,v1,v2,v3,v4,v5],xK,.rw⟩])
  refine hPg.ldT (i:=i) hi (by omega) ?_
  refine go13 ?_
  refine hPg.st (i:=i) (j:=k) hi (by omega) (by omega) (by rfl) (by rfl) ?_
  have hP3:=hPg.put (i:=i) (j:=k) hi (by omega) he7
  have hb4:=i2 i hi
  refine go13 ?_
  rw [yZ i (by omega)]
  exact l_n (by rfl) (n':=x.length - (i+1)) (by omega) ⟨i+1,bx',_,rfl,rfl,by omega,hIg2.set (by omega),i2,hP3.weak (fun i' j' h1 h2 h3 => by omega)⟩
 simp [yA] at hik
 have hik:i≠k:=by omega
 rw [if_neg hik] at hcol
 rw [←hcol] at he5
 have he7:=he5.tightS hbd
 obtain ⟨v0,v1,v2,v3,v4,v5,hvv⟩:∃ v0 v1 v2 v3 v4 v5,[u0,u1,u2,u3,u4,u5]=[v0,v1,v2,v3,v4,v5]:=⟨_,_,_,_,_,_,rfl⟩
 rw [hvv] at he7 ⊢
 refine go13 ?_
 have hPg:=hP.grow (X:=[.live ⟨[v0,v1,v2,v3,v4,v5],xK,.rw⟩])
 have hIg2:=hI.grow (X:=[.live ⟨[v0,v1,v2,v3,v4,v5],xK,.rw⟩])
 refine hPg.ldT (i:=i) hi (by omega) ?_
 refine go13 ?_
 refine hPg.st (i:=i) (j:=k) hi (by omega) (by omega) (by rfl) (by rfl) ?_
 have hP3:=hPg.put (i:=i) (j:=k) hi (by omega) he7
 have hb4:=i2 i hi
 refine go13 ?_
 rw [yZ i (by omega)]
 exact l_n (by rfl) (n':=x.length - (i+1)) (by omega) ⟨i+1,bx',_,rfl,rfl,by omega,hIg2.set (by omega),i2,hP3.weak (fun i' j' h1 h2 h3 => by omega)⟩
end Go.Proofs.YtokckcnfojjpjaaGreat

namespace Go.Proofs.YtokckcnfojjpjaaGreat
open Go.RowKit
set_option maxRecDepth 20000
attribute [local irreducible] yA semH semC qLen qNil qIad qSlc qIdx yW yN xB appX appI slcX awpF yQ xH xopF xN qval lval seqQ xI xY xW xT cnd arith IntKind.wrap
section
variable {cf cx:C} {ch ct:List C} {f:List Pl} {x:List Rat} {h t:Rat}
theorem step_imp5 (hi:pQ cf cx ch ct f x h t):semC Tryz.prog n_step_method_5 [.agg (cf :: ch),.c cx,.agg ct] (OneK (tP f x h (t+h))):=by
 refine yD ok_step_method_5 rfl hi.hfv ?_
 have h3:=hi.x3
 obtain ⟨a0,a1,a2,a3,a4,a5,rfl⟩:=id hi.hh.six
 obtain ⟨b0,b1,b2,b3,b4,b5,rfl⟩:=id hi.ht.six
 have ct':CpL 140 [t+h]:=(uW hi.bt hi.bh).mono (by decide)
 refine go13 ?_
 refine yH (bC hi.ht hi.hh (by decide)) (fun u hu => ?_)
 obtain ⟨r3,rfl,g3⟩:=hu
 have g3:=g3.tightS (ct'.bd (k:=4194304) (by decide) (by simp))
 refine go13 ?_
 refine yB (step_implicit hi.hc hi.hf hi.hl hi.hh hi.hx hi.hh g3 (hi.bx.mono (by decide)) (hi.bh.mono (by decide)) ct') (fun u hu => ?_)
 rcases hu with ⟨y,cy,hy,rfl,ly⟩ | ⟨hy,rfl⟩
 ·refine go13 ?_
  rw [hy]
  exact OneK.fz ly
 ·refine go13 ?_
  rw [hy]
  exact ⟨_,.tup (.cons (.c (.hf trivial)) (.cons (.c (.hf trivial)) .nil)),.inr ⟨rfl,rfl⟩⟩
theorem step_imp6 {hs:List C} (hi:pQ cf cx ch ct f x h t) (hhs:IQ 1 hs vJ):semC Tryz.prog n_step_method_6 [.agg (cf :: ch),.c cx,.agg ct,.c (.ipt hs)] (OneK (mA f h t x)):=by
 refine yD ok_step_method_6 rfl (show HFVs [.agg (cf :: ch),.c cx,.agg ct,.c (.ipt hs)] from ⟨⟨hi.hc.hf,hi.hh.hf⟩,hi.hx.hf,hi.ht.hf,hhs.hf,trivial⟩) ?_
 have h3:=hi.x3
 obtain ⟨a0,a1,a2,a3,a4,a5,rfl⟩:=id hi.hh.six
 obtain ⟨b0,b1,b2,b3,b4,b5,rfl⟩:=id hi.ht.six
 obtain ⟨d0,d1,d2,d3,d4,d5,rfl⟩:=id hhs.six
 have bh2:=vF hi.bh nP
 have c1:CpL 9720 (yU f x t):=(wO hi.hf hi.bx hi.bt).mono (by decide)
 have n1:(yU f x t).length=x.length:=by rw [wA,hi.hl]
 have c2:CpL 10500 (yM x (h*vJ) (yU f x t)):=(wJ hi.bx bh2 c1).mono (by decide)
 have n2:(yM x (h*vJ) (yU f x t)).length=x.length:=yX n1
 have ct':CpL 140 [t+h]:=(uW hi.bt hi.bh).mono (by decide)
 refine go13 ?_
 refine yB (jN hi.hh hhs (by decide)) (fun u hu => ?_)
 obtain ⟨r5,rfl,g5⟩:=hu
 have g5:=g5.tightS (bh2.bd (k:=4194304) (by decide) (by simp))
 obtain ⟨e0,e1,e2,e3,e4,e5,rfl⟩:=id g5.six
 refine go13 ?_
 refine yH (pW hi hi.hx rfl hi.ht hi.bx hi.bt (by decide)) (fun u hu => ?_)
 obtain ⟨r1,rfl,l1⟩:=hu
 refine go13 ?_
 refine yH (uX (x3:=h3) hi.hx hi.bx g5 bh2 l1 n1 c1 (by decide)) (fun u hu => ?_)
 obtain ⟨r2,rfl,l2⟩:=hu
 refine go13 ?_
 refine yH (bC hi.ht hi.hh (by decide)) (fun u hu => ?_)
 obtain ⟨r3,rfl,g3⟩:=hu
 have g3:=g3.tightS (ct'.bd (k:=4194304) (by decide) (by simp))
 refine go13 ?_
 refine yB (step_implicit hi.hc (vD hi.hf (show _=(yM x (h*vJ) (yU f x t)).length+1 by rw [n2])) (by rw [n2,hi.hl]) hi.hh l2 g5 g3 c2 bh2 ct') (fun u hu => ?_)
 rcases hu with ⟨y,cy,hy,rfl,ly⟩ | ⟨hy,rfl⟩
 ·refine go13 ?_
  rw [show mA f h t x=some y from hy]
  exact OneK.fz ly
 ·refine go13 ?_
  rw [show mA f h t x=none from hy]
  exact ⟨_,.tup (.cons (.c (.hf trivial)) (.cons (.c (.hf trivial)) .nil)),.inr ⟨rfl,rfl⟩⟩
end
theorem imp_all (m:Int):ImpOk m:=fun hi _ hhs => ⟨fun _ => step_imp5 hi,fun _ => step_imp6 hi hhs⟩
end Go.Proofs.YtokckcnfojjpjaaGreat

namespace Go.Proofs.YtokckcnfojjpjaaGreat
open Go.RowKit
set_option maxRecDepth 20000
theorem ld_LRs {c:C} {l:List (List R2)} {n i:Nat} {K:V→Prop} (hc:Ls elLR c l) (hi:i<l.length) (hn:n=i) (h:∀ d,Ls elP d l[i]→l[i].length<1048576→K (.c d)):yN (c.ds.drop (n*1)) false 1 K:=by
 subst hn
 obtain ⟨cs,r,h1,h2⟩:=hc.els.get hi
 obtain ⟨d,rfl,h3,h4⟩:=h1
 have h2:c.ds.drop (n*1)=[d]++r:=h2
 rw [h2]
 exact h d h3 h4
attribute [local irreducible] yA semH semC qLen qNil qIad qSlc qIdx yW yN xB appX appI slcX awpF yQ xH xopF xN qval lval seqQ xI xY xW xT cnd arith IntKind.wrap
theorem law19_sameAll {c d:C} {l m:List (List R2)} (hc:Ls elLR c l) (hd:Ls elLR d m) (hl:l.length<1073741824) (hm:m.length<1073741824):semC Tryz.prog n_law19_sameAll [.c c,.c d] (uC (l=m)):=by
 refine yD ok_law19_sameAll rfl (show HFVs [.c c,.c d] from ⟨hc.hf,hd.hf,trivial⟩) ?_
 refine go13 ?_
 cases h1:yA Cm.neq (l.length:Int) (m.length:Int)
 case true =>
  simp [yA] at h1
  refine go13 ?_
  exact ⟨_,.c (.hf trivial),false,rfl,⟨fun h => (by cases h),fun h => absurd (congrArg List.length h) (by omega)⟩⟩
 simp [yA] at h1
 refine go13 ?_
 refine yR (fun w vs H => ∃ (i:Nat),vs=[.c c,.c d,i64 l.length,i64 i]∧w=l.length - i∧i≤l.length∧l.take i=m.take i) (by rfl) ⟨0,rfl,rfl,by omega,rfl⟩ ?_
 rintro w vs H ⟨i,rfl,rfl,i1,i2⟩
 refine go13 ?_
 cases hi:yA Cm.lss (i:Int) (l.length:Int)
 case false =>
  simp [yA] at hi
  rw [vE (by omega),vE (by omega)] at i2
  refine go13 ?_
  exact ⟨_,.c (.hf trivial),true,rfl,⟨fun _ => i2,fun _ => rfl⟩⟩
 simp [yA] at hi
 refine go13 ?_
 refine ld_LRs hc (i:=i) hi rfl (fun e1 he1 hb1 => ?_)
 refine go13 ?_
 refine ld_LRs hd (i:=i) (by omega) rfl (fun e2 he2 hb2 => ?_)
 refine go13 ?_
 refine yB (law19_same he1 he2 (by omega) (by omega)) (fun u hu => ?_)
 obtain ⟨z,rfl,hz⟩:=hu
 cases z
 case false =>
  refine go13 ?_
  refine ⟨_,.c (.hf trivial),false,rfl,⟨fun h => (by cases h),fun h => absurd (hz.2 ?_) (by decide)⟩⟩
  subst h
  rfl
 refine go13 ?_
 rw [yZ i (by omega)]
 refine l_n (by rfl) (n':=l.length - (i+1)) (by omega) ⟨i+1,rfl,rfl,by omega,?_⟩
 rw [xU hi,xU (show i<m.length by omega),i2,hz.1 rfl]
end Go.Proofs.YtokckcnfojjpjaaGreat

namespace Go.Proofs.YtokckcnfojjpjaaGreat
open Go.RowKit
set_option maxRecDepth 20000
theorem sc4 (x u a b c d:Rat):x+u*fr 1 6*a+u*fr 1 3*b+u*fr 1 3*c+u*fr 1 6*d=x+u / ((6:Int):Rat)*(a+((2:Int):Rat)*b+((2:Int):Rat)*c+((1:Int):Rat)*d):=by
 unfold fr
 have e2:((2:Int):Rat)=2:=rfl
 have e1:((1:Int):Rat)=1:=rfl
 have e6:((6:Int):Rat)=6:=rfl
 have e3:((3:Int):Rat)=3:=rfl
 rw [e1,e2,e3,e6]
 grind
theorem sc2 (x u a b:Rat):x+u*a+u*b=x+u*(a+((1:Int):Rat)*b):=by
 have e1:((1:Int):Rat)=1:=rfl
 rw [e1]
 grind
theorem along4 {x a b c d:List Rat} (u:Rat) (ha:a.length=x.length) (hb:b.length=x.length) (hc:c.length=x.length) (hd:d.length=x.length) :
  yM (yM (yM (yM x (u*fr 1 6) a) (u*fr 1 3) b) (u*fr 1 3) c) (u*fr 1 6) d=yM x (u / ((6:Int):Rat)) (yM (yM (yM a ((2:Int):Rat) b) ((2:Int):Rat) c) ((1:Int):Rat) d):=by
 apply List.ext_getElem
 ·simp [yM,ha,hb,hc,hd]
 ·intro i h1 h2
  simp only [yM,List.getElem_zipWith]
  exact sc4 _ _ _ _ _ _
theorem along2 {x a b:List Rat} (u:Rat) (ha:a.length=x.length) (hb:b.length=x.length):yM (yM x u a) u b=yM x u (yM a ((1:Int):Rat) b):=by
 apply List.ext_getElem
 ·simp [yM,ha,hb]
 ·intro i h1 h2
  simp only [yM,List.getElem_zipWith]
  exact sc2 _ _ _ _
noncomputable def sS (m:Int) (f:List Pl) (h t:Rat) (x:List Rat):Except Int (List Rat) :=
 bif dec ((m=4∨m=5)∧¬ AffS f) then .error 6 else match wF m f h t x with
 | none => .error 4
 | some y => .ok y
def ROneK (r:Except Int (List Rat)) (u:V):Prop:=(∃ y c,r=.ok y∧u=.tup [.c c,i64 0]∧Ls (elR 4194304) c y)∨(∃ e:Int,r=.error e∧e≠0∧u=.tup [.c .nilSl,i64 e])
theorem refOne_ok {m:Int} {f:List Pl} {h t:Rat} {x y:List Rat} (ha:m=4∨m=5→AffS f) (hy:wF m f h t x=some y):sS m f h t x=.ok y:=by
 unfold sS
 rw [yG.2 (fun hh => hh.2 (ha hh.1)),hy]
 rfl
theorem refOne_none {m:Int} {f:List Pl} {h t:Rat} {x:List Rat} (ha:m=4∨m=5→AffS f) (hy:wF m f h t x=none):sS m f h t x=.error 4:=by
 unfold sS
 rw [yG.2 (fun hh => hh.2 (ha hh.1)),hy]
 rfl
theorem refOne_aff {m:Int} {f:List Pl} {h t:Rat} {x:List Rat} (ha:(m=4∨m=5)∧¬ AffS f):sS m f h t x=.error 6:=by
 unfold sS
 rw [yF.2 ha]
 rfl
theorem ROneK.fz {m:Int} {f:List Pl} {h t:Rat} {x y:List Rat} {c:C} {H:Hp} (ha:m=4∨m=5→AffS f) (hy:wF m f h t x=some y) (hl:Ls (elR 4194304) c y):∃ d,FzV H (.tup [.c c,i64 0]) d∧ROneK (sS m f h t x) d :=
 ⟨_,.tup (.cons (.c (.hf hl.hf)) (.cons (.c (.hf trivial)) .nil)),.inl ⟨y,c,refOne_ok ha hy,rfl,hl⟩⟩
section
variable {m:Int} {f:List Pl} {t:R2} {x:List R2} {h:R2} {g n:Int}
theorem args_zero (h0:sV m f t x h g n=0):valS f=0∧(wE t.1 t.2∧tT x∧wE h.1 h.2)∧¬ (m<0∨6<m∨h.1≤0∨g<0∨1000000<g∨n<0∨60<n)∧x.length=f.length:=by
 by_cases h1:valS f=0
 ·by_cases h2:wE t.1 t.2∧tT x∧wE h.1 h.2
  ·by_cases h3:m<0∨6<m∨h.1≤0∨g<0∨1000000<g∨n<0∨60<n
   ·rw [jS h1 h3] at h0
    cases h0
   ·by_cases h4:x.length=f.length
    ·exact ⟨h1,h2,h3,h4⟩
    ·rw [args_fit h1 h2 h3 h4] at h0
     cases h0
  ·rw [args_rat h1 h2] at h0
   cases h0
 ·rw [args_sys h1] at h0
  exact absurd h0 h1
theorem args_n (k:Int) (hk:0≤k∧k≤60) (hn:0≤n∧n≤60):sV m f t x h g n=sV m f t x h g k:=by
 unfold sV
 have e:(m<0∨6<m∨h.1≤0∨g<0∨1000000<g∨n<0∨60<n)=(m<0∨6<m∨h.1≤0∨g<0∨1000000<g∨k<0∨60<k):=by
  apply propext
  omega
 simp only [e]
theorem run_known (hk:gV m f t x h g n):tS m f t x h g n=0 :=
 (nA hk.sys ⟨hk.ht,hk.hx,hk.hh⟩ (by have:=hk.m0; have:=hk.m6; have:=hk.hp; have:=hk.g0; have:=hk.gm; have:=hk.n0; have:=hk.nm; omega) hk.len (fun hh => hh.2 (hk.aff hh.1))).1
theorem args_bad (h0:sV m f t x h g n≠0):tS m f t x h g n=sV m f t x h g n∧¬ gV m f t x h g n:=by
 have e:tS m f t x h g n=sV m f t x h g n:=by
  rw [known_args,yG.2 (fun hh => h0 hh.1)]
  rfl
 exact ⟨e,fun hk => h0 (by rw [←e]; exact run_known hk)⟩
theorem args_aff (h0:sV m f t x h g n=0) (ha:(m=4∨m=5)∧¬ AffS f):tS m f t x h g n=6∧¬ gV m f t x h g n:=by
 have e:tS m f t x h g n=6:=by
  rw [known_args,yF.2 ⟨h0,ha⟩]
  rfl
 exact ⟨e,fun hk => by rw [run_known hk] at e; cases e⟩
theorem gU (h0:sV m f t x h g n=0) (ha:¬ ((m=4∨m=5)∧¬ AffS f)):gV m f t x h g n:=by
 obtain ⟨h1,h2,h3,h4⟩:=args_zero h0
 exact (nA h1 h2 h3 h4 ha).2
end
end Go.Proofs.YtokckcnfojjpjaaGreat

namespace Go.Proofs.YtokckcnfojjpjaaGreat
open Go.RowKit
set_option maxRecDepth 20000
section
variable {P:Program}
mutual
theorem fz_hf {p:BK→Prop} {H:Hp}:∀ {u:V},HFV u→FzVp p H u u
 | .c _,h => .c (.hf h)
 | .agg _,h => .agg (.hf h)
 | .tup _,h => h.elim
theorem fz_hfs {p:BK→Prop} {H:Hp}:∀ {us:List V},HFVs us→FzVs p H us us
 | [],_ => .nil
 | _ :: _,h => .cons (fz_hf h.1) (fz_hfs h.2)
end
def semO (P:Program) (f:FuncId) (args:List V) (K:V→Hp→Prop):Prop :=
 okFn P f∧HFVs args∧∀ (base:Nat→Prop) (w:World) (vs:List Value),(∀ k,base k→k<w.heap.size)→RVL (cx0 base w) args vs →
  Calls P f vs.toArray w fun e w' => ∃ (v:Value) (u:V) (β':Nat→Nat) (H':Hp),e=.returned v∧K u H'∧HRel base w' β' H'∧Ext w (fun _ => 0) [] w' β' H'∧RV (cx base w' β' H') u v
theorem mS {f:FuncId} {ac:yP} {rs:List ARes} {n:Nat} (hk:FnOk P f ac rs n) {args:List V} (hl:Nat.ble args.length n=true) (hh:HFVs args) {K:V→Hp→Prop}
  (h:awpF P ac (xW rs K) (nE args 0) []):semO P f args K:=by
 rw [awpF_eq,bodyF_eq] at h
 refine ⟨hk.ok,hh,fun base w vs hb hv => ?_⟩
 have hp:HRel base w (fun _ => 0) []:=⟨fun i bx hi => by simp at hi,fun i j bx bx' hi => by simp at hi,fun i bx hi => by simp at hi,hb,fun i es hi => by simp at hi,fun i j es es' hi => by simp at hi⟩
 have hv':RVL (cx base w (fun _ => 0) []) args vs:=RVL.hf (x:=cx0 base w) (y:=cx base w (fun _ => 0) []) rfl (fun k hk => hk.elim id fun h => h.elim (fun ⟨i,bx,hi,_⟩ => by simp at hi) (fun ⟨i,es,hi,_⟩ => by simp at hi)) hv hh
 exact fn_calls hk (Nat.le_of_ble_eq_true hl) h hp hv'
inductive Mv (b m:Nat):V→V→Prop
 | c {off n es:Nat} {co:Option Nat}:Mv b m (.c (.sl b off n co es)) (.c (.sl m off n co es))
 | two {off n es:Nat} {co:Option Nat} {x:C} (h:HFC x):Mv b m (.tup [.c (.sl b off n co es),.c x]) (.tup [.c (.sl m off n co es),.c x])
theorem semH_of_semO_ro {f:FuncId} {args ds:List V} {H:Hp} {K':V→Hp→Prop} {K:V→Hp→Prop} (hd:FzVs (·=.ro) H args ds) (h:semO P f ds K')
  (hK:∀ u H',K' u H'→(∃ d,FzV H' u d∧K d H)∨∃ b bx u',H'[b]?=some (.live bx)∧bx.kind=.rw∧HFL bx.cells∧Mv b H.length u u'∧K u' (H++[Slot.live bx])):semH P f args H K:=by
 refine ⟨h.1,fun base w β vs hp hv => ?_⟩
 have hv2:=FzVs.sound (O:=qQ base β H) hp (fun b bx hb hk => by
  rintro (hb0 | ⟨i,bx',hi,hrw,he⟩ | ⟨i,es,hi,he⟩)
  ·exact hp.nbase b bx hb (by rw [hk]; intro e; cases e) hb0
  ·have:=hp.inj i b bx' bx hi hb he
   subst this
   rw [hb] at hi
   cases hi
   rw [hk] at hrw
   cases hrw
  ·exact hp.apart hi hb he) (fun k hk => hk) hd hv
 refine (h.2.2 (qQ base β H) w vs (fun k hk => hp.own_lt hk) hv2).mono ?_
 rintro e w' ⟨v,u,β',H',he,hk,hp',hx',hr⟩
 have nw:∀ k,¬ wr (fun _ => 0) [] k:=by
  rintro k (⟨i,bx,hi,_⟩ | ⟨i,es,hi,_⟩)
  ·simp at hi
  ·simp at hi
 have hq:Quiet w w':=⟨hx'.size,fun k hk => (hx'.keep k hk (nw k)).2,hx'.os,hx'.tape,hx'.output⟩
 obtain ⟨hp1,hx1⟩:=hp.quiet hq
 rcases hK u H' hk with ⟨d,hd,hKd⟩ | ⟨b,bx,u',hb,hrw,hf,hm,hKu⟩
 ·have h1:=FzVp.sound (O:=qQ base β H) hp' (fun b bx hb hk => hp'.nbase b bx hb hk) (fun k hk => .inl hk) hd hr
  exact ⟨v,d,β,H,he,hKd,hp1,hx1,RV.to (x:=cx0 (qQ base β H) w') (y:=cx base w' β H) ⟨fun i hi => hi.elim,fun i hi => hi.elim,fun k _ hn => ⟨hn,rfl⟩,fun _ _ => rfl⟩ h1⟩
 ·have hfr:¬ β' b<w.heap.size:=fun hlt => (hx'.keep _ hlt (nw _)).1 (.inl ⟨b,bx,hb,hrw,rfl⟩)
  obtain ⟨vs',rest,fr,g1,g2,g3⟩:=hp'.cells b bx hb
  have hfr0:=g2 (by rw [hrw]; intro e; cases e)
  have key:∀ (j:Nat) (s:Slot),(H++[Slot.live bx])[j]?=some s→(j<H.length∧H[j]?=some s)∨(j=H.length∧s=.live bx):=by
   intro j s hj
   rcases Nat.lt_or_ge j H.length with hlt | hge
   ·rw [List.getElem?_append_left hlt] at hj
    exact .inl ⟨hlt,hj⟩
   ·rw [List.getElem?_append_right hge] at hj
    have h0:j - H.length=0:=by
     have:=lt_of_getElem? hj
     simp at this
     omega
    rw [h0] at hj
    simp at hj
    exact .inr ⟨by omega,hj.symm⟩
  have ub:∀ j,j<H.length→upd β H.length (β' b) j=β j:=fun j hj => xV β (by omega)
  have us:upd β H.length (β' b) H.length=β' b:=vQ _ _ _
  have wr2:∀ k,wr (upd β H.length (β' b)) (H++[Slot.live bx]) k→wr β H k∨k=β' b:=by
   rintro k (⟨i,bx',hi,hr',he'⟩ | ⟨i,es,hi,he'⟩)
   ·rcases key i _ hi with ⟨h1,h2⟩ | ⟨rfl,h2⟩
    ·rw [ub i h1] at he'
     exact .inl (.inl ⟨i,bx',h2,hr',he'⟩)
    ·rw [us] at he'
     exact .inr he'.symm
   ·rcases key i _ hi with ⟨h1,h2⟩ | ⟨rfl,h2⟩
    ·rw [ub i h1] at he'
     exact .inl (.inr ⟨i,es,h2,he'⟩)
    ·cases h2
  have hx2:Ext w β H w' (upd β H.length (β' b)) (H++[Slot.live bx]):=by
   refine ⟨fun i hi => ?_,fun i hi => ?_,hx'.size,fun k hk hn => ⟨fun h2 => ?_,(hx'.keep k hk (nw k)).2⟩,hx'.rows,hx'.os,hx'.tape,hx'.output⟩
   ·obtain ⟨s,hs,_⟩:=hi
    exact ub i (lt_of_getElem? hs)
   ·obtain ⟨s,hs,hne⟩:=hi
    exact ⟨s,by rw [List.getElem?_append_left (lt_of_getElem? hs)]; exact hs,hne⟩
   ·rcases wr2 k h2 with h3 | rfl
    ·exact hn h3
    ·exact hfr hk
  have hown:∀ k,qQ base (upd β H.length (β' b)) (H++[Slot.live bx]) k→qQ (qQ base β H) β' H' k:=by
   rintro k (h1 | h1)
   ·exact .inl (.inl h1)
   ·rcases wr2 k h1 with h2 | rfl
    ·exact .inl (.inr h2)
    ·exact .inr (.inl ⟨b,bx,hb,hrw,rfl⟩)
  refine ⟨v,u',upd β H.length (β' b),_,he,hKu,⟨fun i bx' hi => ?_,fun i j b1 b2 hi hj he' => ?_,fun i b1 hi hk1 => ?_,fun k hk => Nat.lt_of_lt_of_le (hp.bsize k hk) hx'.size,fun i es hi => ?_,fun i j es es' hi hj he' => ?_⟩,hx2,?_⟩
  ·rcases key i _ hi with ⟨h1,h2⟩ | ⟨rfl,h2⟩
   ·obtain ⟨us',rest',fr',c1,c2,c3⟩:=hp.cells i bx' h2
    refine ⟨us',rest',fr',?_,c2,c3.to (hx2.to base)⟩
    rw [ub i h1,(hx'.keep _ (hp.lt h2) (nw _)).2]
    exact c1
   ·cases h2
    refine ⟨vs',rest,fr,by rw [us]; exact g1,fun _ => hfr0,RL.hf (x:=cx (qQ base β H) w' β' H') (y:=cx base w' (upd β H.length (β' b)) (H++[Slot.live bx])) rfl hown g3 hf⟩
  ·rcases key i _ hi with ⟨h1,h2⟩ | ⟨rfl,h2⟩ <;> rcases key j _ hj with ⟨h3,h4⟩ | ⟨rfl,h4⟩
   ·rw [ub i h1,ub j h3] at he'
    exact hp.inj i j b1 b2 h2 h4 he'
   ·rw [ub i h1,us] at he'
    have:=hp.lt h2
    omega
   ·rw [us,ub j h3] at he'
    have:=hp.lt h4
    omega
   ·rfl
  ·rcases key i _ hi with ⟨h1,h2⟩ | ⟨rfl,h2⟩
   ·rw [ub i h1]
    exact hp.nbase i b1 h2 hk1
   ·rw [us]
    intro hb0
    have:=hp.bsize _ hb0
    omega
  ·rcases key i _ hi with ⟨h1,h2⟩ | ⟨rfl,h2⟩
   ·obtain ⟨ents,clock,c1,c2,c3⟩:=hp.maps i es h2
    refine ⟨ents,clock,?_,c2.to (hx2.to base),by rw [ub i h1]; exact c3⟩
    rw [ub i h1,(hx'.keep _ (hp.mlt h2) (nw _)).2]
    exact c1
   ·cases h2
  ·rcases key i _ hi with ⟨h1,h2⟩ | ⟨rfl,h2⟩ <;> rcases key j _ hj with ⟨h3,h4⟩ | ⟨rfl,h4⟩
   ·rw [ub i h1,ub j h3] at he'
    exact hp.minj i j es es' h2 h4 he'
   ·cases h4
   ·cases h2
   ·rfl
  ·have hsl:∀ {off n es:Nat} {co:Option Nat} {v:Value},R (cx (qQ base β H) w' β' H') (.sl b off n co es) v→R (cx base w' (upd β H.length (β' b)) (H++[Slot.live bx])) (.sl H.length off n co es) v:=by
    intro off n es co v hr
    cases hr with
    | @sl _ _ off' _ _ m _ cap hnb hn hco ho hm' hfit =>
     have e1:(cx (qQ base β H) w' β' H').β b=(cx base w' (upd β H.length (β' b)) (H++[Slot.live bx])).β H.length:=us.symm
     rw [e1]
     exact .sl (x:=cx base w' (upd β H.length (β' b)) (H++[Slot.live bx])) ⟨Slot.live bx,by simp,fun e => by cases e⟩ hn hco ho (by rw [←e1]; exact hm') hfit
   cases hm with
   | c =>
    cases hr with
    | c hr => exact .c (hsl hr)
   | two hx =>
    cases hr with
    | tup hr =>
     cases hr with
     | cons r1 r2 =>
      cases r1 with
      | c r1 => exact .tup (.cons (.c (hsl r1)) (RVL.hf (x:=cx (qQ base β H) w' β' H') (y:=cx base w' (upd β H.length (β' b)) (H++[Slot.live bx])) rfl hown r2 ⟨hx,trivial⟩))
theorem bI {f:FuncId} {args:List V} {H:Hp} {K':V→Hp→Prop} {K:V→Hp→Prop} (h:semO P f args K')
  (hK:∀ u H',K' u H'→(∃ d,FzV H' u d∧K d H)∨∃ b bx u',H'[b]?=some (.live bx)∧bx.kind=.rw∧HFL bx.cells∧Mv b H.length u u'∧K u' (H++[Slot.live bx])):semH P f args H K:=semH_of_semO_ro (fz_hfs h.2.1) h hK
theorem semH_close {f:FuncId} {args:List V} {H:Hp} {K':V→Hp→Prop} {K:V→Hp→Prop} (h:semH P f args H K')
  (hK:∀ u H',K' u H'→∃ bs d,FzVp (·=.ro) (vV H' bs) u d∧K d (vV H' bs)):semH P f args H K:=by
 refine ⟨h.1,fun base w β vs hp hv => (h.2 base w β vs hp hv).mono ?_⟩
 rintro e w' ⟨v,u,β',H',he,hk,hp',hx',hr⟩
 obtain ⟨bs,d,hd,hKd⟩:=hK u H' hk
 obtain ⟨hp1,hx1⟩:=HRel.closeB hp' bs
 have hv1:=RV.to (hx1.to base) hr
 have hv2:=FzVp.sound (O:=qQ base β' (vV H' bs)) hp1 (fun b bx hb hk => ?_) (fun k hk => hk) hd hv1
 ·exact ⟨v,d,β',_,he,hKd,hp1,hx'.trans hx1,RV.to (x:=cx0 (qQ base β' (vV H' bs)) w') (y:=cx base w' β' (vV H' bs)) ⟨fun i hi => hi.elim,fun i hi => hi.elim,fun k _ hn => ⟨hn,rfl⟩,fun _ _ => rfl⟩ hv2⟩
 ·rintro (hb0 | ⟨i,bx',hi,hrw,he⟩ | ⟨i,es,hi,he⟩)
  ·exact hp1.nbase b bx hb (by rw [hk]; intro e; cases e) hb0
  ·have:=hp1.inj i b bx' bx hi hb he
   subst this
   rw [hb] at hi
   cases hi
   rw [hk] at hrw
   cases hrw
  ·exact hp1.apart hi hb he
end
end Go.Proofs.YtokckcnfojjpjaaGreat

namespace Go.Proofs.YtokckcnfojjpjaaGreat
open Go.RowKit
set_option maxRecDepth 20000
def OwnR (y:List Rat) (u:V) (H:Hp):Prop:=∃ b cells,u=.c (.sl b 0 y.length (some y.length) 4)∧H[b]?=some (.live ⟨cells,yC,.rw⟩)∧Els (elR 4194304) cells y
def OwnR2 (r:Option (List Rat)) (u:V) (H:Hp):Prop:=(r=none∧u=.tup [.c .nilSl,.c (.bool false)])∨∃ y b cells,r=some y∧u=.tup [.c (.sl b 0 y.length (some y.length) 4),.c (.bool true)]∧H[b]?=some (.live ⟨cells,yC,.rw⟩)∧Els (elR 4194304) cells y
structure HIr (H:Hp) (a t z:Slot):Prop where
 a:H[0]?=some a
 t:H[1]?=some t
 z:H[2]?=some z
theorem HIr.grow {H X:Hp} {a t z:Slot} (h:HIr H a t z):HIr (H++X) a t z :=
 ⟨by rw [List.getElem?_append_left (lt_of_getElem? h.a)]; exact h.a,by rw [List.getElem?_append_left (lt_of_getElem? h.t)]; exact h.t,by rw [List.getElem?_append_left (lt_of_getElem? h.z)]; exact h.z⟩
theorem HIr.set {H:Hp} {a t z:Slot} {p:Nat} {x:Slot} (h:HIr H a t z) (hp:2<p):HIr (H.set p x) a t z :=
 ⟨by rw [List.getElem?_set_ne (by omega)]; exact h.a,by rw [List.getElem?_set_ne (by omega)]; exact h.t,by rw [List.getElem?_set_ne (by omega)]; exact h.z⟩
section
variable {K o:Nat} {bx:Nat→Nat} {ds:Nat→List C} {H:Hp} {r m w:Nat} {P:Nat→Nat→Prop} {M M':Mx}
theorem MtPR.congr (h:MtPR K o bx ds H r m w P M) (e:∀ i j,P i j→M i j=M' i j):MtPR K o bx ds H r m w P M' :=
 ⟨h.T,h.le,h.ne,h.row,h.len,fun i j hi hj p => by rw [←e i j p]; exact h.at_ i j hi hj p,h.inj⟩
theorem MtPR.ldE {off i j:Nat} {Q:V→Prop} (h:MtPR K o bx ds H r m w P M) (hi:i<r) (hj:j<w) (hp:P i j) (ho:off=j*4) (k:∀ cs,IR K cs (M i j)→Q (.agg cs)):yW H[bx i]? true 4 off Q:=by
 subst ho
 have hl:=h.len i hi
 exact yJ (h.row i hi) (Nat.ble_eq_true_of_le (by simp only; omega)) (k _ (h.at_ i j hi hj hp))
end
theorem nil_rep (n:Nat):(List.replicate ((n:Int).toNat) [C.nilSl]).flatten=List.replicate n C.nilSl:=by
 rw [Int.toNat_natCast]
 induction n with
 | zero => rfl
 | succ n ih => rw [List.replicate_succ,List.flatten_cons,ih]; rfl
theorem solve_len {n:Nat} {M:Mx} {y:List Rat} (hs:jL n M=some y):y.length=n:=by
 unfold jL at hs
 cases hg2:uN n M n with
 | none => rw [hg2] at hs; cases hs
 | some R =>
  rw [hg2] at hs
  simp at hs
  subst hs
  simp
theorem xd_mkSl {P:Program} {e:Env} {H:Hp} {nid:Nat} {K:V→Hp→Prop} {el:TypeId} {es bytes:Nat} {zero:List C} {l c:AO} {m n:Int} (h:l.ev e=some (.c (.int .i64 m))) (h2:c.ev e=some (.c (.int .i64 n))) (h3:0≤m∧m≤n∧n*bytes≤281474976710656∧n≤281474976710656) (hn:H[nid]?=some .unb)
  (k:K (.c (.sl nid 0 m.toNat (some n.toNat) es)) (H.set nid (.live ⟨(List.replicate n.toNat zero).flatten,el,.rw⟩))):xN P e H nid (.mkSl el es bytes zero l c) K:=by
 simp only [xN,dstep,aval,h,h2]
 refine xL (yF.2 h3) ?_
 simp only [hn]
 exact k
attribute [local irreducible] yA semH semC qLen qNil qIad qSlc qIdx yW yN xB appX appI slcX awpF yQ xH xopF xN qval lval seqQ xI xY xW xT cnd arith IntKind.wrap
theorem ref19_movedO {cx ck:C} {cc:List C} {x k:List Rat} {c:Rat} {n:Nat} (hx:Ls (elR 4194304) cx x) (hc:IR 4194304 cc c) (hk:Ls (elR 4194304) ck k) (hl:k.length=x.length) (hlen:x.length<1048576) (hb:CpL n (yM x c k)) (hn:n+n<134217728):semO Tryz.prog n_ref19_moved [.c cx,.agg cc,.c ck] (OwnR (yM x c k)):=by
 refine mS ok_ref19_moved rfl (show HFVs [.c cx,.agg cc,.c ck] from ⟨hx.hf,hc.hf,hk.hf,trivial⟩) ?_
 obtain ⟨a0,a1,a2,a3,rfl⟩:=id hc.four
 refine go13 ?_
 refine vG (by rfl) (by rfl) ⟨by omega,by omega,by omega,by omega⟩ ?_
 refine go13 ?_
 refine goN ?_
 have hal:=yX (c:=c) hl
 refine yR (fun w vs H => ∃ (i:Nat) (cells:List C),vs=[.c cx,.c ck,.c (.ptr 0 0),.c (.sl 1 0 x.length (some x.length) 4),i64 x.length,i64 i]∧H=[.live ⟨[a0,.bool a1,a2,.bool a3],yC,.rw⟩,.live ⟨cells,yC,.rw⟩]∧w=x.length - i∧i≤x.length∧Fill (elR 4194304) qC x.length cells ((yM x c k).take i)) (by rfl) ⟨0,_,rfl,rfl,rfl,by omega,.zero rfl⟩ ?_
 rintro w vs H ⟨i,cells,rfl,rfl,rfl,i1,i2⟩
 have hcl:cells.length=x.length*4:=i2.len
 have htl:((yM x c k).take i).length=i:=by rw [List.length_take]; omega
 refine go13 ?_
 cases hi:yA Cm.lss (i:Int) (x.length:Int)
 case false =>
  simp [yA] at hi
  have ei:i=x.length:=by omega
  subst ei
  rw [vE (by omega)] at i2
  have h4:=i2.done (by omega)
  refine go13 ?_
  exact ⟨1,cells,by rw [hal]; rfl,rfl,h4⟩
 simp [yA] at hi
 refine go13 ?_
 refine uA hx (i:=i) hi (by omega) rfl (fun cs hcs => ?_)
 refine go13 ?_
 refine uA hk (i:=i) (by omega) (by omega) rfl (fun ds hds => ?_)
 refine go13 ?_
 refine yB (qH hc hds (by decide)) (fun u hu => ?_)
 obtain ⟨es,rfl,g1⟩:=hu
 refine go13 ?_
 refine yB (tE hcs g1 (by decide)) (fun u hu => ?_)
 obtain ⟨gs,rfl,g2⟩:=hu
 rw [←along_get hl hi] at g2
 have g2:=g2.tightS (hb.bd (k:=4194304) (by omega) (List.getElem_mem (by omega)))
 obtain ⟨_,_,_,_,rfl⟩:=id g2.four
 refine go13 ?_
 rw [yZ i (by omega)]
 have h4:=i2.put (cs:=_) (a:=_) (by rw [htl]; exact hi) g2
 rw [htl] at h4
 refine l_n (by rfl) (n':=x.length - (i+1)) (by omega) ⟨i+1,_,rfl,by rw [Nat.zero_add,Int.toNat_natCast]; rfl,rfl,by omega,?_⟩
 rw [xU (show i<(yM x c k).length by omega)]
 exact h4
theorem ref19_drawn {cf cx:C} {ca ct:List C} {f:List Pl} {x:List Rat} {a t:Rat} (hc:Ls elM cf f) (hf:nH (x.length+1) f) (hl:f.length=x.length) (hx:Ls (elR 4194304) cx x) (ha:IR 4194304 ca a) (ht:IR 4194304 ct t) (bx:CpL 10500 x) (bA:CpL 46 [a]) (bT:CpL 140 [t]) :
  semO Tryz.prog n_ref19_drawn [.c cf,.c cx,.agg ca,.agg ct] (OwnR2 (tP f x a t)):=by
 refine mS ok_ref19_drawn rfl (show HFVs [.c cf,.c cx,.agg ca,.agg ct] from ⟨hc.hf,hx.hf,ha.hf,ht.hf,trivial⟩) ?_
 have h3:x.length≤3:=by rw [←hl]; exact hf.len
 obtain ⟨b0,b1,b2,b3,rfl⟩:=id ha.four
 obtain ⟨d0,d1,d2,d3,rfl⟩:=id ht.four
 have hzl:(vC x.length).length=x.length:=by simp [vC]
 have hz:Els (elR 4194304) (List.replicate ((x.length:Int)).toNat qC).flatten (vC x.length):=by
  rw [Int.toNat_natCast]
  exact Els.rep (zeroRQ_is.up (by decide)) _
 have hz4:=hz.len
 rw [hzl] at hz4
 have hz4:(List.replicate ((x.length:Int)).toNat qC).flatten.length=x.length*4:=hz4
 have lz:Ls (elR 4194304) (.imm x.length (List.replicate ((x.length:Int)).toNat qC).flatten) (vC x.length):=by
  have:=Ls.imm hz
  rwa [hzl] at this
 refine go13 ?_
 rw [hl]
 refine go13 ?_
 refine xd_mkSl (by rfl) (by rfl) ⟨by omega,by omega,by omega,by omega⟩ (by rfl) ?_
 refine go13 ?_
 refine goN ?_
 refine yS [2] (.cons (.c (.hf hc.hf)) (.cons (.c (.sl (bx:=⟨(List.replicate ((x.length:Int)).toNat qC).flatten,yC,.ro⟩) (ds:=(List.replicate ((x.length:Int)).toNat qC).flatten) (by rfl) rfl (by simp) ?_)) (.cons (.agg (.hf ht.hf)) .nil))) (ref19_field hc (vD hf (show _=(vC x.length).length+1 by rw [hzl])) lz ht ((mH _).append bT) (by decide)) (fun u hu => ?_)
 ·simp only [List.drop_zero]
  rw [List.take_of_length_le (by omega)]
  exact .hf hz.hf
 obtain ⟨cb,rfl,lb⟩:=hu
 have lb:Ls (elR 4194304) cb (yU f (vC x.length) t):=lb
 have hbl:(yU f (vC x.length) t).length=x.length:=by rw [wA,hl]
 refine go13 ?_
 refine goN ?_
 refine vG (by rfl) (by rfl) ⟨by omega,by omega,by omega,by omega⟩ ?_
 refine go13 ?_
 refine goN ?_
 rw [nil_rep]
 have hEB:=imp_bd hf hl bx bA bT
 have cbB:∀ i (h:i<x.length),CpL 9000 [(yU f (vC x.length) t)[i]'(by omega)]:=fun i h => cp_mem ((wO (vD hf (show _=(vC x.length).length+1 by rw [hzl])) (mH _) bT).mono (by decide)) (List.getElem_mem (by omega))
 obtain ⟨M,hM⟩:∃ M,M=impM f x a t:=⟨_,rfl⟩
 rw [←hM] at hEB
 obtain ⟨sa,hsa⟩:∃ s,s=Slot.live ⟨[b0,.bool b1,b2,.bool b3],yC,.rw⟩:=⟨_,rfl⟩
 obtain ⟨st,hst⟩:∃ s,s=Slot.live ⟨[d0,.bool d1,d2,.bool d3],yC,.rw⟩:=⟨_,rfl⟩
 obtain ⟨sz,hsz⟩:∃ s,s=Slot.live ⟨(List.replicate ((x.length:Int)).toNat qC).flatten,yC,.ro⟩:=⟨_,rfl⟩
 refine yR (fun w vs H => ∃ (i:Nat) (bx:Nat→Nat) (ds:Nat→List C),vs=[.c cf,.c cx,.c (.ptr 0 0),.c (.ptr 1 0),i64 x.length,.c cb,.c (.sl 3 0 x.length (some x.length) 1),i64 x.length,i64 i]∧w=x.length - i∧i≤x.length∧HIr H sa st sz∧(∀ l,l<i→3<bx l)∧MtPR 2097152 3 bx ds H i x.length (x.length+1) (fun _ _ => False) M) (by rfl) ⟨0,fun _ => 0,fun _ => [],rfl,rfl,by omega,⟨by rw [hsa]; rfl,by rw [hst]; rfl,by rw [hsz]; rfl⟩,fun l h => by omega,.start rfl⟩ ?_
 rintro w vs H ⟨i,bx',ds,rfl,rfl,i1,hI,i2,hP⟩
 refine go13 ?_
 cases hi:yA Cm.lss (i:Int) (x.length:Int)
 case true =>
  simp [yA] at hi
  have hpl:=lt_of_getElem? hP.T
  refine go13 ?_
  rw [yZ x.length (by omega)]
  refine vG (by rfl) (by rfl) ⟨by omega,by omega,by omega,by omega⟩ ?_
  refine go13 ?_
  have hG:=hP.grow (X:=[.live ⟨(List.replicate ((x.length+1:Nat):Int).toNat qC).flatten,yC,.rw⟩])
  refine yY hG.T (by rfl) (by rfl) (by simp; omega) ?_
  have hN:=hG.next (b:=H.length) hi (yL _ _) (fun l hl => by have:=lt_of_getElem? (hP.row l hl); omega) (by omega) (by simp [qC]) (fun j h => h)
  have hIN:=(hI.grow (X:=[.live ⟨(List.replicate ((x.length+1:Nat):Int).toNat qC).flatten,yC,.rw⟩])).set (p:=3) (x:=.live ⟨splice ((List.range i).map (rowQR bx' (fun _ => some (x.length+1)) (x.length+1))++List.replicate (x.length - i) .nilSl) i [.sl H.length 0 (x.length+1) (some (x.length+1)) 4],uD,.rw⟩) (by omega)
  rw [show 0+(i:Int).toNat*1=i by omega]
  have hge:∀ l,l<i+1→3<(fun l => if l=i then H.length else bx' l) l:=fun l hl => by
   simp only
   split
   ·omega
   ·exact i2 l (by omega)
  generalize (fun l => if l=i then H.length else bx' l)=bx2 at hN hge
  generalize (fun l => if l=i then (List.replicate ((x.length+1:Nat):Int).toNat qC).flatten else ds l)=ds2 at hN
  refine go13 ?_
  rw [yZ i (by omega)]
  exact l_n (by rfl) (n':=x.length - (i+1)) (by omega) ⟨i+1,bx2,_,rfl,rfl,by omega,hIN,hge,hN⟩
 simp [yA] at hi
 have ei:i=x.length:=by omega
 subst ei
 refine go13 ?_
 refine yR (fun w vs H => ∃ (k:Nat) (bx:Nat→Nat) (ds:Nat→List C),vs=[.c cf,.c cx,.c (.ptr 0 0),.c (.ptr 1 0),i64 x.length,.c cb,.c (.sl 3 0 x.length (some x.length) 1),i64 k]∧w=x.length - k∧k≤x.length∧HIr H sa st sz∧(∀ l,l<x.length→3<bx l)∧MtPR 2097152 3 bx ds H x.length x.length (x.length+1) (fun i' j' => j'<k) M) (by rfl) ⟨0,bx',ds,rfl,rfl,by omega,hI,i2,hP.weak (fun i' j' h1 h2 h3 => by omega)⟩ ?_
 clear hP i2 hI i1 bx' ds
 rintro w vs H ⟨k,bx',ds,rfl,rfl,k1,hI,k2,hP⟩
 refine go13 ?_
 cases hk:yA Cm.lss (k:Int) (x.length:Int)
 case false =>
  simp [yA] at hk
  have ek:k=x.length:=by omega
  subst ek
  refine go13 ?_
  refine yR (fun w vs H => ∃ (i:Nat) (bx:Nat→Nat) (ds:Nat→List C),vs=[.c cx,.c (.ptr 0 0),i64 x.length,.c cb,.c (.sl 3 0 x.length (some x.length) 1),i64 i]∧w=x.length - i∧i≤x.length∧HIr H sa st sz∧(∀ l,l<x.length→3<bx l)∧MtPR 2097152 3 bx ds H x.length x.length (x.length+1) (fun i' j' => j'<x.length∨(j'=x.length∧i'<i)) M) (by rfl) ⟨0,bx',ds,rfl,rfl,by omega,hI,k2,hP.weak (fun i' j' h1 h2 h3 => by omega)⟩ ?_
  clear hP k2 hI k1 bx' ds
  rintro w vs H ⟨i,bx',ds,rfl,rfl,i1,hI,i2,hP⟩
  refine go13 ?_
  cases hi:yA Cm.lss (i:Int) (x.length:Int)
  case false =>
   simp [yA] at hi
   have ei:i=x.length:=by omega
   subst ei
   have hF:=hP.full (fun i' j' h1 h2 => by omega)
   refine go13 ?_
   refine ref19_solved hF (by omega) (gb_of hEB h3 (by decide)) (fun v H' hg => ?_)
   rcases hg with ⟨hs,rfl⟩ | ⟨y,b,yc,hs,rfl,hb,hE⟩
   ·refine go13 ?_
    exact .inl ⟨by unfold tP; rw [←hM]; exact hs,rfl⟩
   ·have hyl:=solve_len hs
    refine go13 ?_
    exact .inr ⟨y,b,yc,by unfold tP; rw [←hM]; exact hs,by rw [hyl]; rfl,hb,hE⟩
  simp [yA] at hi
  have hpl:=lt_of_getElem? hP.T
  refine go13 ?_
  refine hP.ldT (i:=i) (by omega) (by omega) ?_
  refine go13 ?_
  refine uA hx (i:=i) hi (by omega) rfl (fun e1 he1 => ?_)
  refine go13 ?_
  have hIa:=hI.a
  rw [hsa] at hIa
  refine yJ hIa (by rfl) ?_
  refine go13 ?_
  refine uA lb (i:=i) (by omega) (by omega) rfl (fun e2 he2 => ?_)
  refine go13 ?_
  refine yH (qH ha he2 (by decide)) (fun u hu => ?_)
  obtain ⟨e3,rfl,he3⟩:=hu
  refine go13 ?_
  refine yH (tE he1 he3 (by decide)) (fun u hu => ?_)
  obtain ⟨e4,rfl,he4⟩:=hu
  have hval:x[i]+a*(yU f (vC x.length) t)[i]'(by omega)=M i x.length:=by rw [hM]; exact (imp_last hi hbl).symm
  rw [hval] at he4
  have he4:=he4.tightS ((hEB i x.length hi (Nat.le_refl _)).to (show 2400≤2097152 by decide))
  obtain ⟨_,_,_,_,rfl⟩:=id he4.four
  refine go13 ?_
  refine hP.st (i:=i) (j:=x.length) (by omega) (by omega) (by omega) (by rfl) (by rfl) ?_
  have hP2:=hP.put (i:=i) (j:=x.length) (by omega) (by omega) he4
  have hb4:=i2 i (by omega)
  refine go13 ?_
  rw [yZ i (by omega)]
  exact l_n (by rfl) (n':=x.length - (i+1)) (by omega) ⟨i+1,bx',_,rfl,rfl,by omega,hI.set (by omega),i2,hP2.weak (fun i' j' h1 h2 h3 => by omega)⟩
 simp [yA] at hk
 have hpl:=lt_of_getElem? hP.T
 refine go13 ?_
 refine vG (by rfl) (by rfl) ⟨by omega,by omega,by omega,by omega⟩ ?_
 refine go13 ?_
 refine yB (r_Int (g:=1) (by decide)) (fun u hu => ?_)
 obtain ⟨e1,rfl,g1⟩:=hu
 have g1:IR 4194304 e1 1:=g1.up (by decide)
 obtain ⟨y0,y1,y2,y3,rfl⟩:=id g1.four
 refine go13 ?_
 refine yY (yL _ _) (by rfl) (by rfl) (show 0+(k:Int).toNat*4+4≤(List.replicate ((x.length:Int)).toNat qC).flatten.length by omega) ?_
 rw [wN]
 have hu4:=hz.set (i:=k) (by rw [hzl]; exact hk) g1
 have hu4:Els (elR 4194304) (splice (List.replicate ((x.length:Int)).toNat [C.nilSl,C.bool false,C.nilSl,C.bool false]).flatten (0+(k:Int).toNat*4) [y0,.bool y1,y2,.bool y3]) (tW x.length k):=by
  rw [show 0+(k:Int).toNat*4=k*4 by omega]
  exact hu4
 generalize splice (List.replicate ((x.length:Int)).toNat [C.nilSl,C.bool false,C.nilSl,C.bool false]).flatten (0+(k:Int).toNat*4) [y0,.bool y1,y2,.bool y3]=uc at hu4 ⊢
 have huc:=hu4.len
 rw [gM] at huc
 have huc:uc.length=x.length*4:=huc
 have lu:Ls (elR 4194304) (.imm x.length uc) (tW x.length k):=by
  have:=Ls.imm hu4
  rwa [gM] at this
 refine go13 ?_
 have hIt:=(hI.grow (X:=[.live ⟨uc,yC,.rw⟩])).t
 rw [hst] at hIt
 refine yJ hIt (by rfl) ?_
 refine go13 ?_
 have ccp:CpL 9000 (yU f (tW x.length k) t):=(wO (vD hf (show _=(tW x.length k).length+1 by rw [gM])) (cp_unit _ _) bT).mono (by decide)
 have hco:vV (H++[.live ⟨uc,yC,.rw⟩]) [H.length]=H++[.live ⟨uc,yC,.ro⟩]:=by rw [mJ (yL _ _),wN]
 refine yS [H.length] (.cons (.c (.hf hc.hf)) (.cons (.c (.sl (bx:=⟨uc,yC,.ro⟩) (ds:=uc) (by rw [hco]; exact yL _ _) rfl (by simp) ?_)) (.cons (.agg (.hf ht.hf)) .nil))) (ref19_field hc (vD hf (show _=(tW x.length k).length+1 by rw [gM])) lu ht ((cp_unit _ _).append bT) (by decide)) (fun u hu => ?_)
 ·simp only [List.drop_zero]
  rw [List.take_of_length_le (by omega)]
  exact .hf hu4.hf
 obtain ⟨cc,rfl,lc⟩:=hu
 have lc:Ls (elR 4194304) cc (yU f (tW x.length k) t):=lc
 have hcl2:(yU f (tW x.length k) t).length=x.length:=by rw [wA,hl]
 rw [hco]
 have hI2:=hI.grow (X:=[.live ⟨uc,yC,.ro⟩])
 have hP2:=hP.grow (X:=[.live ⟨uc,yC,.ro⟩])
 refine go13 ?_
 refine yR (fun w vs H => ∃ (i:Nat) (bx:Nat→Nat) (ds:Nat→List C),vs=[.c cf,.c cx,.c (.ptr 0 0),.c (.ptr 1 0),i64 x.length,.c cb,.c (.sl 3 0 x.length (some x.length) 1),i64 k,.c cc,i64 i]∧w=x.length - i∧i≤x.length∧HIr H sa st sz∧(∀ l,l<x.length→3<bx l)∧MtPR 2097152 3 bx ds H x.length x.length (x.length+1) (fun i' j' => j'<k∨(j'=k∧i'<i)) M) (by rfl) ⟨0,bx',ds,rfl,rfl,by omega,hI2,k2,hP2.weak (fun i' j' h1 h2 h3 => by omega)⟩ ?_
 clear hP2 hI2 hIt hP hI k2 bx' ds hpl hco
 rintro w vs H ⟨i,bx',ds,rfl,rfl,i1,hI,i2,hP⟩
 refine go13 ?_
 cases hi:yA Cm.lss (i:Int) (x.length:Int)
 case false =>
  simp [yA] at hi
  refine go13 ?_
  rw [yZ k (by omega)]
  exact l_n (by rfl) (n':=x.length - (k+1)) (by omega) ⟨k+1,bx',ds,rfl,rfl,by omega,hI,i2,hP.weak (fun i' j' h1 h2 h3 => by omega)⟩
 simp [yA] at hi
 have hpl:=lt_of_getElem? hP.T
 have hIa:=hI.a
 rw [hsa] at hIa
 refine go13 ?_
 refine hP.ldT (i:=i) hi (by omega) ?_
 refine go13 ?_
 refine yJ hIa (by rfl) ?_
 refine go13 ?_
 refine uA lc (i:=i) (by omega) (by omega) rfl (fun e1 he1 => ?_)
 refine go13 ?_
 refine uA lb (i:=i) (by omega) (by omega) rfl (fun e2 he2 => ?_)
 refine go13 ?_
 refine yH (r_Sub2 he1 he2 (by decide)) (fun u hu => ?_)
 obtain ⟨e3,rfl,he3⟩:=hu
 refine go13 ?_
 refine yH (qH ha he3 (by decide)) (fun u hu => ?_)
 obtain ⟨e4,rfl,he4⟩:=hu
 refine go13 ?_
 refine yH (r_Neg he4 (by decide)) (fun u hu => ?_)
 obtain ⟨e5,rfl,he5⟩:=hu
 have hbd:=(hEB i k hi (by omega)).to (show 2400≤2097152 by decide)
 have hcol:=imp_col (a:=a) (t:=t) hi hk hbl hcl2
 rw [←hM] at hcol
 obtain ⟨v,hv⟩:∃ v,v = -(a*((yU f (tW x.length k) t)[i]'(by omega) - (yU f (vC x.length) t)[i]'(by omega))):=⟨_,rfl⟩
 have cv:CpL 20000 [v]:=by
  rw [hv]
  exact (cp_neg (vF bA (cp_sub (cp_mem ccp (List.getElem_mem (by omega))) (cp_mem ((wO (vD hf (show _=(vC x.length).length+1 by rw [hzl])) (mH _) bT).mono (show _≤9000 by decide)) (List.getElem_mem (by omega)))))).mono (by decide)
 rw [←hv] at hcol he5
 have he5:=he5.tightS (cv.bd (k:=2097152) (by decide) (by simp))
 obtain ⟨u0,u1,u2,u3,rfl⟩:=id he5.four
 have hP':=hP.congr (M':=updQR M i k v) (fun i' j' p => by unfold updQR; rw [if_neg (by omega)])
 have hkv:updQR M i k v i k=v:=by unfold updQR; rw [if_pos ⟨rfl,rfl⟩]
 refine go13 ?_
 refine hP.st (i:=i) (j:=k) hi (by omega) (by omega) (by rfl) (by rfl) ?_
 have hP3:=hP'.put (i:=i) (j:=k) hi (by omega) (by rw [hkv]; exact he5)
 have hb4:=i2 i hi
 have hI3:=hI.set (p:=bx' i) (x:=.live ⟨splice (ds i) (k*4) [u0,.bool u1,u2,.bool u3],yC,.rw⟩) (by omega)
 refine go13 ?_
 cases hik:yA Cm.eql (i:Int) (k:Int)
 case false =>
  simp [yA] at hik
  have hik:i≠k:=by omega
  rw [if_neg hik] at hcol
  refine go13 ?_
  rw [yZ i (by omega)]
  exact l_n (by rfl) (n':=x.length - (i+1)) (by omega) ⟨i+1,bx',_,rfl,rfl,by omega,hI3,i2,(hP3.congr (M':=M) (fun i' j' p => by
   unfold updQR
   by_cases e:i'=i∧j'=k
   ·rw [if_pos e,e.1,e.2,hcol]
   ·rw [if_neg e])).weak (fun i' j' h1 h2 h3 => by omega)⟩
 simp [yA] at hik
 have hik:i=k:=by omega
 rw [if_pos hik] at hcol
 refine go13 ?_
 refine hP3.ldT (i:=i) hi (by omega) ?_
 refine go13 ?_
 refine hP3.ldT (i:=i) hi (by omega) ?_
 refine go13 ?_
 refine hP3.ldE (i:=i) (j:=k) hi (by omega) (.inr ⟨rfl,rfl⟩) (by omega) (fun e6 he6 => ?_)
 rw [hkv] at he6
 refine go13 ?_
 refine yH (r_Int (g:=1) (by decide)) (fun u hu => ?_)
 obtain ⟨e7,rfl,he7⟩:=hu
 refine go13 ?_
 refine yH (tE he6 he7 (by decide)) (fun u hu => ?_)
 obtain ⟨e8,rfl,he8⟩:=hu
 rw [show v+((1:Int):Rat)=M i k by rw [hcol]; rfl] at he8
 have he8:=he8.tightS hbd
 obtain ⟨v0,v1,v2,v3,rfl⟩:=id he8.four
 have hP4:=(hP3.weak (Q:=fun i' j' => j'<k∨(j'=k∧i'<i)) (fun i' j' h1 h2 h3 => .inl h3)).congr (M':=M) (fun i' j' p => by unfold updQR; rw [if_neg (by omega)])
 refine go13 ?_
 refine hP4.st (i:=i) (j:=k) hi (by omega) (by omega) (by rfl) (by rfl) ?_
 have hP5:=hP4.put (i:=i) (j:=k) hi (by omega) he8
 refine go13 ?_
 rw [yZ i (by omega)]
 exact l_n (by rfl) (n':=x.length - (i+1)) (by omega) ⟨i+1,bx',_,rfl,rfl,by omega,hI3.set (by omega),i2,hP5.weak (fun i' j' h1 h2 h3 => by omega)⟩
end Go.Proofs.YtokckcnfojjpjaaGreat

namespace Go.Proofs.YtokckcnfojjpjaaGreat
open Go.RowKit
set_option maxRecDepth 20000
structure pN (cf cx:C) (ch ct:List C) (f:List Pl) (x:List Rat) (h t:Rat):Prop where
 hc:Ls elM cf f
 hf:nH (x.length+1) f
 hl:f.length=x.length
 hh:IR 4194304 ch h
 hx:Ls (elR 4194304) cx x
 ht:IR 4194304 ct t
 bx:CpL 120 x
 bt:CpL 90 [t]
 bh:CpL 45 [h]
def ROneO (r:Except Int (List Rat)) (u:V) (H:Hp):Prop:=(∃ y b cells,r=.ok y∧u=.tup [.c (.sl b 0 y.length (some y.length) 4),i64 0]∧H[b]?=some (.live ⟨cells,yC,.rw⟩)∧Els (elR 4194304) cells y)∨(∃ e:Int,r=.error e∧e≠0∧u=.tup [.c .nilSl,i64 e])
section
variable {cf cx:C} {ch ct:List C} {f:List Pl} {x:List Rat} {h t:Rat}
theorem pN.x3 (hi:pN cf cx ch ct f x h t):x.length≤3:=by rw [←hi.hl]; exact hi.hf.len
theorem sU (hi:pN cf cx ch ct f x h t) {cy:C} {cs:List C} {y:List Rat} {s:Rat} {a b:Nat} (ly:Ls (elR 4194304) cy y) (hy:y.length=x.length) (gs:IR 4194304 cs s) (bY:CpL a y) (bS:CpL b [s]) (hn:2446+24*(a+b)<134217728):semC Tryz.prog n_ref19_field [.c cf,.c cy,.agg cs] (LsK (elR 4194304) (yU f y s)) :=
 ref19_field hi.hc (vD hi.hf (by rw [hy])) ly gs (bY.append bS) hn
theorem tH {x3:x.length≤3} (hx:Ls (elR 4194304) cx x) {cc:List C} {ck:C} {k:List Rat} {c:Rat} {a d e:Nat} (bx:CpL a x) (hc:IR 4194304 cc c) (bc:CpL d [c]) (lk:Ls (elR 4194304) ck k) (hk:k.length=x.length) (bk:CpL e k) (hn:(a+d+e+1)+(a+d+e+1)<134217728):semC Tryz.prog n_ref19_moved [.c cx,.agg cc,.c ck] (LsK (elR 4194304) (yM x c k)) :=
 ref19_moved hx hc lk hk (by omega) (wJ bx bc bk) hn
theorem mE {x3:x.length≤3} (hx:Ls (elR 4194304) cx x) {cc:List C} {ck:C} {k:List Rat} {c:Rat} {a d e:Nat} (bx:CpL a x) (hc:IR 4194304 cc c) (bc:CpL d [c]) (lk:Ls (elR 4194304) ck k) (hk:k.length=x.length) (bk:CpL e k) (hn:(a+d+e+1)+(a+d+e+1)<134217728) {H:Hp} {K:V→Hp→Prop}
  (q:∀ cells,Els (elR 4194304) cells (yM x c k)→K (.c (.sl H.length 0 x.length (some x.length) 4)) (H++[.live ⟨cells,yC,.rw⟩])):semH Tryz.prog n_ref19_moved [.c cx,.agg cc,.c ck] H K :=
 bI (ref19_movedO hx hc lk hk (by omega) (wJ bx bc bk) hn) (fun u H' hu => .inr (by
  obtain ⟨b,cells,rfl,hb,hE⟩:=hu
  refine ⟨b,_,_,hb,rfl,hE.hf,.c,?_⟩
  rw [yX hk]
  exact q cells hE))
theorem drawn_own {cc:C} {ca cs:List C} {c:List Rat} {a s:Rat} (hi:pN cf cx ch ct f x h t) (hcl:c.length=x.length) (lc:Ls (elR 4194304) cc c) (ha:IR 4194304 ca a) (hs:IR 4194304 cs s) (bc:CpL 10500 c) (bA:CpL 46 [a]) (bT:CpL 140 [s]) {H:Hp} {K:V→Hp→Prop}
  (q0:tP f c a s=none→K (.tup [.c .nilSl,.c (.bool false)]) H)
  (q:∀ y cells,tP f c a s=some y→y.length=x.length→Els (elR 4194304) cells y→K (.tup [.c (.sl H.length 0 x.length (some x.length) 4),.c (.bool true)]) (H++[.live ⟨cells,yC,.rw⟩])):semH Tryz.prog n_ref19_drawn [.c cf,.c cc,.agg ca,.agg cs] H K :=
 bI (ref19_drawn hi.hc (vD hi.hf (by rw [hcl])) (by rw [hcl]; exact hi.hl) lc ha hs bc bA bT) (fun u H' hu => by
  rcases hu with ⟨h1,rfl⟩ | ⟨y,b,cells,h1,rfl,hb,hE⟩
  ·exact .inl ⟨_,.tup (.cons (.c (.hf trivial)) (.cons (.c (.hf trivial)) .nil)),q0 h1⟩
  ·have hyl:y.length=x.length:=by rw [solve_len h1,hcl]
   refine .inr ⟨b,_,_,hb,rfl,hE.hf,.two trivial,?_⟩
   rw [hyl]
   exact q y cells h1 hyl hE)
theorem ROneO.ok {m:Int} {y:List Rat} {b n:Nat} {cells:List C} {H:Hp} (ha:m=4∨m=5→AffS f) (hy:wF m f h t x=some y) (hn:n=y.length) (hb:H[b]?=some (.live ⟨cells,yC,.rw⟩)) (hE:Els (elR 4194304) cells y):ROneO (sS m f h t x) (.tup [.c (.sl b 0 n (some n) 4),i64 0]) H:=by
 subst hn
 exact .inl ⟨y,b,cells,refOne_ok ha hy,rfl,hb,hE⟩
end
attribute [local irreducible] yA semH semC qLen qNil qIad qSlc qIdx yW yN xB appX appI slcX awpF yQ xH xopF xN qval lval seqQ xI xY xW xT cnd arith IntKind.wrap
theorem ref19_one {cf cx:C} {ch ct:List C} {f:List Pl} {x:List Rat} {h t:Rat} {m:Int} (h0:0≤m) (h6:m≤6) (hi:pN cf cx ch ct f x h t):semO Tryz.prog n_ref19_one [i64 m,.c cf,.agg ct,.c cx,.agg ch] (ROneO (sS m f h t x)):=by
 refine mS ok_ref19_one rfl (show HFVs [i64 m,.c cf,.agg ct,.c cx,.agg ch] from ⟨trivial,hi.hc.hf,hi.ht.hf,hi.hx.hf,hi.hh.hf,trivial⟩) ?_
 have h3:=hi.x3
 obtain ⟨a0,a1,a2,a3,rfl⟩:=id hi.hh.four
 obtain ⟨b0,b1,b2,b3,rfl⟩:=id hi.ht.four
 have hfm:f.length<wD:=by unfold wD; have:=hi.hl; omega
 have bh2:=vF hi.bh nP
 have ct2:CpL 140 [t+h*vJ]:=(uW hi.bt bh2).mono (by decide)
 have ct1:CpL 140 [t+h]:=(uW hi.bt hi.bh).mono (by decide)
 have c1:CpL 9720 (k1V f h t x):=(wO hi.hf hi.bx hi.bt).mono (by decide)
 have n1:(k1V f h t x).length=x.length:=by rw [k1V,wA,hi.hl]
 refine go13 ?_
 refine yH (bB (a:=1) (b:=2) (by decide) (by decide) (by decide)) (fun u hu => ?_)
 obtain ⟨r0,rfl,g0⟩:=hu
 have g0:IR 1 r0 vJ:=g0
 refine go13 ?_
 refine yH (qH hi.hh g0 (by decide)) (fun u hu => ?_)
 obtain ⟨r5,rfl,g5⟩:=hu
 have g5:=g5.tightS (bh2.bd (k:=4194304) (by decide) (by simp))
 obtain ⟨e0,e1,e2,e3,rfl⟩:=id g5.four
 refine go13 ?_
 try refine goN ?_
 cases q4:yA Cm.eql m 4
 case true =>
  simp [yA] at q4
  refine go13 ?_
  refine yB (jM hi.hc hfm) (fun u hu => ?_)
  obtain ⟨z,rfl,hz⟩:=hu
  cases z
  case false =>
   refine go13 ?_
   exact .inr ⟨6,refOne_aff ⟨by omega,fun hh => by cases hz.2 hh⟩,by decide,rfl⟩
  have hna:m=4∨m=5→AffS f:=fun _ => hz.1 rfl
  refine go13 ?_
  try refine goN ?_
  cases q5:yA Cm.eql m 5
  case true =>
   simp [yA] at q5
   omega
  refine go13 ?_
  refine yH (tE hi.ht hi.hh (by decide)) (fun u hu => ?_)
  obtain ⟨r3,rfl,g3⟩:=hu
  have g3:=g3.tightS (ct1.bd (k:=4194304) (by decide) (by simp))
  obtain ⟨_,_,_,_,rfl⟩:=id g3.four
  refine go13 ?_
  refine drawn_own hi rfl hi.hx hi.hh g3 (hi.bx.mono (by decide)) (hi.bh.mono (by decide)) ct1 (fun hs => ?_) (fun y cells hs hyl hE => ?_)
  ·have hs:wF m f h t x=none:=by rw [q4,one_4]; exact hs
   refine go13 ?_
   try refine goN ?_
   exact .inr ⟨4,refOne_none hna hs,by decide,rfl⟩
  ·have hs:wF m f h t x=some y:=by rw [q4,one_4]; exact hs
   refine go13 ?_
   try refine goN ?_
   exact ROneO.ok hna hs (by omega) (by rfl) hE
 simp [yA] at q4
 refine go13 ?_
 cases q5:yA Cm.eql m 5
 case true =>
  simp [yA] at q5
  have c2:CpL 10000 (yM x (h*vJ) (k1V f h t x)):=(wJ hi.bx bh2 c1).mono (by decide)
  have n2:(yM x (h*vJ) (k1V f h t x)).length=x.length:=yX n1
  refine go13 ?_
  refine yB (jM hi.hc hfm) (fun u hu => ?_)
  obtain ⟨z,rfl,hz⟩:=hu
  cases z
  case false =>
   refine go13 ?_
   exact .inr ⟨6,refOne_aff ⟨by omega,fun hh => by cases hz.2 hh⟩,by decide,rfl⟩
  have hna:m=4∨m=5→AffS f:=fun _ => hz.1 rfl
  refine go13 ?_
  try refine goN ?_
  rw [show yA Cm.eql m 5=true by simp [yA,q5]]
  refine go13 ?_
  try refine goN ?_
  refine yH (sU hi hi.hx rfl hi.ht hi.bx hi.bt (by decide)) (fun u hu => ?_)
  obtain ⟨s1,rfl,l1⟩:=hu
  have l1:Ls (elR 4194304) s1 (k1V f h t x):=l1
  refine go13 ?_
  refine yH (tH (x3:=h3) hi.hx hi.bx g5 bh2 l1 n1 c1 (by decide)) (fun u hu => ?_)
  obtain ⟨s2,rfl,l2⟩:=hu
  refine go13 ?_
  try refine goN ?_
  refine go13 ?_
  refine yH (tE hi.ht hi.hh (by decide)) (fun u hu => ?_)
  obtain ⟨r3,rfl,g3⟩:=hu
  have g3:=g3.tightS (ct1.bd (k:=4194304) (by decide) (by simp))
  obtain ⟨_,_,_,_,rfl⟩:=id g3.four
  refine go13 ?_
  refine drawn_own hi n2 l2 g5 g3 (c2.mono (by decide)) (bh2.mono (by decide)) ct1 (fun hs => ?_) (fun y cells hs hyl hE => ?_)
  ·have hs:wF m f h t x=none:=by rw [q5,one_5]; exact hs
   refine go13 ?_
   try refine goN ?_
   exact .inr ⟨4,refOne_none hna hs,by decide,rfl⟩
  ·have hs:wF m f h t x=some y:=by rw [q5,one_5]; exact hs
   refine go13 ?_
   try refine goN ?_
   exact ROneO.ok hna hs (by omega) (by rfl) hE
 simp [yA] at q5
 have hna:m=4∨m=5→AffS f:=fun hm => by omega
 refine go13 ?_
 refine yB (sU hi hi.hx rfl hi.ht hi.bx hi.bt (by decide)) (fun u hu => ?_)
 obtain ⟨s1,rfl,l1⟩:=hu
 have l1:Ls (elR 4194304) s1 (k1V f h t x):=l1
 refine go13 ?_
 try refine goN ?_
 cases q0:yA Cm.eql m 0
 case true =>
  simp [yA] at q0
  refine go13 ?_
  refine mE (x3:=h3) hi.hx hi.bx hi.hh hi.bh l1 n1 c1 (by decide) (fun cells hE => ?_)
  have hs:wF m f h t x=some (eulerV f h t x):=by rw [q0,one_0]
  have hyl:(eulerV f h t x).length=x.length:=yX n1
  refine go13 ?_
  try refine goN ?_
  exact ROneO.ok hna hs (by omega) (by rfl) hE
 simp [yA] at q0
 refine go13 ?_
 have c2:CpL 10000 (yM x (h*vJ) (k1V f h t x)):=(wJ hi.bx bh2 c1).mono (by decide)
 have n2:(yM x (h*vJ) (k1V f h t x)).length=x.length:=yX n1
 have c3:CpL 10000 (yM x h (k1V f h t x)):=(wJ hi.bx hi.bh c1).mono (by decide)
 have n3:(yM x h (k1V f h t x)).length=x.length:=yX n1
 have c4:CpL 130000 (yU f (yM x h (k1V f h t x)) (t+h)):=(wO (vD hi.hf (show _=(yM x h (k1V f h t x)).length+1 by rw [n3])) c3 ct1).mono (by decide)
 have n4:(yU f (yM x h (k1V f h t x)) (t+h)).length=x.length:=by rw [wA,hi.hl]
 have hyl:(heunV f h t x).length=x.length:=by rw [heunV,yX (by rw [yX (by rw [wA,wA]),wA,hi.hl])]
 cases q1:yA Cm.eql m 1
 case true =>
  simp [yA] at q1
  have hs:wF m f h t x=some (heunV f h t x):=by rw [q1,one_1]
  refine go13 ?_
  refine yH (tH (x3:=h3) hi.hx hi.bx g5 bh2 l1 n1 c1 (by decide)) (fun u hu => ?_)
  obtain ⟨s2,rfl,l2⟩:=hu
  refine go13 ?_
  refine yH (tH (x3:=h3) hi.hx hi.bx hi.hh hi.bh l1 n1 c1 (by decide)) (fun u hu => ?_)
  obtain ⟨s3,rfl,l3⟩:=hu
  refine go13 ?_
  refine yH (tE hi.ht hi.hh (by decide)) (fun u hu => ?_)
  obtain ⟨s4,rfl,g4⟩:=hu
  have g4:=g4.tightS (ct1.bd (k:=4194304) (by decide) (by simp))
  refine go13 ?_
  refine yH (sU hi l3 n3 g4 c3 ct1 (by decide)) (fun u hu => ?_)
  obtain ⟨s5,rfl,l5⟩:=hu
  refine go13 ?_
  refine mE (x3:=by omega) l2 c2 g5 bh2 l5 (by rw [n4,n2]) c4 (by decide) (fun cells hE => ?_)
  rw [n2]
  rw [show yM (yM x (h*vJ) (k1V f h t x)) (h*vJ) (yU f (yM x h (k1V f h t x)) (t+h))=heunV f h t x from along2 _ n1 n4] at hE
  refine go13 ?_
  try refine goN ?_
  exact ROneO.ok hna hs (by omega) (by rfl) hE
 simp [yA] at q1
 refine go13 ?_
 cases q6:yA Cm.eql m 6
 case true =>
  simp [yA] at q6
  have hs:wF m f h t x=some (heunV f h t x):=by rw [q6,one_6]
  refine go13 ?_
  refine yH (tH (x3:=h3) hi.hx hi.bx g5 bh2 l1 n1 c1 (by decide)) (fun u hu => ?_)
  obtain ⟨s2,rfl,l2⟩:=hu
  refine go13 ?_
  refine yH (tH (x3:=h3) hi.hx hi.bx hi.hh hi.bh l1 n1 c1 (by decide)) (fun u hu => ?_)
  obtain ⟨s3,rfl,l3⟩:=hu
  refine go13 ?_
  refine yH (tE hi.ht hi.hh (by decide)) (fun u hu => ?_)
  obtain ⟨s4,rfl,g4⟩:=hu
  have g4:=g4.tightS (ct1.bd (k:=4194304) (by decide) (by simp))
  refine go13 ?_
  refine yH (sU hi l3 n3 g4 c3 ct1 (by decide)) (fun u hu => ?_)
  obtain ⟨s5,rfl,l5⟩:=hu
  refine go13 ?_
  refine mE (x3:=by omega) l2 c2 g5 bh2 l5 (by rw [n4,n2]) c4 (by decide) (fun cells hE => ?_)
  rw [n2]
  rw [show yM (yM x (h*vJ) (k1V f h t x)) (h*vJ) (yU f (yM x h (k1V f h t x)) (t+h))=heunV f h t x from along2 _ n1 n4] at hE
  refine go13 ?_
  try refine goN ?_
  exact ROneO.ok hna hs (by omega) (by rfl) hE
 simp [yA] at q6
 clear c3 n3 c4 n4 hyl c2 n2
 have p1:CpL 10000 (yM x (h*vJ) (k1V f h t x)):=(wJ hi.bx bh2 c1).mono (by decide)
 have m1:(yM x (h*vJ) (k1V f h t x)).length=x.length:=yX n1
 have c2:CpL 130000 (k2V f h t x):=(wO (vD hi.hf (show _=(yM x (h*vJ) (k1V f h t x)).length+1 by rw [m1])) p1 ct2).mono (by decide)
 have n2:(k2V f h t x).length=x.length:=by rw [k2V,wA,hi.hl]
 refine go13 ?_
 cases q2:yA Cm.eql m 2
 case true =>
  simp [yA] at q2
  refine go13 ?_
  refine yH (tH (x3:=h3) hi.hx hi.bx g5 bh2 l1 n1 c1 (by decide)) (fun u hu => ?_)
  obtain ⟨s2,rfl,l2⟩:=hu
  refine go13 ?_
  refine yH (tE hi.ht g5 (by decide)) (fun u hu => ?_)
  obtain ⟨s4,rfl,g4⟩:=hu
  have g4:=g4.tightS (ct2.bd (k:=4194304) (by decide) (by simp))
  refine go13 ?_
  refine yH (sU hi l2 m1 g4 p1 ct2 (by decide)) (fun u hu => ?_)
  obtain ⟨s5,rfl,l5⟩:=hu
  refine go13 ?_
  refine mE (x3:=h3) hi.hx hi.bx hi.hh hi.bh l5 n2 c2 (by decide) (fun cells hE => ?_)
  have hs:wF m f h t x=some (midV f h t x):=by rw [q2,one_2]
  have hyl:(midV f h t x).length=x.length:=yX n2
  refine go13 ?_
  try refine goN ?_
  exact ROneO.ok hna hs (by omega) (by rfl) hE
 simp [yA] at q2
 have hm3:m=3:=by omega
 have hs:wF m f h t x=some (gT f h t x):=by rw [hm3,one_3]
 have p2:CpL 131000 (yM x (h*vJ) (k2V f h t x)):=(wJ hi.bx bh2 c2).mono (by decide)
 have m2:(yM x (h*vJ) (k2V f h t x)).length=x.length:=yX n2
 have c3:CpL 1600000 (k3V f h t x):=(wO (vD hi.hf (show _=(yM x (h*vJ) (k2V f h t x)).length+1 by rw [m2])) p2 ct2).mono (by decide)
 have n3:(k3V f h t x).length=x.length:=by rw [k3V,wA,hi.hl]
 have p3:CpL 1610000 (yM x h (k3V f h t x)):=(wJ hi.bx hi.bh c3).mono (by decide)
 have m3:(yM x h (k3V f h t x)).length=x.length:=yX n3
 have c4:CpL 19400000 (k4V f h t x):=(wO (vD hi.hf (show _=(yM x h (k3V f h t x)).length+1 by rw [m3])) p3 ct1).mono (by decide)
 have n4:(k4V f h t x).length=x.length:=by rw [k4V,wA,hi.hl]
 have bs:CpL 50 [h*fr 1 6]:=(vF hi.bh (cp_frac (a:=1) (b:=6) (n:=3) (by decide) (by decide) (by decide) false)).mono (by decide)
 have bd:CpL 50 [h*fr 1 3]:=(vF hi.bh (cp_frac (a:=1) (b:=3) (n:=2) (by decide) (by decide) (by decide) false)).mono (by decide)
 have w1:CpL 9900 (yM x (h*fr 1 6) (k1V f h t x)):=(wJ hi.bx bs c1).mono (by decide)
 have v1:(yM x (h*fr 1 6) (k1V f h t x)).length=x.length:=yX n1
 have w2:CpL 140000 (yM (yM x (h*fr 1 6) (k1V f h t x)) (h*fr 1 3) (k2V f h t x)):=(wJ w1 bd c2).mono (by decide)
 have v2:(yM (yM x (h*fr 1 6) (k1V f h t x)) (h*fr 1 3) (k2V f h t x)).length=x.length:=by rw [yX (by rw [n2,v1]),v1]
 have w3:CpL 1800000 (yM (yM (yM x (h*fr 1 6) (k1V f h t x)) (h*fr 1 3) (k2V f h t x)) (h*fr 1 3) (k3V f h t x)):=(wJ w2 bd c3).mono (by decide)
 have v3:(yM (yM (yM x (h*fr 1 6) (k1V f h t x)) (h*fr 1 3) (k2V f h t x)) (h*fr 1 3) (k3V f h t x)).length=x.length:=by rw [yX (by rw [n3,v2]),v2]
 refine go13 ?_
 refine yH (tH (x3:=h3) hi.hx hi.bx g5 bh2 l1 n1 c1 (by decide)) (fun u hu => ?_)
 obtain ⟨r2,rfl,l2⟩:=hu
 refine go13 ?_
 refine yB (tE hi.ht g5 (by decide)) (fun u hu => ?_)
 obtain ⟨r3,rfl,g3⟩:=hu
 have g3:=g3.tightS (ct2.bd (k:=4194304) (by decide) (by simp))
 refine go13 ?_
 refine yB (sU hi l2 m1 g3 p1 ct2 (by decide)) (fun u hu => ?_)
 obtain ⟨r4,rfl,l4⟩:=hu
 have l4:Ls (elR 4194304) r4 (k2V f h t x):=l4
 refine go13 ?_
 try refine goN ?_
 refine yH (tH (x3:=h3) hi.hx hi.bx g5 bh2 l4 n2 c2 (by decide)) (fun u hu => ?_)
 obtain ⟨r6,rfl,l6⟩:=hu
 refine go13 ?_
 refine yB (tE hi.ht g5 (by decide)) (fun u hu => ?_)
 obtain ⟨r7,rfl,g7⟩:=hu
 have g7:=g7.tightS (ct2.bd (k:=4194304) (by decide) (by simp))
 refine go13 ?_
 refine yB (sU hi l6 m2 g7 p2 ct2 (by decide)) (fun u hu => ?_)
 obtain ⟨r8,rfl,l8⟩:=hu
 have l8:Ls (elR 4194304) r8 (k3V f h t x):=l8
 refine go13 ?_
 try refine goN ?_
 refine yH (tH (x3:=h3) hi.hx hi.bx hi.hh hi.bh l8 n3 c3 (by decide)) (fun u hu => ?_)
 obtain ⟨r9,rfl,l9⟩:=hu
 refine go13 ?_
 refine yB (tE hi.ht hi.hh (by decide)) (fun u hu => ?_)
 obtain ⟨r10,rfl,g10⟩:=hu
 have g10:=g10.tightS (ct1.bd (k:=4194304) (by decide) (by simp))
 refine go13 ?_
 refine yB (sU hi l9 m3 g10 p3 ct1 (by decide)) (fun u hu => ?_)
 obtain ⟨r11,rfl,l11⟩:=hu
 have l11:Ls (elR 4194304) r11 (k4V f h t x):=l11
 refine go13 ?_
 try refine goN ?_
 refine yH (bB (a:=1) (b:=6) (by decide) (by decide) (by decide)) (fun u hu => ?_)
 obtain ⟨r12,rfl,g12⟩:=hu
 refine go13 ?_
 refine yH (qH hi.hh g12 (by decide)) (fun u hu => ?_)
 obtain ⟨r13,rfl,g13⟩:=hu
 have g13:=g13.tightS (bs.bd (k:=4194304) (by decide) (by simp))
 obtain ⟨_,_,_,_,rfl⟩:=id g13.four
 refine go13 ?_
 try refine goN ?_
 refine yH (bB (a:=1) (b:=3) (by decide) (by decide) (by decide)) (fun u hu => ?_)
 obtain ⟨r14,rfl,g14⟩:=hu
 refine go13 ?_
 refine yH (qH hi.hh g14 (by decide)) (fun u hu => ?_)
 obtain ⟨r15,rfl,g15⟩:=hu
 have g15:=g15.tightS (bd.bd (k:=4194304) (by decide) (by simp))
 obtain ⟨_,_,_,_,rfl⟩:=id g15.four
 refine go13 ?_
 try refine goN ?_
 refine yH (tH (x3:=h3) hi.hx hi.bx g13 bs l1 n1 c1 (by decide)) (fun u hu => ?_)
 obtain ⟨r16,rfl,l16⟩:=hu
 refine go13 ?_
 refine yH (tH (x3:=by omega) l16 w1 g15 bd l4 (by rw [n2,v1]) c2 (by decide)) (fun u hu => ?_)
 obtain ⟨r17,rfl,l17⟩:=hu
 refine go13 ?_
 refine yH (tH (x3:=by omega) l17 w2 g15 bd l8 (by rw [n3,v2]) c3 (by decide)) (fun u hu => ?_)
 obtain ⟨r18,rfl,l18⟩:=hu
 refine go13 ?_
 refine mE (x3:=by omega) l18 w3 g13 bs l11 (by rw [n4,v3]) c4 (by decide) (fun cells hE => ?_)
 rw [v3]
 rw [show yM (yM (yM (yM x (h*fr 1 6) (k1V f h t x)) (h*fr 1 3) (k2V f h t x)) (h*fr 1 3) (k3V f h t x)) (h*fr 1 6) (k4V f h t x)=gT f h t x from along4 h n1 n2 n3 n4] at hE
 have hyl:(gT f h t x).length=x.length:=by
  have:=hE.len
  rw [gT,yX (by rw [sumV,yX (by rw [yX (by rw [yX (by rw [n1,n2]),n1,n3]),yX (by rw [n1,n2]),n1,n4]),yX (by rw [yX (by rw [n1,n2]),n1,n3]),yX (by rw [n1,n2]),n1])]
 refine go13 ?_
 try refine goN ?_
 exact ROneO.ok hna hs (by omega) (by rfl) hE
end Go.Proofs.YtokckcnfojjpjaaGreat

namespace Go.Proofs.YtokckcnfojjpjaaGreat
open Go.RowKit
set_option maxRecDepth 20000
theorem Els.fit {k:Nat}:∀ {ds:List C} {l:List Rat},Els (elR k) ds l→uZ l→Els (elR 2) ds l
 | _,_,.nil,_ => .nil
 | _,_,.cons h t,hf => .cons (IR.tightS (show IR k _ _ from h) (fit_ratS (hf _ (by simp))).bd) (t.fit fun q hq => hf q (List.mem_cons_of_mem _ hq))
theorem part_set {y:List Rat} {g:Int} {i:Nat} (hi:i<y.length):((y.take i).map (rdV g)++y.drop i).set i (rdV g y[i])=(y.take (i+1)).map (rdV g)++y.drop (i+1):=by
 have h1:((y.take i).map (rdV g)).length=i:=by simp; omega
 rw [List.set_append_right _ _ (by omega),h1,Nat.sub_self,xU hi,List.map_append,List.append_assoc]
 congr 1
 rw [List.drop_eq_getElem_cons hi]
 rfl
theorem part_get {y:List Rat} {g:Int} {i:Nat} (hi:i<y.length):((y.take i).map (rdV g)++y.drop i)[i]'(by simp; omega)=y[i]:=by
 rw [List.getElem_append_right (by simp; omega)]
 simp [Nat.min_eq_left (Nat.le_of_lt hi)]
def BehK (b n:Nat) (co:Option Nat) (y:List Rat) (H0:Hp) (u:V) (H:Hp):Prop:=(¬ uZ y∧∃ s,u=.tup [.c .nilSl,.c .nilSl,i64 3]∧H=H0.set b s) ∨
 (uZ y∧∃ cells e,Els (elR 2) cells y∧Ls elP e (y.map rp)∧u=.tup [.c (.sl b 0 n co 4),.c e,i64 0]∧H=H0.set b (.live ⟨cells,yC,.ro⟩))
theorem ldA_els {k b i:Nat} {cells:List C} {el:TypeId} {kd:BK} {l:List Rat} {H:Hp} {off:Nat} {Q:V→Prop} (hb:H[b]?=some (.live ⟨cells,el,kd⟩)) (hE:Els (elR k) cells l) (hi:i<l.length) (ho:off=i*4) (q:∀ cs,IR k cs l[i]→Q (.agg cs)):yW H[b]? true 4 off Q:=by
 subst ho
 have hl:=hE.len
 have hl:cells.length=l.length*4:=hl
 obtain ⟨cs,r,h1,h2⟩:=hE.get hi
 have h2:cells.drop (i*4)=cs++r:=h2
 refine yJ hb (Nat.ble_eq_true_of_le (by simp only; omega)) ?_
 have hcl:cs.length=4:=(elR k).len h1
 rw [h2,List.take_append_of_le_length (by omega),List.take_of_length_le (by omega)]
 exact q cs h1
attribute [local irreducible] yA semH semC qLen qNil qIad qSlc qIdx yW yN xB appX appI slcX awpF yQ xH xopF xN qval lval seqQ xI xY xW xT cnd arith IntKind.wrap
theorem behind_raw {b:Nat} {cells:List C} {y:List Rat} {g:Int} {H:Hp} {co:Option Nat} (hb:H[b]?=some (.live ⟨cells,yC,.rw⟩)) (hE:Els (elR 4194304) cells y) (hl:y.length<1048576) (hg:g<4294967296) :
  semH Tryz.prog n_ref19_behind [.c (.sl b 0 y.length co 4),i64 g] H (BehK b y.length co (y.map (rdV g)) H):=by
 refine sR ok_ref19_behind rfl ?_
 refine go13 ?_
 cases hg0:yA Cm.gtr g 0
 case false =>
  simp [yA] at hg0
  have e:y.map (rdV g)=y:=by
   conv => rhs; rw [←List.map_id y]
   exact List.map_congr_left (fun q _ => rd_none (by omega))
  rw [←e] at hE
  have hset:(H.set b (.live ⟨cells,yC,.ro⟩))=(H.set b (.live ⟨cells,yC,.ro⟩)):=rfl
  refine go13 ?_
  refine go13 ?_
  have hE2:=hE.len
  have hE2:cells.length=(y.map (rdV g)).length*4:=hE2
  have hco:=mJ hb
  refine yS [b] (.cons (.c (.sl (bx:=⟨cells,yC,.ro⟩) (ds:=cells) (by rw [hco]; exact List.getElem?_set_self (lt_of_getElem? hb)) rfl (by simp) (by rw [List.drop_zero,List.take_of_length_le (by simp only [List.length_map] at hE2; simp only; omega)]; exact .hf hE.hf))) .nil) (ref01_Rats (by have:=Ls.imm hE; rwa [List.length_map] at this) (by rw [List.length_map]; exact hl)) (fun u hu => ?_)
  obtain ⟨e,le,rfl⟩:=hu
  rw [hco,hset]
  cases hfit:dec (uZ (y.map (rdV g)))
  case false =>
   have ho:jX (y.map (rdV g))=([],false):=by unfold jX; rw [show dec (∀ q∈y.map (rdV g),fitR (rp q)=true)=false from hfit]; rfl
   rw [ho] at le ⊢
   refine go13 ?_
   exact .inl ⟨yG.1 hfit,_,rfl,rfl⟩
  have ho:jX (y.map (rdV g))=((y.map (rdV g)).map rp,true):=by unfold jX; rw [show dec (∀ q∈y.map (rdV g),fitR (rp q)=true)=true from hfit]; rfl
  rw [ho] at le ⊢
  refine go13 ?_
  exact .inr ⟨yF.1 hfit,cells,e,hE.fit (yF.1 hfit),le,rfl,rfl⟩
 simp [yA] at hg0
 have hy:∀ i (hi:i<y.length),Bd 4194304 (rp y[i]):=fun i hi => by
  obtain ⟨cs,r,h1,_⟩:=hE.get hi
  exact (show IR 4194304 cs y[i] from h1).bd
 refine go13 ?_
 refine yR (fun w vs H' => ∃ (i:Nat) (cells:List C),vs=[.c (.sl b 0 y.length co 4),i64 g,i64 y.length,i64 i]∧H'=H.set b (.live ⟨cells,yC,.rw⟩)∧w=y.length - i∧i≤y.length∧Els (elR 4194308) cells ((y.take i).map (rdV g)++y.drop i)) (by rfl) ⟨0,cells,rfl,(set_same hb).symm,rfl,by omega,by simpa using hE.up' (by decide)⟩ ?_
 have hlt:=lt_of_getElem? hb
 clear hb hE cells
 rintro w vs H' ⟨i,cells,rfl,rfl,rfl,i1,hE⟩
 have hb:(H.set b (.live ⟨cells,yC,.rw⟩))[b]?=some (.live ⟨cells,yC,.rw⟩):=List.getElem?_set_self hlt
 refine go13 ?_
 cases hi:yA Cm.lss (i:Int) (y.length:Int)
 case false =>
  simp [yA] at hi
  have ei:i=y.length:=by omega
  subst ei
  rw [vE (Nat.le_refl _),List.drop_length,List.append_nil] at hE
  have hset:(H.set b (.live ⟨cells,yC,.rw⟩)).set b (.live ⟨cells,yC,.ro⟩)=H.set b (.live ⟨cells,yC,.ro⟩):=List.set_set ..
  refine go13 ?_
  have hE2:=hE.len
  have hE2:cells.length=(y.map (rdV g)).length*4:=hE2
  have hco:=mJ hb
  refine yS [b] (.cons (.c (.sl (bx:=⟨cells,yC,.ro⟩) (ds:=cells) (by rw [hco]; exact List.getElem?_set_self (lt_of_getElem? hb)) rfl (by simp) (by rw [List.drop_zero,List.take_of_length_le (by simp only [List.length_map] at hE2; simp only; omega)]; exact .hf hE.hf))) .nil) (ref01_Rats (by have:=Ls.imm hE; rwa [List.length_map] at this) (by rw [List.length_map]; exact hl)) (fun u hu => ?_)
  obtain ⟨e,le,rfl⟩:=hu
  rw [hco,hset]
  cases hfit:dec (uZ (y.map (rdV g)))
  case false =>
   have ho:jX (y.map (rdV g))=([],false):=by unfold jX; rw [show dec (∀ q∈y.map (rdV g),fitR (rp q)=true)=false from hfit]; rfl
   rw [ho] at le ⊢
   refine go13 ?_
   exact .inl ⟨yG.1 hfit,_,rfl,rfl⟩
  have ho:jX (y.map (rdV g))=((y.map (rdV g)).map rp,true):=by unfold jX; rw [show dec (∀ q∈y.map (rdV g),fitR (rp q)=true)=true from hfit]; rfl
  rw [ho] at le ⊢
  refine go13 ?_
  exact .inr ⟨yF.1 hfit,cells,e,hE.fit (yF.1 hfit),le,rfl,rfl⟩
 simp [yA] at hi
 have hbd:((y.take i).map (rdV g)++y.drop i).length=y.length:=by simp; omega
 refine go13 ?_
 refine ldA_els hb hE (i:=i) (by rw [hbd]; exact hi) (by omega) (fun cs hcs => ?_)
 rw [part_get hi] at hcs
 have hcs:=hcs.tightS (hy i hi)
 obtain ⟨_,_,_,_,rfl⟩:=id hcs.four
 refine go13 ?_
 refine yB (ref01_Rounded hcs hg0 hg (by decide)) (fun u hu => ?_)
 obtain ⟨es,rfl,g1⟩:=hu
 have hset:=hE.set (i:=i) (a:=rdV g y[i]) (by rw [hbd]; exact hi) (show (elR 4194308).p es (rdV g y[i]) by rw [rd_pos hg0]; exact g1)
 rw [part_set hi] at hset
 have hcl:=hE.len
 rw [hbd] at hcl
 have hcl:cells.length=y.length*4:=hcl
 obtain ⟨y0,y1,y2,y3,rfl⟩:=id g1.four
 refine go13 ?_
 refine yY hb (by rfl) (by rfl) (by omega) ?_
 rw [List.set_set]
 refine go13 ?_
 rw [yZ i (by omega)]
 refine l_n (by rfl) (n':=y.length - (i+1)) (by omega) ⟨i+1,_,rfl,rfl,rfl,by omega,?_⟩
 rw [show 0+(i:Int).toNat*4=i*4 by omega]
 exact hset
theorem uQ {b:Nat} {cells:List C} {y:List Rat} {g:Int} {H:Hp} {co:Option Nat} {K:V→Hp→Prop} (hb:H[b]?=some (.live ⟨cells,yC,.rw⟩)) (hE:Els (elR 4194304) cells y) (hl:y.length<1048576) (hg:g<4294967296)
  (k0:¬ uZ (y.map (rdV g))→∀ s,K (.tup [.c .nilSl,.c .nilSl,i64 3]) (H.set b s))
  (k:uZ (y.map (rdV g))→∀ c e s,Ls (elR 2) c (y.map (rdV g))→Ls elP e ((y.map (rdV g)).map rp)→K (.tup [.c c,.c e,i64 0]) (H.set b s)):semH Tryz.prog n_ref19_behind [.c (.sl b 0 y.length co 4),i64 g] H K :=
 semH_close (behind_raw hb hE hl hg) (fun u H' hu => by
  rcases hu with ⟨h1,s,rfl,rfl⟩ | ⟨h1,cs,e,h2,h3,rfl,rfl⟩
  ·exact ⟨[],_,.tup (.cons (.c (.hf trivial)) (.cons (.c (.hf trivial)) (.cons (.c (.hf trivial)) .nil))),k0 h1 s⟩
  ·have h4:=h2.len
   rw [List.length_map] at h4
   have h4:cs.length=y.length*4:=h4
   have h5:=Ls.imm h2
   rw [List.length_map] at h5
   exact ⟨[],_,.tup (.cons (.c (.sl (bx:=⟨cs,yC,.ro⟩) (ds:=cs) (List.getElem?_set_self (lt_of_getElem? hb)) rfl (by simp) (by rw [List.drop_zero,List.take_of_length_le (by simp only; omega)]; exact .hf h2.hf))) (.cons (.c (.hf h3.hf)) (.cons (.c (.hf trivial)) .nil))),k h1 _ _ _ h5 h3⟩)
end Go.Proofs.YtokckcnfojjpjaaGreat

namespace Go.Proofs.YtokckcnfojjpjaaGreat
open Go.RowKit
set_option maxRecDepth 20000
theorem run_1 (m:Int) (f:List Pl) (h t:Rat) (g:Int) (x:List Rat):runV m f h t g x 1=match wF m f h t x with
  | none => .error 4
  | some y => bif dec (uZ (y.map (rdV g))) then .ok [x,y.map (rdV g)] else .error 3:=by
 show wG m f h t g 0 [x]=_
 unfold wG
 simp only [List.getD_cons_zero,Nat.zero_sub]
 have h2:uT m f h (t+h*(((0:Nat):Int):Rat)) 0 x x=wF m f h t x:=by
  unfold uT
  rw [yG.2 (by omega)]
  have e:t+h*(((0:Nat):Int):Rat)=t:=by
   have:(((0:Nat):Int):Rat)=0:=rfl
   rw [this]
   grind
  rw [e]
  rfl
 rw [h2]
 rfl
theorem qN {m:Int} {f:List Pl} {h t:Rat} {x:List Rat} {e:Int} (hr:sS m f h t x=.error e):((m=4∨m=5)∧¬ AffS f∧e=6)∨(¬ ((m=4∨m=5)∧¬ AffS f)∧wF m f h t x=none∧e=4):=by
 unfold sS at hr
 cases hd:dec ((m=4∨m=5)∧¬ AffS f)
 ·rw [hd] at hr
  simp only [cond_false] at hr
  cases hs:wF m f h t x with
  | none =>
   rw [hs] at hr
   cases hr
   exact .inr ⟨yG.1 hd,rfl,rfl⟩
  | some y =>
   rw [hs] at hr
   cases hr
 ·rw [hd] at hr
  cases hr
  have:=yF.1 hd
  exact .inl ⟨this.1,this.2,rfl⟩
theorem uR {m:Int} {f:List Pl} {h t:Rat} {x y:List Rat} (hr:sS m f h t x=.ok y):¬ ((m=4∨m=5)∧¬ AffS f)∧wF m f h t x=some y:=by
 unfold sS at hr
 cases hd:dec ((m=4∨m=5)∧¬ AffS f)
 ·rw [hd] at hr
  simp only [cond_false] at hr
  cases hs:wF m f h t x with
  | none =>
   rw [hs] at hr
   cases hr
  | some z =>
   rw [hs] at hr
   cases hr
   exact ⟨yG.1 hd,rfl⟩
 ·rw [hd] at hr
  cases hr
theorem nM {cf cx:C} {ch ct:List C} {f:List Pl} {x:List Rat} {h t:Rat} {m:Int} (h0:0≤m) (h6:m≤6) (hi:pN cf cx ch ct f x h t) {H:Hp} {K:V→Hp→Prop}
  (q0:∀ e,sS m f h t x=.error e→e≠0→K (.tup [.c .nilSl,i64 e]) H)
  (q:∀ y cells,sS m f h t x=.ok y→y.length=x.length→Els (elR 4194304) cells y→K (.tup [.c (.sl H.length 0 y.length (some y.length) 4),i64 0]) (H++[.live ⟨cells,yC,.rw⟩])):semH Tryz.prog n_ref19_one [i64 m,.c cf,.agg ct,.c cx,.agg ch] H K :=
 bI (ref19_one h0 h6 hi) (fun u H' hu => by
  rcases hu with ⟨y,b,cells,hy,rfl,hb,hE⟩ | ⟨e,hy,he,rfl⟩
  ·exact .inr ⟨b,_,_,hb,rfl,hE.hf,.two trivial,q y cells hy (mF hi.hl (uR hy).2) hE⟩
  ·exact .inl ⟨_,.tup (.cons (.c (.hf trivial)) (.cons (.c (.hf trivial)) .nil)),q0 e hy he⟩)
theorem rt_map {x:List R2} (hx:tT x):(x.map rt).map rp=x:=by
 rw [List.map_map]
 conv => rhs; rw [←List.map_id x]
 exact List.map_congr_left fun a ha => (hx a ha).rp
attribute [local irreducible] yA semH semC qLen qNil qIad qSlc qIdx yW yN xB appX appI slcX awpF yQ xH xopF xN qval lval seqQ xI xY xW xT cnd arith IntKind.wrap
theorem ref19_Step {cf cx:C} {f:List Pl} {x:List R2} (m:Int) (t h:R2) (g:Int) (hc:Ls elM cf f) (hf:f.length<wD) (hx:Ls elP cx x) (hxl:x.length<wD):semC Tryz.prog n_ref19_Step [i64 m,.c cf,.agg (ratC t),.c cx,.agg (ratC h),i64 g] (StepRK m f t x h g):=by
 refine yD ok_ref19_Step rfl (show HFVs [i64 m,.c cf,.agg (ratC t),.c cx,.agg (ratC h),i64 g] from ⟨trivial,hc.hf,tN _,hx.hf,tN _,trivial,trivial⟩) ?_
 refine go13 ?_
 refine yB (ref19_args m t h g 0 hc hf hx hxl) (fun u hu => ?_)
 obtain rfl:=hu
 refine go13 ?_
 rw [sT,args_n (n:=0) 1 (by decide) (by decide)]
 cases h1:dec (sV m f t x h g 1≠0)
 case true =>
  have h1:=yF.1 h1
  obtain ⟨b1,b2⟩:=args_bad h1
  refine go13 ?_
  exact ⟨_,.tup (.cons (.c (.hf trivial)) (.cons (.c (.hf trivial)) .nil)),.inr (.inr ⟨b2,_,h1,rfl,fun _ => b1.symm⟩)⟩
 have h1:sV m f t x h g 1=0:=Classical.byContradiction (yG.1 h1)
 obtain ⟨z1,z2,z3,z4⟩:=args_zero h1
 have hsys:=jJ z1
 have hf3:=hsys.1.len
 have hT:=told_in z2.2.1 z4
 refine go13 ?_
 refine yH (r_Of z2.1) (fun u hu => ?_)
 obtain ⟨r1,rfl,g1⟩:=hu
 refine go13 ?_
 refine yH (hZ hx z2.2.1 (by omega)) (fun u hu => ?_)
 obtain ⟨r2,rfl,g2⟩:=hu
 refine go13 ?_
 refine yB (r_Of z2.2.2) (fun u hu => ?_)
 obtain ⟨r3,rfl,g3⟩:=hu
 have hin:pN cf r2 r3 r1 f (x.map rt) (rt h) (rt t):=⟨hc,by rw [List.length_map,z4]; exact hsys.1,by rw [List.length_map,z4],g3.up (by decide),g2.up' (by decide),g1.up (by decide),tQ hf3 hT,(tV z2.1).mono (by decide),(tV z2.2.2).mono (by decide)⟩
 refine go13 ?_
 refine nM (by omega) (by omega) hin (fun e hr he => ?_) (fun y cells hr hyl hE => ?_)
 ·refine go13 ?_
  rw [sT,yF.2 he]
  refine go13 ?_
  rcases qN hr with ⟨a1,a2,a3⟩ | ⟨a1,a2,a3⟩
  ·obtain ⟨b1,b2⟩:=args_aff h1 ⟨a1,a2⟩
   exact ⟨_,.tup (.cons (.c (.hf trivial)) (.cons (.c (.hf trivial)) .nil)),.inr (.inr ⟨b2,e,he,rfl,fun _ => by rw [b1,a3]⟩)⟩
  ·exact ⟨_,.tup (.cons (.c (.hf trivial)) (.cons (.c (.hf trivial)) .nil)),.inl ⟨gU h1 a1,e,by rw [run_1,a2,a3],he,rfl⟩⟩
 obtain ⟨a1,a2⟩:=uR hr
 have hk:=gU h1 a1
 have hrun:=run_1 m f (rt h) (rt t) g (x.map rt)
 rw [a2] at hrun
 simp only at hrun
 refine go13 ?_
 rw [show yA Cm.neq 0 0=false by simp [yA]]
 refine go13 ?_
 refine uQ (yL _ _) hE (by rw [hyl,List.length_map]; omega) (by omega) (fun hno s => ?_) (fun hfit c e s lc le => ?_)
 ·rw [yG.2 hno] at hrun
  refine go13 ?_
  exact ⟨_,.tup (.cons (.c (.hf trivial)) (.cons (.c (.hf trivial)) .nil)),.inl ⟨hk,3,hrun,by decide,rfl⟩⟩
 ·rw [yF.2 hfit] at hrun
  refine go13 ?_
  exact ⟨_,.tup (.cons (.c (.hf le.hf)) (.cons (.c (.hf trivial)) .nil)),.inr (.inl ⟨hk,_,_,hrun,⟨by rw [List.length_map,hyl,List.length_map,z4],hfit⟩,rfl,le⟩)⟩
end Go.Proofs.YtokckcnfojjpjaaGreat
