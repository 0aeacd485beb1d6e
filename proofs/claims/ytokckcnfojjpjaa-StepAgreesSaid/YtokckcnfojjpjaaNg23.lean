/-
  Parts of the proof: A run of steps (step.run).
-/
import Derived.Test.YtokckcnfojjpjaaNg22
import Derived.Test.YtokckcnfojjpjaaNg17
import Derived.Test.YtokckcnfojjpjaaNg20
set_option linter.unusedVariables false
set_option linter.unusedSimpArgs false
namespace Go.Proofs.Ytokckcnfojjpjaa
open Go.RowKit
set_option maxRecDepth 20000
def elL (k:Nat):El (List Rat):=⟨fun cs l => ∃ c,cs=[c]∧Ls (elQ k) c l,1,fun h => by obtain ⟨c,rfl,_⟩:=h; rfl,fun h => by obtain ⟨c,rfl,h⟩:=h; exact ⟨h.hf,trivial⟩⟩
noncomputable def gV (m:Int) (f:List Pl) (h a:Rat) (i:Nat) (last prev:List Rat):Option (List Rat) :=
 bif dec (m=6∧0<i) then some (yO (yO last (h*(((3:Int):Rat) / ((2:Int):Rat))) (xI f last a)) (h*(((-1:Int):Rat) / ((2:Int):Rat))) (xI f prev (a - h))) else uV m f h a last
noncomputable def sS (m:Int) (f:List Pl) (h t:Rat) (g:Int) (i:Nat) (out:List (List Rat)):Except Int (List (List Rat)) :=
 match gV m f h (t+h*((i:Int):Rat)) i (out.getD i []) (out.getD (i - 1) []) with
 | none => .error 4
 | some y => bif dec (pY (y.map (rdV g))) then .ok (out++[y.map (rdV g)]) else .error 3
noncomputable def runV (m:Int) (f:List Pl) (h t:Rat) (g:Int) (x:List Rat):Nat→Except Int (List (List Rat))
 | 0 => .ok [x]
 | i+1 => match runV m f h t g x i with
  | .error e => .error e
  | .ok out => sS m f h t g i out
theorem run_err {m:Int} {f:List Pl} {h t:Rat} {g:Int} {x:List Rat} {i n:Nat} {e:Int} (h1:runV m f h t g x i=.error e) (hn:i≤n):runV m f h t g x n=.error e:=by
 induction n with
 | zero =>
  have:i=0:=by omega
  subst this
  exact h1
 | succ n ih =>
  rcases Nat.lt_or_ge i (n+1) with h | h
  ·simp only [runV,ih (by omega)]
  ·have:i=n+1:=by omega
   subst this
   exact h1
def RunK (r:Except Int (List (List Rat))) (u:V):Prop:=(∃ e,r=.error e∧e≠0∧u=.tup [.c .nilSl,i64 e])∨(∃ out c,r=.ok out∧u=.tup [.c c,i64 0]∧Ls (elL 2) c out)
def Told (f:List Pl) (l:List Rat):Prop:=l.length=f.length∧pY l
theorem told_cpl {f:List Pl} {l:List Rat} (hf:f.length≤3) (h:Told f l):CpL 120 l:=by
 have h1:tA (l.map rp):=fun p hp => by
  obtain ⟨q,hq,rfl⟩:=List.mem_map.1 hp
  exact fit_ratS (h.2 q hq)
 have h2:=CpL.rats h1
 have h3:(l.map rp).map rt=l:=by
  rw [List.map_map]
  conv => rhs; rw [←List.map_id l]
  exact List.map_congr_left fun q _ => rt_rp q
 rw [h3,List.length_map] at h2
 exact h2.mono (by have:=h.1; omega)
theorem cp_neg {a:Nat} {p:Rat} (h:CpL a [p]):CpL a [-p]:=by
 obtain ⟨D,g1,g2,g3⟩:=h
 refine ⟨D,g1,g2,fun r hr => ?_⟩
 simp at hr
 subst hr
 exact (g3 p (by simp)).neg
theorem cp_sub {a b:Nat} {p q:Rat} (h1:CpL a [p]) (h2:CpL b [q]):CpL (a+b+1) [p - q]:=by
 rw [Rat.sub_eq_add_neg]
 exact bG h1 (cp_neg h2)
theorem c32:CpL 2 [((3:Int):Rat) / ((2:Int):Rat)]:=cp_frac (a:=3) (b:=2) (n:=2) (by decide) (by decide) (by decide) false
theorem c12:CpL 2 [((-1:Int):Rat) / ((2:Int):Rat)]:=cp_frac (a:=1) (b:=2) (n:=2) (by decide) (by decide) (by decide) true
theorem ld_L {k:Nat} {c:C} {l:List (List Rat)} {n i:Nat} {K:V→Prop} (hc:Ls (elL k) c l) (hi:i<l.length) (hn:n=i) (h:∀ d,Ls (elQ k) d l[i]→K (.c d)):yI (c.ds.drop (n*1)) false 1 K:=by
 subst hn
 obtain ⟨cs,r,⟨d,rfl,h1⟩,h2⟩:=hc.els.get hi
 have h2:c.ds.drop (n*1)=[d]++r:=h2
 rw [h2]
 exact h d h1
theorem Out.isSl {α:Type} {E:El α} {el:TypeId} {m:Nat} {H:Hp} {c:C} {l:List α} (h:Out E el m H c l) (h0:0<l.length):∃ b co,c=.sl b 0 l.length co E.s:=by
 cases h with
 | nil => simp at h0
 | @sl b n co cells ds _ hm hb hn hc hE =>
  subst hn
  exact ⟨b,co,rfl⟩
theorem Out.extS {α:Type} {E:El α} {el:TypeId} {m:Nat} {H S:Hp} {c:C} {l:List α} (h:Out E el m H c l):Out E el m (H++S) c l:=by
 cases h with
 | nil => exact .nil
 | sl hm hb hn hc h => exact .sl hm (by rw [List.getElem?_append_left (lt_of_getElem? hb)]; exact hb) hn hc h
theorem ld_outL {k:Nat} {el:TypeId} {m n i b off:Nat} {co:Option Nat} {H:Hp} {l:List (List Rat)} {K:V→Prop} (ho:Out (elL k) el m H (.sl b off n co 1) l) (hi:i<l.length) {o:Nat} (hof:o=off+i*1) (h:∀ d,Ls (elQ k) d l[i]→K (.c d)):yW H[b]? false 1 o K:=by
 subst hof
 cases ho with
 | @sl _ _ _ cells ds _ hm hb hn hc hE =>
  obtain ⟨cs,r,⟨d,rfl,h1⟩,h2⟩:=hE.get hi
  refine yU (c:=d) hb ?_ (h d h1)
  simp only
  have e:ds[i*1]?=some d:=by
   have:=congrArg (·[0]?) h2
   simpa [List.getElem?_drop,elL] using this
  rw [←hc,List.getElem?_take] at e
  split at e
  ·simpa using e
  ·cases e
theorem bX {P:Program} {e:Env} {H:Hp} {K:V→Hp→Prop} {f:AO} {args:List AO} {g:FuncId} {us:List V} {cs:List C} (h:f.ev e=some (.c (.fn g cs))) (h2:evs e args=some us) (k:semH P g (us++cs.map .c) H K):xopF P e H (.call f args) K:=by
 cases cs with
 | nil =>
  rw [List.map_nil,List.append_nil] at k
  exact jX h h2 k
 | cons c cs => exact x_callc h h2 k
theorem mStep_len {m:Int} {f:List Pl} {h t:Rat} {x y:List Rat} (hl:f.length=x.length) (hy:uV m f h t x=some y):y.length=x.length:=by
 have r:∀ z s,(xI f z s).length=x.length:=fun z s => by rw [vT,hl]
 have sol:∀ {n:Nat} {M:Mx} {z:List Rat},qV n M=some z→z.length=n:=by
  intro n M z hz
  unfold qV at hz
  cases hg:wK n M n with
  | none => rw [hg] at hz; cases hz
  | some R =>
   rw [hg] at hz
   simp at hz
   subst hz
   simp
 unfold uV at hy
 cases h0:dec (m=0) <;> rw [h0] at hy
 case true =>
  cases hy
  exact xE (r _ _)
 cases h1:dec (m=1∨m=6) <;> rw [h1] at hy
 case true =>
  cases hy
  refine xE ?_
  rw [xE] <;> simp [r]
 cases h2:dec (m=2) <;> rw [h2] at hy
 case true =>
  cases hy
  exact xE (r _ _)
 cases h3:dec (m=3) <;> rw [h3] at hy
 case true =>
  cases hy
  refine xE ?_
  have k1:(k1V f h t x).length=x.length:=r _ _
  have k2:(k2V f h t x).length=x.length:=r _ _
  have k3:(k3V f h t x).length=x.length:=r _ _
  have k4:(k4V f h t x).length=x.length:=r _ _
  have q1:(yO (k1V f h t x) ((2:Int):Rat) (k2V f h t x)).length=x.length:=by rw [xE (by rw [k1,k2]),k1]
  have q2:(yO (yO (k1V f h t x) ((2:Int):Rat) (k2V f h t x)) ((2:Int):Rat) (k3V f h t x)).length=x.length:=by rw [xE (by rw [q1,k3]),q1]
  rw [sumV,xE (by rw [q2,k4]),q2]
 cases h4:dec (m=4) <;> rw [h4] at hy
 case true => exact sol hy
 have:=sol hy
 rw [this]
 exact xE (r _ _)
attribute [local irreducible] yA semH semC qLen qNil qIad qSlc qIdx yW yI xA appX appI slcX awpF yP xH xopF xM qval lval seqQ xJ xY xU xR cnd arith IntKind.wrap
theorem step_run {cf cx:C} {ch ct:List C} {f:List Pl} {x:List Rat} {h t:Rat} {m g:Int} {n:Nat} (hc:Ls elM cf f) (hf:SysOk (f.length+1) f) (hx:Ls (elQ 2) cx x) (hT:Told f x) (hh:IQ 8 ch h) (bh:CpL 42 [h]) (ht:IQ 8 ct t) (bt:CpL 40 [t]) (m0:0≤m) (m6:m≤6) (hg:g<4294967296) (hn:n≤60) (hi:ImpOk m) (ha:m=4∨m=5→AffS f) :
  semC Try.prog n_step_run [i64 m,.agg (cf :: ch),.agg ct,.c cx,i64 g,i64 n] (RunK (runV m f h t g x n)):=by
 refine yD ok_step_run rfl (show HFVs [i64 m,.agg (cf :: ch),.agg ct,.c cx,i64 g,i64 n] from ⟨trivial,⟨hc.hf,hh.hf⟩,ht.hf,hx.hf,trivial,trivial,trivial⟩) ?_
 have hf3:=hf.len
 obtain ⟨a0,a1,a2,a3,a4,a5,rfl⟩:=id hh.six
 obtain ⟨b0,b1,b2,b3,b4,b5,rfl⟩:=id ht.six
 refine go5 ?_
 refine yB (step_method m0 m6 hi) (fun u hu => ?_)
 obtain ⟨gf,caps,rfl,hcap,hdo⟩:=hu
 refine go5 ?_
 refine goN ?_
 obtain ⟨F,hF⟩:∃ F:Hp,F=[.live ⟨[cf,a0,a1,a2,a3,a4,a5],vO,.rw⟩,.live ⟨[b0,b1,b2,b3,b4,b5],yR,.rw⟩]:=⟨_,rfl⟩
 refine yX (fun w vs H => ∃ (i:Nat) (o:C) (R:Hp) (out:List (List Rat)),vs=[i64 m,i64 g,.c (.ptr 0 0),.c (.ptr 1 0),.c o,.c (.fn gf caps),i64 n,i64 i]∧H=[.live ⟨[cf,a0,a1,a2,a3,a4,a5],vO,.rw⟩,.live ⟨[b0,b1,b2,b3,b4,b5],yR,.rw⟩]++R∧w=n - i∧i≤n∧runV m f h t g x i=.ok out∧out.length=i+1∧(∀ l∈out,Told f l)∧Out (elL 2) qM 2 H o out) (by rfl) ⟨0,_,[.live ⟨[cx],qM,.rw⟩],[x],rfl,rfl,rfl,by omega,rfl,rfl,by simpa using hT,.sl (cells:=[cx]) (ds:=[cx]) (by decide) rfl rfl rfl (.one ⟨cx,rfl,hx⟩)⟩ ?_
 rintro w vs H ⟨i,o,R,out,rfl,rfl,rfl,i1,i2,i3,i4,i5⟩
 obtain ⟨b,co,rfl⟩:=i5.isSl (by omega)
 refine go13 ?_
 cases hi:yA Cm.lss (i:Int) (n:Int)
 case false =>
  simp [yA] at hi
  have ei:i=n:=by omega
  subst ei
  refine go13 ?_
  obtain ⟨d,f1,l1⟩:=i5.fz (p:=(·≠.bor)) (by simp)
  exact ⟨_,.tup (.cons (.c f1) (.cons (.c (.hf trivial)) .nil)),.inr ⟨out,d,i2,rfl,l1⟩⟩
 simp [yA] at hi
 have hlast:=i4 _ (List.getElem_mem (show i<out.length by omega))
 have hgl:out.getD i []=out[i]'(by omega):=by simp [List.getD,i3]
 refine go13 ?_
 refine yS (sA (g:=(i:Int)) (by omega)) (fun u hu => ?_)
 obtain ⟨r1,rfl,g1⟩:=hu
 refine go13 ?_
 refine yS (sG hh g1 (by decide)) (fun u hu => ?_)
 obtain ⟨r2,rfl,g2⟩:=hu
 refine go13 ?_
 refine yS (pR ht g2 (by decide)) (fun u hu => ?_)
 obtain ⟨r3,rfl,g3⟩:=hu
 have bi:CpL 6 [((i:Int):Rat)]:=bF (by omega)
 have ba:CpL 90 [t+h*((i:Int):Rat)]:=(bG bt (hU bh bi)).mono (by decide)
 obtain ⟨c0,c1,c2,c3,c4,c5,rfl⟩:=id g3.six
 refine go13 ?_
 refine ld_outL i5.extS (i:=i) (by omega) (by omega) (fun cl hcl => ?_)
 have bl:=told_cpl hf3 hlast
 have g3:=g3.up (show _≤4194304 by decide)
 have hin:qY cf cl [a0,a1,a2,a3,a4,a5] [c0,c1,c2,c3,c4,c5] f (out[i]'(by omega)) h (t+h*((i:Int):Rat)):=⟨hc,sQ hf (by rw [hlast.1]),hlast.1.symm,hh.up (by decide),hcl.up (by decide),g3,bl,ba,bh.mono (by decide)⟩
 refine go13 ?_
 cases c6:yA Cm.eql m 6
 case false =>
  simp [yA] at c6
  have hnx:gV m f h (t+h*((i:Int):Rat)) i (out.getD i []) (out.getD (i - 1) [])=uV m f h (t+h*((i:Int):Rat)) (out[i]'(by omega)):=by
   unfold gV
   rw [yK.2 (by omega),hgl]
   rfl
  refine go13 ?_
  refine bX (by rfl) (by rfl) (yB (hdo hin ha) (fun u hu => ?_))
  rcases hu with ⟨y,cy,hy,rfl,ly⟩ | ⟨hy,rfl⟩
  case inr =>
   have he:runV m f h t g x (i+1)=.error 4:=by
    simp only [runV,i2,sS,hnx,hy]
   refine go13 ?_
   exact ⟨_,.tup (.cons (.c (.hf trivial)) (.cons (.c (.hf trivial)) .nil)),.inl ⟨4,run_err he (by omega),by decide,rfl⟩⟩
  have hny:y.length=f.length:=by rw [mStep_len hin.hl hy,hlast.1]
  rw [hy] at hnx
  refine go13 ?_
  refine yB (nD ly (by omega) hg) (fun u hu => ?_)
  rcases hu with ⟨hfit,cz,rfl,lz⟩ | ⟨hfit,rfl⟩
  case inr =>
   have he:runV m f h t g x (i+1)=.error 3:=by
    simp only [runV,i2,sS,hnx]
    rw [yK.2 hfit]
    rfl
   refine go13 ?_
   exact ⟨_,.tup (.cons (.c (.hf trivial)) (.cons (.c (.hf trivial)) .nil)),.inl ⟨3,run_err he (by omega),by decide,rfl⟩⟩
  have hr:runV m f h t g x (i+1)=.ok (out++[y.map (rdV g)]):=by
   simp only [runV,i2,sS,hnx]
   rw [yE.2 hfit]
   rfl
  refine go13 ?_
  refine app_imm (bytes:=24) (E:=elL 2) (F:=[.live ⟨[cf,a0,a1,a2,a3,a4,a5],vO,.rw⟩,.live ⟨[b0,b1,b2,b3,b4,b5],yR,.rw⟩]) (a:=y.map (rdV g)) (List.append_assoc _ _ _) (by rw [←List.append_assoc]; exact i5.extS) (by rfl) (by rfl) rfl ⟨cz,rfl,lz⟩ (by omega) (fun R2 o2 q2 => ?_)
  refine go13 ?_
  rw [xL i (by omega)]
  refine l_n (by rfl) (n':=n - (i+1)) (by omega) ⟨i+1,_,_,_,rfl,rfl,rfl,by omega,hr,by simp; omega,fun l hl => ?_,q2⟩
  rcases List.mem_append.1 hl with hl | hl
  ·exact i4 l hl
  ·simp only [List.mem_singleton] at hl
   subst hl
   exact ⟨by rw [List.length_map,hny],hfit⟩
 simp [yA] at c6
 refine go13 ?_
 cases c7:yA Cm.gtr (i:Int) 0
 case false =>
  simp [yA] at c7
  have hnx:gV m f h (t+h*((i:Int):Rat)) i (out.getD i []) (out.getD (i - 1) [])=uV m f h (t+h*((i:Int):Rat)) (out[i]'(by omega)):=by
   unfold gV
   rw [yK.2 (by omega),hgl]
   rfl
  refine go13 ?_
  refine bX (by rfl) (by rfl) (yB (hdo hin ha) (fun u hu => ?_))
  rcases hu with ⟨y,cy,hy,rfl,ly⟩ | ⟨hy,rfl⟩
  case inr =>
   have he:runV m f h t g x (i+1)=.error 4:=by
    simp only [runV,i2,sS,hnx,hy]
   refine go13 ?_
   exact ⟨_,.tup (.cons (.c (.hf trivial)) (.cons (.c (.hf trivial)) .nil)),.inl ⟨4,run_err he (by omega),by decide,rfl⟩⟩
  have hny:y.length=f.length:=by rw [mStep_len hin.hl hy,hlast.1]
  rw [hy] at hnx
  refine go13 ?_
  refine yB (nD ly (by omega) hg) (fun u hu => ?_)
  rcases hu with ⟨hfit,cz,rfl,lz⟩ | ⟨hfit,rfl⟩
  case inr =>
   have he:runV m f h t g x (i+1)=.error 3:=by
    simp only [runV,i2,sS,hnx]
    rw [yK.2 hfit]
    rfl
   refine go13 ?_
   exact ⟨_,.tup (.cons (.c (.hf trivial)) (.cons (.c (.hf trivial)) .nil)),.inl ⟨3,run_err he (by omega),by decide,rfl⟩⟩
  have hr:runV m f h t g x (i+1)=.ok (out++[y.map (rdV g)]):=by
   simp only [runV,i2,sS,hnx]
   rw [yE.2 hfit]
   rfl
  refine go13 ?_
  refine app_imm (bytes:=24) (E:=elL 2) (F:=[.live ⟨[cf,a0,a1,a2,a3,a4,a5],vO,.rw⟩,.live ⟨[b0,b1,b2,b3,b4,b5],yR,.rw⟩]) (a:=y.map (rdV g)) (List.append_assoc _ _ _) (by rw [←List.append_assoc]; exact i5.extS) (by rfl) (by rfl) rfl ⟨cz,rfl,lz⟩ (by omega) (fun R2 o2 q2 => ?_)
  refine go13 ?_
  rw [xL i (by omega)]
  refine l_n (by rfl) (n':=n - (i+1)) (by omega) ⟨i+1,_,_,_,rfl,rfl,rfl,by omega,hr,by simp; omega,fun l hl => ?_,q2⟩
  rcases List.mem_append.1 hl with hl | hl
  ·exact i4 l hl
  ·simp only [List.mem_singleton] at hl
   subst hl
   exact ⟨by rw [List.length_map,hny],hfit⟩
 simp [yA] at c7
 refine go13 ?_
 rw [bN i (by omega) (by omega)]
 refine go13 ?_
 refine ld_outL i5.extS (i:=i - 1) (by omega) (by omega) (fun cp hcp => ?_)
 have hprev:=i4 _ (List.getElem_mem (show i - 1<out.length by omega))
 have bp:=told_cpl hf3 hprev
 have hgp:out.getD (i - 1) []=out[i - 1]'(by omega):=by
  have:i - 1<out.length:=by omega
  simp [List.getD,this]
 have bm:CpL 140 [t+h*((i:Int):Rat) - h]:=(cp_sub ba bh).mono (by decide)
 have hnx:gV m f h (t+h*((i:Int):Rat)) i (out.getD i []) (out.getD (i - 1) [])=some (yO (yO (out[i]'(by omega)) (h*(((3:Int):Rat) / ((2:Int):Rat))) (xI f (out[i]'(by omega)) (t+h*((i:Int):Rat)))) (h*(((-1:Int):Rat) / ((2:Int):Rat))) (xI f (out[i - 1]'(by omega)) (t+h*((i:Int):Rat) - h))):=by
  unfold gV
  rw [yE.2 ⟨c6,by omega⟩,hgl,hgp]
  rfl
 have r1:CpL 9720 (xI f (out[i]'(by omega)) (t+h*((i:Int):Rat))):=(uS hin.hf bl ba).mono (by decide)
 have n1:(xI f (out[i]'(by omega)) (t+h*((i:Int):Rat))).length=(out[i]'(by omega)).length:=by rw [vT,hlast.1]
 have r2:CpL 11000 (xI f (out[i - 1]'(by omega)) (t+h*((i:Int):Rat) - h)):=(uS (sQ hf (show _=(out[i - 1]'(by omega)).length+1 by rw [hprev.1])) bp bm).mono (by decide)
 have n2:(xI f (out[i - 1]'(by omega)) (t+h*((i:Int):Rat) - h)).length=(out[i]'(by omega)).length:=by rw [vT,hlast.1]
 have x1:CpL 10000 (yO (out[i]'(by omega)) (h*(((3:Int):Rat) / ((2:Int):Rat))) (xI f (out[i]'(by omega)) (t+h*((i:Int):Rat)))):=(tU bl (hU bh c32) r1).mono (by decide)
 have m1:(yO (out[i]'(by omega)) (h*(((3:Int):Rat) / ((2:Int):Rat))) (xI f (out[i]'(by omega)) (t+h*((i:Int):Rat)))).length=(out[i]'(by omega)).length:=xE n1
 refine go13 ?_
 refine yS (pH hin hin.hx rfl hin.ht bl ba (by decide)) (fun u hu => ?_)
 obtain ⟨s1,rfl,l1⟩:=hu
 refine go13 ?_
 refine yS (q_Sub2 g3 hh (by decide)) (fun u hu => ?_)
 obtain ⟨s2,rfl,l2⟩:=hu
 have l2:=l2.tightS (bm.bd (k:=4194304) (by decide) (by simp))
 refine go13 ?_
 refine yB (pH hin (hcp.up (by decide)) (by rw [hprev.1,hlast.1]) l2 bp bm (by decide)) (fun u hu => ?_)
 obtain ⟨s3,rfl,l3⟩:=hu
 refine go13 ?_
 refine yS (jD (a:=3) (b:=2) (by decide) (by decide) (by decide)) (fun u hu => ?_)
 obtain ⟨s4,rfl,l4⟩:=hu
 refine go13 ?_
 refine yS (sG hh l4 (by decide)) (fun u hu => ?_)
 obtain ⟨s5,rfl,l5⟩:=hu
 refine go13 ?_
 refine yS (uT (x3:=hin.x3) hin.hx bl (half_up l5 (by decide)) (hU bh c32) l1 n1 r1 (by decide)) (fun u hu => ?_)
 obtain ⟨s6,rfl,l6⟩:=hu
 refine go13 ?_
 refine yS (jD (a:=-1) (b:=2) (by decide) (by decide) (by decide)) (fun u hu => ?_)
 obtain ⟨s7,rfl,l7⟩:=hu
 refine go13 ?_
 refine yB (sG hh l7 (by decide)) (fun u hu => ?_)
 obtain ⟨s8,rfl,l8⟩:=hu
 refine go13 ?_
 refine yB (uT (x3:=by rw [m1]; exact hin.x3) l6 x1 (half_up l8 (by decide)) (hU bh c12) l3 (by rw [n2,m1]) r2 (by decide)) (fun u hu => ?_)
 obtain ⟨s9,rfl,ly⟩:=hu
 generalize hyy:yO (yO (out[i]'(by omega)) (h*(((3:Int):Rat) / ((2:Int):Rat))) (xI f (out[i]'(by omega)) (t+h*((i:Int):Rat)))) (h*(((-1:Int):Rat) / ((2:Int):Rat))) (xI f (out[i - 1]'(by omega)) (t+h*((i:Int):Rat) - h))=y at hnx ly
 have hny:y.length=f.length:=by rw [←hyy,xE (by rw [n2,m1]),m1,hlast.1]
 refine go13 ?_
 refine yB (nD ly (by omega) hg) (fun u hu => ?_)
 rcases hu with ⟨hfit,cz,rfl,lz⟩ | ⟨hfit,rfl⟩
 case inr =>
  have he:runV m f h t g x (i+1)=.error 3:=by
   simp only [runV,i2,sS,hnx]
   rw [yK.2 hfit]
   rfl
  refine go13 ?_
  exact ⟨_,.tup (.cons (.c (.hf trivial)) (.cons (.c (.hf trivial)) .nil)),.inl ⟨3,run_err he (by omega),by decide,rfl⟩⟩
 have hr:runV m f h t g x (i+1)=.ok (out++[y.map (rdV g)]):=by
  simp only [runV,i2,sS,hnx]
  rw [yE.2 hfit]
  rfl
 refine go13 ?_
 refine app_imm (bytes:=24) (E:=elL 2) (F:=[.live ⟨[cf,a0,a1,a2,a3,a4,a5],vO,.rw⟩,.live ⟨[b0,b1,b2,b3,b4,b5],yR,.rw⟩]) (a:=y.map (rdV g)) (List.append_assoc _ _ _) (by rw [←List.append_assoc]; exact i5.extS) (by rfl) (by rfl) rfl ⟨cz,rfl,lz⟩ (by omega) (fun R2 o2 q2 => ?_)
 refine go13 ?_
 rw [xL i (by omega)]
 refine l_n (by rfl) (n':=n - (i+1)) (by omega) ⟨i+1,_,_,_,rfl,rfl,rfl,by omega,hr,by simp; omega,fun l hl => ?_,q2⟩
 rcases List.mem_append.1 hl with hl | hl
 ·exact i4 l hl
 ·simp only [List.mem_singleton] at hl
  subst hl
  exact ⟨by rw [List.length_map,hny],hfit⟩
end Go.Proofs.Ytokckcnfojjpjaa

namespace Go.Proofs.Ytokckcnfojjpjaa
open Go.RowKit
set_option maxRecDepth 20000
def GaussR (K n:Nat) (M:Mx) (v:V) (H:Hp):Prop:=(qV n M=none∧v=.tup [.c .nilSl,.c (.bool false)])∨(∃ y b cells,qV n M=some y∧v=.tup [.c (.sl b 0 n (some n) 6),.c (.bool true)]∧H[b]?=some (.live ⟨cells,yR,.rw⟩)∧Els (elQ K) cells y)
theorem solve_none {n:Nat} {M:Mx} (h:wK n M n=none):qV n M=none:=by
 unfold qV
 rw [h]
 rfl
theorem solve_some {n:Nat} {M R:Mx} (h:wK n M n=some R):qV n M=some ((List.range n).map fun i => R i n / R i i):=by
 unfold qV
 rw [h]
 rfl
theorem stage_inv {M E:Mx} {n k:Nat} (h:sF n k M=some E):∃ p,pW M n k p∧E=qE (uL M k p) k:=by
 by_cases hp:∃ p,pW M n k p
 ·obtain ⟨p,hp⟩:=hp
  rw [stage_some hp] at h
  cases h
  exact ⟨p,hp,rfl⟩
 ·unfold sF at h
  rw [yK.2 hp] at h
  cases h
theorem gauss_piv {n:Nat} {M:Mx}:∀ {k:Nat} {R:Mx},wK n M k=some R→∀ i,i<k→R i i≠0
 | 0,R,_,i,hi => by omega
 | k+1,R,h,i,hi => by
  simp only [wK] at h
  cases h1:wK n M k with
  | none => rw [h1] at h; cases h
  | some S =>
   rw [h1,Option.bind_some] at h
   obtain ⟨p,hp,rfl⟩:=stage_inv h
   rcases Nat.lt_or_ge i k with h2 | h2
   ·rw [elim_left h2]
    have:uL S k p i=S i:=by
     unfold uL
     rw [if_neg (by omega),if_neg (by have:=hp.1; omega)]
    rw [this]
    exact gauss_piv h1 i h2
   ·have:i=k:=by omega
    subst this
    rw [elim_row]
    have:uL S i p i=S p:=by unfold uL; rw [if_pos rfl]
    rw [this]
    exact hp.2.2.1
def doneR (M E:Mx) (i:Nat):Mx:=fun i' j' => if i'<i then E i' j' else M i' j'
def partR (M E:Mx) (i j:Nat):Mx:=fun i' j' => if i'<i∨(i'=i∧j'<j) then E i' j' else M i' j'
def lowT (n:Nat):Option Nat→Prop
 | none => True
 | some b => b<n
def lowL (n:Nat):List (Nat × Option Nat)→Prop
 | [] => True
 | p :: r => lowT n p.2∧lowL n r
theorem logOk_low {inc:List Nat} {n:Nat} {log:List (Nat × Option Nat)} (h:lowL n log):sV inc (some n) log=true:=by
 cases inc with
 | nil => rfl
 | cons i r =>
  simp only [sV]
  rw [List.all_eq_true]
  intro p hp
  have h2:∀ {log:List (Nat × Option Nat)},lowL n log→∀ p∈log,lowT n p.2:=by
   intro log
   induction log with
   | nil => intro _ p hp; cases hp
   | cons a l ih =>
    intro h p hp
    rcases List.mem_cons.1 hp with rfl | hp
    ·exact h.1
    ·exact ih h.2 p hp
  have h3:=h2 h p hp
  have h4:same? p.2 (some n)=false:=by
   cases hc:p.2 with
   | none => rfl
   | some b =>
    rw [hc] at h3
    have h3:b<n:=h3
    simp only [same?]
    cases hb:Nat.beq b n with
    | false => rfl
    | true =>
     have:=Nat.eq_of_beq_eq_true hb
     omega
  rw [h4]
  simp
attribute [local irreducible] yA semH semC qLen qNil qIad qSlc qIdx yW yI xA appX appI slcX awpF yP xH xopF xM qval lval seqQ xJ xY xU xR cnd arith IntKind.wrap
theorem step_gauss {o n:Nat} {bx:Nat→Nat} {co:Nat→Option Nat} {ds:Nat→List C} {H0:Hp} {M:Mx} {K':V→Hp→Prop} (hM:Mt 2097152 o bx co ds H0.length H0 n (n+1) M) (hn:n<1048576) (hB:GB 2097152 n M) (hk:∀ v H,GaussR 4194304 n M v H→K' v H):semH Try.prog n_step_gauss [.c (.sl o 0 n (some n) 1)] H0 K':=by
 refine nG ok_step_gauss rfl ?_
 obtain ⟨L,hL⟩:∃ L,L=H0.length:=⟨_,rfl⟩
 rw [←hL] at hM
 refine go13 ?_
 refine yX (fun w vs H => ∃ (k:Nat) (bx:Nat→Nat) (co:Nat→Option Nat) (ds:Nat→List C) (R:Mx),vs=[.c (.sl o 0 n (some n) 1),i64 n,i64 n,i64 k]∧w=n - k∧k≤n∧wK n M k=some R∧L≤H.length∧Mt 2097152 o bx co ds L H n (n+1) R) (by rfl) ⟨0,bx,co,ds,M,rfl,rfl,by omega,rfl,by omega,hM⟩ ?_
 clear hM bx co ds
 rintro w vs H ⟨k,bx,co,ds,R,rfl,rfl,k1,k2,k3,hM⟩
 refine go13 ?_
 cases hkn:yA Cm.lss (k:Int) (n:Int)
 case false =>
  simp [yA] at hkn
  have ek:k=n:=by omega
  subst ek
  refine go13 ?_
  refine vQ (by rfl) (by rfl) ⟨by omega,by omega,by omega,by omega⟩ ?_
  refine go13 ?_
  have hpv:=gauss_piv k2
  have hyl:((List.range k).map fun i => R i k / R i i).length=k:=by simp
  have hMg:=hM.grow (X:=[.live ⟨(List.replicate ((k:Int).toNat) jR).flatten,yR,.rw⟩])
  refine yX (fun w vs H' => ∃ (i:Nat) (cells:List C),vs=[.c (.sl o 0 k (some k) 1),i64 k,.c (.sl H.length 0 k (some k) 6),i64 k,i64 i]∧H'=H++[.live ⟨cells,yR,.rw⟩]∧w=k - i∧i≤k∧Fill (elQ 4194304) jR k cells (((List.range k).map fun i => R i k / R i i).take i)) (by rfl) ⟨0,_,rfl,rfl,rfl,by omega,.zero rfl⟩ ?_
  rintro w vs H' ⟨i,cells,rfl,rfl,rfl,i1,i2⟩
  have hcl:cells.length=k*6:=i2.len
  have htl:(((List.range k).map fun i => R i k / R i i).take i).length=i:=by rw [List.length_take,hyl]; omega
  have hG:=hM.grow (X:=[.live ⟨cells,yR,.rw⟩])
  refine go13 ?_
  cases hi:yA Cm.lss (i:Int) (k:Int)
  case false =>
   simp [yA] at hi
   have ei:i=k:=by omega
   subst ei
   rw [uB (by omega)] at i2
   refine go13 ?_
   exact hk _ _ (.inr ⟨_,_,cells,solve_some k2,rfl,yJ _ _,i2.done hyl⟩)
  simp [yA] at hi
  refine go13 ?_
  refine hG.ldT (i:=i) hi (by omega) ?_
  refine go13 ?_
  refine hG.ldE (i:=i) (j:=k) hi (by omega) (by omega) (fun c1 hc1 => ?_)
  refine go13 ?_
  refine hG.ldT (i:=i) hi (by omega) ?_
  refine go13 ?_
  refine hG.ldE (i:=i) (j:=i) hi (by omega) (by omega) (fun c2 hc2 => ?_)
  refine go13 ?_
  refine yB (q_Div2 hc1 hc2 (by decide) (hpv i hi)) (fun u hu => ?_)
  obtain ⟨c3,rfl,hc3⟩:=hu
  have hc3:IQ 4194304 c3 (R i k / R i i):=hc3
  obtain ⟨_,_,_,_,_,_,rfl⟩:=id hc3.six
  refine go13 ?_
  refine xC (yJ _ _) (by rfl) (by rfl) (by omega) ?_
  rw [gP]
  refine go13 ?_
  rw [xL i (by omega)]
  have h4:=i2.put (cs:=_) (a:=_) (by rw [htl]; exact hi) hc3
  rw [htl] at h4
  refine l_n (by rfl) (n':=k - (i+1)) (by omega) ⟨i+1,_,rfl,by rw [Nat.zero_add,Int.toNat_natCast],rfl,by omega,?_⟩
  rw [wA (by rw [hyl]; exact hi),List.getElem_map,List.getElem_range]
  exact h4
 simp [yA] at hkn
 refine go13 ?_
 refine yX (fun w vs H' => ∃ (p:Nat),vs=[.c (.sl o 0 n (some n) 1),i64 n,i64 k,i64 p,i64 n,i64 k]∧H'=H∧w=n - p∧k≤p∧p≤n∧∀ i,k≤i→i<p→R i k=0) (by rfl) ⟨k,rfl,rfl,rfl,by omega,by omega,fun i h1 h2 => by omega⟩ ?_
 rintro w vs H' ⟨p,rfl,rfl,rfl,p1,p2,p3⟩
 refine go13 ?_
 cases hp:yA Cm.lss (p:Int) (n:Int)
 case false =>
  simp [yA] at hp
  have ep:p=n:=by omega
  subst ep
  have hnone:=gauss_none (show wK p M (k+1)=none by simp only [wK,k2,Option.bind_some]; exact stage_none p3) (show k+1≤p by omega)
  refine go13 ?_
  rw [show yA Cm.eql (p:Int) (p:Int)=true by simp [yA]]
  refine go13 ?_
  exact hk _ _ (.inl ⟨solve_none hnone,rfl⟩)
 simp [yA] at hp
 refine go13 ?_
 refine hM.ldT (i:=p) hp (by omega) ?_
 refine go13 ?_
 refine hM.ldE (i:=p) (j:=k) hp (by omega) (by omega) (fun cs hcs => ?_)
 refine go13 ?_
 refine yB (num_Q_IsZero hcs) (fun u hu => ?_)
 obtain ⟨z,rfl,hz⟩:=hu
 cases z
 case true =>
  refine go13 ?_
  rw [xL p (by omega)]
  refine l_n (by rfl) (n':=n - (p+1)) (by omega) ⟨p+1,rfl,rfl,rfl,by omega,by omega,fun i h1 h2 => ?_⟩
  rcases Nat.lt_or_ge i p with h | h
  ·exact p3 i h1 h
  ·have:i=p:=by omega
   subst this
   exact hz.1 rfl
 have hpiv:pW R n k p:=⟨p1,hp,(fun h => by cases hz.2 h),p3⟩
 refine go13 ?_
 rw [show yA Cm.eql (p:Int) (n:Int)=false by simp [yA]; omega]
 refine go13 ?_
 refine hM.ldT (i:=p) hp (by omega) ?_
 refine go13 ?_
 refine hM.ldT (i:=k) (by omega) (by omega) ?_
 refine go13 ?_
 refine xC hM.T (by rfl) (by rfl) (by simp; omega) ?_
 refine go13 ?_
 refine xC (List.getElem?_set_self (lt_of_getElem? hM.T)) (by rfl) (by rfl) (by rw [pK (by simp; omega)]; simp; omega) ?_
 have hsw:=hM.swap (r:=k) (k:=p) (by omega) hp
 rw [List.set_set,show 0+(k:Int).toNat*1=k by omega,show 0+(p:Int).toNat*1=p by omega]
 have hE:wK n M (k+1)=some (qE (uL R k p) k):=by
  simp only [wK,k2,Option.bind_some]
  exact stage_some hpiv
 have hEB:=hB (k+1) _ (by omega) hE
 have hS0:uL R k p k k≠0:=by
  have:uL R k p k=R p:=by unfold uL; rw [if_pos rfl]
  rw [this]
  exact hpiv.2.2.1
 generalize uL R k p=S at hsw hE hEB hS0
 generalize gO bx k p=bx at hsw
 generalize gO co k p=co at hsw
 generalize gO ds k p=ds at hsw
 obtain ⟨E,hEe⟩:∃ E,E=qE S k:=⟨_,rfl⟩
 rw [←hEe] at hE hEB
 refine go13 ?_
 refine yX (fun w vs H => ∃ (i:Nat) (ds:Nat→List C),vs=[.c (.sl o 0 n (some n) 1),i64 n,i64 k,i64 n,i64 k,i64 n,i64 i]∧w=n - i∧i≤n∧L≤H.length∧Mt 2097152 o bx co ds L H n (n+1) (doneR S E i)) (by rfl) ⟨0,ds,rfl,rfl,by omega,by simp; omega,hsw.congr (fun i j _ _ => by unfold doneR; rw [if_neg (by omega)])⟩ ?_
 clear hsw hM p3 k3 ds
 rintro w vs H ⟨i,ds,rfl,rfl,i1,i2,hM⟩
 refine go13 ?_
 cases hi:yA Cm.lss (i:Int) (n:Int)
 case false =>
  simp [yA] at hi
  have ei:i=n:=by omega
  subst ei
  refine go13 ?_
  rw [xL k (by omega)]
  exact l_n (by rfl) (n':=i - (k+1)) (by omega) ⟨k+1,bx,co,ds,E,rfl,rfl,by omega,hE,i2,hM.congr (fun i' j _ _ => by unfold doneR; rw [if_pos (by omega)])⟩
 simp [yA] at hi
 have skip:(∀ j,E i j=S i j)→Mt 2097152 o bx co ds L H n (n+1) (doneR S E (i+1)):=fun h => hM.congr (fun i' j _ _ => by
  unfold doneR
  by_cases e:i'<i
  ·rw [if_pos e,if_pos (by omega)]
  ·rw [if_neg e]
   by_cases e2:i'<i+1
   ·have:i'=i:=by omega
    subst this
    rw [if_pos e2,h j]
   ·rw [if_neg e2])
 refine go13 ?_
 cases hik:yA Cm.eql (i:Int) (k:Int)
 case true =>
  simp [yA] at hik
  have hik:i=k:=by omega
  refine go13 ?_
  rw [xL i (by omega)]
  exact l_n (by rfl) (n':=n - (i+1)) (by omega) ⟨i+1,ds,rfl,rfl,by omega,i2,skip (fun j => by rw [hEe,hik]; exact elim_row)⟩
 simp [yA] at hik
 have hik:i≠k:=by omega
 have rowi:∀ j,doneR S E i i j=S i j:=fun j => by unfold doneR; rw [if_neg (by omega)]
 have rowk:∀ i0 j,doneR S E i0 k j=S k j:=fun i0 j => by
  unfold doneR
  split
  ·rw [hEe]; exact elim_row
  ·rfl
 refine go13 ?_
 refine hM.ldT (i:=i) hi (by omega) ?_
 refine go13 ?_
 refine hM.ldE (i:=i) (j:=k) hi (by omega) (by omega) (fun cs hcs => ?_)
 rw [rowi] at hcs
 refine go13 ?_
 refine yB (num_Q_IsZero hcs) (fun u hu => ?_)
 obtain ⟨z,rfl,hz⟩:=hu
 cases z
 case true =>
  refine go13 ?_
  rw [xL i (by omega)]
  exact l_n (by rfl) (n':=n - (i+1)) (by omega) ⟨i+1,ds,rfl,rfl,by omega,i2,skip (fun j => by rw [hEe]; exact elim_zero (hz.1 rfl))⟩
 have hz0:S i k≠0:=fun h => by cases hz.2 h
 refine go13 ?_
 have hG:=hM.grow (X:=List.replicate (0+1) .unb)
 refine hG.ldT (i:=i) hi (by omega) ?_
 refine go13 ?_
 refine hG.ldE (i:=i) (j:=k) hi (by omega) (by omega) (fun c1 hc1 => ?_)
 rw [rowi] at hc1
 refine go13 ?_
 refine hG.ldT (i:=k) (by omega) (by omega) ?_
 refine go13 ?_
 refine hG.ldE (i:=k) (j:=k) (by omega) (by omega) (by omega) (fun c2 hc2 => ?_)
 rw [rowk] at hc2
 refine go13 ?_
 have ho':o<H.length:=by have:=hM.oL; omega
 have hbi':bx i<H.length:=by have:=(hM.pos i hi).2; omega
 have hbk':bx k<H.length:=by have:=(hM.pos k (by omega)).2; omega
 refine jZ (T:=some H.length) (by rfl) (logOk_low (n:=H.length) ⟨hbk',trivial,trivial,ho',trivial,trivial,trivial,hbi',trivial,trivial,ho',trivial,trivial,trivial,trivial⟩) ?_
 refine bL ?_
 refine go13 ?_
 refine yS (q_Div2 hc1 hc2 (by decide) hS0) (fun u hu => ?_)
 obtain ⟨c3,rfl,hc3⟩:=hu
 obtain ⟨e0,e1,e2,e3,e4,e5,rfl⟩:=id hc3.six
 clear hG hc1 hc2 hcs
 refine go13 ?_
 refine goN ?_
 have hG:=hM.grow (X:=[.live ⟨[e0,e1,e2,e3,e4,e5],yR,.rw⟩])
 refine yX (fun w vs H' => ∃ (j:Nat) (ds:Nat→List C),vs=[.c (.sl o 0 n (some n) 1),i64 n,i64 k,i64 i,.c (.ptr H.length 0),i64 j,i64 n,i64 k,i64 n,i64 i]∧w=n+1 - j∧k≤j∧j≤n+1∧L≤H'.length∧H'[H.length]?=some (.live ⟨[e0,e1,e2,e3,e4,e5],yR,.rw⟩)∧Mt 2097152 o bx co ds L H' n (n+1) (partR S E i j)) (by rfl) ⟨k,ds,rfl,rfl,by omega,by omega,by simp; omega,yJ _ _,hG.congr (fun i' j' _ _ => by
  unfold doneR partR
  by_cases e:i'<i
  ·rw [if_pos e,if_pos (.inl e)]
  ·rw [if_neg e]
   by_cases e2:i'=i∧j'<k
   ·rw [if_pos (.inr e2),hEe,elim_left e2.2]
   ·rw [if_neg (by rintro (h | h); exact e h; exact e2 h)])⟩ ?_
 clear hG hM skip rowi rowk ds
 rintro w vs H' ⟨j,ds,rfl,rfl,j1,j2,j3,j4,hM⟩
 refine go13 ?_
 cases hj:yA Cm.leq (j:Int) (n:Int)
 case false =>
  simp [yA] at hj
  have ej:j=n+1:=by omega
  subst ej
  refine go13 ?_
  rw [xL i (by omega)]
  exact l_n (by rfl) (n':=n - (i+1)) (by omega) ⟨i+1,ds,rfl,rfl,by omega,j3,hM.congr (fun i' j' _ hj' => by
   unfold doneR partR
   by_cases e:i'<i+1
   ·rw [if_pos e,if_pos (by omega)]
   ·rw [if_neg e,if_neg (by omega)])⟩
 simp [yA] at hj
 have pi:partR S E i j i j=S i j:=by unfold partR; rw [if_neg (by omega)]
 have pk:partR S E i j k j=S k j:=by
  unfold partR
  split
  ·rw [hEe]; exact elim_row
  ·rfl
 have hcH:H.length<H'.length:=lt_of_getElem? j4
 refine go13 ?_
 refine hM.ldT (i:=i) hi (by omega) ?_
 refine go13 ?_
 refine hM.ldT (i:=i) hi (by omega) ?_
 refine go13 ?_
 refine hM.ldE (i:=i) (j:=j) hi (by omega) (by omega) (fun d1 hd1 => ?_)
 rw [pi] at hd1
 refine go13 ?_
 refine yM j4 (by rfl) ?_
 refine go13 ?_
 refine hM.ldT (i:=k) (by omega) (by omega) ?_
 refine go13 ?_
 refine hM.ldE (i:=k) (j:=j) (by omega) (by omega) (by omega) (fun d2 hd2 => ?_)
 rw [pk] at hd2
 refine go13 ?_
 refine yS (sG hc3 hd2 (by decide)) (fun u hu => ?_)
 obtain ⟨d3,rfl,hd3⟩:=hu
 refine go13 ?_
 refine yS (q_Sub2 hd1 hd3 (by decide)) (fun u hu => ?_)
 obtain ⟨d4,rfl,hd4⟩:=hu
 have hnew:S i j - S i k / S k k*S k j=E i j:=by rw [hEe]; exact (elim_else hik hz0 j1).symm
 rw [hnew] at hd4
 have hd4:=hd4.tightS (hEB i j hi (by omega))
 obtain ⟨_,_,_,_,_,_,rfl⟩:=id hd4.six
 refine go13 ?_
 refine hM.st (i:=i) (j:=j) hi (by omega) (by omega) (by rfl) hd4 ?_
 have hP:=hM.put (i:=i) (j:=j) hi (by omega) hd4
 have hbi:=(hM.pos i hi).2
 refine go13 ?_
 rw [xL j (by omega)]
 refine l_n (by rfl) (n':=n+1 - (j+1)) (by omega) ⟨j+1,_,rfl,rfl,by omega,by omega,by simp; omega,?_,hP.congr (fun i' j' _ _ => ?_)⟩
 ·rw [List.getElem?_set_ne (by omega)]
  exact j4
 ·unfold updQ partR
  by_cases e:i'=i∧j'=j
  ·rw [if_pos e,if_pos (by omega),e.1,e.2]
  ·rw [if_neg e]
   by_cases e2:i'<i∨i'=i∧j'<j
   ·rw [if_pos e2,if_pos (by omega)]
   ·rw [if_neg e2,if_neg (by omega)]
end Go.Proofs.Ytokckcnfojjpjaa

namespace Go.Proofs.Ytokckcnfojjpjaa
open Go.RowKit
set_option maxRecDepth 20000
structure MtP (K o:Nat) (bx:Nat→Nat) (ds:Nat→List C) (H:Hp) (r m w:Nat) (P:Nat→Nat→Prop) (M:Mx):Prop where
 T:H[o]?=some (.live ⟨(List.range r).map (rowQ bx (fun _ => some w) w)++List.replicate (m - r) .nilSl,qM,.rw⟩)
 le:r≤m
 ne:∀ i,i<r→bx i≠o
 row:∀ i,i<r→H[bx i]?=some (.live ⟨ds i,yR,.rw⟩)
 len:∀ i,i<r→(ds i).length=w*6
 at_:∀ i j,i<r→j<w→P i j→IQ K (((ds i).drop (j*6)).take 6) (M i j)
 inj:∀ i k,i<r→k<r→bx i=bx k→i=k
section
variable {K o:Nat} {bx:Nat→Nat} {ds:Nat→List C} {H:Hp} {r m w:Nat} {P:Nat→Nat→Prop} {M:Mx}
theorem MtP.start (h:H[o]?=some (.live ⟨List.replicate m .nilSl,qM,.rw⟩)):MtP K o bx ds H 0 m w P M :=
 ⟨by simpa using h,by omega,fun i h => by omega,fun i h => by omega,fun i h => by omega,fun i j h => by omega,fun i k h => by omega⟩
theorem MtP.grow {X:Hp} (h:MtP K o bx ds H r m w P M):MtP K o bx ds (H++X) r m w P M :=
 ⟨by rw [List.getElem?_append_left (lt_of_getElem? h.T)]; exact h.T,h.le,h.ne,fun i hi => by rw [List.getElem?_append_left (lt_of_getElem? (h.row i hi))]; exact h.row i hi,h.len,h.at_,h.inj⟩
theorem MtP.weak {Q:Nat→Nat→Prop} (h:MtP K o bx ds H r m w P M) (hq:∀ i j,i<r→j<w→Q i j→P i j):MtP K o bx ds H r m w Q M :=
 ⟨h.T,h.le,h.ne,h.row,h.len,fun i j hi hj q => h.at_ i j hi hj (hq i j hi hj q),h.inj⟩
theorem MtP.other {p:Nat} {s:Slot} (h:MtP K o bx ds H r m w P M) (hp:p≠o) (hb:∀ i,i<r→p≠bx i):MtP K o bx ds (H.set p s) r m w P M :=
 ⟨by rw [List.getElem?_set_ne hp]; exact h.T,h.le,h.ne,fun i hi => by rw [List.getElem?_set_ne (hb i hi)]; exact h.row i hi,h.len,h.at_,h.inj⟩
theorem splice_at {cells:List C} {i:Nat} {c:C} (hi:i<cells.length):splice cells i [c]=cells.set i c:=by
 unfold splice
 rw [List.set_eq_take_append_cons_drop,if_pos hi]
 simp
theorem MtP.next {b:Nat} {cells:List C} (h:MtP K o bx ds H r m w P M) (hr:r<m) (hb:H[b]?=some (.live ⟨cells,yR,.rw⟩)) (hbn:∀ i,i<r→bx i≠b) (hbo:b≠o) (hl:cells.length=w*6) (hP:∀ j,¬ P r j) :
  MtP K o (fun i => if i=r then b else bx i) (fun i => if i=r then cells else ds i) (H.set o (.live ⟨splice ((List.range r).map (rowQ bx (fun _ => some w) w)++List.replicate (m - r) .nilSl) r [.sl b 0 w (some w) 6],qM,.rw⟩)) (r+1) m w P M:=by
 have hlt:=lt_of_getElem? h.T
 refine ⟨?_,hr,fun i hi => ?_,fun i hi => ?_,fun i hi => ?_,fun i j hi hj p => ?_,fun i k hi hk he => ?_⟩
 ·rw [List.getElem?_set_self hlt]
  congr 3
  rw [splice_at (by simp; omega)]
  apply List.ext_getElem
  ·simp
   omega
  ·intro i h1 h2
   simp only [List.length_set,List.length_append,List.length_map,List.length_range,List.length_replicate] at h1
   rw [List.getElem_set]
   by_cases e:r=i
   ·subst e
    rw [if_pos rfl,List.getElem_append_left (by simp)]
    simp [rowQ]
   ·rw [if_neg e]
    by_cases e2:i<r
    ·rw [List.getElem_append_left (by simpa using e2),List.getElem_append_left (by simp; omega)]
     simp [rowQ,Ne.symm e]
    ·rw [List.getElem_append_right (by simp; omega),List.getElem_append_right (by simp; omega)]
     simp
 ·by_cases e:i=r
  ·rw [if_pos e]; exact hbo
  ·rw [if_neg e]; exact h.ne i (by omega)
 ·by_cases e:i=r
  ·rw [if_pos e,if_pos e,List.getElem?_set_ne (Ne.symm hbo)]; exact hb
  ·rw [if_neg e,if_neg e,List.getElem?_set_ne (Ne.symm (h.ne i (by omega)))]; exact h.row i (by omega)
 ·by_cases e:i=r
  ·rw [if_pos e]; exact hl
  ·rw [if_neg e]; exact h.len i (by omega)
 ·by_cases e:i=r
  ·subst e; exact absurd p (hP j)
  ·rw [if_neg e]; exact h.at_ i j (by omega) hj p
 ·by_cases e:i=r <;> by_cases e2:k=r
  ·omega
  ·rw [if_pos e,if_neg e2] at he
   exact absurd he.symm (hbn k (by omega))
  ·rw [if_neg e,if_pos e2] at he
   exact absurd he (hbn i (by omega))
  ·rw [if_neg e,if_neg e2] at he
   exact h.inj i k (by omega) (by omega) he
theorem MtP.put {i j:Nat} {cs:List C} (h:MtP K o bx ds H r m w P M) (hi:i<r) (hj:j<w) (hc:IQ K cs (M i j)) :
  MtP K o bx (fun i' => if i'=i then splice (ds i) (j*6) cs else ds i') (H.set (bx i) (.live ⟨splice (ds i) (j*6) cs,yR,.rw⟩)) r m w (fun i' j' => P i' j'∨(i'=i∧j'=j)) M:=by
 have hlt:=lt_of_getElem? (h.row i hi)
 have hcl:cs.length=6:=(elQ K).len (show (elQ K).p cs (M i j) from hc)
 have hle:j*6+6≤(ds i).length:=by
  rw [h.len i hi]
  omega
 refine ⟨?_,h.le,h.ne,fun i' hi' => ?_,fun i' hi' => ?_,fun i' j' hi' hj' p => ?_,h.inj⟩
 ·rw [List.getElem?_set_ne (h.ne i hi)]
  exact h.T
 ·by_cases e:i'=i
  ·subst e
   rw [List.getElem?_set_self hlt,if_pos rfl]
  ·rw [List.getElem?_set_ne (fun x => e (h.inj i' i hi' hi x.symm)),if_neg e]
   exact h.row i' hi'
 ·by_cases e:i'=i
  ·subst e
   rw [if_pos rfl,pK (by rw [hcl]; exact hle)]
   exact h.len i' hi'
  ·rw [if_neg e]
   exact h.len i' hi'
 ·by_cases e:i'=i
  ·subst e
   rw [if_pos rfl]
   by_cases e2:j'=j
   ·subst e2
    rw [get_splice (by omega) hcl]
    exact hc
   ·rw [splice_otherQ hle hcl e2]
    exact h.at_ i' j' hi' hj' (p.resolve_right fun x => e2 x.2)
  ·rw [if_neg e]
   exact h.at_ i' j' hi' hj' (p.resolve_right fun x => e x.1)
theorem MtP.ldT {off i:Nat} {Q:V→Prop} (h:MtP K o bx ds H r m w P M) (hi:i<r) (ho:off=i) (k:Q (.c (.sl (bx i) 0 w (some w) 6))):yW H[o]? false 1 off Q:=by
 subst ho
 refine yU h.T ?_ k
 simp only
 rw [List.getElem?_append_left (by simpa using hi)]
 simp [hi,rowQ]
theorem MtP.st {off i j:Nat} {cs:List C} {ds':Option (List C)} {Q:Nat→Slot→Prop} (h:MtP K o bx ds H r m w P M) (hi:i<r) (hj:j<w) (ho:off=j*6) (hd:ds'=some cs) (hl:cs.length=6) (k:Q (bx i) (.live ⟨splice (ds i) (j*6) cs,yR,.rw⟩)):xA H[bx i]? (bx i) 6 off ds' Q:=by
 subst ho
 have hl2:=h.len i hi
 exact xC (h.row i hi) hd (by rw [hl]; rfl) (by omega) k
theorem MtP.full (h:MtP K o bx ds H m m w P M) (hp:∀ i j,i<m→j<w→P i j):Mt K o bx (fun _ => some w) ds H.length H m w M :=
 ⟨by simpa using h.T,lt_of_getElem? h.T,fun i hi => ⟨h.ne i hi,lt_of_getElem? (h.row i hi)⟩,h.row,h.len,fun i j hi hj => h.at_ i j hi hj (hp i j hi hj),h.inj⟩
end
theorem bS_sub {k m:Nat} {a b:Rat} (h1:Bd k (rp a)) (h2:Bd m (rp b)):Bd (k+m+1) (rp (a - b)) :=
 bd_divS (dd_ne a b) (rat_sub a b) ((h1.n.mulT h2.d).add2 ((h2.n.neg.mulT h1.d).up (show m+k≤k+m by omega)) (Nat.le_refl _)) ((h1.d.mulT h2.d).up (by omega))
theorem bS_mul {k m:Nat} {a b:Rat} (h1:Bd k (rp a)) (h2:Bd m (rp b)):Bd (k+m) (rp (a*b)) :=
 bd_divS (dd_ne a b) (rat_mul a b) (h1.n.mulT h2.n) (h1.d.mulT h2.d)
theorem bS_div {k m:Nat} {a b:Rat} (h1:Bd k (rp a)) (h2:Bd m (rp b)) (h0:b≠0):Bd (k+m) (rp (a / b)) :=
 bd_divS (Int.mul_ne_zero (Int.ne_of_gt (nI a)) (num_ne h0)) (rat_div a b h0) (h1.n.mulT h2.d) (h1.d.mulT h2.n)
def EB (k n:Nat) (M:Mx):Prop:=∀ i j,i<n→j≤n→Bd k (rp (M i j))
theorem stage_EB {k n l:Nat} {M E:Mx} (h:EB k n M) (hs:sF n l M=some E):EB (4*k+1) n E:=by
 obtain ⟨p,hp,rfl⟩:=stage_inv hs
 have hln:l<n:=by have:=hp.1; have:=hp.2.1; omega
 have hsw:EB k n (uL M l p):=fun i j hi hj => by
  unfold uL
  split
  ·exact h p j hp.2.1 hj
  ·split
   ·exact h l j hln hj
   ·exact h i j hi hj
 have hpv:uL M l p l l≠0:=by
  have:uL M l p l=M p:=by unfold uL; rw [if_pos rfl]
  rw [this]
  exact hp.2.2.1
 intro i j hi hj
 unfold qE
 cases hd:dec (i=l∨uL M l p i l=0∨j<l)
 ·have:=bS_sub (hsw i j hi hj) (bS_mul (bS_div (hsw i l hi (by omega)) (hsw l l hln (by omega)) hpv) (hsw l j hln hj))
  exact this.to (by omega)
 ·exact (hsw i j hi hj).to (by omega)
theorem gauss_EB {k n:Nat} {M:Mx} (h:EB k n M):∀ {l:Nat} {E:Mx},wK n M l=some E→EB (4 ^ l*(k+1) - 1) n E
 | 0,E,hg => by
  cases hg
  exact fun i j hi hj => (h i j hi hj).to (by omega)
 | l+1,E,hg => by
  simp only [wK] at hg
  cases h1:wK n M l with
  | none => rw [h1] at hg; cases hg
  | some S =>
   rw [h1,Option.bind_some] at hg
   have h2:=stage_EB (gauss_EB h h1) hg
   intro i j hi hj
   have h3:1≤4 ^ l*(k+1):=Nat.mul_pos (Nat.pow_pos (by decide)) (by omega)
   refine (h2 i j hi hj).to ?_
   rw [Nat.pow_succ,Nat.mul_comm (4 ^ l) 4,Nat.mul_assoc]
   omega
theorem gb_of {k n:Nat} {M:Mx} (h:EB k n M) (hn:n≤3) (hk:64*(k+1)≤2097152):GB 2097152 n M:=fun l R hl hg i j hi hj => by
 have h1:4 ^ l≤64:=by
  have:l≤3:=by omega
  calc 4 ^ l≤4 ^ 3:=Nat.pow_le_pow_right (by decide) this
   _=64:=rfl
 have h2:4 ^ l*(k+1)≤64*(k+1):=Nat.mul_le_mul_right _ h1
 exact (gauss_EB h hg i j hi hj).to (by omega)
def xT (n:Nat):List Rat:=List.replicate n 0
theorem cp_zeros (n:Nat):CpL 0 (xT n):=⟨1,by decide,by decide,fun q hq => by
 have:=(List.mem_replicate.1 hq).2
 subst this
 exact Cap.zero⟩
theorem cp_unit (n k:Nat):CpL 0 (sD n k):=⟨1,by decide,by decide,fun q hq => by
 unfold sD at hq
 rcases List.mem_or_eq_of_mem_set hq with h | h
 ·have:=(List.mem_replicate.1 h).2
  subst this
  exact Cap.zero
 ·subst h
  exact Cap.one⟩
theorem unit_len (n k:Nat):(sD n k).length=n:=by simp [sD]
end Go.Proofs.Ytokckcnfojjpjaa

namespace Go.Proofs.Ytokckcnfojjpjaa
open Go.RowKit
set_option maxRecDepth 20000
def elLR:El (List R2):=⟨fun cs l => ∃ c,cs=[c]∧Ls elP c l∧l.length<1048576,1,fun h => by obtain ⟨c,rfl,_⟩:=h; rfl,fun h => by obtain ⟨c,rfl,h,_⟩:=h; exact ⟨h.hf,trivial⟩⟩
def RunRK (m:Int) (f:List Pl) (t:R2) (x:List R2) (h:R2) (g n:Int) (u:V):Prop :=
 (RunOk m f t x h g n∧∃ e,runV m f (rt h) (rt t) g (x.map rt) n.toNat=.error e∧e≠0∧u=.tup [.c .nilSl,i64 e]) ∨
 (RunOk m f t x h g n∧∃ out c,runV m f (rt h) (rt t) g (x.map rt) n.toNat=.ok out∧(∀ l∈out,Told f l)∧out.length=n.toNat+1∧u=.tup [.c c,i64 0]∧Ls elLR c (out.map fun l => l.map rp)) ∨
 (¬ RunOk m f t x h g n∧∃ e,e≠0∧u=.tup [.c .nilSl,i64 e]∧(jW f→e=qW m f t x h g n))
theorem run_told {m:Int} {f:List Pl} {h t:Rat} {g:Int} {x:List Rat} (hT:Told f x):∀ {n:Nat} {out:List (List Rat)},runV m f h t g x n=.ok out→out.length=n+1∧∀ l∈out,Told f l
 | 0,out,h1 => by
  cases h1
  exact ⟨rfl,by simpa using hT⟩
 | n+1,out,h1 => by
  simp only [runV] at h1
  cases h2:runV m f h t g x n with
  | error e => rw [h2] at h1; cases h1
  | ok o =>
   rw [h2] at h1
   obtain ⟨l1,l2⟩:=run_told hT h2
   simp only [sS] at h1
   have hgl:o.getD n []=o[n]'(by omega):=by simp [List.getD,l1]
   cases h3:gV m f h (t+h*((n:Int):Rat)) n (o.getD n []) (o.getD (n - 1) []) with
   | none => rw [h3] at h1; cases h1
   | some y =>
    rw [h3] at h1
    simp only at h1
    cases h4:dec (pY (y.map (rdV g)))
    ·rw [h4] at h1; cases h1
    ·rw [h4] at h1
     simp only [cond_true,Except.ok.injEq] at h1
     subst h1
     have hfit:=yE.1 h4
     refine ⟨by simp; omega,fun l hl => ?_⟩
     rcases List.mem_append.1 hl with hl | hl
     ·exact l2 l hl
     ·simp only [List.mem_singleton] at hl
      subst hl
      refine ⟨?_,hfit⟩
      have hy:y.length=(o[n]'(by omega)).length:=by
       have hlast:=l2 _ (List.getElem_mem (show n<o.length by omega))
       rw [hgl] at h3
       unfold gV at h3
       cases h5:dec (m=6∧0<n) <;> rw [h5] at h3
       ·exact mStep_len hlast.1.symm h3
       ·cases h3
        rw [xE,xE]
        ·rw [vT,hlast.1]
        ·rw [vT,xE (by rw [vT,hlast.1]),hlast.1]
      rw [List.length_map,hy]
      exact (l2 _ (List.getElem_mem (show n<o.length by omega))).1
theorem told_in {f:List Pl} {x:List R2} (hv:tA x) (hl:x.length=f.length):Told f (x.map rt):=by
 refine ⟨by simpa using hl,fun q hq => ?_⟩
 obtain ⟨p,hp,rfl⟩:=List.mem_map.1 hq
 have:=hv p hp
 rw [this.rp]
 exact this.fit
theorem outs_told {f:List Pl} {l:List Rat} (h:Told f l):outsR l=(l.map rp,true):=by
 unfold outsR
 rw [yE.2 (show ∀ q∈l,fitR (rp q)=true from h.2)]
 rfl
theorem num_two {p:R2} (h:wL p.1 p.2):CpL 40 [rt p]:=CpL.one h
theorem ld_LR {c:C} {l:List (List R2)} {n i:Nat} {K:V→Prop} (hc:Ls elLR c l) (hi:i<l.length) (hn:n=i) (h:∀ d,Ls elP d l[i]→K (.c d)):yI (c.ds.drop (n*1)) false 1 K:=by
 subst hn
 obtain ⟨cs,r,⟨d,rfl,h1,_⟩,h2⟩:=hc.els.get hi
 have h2:c.ds.drop (n*1)=[d]++r:=h2
 rw [h2]
 exact h d h1
theorem run_first {m:Int} {f:List Pl} {h t:Rat} {g:Int} {x:List Rat}:∀ {n:Nat} {out:List (List Rat)},runV m f h t g x n=.ok out→∃ r,out=x :: r
 | 0,out,h1 => by
  cases h1
  exact ⟨[],rfl⟩
 | n+1,out,h1 => by
  simp only [runV] at h1
  cases h2:runV m f h t g x n with
  | error e => rw [h2] at h1; cases h1
  | ok o =>
   rw [h2] at h1
   obtain ⟨r,rfl⟩:=run_first h2
   simp only [sS] at h1
   split at h1
   ·cases h1
   ·rename_i y hy
    cases h4:dec (pY (y.map (rdV g)))
    ·rw [h4] at h1; cases h1
    ·rw [h4] at h1
     simp only [cond_true,Except.ok.injEq] at h1
     subst h1
     exact ⟨_,rfl⟩
attribute [local irreducible] yA semH semC qLen qNil qIad qSlc qIdx yW yI xA appX appI slcX awpF yP xH xopF xM qval lval seqQ xJ xY xU xR cnd arith IntKind.wrap
theorem step_Run {cf cx:C} {f:List Pl} {x:List R2} (m:Int) (t h:R2) (g n:Int) (hc:Ls elM cf f) (hf:f.length<vZ) (hx:Ls elP cx x) (hxl:x.length<vZ) (hi:ImpOk m):semC Try.prog n_step_Run [i64 m,.c cf,.agg (ratC t),.c cx,.agg (ratC h),i64 g,i64 n] (RunRK m f t x h g n):=by
 refine yD ok_step_Run rfl (show HFVs [i64 m,.c cf,.agg (ratC t),.c cx,.agg (ratC h),i64 g,i64 n] from ⟨trivial,hc.hf,qU _,hx.hf,qU _,trivial,trivial,trivial⟩) ?_
 refine go13 ?_
 refine yB (step_known m t h g n hc hf hx hxl) (fun u hu => ?_)
 obtain ⟨e,rfl,k1,k2⟩:=hu
 refine go13 ?_
 rw [neq_decS]
 cases h1:dec (e≠0)
 case true =>
  have h1:=yE.1 h1
  refine go13 ?_
  refine ⟨_,.tup (.cons (.c (.hf trivial)) (.cons (.c (.hf trivial)) .nil)),.inr (.inr ⟨fun hk => ?_,e,h1,rfl,k1⟩)⟩
  have hv:=val_sys hk.sys
  have hS:jW f:=fun p hp t ht => by
   have:=((hv.1.poly p hp).term t ht).len
   have:=hv.1.len
   omega
  have e2:=known_ok (m:=m) (f:=f) (t:=t) (x:=x) (h:=h) (g:=g) (n:=n) hk.sys ⟨hk.ht,hk.hx,hk.hh⟩ (by have:=hk.m0; have:=hk.m6; have:=hk.hp; have:=hk.g0; have:=hk.gm; have:=hk.n0; have:=hk.nm; omega) hk.len (fun h => h.2 (hk.aff h.1))
  rw [k1 hS,e2.1] at h1
  exact h1 rfl
 have h1:e=0:=Classical.byContradiction (yK.1 h1)
 have hk:=k2 h1
 have hsys:=val_sys hk.sys
 have hf3:=hsys.1.len
 have hxl3:=hk.len
 have hT:=told_in hk.hx hk.len
 obtain ⟨n',rfl⟩:=Int.eq_ofNat_of_zero_le hk.n0
 have hn60:=hk.nm
 have hgm:=hk.gm
 refine go13 ?_
 refine yS (q_Of hk.hh) (fun u hu => ?_)
 obtain ⟨r1,rfl,g1⟩:=hu
 obtain ⟨a0,a1,a2,a3,a4,a5,rfl⟩:=id g1.six
 refine go13 ?_
 refine yB (q_Of hk.ht) (fun u hu => ?_)
 obtain ⟨r2,rfl,g2⟩:=hu
 refine go13 ?_
 refine yB (num_In hx hk.hx (by omega)) (fun u hu => ?_)
 obtain ⟨r3,rfl,g3⟩:=hu
 refine go13 ?_
 refine yB (step_run (n:=n') hc hsys.1 g3 hT (g1.up (by decide)) ((num_two hk.hh).mono (by decide)) (g2.up (by decide)) (num_two hk.ht) hk.m0 hk.m6 (by omega) (by omega) hi hk.aff) (fun u hu => ?_)
 rcases hu with ⟨e2,hr,he2,rfl⟩ | ⟨out,cl,hr,rfl,hl⟩
 case inl =>
  refine go13 ?_
  rw [neq_decS]
  rw [yE.2 he2]
  refine go13 ?_
  exact ⟨_,.tup (.cons (.c (.hf trivial)) (.cons (.c (.hf trivial)) .nil)),.inl ⟨hk,e2,hr,he2,rfl⟩⟩
 obtain ⟨o1,o2⟩:=run_told hT hr
 refine go13 ?_
 rw [show yA Cm.neq 0 0=false by simp [yA]]
 refine go13 ?_
 refine yX (fun w vs H => ∃ (i:Nat) (o:C) (R:Hp),vs=[.c o,.c cl,i64 out.length,i64 i]∧H=[.live ⟨ratC t,uD,.rw⟩,.live ⟨ratC h,uD,.rw⟩]++R∧w=out.length - i∧i≤out.length∧Out elLR nT 2 H o ((out.take i).map fun l => l.map rp)) (by rfl) ⟨0,_,[],rfl,rfl,rfl,by omega,.nil⟩ ?_
 rintro w vs H ⟨i,o,R,rfl,rfl,rfl,i1,i2⟩
 refine go13 ?_
 cases hi:yA Cm.lss (i:Int) (out.length:Int)
 case false =>
  simp [yA] at hi
  rw [uB (by omega)] at i2
  refine go13 ?_
  obtain ⟨d,f1,l1⟩:=i2.fz (p:=(·≠.bor)) (by simp)
  exact ⟨_,.tup (.cons (.c f1) (.cons (.c (.hf trivial)) .nil)),.inr (.inl ⟨hk,out,d,hr,o2,o1,rfl,l1⟩)⟩
 simp [yA] at hi
 have htl:=o2 _ (wX hi)
 refine go13 ?_
 refine ld_L hl (i:=i) hi (by omega) (fun d hd => ?_)
 refine go13 ?_
 refine yB (num_Outs hd (by have:=htl.1; omega)) (fun u hu => ?_)
 obtain ⟨c5,l5,rfl⟩:=hu
 rw [outs_told htl] at l5 ⊢
 refine go13 ?_
 refine app_imm (bytes:=24) (E:=elLR) (F:=[.live ⟨ratC t,uD,.rw⟩,.live ⟨ratC h,uD,.rw⟩]) (R:=R) (a:=out[i].map rp) rfl i2 (by rfl) (by rfl) rfl ⟨c5,rfl,l5,by rw [List.length_map]; have:=htl.1; omega⟩ (by simp only [List.length_map,List.length_take]; omega) (fun R2 o2' q2 => ?_)
 refine go13 ?_
 rw [xL i (by omega)]
 refine l_n (by rfl) (n':=out.length - (i+1)) (by omega) ⟨i+1,_,_,rfl,rfl,rfl,by omega,?_⟩
 rw [wA hi,List.map_append]
 exact q2
def StepRK (m:Int) (f:List Pl) (t:R2) (x:List R2) (h:R2) (g:Int) (u:V):Prop :=
 (RunOk m f t x h g 1∧∃ e,runV m f (rt h) (rt t) g (x.map rt) 1=.error e∧e≠0∧u=.tup [.c .nilSl,i64 e]) ∨
 (RunOk m f t x h g 1∧∃ y c,runV m f (rt h) (rt t) g (x.map rt) 1=.ok [x.map rt,y]∧Told f y∧u=.tup [.c c,i64 0]∧Ls elP c (y.map rp)) ∨
 (¬ RunOk m f t x h g 1∧∃ e,e≠0∧u=.tup [.c .nilSl,i64 e]∧(jW f→e=qW m f t x h g 1))
theorem step_Step {cf cx:C} {f:List Pl} {x:List R2} (m:Int) (t h:R2) (g:Int) (hc:Ls elM cf f) (hf:f.length<vZ) (hx:Ls elP cx x) (hxl:x.length<vZ) (hi:ImpOk m):semC Try.prog n_step_Step [i64 m,.c cf,.agg (ratC t),.c cx,.agg (ratC h),i64 g] (StepRK m f t x h g):=by
 refine yD ok_step_Step rfl (show HFVs [i64 m,.c cf,.agg (ratC t),.c cx,.agg (ratC h),i64 g] from ⟨trivial,hc.hf,qU _,hx.hf,qU _,trivial,trivial⟩) ?_
 refine go13 ?_
 refine yB (step_Run m t h g 1 hc hf hx hxl hi) (fun u hu => ?_)
 rcases hu with ⟨hk,e,hr,he,rfl⟩ | ⟨hk,out,c,hr,ho,hl,rfl,lc⟩ | ⟨hk,e,he,rfl,h1⟩
 ·refine go13 ?_
  rw [neq_decS,yE.2 he]
  refine go13 ?_
  exact ⟨_,.tup (.cons (.c (.hf trivial)) (.cons (.c (.hf trivial)) .nil)),.inl ⟨hk,e,hr,he,rfl⟩⟩
 ·have hl2:out.length=2:=hl
  have hr:runV m f (rt h) (rt t) g (x.map rt) 1=.ok out:=hr
  obtain ⟨r,rfl⟩:=run_first hr
  obtain ⟨y,rfl⟩:∃ y,r=[y]:=by
   match r,hl2 with
   | [y],_ => exact ⟨y,rfl⟩
  obtain ⟨L,hL⟩:∃ L:List (List R2),L=[x.map rt,y].map fun l => l.map rp:=⟨_,rfl⟩
  rw [←hL] at lc
  have hLl:L.length=2:=by rw [hL]; rfl
  refine go13 ?_
  rw [show yA Cm.neq 0 0=false by simp [yA]]
  refine go13 ?_
  refine ld_LR lc (i:=1) (by omega) (by decide) (fun d hd => ?_)
  have hy:L[1]'(by omega)=y.map rp:=by simp [hL]
  rw [hy] at hd
  refine go13 ?_
  exact ⟨_,.tup (.cons (.c (.hf hd.hf)) (.cons (.c (.hf trivial)) .nil)),.inr (.inl ⟨hk,y,d,hr,ho _ (by simp),rfl,hd⟩)⟩
 ·refine go13 ?_
  rw [neq_decS,yE.2 he]
  refine go13 ?_
  exact ⟨_,.tup (.cons (.c (.hf trivial)) (.cons (.c (.hf trivial)) .nil)),.inr (.inr ⟨hk,e,he,rfl,h1⟩)⟩
end Go.Proofs.Ytokckcnfojjpjaa

namespace Go.Proofs.Ytokckcnfojjpjaa
open Go.RowKit
set_option maxRecDepth 20000
def TrueK (u:V):Prop:=u=.c (.bool true)
theorem TrueK.fz {H:Hp}:∃ d,FzV H (.c (.bool true)) d∧TrueK d:=⟨_,.c (.hf trivial),rfl⟩
def kF:List Pl:=[[((1,1),[1,0])]]
theorem k_run:bU kF (rt (1,1)) (rt (0,1)+rt (1,1)*(((0:Nat):Int):Rat)) [rt (24,1)]=[65]:=by decide +kernel
theorem k_val:valS kF=0:=by
 refine sys_ok (by decide) ?_ ?_
 ·rintro ⟨p,hp,h⟩
  simp [kF] at hp
  subst hp
  rcases h with h | ⟨t,ht,h⟩
  ·simp at h
  ·simp at ht
   subst ht
   rcases h with h | ⟨_,h⟩ <;> simp [sumP] at h
 ·rintro ⟨p,hp,i,hi,h⟩
  simp [kF] at hp
  subst hp
  simp at hi
  subst hi
  rcases h with h | ⟨h,_⟩
  ·rcases h with h | h | h | ⟨k,hk,h⟩
   ·simp [kF] at h
   ·exact h (show wL 1 1 from ⟨by decide,by decide,by decide,by decide,by decide⟩)
   ·simp at h
   ·simp at hk
    rcases hk with rfl | rfl <;> simp at h
  ·omega
theorem k_ok:RunOk 3 kF (0,1) [(24,1)] (1,1) 0 1:=⟨k_val,⟨by decide,by decide,by decide,by decide,by decide⟩,fun p hp => by simp at hp; subst hp; exact ⟨by decide,by decide,by decide,by decide,by decide⟩,⟨by decide,by decide,by decide,by decide,by decide⟩,by decide,by decide,by decide,by decide,by decide,by decide,by decide,by decide,by rintro (h | h) <;> cases h⟩
theorem k_runV:runV 3 kF (rt (1,1)) (rt (0,1)) 0 [rt (24,1)] 1=.ok [[rt (24,1)],[65]]:=by
 have h1:gV 3 kF (rt (1,1)) (rt (0,1)+rt (1,1)*(((0:Nat):Int):Rat)) 0 [rt (24,1)] [rt (24,1)]=some [65]:=by
  unfold gV
  rw [yK.2 (by omega)]
  simp only [cond_false]
  rw [one_3,k_run]
 have h2:rdV 0 65=65:=rd_none (by decide)
 have h3:pY ([65].map (rdV 0)):=by
  intro q hq
  simp only [List.map_cons,List.map_nil,List.mem_singleton] at hq
  subst hq
  rw [h2]
  unfold fitR
  exact yE.2 (by decide +kernel)
 show sS 3 kF (rt (1,1)) (rt (0,1)) 0 0 [[rt (24,1)]]=_
 unfold sS
 simp only [List.getD_cons_zero,Nat.zero_sub]
 rw [h1]
 simp only
 rw [yE.2 h3]
 simp [h2]
theorem imp3 {m:Int} (h:m≠4) (h2:m≠5):ImpOk m:=fun _ _ _ => ⟨fun e => absurd e h,fun e => absurd e h2⟩
theorem k_elM:Ls elM (.imm 1 [.imm 1 [iC 1,iC 1,.imm 2 [iC 1,iC 0]]]) kF:=by
 have h1:Ls elI (.imm 2 [iC 1,iC 0]) [1,0]:=.imm (.cons (E:=elI) (a:=1) (cs:=[iC 1]) ⟨rfl,by decide,by decide⟩ (.one (E:=elI) (a:=0) ⟨rfl,by decide,by decide⟩))
 have h2:Ls elT (.imm 1 [iC 1,iC 1,.imm 2 [iC 1,iC 0]]) [((1,1),[1,0])]:=.imm (.one (E:=elT) (a:=((1,1),[1,0])) ⟨_,rfl,h1,by decide⟩)
 exact .imm (.one (E:=elM) (a:=[((1,1),[1,0])]) ⟨_,rfl,h2,by decide⟩)
theorem k_x:Ls elP (.imm 1 [iC 24,iC 1]) [(24,1)]:=.imm (.one (E:=elP) (a:=(24,1)) rfl)
attribute [local irreducible] yA semH semC qLen qNil qIad qSlc qIdx yW yI xA appX appI slcX awpF yP xH xopF xM qval lval seqQ xJ xY xU xR cnd arith IntKind.wrap
theorem qI:semC Try.prog n_law19_known [] TrueK:=by
 refine yD ok_law19_known rfl (show HFVs [] from trivial) ?_
 refine go13 ?_
 refine goN ?_
 refine yB (step_Step 3 (0,1) (1,1) 0 k_elM (by decide) k_x (by decide) (imp3 (by decide) (by decide))) (fun u hu => ?_)
 rcases hu with ⟨_,e,hr,_⟩ | ⟨_,y,c,hr,hT,rfl,hc⟩ | ⟨hn,_⟩
 ·have hr:runV 3 kF (rt (1,1)) (rt (0,1)) 0 [rt (24,1)] 1=.error e:=hr
  rw [k_runV] at hr
  cases hr
 ·have hr:runV 3 kF (rt (1,1)) (rt (0,1)) 0 [rt (24,1)] 1=.ok [[rt (24,1)],y]:=hr
  rw [k_runV] at hr
  simp only [Except.ok.injEq,List.cons.injEq,and_true,true_and] at hr
  subst hr
  obtain ⟨L,hL⟩:∃ L:List R2,L=[65].map rp:=⟨_,rfl⟩
  rw [←hL] at hc
  have hl:L=[(65,1)]:=by rw [hL]; decide +kernel
  have hLl:L.length=1:=by rw [hl]; rfl
  refine go13 ?_
  rw [show yA Cm.eql (L.length:Int) 1=true by rw [hLl]; simp [yA]]
  refine go13 ?_
  refine uX hc (i:=0) (by omega) (by decide) rfl (fun cs hcs => ?_)
  have h0:L[0]'(by omega)=(65,1):=by simp [hl]
  rw [h0] at hcs
  obtain rfl:=(show cs=ratC (65,1) from hcs)
  refine go13 ?_
  rw [show yA Cm.eql 0 0=true by simp [yA]]
  exact TrueK.fz
 ·exact absurd k_ok hn
end Go.Proofs.Ytokckcnfojjpjaa

namespace Go.Proofs.Ytokckcnfojjpjaa
open Go.RowKit
set_option maxRecDepth 20000
def fr (a b:Int):Rat:=(a:Rat) / (b:Rat)
def oneQ:Rat:=((1:Int):Rat)
def vF (m:Int):List Rat × List Rat :=
 if m=0 then ([oneQ,oneQ],[oneQ]) else if m=1∨m=2 then ([oneQ,oneQ,fr 1 2],[oneQ]) else
  if m=3 then ([oneQ,oneQ,fr 1 2,fr 1 6,fr 1 24],[oneQ]) else if m=4 then ([oneQ],[oneQ,((-1:Int):Rat)]) else ([oneQ,fr 1 2],[oneQ,fr (-1) 2])
def GroK (E:El Rat) (m:Int) (u:V):Prop:=∃ c d,u=.tup [.c c,.c d]∧Ls E c (vF m).1∧Ls E d (vF m).2
theorem GroK.of {E:El Rat} {m:Int} {c d:C} {p q:List Rat} {H:Hp} (h:vF m=(p,q)) (hc:Ls E c p) (hd:Ls E d q):∃ e,FzV H (.tup [.c c,.c d]) e∧GroK E m e:=⟨_,.tup (.cons (.c (.hf hc.hf)) (.cons (.c (.hf hd.hf)) .nil)),c,d,rfl,by rw [h]; exact hc,by rw [h]; exact hd⟩
def grR (m:Int):List R2 × List R2 × Int:=if m<0∨6<m then ([],[],1) else if m=6 then ([],[],6) else ((vF m).1.map rp,(vF m).2.map rp,0)
def GrK (m:Int) (u:V):Prop:=∃ c d,u=.tup [.c c,.c d,i64 (grR m).2.2]∧Ls elP c (grR m).1∧Ls elP d (grR m).2.1
theorem GrK.of {m e:Int} {c d:C} {p q:List R2} {H:Hp} (h:grR m=(p,q,e)) (hc:Ls elP c p) (hd:Ls elP d q):∃ a,FzV H (.tup [.c c,.c d,i64 e]) a∧GrK m a:=⟨_,.tup (.cons (.c (.hf hc.hf)) (.cons (.c (.hf hd.hf)) (.cons (.c (.hf trivial)) .nil))),c,d,by rw [h]; rfl,by rw [h]; exact hc,by rw [h]; exact hd⟩
def ordR (m:Int):Int × Int:=if m=0∨m=4 then (1,0) else if m=1∨m=2∨m=5∨m=6 then (2,0) else if m=3 then (4,0) else (0,1)
def OrdK (m:Int) (u:V):Prop:=u=.tup [i64 (ordR m).1,i64 (ordR m).2]
theorem OrdK.of {m a b:Int} {H:Hp} (h:ordR m=(a,b)):∃ d,FzV H (.tup [i64 a,i64 b]) d∧OrdK m d:=⟨_,.tup (.cons (.c (.hf trivial)) (.cons (.c (.hf trivial)) .nil)),by unfold OrdK; rw [h]; rfl⟩
def absV (q:Rat):Rat:=if q<0 then -q else q
noncomputable def stabR (m:Int) (z:R2):Bool × Int :=
 bif dec (m<0∨6<m∨¬ wL z.1 z.2) then (false,1) else bif dec (m=6) then (false,6) else bif dec (ev (vF m).2 (rt z)=0) then (false,4) else
  (dec (absV (ev (vF m).1 (rt z) / ev (vF m).2 (rt z))≤((1:Int):Rat)),0)
def StabK (m:Int) (z:R2) (u:V):Prop:=u=.tup [.c (.bool (stabR m z).1),i64 (stabR m z).2]
theorem StabK.of {m e:Int} {z:R2} {b:Bool} {H:Hp} (h:stabR m z=(b,e)):∃ d,FzV H (.tup [.c (.bool b),i64 e]) d∧StabK m z d:=⟨_,.tup (.cons (.c (.hf trivial)) (.cons (.c (.hf trivial)) .nil)),by unfold StabK; rw [h]; rfl⟩
attribute [local irreducible] yA semH semC qLen qNil qIad qSlc qIdx yW yI xA appX appI slcX awpF yP xH xopF xM qval lval seqQ xJ xY xU xR cnd arith IntKind.wrap
theorem step_growth (m:Int):semC Try.prog n_step_growth [i64 m] (GroK (elQ 1) m):=by
 refine yD ok_step_growth rfl (show HFVs [i64 m] from ⟨trivial,trivial⟩) ?_
 refine go13 ?_
 refine yB (sA (g:=1) (by decide)) (fun u hu => ?_)
 obtain ⟨_,rfl,g0⟩:=hu
 have g0:IQ 1 _ oneQ:=g0
 obtain ⟨_,_,_,_,_,_,rfl⟩:=id g0.six
 have l0:=Ls.imm (Els.one (E:=elQ 1) g0)
 refine go13 ?_
 cases h1:yA Cm.eql m 0
 case true =>
  simp [yA] at h1
  refine go13 ?_
  refine yB (sA (g:=1) (by decide)) (fun u hu => ?_)
  obtain ⟨_,rfl,g1⟩:=hu
  have g1:IQ 1 _ oneQ:=g1
  obtain ⟨_,_,_,_,_,_,rfl⟩:=id g1.six
  refine go13 ?_
  refine yB (sA (g:=1) (by decide)) (fun u hu => ?_)
  obtain ⟨_,rfl,g2⟩:=hu
  have g2:IQ 1 _ oneQ:=g2
  obtain ⟨_,_,_,_,_,_,rfl⟩:=id g2.six
  refine go13 ?_
  exact GroK.of (by simp [vF,h1]) (.imm (.cons (E:=elQ 1) g1 (.one (E:=elQ 1) g2))) l0
 simp [yA] at h1
 refine go13 ?_
 cases h2:yA Cm.eql m 1
 case true =>
  simp [yA] at h2
  have hm:m=1∨m=2:=.inl h2
  have hm:vF m=([oneQ,oneQ,fr 1 2],[oneQ]):=by unfold vF; rw [if_neg h1,if_pos hm]
  refine go13 ?_
  refine yB (sA (g:=1) (by decide)) (fun u hu => ?_)
  obtain ⟨_,rfl,g1⟩:=hu
  have g1:IQ 1 _ oneQ:=g1
  obtain ⟨_,_,_,_,_,_,rfl⟩:=id g1.six
  refine go13 ?_
  refine yB (sA (g:=1) (by decide)) (fun u hu => ?_)
  obtain ⟨_,rfl,g2⟩:=hu
  have g2:IQ 1 _ oneQ:=g2
  obtain ⟨_,_,_,_,_,_,rfl⟩:=id g2.six
  refine go13 ?_
  refine yB (jD (a:=1) (b:=2) (by decide) (by decide) (by decide)) (fun u hu => ?_)
  obtain ⟨_,rfl,g3⟩:=hu
  have g3:IQ 1 _ (fr 1 2):=g3
  obtain ⟨_,_,_,_,_,_,rfl⟩:=id g3.six
  refine go13 ?_
  exact GroK.of hm (.imm (.cons (E:=elQ 1) g1 (.cons (E:=elQ 1) g2 (.one (E:=elQ 1) g3)))) l0
 simp [yA] at h2
 refine go13 ?_
 cases h3:yA Cm.eql m 2
 case true =>
  simp [yA] at h3
  have hm:m=1∨m=2:=.inr h3
  have hm:vF m=([oneQ,oneQ,fr 1 2],[oneQ]):=by unfold vF; rw [if_neg h1,if_pos hm]
  refine go13 ?_
  refine yB (sA (g:=1) (by decide)) (fun u hu => ?_)
  obtain ⟨_,rfl,g1⟩:=hu
  have g1:IQ 1 _ oneQ:=g1
  obtain ⟨_,_,_,_,_,_,rfl⟩:=id g1.six
  refine go13 ?_
  refine yB (sA (g:=1) (by decide)) (fun u hu => ?_)
  obtain ⟨_,rfl,g2⟩:=hu
  have g2:IQ 1 _ oneQ:=g2
  obtain ⟨_,_,_,_,_,_,rfl⟩:=id g2.six
  refine go13 ?_
  refine yB (jD (a:=1) (b:=2) (by decide) (by decide) (by decide)) (fun u hu => ?_)
  obtain ⟨_,rfl,g3⟩:=hu
  have g3:IQ 1 _ (fr 1 2):=g3
  obtain ⟨_,_,_,_,_,_,rfl⟩:=id g3.six
  refine go13 ?_
  exact GroK.of hm (.imm (.cons (E:=elQ 1) g1 (.cons (E:=elQ 1) g2 (.one (E:=elQ 1) g3)))) l0
 simp [yA] at h3
 refine go13 ?_
 cases h4:yA Cm.eql m 3
 case true =>
  simp [yA] at h4
  refine go13 ?_
  refine yB (sA (g:=1) (by decide)) (fun u hu => ?_)
  obtain ⟨_,rfl,g1⟩:=hu
  have g1:IQ 1 _ oneQ:=g1
  obtain ⟨_,_,_,_,_,_,rfl⟩:=id g1.six
  refine go13 ?_
  refine yB (sA (g:=1) (by decide)) (fun u hu => ?_)
  obtain ⟨_,rfl,g2⟩:=hu
  have g2:IQ 1 _ oneQ:=g2
  obtain ⟨_,_,_,_,_,_,rfl⟩:=id g2.six
  refine go13 ?_
  refine yB (jD (a:=1) (b:=2) (by decide) (by decide) (by decide)) (fun u hu => ?_)
  obtain ⟨_,rfl,g3⟩:=hu
  have g3:IQ 1 _ (fr 1 2):=g3
  obtain ⟨_,_,_,_,_,_,rfl⟩:=id g3.six
  refine go13 ?_
  refine yB (jD (a:=1) (b:=6) (by decide) (by decide) (by decide)) (fun u hu => ?_)
  obtain ⟨_,rfl,g4⟩:=hu
  have g4:IQ 1 _ (fr 1 6):=g4
  obtain ⟨_,_,_,_,_,_,rfl⟩:=id g4.six
  refine go13 ?_
  refine yB (jD (a:=1) (b:=24) (by decide) (by decide) (by decide)) (fun u hu => ?_)
  obtain ⟨_,rfl,g5⟩:=hu
  have g5:IQ 1 _ (fr 1 24):=g5
  obtain ⟨_,_,_,_,_,_,rfl⟩:=id g5.six
  refine go13 ?_
  exact GroK.of (by subst h4; simp [vF]) (.imm (.cons (E:=elQ 1) g1 (.cons (E:=elQ 1) g2 (.cons (E:=elQ 1) g3 (.cons (E:=elQ 1) g4 (.one (E:=elQ 1) g5)))))) l0
 simp [yA] at h4
 refine go13 ?_
 cases h5:yA Cm.eql m 4
 case true =>
  simp [yA] at h5
  refine go13 ?_
  refine yB (sA (g:=1) (by decide)) (fun u hu => ?_)
  obtain ⟨_,rfl,g1⟩:=hu
  have g1:IQ 1 _ oneQ:=g1
  obtain ⟨_,_,_,_,_,_,rfl⟩:=id g1.six
  refine go13 ?_
  refine yB (sA (g:=(-1)) (by decide)) (fun u hu => ?_)
  obtain ⟨_,rfl,g2⟩:=hu
  have g2:IQ 1 _ ((-1:Int):Rat):=g2
  obtain ⟨_,_,_,_,_,_,rfl⟩:=id g2.six
  refine go13 ?_
  exact GroK.of (by subst h5; simp [vF]) l0 (.imm (.cons (E:=elQ 1) g1 (.one (E:=elQ 1) g2)))
 simp [yA] at h5
 refine go13 ?_
 refine yB (sA (g:=1) (by decide)) (fun u hu => ?_)
 obtain ⟨_,rfl,g1⟩:=hu
 have g1:IQ 1 _ oneQ:=g1
 obtain ⟨_,_,_,_,_,_,rfl⟩:=id g1.six
 refine go13 ?_
 refine yB (jD (a:=1) (b:=2) (by decide) (by decide) (by decide)) (fun u hu => ?_)
 obtain ⟨_,rfl,g2⟩:=hu
 have g2:IQ 1 _ (fr 1 2):=g2
 obtain ⟨_,_,_,_,_,_,rfl⟩:=id g2.six
 refine go13 ?_
 refine yB (sA (g:=1) (by decide)) (fun u hu => ?_)
 obtain ⟨_,rfl,g3⟩:=hu
 have g3:IQ 1 _ oneQ:=g3
 obtain ⟨_,_,_,_,_,_,rfl⟩:=id g3.six
 refine go13 ?_
 refine yB (jD (a:=(-1)) (b:=2) (by decide) (by decide) (by decide)) (fun u hu => ?_)
 obtain ⟨_,rfl,g4⟩:=hu
 have g4:IQ 1 _ (fr (-1) 2):=g4
 obtain ⟨_,_,_,_,_,_,rfl⟩:=id g4.six
 refine go13 ?_
 exact GroK.of (by unfold vF; rw [if_neg h1,if_neg (by omega),if_neg h4,if_neg h5]) (.imm (.cons (E:=elQ 1) g1 (.one (E:=elQ 1) g2))) (.imm (.cons (E:=elQ 1) g3 (.one (E:=elQ 1) g4)))
end Go.Proofs.Ytokckcnfojjpjaa

namespace Go.Proofs.Ytokckcnfojjpjaa
open Go.RowKit
set_option maxRecDepth 20000
set_option exponentiation.threshold 1000000
def yQ (k:Nat) (a:Mx) (y:List Rat):List Rat:=(List.range k).map fun i => sumF k (fun j => a i j*y.getD j 0)
def xV (h:Rat) (z:List Rat):List Rat:=z.map (·*h)
def zV (k:Nat) (a:Mx) (h:Rat) (y:List Rat):Nat→List Rat
 | 0 => y
 | i+1 => xV h (yQ k a (zV k a h y i))
def serV (k:Nat) (a:Mx) (h:Rat) (p y:List Rat):Nat→List Rat
 | 0 => xT k
 | i+1 => yO (serV k a h p y i) (p.getD i 0) (zV k a h y i)
def tC (k:Nat) (a:Mx) (h:Rat) (p y:List Rat):List Rat:=serV k a h p y p.length
def linM (k:Nat) (a:Mx) (b:Rat) (c:List Rat):Mx:=fun i j => if j<k then (if i=j then -(b*a i j)+1 else -(b*a i j)) else c.getD i 0
theorem yN {k:Nat} {a:Mx} {y:List Rat}:(yQ k a y).length=k:=by simp [yQ]
theorem sY {k i:Nat} {a:Mx} {y:List Rat} (hi:i<k):(yQ k a y)[i]'(by rw [yN]; exact hi)=sumF k (fun j => a i j*y.getD j 0):=by simp [yQ]
theorem jC {h:Rat} {z:List Rat}:(xV h z).length=z.length:=by simp [xV]
theorem z_len {k:Nat} {a:Mx} {h:Rat} {y:List Rat} (hy:y.length=k):∀ i,(zV k a h y i).length=k
 | 0 => hy
 | i+1 => by rw [zV,jC,yN]
theorem gA {k:Nat} {a:Mx} {h:Rat} {p y:List Rat} (hy:y.length=k):∀ i,(serV k a h p y i).length=k
 | 0 => by simp [serV,xT]
 | i+1 => by rw [serV,xE (by rw [z_len hy,gA hy i]),gA hy i]
def CapL (D B:Nat) (l:List Rat):Prop:=∀ q∈l,Cap D B q
theorem rats_cap:∀ {X:List R2},tA X→∃ D,0<D∧D≤2 ^ (40*X.length)∧∀ p∈X,Cap D (2 ^ 40) (rt p)
 | [],_ => ⟨1,by decide,by decide,by simp⟩
 | p :: X,h => by
  obtain ⟨D,h1,h2,h3⟩:=rats_cap (X:=X) (fun q hq => h q (by simp [hq]))
  have hp:=h p (by simp)
  have hd:p.2.natAbs≤2 ^ 40:=by have:=hp.2.1; have:=hp.1; omega
  refine ⟨p.2.natAbs*D,Nat.mul_pos (by have:=hp.1; omega) h1,?_,fun q hq => ?_⟩
  ·rw [List.length_cons,show 40*(X.length+1)=40+40*X.length by omega,Nat.pow_add]
   exact Nat.mul_le_mul hd h2
  ·rcases List.mem_cons.1 hq with rfl | hq
   ·exact ((Cap.rat hp).mono (by decide)).dvd ⟨D,rfl⟩
   ·exact (h3 q hq).dvd ⟨p.2.natAbs,Nat.mul_comm _ _⟩
structure pV (k:Nat) (a:Mx) (h:Rat) (DA Dh:Nat):Prop where
 k12:k≤12
 pA:0<DA
 lA:DA≤2 ^ 5760
 cA:∀ i j,i<k→j<k→Cap DA (2 ^ 40) (a i j)
 row:∀ i,i<k→∃ D,0<D∧D≤2 ^ 480∧∀ j,j<k→Cap D (2 ^ 40) (a i j)
 ph:0<Dh
 lh:Dh≤2 ^ 40
 ch:Cap Dh (2 ^ 40) h
theorem sum_cap {D B:Nat} {f:Nat→Rat}:∀ {m:Nat},(∀ j,j<m→Cap D B (f j))→Cap D (m*B) (sumF m f)
 | 0,_ => by simpa [sumF] using Cap.zero
 | m+1,h => by
  rw [sumF,Nat.add_mul,Nat.one_mul]
  exact (sum_cap fun j hj => h j (by omega)).add (h m (by omega))
section
variable {k DA Dh:Nat} {a:Mx} {h:Rat}
theorem getD_cap {D B:Nat} {y:List Rat} (hy:CapL D B y) (j:Nat):Cap D B (y.getD j 0):=by
 by_cases hj:j<y.length
 ·rw [show y.getD j 0=y[j] by simp [List.getD,hj]]
  exact hy _ (List.getElem_mem hj)
 ·rw [show y.getD j 0=0 by simp [List.getD,hj]]
  exact Cap.zero
theorem times_part {D B m i:Nat} {y:List Rat} (l:pV k a h DA Dh) (hy:CapL D B y) (hi:i<k) (hm:m≤k):Cap (DA*D) (m*(2 ^ 40*B)) (sumF m (fun j => a i j*y.getD j 0)) :=
 sum_cap fun j hj => (l.cA i j hi (by omega)).mul (getD_cap hy j)
theorem m_le {m n B:Nat} (hm:m≤16) (hB:B≤2 ^ n):m*(2 ^ 40*B)≤2 ^ (n+44):=by
 have e:(2:Nat) ^ (n+44)=16*(2 ^ 40*2 ^ n):=by
  rw [Nat.pow_add,Nat.mul_comm]
  have:(2:Nat) ^ 44=16*2 ^ 40:=by decide
  rw [this,Nat.mul_assoc]
 rw [e]
 exact Nat.mul_le_mul hm (Nat.mul_le_mul_left _ hB)
theorem times_bd {n m i K:Nat} {y:List Rat} (l:pV k a h DA Dh) (hy:CpL n y) (hi:i<k) (hm:m≤k) (hK:2*n+6000<32*K):Bd K (rp (sumF m (fun j => a i j*y.getD j 0))):=by
 obtain ⟨D,d1,d2,d3⟩:=hy
 have hk:=l.k12
 refine ((times_part l d3 hi hm).mono (m_le (by omega) (Nat.le_refl _))).bd (Nat.mul_pos l.pA d1) (vH (e:=5760+n) rfl l.lA d2) (by omega)
theorem z_cap {D n:Nat} {y:List Rat} (l:pV k a h DA Dh) (hy:CapL D (2 ^ n) y):∀ i,CapL (D*(DA*Dh) ^ i) (2 ^ (n+84*i)) (zV k a h y i)
 | 0 => by simpa [zV] using hy
 | i+1 => fun q hq => by
  have hk:=l.k12
  simp only [zV,xV,yQ,List.map_map,List.mem_map,List.mem_range] at hq
  obtain ⟨r,hr,rfl⟩:=hq
  have h1:=(times_part l (z_cap l hy i) hr (Nat.le_refl k)).mono (m_le (by omega) (Nat.le_refl _))
  have h2:=h1.mul l.ch
  rw [←Nat.pow_add,show n+84*i+44+40=n+84*(i+1) by omega] at h2
  refine h2.dvd ⟨1,?_⟩
  rw [Nat.pow_succ,Nat.mul_one,←Nat.mul_assoc,←Nat.mul_assoc,Nat.mul_comm DA (D*(DA*Dh) ^ i),Nat.mul_assoc,Nat.mul_assoc]
theorem z_cpl {n:Nat} {y:List Rat} (l:pV k a h DA Dh) (hy:CpL n y) {i:Nat} (hi:i≤5):CpL (n+30000) (zV k a h y i):=by
 obtain ⟨D,d1,d2,d3⟩:=hy
 have hE:(DA*Dh) ^ i≤2 ^ (5800*i):=by
  rw [Nat.pow_mul]
  exact Nat.pow_le_pow_left (vH (e:=5800) rfl l.lA l.lh) i
 refine ⟨D*(DA*Dh) ^ i,Nat.mul_pos d1 (Nat.pow_pos (Nat.mul_pos l.pA l.ph)),Nat.le_trans (vH (e:=n+5800*i) rfl d2 hE) (Nat.pow_le_pow_right (by decide) (by omega)),fun q hq => (z_cap l d3 i q hq).mono (Nat.pow_le_pow_right (by decide) (by omega))⟩
def PolOk (p:List Rat):Prop:=p.length≤5∧∀ c∈p,Cap 24 1 c
theorem ser_cap {D n:Nat} {p y:List Rat} (l:pV k a h DA Dh) (hy:CapL D (2 ^ n) y) (hl:y.length=k) (hp:PolOk p):∀ i,i≤p.length→CapL (24*(D*(DA*Dh) ^ 4)) (i*2 ^ (n+336)) (serV k a h p y i)
 | 0,_ => fun q hq => by
  simp only [serV,xT,List.mem_replicate] at hq
  rw [hq.2]
  exact Cap.zero
 | i+1,hi => fun q hq => by
  have hp5:=hp.1
  rw [serV] at hq
  obtain ⟨r,hr,rfl⟩:=List.getElem_of_mem hq
  rw [xE (by rw [z_len hl,gA hl])] at hr
  rw [gM (by rw [z_len hl,gA hl]) hr,Nat.add_mul,Nat.one_mul]
  have c1:=ser_cap l hy hl hp i (by omega) _ (List.getElem_mem hr)
  have hpi:p.getD i 0=p[i]'(by omega):=by simp [List.getD,show i<p.length by omega]
  have c2:=(hp.2 _ (List.getElem_mem (show i<p.length by omega))).mul (z_cap l hy i _ (List.getElem_mem (show r<(zV k a h y i).length by rw [z_len hl]; rw [gA hl] at hr; exact hr)))
  rw [hpi]
  refine c1.add ((c2.dvd ?_).mono ?_)
  ·exact Nat.mul_dvd_mul_left _ (Nat.mul_dvd_mul_left _ (Nat.pow_dvd_pow _ (by omega)))
  ·rw [Nat.one_mul]
   exact Nat.pow_le_pow_right (by decide) (by omega)
theorem pow_upK {x c k d:Nat} (h:x≤2 ^ c) (h2:c*k≤d):x ^ k≤2 ^ d:=Nat.le_trans (Nat.pow_le_pow_left h k) (by rw [←Nat.pow_mul]; exact Nat.pow_le_pow_right (by decide) h2)
theorem two_pos (n:Nat):0<2 ^ n:=Nat.pow_pos (by decide)
theorem w_gen {k X Y:Nat} (hk:k≤12) (h3:2*(13*X)+1≤Y):2*((k+1)*X)+1≤Y:=by
 have:=Nat.mul_le_mul_right X (show k+1≤13 by omega)
 omega
theorem ser_cpl {n:Nat} {p y:List Rat} (l:pV k a h DA Dh) (hy:CpL n y) (hl:y.length=k) (hp:PolOk p) {i:Nat} (hi:i≤p.length):CpL (n+24000) (serV k a h p y i):=by
 obtain ⟨D,d1,d2,d3⟩:=hy
 have hE:(DA*Dh) ^ 4≤2 ^ (5800*4):=pow_upK (c:=5800) (k:=4) (d:=5800*4) (vH (e:=5800) rfl l.lA l.lh) (Nat.le_refl _)
 have h5:=hp.1
 refine ⟨24*(D*(DA*Dh) ^ 4),Nat.mul_pos (by decide) (Nat.mul_pos d1 (Nat.pow_pos (Nat.mul_pos l.pA l.ph))),Nat.le_trans (vH (c:=5) (e:=5+(n+5800*4)) rfl (by decide) (vH (e:=n+5800*4) rfl d2 hE)) (Nat.pow_le_pow_right (by decide) (by omega)),fun q hq => (ser_cap l d3 hl hp i hi q hq).mono ?_⟩
 refine Nat.le_trans (vH (c:=3) (e:=3+(n+336)) rfl (by omega) (Nat.le_refl _)) (Nat.pow_le_pow_right (by decide) (by omega))
theorem axc2 {P:Nat→Nat→Int→Prop} (h:∀ r c,∃ z,P r c z):∃ N:Nat→Nat→Int,∀ r c,P r c (N r c):=by
 obtain ⟨f,hf⟩:=Classical.axiomOfChoice (fun p:Nat × Nat => h p.1 p.2)
 exact ⟨fun r c => f (r,c),fun r c => hf (r,c)⟩
theorem lin_row {b:Rat} {c:List Rat} {n:Nat} (l:pV k a h DA Dh) (hb:Cap (2*Dh) (2 ^ 40) b) (hc:CpL n c) :
  ∃ (N:Nat→Nat→Int) (D:Nat→Nat) (F:Int) (g:Nat→Int),RowI k (2 ^ 610) (2 ^ n*F.natAbs) (linM k a b c) N D F g∧F.natAbs≤2 ^ n:=by
 obtain ⟨E,hE⟩:=Classical.axiomOfChoice (r:=fun i D => i<k→0<D∧D≤2 ^ 480∧∀ j,j<k→Cap D (2 ^ 40) (a i j)) (fun i => by
  by_cases hi:i<k
  ·obtain ⟨D,h1⟩:=l.row i hi
   exact ⟨D,fun _ => h1⟩
  ·exact ⟨0,fun h => absurd h hi⟩)
 obtain ⟨F,f1,f2,f3⟩:=hc
 have hent:∀ r j,r<k→j<k→Cap (2*Dh*E r) (2 ^ 81) (linM k a b c r j):=fun r j hr hj => by
  obtain ⟨e1,e2,e3⟩:=hE r hr
  have h1:=(hb.mul (e3 j hj)).neg
  rw [←Nat.pow_add] at h1
  unfold linM
  rw [if_pos hj]
  split
  ·exact (h1.add Cap.one).mono (by decide)
  ·exact h1.mono (Nat.pow_le_pow_right (by decide) (by decide))
 have hD:∀ r,r<k→2*Dh*E r≤2 ^ 521:=fun r hr => by
  obtain ⟨e1,e2,e3⟩:=hE r hr
  exact vH (c:=41) (d:=480) (e:=521) rfl (by have:=l.lh; omega) e2
 obtain ⟨N,hN⟩:=axc2 (P:=fun r j z => r<k→j<k→linM k a b c r j*((2*Dh*E r:Nat):Rat)=(z:Rat)∧z.natAbs≤2 ^ 81*(2*Dh*E r)) (fun r j => by
  by_cases hr:r<k
  ·by_cases hj:j<k
   ·obtain ⟨z,z1,z2⟩:=hent r j hr hj
    exact ⟨z,fun _ _ => ⟨z1,z2⟩⟩
   ·exact ⟨0,fun _ h => absurd h hj⟩
  ·exact ⟨0,fun h => absurd h hr⟩)
 obtain ⟨g,hg⟩:=Classical.axiomOfChoice (r:=fun r (z:Int) => c.getD r 0*((F:Nat):Rat)=(z:Rat)∧z.natAbs≤2 ^ n*F) (fun r => by
  obtain ⟨z,z1,z2⟩:=getD_cap f3 r
  exact ⟨z,z1,z2⟩)
 refine ⟨N,fun r => 2*Dh*E r,(F:Int),g,⟨fun r hr => ?_,fun r hr => Nat.le_trans (hD r hr) (Nat.pow_le_pow_right (by decide) (by decide)),fun r j hr hj => (hN r j hr hj).1,fun r j hr hj => ?_,by omega,?_,fun r hr => ?_,fun r hr => ?_⟩,by simpa using f2⟩
 ·have:=(hE r hr).1
  exact Nat.ne_of_gt (Nat.mul_pos (Nat.mul_pos (by decide) l.ph) this)
 ·refine Nat.le_trans (hN r j hr hj).2 (Nat.le_trans (vH (e:=81+521) rfl (Nat.le_refl _) (hD r hr)) (Nat.pow_le_pow_right (by decide) (by decide)))
 ·rw [Int.natAbs_natCast]
  exact Nat.le_mul_of_pos_left _ (Nat.pow_pos (by decide))
 ·have e:linM k a b c r k=c.getD r 0:=by unfold linM; rw [if_neg (by omega)]
  rw [e,Rat.intCast_natCast]
  exact (hg r).1
 ·rw [Int.natAbs_natCast]
  exact (hg r).2
theorem w_le (hk:k≤12):wN k (2 ^ 610)≤2 ^ 7400:=by
 unfold wN
 have h1:2*((k+1)*2 ^ 610)+1≤2 ^ 616:=w_gen (X:=2 ^ 610) (Y:=2 ^ 616) hk (by decide +kernel)
 exact pow_upK (c:=616) (k:=k) (d:=7400) h1 (by omega)
theorem wk_le (hk:k≤12):wN k (2 ^ 610) ^ k≤2 ^ 88800:=by
 exact pow_upK (c:=7400) (k:=k) (d:=88800) (w_le hk) (by omega)
theorem FrQ.bd {T K e:Nat} {q:Rat} (h:FrQ T q) (hT:T≤2 ^ e) (he:e<32*K):Bd K (rp q):=by
 obtain ⟨N,d,h0,h1,h2,h3⟩:=h
 have hd:(d:Rat)≠0:=fun h => h0 (by exact_mod_cast h)
 refine bd_divS (n:=N) (d:=d) h0 ?_ (sz_lt (e:=e) (Nat.le_trans h2 hT) he) (sz_lt (e:=e) (Nat.le_trans h3 hT) he)
 rw [Rat.divInt_eq_div,←h1,Rat.mul_div_cancel hd]
theorem lin_gb {b:Rat} {c:List Rat} {n:Nat} (l:pV k a h DA Dh) (hb:Cap (2*Dh) (2 ^ 40) b) (hc:CpL n c) (hn:n≤9000000):GB 2097152 k (linM k a b c):=fun m R hm hR i j hi hj => by
 have hk:=l.k12
 obtain ⟨N,D,F,g,hI,hF⟩:=lin_row l hb hc
 have hW:=w_le hk
 have t1:(k+1)*(2 ^ 610*wN k (2 ^ 610))*wN k (2 ^ 610)≤2 ^ 15500:=by
  have h1:(k+1)*(2 ^ 610*wN k (2 ^ 610))≤2 ^ (4+(610+7400)):=vH (c:=4) (d:=610+7400) (e:=4+(610+7400)) rfl (by omega) (vH (c:=610) (d:=7400) (e:=610+7400) rfl (Nat.le_refl _) hW)
  exact bD (vH rfl h1 hW) (by decide)
 rcases Nat.lt_or_ge j k with h1 | h1
 ·exact (num_all hI (Nat.pow_pos (by decide)) hm hR hi h1).bd t1 (by decide)
 ·have:j=k:=by omega
  subst this
  have h2:=num_last hI (Nat.pow_pos (by decide)) hm hR hi
  refine h2.bd (e:=4+(15500+(n+n)+88800)) ?_ (by omega)
  refine vH (c:=4) rfl (by omega) (vH rfl (vH rfl t1 (vH rfl (Nat.le_refl _) hF)) (wk_le hk))
theorem lin_sol {b:Rat} {c y:List Rat} {n:Nat} (l:pV k a h DA Dh) (hb:Cap (2*Dh) (2 ^ 40) b) (hc:CpL n c) (hs:qV k (linM k a b c)=some y):CpL (n+97000) y:=by
 have hk:=l.k12
 obtain ⟨N,D,F,g,hI,hF⟩:=lin_row l hb hc
 unfold qV at hs
 cases hg:wK k (linM k a b c) k with
 | none => rw [hg] at hs; cases hs
 | some R =>
  rw [hg] at hs
  simp at hs
  subst hs
  obtain ⟨d,d0,d1,d2,d3⟩:=num_sol hI (two_pos 610) hg
  refine ⟨d.natAbs,Int.natAbs_pos.2 d0,bD (Nat.le_trans d1 (vH (e:=n+88800) rfl hF (wk_le hk))) (by omega),fun q hq => ?_⟩
  obtain ⟨i,hi,rfl⟩:=List.mem_map.1 hq
  simp at hi
  obtain ⟨P,p1,p2⟩:=d3 i hi
  have hP:P.natAbs≤2 ^ (n+97000)*d.natAbs:=by
   refine Nat.le_trans p2 ?_
   have e:k*(wN k (2 ^ 610)*(2 ^ n*F.natAbs)*wN k (2 ^ 610) ^ k)=k*(wN k (2 ^ 610)*2 ^ n*wN k (2 ^ 610) ^ k)*F.natAbs:=by
    simp only [Nat.mul_assoc,Nat.mul_comm,Nat.mul_left_comm]
   rw [e]
   refine Nat.mul_le_mul ?_ d2
   refine bD (vH (c:=4) (e:=4+(7400+n+88800)) rfl (by omega) (vH rfl (vH rfl (w_le hk) (Nat.le_refl _)) (wk_le hk))) (by omega)
  rcases Int.natAbs_eq d with hd | hd
  ·refine ⟨P,?_,hP⟩
   rw [←p1]
   have:((d.natAbs:Nat):Rat)=((d:Int):Rat):=by
    rw [←Rat.intCast_natCast,←hd]
   rw [this]
  ·refine ⟨-P,?_,by rw [Int.natAbs_neg]; exact hP⟩
   rw [Rat.intCast_neg,←p1]
   have:((d.natAbs:Nat):Rat) = -((d:Int):Rat):=by
    rw [←Rat.intCast_natCast,←Rat.intCast_neg]
    congr 1
    omega
   rw [this]
   grind
end
end Go.Proofs.Ytokckcnfojjpjaa

namespace Go.Proofs.Ytokckcnfojjpjaa
open Go.RowKit
set_option maxRecDepth 20000
section
variable {α:Type} {E:El α}
theorem app_xs {F R:Hp} {el:TypeId} {es bytes:Nat} {s x:Option V} {K:V→Hp→Prop} {c d:C} {xs:List C} {out l:List α} {H:Hp} (hH:H=F++R) (ho:Out E el F.length (F++R) c out) (hs:s=some (.c c)) (hx:x=some (.c d)) (hxs:sR (F++R) E.s d=some xs) (hm:slLen d=some l.length) (hxl:xs.length=l.length*E.s) (hxe:Els E xs l) (he:E.s=es) (hl:(out.length+l.length)*bytes≤140737488355328∧out.length+l.length≤140737488355328)
  (k:∀ R' c',Out E el F.length (F++R') c' (out++l)→K (.c c') (F++R')):appX H el es bytes s x K:=by
 subst hH hs hx he
 cases ho with
 | nil =>
  simp only [appX,hxs,hm]
  refine xF (by simp [hxl]) ?_
  rcases Nat.eq_zero_or_pos l.length with h0 | h0
  ·have:l=[]:=List.eq_nil_of_length_eq_zero h0
   subst this
   exact jV rfl (k _ _ .nil)
  ·refine jJ (by cases hL:l.length; omega; rfl) (xF (by simp only [List.length_nil,Nat.zero_add] at hl; simp only [Bool.and_eq_true,yE]; exact hl) ?_)
   have:=k (R++[.live ⟨xs,el,.rw⟩]) (.sl (F++R).length 0 l.length none E.s) (.sl (cells:=xs) (ds:=xs) (by simp) (by rw [←List.append_assoc]; exact yJ _ _) rfl (by simp only [List.nil_append]; exact List.take_of_length_le (by omega)) hxe)
   rw [←List.append_assoc] at this
   exact this
 | @sl b n co' cells ds l' hm' hb hn hc h =>
  subst hn
  have hdl:(cells.take (out.length*E.s)).length=out.length*E.s:=by rw [hc]; exact h.len
  have hle:out.length*E.s≤cells.length:=by
   rw [List.length_take] at hdl
   omega
  have hlt:=lt_of_getElem? hb
  refine app_sl (cs:=cells) (xs:=xs) (m:=l.length) rfl rfl hxs hm hxl hb hle hl.1 hl.2 ?_
  have e:(F++R).set b .dead=F++R.set (b - F.length) .dead:=List.set_append_right _ _ hm'
  have e':(F++R).length=(F++R.set (b - F.length) .dead).length:=by simp
  rw [e,e',List.append_assoc]
  refine k _ _ (.sl (cells:=cells.take (out.length*E.s)++xs) (ds:=ds++xs) (by simp) (by rw [←List.append_assoc]; exact yJ _ _) (by simp) ?_ (h.append hxe))
  rw [hc]
  exact List.take_of_length_le (by rw [List.length_append,List.length_append,h.len,hxl,Nat.add_mul]; exact Nat.le_refl _)
end
theorem Out.stS {k:Nat} {el:TypeId} {m b n i off:Nat} {co:Option Nat} {H:Hp} {l:List Rat} {a:Rat} {cs:List C} {ds':Option (List C)} {Q:Nat→Slot→Prop} (h:Out (elQ k) el m H (.sl b 0 n co 6) l) (hi:i<l.length) (hoff:off=i*6) (hd:ds'=some cs) (hc:IQ k cs a)
  (q:∀ cells,m≤b→b<H.length→Out (elQ k) el m (H.set b (.live ⟨cells,el,.rw⟩)) (.sl b 0 n co 6) (l.set i a)→Q b (.live ⟨cells,el,.rw⟩)):xA H[b]? b 6 off ds' Q:=by
 subst hoff
 cases h with
 | @sl _ _ _ cells ds _ hm hb hn hcd hE =>
  have hcl:cs.length=6:=(elQ k).len (show (elQ k).p cs a from hc)
  have hdl:=hE.len
  have hle:l.length*6≤cells.length:=by
   have:=congrArg List.length hcd
   rw [List.length_take,hdl] at this
   have e6:(elQ k).s=6:=rfl
   rw [e6] at this
   omega
  have hlt:=lt_of_getElem? hb
  refine xC hb hd (by rw [hcl]; rfl) (by omega) (q _ hm hlt ?_)
  refine .sl hm (List.getElem?_set_self hlt) (by simp [hn]) ?_ (hE.set hi hc)
  rw [List.length_set,←hcd]
  have e6:(elQ k).s=6:=rfl
  rw [e6]
  have hi6:i*6+6≤l.length*6:=by omega
  unfold splice
  have e1:(cells.take (i*6)++cs).length=i*6+6:=by simp; omega
  rw [List.take_append,List.take_of_length_le (by omega),e1,List.take_take,Nat.min_eq_left (by omega),List.drop_take,hcl]
theorem close_one {H:Hp} {b:Nat} {cells:List C} {el:TypeId} (hb:H[b]?=some (.live ⟨cells,el,.rw⟩)):xQ H [b]=H.set b (.live ⟨cells,el,.ro⟩):=by
 simp only [xQ,hb]
theorem Out.closeOne {α:Type} {E:El α} {el:TypeId} {m b off n es:Nat} {co:Option Nat} {H:Hp} {l:List α} (h:Out E el m H (.sl b off n co es) l):∃ cells d,xQ H [b]=H.set b (.live ⟨cells,el,.ro⟩)∧Fz (·=.ro) (xQ H [b]) (.sl b off n co es) d∧Ls E d l:=by
 cases h with
 | @sl _ _ _ cells ds _ hm hb hn hc h =>
  subst hn
  refine ⟨cells,_,close_one hb,.sl (bx:=⟨cells,el,.ro⟩) (by rw [close_one hb]; exact List.getElem?_set_self (lt_of_getElem? hb)) rfl (by simp) ?_,.imm h⟩
  simp only [List.drop_zero]
  rw [hc]
  exact .hf h.hf
structure HI (H:Hp) (s a t z:Slot):Prop where
 s:H[0]?=some s
 a:H[1]?=some a
 t:H[2]?=some t
 z:H[3]?=some z
theorem HI.grow {H X:Hp} {s a t z:Slot} (h:HI H s a t z):HI (H++X) s a t z :=
 ⟨by rw [List.getElem?_append_left (lt_of_getElem? h.s)]; exact h.s,by rw [List.getElem?_append_left (lt_of_getElem? h.a)]; exact h.a,by rw [List.getElem?_append_left (lt_of_getElem? h.t)]; exact h.t,by rw [List.getElem?_append_left (lt_of_getElem? h.z)]; exact h.z⟩
theorem HI.set {H:Hp} {s a t z:Slot} {p:Nat} {x:Slot} (h:HI H s a t z) (hp:3<p):HI (H.set p x) s a t z :=
 ⟨by rw [List.getElem?_set_ne (by omega)]; exact h.s,by rw [List.getElem?_set_ne (by omega)]; exact h.a,by rw [List.getElem?_set_ne (by omega)]; exact h.t,by rw [List.getElem?_set_ne (by omega)]; exact h.z⟩
theorem imp_last {f:List Pl} {x:List Rat} {a t:Rat} {i:Nat} (hi:i<x.length) (hb:(xI f (xT x.length) t).length=x.length):impM f x a t i x.length=x[i]+a*(xI f (xT x.length) t)[i]'(by omega):=by
 unfold impM
 rw [if_neg (by omega)]
 have e1:x.getD i 0=x[i]:=by simp [List.getD,hi]
 have e2:(xI f (List.replicate x.length 0) t).getD i 0=(xI f (xT x.length) t)[i]'(by omega):=by
  show (xI f (xT x.length) t).getD i 0=_
  simp [List.getD,show i<(xI f (xT x.length) t).length by omega]
 rw [e1,e2]
theorem imp_col {f:List Pl} {x:List Rat} {a t:Rat} {i k:Nat} (hi:i<x.length) (hk:k<x.length) (hb:(xI f (xT x.length) t).length=x.length) (hc:(xI f (sD x.length k) t).length=x.length) :
  impM f x a t i k=if i=k then -(a*((xI f (sD x.length k) t)[i]'(by omega) - (xI f (xT x.length) t)[i]'(by omega)))+1 else -(a*((xI f (sD x.length k) t)[i]'(by omega) - (xI f (xT x.length) t)[i]'(by omega))):=by
 unfold impM
 rw [if_pos hk]
 have e1:(xI f (sD x.length k) t).getD i 0=(xI f (sD x.length k) t)[i]'(by omega):=by simp [List.getD,show i<(xI f (sD x.length k) t).length by omega]
 have e2:(xI f (List.replicate x.length 0) t).getD i 0=(xI f (xT x.length) t)[i]'(by omega):=by
  show (xI f (xT x.length) t).getD i 0=_
  simp [List.getD,show i<(xI f (xT x.length) t).length by omega]
 rw [e1,e2]
theorem cp_mem {n:Nat} {l:List Rat} {q:Rat} (h:CpL n l) (hq:q∈l):CpL n [q]:=h.sub (fun r hr => by simp at hr; subst hr; exact hq)
theorem cp_bd {n k:Nat} {q:Rat} (h:CpL n [q]) (hk:n+n<32*k):Bd k (rp q):=h.bd hk (by simp)
theorem imp_bd {f:List Pl} {x:List Rat} {a t:Rat} (hf:SysOk (x.length+1) f) (hl:f.length=x.length) (bx:CpL 10500 x) (bA:CpL 46 [a]) (bT:CpL 140 [t]):EB 2400 x.length (impM f x a t):=by
 intro i j hi hj
 have hb:(xI f (xT x.length) t).length=x.length:=by rw [vT,hl]
 have cb:CpL 9000 (xI f (xT x.length) t):=(uS (sQ hf (show _=(xT x.length).length+1 by simp [xT])) (cp_zeros _) bT).mono (by decide)
 rcases Nat.lt_or_ge j x.length with h | h
 ·have hc:(xI f (sD x.length j) t).length=x.length:=by rw [vT,hl]
  have cc:CpL 9000 (xI f (sD x.length j) t):=(uS (sQ hf (show _=(sD x.length j).length+1 by rw [unit_len])) (cp_unit _ _) bT).mono (by decide)
  rw [imp_col hi h hb hc]
  have c1:=cp_neg (hU bA (cp_sub (cp_mem cc (List.getElem_mem (show i<_ by omega))) (cp_mem cb (List.getElem_mem (show i<_ by omega)))))
  split
  ·exact cp_bd (bG c1 (bF (z:=1) (n:=1) (by decide))) (by decide)
  ·exact cp_bd c1 (by decide)
 ·have:j=x.length:=by omega
  subst this
  rw [imp_last hi hb]
  exact cp_bd (bG (cp_mem bx (List.getElem_mem hi)) (hU bA (cp_mem cb (List.getElem_mem (show i<_ by omega))))) (by decide)
attribute [local irreducible] yA semH semC qLen qNil qIad qSlc qIdx yW yI xA appX appI slcX awpF yP xH xopF xM qval lval seqQ xJ xY xU xR cnd arith IntKind.wrap
theorem slices_CloneB {k b n:Nat} {co:Option Nat} {kd:BK} {cells:List C} {l:List Rat} {H:Hp} {K:V→Hp→Prop} (hb:H[b]?=some (.live ⟨cells,yR,kd⟩)) (hE:Els (elQ k) cells l) (hn:n=l.length) (hl:l.length<1048576) (h:∀ R' c',Out (elQ k) yR H.length (H++R') c' l→K (.c c') (H++R')):semH Try.prog n_slices_Clone_sl_num_Q_num_Q [.c (.sl b 0 n co 6)] H K:=by
 refine nG ok_slices_Clone_sl_num_Q_num_Q rfl ?_
 have hlen:=hE.len
 refine go2 ?_
 refine app_xs (F:=H) (R:=[.live ⟨[],yR,.rw⟩]) (c:=.sl H.length 0 0 (some 0) 6) (out:=[]) (E:=elQ k) (xs:=cells) rfl (.sl (cells:=[]) (ds:=[]) (Nat.le_refl _) (yJ _ _) rfl rfl .nil) (by rfl) (by rfl) ?_ (by rw [hn]; rfl) hlen hE rfl (by simp; omega) (fun R' c' q => ?_)
 ·simp only [sR]
  rw [List.getElem?_append_left (lt_of_getElem? hb),hb]
  simp only [List.drop_zero]
  rw [List.take_of_length_le (by rw [hlen,hn]; exact Nat.le_refl _)]
 ·refine go2 ?_
  exact h R' c' q
theorem step_implicit {cf cx:C} {ch ca ct:List C} {f:List Pl} {x:List Rat} {h a t:Rat} (hc:Ls elM cf f) (hf:SysOk (x.length+1) f) (hl:f.length=x.length) (hh:IQ 4194304 ch h) (hx:Ls (elQ 4194304) cx x) (ha:IQ 4194304 ca a) (ht:IQ 4194304 ct t) (bx:CpL 10500 x) (bA:CpL 46 [a]) (bT:CpL 140 [t]) :
  semC Try.prog n_step_system_implicit [.agg (cf :: ch),.c cx,.agg ca,.agg ct] (OneK (qA f x a t)):=by
 refine yD ok_step_system_implicit rfl (show HFVs [.agg (cf :: ch),.c cx,.agg ca,.agg ct] from ⟨⟨hc.hf,hh.hf⟩,hx.hf,ha.hf,ht.hf,trivial⟩) ?_
 have h3:x.length≤3:=by rw [←hl]; exact hf.len
 obtain ⟨a0,a1,a2,a3,a4,a5,rfl⟩:=id hh.six
 obtain ⟨b0,b1,b2,b3,b4,b5,rfl⟩:=id ha.six
 obtain ⟨d0,d1,d2,d3,d4,d5,rfl⟩:=id ht.six
 have hzl:(xT x.length).length=x.length:=by simp [xT]
 refine go13 ?_
 refine vQ (by rfl) (by rfl) ⟨by omega,by omega,by omega,by omega⟩ ?_
 refine go13 ?_
 refine goN ?_
 refine yX (fun w vs H => ∃ (i:Nat) (cells:List C),vs=[.c cx,.c (.ptr 0 0),.c (.ptr 1 0),.c (.ptr 2 0),i64 x.length,.c (.sl 3 0 x.length (some x.length) 6),i64 x.length,i64 i]∧H=[.live ⟨[cf,a0,a1,a2,a3,a4,a5],vO,.rw⟩,.live ⟨[b0,b1,b2,b3,b4,b5],yR,.rw⟩,.live ⟨[d0,d1,d2,d3,d4,d5],yR,.rw⟩,.live ⟨cells,yR,.rw⟩]∧w=x.length - i∧i≤x.length∧Fill (elQ 4194304) jR x.length cells ((xT x.length).take i)) (by rfl) ⟨0,_,rfl,rfl,rfl,by omega,.zero rfl⟩ ?_
 rintro w vs H ⟨i,cells,rfl,rfl,rfl,i1,i2⟩
 have hcl:cells.length=x.length*6:=i2.len
 have htl:((xT x.length).take i).length=i:=by rw [List.length_take,hzl]; omega
 refine go13 ?_
 cases hi:yA Cm.lss (i:Int) (x.length:Int)
 case true =>
  simp [yA] at hi
  refine go13 ?_
  refine yB (sA (g:=0) (by decide)) (fun u hu => ?_)
  obtain ⟨es,rfl,g0⟩:=hu
  have g0:IQ 4194304 es 0:=g0.up (by decide)
  obtain ⟨_,_,_,_,_,_,rfl⟩:=id g0.six
  refine go13 ?_
  rw [xL i (by omega)]
  have h4:=i2.put (cs:=_) (a:=(0:Rat)) (by rw [htl]; exact hi) g0
  rw [htl] at h4
  refine l_n (by rfl) (n':=x.length - (i+1)) (by omega) ⟨i+1,_,rfl,by rw [Nat.zero_add,Int.toNat_natCast]; rfl,rfl,by omega,?_⟩
  rw [wA (by rw [hzl]; exact hi),show (xT x.length)[i]'(by omega)=0 by simp [xT]]
  exact h4
 simp [yA] at hi
 have ei:i=x.length:=by omega
 subst ei
 rw [uB (by omega)] at i2
 have hz:=i2.done hzl
 have lz:Ls (elQ 4194304) (.imm x.length cells) (xT x.length):=by
  have:=Ls.imm hz
  rwa [hzl] at this
 clear i1 i2 htl
 refine go13 ?_
 refine xK [3] (.cons (.agg (.hf ⟨hc.hf,hh.hf⟩)) (.cons (.c (.sl (bx:=⟨cells,yR,.ro⟩) (ds:=cells) (by rfl) rfl (by simp) ?_)) (.cons (.agg (.hf ht.hf)) .nil))) (step_rate hc (sQ hf (show _=(xT x.length).length+1 by rw [hzl])) hh lz ht (by omega) ((cp_zeros _).append bT) (by decide)) (fun u hu => ?_)
 ·simp only [List.drop_zero]
  rw [List.take_of_length_le (by omega)]
  exact .hf hz.hf
 obtain ⟨cb,rfl,lb⟩:=hu
 have lb:Ls (elQ 4194304) cb (xI f (xT x.length) t):=lb
 have hbl:(xI f (xT x.length) t).length=x.length:=by rw [vT,hl]
 refine go13 ?_
 refine goN ?_
 refine vQ (by rfl) (by rfl) ⟨by omega,by omega,by omega,by omega⟩ ?_
 refine go13 ?_
 refine goN ?_
 have hEB:=imp_bd hf hl bx bA bT
 have cbB:∀ i (h:i<x.length),CpL 9000 [(xI f (xT x.length) t)[i]'(by omega)]:=fun i h => cp_mem ((uS (sQ hf (show _=(xT x.length).length+1 by rw [hzl])) (cp_zeros _) bT).mono (by decide)) (List.getElem_mem (by omega))
 obtain ⟨M,hM⟩:∃ M,M=impM f x a t:=⟨_,rfl⟩
 rw [←hM] at hEB
 have h7:(List.replicate ((x.length:Int).toNat) [C.nilSl]).flatten=List.replicate x.length C.nilSl:=by
  rw [Int.toNat_natCast]
  induction x.length with
  | zero => rfl
  | succ n ih => rw [List.replicate_succ,List.flatten_cons,ih]; rfl
 rw [h7]
 refine yX (fun w vs H => ∃ (i:Nat) (bx:Nat→Nat) (ds:Nat→List C),vs=[.c cx,.c (.ptr 0 0),.c (.ptr 1 0),.c (.ptr 2 0),i64 x.length,.c (.sl 3 0 x.length (some x.length) 6),.c cb,.c (.sl 4 0 x.length (some x.length) 1),i64 x.length,i64 i]∧w=x.length - i∧i≤x.length∧HI H (.live ⟨[cf,a0,a1,a2,a3,a4,a5],vO,.rw⟩) (.live ⟨[b0,b1,b2,b3,b4,b5],yR,.rw⟩) (.live ⟨[d0,d1,d2,d3,d4,d5],yR,.rw⟩) (.live ⟨cells,yR,.ro⟩)∧(∀ l,l<i→4<bx l)∧MtP 2097152 4 bx ds H i x.length (x.length+1) (fun i' j' => i'<i∧j'=x.length) M) (by rfl) ⟨0,fun _ => 0,fun _ => [],rfl,rfl,by omega,⟨rfl,rfl,rfl,rfl⟩,fun l h => by omega,.start rfl⟩ ?_
 rintro w vs H ⟨i,bx',ds,rfl,rfl,i1,hI,i2,hP⟩
 refine go13 ?_
 cases hi:yA Cm.lss (i:Int) (x.length:Int)
 case true =>
  simp [yA] at hi
  have hpl:=lt_of_getElem? hP.T
  refine go13 ?_
  rw [xL x.length (by omega)]
  refine vQ (by rfl) (by rfl) ⟨by omega,by omega,by omega,by omega⟩ ?_
  refine go13 ?_
  have hG:=hP.grow (X:=[.live ⟨(List.replicate ((x.length+1:Nat):Int).toNat jR).flatten,yR,.rw⟩])
  refine xC hG.T (by rfl) (by rfl) (by simp; omega) ?_
  have hN:=hG.next (b:=H.length) hi (yJ _ _) (fun l hl => by have:=lt_of_getElem? (hP.row l hl); omega) (by omega) (by simp [jR]) (fun j h => by omega)
  have hIN:=(hI.grow (X:=[.live ⟨(List.replicate ((x.length+1:Nat):Int).toNat jR).flatten,yR,.rw⟩])).set (p:=4) (x:=.live ⟨splice ((List.range i).map (rowQ bx' (fun _ => some (x.length+1)) (x.length+1))++List.replicate (x.length - i) .nilSl) i [.sl H.length 0 (x.length+1) (some (x.length+1)) 6],qM,.rw⟩) (by omega)
  rw [show 0+(i:Int).toNat*1=i by omega]
  have hge:∀ l,l<i+1→4<(fun l => if l=i then H.length else bx' l) l:=fun l hl => by
   simp only
   split
   ·omega
   ·exact i2 l (by omega)
  generalize (fun l => if l=i then H.length else bx' l)=bx2 at hN hge
  generalize (fun l => if l=i then (List.replicate ((x.length+1:Nat):Int).toNat jR).flatten else ds l)=ds2 at hN
  refine go13 ?_
  refine hN.ldT (i:=i) (by omega) (by omega) ?_
  refine go13 ?_
  refine uX hx (i:=i) hi (by omega) rfl (fun e1 he1 => ?_)
  refine go13 ?_
  refine yM hIN.a (by rfl) ?_
  refine go13 ?_
  refine uX lb (i:=i) (by omega) (by omega) rfl (fun e2 he2 => ?_)
  refine go13 ?_
  refine yS (sG ha he2 (by decide)) (fun u hu => ?_)
  obtain ⟨e3,rfl,he3⟩:=hu
  refine go13 ?_
  refine yS (pR he1 he3 (by decide)) (fun u hu => ?_)
  obtain ⟨e4,rfl,he4⟩:=hu
  have hval:x[i]+a*(xI f (xT x.length) t)[i]'(by omega)=M i x.length:=by rw [hM]; exact (imp_last hi hbl).symm
  rw [hval] at he4
  have he4:=he4.tightS ((hEB i x.length hi (Nat.le_refl _)).to (show 2400≤2097152 by decide))
  obtain ⟨_,_,_,_,_,_,rfl⟩:=id he4.six
  refine go13 ?_
  refine hN.st (i:=i) (j:=x.length) (by omega) (by omega) (by omega) (by rfl) (by rfl) ?_
  have hP2:=hN.put (i:=i) (j:=x.length) (by omega) (by omega) he4
  have hb4:=hge i (by omega)
  refine go13 ?_
  rw [xL i (by omega)]
  exact l_n (by rfl) (n':=x.length - (i+1)) (by omega) ⟨i+1,bx2,_,rfl,rfl,by omega,hIN.set (by omega),hge,hP2.weak (fun i' j' h1 h2 h3 => by
   rcases Nat.lt_or_ge i' i with h | h
   ·exact .inl ⟨h,h3.2⟩
   ·exact .inr ⟨by omega,h3.2⟩)⟩
 simp [yA] at hi
 have ei:i=x.length:=by omega
 subst ei
 refine go13 ?_
 refine yX (fun w vs H => ∃ (k:Nat) (bx:Nat→Nat) (ds:Nat→List C),vs=[.c (.ptr 0 0),.c (.ptr 1 0),.c (.ptr 2 0),i64 x.length,.c (.sl 3 0 x.length (some x.length) 6),.c cb,.c (.sl 4 0 x.length (some x.length) 1),i64 x.length,i64 k]∧w=x.length - k∧k≤x.length∧HI H (.live ⟨[cf,a0,a1,a2,a3,a4,a5],vO,.rw⟩) (.live ⟨[b0,b1,b2,b3,b4,b5],yR,.rw⟩) (.live ⟨[d0,d1,d2,d3,d4,d5],yR,.rw⟩) (.live ⟨cells,yR,.ro⟩)∧(∀ l,l<x.length→4<bx l)∧MtP 2097152 4 bx ds H x.length x.length (x.length+1) (fun i' j' => j'=x.length∨j'<k) M) (by rfl) ⟨0,bx',ds,rfl,rfl,by omega,hI,i2,hP.weak (fun i' j' h1 h2 h3 => ⟨h1,by omega⟩)⟩ ?_
 clear hP i2 hI i1 bx' ds
 rintro w vs H ⟨k,bx',ds,rfl,rfl,k1,hI,k2,hP⟩
 refine go13 ?_
 cases hk:yA Cm.lss (k:Int) (x.length:Int)
 case false =>
  simp [yA] at hk
  have ek:k=x.length:=by omega
  subst ek
  have hF:=hP.full (fun i' j' h1 h2 => by omega)
  refine go13 ?_
  refine step_gauss hF (by omega) (gb_of hEB h3 (by decide)) (fun v H' hg => ?_)
  rcases hg with ⟨hs,rfl⟩ | ⟨y,b,yc,hs,rfl,hb,hE⟩
  ·refine go13 ?_
   exact ⟨_,.tup (.cons (.c (.hf trivial)) (.cons (.c (.hf trivial)) .nil)),.inr ⟨by unfold qA; rw [←hM]; exact hs,rfl⟩⟩
  ·have hyl:y.length=x.length:=by
    unfold qV at hs
    cases hg2:wK x.length M x.length with
    | none => rw [hg2] at hs; cases hs
    | some R =>
     rw [hg2] at hs
     simp at hs
     subst hs
     simp
   have hlen:=hE.len
   have ly:=Ls.imm hE
   rw [hyl] at ly
   refine go13 ?_
   exact ⟨_,.tup (.cons (.c (fz_sl (bx:=⟨yc,yR,.rw⟩) (ds:=yc) hb (by simp) (by simp) (by rw [List.drop_zero,List.take_of_length_le (by simp only; rw [hlen,hyl]; exact Nat.le_refl _)]) hE.hf)) (.cons (.c (.hf trivial)) .nil)),.inl ⟨y,_,by unfold qA; rw [←hM]; exact hs,rfl,ly⟩⟩
 simp [yA] at hk
 have hpl:=lt_of_getElem? hP.T
 refine go13 ?_
 refine slices_CloneB hI.z hz hzl.symm (by omega) (fun R c q => ?_)
 obtain ⟨b,co,rfl⟩:=q.isSl (by omega)
 rw [hzl] at q ⊢
 refine go13 ?_
 refine yB (sA (g:=1) (by decide)) (fun u hu => ?_)
 obtain ⟨e1,rfl,g1⟩:=hu
 have g1:IQ 4194304 e1 1:=g1.up (by decide)
 obtain ⟨_,_,_,_,_,_,rfl⟩:=id g1.six
 refine go13 ?_
 refine q.stS (i:=k) (by omega) (by omega) (by rfl) g1 (fun cl q1 q2 q3 => ?_)
 refine go13 ?_
 have hI1:=(hI.grow (X:=R)).set (p:=b) (x:=.live ⟨cl,yR,.rw⟩) (by omega)
 refine yM hI1.s (by rfl) ?_
 refine go13 ?_
 refine yM hI1.t (by rfl) ?_
 refine go13 ?_
 obtain ⟨cl2,dd,w1,w2,w3⟩:=q3.closeOne
 have w3:Ls (elQ 4194304) dd (sD x.length k):=w3
 have ccp:CpL 9000 (xI f (sD x.length k) t):=(uS (sQ hf (show _=(sD x.length k).length+1 by rw [unit_len])) (cp_unit _ _) bT).mono (by decide)
 refine xK [b] (.cons (.agg (.hf ⟨hc.hf,hh.hf⟩)) (.cons (.c w2) (.cons (.agg (.hf ht.hf)) .nil))) (step_rate hc (sQ hf (show _=(sD x.length k).length+1 by rw [unit_len])) hh w3 ht (by rw [unit_len]; omega) ((cp_unit _ _).append bT) (by decide)) (fun u hu => ?_)
 obtain ⟨cc,rfl,lc⟩:=hu
 have lc:Ls (elQ 4194304) cc (xI f (sD x.length k) t):=lc
 have hcl2:(xI f (sD x.length k) t).length=x.length:=by rw [vT,hl]
 rw [w1,List.set_set]
 have hI2:=(hI.grow (X:=R)).set (p:=b) (x:=.live ⟨cl2,yR,.ro⟩) (by omega)
 have hP2:=(hP.grow (X:=R)).other (p:=b) (s:=.live ⟨cl2,yR,.ro⟩) (by omega) (fun l hl => by have:=lt_of_getElem? (hP.row l hl); omega)
 refine go13 ?_
 refine yX (fun w vs H => ∃ (i:Nat) (bx:Nat→Nat) (ds:Nat→List C),vs=[.c (.ptr 0 0),.c (.ptr 1 0),.c (.ptr 2 0),i64 x.length,.c (.sl 3 0 x.length (some x.length) 6),.c cb,.c (.sl 4 0 x.length (some x.length) 1),i64 k,.c cc,i64 x.length,i64 k,i64 x.length,i64 i]∧w=x.length - i∧i≤x.length∧HI H (.live ⟨[cf,a0,a1,a2,a3,a4,a5],vO,.rw⟩) (.live ⟨[b0,b1,b2,b3,b4,b5],yR,.rw⟩) (.live ⟨[d0,d1,d2,d3,d4,d5],yR,.rw⟩) (.live ⟨cells,yR,.ro⟩)∧(∀ l,l<x.length→4<bx l)∧MtP 2097152 4 bx ds H x.length x.length (x.length+1) (fun i' j' => j'=x.length∨j'<k∨(j'=k∧i'<i)) M) (by rfl) ⟨0,bx',ds,rfl,rfl,by omega,hI2,k2,hP2.weak (fun i' j' h1 h2 h3 => by omega)⟩ ?_
 clear hP2 hI2 hI1 hP hI k2 bx' ds q q1 q2 q3 w1 w2 hpl
 rintro w vs H ⟨i,bx',ds,rfl,rfl,i1,hI,i2,hP⟩
 refine go13 ?_
 cases hi:yA Cm.lss (i:Int) (x.length:Int)
 case false =>
  simp [yA] at hi
  refine go13 ?_
  rw [xL k (by omega)]
  exact l_n (by rfl) (n':=x.length - (k+1)) (by omega) ⟨k+1,bx',ds,rfl,rfl,by omega,hI,i2,hP.weak (fun i' j' h1 h2 h3 => by omega)⟩
 simp [yA] at hi
 have hpl:=lt_of_getElem? hP.T
 have hIg:=hI.grow (X:=List.replicate (0+1) .unb)
 refine go13 ?_
 refine yM hIg.a (by rfl) ?_
 refine go13 ?_
 refine uX lc (i:=i) (by omega) (by omega) rfl (fun e1 he1 => ?_)
 refine go13 ?_
 refine uX lb (i:=i) (by omega) (by omega) rfl (fun e2 he2 => ?_)
 refine go13 ?_
 refine jZ (T:=some H.length) (by rfl) (logOk_low (n:=H.length) ⟨trivial,trivial,trivial,trivial,trivial,trivial,trivial,trivial,show 1<H.length by omega,trivial⟩) ?_
 refine bL ?_
 refine go13 ?_
 refine yS (q_Sub2 he1 he2 (by decide)) (fun u hu => ?_)
 obtain ⟨e3,rfl,he3⟩:=hu
 refine go13 ?_
 refine yS (sG ha he3 (by decide)) (fun u hu => ?_)
 obtain ⟨e4,rfl,he4⟩:=hu
 refine go13 ?_
 refine yS (q_Neg he4 (by decide)) (fun u hu => ?_)
 obtain ⟨e5,rfl,he5⟩:=hu
 obtain ⟨u0,u1,u2,u3,u4,u5,rfl⟩:=id he5.six
 have hbd:=(hEB i k hi (by omega)).to (show 2400≤2097152 by decide)
 have hcol:=imp_col (a:=a) (t:=t) hi hk hbl hcl2
 rw [←hM] at hcol
 refine go13 ?_
 refine goN ?_
 cases hik:yA Cm.eql (i:Int) (k:Int)
 case true =>
  simp [yA] at hik
  have hik:i=k:=by omega
  rw [if_pos hik] at hcol
  refine go13 ?_
  refine yS (sA (g:=1) (by decide)) (fun u hu => ?_)
  obtain ⟨e6,rfl,he6⟩:=hu
  refine go13 ?_
  refine yB (pR he5 he6 (by decide)) (fun u hu => ?_)
  obtain ⟨e7,rfl,he7⟩:=hu
  have hv:-(a*((xI f (sD x.length k) t)[i]'(by omega) - (xI f (xT x.length) t)[i]'(by omega)))+((1:Int):Rat)=M i k:=by rw [hcol]; rfl
  rw [hv] at he7
  have he7:=he7.tightS hbd
  obtain ⟨v0,v1,v2,v3,v4,v5,rfl⟩:=id he7.six
  refine go13 ?_
  refine goN ?_
  have hPg:=hP.grow (X:=[.live ⟨[v0,v1,v2,v3,v4,v5],yR,.rw⟩])
  have hIg2:=hI.grow (X:=[.live ⟨[v0,v1,v2,v3,v4,v5],yR,.rw⟩])
  refine hPg.ldT (i:=i) hi (by omega) ?_
  refine go13 ?_
  refine hPg.st (i:=i) (j:=k) hi (by omega) (by omega) (by rfl) (by rfl) ?_
  have hP3:=hPg.put (i:=i) (j:=k) hi (by omega) he7
  have hb4:=i2 i hi
  refine go13 ?_
  rw [xL i (by omega)]
  exact l_n (by rfl) (n':=x.length - (i+1)) (by omega) ⟨i+1,bx',_,rfl,rfl,by omega,hIg2.set (by omega),i2,hP3.weak (fun i' j' h1 h2 h3 => by omega)⟩
 simp [yA] at hik
 have hik:i≠k:=by omega
 rw [if_neg hik] at hcol
 rw [←hcol] at he5
 have he7:=he5.tightS hbd
 obtain ⟨v0,v1,v2,v3,v4,v5,hvv⟩:∃ v0 v1 v2 v3 v4 v5,[u0,u1,u2,u3,u4,u5]=[v0,v1,v2,v3,v4,v5]:=⟨_,_,_,_,_,_,rfl⟩
 rw [hvv] at he7 ⊢
 refine go13 ?_
 have hPg:=hP.grow (X:=[.live ⟨[v0,v1,v2,v3,v4,v5],yR,.rw⟩])
 have hIg2:=hI.grow (X:=[.live ⟨[v0,v1,v2,v3,v4,v5],yR,.rw⟩])
 refine hPg.ldT (i:=i) hi (by omega) ?_
 refine go13 ?_
 refine hPg.st (i:=i) (j:=k) hi (by omega) (by omega) (by rfl) (by rfl) ?_
 have hP3:=hPg.put (i:=i) (j:=k) hi (by omega) he7
 have hb4:=i2 i hi
 refine go13 ?_
 rw [xL i (by omega)]
 exact l_n (by rfl) (n':=x.length - (i+1)) (by omega) ⟨i+1,bx',_,rfl,rfl,by omega,hIg2.set (by omega),i2,hP3.weak (fun i' j' h1 h2 h3 => by omega)⟩
end Go.Proofs.Ytokckcnfojjpjaa

namespace Go.Proofs.Ytokckcnfojjpjaa
open Go.RowKit
set_option maxRecDepth 20000
attribute [local irreducible] yA semH semC qLen qNil qIad qSlc qIdx yW yI xA appX appI slcX awpF yP xH xopF xM qval lval seqQ xJ xY xU xR cnd arith IntKind.wrap
section
variable {cf cx:C} {ch ct:List C} {f:List Pl} {x:List Rat} {h t:Rat}
theorem step_imp5 (hi:qY cf cx ch ct f x h t):semC Try.prog n_step_method_5 [.agg (cf :: ch),.c cx,.agg ct] (OneK (qA f x h (t+h))):=by
 refine yD ok_step_method_5 rfl hi.hfv ?_
 have h3:=hi.x3
 obtain ⟨a0,a1,a2,a3,a4,a5,rfl⟩:=id hi.hh.six
 obtain ⟨b0,b1,b2,b3,b4,b5,rfl⟩:=id hi.ht.six
 have ct':CpL 140 [t+h]:=(bG hi.bt hi.bh).mono (by decide)
 refine go13 ?_
 refine yS (pR hi.ht hi.hh (by decide)) (fun u hu => ?_)
 obtain ⟨r3,rfl,g3⟩:=hu
 have g3:=g3.tightS (ct'.bd (k:=4194304) (by decide) (by simp))
 refine go13 ?_
 refine yB (step_implicit hi.hc hi.hf hi.hl hi.hh hi.hx hi.hh g3 (hi.bx.mono (by decide)) (hi.bh.mono (by decide)) ct') (fun u hu => ?_)
 rcases hu with ⟨y,cy,hy,rfl,ly⟩ | ⟨hy,rfl⟩
 ·refine go13 ?_
  rw [hy]
  exact OneK.fz ly
 ·refine go13 ?_
  rw [hy]
  exact ⟨_,.tup (.cons (.c (.hf trivial)) (.cons (.c (.hf trivial)) .nil)),.inr ⟨rfl,rfl⟩⟩
theorem step_imp6 {hs:List C} (hi:qY cf cx ch ct f x h t) (hhs:IQ 1 hs vG):semC Try.prog n_step_method_6 [.agg (cf :: ch),.c cx,.agg ct,.c (.ipt hs)] (OneK (gN f h t x)):=by
 refine yD ok_step_method_6 rfl (show HFVs [.agg (cf :: ch),.c cx,.agg ct,.c (.ipt hs)] from ⟨⟨hi.hc.hf,hi.hh.hf⟩,hi.hx.hf,hi.ht.hf,hhs.hf,trivial⟩) ?_
 have h3:=hi.x3
 obtain ⟨a0,a1,a2,a3,a4,a5,rfl⟩:=id hi.hh.six
 obtain ⟨b0,b1,b2,b3,b4,b5,rfl⟩:=id hi.ht.six
 obtain ⟨d0,d1,d2,d3,d4,d5,rfl⟩:=id hhs.six
 have bh2:=hU hi.bh half_cp
 have c1:CpL 9720 (xI f x t):=(uS hi.hf hi.bx hi.bt).mono (by decide)
 have n1:(xI f x t).length=x.length:=by rw [vT,hi.hl]
 have c2:CpL 10500 (yO x (h*vG) (xI f x t)):=(tU hi.bx bh2 c1).mono (by decide)
 have n2:(yO x (h*vG) (xI f x t)).length=x.length:=xE n1
 have ct':CpL 140 [t+h]:=(bG hi.bt hi.bh).mono (by decide)
 refine go13 ?_
 refine yB (sG hi.hh hhs (by decide)) (fun u hu => ?_)
 obtain ⟨r5,rfl,g5⟩:=hu
 have g5:=g5.tightS (bh2.bd (k:=4194304) (by decide) (by simp))
 obtain ⟨e0,e1,e2,e3,e4,e5,rfl⟩:=id g5.six
 refine go13 ?_
 refine yS (pH hi hi.hx rfl hi.ht hi.bx hi.bt (by decide)) (fun u hu => ?_)
 obtain ⟨r1,rfl,l1⟩:=hu
 refine go13 ?_
 refine yS (uT (x3:=h3) hi.hx hi.bx g5 bh2 l1 n1 c1 (by decide)) (fun u hu => ?_)
 obtain ⟨r2,rfl,l2⟩:=hu
 refine go13 ?_
 refine yS (pR hi.ht hi.hh (by decide)) (fun u hu => ?_)
 obtain ⟨r3,rfl,g3⟩:=hu
 have g3:=g3.tightS (ct'.bd (k:=4194304) (by decide) (by simp))
 refine go13 ?_
 refine yB (step_implicit hi.hc (sQ hi.hf (show _=(yO x (h*vG) (xI f x t)).length+1 by rw [n2])) (by rw [n2,hi.hl]) hi.hh l2 g5 g3 c2 bh2 ct') (fun u hu => ?_)
 rcases hu with ⟨y,cy,hy,rfl,ly⟩ | ⟨hy,rfl⟩
 ·refine go13 ?_
  rw [show gN f h t x=some y from hy]
  exact OneK.fz ly
 ·refine go13 ?_
  rw [show gN f h t x=none from hy]
  exact ⟨_,.tup (.cons (.c (.hf trivial)) (.cons (.c (.hf trivial)) .nil)),.inr ⟨rfl,rfl⟩⟩
end
theorem imp_all (m:Int):ImpOk m:=fun hi _ hhs => ⟨fun _ => step_imp5 hi,fun _ => step_imp6 hi hhs⟩
end Go.Proofs.Ytokckcnfojjpjaa

namespace Go.Proofs.Ytokckcnfojjpjaa
open Go.RowKit
set_option maxRecDepth 20000
section
variable {P:Program}
def semO (P:Program) (f:FuncId) (args:List V) (K:V→Hp→Prop):Prop :=
 okFn P f∧HFVs args∧∀ (base:Nat→Prop) (w:World) (vs:List Value),(∀ k,base k→k<w.heap.size)→RVL (cx0 base w) args vs →
  Calls P f vs.toArray w fun e w' => ∃ (v:Value) (u:V) (β':Nat→Nat) (H':Hp),e=.returned v∧K u H'∧HRel base w' β' H'∧Ext w (fun _ => 0) [] w' β' H'∧RV (cx base w' β' H') u v
theorem semO_of_awpF {f:FuncId} {ac:yV} {rs:List ARes} {n:Nat} (hk:FnOk P f ac rs n) {args:List V} (hl:Nat.ble args.length n=true) (hh:HFVs args) {K:V→Hp→Prop}
  (h:awpF P ac (xU rs K) (gT args 0) []):semO P f args K:=by
 rw [awpF_eq,bodyF_eq] at h
 refine ⟨hk.ok,hh,fun base w vs hb hv => ?_⟩
 have hp:HRel base w (fun _ => 0) []:=⟨fun i bx hi => by simp at hi,fun i j bx bx' hi => by simp at hi,fun i bx hi => by simp at hi,hb,fun i es hi => by simp at hi,fun i j es es' hi => by simp at hi⟩
 have hv':RVL (cx base w (fun _ => 0) []) args vs:=RVL.hf (x:=cx0 base w) (y:=cx base w (fun _ => 0) []) rfl (fun k hk => hk.elim id fun h => h.elim (fun ⟨i,bx,hi,_⟩ => by simp at hi) (fun ⟨i,es,hi,_⟩ => by simp at hi)) hv hh
 exact fn_calls hk (Nat.le_of_ble_eq_true hl) h hp hv'
inductive Mv (b m:Nat):V→V→Prop
 | c {off n es:Nat} {co:Option Nat}:Mv b m (.c (.sl b off n co es)) (.c (.sl m off n co es))
 | two {off n es:Nat} {co:Option Nat} {x:C} (h:HFC x):Mv b m (.tup [.c (.sl b off n co es),.c x]) (.tup [.c (.sl m off n co es),.c x])
theorem semH_of_semO_ro {f:FuncId} {args ds:List V} {H:Hp} {K':V→Hp→Prop} {K:V→Hp→Prop} (hd:FzVs (·=.ro) H args ds) (h:semO P f ds K')
  (hK:∀ u H',K' u H'→(∃ d,FzV H' u d∧K d H)∨∃ b bx u',H'[b]?=some (.live bx)∧bx.kind=.rw∧HFL bx.cells∧Mv b H.length u u'∧K u' (H++[Slot.live bx])):semH P f args H K:=by
 refine ⟨h.1,fun base w β vs hp hv => ?_⟩
 have hv2:=FzVs.sound (O:=sU base β H) hp (fun b bx hb hk => by
  rintro (hb0 | ⟨i,bx',hi,hrw,he⟩ | ⟨i,es,hi,he⟩)
  ·exact hp.nbase b bx hb (by rw [hk]; intro e; cases e) hb0
  ·have:=hp.inj i b bx' bx hi hb he
   subst this
   rw [hb] at hi
   cases hi
   rw [hk] at hrw
   cases hrw
  ·exact hp.apart hi hb he) (fun k hk => hk) hd hv
 refine (h.2.2 (sU base β H) w vs (fun k hk => hp.own_lt hk) hv2).mono ?_
 rintro e w' ⟨v,u,β',H',he,hk,hp',hx',hr⟩
 have nw:∀ k,¬ wr (fun _ => 0) [] k:=by
  rintro k (⟨i,bx,hi,_⟩ | ⟨i,es,hi,_⟩)
  ·simp at hi
  ·simp at hi
 have hq:Quiet w w':=⟨hx'.size,fun k hk => (hx'.keep k hk (nw k)).2,hx'.os,hx'.tape,hx'.output⟩
 obtain ⟨hp1,hx1⟩:=hp.quiet hq
 rcases hK u H' hk with ⟨d,hd,hKd⟩ | ⟨b,bx,u',hb,hrw,hf,hm,hKu⟩
 ·have h1:=FzVp.sound (O:=sU base β H) hp' (fun b bx hb hk => hp'.nbase b bx hb hk) (fun k hk => .inl hk) hd hr
  exact ⟨v,d,β,H,he,hKd,hp1,hx1,RV.to (x:=cx0 (sU base β H) w') (y:=cx base w' β H) ⟨fun i hi => hi.elim,fun i hi => hi.elim,fun k _ hn => ⟨hn,rfl⟩,fun _ _ => rfl⟩ h1⟩
 ·have hfr:¬ β' b<w.heap.size:=fun hlt => (hx'.keep _ hlt (nw _)).1 (.inl ⟨b,bx,hb,hrw,rfl⟩)
  obtain ⟨vs',rest,fr,g1,g2,g3⟩:=hp'.cells b bx hb
  have hfr0:=g2 (by rw [hrw]; intro e; cases e)
  have key:∀ (j:Nat) (s:Slot),(H++[Slot.live bx])[j]?=some s→(j<H.length∧H[j]?=some s)∨(j=H.length∧s=.live bx):=by
   intro j s hj
   rcases Nat.lt_or_ge j H.length with hlt | hge
   ·rw [List.getElem?_append_left hlt] at hj
    exact .inl ⟨hlt,hj⟩
   ·rw [List.getElem?_append_right hge] at hj
    have h0:j - H.length=0:=by
     have:=lt_of_getElem? hj
     simp at this
     omega
    rw [h0] at hj
    simp at hj
    exact .inr ⟨by omega,hj.symm⟩
  have ub:∀ j,j<H.length→upd β H.length (β' b) j=β j:=fun j hj => xO β (by omega)
  have us:upd β H.length (β' b) H.length=β' b:=vE _ _ _
  have wr2:∀ k,wr (upd β H.length (β' b)) (H++[Slot.live bx]) k→wr β H k∨k=β' b:=by
   rintro k (⟨i,bx',hi,hr',he'⟩ | ⟨i,es,hi,he'⟩)
   ·rcases key i _ hi with ⟨h1,h2⟩ | ⟨rfl,h2⟩
    ·rw [ub i h1] at he'
     exact .inl (.inl ⟨i,bx',h2,hr',he'⟩)
    ·rw [us] at he'
     exact .inr he'.symm
   ·rcases key i _ hi with ⟨h1,h2⟩ | ⟨rfl,h2⟩
    ·rw [ub i h1] at he'
     exact .inl (.inr ⟨i,es,h2,he'⟩)
    ·cases h2
  have hx2:Ext w β H w' (upd β H.length (β' b)) (H++[Slot.live bx]):=by
   refine ⟨fun i hi => ?_,fun i hi => ?_,hx'.size,fun k hk hn => ⟨fun h2 => ?_,(hx'.keep k hk (nw k)).2⟩,hx'.rows,hx'.os,hx'.tape,hx'.output⟩
   ·obtain ⟨s,hs,_⟩:=hi
    exact ub i (lt_of_getElem? hs)
   ·obtain ⟨s,hs,hne⟩:=hi
    exact ⟨s,by rw [List.getElem?_append_left (lt_of_getElem? hs)]; exact hs,hne⟩
   ·rcases wr2 k h2 with h3 | rfl
    ·exact hn h3
    ·exact hfr hk
  have hown:∀ k,sU base (upd β H.length (β' b)) (H++[Slot.live bx]) k→sU (sU base β H) β' H' k:=by
   rintro k (h1 | h1)
   ·exact .inl (.inl h1)
   ·rcases wr2 k h1 with h2 | rfl
    ·exact .inl (.inr h2)
    ·exact .inr (.inl ⟨b,bx,hb,hrw,rfl⟩)
  refine ⟨v,u',upd β H.length (β' b),_,he,hKu,⟨fun i bx' hi => ?_,fun i j b1 b2 hi hj he' => ?_,fun i b1 hi hk1 => ?_,fun k hk => Nat.lt_of_lt_of_le (hp.bsize k hk) hx'.size,fun i es hi => ?_,fun i j es es' hi hj he' => ?_⟩,hx2,?_⟩
  ·rcases key i _ hi with ⟨h1,h2⟩ | ⟨rfl,h2⟩
   ·obtain ⟨us',rest',fr',c1,c2,c3⟩:=hp.cells i bx' h2
    refine ⟨us',rest',fr',?_,c2,c3.to (hx2.to base)⟩
    rw [ub i h1,(hx'.keep _ (hp.lt h2) (nw _)).2]
    exact c1
   ·cases h2
    refine ⟨vs',rest,fr,by rw [us]; exact g1,fun _ => hfr0,RL.hf (x:=cx (sU base β H) w' β' H') (y:=cx base w' (upd β H.length (β' b)) (H++[Slot.live bx])) rfl hown g3 hf⟩
  ·rcases key i _ hi with ⟨h1,h2⟩ | ⟨rfl,h2⟩ <;> rcases key j _ hj with ⟨h3,h4⟩ | ⟨rfl,h4⟩
   ·rw [ub i h1,ub j h3] at he'
    exact hp.inj i j b1 b2 h2 h4 he'
   ·rw [ub i h1,us] at he'
    have:=hp.lt h2
    omega
   ·rw [us,ub j h3] at he'
    have:=hp.lt h4
    omega
   ·rfl
  ·rcases key i _ hi with ⟨h1,h2⟩ | ⟨rfl,h2⟩
   ·rw [ub i h1]
    exact hp.nbase i b1 h2 hk1
   ·rw [us]
    intro hb0
    have:=hp.bsize _ hb0
    omega
  ·rcases key i _ hi with ⟨h1,h2⟩ | ⟨rfl,h2⟩
   ·obtain ⟨ents,clock,c1,c2,c3⟩:=hp.maps i es h2
    refine ⟨ents,clock,?_,c2.to (hx2.to base),by rw [ub i h1]; exact c3⟩
    rw [ub i h1,(hx'.keep _ (hp.mlt h2) (nw _)).2]
    exact c1
   ·cases h2
  ·rcases key i _ hi with ⟨h1,h2⟩ | ⟨rfl,h2⟩ <;> rcases key j _ hj with ⟨h3,h4⟩ | ⟨rfl,h4⟩
   ·rw [ub i h1,ub j h3] at he'
    exact hp.minj i j es es' h2 h4 he'
   ·cases h4
   ·cases h2
   ·rfl
  ·have hsl:∀ {off n es:Nat} {co:Option Nat} {v:Value},R (cx (sU base β H) w' β' H') (.sl b off n co es) v→R (cx base w' (upd β H.length (β' b)) (H++[Slot.live bx])) (.sl H.length off n co es) v:=by
    intro off n es co v hr
    cases hr with
    | @sl _ _ off' _ _ m _ cap hnb hn hco ho hm' hfit =>
     have e1:(cx (sU base β H) w' β' H').β b=(cx base w' (upd β H.length (β' b)) (H++[Slot.live bx])).β H.length:=us.symm
     rw [e1]
     exact .sl (x:=cx base w' (upd β H.length (β' b)) (H++[Slot.live bx])) ⟨Slot.live bx,by simp,fun e => by cases e⟩ hn hco ho (by rw [←e1]; exact hm') hfit
   cases hm with
   | c =>
    cases hr with
    | c hr => exact .c (hsl hr)
   | two hx =>
    cases hr with
    | tup hr =>
     cases hr with
     | cons r1 r2 =>
      cases r1 with
      | c r1 => exact .tup (.cons (.c (hsl r1)) (RVL.hf (x:=cx (sU base β H) w' β' H') (y:=cx base w' (upd β H.length (β' b)) (H++[Slot.live bx])) rfl hown r2 ⟨hx,trivial⟩))
theorem semH_close {f:FuncId} {args:List V} {H:Hp} {K':V→Hp→Prop} {K:V→Hp→Prop} (h:semH P f args H K')
  (hK:∀ u H',K' u H'→∃ bs d,FzVp (·=.ro) (xQ H' bs) u d∧K d (xQ H' bs)):semH P f args H K:=by
 refine ⟨h.1,fun base w β vs hp hv => (h.2 base w β vs hp hv).mono ?_⟩
 rintro e w' ⟨v,u,β',H',he,hk,hp',hx',hr⟩
 obtain ⟨bs,d,hd,hKd⟩:=hK u H' hk
 obtain ⟨hp1,hx1⟩:=HRel.closeB hp' bs
 have hv1:=RV.to (hx1.to base) hr
 have hv2:=FzVp.sound (O:=sU base β' (xQ H' bs)) hp1 (fun b bx hb hk => ?_) (fun k hk => hk) hd hv1
 ·exact ⟨v,d,β',_,he,hKd,hp1,hx'.trans hx1,RV.to (x:=cx0 (sU base β' (xQ H' bs)) w') (y:=cx base w' β' (xQ H' bs)) ⟨fun i hi => hi.elim,fun i hi => hi.elim,fun k _ hn => ⟨hn,rfl⟩,fun _ _ => rfl⟩ hv2⟩
 ·rintro (hb0 | ⟨i,bx',hi,hrw,he⟩ | ⟨i,es,hi,he⟩)
  ·exact hp1.nbase b bx hb (by rw [hk]; intro e; cases e) hb0
  ·have:=hp1.inj i b bx' bx hi hb he
   subst this
   rw [hb] at hi
   cases hi
   rw [hk] at hrw
   cases hrw
  ·exact hp1.apart hi hb he
end
end Go.Proofs.Ytokckcnfojjpjaa

namespace Go.Proofs.Ytokckcnfojjpjaa
open Go.RowKit
set_option maxRecDepth 20000
def gY (R Cc:Int) (V:List R2):Prop:=0≤R∧R≤12∧0≤Cc∧Cc≤12∧(V.length:Int)=R*Cc∧tA V
noncomputable def matE (R Cc:Int) (V:List R2):Int:=bif dec (gY R Cc V) then 0 else 1
def MatK (R Cc:Int) (W:List R2) (u:V):Prop:=u=i64 (matE R Cc W)
theorem mat_ok {R Cc:Int} {V:List R2} (h:gY R Cc V):matE R Cc V=0:=by
 unfold matE
 rw [yE.2 h]
 rfl
theorem mat_no {R Cc:Int} {V:List R2} (h:¬ gY R Cc V):matE R Cc V=1:=by
 unfold matE
 rw [yK.2 h]
 rfl
theorem MatK.no {R Cc:Int} {V:List R2} {H:Hp} (h:¬ gY R Cc V):∃ d,FzV H (i64 1) d∧MatK R Cc V d:=⟨_,.c (.hf trivial),by unfold MatK; rw [mat_no h]; rfl⟩
theorem MatK.ok {R Cc:Int} {V:List R2} {H:Hp} (h:gY R Cc V):∃ d,FzV H (i64 0) d∧MatK R Cc V d:=⟨_,.c (.hf trivial),by unfold MatK; rw [mat_ok h]; rfl⟩
theorem mul_le {R Cc:Int} (h1:0≤R) (h2:R≤12) (h3:0≤Cc) (h4:Cc≤12):0≤R*Cc∧R*Cc≤144:=by
 obtain ⟨r,rfl⟩:=Int.eq_ofNat_of_zero_le h1
 obtain ⟨c,rfl⟩:=Int.eq_ofNat_of_zero_le h3
 have:=Nat.mul_le_mul (show r≤12 by omega) (show c≤12 by omega)
 rw [←Int.natCast_mul]
 omega
attribute [local irreducible] yA semH semC qLen qNil qIad qSlc qIdx yW yI xA appX appI slcX awpF yP xH xopF xM qval lval seqQ xJ xY xU xR cnd arith IntKind.wrap
theorem mat_Validate {cV:C} {V:List R2} (R Cc:Int) (hV:Ls elP cV V) (hl:V.length<9223372036854775808):semC Try.prog n_mat_Validate [.agg [iC R,iC Cc,cV]] (MatK R Cc V):=by
 refine yD ok_mat_Validate rfl (show HFVs [.agg [iC R,iC Cc,cV]] from ⟨⟨trivial,trivial,hV.hf,trivial⟩,trivial⟩) ?_
 refine go13 ?_
 cases q1:yA Cm.lss R 0
 case true =>
  simp [yA] at q1
  refine go13 ?_
  exact MatK.no (fun h => by have:=h.1; omega)
 simp [yA] at q1
 refine go13 ?_
 cases q2:yA Cm.gtr R 12
 case true =>
  simp [yA] at q2
  refine go13 ?_
  exact MatK.no (fun h => by have:=h.2.1; omega)
 simp [yA] at q2
 refine go13 ?_
 cases q3:yA Cm.lss Cc 0
 case true =>
  simp [yA] at q3
  refine go13 ?_
  exact MatK.no (fun h => by have:=h.2.2.1; omega)
 simp [yA] at q3
 refine go13 ?_
 cases q4:yA Cm.gtr Cc 12
 case true =>
  simp [yA] at q4
  refine go13 ?_
  exact MatK.no (fun h => by have:=h.2.2.2.1; omega)
 simp [yA] at q4
 have hm:=mul_le q1 q2 q3 q4
 refine go13 ?_
 rw [show arith .mul .i64 R Cc=R*Cc by rw [ar_mul,yG (by omega) (by omega)]]
 cases q5:yA Cm.neq (V.length:Int) (R*Cc)
 case true =>
  simp [yA] at q5
  refine go13 ?_
  exact MatK.no (fun h => q5 h.2.2.2.2.1)
 simp [yA] at q5
 refine go13 ?_
 refine yB (bE hV hl) (fun u hu => ?_)
 obtain ⟨z,rfl,hz⟩:=hu
 cases z
 case false =>
  refine go13 ?_
  exact MatK.no (fun h => by cases hz.2 h.2.2.2.2.2)
 refine go13 ?_
 exact MatK.ok ⟨q1,q2,q3,q4,q5,hz.1 rfl⟩
theorem ref04_numbers {c:C} {l:List R2} (hc:Ls elP c l) (hl:l.length<9223372036854775808):semC Try.prog n_ref04_numbers [.c c] (fun u => u=i64 (bif dec (tA l) then 0 else 1)):=by
 refine yD ok_ref04_numbers rfl (show HFVs [.c c] from ⟨hc.hf,trivial⟩) ?_
 refine go13 ?_
 refine yX (fun w vs H => ∃ (i:Nat),vs=[.c c,i64 i]∧w=l.length - i∧i≤l.length∧∀ j (hj:j<l.length),j<i→wL l[j].1 l[j].2) (by rfl) ⟨0,rfl,rfl,by omega,fun j hj h => by omega⟩ ?_
 rintro w vs H ⟨i,rfl,rfl,i1,i2⟩
 refine go13 ?_
 cases hi:yA Cm.lss (i:Int) (l.length:Int)
 case false =>
  simp [yA] at hi
  have hv:tA l:=fun p hp => by
   obtain ⟨j,hj,rfl⟩:=List.getElem_of_mem hp
   exact i2 j hj (by omega)
  refine go13 ?_
  exact ⟨_,.c (.hf trivial),by rw [yE.2 hv]; rfl⟩
 simp [yA] at hi
 refine go13 ?_
 refine uX hc (i:=i) hi (by omega) rfl (fun cs hcs => ?_)
 obtain rfl:cs=ratC l[i]:=hcs
 refine go13 ?_
 refine yB (ref01_Is l[i].1 l[i].2) (fun u hu => ?_)
 obtain ⟨z,rfl,hz⟩:=hu
 cases z
 case false =>
  refine go13 ?_
  exact ⟨_,.c (.hf trivial),by rw [yK.2 (fun h => by cases hz.2 (h _ (wX hi)))]; rfl⟩
 refine go13 ?_
 rw [xL i (by omega)]
 refine l_n (by rfl) (n':=l.length - (i+1)) (by omega) ⟨i+1,rfl,rfl,by omega,fun j hj h => ?_⟩
 rcases Nat.lt_or_ge j i with h1 | h1
 ·exact i2 j hj h1
 ·have:j=i:=by omega
  subst this
  exact hz.1 rfl
theorem ref04_Validate {cV:C} {V:List R2} (R Cc:Int) (hV:Ls elP cV V) (hl:V.length<9223372036854775808):semC Try.prog n_ref04_Validate [.agg [iC R,iC Cc,cV]] (MatK R Cc V):=by
 refine yD ok_ref04_Validate rfl (show HFVs [.agg [iC R,iC Cc,cV]] from ⟨⟨trivial,trivial,hV.hf,trivial⟩,trivial⟩) ?_
 refine go13 ?_
 cases q1:yA Cm.lss R 0
 case true =>
  simp [yA] at q1
  refine go13 ?_
  exact MatK.no (fun h => by have:=h.1; omega)
 simp [yA] at q1
 refine go13 ?_
 cases q2:yA Cm.gtr R 12
 case true =>
  simp [yA] at q2
  refine go13 ?_
  exact MatK.no (fun h => by have:=h.2.1; omega)
 simp [yA] at q2
 refine go13 ?_
 cases q3:yA Cm.lss Cc 0
 case true =>
  simp [yA] at q3
  refine go13 ?_
  exact MatK.no (fun h => by have:=h.2.2.1; omega)
 simp [yA] at q3
 refine go13 ?_
 cases q4:yA Cm.gtr Cc 12
 case true =>
  simp [yA] at q4
  refine go13 ?_
  exact MatK.no (fun h => by have:=h.2.2.2.1; omega)
 simp [yA] at q4
 have hm:=mul_le q1 q2 q3 q4
 refine go13 ?_
 rw [show arith .mul .i64 R Cc=R*Cc by rw [ar_mul,yG (by omega) (by omega)]]
 cases q5:yA Cm.neq (V.length:Int) (R*Cc)
 case true =>
  simp [yA] at q5
  refine go13 ?_
  exact MatK.no (fun h => q5 h.2.2.2.2.1)
 simp [yA] at q5
 refine go13 ?_
 refine yB (ref04_numbers hV hl) (fun u hu => ?_)
 obtain rfl:=hu
 refine go13 ?_
 cases hv:dec (tA V)
 ·exact MatK.no (fun h => yK.1 hv h.2.2.2.2.2)
 ·exact MatK.ok ⟨q1,q2,q3,q4,q5,yE.1 hv⟩
end Go.Proofs.Ytokckcnfojjpjaa

namespace Go.Proofs.Ytokckcnfojjpjaa
open Go.RowKit
set_option maxRecDepth 20000
def OwnQ (y:List Rat) (u:V) (H:Hp):Prop:=∃ b cells,u=.c (.sl b 0 y.length (some y.length) 6)∧H[b]?=some (.live ⟨cells,yR,.rw⟩)∧Els (elQ 4194304) cells y
def matM (k:Nat) (v:List Rat):Mx:=fun i j => v.getD (i*k+j) 0
theorem idx_lt {i j k:Nat} (hi:i<k) (hj:j<k):i*k+j<k*k:=by
 have:i*k+k≤k*k:=by
  rw [←Nat.succ_mul]
  exact Nat.mul_le_mul_right _ hi
 omega
theorem ar_idx {i j k:Nat} (hi:i<k) (hj:j<k) (hk:k≤12):arith .add .i64 (arith .mul .i64 (i:Int) (k:Int)) (j:Int)=((i*k+j:Nat):Int):=by
 have h1:=idx_lt hi hj
 have h2:k*k≤144:=Nat.mul_le_mul hk hk
 have h3:i*k≤144:=by omega
 rw [ar_mul,show ((i:Int)*(k:Int))=((i*k:Nat):Int) by push_cast; rfl,yG (by omega) (by omega),xD,yG (by omega) (by omega)]
 push_cast
 rfl
attribute [local irreducible] yA semH semC qLen qNil qIad qSlc qIdx yW yI xA appX appI slcX awpF yP xH xopF xM qval lval seqQ xJ xY xU xR cnd arith IntKind.wrap
theorem lin_times {cy cv:C} {k n DA Dh:Nat} {y v:List Rat} {h:Rat} (hy:Ls (elQ 4194304) cy y) (hyl:y.length=k) (hv:Ls (elQ 2) cv v) (hvl:v.length=k*k) (l:pV k (matM k v) h DA Dh) (hb:CpL n y) (hn:n≤9000000) :
  semO Try.prog n_step_Linear_1 [.c cy,.c (.ipt [iC k]),.c (.ipt [cv])] (OwnQ (yQ k (matM k v) y)):=by
 refine semO_of_awpF ok_step_Linear_1 rfl (show HFVs [.c cy,.c (.ipt [iC k]),.c (.ipt [cv])] from ⟨hy.hf,⟨trivial,trivial⟩,⟨hv.hf,trivial⟩,trivial⟩) ?_
 have hk:=l.k12
 have htl:(yQ k (matM k v) y).length=k:=yN
 (refine go13 ?_; repeat (refine yC (by rfl) ?_; refine go13 ?_))
 refine vQ (by rfl) (by rfl) ⟨by omega,by omega,by omega,by omega⟩ ?_
 (refine go13 ?_; repeat (refine yC (by rfl) ?_; refine go13 ?_))
 refine goN ?_
 refine yX (fun w vs H => ∃ (i:Nat) (cells:List C),vs=[.c cy,.c (.ipt [iC k]),.c (.ipt [cv]),.c (.sl 0 0 k (some k) 6),i64 k,i64 i]∧H=[.live ⟨cells,yR,.rw⟩]∧w=k - i∧i≤k∧Fill (elQ 4194304) jR k cells ((yQ k (matM k v) y).take i)) (by rfl) ⟨0,_,rfl,rfl,rfl,by omega,.zero rfl⟩ ?_
 rintro w vs H ⟨i,cells,rfl,rfl,rfl,i1,i2⟩
 have hcl:cells.length=k*6:=i2.len
 have htk:((yQ k (matM k v) y).take i).length=i:=by rw [List.length_take]; omega
 (refine go13 ?_; repeat (refine yC (by rfl) ?_; refine go13 ?_))
 cases hi:yA Cm.lss (i:Int) (k:Int)
 case false =>
  simp [yA] at hi
  have ei:i=k:=by omega
  subst ei
  rw [uB (by omega)] at i2
  have h4:=i2.done (by omega)
  (refine go13 ?_; repeat (refine yC (by rfl) ?_; refine go13 ?_))
  exact ⟨0,cells,by rw [htl]; rfl,rfl,h4⟩
 simp [yA] at hi
 (refine go13 ?_; repeat (refine yC (by rfl) ?_; refine go13 ?_))
 refine yB (sA (g:=0) (by decide)) (fun u hu => ?_)
 obtain ⟨es,rfl,g0⟩:=hu
 obtain ⟨_,_,_,_,_,_,rfl⟩:=id g0.six
 (refine go13 ?_; repeat (refine yC (by rfl) ?_; refine go13 ?_))
 refine yX (fun w vs H => ∃ (j:Nat) (acc:List C),vs=[.c cy,.c (.ipt [iC k]),.c (.ipt [cv]),.c (.sl 0 0 k (some k) 6),i64 i,i64 k,i64 i,i64 k,i64 j]∧H=[.live ⟨splice cells (i*6) acc,yR,.rw⟩]∧w=k - j∧j≤k∧IQ 4194304 acc (sumF j (fun j => matM k v i j*y.getD j 0))) (by rfl) ⟨0,_,rfl,by rw [Nat.zero_add]; rfl,rfl,by omega,g0.up (by decide)⟩ ?_
 clear g0
 rintro w vs H ⟨j,acc,rfl,rfl,rfl,j1,j2⟩
 obtain ⟨a0,a1,a2,a3,a4,a5,rfl⟩:=id j2.six
 (refine go13 ?_; repeat (refine yC (by rfl) ?_; refine go13 ?_))
 cases hj:yA Cm.lss (j:Int) (k:Int)
 case false =>
  simp [yA] at hj
  have ej:j=k:=by omega
  subst ej
  (refine go13 ?_; repeat (refine yC (by rfl) ?_; refine go13 ?_))
  rw [xL i (by omega)]
  have h4:=i2.put (cs:=[a0,a1,a2,a3,a4,a5]) (a:=(yQ j (matM j v) y)[i]'(by rw [htl]; exact hi)) (by rw [htk]; exact hi) (by rw [sY hi]; exact j2)
  rw [htk] at h4
  refine l_n (by rfl) (n':=j - (i+1)) (by omega) ⟨i+1,_,rfl,rfl,rfl,by omega,?_⟩
  rw [wA (by rw [htl]; exact hi)]
  exact h4
 simp [yA] at hj
 have hix:=idx_lt hi hj
 (refine go13 ?_; repeat (refine yC (by rfl) ?_; refine go13 ?_))
 refine ld_splice (cells:=cells) (off:=i*6) (cs:=[a0,a1,a2,a3,a4,a5]) (by rfl) (by rfl) (by omega) (by omega) ?_
 (refine go13 ?_; repeat (refine yC (by rfl) ?_; refine go13 ?_))
 rw [ar_idx hi hj hk]
 (refine go13 ?_; repeat (refine yC (by rfl) ?_; refine go13 ?_))
 refine uX hv (i:=i*k+j) (by omega) (by omega) rfl (fun e1 he1 => ?_)
 have he1:IQ 2 e1 (matM k v i j):=by
  unfold matM
  rw [show v.getD (i*k+j) 0=v[i*k+j]'(by omega) by simp [List.getD,show i*k+j<v.length by omega]]
  exact he1
 (refine go13 ?_; repeat (refine yC (by rfl) ?_; refine go13 ?_))
 refine uX hy (i:=j) (by omega) (by omega) rfl (fun e2 he2 => ?_)
 have he2:IQ 4194304 e2 (y.getD j 0):=by
  rw [show y.getD j 0=y[j]'(by omega) by simp [List.getD,show j<y.length by omega]]
  exact he2
 (refine go13 ?_; repeat (refine yC (by rfl) ?_; refine go13 ?_))
 refine yS (sG he1 he2 (by decide)) (fun u hu => ?_)
 obtain ⟨e3,rfl,he3⟩:=hu
 (refine go13 ?_; repeat (refine yC (by rfl) ?_; refine go13 ?_))
 refine yB (pR j2 he3 (by decide)) (fun u hu => ?_)
 obtain ⟨e4,rfl,he4⟩:=hu
 have he4:IQ _ e4 (sumF (j+1) (fun j => matM k v i j*y.getD j 0)):=he4
 have he4:=he4.tightS (times_bd (K:=4194304) l hb hi (show j+1≤k by omega) (by omega))
 obtain ⟨_,_,_,_,_,_,rfl⟩:=id he4.six
 (refine go13 ?_; repeat (refine yC (by rfl) ?_; refine go13 ?_))
 refine xC (cs:=splice cells (i*6) [a0,a1,a2,a3,a4,a5]) (by rfl) (by rfl) (by rfl) (by rw [pK (by simp only [List.length_cons,List.length_nil]; omega)]; omega) ?_
 (refine go13 ?_; repeat (refine yC (by rfl) ?_; refine go13 ?_))
 rw [xL j (by omega)]
 refine l_n (by rfl) (n':=k - (j+1)) (by omega) ⟨j+1,_,rfl,by rw [Nat.zero_add,Int.toNat_natCast,nF (by omega) (by rfl)]; rfl,rfl,by omega,he4⟩
end Go.Proofs.Ytokckcnfojjpjaa

namespace Go.Proofs.Ytokckcnfojjpjaa
open Go.RowKit
set_option maxRecDepth 20000
theorem gD {j:Nat} {H:Hp}:∀ {bs:List Nat},(∀ b∈bs,b≠j)→(xQ H bs)[j]?=H[j]?
 | [],_ => rfl
 | b :: r,h => by
  have ih:=gD (j:=j) (H:=H) (bs:=r) (fun x hx => h x (by simp [hx]))
  have hb:=h b (by simp)
  unfold xQ
  split
  ·split
   ·rw [List.getElem?_set_ne hb,ih]
   ·exact ih
  ·exact ih
theorem pP {j:Nat} {H:Hp} {cs:List C} {el:TypeId} {kd:BK} (hj:H[j]?=some (.live ⟨cs,el,kd⟩)) (hk:kd=.rw∨kd=.ro):∀ (bs:List Nat),∃ kd',(xQ H bs)[j]?=some (.live ⟨cs,el,kd'⟩)∧(kd'=.rw∨kd'=.ro)∧(j∈bs→kd'=.ro)
 | [] => ⟨kd,hj,hk,fun h => by cases h⟩
 | b :: r => by
  obtain ⟨k',h1,h2,h3⟩:=pP hj hk r
  by_cases e:b=j
  ·subst e
   unfold xQ
   rw [h1]
   rcases h2 with rfl | rfl
   ·exact ⟨.ro,List.getElem?_set_self (lt_of_getElem? h1),.inr rfl,fun _ => rfl⟩
   ·exact ⟨.ro,h1,.inr rfl,fun _ => rfl⟩
  ·refine ⟨k',?_,h2,fun h => h3 (by
    rcases List.mem_cons.1 h with h | h
    ·exact absurd h.symm e
    ·exact h)⟩
   unfold xQ
   split
   ·split
    ·rw [List.getElem?_set_ne e]
     exact h1
    ·exact h1
   ·exact h1
def BxA (m:Nat) (H:Hp) (c:C) (l:List Rat):Prop:=Ls (elQ 4194304) c l∨∃ b cs kd,m≤b∧c=.sl b 0 l.length (some l.length) 6∧H[b]?=some (.live ⟨cs,yR,kd⟩)∧(kd=.rw∨kd=.ro)∧Els (elQ 4194304) cs l
theorem BxA.closed {m:Nat} {H:Hp} {c:C} {l:List Rat} (h:BxA m H c l):∃ (bs:List Nat) (d:C),(∀ b∈bs,m≤b)∧Ls (elQ 4194304) d l∧∀ bs':List Nat,(∀ b∈bs,b∈bs')→Fz (·=.ro) (xQ H bs') c d:=by
 rcases h with h | ⟨b,cs,kd,h1,rfl,h2,h3,h4⟩
 ·exact ⟨[],c,fun b hb => by simp at hb,h,fun _ _ => .hf h.hf⟩
 ·refine ⟨[b],_,fun x hx => by simp at hx; omega,.imm h4,fun bs' hs => ?_⟩
  obtain ⟨k',k1,k2,k3⟩:=pP h2 h3 bs'
  obtain rfl:=k3 (hs b (by simp))
  have h5:=h4.len
  have h5:cs.length=l.length*6:=h5
  exact .sl (bx:=⟨cs,yR,.ro⟩) k1 rfl (by simp) (by rw [List.drop_zero,List.take_of_length_le (by simp only; omega)]; exact .hf h4.hf)
theorem BxA.fz {m:Nat} {H:Hp} {c:C} {l:List Rat} (h:BxA m H c l):∃ d,Fz (·≠.bor) H c d∧Ls (elQ 4194304) d l:=by
 rcases h with h | ⟨b,cs,kd,h1,rfl,h2,h3,h4⟩
 ·exact ⟨c,.hf h.hf,h⟩
 ·have h5:=h4.len
  have h5:cs.length=l.length*6:=h5
  have hk:kd≠.bor:=by rcases h3 with rfl | rfl <;> simp
  exact ⟨_,.sl (bx:=⟨cs,yR,kd⟩) h2 hk hk (by rw [List.drop_zero,List.take_of_length_le (by simp only; omega)]; exact .hf h4.hf),.imm h4⟩
theorem BxA.len {m:Nat} {H:Hp} {c:C} {l:List Rat} (h:BxA m H c l):slLen c=some l.length:=by
 rcases h with h | ⟨b,cs,kd,h1,rfl,h2,h3,h4⟩
 ·cases h <;> rfl
 ·rfl
theorem BxA.grow {m:Nat} {H X:Hp} {c:C} {l:List Rat} (h:BxA m H c l):BxA m (H++X) c l:=by
 rcases h with h | ⟨b,cs,kd,h1,rfl,h2,h3,h4⟩
 ·exact .inl h
 ·exact .inr ⟨b,cs,kd,h1,rfl,by rw [List.getElem?_append_left (lt_of_getElem? h2)]; exact h2,h3,h4⟩
theorem nil_repQ (n:Nat):(List.replicate ((n:Int).toNat) [C.nilSl]).flatten=List.replicate n C.nilSl:=by
 rw [Int.toNat_natCast]
 induction n with
 | zero => rfl
 | succ n ih => rw [List.replicate_succ,List.flatten_cons,ih]; rfl
theorem solve_lenQ {n:Nat} {M:Mx} {y:List Rat} (hs:qV n M=some y):y.length=n:=by
 unfold qV at hs
 cases hg2:wK n M n with
 | none => rw [hg2] at hs; cases hs
 | some R =>
  rw [hg2] at hs
  simp at hs
  subst hs
  simp
theorem scl_set {t:List Rat} {h:Rat} {i:Nat} (hi:i<t.length):((t.take i).map (·*h)++t.drop i).set i (t[i]*h)=(t.take (i+1)).map (·*h)++t.drop (i+1):=by
 have h1:((t.take i).map (·*h)).length=i:=by simp; omega
 rw [List.set_append_right _ _ (by omega),h1,Nat.sub_self,wA hi,List.map_append,List.append_assoc]
 congr 1
 rw [List.drop_eq_getElem_cons hi]
 rfl
theorem scl_get {t:List Rat} {h:Rat} {i:Nat} (hi:i<t.length):((t.take i).map (·*h)++t.drop i)[i]'(by simp; omega)=t[i]:=by
 rw [List.getElem_append_right (by simp; omega)]
 simp [Nat.min_eq_left (Nat.le_of_lt hi)]
theorem ldQ_els {k b i:Nat} {cells:List C} {el:TypeId} {kd:BK} {l:List Rat} {H:Hp} {off:Nat} {Q:V→Prop} (hb:H[b]?=some (.live ⟨cells,el,kd⟩)) (hE:Els (elQ k) cells l) (hi:i<l.length) (ho:off=i*6) (q:∀ cs,IQ k cs l[i]→Q (.agg cs)):yW H[b]? true 6 off Q:=by
 subst ho
 have hl:=hE.len
 have hl:cells.length=l.length*6:=hl
 obtain ⟨cs,r,h1,h2⟩:=hE.get hi
 have h2:cells.drop (i*6)=cs++r:=h2
 refine yM hb (Nat.ble_eq_true_of_le (by simp only; omega)) ?_
 have hcl:cs.length=6:=(elQ k).len h1
 rw [h2,List.take_append_of_le_length (by omega),List.take_of_length_le (by omega)]
 exact q cs h1
theorem times_own {cy dy cv:C} {k n DA Dh:Nat} {y v:List Rat} {h:Rat} (hy:Ls (elQ 4194304) dy y) (hyl:y.length=k) (hv:Ls (elQ 2) cv v) (hvl:v.length=k*k) (l:pV k (matM k v) h DA Dh) (hb:CpL n y) (hn:n≤9000000) {H:Hp} {K:V→Hp→Prop} (hz:Fz (·=.ro) H cy dy)
  (q:∀ cells,Els (elQ 4194304) cells (yQ k (matM k v) y)→K (.c (.sl H.length 0 k (some k) 6)) (H++[.live ⟨cells,yR,.rw⟩])):semH Try.prog n_step_Linear_1 [.c cy,.c (.ipt [iC k]),.c (.ipt [cv])] H K :=
 semH_of_semO_ro (.cons (.c hz) (.cons (.c (.hf ⟨trivial,trivial⟩)) (.cons (.c (.hf ⟨hv.hf,trivial⟩)) .nil))) (lin_times hy hyl hv hvl l hb hn) (fun u H' hu => .inr (by
  obtain ⟨b,cells,rfl,hb,hE⟩:=hu
  refine ⟨b,_,_,hb,rfl,hE.hf,.c,?_⟩
  rw [yN]
  exact q cells hE))
attribute [local irreducible] yA semH semC qLen qNil qIad qSlc qIdx yW yI xA appX appI slcX awpF yP xH xopF xM qval lval seqQ xJ xY xU xR cnd arith IntKind.wrap
theorem step_apply {cp cy cv:C} {ch:List C} {k n DA Dh:Nat} {p y v:List Rat} {h:Rat} (hcp:Ls (elQ 1) cp p) (hp:PolOk p) (hpc:∀ i,CpL 6 [p.getD i 0]) (hy:Ls (elQ 4194304) cy y) (hyl:y.length=k) (hv:Ls (elQ 2) cv v) (hvl:v.length=k*k) (hh:IQ 4 ch h) (l:pV k (matM k v) h DA Dh) (hb:CpL n y) (hn:n≤8000000) :
  semC Try.prog n_step_apply [.c cp,.c cy,.c (.fn n_step_Linear_1 [.ipt [iC k],.ipt [cv]]),.agg ch] (LsK (elQ 4194304) (tC k (matM k v) h p y)):=by
 refine yD ok_step_apply rfl (show HFVs [.c cp,.c cy,.c (.fn n_step_Linear_1 [.ipt [iC k],.ipt [cv]]),.agg ch] from ⟨hcp.hf,hy.hf,⟨⟨trivial,trivial⟩,⟨hv.hf,trivial⟩,trivial⟩,hh.hf,trivial⟩) ?_
 have hk:=l.k12
 have hp5:=hp.1
 obtain ⟨h0,h1,h2,h3,h4,h5,rfl⟩:=id hh.six
 have hzl:(xT k).length=k:=by simp [xT]
 (refine go13 ?_; repeat (refine yC (by rfl) ?_; refine go13 ?_))
 rw [hyl]
 refine vQ (by rfl) (by rfl) ⟨by omega,by omega,by omega,by omega⟩ ?_
 (refine go13 ?_; repeat (refine yC (by rfl) ?_; refine go13 ?_))
 refine goN ?_
 refine yX (fun w vs H => ∃ (i:Nat) (cells:List C),vs=[.c cp,.c cy,.c (.fn n_step_Linear_1 [.ipt [iC k],.ipt [cv]]),.c (.ptr 0 0),.c (.sl 1 0 k (some k) 6),i64 k,i64 i]∧H=[.live ⟨[h0,h1,h2,h3,h4,h5],yR,.rw⟩,.live ⟨cells,yR,.rw⟩]∧w=k - i∧i≤k∧Fill (elQ 4194304) jR k cells ((xT k).take i)) (by rfl) ⟨0,_,rfl,rfl,rfl,by omega,.zero rfl⟩ ?_
 rintro w vs H ⟨i,cells,rfl,rfl,rfl,i1,i2⟩
 have hcl:cells.length=k*6:=i2.len
 have htl:((xT k).take i).length=i:=by rw [List.length_take,hzl]; omega
 (refine go13 ?_; repeat (refine yC (by rfl) ?_; refine go13 ?_))
 cases hi:yA Cm.lss (i:Int) (k:Int)
 case true =>
  simp [yA] at hi
  (refine go13 ?_; repeat (refine yC (by rfl) ?_; refine go13 ?_))
  refine yB (sA (g:=0) (by decide)) (fun u hu => ?_)
  obtain ⟨es,rfl,g0⟩:=hu
  have g0:IQ 4194304 es 0:=g0.up (by decide)
  obtain ⟨_,_,_,_,_,_,rfl⟩:=id g0.six
  (refine go13 ?_; repeat (refine yC (by rfl) ?_; refine go13 ?_))
  rw [xL i (by omega)]
  have h4:=i2.put (cs:=_) (a:=(0:Rat)) (by rw [htl]; exact hi) g0
  rw [htl] at h4
  refine l_n (by rfl) (n':=k - (i+1)) (by omega) ⟨i+1,_,rfl,by rw [Nat.zero_add,Int.toNat_natCast]; rfl,rfl,by omega,?_⟩
  rw [wA (by rw [hzl]; exact hi),show (xT k)[i]'(by omega)=0 by simp [xT]]
  exact h4
 simp [yA] at hi
 have ei:i=k:=by omega
 subst ei
 rw [uB (by omega)] at i2
 have hz:=i2.done hzl
 clear i1 i2 htl
 (refine go13 ?_; repeat (refine yC (by rfl) ?_; refine go13 ?_))
 refine yX (fun w vs H => ∃ (j:Nat) (co cz:C),vs=[.c (.fn n_step_Linear_1 [.ipt [iC i],.ipt [cv]]),.c (.ptr 0 0),.c co,.c cz,.c cp,i64 p.length,i64 j]∧w=p.length - j∧j≤p.length∧H[0]?=some (.live ⟨[h0,h1,h2,h3,h4,h5],yR,.rw⟩)∧BxA 1 H co (serV i (matM i v) h p y j)∧BxA 1 H cz (zV i (matM i v) h y j)) (by rfl) ⟨0,_,cy,rfl,rfl,by omega,rfl,.inr ⟨1,cells,.rw,Nat.le_refl _,by simp [serV,xT],rfl,.inl rfl,hz⟩,.inl hy⟩ ?_
 clear hz hcl
 rintro w vs H ⟨j,co,cz,rfl,rfl,j1,hH,ho,hcz⟩
 (refine go13 ?_; repeat (refine yC (by rfl) ?_; refine go13 ?_))
 cases hj:yA Cm.lss (j:Int) (p.length:Int)
 case false =>
  simp [yA] at hj
  have ej:j=p.length:=by omega
  subst ej
  obtain ⟨d,f1,l1⟩:=ho.fz
  (refine go13 ?_; repeat (refine yC (by rfl) ?_; refine go13 ?_))
  exact ⟨_,.c f1,_,rfl,l1⟩
 simp [yA] at hj
 (refine go13 ?_; repeat (refine yC (by rfl) ?_; refine go13 ?_))
 refine uX hcp (i:=j) hj (by omega) rfl (fun e1 he1 => ?_)
 obtain ⟨c0,c1,c2,c3,c4,c5,rfl⟩:=id he1.six
 have he1:IQ 1 [c0,c1,c2,c3,c4,c5] (p.getD j 0):=by
  rw [show p.getD j 0=p[j] by simp [List.getD,hj]]
  exact he1
 (refine go13 ?_; repeat (refine yC (by rfl) ?_; refine go13 ?_))
 try refine goN ?_
 have hHl:=lt_of_getElem? hH
 have ho':=ho.grow (X:=[.live ⟨[c0,c1,c2,c3,c4,c5],yR,.rw⟩])
 have hz':=hcz.grow (X:=[.live ⟨[c0,c1,c2,c3,c4,c5],yR,.rw⟩])
 have hH':(H++[Slot.live ⟨[c0,c1,c2,c3,c4,c5],yR,.rw⟩])[0]?=some (.live ⟨[h0,h1,h2,h3,h4,h5],yR,.rw⟩):=by rw [List.getElem?_append_left hHl]; exact hH
 obtain ⟨bs1,d1,w1,lo,f1⟩:=ho'.closed
 obtain ⟨bs2,d2,w2,lz,f2⟩:=hz'.closed
 have f1:=f1 (bs1++bs2) (fun b hb => List.mem_append.2 (.inl hb))
 have f2:=f2 (bs1++bs2) (fun b hb => List.mem_append.2 (.inr hb))
 have hH2:(xQ (H++[Slot.live ⟨[c0,c1,c2,c3,c4,c5],yR,.rw⟩]) (bs1++bs2))[0]?=some (.live ⟨[h0,h1,h2,h3,h4,h5],yR,.rw⟩):=by
  rw [gD (fun b hb => by
   rcases List.mem_append.1 hb with hb | hb
   ·have:=w1 b hb; omega
   ·have:=w2 b hb; omega)]
  exact hH'
 have cser:=ser_cpl l hb hyl hp (i:=j+1) (by omega)
 have cz0:=z_cpl l hb (i:=j) (by omega)
 have cz1:=z_cpl l hb (i:=j+1) (by omega)
 have nz:=z_len (a:=matM i v) (h:=h) hyl j
 have nser:=gA (a:=matM i v) (h:=h) (p:=p) hyl j
 refine xK (bs1++bs2) (.cons (.c f1) (.cons (.agg (.hf he1.hf)) (.cons (.c f2) .nil))) (nE lo (he1.up (by decide)) lz (by rw [nz,nser]) (by omega) (show CpL (n+24000) (yO (serV i (matM i v) h p y j) (p.getD j 0) (zV i (matM i v) h y j)) from cser) (by omega)) (fun u hu => ?_)
 obtain ⟨c6,rfl,l6⟩:=hu
 generalize xQ (H++[Slot.live ⟨[c0,c1,c2,c3,c4,c5],yR,.rw⟩]) (bs1++bs2)=H2 at f1 f2 hH2 ⊢
 have hH2l:=lt_of_getElem? hH2
 (refine go13 ?_; repeat (refine yC (by rfl) ?_; refine go13 ?_))
 refine bX (by rfl) (by rfl) (times_own lz nz hv hvl l cz0 (by omega) f2 (fun cells2 hE2 => ?_))
 obtain ⟨t,ht⟩:∃ t,t=yQ i (matM i v) (zV i (matM i v) h y j):=⟨_,rfl⟩
 have htl2:t.length=i:=by rw [ht,yN]
 rw [←ht] at hE2
 have hzs:zV i (matM i v) h y (j+1)=xV h t:=by rw [zV,ht]
 rw [hzs] at cz1
 (refine go13 ?_; repeat (refine yC (by rfl) ?_; refine go13 ?_))
 refine yX (fun w vs H => ∃ (r:Nat) (cells:List C),vs=[.c (.fn n_step_Linear_1 [.ipt [iC i],.ipt [cv]]),.c (.ptr 0 0),.c c6,.c (.sl H2.length 0 i (some i) 6),.c cp,i64 p.length,i64 j,i64 i,i64 r]∧H=H2++[.live ⟨cells,yR,.rw⟩]∧w=i - r∧r≤i∧Els (elQ 4194304) cells ((t.take r).map (·*h)++t.drop r)) (by rfl) ⟨0,cells2,rfl,rfl,rfl,by omega,by simpa using hE2⟩ ?_
 rintro w vs H3 ⟨r,cells3,rfl,rfl,rfl,r1,hE⟩
 have hLl:((t.take r).map (·*h)++t.drop r).length=i:=by simp; omega
 have hcl:=hE.len
 rw [hLl] at hcl
 have hcl:cells3.length=i*6:=hcl
 (refine go13 ?_; repeat (refine yC (by rfl) ?_; refine go13 ?_))
 cases hr:yA Cm.lss (r:Int) (i:Int)
 case false =>
  simp [yA] at hr
  have er:r=i:=by omega
  subst er
  rw [uB (by omega),List.drop_of_length_le (by omega),List.append_nil] at hE
  (refine go13 ?_; repeat (refine yC (by rfl) ?_; refine go13 ?_))
  rw [xL j (by omega)]
  refine l_n (by rfl) (n':=p.length - (j+1)) (by omega) ⟨j+1,c6,_,rfl,rfl,by omega,by rw [List.getElem?_append_left hH2l]; exact hH2,.inl l6,.inr ⟨H2.length,cells3,.rw,by omega,?_,yJ _ _,.inl rfl,?_⟩⟩
  ·rw [z_len hyl]
  ·rw [hzs]
   exact hE
 simp [yA] at hr
 (refine go13 ?_; repeat (refine yC (by rfl) ?_; refine go13 ?_))
 refine ldQ_els (yJ _ _) hE (i:=r) (by rw [hLl]; exact hr) (by omega) (fun e2 he2 => ?_)
 rw [scl_get (by omega)] at he2
 (refine go13 ?_; repeat (refine yC (by rfl) ?_; refine go13 ?_))
 refine yM (by rw [List.getElem?_append_left hH2l]; exact hH2) (by rfl) ?_
 (refine go13 ?_; repeat (refine yC (by rfl) ?_; refine go13 ?_))
 refine yB (sG he2 hh (by decide)) (fun u hu => ?_)
 obtain ⟨e3,rfl,he3⟩:=hu
 have he3:=he3.tightS (cz1.bd (k:=4194304) (by omega) (show t[r]'(by omega)*h∈xV h t from List.mem_map.2 ⟨_,List.getElem_mem (by omega),rfl⟩))
 have hset:=hE.set (i:=r) (a:=t[r]'(by omega)*h) (by rw [hLl]; exact hr) he3
 rw [scl_set (by omega)] at hset
 obtain ⟨_,_,_,_,_,_,rfl⟩:=id he3.six
 (refine go13 ?_; repeat (refine yC (by rfl) ?_; refine go13 ?_))
 refine xC (yJ _ _) (by rfl) (by rfl) (by omega) ?_
 rw [gP]
 (refine go13 ?_; repeat (refine yC (by rfl) ?_; refine go13 ?_))
 rw [xL r (by omega)]
 refine l_n (by rfl) (n':=i - (r+1)) (by omega) ⟨r+1,_,rfl,rfl,rfl,by omega,?_⟩
 rw [show 0+(r:Int).toNat*6=r*6 by omega]
 exact hset
end Go.Proofs.Ytokckcnfojjpjaa

namespace Go.Proofs.Ytokckcnfojjpjaa
open Go.RowKit
set_option maxRecDepth 20000
def byV (m:Int) (h:Rat):Rat:=if m=4 then h else h*vG
noncomputable def vR (m:Int) (k:Nat) (a:Mx) (h:Rat) (y:List Rat):Option (List Rat) :=
 bif dec (m=4∨m=5) then qV k (linM k a (byV m h) (tC k a h (vF m).1 y)) else some (tC k a h (vF m).1 y)
theorem cap24_1:Cap 24 1 oneQ:=by
 have:oneQ=1:=rfl
 rw [this]
 exact Cap.one
theorem cap24_f {a b:Int} (z:Int) (hz:fr a b*((24:Nat):Rat)=(z:Rat)) (hb:z.natAbs≤1*24):Cap 24 1 (fr a b):=⟨z,hz,hb⟩
theorem pol_ok (m:Int):PolOk (vF m).1:=by
 have f2:Cap 24 1 (fr 1 2):=cap24_f 12 (by decide +kernel) (by decide)
 have f6:Cap 24 1 (fr 1 6):=cap24_f 4 (by decide +kernel) (by decide)
 have f24:Cap 24 1 (fr 1 24):=cap24_f 1 (by decide +kernel) (by decide)
 unfold vF
 split
 ·exact ⟨by simp,fun c hc => by simp at hc; subst hc; exact cap24_1⟩
 ·split
  ·exact ⟨by simp,fun c hc => by simp at hc; rcases hc with rfl | rfl <;> first | exact cap24_1 | exact f2⟩
  ·split
   ·exact ⟨by simp,fun c hc => by simp at hc; rcases hc with rfl | rfl | rfl | rfl <;> first | exact cap24_1 | exact f2 | exact f6 | exact f24⟩
   ·split
    ·exact ⟨by simp,fun c hc => by simp at hc; subst hc; exact cap24_1⟩
    ·exact ⟨by simp,fun c hc => by simp at hc; rcases hc with rfl | rfl <;> first | exact cap24_1 | exact f2⟩
theorem pol_cpl (m:Int) (i:Nat):CpL 6 [(vF m).1.getD i 0]:=by
 refine ⟨24,by decide,by decide,fun q hq => ?_⟩
 simp at hq
 subst hq
 have hp:=(pol_ok m).2
 by_cases hi:i<(vF m).1.length
 ·have:=hp _ (List.getElem_mem hi)
  rw [show (vF m).1[i]?.getD 0=(vF m).1[i] by simp [hi]]
  exact this.mono (by decide)
 ·rw [show (vF m).1[i]?.getD 0=0 by simp [hi]]
  exact Cap.zero
section
variable {k DA Dh:Nat} {a:Mx} {h:Rat} {m:Int}
theorem by_cap (l:pV k a h DA Dh):Cap (2*Dh) (2 ^ 40) (byV m h):=by
 unfold byV
 split
 ·exact l.ch.dvd ⟨2,Nat.mul_comm _ _⟩
 ·have h2:Cap 2 1 vG:=⟨1,by decide +kernel,by decide⟩
  have:=l.ch.mul h2
  rw [Nat.mul_comm Dh 2,Nat.mul_one] at this
  exact this
theorem linStep_cpl {n:Nat} {y z:List Rat} (l:pV k a h DA Dh) (hy:CpL n y) (hl:y.length=k) (hs:vR m k a h y=some z):CpL (n+121000) z∧z.length=k:=by
 have hp:=pol_ok m
 have c1:CpL (n+24000) (tC k a h (vF m).1 y):=ser_cpl l hy hl hp (Nat.le_refl _)
 unfold vR at hs
 cases hd:dec (m=4∨m=5)
 ·rw [hd] at hs
  cases hs
  exact ⟨c1.mono (by omega),gA hl _⟩
 ·rw [hd] at hs
  exact ⟨(lin_sol l (by_cap l) c1 hs).mono (by omega),solve_lenQ hs⟩
end
section
variable {K o:Nat} {bx:Nat→Nat} {ds:Nat→List C} {H:Hp} {r m w:Nat} {P:Nat→Nat→Prop} {M M':Mx}
theorem MtP.congr (h:MtP K o bx ds H r m w P M) (e:∀ i j,P i j→M i j=M' i j):MtP K o bx ds H r m w P M' :=
 ⟨h.T,h.le,h.ne,h.row,h.len,fun i j hi hj p => by rw [←e i j p]; exact h.at_ i j hi hj p,h.inj⟩
theorem MtP.ldE {off i j:Nat} {Q:V→Prop} (h:MtP K o bx ds H r m w P M) (hi:i<r) (hj:j<w) (hp:P i j) (ho:off=j*6) (k:∀ cs,IQ K cs (M i j)→Q (.agg cs)):yW H[bx i]? true 6 off Q:=by
 subst ho
 have hl:=h.len i hi
 exact yM (h.row i hi) (Nat.ble_eq_true_of_le (by simp only; omega)) (k _ (h.at_ i j hi hj hp))
end
attribute [local irreducible] yA semH semC qLen qNil qIad qSlc qIdx yW yI xA appX appI slcX awpF yP xH xopF xM qval lval seqQ xJ xY xU xR cnd arith IntKind.wrap
theorem lin_do {cy cv:C} {ch:List C} {k n DA Dh:Nat} {y v:List Rat} {h:Rat} {m:Int} (h0:0≤m) (h5:m≤5) (hy:Ls (elQ 4194304) cy y) (hyl:y.length=k) (hv:Ls (elQ 2) cv v) (hvl:v.length=k*k) (hh:IQ 4 ch h) (l:pV k (matM k v) h DA Dh) (hb:CpL n y) (hn:n≤8000000) :
  semC Try.prog n_step_Linear_2 [i64 m,.c cy,.c (.ipt [.fn n_step_Linear_1 [.ipt [iC k],.ipt [cv]]]),.c (.ipt ch),.c (.ipt [iC k]),.c (.ipt [cv])] (OneK (vR m k (matM k v) h y)):=by
 refine yD ok_step_Linear_2 rfl (show HFVs [i64 m,.c cy,.c (.ipt [.fn n_step_Linear_1 [.ipt [iC k],.ipt [cv]]]),.c (.ipt ch),.c (.ipt [iC k]),.c (.ipt [cv])] from ⟨trivial,hy.hf,⟨⟨⟨trivial,trivial⟩,⟨hv.hf,trivial⟩,trivial⟩,trivial⟩,hh.hf,⟨trivial,trivial⟩,⟨hv.hf,trivial⟩,trivial⟩) ?_
 have hk:=l.k12
 obtain ⟨b0,b1,b2,b3,b4,b5,rfl⟩:=id hh.six
 have hp:=pol_ok m
 have c1:CpL (n+24000) (tC k (matM k v) h (vF m).1 y):=ser_cpl l hb hyl hp (Nat.le_refl _)
 have hsl:(tC k (matM k v) h (vF m).1 y).length=k:=gA hyl _
 (refine go13 ?_; repeat (refine yC (by rfl) ?_; refine go13 ?_))
 refine yB (step_growth m) (fun u hu => ?_)
 obtain ⟨cp,cq,rfl,lp,lq⟩:=hu
 (refine go13 ?_; repeat (refine yC (by rfl) ?_; refine go13 ?_))
 refine yB (step_apply lp hp (pol_cpl m) hy hyl hv hvl hh l hb hn) (fun u hu => ?_)
 obtain ⟨c3,rfl,l3⟩:=hu
 (refine go13 ?_; repeat (refine yC (by rfl) ?_; refine go13 ?_))
 cases hd:dec (m=4∨m=5)
 case false =>
  have hd:=yK.1 hd
  have hq1:(vF m).2.length=1:=by
   unfold vF
   split
   ·rfl
   ·split
    ·rfl
    ·split
     ·rfl
     ·omega
  rw [hq1,show yA Cm.eql ((1:Nat):Int) 1=true by simp [yA]]
  (refine go13 ?_; repeat (refine yC (by rfl) ?_; refine go13 ?_))
  rw [show vR m k (matM k v) h y=some (tC k (matM k v) h (vF m).1 y) by unfold vR; rw [yK.2 hd]; rfl]
  exact OneK.fz l3
 have hd:=yE.1 hd
 have hst:vR m k (matM k v) h y=qV k (linM k (matM k v) (byV m h) (tC k (matM k v) h (vF m).1 y)):=by
  unfold vR
  rw [yE.2 hd]
  rfl
 have hq2:(vF m).2.length=2:=by
  unfold vF
  rw [if_neg (by omega),if_neg (by omega),if_neg (by omega)]
  split <;> rfl
 have hqv:∀ x:Rat,(vF m).2[1]'(by omega)*h*x = -(byV m h*x):=by
  intro x
  rcases hd with rfl | rfl
  ·show ((-1:Int):Rat)*h*x = -(byV 4 h*x)
   have e:byV 4 h=h:=by simp [byV]
   have e1:((-1:Int):Rat) = -1:=rfl
   rw [e,e1]
   grind
  ·show fr (-1) 2*h*x = -(byV 5 h*x)
   have e:byV 5 h=h*fr 1 2:=by simp [byV]; rfl
   have e1:fr (-1) 2 = -fr 1 2:=by decide +kernel
   rw [e,e1]
   grind
 rw [hq2,show yA Cm.eql ((2:Nat):Int) 1=false by simp [yA]]
 rw [hst]
 obtain ⟨sv,hsv⟩:∃ s,s=tC k (matM k v) h (vF m).1 y:=⟨_,rfl⟩
 rw [←hsv] at c1 hsl l3 ⊢
 have hGB:=lin_gb l (by_cap (m:=m) l) c1 (by omega)
 obtain ⟨M,hM⟩:∃ M,M=linM k (matM k v) (byV m h) sv:=⟨_,rfl⟩
 rw [←hM] at hGB ⊢
 have hBd:∀ i j,i<k→j≤k→Bd 2097152 (rp (M i j)):=fun i j hi hj => hGB 0 M (by omega) rfl i j hi hj
 have hMlow:∀ i j,j<k→i≠j→M i j=(vF m).2[1]'(by omega)*h*matM k v i j:=fun i j hj hne => by
  rw [hM,hqv]
  unfold linM
  rw [if_pos hj,if_neg hne]
 have hMdg:∀ i,i<k→M i i=(vF m).2[1]'(by omega)*h*matM k v i i+((1:Int):Rat):=fun i hi => by
  rw [hM,hqv]
  unfold linM
  rw [if_pos hi,if_pos rfl]
  rfl
 have hMk:∀ i (hi:i<k),M i k=sv[i]'(by omega):=fun i hi => by
  rw [hM]
  unfold linM
  rw [if_neg (by omega)]
  simp [List.getD,show i<sv.length by omega]
 (refine go13 ?_; repeat (refine yC (by rfl) ?_; refine go13 ?_))
 refine vQ (by rfl) (by rfl) ⟨by omega,by omega,by omega,by omega⟩ ?_
 (refine go13 ?_; repeat (refine yC (by rfl) ?_; refine go13 ?_))
 refine goN ?_
 rw [nil_repQ]
 refine yX (fun w vs H => ∃ (i:Nat) (bx:Nat→Nat) (ds:Nat→List C),vs=[.c (.ipt [b0,b1,b2,b3,b4,b5]),.c (.ipt [iC k]),.c (.ipt [cv]),.c cq,.c c3,.c (.sl 0 0 k (some k) 1),i64 k,i64 i]∧w=k - i∧i≤k∧(∀ l,l<i→0<bx l)∧MtP 2097152 0 bx ds H i k (k+1) (fun _ _ => True) M) (by rfl) ⟨0,fun _ => 0,fun _ => [],rfl,rfl,by omega,fun l h => by omega,.start rfl⟩ ?_
 rintro w vs H ⟨i,bx',ds,rfl,rfl,i1,i2,hP⟩
 (refine go13 ?_; repeat (refine yC (by rfl) ?_; refine go13 ?_))
 cases hi:yA Cm.lss (i:Int) (k:Int)
 case false =>
  simp [yA] at hi
  have ei:i=k:=by omega
  subst ei
  have hF:=hP.full (fun i' j' h1 h2 => trivial)
  (refine go13 ?_; repeat (refine yC (by rfl) ?_; refine go13 ?_))
  refine step_gauss hF (by omega) hGB (fun v' H' hg => ?_)
  rcases hg with ⟨hs,rfl⟩ | ⟨z,b,yc,hs,rfl,hb,hE⟩
  ·(refine go13 ?_; repeat (refine yC (by rfl) ?_; refine go13 ?_))
   exact ⟨_,.tup (.cons (.c (.hf trivial)) (.cons (.c (.hf trivial)) .nil)),.inr ⟨hs,rfl⟩⟩
  ·have hyl2:=solve_lenQ hs
   have hlen:=hE.len
   have ly:=Ls.imm hE
   rw [hyl2] at ly
   (refine go13 ?_; repeat (refine yC (by rfl) ?_; refine go13 ?_))
   exact ⟨_,.tup (.cons (.c (fz_sl (bx:=⟨yc,yR,.rw⟩) (ds:=yc) hb (by simp) (by simp) (by rw [List.drop_zero,List.take_of_length_le (by simp only; rw [hlen,hyl2]; exact Nat.le_refl _)]) hE.hf)) (.cons (.c (.hf trivial)) .nil)),.inl ⟨z,_,hs,rfl,ly⟩⟩
 simp [yA] at hi
 have hpl:=lt_of_getElem? hP.T
 (refine go13 ?_; repeat (refine yC (by rfl) ?_; refine go13 ?_))
 rw [xL k (by omega)]
 refine vQ (by rfl) (by rfl) ⟨by omega,by omega,by omega,by omega⟩ ?_
 (refine go13 ?_; repeat (refine yC (by rfl) ?_; refine go13 ?_))
 have hG:=(hP.weak (Q:=fun i' _ => i'<i) (fun i' j' h1 h2 h3 => trivial)).grow (X:=[.live ⟨(List.replicate ((k+1:Nat):Int).toNat jR).flatten,yR,.rw⟩])
 refine xC hG.T (by rfl) (by rfl) (by simp; omega) ?_
 have hN:=hG.next (b:=H.length) hi (yJ _ _) (fun l hl => by have:=lt_of_getElem? (hP.row l hl); omega) (by omega) (by simp [jR]) (fun j h => by omega)
 rw [show 0+(i:Int).toNat*1=i by omega]
 have hge:∀ l,l<i+1→0<(fun l => if l=i then H.length else bx' l) l:=fun l hl => by
  simp only
  split
  ·omega
  ·exact i2 l (by omega)
 generalize (fun l => if l=i then H.length else bx' l)=bx2 at hN hge
 generalize (fun l => if l=i then (List.replicate ((k+1:Nat):Int).toNat jR).flatten else ds l)=ds2 at hN
 obtain ⟨q1,hq1⟩:∃ q,q=(vF m).2[1]'(by omega):=⟨_,rfl⟩
 rw [←hq1] at hMlow hMdg
 obtain ⟨M2,hM2⟩:∃ M2,M2=updQ M i i (q1*h*matM k v i i):=⟨_,rfl⟩
 have hM2o:∀ i' j',¬ (i'=i∧j'=i)→M i' j'=M2 i' j':=fun i' j' hne => by rw [hM2]; unfold updQ; rw [if_neg hne]
 have hM2i:∀ j,j<k→M2 i j=q1*h*matM k v i j:=fun j hj => by
  by_cases e:i=j
  ·subst e
   rw [hM2]
   unfold updQ
   rw [if_pos ⟨rfl,rfl⟩]
  ·rw [←hM2o i j (by omega),hMlow i j hj e]
 have hN2:=hN.congr (M':=M2) (fun i' j' p => hM2o i' j' (by omega))
 (refine go13 ?_; repeat (refine yC (by rfl) ?_; refine go13 ?_))
 refine yX (fun w vs H => ∃ (j:Nat) (bx:Nat→Nat) (ds:Nat→List C),vs=[.c (.ipt [b0,b1,b2,b3,b4,b5]),.c (.ipt [iC k]),.c (.ipt [cv]),.c cq,.c c3,.c (.sl 0 0 k (some k) 1),i64 i,i64 k,i64 i,i64 k,i64 j]∧w=k - j∧j≤k∧(∀ l,l<i+1→0<bx l)∧MtP 2097152 0 bx ds H (i+1) k (k+1) (fun i' j' => i'<i∨(i'=i∧j'<j)) M2) (by rfl) ⟨0,bx2,ds2,rfl,rfl,by omega,hge,hN2.weak (fun i' j' h1 h2 h3 => by omega)⟩ ?_
 clear hN hN2 hge hG hP i2 hpl bx' ds bx2 ds2
 rintro w vs H2 ⟨j,bx',ds,rfl,rfl,j1,j2,hP⟩
 (refine go13 ?_; repeat (refine yC (by rfl) ?_; refine go13 ?_))
 cases hj:yA Cm.lss (j:Int) (k:Int)
 case true =>
  simp [yA] at hj
  have hpl:=lt_of_getElem? hP.T
  have hix:=idx_lt hi hj
  (refine go13 ?_; repeat (refine yC (by rfl) ?_; refine go13 ?_))
  refine hP.ldT (i:=i) (by omega) (by omega) ?_
  (refine go13 ?_; repeat (refine yC (by rfl) ?_; refine go13 ?_))
  refine uX lq (i:=1) (by omega) (by decide) rfl (fun e0 he0 => ?_)
  rw [←hq1] at he0
  (refine go13 ?_; repeat (refine yC (by rfl) ?_; refine go13 ?_))
  rw [ar_idx hi hj hk]
  (refine go13 ?_; repeat (refine yC (by rfl) ?_; refine go13 ?_))
  refine uX hv (i:=i*k+j) (by omega) (by omega) rfl (fun e1 he1 => ?_)
  have he1:IQ 2 e1 (matM k v i j):=by
   unfold matM
   rw [show v.getD (i*k+j) 0=v[i*k+j]'(by omega) by simp [List.getD,show i*k+j<v.length by omega]]
   exact he1
  (refine go13 ?_; repeat (refine yC (by rfl) ?_; refine go13 ?_))
  refine yS (sG he0 hh (by decide)) (fun u hu => ?_)
  obtain ⟨e2,rfl,he2⟩:=hu
  (refine go13 ?_; repeat (refine yC (by rfl) ?_; refine go13 ?_))
  refine yS (sG he2 he1 (by decide)) (fun u hu => ?_)
  obtain ⟨e3,rfl,he3⟩:=hu
  rw [←hM2i j hj] at he3
  have he3:=he3.up (show _≤2097152 by decide)
  obtain ⟨_,_,_,_,_,_,rfl⟩:=id he3.six
  (refine go13 ?_; repeat (refine yC (by rfl) ?_; refine go13 ?_))
  refine hP.st (i:=i) (j:=j) (by omega) (by omega) (by omega) (by rfl) (by rfl) ?_
  have hP2:=hP.put (i:=i) (j:=j) (by omega) (by omega) he3
  (refine go13 ?_; repeat (refine yC (by rfl) ?_; refine go13 ?_))
  rw [xL j (by omega)]
  exact l_n (by rfl) (n':=k - (j+1)) (by omega) ⟨j+1,bx',_,rfl,rfl,by omega,j2,hP2.weak (fun i' j' h1 h2 h3 => by omega)⟩
 simp [yA] at hj
 have ej:j=k:=by omega
 subst ej
 have hpl:=lt_of_getElem? hP.T
 have hb4:=j2 i (by omega)
 (refine go13 ?_; repeat (refine yC (by rfl) ?_; refine go13 ?_))
 refine hP.ldT (i:=i) (by omega) (by omega) ?_
 (refine go13 ?_; repeat (refine yC (by rfl) ?_; refine go13 ?_))
 refine hP.ldT (i:=i) (by omega) (by omega) ?_
 (refine go13 ?_; repeat (refine yC (by rfl) ?_; refine go13 ?_))
 refine hP.ldE (i:=i) (j:=i) (by omega) (by omega) (.inr ⟨rfl,hi⟩) (by omega) (fun e6 he6 => ?_)
 rw [hM2i i hi] at he6
 (refine go13 ?_; repeat (refine yC (by rfl) ?_; refine go13 ?_))
 refine yS (sA (g:=1) (by decide)) (fun u hu => ?_)
 obtain ⟨e7,rfl,he7⟩:=hu
 (refine go13 ?_; repeat (refine yC (by rfl) ?_; refine go13 ?_))
 refine yS (pR he6 he7 (by decide)) (fun u hu => ?_)
 obtain ⟨e8,rfl,he8⟩:=hu
 rw [←hMdg i hi] at he8
 have he8:=he8.tightS (hBd i i hi (by omega))
 obtain ⟨_,_,_,_,_,_,rfl⟩:=id he8.six
 have hP4:=(hP.weak (Q:=fun i' j' => (i'<i∨(i'=i∧j'<j))∧¬ (i'=i∧j'=i)) (fun i' j' h1 h2 h3 => h3.1)).congr (M':=M) (fun i' j' p => (hM2o i' j' p.2).symm)
 (refine go13 ?_; repeat (refine yC (by rfl) ?_; refine go13 ?_))
 refine hP4.st (i:=i) (j:=i) (by omega) (by omega) (by omega) (by rfl) (by rfl) ?_
 have hP5:=hP4.put (i:=i) (j:=i) (by omega) (by omega) he8
 (refine go13 ?_; repeat (refine yC (by rfl) ?_; refine go13 ?_))
 refine hP5.ldT (i:=i) (by omega) (by omega) ?_
 (refine go13 ?_; repeat (refine yC (by rfl) ?_; refine go13 ?_))
 refine uX l3 (i:=i) (by omega) (by omega) rfl (fun e9 he9 => ?_)
 have he9:IQ 4194304 e9 (M i j):=by rw [hMk i hi]; exact he9
 have he9:=he9.tightS (hBd i j hi (by omega))
 obtain ⟨_,_,_,_,_,_,rfl⟩:=id he9.six
 (refine go13 ?_; repeat (refine yC (by rfl) ?_; refine go13 ?_))
 refine hP5.st (i:=i) (j:=j) (by omega) (by omega) (by omega) (by rfl) (by rfl) ?_
 have hP6:=hP5.put (i:=i) (j:=j) (by omega) (by omega) he9
 (refine go13 ?_; repeat (refine yC (by rfl) ?_; refine go13 ?_))
 rw [xL i (by omega)]
 exact l_n (by rfl) (n':=j - (i+1)) (by omega) ⟨i+1,bx',_,rfl,rfl,by omega,j2,hP6.weak (fun i' j' h1 h2 h3 => by
  by_cases e1:i'=i
  ·by_cases e2:j'=j
   ·exact .inr ⟨e1,e2⟩
   ·by_cases e3:j'=i
    ·exact .inl (.inr ⟨e1,e3⟩)
    ·exact .inl (.inl ⟨.inr ⟨e1,by omega⟩,fun h => e3 h.2⟩)
  ·exact .inl (.inl ⟨.inl (by omega),fun h => e1 h.1⟩))⟩
end Go.Proofs.Ytokckcnfojjpjaa

namespace Go.Proofs.Ytokckcnfojjpjaa
open Go.RowKit
set_option maxRecDepth 20000
set_option exponentiation.threshold 1000000
def twoV (k:Nat) (a:Mx) (h:Rat) (y z:List Rat):List Rat:=yO (yO y (h*fr 3 2) (yQ k a y)) (h*fr (-1) 2) (yQ k a z)
noncomputable def uI (m:Int) (k:Nat) (a:Mx) (h:Rat) (i:Nat) (y z:List Rat):Option (List Rat) :=
 bif dec (m=6∧0<i) then some (twoV k a h y z) else vR (if m=6 then 1 else m) k a h y
noncomputable def qQ (m:Int) (k:Nat) (a:Mx) (h:Rat) (x:List Rat):Nat→Option (List Rat × List Rat)
 | 0 => some (x,[])
 | i+1 => (qQ m k a h x i).bind fun p => (uI m k a h i p.1 p.2).map fun z => (z,p.1)
theorem linRun_none {m:Int} {k:Nat} {a:Mx} {h:Rat} {x:List Rat} {i n:Nat} (h1:qQ m k a h x i=none) (hn:i≤n):qQ m k a h x n=none:=by
 induction n with
 | zero =>
  have:i=0:=by omega
  subst this
  exact h1
 | succ n ih =>
  rcases Nat.lt_or_ge i (n+1) with h2 | h2
  ·rw [qQ,ih (by omega)]
   rfl
  ·have:i=n+1:=by omega
   subst this
   exact h1
theorem linRun_next {m:Int} {k:Nat} {a:Mx} {h:Rat} {x y z:List Rat} {i:Nat} (h1:qQ m k a h x i=some (y,z)):qQ m k a h x (i+1)=(uI m k a h i y z).map fun w => (w,y):=by
 rw [qQ,h1]
 rfl
theorem pow_dbl (n:Nat):2 ^ (n+1)=2 ^ n+2 ^ n:=by rw [Nat.pow_succ,Nat.mul_two]
section
variable {k DA Dh:Nat} {a:Mx} {h:Rat} {m:Int}
theorem two_mid {n:Nat} {y z:List Rat} (l:pV k a h DA Dh) (hy:CpL n (y++z)) (hyl:y.length=k) (hzl:z.length=k) :
  CpL (n+6000) (yO y (h*fr 3 2) (yQ k a y))∧CpL (n+6000) (twoV k a h y z++y):=by
 obtain ⟨D,d1,d2,d3⟩:=hy
 have hk:=l.k12
 have cy:CapL D (2 ^ n) y:=fun q hq => d3 q (List.mem_append.2 (.inl hq))
 have cz:CapL D (2 ^ n) z:=fun q hq => d3 q (List.mem_append.2 (.inr hq))
 have h32:Cap 2 2 (fr 3 2):=⟨3,by decide +kernel,by decide⟩
 have h12:Cap 2 2 (fr (-1) 2):=⟨-1,by decide +kernel,by decide⟩
 have e1:=l.ch.mul h32
 have e2:=l.ch.mul h12
 have hDle:Dh*2*(DA*D)≤2 ^ (n+6000):=bD (vH (e:=41+(5760+n)) rfl (by have:=l.lh; omega) (vH rfl l.lA d2)) (by omega)
 have hDp:0<Dh*2*(DA*D):=Nat.mul_pos (Nat.mul_pos l.ph (by decide)) (Nat.mul_pos l.pA d1)
 obtain ⟨X,hX⟩:∃ X,X=2 ^ (n+85):=⟨_,rfl⟩
 have hnX:2 ^ n≤X:=by rw [hX]; exact Nat.pow_le_pow_right (by decide) (by omega)
 have h86:2 ^ (n+85+1)=X+X:=by
  rw [hX]
  exact pow_dbl _
 have h87:2 ^ (n+85+1+1)=(X+X)+(X+X):=by
  rw [←h86]
  exact pow_dbl _
 have hb:2 ^ 40*2*2 ^ (n+44)=X:=by
  have q1:(2:Nat) ^ 40*2=2 ^ 41:=by decide
  have q2:(2:Nat) ^ 41*2 ^ (n+44)=2 ^ (41+(n+44)):=(Nat.pow_add 2 41 (n+44)).symm
  have q3:41+(n+44)=n+85:=by omega
  rw [q1,q2,q3,hX]
 have yd:∀ {q:Rat} {B:Nat},Cap D B q→Cap (Dh*2*(DA*D)) B q:=fun hq => hq.dvd ⟨Dh*2*DA,by rw [Nat.mul_comm (Dh*2) (DA*D),Nat.mul_comm DA D,Nat.mul_assoc,Nat.mul_comm DA (Dh*2)]⟩
 have ty:∀ i,i<k→∀ {w:List Rat},CapL D (2 ^ n) w→Cap (DA*D) (2 ^ (n+44)) (sumF k (fun j => a i j*w.getD j 0)):=fun i hi w hw => (times_part l hw hi (Nat.le_refl k)).mono (m_le (by omega) (Nat.le_refl _))
 have mid:∀ i (hi:i<k),Cap (Dh*2*(DA*D)) (2 ^ n+X) ((yO y (h*fr 3 2) (yQ k a y))[i]'(by rw [xE (by rw [yN,hyl])]; omega)):=fun i hi => by
  rw [gM (by rw [yN,hyl]) (by omega),sY hi]
  have:=e1.mul (ty i hi cy)
  rw [hb] at this
  exact (yd (cy _ (List.getElem_mem _))).add this
 have b1:2 ^ n+X≤2 ^ (n+85+1):=by rw [h86]; exact Nat.add_le_add_right hnX X
 have b2:2 ^ n+X+X≤2 ^ (n+85+1+1):=by
  rw [h87]
  generalize 2 ^ n=Y at hnX
  omega
 refine ⟨⟨_,hDp,hDle,fun q hq => ?_⟩,⟨_,hDp,hDle,fun q hq => ?_⟩⟩
 ·obtain ⟨i,hi,rfl⟩:=List.getElem_of_mem hq
  rw [xE (by rw [yN,hyl]),hyl] at hi
  exact (mid i hi).mono (bD b1 (by omega))
 ·rcases List.mem_append.1 hq with hq | hq
  ·obtain ⟨i,hi,rfl⟩:=List.getElem_of_mem hq
   unfold twoV at hi
   rw [xE (by rw [xE (by rw [yN,hyl]),yN,hyl]),xE (by rw [yN,hyl]),hyl] at hi
   have e:(twoV k a h y z)[i]'(by unfold twoV; rw [xE (by rw [xE (by rw [yN,hyl]),yN,hyl]),xE (by rw [yN,hyl]),hyl]; exact hi)=(yO y (h*fr 3 2) (yQ k a y))[i]'(by rw [xE (by rw [yN,hyl])]; omega)+h*fr (-1) 2*sumF k (fun j => a i j*z.getD j 0):=by
    unfold twoV
    rw [gM (by rw [xE (by rw [yN,hyl]),yN,hyl]) (by rw [xE (by rw [yN,hyl])]; omega),sY hi]
   have:=e2.mul (ty i hi cz)
   rw [hb] at this
   have hgoal:Cap (Dh*2*(DA*D)) (2 ^ (n+6000)) ((yO y (h*fr 3 2) (yQ k a y))[i]'(by rw [xE (by rw [yN,hyl])]; omega)+h*fr (-1) 2*sumF k (fun j => a i j*z.getD j 0)):=by
    refine ((mid i hi).add this).mono ?_
    exact bD b2 (by omega)
   rw [←e] at hgoal
   exact hgoal
  ·exact (yd (cy q hq)).mono (Nat.pow_le_pow_right (by decide) (by omega))
theorem two_len {y z:List Rat} (hyl:y.length=k):(twoV k a h y z).length=k:=by
 unfold twoV
 rw [xE (by rw [xE (by rw [yN,hyl]),yN,hyl]),xE (by rw [yN,hyl]),hyl]
structure LinAt (k:Nat) (m:Int) (i:Nat) (y z:List Rat):Prop where
 ly:y.length=k
 lz:0<i→z.length=k
 cy:CpL (1000+130000*i) y
 cz:m=6→0<i→CpL (1000+130000*i) (y++z)
theorem linAt_next {i:Nat} {y z w:List Rat} (l:pV k a h DA Dh) (hA:LinAt k m i y z) (hw:uI m k a h i y z=some w):LinAt k m (i+1) w y:=by
 unfold uI at hw
 cases hd:dec (m=6∧0<i)
 ·rw [hd] at hw
  have hw:vR (if m=6 then 1 else m) k a h y=some w:=hw
  obtain ⟨c1,c2⟩:=linStep_cpl l hA.cy hA.ly hw
  refine ⟨c2,fun _ => hA.ly,c1.mono (by omega),fun hm _ => ?_⟩
  have hi0:i=0:=by
   have:=yK.1 hd
   omega
  subst hi0
  exact (c1.append hA.cy).mono (by omega)
 ·rw [hd] at hw
  cases hw
  obtain ⟨d1,d2⟩:=yE.1 hd
  have h2:=(two_mid l (hA.cz d1 d2) hA.ly (hA.lz d2)).2
  exact ⟨two_len hA.ly,fun _ => hA.ly,(h2.sub fun q hq => List.mem_append.2 (.inl hq)).mono (by omega),fun _ _ => h2.mono (by omega)⟩
end
noncomputable def linE (m R Cc:Int) (V x:List R2) (h:R2) (n:Int):Int :=
 bif dec (gY R Cc V) then bif dec (¬ tA x∨¬ wL h.1 h.2∨m<0∨6<m∨h.1≤0∨n<0∨60<n) then 1 else bif dec (R≠Cc∨(x.length:Int)≠R) then 8 else 0 else 1
theorem lin_in {R:Int} {V:List R2} {h:R2} {k:Nat} (hm:gY R R V) (hR:R=(k:Int)) (hh:wL h.1 h.2):∃ DA Dh,pV k (matM k (V.map rt)) (rt h) DA Dh:=by
 obtain ⟨_,h12,_,_,hl,hv⟩:=hm
 subst hR
 have hl:V.length=k*k:=by exact_mod_cast hl
 have hk:k≤12:=by omega
 obtain ⟨DA,a1,a2,a3⟩:=rats_cap hv
 have hkk:k*k≤144:=Nat.mul_le_mul hk hk
 have ent:∀ i j (hi:i<k) (hj:j<k),matM k (V.map rt) i j=rt (V[i*k+j]'(by have:=idx_lt hi hj; omega)):=fun i j hi hj => by
  have:=idx_lt hi hj
  unfold matM
  simp [List.getD,show i*k+j<V.length by omega]
 refine ⟨DA,h.2.natAbs,hk,a1,bD (d:=5760) a2 (by omega),fun i j hi hj => ?_,fun i hi => ?_,by have:=hh.1; omega,by have:=hh.2.1; have:=hh.1; omega,(Cap.rat hh).mono (by decide)⟩
 ·rw [ent i j hi hj]
  exact a3 _ (List.getElem_mem _)
 ·obtain ⟨D,r1,r2,r3⟩:=rats_cap (X:=(V.drop (i*k)).take k) (fun p hp => hv p (List.mem_of_mem_drop (List.mem_of_mem_take hp)))
  refine ⟨D,r1,Nat.le_trans r2 (Nat.pow_le_pow_right (by decide) (by rw [List.length_take]; omega)),fun j hj => ?_⟩
  rw [ent i j hi hj]
  have:=idx_lt hi hj
  have e:V[i*k+j]'(by omega)=((V.drop (i*k)).take k)[j]'(by rw [List.length_take,List.length_drop]; omega):=by
   rw [List.getElem_take,List.getElem_drop]
  rw [e]
  exact r3 _ (List.getElem_mem _)
end Go.Proofs.Ytokckcnfojjpjaa

namespace Go.Proofs.Ytokckcnfojjpjaa
open Go.RowKit
set_option maxRecDepth 20000
def unitL (k j:Nat):List Int:=(List.replicate (k+1) (0:Int)).set j 1
def rowF (k:Nat) (W:List R2) (i:Nat):Nat→Pl
 | 0 => []
 | m+1 => rowF k W i m++(if (W.getD (i*k+m) (0,1)).1=0 then [] else [(W.getD (i*k+m) (0,1),unitL k m)])
def linF (k:Nat) (W:List R2):List Pl:=(List.range k).map fun i => rowF k W i k
theorem monV_zero:∀ (xs:List Rat) (n:Nat),monV xs (List.replicate n 0)=1
 | [],n => by cases n <;> rfl
 | x :: xs,0 => rfl
 | x :: xs,n+1 => by
  rw [List.replicate_succ,monV,monV_zero xs n]
  simp
theorem monV_unit:∀ (xs:List Rat) (n j:Nat) (hj:j<xs.length),j<n→monV xs ((List.replicate n (0:Int)).set j 1)=xs[j]
 | x :: xs,n+1,0,_,_ => by
  rw [List.replicate_succ,List.set_cons_zero,monV,monV_zero]
  simp
 | x :: xs,n+1,j+1,hj,h => by
  rw [List.replicate_succ,List.set_cons_succ,monV,monV_unit xs n j (by simpa using hj) (by omega)]
  simp
theorem rt_zero {w:R2} (h:w.1=0):rt w=0:=by
 unfold rt
 rw [h]
 simp
theorem row_pol {k i:Nat} {W:List R2} {y:List Rat} {t:Rat} (hy:y.length=k) (hW:W.length=k*k) (hi:i<k):∀ {m:Nat},m≤k→polV (y++[t]) (rowF k W i m)=sumF m (fun j => matM k (W.map rt) i j*y.getD j 0)
 | 0,_ => rfl
 | m+1,hm => by
  have hix:=idx_lt hi (show m<k by omega)
  have em:matM k (W.map rt) i m=rt (W.getD (i*k+m) (0,1)):=by
   unfold matM
   simp [List.getD,show i*k+m<W.length by omega]
  rw [rowF,polV_append,row_pol hy hW hi (by omega),sumF]
  congr 1
  rw [em]
  split
  ·rename_i h0
   rw [rt_zero h0]
   simp only [polV]
   grind
  ·simp only [polV]
   rw [show monV (y++[t]) (unitL k m)=y.getD m 0 by
    unfold unitL
    rw [monV_unit _ _ m (by simp; omega) (by omega),List.getElem_append_left (by omega)]
    simp [List.getD,show m<y.length by omega]]
   grind
theorem tW {k:Nat} {W:List R2} {y:List Rat} {t:Rat} (hy:y.length=k) (hW:W.length=k*k):xI (linF k W) y t=yQ k (matM k (W.map rt)) y:=by
 unfold xI jG linF yQ
 rw [List.map_map]
 refine List.map_congr_left fun i hi => ?_
 exact row_pol hy hW (List.mem_range.1 hi) (Nat.le_refl k)
theorem jP {l:List Rat} {j:Nat} (h:j<l.length):l.getD j 0=l[j]:=by simp [List.getD,h]
theorem sumF_add {n:Nat} {f g:Nat→Rat} {c:Rat}:sumF n (fun l => f l+c*g l)=sumF n f+c*sumF n g:=by
 induction n with
 | zero => simp only [sumF]; grind
 | succ n ih => rw [sumF,sumF,sumF,ih]; grind
section
variable {k:Nat} {a:Mx}
theorem sK {x y:List Rat} {c:Rat} (hx:x.length=k) (hy:y.length=k):yQ k a (yO x c y)=yO (yQ k a x) c (yQ k a y):=by
 apply List.ext_getElem
 ·rw [xE (by rw [yN,yN]),yN,yN]
 ·intro i h1 h2
  rw [yN] at h1
  rw [sY h1,gM (by rw [yN,yN]) (by rw [yN]; exact h1),sY h1,sY h1,←sumF_add]
  refine qG fun j hj => ?_
  rw [jP (show j<(yO x c y).length by rw [xE (by omega)]; omega),gM (by omega) (by omega),jP (show j<x.length by omega),jP (show j<y.length by omega)]
  grind
theorem qF {y:List Rat} {h:Rat} (hy:y.length=k):yQ k a (xV h y)=xV h (yQ k a y):=by
 apply List.ext_getElem
 ·rw [jC,yN,yN]
 ·intro i h1 h2
  rw [yN] at h1
  have e:(xV h (yQ k a y))[i]=(yQ k a y)[i]'(by rw [yN]; exact h1)*h:=by simp [xV]
  rw [e,sY h1,sY h1,←sumF_mul]
  refine qG fun j hj => ?_
  rw [jP (show j<(xV h y).length by rw [jC]; omega),jP (show j<y.length by omega)]
  simp only [xV,List.getElem_map]
  grind
theorem times_zero:yQ k a (List.replicate k 0)=List.replicate k 0:=by
 apply List.ext_getElem
 ·rw [yN]
  simp
 ·intro i h1 h2
  rw [yN] at h1
  rw [sY h1,List.getElem_replicate]
  refine sumF_zero fun j hj => ?_
  rw [jP (by simpa using hj),List.getElem_replicate]
  grind
theorem times_unit {j:Nat} (hj:j<k):yQ k a (sD k j)=(List.range k).map fun i => a i j:=by
 apply List.ext_getElem
 ·rw [yN]
  simp
 ·intro i h1 h2
  rw [yN] at h1
  rw [sY h1]
  simp only [List.getElem_map,List.getElem_range]
  rw [sumF_one (j:=j) hj fun l hl hne => ?_]
  ·unfold sD
   rw [jP (by simp; exact hj),List.getElem_set_self]
   grind
  ·unfold sD
   rw [jP (by simp; exact hl),List.getElem_set_ne (by omega),List.getElem_replicate]
   grind
end
theorem half_e:vG=(1 / 2:Rat):=by decide +kernel
theorem fr12:fr 1 2=(1 / 2:Rat):=by decide +kernel
theorem fr16:fr 1 6=(1 / 6:Rat):=by decide +kernel
theorem fr124:fr 1 24=(1 / 24:Rat):=by decide +kernel
theorem one_e:oneQ=(1:Rat):=rfl
section
variable {k:Nat} {W:List R2} {y z:List Rat} {h t:Rat}
theorem ser2 {a:Mx} {c0 c1:Rat}:tC k a h [c0,c1] y=yO (yO (xT k) c0 y) c1 (xV h (yQ k a y)):=rfl
theorem ser3 {a:Mx} {c0 c1 c2:Rat} (hy:y.length=k):tC k a h [c0,c1,c2] y=yO (yO (yO (xT k) c0 y) c1 (xV h (yQ k a y))) c2 (xV h (xV h (yQ k a (yQ k a y)))):=by
 rw [←qF yN]
 rfl
theorem ser5 {a:Mx} {c0 c1 c2 c3 c4:Rat} (hy:y.length=k):tC k a h [c0,c1,c2,c3,c4] y=yO (yO (yO (yO (yO (xT k) c0 y) c1 (xV h (yQ k a y))) c2 (xV h (xV h (yQ k a (yQ k a y))))) c3 (xV h (xV h (xV h (yQ k a (yQ k a (yQ k a y))))))) c4 (xV h (xV h (xV h (xV h (yQ k a (yQ k a (yQ k a (yQ k a y)))))))):=by
 have e2:xV h (yQ k a (xV h (yQ k a y)))=xV h (xV h (yQ k a (yQ k a y))):=by rw [qF yN]
 have e3:xV h (yQ k a (xV h (yQ k a (xV h (yQ k a y)))))=xV h (xV h (xV h (yQ k a (yQ k a (yQ k a y))))):=by
  rw [e2,qF (by rw [jC,yN]),qF yN]
 have e4:xV h (yQ k a (xV h (yQ k a (xV h (yQ k a (xV h (yQ k a y)))))))=xV h (xV h (xV h (xV h (yQ k a (yQ k a (yQ k a (yQ k a y))))))):=by
  rw [e3,qF (by rw [jC,jC,yN]),qF (by rw [jC,yN]),qF yN]
 rw [←e4,←e3,←e2]
 rfl
theorem euler_lin (hy:y.length=k) (hW:W.length=k*k):eulerV (linF k W) h t y=tC k (matM k (W.map rt)) h (vF 0).1 y:=by
 unfold eulerV
 rw [tW hy hW,show (vF 0).1=[oneQ,oneQ] from rfl,ser2]
 apply List.ext_getElem
 ·simp [yO,xV,yN,xT,hy]
 ·intro i h1 h2
  simp only [yO,xV,xT,List.getElem_zipWith,List.getElem_map,List.getElem_replicate,one_e]
  grind
theorem alen {x y:List Rat} {c:Rat} {k:Nat} (hx:x.length=k) (hy:y.length=k):(yO x c y).length=k:=by rw [xE (by omega),hx]
theorem heun_lin (hy:y.length=k) (hW:W.length=k*k):heunV (linF k W) h t y=tC k (matM k (W.map rt)) h (vF 1).1 y:=by
 unfold heunV
 rw [tW hy hW,tW (alen hy yN) hW,sK hy yN,show (vF 1).1=[oneQ,oneQ,fr 1 2] from rfl,ser3 hy]
 apply List.ext_getElem
 ·simp [yO,xV,yN,xT,hy]
 ·intro i h1 h2
  simp only [yO,xV,xT,List.getElem_zipWith,List.getElem_map,List.getElem_replicate,one_e,half_e,fr12]
  generalize (yQ k (matM k (W.map rt)) (yQ k (matM k (W.map rt)) y))[i]'_=u2
  generalize (yQ k (matM k (W.map rt)) y)[i]'_=u1
  generalize y[i]'_=u0
  rw [show ((1:Int):Rat)=1 from rfl]
  grind
theorem mid_lin (hy:y.length=k) (hW:W.length=k*k):midV (linF k W) h t y=tC k (matM k (W.map rt)) h (vF 2).1 y:=by
 unfold midV
 rw [tW hy hW,tW (alen hy yN) hW,sK hy yN,show (vF 2).1=[oneQ,oneQ,fr 1 2] from rfl,ser3 hy]
 apply List.ext_getElem
 ·simp [yO,xV,yN,xT,hy]
 ·intro i h1 h2
  simp only [yO,xV,xT,List.getElem_zipWith,List.getElem_map,List.getElem_replicate,one_e,half_e,fr12]
  generalize (yQ k (matM k (W.map rt)) (yQ k (matM k (W.map rt)) y))[i]'_=u2
  generalize (yQ k (matM k (W.map rt)) y)[i]'_=u1
  generalize y[i]'_=u0
  grind
theorem classic_lin (hy:y.length=k) (hW:W.length=k*k):bU (linF k W) h t y=tC k (matM k (W.map rt)) h (vF 3).1 y:=by
 have e1:k1V (linF k W) h t y=yQ k (matM k (W.map rt)) y:=tW hy hW
 have e2:k2V (linF k W) h t y=yO (yQ k (matM k (W.map rt)) y) (h*vG) (yQ k (matM k (W.map rt)) (yQ k (matM k (W.map rt)) y)):=by
  unfold k2V
  rw [e1,tW (alen hy yN) hW,sK hy yN]
 have l2:(yO (yQ k (matM k (W.map rt)) y) (h*vG) (yQ k (matM k (W.map rt)) (yQ k (matM k (W.map rt)) y))).length=k:=alen yN yN
 have e3:k3V (linF k W) h t y=yO (yQ k (matM k (W.map rt)) y) (h*vG) (yO (yQ k (matM k (W.map rt)) (yQ k (matM k (W.map rt)) y)) (h*vG) (yQ k (matM k (W.map rt)) (yQ k (matM k (W.map rt)) (yQ k (matM k (W.map rt)) y)))):=by
  unfold k3V
  rw [e2,tW (alen hy l2) hW,sK hy l2,sK yN yN]
 have l3:(yO (yQ k (matM k (W.map rt)) y) (h*vG) (yO (yQ k (matM k (W.map rt)) (yQ k (matM k (W.map rt)) y)) (h*vG) (yQ k (matM k (W.map rt)) (yQ k (matM k (W.map rt)) (yQ k (matM k (W.map rt)) y))))).length=k:=alen yN (alen yN yN)
 have e4:k4V (linF k W) h t y=yO (yQ k (matM k (W.map rt)) y) h (yO (yQ k (matM k (W.map rt)) (yQ k (matM k (W.map rt)) y)) (h*vG) (yO (yQ k (matM k (W.map rt)) (yQ k (matM k (W.map rt)) (yQ k (matM k (W.map rt)) y))) (h*vG) (yQ k (matM k (W.map rt)) (yQ k (matM k (W.map rt)) (yQ k (matM k (W.map rt)) (yQ k (matM k (W.map rt)) y)))))):=by
  unfold k4V
  rw [e3,tW (alen hy l3) hW,sK hy l3,sK yN (alen yN yN),sK yN yN]
 unfold bU sumV
 rw [e1,e2,e3,e4,show (vF 3).1=[oneQ,oneQ,fr 1 2,fr 1 6,fr 1 24] from rfl,ser5 hy]
 apply List.ext_getElem
 ·simp [yO,xV,yN,xT,hy]
 ·intro i h1 h2
  simp only [yO,xV,xT,List.getElem_zipWith,List.getElem_map,List.getElem_replicate,one_e,half_e,fr12,fr16,fr124]
  generalize (yQ k (matM k (W.map rt)) (yQ k (matM k (W.map rt)) (yQ k (matM k (W.map rt)) (yQ k (matM k (W.map rt)) y))))[i]'_=u4
  generalize (yQ k (matM k (W.map rt)) (yQ k (matM k (W.map rt)) (yQ k (matM k (W.map rt)) y)))[i]'_=u3
  generalize (yQ k (matM k (W.map rt)) (yQ k (matM k (W.map rt)) y))[i]'_=u2
  generalize (yQ k (matM k (W.map rt)) y)[i]'_=u1
  generalize y[i]'_=u0
  rw [show ((1:Int):Rat)=1 from rfl,show ((2:Int):Rat)=2 from rfl,show ((6:Int):Rat)=6 from rfl]
  grind
theorem imp_mat {b:Rat} {s:List Rat} (hs:s.length=k) (hW:W.length=k*k):impM (linF k W) s b t=linM k (matM k (W.map rt)) b s:=by
 funext i j
 unfold impM linM
 rw [hs]
 have e0:(xI (linF k W) (List.replicate k 0) t).getD i 0=0:=by
  rw [tW (by simp) hW,times_zero]
  by_cases hi:i<k
  ·rw [jP (by simpa using hi),List.getElem_replicate]
  ·simp [List.getD,hi]
 rw [e0]
 by_cases hj:j<k
 ·rw [if_pos hj,if_pos hj]
  have e1:(xI (linF k W) (sD k j) t).getD i 0=matM k (W.map rt) i j:=by
   rw [tW (by simp [sD]) hW,times_unit hj]
   by_cases hi:i<k
   ·rw [jP (by simpa using hi)]
    simp
   ·have h1:k*k≤i*k+j:=by
     have:=Nat.mul_le_mul_right k (show k≤i by omega)
     omega
    unfold matM
    simp [List.getD,hi,show W.length≤i*k+j by omega]
  rw [e1]
  split
  ·grind
  ·grind
 ·rw [if_neg hj,if_neg hj]
  grind
theorem ser4_lin (hy:y.length=k) {a:Mx}:tC k a h (vF 4).1 y=y:=by
 show yO (xT k) oneQ y=y
 apply List.ext_getElem
 ·simp [yO,xT,hy]
 ·intro i h1 h2
  simp only [yO,xT,List.getElem_zipWith,List.getElem_replicate,one_e]
  grind
theorem ser5_lin (hy:y.length=k) {a:Mx}:tC k a h (vF 5).1 y=yO y (h*vG) (yQ k a y):=by
 show yO (yO (xT k) oneQ y) (fr 1 2) (xV h (yQ k a y))=_
 apply List.ext_getElem
 ·simp [yO,xT,xV,yN,hy]
 ·intro i h1 h2
  simp only [yO,xT,xV,List.getElem_zipWith,List.getElem_map,List.getElem_replicate,one_e,fr12,half_e]
  generalize (yQ k a y)[i]'_=u1
  generalize y[i]'_=u0
  grind
theorem step_lin {m:Int} (h0:0≤m) (h6:m≤5) (hy:y.length=k) (hW:W.length=k*k):uV m (linF k W) h t y=vR m k (matM k (W.map rt)) h y:=by
 rcases (show m=0∨m=1∨m=2∨m=3∨m=4∨m=5 by omega) with rfl | rfl | rfl | rfl | rfl | rfl
 ·rw [one_0,euler_lin hy hW]
  simp [vR,dec]
 ·rw [one_1,heun_lin hy hW]
  simp [vR,dec]
 ·rw [one_2,mid_lin hy hW]
  simp [vR,dec]
 ·rw [one_3,classic_lin hy hW]
  simp [vR,dec]
 ·rw [one_4]
  unfold qA
  rw [imp_mat hy hW,hy]
  simp [vR,dec,ser4_lin hy,byV]
 ·rw [one_5]
  unfold gN qA
  have hl:(yO y (h*vG) (yQ k (matM k (W.map rt)) y)).length=k:=alen hy yN
  rw [tW hy hW,imp_mat hl hW,hl]
  simp [vR,dec,ser5_lin hy,byV]
theorem linNext_len {m:Int} {i:Nat} {a:Mx} {w:List Rat} (hy:y.length=k) (hw:uI m k a h i y z=some w):w.length=k:=by
 unfold uI at hw
 cases hd:dec (m=6∧0<i)
 ·rw [hd] at hw
  have hw:vR (if m=6 then 1 else m) k a h y=some w:=hw
  generalize (if m=6 then 1 else m)=mm at hw
  unfold vR at hw
  cases he:dec (mm=4∨mm=5)
  ·rw [he] at hw
   cases hw
   exact gA hy _
  ·rw [he] at hw
   exact solve_lenQ hw
 ·rw [hd] at hw
  cases hw
  exact two_len hy
theorem next_lin {m:Int} {i:Nat} (h0:0≤m) (h6:m≤6) (hy:y.length=k) (hz:0<i→z.length=k) (hW:W.length=k*k):gV m (linF k W) h t i y z=uI m k (matM k (W.map rt)) h i y z:=by
 unfold gV uI
 cases hd:dec (m=6∧0<i)
 ·by_cases h:m=6
  ·subst h
   rw [if_pos rfl]
   show uV 6 _ _ _ _=vR 1 _ _ _ _
   rw [one_6,←one_1,step_lin (by decide) (by decide) hy hW]
  ·rw [if_neg h]
   exact step_lin h0 (by omega) hy hW
 ·obtain ⟨d1,d2⟩:=yE.1 hd
  show some _=some _
  rw [tW hy hW,tW (hz d2) hW]
  rfl
theorem run_lin {m:Int} {x:List Rat} (h0:0≤m) (h6:m≤6) (hx:x.length=k) (hW:W.length=k*k):∀ {n:Nat} {out:List (List Rat)},runV m (linF k W) h t 0 x n=.ok out→out.length=n+1∧∃ y z,qQ m k (matM k (W.map rt)) h x n=some (y,z)∧y.length=k∧(0<n→z.length=k)∧out.getD n []=y∧(0<n→out.getD (n - 1) []=z)
 | 0,out,hr => by
  cases hr
  exact ⟨rfl,x,[],rfl,hx,fun h => by omega,rfl,fun h => by omega⟩
 | n+1,out,hr => by
  simp only [runV] at hr
  cases hp:runV m (linF k W) h t 0 x n with
  | error e =>
   rw [hp] at hr
   cases hr
  | ok o =>
   rw [hp] at hr
   obtain ⟨g1,y,z,g2,g3,g4,g5,g6⟩:=run_lin h0 h6 hx hW hp
   have hr:sS m (linF k W) h t 0 n o=.ok out:=hr
   unfold sS at hr
   have e2:∀ a,gV m (linF k W) h a n (o.getD n []) (o.getD (n - 1) [])=uI m k (matM k (W.map rt)) h n y z:=fun a => by
    rw [g5]
    rcases Nat.eq_zero_or_pos n with hn | hn
    ·subst hn
     rw [next_lin h0 h6 g3 (fun h => by omega) hW]
     unfold uI
     rw [yK.2 (by omega)]
     rfl
    ·rw [g6 hn]
     exact next_lin h0 h6 g3 g4 hW
   rw [e2] at hr
   cases hw:uI m k (matM k (W.map rt)) h n y z with
   | none =>
    rw [hw] at hr
    cases hr
   | some w =>
    rw [hw] at hr
    have ew:w.map (rdV 0)=w:=by
     conv => rhs; rw [←List.map_id w]
     exact List.map_congr_left fun q _ => rd_none (by decide)
    dsimp only at hr
    rw [ew] at hr
    cases hfit:dec (pY w)
    ·rw [hfit] at hr
     cases hr
    ·rw [hfit] at hr
     simp only [cond_true,Except.ok.injEq] at hr
     subst hr
     have hwl:w.length=k:=linNext_len g3 hw
     refine ⟨by simp [g1],w,y,by rw [linRun_next g2,hw]; rfl,hwl,fun _ => g3,?_,fun _ => ?_⟩
     ·rw [List.getD,List.getElem?_append_right (by omega),g1]
      simp
     ·rw [←g5,List.getD,List.getElem?_append_left (by omega)]
      rfl
end
end Go.Proofs.Ytokckcnfojjpjaa

namespace Go.Proofs.Ytokckcnfojjpjaa
open Go.RowKit
set_option maxRecDepth 20000
section
variable {m R Cc n:Int} {W x:List R2} {h:R2}
noncomputable def qR (m R Cc:Int) (W x:List R2) (h:R2) (n:Int):Except Int (List Rat) :=
 bif dec (linE m R Cc W x h n=0) then match qQ m R.toNat (matM R.toNat (W.map rt)) (rt h) (x.map rt) n.toNat with
  | none => .error 4
  | some p => bif dec (pY p.1) then .ok p.1 else .error 3
 else .error (linE m R Cc W x h n)
def LinK (m R Cc:Int) (W x:List R2) (h:R2) (n:Int) (u:V):Prop :=
 (∃ y c,qR m R Cc W x h n=.ok y∧y.length≤12∧u=.tup [.c c,i64 0]∧Ls elP c (y.map rp))∨(∃ e:Int,qR m R Cc W x h n=.error e∧e≠0∧u=.tup [.c .nilSl,i64 e])
theorem LinK.err {e:Int} {H:Hp} (h1:qR m R Cc W x h n=.error e) (h2:e≠0):∃ d,FzV H (.tup [.c .nilSl,i64 e]) d∧LinK m R Cc W x h n d :=
 ⟨_,.tup (.cons (.c (.hf trivial)) (.cons (.c (.hf trivial)) .nil)),.inr ⟨e,h1,h2,rfl⟩⟩
theorem lin_e {e:Int} (h1:linE m R Cc W x h n=e) (h2:e≠0):qR m R Cc W x h n=.error e:=by
 unfold qR
 rw [yK.2 (by rw [h1]; exact h2),h1]
 rfl
theorem linE_mat (h1:¬ gY R Cc W):linE m R Cc W x h n=1:=by
 unfold linE
 rw [yK.2 h1]
 rfl
theorem jT (h2:¬ tA x∨¬ wL h.1 h.2∨m<0∨6<m∨h.1≤0∨n<0∨60<n):linE m R Cc W x h n=1:=by
 unfold linE
 rw [yE.2 h2]
 cases dec (gY R Cc W) <;> rfl
theorem linE_fit (h1:gY R Cc W) (h2:¬ (¬ tA x∨¬ wL h.1 h.2∨m<0∨6<m∨h.1≤0∨n<0∨60<n)) (h3:R≠Cc∨(x.length:Int)≠R):linE m R Cc W x h n=8:=by
 unfold linE
 rw [yE.2 h1,yK.2 h2,yE.2 h3]
 rfl
theorem linE_ok (h1:gY R Cc W) (h2:¬ (¬ tA x∨¬ wL h.1 h.2∨m<0∨6<m∨h.1≤0∨n<0∨60<n)) (h3:¬ (R≠Cc∨(x.length:Int)≠R)):linE m R Cc W x h n=0:=by
 unfold linE
 rw [yE.2 h1,yK.2 h2,yK.2 h3]
 rfl
end
structure LH (k:Nat) (cv:C) (hc:List C) (H:Hp):Prop where
 k2:∃ el kd,(kd=.rw∨kd=.ro)∧H[2]?=some (.live ⟨[iC k],el,kd⟩)
 k3:∃ el kd,(kd=.rw∨kd=.ro)∧H[3]?=some (.live ⟨[cv],el,kd⟩)
 k4:∃ el kd,(kd=.rw∨kd=.ro)∧H[4]?=some (.live ⟨hc,el,kd⟩)
 k5:∃ el kd,(kd=.rw∨kd=.ro)∧H[5]?=some (.live ⟨[.fn n_step_Linear_1 [.ptr 2 0,.ptr 3 0]],el,kd⟩)
section
variable {k:Nat} {cv:C} {hc:List C} {H:Hp}
theorem LH.grow {X:Hp} (h:LH k cv hc H):LH k cv hc (H++X):=by
 obtain ⟨⟨e2,d2,a2,b2⟩,⟨e3,d3,a3,b3⟩,⟨e4,d4,a4,b4⟩,⟨e5,d5,a5,b5⟩⟩:=h
 exact ⟨⟨e2,d2,a2,by rw [List.getElem?_append_left (lt_of_getElem? b2)]; exact b2⟩,⟨e3,d3,a3,by rw [List.getElem?_append_left (lt_of_getElem? b3)]; exact b3⟩,⟨e4,d4,a4,by rw [List.getElem?_append_left (lt_of_getElem? b4)]; exact b4⟩,⟨e5,d5,a5,by rw [List.getElem?_append_left (lt_of_getElem? b5)]; exact b5⟩⟩
theorem LH.close (h:LH k cv hc H) (bs:List Nat):LH k cv hc (xQ H bs):=by
 obtain ⟨⟨e2,d2,a2,b2⟩,⟨e3,d3,a3,b3⟩,⟨e4,d4,a4,b4⟩,⟨e5,d5,a5,b5⟩⟩:=h
 obtain ⟨x2,y2,z2,_⟩:=pP b2 a2 bs
 obtain ⟨x3,y3,z3,_⟩:=pP b3 a3 bs
 obtain ⟨x4,y4,z4,_⟩:=pP b4 a4 bs
 obtain ⟨x5,y5,z5,_⟩:=pP b5 a5 bs
 exact ⟨⟨e2,x2,z2,y2⟩,⟨e3,x3,z3,y3⟩,⟨e4,x4,z4,y4⟩,⟨e5,x5,z5,y5⟩⟩
theorem ptr_fz {b:Nat} {cs ds:List C} {el:TypeId} {kd:BK} (hb:H[b]?=some (.live ⟨cs,el,kd⟩)) (hk:kd=.rw∨kd=.ro) {bs:List Nat} (hbs:b∈bs) (hd:FzL (·=.ro) (xQ H bs) cs ds):Fz (·=.ro) (xQ H bs) (.ptr b 0) (.ipt ds):=by
 obtain ⟨k',h1,h2,h3⟩:=pP hb hk bs
 obtain rfl:=h3 hbs
 exact .ptr (bx:=⟨cs,el,.ro⟩) h1 rfl (by simp) (by simpa using hd)
theorem LH.fz23 (h:LH k cv hc H) (hv:HFC cv) {bs:List Nat} (h2:2∈bs) (h3:3∈bs):Fz (·=.ro) (xQ H bs) (.ptr 2 0) (.ipt [iC k])∧Fz (·=.ro) (xQ H bs) (.ptr 3 0) (.ipt [cv]):=by
 obtain ⟨⟨e2,d2,a2,b2⟩,⟨e3,d3,a3,b3⟩,_,_⟩:=h
 exact ⟨ptr_fz b2 a2 h2 (.cons (.hf trivial) .nil),ptr_fz b3 a3 h3 (.cons (.hf hv) .nil)⟩
theorem LH.fz45 (h:LH k cv hc H) (hv:HFC cv) (hh:HFL hc) {bs:List Nat} (h2:2∈bs) (h3:3∈bs) (h4:4∈bs) (h5:5∈bs):Fz (·=.ro) (xQ H bs) (.ptr 4 0) (.ipt hc)∧Fz (·=.ro) (xQ H bs) (.ptr 5 0) (.ipt [.fn n_step_Linear_1 [.ipt [iC k],.ipt [cv]]]):=by
 obtain ⟨f2,f3⟩:=h.fz23 hv h2 h3
 obtain ⟨_,_,⟨e4,d4,a4,b4⟩,⟨e5,d5,a5,b5⟩⟩:=h
 exact ⟨ptr_fz b4 a4 h4 (FzL.hf hh),ptr_fz b5 a5 h5 (.cons (.fn (.cons f2 (.cons f3 .nil))) .nil)⟩
end
theorem semH_closed {P:Program} {f:FuncId} {args:List V} {H:Hp} {K:V→Hp→Prop} (bs:List Nat) (h:semH P f args (xQ H bs) K):semH P f args H K :=
 ⟨h.1,fun base w β vs hp hv => by
  obtain ⟨hp1,hx1⟩:=HRel.closeB hp bs
  refine (h.2 base w β vs hp1 (RVL.to (hx1.to base) hv)).mono ?_
  rintro e w' ⟨v,u,β',H',he,hk,hp',hx',hr⟩
  exact ⟨v,u,β',H',he,hk,hp',hx1.trans hx',hr⟩⟩
theorem keep_45 {inc:List Nat} {log:List (Nat × Option Nat)} {H H':Hp} (h:(log.all fun p => match p.2 with | none => true | some b => Nat.beq b 4 || Nat.beq b 5)=true) (e4:H'[4]?=H[4]?) (e5:H'[5]?=H[5]?):jA inc log H H':=fun p hp _ b hb => by
 have:=List.all_eq_true.1 h p hp
 rw [hb] at this
 simp only [Bool.or_eq_true] at this
 rcases this with h | h
 ·rw [Nat.eq_of_beq_eq_true h]
  exact e4
 ·rw [Nat.eq_of_beq_eq_true h]
  exact e5
theorem times_imm {cy cv:C} {hc:List C} {k n DA Dh:Nat} {y v:List Rat} {h:Rat} {H:Hp} {K:V→Hp→Prop} (hL:LH k cv hc H) (hy:Ls (elQ 4194304) cy y) (hyl:y.length=k) (hv:Ls (elQ 2) cv v) (hvl:v.length=k*k) (l:pV k (matM k v) h DA Dh) (hb:CpL n y) (hn:n≤9000000)
  (q:∀ c H',Ls (elQ 4194304) c (yQ k (matM k v) y)→LH k cv hc H'→H'[4]?=H[4]?→H'[5]?=H[5]?→K (.c c) H'):semH Try.prog n_step_Linear_1 [.c cy,.c (.ptr 2 0),.c (.ptr 3 0)] H K:=by
 obtain ⟨f2,f3⟩:=hL.fz23 hv.hf (bs:=[2,3]) (by simp) (by simp)
 have hL1:=hL.close [2,3]
 have e4:(xQ H [2,3])[4]?=H[4]?:=gD (by simp)
 have e5:(xQ H [2,3])[5]?=H[5]?:=gD (by simp)
 have l5:5<(xQ H [2,3]).length:=by
  obtain ⟨_,_,_,b5⟩:=hL1.k5
  exact lt_of_getElem? b5
 refine semH_closed [2,3] (semH_close (K':=fun u H' => ∃ cells,Els (elQ 4194304) cells (yQ k (matM k v) y)∧u=.c (.sl (xQ H [2,3]).length 0 k (some k) 6)∧H'=xQ H [2,3]++[.live ⟨cells,yR,.rw⟩]) (semH_of_semO_ro (.cons (.c (.hf hy.hf)) (.cons (.c f2) (.cons (.c f3) .nil))) (lin_times hy hyl hv hvl l hb hn) (fun u H' hu => .inr (by
  obtain ⟨b,cells,rfl,hb,hE⟩:=hu
  refine ⟨b,_,_,hb,rfl,hE.hf,.c,?_⟩
  rw [yN]
  exact ⟨cells,hE,rfl,rfl⟩))) (fun u H' hu => ?_))
 obtain ⟨cells,hE,rfl,rfl⟩:=hu
 have hcl:=hE.len
 rw [yN] at hcl
 have hcl:cells.length=k*6:=hcl
 have hlm:=Ls.imm hE
 rw [yN] at hlm
 have hco:xQ (xQ H [2,3]++[Slot.live ⟨cells,yR,.rw⟩]) [(xQ H [2,3]).length]=xQ H [2,3]++[Slot.live ⟨cells,yR,.ro⟩]:=by rw [close_one (yJ _ _),gP]
 refine ⟨[(xQ H [2,3]).length],.c (.imm k cells),?_,?_⟩
 ·rw [hco]
  exact .c (.sl (bx:=⟨cells,yR,.ro⟩) (yJ _ _) rfl (by simp) (by rw [List.drop_zero,List.take_of_length_le (by simp only; omega)]; exact .hf hE.hf))
 ·rw [hco]
  refine q _ _ hlm hL1.grow ?_ ?_
  ·rw [List.getElem?_append_left (by omega)]
   exact e4
  ·rw [List.getElem?_append_left l5]
   exact e5
attribute [local irreducible] yA semH semC qLen qNil qIad qSlc qIdx yW yI xA appX appI slcX awpF yP xH xopF xM qval lval seqQ xJ xY xU xR cnd arith IntKind.wrap
theorem step_Linear {cV cx:C} {W x:List R2} (m R Cc n:Int) (h:R2) (hV:Ls elP cV W) (hVl:W.length<9223372036854775808) (hx:Ls elP cx x) (hxl:x.length<9223372036854775808):semC Try.prog n_step_Linear [i64 m,.agg [iC R,iC Cc,cV],.c cx,.agg (ratC h),i64 n] (LinK m R Cc W x h n):=by
 refine yD ok_step_Linear rfl (show HFVs [i64 m,.agg [iC R,iC Cc,cV],.c cx,.agg (ratC h),i64 n] from ⟨trivial,⟨trivial,trivial,hV.hf,trivial⟩,hx.hf,qU _,trivial,trivial⟩) ?_
 (refine go13 ?_; repeat (refine yC (by rfl) ?_; refine go13 ?_))
 refine yB (mat_Validate R Cc hV hVl) (fun u hu => ?_)
 obtain rfl:=hu
 (refine go13 ?_; repeat (refine yC (by rfl) ?_; refine go13 ?_))
 cases h1:dec (gY R Cc W)
 case false =>
  rw [mat_no (yK.1 h1),show yA Cm.neq 1 0=true by simp [yA]]
  (refine go13 ?_; repeat (refine yC (by rfl) ?_; refine go13 ?_))
  exact LinK.err (lin_e (linE_mat (yK.1 h1)) (by decide)) (by decide)
 have h1:=yE.1 h1
 rw [mat_ok h1,show yA Cm.neq 0 0=false by simp [yA]]
 (refine go13 ?_; repeat (refine yC (by rfl) ?_; refine go13 ?_))
 refine yB (bE hx hxl) (fun u hu => ?_)
 obtain ⟨z,rfl,hz⟩:=hu
 cases z
 case false =>
  (refine go13 ?_; repeat (refine yC (by rfl) ?_; refine go13 ?_))
  exact LinK.err (lin_e (jT (.inl fun hh => by cases hz.2 hh)) (by decide)) (by decide)
 have hvx:=hz.1 rfl
 (refine go13 ?_; repeat (refine yC (by rfl) ?_; refine go13 ?_))
 refine yB (bQ h.1 h.2) (fun u hu => ?_)
 obtain ⟨z,rfl,hz2⟩:=hu
 cases z
 case false =>
  (refine go13 ?_; repeat (refine yC (by rfl) ?_; refine go13 ?_))
  exact LinK.err (lin_e (jT (.inr (.inl fun hh => by cases hz2.2 hh))) (by decide)) (by decide)
 have hvh:=hz2.1 rfl
 (refine go13 ?_; repeat (refine yC (by rfl) ?_; refine go13 ?_))
 cases q1:yA Cm.lss m 0
 case true =>
  simp [yA] at q1
  (refine go13 ?_; repeat (refine yC (by rfl) ?_; refine go13 ?_))
  exact LinK.err (lin_e (jT (by omega)) (by decide)) (by decide)
 simp [yA] at q1
 (refine go13 ?_; repeat (refine yC (by rfl) ?_; refine go13 ?_))
 cases q2:yA Cm.gtr m 6
 case true =>
  simp [yA] at q2
  (refine go13 ?_; repeat (refine yC (by rfl) ?_; refine go13 ?_))
  exact LinK.err (lin_e (jT (by omega)) (by decide)) (by decide)
 simp [yA] at q2
 (refine go13 ?_; repeat (refine yC (by rfl) ?_; refine go13 ?_))
 cases q3:yA Cm.leq h.1 0
 case true =>
  simp [yA] at q3
  (refine go13 ?_; repeat (refine yC (by rfl) ?_; refine go13 ?_))
  exact LinK.err (lin_e (jT (by omega)) (by decide)) (by decide)
 simp [yA] at q3
 (refine go13 ?_; repeat (refine yC (by rfl) ?_; refine go13 ?_))
 cases q4:yA Cm.lss n 0
 case true =>
  simp [yA] at q4
  (refine go13 ?_; repeat (refine yC (by rfl) ?_; refine go13 ?_))
  exact LinK.err (lin_e (jT (by omega)) (by decide)) (by decide)
 simp [yA] at q4
 (refine go13 ?_; repeat (refine yC (by rfl) ?_; refine go13 ?_))
 cases q5:yA Cm.gtr n 60
 case true =>
  simp [yA] at q5
  (refine go13 ?_; repeat (refine yC (by rfl) ?_; refine go13 ?_))
  exact LinK.err (lin_e (jT (by omega)) (by decide)) (by decide)
 simp [yA] at q5
 have harg:¬ (¬ tA x∨¬ wL h.1 h.2∨m<0∨6<m∨h.1≤0∨n<0∨60<n):=by
  rintro (hh | hh | hh)
  ·exact hh hvx
  ·exact hh hvh
  ·omega
 (refine go13 ?_; repeat (refine yC (by rfl) ?_; refine go13 ?_))
 cases q6:yA Cm.neq R Cc
 case true =>
  simp [yA] at q6
  (refine go13 ?_; repeat (refine yC (by rfl) ?_; refine go13 ?_))
  exact LinK.err (lin_e (linE_fit h1 harg (.inl q6)) (by decide)) (by decide)
 simp [yA] at q6
 (refine go13 ?_; repeat (refine yC (by rfl) ?_; refine go13 ?_))
 cases q7:yA Cm.neq (x.length:Int) R
 case true =>
  simp [yA] at q7
  (refine go13 ?_; repeat (refine yC (by rfl) ?_; refine go13 ?_))
  exact LinK.err (lin_e (linE_fit h1 harg (.inr q7)) (by decide)) (by decide)
 simp [yA] at q7
 have hE0:=linE_ok h1 harg (show ¬ (R≠Cc∨(x.length:Int)≠R) by omega)
 have hMO:=h1
 obtain ⟨k0,k12,_,_,hWl,hvW⟩:=h1
 subst q6
 obtain ⟨k,hkR⟩:∃ k:Nat,R=(k:Int):=Int.eq_ofNat_of_zero_le k0
 subst hkR
 obtain ⟨n',rfl⟩:=Int.eq_ofNat_of_zero_le q4
 obtain ⟨DA,Dh,l⟩:=lin_in (k:=k) hMO rfl hvh
 have hkk:k*k≤144:=Nat.mul_le_mul (show k≤12 by omega) (show k≤12 by omega)
 have hWk:W.length=k*k:=by exact_mod_cast hWl
 have hxk:x.length=k:=by omega
 (refine go13 ?_; repeat (refine yC (by rfl) ?_; refine go13 ?_))
 refine yS (num_In hV hvW (by omega)) (fun u hu => ?_)
 obtain ⟨cv,rfl,hv⟩:=hu
 (refine go13 ?_; repeat (refine yC (by rfl) ?_; refine go13 ?_))
 refine yS (q_Of hvh) (fun u hu => ?_)
 obtain ⟨r1,rfl,g1⟩:=hu
 obtain ⟨h0,h1',h2,h3,h4,h5,rfl⟩:=id g1.six
 (refine go13 ?_; repeat (refine yC (by rfl) ?_; refine go13 ?_))
 try refine goN ?_
 refine yB (num_In hx hvx (by omega)) (fun u hu => ?_)
 obtain ⟨c1,rfl,ly⟩:=hu
 (refine go13 ?_; repeat (refine yC (by rfl) ?_; refine go13 ?_))
 refine yX (fun w vs H => ∃ (i:Nat) (cy cz:C) (y z:List Rat),vs=[i64 m,.c (.ptr 4 0),.c (.ptr 5 0),.c (.fn n_step_Linear_2 [.ptr 5 0,.ptr 4 0,.ptr 2 0,.ptr 3 0]),.c cy,.c cz,i64 n',i64 i]∧w=n' - i∧i≤n'∧LH k cv [h0,h1',h2,h3,h4,h5] H∧qQ m k (matM k (W.map rt)) (rt h) (x.map rt) i=some (y,z)∧LinAt k m i y z∧Ls (elQ 4194304) cy y∧(0<i→Ls (elQ 4194304) cz z)) (by rfl) ⟨0,c1,.nilSl,x.map rt,[],rfl,rfl,by omega,⟨⟨_,.rw,.inl rfl,rfl⟩,⟨_,.rw,.inl rfl,rfl⟩,⟨_,.rw,.inl rfl,rfl⟩,⟨_,.rw,.inl rfl,rfl⟩⟩,rfl,⟨by rw [List.length_map]; exact hxk,fun hh => by omega,(CpL.rats hvx).mono (by omega),fun _ hh => by omega⟩,ly.up (by decide),fun hh => by omega⟩ ?_
 rintro w vs H ⟨i,cy,cz,y,z,rfl,rfl,i1,hL,hr,hA,lcy,lcz⟩
 have hv2:Ls (elQ 2) cv (W.map rt):=hv
 (refine go13 ?_; repeat (refine yC (by rfl) ?_; refine go13 ?_))
 cases hi:yA Cm.lss (i:Int) (n':Int)
 case false =>
  simp [yA] at hi
  have ei:i=n':=by omega
  subst ei
  have ho:qR m k k W x h i=bif dec (pY y) then .ok y else .error 3:=by
   unfold qR
   rw [yE.2 hE0,Int.toNat_natCast,Int.toNat_natCast,hr]
   rfl
  (refine go13 ?_; repeat (refine yC (by rfl) ?_; refine go13 ?_))
  refine yB (num_Outs lcy (by rw [hA.ly]; omega)) (fun u hu => ?_)
  obtain ⟨c5,l5,rfl⟩:=hu
  cases hfit:dec (pY y)
  case false =>
   rw [hfit] at ho
   have e5:outsR y=([],false):=by unfold outsR; rw [show dec (∀ q∈y,fitR (rp q)=true)=false from hfit]; rfl
   rw [e5] at l5 ⊢
   (refine go13 ?_; repeat (refine yC (by rfl) ?_; refine go13 ?_))
   exact LinK.err ho (by decide)
  rw [hfit] at ho
  have e5:outsR y=(y.map rp,true):=by unfold outsR; rw [show dec (∀ q∈y,fitR (rp q)=true)=true from hfit]; rfl
  rw [e5] at l5 ⊢
  (refine go13 ?_; repeat (refine yC (by rfl) ?_; refine go13 ?_))
  exact ⟨_,.tup (.cons (.c (.hf l5.hf)) (.cons (.c (.hf trivial)) .nil)),.inl ⟨y,_,ho,by rw [hA.ly]; omega,rfl,l5⟩⟩
 simp [yA] at hi
 have hnx:=linRun_next hr
 (refine go13 ?_; repeat (refine yC (by rfl) ?_; refine go13 ?_))
 cases c6:yA Cm.eql m 6
 case false =>
  simp [yA] at c6
  have hln:uI m k (matM k (W.map rt)) (rt h) i y z=vR m k (matM k (W.map rt)) (rt h) y:=by
   unfold uI
   rw [yK.2 (by omega),if_neg c6]
   rfl
  (refine go13 ?_; repeat (refine yC (by rfl) ?_; refine go13 ?_))
  rw [show yA Cm.eql m 6=false by simp [yA,c6]]
  (refine go13 ?_; repeat (refine yC (by rfl) ?_; refine go13 ?_))
  obtain ⟨f4,f5⟩:=hL.fz45 hv.hf g1.hf (bs:=[2,3,4,5]) (by simp) (by simp) (by simp) (by simp)
  obtain ⟨f2,f3⟩:=hL.fz23 hv.hf (bs:=[2,3,4,5]) (by simp) (by simp)
  refine bX (by rfl) (by rfl) ?_
  refine xK [2,3,4,5] (.cons (.c (.hf trivial)) (.cons (.c (.hf lcy.hf)) (.cons (.c f5) (.cons (.c f4) (.cons (.c f2) (.cons (.c f3) .nil)))))) (lin_do (by omega) (by omega) lcy hA.ly hv2 (by rw [List.length_map]; exact hWk) (g1.up (by decide)) l hA.cy (by omega)) (fun u hu => ?_)
  have hL2:=hL.close [2,3,4,5]
  rcases hu with ⟨y2,cy2,hy2,rfl,ly2⟩ | ⟨hy2,rfl⟩
  case inr =>
   have he:qQ m k (matM k (W.map rt)) (rt h) (x.map rt) (i+1)=none:=by rw [hnx,hln,hy2]; rfl
   have he:=linRun_none he (show i+1≤n' by omega)
   have ho:qR m k k W x h n'=.error 4:=by
    unfold qR
    rw [yE.2 hE0,Int.toNat_natCast,Int.toNat_natCast,he]
    rfl
   (refine go13 ?_; repeat (refine yC (by rfl) ?_; refine go13 ?_))
   exact LinK.err ho (by decide)
  (refine go13 ?_; repeat (refine yC (by rfl) ?_; refine go13 ?_))
  rw [xL i (by omega)]
  exact l_n (by rfl) (n':=n' - (i+1)) (by omega) ⟨i+1,cy2,cy,y2,y,rfl,rfl,by omega,hL2,by rw [hnx,hln,hy2]; rfl,linAt_next l hA (by rw [hln,hy2]),ly2,fun _ => lcy⟩
 simp [yA] at c6
 (refine go13 ?_; repeat (refine yC (by rfl) ?_; refine go13 ?_))
 cases c7:yA Cm.gtr (i:Int) 0
 case false =>
  simp [yA] at c7
  have hln:uI m k (matM k (W.map rt)) (rt h) i y z=vR 1 k (matM k (W.map rt)) (rt h) y:=by
   unfold uI
   rw [yK.2 (by omega),if_pos c6]
   rfl
  (refine go13 ?_; repeat (refine yC (by rfl) ?_; refine go13 ?_))
  rw [show yA Cm.eql m 6=true by simp [yA,c6]]
  (refine go13 ?_; repeat (refine yC (by rfl) ?_; refine go13 ?_))
  obtain ⟨f4,f5⟩:=hL.fz45 hv.hf g1.hf (bs:=[2,3,4,5]) (by simp) (by simp) (by simp) (by simp)
  obtain ⟨f2,f3⟩:=hL.fz23 hv.hf (bs:=[2,3,4,5]) (by simp) (by simp)
  refine bX (by rfl) (by rfl) ?_
  refine xK [2,3,4,5] (.cons (.c (.hf trivial)) (.cons (.c (.hf lcy.hf)) (.cons (.c f5) (.cons (.c f4) (.cons (.c f2) (.cons (.c f3) .nil)))))) (lin_do (by omega) (by omega) lcy hA.ly hv2 (by rw [List.length_map]; exact hWk) (g1.up (by decide)) l hA.cy (by omega)) (fun u hu => ?_)
  have hL2:=hL.close [2,3,4,5]
  rcases hu with ⟨y2,cy2,hy2,rfl,ly2⟩ | ⟨hy2,rfl⟩
  case inr =>
   have he:qQ m k (matM k (W.map rt)) (rt h) (x.map rt) (i+1)=none:=by rw [hnx,hln,hy2]; rfl
   have he:=linRun_none he (show i+1≤n' by omega)
   have ho:qR m k k W x h n'=.error 4:=by
    unfold qR
    rw [yE.2 hE0,Int.toNat_natCast,Int.toNat_natCast,he]
    rfl
   (refine go13 ?_; repeat (refine yC (by rfl) ?_; refine go13 ?_))
   exact LinK.err ho (by decide)
  (refine go13 ?_; repeat (refine yC (by rfl) ?_; refine go13 ?_))
  rw [xL i (by omega)]
  exact l_n (by rfl) (n':=n' - (i+1)) (by omega) ⟨i+1,cy2,cy,y2,y,rfl,rfl,by omega,hL2,by rw [hnx,hln,hy2]; rfl,linAt_next l hA (by rw [hln,hy2]),ly2,fun _ => lcy⟩
 simp [yA] at c7
 (refine go13 ?_; repeat (refine yC (by rfl) ?_; refine go13 ?_))
 have hln:uI m k (matM k (W.map rt)) (rt h) i y z=some (twoV k (matM k (W.map rt)) (rt h) y z):=by
  unfold uI
  rw [yE.2 ⟨c6,by omega⟩]
  rfl
 have lz':=lcz (by omega)
 have hzl:=hA.lz (by omega)
 have cyz:=hA.cz c6 (by omega)
 have ctm:=two_mid l cyz hA.ly hzl
 have hWm:(W.map rt).length=k*k:=by rw [List.length_map]; exact hWk
 have b32:CpL 2 [fr 3 2]:=c32
 have b12:CpL 2 [fr (-1) 2]:=c12
 have bh:=num_two hvh
 obtain ⟨e4,d4,a4,p4⟩:=hL.k4
 obtain ⟨e5,d5,a5,p5⟩:=hL.k5
 have hz4:(cyz.sub (m:=z) (fun q hq => List.mem_append.2 (.inr hq)))=(cyz.sub (m:=z) (fun q hq => List.mem_append.2 (.inr hq))):=rfl
 have cz2:CpL (1000+130000*i) z:=cyz.sub (fun q hq => List.mem_append.2 (.inr hq))
 clear hz4
 refine yM p4 (by rfl) ?_
 (refine go13 ?_; repeat (refine yC (by rfl) ?_; refine go13 ?_))
 refine yU p5 (by rfl) ?_
 (refine go13 ?_; repeat (refine yC (by rfl) ?_; refine go13 ?_))
 refine yM p4 (by rfl) ?_
 (refine go13 ?_; repeat (refine yC (by rfl) ?_; refine go13 ?_))
 refine yU p5 (by rfl) ?_
 (refine go13 ?_; repeat (refine yC (by rfl) ?_; refine go13 ?_))
 refine yS (jD (a:=3) (b:=2) (by decide) (by decide) (by decide)) (fun u hu => ?_)
 obtain ⟨s4,rfl,l4⟩:=hu
 have l4:IQ 1 s4 (fr 3 2):=l4
 (refine go13 ?_; repeat (refine yC (by rfl) ?_; refine go13 ?_))
 refine yS (sG g1 l4 (by decide)) (fun u hu => ?_)
 obtain ⟨s5,rfl,l5⟩:=hu
 refine d_keep (by rfl) (by rfl) (by rfl) ?_
 refine bX (by rfl) (by rfl) ?_
 refine times_imm hL lcy hA.ly hv2 hWm l hA.cy (by omega) (fun c6' H2 l6 hL2 x4 x5 => ⟨keep_45 (by rfl) x4 x5,?_⟩)
 (refine go13 ?_; repeat (refine yC (by rfl) ?_; refine go13 ?_))
 refine yS (nE lcy (l5.up (by decide)) l6 (by rw [yN,hA.ly]) (by rw [hA.ly]; omega) ctm.1 (by omega)) (fun u hu => ?_)
 obtain ⟨s7,rfl,l7⟩:=hu
 (refine go13 ?_; repeat (refine yC (by rfl) ?_; refine go13 ?_))
 refine yS (jD (a:=-1) (b:=2) (by decide) (by decide) (by decide)) (fun u hu => ?_)
 obtain ⟨s8,rfl,l8⟩:=hu
 have l8:IQ 1 s8 (fr (-1) 2):=l8
 (refine go13 ?_; repeat (refine yC (by rfl) ?_; refine go13 ?_))
 refine yS (sG g1 l8 (by decide)) (fun u hu => ?_)
 obtain ⟨s9,rfl,l9⟩:=hu
 refine d_keep (by rfl) (by rfl) (by rfl) ?_
 refine bX (by rfl) (by rfl) ?_
 refine times_imm hL2 lz' hzl hv2 hWm l cz2 (by omega) (fun c8 H3 l10 hL3 y4 y5 => ⟨keep_45 (by rfl) y4 y5,?_⟩)
 (refine go13 ?_; repeat (refine yC (by rfl) ?_; refine go13 ?_))
 have hml:(yO y (rt h*fr 3 2) (yQ k (matM k (W.map rt)) y)).length=k:=by rw [xE (by rw [yN,hA.ly]),hA.ly]
 refine yB (nE l7 (l9.up (by decide)) l10 (by rw [yN]; exact hml.symm) (by have:=hml; omega) (show CpL _ (yO (yO y (rt h*fr 3 2) (yQ k (matM k (W.map rt)) y)) (rt h*fr (-1) 2) (yQ k (matM k (W.map rt)) z)) from ctm.2.sub (fun q hq => List.mem_append.2 (.inl hq))) (by omega)) (fun u hu => ?_)
 obtain ⟨s11,rfl,l11⟩:=hu
 have l11:Ls (elQ 4194304) s11 (twoV k (matM k (W.map rt)) (rt h) y z):=l11
 (refine go13 ?_; repeat (refine yC (by rfl) ?_; refine go13 ?_))
 rw [xL i (by omega)]
 exact l_n (by rfl) (n':=n' - (i+1)) (by omega) ⟨i+1,s11,cy,_,y,rfl,rfl,by omega,hL3,by rw [hnx,hln]; rfl,linAt_next l hA hln,l11,fun _ => lcy⟩
end Go.Proofs.Ytokckcnfojjpjaa

namespace Go.Proofs.Ytokckcnfojjpjaa
open Go.RowKit
set_option maxRecDepth 20000
def BitK (u:V):Prop:=∃ b:Int,0≤b∧b≤63∧u=i64 b
def elJ:El Int:=⟨fun cs n => cs=[iC n],1,fun h => by rw [h]; rfl,fun h => by rw [h]; exact ⟨trivial,trivial⟩⟩
theorem ld_J {c:C} {l:List Int} {n i:Nat} {K:V→Prop} (hc:Ls elJ c l) (hi:i<l.length) (hn:n=i) (k:K (.c (iC l[i]))):yI (c.ds.drop (n*1)) false 1 K:=by
 subst hn
 obtain ⟨cs,r,h1,h2⟩:=hc.els.get hi
 obtain rfl:cs=[iC l[n]]:=h1
 have h2:c.ds.drop (n*1)=[iC l[n]]++r:=h2
 rw [h2]
 exact yC (by rfl) k
theorem needs_quo {b:Int} (h:b≠0):needs .quo b=true:=by simp [needs,h]
attribute [local irreducible] yA semH semC qLen qNil qIad qSlc qIdx yW yI xA appX appI slcX awpF yP xH xopF xM qval lval seqQ xJ xY xU xR cnd arith IntKind.wrap
theorem law19_bits {c:C} {l:List R2} (hc:Ls elP c l) (hl:l.length<9223372036854775808):semC Try.prog n_law19_bits [.c c] BitK:=by
 refine yD ok_law19_bits rfl (show HFVs [.c c] from ⟨hc.hf,trivial⟩) ?_
 (refine go13 ?_; repeat (refine yC (by rfl) ?_; refine go13 ?_))
 refine yX (fun w vs H => ∃ (i:Nat) (b:Int),vs=[i64 b,.c c,i64 l.length,i64 i]∧w=l.length - i∧i≤l.length∧0≤b∧b≤63) (by rfl) ⟨0,0,rfl,rfl,by omega,by decide,by decide⟩ ?_
 rintro w vs H ⟨i,b,rfl,rfl,i1,b0,b63⟩
 (refine go13 ?_; repeat (refine yC (by rfl) ?_; refine go13 ?_))
 cases hi:yA Cm.lss (i:Int) (l.length:Int)
 case false =>
  simp [yA] at hi
  (refine go13 ?_; repeat (refine yC (by rfl) ?_; refine go13 ?_))
  exact ⟨_,.c (.hf trivial),b,b0,b63,rfl⟩
 simp [yA] at hi
 (refine go13 ?_; repeat (refine yC (by rfl) ?_; refine go13 ?_))
 refine uX hc (i:=i) hi (by omega) rfl (fun cs hcs => ?_)
 obtain rfl:cs=ratC l[i]:=hcs
 (refine go13 ?_; repeat (refine yC (by rfl) ?_; refine go13 ?_))
 have lp:Ls elJ (.imm 2 [iC l[i].1,iC l[i].2]) [l[i].1,l[i].2]:=.imm (.cons (cs:=[iC l[i].1]) rfl (.cons (cs:=[iC l[i].2]) rfl .nil))
 generalize hpl:[l[i].1,l[i].2]=pl at lp
 have hpl2:pl.length=2:=by rw [←hpl]; rfl
 refine yX (fun w vs H => ∃ (j:Nat) (b:Int),vs=[i64 b,.c c,i64 l.length,i64 i,.c (.imm 2 [iC l[i].1,iC l[i].2]),i64 2,i64 j]∧w=2 - j∧j≤2∧0≤b∧b≤63) (by rfl) ⟨0,b,rfl,rfl,by omega,b0,b63⟩ ?_
 clear b0 b63 b
 rintro w vs H2 ⟨j,b,rfl,rfl,j1,b0,b63⟩
 (refine go13 ?_; repeat (refine yC (by rfl) ?_; refine go13 ?_))
 cases hj:yA Cm.lss (j:Int) 2
 case false =>
  simp [yA] at hj
  (refine go13 ?_; repeat (refine yC (by rfl) ?_; refine go13 ?_))
  rw [xL i (by omega)]
  exact l_n (by rfl) (n':=l.length - (i+1)) (by omega) ⟨i+1,b,rfl,rfl,by omega,b0,b63⟩
 simp [yA] at hj
 (refine go13 ?_; repeat (refine yC (by rfl) ?_; refine go13 ?_))
 refine ld_J lp (i:=j) (by omega) (by omega) ?_
 generalize pl[j]'(by omega)=kk
 (refine go13 ?_; repeat (refine yC (by rfl) ?_; refine go13 ?_))
 refine yX (fun w vs H => ∃ (d:Nat) (b:Int),vs=[i64 b,i64 kk,i64 d,.c c,i64 l.length,i64 i,.c (.imm 2 [iC l[i].1,iC l[i].2]),i64 2,i64 j]∧w=63 - d∧d≤63∧0≤b∧b≤63) (by rfl) ⟨0,b,rfl,rfl,by omega,b0,b63⟩ ?_
 clear b0 b63 b
 rintro w vs H3 ⟨d,b,rfl,rfl,d1,b0,b63⟩
 (refine go13 ?_; repeat (refine yC (by rfl) ?_; refine go13 ?_))
 cases hd:yA Cm.lss (d:Int) 63
 case false =>
  simp [yA] at hd
  (refine go13 ?_; repeat (refine yC (by rfl) ?_; refine go13 ?_))
  rw [xL j (by omega)]
  exact l_n (by rfl) (n':=2 - (j+1)) (by omega) ⟨j+1,b,rfl,rfl,by omega,b0,b63⟩
 simp [yA] at hd
 (refine go13 ?_; repeat (refine yC (by rfl) ?_; refine go13 ?_))
 have fin:∀ (b2:Int),0≤b2→b2≤63→0≤(if ((d+1:Nat):Int) > b2 then ((d+1:Nat):Int) else b2)∧(if ((d+1:Nat):Int) > b2 then ((d+1:Nat):Int) else b2)≤63:=fun b2 h1 h2 => by split <;> omega
 generalize yA Cm.neq _ 0=w1
 cases w1
 case true =>
  (refine go13 ?_; repeat (refine yC (by rfl) ?_; refine go13 ?_))
  cases w2:yA Cm.gtr kk 0
  case true =>
   (refine go13 ?_; repeat (refine yC (by rfl) ?_; refine go13 ?_))
   rw [xL d (by omega)]
   exact l_n (by rfl) (n':=63 - (d+1)) (by omega) ⟨d+1,_,rfl,rfl,by omega,(fin b b0 b63).1,(fin b b0 b63).2⟩
  (refine go13 ?_; repeat (refine yC (by rfl) ?_; refine go13 ?_))
  generalize yA Cm.neq _ 0=w3
  cases w3
  case true =>
   (refine go13 ?_; repeat (refine yC (by rfl) ?_; refine go13 ?_))
   cases w4:yA Cm.lss kk 0
   case true =>
    (refine go13 ?_; repeat (refine yC (by rfl) ?_; refine go13 ?_))
    rw [xL d (by omega)]
    exact l_n (by rfl) (n':=63 - (d+1)) (by omega) ⟨d+1,_,rfl,rfl,by omega,(fin b b0 b63).1,(fin b b0 b63).2⟩
   (refine go13 ?_; repeat (refine yC (by rfl) ?_; refine go13 ?_))
   rw [xL d (by omega)]
   exact l_n (by rfl) (n':=63 - (d+1)) (by omega) ⟨d+1,_,rfl,rfl,by omega,b0,b63⟩
  (refine go13 ?_; repeat (refine yC (by rfl) ?_; refine go13 ?_))
  rw [xL d (by omega)]
  exact l_n (by rfl) (n':=63 - (d+1)) (by omega) ⟨d+1,_,rfl,rfl,by omega,b0,b63⟩
 (refine go13 ?_; repeat (refine yC (by rfl) ?_; refine go13 ?_))
 generalize yA Cm.neq _ 0=w3
 cases w3
 case true =>
  (refine go13 ?_; repeat (refine yC (by rfl) ?_; refine go13 ?_))
  cases w4:yA Cm.lss kk 0
  case true =>
   (refine go13 ?_; repeat (refine yC (by rfl) ?_; refine go13 ?_))
   rw [xL d (by omega)]
   exact l_n (by rfl) (n':=63 - (d+1)) (by omega) ⟨d+1,_,rfl,rfl,by omega,(fin b b0 b63).1,(fin b b0 b63).2⟩
  (refine go13 ?_; repeat (refine yC (by rfl) ?_; refine go13 ?_))
  rw [xL d (by omega)]
  exact l_n (by rfl) (n':=63 - (d+1)) (by omega) ⟨d+1,_,rfl,rfl,by omega,b0,b63⟩
 (refine go13 ?_; repeat (refine yC (by rfl) ?_; refine go13 ?_))
 rw [xL d (by omega)]
 exact l_n (by rfl) (n':=63 - (d+1)) (by omega) ⟨d+1,_,rfl,rfl,by omega,b0,b63⟩
theorem law19_IsLong {cV cx:C} {W x:List R2} (R Cc n:Int) (h:R2) (hV:Ls elP cV W) (hVl:W.length<9223372036854775808) (hx:Ls elP cx x) (hxl:x.length<9223372036854775808):semC Try.prog n_law19_IsLong [.agg [iC R,iC Cc,cV],.c cx,.agg (ratC h),i64 n] (fun u => ∃ b:Bool,u=.c (.bool b)):=by
 refine yD ok_law19_IsLong rfl (show HFVs [.agg [iC R,iC Cc,cV],.c cx,.agg (ratC h),i64 n] from ⟨⟨trivial,trivial,hV.hf,trivial⟩,hx.hf,qU _,trivial,trivial⟩) ?_
 (refine go13 ?_; repeat (refine yC (by rfl) ?_; refine go13 ?_))
 cases q1:yA Cm.lss n 0
 case true =>
  (refine go13 ?_; repeat (refine yC (by rfl) ?_; refine go13 ?_))
  exact ⟨_,.c (.hf trivial),_,rfl⟩
 (refine go13 ?_; repeat (refine yC (by rfl) ?_; refine go13 ?_))
 cases q2:yA Cm.gtr n 60
 case true =>
  (refine go13 ?_; repeat (refine yC (by rfl) ?_; refine go13 ?_))
  exact ⟨_,.c (.hf trivial),_,rfl⟩
 (refine go13 ?_; repeat (refine yC (by rfl) ?_; refine go13 ?_))
 cases q3:yA Cm.lss R 0
 case true =>
  (refine go13 ?_; repeat (refine yC (by rfl) ?_; refine go13 ?_))
  exact ⟨_,.c (.hf trivial),_,rfl⟩
 (refine go13 ?_; repeat (refine yC (by rfl) ?_; refine go13 ?_))
 cases q4:yA Cm.gtr R 64
 case true =>
  (refine go13 ?_; repeat (refine yC (by rfl) ?_; refine go13 ?_))
  exact ⟨_,.c (.hf trivial),_,rfl⟩
 simp [yA] at q1 q2 q3 q4
 (refine go13 ?_; repeat (refine yC (by rfl) ?_; refine go13 ?_))
 refine yS (law19_bits hV hVl) (fun u hu => ?_)
 obtain ⟨b1,b10,b163,rfl⟩:=hu
 (refine go13 ?_; repeat (refine yC (by rfl) ?_; refine go13 ?_))
 refine yS (law19_bits hx hxl) (fun u hu => ?_)
 obtain ⟨b2,b20,b263,rfl⟩:=hu
 (refine go13 ?_; repeat (refine yC (by rfl) ?_; refine go13 ?_))
 refine yB (law19_bits (c:=.imm 1 (ratC h)) (l:=[h]) (.imm (.one rfl)) (by simp)) (fun u hu => ?_)
 obtain ⟨b3,b30,b363,rfl⟩:=hu
 (refine go13 ?_; repeat (refine yC (by rfl) ?_; refine go13 ?_))
 refine q_ar (by rfl) (by rfl) (needs_quo (by split <;> omega)) ?_
 (refine go13 ?_; repeat (refine yC (by rfl) ?_; refine go13 ?_))
 exact ⟨_,.c (.hf trivial),_,rfl⟩
end Go.Proofs.Ytokckcnfojjpjaa

namespace Go.Proofs.Ytokckcnfojjpjaa
open Go.RowKit
set_option maxRecDepth 20000
attribute [local irreducible] yA semH semC qLen qNil qIad qSlc qIdx yW yI xA appX appI slcX awpF yP xH xopF xM qval lval seqQ xJ xY xU xR cnd arith IntKind.wrap
theorem law19_same {c d:C} {l m:List R2} (hc:Ls elP c l) (hd:Ls elP d m) (hl:l.length<1073741824) (hm:m.length<1073741824):semC Try.prog n_law19_same [.c c,.c d] (sJ (l=m)):=by
 refine yD ok_law19_same rfl (show HFVs [.c c,.c d] from ⟨hc.hf,hd.hf,trivial⟩) ?_
 refine go13 ?_
 cases h1:yA Cm.neq (l.length:Int) (m.length:Int)
 case true =>
  simp [yA] at h1
  refine go13 ?_
  exact ⟨_,.c (.hf trivial),false,rfl,⟨fun h => (by cases h),fun h => absurd (congrArg List.length h) (by omega)⟩⟩
 simp [yA] at h1
 refine go13 ?_
 refine yX (fun w vs H => ∃ (i:Nat),vs=[.c c,.c d,i64 l.length,i64 i]∧w=l.length - i∧i≤l.length∧l.take i=m.take i) (by rfl) ⟨0,rfl,rfl,by omega,rfl⟩ ?_
 rintro w vs H ⟨i,rfl,rfl,i1,i2⟩
 refine go13 ?_
 cases hi:yA Cm.lss (i:Int) (l.length:Int)
 case false =>
  simp [yA] at hi
  rw [uB (by omega),uB (by omega)] at i2
  refine go13 ?_
  exact ⟨_,.c (.hf trivial),true,rfl,⟨fun _ => i2,fun _ => rfl⟩⟩
 simp [yA] at hi
 refine go13 ?_
 refine uX hc (i:=i) hi (by omega) rfl (fun cs hcs => ?_)
 obtain rfl:=(show cs=ratC _ from hcs)
 refine go13 ?_
 refine uX hd (i:=i) (by omega) (by omega) rfl (fun ds hds => ?_)
 obtain rfl:=(show ds=ratC _ from hds)
 refine go13 ?_
 rw [ne_pair l[i] (m[i]'(by omega))]
 cases he:dec (l[i]=m[i]'(by omega))
 case false =>
  refine go13 ?_
  refine ⟨_,.c (.hf trivial),false,rfl,⟨fun h => (by cases h),fun h => absurd ?_ (yK.1 he)⟩⟩
  subst h
  rfl
 refine go13 ?_
 rw [xL i (by omega)]
 refine l_n (by rfl) (n':=l.length - (i+1)) (by omega) ⟨i+1,rfl,rfl,by omega,?_⟩
 rw [wA hi,wA (show i<m.length by omega),i2,yE.1 he]
end Go.Proofs.Ytokckcnfojjpjaa

namespace Go.Proofs.Ytokckcnfojjpjaa
open Go.RowKit
set_option maxRecDepth 20000
theorem ld_LRs {c:C} {l:List (List R2)} {n i:Nat} {K:V→Prop} (hc:Ls elLR c l) (hi:i<l.length) (hn:n=i) (h:∀ d,Ls elP d l[i]→l[i].length<1048576→K (.c d)):yI (c.ds.drop (n*1)) false 1 K:=by
 subst hn
 obtain ⟨cs,r,h1,h2⟩:=hc.els.get hi
 obtain ⟨d,rfl,h3,h4⟩:=h1
 have h2:c.ds.drop (n*1)=[d]++r:=h2
 rw [h2]
 exact h d h3 h4
attribute [local irreducible] yA semH semC qLen qNil qIad qSlc qIdx yW yI xA appX appI slcX awpF yP xH xopF xM qval lval seqQ xJ xY xU xR cnd arith IntKind.wrap
end Go.Proofs.Ytokckcnfojjpjaa
