/-
  Parts of the proof: Functions: what the abstract weakest precondition of a body shows, a call of the function does.
-/
import Derived.Test.YtokckcnfojjpjaaNg12
import Derived.Laws.Sem
set_option linter.unusedVariables false
set_option linter.unusedSimpArgs false
namespace Go.Proofs.Ytokckcnfojjpjaa
open Go.RowKit
inductive ARes where
 | tmp (t:Nat)
 | cell (a:Nat) (agg:Bool) (size:Nat)
 deriving Inhabited
def bH (P:Program):List ResultVar→Option (List ARes)
 | [] => some []
 | .tmp t :: r => match bH P r with
  | some rs => some (.tmp t :: rs)
  | none => none
 | .cell a t :: r => match tsize P t,bH P r with
  | some (agg,size),some rs => some (.cell a agg size :: rs)
  | _,_ => none
def retK (st:St):List ARes→(List V→Prop)→Prop
 | [],K => K []
 | .tmp t :: r,K => match st.env t with
  | some v => retK st r fun vs => K (v :: vs)
  | none => False
 | .cell a agg size :: r,K => lval st.env (fun b => st.H[b]?) agg size (.t a) fun v => retK st r fun vs => K (v :: vs)
def one:List V→V
 | [v] => v
 | vs => .tup vs
def oneV:List Value→Value
 | [v] => v
 | vs => .tuple vs.toArray
def gT:List V→Nat→Env
 | [],_ => fun _ => none
 | v :: r,i => put (gT r (i+1)) i v
def bodyQ (rs:List ARes) (K:V→Hp→Prop):Ex→St→Prop
 | .exit _,_ => False
 | _,st => retK st rs fun vs => K (one vs) st.H
def FnOk (P:Program) (f:FuncId) (ac:yV) (rs:List ARes) (n:Nat):Prop :=
 ∃ fn c,P.funcs[f]?=some fn∧(fn.name == "runtime.NumGoroutine")=false∧fn.body=some c∧sB P n c=some ac.erase∧bH P fn.results.toList=some rs∧fn.ntmps=n
theorem FnOk.of {P:Program} {f:FuncId} {fn:Func} {ac:yV} {rs:List ARes} {n:Nat} (h1:P.funcs[f]?=some fn) (h2:(fn.name == "runtime.NumGoroutine")=false)
  (h3:fn.body.bind (sB P n)=some ac.erase) (h4:bH P fn.results.toList=some rs) (h5:fn.ntmps=n):FnOk P f ac rs n:=by
 cases hb:fn.body with
 | none => simp [hb] at h3
 | some c => exact ⟨fn,c,h1,h2,hb,by simpa [hb] using h3,h4,h5⟩
theorem FnOk.ok {P:Program} {f:FuncId} {ac:yV} {rs:List ARes} {n:Nat} (h:FnOk P f ac rs n):okFn P f:=by
 obtain ⟨fn,c,h1,h2,h3,_⟩:=h
 exact ⟨fn,h1,h2,by rw [h3]; rfl⟩
theorem argEnv_get:∀ {args:List V} {i t:Nat} {u:V},gT args i t=some u→i≤t∧args[t - i]?=some u
 | [],i,t,u,h => by cases h
 | v :: r,i,t,u,h => by
  by_cases hit:i=t
  ·subst hit
   have:put (gT r (i+1)) i v i=some u:=h
   simp [put] at this
   subst this
   simp
  ·have h1:put (gT r (i+1)) i v t=some u:=h
   rw [put_ne hit] at h1
   obtain ⟨h2,h3⟩:=argEnv_get h1
   refine ⟨by omega,?_⟩
   have:t - i=(t - (i+1))+1:=by omega
   rw [this]
   simpa using h3
section
variable {P:Program} {base:Nat→Prop}
theorem lval_loads {st:St} {a:Act} {w:World} {β:Nat→Nat} {t:TypeId} {y:Nat} {agg:Bool} {size:Nat} {K:V→Prop} (hs:SRel base st a w β) (ht:tsize P t=some (agg,size)) (h:lval st.env (fun b => st.H[b]?) agg size (.t y) K) :
  ∃ (ad:Addr) (v:Value) (u:V),a.tmps.getD y undef=.pointer (some ad)∧(loadVar t ad).run P w=.ok v w∧RV (cx base w β st.H) u v∧K u:=by
 have hc:yY (.tmp y)=some (.t y):=rfl
 have fin:∀ (ad:Addr) (cs:List C) (vs:List Value),a.eval (.tmp y)=.pointer (some ad)→RL (cx base w β st.H) cs vs→(∀ j v,vs[j]?=some v→w.cell? (ad.add j)=some v)→(agg=true→cs.length=size∧K (.agg cs))→(agg=false→∃ c,cs=[c]∧K (.c c)) → 
   ∃ (ad:Addr) (v:Value) (u:V),a.tmps.getD y undef=.pointer (some ad)∧(loadVar t ad).run P w=.ok v w∧RV (cx base w β st.H) u v∧K u:=by
  intro ad cs vs he hr hcell h1 h2
  cases hagg:agg with
  | true =>
   obtain ⟨hlen,hK⟩:=h1 hagg
   obtain ⟨v,hv,hv1,_⟩:=qC (w:=w) ht ad vs (by rw [hr.len,hlen,hagg]; simp) hcell
   exact ⟨ad,v,.agg cs,he,hv,by rw [hv1 hagg]; exact .agg hr,hK⟩
  | false =>
   obtain ⟨c,rfl,hK⟩:=h2 hagg
   obtain ⟨v,hv,_,hv2⟩:=qC (w:=w) ht ad vs (by rw [hr.len,hagg]; simp) hcell
   obtain rfl:=hv2 hagg
   exact ⟨ad,v,.c c,he,hv,by cases hr with | cons h _ => exact .c h,hK⟩
 dsimp only [lval,yW,yI] at h
 split at h
 ·rename_i b off hu
  have hptr:=(yH hs hc hu).c_inv
  split at h
  ·rename_i bx hb
   obtain ⟨vs,rest,fr,g1,_,g3⟩:=hs.hp.row hb
   have hev:a.eval (.tmp y)=.pointer (some ⟨β b,off,none⟩):=hptr.ptr_inv.1
   have hcell:∀ (n:Nat) (j:Nat) (v:Value),((vs.drop off).take n)[j]?=some v→w.cell? ((⟨β b,off,none⟩:Addr).add j)=some v:=by
    intro n j v hj
    rw [nP g1]
    rw [List.getElem?_take] at hj
    split at hj
    ·rw [List.getElem?_drop] at hj
     rw [List.getElem?_append_left (lt_of_getElem? hj)]
     exact hj
    ·cases hj
   split at h
   ·obtain ⟨hle,hK⟩:=wB h
    have hle':off+size≤bx.cells.length:=Nat.le_of_ble_eq_true hle
    exact fin _ _ _ hev ((g3.drop off).take size) (hcell size) (fun _ => ⟨by simp; omega,hK⟩) (fun h => by cases h)
   ·split at h
    ·rename_i c hcc
     obtain ⟨v,hv,hr⟩:=g3.get hcc
     refine fin _ [c] [v] hev (.cons hr .nil) (fun j u hj => ?_) (fun h => by cases h) (fun _ => ⟨c,rfl,h⟩)
     cases j with
     | zero =>
      simp at hj
      subst hj
      exact hcell 1 0 v (by simp [List.getElem?_take,hv])
     | succ j => simp at hj
    ·exact h.elim
  ·exact h.elim
 ·rename_i cs hu
  obtain ⟨ad,vs,e1,hcl,hr⟩:=(yH hs hc hu).c_inv.ipt_inv
  split at h
  ·obtain ⟨hle,hK⟩:=wB h
   have hle':size≤cs.length:=Nat.le_of_ble_eq_true hle
   exact fin ad _ _ e1 (hr.take size) (fun j v hj => by
    rw [List.getElem?_take] at hj
    split at hj
    ·exact (hcl j v hj).2
    ·cases hj) (fun _ => ⟨by simp; omega,hK⟩) (fun h => by cases h)
  ·split at h
   ·rename_i c hcc
    obtain ⟨v,hv,hr'⟩:=hr.get hcc
    refine fin ad [c] [v] e1 (.cons hr' .nil) (fun j u hj => ?_) (fun h => by cases h) (fun _ => ⟨c,rfl,h⟩)
    cases j with
    | zero =>
     simp at hj
     subst hj
     exact (hcl 0 v hv).2
    | succ j => simp at hj
   ·exact h.elim
 ·exact h.elim
theorem retK_sound {st:St} {a:Act} {w:World} {β:Nat→Nat} {f:ResultVar→Sem Value} (hf1:∀ t,f (.tmp t)=pure (a.tmps.getD t undef)) (hf2:∀ b t ad,a.tmps.getD b undef=.pointer (some ad)→f (.cell b t)=loadVar t ad) (hs:SRel base st a w β):∀ {l:List ResultVar} {rs:List ARes} {K:List V→Prop},bH P l=some rs→retK st rs K →
  ∃ us vs,(l.mapM f).run P w=.ok vs w∧RVL (cx base w β st.H) us vs∧K us
 | [],rs,K,hc,h => by
  simp [bH] at hc
  subst hc
  exact ⟨[],[],by simp,.nil,h⟩
 | .tmp t :: l,rs,K,hc,h => by
  unfold bH at hc
  split at hc
  ·rename_i rs' hrs
   simp at hc
   subst hc
   unfold retK at h
   split at h
   ·rename_i v hv
    obtain ⟨us,vs,h1,h2,h3⟩:=retK_sound hf1 hf2 hs hrs h
    refine ⟨v :: us,_ :: vs,?_,.cons (hs.env t v hv) h2,h3⟩
    rw [List.mapM_cons]
    simp only [Sem.run_bind,Sem.run_pure,Result.andThen_ok,h1,hf1]
   ·exact h.elim
  ·cases hc
 | .cell b t :: l,rs,K,hc,h => by
  unfold bH at hc
  split at hc
  ·rename_i agg size rs' ht hrs
   simp at hc
   subst hc
   unfold retK at h
   obtain ⟨ad,v,u,e1,e2,e3,h'⟩:=lval_loads hs ht h
   obtain ⟨us,vs,h1,h2,h3⟩:=retK_sound hf1 hf2 hs hrs h'
   refine ⟨u :: us,v :: vs,?_,.cons e3 h2,h3⟩
   rw [List.mapM_cons]
   simp only [Sem.run_bind,Sem.run_pure,Result.andThen_ok,h1,hf2 b t ad e1,e2]
  ·cases hc
theorem results_run {fn:Func} {st:St} {a:Act} {w:World} {β:Nat→Nat} {rs:List ARes} {K:List V→Prop} (hs:SRel base st a w β) (hc:bH P fn.results.toList=some rs) (h:retK st rs K) :
  ∃ us vs,(results fn a.tmps).run P w=.ok (oneV vs) w∧RVL (cx base w β st.H) us vs∧K us:=by
 unfold results
 rw [Array.mapM_eq_mapM_toList]
 generalize hf:(fun x:ResultVar => (match x with
  | .tmp t => pure (a.tmps.getD t undef)
  | .cell b t => do loadVar t (←asAddr (a.tmps.getD b undef)):Sem Value))=f
 obtain ⟨us,vs,h1,h2,h3⟩:=retK_sound (f:=f) (fun t => by rw [←hf]) (fun b t ad e => by rw [←hf]; simp only [e,asAddr,pure_bind]) hs hc h
 refine ⟨us,vs,?_,h2,h3⟩
 have e2:(List.toArray <$> List.mapM f fn.results.toList).run P w=.ok vs.toArray w:=by
  simp [h1]
 rw [Sem.run_bind]
 refine (congrArg (fun x => Result.andThen x _) e2).trans ?_
 rcases vs with _ | ⟨x,_ | ⟨y,r⟩⟩ <;> simp [oneV]
theorem one_rel {x:Cx} {us:List V} {vs:List Value} (h:RVL x us vs):RV x (one us) (oneV vs):=by
 cases h with
 | nil => exact .tup .nil
 | cons h t =>
  cases t with
  | nil => exact h
  | cons h2 t2 => exact .tup (.cons h (.cons h2 t2))
theorem fn_calls {f:FuncId} {ac:yV} {rs:List ARes} {n:Nat} (hk:FnOk P f ac rs n) {args:List V} (hl:args.length≤n) {H:Hp} {K:V→Hp→Prop}
  (h:awp P ac (bodyQ rs K) ⟨gT args 0,H⟩) {w:World} {β:Nat→Nat} {vs:List Value} (hp:HRel base w β H) (hv:RVL (cx base w β H) args vs) :
  Calls P f vs.toArray w fun e w' => ∃ (v:Value) (u:V) (β':Nat→Nat) (H':Hp),e=.returned v∧K u H'∧HRel base w' β' H'∧Ext w β H w' β' H'∧RV (cx base w' β' H') u v:=by
 obtain ⟨fn,c,h1,h2,h3,h4,h5,h6⟩:=hk
 have hlen:=hv.len
 refine calls_of_wp h1 h3 (wp_mono (awp_sound (base:=base) (N:=n) (D:=[]) ac c h4 _ ⟨gT args 0,H⟩ _ w β ⟨⟨hp,fun t u hu => ?_⟩,?_,rfl⟩ h) ?_)
 ·obtain ⟨_,hg⟩:=argEnv_get hu
  obtain ⟨v,hgv,hr⟩:=hv.get hg
  have e:((vs.toArray++Array.replicate (fn.ntmps - vs.toArray.size) undef).getD t undef)=v:=by
   have hlt:=lt_of_getElem? hgv
   simp only [Nat.sub_zero] at hgv hlt
   have hlt':t<vs.toArray.size:=by simpa using hlt
   rw [Array.getD_eq_getD_getElem?,Array.getElem?_append_left hlt']
   simp [hgv]
  show RV _ u _
  rw [e]
  exact hr
 ·simp [h6,hlen]
  omega
 ·rintro e a' w' ⟨ae,st',β',he,hrel,hx,hq⟩
  have fin:retK st' rs (fun us => K (one us) st'.H)→a'.defers=[]∧∃ v,(results fn a'.tmps).run P w'=.ok v w'∧(∃ (v1:Value) (u:V) (β':Nat→Nat) (H':Hp),Ending.returned v=.returned v1∧K u H'∧HRel base w' β' H'∧Ext w β H w' β' H'∧RV (cx base w' β' H') u v1):=by
   intro hK
   obtain ⟨us,vs',k1,k2,k3⟩:=results_run hrel.rel h5 hK
   exact ⟨hrel.defers,_,k1,_,one us,β',st'.H,rfl,k3,hrel.rel.hp,hx,one_rel k2⟩
  cases e <;> cases ae <;> simp only [ERel] at he
  ·exact fin hq
  ·exact hq.elim
  ·exact fin hq
theorem semH_of_awp {f:FuncId} {ac:yV} {rs:List ARes} {n:Nat} (hk:FnOk P f ac rs n) {args:List V} (hl:Nat.ble args.length n=true) {H:Hp} {K:V→Hp→Prop}
  (h:awp P ac (bodyQ rs K) ⟨gT args 0,H⟩):semH P f args H K :=
 ⟨hk.ok,fun base w β vs hp hv => fn_calls hk (Nat.le_of_ble_eq_true hl) h hp hv⟩
mutual
inductive Fz (p:BK→Prop) (H:Hp):C→C→Prop
 | hf {c:C} (h:HFC c):Fz p H c c
 | sl {b off n:Nat} {co:Option Nat} {es:Nat} {bx:Box} {ds:List C} (h:H[b]?=some (.live bx)) (hk:p bx.kind) (hk':bx.kind≠.bor) (hd:FzL p H ((bx.cells.drop off).take (n*es)) ds):Fz p H (.sl b off n co es) (.imm n ds)
 | ptr {b off:Nat} {bx:Box} {ds:List C} (h:H[b]?=some (.live bx)) (hk:p bx.kind) (hk':bx.kind≠.bor) (hd:FzL p H (bx.cells.drop off) ds):Fz p H (.ptr b off) (.ipt ds)
 | fn {f:FuncId} {cs ds:List C} (hd:FzL p H cs ds):Fz p H (.fn f cs) (.fn f ds)
 | imm {n:Nat} {cs ds:List C} (hd:FzL p H cs ds):Fz p H (.imm n cs) (.imm n ds)
inductive FzL (p:BK→Prop) (H:Hp):List C→List C→Prop
 | nil:FzL p H [] []
 | cons {c d:C} {cs ds:List C} (h:Fz p H c d) (t:FzL p H cs ds):FzL p H (c :: cs) (d :: ds)
end
mutual
inductive FzVp (p:BK→Prop) (H:Hp):V→V→Prop
 | c {c d:C} (h:Fz p H c d):FzVp p H (.c c) (.c d)
 | agg {cs ds:List C} (h:FzL p H cs ds):FzVp p H (.agg cs) (.agg ds)
 | tup {us ds:List V} (h:FzVs p H us ds):FzVp p H (.tup us) (.tup ds)
inductive FzVs (p:BK→Prop) (H:Hp):List V→List V→Prop
 | nil:FzVs p H [] []
 | cons {c d:V} {cs ds:List V} (h:FzVp p H c d) (t:FzVs p H cs ds):FzVs p H (c :: cs) (d :: ds)
end
abbrev FzV (H:Hp):V→V→Prop:=FzVp (·≠.bor) H
theorem FzL.hf {p:BK→Prop} {H:Hp}:∀ {cs:List C},HFL cs→FzL p H cs cs
 | [],_ => .nil
 | c :: r,h => by
  simp only [HFL] at h
  exact .cons (.hf h.1) (FzL.hf h.2)
theorem box_cells {w:World} {β:Nat→Nat} {H:Hp} (hp:HRel base w β H) {b:Nat} {bx:Box} (hb:H[b]?=some (.live bx)) (hk:bx.kind≠.bor) (off:Nat) :
  ∃ vs:List Value,RL (cx base w β H) (bx.cells.drop off) vs∧∀ j v,vs[j]?=some v→w.cell? ((⟨β b,off,none⟩:Addr).add j)=some v:=by
 obtain ⟨vs,rest,fr,g1,g2,g3⟩:=hp.cells b bx hb
 refine ⟨vs.drop off,g3.drop off,fun j v hj => ?_⟩
 have hfr:=g2 hk
 subst hfr
 rw [List.getElem?_drop] at hj
 have hlt:=lt_of_getElem? hj
 have:(vs++rest).toArray[off+j]?=some v:=by
  simp [List.getElem?_append_left hlt,hj]
 by_cases h0:j=0
 ·subst h0
  simpa [Addr.add,World.cell?,g1] using this
 ·simpa [Addr.add,World.cell?,g1,h0] using this
section
variable {p:BK→Prop} {O:Nat→Prop} {w:World} {β:Nat→Nat} {H:Hp}
mutual
theorem Fz.sound (hp:HRel base w β H) (hO:∀ b bx,H[b]?=some (.live bx)→p bx.kind→¬ O (β b)) (hO':∀ k,O k→sU base β H k):∀ {c d:C} {v:Value},Fz p H c d→R (cx base w β H) c v→R (cx0 O w) d v
 | _,_,_,.hf h,r => r.hf (x:=cx base w β H) (y:=cx0 O w) rfl (fun k hk => hO' k hk) h
 | _,_,_,.sl (off:=off) (n:=n) (bx:=bx) hb hk hk' hd,r => by
  cases r with
  | @sl _ _ off' _ _ m _ cap hnb hn hco ho hm hfit =>
   by_cases h0:n=0
   ·subst h0
    simp at hd
    cases hd
    exact .imm (vs:=[]) hn (fun j v hj => by simp at hj) .nil
   ·obtain ⟨vs,h1,h2⟩:=box_cells hp hb hk' off
    have:off'=off:=ho (by omega)
    subst this
    exact .imm hn (fun j v hj => by
     rw [List.getElem?_take] at hj
     split at hj
     ·exact ⟨hO _ _ hb hk,h2 j v hj⟩
     ·cases hj) (hd.sound hp hO hO' (h1.take _))
 | _,_,_,.ptr hb hk hk' hd,r => by
  cases r with
  | ptr hnb =>
   obtain ⟨vs,h1,h2⟩:=box_cells hp hb hk' _
   exact .ipt (fun j v hj => ⟨hO _ _ hb hk,h2 j v hj⟩) (hd.sound hp hO hO' h1)
 | _,_,_,.fn hd,r => by
  cases r with
  | fn hr => exact .fn (hd.sound hp hO hO' hr)
 | _,_,_,.imm hd,r => by
  cases r with
  | imm hn hc hr => exact .imm hn (fun j v hj => ⟨fun e => (hc j v hj).1 (hO' _ e),(hc j v hj).2⟩) (hd.sound hp hO hO' hr)
theorem FzL.sound (hp:HRel base w β H) (hO:∀ b bx,H[b]?=some (.live bx)→p bx.kind→¬ O (β b)) (hO':∀ k,O k→sU base β H k):∀ {cs ds:List C} {vs:List Value},FzL p H cs ds→RL (cx base w β H) cs vs→RL (cx0 O w) ds vs
 | _,_,_,.nil,r => by
  cases r
  exact .nil
 | _,_,_,.cons h t,r => by
  cases r with
  | cons r1 r2 => exact .cons (h.sound hp hO hO' r1) (t.sound hp hO hO' r2)
end
mutual
theorem FzVp.sound (hp:HRel base w β H) (hO:∀ b bx,H[b]?=some (.live bx)→p bx.kind→¬ O (β b)) (hO':∀ k,O k→sU base β H k):∀ {c d:V} {v:Value},FzVp p H c d→RV (cx base w β H) c v→RV (cx0 O w) d v
 | _,_,_,.c h,r => by
  cases r with
  | c r => exact .c (h.sound hp hO hO' r)
 | _,_,_,.agg h,r => by
  cases r with
  | agg r => exact .agg (h.sound hp hO hO' r)
 | _,_,_,.tup h,r => by
  cases r with
  | tup r => exact .tup (FzVs.sound hp hO hO' h r)
theorem FzVs.sound (hp:HRel base w β H) (hO:∀ b bx,H[b]?=some (.live bx)→p bx.kind→¬ O (β b)) (hO':∀ k,O k→sU base β H k):∀ {cs ds:List V} {vs:List Value},FzVs p H cs ds→RVL (cx base w β H) cs vs→RVL (cx0 O w) ds vs
 | _,_,_,.nil,r => by
  cases r
  exact .nil
 | _,_,_,.cons h t,r => by
  cases r with
  | cons r1 r2 => exact .cons (h.sound hp hO hO' r1) (FzVs.sound hp hO hO' t r2)
end
end
theorem semC_of_awp {f:FuncId} {ac:yV} {rs:List ARes} {n:Nat} (hk:FnOk P f ac rs n) {args:List V} (hl:Nat.ble args.length n=true) (hh:HFVs args) {K:V→Prop}
  (h:awp P ac (bodyQ rs fun u H => ∃ d,FzV H u d∧K d) ⟨gT args 0,[]⟩):semC P f args K:=by
 refine ⟨hk.ok,hh,fun base w vs hb hv => ?_⟩
 have hp:HRel base w (fun _ => 0) []:=⟨fun i bx hi => by simp at hi,fun i j bx bx' hi => by simp at hi,fun i bx hi => by simp at hi,hb,fun i es hi => by simp at hi,fun i j es es' hi => by simp at hi⟩
 have hv':RVL (cx base w (fun _ => 0) []) args vs:=RVL.hf (x:=cx0 base w) (y:=cx base w (fun _ => 0) []) rfl (fun k hk => hk.elim id fun h => h.elim (fun ⟨i,bx,hi,_⟩ => by simp at hi) (fun ⟨i,es,hi,_⟩ => by simp at hi)) hv hh
 refine (fn_calls hk (Nat.le_of_ble_eq_true hl) h hp hv').mono ?_
 rintro e w' ⟨v,u,β',H',he,⟨d,hd,hK⟩,hp',hx,hr⟩
 refine ⟨v,d,he,hK,hd.sound hp' (fun b bx hb hk => hp'.nbase b bx hb hk) (fun k hk => .inl hk) hr,⟨hx.size,fun k hk => (hx.keep k hk ?_).2,hx.os,hx.tape,hx.output⟩⟩
 rintro (⟨i,bx,hi,_⟩ | ⟨i,es,hi,_⟩)
 ·simp at hi
 ·simp at hi
theorem yB {f:FuncId} {args:List V} {H:Hp} {K':V→Prop} {K:V→Hp→Prop} (h:semC P f args K') (hK:∀ u,K' u→K u H):semH P f args H K:=by
 refine ⟨h.1,fun base w β vs hp hv => (semC_calls (st:=⟨fun _ => none,H⟩) hp hv h).mono ?_⟩
 rintro e w' ⟨v,u,β',H',he,⟨hk,rfl⟩,h1,h2,h3⟩
 exact ⟨v,u,β',_,he,hK u hk,h1,h2,h3⟩
def xQ (H:Hp):List Nat→Hp
 | [] => H
 | b :: r => match (xQ H r)[b]? with
  | some (.live bx) => match bx.kind with
   | .rw => (xQ H r).set b (.live ⟨bx.cells,bx.elem,.ro⟩)
   | _ => xQ H r
  | _ => xQ H r
theorem HRel.closeB {w:World} {β:Nat→Nat} {H:Hp} (hp:HRel base w β H):∀ bs:List Nat,HRel base w β (xQ H bs)∧Ext w β H w β (xQ H bs)
 | [] => ⟨hp,Ext.refl _ _ _⟩
 | b :: r => by
  obtain ⟨h1,h2⟩:=HRel.closeB hp r
  unfold Proofs.Ytokckcnfojjpjaa.xQ
  split
  ·rename_i bx hb
   split
   ·rename_i hk
    obtain ⟨h3,h4⟩:=h1.strike (i:=b) (o:=.live ⟨bx.cells,bx.elem,.ro⟩) (fun e => by cases e) (fun b' e => by
     cases e
     exact ⟨bx,hb,(by rw [hk]; intro e; cases e),rfl⟩) (fun es e => by cases e)
    exact ⟨h3,h2.trans h4⟩
   ·exact ⟨h1,h2⟩
  ·exact ⟨h1,h2⟩
theorem xK {f:FuncId} {args ds:List V} {H:Hp} {K':V→Prop} {K:V→Hp→Prop} (bs:List Nat) (hd:FzVs (·=.ro) (xQ H bs) args ds) (h:semC P f ds K') (hK:∀ u,K' u→K u (xQ H bs)):semH P f args H K:=by
 refine ⟨h.1,fun base w β vs hp hv => ?_⟩
 obtain ⟨hp1,hx1⟩:=HRel.closeB hp bs
 have hv1:=RVL.to (hx1.to base) hv
 have hv2:=FzVs.sound (O:=sU base β (xQ H bs)) hp1 (fun b bx hb hk => ?_) (fun k hk => hk) hd hv1
 ·refine (h.2.2 (sU base β (xQ H bs)) w vs (fun k hk => hp1.own_lt hk) hv2).mono ?_
  rintro e w' ⟨v,u,he,hk,hr,hq⟩
  obtain ⟨h1,h2⟩:=hp1.quiet hq
  refine ⟨v,u,β,_,he,hK u hk,h1,hx1.trans h2,RV.to (x:=cx0 (sU base β (xQ H bs)) w') (y:=cx base w' β (xQ H bs)) ⟨fun i hi => hi.elim,fun i hi => hi.elim,fun k _ hn => ⟨hn,rfl⟩,fun _ _ => rfl⟩ hr⟩
 ·rintro (hb0 | ⟨i,bx',hi,hrw,he⟩ | ⟨i,es,hi,he⟩)
  ·exact hp1.nbase b bx hb (by rw [hk]; intro e; cases e) hb0
  ·have:=hp1.inj i b bx' bx hi hb he
   subst this
   rw [hb] at hi
   cases hi
   rw [hk] at hrw
   cases hrw
  ·exact hp1.apart hi hb he
end
section
variable {K:V→Prop}
theorem vL {x:Option V} {b off n es:Nat} {co:Option Nat} (h:x=some (.c (.sl b off n co es))) (k:K (.c (.int .i64 n))):qLen x K:=by subst h; exact k
theorem wE {x:Option V} {n:Nat} {cs:List C} (h:x=some (.c (.imm n cs))) (k:K (.c (.int .i64 n))):qLen x K:=by subst h; exact k
theorem wD {x:Option V} (h:x=some (.c .nilSl)) (k:K (.c (.int .i64 0))):qLen x K:=by subst h; exact k
theorem wP {neg:Bool} {x:Option V} (h:x=some (.c .nilSl)) (k:K (.c (.bool (bif neg then false else true)))):qNil neg x K:=by subst h; exact k
theorem wQ {neg:Bool} {x:Option V} {n:Nat} {cs:List C} (h:x=some (.c (.imm n cs))) (k:K (.c (.bool (bif neg then true else false)))):qNil neg x K:=by subst h; exact k
theorem vM {neg:Bool} {x:Option V} {b off n es:Nat} {co:Option Nat} (h:x=some (.c (.sl b off n co es))) (k:K (.c (.bool (bif neg then true else false)))):qNil neg x K:=by subst h; exact k
theorem yL {x i:Option V} {b off m es es':Nat} {co:Option Nat} {k:IntKind} {n:Int} (h:x=some (.c (.sl b off m co es'))) (h2:i=some (.c (.int k n))) (h3:0≤n) (h4:n<m) (hk:K (.c (.ptr b (off+n.toNat*es)))):qIad none es x i K:=by
 subst h h2
 exact xF (by simp [h3,h4]) hk
theorem vD {x i:Option V} {m es:Nat} {cs:List C} {k:IntKind} {n:Int} (h:x=some (.c (.imm m cs))) (h2:i=some (.c (.int k n))) (h3:0≤n) (h4:n<m) (hk:K (.c (.ipt (cs.drop (n.toNat*es))))):qIad none es x i K:=by
 subst h h2
 exact xF (by simp [h3,h4]) hk
theorem vJ {x i:Option V} {b off m es:Nat} {k:IntKind} {n:Int} (h:x=some (.c (.ptr b off))) (h2:i=some (.c (.int k n))) (h3:0≤n) (h4:n<m) (hk:K (.c (.ptr b (off+n.toNat*es)))):qIad (some m) es x i K:=by
 subst h h2
 exact xF (by simp [h3,h4]) hk
theorem yC {cs:List C} {c:C} {size:Nat} (hc:cs[0]?=some c) (k:K (.c c)):yI cs false size K:=by
 simp only [yI,hc]
 exact k
theorem xZ {cs:List C} {size:Nat} (hc:size≤cs.length) (k:K (.agg (cs.take size))):yI cs true size K:=xF (Nat.ble_eq_true_of_le hc) k
theorem yU {s:Option Slot} {size off:Nat} {bx:Box} {c:C} (h2:s=some (.live bx)) (hc:bx.cells[off]?=some c) (k:K (.c c)):yW s false size off K:=by
 simp only [yW,h2,hc]
 exact k
theorem yM {s:Option Slot} {size off:Nat} {bx:Box} (h2:s=some (.live bx)) (hc:Nat.ble (off+size) bx.cells.length=true) (k:K (.agg ((bx.cells.drop off).take size))):yW s true size off K:=by
 subst h2
 exact xF hc k
theorem xC {s:Option Slot} {b size off:Nat} {cs l:List C} {el:TypeId} {ds:Option (List C)} {K:Nat→Slot→Prop} (h:s=some (.live ⟨cs,el,.rw⟩)) (h2:ds=some l) (h3:Nat.beq l.length size=true) (h4:off+size≤cs.length) (k:K b (.live ⟨splice cs off l,el,.rw⟩)):xA s b size off ds K:=by
 subst h h2
 exact xF (by simp [h3,Nat.ble_eq_true_of_le h4]) k
end
theorem app_sl {H:Hp} {elem es bytes:Nat} {s x:Option V} {K:V→Hp→Prop} {b n m:Nat} {co:Option Nat} {xc:C} {cs xs:List C} (h:s=some (.c (.sl b 0 n co es))) (h2:x=some (.c xc)) (hx:sR H es xc=some xs) (hm:slLen xc=some m) (hl:xs.length=m*es)
  (hb:H[b]?=some (.live ⟨cs,elem,.rw⟩)) (hn:n*es≤cs.length) (hz:(n+m)*bytes≤140737488355328) (hz':n+m≤140737488355328) (k:K (.c (.sl H.length 0 (n+m) none es)) (H.set b .dead++[.live ⟨cs.take (n*es)++xs,elem,.rw⟩])):appX H elem es bytes s x K:=by
 subst h h2
 simp only [appX,hx,hm,hb]
 refine xF (by simp [hl]) (xF ?_ k)
 simp [hz,hz',Nat.ble_eq_true_of_le hn]
end Go.Proofs.Ytokckcnfojjpjaa
