/-
  Parts of the proof: Any order that a region may draw does what the one chosen order does.
-/
import Derived.Test.YtokckcnfojjpjaaNg7
set_option linter.unusedVariables false
set_option linter.unusedSimpArgs false
namespace Go.Proofs.Ytokckcnfojjpjaa
open Go.RowKit
def uN (o:tB):List Nat:=((pZ o.op).filterMap fun | .t n => some n | .k _ => none)++(match o.guard with
 | some (t,_) => [t]
 | none => [])
def apartA (x y:tB):Bool :=
 (match x.dst with
  | some d => !(uN y).contains d && !(y.dst == some d)
  | none => true) &&
 (match y.dst with
  | some d => !(uN x).contains d
  | none => true)
def qJ:AOp→Bool
 | .load _ _ _ => true
 | _ => false
def touches:AOp→Bool
 | .load _ _ _ => true
 | .store _ _ _ _ => true
 | .box _ _ _ => true
 | .alloc _ _ => true
 | .buildSl _ _ _ _ _ => true
 | .mkSl _ _ _ _ _ _ => true
 | _ => false
theorem nA {e:Env} {nid b:Nat} {op:AOp} (h:tch e nid op=some b):touches op=true:=by
 cases op <;> first | rfl | (simp [tch] at h)
def putO (e:Env) (d:Option Nat) (v:V):Env:=match d with
 | none => e
 | some d => put e d v
theorem St.put_eq (st:St) (d:Option Nat) (v:V) (H:Hp):st.put d v H=⟨putO st.env d v,H⟩:=by cases d <;> rfl
theorem put_ne {e:Env} {d t:Nat} {v:V} (h:d≠t):put e d v t=e t:=by
 unfold put
 cases hb:Nat.beq d t with
 | true => exact absurd (Nat.eq_of_beq_eq_true hb) h
 | false => rfl
theorem put_comm {e:Env} {a b:Nat} {u v:V} (h:a≠b):put (put e a u) b v=put (put e b v) a u:=by
 funext t
 unfold put
 cases h1:Nat.beq a t <;> cases h2:Nat.beq b t <;> simp
 have e1:=Nat.eq_of_beq_eq_true h1
 have e2:=Nat.eq_of_beq_eq_true h2
 omega
theorem putO_comm {e:Env} {a b:Option Nat} {u v:V} (h:∀ t,a=some t→b≠some t):putO (putO e a u) b v=putO (putO e b v) a u:=by
 cases a with
 | none => rfl
 | some a =>
  cases b with
  | none => rfl
  | some b => exact put_comm (fun he => h a rfl (by rw [he]))
theorem apE_comm {H:Hp} {x y:Option (Nat × Slot)} (h:∀ a s b u,x=some (a,s)→y=some (b,u)→a≠b):apE (apE H x) y=apE (apE H y) x:=by
 cases x with
 | none => rfl
 | some x =>
  cases y with
  | none => rfl
  | some y =>
   obtain ⟨a,s⟩:=x
   obtain ⟨b,u⟩:=y
   exact List.set_comm s u (h a s b u rfl rfl)
theorem apE_get {H:Hp} {x:Option (Nat × Slot)} {b:Nat} (h:∀ a s,x=some (a,s)→a≠b):(apE H x)[b]?=H[b]?:=by
 cases x with
 | none => rfl
 | some x =>
  obtain ⟨a,s⟩:=x
  exact List.getElem?_set_ne (h a s rfl)
section
variable {P:Program}
theorem uO {f:FuncId} {args:List V} {K K':V→Prop} (h:∀ v,K v→K' v) (hc:semC P f args K):semC P f args K':=by
 refine ⟨hc.1,hc.2.1,fun base w vs hb hr => (hc.2.2 base w vs hb hr).mono ?_⟩
 rintro e w' ⟨v,u,he,hk,hv,hq⟩
 exact ⟨v,u,he,h u hk,hv,hq⟩
theorem semH_mono {f:FuncId} {args:List V} {H:Hp} {K K':V→Hp→Prop} (h:∀ v H,K v H→K' v H) (hc:semH P f args H K):semH P f args H K':=by
 refine ⟨hc.1,fun base w β vs hp hr => (hc.2 base w β vs hp hr).mono ?_⟩
 rintro e w' ⟨v,u,β',H',he,hk,h1,h2,h3⟩
 exact ⟨v,u,β',H',he,h u H' hk,h1,h2,h3⟩
theorem jL {st:St} {f:AO} {args:List AO} {K K':V→Hp→Prop} (h:∀ v H,K v H→K' v H) (hc:xop P st (.call f args) K):xop P st (.call f args) K':=by
 simp only [xop] at hc ⊢
 split at hc
 ·exact semH_mono h hc
 ·exact hc.elim
theorem cval_mono {e:Env} {f:AO} {args:List AO} {K K':V→Prop} (h:∀ v,K v→K' v) (hc:cval P e f args K):cval P e f args K':=by
 unfold cval at hc ⊢
 split at hc
 ·exact uO h hc
 ·exact hc.elim
theorem cval_congr {e e':Env} {f:AO} {args:List AO} (h:∀ x∈f :: args,x.ev e'=x.ev e) (K:V→Prop):cval P e' f args K=cval P e f args K:=by
 unfold cval
 rw [h f (by simp),evs_congr args (fun x hx => h x (by simp [hx]))]
theorem xopD_det (st:St) (nid:Nat) (op:AOp) (hc:sT op=false) (K:V→Hp→Prop):xopD P st nid op K=dstep st.env (fun b => st.H[b]?) nid op fun v ef => K v (apE st.H ef):=by
 cases op <;> first | rfl | (simp [sT] at hc)
theorem qK {o:tB} {e e':Env} (h:∀ t∈uN o,e' t=e t):∀ x∈pZ o.op,x.ev e'=x.ev e:=by
 intro x hx
 cases x with
 | k v => rfl
 | t n =>
  refine h n ?_
  unfold uN
  exact List.mem_append_left _ (List.mem_filterMap.2 ⟨.t n,hx,rfl⟩)
theorem pT {o:tB} {e e':Env} (h:∀ t∈uN o,e' t=e t) (A B:Prop):guarded e' o.guard A B=guarded e o.guard A B:=by
 unfold guarded
 cases hg:o.guard with
 | none => rfl
 | some p =>
  obtain ⟨t,want⟩:=p
  have:e' t=e t:=h t (by unfold uN; rw [hg]; simp)
  simp only [this]
theorem stepD_det {n0:Nat} {st:St} {d:DOp} {q:Hp→Hp→Prop} {K:V→Hp→Prop} (hc:sT d.o.op=false) (h:qB P n0 st d q K) :
  ∃ v ef,K v (apE st.H ef)∧(∀ b s,ef=some (b,s)→tch st.env (n0+d.aid) d.o.op=some b∧qJ d.o.op=false) ∧
   ∀ (st':St) (K':V→Hp→Prop),(∀ t∈uN d.o,st'.env t=st.env t)→(∀ b,tch st.env (n0+d.aid) d.o.op=some b→st'.H[b]?=st.H[b]?)→K' v (apE st'.H ef)→∀ q',qB P n0 st' d q' K':=by
 have exec:xopD P st (n0+d.aid) d.o.op K→∃ v ef,K v (apE st.H ef)∧(∀ b s,ef=some (b,s)→tch st.env (n0+d.aid) d.o.op=some b∧qJ d.o.op=false) ∧
   ∀ (st':St) (K':V→Hp→Prop),(∀ t∈uN d.o,st'.env t=st.env t)→(∀ b,tch st.env (n0+d.aid) d.o.op=some b→st'.H[b]?=st.H[b]?)→K' v (apE st'.H ef)→xopD P st' (n0+d.aid) d.o.op K':=by
  intro h
  rw [xopD_det _ _ _ hc] at h
  obtain ⟨v,ef,hk,ht,h2⟩:=dstep_det h
  refine ⟨v,ef,hk,fun b s hb => ⟨ht b s hb,?_⟩,fun st' K' h3 h4 h5 => ?_⟩
  ·cases hl:qJ d.o.op with
   | false => rfl
   | true =>
    cases hop:d.o.op <;> rw [hop] at hl <;> simp [qJ] at hl
    rename_i agg size a
    rw [hop,jH] at h
    exfalso
    have h6:=h2 (fun v ef => ef≠none) (by rw [hb]; intro h; cases h)
    rw [hop,jH] at h6
    obtain ⟨_,h7,_⟩:=lval_det h6
    exact h7 rfl
  ·rw [xopD_det _ _ _ hc,dstep_congr (e:=st.env) (hb:=fun b => st.H[b]?) (qK h3) (fun b hb => h4 b hb)]
   exact h2 _ h5
 have hlate:pN d.o.op d.inc=false:=by unfold pN; rw [hc]; rfl
 unfold qB at h
 simp only [hlate,Bool.false_eq_true,false_and,or_false] at h
 cases hg:d.o.guard with
 | none =>
  rw [hg] at h
  obtain ⟨v,ef,hk,ht,h2⟩:=exec h
  exact ⟨v,ef,hk,ht,fun st' K' h3 h4 h5 q' => by unfold qB; rw [hg]; exact .inl (h2 st' K' h3 h4 h5)⟩
 | some p =>
  obtain ⟨t,want⟩:=p
  rw [hg] at h
  unfold guarded at h
  dsimp only at h
  split at h
  ·rename_i b hb
   have hbt:∀ st':St,(∀ t∈uN d.o,st'.env t=st.env t)→st'.env t=some (.c (.bool b)):=fun st' h3 => by
    rw [h3 t (by unfold uN; rw [hg]; simp)]
    exact hb
   rcases gL h with ⟨hp,h'⟩ | ⟨hp,h'⟩
   ·obtain ⟨v,ef,hk,ht,h2⟩:=exec h'
    exact ⟨v,ef,hk,ht,fun st' K' h3 h4 h5 q' => by unfold qB guarded; rw [hg]; simp only [hbt st' h3]; exact jV hp (.inl (h2 st' K' h3 h4 h5))⟩
   ·exact ⟨.tup [],none,h',fun b s h => (by cases h),fun st' K' h3 h4 h5 q' => by unfold qB guarded; rw [hg]; simp only [hbt st' h3]; exact jJ hp h5⟩
  ·rename_i hb
   have hbt:∀ st':St,(∀ t∈uN d.o,st'.env t=st.env t)→st'.env t=some (.tup []):=fun st' h3 => by
    rw [h3 t (by unfold uN; rw [hg]; simp)]
    exact hb
   exact ⟨.tup [],none,h,fun b s h => (by cases h),fun st' K' h3 h4 h5 q' => by unfold qB guarded; rw [hg]; simp only [hbt st' h3]; exact h5⟩
  ·exact h.elim
theorem pS {op:AOp} (h:sT op=true):(∃ f args,op=.call f args)∨∃ el es by' s x,op=.app el es by' s x:=by
 cases op <;> simp [sT] at h
 ·exact .inr ⟨_,_,_,_,_,rfl⟩
 ·exact .inl ⟨_,_,rfl⟩
theorem hZ {st:St} {el:TypeId} {es by':Nat} {s x:AO} {K K':V→Hp→Prop} (hk:∀ v H,K v H→K' v H) (h:xop P st (.app el es by' s x) K):xop P st (.app el es by' s x) K':=by
 rcases h with h | h
 ·refine .inl ?_
  dsimp only [appX] at h ⊢
  split at h
  ·split at h
   ·refine bV (fun h => ?_) h
    split at h
    ·exact cnd_mono (fun h => hk _ _ h) (fun h => bV (fun h => hk _ _ h) h) h
    ·split at h
     ·split at h
      ·exact bV (fun h => hk _ _ h) h
      ·exact h.elim
     ·exact h.elim
    ·exact h.elim
   ·exact h.elim
  ·exact h.elim
 ·refine .inr ?_
  dsimp only [appI] at h ⊢
  split at h
  ·split at h
   ·split at h
    ·exact bV (fun h => hk _ _ h) h
    ·exact h.elim
   ·exact h.elim
  ·exact h.elim
theorem stepD_move {n0:Nat} {st st1:St} {d:DOp} {q q':Hp→Hp→Prop} {K1:V→Hp→Prop} (hnl:pN d.o.op d.inc=false) (h:qB P n0 st1 d q K1) (h3:∀ t∈uN d.o,st.env t=st1.env t) (h4:∀ b,tch st1.env (n0+d.aid) d.o.op=some b→st.H[b]?=st1.H[b]?) :
  qB P n0 st d q' fun v H => ∃ ef,H=apE st.H ef∧(∀ b s,ef=some (b,s)→tch st1.env (n0+d.aid) d.o.op=some b∧qJ d.o.op=false)∧K1 v (apE st1.H ef):=by
 cases hc:sT d.o.op with
 | false =>
  obtain ⟨v,ef,hk,ht,h2⟩:=stepD_det hc h
  exact h2 st _ h3 h4 ⟨ef,rfl,ht,hk⟩ q'
 | true =>
  rcases pS hc with ⟨f,args,hop⟩ | ⟨el,es,by',s,x,hop⟩
  case inr =>
   unfold qB at h ⊢
   rw [pT h3]
   rw [hop] at h ⊢
   rw [hop] at hnl
   simp only [hnl,Bool.false_eq_true,false_and,or_false] at h ⊢
   exact qS (fun hx => hx.elim) (fun hx => ⟨none,rfl,fun b s h => (by cases h),hx⟩) h
  unfold qB at h ⊢
  rw [pT h3]
  rw [hop] at h ⊢
  rw [hop] at hnl
  simp only [hnl,Bool.false_eq_true,false_and,or_false] at h ⊢
  refine qS (fun hx => ?_) (fun hx => ⟨none,rfl,fun b s h => (by cases h),hx⟩) h
  show cval P st.env f args _
  rw [cval_congr (e:=st1.env) (by have:=qK h3; rw [hop] at this; exact this)]
  exact cval_mono (fun u hu => ⟨none,rfl,fun b s h => (by cases h),hu⟩) hx
theorem stepD_mono2 {n0:Nat} {st:St} {d:DOp} {q q':Hp→Hp→Prop} {K K':V→Hp→Prop} (hq:∀ H H',q H H'→q' H H') (hk:∀ v H,K v H→K' v H) (h:qB P n0 st d q K):qB P n0 st d q' K':=by
 cases hc:sT d.o.op with
 | false =>
  obtain ⟨v,ef,h1,_,h2⟩:=stepD_det hc h
  exact h2 st K' (fun _ _ => rfl) (fun _ _ => rfl) (hk _ _ h1) q'
 | true =>
  rcases pS hc with ⟨f,args,hop⟩ | ⟨el,es,by',s,x,hop⟩
  case inr =>
   unfold qB at h ⊢
   rw [hop] at h ⊢
   exact qS (fun hx => hx.elim (fun hx => hx.elim) (fun hx => .inr ⟨hx.1,hZ (fun v H h => ⟨hq _ _ h.1,hk _ _ h.2⟩) hx.2⟩)) (fun hx => hk _ _ hx) h
  unfold qB at h ⊢
  rw [hop] at h ⊢
  exact qS (fun hx => hx.elim (fun hx => .inl (cval_mono (fun u hu => hk _ _ hu) hx)) (fun hx => .inr ⟨hx.1,jL (fun v H h => ⟨hq _ _ h.1,hk _ _ h.2⟩) hx.2⟩)) (fun hx => hk _ _ hx) h
theorem stepD_mono {n0:Nat} {st:St} {d:DOp} {q:Hp→Hp→Prop} {K K':V→Hp→Prop} (hk:∀ v H,K v H→K' v H) (h:qB P n0 st d q K):qB P n0 st d q K':=stepD_mono2 (fun _ _ h => h) hk h
theorem logOk_congr {l1 l2:List (Nat × Option Nat)} (h:∀ f:Nat × Option Nat→Bool,l1.all f=l2.all f) (inc:List Nat) (T:Option Nat):sV inc T l1=sV inc T l2:=by
 cases inc with
 | nil => rfl
 | cons i r => exact h _
theorem mem_of_all {l1 l2:List (Nat × Option Nat)} (h:∀ f:Nat × Option Nat→Bool,l1.all f=l2.all f) {p:Nat × Option Nat} (hp:p∈l2):p∈l1:=by
 refine Classical.byContradiction fun hn => ?_
 have h1:(l1.all fun x => decide (x≠p))=true:=List.all_eq_true.2 fun x hx => decide_eq_true (fun e => hn (e ▸ hx))
 rw [h] at h1
 exact of_decide_eq_true (List.all_eq_true.1 h1 p hp) rfl
theorem keepL_congr {l1 l2:List (Nat × Option Nat)} (h:∀ f:Nat × Option Nat→Bool,l1.all f=l2.all f) {inc:List Nat} {H H':Hp} (hk:jA inc l1 H H'):jA inc l2 H H':=fun p hp => hk p (mem_of_all h hp)
theorem xop_app_congr {st st':St} {el:TypeId} {es by':Nat} {s x:AO} (h1:s.ev st'.env=s.ev st.env) (h2:x.ev st'.env=x.ev st.env) (hH:st'.H=st.H) (K:V→Hp→Prop):xop P st' (.app el es by' s x) K=xop P st (.app el es by' s x) K:=by
 simp only [xop,h1,h2,hH]
theorem xop_call_congr {st st':St} {f:AO} {args:List AO} (h:∀ x∈f :: args,x.ev st'.env=x.ev st.env) (hH:st'.H=st.H) (K:V→Hp→Prop):xop P st' (.call f args) K=xop P st (.call f args) K:=by
 simp only [xop,h f (by simp),evs_congr args (fun x hx => h x (by simp [hx])),hH]
theorem stepD_late {n0:Nat} {st st1:St} {d:DOp} {q q':Hp→Hp→Prop} {K1:V→Hp→Prop} (hc:sT d.o.op=true) (h:qB P n0 st1 d q K1) (h3:∀ t∈uN d.o,st.env t=st1.env t) (hH:st.H=st1.H) (hq:∀ H H',q H H'→q' H H') :
  qB P n0 st d q' fun v H => (H=st.H∨q st.H H)∧K1 v H:=by
 have hev:=qK h3
 rcases pS hc with ⟨f,args,hop⟩ | ⟨el,es,by',s,x,hop⟩
 ·unfold qB at h ⊢
  rw [pT h3]
  rw [hop] at h hev ⊢
  refine qS (fun hx => ?_) (fun hx => ⟨.inl rfl,hH ▸ hx⟩) h
  rcases hx with hx | ⟨hl,hx⟩
  ·refine .inl ?_
   show cval P st.env f args _
   rw [cval_congr (e:=st1.env) hev]
   exact cval_mono (fun u hu => ⟨.inl rfl,hH ▸ hu⟩) hx
  ·refine .inr ⟨hl,?_⟩
   rw [xop_call_congr (st:=st1) hev hH]
   exact jL (fun v H hk => ⟨hq _ _ (hH ▸ hk.1),.inr (hH ▸ hk.1),hk.2⟩) hx
 ·unfold qB at h ⊢
  rw [pT h3]
  rw [hop] at h hev ⊢
  refine qS (fun hx => ?_) (fun hx => ⟨.inl rfl,hH ▸ hx⟩) h
  rcases hx with hx | ⟨hl,hx⟩
  ·exact hx.elim
  ·refine .inr ⟨hl,?_⟩
   rw [xop_app_congr (st:=st1) (hev s (by simp [pZ])) (hev x (by simp [pZ])) hH]
   exact hZ (fun v H hk => ⟨hq _ _ (hH ▸ hk.1),.inr (hH ▸ hk.1),hk.2⟩) hx
theorem awpD_log {n0:Nat}:∀ (r:List DOp) (l1 l2:List (Nat × Option Nat)) (st:St) (K:St→Prop),(∀ f:Nat × Option Nat→Bool,l1.all f=l2.all f)→awpD P n0 r l1 st K→awpD P n0 r l2 st K
 | [],_,_,_,_,_,h => h
 | d :: r,l1,l2,st,K,hl,h => by
  unfold awpD at h ⊢
  rw [←logOk_congr hl]
  refine bV (fun h => stepD_mono2 (fun _ _ h => keepL_congr hl h) (fun v H hk => ?_) h) h
  exact awpD_log r _ _ _ _ (fun f => by simp only [List.all_cons,hl f]) hk
theorem xop_mono_call {st:St} {op:AOp} {K K':V→Hp→Prop} (hc:sT op=true) (hk:∀ v H,K v H→K' v H) (h:xop P st op K):xop P st op K':=by
 rcases pS hc with ⟨f,args,rfl⟩ | ⟨el,es,by',s,x,rfl⟩
 ·exact jL hk h
 ·exact hZ hk h
theorem late_call {op:AOp} {inc:List Nat} (h:pN op inc=true):sT op=true:=by
 unfold pN at h
 simp only [Bool.and_eq_true] at h
 exact h.1
structure gZ (d1 d2:DOp):Prop where
 apart:apartA d1.o d2.o=true
 call:sT d1.o.op=false
 inc:touches d1.o.op=true→touches d2.o.op=true→(qJ d1.o.op=true∧qJ d2.o.op=true)∨d1.idx∈d2.inc
 none:d2.idx ∉ d1.inc
 late:pN d2.o.op d2.inc=true→touches d1.o.op=true→qJ d1.o.op=true∧d1.idx∈d2.inc
theorem apartA_spec {x y:tB} (h:apartA x y=true):(∀ d,x.dst=some d→d ∉ uN y∧y.dst≠some d)∧(∀ d,y.dst=some d→d ∉ uN x):=by
 unfold apartA at h
 simp only [Bool.and_eq_true] at h
 obtain ⟨h1,h2⟩:=h
 constructor
 ·intro d hd
  rw [hd] at h1
  simpa using h1
 ·intro d hd
  rw [hd] at h2
  simpa using h2
theorem swap_late {n0:Nat} {d1 d2:DOp} {r:List DOp} {log:List (Nat × Option Nat)} {st:St} {K:St→Prop} (hs:gZ d1 d2) (hlate:pN d2.o.op d2.inc=true) (h:awpD P n0 (d1 :: d2 :: r) log st K):awpD P n0 (d2 :: d1 :: r) log st K:=by
 obtain ⟨ha1,ha2⟩:=apartA_spec hs.apart
 have hc2:sT d2.o.op=true:=by
  unfold pN at hlate
  simp only [Bool.and_eq_true] at hlate
  exact hlate.1
 unfold awpD at h
 obtain ⟨c1,h⟩:=wB h
 obtain ⟨v1,ef1,hk,ht1,hu1⟩:=stepD_det hs.call h
 have hef:ef1=none:=by
  cases ef1 with
  | none => rfl
  | some p =>
   obtain ⟨b,s⟩:=p
   obtain ⟨t1,t2⟩:=ht1 b s rfl
   have:=(hs.late hlate (nA t1)).1
   rw [t2] at this
   cases this
 subst hef
 unfold awpD at hk
 obtain ⟨c2,hk⟩:=wB hk
 rw [St.put_eq] at c2 hk
 have hsl2:∀ t∈uN d2.o,st.env t=putO st.env d1.o.dst v1 t:=by
  intro t ht
  cases hd:d1.o.dst with
  | none => rfl
  | some d => exact (put_ne (fun he => (ha1 d hd).1 (by rw [he]; exact ht))).symm
 have hT2:tch (putO st.env d1.o.dst v1) (n0+d2.aid) d2.o.op=tch st.env (n0+d2.aid) d2.o.op:=by
  refine tch_congr (qK (o:=d2.o) (fun t ht => (hsl2 t ht).symm))
 have hq:∀ p H H',jA d2.inc (p :: log) H H'→jA d2.inc log H H':=fun p H H' hp x hx => hp x (List.mem_cons_of_mem _ hx)
 have hmv:=stepD_late (st:=st) (q':=jA d2.inc log) hc2 hk hsl2 rfl (hq _)
 unfold awpD
 have c2':sV d2.inc (tch st.env (n0+d2.aid) d2.o.op) log=true:=by
  rw [hT2] at c2
  unfold sV at c2 ⊢
  split
  ·rfl
  ·rename_i hcons
   rw [hcons] at c2
   simp only [List.all_cons,Bool.and_eq_true] at c2
   exact c2.2
 refine xF c2' (stepD_mono (fun v2 H2 h2 => ?_) hmv)
 obtain ⟨hor,hrest⟩:=h2
 have hsl1:∀ t∈uN d1.o,putO st.env d2.o.dst v2 t=st.env t:=by
  intro t ht
  cases hd:d2.o.dst with
  | none => rfl
  | some d => exact put_ne (fun he => ha2 d hd (by rw [he]; exact ht))
 have hT1:tch (putO st.env d2.o.dst v2) (n0+d1.aid) d1.o.op=tch st.env (n0+d1.aid) d1.o.op:=tch_congr (qK (o:=d1.o) hsl1)
 have hbox:∀ b,tch st.env (n0+d1.aid) d1.o.op=some b→H2[b]?=st.H[b]?:=by
  intro b hb
  rcases hor with rfl | hqt
  ·rfl
  ·have hin:=(hs.late hlate (nA hb)).2
   have ha:(d2.inc.any fun j => Nat.beq j d1.idx)=true:=by
    rw [List.any_eq_true]
    exact ⟨d1.idx,hin,Nat.beq_refl _⟩
   exact hqt _ List.mem_cons_self ha b hb
 rw [St.put_eq]
 unfold awpD
 have c1':sV d1.inc (tch (putO st.env d2.o.dst v2) (n0+d1.aid) d1.o.op) ((d2.idx,tch st.env (n0+d2.aid) d2.o.op) :: log)=true:=by
  rw [hT1]
  unfold sV at c1 ⊢
  split
  ·rfl
  ·rename_i i rr hcons
   rw [hcons] at c1
   simp only [List.all_cons,Bool.and_eq_true]
   refine ⟨?_,c1⟩
   have ha:((i :: rr).any fun j => Nat.beq j d2.idx)=false:=by
    rw [List.any_eq_false]
    intro j hj hb
    have:=Nat.eq_of_beq_eq_true hb
    subst this
    exact hs.none (by rw [hcons]; exact hj)
   rw [ha]
   rfl
 refine xF c1' (hu1 ⟨putO st.env d2.o.dst v2,H2⟩ _ hsl1 hbox ?_ _)
 rw [St.put_eq] at hrest ⊢
 dsimp only [apE] at hrest ⊢
 rw [hT1]
 rw [hT2] at hrest
 have e1:putO (putO st.env d2.o.dst v2) d1.o.dst v1=putO (putO st.env d1.o.dst v1) d2.o.dst v2:=(putO_comm (fun t ht => (ha1 t ht).2)).symm
 rw [e1]
 exact awpD_log r _ _ _ _ (fun f => by simp only [List.all_cons,←Bool.and_assoc,Bool.and_comm (f (d1.idx,_))]) hrest
theorem swap {n0:Nat} {d1 d2:DOp} {r:List DOp} {log:List (Nat × Option Nat)} {st:St} {K:St→Prop} (hs:gZ d1 d2) (h:awpD P n0 (d1 :: d2 :: r) log st K):awpD P n0 (d2 :: d1 :: r) log st K:=by
 cases hnl:pN d2.o.op d2.inc with
 | true => exact swap_late hs hnl h
 | false =>
 obtain ⟨ha1,ha2⟩:=apartA_spec hs.apart
 unfold awpD at h
 obtain ⟨c1,h⟩:=wB h
 obtain ⟨v1,ef1,hk,ht1,hu1⟩:=stepD_det hs.call h
 unfold awpD at hk
 obtain ⟨c2,hk⟩:=wB hk
 rw [St.put_eq] at c2 hk
 have hsl2:∀ t∈uN d2.o,st.env t=putO st.env d1.o.dst v1 t:=by
  intro t ht
  cases hd:d1.o.dst with
  | none => rfl
  | some d => exact (put_ne (fun he => (ha1 d hd).1 (by rw [he]; exact ht))).symm
 have hT2:tch (putO st.env d1.o.dst v1) (n0+d2.aid) d2.o.op=tch st.env (n0+d2.aid) d2.o.op:=by
  refine tch_congr (qK (o:=d2.o) (fun t ht => (hsl2 t ht).symm))
 have hdis:∀ b1 b2,tch st.env (n0+d1.aid) d1.o.op=some b1→tch st.env (n0+d2.aid) d2.o.op=some b2→(qJ d1.o.op=true∧qJ d2.o.op=true)∨b1≠b2:=by
  intro b1 b2 e1 e2
  rcases hs.inc (nA e1) (nA e2) with hl | hi
  ·exact .inl hl
  ·right
   rintro rfl
   rw [hT2] at c2
   unfold sV at c2
   split at c2
   ·rename_i hnil
    rw [hnil] at hi
    cases hi
   ·rename_i i rr hcons
    simp only [List.all_cons,Bool.and_eq_true] at c2
    have h1:=c2.1
    rw [e1,e2] at h1
    have hb:Nat.beq b1 b1=true:=Nat.beq_refl b1
    have ha:((i :: rr).any fun j => Nat.beq j d1.idx)=true:=by
     rw [List.any_eq_true]
     exact ⟨d1.idx,by rw [←hcons]; exact hi,Nat.beq_refl _⟩
    simp only [same?,hb,ha] at h1
    simp at h1
 have hmv:=stepD_move (st:=st) (q':=jA d2.inc log) hnl hk (fun t ht => hsl2 t ht) (fun b hb => by
  rw [hT2] at hb
  refine (apE_get fun a s he => ?_).symm
  rcases hdis a b (ht1 a s he).1 hb with hl | hne
  ·have:=(ht1 a s he).2
   rw [hl.1] at this
   cases this
  ·exact hne)
 unfold awpD
 have c2':sV d2.inc (tch st.env (n0+d2.aid) d2.o.op) log=true:=by
  rw [hT2] at c2
  unfold sV at c2 ⊢
  split
  ·rfl
  ·rename_i hcons
   rw [hcons] at c2
   simp only [List.all_cons,Bool.and_eq_true] at c2
   exact c2.2
 refine xF c2' (stepD_mono (fun v2 H2 h2 => ?_) hmv)
 obtain ⟨ef2,rfl,ht2,hrest⟩:=h2
 rw [hT2] at ht2
 have hsl1:∀ t∈uN d1.o,putO st.env d2.o.dst v2 t=st.env t:=by
  intro t ht
  cases hd:d2.o.dst with
  | none => rfl
  | some d => exact put_ne (fun he => ha2 d hd (by rw [he]; exact ht))
 have hT1:tch (putO st.env d2.o.dst v2) (n0+d1.aid) d1.o.op=tch st.env (n0+d1.aid) d1.o.op:=tch_congr (qK (o:=d1.o) hsl1)
 rw [St.put_eq]
 unfold awpD
 have c1':sV d1.inc (tch (putO st.env d2.o.dst v2) (n0+d1.aid) d1.o.op) ((d2.idx,tch st.env (n0+d2.aid) d2.o.op) :: log)=true:=by
  rw [hT1]
  unfold sV at c1 ⊢
  split
  ·rfl
  ·rename_i i rr hcons
   rw [hcons] at c1
   simp only [List.all_cons,Bool.and_eq_true]
   refine ⟨?_,c1⟩
   have ha:((i :: rr).any fun j => Nat.beq j d2.idx)=false:=by
    rw [List.any_eq_false]
    intro j hj hb
    have:=Nat.eq_of_beq_eq_true hb
    subst this
    exact hs.none (by rw [hcons]; exact hj)
   rw [ha]
   rfl
 refine xF c1' (hu1 ⟨putO st.env d2.o.dst v2,apE st.H ef2⟩ _ hsl1 (fun b hb => ?_) ?_ _)
 ·refine apE_get fun a s he => ?_
  rcases hdis b a hb (ht2 a s he).1 with hl | hne
  ·have:=(ht2 a s he).2
   rw [hl.2] at this
   cases this
  ·exact Ne.symm hne
 ·rw [St.put_eq] at hrest ⊢
  dsimp only at hrest ⊢
  rw [hT1]
  rw [hT2] at hrest
  have e1:putO (putO st.env d2.o.dst v2) d1.o.dst v1=putO (putO st.env d1.o.dst v1) d2.o.dst v2:=(putO_comm (fun t ht => (ha1 t ht).2)).symm
  have e2:apE (apE st.H ef2) ef1=apE (apE st.H ef1) ef2:=by
   refine apE_comm fun a s b u hx hy => ?_
   rcases hdis b a (ht1 b u hy).1 (ht2 a s hx).1 with hl | hne
   ·have:=(ht1 b u hy).2
    rw [hl.1] at this
    cases this
   ·exact Ne.symm hne
  rw [e1,e2]
  exact awpD_log r _ _ _ _ (fun f => by simp only [List.all_cons,←Bool.and_assoc,Bool.and_comm (f (d1.idx,_))]) hrest
theorem bring {n0:Nat} {d:DOp} {post:List DOp} {K:St→Prop}:∀ (pre:List DOp) (log:List (Nat × Option Nat)) (st:St),(∀ a∈pre,gZ a d)→awpD P n0 (pre++d :: post) log st K→awpD P n0 (d :: (pre++post)) log st K
 | [],_,_,_,h => h
 | a :: p,log,st,hs,h => by
  refine swap (hs a (by simp)) ?_
  rw [List.cons_append] at h
  unfold awpD at h ⊢
  exact bV (fun h => stepD_mono (fun v H h2 => bring p _ _ (fun b hb => hs b (by simp [hb])) h2) h) h
end
end Go.Proofs.Ytokckcnfojjpjaa
