/-
  Parts of the proof: Regions: a list of abstract operations, in the order of the text or, where the program draws an order, in one order that stands for all.
-/
import Derived.Test.YtokckcnfojjpjaaNg6
import Derived.Orders
import Derived.Tactics
set_option linter.unusedVariables false
set_option linter.unusedSimpArgs false
namespace Go.Proofs.Ytokckcnfojjpjaa
open Go.RowKit
structure tB where
 dst:Option Nat
 op:AOp
 guard:Option (Nat × Bool)
 deriving Inhabited
def St.put (st:St) (d:Option Nat) (v:V) (H:Hp):St:=⟨match d with
 | none => st.env
 | some d => Proofs.Ytokckcnfojjpjaa.put st.env d v,H⟩
def guarded (e:Env) (g:Option (Nat × Bool)) (A B:Prop):Prop:=match g with
 | none => A
 | some (t,want) => match e t with
  | some (.c (.bool b)) => cnd (bif want then b else !b) A B
  | some (.tup []) => B
  | _ => False
section
variable (P:Program)
def stepX (st:St) (o:tB) (K:V→Hp→Prop):Prop:=guarded st.env o.guard (xop P st o.op K) (K (.tup []) st.H)
def awpOps:List tB→St→(St→Prop)→Prop
 | [],st,K => K st
 | o :: r,st,K => stepX P st o fun v H => awpOps r (st.put o.dst v H) K
structure DOp where
 idx:Nat
 aid:Nat
 o:tB
 inc:List Nat
 deriving Inhabited
def apE (H:Hp):Option (Nat × Slot)→Hp
 | none => H
 | some (b,s) => H.set b s
def dstep (e:Env) (hb:Nat→Option Slot) (nid:Nat) (op:AOp) (K:V→Option (Nat × Slot)→Prop):Prop:=match op,K with
 | .load agg size a,K => lval e hb agg size a fun v => K v none
 | .store agg size a x,K => sval e hb agg size a x fun b s => K (.tup []) (some (b,s))
 | .box agg elem x,K => aval e nid (.box agg elem x) fun v bx => match hb nid with
  | some .unb => K v (some (nid,.live bx))
  | _ => False
 | .alloc elem zero,K => aval e nid (.alloc elem zero) fun v bx => match hb nid with
  | some .unb => K v (some (nid,.live bx))
  | _ => False
 | .buildSl elem es len zero parts,K => (aval e nid (.buildSl elem es len zero parts) fun v bx => match hb nid with
  | some .unb => K v (some (nid,.live bx))
  | _ => False)∨frzP e len zero parts fun v => K v none
 | .mkSl elem es bytes zero l c,K => aval e nid (.mkSl elem es bytes zero l c) fun v bx => match hb nid with
  | some .unb => K v (some (nid,.live bx))
  | _ => False
 | .call _ _,K => False
 | .app _ _ _ _ _,K => False
 | .slcA _ _ _ _ _,K => False
 | op,K => qval e op fun v => K v none
def cval (e:Env) (f:AO) (args:List AO) (K:V→Prop):Prop:=match f.ev e,evs e args with
 | some (.c (.fn g caps)),some us => semC P g (us++caps.map .c) K
 | _,_ => False
def sT:AOp→Bool
 | .call _ _ => true
 | .app _ _ _ _ _ => true
 | _ => false
def xopD (st:St) (nid:Nat) (op:AOp) (K:V→Hp→Prop):Prop:=match op with
 | .call f args => cval P st.env f args fun u => K u st.H
 | op => dstep st.env (fun b => st.H[b]?) nid op fun v ef => K v (apE st.H ef)
def pN (op:AOp) (inc:List Nat):Bool:=sT op && !inc.isEmpty
def jA (inc:List Nat) (log:List (Nat × Option Nat)) (H H':Hp):Prop:=∀ p∈log,(inc.any fun j => Nat.beq j p.1)=true→∀ b,p.2=some b→H'[b]?=H[b]?
def quietLog (inc:List Nat) (log:List (Nat × Option Nat)):Bool:=log.all fun p => !(inc.any fun j => Nat.beq j p.1) || p.2.isNone
def qB (n0:Nat) (st:St) (d:DOp) (q:Hp→Hp→Prop) (K:V→Hp→Prop):Prop:=guarded st.env d.o.guard (xopD P st (n0+d.aid) d.o.op K∨(pN d.o.op d.inc=true∧xop P st d.o.op fun v H => q st.H H∧K v H)) (K (.tup []) st.H)
def tch (e:Env) (nid:Nat):AOp→Option Nat
 | .load _ _ a => match a.ev e with
  | some (.c (.ptr b _)) => some b
  | _ => none
 | .store _ _ a _ => match a.ev e with
  | some (.c (.ptr b _)) => some b
  | _ => none
 | .box _ _ _ => some nid
 | .alloc _ _ => some nid
 | .buildSl _ _ _ _ _ => some nid
 | .mkSl _ _ _ _ _ _ => some nid
 | _ => none
def same?:Option Nat→Option Nat→Bool
 | some a,some b => Nat.beq a b
 | _,_ => false
def sV (inc:List Nat) (T:Option Nat) (log:List (Nat × Option Nat)):Bool:=match inc with
 | [] => true
 | i :: r => log.all fun p => !((i :: r).any fun j => Nat.beq j p.1) || !(same? p.2 T)
def awpD (n0:Nat):List DOp→List (Nat × Option Nat)→St→(St→Prop)→Prop
 | [],_,st,K => K st
 | d :: r,log,st,K => chk (sV d.inc (tch st.env (n0+d.aid) d.o.op) log)
   (qB P n0 st d (jA d.inc log) fun v H => awpD n0 r ((d.idx,tch st.env (n0+d.aid) d.o.op) :: log) (st.put d.o.dst v H) K)
end
theorem cnd_mono {p:Bool} {A A' B B':Prop} (h1:A→A') (h2:B→B') (h:cnd p A B):cnd p A' B':=by
 cases p
 ·exact h2 h
 ·exact h1 h
theorem bV {p:Bool} {A A':Prop} (h1:A→A') (h:chk p A):chk p A':=cnd_mono h1 id h
theorem qS {e:Env} {g:Option (Nat × Bool)} {A A' B B':Prop} (h1:A→A') (h2:B→B') (h:guarded e g A B):guarded e g A' B':=by
 unfold guarded at h ⊢
 split at h
 ·exact h1 h
 ·split at h
  ·exact cnd_mono h1 h2 h
  ·exact h2 h
  ·exact h.elim
theorem qval_det {e:Env} {op:AOp} {K:V→Prop} (h:qval e op K):∃ v,K v∧∀ K':V→Prop,K' v→qval e op K':=by
 cases op <;> try exact h.elim
 case pick c a b =>
  dsimp only [qval,qLen,qNil,qIad,qSlc,qIdx] at h
  split at h
  ·rename_i p hp
   rcases gL h with ⟨rfl,h'⟩ | ⟨rfl,h'⟩
   ·clear h
    split at h'
    ·rename_i v hv
     exact ⟨v,h',fun K' hk => by simp only [qval,qLen,qNil,qIad,qSlc,qIdx,hp,hv]; exact jV rfl hk⟩
    ·exact h'.elim
   ·clear h
    split at h'
    ·rename_i v hv
     exact ⟨v,h',fun K' hk => by simp only [qval,qLen,qNil,qIad,qSlc,qIdx,hp,hv]; exact jJ rfl hk⟩
    ·exact h'.elim
  ·exact h.elim
 case frzSl len zero ps =>
  dsimp only [qval,frzP] at h
  split at h
  ·rename_i cs hcs
   exact ⟨_,h,fun K' hk => by simp only [qval,frzP,hcs]; exact hk⟩
  ·exact h.elim
 case mx x y =>
  dsimp only [qval,qLen,qNil,qIad,qSlc,qIdx] at h
  split at h
  ·rename_i k a k' b hx hy
   exact ⟨_,h,fun K' hk => by simp only [qval,qLen,qNil,qIad,qSlc,qIdx,hx,hy]; exact hk⟩
  ·exact h.elim
 case mn x y =>
  dsimp only [qval,qLen,qNil,qIad,qSlc,qIdx] at h
  split at h
  ·rename_i k a k' b hx hy
   exact ⟨_,h,fun K' hk => by simp only [qval,qLen,qNil,qIad,qSlc,qIdx,hx,hy]; exact hk⟩
  ·exact h.elim
 case idx agg len es x i =>
  dsimp only [qval,qLen,qNil,qIad,qSlc,qIdx] at h
  split at h
  ·rename_i cs k n hx hi
   obtain ⟨hc,h'⟩:=wB h
   clear h
   split at h'
   ·exact ⟨_,h',fun K' hk => by simp only [qval,qLen,qNil,qIad,qSlc,qIdx,hx,hi]; exact xF hc hk⟩
   ·split at h'
    ·rename_i c hcc
     exact ⟨_,h',fun K' hk => by simp only [qval,qLen,qNil,qIad,qSlc,qIdx,hx,hi,hcc]; exact xF hc hk⟩
    ·exact h'.elim
  ·exact h.elim
 all_goals dsimp only [qval,qLen,qNil,qIad,qSlc,qIdx] at h
 all_goals (repeat' split at h)
 all_goals (try exact h.elim)
 all_goals first
  | exact ⟨_,h,fun K' hk => by dsimp only [qval,qLen,qNil,qIad,qSlc,qIdx]; simp_all⟩
  | (have hc:=(wB h).1; have h':=(wB h).2; clear h; refine ⟨_,h',fun K' hk => ?_⟩; dsimp only [qval,qLen,qNil,qIad,qSlc,qIdx]; revert hc; simp only [*]; intro hc; first | exact xF hc hk | exact xF hc trivial)
  | skip
theorem lval_det {e:Env} {hb:Nat→Option Slot} {agg:Bool} {size:Nat} {a:AO} {K:V→Prop} (h:lval e hb agg size a K):∃ v,K v∧∀ K':V→Prop,K' v→lval e hb agg size a K':=by
 unfold lval yW yI at h
 split at h
 ·rename_i b off ha
  split at h
  ·rename_i bx hbx
   split at h
   ·obtain ⟨hc,h'⟩:=wB h
    exact ⟨_,h',fun K' hk => by simp only [lval,yW,yI,ha,hbx]; exact xF hc hk⟩
   ·split at h
    ·rename_i c hcc
     exact ⟨_,h,fun K' hk => by simp only [lval,yW,yI,ha,hbx,hcc]; exact hk⟩
    ·exact h.elim
  ·exact h.elim
 ·rename_i cs ha
  split at h
  ·obtain ⟨hc,h'⟩:=wB h
   exact ⟨_,h',fun K' hk => by simp only [lval,yW,yI,ha]; exact xF hc hk⟩
  ·split at h
   ·rename_i c hcc
    exact ⟨_,h,fun K' hk => by simp only [lval,yW,yI,ha,hcc]; exact hk⟩
   ·exact h.elim
 ·exact h.elim
theorem sval_det {e:Env} {hb:Nat→Option Slot} {agg:Bool} {size:Nat} {a x:AO} {K:Nat→Slot→Prop} (h:sval e hb agg size a x K):∃ b s,K b s∧(∃ off,a.ev e=some (.c (.ptr b off)))∧∀ K':Nat→Slot→Prop,K' b s→sval e hb agg size a x K':=by
 unfold sval xA at h
 split at h
 ·rename_i b off v ha hx
  split at h
  ·rename_i bx hbx
   split at h
   ·rename_i hrw
    split at h
    ·rename_i ds hds
     obtain ⟨hc,h'⟩:=wB h
     exact ⟨_,_,h',⟨off,ha⟩,fun K' hk => by simp only [sval,xA,ha,hx,hbx,hrw,hds]; rw [hrw] at hk; exact xF hc hk⟩
    ·exact h.elim
   ·exact h.elim
  ·exact h.elim
 ·exact h.elim
theorem aval_det {e:Env} {i:Nat} {op:AOp} {K:V→Box→Prop} (h:aval e i op K):∃ v bx,K v bx∧∀ K':V→Box→Prop,K' v bx→aval e i op K':=by
 cases op <;> try exact h.elim
 case mkSl elem es bytes zero l c =>
  dsimp only [aval] at h
  split at h
  ·rename_i m n hl hc
   obtain ⟨hk,h'⟩:=wB h
   exact ⟨_,_,h',fun K' hk' => by simp only [aval,hl,hc]; exact xF hk hk'⟩
  ·exact h.elim
 all_goals dsimp only [aval] at h
 all_goals (repeat' split at h)
 all_goals (try exact h.elim)
 all_goals exact ⟨_,_,h,fun K' hk => by dsimp only [aval]; simp_all⟩
def pZ:AOp→List AO
 | .mv x => [x]
 | .pick c a b => [c,a,b]
 | .box _ _ x => [x]
 | .alloc _ _ => []
 | .build _ ps => ps.map (·.2.2.2)
 | .buildSl _ _ _ _ ps => ps.map (·.2.2.2)
 | .load _ _ a => [a]
 | .store _ _ a x => [a,x]
 | .ar _ x y => [x,y]
 | .cm _ x y => [x,y]
 | .shl x y => [x,y]
 | .shr x y => [x,y]
 | .eqB _ x y => [x,y]
 | .eqA _ _ x y => [x,y]
 | .eqN _ x => [x]
 | .neg x => [x]
 | .not x => [x]
 | .conv _ x => [x]
 | .same x => [x]
 | .faddr _ x => [x]
 | .fld _ _ _ x => [x]
 | .iaddr _ _ x i => [x,i]
 | .idx _ _ _ x i => [x,i]
 | .idxS x i => [x,i]
 | .slc _ x lo hi mx => x :: (lo.toList++hi.toList++mx.toList)
 | .slcA _ _ x lo hi => x :: (lo.toList++hi.toList)
 | .mkSl _ _ _ _ l c => [l,c]
 | .ext t _ => [t]
 | .len x => [x]
 | .app _ _ _ s x => [s,x]
 | .mx x y => [x,y]
 | .mn x y => [x,y]
 | .mx3 x y z => [x,y,z]
 | .call f args => f :: args
 | .fnc _ caps => caps
 | .chkNil x => [x]
 | .ifaceC _ x => [x]
 | .ifaceA _ x => [x]
 | .asrt _ _ x => [x]
 | .frzSl _ _ ps => ps.map (·.2.2.2)
 | .mkMap => []
 | .mapUp m k x => [m,k,x]
 | .lookup _ _ m k => [m,k]
theorem jU {e e':Env}:∀ (ps:List (Nat × Nat × Bool × AO)) (cs:List C),(∀ x∈ps.map (·.2.2.2),x.ev e'=x.ev e)→pD e' cs ps=pD e cs ps
 | [],cs,_ => rfl
 | (off,size,agg,x) :: r,cs,h => by
  have h1:x.ev e'=x.ev e:=h x (by simp)
  have h2:=fun ds => jU r ds (fun y hy => h y (by simp at hy ⊢; exact .inr hy))
  simp only [pD,h1,h2]
theorem evs_congr {e e':Env}:∀ (xs:List AO),(∀ x∈xs,x.ev e'=x.ev e)→evs e' xs=evs e xs
 | [],_ => rfl
 | x :: r,h => by
  have h1:x.ev e'=x.ev e:=h x (by simp)
  have h2:=evs_congr r (fun y hy => h y (by simp [hy]))
  simp only [evs,h1,h2]
theorem evc_congr {e e':Env}:∀ (xs:List AO),(∀ x∈xs,x.ev e'=x.ev e)→evc e' xs=evc e xs
 | [],_ => rfl
 | x :: r,h => by
  have h1:x.ev e'=x.ev e:=h x (by simp)
  have h2:=evc_congr r (fun y hy => h y (by simp [hy]))
  simp only [evc,h1,h2]
theorem bnd_congr {e e':Env} (d:Int) (o:Option AO) (h:∀ x∈o.toList,x.ev e'=x.ev e):bnd e' d o=bnd e d o:=by
 cases o with
 | none => rfl
 | some x => simp only [bnd,h x (by simp)]
theorem qval_congr {e e':Env} {op:AOp} (h:∀ x∈pZ op,x.ev e'=x.ev e) (K:V→Prop):qval e' op K=qval e op K:=by
 cases op <;> try rfl
 case build zero ps => simp only [qval,qLen,qNil,qIad,qSlc,qIdx,jU ps zero h]
 case frzSl len zero ps => simp only [qval,frzP,jU ps zero h]
 case fnc f caps => simp only [qval,qLen,qNil,qIad,qSlc,qIdx,evc_congr caps h]
 case slc es x lo hi mx =>
  have h1:x.ev e'=x.ev e:=h x (by simp [pZ])
  have h2:=fun d => bnd_congr (e:=e) (e':=e') d lo (fun y hy => h y (by simp only [pZ,List.mem_cons,List.mem_append]; exact .inr (.inl (.inl hy))))
  have h3:=fun d => bnd_congr (e:=e) (e':=e') d hi (fun y hy => h y (by simp only [pZ,List.mem_cons,List.mem_append]; exact .inr (.inl (.inr hy))))
  simp only [qval,qLen,qNil,qIad,qSlc,qIdx,h1,h2,h3]
 all_goals
  simp only [pZ,List.mem_cons,List.not_mem_nil,or_false,forall_eq_or_imp,forall_eq] at h
  simp only [qval,qLen,qNil,qIad,qSlc,qIdx,h]
theorem lval_congr {e e':Env} {hb hb':Nat→Option Slot} {agg:Bool} {size:Nat} {a:AO} (h:a.ev e'=a.ev e) (hh:∀ b off,a.ev e=some (.c (.ptr b off))→hb' b=hb b) (K:V→Prop):lval e' hb' agg size a K=lval e hb agg size a K:=by
 unfold lval yW yI
 rw [h]
 split
 ·rename_i b off ha
  rw [hh b off ha]
 ·rfl
 ·rfl
theorem sval_congr {e e':Env} {hb hb':Nat→Option Slot} {agg:Bool} {size:Nat} {a x:AO} (h:a.ev e'=a.ev e) (h2:x.ev e'=x.ev e) (hh:∀ b off,a.ev e=some (.c (.ptr b off))→hb' b=hb b) (K:Nat→Slot→Prop):sval e' hb' agg size a x K=sval e hb agg size a x K:=by
 unfold sval xA
 rw [h,h2]
 split
 ·rename_i b off v ha hx
  rw [hh b off ha]
 ·rfl
theorem nR {e e':Env} {i:Nat} {op:AOp} (h:∀ x∈pZ op,x.ev e'=x.ev e) (K:V→Box→Prop):aval e' i op K=aval e i op K:=by
 cases op <;> try rfl
 case buildSl elem es len zero ps => simp only [aval,jU ps zero h]
 all_goals
  simp only [pZ,List.mem_cons,List.not_mem_nil,or_false,forall_eq_or_imp,forall_eq] at h
  simp only [aval,h]
section
variable {e:Env} {hb:Nat→Option Slot} {nid:Nat} {K:V→Option (Nat × Slot)→Prop}
theorem jH (agg:Bool) (size:Nat) (a:AO):dstep e hb nid (.load agg size a) K=lval e hb agg size a (fun v => K v none):=rfl
theorem gX (agg:Bool) (size:Nat) (a x:AO):dstep e hb nid (.store agg size a x) K=sval e hb agg size a x (fun b s => K (.tup []) (some (b,s))):=rfl
def qX (hb:Nat→Option Slot) (nid:Nat) (K:V→Option (Nat × Slot)→Prop):V→Box→Prop:=fun v bx => match hb nid with
 | some .unb => K v (some (nid,.live bx))
 | _ => False
theorem dstep_box (agg:Bool) (elem:TypeId) (x:AO):dstep e hb nid (.box agg elem x) K=aval e nid (.box agg elem x) (qX hb nid K):=rfl
theorem dstep_alloc (elem:TypeId) (zero:List C):dstep e hb nid (.alloc elem zero) K=aval e nid (.alloc elem zero) (qX hb nid K):=rfl
theorem pE (elem:TypeId) (es len:Nat) (zero:List C) (ps:List (Nat × Nat × Bool × AO)):dstep e hb nid (.buildSl elem es len zero ps) K=(aval e nid (.buildSl elem es len zero ps) (qX hb nid K)∨frzP e len zero ps fun v => K v none):=rfl
theorem dstep_mkSl (elem:TypeId) (es bytes:Nat) (zero:List C) (l c:AO):dstep e hb nid (.mkSl elem es bytes zero l c) K=aval e nid (.mkSl elem es bytes zero l c) (qX hb nid K):=rfl
end
theorem dstep_det {e:Env} {hb:Nat→Option Slot} {nid:Nat} {op:AOp} {K:V→Option (Nat × Slot)→Prop} (h:dstep e hb nid op K):∃ v ef,K v ef∧(∀ b s,ef=some (b,s)→tch e nid op=some b)∧∀ K':V→Option (Nat × Slot)→Prop,K' v ef→dstep e hb nid op K':=by
 have q:∀ (op:AOp),dstep e hb nid op K=qval e op (fun v => K v none)→(∀ K',dstep e hb nid op K'=qval e op (fun v => K' v none))→dstep e hb nid op K→∃ v ef,K v ef∧(∀ b s,ef=some (b,s)→tch e nid op=some b)∧∀ K':V→Option (Nat × Slot)→Prop,K' v ef→dstep e hb nid op K':=by
  intro op he he' h
  rw [he] at h
  obtain ⟨v,hv,h2⟩:=qval_det h
  exact ⟨v,none,hv,fun b s h => (by cases h),fun K' hk => by rw [he']; exact h2 (fun v => K' v none) hk⟩
 have al:∀ (op:AOp),(∀ K',dstep e hb nid op K'=aval e nid op (qX hb nid K'))→tch e nid op=some nid→dstep e hb nid op K→∃ v ef,K v ef∧(∀ b s,ef=some (b,s)→tch e nid op=some b)∧∀ K':V→Option (Nat × Slot)→Prop,K' v ef→dstep e hb nid op K':=by
  intro op he ht h
  rw [he] at h
  obtain ⟨v,bx,hv,h2⟩:=aval_det h
  unfold qX at hv
  split at hv
  ·rename_i hn
   exact ⟨v,_,hv,fun b s h => (by cases h; exact ht),fun K' hk => by rw [he]; exact h2 _ (by simp only [qX,hn]; exact hk)⟩
  ·exact hv.elim
 cases op
 case load agg size a =>
  rw [jH] at h
  obtain ⟨v,hv,h2⟩:=lval_det h
  exact ⟨v,none,hv,fun b s h => (by cases h),fun K' hk => by rw [jH]; exact h2 (fun v => K' v none) hk⟩
 case store agg size a x =>
  rw [gX] at h
  obtain ⟨b,s,hv,⟨off,ha⟩,h2⟩:=sval_det h
  exact ⟨_,_,hv,fun b' s' h => (by cases h; simp [tch,ha]),fun K' hk => by rw [gX]; exact h2 (fun b s => K' (.tup []) (some (b,s))) hk⟩
 case box agg elem x => exact al _ (fun _ => dstep_box ..) rfl h
 case alloc elem zero => exact al _ (fun _ => dstep_alloc ..) rfl h
 case buildSl elem es len zero ps =>
  rw [pE] at h
  rcases h with h | h
  ·obtain ⟨v,bx,hv,h2⟩:=aval_det h
   unfold qX at hv
   split at hv
   ·rename_i hn
    exact ⟨v,_,hv,fun b s h => (by cases h; rfl),fun K' hk => by rw [pE]; exact .inl (h2 _ (by simp only [qX,hn]; exact hk))⟩
   ·exact hv.elim
  ·unfold frzP at h
   split at h
   ·rename_i cs hcs
    exact ⟨_,none,h,fun b s h => (by cases h),fun K' hk => by rw [pE]; exact .inr (by simp only [frzP,hcs]; exact hk)⟩
   ·exact h.elim
 case mkSl elem es bytes zero l c => exact al _ (fun _ => dstep_mkSl ..) rfl h
 case call f args => exact h.elim
 case app elem es bytes s x => exact h.elim
 all_goals exact q _ rfl (fun _ => rfl) h
theorem tch_congr {e e':Env} {nid:Nat} {op:AOp} (h:∀ x∈pZ op,x.ev e'=x.ev e):tch e' nid op=tch e nid op:=by
 cases op <;> try rfl
 case load agg size a => simp only [tch,h a (by simp [pZ])]
 case store agg size a x => simp only [tch,h a (by simp [pZ])]
theorem dstep_congr {e e':Env} {hb hb':Nat→Option Slot} {nid:Nat} {op:AOp} (h:∀ x∈pZ op,x.ev e'=x.ev e) (hh:∀ b,tch e nid op=some b→hb' b=hb b) (K:V→Option (Nat × Slot)→Prop):dstep e' hb' nid op K=dstep e hb nid op K:=by
 have hfree:tch e nid op=some nid→qX hb' nid K=qX hb nid K:=fun hn => by
  unfold qX
  rw [hh nid hn]
 cases op
 case load agg size a =>
  rw [jH,jH]
  exact lval_congr (h a (by simp [pZ])) (fun b off ha => hh b (by simp [tch,ha])) _
 case store agg size a x =>
  rw [gX,gX]
  exact sval_congr (h a (by simp [pZ])) (h x (by simp [pZ])) (fun b off ha => hh b (by simp [tch,ha])) _
 case box agg elem x => rw [dstep_box,dstep_box,nR h,hfree rfl]
 case alloc elem zero => rw [dstep_alloc,dstep_alloc,nR h,hfree rfl]
 case buildSl elem es len zero ps => rw [pE,pE,nR h,hfree rfl]; simp only [frzP,jU ps zero h]
 case mkSl elem es bytes zero l c => rw [dstep_mkSl,dstep_mkSl,nR h,hfree rfl]
 case call f args => rfl
 case app elem es bytes s x => rfl
 all_goals exact qval_congr h (fun v => K v none)
end Go.Proofs.Ytokckcnfojjpjaa
