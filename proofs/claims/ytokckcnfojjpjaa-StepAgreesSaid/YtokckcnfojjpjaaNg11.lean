/-
  Parts of the proof: Code and functions: what the abstract weakest precondition shows, the function does.
-/
import Derived.Test.YtokckcnfojjpjaaNg10
set_option linter.unusedVariables false
set_option linter.unusedSimpArgs false
namespace Go.Proofs.Ytokckcnfojjpjaa
open Go.RowKit
inductive yV where
 | skip
 | reg (xs:List tB)
 | regD (n:Nat) (ds:List DOp)
 | seq (a b:yV)
 | cond (c:AO) (a b:yV)
 | block (id:Nat) (b:yV)
 | loop (live:List Nat) (b:yV)
 | exit (id:Nat)
 | ret
 deriving Inhabited
def yV.erase:yV→yV
 | .seq a b => .seq a.erase b.erase
 | .cond c a b => .cond c a.erase b.erase
 | .block id b => .block id b.erase
 | .loop _ b => .loop [] b.erase
 | c => c
def prio:AOp→Nat
 | .call _ _ => 1
 | .store _ _ _ _ => 2
 | .app _ _ _ _ _ => 2
 | _ => 0
def allocs:AOp→Bool
 | .box _ _ _ => true
 | .alloc _ _ => true
 | .buildSl _ _ _ _ _ => true
 | .mkSl _ _ _ _ _ _ => true
 | _ => false
def readyB (ops:Array Oper) (listed:List Nat) (i:Nat):Bool:=!listed.contains i && match ops[i]? with
 | some o => o.after.toList.all fun e => !Region.binds .any e || listed.contains e.on
 | none => false
def pickNext (ops:Array Oper) (xs:List tB) (listed:List Nat):Option Nat :=
 let rs:=(List.range ops.size).filter (readyB ops listed)
 match rs.find? fun i => Nat.beq (prio (xs.getD i default).op) 0 with
 | some i => some i
 | none => match rs.find? fun i => Nat.beq (prio (xs.getD i default).op) 1 with
  | some i => some i
  | none => rs.head?
def sched (ops:Array Oper) (xs:List tB) (B:List Nat):Nat→List Nat→Nat→List DOp→List DOp
 | 0,_,_,acc => acc.reverse
 | f+1,listed,na,acc => match pickNext ops xs listed with
  | none => acc.reverse
  | some i =>
   let x:=xs.getD i default
   let cmp:=fun j => Nat.beq j i || (B.getD i 0).testBit j || (B.getD j 0).testBit i
   let calm:=fun j => let y:=(xs.getD j default).op; !sT y && (!touches y || qJ y)
   let inc:=if sT x.op then (if (List.range ops.size).all fun j => cmp j || calm j then i :: ((List.range ops.size).filter fun j => !cmp j && qJ (xs.getD j default).op) else []) else (acc.filter fun d => touches d.o.op && touches x.op && !(qJ d.o.op && qJ x.op) && !((B.getD i 0).testBit d.idx)).map (·.idx)
   sched ops xs B f (i :: listed) (if allocs x.op then na+1 else na) (⟨i,na,x,inc⟩ :: acc)
def canSwapB (d1 d2:DOp):Bool :=
 apartA d1.o d2.o && !sT d1.o.op && (!(touches d1.o.op && touches d2.o.op) || (qJ d1.o.op && qJ d2.o.op) || d2.inc.contains d1.idx) && !d1.inc.contains d2.idx && (!pN d2.o.op d2.inc || !touches d1.o.op || (qJ d1.o.op && d2.inc.contains d1.idx))
def pairsB (B:List Nat):List DOp→Bool
 | [] => true
 | d :: r => (r.all fun x => (B.getD x.idx 0).testBit d.idx || canSwapB d x) && pairsB B r
def nodupB:List Nat→Bool
 | [] => true
 | i :: r => !r.contains i && nodupB r
def regOkB (ops:Array Oper) (B:List Nat) (ds:List DOp):Bool :=
 (List.range ops.size).all (fun i => ds.any fun d => d.idx == i) &&
 ds.all (fun d => Nat.ble (d.idx+1) ops.size) &&
 nodupB (ds.map (·.idx)) &&
 (List.range ops.size).all (fun i => match ops[i]? with
  | some o => o.after.toList.all (fun e => !Region.binds .any e || Nat.ble (e.on+1) i) &&
   (List.range i).all (fun j => !(B.getD i 0).testBit j || o.after.toList.any fun e => Region.binds .any e && (e.on == j || (B.getD e.on 0).testBit j)) &&
   Nat.ble (B.getD i 0+1) (2 ^ i)
  | none => false) &&
 Nat.beq B.length ops.size &&
 pairsB B ds
def frzL (B:List Nat) (xs:List tB):List tB:=(List.range xs.length).map fun i =>
 let x:=xs.getD i default
 if (List.range xs.length).any fun j => sT (xs.getD j default).op && !(Nat.beq j i || (B.getD i 0).testBit j || (B.getD j 0).testBit i) then { x with op:=frzOp x.op } else x
def compDs (ops:Array Oper) (xs:List tB) (B:List Nat) (ds:List DOp):Option yV :=
 if regOkB ops B ds && Nat.beq xs.length ops.size then some (.regD (ds.filter fun d => allocs d.o.op).length ds) else none
section
variable (P:Program) (N:Nat)
def compD (ops:Array Oper):Option yV:=match P.follows .mixedOrders,compL P N ops ops.toList with
 | true,some xs => compDs ops xs (Region.before ops).toList (sched ops (frzL (Region.before ops).toList xs) (Region.before ops).toList ops.size [] 0 [])
 | _,_ => none
def sB:Code→Option yV
 | .skip => some .skip
 | .region _ ops false => (compL P N ops ops.toList).map .reg
 | .region _ ops true => compD P N ops
 | .seq a b => match sB a,sB b with
  | some x,some y => some (.seq x y)
  | _,_ => none
 | .cond c a b => match yY c,sB a,sB b with
  | some d,some x,some y => some (.cond d x y)
  | _,_,_ => none
 | .block id b => (sB b).map (.block id)
 | .loop b => (sB b).map (.loop [])
 | .exit id => some (.exit id)
 | .ret => some .ret
 | _ => none
end
inductive Ex where
 | normal
 | exit (id:Nat)
 | ret
def getL:List Nat→Env→Option (List V)
 | [],_ => some []
 | t :: r,e => match e t with
  | some v => match getL r e with
   | some vs => some (v :: vs)
   | none => none
  | none => none
def envL:List Nat→List V→Env
 | t :: r,v :: vs => put (envL r vs) t v
 | _,_ => fun _ => none
def awp (P:Program):yV→(Ex→St→Prop)→St→Prop
 | .skip,Q,st => Q .normal st
 | .reg xs,Q,st => awpOps P xs st (Q .normal)
 | .regD n ds,Q,st => awpD P st.H.length ds [] ⟨st.env,st.H++List.replicate n .unb⟩ (Q .normal)
 | .seq a b,Q,st => awp P a (fun e st' => match e with
  | .normal => awp P b Q st'
  | e => Q e st') st
 | .cond c a b,Q,st => match c.ev st.env with
  | some (.c (.bool p)) => cnd p (awp P a Q st) (awp P b Q st)
  | _ => False
 | .block id b,Q,st => awp P b (fun e st' => match e with
  | .exit i => bif Nat.beq i id then Q .normal st' else Q (.exit i) st'
  | e => Q e st') st
 | .loop L b,Q,st => ∃ I:Nat→List V→Hp→Prop,(∃ n vs,getL L st.env=some vs∧I n vs st.H) ∧
   ∀ n vs H,I n vs H→awp P b (fun e st' => match e with
    | .normal => ∃ n' vs',getL L st'.env=some vs'∧n'<n∧I n' vs' st'.H
    | e => Q e st') ⟨envL L vs,H⟩
 | .exit id,Q,st => Q (.exit id) st
 | .ret,Q,st => Q .ret st
def ERel:Exit→Ex→Prop
 | .normal,.normal => True
 | .exit i,.exit j => i=j
 | .ret,.ret => True
 | _,_ => False
theorem nodupB_sound:∀ {l:List Nat},nodupB l=true→l.Nodup
 | [],_ => List.nodup_nil
 | i :: r,h => by
  simp only [nodupB,Bool.and_eq_true,Bool.not_eq_true'] at h
  refine List.nodup_cons.2 ⟨fun hm => ?_,nodupB_sound h.2⟩
  have:=h.1
  simp [hm] at this
theorem canSwapB_sound {d1 d2:DOp} (h:canSwapB d1 d2=true):gZ d1 d2:=by
 unfold canSwapB at h
 simp only [Bool.and_eq_true,Bool.or_eq_true,Bool.not_eq_true',Bool.and_eq_false_iff] at h
 obtain ⟨⟨⟨⟨h1,h2⟩,h3⟩,h4⟩,h5⟩:=h
 refine ⟨h1,h2,fun t1 t2 => ?_,fun hm => by simp [hm] at h4,fun hl ht => ?_⟩
 rotate_left
 ·rcases h5 with (h5 | h5) | h5
  ·rw [hl] at h5; cases h5
  ·rw [ht] at h5; cases h5
  ·exact ⟨h5.1,by simpa using h5.2⟩
 rcases h3 with (h3 | h3) | h3
 ·rcases h3 with h3 | h3
  ·rw [t1] at h3; cases h3
  ·rw [t2] at h3; cases h3
 ·exact .inl h3
 ·exact .inr (by simpa using h3)
theorem pairsB_sound {B:List Nat}:∀ {ds:List DOp},pairsB B ds=true→ds.Pairwise fun d1 d2 => (B.getD d2.idx 0).testBit d1.idx=true∨gZ d1 d2
 | [],_ => .nil
 | d :: r,h => by
  simp only [pairsB,Bool.and_eq_true,List.all_eq_true,Bool.or_eq_true] at h
  refine .cons (fun x hx => ?_) (pairsB_sound h.2)
  rcases h.1 x hx with h | h
  ·exact .inl h
  ·exact .inr (canSwapB_sound h)
theorem compL_get {P:Program} {N:Nat} {ops:Array Oper}:∀ {l:List Oper} {xs:List tB},compL P N ops l=some xs→∀ {i:Nat} {x:tB},xs[i]?=some x→∃ o,l[i]?=some o∧bR P N ops o=some x
 | [],xs,h,i,x,hx => by
  simp [compL] at h
  subst h
  simp at hx
 | o :: r,xs,h,i,x,hx => by
  unfold compL at h
  split at h
  ·cases h
  ·rename_i y hy
   split at h
   ·cases h
   ·rename_i ys hys
    simp at h
    subst h
    cases i with
    | zero =>
     simp at hx
     subst hx
     exact ⟨o,rfl,hy⟩
    | succ i =>
     simp at hx
     obtain ⟨o',h1,h2⟩:=compL_get hys hx
     exact ⟨o',by simpa using h1,h2⟩
theorem sched_o {ops:Array Oper} {xs:List tB} {B:List Nat}:∀ (f:Nat) (listed:List Nat) (na:Nat) (acc:List DOp),(∀ d∈acc,d.o=xs.getD d.idx default)→∀ d∈sched ops xs B f listed na acc,d.o=xs.getD d.idx default
 | 0,_,_,acc,h,d,hd => h d (by simpa [sched] using hd)
 | f+1,listed,na,acc,h,d,hd => by
  unfold sched at hd
  split at hd
  ·exact h d (by simpa using hd)
  ·refine sched_o f _ _ _ (fun x hx => ?_) d hd
   rcases List.mem_cons.1 hx with rfl | hx
   ·rfl
   ·exact h x hx
theorem regOk_sound {P:Program} {N:Nat} {ops:Array Oper} {xs:List tB} {B:List Nat} {ds:List DOp} (hx:compL P N ops ops.toList=some xs) (hl:xs.length=ops.size) (ho:∀ d∈ds,d.o=(frzL B xs).getD d.idx default) (h:regOkB ops B ds=true):RegOk P N ops B ds:=by
 unfold regOkB at h
 simp only [Bool.and_eq_true,List.all_eq_true,List.mem_range] at h
 obtain ⟨⟨⟨⟨⟨h1,h2⟩,h3⟩,h4⟩,h5⟩,h6⟩:=h
 have hops:∀ (i:Nat) (o:Oper),ops[i]?=some o→i<ops.size:=fun i o hi => (Array.getElem?_eq_some_iff.1 hi).1
 refine ⟨fun d hd => ?_,fun i hi => ?_,nodupB_sound h3,fun i o hi e he hb => ?_,fun i j hb => ?_,pairsB_sound h6⟩
 ·have hlt:d.idx<ops.size:=Nat.le_of_ble_eq_true (h2 d hd)
  have hlt':d.idx<xs.length:=by omega
  obtain ⟨o,h7,h8⟩:=compL_get hx (i:=d.idx) (x:=xs[d.idx]) (by simp [hlt'])
  refine ⟨o,xs[d.idx],by simpa using h7,h8,?_⟩
  rw [ho d hd]
  have e:(frzL B xs).getD d.idx default=(let x:=xs[d.idx]; if (List.range xs.length).any fun j => sT (xs.getD j default).op && !(Nat.beq j d.idx || (B.getD d.idx 0).testBit j || (B.getD j 0).testBit d.idx) then { x with op:=frzOp x.op } else x):=by
   simp [frzL,List.getD_eq_getElem?_getD,hlt']
  rw [e]
  dsimp only
  split
  ·exact .inr rfl
  ·exact .inl rfl
 ·have:=h1 i hi
  simpa using this
 ·have h7:=h4 i (hops i o hi)
  rw [hi] at h7
  simp only [Bool.and_eq_true,List.all_eq_true,Bool.or_eq_true,Bool.not_eq_true'] at h7
  rcases h7.1.1 e (by simpa using he) with h8 | h8
  ·rw [hb] at h8; cases h8
  ·exact Nat.le_of_ble_eq_true h8
 ·have hBi:i<B.length:=by
   rcases Nat.lt_or_ge i B.length with hh | hh
   ·exact hh
   ·have:B.getD i 0=0:=by simp [List.getD_eq_getElem?_getD,hh]
    rw [this] at hb
    simp at hb
  have hlen:B.length=ops.size:=Nat.eq_of_beq_eq_true h5
  have h7:=h4 i (by omega)
  cases hi:ops[i]? with
  | none =>
   simp at hi
   omega
  | some o =>
   rw [hi] at h7
   simp only [Bool.and_eq_true,List.all_eq_true,Bool.or_eq_true,Bool.not_eq_true',List.mem_range,List.any_eq_true,beq_iff_eq] at h7
   have hji:j<i:=by
    have h8:=Nat.le_of_ble_eq_true h7.2
    rcases Nat.lt_or_ge j i with hh | hh
    ·exact hh
    ·have h9:B.getD i 0<2 ^ j:=Nat.lt_of_lt_of_le h8 (Nat.pow_le_pow_right (by omega) hh)
     rw [Nat.testBit_lt_two_pow h9] at hb
     cases hb
   rcases h7.1.2 j hji with h8 | ⟨e,he,hbd,hor⟩
   ·rw [hb] at h8; cases h8
   ·exact ⟨o,rfl,e,by simpa using he,hbd,hor⟩
end Go.Proofs.Ytokckcnfojjpjaa
