/-
  Parts of the proof: The abstract operations: what they ask and what they leave, on abstract values alone; and how an operation of a program becomes one. No proof here.
-/
import Derived.Test.YtokckcnfojjpjaaNg1
set_option linter.unusedVariables false
namespace Go.Proofs.Ytokckcnfojjpjaa
open Go.RowKit
abbrev Env:=Nat→Option V
def look (e:Env) (t:Nat):Option V:=e t
def put (e:Env) (d:Nat) (v:V):Env:=fun t => bif Nat.beq d t then some v else e t
structure St where
 env:Env
 H:Hp
inductive AO where
 | t (n:Nat)
 | k (v:V)
 deriving Inhabited
def AO.ev (e:Env):AO→Option V
 | .t n => look e n
 | .k v => some v
def cnd (p:Bool) (A B:Prop):Prop:=match p with
 | true => A
 | false => B
theorem xW {p:Bool} {A B:Prop} (h1:p=true→A) (h2:p=false→B):cnd p A B:=by
 cases p
 ·exact h2 rfl
 ·exact h1 rfl
theorem jV {p:Bool} {A B:Prop} (hp:p=true) (h:A):cnd p A B:=by subst hp; exact h
theorem jJ {p:Bool} {A B:Prop} (hp:p=false) (h:B):cnd p A B:=by subst hp; exact h
def chk (p:Bool) (A:Prop):Prop:=cnd p A False
theorem xF {p:Bool} {A:Prop} (hp:p=true) (h:A):chk p A:=jV hp h
theorem wB {p:Bool} {A:Prop} (h:chk p A):p=true∧A:=by
 cases p
 ·exact h.elim
 ·exact ⟨rfl,h⟩
theorem gL {p:Bool} {A B:Prop} (h:cnd p A B):(p=true∧A)∨(p=false∧B):=by
 cases p
 ·exact .inr ⟨rfl,h⟩
 ·exact .inl ⟨rfl,h⟩
inductive Ar where
 | add | sub | mul | quo | rem | and | or | xor | andNot
 deriving DecidableEq,Inhabited
inductive Cm where
 | eql | neq | lss | leq | gtr | geq
 deriving DecidableEq,Inhabited
def arith (op:Ar) (k:IntKind) (a b:Int):Int:=match op with
 | .add => k.wrap (a+b)
 | .sub => k.wrap (a - b)
 | .mul => k.wrap (a*b)
 | .quo => k.wrap (a.tdiv b)
 | .rem => a.tmod b
 | .and => k.wrap (BitVec.ofInt k.bits a &&& BitVec.ofInt k.bits b).toNat
 | .or => k.wrap (BitVec.ofInt k.bits a ||| BitVec.ofInt k.bits b).toNat
 | .xor => k.wrap (BitVec.ofInt k.bits a ^^^ BitVec.ofInt k.bits b).toNat
 | .andNot => k.wrap (BitVec.ofInt k.bits a &&& ~~~ BitVec.ofInt k.bits b).toNat
def mxI (a b:Int):Int:=if b > a then b else a
def needs (op:Ar) (b:Int):Bool:=match op with
 | .quo | .rem => !(decide (b=0))
 | _ => true
noncomputable def dec (p:Prop):Bool:=@decide p (Classical.propDecidable p)
@[simp] theorem yE {p:Prop}:dec p=true↔p:=by simp [dec]
@[simp] theorem yK {p:Prop}:dec p=false↔¬ p:=by simp [dec]
theorem dec_decide {p:Prop} [Decidable p]:dec p=decide p:=by
 by_cases h:p
 ·rw [yE.2 h,decide_eq_true h]
 ·rw [yK.2 h,decide_eq_false h]
noncomputable def yA (op:Cm) (a b:Int):Bool:=match op with
 | .eql => dec (a=b)
 | .neq => dec (a≠b)
 | .lss => dec (a<b)
 | .leq => dec (a≤b)
 | .gtr => dec (a > b)
 | .geq => dec (a≥b)
def eqC:Nat→C→C→Option Bool
 | 1,.int k a,.int k' b => bif decide (k=k') then some (a == b) else none
 | 0,.bool a,.bool b => some (a == b)
 | 2,.str a,.str b => some (a == b)
 | _,_,_ => none
def eqAt:List (Nat × Nat)→List C→List C→Option Bool
 | [],_,_ => some true
 | o :: r,a,b => match a[o.1]?,b[o.1]? with
  | some x,some y => match eqC o.2 x y with
   | some p => match eqAt r a b with
    | some q => some (p && q)
    | none => none
   | none => none
  | _,_ => none
def isNil:C→Option Bool
 | .nilSl => some true
 | .imm _ _ => some false
 | .sl _ _ _ _ _ => some false
 | _ => none
inductive AOp where
 | mv (x:AO)
 | pick (c a b:AO)
 | box (agg:Bool) (elem:TypeId) (x:AO)
 | alloc (elem:TypeId) (zero:List C)
 | build (zero:List C) (parts:List (Nat × Nat × Bool × AO))
 | buildSl (elem:TypeId) (es len:Nat) (zero:List C) (parts:List (Nat × Nat × Bool × AO))
 | load (agg:Bool) (size:Nat) (a:AO)
 | store (agg:Bool) (size:Nat) (a x:AO)
 | ar (op:Ar) (x y:AO)
 | cm (op:Cm) (x y:AO)
 | shl (x y:AO)
 | shr (x y:AO)
 | eqB (neg:Bool) (x y:AO)
 | eqA (neg:Bool) (offs:List (Nat × Nat)) (x y:AO)
 | eqN (neg:Bool) (x:AO)
 | neg (x:AO)
 | not (x:AO)
 | conv (k:IntKind) (x:AO)
 | same (x:AO)
 | faddr (off:Nat) (x:AO)
 | fld (agg:Bool) (off size:Nat) (x:AO)
 | iaddr (arr:Option Nat) (es:Nat) (x i:AO)
 | idx (agg:Bool) (len es:Nat) (x i:AO)
 | idxS (x i:AO)
 | slc (es:Nat) (x:AO) (lo hi mx:Option AO)
 | slcA (len es:Nat) (x:AO) (lo hi:Option AO)
 | mkSl (elem:TypeId) (es bytes:Nat) (zero:List C) (l c:AO)
 | ext (t:AO) (i:Nat)
 | len (x:AO)
 | app (elem:TypeId) (es bytes:Nat) (s x:AO)
 | mx (x y:AO)
 | mn (x y:AO)
 | mx3 (x y z:AO)
 | call (f:AO) (args:List AO)
 | fnc (f:FuncId) (caps:List AO)
 | chkNil (x:AO)
 | ifaceC (t:TypeId) (x:AO)
 | ifaceA (t:TypeId) (x:AO)
 | asrt (t:TypeId) (zero:List C) (x:AO)
 | frzSl (len:Nat) (zero:List C) (parts:List (Nat × Nat × Bool × AO))
 | mkMap
 | mapUp (m k x:AO)
 | lookup (ok:Bool) (zero:C) (m k:AO)
 deriving Inhabited
def qT (agg:Bool):V→Option (List C)
 | .agg cs => bif agg then some cs else none
 | .c c => bif agg then none else some [c]
 | _ => none
def pD (e:Env) (cs:List C):List (Nat × Nat × Bool × AO)→Option (List C)
 | [] => some cs
 | (off,size,agg,x) :: r => match x.ev e with
  | some v => match qT agg v with
   | some ds => bif (Nat.beq ds.length size && Nat.ble (off+size) cs.length) then pD e (splice cs off ds) r else none
   | none => none
  | none => none
def evs (e:Env):List AO→Option (List V)
 | [] => some []
 | x :: r => match x.ev e with
  | some v => match evs e r with
   | some vs => some (v :: vs)
   | none => none
  | none => none
def evc (e:Env):List AO→Option (List C)
 | [] => some []
 | x :: r => match x.ev e with
  | some (.c v) => match evc e r with
   | some vs => some (v :: vs)
   | none => none
  | _ => none
def bnd (e:Env) (d:Int):Option AO→Option Int
 | none => some d
 | some x => match x.ev e with
  | some (.c (.int _ n)) => some n
  | _ => none
def newB (H:Hp) (cs:List C) (elem:TypeId):Hp:=H++[.live ⟨cs,elem,.rw⟩]
def sR (H:Hp) (es:Nat):C→Option (List C)
 | .nilSl => some []
 | .imm n cs => some (cs.take (n*es))
 | .sl b off n _ _ => match H[b]? with
  | some (.live bx) => some ((bx.cells.drop off).take (n*es))
  | _ => none
 | _ => none
def slLen:C→Option Nat
 | .nilSl => some 0
 | .imm n _ => some n
 | .sl _ _ n _ _ => some n
 | _ => none
mutual
def HFC:C→Prop
 | .imm _ cs => HFL cs
 | .ipt cs => HFL cs
 | .fn _ cs => HFL cs
 | .ifaceC _ c => HFC c
 | .ifaceA _ cs => HFL cs
 | .sl _ _ _ _ _ => False
 | .ptr _ _ => False
 | .mp _ => False
 | _ => True
def HFL:List C→Prop
 | [] => True
 | c :: r => HFC c∧HFL r
end
def HFV:V→Prop
 | .c c => HFC c
 | .agg cs => HFL cs
 | .tup _ => False
def HFVs:List V→Prop
 | [] => True
 | v :: r => HFV v∧HFVs r
section
variable (P:Program)
def okFn (f:FuncId):Prop:=∃ fn,P.funcs[f]?=some fn∧(fn.name == "runtime.NumGoroutine")=false∧fn.body.isNone=false
def semH (f:FuncId) (args:List V) (H:Hp) (K:V→Hp→Prop):Prop :=
 okFn P f∧∀ (base:Nat→Prop) (w:World) (β:Nat→Nat) (vs:List Value),HRel base w β H→RVL (cx base w β H) args vs →
  Calls P f vs.toArray w fun e w' => ∃ (v:Value) (u:V) (β':Nat→Nat) (H':Hp),e=.returned v∧K u H'∧HRel base w' β' H'∧Ext w β H w' β' H'∧RV (cx base w' β' H') u v
def cx0 (base:Nat→Prop) (w:World):Cx:=⟨w,fun _ => 0,base,fun _ => False⟩
structure Quiet (w w':World):Prop where
 size:w.heap.size≤w'.heap.size
 keep:∀ k,k<w.heap.size→w'.heap[k]?=w.heap[k]?
 os:w'.os=w.os
 tape:w'.tape=w.tape
 output:w'.output=w.output
def semC (f:FuncId) (args:List V) (K:V→Prop):Prop :=
 okFn P f∧HFVs args∧∀ (base:Nat→Prop) (w:World) (vs:List Value),(∀ k,base k→k<w.heap.size)→RVL (cx0 base w) args vs →
  Calls P f vs.toArray w fun e w' => ∃ (v:Value) (u:V),e=.returned v∧K u∧RV (cx0 base w') u v∧Quiet w w'
def qLen (x:Option V) (K:V→Prop):Prop:=match x with
 | some (.c (.sl _ _ n _ _)) => K (.c (.int .i64 n))
 | some (.c (.imm n _)) => K (.c (.int .i64 n))
 | some (.c .nilSl) => K (.c (.int .i64 0))
 | _ => False
def qNil (neg:Bool) (x:Option V) (K:V→Prop):Prop:=match x with
 | some (.c c) => match isNil c with
  | some r => K (.c (.bool (bif neg then !r else r)))
  | none => False
 | _ => False
def qIad (arr:Option Nat) (es:Nat) (x i:Option V) (K:V→Prop):Prop:=match x,i with
 | some (.c c),some (.c (.int _ n)) => match arr,c with
  | none,.sl b off m _ _ => chk (decide (0≤n) && decide (n<(m:Int))) (K (.c (.ptr b (off+n.toNat*es))))
  | none,.imm m cs => chk (decide (0≤n) && decide (n<(m:Int))) (K (.c (.ipt (cs.drop (n.toNat*es)))))
  | some m,.ptr b off => chk (decide (0≤n) && decide (n<(m:Int))) (K (.c (.ptr b (off+n.toNat*es))))
  | some m,.ipt cs => chk (decide (0≤n) && decide (n<(m:Int))) (K (.c (.ipt (cs.drop (n.toNat*es)))))
  | _,_ => False
 | _,_ => False
def qIdx (agg:Bool) (len es:Nat) (x i:Option V) (K:V→Prop):Prop:=match x,i with
 | some (.agg cs),some (.c (.int _ n)) => chk (decide (0≤n) && decide (n<(len:Int)) && Nat.beq cs.length (len*es)) (match agg with
  | true => K (.agg ((cs.drop (n.toNat*es)).take es))
  | false => match cs[n.toNat*es]? with
   | some c => K (.c c)
   | none => False)
 | _,_ => False
def qSlc (e:Env) (es:Nat) (x:Option V) (lo hi mx:Option AO) (K:V→Prop):Prop:=match x,mx with
 | some (.c (.sl b off n co es')),none => match bnd e 0 lo,bnd e n hi with
  | some l,some h => chk (decide (0≤l) && decide (l≤h) && decide (h≤(n:Int)) && Nat.beq es es') (K (.c (.sl b (off+l.toNat*es) (h.toNat - l.toNat) (co.map (· - l.toNat)) es)))
  | _,_ => False
 | some (.c (.imm n cs)),none => match bnd e 0 lo,bnd e n hi with
  | some l,some h => chk (decide (0≤l) && decide (l≤h) && decide (h≤(n:Int))) (K (.c (.imm (h.toNat - l.toNat) ((cs.drop (l.toNat*es)).take ((h.toNat - l.toNat)*es)))))
  | _,_ => False
 | some (.c .nilSl),none => match bnd e 0 lo,bnd e 0 hi with
  | some l,some h => chk (decide (l=0) && decide (h=0)) (K (.c .nilSl))
  | _,_ => False
 | _,_ => False
def frzP (e:Env) (len:Nat) (zero:List C) (parts:List (Nat × Nat × Bool × AO)) (K:V→Prop):Prop:=match pD e zero parts with
 | some cs => K (.c (.imm len cs))
 | none => False
def qval (e:Env):AOp→(V→Prop)→Prop
 | .mv x,K => match x.ev e with
  | some v => K v
  | none => False
 | .pick c a b,K => match c.ev e with
  | some (.c (.bool p)) => cnd p (match a.ev e with
    | some v => K v
    | none => False) (match b.ev e with
    | some v => K v
    | none => False)
  | _ => False
 | .frzSl len zero parts,K => frzP e len zero parts K
 | .build zero parts,K => match pD e zero parts with
  | some cs => K (.agg cs)
  | none => False
 | .ar op x y,K => match x.ev e,y.ev e with
  | some (.c (.int k a)),some (.c (.int k' b)) => chk (decide (k=k') && needs op b) (K (.c (.int k (arith op k a b))))
  | _,_ => False
 | .cm op x y,K => match x.ev e,y.ev e with
  | some (.c (.int k a)),some (.c (.int k' b)) => chk (decide (k=k')) (K (.c (.bool (yA op a b))))
  | _,_ => False
 | .shl x y,K => match x.ev e,y.ev e with
  | some (.c (.int k a)),some (.c (.int _ n)) => chk (decide (0≤n)) (K (.c (.int k (k.wrap (a*2 ^ (min n.toNat k.bits))))))
  | _,_ => False
 | .shr x y,K => match x.ev e,y.ev e with
  | some (.c (.int k a)),some (.c (.int _ n)) => chk (decide (0≤n)) (K (.c (.int k (a.fdiv (2 ^ (min n.toNat k.bits))))))
  | _,_ => False
 | .eqB neg x y,K => match x.ev e,y.ev e with
  | some (.c (.bool a)),some (.c (.bool b)) => K (.c (.bool (bif neg then !(a == b) else (a == b))))
  | _,_ => False
 | .eqA neg offs x y,K => match x.ev e,y.ev e with
  | some (.agg a),some (.agg b) => match eqAt offs a b with
   | some r => K (.c (.bool (bif neg then !r else r)))
   | none => False
  | _,_ => False
 | .eqN neg x,K => qNil neg (x.ev e) K
 | .neg x,K => match x.ev e with
  | some (.c (.int k a)) => K (.c (.int k (k.wrap (0 - a))))
  | _ => False
 | .not x,K => match x.ev e with
  | some (.c (.bool a)) => K (.c (.bool (!a)))
  | _ => False
 | .conv k x,K => match x.ev e with
  | some (.c (.int _ a)) => K (.c (.int k (k.wrap a)))
  | _ => False
 | .same x,K => match x.ev e with
  | some v => K v
  | _ => False
 | .faddr off x,K => match x.ev e with
  | some (.c (.ptr b o)) => K (.c (.ptr b (o+off)))
  | some (.c (.ipt cs)) => K (.c (.ipt (cs.drop off)))
  | _ => False
 | .fld agg off size x,K => match x.ev e with
  | some (.agg cs) => match agg with
   | true => chk (Nat.ble (off+size) cs.length) (K (.agg ((cs.drop off).take size)))
   | false => match cs[off]? with
    | some c => K (.c c)
    | none => False
  | _ => False
 | .iaddr arr es x i,K => qIad arr es (x.ev e) (i.ev e) K
 | .idx agg len es x i,K => qIdx agg len es (x.ev e) (i.ev e) K
 | .idxS x i,K => match x.ev e,i.ev e with
  | some (.c (.str s)),some (.c (.int _ n)) => chk (decide (0≤n) && decide (n<(s.size:Int))) (K (.c (.int .u8 (s[n.toNat]?.getD 0).toNat)))
  | _,_ => False
 | .slc es x lo hi mx,K => qSlc e es (x.ev e) lo hi mx K
 | .ext t i,K => match t.ev e with
  | some (.tup us) => match us[i]? with
   | some u => K u
   | none => False
  | _ => False
 | .len x,K => qLen (x.ev e) K
 | .mx x y,K => match x.ev e,y.ev e with
  | some (.c (.int k a)),some (.c (.int _ b)) => K (.c (.int k (if b > a then b else a)))
  | _,_ => False
 | .mn x y,K => match x.ev e,y.ev e with
  | some (.c (.int k a)),some (.c (.int _ b)) => K (.c (.int k (if b<a then b else a)))
  | _,_ => False
 | .mx3 x y z,K => match x.ev e,y.ev e,z.ev e with
  | some (.c (.int k a)),some (.c (.int _ b)),some (.c (.int _ c)) => K (.c (.int k (mxI (mxI a b) c)))
  | _,_,_ => False
 | .fnc f caps,K => match evc e caps with
  | some cs => K (.c (.fn f cs))
  | none => False
 | .chkNil x,K => match x.ev e with
  | some (.c (.ptr b o)) => K (.c (.ptr b o))
  | some (.c (.ipt cs)) => K (.c (.ipt cs))
  | some (.c (.fn f cs)) => K (.c (.fn f cs))
  | _ => False
 | .ifaceC t x,K => match x.ev e with
  | some (.c c) => K (.c (.ifaceC t c))
  | _ => False
 | .ifaceA t x,K => match x.ev e with
  | some (.agg cs) => K (.c (.ifaceA t cs))
  | _ => False
 | .asrt t zero x,K => match x.ev e with
  | some (.c (.ifaceA u cs)) => K (bif Nat.beq u t then .tup [.agg cs,.c (.bool true)] else .tup [.agg zero,.c (.bool false)])
  | some (.c .nilIface) => K (.tup [.agg zero,.c (.bool false)])
  | _ => False
 | _,_ => False
def yW (s:Option Slot) (agg:Bool) (size off:Nat) (K:V→Prop):Prop:=match s with
 | some (.live bx) => match agg with
  | true => chk (Nat.ble (off+size) bx.cells.length) (K (.agg ((bx.cells.drop off).take size)))
  | false => match bx.cells[off]? with
   | some c => K (.c c)
   | none => False
 | _ => False
def yI (cs:List C) (agg:Bool) (size:Nat) (K:V→Prop):Prop:=match agg with
 | true => chk (Nat.ble size cs.length) (K (.agg (cs.take size)))
 | false => match cs[0]? with
  | some c => K (.c c)
  | none => False
def lval (e:Env) (hb:Nat→Option Slot) (agg:Bool) (size:Nat) (a:AO) (K:V→Prop):Prop:=match a.ev e with
  | some (.c (.ptr b off)) => yW (hb b) agg size off K
  | some (.c (.ipt cs)) => yI cs agg size K
  | _ => False
def xA (s:Option Slot) (b size off:Nat) (ds:Option (List C)) (K:Nat→Slot→Prop):Prop:=match s with
 | some (.live bx) => match bx.kind with
  | .rw => match ds with
   | some ds => chk (Nat.beq ds.length size && Nat.ble (off+size) bx.cells.length) (K b (.live { bx with cells:=splice bx.cells off ds }))
   | none => False
  | _ => False
 | _ => False
def sval (e:Env) (hb:Nat→Option Slot) (agg:Bool) (size:Nat) (a x:AO) (K:Nat→Slot→Prop):Prop:=match a.ev e,x.ev e with
  | some (.c (.ptr b off)),some v => xA (hb b) b size off (qT agg v) K
  | _,_ => False
def aval (e:Env) (i:Nat):AOp→(V→Box→Prop)→Prop
 | .box agg elem x,K => match x.ev e with
  | some v => match qT agg v with
   | some cs => K (.c (.ptr i 0)) ⟨cs,elem,.rw⟩
   | none => False
  | none => False
 | .alloc elem zero,K => K (.c (.ptr i 0)) ⟨zero,elem,.rw⟩
 | .buildSl elem es len zero parts,K => match pD e zero parts with
  | some cs => K (.c (.sl i 0 len (some len) es)) ⟨cs,elem,.rw⟩
  | none => False
 | .mkSl elem es bytes zero l c,K => match l.ev e,c.ev e with
  | some (.c (.int .i64 m)),some (.c (.int .i64 n)) => chk (dec (0≤m∧m≤n∧n*bytes≤281474976710656∧n≤281474976710656)) (K (.c (.sl i 0 m.toNat (some n.toNat) es)) ⟨(List.replicate n.toNat zero).flatten,elem,.rw⟩)
  | _,_ => False
 | _,_ => False
def appX (H:Hp) (elem es bytes:Nat) (s x:Option V) (K:V→Hp→Prop):Prop:=match s,x with
 | some (.c sc),some (.c xc) => match sR H es xc,slLen xc with
  | some xs,some m => chk (Nat.beq xs.length (m*es)) (match sc with
   | .nilSl => cnd (Nat.beq m 0) (K (.c .nilSl) H) (chk (dec (m*bytes≤140737488355328) && dec (m≤140737488355328)) (K (.c (.sl H.length 0 m none es)) (newB H xs elem)))
   | .sl b off n co es' => match H[b]? with
    | some (.live bx) => match bx.kind with
     | .rw => chk (Nat.beq es es' && Nat.beq off 0 && decide (bx.elem=elem) && Nat.ble (n*es) bx.cells.length && dec ((n+m)*bytes≤140737488355328) && dec (n+m≤140737488355328)) (K (.c (.sl H.length 0 (n+m) none es)) (newB (H.set b .dead) (bx.cells.take (n*es)++xs) elem))
     | _ => False
    | _ => False
   | _ => False)
  | _,_ => False
 | _,_ => False
def appI (H:Hp) (es:Nat) (s x:Option V) (K:V→Hp→Prop):Prop:=match s,x with
 | some (.c (.sl b off n (some cap) es')),some (.c xc) => match sR H es xc,slLen xc,H[b]? with
  | some xs,some m,some (.live bx) => match bx.kind with
   | .rw => chk (Nat.beq xs.length (m*es) && Nat.beq es es' && Nat.ble (n+m) cap && Nat.ble (off+n*es+m*es) bx.cells.length) (K (.c (.sl b off (n+m) (some cap) es)) (H.set b (.live { bx with cells:=splice bx.cells (off+n*es) xs })))
   | _ => False
  | _,_,_ => False
 | _,_ => False
def slcX (e:Env) (H:Hp) (len es:Nat) (x:Option V) (lo hi:Option AO) (K:V→Prop):Prop:=match x with
 | some (.c (.ptr b off)) => match H[b]?,bnd e 0 lo,bnd e len hi with
  | some (.live bx),some l,some h => chk (decide (0≤l) && decide (l≤h) && decide (h≤(len:Int)) && Nat.ble (off+len*es) bx.cells.length) (K (.c (.sl b (off+l.toNat*es) (h.toNat - l.toNat) (some (len - l.toNat)) es)))
  | _,_,_ => False
 | _ => False
def findE:List (Int × C)→Int→Option C
 | [],_ => none
 | (k,c) :: r,n => bif decide (n=k) then some c else findE r n
def upE:List (Int × C)→Int→C→List (Int × C)
 | [],n,v => [(n,v)]
 | (k,c) :: r,n,v => bif decide (n=k) then (n,v) :: r else (k,c) :: upE r n v
def lookP (ok:Bool) (z:C) (es:List (Int × C)) (n:Int) (K:V→Prop):Prop:=match findE es n with
 | some c => match ok with
  | true => K (.tup [.c c,.c (.bool true)])
  | false => K (.c c)
 | none => match ok with
  | true => K (.tup [.c z,.c (.bool false)])
  | false => K (.c z)
def xop (st:St) (op:AOp) (K:V→Hp→Prop):Prop:=match op,K with
 | .load agg size a,K => lval st.env (fun b => st.H[b]?) agg size a fun v => K v st.H
 | .store agg size a x,K => sval st.env (fun b => st.H[b]?) agg size a x fun b s => K (.tup []) (st.H.set b s)
 | .app elem es bytes s x,K => appX st.H elem es bytes (s.ev st.env) (x.ev st.env) K∨appI st.H es (s.ev st.env) (x.ev st.env) K
 | .slcA len es x lo hi,K => slcX st.env st.H len es (x.ev st.env) lo hi fun v => K v st.H
 | .call f args,K => match f.ev st.env,evs st.env args with
  | some (.c (.fn g caps)),some us => semH P g (us++caps.map .c) st.H K
  | _,_ => False
 | .box agg elem x,K => aval st.env st.H.length (.box agg elem x) fun v bx => K v (st.H++[.live bx])
 | .alloc elem zero,K => aval st.env st.H.length (.alloc elem zero) fun v bx => K v (st.H++[.live bx])
 | .buildSl elem es len zero parts,K => (aval st.env st.H.length (.buildSl elem es len zero parts) fun v bx => K v (st.H++[.live bx]))∨frzP st.env len zero parts fun v => K v st.H
 | .mkSl elem es bytes zero l c,K => aval st.env st.H.length (.mkSl elem es bytes zero l c) fun v bx => K v (st.H++[.live bx])
 | .mkMap,K => K (.c (.mp st.H.length)) (st.H++[.mp []])
 | .mapUp m k x,K => match m.ev st.env,k.ev st.env,x.ev st.env with
  | some (.c (.mp b)),some (.c (.int .i64 n)),some (.c v) => match st.H[b]? with
   | some (.mp es) => K (.tup []) (st.H.set b (.mp (upE es n v)))
   | _ => False
  | _,_,_ => False
 | .lookup ok z m k,K => match m.ev st.env,k.ev st.env with
  | some (.c (.mp b)),some (.c (.int .i64 n)) => match st.H[b]? with
   | some (.mp es) => lookP ok z es n fun v => K v st.H
   | _ => False
  | _,_ => False
 | op,K => qval st.env op fun v => K v st.H
def ofValue:Value→Option V
 | .bool b => some (.c (.bool b))
 | .int k n => some (.c (.int k n))
 | .string s => some (.c (.str s))
 | .slice none 0 0 => some (.c .nilSl)
 | .pointer none => some (.c .nilPtr)
 | .nilFunc => some (.c .nilFn)
 | .nilIface => some (.c .nilIface)
 | .tuple vs => if vs.size=0 then some (.tup []) else none
 | _ => none
def ofCell:Value→Option C
 | .bool b => some (.bool b)
 | .int k n => some (.int k n)
 | .string s => some (.str s)
 | .slice none 0 0 => some .nilSl
 | .pointer none => some .nilPtr
 | .nilFunc => some .nilFn
 | .nilIface => some .nilIface
 | _ => none
def gB:List Value→Option (List C)
 | [] => some []
 | v :: r => match ofCell v with
  | some c => match gB r with
   | some cs => some (c :: cs)
   | none => none
  | none => none
def ofConst:Value→Option V
 | .agg cs => (gB cs.toList).map .agg
 | v => ofValue v
def yY:Operand→Option AO
 | .tmp t => some (.t t)
 | .const v => (ofConst v).map .k
 | .func f => some (.k (.c (.fn f [])))
 | .global _ => none
def jI:List Operand→Option (List AO)
 | [] => some []
 | x :: r => match yY x with
  | some y => match jI r with
   | some ys => some (y :: ys)
   | none => none
  | none => none
def isAggD:TypeDesc→Bool
 | .struct _ | .array _ _ => true
 | _ => false
structure TI where
 agg:Bool
 size:Nat
 bytes:Nat
 zero:List C
def tinfo (t:TypeId):Option TI:=match P.info? t,P.underlying t with
 | some i,some d => match i.zero with
  | some z => match gB z.cells.toList with
   | some cs => if cs.length=i.size then some ⟨isAggD d,i.size,i.bytes,cs⟩ else none
   | none => none
  | none => none
 | _,_ => none
def tsize (t:TypeId):Option (Bool × Nat):=match P.info? t,P.underlying t with
 | some i,some d => some (isAggD d,i.size)
 | _,_ => none
def sH (place:Nat→Option (Nat × Bool × Nat)):List (Nat × Operand)→Option (List (Nat × Nat × Bool × AO))
 | [] => some []
 | (i,x) :: r => match place i,yY x,sH place r with
  | some (off,agg,size),some y,some ys => some ((off,size,agg,y) :: ys)
  | _,_,_ => none
def pO:List Field→Option (List (Nat × Bool × Nat))
 | [] => some []
 | f :: r => match tsize P f.type,pO r with
  | some (agg,size),some ps => some ((f.offset,agg,size) :: ps)
  | _,_ => none
def flatF (g:TypeId→Option (List (Nat × Nat))):List Field→Option (List (Nat × Nat))
 | [] => some []
 | f :: r => bif f.name == "_" then none else match tsize P f.type,g f.type,flatF g r with
  | some (_,size),some os,some rs => bif os.all (fun o => Nat.ble (o.1+1) size) then some (os.map (fun o => (f.offset+o.1,o.2))++rs) else none
  | _,_,_ => none
def flatT:Nat→TypeId→Option (List (Nat × Nat))
 | 0,_ => none
 | d+1,t => match P.underlying t with
  | some .bool => some [(0,0)]
  | some (.int _) => some [(0,1)]
  | some .string => some [(0,2)]
  | some (.struct fs) => bif P.stoodInHeld t then none else flatF P (flatT d) fs.toList
  | _ => none
def compBin (op:BinOp) (t:TypeId) (x y:AO):Option AOp :=
 match P.underlying t with
 | some (.int _) => match op with
  | .add => some (.ar .add x y)
  | .sub => some (.ar .sub x y)
  | .mul => some (.ar .mul x y)
  | .quo => some (.ar .quo x y)
  | .rem => some (.ar .rem x y)
  | .and => some (.ar .and x y)
  | .or => some (.ar .or x y)
  | .xor => some (.ar .xor x y)
  | .andNot => some (.ar .andNot x y)
  | .eql => some (.cm .eql x y)
  | .neq => some (.cm .neq x y)
  | .lss => some (.cm .lss x y)
  | .leq => some (.cm .leq x y)
  | .gtr => some (.cm .gtr x y)
  | .geq => some (.cm .geq x y)
  | .shl => some (.shl x y)
  | .shr => some (.shr x y)
 | some .bool => match op with
  | .eql => some (.eqB false x y)
  | .neq => some (.eqB true x y)
  | _ => none
 | some (.slice _) => match y with
  | .k (.c .nilSl) => match op with
   | .eql => some (.eqN false x)
   | .neq => some (.eqN true x)
   | _ => none
  | _ => none
 | some (.struct _) => match flatT P 8 t,P.eqGuardType P.depth t with
  | some offs,false => match op with
   | .eql => some (.eqA false offs x y)
   | .neq => some (.eqA true offs x y)
   | _ => none
  | _,_ => none
 | _ => none
def uW:Option Operand→Option (Option AO)
 | none => some none
 | some x => (yY x).map some
def pU (o:Oper):Option AOp:=match o.op with
 | .move x | .assign x => (yY x).map .mv
 | .pick c a b => match yY c,yY a,yY b with
  | some c,some a,some b => some (.pick c a b)
  | _,_,_ => none
 | .box e x => match tsize P e,yY x with
  | some (agg,_),some y => some (.box agg e y)
  | _,_ => none
 | .alloc e => (tinfo P e).map fun i => .alloc e i.zero
 | .build t ps => match tinfo P t,P.underlying t with
  | some i,some (.struct fs) => match pO P fs.toList with
   | some pl => (sH (pl[·]?) ps.toList).map (.build i.zero)
   | none => none
  | some i,some (.array _ e) => match tsize P e with
   | some (agg,size) => (sH (fun j => some (j*size,agg,size)) ps.toList).map (.build i.zero)
   | none => none
  | _,_ => none
 | .buildSlice t n ps => match P.underlying t with
  | some (.slice e) => match tinfo P e with
   | some i => if n*i.size≤16777216∧0<i.size then (sH (fun j => some (j*i.size,i.agg,i.size)) ps.toList).map (.buildSl e i.size n (List.replicate n i.zero).flatten) else none
   | none => none
  | _ => none
 | .load t x => match tsize P t,yY x with
  | some (agg,size),some y => some (.load agg size y)
  | _,_ => none
 | .store t a x => match tsize P t,yY a,yY x with
  | some (agg,size),some b,some y => some (.store agg size b y)
  | _,_,_ => none
 | .binOp op t x y _ => match yY x,yY y with
  | some a,some b => compBin P op t a b
  | _,_ => none
 | .unOp op u x => match op,yY x with
  | .neg,some y => some (.neg y)
  | .not,some y => some (.not y)
  | .xor,some y => match P.underlying u with
   | some (.int k) => some (.ar .xor (.k (.c (.int k (if k.signed then -1 else k.max)))) y)
   | _ => none
  | _,_ => none
 | .convert src dst x => match P.underlying src,P.underlying dst,yY x with
  | some (.int _),some (.int k),some y => some (.conv k y)
  | _,_,_ => none
 | .fieldAddr s x f => match P.underlying s,yY x with
  | some (.struct fs),some y => match fs[f]? with
   | some fd => match tsize P fd.type with
    | some (_,size) => if size=0 then none else some (.faddr fd.offset y)
    | none => none
   | none => none
  | _,_ => none
 | .field s x f => match P.underlying s,yY x with
  | some (.struct fs),some y => match fs[f]? with
   | some fd => (tsize P fd.type).map fun (agg,size) => .fld agg fd.offset size y
   | none => none
  | _,_ => none
 | .indexAddr t x i => match P.underlying t,yY x,yY i with
  | some (.slice e),some y,some j => (tsize P e).map fun (_,size) => .iaddr none size y j
  | some (.array n e),some y,some j => (tsize P e).map fun (_,size) => .iaddr (some n) size y j
  | _,_,_ => none
 | .index t x i => match P.underlying t,yY x,yY i with
  | some (.array n e),some y,some j => (tsize P e).map fun (agg,size) => .idx agg n size y j
  | some .string,some y,some j => some (.idxS y j)
  | _,_,_ => none
 | .slice t x lo hi mx => match P.underlying t,yY x,uW lo,uW hi,uW mx with
  | some (.slice e),some y,some l,some h,some m => (tsize P e).map fun (_,size) => .slc size y l h m
  | some (.array n e),some y,some l,some h,some none => (tsize P e).map fun (_,size) => .slcA n size y l h
  | _,_,_,_,_ => none
 | .makeInterface t x => match P.underlying t,yY x with
  | some (.struct _),some y => some (.ifaceA t y)
  | _,_ => none
 | .typeAssert x _ t ok => match P.underlying t,P.info? t,yY x with
  | some (.struct _),some i,some y => match i.zero with
   | some (.agg cs) => if ok then (gB cs.toList).map fun zs => .asrt t zs y else none
   | _ => none
  | _,_,_ => none
 | .makeSlice t l c => match P.underlying t,yY l,yY c with
  | some (.slice e),some x,some y => (tinfo P e).map fun i => .mkSl e i.size i.bytes i.zero x y
  | _,_,_ => none
 | .extract t i => (yY t).map fun x => .ext x i
 | .makeFunc fn first caps => match fn with
  | .func f => if first.size=0 then (jI caps.toList).map (.fnc f) else none
  | _ => none
 | .call c => match c.callee with
  | .value f => match yY f,jI c.args.toList with
   | some g,some ys => some (.call g ys)
   | _,_ => none
  | .builtin .len => match c.args.toList,c.argTypes.toList with
   | [x],[t] => match P.underlying t,yY x with
    | some (.slice _),some y => some (.len y)
    | _,_ => none
   | _,_ => none
  | .builtin .append => match c.args.toList,c.argTypes.toList with
   | [s,x],[t,u] => match P.underlying t,P.underlying u,yY s,yY x with
    | some (.slice e),some (.slice _),some a,some b => match tinfo P e with
     | some i => if 0<i.size then some (.app e i.size i.bytes a b) else none
     | none => none
    | _,_,_,_ => none
   | _,_ => none
  | .builtin .max => match c.args.toList with
   | [x,y] => match yY x,yY y with
    | some a,some b => some (.mx a b)
    | _,_ => none
   | [x,y,z] => match yY x,yY y,yY z with
    | some a,some b,some c => some (.mx3 a b c)
    | _,_,_ => none
   | _ => none
  | .builtin .min => match c.args.toList with
   | [x,y] => match yY x,yY y with
    | some a,some b => some (.mn a b)
    | _,_ => none
   | _ => none
  | _ => none
 | .nilCheck x => (yY x).map .chkNil
 | .makeMap t none => match P.underlying t with
  | some (.map k e) => match P.underlying k,tsize P e with
   | some (.int .i64),some (false,_) => some .mkMap
   | _,_ => none
  | _ => none
 | .mapUpdate t m k x | .insert t m k x => match P.underlying t with
  | some (.map kt e) => match P.underlying kt,tsize P e with
   | some (.int .i64),some (false,_) => match yY m,yY k,yY x with
    | some a,some b,some c => some (.mapUp a b c)
    | _,_,_ => none
   | _,_ => none
  | _ => none
 | .lookup t x i ok => match P.underlying t with
  | some (.map kt e) => match P.underlying kt,P.info? e with
   | some (.int .i64),some ti => match ti.zero with
    | some z => match ofCell z,yY x,yY i with
     | some c,some a,some b => some (.lookup ok c a b)
     | _,_,_ => none
    | none => none
   | _,_ => none
  | _ => none
 | _ => none
end
end Go.Proofs.Ytokckcnfojjpjaa
