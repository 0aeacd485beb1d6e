/-
  Parts of the proof: The same abstract weakest precondition once more, over slots and boxes apart: terms stay small when it is run.
-/
import Derived.Test.YtokckcnfojjpjaaNg13
set_option linter.unusedVariables false
set_option linter.unusedSimpArgs false
namespace Go.Proofs.Ytokckcnfojjpjaa
open Go.RowKit
section
variable (P:Program)
def xopF (e:Env) (H:Hp) (op:AOp) (K:V→Hp→Prop):Prop:=match op,K with
 | .load agg size a,K => lval e (fun b => H[b]?) agg size a fun v => K v H
 | .store agg size a x,K => sval e (fun b => H[b]?) agg size a x fun b s => K (.tup []) (H.set b s)
 | .app elem es bytes s x,K => appX H elem es bytes (s.ev e) (x.ev e) K∨appI H es (s.ev e) (x.ev e) K
 | .slcA len es x lo hi,K => slcX e H len es (x.ev e) lo hi fun v => K v H
 | .call f args,K => match f.ev e,evs e args with
  | some (.c (.fn g caps)),some us => match caps with
   | [] => semH P g us H K
   | caps => semH P g (us++caps.map .c) H K
  | _,_ => False
 | .box agg elem x,K => aval e H.length (.box agg elem x) fun v bx => K v (H++[.live bx])
 | .alloc elem zero,K => aval e H.length (.alloc elem zero) fun v bx => K v (H++[.live bx])
 | .mkMap,K => K (.c (.mp H.length)) (H++[.mp []])
 | .mapUp m k x,K => match m.ev e,k.ev e,x.ev e with
  | some (.c (.mp b)),some (.c (.int .i64 n)),some (.c v) => match H[b]? with
   | some (.mp es) => K (.tup []) (H.set b (.mp (upE es n v)))
   | _ => False
  | _,_,_ => False
 | .lookup ok z m k,K => match m.ev e,k.ev e with
  | some (.c (.mp b)),some (.c (.int .i64 n)) => match H[b]? with
   | some (.mp es) => lookP ok z es n fun v => K v H
   | _ => False
  | _,_ => False
 | .buildSl elem es len zero parts,K => (aval e H.length (.buildSl elem es len zero parts) fun v bx => K v (H++[.live bx]))∨frzP e len zero parts fun v => K v H
 | .mkSl elem es bytes zero l c,K => aval e H.length (.mkSl elem es bytes zero l c) fun v bx => K v (H++[.live bx])
 | op,K => qval e op fun v => K v H
def yP:List tB→Env→Hp→(Env→Hp→Prop)→Prop
 | [],e,H,K => K e H
 | ⟨some d,op,none⟩ :: r,e,H,K => xopF P e H op fun v H' => yP r (put e d v) H' K
 | ⟨none,op,none⟩ :: r,e,H,K => xopF P e H op fun _ H' => yP r e H' K
 | ⟨some d,op,some g⟩ :: r,e,H,K => guarded e (some g) (xopF P e H op fun v H' => yP r (put e d v) H' K) (yP r (put e d (.tup [])) H K)
 | ⟨none,op,some g⟩ :: r,e,H,K => guarded e (some g) (xopF P e H op fun _ H' => yP r e H' K) (yP r e H K)
def cvalF (e:Env) (f:AO) (args:List AO) (K:V→Prop):Prop:=match f.ev e,evs e args with
 | some (.c (.fn g caps)),some us => match caps with
  | [] => semC P g us K
  | caps => semC P g (us++caps.map .c) K
 | _,_ => False
def xM (e:Env) (H:Hp) (nid:Nat) (op:AOp) (K:V→Hp→Prop):Prop:=match op with
 | .call f args => cvalF P e f args fun u => K u H
 | op => dstep e (fun b => H[b]?) nid op fun v ef => match ef with
  | none => K v H
  | some (b,s) => K v (H.set b s)
def logF (inc:List Nat) (T:Option Nat) (i:Nat) (log:List (Nat × Option Nat)) (K:List (Nat × Option Nat)→Prop):Prop:=chk (sV inc T log) (match T with
 | none => K ((i,none) :: log)
 | some t => K ((i,some t) :: log))
def xH (n0:Nat):List DOp→List (Nat × Option Nat)→Env→Hp→(Env→Hp→Prop)→Prop
 | [],_,e,H,K => K e H
 | ⟨i,aid,⟨dst,op,g⟩,inc⟩ :: r,log,e,H,K => logF inc (tch e (n0+aid) op) i log fun log' => match dst,g with
  | some d,none => (xM P e H (n0+aid) op fun v H' => xH n0 r log' (put e d v) H' K)∨(pN op inc=true∧xopF P e H op fun v H' => jA inc log H H'∧xH n0 r log' (put e d v) H' K)
  | none,none => (xM P e H (n0+aid) op fun _ H' => xH n0 r log' e H' K)∨(pN op inc=true∧xopF P e H op fun _ H' => jA inc log H H'∧xH n0 r log' e H' K)
  | some d,some g => guarded e (some g) ((xM P e H (n0+aid) op fun v H' => xH n0 r log' (put e d v) H' K)∨(pN op inc=true∧xopF P e H op fun v H' => jA inc log H H'∧xH n0 r log' (put e d v) H' K)) (xH n0 r log' (put e d (.tup [])) H K)
  | none,some g => guarded e (some g) ((xM P e H (n0+aid) op fun _ H' => xH n0 r log' e H' K)∨(pN op inc=true∧xopF P e H op fun _ H' => jA inc log H H'∧xH n0 r log' e H' K)) (xH n0 r log' e H K)
def awpF:yV→(Ex→Env→Hp→Prop)→Env→Hp→Prop
 | .skip,Q,e,H => Q .normal e H
 | .reg xs,Q,e,H => yP P xs e H (Q .normal)
 | .regD n ds,Q,e,H => match n with
  | 0 => xH P H.length ds [] e H (Q .normal)
  | n => xH P H.length ds [] e (H++List.replicate n .unb) (Q .normal)
 | .seq a b,Q,e,H => awpF a (fun ex e' H' => match ex with
  | .normal => awpF b Q e' H'
  | ex => Q ex e' H') e H
 | .cond c a b,Q,e,H => match c.ev e with
  | some (.c (.bool p)) => cnd p (awpF a Q e H) (awpF b Q e H)
  | _ => False
 | .block id b,Q,e,H => awpF b (fun ex e' H' => match ex with
  | .exit i => bif Nat.beq i id then Q .normal e' H' else Q (.exit i) e' H'
  | ex => Q ex e' H') e H
 | .loop L b,Q,e,H => ∃ I:Nat→List V→Hp→Prop,(∃ n vs,getL L e=some vs∧I n vs H) ∧
   ∀ n vs H,I n vs H→awpF b (fun ex e' H' => match ex with
    | .normal => ∃ n' vs',getL L e'=some vs'∧n'<n∧I n' vs' H'
    | ex => Q ex e' H') (envL L vs) H
 | .exit id,Q,e,H => Q (.exit id) e H
 | .ret,Q,e,H => Q .ret e H
end
def xR (e:Env) (H:Hp):List ARes→(List V→Prop)→Prop
 | [],K => K []
 | .tmp t :: r,K => match e t with
  | some v => xR e H r fun vs => K (v :: vs)
  | none => False
 | .cell a agg size :: r,K => lval e (fun b => H[b]?) agg size (.t a) fun v => xR e H r fun vs => K (v :: vs)
def xU (rs:List ARes) (K:V→Hp→Prop):Ex→Env→Hp→Prop
 | .exit _,_,_ => False
 | _,e,H => xR e H rs fun vs => K (one vs) H
section
variable {P:Program}
theorem xopF_eq (e:Env) (H:Hp) (op:AOp) (K:V→Hp→Prop):xopF P e H op K=xop P ⟨e,H⟩ op K:=by
 cases op
 case call f args =>
  have key:∀ (a:Option V) (b:Option (List V)),(match a,b with
    | some (.c (.fn g caps)),some us => (match caps with
     | [] => semH P g us H K
     | caps => semH P g (us++caps.map V.c) H K)
    | _,_ => False)=(match a,b with
    | some (.c (.fn g caps)),some us => semH P g (us++caps.map V.c) H K
    | _,_ => False):=by
   intro a b
   split
   ·split <;> simp
   ·rfl
  exact key (f.ev e) (evs e args)
 all_goals rfl
theorem awpOpsF_eq:∀ (xs:List tB) (e:Env) (H:Hp) (K:Env→Hp→Prop),yP P xs e H K=awpOps P xs ⟨e,H⟩ fun st => K st.env st.H
 | [],e,H,K => rfl
 | ⟨d,op,g⟩ :: r,e,H,K => by
  have ih:=awpOpsF_eq r
  cases d <;> cases g <;> simp only [yP,awpOps,stepX,guarded,xopF_eq,ih,St.put]
theorem cvalF_eq (e:Env) (f:AO) (args:List AO) (K:V→Prop):cvalF P e f args K=cval P e f args K:=by
 have key:∀ (a:Option V) (b:Option (List V)),(match a,b with
   | some (.c (.fn g caps)),some us => (match caps with
    | [] => semC P g us K
    | caps => semC P g (us++caps.map V.c) K)
   | _,_ => False)=(match a,b with
   | some (.c (.fn g caps)),some us => semC P g (us++caps.map V.c) K
   | _,_ => False):=by
  intro a b
  split
  ·split <;> simp
  ·rfl
 exact key (f.ev e) (evs e args)
theorem xopDF_eq (e:Env) (H:Hp) (nid:Nat) (op:AOp) (K:V→Hp→Prop):xM P e H nid op K=xopD P ⟨e,H⟩ nid op K:=by
 have hk:(fun (v:V) (ef:Option (Nat × Slot)) => (match ef with
  | none => K v H
  | some (b,s) => K v (H.set b s)))=fun v ef => K v (apE H ef):=by
  funext v ef
  cases ef <;> rfl
 cases op
 case call f args => exact cvalF_eq e f args _
 all_goals (simp only [xM,xopD]; rw [←hk])
theorem logF_eq (inc:List Nat) (T:Option Nat) (i:Nat) (log:List (Nat × Option Nat)) (K:List (Nat × Option Nat)→Prop):logF inc T i log K=chk (sV inc T log) (K ((i,T) :: log)):=by
 unfold logF
 cases T <;> rfl
theorem awpDF_eq (n0:Nat):∀ (ds:List DOp) (log:List (Nat × Option Nat)) (e:Env) (H:Hp) (K:Env→Hp→Prop),xH P n0 ds log e H K=awpD P n0 ds log ⟨e,H⟩ fun st => K st.env st.H
 | [],log,e,H,K => rfl
 | ⟨i,aid,⟨d,op,g⟩,inc⟩ :: r,log,e,H,K => by
  have ih:=awpDF_eq n0 r
  cases d <;> cases g <;> simp only [xH,awpD,qB,guarded,xopDF_eq,xopF_eq,logF_eq,ih,St.put]
theorem awpF_eq:∀ (ac:yV) (Q:Ex→Env→Hp→Prop) (e:Env) (H:Hp),awpF P ac Q e H=awp P ac (fun ex st => Q ex st.env st.H) ⟨e,H⟩:=by
 intro ac
 induction ac with
 | skip => intro Q e H; rfl
 | reg xs => intro Q e H; exact awpOpsF_eq xs e H _
 | regD n ds =>
  intro Q e H
  cases n with
  | zero =>
   simp only [awpF,awp,List.replicate_zero,List.append_nil]
   exact awpDF_eq _ ds [] e H _
  | succ n => exact awpDF_eq _ ds [] e _ _
 | seq a b iha ihb =>
  intro Q e H
  simp only [awpF,awp,iha]
  congr 1
  funext ex st
  cases ex
  ·exact ihb Q st.env st.H
  ·rfl
  ·rfl
 | cond c a b iha ihb =>
  intro Q e H
  simp only [awpF,awp,iha,ihb]
  rfl
 | block id b ih =>
  intro Q e H
  simp only [awpF,awp,ih]
  congr 1
 | loop L b ih =>
  intro Q e H
  simp only [awpF,awp,ih]
  rfl
 | exit id => intro Q e H; rfl
 | ret => intro Q e H; rfl
theorem retKF_eq (e:Env) (H:Hp):∀ (rs:List ARes) (K:List V→Prop),xR e H rs K=retK ⟨e,H⟩ rs K
 | [],K => rfl
 | .tmp t :: r,K => by simp only [xR,retK,retKF_eq e H r]; rfl
 | .cell a agg size :: r,K => by simp only [xR,retK,retKF_eq e H r]
theorem bodyF_eq (rs:List ARes) (K:V→Hp→Prop):(fun ex (st:St) => xU rs K ex st.env st.H)=bodyQ rs K:=by
 funext ex st
 cases ex <;> simp only [xU,bodyQ,retKF_eq]
theorem yD {f:FuncId} {ac:yV} {rs:List ARes} {n:Nat} (hk:FnOk P f ac rs n) {args:List V} (hl:Nat.ble args.length n=true) (hh:HFVs args) {K:V→Prop}
  (h:awpF P ac (xU rs fun u H => ∃ d,FzV H u d∧K d) (gT args 0) []):semC P f args K:=by
 rw [awpF_eq,bodyF_eq] at h
 exact semC_of_awp hk hl hh h
theorem nG {f:FuncId} {ac:yV} {rs:List ARes} {n:Nat} (hk:FnOk P f ac rs n) {args:List V} (hl:Nat.ble args.length n=true) {H:Hp} {K:V→Hp→Prop}
  (h:awpF P ac (xU rs K) (gT args 0) H):semH P f args H K:=by
 rw [awpF_eq,bodyF_eq] at h
 exact semH_of_awp hk hl h
end
end Go.Proofs.Ytokckcnfojjpjaa
