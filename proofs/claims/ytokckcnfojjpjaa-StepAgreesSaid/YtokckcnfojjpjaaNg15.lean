/-
  Parts of the proof: Running abstract code by small steps: one lemma for each kind of step, so that neither the elaborator nor the kernel unfolds the whole.
-/
import Derived.Test.YtokckcnfojjpjaaNg14
set_option linter.unusedVariables false
set_option linter.unusedSimpArgs false
namespace Go.Proofs.Ytokckcnfojjpjaa
open Go.RowKit
section
variable (P:Program)
def seqQ (b:yV) (Q:Ex→Env→Hp→Prop):Ex→Env→Hp→Prop:=fun ex e' H' => match ex with
 | .normal => awpF P b Q e' H'
 | ex => Q ex e' H'
def xJ (id:Nat) (Q:Ex→Env→Hp→Prop):Ex→Env→Hp→Prop:=fun ex e' H' => match ex with
 | .exit i => bif Nat.beq i id then Q .normal e' H' else Q (.exit i) e' H'
 | ex => Q ex e' H'
def xY (L:List Nat) (I:Nat→List V→Hp→Prop) (n:Nat) (Q:Ex→Env→Hp→Prop):Ex→Env→Hp→Prop:=fun ex e' H' => match ex with
 | .normal => ∃ n' vs',getL L e'=some vs'∧n'<n∧I n' vs' H'
 | ex => Q ex e' H'
end
section
variable {P:Program} {e:Env} {H:Hp} {Q:Ex→Env→Hp→Prop}
theorem f_skip (k:Q .normal e H):awpF P .skip Q e H:=k
theorem f_ret (k:Q .ret e H):awpF P .ret Q e H:=k
theorem f_exit {i:Nat} (k:Q (.exit i) e H):awpF P (.exit i) Q e H:=k
theorem f_reg {xs:List tB} (k:yP P xs e H (Q .normal)):awpF P (.reg xs) Q e H:=k
theorem f_regD0 {ds:List DOp} (k:xH P H.length ds [] e H (Q .normal)):awpF P (.regD 0 ds) Q e H:=k
theorem f_regD {n:Nat} {ds:List DOp} (k:xH P H.length ds [] e (H++List.replicate (n+1) .unb) (Q .normal)):awpF P (.regD (n+1) ds) Q e H:=k
theorem f_seq {a b:yV} (k:awpF P a (seqQ P b Q) e H):awpF P (.seq a b) Q e H:=k
theorem f_block {id:Nat} {b:yV} (k:awpF P b (xJ id Q) e H):awpF P (.block id b) Q e H:=k
theorem f_cond {c:AO} {a b:yV} {p:Bool} (h:c.ev e=some (.c (.bool p))) (k:cnd p (awpF P a Q e H) (awpF P b Q e H)):awpF P (.cond c a b) Q e H:=by
 show (match c.ev e with
   | some (.c (.bool p)) => cnd p (awpF P a Q e H) (awpF P b Q e H)
   | _ => False)
 rw [h]
 exact k
theorem yX {L:List Nat} {b:yV} {vs:List V} {n0:Nat} (I:Nat→List V→Hp→Prop) (hg:getL L e=some vs) (h0:I n0 vs H) (hr:∀ n vs H,I n vs H→awpF P b (xY L I n Q) (envL L vs) H):awpF P (.loop L b) Q e H :=
 ⟨I,⟨n0,vs,hg,h0⟩,hr⟩
theorem s_n {b:yV} (k:awpF P b Q e H):seqQ P b Q .normal e H:=k
theorem s_r {b:yV} (k:Q .ret e H):seqQ P b Q .ret e H:=k
theorem s_e {b:yV} {i:Nat} (k:Q (.exit i) e H):seqQ P b Q (.exit i) e H:=k
theorem k_n {id:Nat} (k:Q .normal e H):xJ id Q .normal e H:=k
theorem k_r {id:Nat} (k:Q .ret e H):xJ id Q .ret e H:=k
theorem k_e {id i:Nat} (h:Nat.beq i id=true) (k:Q .normal e H):xJ id Q (.exit i) e H:=by
 show (bif Nat.beq i id then Q .normal e H else Q (.exit i) e H)
 rw [h]
 exact k
theorem k_o {id i:Nat} (h:Nat.beq i id=false) (k:Q (.exit i) e H):xJ id Q (.exit i) e H:=by
 show (bif Nat.beq i id then Q .normal e H else Q (.exit i) e H)
 rw [h]
 exact k
theorem l_n {L:List Nat} {I:Nat→List V→Hp→Prop} {n n':Nat} {vs:List V} (hg:getL L e=some vs) (hn:n'<n) (h:I n' vs H):xY L I n Q .normal e H:=⟨n',vs,hg,hn,h⟩
theorem l_r {L:List Nat} {I:Nat→List V→Hp→Prop} {n:Nat} (k:Q .ret e H):xY L I n Q .ret e H:=k
theorem l_e {L:List Nat} {I:Nat→List V→Hp→Prop} {n i:Nat} (k:Q (.exit i) e H):xY L I n Q (.exit i) e H:=k
theorem c_t {p:Bool} {A B:Prop} (h:p=true) (k:A):cnd p A B:=jV h k
theorem c_f {p:Bool} {A B:Prop} (h:p=false) (k:B):cnd p A B:=jJ h k
end
section
variable {P:Program} {e:Env} {H:Hp} {K:Env→Hp→Prop} {r:List tB}
theorem o_nil (k:K e H):yP P [] e H K:=k
theorem o_some {d:Nat} {op:AOp} (k:xopF P e H op fun v H' => yP P r (put e d v) H' K):yP P (⟨some d,op,none⟩ :: r) e H K:=k
theorem o_none {op:AOp} (k:xopF P e H op fun _ H' => yP P r e H' K):yP P (⟨none,op,none⟩ :: r) e H K:=k
theorem o_guard {d t:Nat} {want b:Bool} {op:AOp} (h:e t=some (.c (.bool b))) (k:cnd (bif want then b else !b) (xopF P e H op fun v H' => yP P r (put e d v) H' K) (yP P r (put e d (.tup [])) H K)):yP P (⟨some d,op,some (t,want)⟩ :: r) e H K:=by
 simp only [yP,guarded,h]
 exact k
theorem o_guardN {t:Nat} {want b:Bool} {op:AOp} (h:e t=some (.c (.bool b))) (k:cnd (bif want then b else !b) (xopF P e H op fun v H' => yP P r e H' K) (yP P r e H K)):yP P (⟨none,op,some (t,want)⟩ :: r) e H K:=by
 simp only [yP,guarded,h]
 exact k
theorem o_guardT {d t:Nat} {want:Bool} {op:AOp} (h:e t=some (.tup [])) (k:yP P r (put e d (.tup [])) H K):yP P (⟨some d,op,some (t,want)⟩ :: r) e H K:=by
 simp only [yP,guarded,h]
 exact k
variable {rd:List DOp} {log:List (Nat × Option Nat)} {n0 i aid:Nat} {inc:List Nat} {T:Option Nat}
theorem quiet_keep {H H':Hp} (h:quietLog inc log=true):jA inc log H H':=fun p hp ha b hb => by
 have:=List.all_eq_true.1 h p hp
 rw [ha,hb] at this
 cases this
theorem xopF_late {op:AOp} {K K':V→Hp→Prop} (hc:sT op=true) (hk:∀ v H,K v H→K' v H) (h:xopF P e H op K):xopF P e H op K':=by
 rw [xopF_eq] at h ⊢
 rcases pS hc with ⟨f,args,rfl⟩ | ⟨el,es,by',s,x,rfl⟩
 ·exact jL hk h
 ·exact hZ hk h
theorem d_nil (k:K e H):xH P n0 [] log e H K:=k
theorem logF_of {K:List (Nat × Option Nat)→Prop} (h:sV inc T log=true) (k:K ((i,T) :: log)):logF inc T i log K:=by
 rw [logF_eq]
 exact xF h k
theorem jZ {d:Nat} {op:AOp} (hT:tch e (n0+aid) op=T) (h:sV inc T log=true) (k:xM P e H (n0+aid) op fun v H' => xH P n0 rd ((i,T) :: log) (put e d v) H' K):xH P n0 (⟨i,aid,⟨some d,op,none⟩,inc⟩ :: rd) log e H K:=by
 subst hT
 exact logF_of h (.inl k)
theorem d_late {d:Nat} {op:AOp} (hl:pN op inc=true) (hq:quietLog inc log=true) (hT:tch e (n0+aid) op=T) (h:sV inc T log=true) (k:xopF P e H op fun v H' => xH P n0 rd ((i,T) :: log) (put e d v) H' K):xH P n0 (⟨i,aid,⟨some d,op,none⟩,inc⟩ :: rd) log e H K:=by
 subst hT
 exact logF_of h (.inr ⟨hl,xopF_late (by unfold pN at hl; simp only [Bool.and_eq_true] at hl; exact hl.1) (fun v H' hk => ⟨quiet_keep hq,hk⟩) k⟩)
theorem d_keep {d:Nat} {op:AOp} (hl:pN op inc=true) (hT:tch e (n0+aid) op=T) (h:sV inc T log=true) (k:xopF P e H op fun v H' => jA inc log H H'∧xH P n0 rd ((i,T) :: log) (put e d v) H' K):xH P n0 (⟨i,aid,⟨some d,op,none⟩,inc⟩ :: rd) log e H K:=by
 subst hT
 exact logF_of h (.inr ⟨hl,k⟩)
theorem d_none {op:AOp} (hT:tch e (n0+aid) op=T) (h:sV inc T log=true) (k:xM P e H (n0+aid) op fun _ H' => xH P n0 rd ((i,T) :: log) e H' K):xH P n0 (⟨i,aid,⟨none,op,none⟩,inc⟩ :: rd) log e H K:=by
 subst hT
 exact logF_of h (.inl k)
theorem d_guard {d t:Nat} {want b:Bool} {op:AOp} (hT:tch e (n0+aid) op=T) (h:sV inc T log=true) (hb:e t=some (.c (.bool b))) (k:cnd (bif want then b else !b) (xM P e H (n0+aid) op fun v H' => xH P n0 rd ((i,T) :: log) (put e d v) H' K) (xH P n0 rd ((i,T) :: log) (put e d (.tup [])) H K)):xH P n0 (⟨i,aid,⟨some d,op,some (t,want)⟩,inc⟩ :: rd) log e H K:=by
 subst hT
 refine logF_of h ?_
 simp only [guarded,hb]
 exact cnd_mono .inl id k
theorem d_guardT {d t:Nat} {want:Bool} {op:AOp} (hT:tch e (n0+aid) op=T) (h:sV inc T log=true) (hb:e t=some (.tup [])) (k:xH P n0 rd ((i,T) :: log) (put e d (.tup [])) H K):xH P n0 (⟨i,aid,⟨some d,op,some (t,want)⟩,inc⟩ :: rd) log e H K:=by
 subst hT
 refine logF_of h ?_
 simp only [guarded,hb]
 exact k
end
section
variable {P:Program} {e:Env} {H:Hp} {K:V→Hp→Prop} {nid:Nat}
def isQ:AOp→Bool
 | .load _ _ _ | .store _ _ _ _ | .app _ _ _ _ _ | .slcA _ _ _ _ _ | .call _ _ | .box _ _ _ | .alloc _ _ | .buildSl _ _ _ _ _ | .mkSl _ _ _ _ _ _ | .mkMap | .mapUp _ _ _ | .lookup _ _ _ _ => false
 | _ => true
theorem x_q {op:AOp} (h:isQ op=true) (k:qval e op fun v => K v H):xopF P e H op K:=by
 cases op <;> first
  | exact k
  | (simp [isQ] at h; done)
theorem xd_q {op:AOp} (h:isQ op=true) (k:qval e op fun v => K v H):xM P e H nid op K:=by
 cases op <;> first
  | exact k
  | (simp [isQ] at h; done)
theorem bC {agg:Bool} {size:Nat} {a:AO} (k:lval e (fun b => H[b]?) agg size a fun v => K v H):xopF P e H (.load agg size a) K:=k
theorem sL {agg:Bool} {size:Nat} {a:AO} (k:lval e (fun b => H[b]?) agg size a fun v => K v H):xM P e H nid (.load agg size a) K:=k
theorem tS {hb:Nat→Option Slot} {agg:Bool} {size b off:Nat} {a:AO} {K:V→Prop} (h:a.ev e=some (.c (.ptr b off))) (k:yW (hb b) agg size off K):lval e hb agg size a K:=by
 unfold lval
 rw [h]
 exact k
theorem tT {hb:Nat→Option Slot} {agg:Bool} {size:Nat} {cs:List C} {a:AO} {K:V→Prop} (h:a.ev e=some (.c (.ipt cs))) (k:yI cs agg size K):lval e hb agg size a K:=by
 unfold lval
 rw [h]
 exact k
theorem pQ {agg:Bool} {size b off:Nat} {a x:AO} {v:V} (h:a.ev e=some (.c (.ptr b off))) (h2:x.ev e=some v) (k:xA H[b]? b size off (qT agg v) fun b s => K (.tup []) (H.set b s)):xopF P e H (.store agg size a x) K:=by
 show sval e (fun b => H[b]?) agg size a x _
 unfold sval
 rw [h,h2]
 exact k
theorem uQ {agg:Bool} {size b off:Nat} {a x:AO} {v:V} (h:a.ev e=some (.c (.ptr b off))) (h2:x.ev e=some v) (k:xA H[b]? b size off (qT agg v) fun b s => K (.tup []) (H.set b s)):xM P e H nid (.store agg size a x) K:=by
 show sval e (fun b => H[b]?) agg size a x _
 unfold sval
 rw [h,h2]
 exact k
theorem x_app {el:TypeId} {es bytes:Nat} {s x:AO} (k:appX H el es bytes (s.ev e) (x.ev e) K):xopF P e H (.app el es bytes s x) K:=.inl k
theorem bB {len es:Nat} {x:AO} {lo hi:Option AO} (k:slcX e H len es (x.ev e) lo hi fun v => K v H):xopF P e H (.slcA len es x lo hi) K:=k
theorem jX {f:AO} {args:List AO} {g:FuncId} {us:List V} (h:f.ev e=some (.c (.fn g []))) (h2:evs e args=some us) (k:semH P g us H K):xopF P e H (.call f args) K:=by
 simp only [xopF,h,h2]
 exact k
theorem x_callc {f:AO} {args:List AO} {g:FuncId} {us:List V} {c:C} {cs:List C} (h:f.ev e=some (.c (.fn g (c :: cs)))) (h2:evs e args=some us) (k:semH P g (us++(c :: cs).map .c) H K):xopF P e H (.call f args) K:=by
 simp only [xopF,h,h2]
 exact k
theorem sM {f:AO} {args:List AO} {g:FuncId} {us:List V} (h:f.ev e=some (.c (.fn g []))) (h2:evs e args=some us) (k:semC P g us fun u => K u H):xM P e H nid (.call f args) K:=by
 simp only [xM,cvalF,h,h2]
 exact k
theorem x_box {agg:Bool} {el:TypeId} {x:AO} {v:V} {cs:List C} (h:x.ev e=some v) (h2:qT agg v=some cs) (k:K (.c (.ptr H.length 0)) (H++[.live ⟨cs,el,.rw⟩])):xopF P e H (.box agg el x) K:=by
 simp only [xopF,aval,h,h2]
 exact k
theorem jO {el:TypeId} {zero:List C} (k:K (.c (.ptr H.length 0)) (H++[.live ⟨zero,el,.rw⟩])):xopF P e H (.alloc el zero) K:=k
theorem gF {el:TypeId} {es n:Nat} {zero cs:List C} {ps:List (Nat × Nat × Bool × AO)} (h:pD e zero ps=some cs) (k:K (.c (.sl H.length 0 n (some n) es)) (H++[.live ⟨cs,el,.rw⟩])):xopF P e H (.buildSl el es n zero ps) K:=by
 refine Or.inl ?_
 simp only [aval,h]
 exact k
theorem jM (k:K (.c (.mp H.length)) (H++[.mp []])):xopF P e H .mkMap K:=k
theorem jN {m k x:AO} {b:Nat} {n:Int} {v:C} {es:List (Int × C)} (h1:m.ev e=some (.c (.mp b))) (h2:k.ev e=some (.c (.int .i64 n))) (h3:x.ev e=some (.c v)) (hb:H[b]?=some (.mp es)) (k':K (.tup []) (H.set b (.mp (upE es n v)))):xopF P e H (.mapUp m k x) K:=by
 simp only [xopF,h1,h2,h3,hb]
 exact k'
theorem qZ {ok:Bool} {z:C} {m k:AO} {b:Nat} {n:Int} {es:List (Int × C)} (h1:m.ev e=some (.c (.mp b))) (h2:k.ev e=some (.c (.int .i64 n))) (hb:H[b]?=some (.mp es)) (k':lookP ok z es n fun v => K v H):xopF P e H (.lookup ok z m k) K:=by
 simp only [xopF,h1,h2,hb]
 exact k'
theorem x_frzSl {el:TypeId} {es n:Nat} {zero cs:List C} {ps:List (Nat × Nat × Bool × AO)} (h:pD e zero ps=some cs) (k:K (.c (.imm n cs)) H):xopF P e H (.buildSl el es n zero ps) K:=by
 refine Or.inr ?_
 simp only [frzP,h]
 exact k
theorem vQ {el:TypeId} {es bytes:Nat} {zero:List C} {l c:AO} {m n:Int} (h:l.ev e=some (.c (.int .i64 m))) (h2:c.ev e=some (.c (.int .i64 n))) (h3:0≤m∧m≤n∧n*bytes≤281474976710656∧n≤281474976710656)
  (k:K (.c (.sl H.length 0 m.toNat (some n.toNat) es)) (H++[.live ⟨(List.replicate n.toNat zero).flatten,el,.rw⟩])):xopF P e H (.mkSl el es bytes zero l c) K:=by
 simp only [xopF,aval,h,h2]
 exact xF (yE.2 h3) k
theorem pJ {agg:Bool} {el:TypeId} {x:AO} {v:V} {cs:List C} (h:x.ev e=some v) (h2:qT agg v=some cs) (hn:H[nid]?=some .unb) (k:K (.c (.ptr nid 0)) (H.set nid (.live ⟨cs,el,.rw⟩))):xM P e H nid (.box agg el x) K:=by
 simp only [xM,dstep,aval,h,h2,hn]
 exact k
theorem uR {el:TypeId} {zero:List C} (hn:H[nid]?=some .unb) (k:K (.c (.ptr nid 0)) (H.set nid (.live ⟨zero,el,.rw⟩))):xM P e H nid (.alloc el zero) K:=by
 simp only [xM,dstep,aval,hn]
 exact k
theorem sO {el:TypeId} {es n:Nat} {zero cs:List C} {ps:List (Nat × Nat × Bool × AO)} (h:pD e zero ps=some cs) (hn:H[nid]?=some .unb) (k:K (.c (.sl nid 0 n (some n) es)) (H.set nid (.live ⟨cs,el,.rw⟩))):xM P e H nid (.buildSl el es n zero ps) K:=by
 refine Or.inl ?_
 simp only [aval,h,hn]
 exact k
theorem bK {el:TypeId} {es n:Nat} {zero cs:List C} {ps:List (Nat × Nat × Bool × AO)} (h:pD e zero ps=some cs) (k:K (.c (.imm n cs)) H):xM P e H nid (.buildSl el es n zero ps) K:=by
 refine Or.inr ?_
 simp only [frzP,h]
 exact k
end
section
variable {e:Env} {K:V→Prop}
theorem wY {n:Nat} {zero cs:List C} {ps:List (Nat × Nat × Bool × AO)} (h:pD e zero ps=some cs) (k:K (.c (.imm n cs))):qval e (.frzSl n zero ps) K:=by
 simp only [qval,frzP,h]
 exact k
theorem q_mv {x:AO} {v:V} (h:x.ev e=some v) (k:K v):qval e (.mv x) K:=by
 simp only [qval,h]
 exact k
theorem wG {c a b:AO} {v:V} (h:c.ev e=some (.c (.bool true))) (h2:a.ev e=some v) (k:K v):qval e (.pick c a b) K:=by
 simp only [qval,h,h2]
 exact k
theorem wH {c a b:AO} {v:V} (h:c.ev e=some (.c (.bool false))) (h2:b.ev e=some v) (k:K v):qval e (.pick c a b) K:=by
 simp only [qval,h,h2]
 exact k
theorem vA {zero cs:List C} {ps:List (Nat × Nat × Bool × AO)} (h:pD e zero ps=some cs) (k:K (.agg cs)):qval e (.build zero ps) K:=by
 simp only [qval,h]
 exact k
theorem q_ar {op:Ar} {x y:AO} {kd:IntKind} {a b:Int} (h:x.ev e=some (.c (.int kd a))) (h2:y.ev e=some (.c (.int kd b))) (hn:needs op b=true) (k:K (.c (.int kd (arith op kd a b)))):qval e (.ar op x y) K:=by
 simp only [qval,h,h2]
 exact xF (by simp [hn]) k
theorem q_cm {op:Cm} {x y:AO} {kd:IntKind} {a b:Int} (h:x.ev e=some (.c (.int kd a))) (h2:y.ev e=some (.c (.int kd b))) (k:K (.c (.bool (yA op a b)))):qval e (.cm op x y) K:=by
 simp only [qval,h,h2]
 exact xF (by simp) k
theorem tF {x y:AO} {kd kd':IntKind} {a n:Int} (h:x.ev e=some (.c (.int kd a))) (h2:y.ev e=some (.c (.int kd' n))) (hn:0≤n) (k:K (.c (.int kd (kd.wrap (a*2 ^ (min n.toNat kd.bits)))))):qval e (.shl x y) K:=by
 simp only [qval,h,h2]
 exact xF (by simp [hn]) k
theorem tE {x y:AO} {kd kd':IntKind} {a n:Int} (h:x.ev e=some (.c (.int kd a))) (h2:y.ev e=some (.c (.int kd' n))) (hn:0≤n) (k:K (.c (.int kd (a.fdiv (2 ^ (min n.toNat kd.bits)))))):qval e (.shr x y) K:=by
 simp only [qval,h,h2]
 exact xF (by simp [hn]) k
theorem tQ {neg:Bool} {x y:AO} {a b:Bool} (h:x.ev e=some (.c (.bool a))) (h2:y.ev e=some (.c (.bool b))) (k:K (.c (.bool (bif neg then !(a == b) else (a == b))))):qval e (.eqB neg x y) K:=by
 simp only [qval,h,h2]
 exact k
theorem tR {neg:Bool} {os:List (Nat × Nat)} {x y:AO} {a b:List C} {r:Bool} (h:x.ev e=some (.agg a)) (h2:y.ev e=some (.agg b)) (hr:eqAt os a b=some r) (k:K (.c (.bool (bif neg then !r else r)))):qval e (.eqA neg os x y) K:=by
 simp only [qval,h,h2,hr]
 exact k
theorem tP {neg:Bool} {x:AO} (k:qNil neg (x.ev e) K):qval e (.eqN neg x) K:=k
theorem tH {x:AO} {kd:IntKind} {a:Int} (h:x.ev e=some (.c (.int kd a))) (k:K (.c (.int kd (kd.wrap (0 - a))))):qval e (.neg x) K:=by
 simp only [qval,h]
 exact k
theorem tG {x:AO} {a:Bool} (h:x.ev e=some (.c (.bool a))) (k:K (.c (.bool (!a)))):qval e (.not x) K:=by
 simp only [qval,h]
 exact k
theorem vW {x:AO} {kd kd':IntKind} {a:Int} (h:x.ev e=some (.c (.int kd' a))) (k:K (.c (.int kd (kd.wrap a)))):qval e (.conv kd x) K:=by
 simp only [qval,h]
 exact k
theorem wZ {off b o:Nat} {x:AO} (h:x.ev e=some (.c (.ptr b o))) (k:K (.c (.ptr b (o+off)))):qval e (.faddr off x) K:=by
 simp only [qval,h]
 exact k
theorem wJ {off:Nat} {x:AO} {cs:List C} (h:x.ev e=some (.c (.ipt cs))) (k:K (.c (.ipt (cs.drop off)))):qval e (.faddr off x) K:=by
 simp only [qval,h]
 exact k
theorem tN {off size:Nat} {x:AO} {cs:List C} {c:C} (h:x.ev e=some (.agg cs)) (h2:cs[off]?=some c) (k:K (.c c)):qval e (.fld false off size x) K:=by
 simp only [qval,h,h2]
 exact k
theorem vV {off size:Nat} {x:AO} {cs:List C} (h:x.ev e=some (.agg cs)) (h2:Nat.ble (off+size) cs.length=true) (k:K (.agg ((cs.drop off).take size))):qval e (.fld true off size x) K:=by
 simp only [qval,h]
 exact xF h2 k
theorem tL {arr:Option Nat} {es:Nat} {x i:AO} (k:qIad arr es (x.ev e) (i.ev e) K):qval e (.iaddr arr es x i) K:=k
theorem tK {agg:Bool} {len es:Nat} {x i:AO} (k:qIdx agg len es (x.ev e) (i.ev e) K):qval e (.idx agg len es x i) K:=k
theorem q_idxS {x i:AO} {s:ByteArray} {kd:IntKind} {n:Int} (h:x.ev e=some (.c (.str s))) (h2:i.ev e=some (.c (.int kd n))) (h3:0≤n) (h4:n<s.size) (k:K (.c (.int .u8 (s[n.toNat]?.getD 0).toNat))):qval e (.idxS x i) K:=by
 simp only [qval,h,h2]
 exact xF (by simp [h3,h4]) k
theorem tD {es:Nat} {x:AO} {lo hi mx:Option AO} (k:qSlc e es (x.ev e) lo hi mx K):qval e (.slc es x lo hi mx) K:=k
theorem tO {t:AO} {i:Nat} {us:List V} {u:V} (h:t.ev e=some (.tup us)) (h2:us[i]?=some u) (k:K u):qval e (.ext t i) K:=by
 simp only [qval,h,h2]
 exact k
theorem tJ {x:AO} (k:qLen (x.ev e) K):qval e (.len x) K:=k
theorem q_mx {x y:AO} {kd kd':IntKind} {a b:Int} (h:x.ev e=some (.c (.int kd a))) (h2:y.ev e=some (.c (.int kd' b))) (k:K (.c (.int kd (if b > a then b else a)))):qval e (.mx x y) K:=by
 simp only [qval,h,h2]
 exact k
theorem tI {x y z:AO} {kd kd' kd'':IntKind} {a b c:Int} (h:x.ev e=some (.c (.int kd a))) (h2:y.ev e=some (.c (.int kd' b))) (h3:z.ev e=some (.c (.int kd'' c))) (k:K (.c (.int kd (mxI (mxI a b) c)))):qval e (.mx3 x y z) K:=by
 simp only [qval,h,h2,h3]
 exact k
theorem q_mn {x y:AO} {kd kd':IntKind} {a b:Int} (h:x.ev e=some (.c (.int kd a))) (h2:y.ev e=some (.c (.int kd' b))) (k:K (.c (.int kd (if b<a then b else a)))):qval e (.mn x y) K:=by
 simp only [qval,h,h2]
 exact k
theorem tM {f:FuncId} {caps:List AO} {cs:List C} (h:evc e caps=some cs) (k:K (.c (.fn f cs))):qval e (.fnc f caps) K:=by
 simp only [qval,h]
 exact k
theorem vX {x:AO} {b o:Nat} (h:x.ev e=some (.c (.ptr b o))) (k:K (.c (.ptr b o))):qval e (.chkNil x) K:=by
 simp only [qval,h]
 exact k
theorem wI {t:TypeId} {x:AO} {cs:List C} (h:x.ev e=some (.agg cs)) (k:K (.c (.ifaceA t cs))):qval e (.ifaceA t x) K:=by
 simp only [qval,h]
 exact k
theorem vB {t:TypeId} {zs:List C} {x:AO} {u:TypeId} {cs:List C} (h:x.ev e=some (.c (.ifaceA u cs))) (h2:Nat.beq u t=true) (k:K (.tup [.agg cs,.c (.bool true)])):qval e (.asrt t zs x) K:=by
 simp only [qval,h,h2,cond_true]
 exact k
theorem vC {t:TypeId} {zs:List C} {x:AO} {u:TypeId} {cs:List C} (h:x.ev e=some (.c (.ifaceA u cs))) (h2:Nat.beq u t=false) (k:K (.tup [.agg zs,.c (.bool false)])):qval e (.asrt t zs x) K:=by
 simp only [qval,h,h2,cond_false]
 exact k
theorem vY {x:AO} {f:FuncId} {cs:List C} (h:x.ev e=some (.c (.fn f cs))) (k:K (.c (.fn f cs))):qval e (.chkNil x) K:=by
 simp only [qval,h]
 exact k
end
section
variable {e:Env} {H:Hp}
theorem b_r {rs:List ARes} {K:V→Hp→Prop} (k:xR e H rs fun vs => K (one vs) H):xU rs K .ret e H:=k
theorem b_n {rs:List ARes} {K:V→Hp→Prop} (k:xR e H rs fun vs => K (one vs) H):xU rs K .normal e H:=k
theorem r_nil {K:List V→Prop} (k:K []):xR e H [] K:=k
theorem r_tmp {t:Nat} {r:List ARes} {v:V} {K:List V→Prop} (h:e t=some v) (k:xR e H r fun vs => K (v :: vs)):xR e H (.tmp t :: r) K:=by
 simp only [xR,h]
 exact k
theorem r_cell {a size:Nat} {agg:Bool} {r:List ARes} {K:List V→Prop} (k:lval e (fun b => H[b]?) agg size (.t a) fun v => xR e H r fun vs => K (v :: vs)):xR e H (.cell a agg size :: r) K:=k
end
section
variable {P:Program} {e:Env} {H:Hp} {Q:Ex→Env→Hp→Prop} {K:V→Hp→Prop} {KE:Env→Hp→Prop} {KV:V→Prop}
theorem g_f {ac:yV} (k:awpF P ac Q e H):awpF P ac Q e H:=k
theorem g_o {xs:List tB} (k:yP P xs e H KE):yP P xs e H KE:=k
theorem g_d {n:Nat} {ds:List DOp} {log:List (Nat × Option Nat)} (k:xH P n ds log e H KE):xH P n ds log e H KE:=k
theorem g_x {op:AOp} (k:xopF P e H op K):xopF P e H op K:=k
theorem g_xd {n:Nat} {op:AOp} (k:xM P e H n op K):xM P e H n op K:=k
theorem g_q {op:AOp} (k:qval e op KV):qval e op KV:=k
theorem g_l {hb:Nat→Option Slot} {agg:Bool} {size:Nat} {a:AO} (k:lval e hb agg size a KV):lval e hb agg size a KV:=k
theorem g_len {x:Option V} (k:qLen x KV):qLen x KV:=k
theorem g_nil {neg:Bool} {x:Option V} (k:qNil neg x KV):qNil neg x KV:=k
theorem g_iad {arr:Option Nat} {es:Nat} {x i:Option V} (k:qIad arr es x i KV):qIad arr es x i KV:=k
theorem g_box {s:Option Slot} {agg:Bool} {size off:Nat} (k:yW s agg size off KV):yW s agg size off KV:=k
theorem g_cells {cs:List C} {agg:Bool} {size:Nat} (k:yI cs agg size KV):yI cs agg size KV:=k
theorem g_st {s:Option Slot} {b size off:Nat} {ds:Option (List C)} {K:Nat→Slot→Prop} (k:xA s b size off ds K):xA s b size off ds K:=k
theorem g_s {b:yV} {ex:Ex} (k:seqQ P b Q ex e H):seqQ P b Q ex e H:=k
theorem g_k {i:Nat} {ex:Ex} (k:xJ i Q ex e H):xJ i Q ex e H:=k
theorem g_lo {L:List Nat} {I:Nat→List V→Hp→Prop} {n:Nat} {ex:Ex} (k:xY L I n Q ex e H):xY L I n Q ex e H:=k
theorem g_b {rs:List ARes} {ex:Ex} (k:xU rs K ex e H):xU rs K ex e H:=k
theorem g_r {rs:List ARes} {KL:List V→Prop} (k:xR e H rs KL):xR e H rs KL:=k
theorem g_c {p:Bool} {A B:Prop} (k:cnd p A B):cnd p A B:=k
end
end Go.Proofs.Ytokckcnfojjpjaa
