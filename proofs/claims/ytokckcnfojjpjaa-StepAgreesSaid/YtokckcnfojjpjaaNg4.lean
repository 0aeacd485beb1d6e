/-
  Parts of the proof: The abstract operations are sound, the second part: arithmetic, addresses, slices, make, append, calls, and the whole of them in one theorem.
-/
import Derived.Test.YtokckcnfojjpjaaNg3
import Derived.Laws.Append
import Derived.Laws.BitsLemmas
import Derived.WalkSpells
set_option linter.unusedVariables false
set_option linter.unusedSimpArgs false
namespace Go.Proofs.Ytokckcnfojjpjaa
open Go.RowKit
section
variable {P:Program} {base:Nat→Prop} {st:St} {o:Oper} {a:Act} {w:World} {β:Nat→Nat} {K:V→Hp→Prop} {Q:Exit→Act→World→Prop}
theorem s_int2 {x y:Operand} {x' y':AO} {k k':IntKind} {m n:Int} (hs:SRel base st a w β) (h1:yY x=some x') (h2:yY y=some y') (hx:x'.ev st.env=some (.c (.int k m))) (hy:y'.ev st.env=some (.c (.int k' n))):a.eval x=.int k m∧a.eval y=.int k' n :=
 ⟨((yH hs h1 hx).c_inv).int_inv,((yH hs h2 hy).c_inv).int_inv⟩
theorem gW (op:BinOp) (t:TypeId) (x y:Operand) (k k':IntKind) (m n:Int):(eqGuard op t x y (.int k m) (.int k' n)).run P w=.ok () w:=by
 unfold eqGuard
 split <;> simp
theorem s_ar {op:BinOp} {ar:Ar} {t u:TypeId} {x y:Operand} {x' y':AO} (hs:SRel base st a w β) (ho:o.op=.binOp op t x y u) (h1:yY x=some x') (h2:yY y=some y')
  (hop:(op,ar)∈[(BinOp.add,Ar.add),(.sub,.sub),(.mul,.mul),(.quo,.quo),(.rem,.rem),(.and,.and),(.or,.or),(.xor,.xor),(.andNot,.andNot)]) (h:xop P st (.ar ar x' y') K):o.wp P a w (Post base st o a w β K) Q:=by
 dsimp only [xop,qval,qLen,qNil,qIad,qSlc,qIdx,lval,yW,yI,sval,xA,aval,appX] at h
 split at h
 ·rename_i k m k' n hx hy
  obtain ⟨e1,e2⟩:=s_int2 hs h1 h2 hx hy
  obtain ⟨hc,hK⟩:=wB h
  simp only [Bool.and_eq_true,decide_eq_true_eq] at hc
  obtain ⟨rfl,hn⟩:=hc
  refine yT hs (v:=.int k (arith ar k m n)) ?_ (.c (.int _ _)) hK
  simp only [List.mem_cons,Prod.mk.injEq,List.mem_nil_iff,or_false] at hop
  rcases hop with ⟨rfl,rfl⟩ | ⟨rfl,rfl⟩ | ⟨rfl,rfl⟩ | ⟨rfl,rfl⟩ | ⟨rfl,rfl⟩ | ⟨rfl,rfl⟩ | ⟨rfl,rfl⟩ | ⟨rfl,rfl⟩ | ⟨rfl,rfl⟩ <;>
   simp [needs] at hn <;> simp [execOp,ho,e1,e2,gW,binOp,Op.intArith,Op.intDiv,Op.intBits,arith,hn]
 ·exact h.elim
theorem s_cm {op:BinOp} {cm:Cm} {t u:TypeId} {x y:Operand} {x' y':AO} (hs:SRel base st a w β) (ho:o.op=.binOp op t x y u) (h1:yY x=some x') (h2:yY y=some y')
  (hop:(op,cm)∈[(BinOp.eql,Cm.eql),(.neq,.neq),(.lss,.lss),(.leq,.leq),(.gtr,.gtr),(.geq,.geq)]) (h:xop P st (.cm cm x' y') K):o.wp P a w (Post base st o a w β K) Q:=by
 dsimp only [xop,qval,qLen,qNil,qIad,qSlc,qIdx,lval,yW,yI,sval,xA,aval,appX] at h
 split at h
 ·rename_i k m k' n hx hy
  obtain ⟨e1,e2⟩:=s_int2 hs h1 h2 hx hy
  obtain ⟨hc,hK⟩:=wB h
  simp only [decide_eq_true_eq] at hc
  subst hc
  refine yT hs (v:=.bool (yA cm m n)) ?_ (.c (.bool _)) hK
  simp only [List.mem_cons,Prod.mk.injEq,List.mem_nil_iff,or_false] at hop
  rcases hop with ⟨rfl,rfl⟩ | ⟨rfl,rfl⟩ | ⟨rfl,rfl⟩ | ⟨rfl,rfl⟩ | ⟨rfl,rfl⟩ | ⟨rfl,rfl⟩ <;>
   simp [execOp,ho,e1,e2,gW,binOp,Op.intCmp,yA,dec_decide,bne,show (m == n)=decide (m=n) from rfl]
 ·exact h.elim
theorem s_shl {t u:TypeId} {x y:Operand} {x' y':AO} (hs:SRel base st a w β) (ho:o.op=.binOp .shl t x y u) (h1:yY x=some x') (h2:yY y=some y') (h:xop P st (.shl x' y') K):o.wp P a w (Post base st o a w β K) Q:=by
 dsimp only [xop,qval,qLen,qNil,qIad,qSlc,qIdx,lval,yW,yI,sval,xA,aval,appX] at h
 split at h
 ·rename_i k m k' n hx hy
  obtain ⟨e1,e2⟩:=s_int2 hs h1 h2 hx hy
  obtain ⟨hc,hK⟩:=wB h
  simp only [decide_eq_true_eq] at hc
  have hn:¬ n<0:=by omega
  refine yT hs (v:=.int k (k.wrap (m*2 ^ (min n.toNat k.bits)))) ?_ (.c (.int _ _)) hK
  simp [execOp,ho,e1,e2,gW,binOp,Op.shift,hn]
 ·exact h.elim
theorem s_shr {t u:TypeId} {x y:Operand} {x' y':AO} (hs:SRel base st a w β) (ho:o.op=.binOp .shr t x y u) (h1:yY x=some x') (h2:yY y=some y') (h:xop P st (.shr x' y') K):o.wp P a w (Post base st o a w β K) Q:=by
 dsimp only [xop,qval,qLen,qNil,qIad,qSlc,qIdx,lval,yW,yI,sval,xA,aval,appX] at h
 split at h
 ·rename_i k m k' n hx hy
  obtain ⟨e1,e2⟩:=s_int2 hs h1 h2 hx hy
  obtain ⟨hc,hK⟩:=wB h
  simp only [decide_eq_true_eq] at hc
  have hn:¬ n<0:=by omega
  refine yT hs (v:=.int k (m.fdiv (2 ^ (min n.toNat k.bits)))) ?_ (.c (.int _ _)) hK
  simp [execOp,ho,e1,e2,gW,binOp,Op.shift,hn]
 ·exact h.elim
theorem s_eqB {neg:Bool} {t u:TypeId} {x y:Operand} {x' y':AO} (hs:SRel base st a w β) (ho:o.op=.binOp (if neg then .neq else .eql) t x y u) (ht:P.underlying t=some .bool) (h1:yY x=some x') (h2:yY y=some y') (h:xop P st (.eqB neg x' y') K):o.wp P a w (Post base st o a w β K) Q:=by
 dsimp only [xop,qval,qLen,qNil,qIad,qSlc,qIdx,lval,yW,yI,sval,xA,aval,appX] at h
 split at h
 ·rename_i p q hx hy
  have e1:=((yH hs h1 hx).c_inv).bool_inv
  have e2:=((yH hs h2 hy).c_inv).bool_inv
  refine yT hs (v:=.bool (bif neg then !(p == q) else (p == q))) ?_ (.c (.bool _)) h
  have hg:∀ op,(eqGuard op t x y (.bool p) (.bool q)).run P w=.ok () w:=fun op => by unfold eqGuard; split <;> simp
  cases neg <;> simp [execOp,ho,e1,e2,hg,run_eql_bool w t p q ht,run_neq_bool w t p q ht]
 ·exact h.elim
theorem s_eqN {neg:Bool} {t u e:TypeId} {x y:Operand} {x':AO} (hs:SRel base st a w β) (ho:o.op=.binOp (if neg then .neq else .eql) t x y u) (ht:P.underlying t=some (.slice e)) (h1:yY x=some x') (h2:yY y=some (.k (.c .nilSl))) (h:xop P st (.eqN neg x') K):o.wp P a w (Post base st o a w β K) Q:=by
 have e2:a.eval y=.slice none 0 0:=((yH hs h2 (u:=.c .nilSl) rfl).c_inv).nilSl_inv
 dsimp only [xop,qval,qLen,qNil,qIad,qSlc,qIdx,lval,yW,yI,sval,xA,aval,appX] at h
 split at h
 ·rename_i c hx
  have hr:=(yH hs h1 hx).c_inv
  split at h
  ·rename_i r hr0
   have hsl:∃ (ad:Option Addr) (n cap:Nat),a.eval x=.slice ad n cap∧r=ad.isNone:=by
    generalize a.eval x=z at hr
    cases hr <;> simp [isNil] at hr0 <;> subst hr0 <;> exact ⟨_,_,_,rfl,rfl⟩
   obtain ⟨ad,n,cap,e1,rfl⟩:=hsl
   have hg:∀ op,(eqGuard op t x y (.slice ad n cap) (.slice none 0 0)).run P w=.ok () w:=fun op => by unfold eqGuard; split <;> simp
   refine yT hs (v:=.bool (bif neg then !ad.isNone else ad.isNone)) ?_ (.c (.bool _)) h
   cases neg <;> simp [execOp,ho,e1,e2,hg,Go.Lib.run_eql_slice_nil w t e ad n cap 0 0 ht,Go.run_neq_slice_nil_any w t e ad n cap 0 0 ht]
  ·exact h.elim
 ·exact h.elim
theorem s_neg {x:Operand} {x':AO} {u:TypeId} (hs:SRel base st a w β) (ho:o.op=.unOp .neg u x) (h1:yY x=some x') (h:xop P st (.neg x') K):o.wp P a w (Post base st o a w β K) Q:=by
 dsimp only [xop,qval,qLen,qNil,qIad,qSlc,qIdx,lval,yW,yI,sval,xA,aval,appX] at h
 split at h
 ·rename_i k m hx
  have e1:=((yH hs h1 hx).c_inv).int_inv
  refine yT hs (v:=.int k (k.wrap (0 - m))) ?_ (.c (.int _ _)) h
  simp [execOp,ho,e1,Op.unary,Op.intArith]
 ·exact h.elim
theorem s_com {x:Operand} {x':AO} {u:TypeId} {k:IntKind} (hs:SRel base st a w β) (ho:o.op=.unOp .xor u x) (h1:yY x=some x') (h:xop P st (.ar .xor (.k (.c (.int k (if k.signed then -1 else k.max)))) x') K):o.wp P a w (Post base st o a w β K) Q:=by
 dsimp only [xop,qval,qLen,qNil,qIad,qSlc,qIdx,lval,yW,yI,sval,xA,aval,appX,AO.ev] at h
 split at h
 ·rename_i k1 m k2 n hx hy
  cases hx
  have e1:=((yH hs h1 hy).c_inv).int_inv
  obtain ⟨hk,h'⟩:=wB h
  clear h
  simp only [Bool.and_eq_true,needs,decide_eq_true_eq,and_true] at hk
  subst hk
  refine yT hs (v:=.int k (arith .xor k (if k.signed then -1 else k.max) n)) ?_ (.c (.int _ _)) h'
  simp [execOp,ho,e1,Op.unary,Op.intBits,arith]
 ·exact h.elim
theorem s_not {x:Operand} {x':AO} {u:TypeId} (hs:SRel base st a w β) (ho:o.op=.unOp .not u x) (h1:yY x=some x') (h:xop P st (.not x') K):o.wp P a w (Post base st o a w β K) Q:=by
 dsimp only [xop,qval,qLen,qNil,qIad,qSlc,qIdx,lval,yW,yI,sval,xA,aval,appX] at h
 split at h
 ·rename_i m hx
  have e1:=((yH hs h1 hx).c_inv).bool_inv
  refine yT hs (v:=.bool !m) ?_ (.c (.bool _)) h
  simp [execOp,ho,e1,Op.unary]
 ·exact h.elim
theorem s_conv {s d:TypeId} {k:IntKind} {q:TypeDesc} {x:Operand} {x':AO} (hs:SRel base st a w β) (ho:o.op=.convert s d x) (hq:P.underlying s=some q) (hd:P.underlying d=some (.int k)) (h1:yY x=some x') (h:xop P st (.conv k x') K):o.wp P a w (Post base st o a w β K) Q:=by
 dsimp only [xop,qval,qLen,qNil,qIad,qSlc,qIdx,lval,yW,yI,sval,xA,aval,appX] at h
 split at h
 ·rename_i k' m hx
  have e1:=((yH hs h1 hx).c_inv).int_inv
  refine yT hs (v:=.int k (k.wrap m)) ?_ (.c (.int _ _)) h
  cases q <;> simp [execOp,ho,e1,convert,run_underlying hd,run_underlying hq,Conv.intToInt]
 ·exact h.elim
theorem s_faddr {s:TypeId} {fs:Array Field} {f:Nat} {fd:Field} {agg:Bool} {size:Nat} {x:Operand} {x':AO} (hs:SRel base st a w β) (ho:o.op=.fieldAddr s x f) (hu:P.underlying s=some (.struct fs)) (hf:fs[f]?=some fd) (ht:tsize P fd.type=some (agg,size)) (hz:size≠0) (h1:yY x=some x') (h:xop P st (.faddr fd.offset x') K):o.wp P a w (Post base st o a w β K) Q:=by
 obtain ⟨i,d,hi,hd,_,hsz⟩:=sE ht
 have hz':i.size≠0:=by rw [hsz]; exact hz
 dsimp only [xop,qval,qLen,qNil,qIad,qSlc,qIdx,lval,yW,yI,sval,xA,aval,appX] at h
 split at h
 ·rename_i b off hx
  obtain ⟨e1,hb⟩:=((yH hs h1 hx).c_inv).ptr_inv
  refine yT hs (v:=.pointer (some ⟨β b,off+fd.offset,none⟩)) ?_ (.c (.ptr hb)) h
  simp [execOp,ho,Instr.fieldAt,run_underlying hu,hf,e1,Instr.sureAddr,fieldPlace,wO (w:=w) hi,hz',add_lit,cx]
 ·rename_i cs hx
  obtain ⟨ad,vs,e1,hc,hr⟩:=((yH hs h1 hx).c_inv).ipt_inv
  refine yT hs (v:=.pointer (some (ad.add fd.offset))) ?_ (.c (.ipt (vs:=vs.drop fd.offset) (fun j v hj => ?_) (hr.drop _))) h
  ·simp [execOp,ho,Instr.fieldAt,run_underlying hu,hf,e1,Instr.sureAddr,fieldPlace,wO (w:=w) hi,hz']
  ·rw [List.getElem?_drop] at hj
   rw [uK,add_add]
   exact hc _ v hj
 ·exact h.elim
theorem bO {t:TypeId} {agg:Bool} {size:Nat} (ht:tsize P t=some (agg,size)) (vs:List Value) (off:Nat) :
  (agg=true→(part t vs.toArray off).run P w=.ok (.agg ((vs.drop off).take size).toArray) w)∧(agg=false→∀ v,vs[off]?=some v→(part t vs.toArray off).run P w=.ok v w):=by
 obtain ⟨i,d,hi,hd,hagg,hsz⟩:=sE ht
 constructor
 ·intro h
  subst h
  simp [part,run_isAgg (w:=w) hd,hagg,wO (w:=w) hi,hsz,List.extract_eq_take_drop]
 ·intro h v hv
  subst h
  simp [part,run_isAgg (w:=w) hd,hagg,hv]
theorem s_fld {s:TypeId} {fs:Array Field} {f:Nat} {fd:Field} {agg:Bool} {size:Nat} {x:Operand} {x':AO} (hs:SRel base st a w β) (ho:o.op=.field s x f) (hu:P.underlying s=some (.struct fs)) (hf:fs[f]?=some fd) (ht:tsize P fd.type=some (agg,size)) (h1:yY x=some x') (h:xop P st (.fld agg fd.offset size x') K):o.wp P a w (Post base st o a w β K) Q:=by
 dsimp only [xop,qval,qLen,qNil,qIad,qSlc,qIdx,lval,yW,yI,sval,xA,aval,appX] at h
 split at h
 ·rename_i cs hx
  obtain ⟨vs,e1,hr⟩:=(yH hs h1 hx).agg_inv
  obtain ⟨p1,p2⟩:=bO (w:=w) ht vs fd.offset
  split at h
  ·obtain ⟨_,hK⟩:=wB h
   refine yT hs (v:=.agg ((vs.drop fd.offset).take size).toArray) ?_ (.agg ((hr.drop _).take _)) hK
   simp [execOp,ho,Instr.field,run_underlying hu,hf,e1,asAgg,p1 rfl]
  ·split at h
   ·rename_i c hc
    obtain ⟨v,hv,hrv⟩:=hr.get hc
    refine yT hs (v:=v) ?_ (.c hrv) h
    simp [execOp,ho,Instr.field,run_underlying hu,hf,e1,asAgg,p2 rfl v hv]
   ·exact h.elim
 ·exact h.elim
theorem s_iaddr {t e:TypeId} {arr:Option Nat} {agg:Bool} {es:Nat} {x i:Operand} {x' i':AO} (hs:SRel base st a w β) (ho:o.op=.indexAddr t x i) (hu:(arr=none∧P.underlying t=some (.slice e))∨∃ n,arr=some n∧P.underlying t=some (.array n e)) (ht:tsize P e=some (agg,es)) (h1:yY x=some x') (h2:yY i=some i') (h:xop P st (.iaddr arr es x' i') K):o.wp P a w (Post base st o a w β K) Q:=by
 obtain ⟨ie,d,hi,hd,_,hsz⟩:=sE ht
 dsimp only [xop,qval,qLen,qNil,qIad,qSlc,qIdx,lval,yW,yI,sval,xA,aval,appX] at h
 split at h
 ·rename_i c k n hx hi'
  have hr:=(yH hs h1 hx).c_inv
  have e2:=((yH hs h2 hi').c_inv).int_inv
  split at h
  ·rename_i _ b off m co es'
   obtain ⟨hc,hK⟩:=wB h
   simp only [Bool.and_eq_true,decide_eq_true_eq] at hc
   obtain ⟨off',cap,m',e1,hb,hn,hco,ho',hm,hfit⟩:=hr.sl_inv
   rcases hu with ⟨_,hu⟩ | ⟨_,he,_⟩
   ·have hoff:off'=off:=ho' (by omega)
    subst hoff
    refine yT hs (v:=.pointer (some ⟨β b,off'+n.toNat*es,none⟩)) ?_ (.c (.ptr hb)) hK
    simp [execOp,ho,Instr.indexAt,run_underlying hu,e1,e2,asIntOf,hc.1,hc.2,wO (w:=w) hi,hsz,add_lit,cx]
   ·cases he
  ·rename_i _ m cs
   obtain ⟨hc,hK⟩:=wB h
   simp only [Bool.and_eq_true,decide_eq_true_eq] at hc
   obtain ⟨ad,cap,vs,e1,hn,hcell,hrl⟩:=hr.imm_inv
   rcases hu with ⟨_,hu⟩ | ⟨_,he,_⟩
   ·refine yT hs (v:=.pointer (some (ad.add (n.toNat*es)))) ?_ (.c (.ipt (vs:=vs.drop (n.toNat*es)) (fun j v hj => ?_) (hrl.drop _))) hK
    ·simp [execOp,ho,Instr.indexAt,run_underlying hu,e1,e2,asIntOf,hc.1,hc.2,wO (w:=w) hi,hsz]
    ·rw [List.getElem?_drop] at hj
     rw [uK,add_add]
     exact hcell _ v hj
   ·cases he
  ·rename_i _ m b off
   obtain ⟨hc,hK⟩:=wB h
   simp only [Bool.and_eq_true,decide_eq_true_eq] at hc
   obtain ⟨e1,hb⟩:=hr.ptr_inv
   rcases hu with ⟨he,_⟩ | ⟨q,he,hu⟩
   ·cases he
   ·cases he
    refine yT hs (v:=.pointer (some ⟨β b,off+n.toNat*es,none⟩)) ?_ (.c (.ptr hb)) hK
    simp [execOp,ho,Instr.indexAt,run_underlying hu,e1,e2,asIntOf,hc.1,hc.2,wO (w:=w) hi,hsz,add_lit,cx,Instr.sureAddr]
  ·rename_i _ m cs
   obtain ⟨hc,hK⟩:=wB h
   simp only [Bool.and_eq_true,decide_eq_true_eq] at hc
   obtain ⟨ad,vs,e1,hcell,hrl⟩:=hr.ipt_inv
   rcases hu with ⟨he,_⟩ | ⟨q,he,hu⟩
   ·cases he
   ·cases he
    refine yT hs (v:=.pointer (some (ad.add (n.toNat*es)))) ?_ (.c (.ipt (vs:=vs.drop (n.toNat*es)) (fun j v hj => ?_) (hrl.drop _))) hK
    ·simp [execOp,ho,Instr.indexAt,run_underlying hu,e1,e2,asIntOf,hc.1,hc.2,wO (w:=w) hi,hsz,Instr.sureAddr]
    ·rw [List.getElem?_drop] at hj
     rw [uK,add_add]
     exact hcell _ v hj
  ·exact h.elim
 ·exact h.elim
theorem s_idx {t e:TypeId} {len:Nat} {agg:Bool} {es:Nat} {x i:Operand} {x' i':AO} (hs:SRel base st a w β) (ho:o.op=.index t x i) (hu:P.underlying t=some (.array len e)) (ht:tsize P e=some (agg,es)) (h1:yY x=some x') (h2:yY i=some i') (h:xop P st (.idx agg len es x' i') K):o.wp P a w (Post base st o a w β K) Q:=by
 obtain ⟨ie,d,hi,hd,_,hsz⟩:=sE ht
 dsimp only [xop,qval,qLen,qNil,qIad,qSlc,qIdx,lval,yW,yI,sval,xA,aval,appX] at h
 split at h
 ·rename_i cs k n hx hi'
  obtain ⟨vs,e1,hr⟩:=(yH hs h1 hx).agg_inv
  have e2:=((yH hs h2 hi').c_inv).int_inv
  obtain ⟨hc,hK⟩:=wB h
  simp only [Bool.and_eq_true,decide_eq_true_eq] at hc
  obtain ⟨p1,p2⟩:=bO (w:=w) ht vs (n.toNat*es)
  split at hK
  ·refine yT hs (v:=.agg ((vs.drop (n.toNat*es)).take es).toArray) ?_ (.agg ((hr.drop _).take _)) hK
   simp [execOp,ho,Instr.index,run_underlying hu,e1,e2,asIntOf,hc.1.1,hc.1.2,wO (w:=w) hi,hsz,p1 rfl]
  ·split at hK
   ·rename_i c hcc
    obtain ⟨v,hv,hrv⟩:=hr.get hcc
    refine yT hs (v:=v) ?_ (.c hrv) hK
    simp [execOp,ho,Instr.index,run_underlying hu,e1,e2,asIntOf,hc.1.1,hc.1.2,wO (w:=w) hi,hsz,p2 rfl v hv]
   ·exact hK.elim
 ·exact h.elim
theorem s_idxS {t:TypeId} {x i:Operand} {x' i':AO} (hs:SRel base st a w β) (ho:o.op=.index t x i) (hu:P.underlying t=some .string) (h1:yY x=some x') (h2:yY i=some i') (h:xop P st (.idxS x' i') K):o.wp P a w (Post base st o a w β K) Q:=by
 dsimp only [xop,qval,qLen,qNil,qIad,qSlc,qIdx,lval,yW,yI,sval,xA,aval,appX] at h
 split at h
 ·rename_i s k n hx hi'
  have e1:=((yH hs h1 hx).c_inv).str_inv
  have e2:=((yH hs h2 hi').c_inv).int_inv
  obtain ⟨hc,hK⟩:=wB h
  simp only [Bool.and_eq_true,decide_eq_true_eq] at hc
  have hlt:n.toNat<s.size:=by omega
  refine yT hs (v:=.int .u8 (s[n.toNat]?.getD 0).toNat) ?_ (.c (.int _ _)) hK
  simp only [execOp,ho,e1,e2,Sem.run_bind,run_index_string (w:=w) t s k n hu,dif_pos hc,Result.andThen_ok]
  simp [ByteArray.getElem?_lt' s _ hlt]
 ·exact h.elim
theorem eqAt_append {a b:List C}:∀ {os rs:List (Nat × Nat)} {r:Bool},eqAt (os++rs) a b=some r→∃ p q,eqAt os a b=some p∧eqAt rs a b=some q∧r=(p && q)
 | [],rs,r,h => ⟨true,r,rfl,h,by simp⟩
 | o :: os,rs,r,h => by
  simp only [List.cons_append,eqAt] at h ⊢
  split at h
  ·rename_i x y hx hy
   split at h
   ·rename_i p hp
    split at h
    ·rename_i q hq
     simp at h
     obtain ⟨p',q',h1,h2,rfl⟩:=eqAt_append hq
     simp only [h1,hp]
     exact ⟨_,_,rfl,h2,by rw [←h,Bool.and_assoc]⟩
    ·cases h
   ·cases h
  ·cases h
theorem eqAt_part {a b:List C} {off size:Nat}:∀ {os:List (Nat × Nat)} {r:Bool},os.all (fun o => Nat.ble (o.1+1) size)=true→eqAt (os.map fun o => (off+o.1,o.2)) a b=some r→eqAt os ((a.drop off).take size) ((b.drop off).take size)=some r
 | [],r,_,h => h
 | o :: os,r,hs,h => by
  simp only [List.all_cons,Bool.and_eq_true] at hs
  have hlt:o.1<size:=Nat.le_of_ble_eq_true hs.1
  have ea:∀ l:List C,((l.drop off).take size)[o.1]?=l[off+o.1]?:=fun l => by rw [List.getElem?_take_of_lt hlt,List.getElem?_drop]
  simp only [List.map_cons,eqAt] at h
  simp only [eqAt,ea]
  split at h
  ·rename_i x y hx hy
   split at h
   ·rename_i p hp
    split at h
    ·rename_i q hq
     simp only [hx,hy,hp,eqAt_part hs.2 hq]
     exact h
    ·cases h
   ·cases h
  ·cases h
theorem flatF_sound {g:TypeId→Option (List (Nat × Nat))} {d:Nat} (x:Cx)
  (hg:∀ t os,g t=some os→∀ agg size,tsize P t=some (agg,size) → 
   (agg=true→∀ as bs vs ws r,RL x as vs→RL x bs ws→eqAt os as bs=some r→(Op.equalIn d t (.agg vs.toArray) (.agg ws.toArray)).run P w=.ok r w) ∧
   (agg=false→∃ k,os=[(0,k)]∧∀ c c' v v' r,R x c v→R x c' v'→eqC k c c'=some r→(Op.equalIn d t v v').run P w=.ok r w)) :
  ∀ (fs:List Field) (os:List (Nat × Nat)),flatF P g fs=some os→∀ as bs vs ws r,RL x as vs→RL x bs ws→eqAt os as bs=some r→(Op.eqFields d vs.toArray ws.toArray fs).run P w=.ok r w
 | [],os,h,as,bs,vs,ws,r,h1,h2,h3 => by
  simp [flatF] at h
  subst h
  simp [eqAt] at h3
  subst h3
  simp [Op.eqFields]
 | f :: fs,os,h,as,bs,vs,ws,r,h1,h2,h3 => by
  unfold flatF at h
  cases hn:f.name == "_" with
  | true => simp [hn] at h
  | false =>
   simp only [hn,cond_false] at h
   split at h
   ·rename_i agg size os' rs ht hos hrs
    cases hall:os'.all (fun o => Nat.ble (o.1+1) size) with
    | false => simp [hall] at h
    | true =>
     simp only [hall,cond_true,Option.some.injEq] at h
     subst h
     obtain ⟨p,q,e1,e2,rfl⟩:=eqAt_append h3
     have hrest:=flatF_sound x hg fs rs hrs as bs vs ws q h1 h2 e2
     have hn':f.name ≠ "_":=by simpa using hn
     obtain ⟨k1,k2⟩:=hg f.type os' hos agg size ht
     have hone:∃ pv pw,(part f.type vs.toArray f.offset).run P w=.ok pv w∧(part f.type ws.toArray f.offset).run P w=.ok pw w∧(Op.equalIn d f.type pv pw).run P w=.ok p w:=by
      cases agg with
      | true => exact ⟨_,_,(bO (w:=w) ht vs f.offset).1 rfl,(bO (w:=w) ht ws f.offset).1 rfl,k1 rfl _ _ _ _ p ((h1.drop _).take _) ((h2.drop _).take _) (eqAt_part hall e1)⟩
      | false =>
       obtain ⟨k,rfl,k3⟩:=k2 rfl
       simp only [List.map_cons,List.map_nil,eqAt] at e1
       split at e1
       ·rename_i c c' hc hc'
        split at e1
        ·rename_i p' hp'
         simp at e1
         subst e1
         simp only [Nat.add_zero] at hc hc'
         obtain ⟨v,hv,hr⟩:=h1.get hc
         obtain ⟨v',hv',hr'⟩:=h2.get hc'
         exact ⟨v,v',(bO (w:=w) ht vs f.offset).2 rfl v hv,(bO (w:=w) ht ws f.offset).2 rfl v' hv',k3 _ _ _ _ _ hr hr' hp'⟩
        ·cases e1
       ·cases e1
     obtain ⟨pv,pw,a1,a2,a3⟩:=hone
     rw [Op.eqFields]
     simp only [if_pos hn',Sem.run_bind,a1,a2,a3,Result.andThen_ok]
     cases p
     ·simp
     ·simpa using hrest
   ·cases h
theorem flatT_sound (x:Cx):∀ (d:Nat) (t:TypeId) (os:List (Nat × Nat)),flatT P d t=some os→∀ D,d≤D→∀ agg size,tsize P t=some (agg,size) →
   (agg=true→∀ as bs vs ws r,RL x as vs→RL x bs ws→eqAt os as bs=some r→(Op.equalIn D t (.agg vs.toArray) (.agg ws.toArray)).run P w=.ok r w) ∧
   (agg=false→∃ k,os=[(0,k)]∧∀ c c' v v' r,R x c v→R x c' v'→eqC k c c'=some r→(Op.equalIn D t v v').run P w=.ok r w)
 | 0,t,os,h,D,hD,agg,size,ht => by simp [flatT] at h
 | d+1,t,os,h,D,hD,agg,size,ht => by
  obtain ⟨D,rfl⟩:∃ D',D=D'+1:=⟨D - 1,by omega⟩
  obtain ⟨i,td,hi,hd,hagg,hsz⟩:=sE ht
  unfold flatT at h
  have scalar:∀ k,os=[(0,k)]→isAggD td=false→(∀ c c' v v' r,R x c v→R x c' v'→eqC k c c'=some r→(Op.equalIn (D+1) t v v').run P w=.ok r w) →
    (agg=true→∀ as bs vs ws r,RL x as vs→RL x bs ws→eqAt os as bs=some r→(Op.equalIn (D+1) t (.agg vs.toArray) (.agg ws.toArray)).run P w=.ok r w) ∧
    (agg=false→∃ k,os=[(0,k)]∧∀ c c' v v' r,R x c v→R x c' v'→eqC k c c'=some r→(Op.equalIn (D+1) t v v').run P w=.ok r w):=by
   intro k h0 h1 h2
   refine ⟨fun e => ?_,fun _ => ⟨k,h0,h2⟩⟩
   rw [e] at hagg
   rw [h1] at hagg
   cases hagg
  split at h
  ·rename_i hu
   rw [hu] at hd
   cases hd
   refine scalar 0 (by simpa using h.symm) rfl fun c c' v v' r hr hr' he => ?_
   cases hr <;> cases hr' <;> simp [eqC] at he
   simp [Op.equalIn,run_underlying hu,he]
  ·rename_i k hu
   rw [hu] at hd
   cases hd
   refine scalar 1 (by simpa using h.symm) rfl fun c c' v v' r hr hr' he => ?_
   cases hr <;> cases hr' <;> simp [eqC] at he
   rename_i k1 n1 k2 n2
   by_cases hk:k1=k2
   ·subst hk
    simp at he
    simp [Op.equalIn,run_underlying hu,he]
   ·simp [hk] at he
  ·rename_i hu
   rw [hu] at hd
   cases hd
   refine scalar 2 (by simpa using h.symm) rfl fun c c' v v' r hr hr' he => ?_
   cases hr <;> cases hr' <;> simp [eqC] at he
   simp [Op.equalIn,run_underlying hu,he]
  ·rename_i fs hu
   cases hst:P.stoodInHeld t with
   | true => simp [hst] at h
   | false =>
    simp only [hst,cond_false] at h
    rw [hu] at hd
    cases hd
    simp [isAggD] at hagg
    subst hagg
    refine ⟨fun _ as bs vs ws r h1 h2 h3 => ?_,fun e => by cases e⟩
    have hf:P.fieldsOf t=fs:=by simp [Program.fieldsOf,hu]
    rw [run_equalIn_struct (P:=P) w D t vs.toArray ws.toArray (by rw [hf]; exact hu) hst,hf]
    exact flatF_sound x (fun t' os' hg agg' size' ht' => flatT_sound x d t' os' hg D (by omega) agg' size' ht') fs.toList os h as bs vs ws r h1 h2 h3
  ·cases h
theorem s_eqA {neg:Bool} {t u:TypeId} {x y:Operand} {x' y':AO} {offs:List (Nat × Nat)} {fs:Array Field} (hs:SRel base st a w β) (ho:o.op=.binOp (if neg then .neq else .eql) t x y u) (hu:P.underlying t=some (.struct fs)) (hf:flatT P 8 t=some offs) (hg:P.eqGuardType P.depth t=false) (h1:yY x=some x') (h2:yY y=some y') (h:xop P st (.eqA neg offs x' y') K):o.wp P a w (Post base st o a w β K) Q:=by
 dsimp only [xop,qval,qLen,qNil,qIad,qSlc,qIdx,lval,yW,yI,sval,xA,aval,appX] at h
 split at h
 ·rename_i as bs hx hy
  obtain ⟨vs,e1,hr1⟩:=(yH hs h1 hx).agg_inv
  obtain ⟨ws,e2,hr2⟩:=(yH hs h2 hy).agg_inv
  split at h
  ·rename_i r hr
   have key:(Op.equalIn 10000 t (.agg vs.toArray) (.agg ws.toArray)).run P w=.ok r w:=by
    have hf':=hf
    unfold flatT at hf'
    simp only [hu] at hf'
    cases hst:P.stoodInHeld t with
    | true => simp [hst] at hf'
    | false =>
     simp only [hst,cond_false] at hf'
     have hff:P.fieldsOf t=fs:=by simp [Program.fieldsOf,hu]
     rw [run_equalIn_struct (P:=P) w 9999 t vs.toArray ws.toArray (by rw [hff]; exact hu) hst,hff]
     exact flatF_sound (cx base w β st.H) (fun t' os' hg agg' size' ht' => flatT_sound (cx base w β st.H) 7 t' os' hg 9999 (by omega) agg' size' ht') fs.toList offs hf' as bs vs ws r hr1 hr2 hr
   have hge:∀ op,(eqGuard op t x y (.agg vs.toArray) (.agg ws.toArray)).run P w=.ok () w:=fun op => by
    simp only [eqGuard]
    cases op <;> simp [hg]
   refine yT hs (v:=.bool (bif neg then !r else r)) ?_ (.c (.bool _)) h
   cases neg <;> simp [execOp,ho,e1,e2,hge,run_eql_struct,run_neq_struct,key]
  ·exact h.elim
 ·exact h.elim
theorem s_ext {x:Operand} {x':AO} {i:Nat} (hs:SRel base st a w β) (ho:o.op=.extract x i) (h1:yY x=some x') (h:xop P st (.ext x' i) K):o.wp P a w (Post base st o a w β K) Q:=by
 dsimp only [xop,qval,qLen,qNil,qIad,qSlc,qIdx,lval,yW,yI,sval,xA,aval,appX] at h
 split at h
 ·rename_i us hx
  obtain ⟨vs,e1,hr⟩:=(yH hs h1 hx).tup_inv
  split at h
  ·rename_i u hu
   obtain ⟨v,hv,hrv⟩:=hr.get hu
   refine yT hs (v:=v) ?_ hrv h
   simp [execOp,ho,e1,Instr.extract,hv]
  ·exact h.elim
 ·exact h.elim
end
end Go.Proofs.Ytokckcnfojjpjaa
