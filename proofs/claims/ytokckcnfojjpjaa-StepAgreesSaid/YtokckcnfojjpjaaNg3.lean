/-
  Parts of the proof: The abstract operations are sound: what they ask suffices for the program's operation, in every world that bears the abstract state.
-/
import Derived.Test.YtokckcnfojjpjaaNg2
import Derived.Calls
import Derived.Laws.Small
import Derived.Laws.Tables
import Derived.Laws.AppendOwn
import Derived.Laws.MakeOwn
import Derived.WalkKit
set_option linter.unusedVariables false
set_option linter.unusedSimpArgs false
namespace Go.Proofs.Ytokckcnfojjpjaa
open Go.RowKit
structure SRel (base:Nat→Prop) (st:St) (a:Act) (w:World) (β:Nat→Nat):Prop where
 hp:HRel base w β st.H
 env:∀ t v,look st.env t=some v→RV (cx base w β st.H) v (a.tmps.getD t undef)
def Post (base:Nat→Prop) (st:St) (o:Oper) (a:Act) (w:World) (β:Nat→Nat) (K:V→Hp→Prop) (a':Act) (w':World):Prop :=
 ∃ (v:Value) (u:V) (β':Nat→Nat) (H':Hp),a'=a.put o.dst v∧K u H'∧HRel base w' β' H'∧Ext w β st.H w' β' H'∧RV (cx base w' β' H') u v
theorem nL {x:Cx} {v:Value} {c:C} (h:ofCell v=some c):R x c v:=by
 unfold ofCell at h
 split at h <;> simp at h <;> subst h <;> first | exact .bool _ | exact .int _ _ | exact .str _ | exact .nilSl | exact .nilPtr | exact .nilFn | exact .nilIface
theorem uA {x:Cx}:∀ {vs:List Value} {cs:List C},gB vs=some cs→RL x cs vs
 | [],cs,h => by simp [gB] at h; subst h; exact .nil
 | v :: r,cs,h => by
  unfold gB at h
  split at h
  ·rename_i c hc
   split at h
   ·rename_i ds hd
    simp at h
    subst h
    exact .cons (nL hc) (uA hd)
   ·cases h
  ·cases h
theorem ofConst_sound {x:Cx} {v:Value} {u:V} (h:ofConst v=some u):RV x u v:=by
 unfold ofConst at h
 split at h
 ·rename_i cs
  simp only [Option.map_eq_some_iff] at h
  obtain ⟨ds,hd,rfl⟩:=h
  have:=RV.agg (uA (x:=x) hd)
  simpa using this
 ·unfold ofValue at h
  split at h <;> simp at h
  ·subst h; exact .c (.bool _)
  ·subst h; exact .c (.int _ _)
  ·subst h; exact .c (.str _)
  ·subst h; exact .c .nilSl
  ·subst h; exact .c .nilPtr
  ·subst h; exact .c .nilFn
  ·subst h; exact .c .nilIface
  ·rename_i vs _
   obtain ⟨h0,rfl⟩:=h
   have:vs=#[]:=by simpa using h0
   subst this
   exact .tup .nil
theorem yH {x:Operand} {y:AO} {base:Nat→Prop} {st:St} {a:Act} {w:World} {β:Nat→Nat} {u:V} (hs:SRel base st a w β) (hc:yY x=some y) (h:y.ev st.env=some u):RV (cx base w β st.H) u (a.eval x):=by
 cases x with
 | tmp t =>
  simp [yY] at hc
  subst hc
  exact hs.env t u h
 | const v =>
  simp only [yY,Option.map_eq_some_iff] at hc
  obtain ⟨u',hu,rfl⟩:=hc
  simp [AO.ev] at h
  subst h
  exact ofConst_sound hu
 | func f =>
  simp [yY] at hc
  subst hc
  simp [AO.ev] at h
  subst h
  exact .c (.fn .nil)
 | global g => simp [yY] at hc
theorem RV.c_inv {x:Cx} {c:C} {v:Value} (h:RV x (.c c) v):R x c v:=by cases h; assumption
theorem RV.agg_inv {x:Cx} {cs:List C} {v:Value} (h:RV x (.agg cs) v):∃ vs:List Value,v=.agg vs.toArray∧RL x cs vs:=by cases h; exact ⟨_,rfl,by assumption⟩
theorem R.int_inv {x:Cx} {k:IntKind} {n:Int} {v:Value} (h:R x (.int k n) v):v=.int k n:=by cases h; rfl
theorem R.ptr_inv {x:Cx} {b off:Nat} {v:Value} (h:R x (.ptr b off) v):v=.pointer (some ⟨x.β b,off,none⟩)∧x.nb b:=by cases h; exact ⟨rfl,by assumption⟩
theorem R.ipt_inv {x:Cx} {cs:List C} {v:Value} (h:R x (.ipt cs) v):∃ (ad:Addr) (vs:List Value),v=.pointer (some ad)∧(∀ j v,vs[j]?=some v→¬ x.own ad.block∧x.w.cell? (ad.add j)=some v)∧RL x cs vs:=by cases h; exact ⟨_,_,rfl,by assumption,by assumption⟩
theorem R.imm_inv {x:Cx} {n:Nat} {cs:List C} {v:Value} (h:R x (.imm n cs) v):∃ (ad:Addr) (cap:Nat) (vs:List Value),v=.slice (some ad) n cap∧n≤cap∧(∀ j v,vs[j]?=some v→¬ x.own ad.block∧x.w.cell? (ad.add j)=some v)∧RL x cs vs:=by cases h; exact ⟨_,_,_,rfl,by assumption,by assumption,by assumption⟩
theorem R.sl_inv {x:Cx} {b off n es:Nat} {co:Option Nat} {v:Value} (h:R x (.sl b off n co es) v):∃ off' cap m,v=.slice (some ⟨x.β b,off',none⟩) n cap∧x.nb b∧n≤cap∧(∀ k,co=some k→k=cap)∧(cap≠0→off'=off)∧uG x.w (x.β b)=some m∧off'+cap*es≤m:=by cases h; exact ⟨_,_,_,rfl,by assumption,by assumption,by assumption,by assumption,by assumption,by assumption⟩
theorem R.nilSl_inv {x:Cx} {v:Value} (h:R x .nilSl v):v=.slice none 0 0:=by cases h; rfl
theorem R.str_inv {x:Cx} {s:ByteArray} {v:Value} (h:R x (.str s) v):v=.string s:=by cases h; rfl
theorem R.fn_inv {x:Cx} {f:FuncId} {cs:List C} {v:Value} (h:R x (.fn f cs) v):∃ vs:List Value,v=.func (.func f) #[] vs.toArray∧RL x cs vs:=by cases h; exact ⟨_,rfl,by assumption⟩
theorem RV.tup_inv {x:Cx} {us:List V} {v:Value} (h:RV x (.tup us) v):∃ vs:List Value,v=.tuple vs.toArray∧RVL x us vs:=by cases h; exact ⟨_,rfl,by assumption⟩
theorem R.bool_inv {x:Cx} {b:Bool} {v:Value} (h:R x (.bool b) v):v=.bool b:=by cases h; rfl
section
variable {P:Program} {base:Nat→Prop} {st:St} {o:Oper} {a:Act} {w:World} {β:Nat→Nat} {K:V→Hp→Prop} {Q:Exit→Act→World→Prop}
theorem yT {v:Value} {u:V} (hs:SRel base st a w β) (hr:(execOp a.eval o).run P w=.ok (.value v) w) (hv:RV (cx base w β st.H) u v) (hK:K u st.H):o.wp P a w (Post base st o a w β K) Q:=by
 unfold Oper.wp
 rw [hr]
 exact ⟨v,u,β,st.H,rfl,hK,hs.hp,Ext.refl _ _ _,hv⟩
theorem qH {v:Value} {u:V} {w':World} {β':Nat→Nat} {H':Hp} (hr:(execOp a.eval o).run P w=.ok (.value v) w') (hp:HRel base w' β' H') (hx:Ext w β st.H w' β' H') (hv:RV (cx base w' β' H') u v) (hK:K u H'):o.wp P a w (Post base st o a w β K) Q:=by
 unfold Oper.wp
 rw [hr]
 exact ⟨v,u,β',H',rfl,hK,hp,hx,hv⟩
theorem post_skip {u:V} {w':World} {β':Nat→Nat} {H':Hp} (hr:(execOp a.eval o).run P w=.ok .skip w') (hp:HRel base w' β' H') (hx:Ext w β st.H w' β' H') (hv:RV (cx base w' β' H') u undef) (hK:K u H'):o.wp P a w (Post base st o a w β K) Q:=by
 unfold Oper.wp
 rw [hr]
 exact ⟨undef,u,β',H',rfl,hK,hp,hx,hv⟩
theorem sE {t:TypeId} {agg:Bool} {size:Nat} (h:tsize P t=some (agg,size)):∃ i d,P.info? t=some i∧P.underlying t=some d∧isAggD d=agg∧i.size=size:=by
 unfold tsize at h
 split at h
 ·rename_i i d hi hd
  simp at h
  exact ⟨i,d,hi,hd,h.1,h.2⟩
 ·cases h
theorem jB {t:TypeId} {i:TI} (h:tinfo P t=some i):∃ (j:TypeInfo) (d:TypeDesc) (z:Value),P.info? t=some j∧P.underlying t=some d∧j.zero=some z∧isAggD d=i.agg∧j.size=i.size∧j.bytes=i.bytes∧gB z.cells.toList=some i.zero∧i.zero.length=i.size:=by
 unfold tinfo at h
 split at h
 ·rename_i j d hj hd
  split at h
  ·rename_i z hz
   split at h
   ·rename_i cs hcs
    split at h
    ·rename_i hl
     simp at h
     subst h
     exact ⟨j,d,z,hj,hd,hz,rfl,rfl,rfl,hcs,hl⟩
    ·cases h
   ·cases h
  ·cases h
 ·cases h
theorem run_isAgg {t:TypeId} {d:TypeDesc} (hd:P.underlying t=some d):(isAgg t).run P w=.ok (isAggD d) w:=by
 unfold isAgg
 rw [Sem.run_bind,run_underlying hd w]
 cases d <;> simp [isAggD]
theorem wO {t:TypeId} {i:TypeInfo} (hi:P.info? t=some i):(sizeOf t).run P w=.ok i.size w:=by simp [sizeOf,typeInfo,hi]
theorem qC {t:TypeId} {agg:Bool} {size:Nat} (ht:tsize P t=some (agg,size)) (ad:Addr) (vs:List Value) (hl:vs.length=if agg then size else 1) (hc:∀ j v,vs[j]?=some v→w.cell? (ad.add j)=some v) :
  ∃ v,(loadVar t ad).run P w=.ok v w∧(agg=true→v=.agg vs.toArray)∧(agg=false→vs=[v]):=by
 obtain ⟨i,d,hi,hd,hagg,hs⟩:=sE ht
 cases agg with
 | true =>
  refine ⟨.agg vs.toArray,?_,fun _ => rfl,fun h => by cases h⟩
  have h1:=run_loadCells_list (P:=P) w ad vs hc
  have hl':vs.length=i.size:=by simpa [hs] using hl
  rw [hl'] at h1
  simp [loadVar,run_isAgg (w:=w) hd,hagg,wO (w:=w) hi,h1]
 | false =>
  obtain ⟨v,rfl⟩:∃ v,vs=[v]:=List.length_eq_one_iff.1 (by simpa using hl)
  have h0:=hc 0 v (by simp)
  refine ⟨v,?_,fun h => (by cases h),fun _ => rfl⟩
  have h0':w.cell? ad=some v:=by simpa [Addr.add] using h0
  simp [loadVar,run_isAgg (w:=w) hd,hagg,h0']
theorem bI {agg:Bool} {u:V} {cs:List C} {x:Cx} {v:Value} (h:qT agg u=some cs) (hv:RV x u v):∃ vs:List Value,v.cells=vs.toArray∧RL x cs vs:=by
 cases hv with
 | c hc =>
  cases agg <;> simp [qT] at h
  subst h
  refine ⟨[v],?_,.cons hc .nil⟩
  have:=hc.one
  cases v <;> simp [Value.oneCell'] at this <;> rfl
 | agg hr =>
  cases agg <;> simp [qT] at h
  subst h
  exact ⟨_,rfl,hr⟩
 | tup _ => simp [qT] at h
theorem nP {w:World} {g:Nat} {vs:List Value} {t:TypeId} {fr:Nat × Nat} (hg:w.heap[g]?=some (.cells vs.toArray t fr)) (off j:Nat):w.cell? ((⟨g,off,none⟩:Addr).add j)=vs[off+j]?:=by
 have:(⟨g,off,none⟩:Addr).add j=⟨g,off+j,none⟩:=by unfold Addr.add; split <;> simp_all
 rw [this,cell_of_row w g (off+j) vs.toArray t fr hg]
 simp
theorem add_lit (g o n:Nat):(⟨g,o,none⟩:Addr).add n=⟨g,o+n,none⟩:=by unfold Addr.add; split <;> simp_all
theorem add_add (a:Addr) (i j:Nat):(a.add i).add j=a.add (i+j):=by
 unfold Addr.add
 by_cases h1:i=0 <;> by_cases h2:j=0 <;> simp [h1,h2,Nat.add_assoc]
theorem HRel.row {H:Hp} (h:HRel base w β H) {b:Nat} {bx:Box} (hb:H[b]?=some (.live bx)):∃ (vs rest:List Value) (fr:Nat × Nat),w.heap[β b]?=some (.cells (vs++rest).toArray bx.elem fr)∧(bx.kind≠.bor→fr=(0,0))∧RL (cx base w β H) bx.cells vs:=h.cells b bx hb
theorem s_mv {x:Operand} {y:AO} (hs:SRel base st a w β) (ho:o.op=.move x∨o.op=.assign x) (hc:yY x=some y) (h:xop P st (.mv y) K):o.wp P a w (Post base st o a w β K) Q:=by
 dsimp only [xop,qval,qLen,qNil,qIad,qSlc,qIdx,lval,yW,yI,sval,xA,aval,appX] at h
 split at h
 ·rename_i u hu
  refine yT hs ?_ (yH hs hc hu) h
  rcases ho with ho | ho <;> simp [execOp,ho]
 ·exact h.elim
theorem s_pick {c x y:Operand} {c' x' y':AO} (hs:SRel base st a w β) (ho:o.op=.pick c x y) (h1:yY c=some c') (h2:yY x=some x') (h3:yY y=some y') (h:xop P st (.pick c' x' y') K):o.wp P a w (Post base st o a w β K) Q:=by
 dsimp only [xop,qval,qLen,qNil,qIad,qSlc,qIdx,lval,yW,yI,sval,xA,aval,appX] at h
 split at h
 ·rename_i p hp
  have hb:=((yH hs h1 hp).c_inv).bool_inv
  rcases gL h with ⟨rfl,h'⟩ | ⟨rfl,h'⟩
  ·clear h
   split at h'
   ·rename_i u hu
    refine yT hs ?_ (yH hs h2 hu) h'
    simp [execOp,ho,hb,asBool]
   ·exact h'.elim
  ·clear h
   split at h'
   ·rename_i u hu
    refine yT hs ?_ (yH hs h3 hu) h'
    simp [execOp,ho,hb,asBool]
   ·exact h'.elim
 ·exact h.elim
def ARun (P:Program) (base:Nat→Prop) (st:St) (o:Oper) (a:Act) (w:World) (β:Nat→Nat) (i:Nat) (K':V→Box→Prop):Prop :=
 ∃ (us:List Value) (cs:List C) (elem:TypeId) (v:V) (val:Value),(execOp a.eval o).run P w=.ok (.value val) (w.alloc (.cells us.toArray elem (0,0)))∧RL (cx base w β st.H) cs us∧K' v ⟨cs,elem,.rw⟩ ∧
  ∀ y:Cx,y.w=w.alloc (.cells us.toArray elem (0,0))→y.β i=w.heap.size→y.nb i→RV y v val
theorem arun_last (hs:SRel base st a w β) (h:ARun P base st o a w β st.H.length fun v bx => K v (st.H++[.live bx])):o.wp P a w (Post base st o a w β K) Q:=by
 obtain ⟨us,cs,elem,v,val,hrun,hr,hK,hv⟩:=h
 have hp:=hs.hp.alloc hr elem []
 have hx:=ext_alloc hs.hp (.cells (us++[]).toArray elem (0,0)) ⟨cs,elem,.rw⟩
 rw [List.append_nil] at hp hx
 exact qH hrun hp hx (hv _ rfl (vE _ _ _) (born_last _ _)) hK
theorem arun_at {i:Nat} (hs:SRel base st a w β) (hi:st.H[i]?=some .unb) (h:ARun P base st o a w β i fun v bx => K v (st.H.set i (.live bx))):o.wp P a w (Post base st o a w β K) Q:=by
 obtain ⟨us,cs,elem,v,val,hrun,hr,hK,hv⟩:=h
 have hp:=hs.hp.allocAt hi hr elem []
 have hx:=ext_allocAt hs.hp (.cells (us++[]).toArray elem (0,0)) hi ⟨cs,elem,.rw⟩
 rw [List.append_nil] at hp hx
 exact qH hrun hp hx (hv _ rfl (vE _ _ _) (born_at (lt_of_getElem? hi) _)) hK
theorem rv_ptr {y:Cx} {i g:Nat} (h1:y.β i=g) (h2:y.nb i):RV y (.c (.ptr i 0)) (.pointer (some ⟨g,0,none⟩)):=by
 subst h1
 exact .c (.ptr h2)
theorem s_box {i:Nat} {K':V→Box→Prop} {e:TypeId} {x:Operand} {y:AO} {agg:Bool} (hs:SRel base st a w β) (ho:o.op=.box e x) (hc:yY x=some y) (h:aval st.env i (.box agg e y) K'):ARun P base st o a w β i K':=by
 dsimp only [aval] at h
 split at h
 ·rename_i u hu
  split at h
  ·rename_i cs hcs
   obtain ⟨vs,hv,hr⟩:=bI hcs (yH hs hc hu)
   refine ⟨vs,cs,e,_,.pointer (some ⟨w.heap.size,0,none⟩),?_,hr,h,fun y _ h2 h3 => rv_ptr h2 h3⟩
   simp [execOp,ho,Instr.box,newVar,newRow,hv]
  ·exact h.elim
 ·exact h.elim
theorem s_alloc {i':Nat} {K':V→Box→Prop} {e:TypeId} {i:TI} (hs:SRel base st a w β) (ho:o.op=.alloc e) (hc:tinfo P e=some i) (h:aval st.env i' (.alloc e i.zero) K'):ARun P base st o a w β i' K':=by
 obtain ⟨j,d,z,hj,hd,hz,_,_,_,hcs,_⟩:=jB hc
 dsimp only [aval] at h
 refine ⟨z.cells.toList,i.zero,e,_,.pointer (some ⟨w.heap.size,0,none⟩),?_,uA hcs,h,fun y _ h2 h3 => rv_ptr h2 h3⟩
 simp [execOp,ho,Instr.alloc,zeroValue,typeInfo,hj,hz,newVar,newRow]
theorem s_load {t:TypeId} {x:Operand} {y:AO} {agg:Bool} {size:Nat} (hs:SRel base st a w β) (ho:o.op=.load t x) (ht:tsize P t=some (agg,size)) (hc:yY x=some y) (h:xop P st (.load agg size y) K):o.wp P a w (Post base st o a w β K) Q:=by
 have fin:∀ (ad:Addr) (cs:List C) (vs:List Value),a.eval x=.pointer (some ad)→RL (cx base w β st.H) cs vs→(∀ j v,vs[j]?=some v→w.cell? (ad.add j)=some v)→(agg=true→cs.length=size∧K (.agg cs) st.H)→(agg=false→∃ c,cs=[c]∧K (.c c) st.H)→o.wp P a w (Post base st o a w β K) Q:=by
  intro ad cs vs he hr hcell h1 h2
  cases hagg:agg with
  | true =>
   obtain ⟨hlen,hK⟩:=h1 hagg
   obtain ⟨v,hv,hv1,_⟩:=qC (w:=w) ht ad vs (by rw [hr.len,hlen,hagg]; simp) hcell
   refine yT hs (v:=v) (u:=.agg cs) ?_ (by rw [hv1 hagg]; exact .agg hr) hK
   simp [execOp,ho,Instr.loadAt,he,Instr.sureAddr,hv]
  | false =>
   obtain ⟨c,rfl,hK⟩:=h2 hagg
   obtain ⟨v,hv,_,hv2⟩:=qC (w:=w) ht ad vs (by rw [hr.len,hagg]; simp) hcell
   obtain rfl:=hv2 hagg
   refine yT hs (v:=v) (u:=.c c) ?_ (by cases hr with | cons h _ => exact .c h) hK
   simp [execOp,ho,Instr.loadAt,he,Instr.sureAddr,hv]
 dsimp only [xop,qval,qLen,qNil,qIad,qSlc,qIdx,lval,yW,yI,sval,xA,aval,appX] at h
 split at h
 ·rename_i b off hu
  have hptr:=(yH hs hc hu).c_inv
  split at h
  ·rename_i bx hb
   obtain ⟨vs,rest,fr,g1,_,g3⟩:=hs.hp.row hb
   have hev:a.eval x=.pointer (some ⟨β b,off,none⟩):=hptr.ptr_inv.1
   have hcell:∀ (n:Nat) (j:Nat) (v:Value),((vs.drop off).take n)[j]?=some v→w.cell? ((⟨β b,off,none⟩:Addr).add j)=some v:=by
    intro n j v hj
    rw [nP g1]
    rw [List.getElem?_take] at hj
    split at hj
    ·rw [List.getElem?_drop] at hj
     rw [List.getElem?_append_left (lt_of_getElem? hj)]
     exact hj
    ·cases hj
   split at h
   ·obtain ⟨hle,hK⟩:=wB h
    have hle':off+size≤bx.cells.length:=Nat.le_of_ble_eq_true hle
    exact fin _ _ _ hev ((g3.drop off).take size) (hcell size) (fun _ => ⟨by simp; omega,hK⟩) (fun h => by cases h)
   ·split at h
    ·rename_i c hcc
     obtain ⟨v,hv,hr⟩:=g3.get hcc
     refine fin _ [c] [v] hev (.cons hr .nil) (fun j u hj => ?_) (fun h => by cases h) (fun _ => ⟨c,rfl,h⟩)
     cases j with
     | zero =>
      simp at hj
      subst hj
      exact hcell 1 0 v (by simp [List.getElem?_take,hv])
     | succ j => simp at hj
    ·exact h.elim
  ·exact h.elim
 ·rename_i cs hu
  have hptr:=(yH hs hc hu).c_inv
  obtain ⟨ad,vs,hev,hcell,hr⟩:∃ (ad:Addr) (vs:List Value),a.eval x=.pointer (some ad)∧(∀ j v,vs[j]?=some v→w.cell? (ad.add j)=some v)∧RL (cx base w β st.H) cs vs:=by
   obtain ⟨ad,vs,h1,h2,h3⟩:=hptr.ipt_inv
   exact ⟨ad,vs,h1,fun j v hj => (h2 j v hj).2,h3⟩
  split at h
  ·obtain ⟨hle,hK⟩:=wB h
   have hle':size≤cs.length:=Nat.le_of_ble_eq_true hle
   refine fin ad _ _ hev (hr.take size) (fun j v hj => ?_) (fun _ => ⟨by simp; omega,hK⟩) (fun h => by cases h)
   rw [List.getElem?_take] at hj
   split at hj
   ·exact hcell j v hj
   ·cases hj
  ·split at h
   ·rename_i c hcc
    obtain ⟨v,hv,hrv⟩:=hr.get hcc
    refine fin ad [c] [v] hev (.cons hrv .nil) (fun j u hj => ?_) (fun h => by cases h) (fun _ => ⟨c,rfl,h⟩)
    cases j with
    | zero =>
     simp at hj
     subst hj
     exact hcell 0 v hv
    | succ j => simp at hj
   ·exact h.elim
 ·exact h.elim
theorem s_store {t:TypeId} {x y:Operand} {x' y':AO} {agg:Bool} {size:Nat} (hs:SRel base st a w β) (ho:o.op=.store t x y) (ht:tsize P t=some (agg,size)) (h1:yY x=some x') (h2:yY y=some y') (h:xop P st (.store agg size x' y') K):o.wp P a w (Post base st o a w β K) Q:=by
 dsimp only [xop,qval,qLen,qNil,qIad,qSlc,qIdx,lval,yW,yI,sval,xA,aval,appX] at h
 split at h
 ·rename_i b off v hx hy
  split at h
  ·rename_i bx hb
   split at h
   ·rename_i hrw
    split at h
    ·rename_i ds hds
     obtain ⟨hle,hK⟩:=wB h
     simp only [Bool.and_eq_true] at hle
     have hl1:ds.length=size:=Nat.eq_of_beq_eq_true hle.1
     have hl2:off+size≤bx.cells.length:=Nat.le_of_ble_eq_true hle.2
     have hptr:=(yH hs h1 hx).c_inv
     have hev:a.eval x=.pointer (some ⟨β b,off,none⟩):=hptr.ptr_inv.1
     obtain ⟨us,hus,hru⟩:=bI hds (yH hs h2 hy)
     obtain ⟨vs,rest,fr,g1,g2,g3⟩:=hs.hp.row hb
     have hfr:=g2 (by rw [hrw]; intro e; cases e)
     subst hfr
     obtain ⟨i,d,hi,hd,_,hsz⟩:=sE ht
     have hul:=hru.len
     have hvl:=g3.len
     have hst:=run_storeCells_at P (β b) off bx.elem us 0 (vs++rest).toArray w g1 (by simp; omega) (hru.one)
     have hs1:uM vs off us++rest=(vs++rest).take off++us++(vs++rest).drop (off+us.length):=by
      unfold uM
      rw [List.take_append_of_le_length (by omega),List.drop_append_of_le_length (by omega)]
      simp
     have hsl:(uM vs off us).length=vs.length:=by
      simp [uM]; omega
     have hset:=hs.hp.set hb hrw (cs:=splice bx.cells off ds) (us:=uM vs off us) (rest:=rest) (g3.splice hru off) (by rw [vP g1]; simp [hsl])
     have hxt:=ext_set hs.hp hb hrw (splice bx.cells off ds) (uM vs off us++rest) (by rw [vP g1]; simp [hsl])
     refine post_skip (w':=w.setRow (β b) (uM vs off us++rest).toArray) ?_ hset hxt (.tup .nil) hK
     simp only [Nat.add_zero] at hst
     simp [execOp,ho,Instr.storeAt,hev,Instr.sureAddr,storeVar,wO (w:=w) hi,hus,hst,hs1,hul,hl1,hsz]
    ·exact h.elim
   ·exact h.elim
  ·exact h.elim
 ·exact h.elim
end
end Go.Proofs.Ytokckcnfojjpjaa
