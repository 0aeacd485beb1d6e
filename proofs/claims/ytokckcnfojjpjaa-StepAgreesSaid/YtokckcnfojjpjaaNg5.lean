/-
  Parts of the proof: The abstract operations are sound, the third part: lengths, slices, make, append, calls, literals; and all of them in one theorem.
-/
import Derived.Test.YtokckcnfojjpjaaNg4
set_option linter.unusedVariables false
set_option linter.unusedSimpArgs false
namespace Go.Proofs.Ytokckcnfojjpjaa
open Go.RowKit
section
variable {P:Program} {base:Nat→Prop} {st:St} {o:Oper} {a:Act} {w:World} {β:Nat→Nat} {K:V→Hp→Prop} {Q:Exit→Act→World→Prop}
theorem args_one {c:Call} {x:Operand} (h:c.args.toList=[x]):c.args=#[x]:=by rw [←Array.toArray_toList (xs:=c.args),h]
theorem args_two {c:Call} {x y:Operand} (h:c.args.toList=[x,y]):c.args=#[x,y]:=by rw [←Array.toArray_toList (xs:=c.args),h]
theorem s_len {x:Operand} {x':AO} {t:TypeId} {d:TypeDesc} {c:Call} (hs:SRel base st a w β) (ho:o.op=.call c) (hc:c.callee=.builtin .len) (ha:c.args.toList=[x]) (hat:c.argTypes.toList=[t]) (hu:P.underlying t=some d) (hd:∃ e,d=.slice e) (h1:yY x=some x') (h:xop P st (.len x') K):o.wp P a w (Post base st o a w β K) Q:=by
 obtain ⟨e,rfl⟩:=hd
 have ha':=args_one ha
 have hat':c.argTypes=#[t]:=by rw [←Array.toArray_toList (xs:=c.argTypes),hat]
 have fin:∀ (ad:Option Addr) (n cap:Nat),a.eval x=.slice ad n cap→K (.c (.int .i64 n)) st.H→o.wp P a w (Post base st o a w β K) Q:=by
  intro ad n cap hz hK
  refine yT hs (v:=.int .i64 n) ?_ (.c (.int _ _)) hK
  simp [execOp,ho,resolve,hc,ha',hat',invoke,builtin,hz,Builtin.len_,run_underlying hu,goInt]
 dsimp only [xop,qval,qLen,qNil,qIad,qSlc,qIdx,lval,yW,yI,sval,xA,aval,appX] at h
 split at h
 ·rename_i b off n co es hx
  obtain ⟨off',cap,m',e1,_⟩:=((yH hs h1 hx).c_inv).sl_inv
  exact fin _ n _ e1 h
 ·rename_i n cs hx
  obtain ⟨ad,cap,vs,e1,_⟩:=((yH hs h1 hx).c_inv).imm_inv
  exact fin _ n _ e1 h
 ·rename_i hx
  have e1:=((yH hs h1 hx).c_inv).nilSl_inv
  exact fin _ 0 _ e1 h
 ·exact h.elim
theorem bnd_some {e:Env} {d:Int} {x:AO} {n:Int} (h:bnd e d (some x)=some n):∃ k,x.ev e=some (.c (.int k n)):=by
 dsimp only [bnd] at h
 split at h
 ·rename_i k m hm
  simp at h
  subst h
  exact ⟨k,hm⟩
 ·cases h
theorem nH (hs:SRel base st a w β) {lo hi:Option Operand} {lo' hi':Option AO} (h1:uW lo=some lo') (h2:uW hi=some hi') {isS:Bool} {n cap:Nat} (hn:n≤cap) {l h:Int} (hl:bnd st.env 0 lo'=some l) (hh:bnd st.env n hi'=some h) (c1:0≤l) (c2:l≤h) (c3:h≤n) :
  (Instr.sliceBounds isS n cap (lo.map a.eval) (hi.map a.eval) none).run P w=.ok (l.toNat,h.toNat,cap) w:=by
 have hH:∀ m (cd:BoundsCode) z k,a.eval z=.int k m→0≤m→∀ y:Nat,m≤y→(Instr.sliceBound (a.eval z) y cd).run P w=.ok m.toNat w:=by
  intro m cd z k hz h0 y hy
  simp [Instr.sliceBound,hz,asIntOf,h0,hy]
 cases lo with
 | none =>
  simp [uW] at h1
  subst h1
  simp [bnd] at hl
  subst hl
  cases hi with
  | none =>
   simp [uW] at h2
   subst h2
   simp [bnd] at hh
   subst hh
   simp [Instr.sliceBounds]
  | some z =>
   simp only [uW,Option.map_eq_some_iff] at h2
   obtain ⟨z',hz,rfl⟩:=h2
   obtain ⟨k,hk⟩:=bnd_some hh
   have e:=((yH hs hz hk).c_inv).int_inv
   simp [Instr.sliceBounds,hH h _ z k e (by omega) cap (by omega)]
 | some y =>
  simp only [uW,Option.map_eq_some_iff] at h1
  obtain ⟨y',hy,rfl⟩:=h1
  obtain ⟨k1,hk1⟩:=bnd_some hl
  have e1:=((yH hs hy hk1).c_inv).int_inv
  cases hi with
  | none =>
   simp [uW] at h2
   subst h2
   simp [bnd] at hh
   subst hh
   simp [Instr.sliceBounds,hH l _ y k1 e1 (by omega) n (by omega)]
  | some z =>
   simp only [uW,Option.map_eq_some_iff] at h2
   obtain ⟨z',hz,rfl⟩:=h2
   obtain ⟨k,hk⟩:=bnd_some hh
   have e:=((yH hs hz hk).c_inv).int_inv
   have h3:(l:Int)≤(h.toNat:Int):=by omega
   simp [Instr.sliceBounds,hH h _ z k e (by omega) cap (by omega),hH l _ y k1 e1 (by omega) h.toNat h3]
theorem s_slc {t e:TypeId} {agg:Bool} {es:Nat} {x:Operand} {lo hi mx:Option Operand} {x':AO} {lo' hi' mx':Option AO} (hs:SRel base st a w β) (ho:o.op=.slice t x lo hi mx) (hu:P.underlying t=some (.slice e)) (ht:tsize P e=some (agg,es)) (h1:yY x=some x') (h2:uW lo=some lo') (h3:uW hi=some hi') (h4:uW mx=some mx') (h:xop P st (.slc es x' lo' hi' mx') K):o.wp P a w (Post base st o a w β K) Q:=by
 obtain ⟨ie,d,hi0,hd,_,hsz⟩:=sE ht
 dsimp only [xop,qval,qLen,qNil,qIad,qSlc,qIdx,lval,yW,yI,sval,xA,aval,appX] at h
 have hmx:mx'=none→mx=none:=by
  intro hm
  subst hm
  cases mx with
  | none => rfl
  | some z => simp [uW] at h4
 split at h
 ·rename_i b off n co es' hx
  have hm:=hmx rfl
  subst hm
  obtain ⟨off',cap,m',e1,hb,hn,hco,ho',hm',hfit⟩:=((yH hs h1 hx).c_inv).sl_inv
  split at h
  ·rename_i l q hl hq
   obtain ⟨hc,hK⟩:=wB h
   simp only [Bool.and_eq_true,decide_eq_true_eq,yE] at hc
   obtain ⟨⟨⟨c1,c2⟩,c3⟩,c4⟩:=hc
   have c4:es=es':=Nat.eq_of_beq_eq_true c4
   subst c4
   have hbd:=nH (P:=P) (w:=w) hs h2 h3 (isS:=true) hn hl hq c1 c2 c3
   refine yT hs (v:=.slice (some (if cap=l.toNat then ⟨β b,off',none⟩ else (⟨β b,off',none⟩:Addr).add (l.toNat*es))) (q.toNat - l.toNat) (cap - l.toNat)) ?_ ?_ hK
   ·simp only [execOp,ho,Instr.sliceAt,run_underlying hu,Sem.run_bind,Result.andThen_ok,Instr.slice,e1,Option.map_none,cx,hbd,wO (w:=w) hi0,hsz,Sem.run_pure]
    split <;> simp_all
   ·rw [add_lit]
    by_cases hcl:cap=l.toNat
    ·rw [if_pos hcl]
     exact .c (.sl (off':=off') hb (by omega) (fun k hk => by
      cases co with
      | none => cases hk
      | some c0 => simp at hk; have:=hco c0 rfl; omega) (fun h0 => absurd (by omega) h0) hm' (by have:(cap - l.toNat)*es=0:=(by rw [hcl]; simp); omega))
    ·rw [if_neg hcl]
     have hoff:off'=off:=ho' (by omega)
     subst hoff
     refine .c (.sl (off':=off'+l.toNat*es) hb (by omega) (fun k hk => ?_) (fun _ => rfl) hm' ?_)
     ·cases co with
      | none => cases hk
      | some c0 => simp at hk; have:=hco c0 rfl; omega
     ·have:(cap - l.toNat)*es+l.toNat*es=cap*es:=by rw [←Nat.add_mul]; congr 1; omega
      omega
  ·exact h.elim
 ·rename_i n cs hx
  have hm:=hmx rfl
  subst hm
  obtain ⟨ad,cap,vs,e1,hn,hcell,hrl⟩:=((yH hs h1 hx).c_inv).imm_inv
  split at h
  ·rename_i l q hl hq
   obtain ⟨hc,hK⟩:=wB h
   simp only [Bool.and_eq_true,decide_eq_true_eq,yE] at hc
   obtain ⟨⟨c1,c2⟩,c3⟩:=hc
   have hbd:=nH (P:=P) (w:=w) hs h2 h3 (isS:=true) hn hl hq c1 c2 c3
   refine yT hs (v:=.slice (some (if cap=l.toNat then ad else ad.add (l.toNat*es))) (q.toNat - l.toNat) (cap - l.toNat)) ?_ ?_ hK
   ·simp only [execOp,ho,Instr.sliceAt,run_underlying hu,Sem.run_bind,Result.andThen_ok,Instr.slice,e1,Option.map_none,hbd,wO (w:=w) hi0,hsz,Sem.run_pure]
    split <;> simp_all
   ·refine .c (.imm (vs:=(vs.drop (l.toNat*es)).take ((q.toNat - l.toNat)*es)) (by omega) (fun j v hj => ?_) ((hrl.drop _).take _))
    rw [List.getElem?_take] at hj
    split at hj
    ·rename_i hlt
     rw [List.getElem?_drop] at hj
     by_cases hcl:cap=l.toNat
     ·have:(q.toNat - l.toNat)*es=0:=by (have:q.toNat - l.toNat=0:=(by omega)); rw [this]; simp
      omega
     ·rw [if_neg hcl,uK,add_add]
      exact hcell _ v hj
    ·cases hj
  ·exact h.elim
 ·rename_i hx
  have hm:=hmx rfl
  subst hm
  have e1:=((yH hs h1 hx).c_inv).nilSl_inv
  split at h
  ·rename_i l q hl hq
   obtain ⟨hc,hK⟩:=wB h
   simp only [Bool.and_eq_true,decide_eq_true_eq,yE] at hc
   obtain ⟨rfl,rfl⟩:=hc
   have hbd:=nH (P:=P) (w:=w) hs h2 h3 (isS:=true) (n:=0) (cap:=0) (Nat.le_refl _) hl (by simpa using hq) (Int.le_refl _) (Int.le_refl _) (by simp)
   refine yT hs (v:=.slice none 0 0) ?_ (.c .nilSl) hK
   simp [execOp,ho,Instr.sliceAt,run_underlying hu,Instr.slice,e1,hbd,wO (w:=w) hi0]
  ·exact h.elim
 ·exact h.elim
theorem flat_get (l:List Value) (n j:Nat) (h:j<n*l.length):((List.replicate n l).flatten)[j]?=l[j % l.length]?:=by
 induction n generalizing j with
 | zero => omega
 | succ n ih =>
  rw [List.replicate_succ,List.flatten_cons]
  rcases Nat.lt_or_ge j l.length with hlt | hge
  ·rw [List.getElem?_append_left hlt,Nat.mod_eq_of_lt hlt]
  ·rw [List.getElem?_append_right hge,ih _ (by rw [Nat.add_mul] at h; omega),Nat.mod_eq_sub_mod hge]
theorem madeCells_flat (z:Array Value) (n:Nat):(madeCells z (n*z.size)).toList=(List.replicate n z.toList).flatten:=by
 apply List.ext_getElem?
 intro j
 by_cases hj:j<n*z.size
 ·rw [flat_get z.toList n j (by simpa using hj)]
  have hz:0<z.size:=by
   rcases Nat.eq_zero_or_pos z.size with h0 | h0
   ·rw [h0] at hj; simp at hj
   ·exact h0
  have hm:j % z.size<z.size:=Nat.mod_lt _ hz
  simp [madeCells,hj,hm]
 ·have h1:(madeCells z (n*z.size)).toList.length≤j:=by simp [madeCells]; omega
  have h2:(List.replicate n z.toList).flatten.length≤j:=by simp; omega
  rw [List.getElem?_eq_none h1,List.getElem?_eq_none h2]
theorem RL.flat {x:Cx} {cs:List C} {vs:List Value} (h:RL x cs vs):∀ n,RL x (List.replicate n cs).flatten (List.replicate n vs).flatten
 | 0 => .nil
 | n+1 => by
  rw [List.replicate_succ,List.replicate_succ,List.flatten_cons,List.flatten_cons]
  exact h.append (h.flat n)
theorem rv_sl {y:Cx} {i g n es m:Nat} {co:Option Nat} {cap:Nat} (h1:y.β i=g) (h2:y.nb i) (hn:n≤cap) (hco:∀ k,co=some k→k=cap) (hm:uG y.w g=some m) (hfit:cap*es≤m):RV y (.c (.sl i 0 n co es)) (.slice (some ⟨g,0,none⟩) n cap):=by
 subst h1
 exact .c (.sl h2 hn hco (fun _ => rfl) hm (by omega))
theorem s_mkSl {i':Nat} {K':V→Box→Prop} {t e:TypeId} {i:TI} {l c:Operand} {l' c':AO} (hs:SRel base st a w β) (ho:o.op=.makeSlice t l c) (hu:P.underlying t=some (.slice e)) (ht:tinfo P e=some i) (h1:yY l=some l') (h2:yY c=some c') (h:aval st.env i' (.mkSl e i.size i.bytes i.zero l' c') K'):ARun P base st o a w β i' K':=by
 obtain ⟨j,d,z,hj,hd,hz,_,hsz,hby,hcs,hlen⟩:=jB ht
 dsimp only [aval] at h
 split at h
 ·rename_i m n hl hc
  have e1:=((yH hs h1 hl).c_inv).int_inv
  have e2:=((yH hs h2 hc).c_inv).int_inv
  obtain ⟨hk,hK⟩:=wB h
  simp only [Bool.and_eq_true,decide_eq_true_eq,yE] at hk
  obtain ⟨k1,k2,k3,k4⟩:=hk
  have hr:=run_make (P:=P) w t e j z hu hj hz .i64 .i64 m n k1 k2 (by rw [hby,Int.mul_comm]; exact k3) (by omega)
  have hzl:RL (cx base w β st.H) i.zero z.cells.toList:=uA hcs
  have hzs:z.cells.size=j.size:=by rw [←Array.length_toList,hzl.len,hlen,hsz]
  have hmc:=madeCells_flat z.cells n.toNat
  rw [hzs] at hmc
  have hcells:madeCells z.cells (n.toNat*j.size)=(List.replicate n.toNat z.cells.toList).flatten.toArray:=by
   rw [←hmc]
  rw [hcells] at hr
  refine ⟨_,_,e,_,.slice (some ⟨w.heap.size,0,none⟩) m.toNat n.toNat,?_,hzl.flat n.toNat,hK,fun y hy hb hn => rv_sl (m:=n.toNat*i.size) hb hn (by omega) (fun k hk => by cases hk; rfl) ?_ (Nat.le_refl _)⟩
  ·simp only [execOp,ho,e1,e2,Sem.run_bind,hr,Result.andThen_ok,Sem.run_pure]
  ·rw [hy,vP (heap_alloc_new w _)]
   simp [hzs,hsz]
 ·exact h.elim
theorem s_mx {x y:Operand} {x' y':AO} {c:Call} (hs:SRel base st a w β) (ho:o.op=.call c) (hc:c.callee=.builtin .max) (ha:c.args.toList=[x,y]) (h1:yY x=some x') (h2:yY y=some y') (h:xop P st (.mx x' y') K):o.wp P a w (Post base st o a w β K) Q:=by
 dsimp only [xop,qval,qLen,qNil,qIad,qSlc,qIdx,lval,yW,yI,sval,xA,aval,appX] at h
 split at h
 ·rename_i k m k' n hx hy
  obtain ⟨e1,e2⟩:=s_int2 hs h1 h2 hx hy
  refine yT hs (v:=.int k (if n > m then n else m)) ?_ (.c (.int _ _)) h
  simp [execOp,ho,resolve,hc,args_two ha,invoke,builtin,e1,e2,run_max_int2]
 ·exact h.elim
theorem s_mx3 {x y z:Operand} {x' y' z':AO} {c:Call} (hs:SRel base st a w β) (ho:o.op=.call c) (hc:c.callee=.builtin .max) (ha:c.args.toList=[x,y,z]) (h1:yY x=some x') (h2:yY y=some y') (h3:yY z=some z') (h:xop P st (.mx3 x' y' z') K):o.wp P a w (Post base st o a w β K) Q:=by
 dsimp only [xop,qval,qLen,qNil,qIad,qSlc,qIdx,lval,yW,yI,sval,xA,aval,appX] at h
 split at h
 ·rename_i k m k' n k'' l hx hy hz
  obtain ⟨e1,e2⟩:=s_int2 hs h1 h2 hx hy
  have e3:=((yH hs h3 hz).c_inv).int_inv
  have ha':c.args=#[x,y,z]:=by rw [←ha]
  refine yT hs (v:=.int k (mxI (mxI m n) l)) ?_ (.c (.int _ _)) h
  simp [execOp,ho,resolve,hc,ha',invoke,builtin,e1,e2,e3,Builtin.max_,Builtin.max2,mxI]
 ·exact h.elim
theorem s_mn {x y:Operand} {x' y':AO} {c:Call} (hs:SRel base st a w β) (ho:o.op=.call c) (hc:c.callee=.builtin .min) (ha:c.args.toList=[x,y]) (h1:yY x=some x') (h2:yY y=some y') (h:xop P st (.mn x' y') K):o.wp P a w (Post base st o a w β K) Q:=by
 dsimp only [xop,qval,qLen,qNil,qIad,qSlc,qIdx,lval,yW,yI,sval,xA,aval,appX] at h
 split at h
 ·rename_i k m k' n hx hy
  obtain ⟨e1,e2⟩:=s_int2 hs h1 h2 hx hy
  refine yT hs (v:=.int k (if n<m then n else m)) ?_ (.c (.int _ _)) h
  simp [execOp,ho,resolve,hc,args_two ha,invoke,builtin,e1,e2,run_min_int2]
 ·exact h.elim
theorem evs_sound (hs:SRel base st a w β):∀ {xs:List Operand} {ys:List AO} {us:List V},jI xs=some ys→evs st.env ys=some us→RVL (cx base w β st.H) us (xs.map a.eval)
 | [],ys,us,h1,h2 => by
  simp [jI] at h1
  subst h1
  simp [evs] at h2
  subst h2
  exact .nil
 | x :: r,ys,us,h1,h2 => by
  unfold jI at h1
  split at h1
  ·rename_i y hy
   split at h1
   ·rename_i zs hz
    simp at h1
    subst h1
    unfold evs at h2
    split at h2
    ·rename_i v hv
     split at h2
     ·rename_i vs hvs
      simp at h2
      subst h2
      exact .cons (yH hs hy hv) (evs_sound hs hz hvs)
     ·cases h2
    ·cases h2
   ·cases h1
  ·cases h1
theorem evc_sound (hs:SRel base st a w β):∀ {xs:List Operand} {ys:List AO} {us:List C},jI xs=some ys→evc st.env ys=some us→RL (cx base w β st.H) us (xs.map a.eval)
 | [],ys,us,h1,h2 => by
  simp [jI] at h1
  subst h1
  simp [evc] at h2
  subst h2
  exact .nil
 | x :: r,ys,us,h1,h2 => by
  unfold jI at h1
  split at h1
  ·rename_i y hy
   split at h1
   ·rename_i zs hz
    simp at h1
    subst h1
    unfold evc at h2
    split at h2
    ·rename_i v hv
     split at h2
     ·rename_i vs hvs
      simp at h2
      subst h2
      exact .cons (yH hs hy hv).c_inv (evc_sound hs hz hvs)
     ·cases h2
    ·cases h2
   ·cases h1
  ·cases h1
theorem RVL.append {x:Cx}:∀ {cs ds:List V} {vs us:List Value},RVL x cs vs→RVL x ds us→RVL x (cs++ds) (vs++us)
 | _,_,_,_,.nil,h => h
 | _,_,_,_,.cons h t,k => .cons h (t.append k)
theorem RL.toV {x:Cx}:∀ {cs:List C} {vs:List Value},RL x cs vs→RVL x (cs.map .c) vs
 | _,_,.nil => .nil
 | _,_,.cons h t => .cons (.c h) t.toV
theorem s_fnc {f:FuncId} {first caps:Array Operand} {ys:List AO} (hs:SRel base st a w β) (ho:o.op=.makeFunc (.func f) first caps) (hf:first.size=0) (h1:jI caps.toList=some ys) (h:xop P st (.fnc f ys) K):o.wp P a w (Post base st o a w β K) Q:=by
 dsimp only [xop,qval,qLen,qNil,qIad,qSlc,qIdx,lval,yW,yI,sval,xA,aval,appX] at h
 split at h
 ·rename_i cs hcs
  have hr:=evc_sound hs h1 hcs
  have hfirst:first=#[]:=by simpa using hf
  refine yT hs (v:=.func (.func f) #[] (caps.toList.map a.eval).toArray) ?_ (.c (.fn hr)) h
  simp [execOp,ho,Instr.makeFunc,hfirst]
  apply Array.ext'
  simp
 ·exact h.elim
theorem s_chkNil {x:Operand} {x':AO} (hs:SRel base st a w β) (ho:o.op=.nilCheck x) (h1:yY x=some x') (h:xop P st (.chkNil x') K):o.wp P a w (Post base st o a w β K) Q:=by
 dsimp only [xop,qval,qLen,qNil,qIad,qSlc,qIdx,lval,yW,yI,sval,xA,aval,appX] at h
 split at h
 ·rename_i b off hx
  have hr:=yH hs h1 hx
  obtain ⟨e1,_⟩:=hr.c_inv.ptr_inv
  rw [e1] at hr
  exact yT hs (by simp [execOp,ho,e1]) hr h
 ·rename_i cs hx
  have hr:=yH hs h1 hx
  obtain ⟨ad,vs,e1,_⟩:=hr.c_inv.ipt_inv
  rw [e1] at hr
  exact yT hs (by simp [execOp,ho,e1]) hr h
 ·rename_i f cs hx
  have hr:=yH hs h1 hx
  obtain ⟨vs,e1,_⟩:=hr.c_inv.fn_inv
  rw [e1] at hr
  exact yT hs (by simp [execOp,ho,e1]) hr h
 ·exact h.elim
theorem s_iface {t:TypeId} {fs:Array Field} {x:Operand} {x':AO} (hs:SRel base st a w β) (ho:o.op=.makeInterface t x) (hu:P.underlying t=some (.struct fs)) (h1:yY x=some x') (h:xop P st (.ifaceA t x') K):o.wp P a w (Post base st o a w β K) Q:=by
 dsimp only [xop,qval,qLen,qNil,qIad,qSlc,qIdx,lval,yW,yI,sval,xA,aval,appX] at h
 split at h
 ·rename_i cs hx
  obtain ⟨vs,e1,hr⟩:=(yH hs h1 hx).agg_inv
  refine yT hs (v:=.iface t (.agg vs.toArray)) ?_ (.c (.ifaceA hr)) h
  simp [execOp,ho,e1,Instr.makeInterface,run_underlying hu]
 ·exact h.elim
theorem s_asrt {t q:TypeId} {fs:Array Field} {i:TypeInfo} {zs:Array Value} {cs:List C} {x:Operand} {x':AO} (hs:SRel base st a w β) (ho:o.op=.typeAssert x q t true) (hu:P.underlying t=some (.struct fs)) (hi:P.info? t=some i) (hz:i.zero=some (.agg zs)) (hc:gB zs.toList=some cs) (h1:yY x=some x') (h:xop P st (.asrt t cs x') K):o.wp P a w (Post base st o a w β K) Q:=by
 have hzr:RVL (cx base w β st.H) [.agg cs,.c (.bool false)] [.agg zs,.bool false]:=by
  have h0:RL (cx base w β st.H) cs zs.toList:=uA hc
  have h2:=RV.agg h0
  simp only [Array.toArray_toList] at h2
  exact .cons h2 (.cons (.c (.bool _)) .nil)
 dsimp only [xop,qval,qLen,qNil,qIad,qSlc,qIdx,lval,yW,yI,sval,xA,aval,appX] at h
 split at h
 ·rename_i u ds hx
  have hr:=(yH hs h1 hx).c_inv
  obtain ⟨vs,e1,hrl⟩:∃ vs:List Value,a.eval x=.iface u (.agg vs.toArray)∧RL (cx base w β st.H) ds vs:=by
   generalize a.eval x=y at hr
   cases hr with
   | ifaceA hr => exact ⟨_,rfl,hr⟩
  have hK:=h
  cases he:Nat.beq u t
  case true =>
   rw [he,cond_true] at hK
   have he:u=t:=Nat.eq_of_beq_eq_true he
   subst he
   refine yT hs (v:=.tuple #[.agg vs.toArray,.bool true]) ?_ (.tup (vs:=[.agg vs.toArray,.bool true]) (.cons (.agg hrl) (.cons (.c (.bool _)) .nil))) hK
   simp [execOp,ho,e1,Instr.typeAssert,run_underlying hu]
  case false =>
   rw [he,cond_false] at hK
   have he:u≠t:=fun e => by subst e; simp at he
   refine yT hs (v:=.tuple #[.agg zs,.bool false]) ?_ (.tup (vs:=[.agg zs,.bool false]) hzr) hK
   simp [execOp,ho,e1,Instr.typeAssert,run_underlying hu,he,zeroValue,typeInfo,hi,hz]
 ·rename_i hx
  have hr:=(yH hs h1 hx).c_inv
  have e1:a.eval x=.nilIface:=by
   generalize a.eval x=y at hr
   cases hr
   rfl
  refine yT hs (v:=.tuple #[.agg zs,.bool false]) ?_ (.tup (vs:=[.agg zs,.bool false]) hzr) h
  simp [execOp,ho,e1,Instr.typeAssert,run_underlying hu,zeroValue,typeInfo,hi,hz]
 ·exact h.elim
theorem s_slcX {t e:TypeId} {agg:Bool} {len es:Nat} {x:Operand} {lo hi:Option Operand} {x':AO} {lo' hi':Option AO} (hs:SRel base st a w β) (ho:o.op=.slice t x lo hi none) (hu:P.underlying t=some (.array len e)) (ht:tsize P e=some (agg,es)) (h1:yY x=some x') (h2:uW lo=some lo') (h3:uW hi=some hi') (h:xop P st (.slcA len es x' lo' hi') K):o.wp P a w (Post base st o a w β K) Q:=by
 obtain ⟨ie,d,hi0,hd,_,hsz⟩:=sE ht
 dsimp only [xop,slcX] at h
 split at h
 ·rename_i b off hx
  obtain ⟨e1,hb⟩:=((yH hs h1 hx).c_inv).ptr_inv
  split at h
  ·rename_i bx l q hbx hl hq
   obtain ⟨hc,hK⟩:=wB h
   simp only [Bool.and_eq_true,decide_eq_true_eq] at hc
   obtain ⟨⟨⟨c1,c2⟩,c3⟩,c4⟩:=hc
   have c4:off+len*es≤bx.cells.length:=Nat.le_of_ble_eq_true c4
   obtain ⟨vs,rest,fr,g1,g2,g3⟩:=hs.hp.row hbx
   have hvl:=g3.len
   have hbd:=nH (P:=P) (w:=w) hs h2 h3 (isS:=false) (Nat.le_refl len) hl hq c1 c2 c3
   refine yT hs (v:=.slice (some (if len=l.toNat then ⟨β b,off,none⟩ else (⟨β b,off,none⟩:Addr).add (l.toNat*es))) (q.toNat - l.toNat) (len - l.toNat)) ?_ ?_ hK
   ·simp only [execOp,ho,Instr.sliceAt,run_underlying hu,Sem.run_bind,Result.andThen_ok,Instr.sureAddr,e1,Option.map_none,cx,hbd,wO (w:=w) hi0,hsz,Sem.run_pure]
   ·have hlen:(vs++rest).length=vs.length+rest.length:=List.length_append
    have hmul:(len - l.toNat)*es+l.toNat*es=len*es:=by rw [←Nat.add_mul]; congr 1; omega
    have hrow:uG w (β b)=some (vs++rest).length:=by rw [vP g1]; simp
    rw [add_lit]
    by_cases hcl:len=l.toNat
    ·rw [if_pos hcl]
     exact .c (.sl (off':=off) hb (by omega) (fun k hk => by cases hk; rfl) (fun h0 => absurd (by omega) h0) hrow (by rw [←hcl]; simp; omega))
    ·rw [if_neg hcl]
     exact .c (.sl (off':=off+l.toNat*es) hb (by omega) (fun k hk => by cases hk; rfl) (fun _ => rfl) hrow (by omega))
  ·exact h.elim
 ·exact h.elim
end
end Go.Proofs.Ytokckcnfojjpjaa
