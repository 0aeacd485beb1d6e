/-
  Parts of the proof: The abstract operations are sound, the fourth part: append, calls, literals; and all of them in one theorem.
-/
import Derived.Test.YtokckcnfojjpjaaNg5
import Derived.MapKept
set_option linter.unusedVariables false
set_option linter.unusedSimpArgs false
namespace Go.Proofs.Ytokckcnfojjpjaa
open Go.RowKit
section
variable {P:Program} {base:Nat→Prop} {st:St} {o:Oper} {a:Act} {w:World} {β:Nat→Nat} {K:V→Hp→Prop} {Q:Exit→Act→World→Prop}
theorem s_call {c:Call} {f:Operand} {g:AO} {ys:List AO} (hs:SRel base st a w β) (ho:o.op=.call c) (hc:c.callee=.value f) (h1:yY f=some g) (h2:jI c.args.toList=some ys) (h:xop P st (.call g ys) K):o.wp P a w (Post base st o a w β K) Q:=by
 dsimp only [xop,qval,qLen,qNil,qIad,qSlc,qIdx,lval,yW,yI,sval,xA,aval,appX] at h
 split at h
 ·rename_i fid caps us hf hus
  obtain ⟨vs,e1,hr⟩:=(yH hs h1 hf).c_inv.fn_inv
  have hargs:=evs_sound hs h2 hus
  obtain ⟨⟨fn,hfn,hname,hbody⟩,hcall⟩:=h
  have hall:=hargs.append hr.toV
  have hC:=hcall base w β _ hs.hp hall
  have hrun:(execOp a.eval o).run P w=.ok (.enter fid (c.args.toList.map a.eval++vs).toArray) w:=by
   have ha:(c.args.toList.map a.eval++vs).toArray=c.args.map a.eval++vs.toArray:=by
    apply Array.ext'
    simp
   rw [ha]
   have hn':¬ fn.name = "runtime.NumGoroutine":=by simpa using hname
   have hb':¬ fn.body=none:=by intro h0; rw [h0] at hbody; simp at hbody
   simp [execOp,ho,resolve,hc,e1,Deferred.ofValue,invoke,callFunc,hfn,hn',hb']
  unfold Oper.wp
  rw [hrun]
  refine hC.mono ?_
  rintro e w' ⟨v,u,β',H',rfl,hK,hp,hx,hv⟩
  exact ⟨v,u,β',H',rfl,hK,hp,hx,hv⟩
 ·exact h.elim
theorem splice_fold (vs:List Value):∀ (us:List Value) (off k:Nat) (cs:Array Value),off+k+us.length≤cs.size →
  ((us.zipIdx k).foldl (fun (acc:Array Value) (p:Value × Nat) => acc.setIfInBounds (off+p.2) p.1) cs).toList=uM cs.toList (off+k) us
 | [],off,k,cs,_ => by simp [uM]
 | u :: r,off,k,cs,h => by
  have ih:=splice_fold vs r off (k+1) (cs.setIfInBounds (off+k) u) (by simp at h ⊢; omega)
  simp only [List.zipIdx_cons,List.foldl_cons]
  rw [ih]
  have hlt:off+k<cs.toList.length:=by simp at h ⊢; omega
  simp only [uM,Array.toList_setIfInBounds,List.length_cons]
  have e:=list_seg_step cs.toList (off+k) u r (by simp at h ⊢; omega)
  simpa [Nat.add_assoc] using e
theorem nN (hs:SRel base st a w β) {place:Nat→Option (Nat × Bool × Nat)} {pl:Nat→Option (Nat × Nat)} (hpl:∀ i off agg size,place i=some (off,agg,size)→pl i=some (off,size)) :
  ∀ {ps:List (Nat × Operand)} {qs:List (Nat × Nat × Bool × AO)} {cs ds:List C} {vs:List Value},sH place ps=some qs→pD st.env cs qs=some ds→RL (cx base w β st.H) cs vs →
   ∃ us:List Value,Instr.fill pl vs.toArray (ps.map fun (i,x) => (i,a.eval x))=some us.toArray∧RL (cx base w β st.H) ds us
 | [],qs,cs,ds,vs,h1,h2,hr => by
  simp [sH] at h1
  subst h1
  simp [pD] at h2
  subst h2
  exact ⟨vs,by simp [Instr.fill],hr⟩
 | (i,x) :: r,qs,cs,ds,vs,h1,h2,hr => by
  unfold sH at h1
  split at h1
  ·rename_i off agg size y ys hp hy hys
   simp at h1
   subst h1
   unfold pD at h2
   split at h2
   ·rename_i v hv
    split at h2
    ·rename_i es hes
     obtain ⟨us,hus,hru⟩:=bI hes (yH hs hy hv)
     cases hc:(Nat.beq es.length size && Nat.ble (off+size) cs.length) with
     | false => simp [hc] at h2
     | true =>
      simp only [hc,cond_true] at h2
      simp only [Bool.and_eq_true] at hc
      have c1:es.length=size:=Nat.eq_of_beq_eq_true hc.1
      have c2:off+size≤cs.length:=Nat.le_of_ble_eq_true hc.2
      have hul:=hru.len
      have hvl:=hr.len
      obtain ⟨ws,hw,hrw⟩:=nN hs hpl hys h2 (hr.splice hru off)
      refine ⟨ws,?_,hrw⟩
      have hfold:(a.eval x).cells.zipIdx.foldl (fun (cs:Array Value) (p:Value × Nat) => cs.setIfInBounds (off+p.2) p.1) vs.toArray=(uM vs off us).toArray:=by
       apply Array.ext'
       have:=splice_fold vs us off 0 vs.toArray (by simp; omega)
       rw [hus]
       simpa using this
      have e1:¬ ((a.eval x).cells.size≠size∨off+(a.eval x).cells.size > vs.toArray.size):=by
       rw [hus]
       simp
       omega
      simp only [List.map_cons,Instr.fill,hpl i off agg size hp]
      rw [if_neg (by simpa using e1)]
      rw [←hw,←hfold]
    ·cases h2
   ·cases h2
  ·cases h1
theorem run_mapM_places:∀ {fs:List Field} {ps:List (Nat × Bool × Nat)},pO P fs=some ps→(fs.mapM (fun f => do pure (f.offset,←sizeOf f.type):Field→Sem (Nat × Nat))).run P w=.ok (ps.map fun p => (p.1,p.2.2)) w
 | [],ps,h => by
  simp [pO] at h
  subst h
  simp
 | f :: r,ps,h => by
  unfold pO at h
  split at h
  ·rename_i agg size qs ht hq
   simp at h
   subst h
   obtain ⟨i,d,hi,hd,_,hsz⟩:=sE ht
   have ih:=run_mapM_places hq
   simp only [List.mapM_cons,Sem.run_bind,wO (w:=w) hi,Result.andThen_ok,Sem.run_pure,ih,List.map_cons,hsz]
  ·cases h
theorem s_build_struct {t:TypeId} {i:TI} {fs:Array Field} {pl:List (Nat × Bool × Nat)} {ps:Array (Nat × Operand)} {qs:List (Nat × Nat × Bool × AO)} (hs:SRel base st a w β) (ho:o.op=.build t ps) (ht:tinfo P t=some i) (hu:P.underlying t=some (.struct fs)) (hpl:pO P fs.toList=some pl) (hq:sH (pl[·]?) ps.toList=some qs) (h:xop P st (.build i.zero qs) K):o.wp P a w (Post base st o a w β K) Q:=by
 obtain ⟨j,d,z,hj,hd,hz,_,hsz,hby,hcs,hlen⟩:=jB ht
 dsimp only [xop,qval,qLen,qNil,qIad,qSlc,qIdx,lval,yW,yI,sval,xA,aval,appX] at h
 split at h
 ·rename_i ds hds
  have hzl:RL (cx base w β st.H) i.zero z.cells.toList:=uA hcs
  obtain ⟨us,hus,hr⟩:=nN hs (pl:=((pl.map fun p => (p.1,p.2.2)).toArray[·]?)) (fun i off agg size hp => by simp [hp]) hq hds hzl
  refine yT hs (v:=.agg us.toArray) ?_ (.agg hr) h
  have hm:(fs.mapM (fun f => do pure (f.offset,←sizeOf f.type):Field→Sem (Nat × Nat))).run P w=.ok (pl.map fun p => (p.1,p.2.2)).toArray w:=by
   rw [Array.mapM_eq_mapM_toList]
   simp only [Sem.run_map,run_mapM_places hpl,Result.andThen_ok]
  have hps:((ps.map fun (p:Nat × Operand) => (p.1,a.eval p.2)).toList)=ps.toList.map fun (p:Nat × Operand) => (p.1,a.eval p.2):=by simp
  simp only [Array.toArray_toList] at hus
  simp only [execOp,ho,Instr.build,Sem.run_bind,zeroValue,typeInfo,run_program,Result.andThen_ok,hj,Sem.run_pure,hz,run_underlying hu,hm,hps,hus]
 ·exact h.elim
theorem s_build_array {t e:TypeId} {i:TI} {n:Nat} {agg:Bool} {size:Nat} {ps:Array (Nat × Operand)} {qs:List (Nat × Nat × Bool × AO)} (hs:SRel base st a w β) (ho:o.op=.build t ps) (ht:tinfo P t=some i) (hu:P.underlying t=some (.array n e)) (he:tsize P e=some (agg,size)) (hq:sH (fun j => some (j*size,agg,size)) ps.toList=some qs) (h:xop P st (.build i.zero qs) K):o.wp P a w (Post base st o a w β K) Q:=by
 obtain ⟨j,d,z,hj,hd,hz,_,hsz,hby,hcs,hlen⟩:=jB ht
 obtain ⟨ie,de,hie,hde,_,hse⟩:=sE he
 dsimp only [xop,qval,qLen,qNil,qIad,qSlc,qIdx,lval,yW,yI,sval,xA,aval,appX] at h
 split at h
 ·rename_i ds hds
  have hzl:RL (cx base w β st.H) i.zero z.cells.toList:=uA hcs
  obtain ⟨us,hus,hr⟩:=nN hs (pl:=fun i => some (i*size,size)) (fun i off agg size hp => by simp at hp; obtain ⟨rfl,_,rfl⟩:=hp; rfl) hq hds hzl
  refine yT hs (v:=.agg us.toArray) ?_ (.agg hr) h
  have hps:((ps.map fun (p:Nat × Operand) => (p.1,a.eval p.2)).toList)=ps.toList.map fun (p:Nat × Operand) => (p.1,a.eval p.2):=by simp
  simp only [Array.toArray_toList] at hus
  simp only [execOp,ho,Instr.build,Sem.run_bind,zeroValue,typeInfo,run_program,Result.andThen_ok,hj,Sem.run_pure,hz,run_underlying hu,wO (w:=w) hie,hse,hps,hus]
 ·exact h.elim
theorem HRel.quiet {base:Nat→Prop} {w w':World} {β:Nat→Nat} {H:Hp} (h:HRel base w β H) (hq:Quiet w w'):HRel base w' β H∧Ext w β H w' β H:=by
 have hx:Ext w β H w' β H:=⟨fun _ _ => rfl,fun _ h => h,hq.size,fun k hk hn => ⟨hn,hq.keep k hk⟩,fun k hk => sZ (hq.keep k hk),hq.os,hq.tape,hq.output⟩
 refine ⟨⟨fun i bx hb => ?_,h.inj,h.nbase,fun k hk => Nat.lt_of_lt_of_le (h.bsize k hk) hq.size,fun i es hi => ?_,h.minj⟩,hx⟩
 ·obtain ⟨vs,rest,fr,h1,h2,h3⟩:=h.cells i bx hb
  exact ⟨vs,rest,fr,by rw [hq.keep _ (h.lt hb)]; exact h1,h2,h3.to (hx.to base)⟩
 ·obtain ⟨ents,clock,h1,h2,h3⟩:=h.maps i es hi
  exact ⟨ents,clock,by rw [hq.keep _ (h.mlt hi)]; exact h1,h2.to (hx.to base),h3⟩
theorem HRel.own_lt {base:Nat→Prop} {w:World} {β:Nat→Nat} {H:Hp} (h:HRel base w β H) {k:Nat} (hk:sU base β H k):k<w.heap.size:=by
 rcases hk with hb | ⟨i,bx,hi,_,rfl⟩ | ⟨i,es,hi,rfl⟩
 ·exact h.bsize k hb
 ·exact h.lt hi
 ·exact h.mlt hi
theorem arun_frz {n:Nat} {ds:List C} {us:List Value} {e:TypeId} (hs:SRel base st a w β) (hrun:(execOp a.eval o).run P w=.ok (.value (.slice (some ⟨w.heap.size,0,none⟩) n n)) (w.alloc (.cells us.toArray e (0,0)))) (hr:RL (cx base w β st.H) ds us) (hK:K (.c (.imm n ds)) st.H):o.wp P a w (Post base st o a w β K) Q:=by
 have hq:Quiet w (w.alloc (.cells us.toArray e (0,0))):=⟨by simp,fun k hk => heap_alloc_old _ _ hk,rfl,rfl,rfl⟩
 obtain ⟨hp,hx⟩:=hs.hp.quiet hq
 refine qH hrun hp hx (.c (.imm (Nat.le_refl _) (fun j v hj => ⟨fun ho => ?_,?_⟩) (hr.to (hx.to base)))) hK
 ·have:w.heap.size<w.heap.size:=hs.hp.own_lt (k:=w.heap.size) ho
  omega
 ·have h:=nP (w:=w.alloc (.cells us.toArray e (0,0))) (heap_alloc_new w _) 0 j
  rw [Nat.zero_add] at h
  exact h.trans hj
theorem run_buildSl {ds:List C} {t e:TypeId} {i:TI} {n:Nat} {ps:Array (Nat × Operand)} {qs:List (Nat × Nat × Bool × AO)} (hs:SRel base st a w β) (ho:o.op=.buildSlice t n ps) (hu:P.underlying t=some (.slice e)) (ht:tinfo P e=some i) (hn:n*i.size≤16777216∧0<i.size) (hq:sH (fun j => some (j*i.size,i.agg,i.size)) ps.toList=some qs) (hds:pD st.env (List.replicate n i.zero).flatten qs=some ds):∃ us:List Value,(execOp a.eval o).run P w=.ok (.value (.slice (some ⟨w.heap.size,0,none⟩) n n)) (w.alloc (.cells us.toArray e (0,0)))∧RL (cx base w β st.H) ds us∧ds.length=n*i.size:=by
 obtain ⟨j,d,z,hj,hd,hz,hagg,hsz,hby,hcs,hlen⟩:=jB ht
 have hzl:RL (cx base w β st.H) i.zero z.cells.toList:=uA hcs
 have hzs:z.cells.size=j.size:=by rw [←Array.length_toList,hzl.len,hlen,hsz]
 have hmc:=madeCells_flat z.cells n
 rw [hzs] at hmc
 obtain ⟨us,hus,hr⟩:=nN hs (pl:=fun k => some (k*i.size,i.size)) (fun k off agg size hp => by simp at hp; obtain ⟨rfl,_,rfl⟩:=hp; rfl) hq hds (hzl.flat n)
 have hps:((ps.map fun (p:Nat × Operand) => (p.1,a.eval p.2)).toList)=ps.toList.map fun (p:Nat × Operand) => (p.1,a.eval p.2):=by simp
 have hmc':madeCells z.cells (n*j.size)=(List.replicate n z.cells.toList).flatten.toArray:=by rw [←hmc]
 have hmk:(Array.range (n*j.size)).map (z.cells[· % z.cells.size]!)=(List.replicate n z.cells.toList).flatten.toArray:=hmc'
 have hdl:ds.length=n*i.size:=by
  have:∀ (qs:List (Nat × Nat × Bool × AO)) (cs ds:List C),pD st.env cs qs=some ds→ds.length=cs.length:=by
   intro qs
   induction qs with
   | nil => intro cs ds h; simp [pD] at h; rw [h]
   | cons q r ih =>
    intro cs ds h
    obtain ⟨off,size,agg,x⟩:=q
    unfold pD at h
    split at h
    ·split at h
     ·rename_i es _
      cases hc:(Nat.beq es.length size && Nat.ble (off+size) cs.length) with
      | false => simp [hc] at h
      | true =>
       simp only [hc,cond_true] at h
       simp only [Bool.and_eq_true] at hc
       have c1:es.length=size:=Nat.eq_of_beq_eq_true hc.1
       have c2:off+size≤cs.length:=Nat.le_of_ble_eq_true hc.2
       rw [ih _ _ h]
       simp [splice]
       omega
     ·cases h
    ·cases h
  rw [this _ _ _ hds]
  simp [hlen]
 refine ⟨us,?_,hr,hdl⟩
 ·have hne:¬ (n*j.size > 16777216):=by rw [hsz]; omega
  rw [←hsz] at hus
  rcases Nat.eq_zero_or_pos n with hn0 | hn0
  ·subst hn0
   simp only [Nat.zero_mul,List.replicate_zero,List.flatten_nil] at hus
   simp only [execOp,ho,Instr.buildSlice,Sem.run_bind,run_underlying hu,wO (w:=w) hj,Result.andThen_ok]
   rw [if_neg (by simp),if_pos (by simp)]
   simp only [Sem.run_bind,Sem.run_pure,Result.andThen_ok,hps,Nat.zero_mul,show Array.range 0=#[] from rfl,Array.map_empty,hus]
   simp [newRow]
  have h0:¬ (n*j.size=0):=by
   intro h
   rcases Nat.mul_eq_zero.1 h with h | h
   ·omega
   ·omega
  simp only [execOp,ho,Instr.buildSlice,Sem.run_bind,run_underlying hu,wO (w:=w) hj,Result.andThen_ok]
  rw [if_neg (by simpa using hne),if_neg h0]
  simp only [Sem.run_bind,Sem.run_pure,zeroValue,typeInfo,run_program,hj,hz,Result.andThen_ok,hmk,hps,hus]
  simp [newRow]
theorem s_buildSl {i':Nat} {K':V→Box→Prop} {t e:TypeId} {i:TI} {n:Nat} {ps:Array (Nat × Operand)} {qs:List (Nat × Nat × Bool × AO)} (hs:SRel base st a w β) (ho:o.op=.buildSlice t n ps) (hu:P.underlying t=some (.slice e)) (ht:tinfo P e=some i) (hn:n*i.size≤16777216∧0<i.size) (hq:sH (fun j => some (j*i.size,i.agg,i.size)) ps.toList=some qs) (h:aval st.env i' (.buildSl e i.size n (List.replicate n i.zero).flatten qs) K'):ARun P base st o a w β i' K':=by
 dsimp only [aval] at h
 split at h
 ·rename_i ds hds
  obtain ⟨us,hrun,hr,hdl⟩:=run_buildSl hs ho hu ht hn hq hds
  refine ⟨us,ds,e,_,.slice (some ⟨w.heap.size,0,none⟩) n n,hrun,hr,h,fun y hy hb hnb => rv_sl (m:=n*i.size) hb hnb (Nat.le_refl _) (fun k hk => by cases hk; rfl) ?_ (Nat.le_refl _)⟩
  rw [hy,vP (heap_alloc_new w _)]
  simp [hr.len,hdl]
 ·exact h.elim
theorem sl_read {H:Hp} (hp:HRel base w β H) {es m:Nat} {c:C} {v:Value} {xs:List C} (hr:R (cx base w β H) c v) (h1:sR H es c=some xs) (h2:slLen c=some m) (hx:xs.length=m*es) :
  ∃ (us:List Value),(∀ W:World,(Builtin.lenOf v).run P W=.ok m W)∧(∀ W:World,W.heap=w.heap→(Builtin.firstCells es m v).run P W=.ok us.toArray W)∧RL (cx base w β H) xs us:=by
 cases hr with
 | nilSl =>
  simp [sR] at h1
  simp [slLen] at h2
  subst h1
  subst h2
  exact ⟨[],fun W => by simp [Builtin.lenOf],fun W _ => by simp [Builtin.firstCells],.nil⟩
 | @imm n cs a cap vs hn hc hrl =>
  simp [sR] at h1
  simp [slLen] at h2
  subst h1
  subst h2
  refine ⟨vs.take (n*es),fun W => by simp [Builtin.lenOf],fun W hW => ?_,hrl.take _⟩
  refine run_firstCells_some (P:=P) W es n a n cap _ ?_ ?_
  ·rw [(hrl.take (n*es)).len]
   exact hx
  ·intro j u hj
   rw [List.getElem?_take] at hj
   split at hj
   ·rw [gE (w:=w) (by rw [hW])]
    exact (hc j u hj).2
   ·cases hj
 | @sl b off off' n es' m' co cap hb hn hco ho hm hfit =>
  simp only [sR] at h1
  simp [slLen] at h2
  subst h2
  split at h1
  ·rename_i bx hbx
   simp at h1
   subst h1
   obtain ⟨vs,rest,fr,g1,g2,g3⟩:=hp.row hbx
   have hr:=(g3.drop off).take (n*es)
   refine ⟨(vs.drop off).take (n*es),fun W => by simp [Builtin.lenOf],fun W hW => ?_,hr⟩
   refine run_firstCells_some (P:=P) W es n _ n cap _ ?_ ?_
   ·rw [hr.len]
    exact hx
   ·intro j u hj
    rw [List.getElem?_take] at hj
    split at hj
    ·rename_i hlt
     rw [List.getElem?_drop] at hj
     have hn0:n≠0:=by
      intro h0
      rw [h0] at hlt
      simp at hlt
     have hoff:=ho (by omega)
     subst hoff
     rw [gE (w:=w) (by rw [hW])]
     show w.cell? ((⟨β b,off',none⟩:Addr).add j)=some u
     rw [nP g1,List.getElem?_append_left (lt_of_getElem? hj)]
     exact hj
    ·cases hj
  ·cases h1
 | _ => simp [slLen] at h2
theorem s_app {c:Call} {s x:Operand} {s' x':AO} {t u e e':TypeId} {i:TI} (hs:SRel base st a w β) (ho:o.op=.call c) (hc:c.callee=.builtin .append) (ha:c.args.toList=[s,x]) (hat:c.argTypes.toList=[t,u]) (ht:P.underlying t=some (.slice e)) (hu:P.underlying u=some (.slice e')) (hi:tinfo P e=some i) (hsz0:0<i.size) (h1:yY s=some s') (h2:yY x=some x') (h:appX st.H e i.size i.bytes (s'.ev st.env) (x'.ev st.env) K):o.wp P a w (Post base st o a w β K) Q:=by
 obtain ⟨j,d,z,hj,hd,hz,_,hsz,hby,hcs,hlen⟩:=jB hi
 have ha':=args_two ha
 have hat':c.argTypes=#[t,u]:=by rw [←Array.toArray_toList (xs:=c.argTypes),hat]
 have exec:∀ (v v':Value) (w':World),(Builtin.append_ #[t,u] o.type #[a.eval s,a.eval x]).run P w=.ok v' w'→(execOp a.eval o).run P w=.ok (.value v') w':=by
  intro v v' w' hr
  simp [execOp,ho,resolve,hc,ha',hat',invoke,builtin,hr]
 dsimp only [xop,qval,qLen,qNil,qIad,qSlc,qIdx,lval,yW,yI,sval,xA,aval,appX] at h
 split at h
 ·rename_i sc xc hsv hxv
  have hrs:=(yH hs h1 hsv).c_inv
  have hrx:=(yH hs h2 hxv).c_inv
  split at h
  ·rename_i xs m hxs hm
   obtain ⟨hxl,h⟩:=wB h
   have hxl:xs.length=m*i.size:=Nat.eq_of_beq_eq_true hxl
   obtain ⟨us,hlenX,hfc,hru⟩:=sl_read (P:=P) hs.hp hrx hxs hm hxl
   have hul:=hru.len
   split at h
   ·-- nil
    have e1:=hrs.nilSl_inv
    rcases gL h with ⟨hm0,hK⟩ | ⟨hm0,h'⟩
    ·have hm0:m=0:=Nat.eq_of_beq_eq_true hm0
     subst hm0
     have hus:us=[]:=List.eq_nil_of_length_eq_zero (by rw [hul,hxl]; simp)
     subst hus
     refine yT hs (v:=.slice none 0 0) (exec .nilIface _ _ ?_) (.c .nilSl) hK
     simp [Builtin.append_,run_underlying ht,run_underlying hu,sizeOf,typeInfo,hj,hsz,e1,hlenX,hfc w rfl]
    ·have hm0:m≠0:=by
      intro h0
      subst h0
      simp at hm0
     obtain ⟨hk,hK⟩:=wB h'
     simp only [Bool.and_eq_true,decide_eq_true_eq,yE] at hk
     have hge:=grownCap_ge w m 0 e
     have h63':¬ (9223372036854775807<(m:Int)):=by omega
     have h48':¬ (281474976710656<Builtin.nextslicecap m 0*j.bytes):=by rw [nextslicecap_zero (by omega),hby]; omega
     have hrun:(Builtin.append_ #[t,u] o.type #[a.eval s,a.eval x]).run P w=.ok (.slice (some ⟨w.heap.size,0,none⟩) m (grownCap w m 0 e)) (w.drew.alloc (.cells (us++(Builtin.zeroCells z.cells (grownCap w m 0 e - m)).toList).toArray e)):=by
      have:(us++(Builtin.zeroCells z.cells (grownCap w m 0 e - m)).toList).toArray=us.toArray++Builtin.zeroCells z.cells (grownCap w m 0 e - m):=by apply Array.ext'; simp
      rw [this]
      simp [Builtin.append_,run_underlying ht,run_underlying hu,sizeOf,typeInfo,zeroValue,hj,hz,hsz,e1,hlenX,hm0,h63',h48',Question.forced,run_firstCells_none,hfc w.drew rfl,newRow,grownCap]
     have hpd:=hs.hp.of_heap (w':=w.drew) rfl
     have hrd:RL (cx base w.drew β st.H) xs us:=RL.to (x:=cx base w β st.H) (y:=cx base w.drew β st.H) ⟨fun _ _ => rfl,fun _ h => h,fun k _ hn => ⟨hn,rfl⟩,fun _ _ => rfl⟩ hru
     have hp:=hpd.alloc hrd e (Builtin.zeroCells z.cells (grownCap w m 0 e - m)).toList
     have hx:=ext_alloc hpd (.cells (us++(Builtin.zeroCells z.cells (grownCap w m 0 e - m)).toList).toArray e (0,0)) ⟨xs,e,.rw⟩
     have hx':Ext w β st.H (w.drew.alloc (.cells (us++(Builtin.zeroCells z.cells (grownCap w m 0 e - m)).toList).toArray e (0,0))) (upd β st.H.length w.heap.size) (st.H++[.live ⟨xs,e,.rw⟩]):=⟨hx.beta,hx.len,hx.size,hx.keep,hx.rows,hx.os,hx.tape,hx.output⟩
     refine qH (exec .nilIface _ _ hrun) hp hx' ?_ hK
     have hsl:=R.sl (x:=cx base (w.drew.alloc (.cells (us++(Builtin.zeroCells z.cells (grownCap w m 0 e - m)).toList).toArray e (0,0))) (upd β st.H.length w.drew.heap.size) (newB st.H xs e)) (b:=st.H.length) (off:=0) (off':=0) (n:=m) (es:=i.size) (m:=grownCap w m 0 e*i.size) (co:=none) (cap:=grownCap w m 0 e) (by exact born_last _ _) hge (fun k hk => by cases hk) (fun _ => rfl) (by
      simp only [cx,vE]
      rw [vP (heap_alloc_new w.drew _)]
      have hzz:z.cells.size=i.size:=by rw [←Array.length_toList,(uA (x:=cx base w β st.H) hcs).len,hlen]
      simp [hul,hxl,size_zeroCells,hzz]
      rw [←Nat.add_mul]
      congr 1
      omega) (by simp)
     simp only [cx,vE] at hsl
     exact .c hsl
   ·-- a box
    rename_i b off n co es' _
    split at h
    ·rename_i bx hb
     split at h
     ·rename_i hrw
      obtain ⟨hk,hK⟩:=wB h
      simp only [Bool.and_eq_true,decide_eq_true_eq,yE] at hk
      obtain ⟨⟨⟨⟨⟨k1,k2⟩,k3⟩,k4⟩,k5⟩,k6⟩:=hk
      have k1:i.size=es':=Nat.eq_of_beq_eq_true k1
      have k2:off=0:=Nat.eq_of_beq_eq_true k2
      have k4:n*i.size≤bx.cells.length:=Nat.le_of_ble_eq_true k4
      subst k1
      subst k2
      obtain ⟨off',cap,m',e1,hbl,hn,hco,ho',hm',hfit⟩:=hrs.sl_inv
      obtain ⟨vs,rest,fr,g1,g2,g3⟩:=hs.hp.row hb
      have hfr:=g2 (by rw [hrw]; intro e; cases e)
      subst hfr
      have hvl:=g3.len
      have hms:m'=(vs++rest).length:=by
       have h0:uG w (β b)=some m':=hm'
       rw [vP g1] at h0
       simpa using h0.symm
      have hzz:z.cells.size=i.size:=by rw [←Array.length_toList,(uA (x:=cx base w β st.H) hcs).len,hlen]
      have htl:(vs.take (n*i.size)).length=n*i.size:=by simp; omega
      have hrnew:RL (cx base w β st.H) (bx.cells.take (n*i.size)++xs) (vs.take (n*i.size)++us):=(g3.take _).append hru
      by_cases hroom:n+m≤cap
      ·-- in place
       have hfit2:(n+m)*i.size≤m'∨(n=0∧m=0):=by
        rcases Nat.eq_zero_or_pos cap with h0 | h0
        ·exact .inr (by omega)
        ·have:=ho' (by omega)
         subst this
         have h2:(n+m)*i.size≤cap*i.size:=Nat.mul_le_mul_right _ hroom
         exact .inl (by omega)
       have hfit3:n*i.size+us.length≤(vs++rest).length:=by
        rcases hfit2 with h2 | ⟨rfl,rfl⟩
        ·rw [←hms,hul,hxl,←Nat.add_mul]; exact h2
        ·simp [hul,hxl]
       have hrun:(Builtin.append_ #[t,u] o.type #[a.eval s,a.eval x]).run P w=.ok (.slice (some ⟨β b,off',none⟩) (n+m) cap) (w.setRow (β b) ((vs++rest).take (n*i.size)++us++(vs++rest).drop (n*i.size+us.length)).toArray):=by
        rcases Nat.eq_zero_or_pos m with hm0 | hm0
        ·subst hm0
         have hus:us=[]:=List.eq_nil_of_length_eq_zero (by rw [hul,hxl]; simp)
         subst hus
         have hself:w.setRow (β b) ((vs++rest).take (n*i.size)++[]++(vs++rest).drop (n*i.size+([]:List Value).length)).toArray=w:=by
          simp only [List.append_nil,List.length_nil,Nat.add_zero,List.take_append_drop]
          exact setRow_self w _ _ _ _ g1
         rw [hself]
         simp only [Nat.add_zero] at hroom
         simp [Builtin.append_,run_underlying ht,run_underlying hu,sizeOf,typeInfo,hj,hsz,e1,hlenX,hfc w rfl,hroom,storeCells,cx]
        ·have h0:off'=0:=ho' (by omega)
         subst h0
         have hst:=run_storeCells_at P (β b) (n*i.size) bx.elem us 0 (vs++rest).toArray w g1 (by simpa using hfit3) (hru.one)
         simp only [Nat.add_zero] at hst
         simp [Builtin.append_,run_underlying ht,run_underlying hu,sizeOf,typeInfo,hj,hsz,e1,hlenX,hfc w rfl,hroom,Addr.add_lit,cx,hst]
       have hL:(vs++rest).take (n*i.size)++us++(vs++rest).drop (n*i.size+us.length)=(vs.take (n*i.size)++us)++(vs++rest).drop (n*i.size+us.length):=by
        rw [List.take_append_of_le_length (by omega)]
       have hlenL:((vs.take (n*i.size)++us)++(vs++rest).drop (n*i.size+us.length)).length=(vs++rest).length:=by
        rw [List.length_append,List.length_append,htl,List.length_drop]
        omega
       have hset:=hs.hp.set hb hrw (cs:=bx.cells.take (n*i.size)++xs) (us:=vs.take (n*i.size)++us) (rest:=(vs++rest).drop (n*i.size+us.length)) hrnew (by rw [vP g1,hlenL]; simp)
       have hxt:=ext_set hs.hp hb hrw (bx.cells.take (n*i.size)++xs) ((vs.take (n*i.size)++us)++(vs++rest).drop (n*i.size+us.length)) (by rw [vP g1,hlenL]; simp)
       obtain ⟨hmv,hxm⟩:=hset.move (b:=b) (bx:={ bx with cells:=bx.cells.take (n*i.size)++xs }) (List.getElem?_set_self (lt_of_getElem? hb)) (by rw [hrw]; intro e; cases e)
       simp only [List.set_set,List.length_set] at hmv hxm
       have hbe:({ bx with cells:=bx.cells.take (n*i.size)++xs }:Box)=⟨bx.cells.take (n*i.size)++xs,e,.rw⟩:=by rw [←hrw,←k3]
       rw [hbe] at hmv hxm
       rw [hL] at hrun
       refine qH (exec .nilIface _ _ hrun) hmv (hxt.trans (by simpa only [hbe] using hxm)) ?_ hK
       have hsl:=R.sl (x:=cx base (w.setRow (β b) ((vs.take (n*i.size)++us)++(vs++rest).drop (n*i.size+us.length)).toArray) (upd β st.H.length (β b)) (newB (st.H.set b .dead) (bx.cells.take (n*i.size)++xs) e)) (b:=st.H.length) (off:=0) (off':=off') (n:=n+m) (es:=i.size) (m:=m') (co:=none) (cap:=cap) (by have hq:=born_last (st.H.set b .dead) (⟨bx.cells.take (n*i.size)++xs,e,.rw⟩:Box); rw [List.length_set] at hq; exact hq) hroom (fun k hk => by cases hk) ho' (by
        simp only [cx,vE]
        rw [vP (setRow_heap w _ _ _ _ _ g1),hms]
        rw [←hlenL]
        simp) hfit
       simp only [cx,vE] at hsl
       exact .c hsl
      ·-- it grows
       obtain ⟨hps,hxs'⟩:=hs.hp.strike (i:=b) (o:=.dead) (fun e => by cases e) (fun q hq => by cases hq) (fun es e => by cases e)
       have hlS:(st.H.set b .dead).length=st.H.length:=List.length_set
       obtain ⟨os,hlenS,hfcS,hrS⟩:=sl_read (P:=P) hs.hp (c:=.sl b 0 n co i.size) (es:=i.size) (m:=n) (xs:=bx.cells.take (n*i.size)) hrs (by simp [sR,hb]) rfl (by simp; omega)
       have hosl:=hrS.len
       have hge:=grownCap_ge w (n+m) cap e
       have hn':¬ (n+m≤cap):=hroom
       have h63':¬ (9223372036854775807<((n:Int)+(m:Int))):=by omega
       have h48':¬ (281474976710656<Builtin.nextslicecap (n+m) cap*j.bytes):=by
        have:=growslice_fits (need:=n+m) (old:=cap) (bytes:=j.bytes) (by omega) (by rw [hby]; exact k5)
        omega
       have hrun:(Builtin.append_ #[t,u] o.type #[a.eval s,a.eval x]).run P w=.ok (.slice (some ⟨w.heap.size,0,none⟩) (n+m) (grownCap w (n+m) cap e)) (w.drew.alloc (.cells ((os++us)++(Builtin.zeroCells z.cells (grownCap w (n+m) cap e - (n+m))).toList).toArray e)):=by
        have:((os++us)++(Builtin.zeroCells z.cells (grownCap w (n+m) cap e - (n+m))).toList).toArray=os.toArray++us.toArray++Builtin.zeroCells z.cells (grownCap w (n+m) cap e - (n+m)):=by apply Array.ext'; simp
        rw [this]
        have hfcS':=hfcS w.drew rfl
        rw [e1] at hfcS'
        simp [Builtin.append_,run_underlying ht,run_underlying hu,sizeOf,typeInfo,zeroValue,hj,hz,hsz,e1,hlenX,hn',h63',h48',Question.forced,hfc w.drew rfl,hfcS',newRow,grownCap]
        congr 2
        apply Array.ext'
        simp [List.append_assoc]
       have hpd:=hps.of_heap (w':=w.drew) rfl
       have hrnew:RL (cx base w.drew β (st.H.set b .dead)) (bx.cells.take (n*i.size)++xs) (os++us):=RL.to (x:=cx base w β (st.H.set b .dead)) (y:=cx base w.drew β (st.H.set b .dead)) ⟨fun _ _ => rfl,fun _ h => h,fun k _ hn => ⟨hn,rfl⟩,fun _ _ => rfl⟩ ((hrS.append hru).to (hxs'.to base))
       have hp:=hpd.alloc hrnew e (Builtin.zeroCells z.cells (grownCap w (n+m) cap e - (n+m))).toList
       have hx:=ext_alloc hpd (.cells ((os++us)++(Builtin.zeroCells z.cells (grownCap w (n+m) cap e - (n+m))).toList).toArray e (0,0)) ⟨bx.cells.take (n*i.size)++xs,e,.rw⟩
       rw [hlS] at hp hx
       have hx':Ext w β (st.H.set b .dead) (w.drew.alloc (.cells ((os++us)++(Builtin.zeroCells z.cells (grownCap w (n+m) cap e - (n+m))).toList).toArray e (0,0))) (upd β st.H.length w.heap.size) (st.H.set b .dead++[.live ⟨bx.cells.take (n*i.size)++xs,e,.rw⟩]):=⟨hx.beta,hx.len,hx.size,hx.keep,hx.rows,hx.os,hx.tape,hx.output⟩
       refine qH (exec .nilIface _ _ hrun) hp (hxs'.trans hx') ?_ hK
       have hsl:=R.sl (x:=cx base (w.drew.alloc (.cells ((os++us)++(Builtin.zeroCells z.cells (grownCap w (n+m) cap e - (n+m))).toList).toArray e (0,0))) (upd β st.H.length w.drew.heap.size) (newB (st.H.set b .dead) (bx.cells.take (n*i.size)++xs) e)) (b:=st.H.length) (off:=0) (off':=0) (n:=n+m) (es:=i.size) (m:=grownCap w (n+m) cap e*i.size) (co:=none) (cap:=grownCap w (n+m) cap e) (by have hq:=born_last (st.H.set b .dead) (⟨bx.cells.take (n*i.size)++xs,e,.rw⟩:Box); rw [List.length_set] at hq; exact hq) hge (fun k hk => by cases hk) (fun _ => rfl) (by
        simp only [cx,vE]
        rw [vP (heap_alloc_new w.drew _)]
        have hol:os.length=n*i.size:=by rw [hosl]; simp; omega
        simp [hul,hxl,hol,size_zeroCells,hzz]
        rw [←Nat.add_assoc,←Nat.add_mul,←Nat.add_mul]
        congr 1
        omega) (by simp)
       simp only [cx,vE] at hsl
       exact .c hsl
     ·exact h.elim
    ·exact h.elim
   ·exact h.elim
  ·exact h.elim
 ·exact h.elim
theorem s_appI {c:Call} {s x:Operand} {s' x':AO} {t u e e':TypeId} {i:TI} (hs:SRel base st a w β) (ho:o.op=.call c) (hc:c.callee=.builtin .append) (ha:c.args.toList=[s,x]) (hat:c.argTypes.toList=[t,u]) (ht:P.underlying t=some (.slice e)) (hu:P.underlying u=some (.slice e')) (hi:tinfo P e=some i) (hsz0:0<i.size) (h1:yY s=some s') (h2:yY x=some x') (h:appI st.H i.size (s'.ev st.env) (x'.ev st.env) K):o.wp P a w (Post base st o a w β K) Q:=by
 obtain ⟨j,d,z,hj,hd,hz,_,hsz,hby,hcs,hlen⟩:=jB hi
 have ha':=args_two ha
 have hat':c.argTypes=#[t,u]:=by rw [←Array.toArray_toList (xs:=c.argTypes),hat]
 have exec:∀ (v v':Value) (w':World),(Builtin.append_ #[t,u] o.type #[a.eval s,a.eval x]).run P w=.ok v' w'→(execOp a.eval o).run P w=.ok (.value v') w':=by
  intro v v' w' hr
  simp [execOp,ho,resolve,hc,ha',hat',invoke,builtin,hr]
 dsimp only [appI] at h
 split at h
 ·rename_i b off n cap0 es' xc hsv hxv
  have hrs:=(yH hs h1 hsv).c_inv
  have hrx:=(yH hs h2 hxv).c_inv
  split at h
  ·rename_i xs m bx hxs hm hb
   split at h
   ·rename_i hrw
    obtain ⟨hk,hK⟩:=wB h
    simp only [Bool.and_eq_true] at hk
    obtain ⟨⟨⟨k0,k1⟩,k2⟩,k3⟩:=hk
    have hxl:xs.length=m*i.size:=Nat.eq_of_beq_eq_true k0
    have k1:i.size=es':=Nat.eq_of_beq_eq_true k1
    subst k1
    have k2:n+m≤cap0:=Nat.le_of_ble_eq_true k2
    have k3:off+n*i.size+m*i.size≤bx.cells.length:=Nat.le_of_ble_eq_true k3
    obtain ⟨us,hlenX,hfc,hru⟩:=sl_read (P:=P) hs.hp hrx hxs hm hxl
    have hul:=hru.len
    obtain ⟨off',cap,m',e1,hbl,hn,hco,ho',hm',hfit⟩:=hrs.sl_inv
    have hcap:cap0=cap:=hco _ rfl
    subst hcap
    obtain ⟨vs,rest,fr,g1,g2,g3⟩:=hs.hp.row hb
    have hfr:=g2 (by rw [hrw]; intro e; cases e)
    subst hfr
    have hvl:=g3.len
    have hms:m'=(vs++rest).length:=by
     have h0:uG w (β b)=some m':=hm'
     rw [vP g1] at h0
     simpa using h0.symm
    have hrun:(Builtin.append_ #[t,u] o.type #[a.eval s,a.eval x]).run P w=.ok (.slice (some ⟨β b,off',none⟩) (n+m) cap0) (w.setRow (β b) ((vs++rest).take (off+n*i.size)++us++(vs++rest).drop (off+n*i.size+us.length)).toArray):=by
     rcases Nat.eq_zero_or_pos m with hm0 | hm0
     ·subst hm0
      have hus:us=[]:=List.eq_nil_of_length_eq_zero (by rw [hul,hxl]; simp)
      subst hus
      have hself:w.setRow (β b) ((vs++rest).take (off+n*i.size)++[]++(vs++rest).drop (off+n*i.size+([]:List Value).length)).toArray=w:=by
       simp only [List.append_nil,List.length_nil,Nat.add_zero,List.take_append_drop]
       exact setRow_self w _ _ _ _ g1
      rw [hself]
      simp only [Nat.add_zero] at k2
      simp [Builtin.append_,run_underlying ht,run_underlying hu,sizeOf,typeInfo,hj,hsz,e1,hlenX,hfc w rfl,k2,storeCells,cx]
     ·have h0:off'=off:=ho' (by omega)
      subst h0
      have hst:=run_storeCells_at P (β b) (off'+n*i.size) bx.elem us 0 (vs++rest).toArray w g1 (by simp; rw [hul,hxl]; omega) (hru.one)
      simp only [Nat.add_zero] at hst
      simp [Builtin.append_,run_underlying ht,run_underlying hu,sizeOf,typeInfo,hj,hsz,e1,hlenX,hfc w rfl,k2,Addr.add_lit,cx,hst]
    have hL:(vs++rest).take (off+n*i.size)++us++(vs++rest).drop (off+n*i.size+us.length)=uM vs (off+n*i.size) us++rest:=by
     have q1:off+n*i.size≤vs.length:=by omega
     have q2:off+n*i.size+us.length≤vs.length:=by rw [hul,hxl]; omega
     unfold uM
     rw [List.take_append_of_le_length q1,List.drop_append_of_le_length q2]
     simp
    have hrnew:=g3.splice hru (off+n*i.size)
    have hsl2:(uM vs (off+n*i.size) us).length=vs.length:=by
     unfold uM
     simp
     omega
    rw [hL] at hrun
    have hset:=hs.hp.set hb hrw (cs:=splice bx.cells (off+n*i.size) xs) (us:=uM vs (off+n*i.size) us) (rest:=rest) hrnew (by rw [vP g1]; simp [hsl2])
    have hxt:=ext_set hs.hp hb hrw (splice bx.cells (off+n*i.size) xs) (uM vs (off+n*i.size) us++rest) (by rw [vP g1]; simp [hsl2])
    refine qH (exec .nilIface _ _ hrun) hset hxt ?_ hK
    have hlb:b<st.H.length:=lt_of_getElem? hb
    exact .c (R.sl (off':=off') (m:=m') ((hxt.to base).nb _ hbl) k2 (fun k hk => by cases hk; rfl) ho' (by
     show uG (w.setRow (β b) (uM vs (off+n*i.size) us++rest).toArray) (β b)=some m'
     rw [vP (setRow_heap w _ _ _ _ _ g1),hms]
     simp [hsl2]) hfit)
   ·exact h.elim
  ·exact h.elim
 ·exact h.elim
theorem compBin_sound {op:BinOp} {t u:TypeId} {x y:Operand} {x' y':AO} {ao:AOp} (hs:SRel base st a w β) (ho:o.op=.binOp op t x y u) (h1:yY x=some x') (h2:yY y=some y') (hc:compBin P op t x' y'=some ao) (h:xop P st ao K):o.wp P a w (Post base st o a w β K) Q:=by
 unfold compBin at hc
 split at hc
 ·rename_i k hu
  cases op <;> simp only [Option.some.injEq] at hc <;> subst hc <;> first
   | exact s_ar hs ho h1 h2 (by simp) h
   | exact s_cm hs ho h1 h2 (by simp) h
   | exact s_shl hs ho h1 h2 h
   | exact s_shr hs ho h1 h2 h
 ·rename_i hu
  split at hc <;> simp at hc
  ·subst hc
   exact s_eqB (neg:=false) hs ho hu h1 h2 h
  ·subst hc
   exact s_eqB (neg:=true) hs ho hu h1 h2 h
 ·rename_i e hu
  split at hc
  ·split at hc <;> simp at hc
   ·subst hc
    exact s_eqN (neg:=false) hs ho hu h1 h2 h
   ·subst hc
    exact s_eqN (neg:=true) hs ho hu h1 h2 h
  ·cases hc
 ·rename_i fs hu
  split at hc
  ·rename_i offs hf hg
   split at hc <;> simp at hc
   ·subst hc
    exact s_eqA (neg:=false) hs ho hu hf hg h1 h2 h
   ·subst hc
    exact s_eqA (neg:=true) hs ho hu hf hg h1 h2 h
  ·cases hc
 ·cases hc
theorem ER.find {x:Cx}:∀ {es:List (Int × C)} {r:List MapEntry},ER x es r→∀ (n:Int) (i:Nat),
  (findE es n=none∧Instr.findNow (.int .i64) (.int .i64 n) r i=some none∧∀ (c:C) (v:Value) (b:Nat),R x c v→ER x (upE es n c) (r++[⟨.int .i64 n,v,b⟩])) ∨
  ∃ (j:Nat) (c:C) (e:MapEntry),findE es n=some c∧R x c e.val∧Instr.findNow (.int .i64) (.int .i64 n) r i=some (some (i+j,e.val))∧r[j]?=some e∧e.key=.int .i64 n ∧
   ∀ (c':C) (v':Value),R x c' v'→ER x (upE es n c') (r.modify j fun e => { e with key:=.int .i64 n,val:=v' })
 | _,_,.nil,n,i => .inl ⟨rfl,rfl,fun c v b h => .cons rfl h .nil⟩
 | _,_,.cons (k:=k) (c:=c) (e:=e) hk hv t,n,i => by
  by_cases hnk:n=k
  ·subst hnk
   refine .inr ⟨0,c,e,by simp [findE],hv,by simp [Instr.findNow,hk,Instr.sameNow],by simp,hk,fun c' v' h => ?_⟩
   simp only [upE,decide_true,cond_true,List.modify_cons,if_pos]
   exact .cons rfl h t
  ·have hs:Instr.sameNow (.int .i64) (.int .i64 n) e.key=some false:=by simp [hk,Instr.sameNow,hnk]
   rcases t.find n (i+1) with ⟨h1,h2,h3⟩ | ⟨j,c2,e2,h1,h2,h3,h4,h5,h6⟩
   ·refine .inl ⟨by simp [findE,hnk,h1],by simp [Instr.findNow,hs,h2],fun c' v' b h => ?_⟩
    simp only [upE,hnk,decide_false,cond_false,List.cons_append]
    exact .cons hk hv (h3 c' v' b h)
   ·refine .inr ⟨j+1,c2,e2,by simp [findE,hnk,h1],h2,by simp [Instr.findNow,hs,h3]; omega,by simpa using h4,h5,fun c' v' h => ?_⟩
    simp only [upE,hnk,decide_false,cond_false,List.modify_cons]
    rw [if_neg (by omega)]
    exact .cons hk hv (h6 c' v' h)
theorem heap_map {w:World} {r:Nat} {o o':Obj} (hb:w.heap[r]?=some o):(w.heap.setIfInBounds r o')[r]?=some o'∧∀ k,k≠r→(w.heap.setIfInBounds r o')[k]?=w.heap[k]?:=Go.MapKept.heap_set hb
theorem HRel.mkMap {base:Nat→Prop} {w:World} {β:Nat→Nat} {H:Hp} (h:HRel base w β H) :
  HRel base (w.alloc (.map #[] 0)) (upd β H.length w.heap.size) (H++[.mp []])∧Ext w β H (w.alloc (.map #[] 0)) (upd β H.length w.heap.size) (H++[.mp []]):=by
 have hlive:∀ (i:Nat) (bx:Box),(H++[Slot.mp []])[i]?=some (.live bx)→i<H.length∧H[i]?=some (.live bx):=by
  intro i bx hi
  rcases Nat.lt_or_ge i H.length with hlt | hge
  ·exact ⟨hlt,by rwa [List.getElem?_append_left hlt] at hi⟩
  ·rw [List.getElem?_append_right hge] at hi
   cases hj:i - H.length with
   | zero => rw [hj] at hi; simp at hi
   | succ j => rw [hj] at hi; simp at hi
 have hmp:∀ (i:Nat) (es:List (Int × C)),(H++[Slot.mp []])[i]?=some (.mp es)→(i<H.length∧H[i]?=some (.mp es))∨(i=H.length∧es=[]):=by
  intro i es hi
  rcases Nat.lt_or_ge i H.length with hlt | hge
  ·exact .inl ⟨hlt,by rwa [List.getElem?_append_left hlt] at hi⟩
  ·rw [List.getElem?_append_right hge] at hi
   cases hj:i - H.length with
   | zero =>
    rw [hj] at hi
    simp at hi
    exact .inr ⟨by omega,hi⟩
   | succ j => rw [hj] at hi; simp at hi
 have hx:Ext w β H (w.alloc (.map #[] 0)) (upd β H.length w.heap.size) (H++[.mp []]):=by
  refine ⟨fun i hi => xO β (by have:=born_lt hi; omega),fun i hi => born_append _ hi,by simp,fun k hk hn => ⟨?_,heap_alloc_old _ _ hk⟩,fun k hk => sZ (heap_alloc_old _ _ hk),rfl,rfl,rfl⟩
  rintro (⟨i,bx,hi,hr,he⟩ | ⟨i,es,hi,he⟩)
  ·obtain ⟨hlt,hi⟩:=hlive i bx hi
   rw [xO β (by omega)] at he
   exact hn (.inl ⟨i,bx,hi,hr,he⟩)
  ·rcases hmp i es hi with ⟨hlt,hi⟩ | ⟨rfl,rfl⟩
   ·rw [xO β (by omega)] at he
    exact hn (.inr ⟨i,es,hi,he⟩)
   ·rw [vE] at he
    omega
 refine ⟨⟨fun i bx hi => ?_,fun i j bx bx' hi hj he => ?_,fun i bx hi hk => ?_,fun k hk => by have:=h.bsize k hk; simp; omega,fun i es hi => ?_,fun i j es es' hi hj he => ?_⟩,hx⟩
 ·obtain ⟨hlt,hi⟩:=hlive i bx hi
  obtain ⟨vs,rest,fr,h1,h2,h3⟩:=h.cells i bx hi
  rw [xO β (by omega)]
  exact ⟨vs,rest,fr,by rw [heap_alloc_old _ _ (h.lt hi)]; exact h1,h2,h3.to (hx.to base)⟩
 ·obtain ⟨hlt,hi⟩:=hlive i bx hi
  obtain ⟨hlt',hj⟩:=hlive j bx' hj
  rw [xO β (by omega),xO β (by omega)] at he
  exact h.inj i j bx bx' hi hj he
 ·obtain ⟨hlt,hi⟩:=hlive i bx hi
  rw [xO β (by omega)]
  exact h.nbase i bx hi hk
 ·rcases hmp i es hi with ⟨hlt,hi⟩ | ⟨rfl,rfl⟩
  ·obtain ⟨ents,clock,h1,h2,h3⟩:=h.maps i es hi
   rw [xO β (by omega)]
   exact ⟨ents,clock,by rw [heap_alloc_old _ _ (h.mlt hi)]; exact h1,h2.to (hx.to base),h3⟩
  ·rw [vE]
   exact ⟨#[],0,heap_alloc_new w _,.nil,fun hb => by have:=h.bsize _ hb; omega⟩
 ·rcases hmp i es hi with ⟨hlt,hi⟩ | ⟨rfl,rfl⟩ <;> rcases hmp j es' hj with ⟨hlt',hj⟩ | ⟨rfl,rfl⟩
  ·rw [xO β (by omega),xO β (by omega)] at he
   exact h.minj i j es es' hi hj he
  ·rw [xO β (by omega),vE] at he
   have:=h.mlt hi
   omega
  ·rw [vE,xO β (by omega)] at he
   have:=h.mlt hj
   omega
  ·rfl
theorem HRel.setMap {base:Nat→Prop} {w:World} {β:Nat→Nat} {H:Hp} {b:Nat} {es es':List (Int × C)} {ents':Array MapEntry} {clock':Nat} (h:HRel base w β H) (hb:H[b]?=some (.mp es)) (he:ER (cx base w β H) es' ents'.toList) :
  HRel base { w with heap:=w.heap.setIfInBounds (β b) (.map ents' clock') } β (H.set b (.mp es'))∧Ext w β H { w with heap:=w.heap.setIfInBounds (β b) (.map ents' clock') } β (H.set b (.mp es')):=by
 obtain ⟨ents,clock,g1,g2,g3⟩:=h.maps b es hb
 obtain ⟨q1,q2⟩:=heap_map (o':=.map ents' clock') g1
 have hlt:=lt_of_getElem? hb
 have hlive:∀ (i:Nat) (bx:Box),(H.set b (.mp es'))[i]?=some (.live bx)→H[i]?=some (.live bx):=by
  intro i bx hi
  by_cases hbi:b=i
  ·subst hbi
   rw [List.getElem?_set_self hlt] at hi
   simp at hi
  ·rwa [List.getElem?_set_ne hbi] at hi
 have hmp:∀ (i:Nat) (fs:List (Int × C)),(H.set b (.mp es'))[i]?=some (.mp fs)→(b≠i∧H[i]?=some (.mp fs))∨(i=b∧fs=es'):=by
  intro i fs hi
  by_cases hbi:b=i
  ·subst hbi
   rw [List.getElem?_set_self hlt] at hi
   simp at hi
   exact .inr ⟨rfl,hi.symm⟩
  ·exact .inl ⟨hbi,by rwa [List.getElem?_set_ne hbi] at hi⟩
 have hall:∀ (i:Nat) (fs:List (Int × C)),(H.set b (.mp es'))[i]?=some (.mp fs)→∃ gs,H[i]?=some (.mp gs):=by
  intro i fs hi
  rcases hmp i fs hi with ⟨_,hi⟩ | ⟨rfl,_⟩
  ·exact ⟨_,hi⟩
  ·exact ⟨_,hb⟩
 have hx:Ext w β H { w with heap:=w.heap.setIfInBounds (β b) (.map ents' clock') } β (H.set b (.mp es')):=by
  refine ⟨fun _ _ => rfl,fun i hi => born_set (fun e => by cases e) hi,by simp,fun k hk hn => ⟨?_,q2 k (fun e => hn (.inr ⟨b,es,hb,e.symm⟩))⟩,fun k hk => ?_,rfl,rfl,rfl⟩
  ·rintro (⟨i,bx,hi,hr,hh⟩ | ⟨i,fs,hi,hh⟩)
   ·exact hn (.inl ⟨i,bx,hlive i bx hi,hr,hh⟩)
   ·obtain ⟨gs,hi⟩:=hall i fs hi
    exact hn (.inr ⟨i,gs,hi,hh⟩)
  ·by_cases hk:k=β b
   ·subst hk
    unfold uG
    rw [q1,g1]
   ·exact sZ (q2 k hk)
 refine ⟨⟨fun i bx hi => ?_,fun i j bx bx' hi hj hh => h.inj i j bx bx' (hlive i bx hi) (hlive j bx' hj) hh,fun i bx hi hk => h.nbase i bx (hlive i bx hi) hk,fun k hk => by have:=h.bsize k hk; simpa using this,fun i fs hi => ?_,fun i j fs gs hi hj hh => ?_⟩,hx⟩
 ·have hi:=hlive i bx hi
  obtain ⟨vs,rest,fr,h1,h2,h3⟩:=h.cells i bx hi
  exact ⟨vs,rest,fr,by rw [q2 _ (fun e => h.apart hb hi e.symm)]; exact h1,h2,h3.to (hx.to base)⟩
 ·rcases hmp i fs hi with ⟨hne,hi⟩ | ⟨rfl,rfl⟩
  ·obtain ⟨ents2,clock2,h1,h2,h3⟩:=h.maps i fs hi
   exact ⟨ents2,clock2,by rw [q2 _ (fun e => hne (h.minj b i es fs hb hi e.symm))]; exact h1,h2.to (hx.to base),h3⟩
  ·exact ⟨ents',clock',q1,he.to (hx.to base),g3⟩
 ·obtain ⟨fs',hi⟩:=hall i fs hi
  obtain ⟨gs',hj⟩:=hall j gs hj
  exact h.minj i j fs' gs' hi hj hh
theorem R.mp_inv {x:Cx} {b:Nat} {v:Value} (h:R x (.mp b) v):v=.map (some (x.β b)):=by
 cases h
 rfl
theorem s_mkMap {t:TypeId} (hs:SRel base st a w β) (ho:o.op=.makeMap t none) (h:xop P st .mkMap K):o.wp P a w (Post base st o a w β K) Q:=by
 obtain ⟨hp,hx⟩:=hs.hp.mkMap
 refine qH (v:=.map (some w.heap.size)) (w':=w.alloc (.map #[] 0)) ?_ hp hx ?_ h
 ·simp [execOp,ho,Instr.makeMap]
 ·have hr:R (cx base (w.alloc (.map #[] 0)) (upd β st.H.length w.heap.size) (st.H++[.mp []])) (.mp st.H.length) (.map (some ((upd β st.H.length w.heap.size) st.H.length))):=.mp ⟨.mp [],by simp,fun e => by cases e⟩
  rw [vE] at hr
  exact .c hr
theorem s_lookup {t kt e:TypeId} {ti:TypeInfo} {z:Value} {c:C} {x i:Operand} {x' i':AO} {ok:Bool} (hs:SRel base st a w β) (ho:o.op=.lookup t x i ok) (ht:P.underlying t=some (.map kt e)) (hk:P.underlying kt=some (.int .i64)) (hi:P.info? e=some ti) (hz:ti.zero=some z) (hc:ofCell z=some c) (h1:yY x=some x') (h2:yY i=some i') (h:xop P st (.lookup ok c x' i') K):o.wp P a w (Post base st o a w β K) Q:=by
 dsimp only [xop] at h
 split at h
 ·rename_i b n hx hn
  split at h
  ·rename_i es hes
   have e1:=(yH hs h1 hx).c_inv.mp_inv
   have e2:=(yH hs h2 hn).c_inv.int_inv
   obtain ⟨ents,clock,g1,g2,g3⟩:=hs.hp.maps b es hes
   have hkey:Go.MapKept.IsKey (.int .i64) (.int .i64 n):=rfl
   have hck:=fun e => Go.MapKept.run_checkKey (P:=P) (w:=w) hk hkey e 9999
   have hzv:(zeroValue e).run P w=.ok z w:=by simp [zeroValue,typeInfo,hi,hz]
   rcases g2.find n 0 with ⟨f1,f2,_⟩ | ⟨j,c2,e3,f1,f2,f3,_⟩
   ·have hfk:=Go.MapKept.run_findKey (P:=P) (w:=w) hk f2
    unfold lookP at h
    rw [f1] at h
    cases ok
    ·refine yT hs (v:=z) ?_ (.c (nL hc)) h
     simp [execOp,ho,Instr.lookup,run_underlying ht,e1,e2,cx,Go.MapKept.run_getObj_map g1,hck,hfk,hzv]
    ·refine yT hs (v:=.tuple #[z,.bool false]) ?_ (.tup (vs:=[z,.bool false]) (.cons (.c (nL hc)) (.cons (.c (.bool _)) .nil))) h
     simp [execOp,ho,Instr.lookup,run_underlying ht,e1,e2,cx,Go.MapKept.run_getObj_map g1,hck,hfk,hzv]
   ·have hfk:=Go.MapKept.run_findKey (P:=P) (w:=w) hk f3
    unfold lookP at h
    rw [f1] at h
    cases ok
    ·refine yT hs (v:=e3.val) ?_ (.c f2) h
     simp [execOp,ho,Instr.lookup,run_underlying ht,e1,e2,cx,Go.MapKept.run_getObj_map g1,hck,hfk]
    ·refine yT hs (v:=.tuple #[e3.val,.bool true]) ?_ (.tup (vs:=[e3.val,.bool true]) (.cons (.c f2) (.cons (.c (.bool _)) .nil))) h
     simp [execOp,ho,Instr.lookup,run_underlying ht,e1,e2,cx,Go.MapKept.run_getObj_map g1,hck,hfk]
  ·exact h.elim
 ·exact h.elim
theorem s_mapUp {t kt e:TypeId} {m k x:Operand} {m' k' x':AO} (hs:SRel base st a w β) (ho:o.op=.mapUpdate t m k x∨o.op=.insert t m k x) (ht:P.underlying t=some (.map kt e)) (hk:P.underlying kt=some (.int .i64)) (h1:yY m=some m') (h2:yY k=some k') (h3:yY x=some x') (h:xop P st (.mapUp m' k' x') K):o.wp P a w (Post base st o a w β K) Q:=by
 dsimp only [xop] at h
 split at h
 ·rename_i b n v hm hn hv
  split at h
  ·rename_i es hes
   have e1:=(yH hs h1 hm).c_inv.mp_inv
   have e2:=(yH hs h2 hn).c_inv.int_inv
   have hr:=(yH hs h3 hv).c_inv
   obtain ⟨ents,clock,g1,g2,g3⟩:=hs.hp.maps b es hes
   have hkey:Go.MapKept.IsKey (.int .i64) (.int .i64 n):=rfl
   have hck:=Go.MapKept.run_checkKey (P:=P) (w:=w) hk hkey false 9999
   rcases g2.find n 0 with ⟨f1,f2,f3⟩ | ⟨j,c2,e3,f1,f2,f3,f4,f5,f6⟩
   ·have hfk:=Go.MapKept.run_findKey (P:=P) (w:=w) hk f2
    obtain ⟨hp,hx⟩:=hs.hp.setMap (es':=upE es n v) (ents':=ents.push ⟨.int .i64 n,a.eval x,clock⟩) (clock':=clock+1) hes (by simpa using f3 v (a.eval x) clock hr)
    refine post_skip ?_ hp hx (.tup .nil) h
    rcases ho with ho | ho <;> simp [execOp,ho,Instr.mapUpdate,run_underlying ht,e1,e2,cx,Go.MapKept.run_getObj_map g1,hck,hfk,Go.MapKept.run_setObj_map _ g1]
   ·have hfk:=Go.MapKept.run_findKey (P:=P) (w:=w) hk f3
    have hst:=Go.MapKept.run_keyThatStays (P:=P) (w:=w) hkey
    have hej:ents[j]?=some e3:=by simpa using f4
    obtain ⟨hp,hx⟩:=hs.hp.setMap (es':=upE es n v) (ents':=ents.modify j fun e => { e with key:=.int .i64 n,val:=a.eval x }) (clock':=clock) hes (by simpa using f6 v (a.eval x) hr)
    refine post_skip ?_ hp hx (.tup .nil) h
    rcases ho with ho | ho <;> simp [execOp,ho,Instr.mapUpdate,run_underlying ht,e1,e2,cx,Go.MapKept.run_getObj_map g1,hck,hfk,Go.MapKept.run_setObj_map _ g1,hej,f5,hst]
  ·exact h.elim
 ·exact h.elim
theorem xop_sound {ao:AOp} (hs:SRel base st a w β) (hc:pU P o=some ao) (h:xop P st ao K):o.wp P a w (Post base st o a w β K) Q:=by
 unfold pU at hc
 split at hc
 ·rename_i x ho
  simp only [Option.map_eq_some_iff] at hc
  obtain ⟨y,hy,rfl⟩:=hc
  exact s_mv hs (.inl ho) hy h
 ·rename_i x ho
  simp only [Option.map_eq_some_iff] at hc
  obtain ⟨y,hy,rfl⟩:=hc
  exact s_mv hs (.inr ho) hy h
 ·rename_i ho
  split at hc <;> simp at hc
  subst hc
  exact s_pick hs ho (by assumption) (by assumption) (by assumption) h
 ·rename_i ho
  split at hc <;> simp at hc
  subst hc
  exact arun_last hs (s_box hs ho (by assumption) h)
 ·rename_i ho
  simp only [Option.map_eq_some_iff] at hc
  obtain ⟨i,hi,rfl⟩:=hc
  exact arun_last hs (s_alloc hs ho hi h)
 ·rename_i ho
  split at hc
  ·split at hc
   ·simp only [Option.map_eq_some_iff] at hc
    obtain ⟨qs,hq,rfl⟩:=hc
    exact s_build_struct hs ho (by assumption) (by assumption) (by assumption) hq h
   ·cases hc
  ·split at hc
   ·simp only [Option.map_eq_some_iff] at hc
    obtain ⟨qs,hq,rfl⟩:=hc
    exact s_build_array hs ho (by assumption) (by assumption) (by assumption) hq h
   ·cases hc
  ·cases hc
 ·rename_i ho
  split at hc
  ·split at hc
   ·split at hc
    ·simp only [Option.map_eq_some_iff] at hc
     obtain ⟨qs,hq,rfl⟩:=hc
     rcases h with h | h
     ·exact arun_last hs (s_buildSl hs ho (by assumption) (by assumption) (by assumption) hq h)
     ·unfold frzP at h
      split at h
      ·rename_i ds hds
       obtain ⟨us,hrun,hr,_⟩:=run_buildSl hs ho (by assumption) (by assumption) (by assumption) hq hds
       exact arun_frz hs hrun hr h
      ·exact h.elim
    ·cases hc
   ·cases hc
  ·cases hc
 ·rename_i ho
  split at hc <;> simp at hc
  subst hc
  exact s_load hs ho (by assumption) (by assumption) h
 ·rename_i ho
  split at hc <;> simp at hc
  subst hc
  exact s_store hs ho (by assumption) (by assumption) (by assumption) h
 ·rename_i ho
  split at hc
  ·exact compBin_sound hs ho (by assumption) (by assumption) hc h
  ·cases hc
 ·rename_i ho
  split at hc
  ·simp at hc
   subst hc
   exact s_neg hs ho (by assumption) h
  ·simp at hc
   subst hc
   exact s_not hs ho (by assumption) h
  ·split at hc
   ·simp at hc
    subst hc
    exact s_com hs ho (by assumption) h
   ·cases hc
  ·cases hc
 ·rename_i ho
  split at hc <;> simp at hc
  subst hc
  exact s_conv hs ho (by assumption) (by assumption) (by assumption) h
 ·rename_i ho
  split at hc
  ·split at hc
   ·split at hc
    ·split at hc <;> simp at hc
     subst hc
     exact s_faddr hs ho (by assumption) (by assumption) (by assumption) (by assumption) (by assumption) h
    ·cases hc
   ·cases hc
  ·cases hc
 ·rename_i ho
  split at hc
  ·split at hc
   ·simp only [Option.map_eq_some_iff] at hc
    obtain ⟨⟨agg,size⟩,hq,rfl⟩:=hc
    exact s_fld hs ho (by assumption) (by assumption) hq (by assumption) h
   ·cases hc
  ·cases hc
 ·rename_i ho
  split at hc
  ·simp only [Option.map_eq_some_iff] at hc
   obtain ⟨⟨agg,size⟩,hq,rfl⟩:=hc
   exact s_iaddr (arr:=none) hs ho (.inl ⟨rfl,by assumption⟩) hq (by assumption) (by assumption) h
  ·rename_i n e _ _ hu _ _
   simp only [Option.map_eq_some_iff] at hc
   obtain ⟨⟨agg,size⟩,hq,rfl⟩:=hc
   exact s_iaddr hs ho (.inr ⟨_,rfl,by assumption⟩) hq (by assumption) (by assumption) h
  ·cases hc
 ·rename_i ho
  split at hc
  ·simp only [Option.map_eq_some_iff] at hc
   obtain ⟨⟨agg,size⟩,hq,rfl⟩:=hc
   exact s_idx hs ho (by assumption) hq (by assumption) (by assumption) h
  ·simp at hc
   subst hc
   exact s_idxS hs ho (by assumption) (by assumption) (by assumption) h
  ·cases hc
 ·rename_i ho
  split at hc
  ·simp only [Option.map_eq_some_iff] at hc
   obtain ⟨⟨agg,size⟩,hq,rfl⟩:=hc
   exact s_slc hs ho (by assumption) hq (by assumption) (by assumption) (by assumption) (by assumption) h
  ·rename_i hmx
   simp only [Option.map_eq_some_iff] at hc
   obtain ⟨⟨agg,size⟩,hq,rfl⟩:=hc
   have hm:∀ m:Option Operand,uW m=some none→m=none:=fun m h => by
    cases m with
    | none => rfl
    | some z => simp [uW] at h
   have hm':=hm _ hmx
   subst hm'
   exact s_slcX hs ho (by assumption) hq (by assumption) (by assumption) (by assumption) h
  ·cases hc
 ·rename_i ho
  split at hc <;> simp at hc
  subst hc
  exact s_iface hs ho (by assumption) (by assumption) h
 ·rename_i ok ho
  split at hc
  ·split at hc
   ·split at hc
    ·rename_i hok
     simp only [Option.map_eq_some_iff] at hc
     obtain ⟨zs,hq,rfl⟩:=hc
     subst hok
     exact s_asrt hs ho (by assumption) (by assumption) (by assumption) hq (by assumption) h
    ·cases hc
   ·cases hc
  ·cases hc
 ·rename_i ho
  split at hc
  ·simp only [Option.map_eq_some_iff] at hc
   obtain ⟨i,hq,rfl⟩:=hc
   exact arun_last hs (s_mkSl hs ho (by assumption) hq (by assumption) (by assumption) h)
  ·cases hc
 ·rename_i ho
  simp only [Option.map_eq_some_iff] at hc
  obtain ⟨i,hq,rfl⟩:=hc
  exact s_ext hs ho hq h
 ·rename_i ho
  split at hc
  ·split at hc
   ·simp only [Option.map_eq_some_iff] at hc
    obtain ⟨i,hq,rfl⟩:=hc
    exact s_fnc hs ho (by assumption) hq h
   ·cases hc
  ·cases hc
 ·rename_i c ho
  split at hc
  ·split at hc <;> simp at hc
   subst hc
   exact s_call hs ho (by assumption) (by assumption) (by assumption) h
  ·split at hc
   ·split at hc <;> simp at hc
    subst hc
    exact s_len hs ho (by assumption) (by assumption) (by assumption) (by assumption) ⟨_,rfl⟩ (by assumption) h
   ·cases hc
  ·split at hc
   ·split at hc
    ·split at hc
     ·split at hc <;> simp at hc
      subst hc
      rcases h with h | h
      ·exact s_app hs ho (by assumption) (by assumption) (by assumption) (by assumption) (by assumption) (by assumption) (by assumption) (by assumption) (by assumption) h
      ·exact s_appI hs ho (by assumption) (by assumption) (by assumption) (by assumption) (by assumption) (by assumption) (by assumption) (by assumption) (by assumption) h
     ·cases hc
    ·cases hc
   ·cases hc
  ·split at hc
   ·split at hc <;> simp at hc
    subst hc
    exact s_mx hs ho (by assumption) (by assumption) (by assumption) (by assumption) h
   ·split at hc <;> simp at hc
    subst hc
    exact s_mx3 hs ho (by assumption) (by assumption) (by assumption) (by assumption) (by assumption) h
   ·cases hc
  ·split at hc
   ·split at hc <;> simp at hc
    subst hc
    exact s_mn hs ho (by assumption) (by assumption) (by assumption) (by assumption) h
   ·cases hc
  ·cases hc
 ·rename_i ho
  simp only [Option.map_eq_some_iff] at hc
  obtain ⟨i,hq,rfl⟩:=hc
  exact s_chkNil hs ho hq h
 ·rename_i ho
  split at hc
  ·split at hc <;> simp at hc
   subst hc
   exact s_mkMap hs ho h
  ·cases hc
 ·rename_i ho
  split at hc
  ·split at hc
   ·split at hc <;> simp at hc
    subst hc
    exact s_mapUp hs (.inl ho) (by assumption) (by assumption) (by assumption) (by assumption) (by assumption) h
   ·cases hc
  ·cases hc
 ·rename_i ho
  split at hc
  ·split at hc
   ·split at hc <;> simp at hc
    subst hc
    exact s_mapUp hs (.inr ho) (by assumption) (by assumption) (by assumption) (by assumption) (by assumption) h
   ·cases hc
  ·cases hc
 ·rename_i ho
  split at hc
  ·split at hc
   ·split at hc
    ·split at hc <;> simp at hc
     subst hc
     exact s_lookup hs ho (by assumption) (by assumption) (by assumption) (by assumption) (by assumption) (by assumption) (by assumption) h
    ·cases hc
   ·cases hc
  ·cases hc
 ·cases hc
end
end Go.Proofs.Ytokckcnfojjpjaa
