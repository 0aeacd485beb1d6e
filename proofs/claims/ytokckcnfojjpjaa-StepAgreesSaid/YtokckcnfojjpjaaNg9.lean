/-
  Parts of the proof: The steps of a region are sound in a world.
-/
import Derived.Test.YtokckcnfojjpjaaNg8
set_option linter.unusedVariables false
set_option linter.unusedSimpArgs false
namespace Go.Proofs.Ytokckcnfojjpjaa
open Go.RowKit
mutual
theorem R.hf {x y:Cx} (hw:y.w=x.w) (ho:∀ k,y.own k→x.own k):∀ {c:C} {v:Value},R x c v→HFC c→R y c v
 | _,_,.bool b,_ => .bool b
 | _,_,.int k n,_ => .int k n
 | _,_,.str s,_ => .str s
 | _,_,.nilSl,_ => .nilSl
 | _,_,.imm hn hc hr,h => .imm hn (fun j v hj => ⟨fun e => (hc j v hj).1 (ho _ e),by rw [hw]; exact (hc j v hj).2⟩) (hr.hf hw ho (by simpa [HFC] using h))
 | _,_,.sl _ _ _ _ _ _,h => by simp [HFC] at h
 | _,_,.nilPtr,_ => .nilPtr
 | _,_,.ptr _,h => by simp [HFC] at h
 | _,_,.ipt hc hr,h => .ipt (fun j v hj => ⟨fun e => (hc j v hj).1 (ho _ e),by rw [hw]; exact (hc j v hj).2⟩) (hr.hf hw ho (by simpa [HFC] using h))
 | _,_,.nilFn,_ => .nilFn
 | _,_,.fn hr,h => .fn (hr.hf hw ho (by simpa [HFC] using h))
 | _,_,.nilIface,_ => .nilIface
 | _,_,.ifaceC hr,h => .ifaceC (hr.hf hw ho (by simpa [HFC] using h))
 | _,_,.ifaceA hr,h => .ifaceA (hr.hf hw ho (by simpa [HFC] using h))
 | _,_,.mp _,h => by simp [HFC] at h
theorem RL.hf {x y:Cx} (hw:y.w=x.w) (ho:∀ k,y.own k→x.own k):∀ {cs:List C} {vs:List Value},RL x cs vs→HFL cs→RL y cs vs
 | _,_,.nil,_ => .nil
 | _,_,.cons h t,hh => .cons (h.hf hw ho (by simp [HFL] at hh; exact hh.1)) (t.hf hw ho (by simp [HFL] at hh; exact hh.2))
end
theorem RV.hf {x y:Cx} (hw:y.w=x.w) (ho:∀ k,y.own k→x.own k) {u:V} {v:Value} (h:RV x u v) (hh:HFV u):RV y u v:=by
 cases h with
 | c h => exact .c (h.hf hw ho hh)
 | agg h => exact .agg (h.hf hw ho hh)
 | tup h => exact hh.elim
theorem RVL.hf {x y:Cx} (hw:y.w=x.w) (ho:∀ k,y.own k→x.own k):∀ {us:List V} {vs:List Value},RVL x us vs→HFVs us→RVL y us vs
 | _,_,.nil,_ => .nil
 | _,_,.cons h t,hh => .cons (h.hf hw ho hh.1) (t.hf hw ho hh.2)
section
variable {P:Program} {base:Nat→Prop} {st:St} {o:Oper} {a:Act} {w:World} {β:Nat→Nat} {K:V→Hp→Prop} {Q:Exit→Act→World→Prop}
theorem semC_calls {f:FuncId} {us:List V} {vs:List Value} {K':V→Prop} (hp:HRel base w β st.H) (hv:RVL (cx base w β st.H) us vs) (h:semC P f us K') :
  Calls P f vs.toArray w fun e w' => ∃ (v:Value) (u:V) (β':Nat→Nat) (H':Hp),e=.returned v∧(K' u∧H'=st.H)∧HRel base w' β' H'∧Ext w β st.H w' β' H'∧RV (cx base w' β' H') u v:=by
 refine (h.2.2 (sU base β st.H) w vs (fun k hk => hp.own_lt hk) (RVL.hf (x:=cx base w β st.H) (y:=cx0 (sU base β st.H) w) rfl (fun k hk => hk) hv h.2.1)).mono ?_
 rintro e w' ⟨v,u,he,hk,hr,hq⟩
 obtain ⟨h1,h2⟩:=hp.quiet hq
 refine ⟨v,u,β,st.H,he,⟨hk,rfl⟩,h1,h2,RV.to (x:=cx0 (sU base β st.H) w') (y:=cx base w' β st.H) ⟨fun i hi => hi.elim,fun i hi => hi.elim,fun k _ hn => ⟨hn,rfl⟩,fun _ _ => rfl⟩ hr⟩
theorem s_callD {c:Call} {f:Operand} {g:AO} {ys:List AO} (hs:SRel base st a w β) (ho:o.op=.call c) (hc:c.callee=.value f) (h1:yY f=some g) (h2:jI c.args.toList=some ys) (h:cval P st.env g ys fun u => K u st.H):o.wp P a w (Post base st o a w β K) Q:=by
 unfold cval at h
 split at h
 ·rename_i fid caps us hf hus
  obtain ⟨vs,e1,hr⟩:=(yH hs h1 hf).c_inv.fn_inv
  have hargs:=evs_sound hs h2 hus
  have hall:=hargs.append hr.toV
  have hC:=semC_calls hs.hp hall h
  obtain ⟨fn,hfn,hname,hbody⟩:=h.1
  have hrun:(execOp a.eval o).run P w=.ok (.enter fid (c.args.toList.map a.eval++vs).toArray) w:=by
   have ha:(c.args.toList.map a.eval++vs).toArray=c.args.map a.eval++vs.toArray:=by
    apply Array.ext'
    simp
   rw [ha]
   have hn':¬ fn.name = "runtime.NumGoroutine":=by simpa using hname
   have hb':¬ fn.body=none:=by intro h0; rw [h0] at hbody; simp at hbody
   simp [execOp,ho,resolve,hc,e1,Deferred.ofValue,invoke,callFunc,hfn,hn',hb']
  unfold Oper.wp
  rw [hrun]
  refine hC.mono ?_
  rintro e w' ⟨v,u,β',H',rfl,⟨hK,rfl⟩,hp,hx,hv⟩
  exact ⟨v,u,β',_,rfl,hK,hp,hx,hv⟩
 ·exact h.elim
theorem compOp_call {f:AO} {ys:List AO} (hc:pU P o=some (.call f ys)):∃ (c:Call) (g:Operand),o.op=.call c∧c.callee=.value g∧yY g=some f∧jI c.args.toList=some ys:=by
 unfold pU at hc
 repeat' split at hc
 all_goals first
  | (simp at hc; done)
  | (simp at hc; obtain ⟨rfl,rfl⟩:=hc; exact ⟨_,_,by assumption,by assumption,by assumption,by assumption⟩)
  | (exfalso; unfold compBin at hc; (repeat' split at hc) <;> simp at hc; done)
  | (exfalso; simp only [Option.map_eq_some_iff] at hc; obtain ⟨_,_,hc⟩:=hc; cases hc; done)
  | skip
theorem aval_sound {ao:AOp} {i:Nat} {K':V→Box→Prop} (hs:SRel base st a w β) (hc:pU P o=some ao) (h:aval st.env i ao K'):ARun P base st o a w β i K':=by
 have fin:∀ {ao':AOp},ao'=ao→aval st.env i ao' K':=fun e => by rw [e]; exact h
 unfold pU at hc
 split at hc
 case h_4 =>
  rename_i ho
  split at hc <;> simp at hc
  exact s_box hs ho (by assumption) (fin hc)
 case h_5 =>
  rename_i ho
  simp only [Option.map_eq_some_iff] at hc
  obtain ⟨ti,hi,hc⟩:=hc
  exact s_alloc hs ho hi (fin hc)
 case h_7 =>
  rename_i ho
  split at hc
  ·split at hc
   ·split at hc
    ·simp only [Option.map_eq_some_iff] at hc
     obtain ⟨qs,hq,hc⟩:=hc
     exact s_buildSl hs ho (by assumption) (by assumption) (by assumption) hq (fin hc)
    ·cases hc
   ·cases hc
  ·cases hc
 case h_20 =>
  rename_i ho
  split at hc
  ·simp only [Option.map_eq_some_iff] at hc
   obtain ⟨i,hq,hc⟩:=hc
   exact s_mkSl hs ho (by assumption) hq (by assumption) (by assumption) (fin hc)
  ·cases hc
 all_goals
  exfalso
  (repeat' split at hc)
  all_goals first
   | (simp at hc; done)
   | (simp at hc; subst hc; exact h)
   | (simp only [Option.map_eq_some_iff] at hc; obtain ⟨_,_,hc⟩:=hc; subst hc; exact h)
   | (unfold compBin at hc; (repeat' split at hc) <;> first | (simp at hc; done) | (simp at hc; subst hc; exact h))
   | skip
theorem buildSl_run {elem:TypeId} {es len:Nat} {zero ds:List C} {ps:List (Nat × Nat × Bool × AO)} (hs:SRel base st a w β) (hc:pU P o=some (.buildSl elem es len zero ps)) (hds:pD st.env zero ps=some ds):∃ (e:TypeId) (us:List Value),(execOp a.eval o).run P w=.ok (.value (.slice (some ⟨w.heap.size,0,none⟩) len len)) (w.alloc (.cells us.toArray e (0,0)))∧RL (cx base w β st.H) ds us:=by
 unfold pU at hc
 split at hc
 case h_7 =>
  rename_i ho
  split at hc
  ·split at hc
   ·split at hc
    ·simp only [Option.map_eq_some_iff] at hc
     obtain ⟨qs,hq,hc⟩:=hc
     cases hc
     obtain ⟨us,h1,h2,_⟩:=run_buildSl hs ho (by assumption) (by assumption) (by assumption) hq hds
     exact ⟨_,us,h1,h2⟩
    ·cases hc
   ·cases hc
  ·cases hc
 all_goals
  exfalso
  (repeat' split at hc)
  all_goals first
   | (simp at hc; done)
   | (simp only [Option.map_eq_some_iff] at hc; obtain ⟨_,_,hc⟩:=hc; cases hc; done)
   | (unfold compBin at hc; (repeat' split at hc) <;> simp at hc; done)
   | skip
theorem xopD_sound {ao:AOp} {nid:Nat} (hs:SRel base st a w β) (hc:pU P o=some ao) (h:xopD P st nid ao K):o.wp P a w (Post base st o a w β K) Q:=by
 have al:∀ {ao':AOp},ao'=ao→aval st.env nid ao' (qX (fun b => st.H[b]?) nid fun v ef => K v (apE st.H ef))→o.wp P a w (Post base st o a w β K) Q:=by
  intro ao' e h'
  subst e
  by_cases hn:st.H[nid]?=some .unb
  ·refine arun_at hs hn (aval_sound hs hc ?_)
   have:(qX (fun b => st.H[b]?) nid fun v ef => K v (apE st.H ef))=fun v bx => K v (st.H.set nid (.live bx)):=by
    funext v bx
    simp only [qX,hn,apE]
   rwa [this] at h'
  ·exfalso
   obtain ⟨v,bx,hf,_⟩:=aval_det h'
   unfold qX at hf
   split at hf
   ·exact hn (by assumption)
   ·exact hf
 cases ao
 case call f ys =>
  obtain ⟨c,g,ho,hcal,h1,h2⟩:=compOp_call hc
  exact s_callD hs ho hcal h1 h2 h
 case box agg elem x => exact al rfl h
 case alloc elem zero => exact al rfl h
 case buildSl elem es len zero ps =>
  rcases h with h | h
  ·exact al rfl h
  ·unfold frzP at h
   split at h
   ·rename_i cs hcs
    obtain ⟨e,us,hrun,hr⟩:=buildSl_run hs hc hcs
    exact arun_frz hs hrun hr h
   ·exact h.elim
 case mkSl elem es bytes zero l c => exact al rfl h
 case app elem es bytes s x => exact h.elim
 case slcA len es x lo hi => exact h.elim
 case mkMap => exact h.elim
 case mapUp m k x => exact h.elim
 case lookup ok z m k => exact h.elim
 all_goals exact xop_sound hs hc h
def frzOp:AOp→AOp
 | .buildSl _ _ len zero ps => .frzSl len zero ps
 | op => op
theorem frzOp_cases (op:AOp):frzOp op=op∨∃ elem es len zero ps,op=.buildSl elem es len zero ps∧frzOp op=.frzSl len zero ps:=by
 cases op <;> first | exact .inl rfl | exact .inr ⟨_,_,_,_,_,rfl,rfl⟩
theorem frz_sound {elem:TypeId} {es len:Nat} {zero:List C} {ps:List (Nat × Nat × Bool × AO)} (hs:SRel base st a w β) (hc:pU P o=some (.buildSl elem es len zero ps)) (h:frzP st.env len zero ps fun v => K v st.H):o.wp P a w (Post base st o a w β K) Q:=by
 unfold frzP at h
 split at h
 ·rename_i cs hcs
  obtain ⟨e,us,hrun,hr⟩:=buildSl_run hs hc hcs
  exact arun_frz hs hrun hr h
 ·exact h.elim
theorem xopD_sound2 {ao ao0:AOp} {nid:Nat} (hs:SRel base st a w β) (hc:pU P o=some ao0) (ha:ao=ao0∨ao=frzOp ao0) (h:xopD P st nid ao K):o.wp P a w (Post base st o a w β K) Q:=by
 rcases ha with rfl | rfl
 ·exact xopD_sound hs hc h
 ·rcases frzOp_cases ao0 with he | ⟨elem,es,len,zero,ps,rfl,he⟩
  ·rw [he] at h
   exact xopD_sound hs hc h
  ·rw [he] at h
   exact frz_sound hs hc h
theorem xop_sound2 {ao ao0:AOp} (hs:SRel base st a w β) (hc:pU P o=some ao0) (ha:ao=ao0∨ao=frzOp ao0) (h:xop P st ao K):o.wp P a w (Post base st o a w β K) Q:=by
 rcases ha with rfl | rfl
 ·exact xop_sound hs hc h
 ·rcases frzOp_cases ao0 with he | ⟨elem,es,len,zero,ps,rfl,he⟩
  ·rw [he] at h
   exact xop_sound hs hc h
  ·rw [he] at h
   exact frz_sound hs hc h
end
end Go.Proofs.Ytokckcnfojjpjaa
