/-
  isoclinelaw19.StepRuns returns true for every input, and the arguments read afterwards as they read before. Conditions: what it reads is of bulk at most 1048576.
-/
import Derived.Test.YtokckcnfojjpjaaGreatNe22
import Derived.Test.YtokckcnfojjpjaaGreatNe24
import Derived.JoinedCond
set_option linter.unusedVariables false
set_option linter.unusedSimpArgs false
namespace Go.Proofs.YtokckcnfojjpjaaGreat
open Go.ChangeShapes Go.WideShapes Go.ChangeAt Go.RowKit Go.Joins
section
variable {H:Type} {enc:TypeId × Value→H} {P:Program} {w:World} {base:Nat} {spare:Nat→Bool} {held:Bool}
theorem trodAll_seven' {t0 t1 t2 t3 t4 t5 t6:TypeId} {args:Array Value} {ds:List (DataW H)} {ps:List MemPlace} (h:DataW.TrodAll enc P w base spare held [t0,t1,t2,t3,t4,t5,t6] args.toList ds ps) :
  ∃ v0 v1 v2 v3 v4 v5 v6 d0 d1 d2 d3 d4 d5 d6 p0 p1 p2 p3 p4 p5 p6,args=#[v0,v1,v2,v3,v4,v5,v6]∧ds=[d0,d1,d2,d3,d4,d5,d6]∧ps=p0++p1++p2++p3++p4++p5++p6∧DataW.Trod enc P w base spare held t0 v0 d0 p0∧DataW.Trod enc P w base spare held t1 v1 d1 p1∧DataW.Trod enc P w base spare held t2 v2 d2 p2∧DataW.Trod enc P w base spare held t3 v3 d3 p3∧DataW.Trod enc P w base spare held t4 v4 d4 p4∧DataW.Trod enc P w base spare held t5 v5 d5 p5∧DataW.Trod enc P w base spare held t6 v6 d6 p6:=by
 obtain ⟨v0,vs0,d0,ds0,p0,q0,hargs,rfl,rfl,h0,r0⟩:=trodAll_cons h
 obtain ⟨v1,vs1,d1,ds1,p1,q1,rfl,rfl,rfl,h1,r1⟩:=trodAll_cons r0
 obtain ⟨v2,vs2,d2,ds2,p2,q2,rfl,rfl,rfl,h2,r2⟩:=trodAll_cons r1
 obtain ⟨v3,vs3,d3,ds3,p3,q3,rfl,rfl,rfl,h3,r3⟩:=trodAll_cons r2
 obtain ⟨v4,vs4,d4,ds4,p4,q4,rfl,rfl,rfl,h4,r4⟩:=trodAll_cons r3
 obtain ⟨v5,vs5,d5,ds5,p5,q5,rfl,rfl,rfl,h5,r5⟩:=trodAll_cons r4
 obtain ⟨v6,vs6,d6,ds6,p6,q6,rfl,rfl,rfl,h6,r6⟩:=trodAll_cons r5
 obtain ⟨rfl,rfl,rfl⟩:=trodAll_nil r6
 exact ⟨v0,v1,v2,v3,v4,v5,v6,d0,d1,d2,d3,d4,d5,d6,p0,p1,p2,p3,p4,p5,p6,by cases args; simp_all,rfl,by simp,h0,h1,h2,h3,h4,h5,h6⟩
theorem trodAll_mk7' {t0 t1 t2 t3 t4 t5 t6:TypeId} {v0 v1 v2 v3 v4 v5 v6:Value} {d0 d1 d2 d3 d4 d5 d6:DataW H} {p0 p1 p2 p3 p4 p5 p6:List MemPlace} (h0:DataW.Trod enc P w base spare held t0 v0 d0 p0) (h1:DataW.Trod enc P w base spare held t1 v1 d1 p1) (h2:DataW.Trod enc P w base spare held t2 v2 d2 p2) (h3:DataW.Trod enc P w base spare held t3 v3 d3 p3) (h4:DataW.Trod enc P w base spare held t4 v4 d4 p4) (h5:DataW.Trod enc P w base spare held t5 v5 d5 p5) (h6:DataW.Trod enc P w base spare held t6 v6 d6 p6) :
  DataW.TrodAll enc P w base spare held [t0,t1,t2,t3,t4,t5,t6] [v0,v1,v2,v3,v4,v5,v6] [d0,d1,d2,d3,d4,d5,d6] (p0++(p1++(p2++(p3++(p4++(p5++p6)))))) :=
 ⟨p0,_,h0,⟨p1,_,h1,⟨p2,_,h2,⟨p3,_,h3,trodAll_mk3 h4 h5 h6,rfl⟩,rfl⟩,rfl⟩,rfl⟩
end
theorem int_one:Tryz.prog.underlying T_int=some (.int .i64):=by kernel_rfl
theorem rv_int (z:Int) {c:Cx}:RV c (i64 z) (.int .i64 z):=.c (.int _ _)
set_option maxRecDepth 100000 in
theorem stepRuns_lifted (os:Os) (started:os.Started) (H:Type) (enc:TypeId × Value→H) (F:Stop.Interp) :
  ReturnsInHanded {} Tryz.checked os 4 .any ((Rows.OpenSpec.upto Rows.stepRunsSpec).pre6 enc Tryz.prog Tryz.f4 Rows.stepRunsUptoRow.domain false) (((Rows.OpenSpec.upto Rows.stepRunsSpec).at F).post enc Tryz.prog Tryz.f4 false true false false):=by
 refine returnsInHanded_of_cond (C:=Tryz.checked) (s:=Rows.OpenSpec.upto Rows.stepRunsSpec) (k:=Rows.uptoSmall) rfl own_none started (by kernel_rfl) Tryz.func4
  (OpenSpec.witness (enc:=enc) (C:=Tryz.checked) (s:=Rows.OpenSpec.upto Rows.stepRunsSpec) (k:=Rows.uptoSmall) rfl false ⟨#[],#[.int .i64 0,.slice none 0 0,.agg #[.int .i64 0,.int .i64 0],.slice none 0 0,.agg #[.int .i64 0,.int .i64 0],.int .i64 0,.int .i64 0],[]⟩ 8 (by kernel_rfl) (by kernel_rfl) (by kernel_rfl)
   (x:=([.lit (.int .i64 0),.nil,.agg [.lit (.int .i64 0),.lit (.int .i64 0)],.nil,.agg [.lit (.int .i64 0),.lit (.int .i64 0)],.lit (.int .i64 0),.lit (.int .i64 0)],[],[])) (by kernel_rfl) rfl (by kernel_rfl)) ?_
 intro W base args ds gs before hval0 hW _ hkb _
 have hval:∀ (j:Nat) t v,Tryz.f4.params[j]?=some t→args[j]?=some v→Value.okWide Tryz.prog W .any base t v:=hval0
 have hW':=hW
 obtain ⟨p,q,hA0,hV,rfl,hfz,hnd⟩:=hW
 have hA:DataW.TrodAll enc Tryz.prog W 0 (fun _ => true) true Tryz.f4.params.toList args.toList ds p:=hA0
 rw [Tryz.params4] at hA hval
 obtain ⟨v0,v1,v2,v3,v4,v5,v6,d0,d1,d2,d3,d4,d5,d6,p0,p1,p2,p3,p4,p5,p6,rfl,rfl,rfl,h0,h1,h2,h3,h4,h5,h6⟩:=trodAll_seven' hA
 obtain ⟨rfl,rfl⟩:=trodVars_none hV
 have hbk:Rows.uptoBulkAll ([d0,d1,d2,d3,d4,d5,d6]++[])≤1048576:=of_decide_eq_true hkb
 have hb1:Rows.uptoBulk d1≤1048576:=Nat.le_trans (mL (by simp)) hbk
 have hlt:∀ x∈p0++p1++p2++p3++p4++p5++p6,x.block<W.heap.size:=fun x hx => hW'.lt x (by simpa using hx)
 obtain ⟨m,rfl⟩:=okWide_int int_one (hval 0 _ v0 rfl rfl)
 obtain ⟨f,cf,hf,hfl,_,hfQ,rt1⟩:=openN_slV sys_sl (by kernel_rfl) opensN_sys (hval 1 _ v1 rfl rfl) h1 hb1
 obtain ⟨t,rfl⟩:=open_rat gK (hval 2 _ v2 rfl rfl) h2
 obtain ⟨x,cx,hx,hxl,rt3⟩:=open_slV rats_sl (by kernel_rfl) (opens_rat gK) (hval 3 _ v3 rfl rfl) h3
 obtain ⟨h,rfl⟩:=open_rat gK (hval 4 _ v4 rfl rfl) h4
 obtain ⟨g,rfl⟩:=okWide_int int_one (hval 5 _ v5 rfl rfl)
 obtain ⟨n,rfl⟩:=okWide_int int_one (hval 6 _ v6 rfl rfl)
 clear hA0 hval0
 have hS:qY f:=fun p hp t ht => by
  have:=hfQ p hp t ht
  omega
 refine ((law19_StepRuns m t h g n hS hf hfl hx hxl).2.2 (fun _ => False) W [_,_,_,_,_,_,_] (fun _ h => h.elim) (.cons (rv_int m) (.cons rt1 (.cons (rv_rat t) (.cons rt3 (.cons (rv_rat h) (.cons (rv_int g) (.cons (rv_int n) .nil)))))))).mono ?_
 rintro e W' ⟨v,u,rfl,hu,hr,hq⟩
 obtain rfl:=hu
 obtain rfl:=rv_true hr
 have hb:=hq.below
 refine ⟨_,rfl,_,_,_,[],p0++(p1++(p2++(p3++(p4++(p5++p6))))),[],hW',?_,?_,rfl,hb.frame _,fun h => by cases h⟩
 ·exact trodAll_mk1 (shut_bool (by kernel_rfl) true)
 ·exact trodAll_mk7' (Below.trod bZ (by kernel_rfl) (of_decide_eq_true (by kernel_rfl)) h0 hb (fun x hx => hlt x (by simp [hx])))
   (Below.trod bZ (by kernel_rfl) (of_decide_eq_true (by kernel_rfl)) h1 hb (fun x hx => hlt x (by simp [hx])))
   (Below.trod bZ (by kernel_rfl) (of_decide_eq_true (by kernel_rfl)) h2 hb (fun x hx => hlt x (by simp [hx])))
   (Below.trod bZ (by kernel_rfl) (of_decide_eq_true (by kernel_rfl)) h3 hb (fun x hx => hlt x (by simp [hx])))
   (Below.trod bZ (by kernel_rfl) (of_decide_eq_true (by kernel_rfl)) h4 hb (fun x hx => hlt x (by simp [hx])))
   (Below.trod bZ (by kernel_rfl) (of_decide_eq_true (by kernel_rfl)) h5 hb (fun x hx => hlt x (by simp [hx])))
   (Below.trod bZ (by kernel_rfl) (of_decide_eq_true (by kernel_rfl)) h6 hb (fun x hx => hlt x (by simp [hx])))
theorem stepRunsUpto_holds:Rows.StepRunsUptoSaid :=
 OpenClaim.holds_of_cond 4 Tryz.f4 rfl rfl rfl rfl rfl rfl rfl ⟨rfl,rfl,rfl,rfl,rfl⟩ rfl rfl rfl rfl rfl (by kernel_rfl) Tryz.func4 (by kernel_rfl)
  (of_decide_eq_true (by kernel_rfl)) (by unfold Func.isWrapper; first | (rw [if_pos (by decide +kernel)]; kernel_rfl) | (rw [if_neg (by decide +kernel)]; exact ⟨rfl,rfl⟩))
  (fun os started H enc _ F => stepRuns_lifted os started H enc F)
#print axioms stepRunsUpto_holds
end Go.Proofs.YtokckcnfojjpjaaGreat
