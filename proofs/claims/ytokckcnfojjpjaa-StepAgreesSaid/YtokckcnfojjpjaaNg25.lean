/-
  isoclinelaw19.StepAgrees returns true for every input, and the arguments read afterwards as they read before. Conditions: none.
-/
import Derived.Test.YtokckcnfojjpjaaNg22
import Derived.Test.YtokckcnfojjpjaaNg24
set_option linter.unusedVariables false
set_option linter.unusedSimpArgs false
namespace Go.Proofs.Ytokckcnfojjpjaa
open Go.ChangeShapes Go.WideShapes Go.ChangeAt Go.RowKit Go.Joins
def matB (P:Program) (t T:TypeId):Bool:=match P.underlying t with
 | some (.struct fs) => match fs.toList with
  | [f0,f1,f2] => Go.Deep.oneCellFields P fs && Nat.beq (P.cellsOf t) 3 && isI64 P f0.type && isI64 P f1.type && Nat.beq f2.type T
  | _ => false
 | _ => false
theorem matB_out {P:Program} {t T:TypeId} (h:matB P t T=true):∃ f0 f1 f2:Field,P.underlying t=some (.struct #[f0,f1,f2])∧Go.Deep.oneCellFields P #[f0,f1,f2]=true∧P.cellsOf t=3∧P.underlying f0.type=some (.int .i64)∧P.underlying f1.type=some (.int .i64)∧f2.type=T:=by
 unfold matB at h
 split at h
 ·rename_i fs hfs
  split at h
  ·rename_i f0 f1 f2 hl
   simp only [Bool.and_eq_true] at h
   obtain ⟨⟨⟨⟨h0,h1⟩,h2⟩,h3⟩,h4⟩:=h
   have e:fs=#[f0,f1,f2]:=Array.toList_inj.1 hl
   subst e
   exact ⟨f0,f1,f2,hfs,h0,Nat.eq_of_beq_eq_true h1,gJ h2,gJ h3,Nat.eq_of_beq_eq_true h4⟩
  ·cases h
 ·cases h
section
variable {H:Type} {enc:TypeId × Value→H} {P:Program} {w:World} {base:Nat} {spare:Nat→Bool} {held:Bool}
theorem trodAll_five' {t0 t1 t2 t3 t4:TypeId} {args:Array Value} {ds:List (DataW H)} {ps:List MemPlace} (h:DataW.TrodAll enc P w base spare held [t0,t1,t2,t3,t4] args.toList ds ps) :
  ∃ v0 v1 v2 v3 v4 d0 d1 d2 d3 d4 p0 p1 p2 p3 p4,args=#[v0,v1,v2,v3,v4]∧ds=[d0,d1,d2,d3,d4]∧ps=p0++p1++p2++p3++p4∧DataW.Trod enc P w base spare held t0 v0 d0 p0∧DataW.Trod enc P w base spare held t1 v1 d1 p1∧DataW.Trod enc P w base spare held t2 v2 d2 p2∧DataW.Trod enc P w base spare held t3 v3 d3 p3∧DataW.Trod enc P w base spare held t4 v4 d4 p4:=by
 obtain ⟨v0,vs0,d0,ds0,p0,q0,hargs,rfl,rfl,h0,r0⟩:=trodAll_cons h
 obtain ⟨v1,vs1,d1,ds1,p1,q1,rfl,rfl,rfl,h1,r1⟩:=trodAll_cons r0
 obtain ⟨v2,vs2,d2,ds2,p2,q2,rfl,rfl,rfl,h2,r2⟩:=trodAll_cons r1
 obtain ⟨v3,vs3,d3,ds3,p3,q3,rfl,rfl,rfl,h3,r3⟩:=trodAll_cons r2
 obtain ⟨v4,vs4,d4,ds4,p4,q4,rfl,rfl,rfl,h4,r4⟩:=trodAll_cons r3
 obtain ⟨rfl,rfl,rfl⟩:=trodAll_nil r4
 exact ⟨v0,v1,v2,v3,v4,d0,d1,d2,d3,d4,p0,p1,p2,p3,p4,by cases args; simp_all,rfl,by simp,h0,h1,h2,h3,h4⟩
theorem trodAll_mk5' {t0 t1 t2 t3 t4:TypeId} {v0 v1 v2 v3 v4:Value} {d0 d1 d2 d3 d4:DataW H} {p0 p1 p2 p3 p4:List MemPlace} (h0:DataW.Trod enc P w base spare held t0 v0 d0 p0) (h1:DataW.Trod enc P w base spare held t1 v1 d1 p1) (h2:DataW.Trod enc P w base spare held t2 v2 d2 p2)
  (h3:DataW.Trod enc P w base spare held t3 v3 d3 p3) (h4:DataW.Trod enc P w base spare held t4 v4 d4 p4) :
  DataW.TrodAll enc P w base spare held [t0,t1,t2,t3,t4] [v0,v1,v2,v3,v4] [d0,d1,d2,d3,d4] (p0++(p1++(p2++(p3++p4)))) :=
 ⟨p0,_,h0,⟨p1,_,h1,trodAll_mk3 h2 h3 h4,rfl⟩,rfl⟩
end
section
variable {H:Type} {enc:TypeId × Value→H} {P:Program} {w:World} {spare:Nat→Bool} {held:Bool}
theorem open_mat {α:Type} {E:El α} {t T te:TypeId} (mat:matB P t T=true) (sl:P.underlying T=some (.slice te)) (hC:P.cellsOf te=E.s) (el:Opens enc P w spare held E te) {r:Reach} {b0:Nat} {v:Value} {d:DataW H} {p:List MemPlace} (hv:Value.okWide P w r b0 t v) (h:DataW.Trod enc P w 0 spare held t v d p) :
  ∃ (a b:Int) (l:List α) (c:C),Ls E c l∧l.length<9223372036854775808∧RV (cx0 (fun _ => False) w) (.agg [iC a,iC b,c]) v:=by
 obtain ⟨f0,f1,f2,hs,hone,hC3,i0,i1,e2⟩:=matB_out mat
 obtain ⟨v0,v1,v2,y0,y1,y2,n,rfl,_,_,h0,h1,h2⟩:=open_agg3 hs hone hC3 hv h
 rw [e2] at h2
 obtain ⟨k,hk,_⟩:=DataW.trod_int i0 h0
 simp at hk
 subst hk
 obtain ⟨k1,hk,_⟩:=DataW.trod_int i1 h1
 simp at hk
 subst hk
 obtain ⟨l,c,hl,hll,rc⟩:=open_slC sl hC el h2
 exact ⟨k,k1,l,c,hl,hll,.agg (.cons (.int _ _) (.cons (.int _ _) (.cons rc .nil)))⟩
end
theorem mat_three:matB Try.prog T_api_Mat nT=true:=by kernel_rfl
theorem int_one:Try.prog.underlying T_int=some (.int .i64):=by kernel_rfl
theorem rv_int (z:Int) {c:Cx}:RV c (i64 z) (.int .i64 z):=.c (.int _ _)
set_option maxRecDepth 100000 in
theorem stepAgrees_lifted (os:Os) (started:os.Started) (H:Type) (enc:TypeId × Value→H) :
  ReturnsInHanded {} Try.checked os 4 .any (Rows.stepAgreesSpec.pre6 enc Try.prog Try.f4 Rows.stepAgreesRow.domain false) (Rows.stepAgreesSpec.post enc Try.prog Try.f4 false true false false):=by
 refine returnsInHanded_of_change (C:=Try.checked) own_none started (by kernel_rfl) Try.func4
  (ChangeSpec.witness6 (enc:=enc) (C:=Try.checked) false ⟨#[],#[.int .i64 0,.agg #[.int .i64 0,.int .i64 0,.slice none 0 0],.slice none 0 0,.agg #[.int .i64 0,.int .i64 0],.int .i64 0],[]⟩ 8 (by kernel_rfl) (by kernel_rfl) (by kernel_rfl) (by kernel_rfl)) ?_
 intro W base args ds gs before hval0 hW hcnd _
 have hval:∀ (j:Nat) t v,Try.f4.params[j]?=some t→args[j]?=some v→Value.okWide Try.prog W .any base t v:=hval0
 have hW':=hW
 obtain ⟨p,q,hA0,hV,rfl,hfz,hnd⟩:=hW
 have hA:DataW.TrodAll enc Try.prog W 0 (fun _ => true) true Try.f4.params.toList args.toList ds p:=hA0
 rw [Try.params4] at hA hval
 obtain ⟨v0,v1,v2,v3,v4,d0,d1,d2,d3,d4,p0,p1,p2,p3,p4,rfl,rfl,rfl,h0,h1,h2,h3,h4⟩:=trodAll_five' hA
 obtain ⟨rfl,rfl⟩:=trodVars_none hV
 have hlt:∀ x∈p0++p1++p2++p3++p4,x.block<W.heap.size:=fun x hx => hW'.lt x (by simpa using hx)
 obtain ⟨m,rfl⟩:=okWide_int int_one (hval 0 _ v0 rfl rfl)
 obtain ⟨R,Cc,W0,cV,hV1,hVl,rt1⟩:=open_mat mat_three rats_sl (by kernel_rfl) (opens_rat nK) (hval 1 _ v1 rfl rfl) h1
 obtain ⟨x,cx,hx,hxl,rt2⟩:=open_slV rats_sl (by kernel_rfl) (opens_rat nK) (hval 2 _ v2 rfl rfl) h2
 obtain ⟨h,rfl⟩:=open_rat nK (hval 3 _ v3 rfl rfl) h3
 obtain ⟨n,rfl⟩:=okWide_int int_one (hval 4 _ v4 rfl rfl)
 clear hA0 hval0
 refine ((law19_StepAgrees m R Cc n h hV1 hVl hx hxl).2.2 (fun _ => False) W [_,_,_,_,_] (fun _ h => h.elim) (.cons (rv_int m) (.cons rt1 (.cons rt2 (.cons (rv_rat h) (.cons (rv_int n) .nil)))))).mono ?_
 rintro e W' ⟨v,u,rfl,hu,hr,hq⟩
 obtain rfl:=hu
 obtain rfl:=rv_true hr
 have hb:=hq.below
 refine ⟨_,rfl,_,_,_,[],p0++(p1++(p2++(p3++p4))),[],hW',?_,?_,rfl,hb.frame _,fun h => by cases h⟩
 ·exact trodAll_mk1 (shut_bool (by kernel_rfl) true)
 ·exact trodAll_mk5' (Below.trod laid_out (by kernel_rfl) (of_decide_eq_true (by kernel_rfl)) h0 hb (fun x hx => hlt x (by simp [hx]))) (Below.trod laid_out (by kernel_rfl) (of_decide_eq_true (by kernel_rfl)) h1 hb (fun x hx => hlt x (by simp [hx]))) (Below.trod laid_out (by kernel_rfl) (of_decide_eq_true (by kernel_rfl)) h2 hb (fun x hx => hlt x (by simp [hx]))) (Below.trod laid_out (by kernel_rfl) (of_decide_eq_true (by kernel_rfl)) h3 hb (fun x hx => hlt x (by simp [hx]))) (Below.trod laid_out (by kernel_rfl) (of_decide_eq_true (by kernel_rfl)) h4 hb (fun x hx => hlt x (by simp [hx])))
theorem stepAgrees_holds:Rows.StepAgreesSaid :=
 OpenClaim.holds_of_wide 4 Try.f4 rfl rfl rfl rfl rfl rfl rfl ⟨rfl,rfl,rfl,rfl,rfl⟩ rfl rfl rfl rfl rfl (by kernel_rfl) Try.func4 (by kernel_rfl)
  (of_decide_eq_true (by kernel_rfl)) (by unfold Func.isWrapper; first | (rw [if_pos (by decide +kernel)]; kernel_rfl) | (rw [if_neg (by decide +kernel)]; exact ⟨rfl,rfl⟩))
  (fun os started H enc _ => stepAgrees_lifted os started H enc)
#print axioms stepAgrees_holds
end Go.Proofs.Ytokckcnfojjpjaa
