/-
  Parts of the proof: Words: what a list of words is worth, and steps of abstract code over them.
-/
import Derived.Test.YtokckcnfojjpjaaNg16
import Derived.Lib.Mul64
import Derived.Laws.Bits64b
import Derived.Lib.Tables
set_option linter.unusedVariables false
set_option linter.unusedSimpArgs false
namespace Go.Proofs.Ytokckcnfojjpjaa
open Go.RowKit
def W (x:Nat):C:=.int .u32 x
def i64 (n:Int):V:=.c (.int .i64 n)
def val:List Nat→Nat
 | [] => 0
 | x :: r => x+4294967296*val r
def at0 (l:List Nat) (i:Nat):Nat:=l.getD i 0
def OkW (l:List Nat):Prop:=∀ x∈l,x<4294967296
inductive Wd:C→List Nat→Prop
 | nil:Wd .nilSl []
 | imm (l:List Nat):Wd (.imm l.length (l.map W)) l
def sgn (n:Int):Int:=if n<0 then -1 else if n=0 then 0 else 1
theorem bW:∀ l:List Nat,HFL (l.map W)
 | [] => trivial
 | x :: r => ⟨trivial,bW r⟩
theorem Wd.hf {c:C} {l:List Nat} (h:Wd c l):HFC c:=by
 cases h
 ·trivial
 ·exact bW _
theorem OkW.cons {x:Nat} {l:List Nat} (h:OkW (x :: l)):x<4294967296∧OkW l:=⟨h x (by simp),fun y hy => h y (by simp [hy])⟩
theorem OkW.drop {l:List Nat} (h:OkW l) (n:Nat):OkW (l.drop n):=fun x hx => h x (List.mem_of_mem_drop hx)
theorem OkW.take {l:List Nat} (h:OkW l) (n:Nat):OkW (l.take n):=fun x hx => h x (List.mem_of_mem_take hx)
theorem OkW.get {l:List Nat} (h:OkW l) (i:Nat):at0 l i<4294967296:=by
 unfold at0
 rw [List.getD_eq_getElem?_getD]
 cases hi:l[i]? with
 | none => simp
 | some x => exact h x (List.mem_of_getElem? hi)
theorem sP:∀ {l:List Nat},OkW l→val l<4294967296 ^ l.length
 | [],_ => by simp [val]
 | x :: r,h => by
  have h1:=sP h.cons.2
  have h2:=h.cons.1
  simp only [val,List.length_cons,Nat.pow_succ]
  have:val r+1≤4294967296 ^ r.length:=h1
  have:=Nat.mul_le_mul_left 4294967296 this
  omega
theorem uZ:∀ (a b:List Nat),val (a++b)=val a+4294967296 ^ a.length*val b
 | [],b => by simp [val]
 | x :: r,b => by
  simp only [List.cons_append,val,uZ r b,List.length_cons,Nat.pow_succ]
  rw [Nat.mul_add,←Nat.add_assoc,Nat.mul_comm _ 4294967296,Nat.mul_assoc]
theorem sX (l:List Nat) (i:Nat):val l=val (l.take i)+4294967296 ^ (l.take i).length*val (l.drop i):=by
 rw [←uZ,List.take_append_drop]
theorem uY {l:List Nat} {i:Nat} (h:i<l.length):l.drop i=at0 l i :: l.drop (i+1):=by
 unfold at0
 rw [List.drop_eq_getElem_cons h]
 congr 1
 simp [List.getD_eq_getElem?_getD,h]
theorem val_less {a b:List Nat} {i:Nat} (ha:OkW a) (hb:OkW b) (hl:a.length=b.length) (hi:i<a.length) (hd:a.drop (i+1)=b.drop (i+1)) (h:at0 a i<at0 b i):val a<val b:=by
 rw [sX a i,sX b i,uY hi,uY (l:=b) (by omega),hd]
 have h1:=sP (ha.take i)
 have e1:(a.take i).length=i:=by simp; omega
 have e2:(b.take i).length=i:=by simp; omega
 rw [e1] at h1 ⊢
 rw [e2]
 simp only [val]
 have h3:at0 a i+4294967296*val (b.drop (i+1))+1≤at0 b i+4294967296*val (b.drop (i+1)):=by omega
 have h4:=Nat.mul_le_mul_left (4294967296 ^ i) h3
 rw [Nat.mul_add] at h4
 omega
theorem vK {x:Option V} {c:C} {l:List Nat} {K:V→Prop} (h:x=some (.c c)) (hc:Wd c l) (k:K (.c (.int .i64 l.length))):qLen x K:=by
 subst h
 cases hc
 ·exact wD rfl k
 ·exact wE rfl k
theorem wW {x i:Option V} {c:C} {l:List Nat} {K:V→Prop} {k:IntKind} {n:Int} (h:x=some (.c c)) (h2:i=some (.c (.int k n))) (hc:Wd c l) (h3:0≤n) (h4:n<l.length) (hk:K (.c (.ipt ((l.map W).drop n.toNat)))):qIad none 1 x i K:=by
 subst h h2
 cases hc with
 | nil => simp at h4; omega
 | imm => exact vD rfl rfl h3 h4 (by simpa using hk)
theorem uJ {size:Nat} {K:V→Prop} {l:List Nat} {n:Int} (h4:n<l.length) (h3:0≤n) (k:K (.c (.int .u32 (at0 l n.toNat:Nat)))):yI ((l.map W).drop n.toNat) false size K:=by
 have hlt:n.toNat<l.length:=by omega
 refine yC (c:=W (l.getD n.toNat 0)) ?_ k
 simp [List.getElem?_drop,List.getD_eq_getElem?_getD,hlt]
theorem slc_wd {e:Env} {x:Option V} {lo hi:Option AO} {c:C} {l:List Nat} {a b:Int} {K:V→Prop} (h:x=some (.c c)) (hc:Wd c l) (h1:bnd e 0 lo=some a) (h2:bnd e l.length hi=some b) (h3:0≤a) (h4:a≤b) (h5:b≤l.length)
  (k:∀ c',Wd c' ((l.drop a.toNat).take (b.toNat - a.toNat))→K (.c c')):qSlc e 1 x lo hi none K:=by
 subst h
 cases hc with
 | nil =>
  simp only [List.length_nil] at h2 h5
  have h2':bnd e 0 hi=some b:=by simpa using h2
  simp only [qSlc,h1,h2']
  refine xF (by simp; omega) (k _ (by simpa using .nil))
 | imm =>
  simp only [qSlc,h1,h2]
  refine xF (by simp; omega) (k _ ?_)
  have e1:((l.drop a.toNat).take (b.toNat - a.toNat)).length=b.toNat - a.toNat:=by simp; omega
  have e2:((l.map W).drop (a.toNat*1)).take ((b.toNat - a.toNat)*1)=((l.drop a.toNat).take (b.toNat - a.toNat)).map W:=by simp [List.map_take,List.map_drop]
  rw [e2]
  have:=Wd.imm ((l.drop a.toNat).take (b.toNat - a.toNat))
  rwa [e1] at this
theorem val_last {l:List Nat} (h:0<l.length) (h0:at0 l (l.length - 1)=0):val (l.take (l.length - 1))=val l:=by
 rw [sX l (l.length - 1),uY (by omega),h0]
 have:l.length - 1+1=l.length:=by omega
 rw [this,List.drop_length]
 simp [val]
theorem yG {n:Int} (h1:-9223372036854775808≤n) (h2:n<9223372036854775808):IntKind.i64.wrap n=n:=by
 have e:IntKind.i64.wrap n=if n % 18446744073709551616≥9223372036854775808 then n % 18446744073709551616 - 18446744073709551616 else n % 18446744073709551616:=by
  simp [IntKind.wrap,IntKind.bits,IntKind.signed]
 rw [e]
 split <;> omega
theorem wrap_i64' (n:Int):IntKind.i64.wrap n=if n % 18446744073709551616≥9223372036854775808 then n % 18446744073709551616 - 18446744073709551616 else n % 18446744073709551616:=by
 simp [IntKind.wrap,IntKind.bits,IntKind.signed]
theorem wF (n:Int):IntKind.u64.wrap n=n % 18446744073709551616:=by simp [IntKind.wrap,IntKind.bits,IntKind.signed]
theorem xN (n:Int):IntKind.u32.wrap n=n % 4294967296:=by simp [IntKind.wrap,IntKind.bits,IntKind.signed]
theorem xD {k:IntKind} {a b:Int}:arith .add k a b=k.wrap (a+b):=rfl
theorem uP {k:IntKind} {a b:Int}:arith .sub k a b=k.wrap (a - b):=rfl
theorem ar_mul {k:IntKind} {a b:Int}:arith .mul k a b=k.wrap (a*b):=rfl
theorem vU {p:BK→Prop} {H:Hp} {b n:Nat} {co:Option Nat} {bx:Box} (l:List Nat) (hb:H[b]?=some (.live bx)) (hk:p bx.kind) (hk':bx.kind≠.bor) (hn:n=l.length) (hc:bx.cells.take n=l.map W):Fz p H (.sl b 0 n co 1) (.imm l.length (l.map W)):=by
 subst hn
 refine .sl hb hk hk' ?_
 simp only [List.drop_zero,Nat.mul_one]
 rw [hc]
 exact .hf (bW l)
theorem yF (l:List Nat) (i:Nat):val (l.take (i+1))=val (l.take i)+4294967296 ^ i*at0 l i:=by
 rcases Nat.lt_or_ge i l.length with h | h
 ·rw [List.take_add_one,uZ]
  have e:l[i]?.toList=[at0 l i]:=by simp [at0,h]
  rw [e]
  have e2:(l.take i).length=i:=by simp; omega
  rw [e2]
  simp [val]
 ·rw [List.take_of_length_le (by omega),List.take_of_length_le h]
  have:at0 l i=0:=by simp [at0,h]
  rw [this]
  simp
theorem at0_ge {l:List Nat} {i:Nat} (h:l.length≤i):at0 l i=0:=by simp [at0,h]
def OutB (H:Hp) (b:Nat) (el:TypeId) (out:List Nat):Prop:=∃ cells,H[b]?=some (.live ⟨cells,el,.rw⟩)∧cells.take out.length=out.map W
theorem out_le {out:List Nat} {cells:List C} (h:cells.take out.length=out.map W):out.length≤cells.length:=by
 have:=congrArg List.length h
 simp at this
 omega
theorem pF {H:Hp} {el:TypeId} {s x:Option V} {K:V→Hp→Prop} {b n:Nat} {co co':Option Nat} {out:List Nat} {cs:List C} {y:Nat} (h:s=some (.c (.sl b 0 n co 1))) (h2:x=some (.c (.sl H.length 0 1 co' 1))) (ho:OutB H b el out) (hn:n=out.length) (hc:cs=[W y]) (hl:out.length<4294967296)
  (k:∀ H' b',OutB H' b' el (out++[y])→K (.c (.sl b' 0 (out.length+1) none 1)) H'):appX (H++[.live ⟨cs,el,.rw⟩]) el 1 4 s x K:=by
 subst hn hc
 obtain ⟨cells,hb,hcells⟩:=ho
 have hlt:=lt_of_getElem? hb
 have hle:=out_le hcells
 refine app_sl (cs:=cells) (xs:=[W y]) (m:=1) h h2 (by simp [sR]) rfl rfl (by rw [List.getElem?_append_left hlt]; exact hb) (by omega) (by omega) (by omega) (k _ _ ⟨cells.take (out.length*1)++[W y],by simp,?_⟩)
 rw [Nat.mul_one,hcells,←List.map_singleton,←List.map_append]
 exact List.take_of_length_le (by simp)
theorem fz_out {p:BK→Prop} {H:Hp} {b n:Nat} {co:Option Nat} {el:TypeId} {out:List Nat} (h:OutB H b el out) (hn:n=out.length) (hp:p .rw):Fz p H (.sl b 0 n co 1) (.imm out.length (out.map W)):=by
 obtain ⟨cells,hb,hc⟩:=h
 exact vU out hb hp (by simp) hn (by rw [hn]; exact hc)
theorem yS {P:Program} {f:FuncId} {args:List V} {K' K:V→Prop} (h:semC P f args K') (k:∀ u,K' u→K u):semC P f args K:=uO k h
attribute [local irreducible] yA semH semC qLen qNil qIad qSlc qIdx yW yI xA appX appI slcX awpF yP xH xopF xM qval lval seqQ xJ xY xU xR cnd arith IntKind.wrap
structure Held (B:Prop):Prop where
 out:B
theorem go {A B:Prop} (k:B) (h:Held B→A:=by
 intro hgo
 repeat (first | (refine g_o ?_; first | (refine o_some ?_; try (first | (refine x_q (by rfl) ?_; try (first | refine q_mv (by rfl) ?_ | refine wZ (by rfl) ?_ | (refine tJ ?_; try (first | refine vK (by rfl) (by assumption) ?_ | refine vL (by rfl) ?_ | refine wE (by rfl) ?_ | refine wD (by rfl) ?_)) | (refine tL ?_; try (first | refine wW (by rfl) (by rfl) (by assumption) (by omega) (by omega) ?_)) | refine q_cm (by rfl) (by rfl) ?_ | refine q_ar (by rfl) (by rfl) (by rfl) ?_ | refine vW (by rfl) ?_ | (refine tP ?_; try (first | refine wP (by rfl) ?_ | refine wQ (by rfl) ?_ | refine vM (by rfl) ?_)) | refine tO (by rfl) (by rfl) ?_ | refine wY (by rfl) ?_ | refine vA (by rfl) ?_ | refine tF (by rfl) (by rfl) (by first | decide | omega) ?_ | refine tE (by rfl) (by rfl) (by first | decide | omega) ?_ | refine tQ (by rfl) (by rfl) ?_ | refine tR (by rfl) (by rfl) (by rfl) ?_ | refine tH (by rfl) ?_ | refine tG (by rfl) ?_ | refine wG (by rfl) (by rfl) ?_ | refine wH (by rfl) (by rfl) ?_ | refine tD ?_ | refine tK ?_ | refine tN (by rfl) (by rfl) ?_ | refine vV (by rfl) (by rfl) ?_ | refine wJ (by rfl) ?_ | refine q_mx (by rfl) (by rfl) ?_ | refine q_mn (by rfl) (by rfl) ?_ | refine tI (by rfl) (by rfl) (by rfl) ?_ | refine tM (by rfl) ?_ | refine vX (by rfl) ?_ | refine vY (by rfl) ?_ | refine wI (by rfl) ?_ | refine vB (by rfl) (by rfl) ?_ | refine vC (by rfl) (by rfl) ?_)) | (refine bC ?_; try (first | (refine tS (by rfl) ?_; try (first | refine yU (by rfl) (by rfl) ?_ | refine yM (by rfl) (by rfl) ?_)) | (refine tT (by rfl) ?_; try (first | refine uJ (by omega) (by omega) ?_)))) | (refine pQ (by rfl) (by rfl) ?_; try (first | refine xC (by rfl) (by rfl) (by rfl) (by decide) ?_)) | refine jX (by rfl) (by rfl) ?_ | refine x_box (by rfl) (by rfl) ?_ | refine jO ?_ | refine gF (by rfl) ?_ | refine x_app ?_ | refine bB ?_ | refine jM ?_ | refine jN (by rfl) (by rfl) (by rfl) (by rfl) ?_ | refine qZ (by rfl) (by rfl) (by rfl) ?_)) | (refine o_nil ?_; try (first | refine s_n ?_ | refine s_r ?_ | refine s_e ?_ | refine k_n ?_ | refine k_r ?_ | refine k_e (by rfl) ?_ | refine k_o (by rfl) ?_ | refine l_r ?_ | refine l_e ?_ | refine b_r ?_ | refine b_n ?_)) | refine o_guard (by rfl) ?_ | refine o_guardT (by rfl) ?_ | refine o_none ?_ | refine o_guardN (by rfl) ?_) | (refine g_f ?_; first | refine f_seq ?_ | refine f_reg ?_ | (refine f_cond (by rfl) ?_; try (first | refine c_t (by rfl) ?_ | refine c_f (by rfl) ?_)) | refine f_block ?_ | refine f_skip ?_ | refine f_ret ?_ | refine f_exit ?_ | refine f_regD0 ?_ | refine f_regD ?_) | (refine g_s ?_; first | refine s_n ?_ | refine s_r ?_ | refine s_e ?_) | (refine g_d ?_; first | (refine jZ (T:=none) (by rfl) (by rfl) ?_; try (first | (refine xd_q (by rfl) ?_; try (first | refine q_mv (by rfl) ?_ | refine wZ (by rfl) ?_ | (refine tJ ?_; try (first | refine vK (by rfl) (by assumption) ?_ | refine vL (by rfl) ?_ | refine wE (by rfl) ?_ | refine wD (by rfl) ?_)) | (refine tL ?_; try (first | refine wW (by rfl) (by rfl) (by assumption) (by omega) (by omega) ?_)) | refine q_cm (by rfl) (by rfl) ?_ | refine q_ar (by rfl) (by rfl) (by rfl) ?_ | refine vW (by rfl) ?_ | (refine tP ?_; try (first | refine wP (by rfl) ?_ | refine wQ (by rfl) ?_ | refine vM (by rfl) ?_)) | refine tO (by rfl) (by rfl) ?_ | refine wY (by rfl) ?_ | refine vA (by rfl) ?_ | refine tF (by rfl) (by rfl) (by first | decide | omega) ?_ | refine tE (by rfl) (by rfl) (by first | decide | omega) ?_ | refine tQ (by rfl) (by rfl) ?_ | refine tR (by rfl) (by rfl) (by rfl) ?_ | refine tH (by rfl) ?_ | refine tG (by rfl) ?_ | refine wG (by rfl) (by rfl) ?_ | refine wH (by rfl) (by rfl) ?_ | refine tD ?_ | refine tK ?_ | refine tN (by rfl) (by rfl) ?_ | refine vV (by rfl) (by rfl) ?_ | refine wJ (by rfl) ?_ | refine q_mx (by rfl) (by rfl) ?_ | refine q_mn (by rfl) (by rfl) ?_ | refine tI (by rfl) (by rfl) (by rfl) ?_ | refine tM (by rfl) ?_ | refine vX (by rfl) ?_ | refine vY (by rfl) ?_ | refine wI (by rfl) ?_ | refine vB (by rfl) (by rfl) ?_ | refine vC (by rfl) (by rfl) ?_)) | (refine sL ?_; try (first | (refine tS (by rfl) ?_; try (first | refine yU (by rfl) (by rfl) ?_ | refine yM (by rfl) (by rfl) ?_)) | (refine tT (by rfl) ?_; try (first | refine uJ (by omega) (by omega) ?_)))) | (refine uQ (by rfl) (by rfl) ?_; try (first | refine xC (by rfl) (by rfl) (by rfl) (by decide) ?_)) | refine sM (by rfl) (by rfl) ?_ | refine pJ (by rfl) (by rfl) (by rfl) ?_ | refine uR (by rfl) ?_ | refine sO (by rfl) (by rfl) ?_)) | (refine jZ (by rfl) (by rfl) ?_; try (first | (refine xd_q (by rfl) ?_; try (first | refine q_mv (by rfl) ?_ | refine wZ (by rfl) ?_ | (refine tJ ?_; try (first | refine vK (by rfl) (by assumption) ?_ | refine vL (by rfl) ?_ | refine wE (by rfl) ?_ | refine wD (by rfl) ?_)) | (refine tL ?_; try (first | refine wW (by rfl) (by rfl) (by assumption) (by omega) (by omega) ?_)) | refine q_cm (by rfl) (by rfl) ?_ | refine q_ar (by rfl) (by rfl) (by rfl) ?_ | refine vW (by rfl) ?_ | (refine tP ?_; try (first | refine wP (by rfl) ?_ | refine wQ (by rfl) ?_ | refine vM (by rfl) ?_)) | refine tO (by rfl) (by rfl) ?_ | refine wY (by rfl) ?_ | refine vA (by rfl) ?_ | refine tF (by rfl) (by rfl) (by first | decide | omega) ?_ | refine tE (by rfl) (by rfl) (by first | decide | omega) ?_ | refine tQ (by rfl) (by rfl) ?_ | refine tR (by rfl) (by rfl) (by rfl) ?_ | refine tH (by rfl) ?_ | refine tG (by rfl) ?_ | refine wG (by rfl) (by rfl) ?_ | refine wH (by rfl) (by rfl) ?_ | refine tD ?_ | refine tK ?_ | refine tN (by rfl) (by rfl) ?_ | refine vV (by rfl) (by rfl) ?_ | refine wJ (by rfl) ?_ | refine q_mx (by rfl) (by rfl) ?_ | refine q_mn (by rfl) (by rfl) ?_ | refine tI (by rfl) (by rfl) (by rfl) ?_ | refine tM (by rfl) ?_ | refine vX (by rfl) ?_ | refine vY (by rfl) ?_ | refine wI (by rfl) ?_ | refine vB (by rfl) (by rfl) ?_ | refine vC (by rfl) (by rfl) ?_)) | (refine sL ?_; try (first | (refine tS (by rfl) ?_; try (first | refine yU (by rfl) (by rfl) ?_ | refine yM (by rfl) (by rfl) ?_)) | (refine tT (by rfl) ?_; try (first | refine uJ (by omega) (by omega) ?_)))) | (refine uQ (by rfl) (by rfl) ?_; try (first | refine xC (by rfl) (by rfl) (by rfl) (by decide) ?_)) | refine sM (by rfl) (by rfl) ?_ | refine pJ (by rfl) (by rfl) (by rfl) ?_ | refine uR (by rfl) ?_ | refine sO (by rfl) (by rfl) ?_)) | (refine d_nil ?_; try (first | refine s_n ?_ | refine s_r ?_ | refine s_e ?_ | refine k_n ?_ | refine k_r ?_ | refine k_e (by rfl) ?_ | refine k_o (by rfl) ?_ | refine l_r ?_ | refine l_e ?_ | refine b_r ?_ | refine b_n ?_)) | refine d_none (by rfl) (by rfl) ?_ | refine d_guard (by rfl) (by rfl) (by rfl) ?_) | (refine g_x ?_; first | (refine x_q (by rfl) ?_; try (first | refine q_mv (by rfl) ?_ | refine wZ (by rfl) ?_ | (refine tJ ?_; try (first | refine vK (by rfl) (by assumption) ?_ | refine vL (by rfl) ?_ | refine wE (by rfl) ?_ | refine wD (by rfl) ?_)) | (refine tL ?_; try (first | refine wW (by rfl) (by rfl) (by assumption) (by omega) (by omega) ?_)) | refine q_cm (by rfl) (by rfl) ?_ | refine q_ar (by rfl) (by rfl) (by rfl) ?_ | refine vW (by rfl) ?_ | (refine tP ?_; try (first | refine wP (by rfl) ?_ | refine wQ (by rfl) ?_ | refine vM (by rfl) ?_)) | refine tO (by rfl) (by rfl) ?_ | refine wY (by rfl) ?_ | refine vA (by rfl) ?_ | refine tF (by rfl) (by rfl) (by first | decide | omega) ?_ | refine tE (by rfl) (by rfl) (by first | decide | omega) ?_ | refine tQ (by rfl) (by rfl) ?_ | refine tR (by rfl) (by rfl) (by rfl) ?_ | refine tH (by rfl) ?_ | refine tG (by rfl) ?_ | refine wG (by rfl) (by rfl) ?_ | refine wH (by rfl) (by rfl) ?_ | refine tD ?_ | refine tK ?_ | refine tN (by rfl) (by rfl) ?_ | refine vV (by rfl) (by rfl) ?_ | refine wJ (by rfl) ?_ | refine q_mx (by rfl) (by rfl) ?_ | refine q_mn (by rfl) (by rfl) ?_ | refine tI (by rfl) (by rfl) (by rfl) ?_ | refine tM (by rfl) ?_ | refine vX (by rfl) ?_ | refine vY (by rfl) ?_ | refine wI (by rfl) ?_ | refine vB (by rfl) (by rfl) ?_ | refine vC (by rfl) (by rfl) ?_)) | (refine bC ?_; try (first | (refine tS (by rfl) ?_; try (first | refine yU (by rfl) (by rfl) ?_ | refine yM (by rfl) (by rfl) ?_)) | (refine tT (by rfl) ?_; try (first | refine uJ (by omega) (by omega) ?_)))) | (refine pQ (by rfl) (by rfl) ?_; try (first | refine xC (by rfl) (by rfl) (by rfl) (by decide) ?_)) | refine jX (by rfl) (by rfl) ?_ | refine x_box (by rfl) (by rfl) ?_ | refine jO ?_ | refine gF (by rfl) ?_ | refine x_app ?_ | refine bB ?_ | refine jM ?_ | refine jN (by rfl) (by rfl) (by rfl) (by rfl) ?_ | refine qZ (by rfl) (by rfl) (by rfl) ?_) | (refine g_q ?_; first | refine q_mv (by rfl) ?_ | refine wZ (by rfl) ?_ | (refine tJ ?_; try (first | refine vK (by rfl) (by assumption) ?_ | refine vL (by rfl) ?_ | refine wE (by rfl) ?_ | refine wD (by rfl) ?_)) | (refine tL ?_; try (first | refine wW (by rfl) (by rfl) (by assumption) (by omega) (by omega) ?_)) | refine q_cm (by rfl) (by rfl) ?_ | refine q_ar (by rfl) (by rfl) (by rfl) ?_ | refine vW (by rfl) ?_ | (refine tP ?_; try (first | refine wP (by rfl) ?_ | refine wQ (by rfl) ?_ | refine vM (by rfl) ?_)) | refine tO (by rfl) (by rfl) ?_ | refine wY (by rfl) ?_ | refine vA (by rfl) ?_ | refine tF (by rfl) (by rfl) (by first | decide | omega) ?_ | refine tE (by rfl) (by rfl) (by first | decide | omega) ?_ | refine tQ (by rfl) (by rfl) ?_ | refine tR (by rfl) (by rfl) (by rfl) ?_ | refine tH (by rfl) ?_ | refine tG (by rfl) ?_ | refine wG (by rfl) (by rfl) ?_ | refine wH (by rfl) (by rfl) ?_ | refine tD ?_ | refine tK ?_ | refine tN (by rfl) (by rfl) ?_ | refine vV (by rfl) (by rfl) ?_ | refine wJ (by rfl) ?_ | refine q_mx (by rfl) (by rfl) ?_ | refine q_mn (by rfl) (by rfl) ?_ | refine tI (by rfl) (by rfl) (by rfl) ?_ | refine tM (by rfl) ?_ | refine vX (by rfl) ?_ | refine vY (by rfl) ?_ | refine wI (by rfl) ?_ | refine vB (by rfl) (by rfl) ?_ | refine vC (by rfl) (by rfl) ?_) | (refine g_c ?_; first | refine c_t (by rfl) ?_ | refine c_f (by rfl) ?_) | (refine g_k ?_; first | refine k_n ?_ | refine k_r ?_ | refine k_e (by rfl) ?_ | refine k_o (by rfl) ?_) | (refine g_lo ?_; first | refine l_r ?_ | refine l_e ?_) | (refine g_xd ?_; first | (refine xd_q (by rfl) ?_; try (first | refine q_mv (by rfl) ?_ | refine wZ (by rfl) ?_ | (refine tJ ?_; try (first | refine vK (by rfl) (by assumption) ?_ | refine vL (by rfl) ?_ | refine wE (by rfl) ?_ | refine wD (by rfl) ?_)) | (refine tL ?_; try (first | refine wW (by rfl) (by rfl) (by assumption) (by omega) (by omega) ?_)) | refine q_cm (by rfl) (by rfl) ?_ | refine q_ar (by rfl) (by rfl) (by rfl) ?_ | refine vW (by rfl) ?_ | (refine tP ?_; try (first | refine wP (by rfl) ?_ | refine wQ (by rfl) ?_ | refine vM (by rfl) ?_)) | refine tO (by rfl) (by rfl) ?_ | refine wY (by rfl) ?_ | refine vA (by rfl) ?_ | refine tF (by rfl) (by rfl) (by first | decide | omega) ?_ | refine tE (by rfl) (by rfl) (by first | decide | omega) ?_ | refine tQ (by rfl) (by rfl) ?_ | refine tR (by rfl) (by rfl) (by rfl) ?_ | refine tH (by rfl) ?_ | refine tG (by rfl) ?_ | refine wG (by rfl) (by rfl) ?_ | refine wH (by rfl) (by rfl) ?_ | refine tD ?_ | refine tK ?_ | refine tN (by rfl) (by rfl) ?_ | refine vV (by rfl) (by rfl) ?_ | refine wJ (by rfl) ?_ | refine q_mx (by rfl) (by rfl) ?_ | refine q_mn (by rfl) (by rfl) ?_ | refine tI (by rfl) (by rfl) (by rfl) ?_ | refine tM (by rfl) ?_ | refine vX (by rfl) ?_ | refine vY (by rfl) ?_ | refine wI (by rfl) ?_ | refine vB (by rfl) (by rfl) ?_ | refine vC (by rfl) (by rfl) ?_)) | (refine sL ?_; try (first | (refine tS (by rfl) ?_; try (first | refine yU (by rfl) (by rfl) ?_ | refine yM (by rfl) (by rfl) ?_)) | (refine tT (by rfl) ?_; try (first | refine uJ (by omega) (by omega) ?_)))) | (refine uQ (by rfl) (by rfl) ?_; try (first | refine xC (by rfl) (by rfl) (by rfl) (by decide) ?_)) | refine sM (by rfl) (by rfl) ?_ | refine pJ (by rfl) (by rfl) (by rfl) ?_ | refine uR (by rfl) ?_ | refine sO (by rfl) (by rfl) ?_) | (refine g_l ?_; first | (refine tS (by rfl) ?_; try (first | refine yU (by rfl) (by rfl) ?_ | refine yM (by rfl) (by rfl) ?_)) | (refine tT (by rfl) ?_; try (first | refine uJ (by omega) (by omega) ?_))) | (refine g_len ?_; first | refine vK (by rfl) (by assumption) ?_ | refine vL (by rfl) ?_ | refine wE (by rfl) ?_ | refine wD (by rfl) ?_) | (refine g_nil ?_; first | refine wP (by rfl) ?_ | refine wQ (by rfl) ?_ | refine vM (by rfl) ?_) | (refine g_iad ?_; first | refine wW (by rfl) (by rfl) (by assumption) (by omega) (by omega) ?_) | (refine g_box ?_; first | refine yU (by rfl) (by rfl) ?_ | refine yM (by rfl) (by rfl) ?_) | (refine g_cells ?_; first | refine uJ (by omega) (by omega) ?_) | (refine g_st ?_; first | refine xC (by rfl) (by rfl) (by rfl) (by decide) ?_) | (refine g_b ?_; first | refine b_r ?_ | refine b_n ?_) | (refine g_r ?_; first | refine r_tmp (by rfl) ?_ | refine r_cell ?_ | refine r_nil ?_))
 exact hgo.out):A:=h ⟨k⟩
end Go.Proofs.Ytokckcnfojjpjaa

namespace Go.Proofs.Ytokckcnfojjpjaa
open Go.RowKit
attribute [local irreducible] yA semH semC qLen qNil qIad qSlc qIdx yW yI xA appX appI slcX awpF yP xH xopF xM qval lval seqQ xJ xY xU xR cnd arith IntKind.wrap
def CmpK (a b:List Nat) (u:V):Prop:=∃ r,u=i64 r∧(a.length<b.length→r = -1)∧(b.length<a.length→r=1)∧(a.length=b.length→r=sgn (val a - val b))
theorem CmpK.fz {a b:List Nat} {u:V} {H:Hp} (h:CmpK a b u):∃ d,FzV H u d∧CmpK a b d:=by
 obtain ⟨r,rfl,h⟩:=h
 exact ⟨_,.c (.hf trivial),r,rfl,h⟩
theorem uU {c d:C} {a b:List Nat} (hc:Wd c a) (hd:Wd d b) (ha:OkW a) (hb:OkW b) (hl:a.length<4611686018427387904):semC Try.prog n_num_cmpWords [.c c,.c d] (CmpK a b):=by
 refine yD ok_num_cmpWords rfl (show HFVs [.c c,.c d] from ⟨hc.hf,hd.hf,trivial⟩) ?_
 refine go ?_
 refine xW (fun h => ?_) (fun h => ?_)
 ·refine go ?_
  simp [yA] at h
  refine xW (fun h' => ?_) (fun h' => ?_)
  ·refine go ?_
   simp [yA] at h'
   exact CmpK.fz ⟨_,rfl,by omega,by omega,by omega⟩
  ·refine go ?_
   simp [yA] at h'
   exact CmpK.fz ⟨_,rfl,by omega,by omega,by omega⟩
 ·refine go ?_
  simp [yA] at h
  have h:a.length=b.length:=by omega
  refine yX (fun n vs H => ∃ i:Int,vs=[.c c,.c d,i64 i]∧H=[]∧n=(i+1).toNat ∧ -1≤i∧i<a.length∧a.drop (i+1).toNat=b.drop (i+1).toNat) (by rfl) ⟨_,rfl,rfl,rfl,?_⟩ ?_
  ·rw [uP,yG (by omega) (by omega)]
   refine ⟨by omega,by omega,?_⟩
   have e:(((a.length:Int) - 1)+1).toNat=a.length:=by omega
   rw [e,List.drop_length,h,List.drop_length]
  ·rintro n vs H ⟨i,rfl,rfl,rfl,h1,h2,h4⟩
   refine go ?_
   refine xW (fun h' => ?_) (fun h' => ?_)
   ·simp [yA] at h'
    refine go ?_
    have ei:i.toNat<a.length:=by omega
    have ei':(i+1).toNat=i.toNat+1:=by omega
    refine xW (fun h3 => ?_) (fun h3 => ?_)
    ·simp [yA] at h3
     refine go ?_
     rw [ei'] at h4
     refine xW (fun h5 => ?_) (fun h5 => ?_)
     ·simp [yA] at h5
      refine go ?_
      have:=val_less ha hb h ei h4 (by omega)
      exact CmpK.fz ⟨_,rfl,by omega,by omega,fun _ => by unfold sgn; rw [if_pos (by omega)]⟩
     ·simp [yA] at h5
      refine go ?_
      have:=val_less hb ha h.symm (by omega) h4.symm (by omega:at0 b i.toNat<at0 a i.toNat)
      exact CmpK.fz ⟨_,rfl,by omega,by omega,fun _ => by unfold sgn; rw [if_neg (by omega),if_neg (by omega)]⟩
    ·simp [yA] at h3
     refine go ?_
     refine l_n (by rfl) ?_ ⟨_,rfl,rfl,rfl,?_⟩
     ·rw [uP,yG (by omega) (by omega)]
      omega
     ·rw [uP,yG (by omega) (by omega)]
      refine ⟨by omega,by omega,?_⟩
      have e:(i - 1+1).toNat=i.toNat:=by omega
      rw [e,uY ei,uY (l:=b) (by omega),←ei',h4,show at0 a i.toNat=at0 b i.toNat by omega]
   ·simp [yA] at h'
    refine go ?_
    have e:(i+1).toNat=0:=by omega
    rw [e] at h4
    simp at h4
    exact CmpK.fz ⟨_,rfl,by omega,by omega,fun _ => by rw [h4]; simp [sgn]⟩
end Go.Proofs.Ytokckcnfojjpjaa

namespace Go.Proofs.Ytokckcnfojjpjaa
open Go.RowKit
attribute [local irreducible] yA semH semC qLen qNil qIad qSlc qIdx yW yI xA appX appI slcX awpF yP xH xopF xM qval lval seqQ xJ xY xU xR cnd arith IntKind.wrap
def Norm (l:List Nat):Prop:=OkW l∧(l≠[]→at0 l (l.length - 1)≠0)
def amt (neg:Bool) (n:Nat):Int:=bif neg then -(n:Int) else n
inductive IsZ:List C→Int→Prop
 | small (v:Int) (h1:-9223372036854775808≤v) (h2:v<9223372036854775808):IsZ [.int .i64 v,.nilSl,.bool false] v
 | big (l:List Nat) (neg:Bool) (hn:Norm l) (h:9223372036854775808≤val l):IsZ [.int .i64 0,.imm l.length (l.map W),.bool neg] (amt neg (val l))
theorem IsZ.hf {cs:List C} {z:Int} (h:IsZ cs z):HFL cs:=by
 cases h
 ·exact ⟨trivial,trivial,trivial,trivial⟩
 ·exact ⟨trivial,bW _,trivial,trivial⟩
theorem gS (a:Int):a.fdiv (2 ^ (min (32:Int).toNat IntKind.u64.bits))=a / 4294967296:=by
 have:(2:Int) ^ (min (32:Int).toNat IntKind.u64.bits)=4294967296:=by decide
 rw [this,Int.fdiv_eq_ediv_of_nonneg _ (by decide)]
theorem Norm.nil:Norm []:=⟨fun x h => (by cases h),fun h => (h rfl).elim⟩
theorem Norm.one {x:Nat} (h:x<4294967296) (h0:x≠0):Norm [x]:=⟨fun y hy => by simp at hy; omega,fun _ => by simpa [at0] using h0⟩
theorem Norm.two {x y:Nat} (h:x<4294967296) (h':y<4294967296) (h0:y≠0):Norm [x,y]:=⟨fun z hz => by simp at hz; omega,fun _ => by simpa [at0] using h0⟩
def bJ (z:Int) (u:V):Prop:=∃ c l neg,u=.tup [.c c,.c (.bool neg)]∧Wd c l∧Norm l∧z=amt neg (val l)
theorem bJ.fz {z:Int} {c:C} {l:List Nat} {neg:Bool} {H:Hp} {d:C} (h:Fz (·≠.bor) H c d) (h1:Wd d l) (h2:Norm l) (h3:z=amt neg (val l)):∃ d,FzV H (.tup [.c c,.c (.bool neg)]) d∧bJ z d :=
 ⟨_,.tup (.cons (.c h) (.cons (.c (.hf trivial)) .nil)),d,l,neg,rfl,h1,h2,h3⟩
theorem xG {cs:List C} {z:Int} (hz:IsZ cs z):semC Try.prog n_num_Z_words [.agg cs] (bJ z):=by
 refine yD ok_num_Z_words rfl (show HFVs [.agg cs] from ⟨hz.hf,trivial⟩) ?_
 cases hz with
 | small v h1 h2 =>
  refine go ?_
  cases hq:yA Cm.lss z 0
  ·have hq0:=hq
   simp [yA] at hq
   refine go ?_
   rw [show IntKind.u64.wrap z=((z.natAbs:Nat):Int) by rw [wF]; omega]
   cases hq2:yA Cm.eql ((z.natAbs:Nat):Int) 0
   ·simp [yA] at hq2
    refine go ?_
    cases hq3:yA Cm.eql (((z.natAbs:Nat):Int).fdiv (2 ^ (min (32:Int).toNat IntKind.u64.bits))) 0
    ·rw [gS] at hq3
     simp only [yA,yK] at hq3
     refine go ?_
     rw [hq0,gS,show IntKind.u32.wrap ((z.natAbs:Nat):Int)=((z.natAbs % 4294967296:Nat):Int) by rw [xN]; omega,show IntKind.u32.wrap (((z.natAbs:Nat):Int) / 4294967296)=((z.natAbs / 4294967296:Nat):Int) by rw [xN]; omega]
     refine bJ.fz (vU [z.natAbs % 4294967296,z.natAbs / 4294967296] (by rfl) (by simp) (by simp) rfl rfl) (.imm _) (.two (by omega) (by omega) (by omega)) ?_
     simp [amt,val]
     omega
    ·rw [gS] at hq3
     simp only [yA,yE] at hq3
     refine go ?_
     rw [hq0,show IntKind.u32.wrap ((z.natAbs:Nat):Int)=((z.natAbs:Nat):Int) by rw [xN]; omega]
     refine bJ.fz (vU [z.natAbs] (by rfl) (by simp) (by simp) rfl rfl) (.imm _) (.one (by omega) (by omega)) ?_
     simp [amt,val]
     omega
   ·simp [yA] at hq2
    refine go ?_
    exact bJ.fz (.hf trivial) .nil .nil (by simp [amt,val]; omega)
  ·have hq0:=hq
   simp [yA] at hq
   refine go ?_
   rw [show IntKind.u64.wrap (0 - IntKind.u64.wrap z)=((z.natAbs:Nat):Int) by rw [wF,wF]; omega]
   cases hq2:yA Cm.eql ((z.natAbs:Nat):Int) 0
   ·simp [yA] at hq2
    refine go ?_
    cases hq3:yA Cm.eql (((z.natAbs:Nat):Int).fdiv (2 ^ (min (32:Int).toNat IntKind.u64.bits))) 0
    ·rw [gS] at hq3
     simp only [yA,yK] at hq3
     refine go ?_
     rw [hq0,gS,show IntKind.u32.wrap ((z.natAbs:Nat):Int)=((z.natAbs % 4294967296:Nat):Int) by rw [xN]; omega,show IntKind.u32.wrap (((z.natAbs:Nat):Int) / 4294967296)=((z.natAbs / 4294967296:Nat):Int) by rw [xN]; omega]
     refine bJ.fz (vU [z.natAbs % 4294967296,z.natAbs / 4294967296] (by rfl) (by simp) (by simp) rfl rfl) (.imm _) (.two (by omega) (by omega) (by omega)) ?_
     simp [amt,val]
     omega
    ·rw [gS] at hq3
     simp only [yA,yE] at hq3
     refine go ?_
     rw [hq0,show IntKind.u32.wrap ((z.natAbs:Nat):Int)=((z.natAbs:Nat):Int) by rw [xN]; omega]
     refine bJ.fz (vU [z.natAbs] (by rfl) (by simp) (by simp) rfl rfl) (.imm _) (.one (by omega) (by omega)) ?_
     simp [amt,val]
     omega
   ·simp [yA] at hq2
    refine go ?_
    exact bJ.fz (.hf trivial) .nil .nil (by simp [amt,val]; omega)
 | big l neg hn hv =>
  refine go ?_
  exact bJ.fz (.hf (bW _)) (.imm l) hn rfl
end Go.Proofs.Ytokckcnfojjpjaa

namespace Go.Proofs.Ytokckcnfojjpjaa
open Go.RowKit
set_option maxRecDepth 20000
def ZK (z:Int) (u:V):Prop:=∃ cs,u=.agg cs∧IsZ cs z
theorem or_words {h b:Nat} (hh:h<4294967296) (hb:b<4294967296):arith .or .u64 ((h*4294967296:Nat):Int) (b:Int)=((h*4294967296+b:Nat):Int):=by
 have e:(BitVec.ofInt 64 ((h*4294967296:Nat):Int) ||| BitVec.ofInt 64 (b:Int)).toNat=h*4294967296+b:=by
  rw [BitVec.toNat_or,BitVec.toNat_ofInt,BitVec.toNat_ofInt]
  have e1:(((h*4294967296:Nat):Int) % ((2 ^ 64:Nat):Int)).toNat=h <<< 32:=by
   rw [Nat.shiftLeft_eq]
   omega
  have e2:((b:Int) % ((2 ^ 64:Nat):Int)).toNat=b:=by omega
  rw [e1,e2,←Nat.shiftLeft_add_eq_or_of_lt (by omega:b<2 ^ 32),Nat.shiftLeft_eq]
 show IntKind.u64.wrap _=_
 show IntKind.u64.wrap ((BitVec.ofInt 64 ((h*4294967296:Nat):Int) ||| BitVec.ofInt 64 (b:Int)).toNat:Int)=_
 rw [e,wF]
 omega
theorem shl32 (a:Int):a*2 ^ (min (32:Int).toNat IntKind.u64.bits)=a*4294967296:=by
 have:(2:Int) ^ (min (32:Int).toNat IntKind.u64.bits)=4294967296:=by decide
 rw [this]
theorem val_ge {l:List Nat} (h:Norm l) (h3:2<l.length):18446744073709551616≤val l:=by
 rw [sX l (l.length - 1),uY (by omega)]
 have h1:=h.2 (fun e => by simp [e] at h3)
 have e1:(l.take (l.length - 1)).length=l.length - 1:=by simp
 rw [e1]
 simp only [val]
 have h2:(4294967296:Nat) ^ 2≤4294967296 ^ (l.length - 1):=Nat.pow_le_pow_right (by decide) (by omega)
 have h4:4294967296 ^ (l.length - 1)*1≤4294967296 ^ (l.length - 1)*(at0 l (l.length - 1)+4294967296*val (l.drop (l.length - 1+1))):=Nat.mul_le_mul_left _ (by omega)
 have h5:(4294967296:Nat) ^ 2=18446744073709551616:=by decide
 omega
theorem val_two {l:List Nat} (h:OkW l) (h2:l.length≤2):val l<18446744073709551616:=by
 have h1:=sP h
 have h3:(4294967296:Nat) ^ l.length≤4294967296 ^ 2:=Nat.pow_le_pow_right (by decide) h2
 have h5:(4294967296:Nat) ^ 2=18446744073709551616:=by decide
 omega
attribute [local irreducible] yA semH semC qLen qNil qIad qSlc qIdx yW yI xA appX appI slcX awpF yP xH xopF xM qval lval seqQ xJ xY xU xR cnd arith IntKind.wrap
theorem ZK.fz {z:Int} {cs:List C} {H:Hp} (h:IsZ cs z):∃ d,FzV H (.agg cs) d∧ZK z d:=⟨_,.agg (.hf h.hf),cs,rfl,h⟩
theorem xX {c:C} {l:List Nat} (neg:Bool) (hc:Wd c l) (ho:OkW l) (hl:l.length<4611686018427387904):semC Try.prog n_num_made [.c c,.c (.bool neg)] (ZK (amt neg (val l))):=by
 refine yD ok_num_made rfl (show HFVs [.c c,.c (.bool neg)] from ⟨hc.hf,trivial,trivial⟩) ?_
 refine go ?_
 refine yX (fun n vs H => ∃ c' l',vs=[.c c',.c (.bool neg),.c (.ptr 0 0)]∧H=[.live ⟨[.int .i64 0,.nilSl,.bool false],yZ,.rw⟩]∧n=l'.length∧Wd c' l'∧l' <+: l∧val l'=val l) (by rfl) ⟨_,l,rfl,rfl,rfl,hc,List.prefix_refl l,rfl⟩ ?_
 rintro n vs H ⟨c',l',rfl,rfl,rfl,hc',h1,h2⟩
 have hll:=h1.length_le
 refine go ?_
 cases hq:yA Cm.gtr (l'.length:Int) 0
 ·simp [yA] at hq
  refine go ?_
  have hno:Norm l':=by rw [hq]; exact .nil
  cases hq2:yA Cm.leq (l'.length:Int) 2
  ·simp [yA] at hq2
   refine go ?_
   have hg:=val_ge hno (by omega)
   rw [←h2]
   cases hc' with
   | nil => simp at hq2
   | imm => exact ZK.fz (.big l' neg hno (by omega))
  ·simp [yA] at hq2
   refine go ?_
   refine yX (fun n vs H => ∃ i u:Int,vs=[.c c',.c (.bool neg),.c (.ptr 0 0),.c (.int .u64 u),i64 i]∧H=[.live ⟨[.int .i64 0,.nilSl,.bool false],yZ,.rw⟩]∧n=(i+1).toNat ∧ -1≤i∧i<l'.length∧u=((val (l'.drop (i+1).toNat):Nat):Int)) (by rfl) ⟨_,_,rfl,rfl,rfl,?_⟩ ?_
   ·rw [uP,yG (by omega) (by omega)]
    refine ⟨by omega,by omega,?_⟩
    have e:((l'.length:Int) - 1+1).toNat=l'.length:=by omega
    rw [e,List.drop_length]
    rfl
   ·rintro n vs H ⟨i,u,rfl,rfl,rfl,k1,k2,rfl⟩
    refine go ?_
    refine xW (fun h => ?_) (fun h => ?_)
    ·simp [yA] at h
     refine go ?_
     have ei:(i+1).toNat=i.toNat+1:=by omega
     have ei':(i - 1+1).toNat=i.toNat:=by omega
     have ho':OkW l':=hno.1
     have hv1:val (l'.drop (i+1).toNat)<4294967296:=by
      have h7:=sP (ho'.drop (i+1).toNat)
      have h8:(4294967296:Nat) ^ (l'.drop (i+1).toNat).length≤4294967296 ^ 1:=Nat.pow_le_pow_right (by decide) (by simp; omega)
      have h9:(4294967296:Nat) ^ 1=4294967296:=by decide
      omega
     have hw:=ho'.get i.toNat
     rw [shl32,show IntKind.u64.wrap (((val (l'.drop (i+1).toNat):Nat):Int)*4294967296)=((val (l'.drop (i+1).toNat)*4294967296:Nat):Int) by rw [wF]; omega,show IntKind.u64.wrap ((at0 l' i.toNat:Nat):Int)=((at0 l' i.toNat:Nat):Int) by rw [wF]; omega,or_words hv1 hw]
     refine l_n (by rfl) ?_ ⟨_,_,rfl,rfl,rfl,?_⟩
     ·rw [uP,yG (by omega) (by omega)]
      omega
     ·rw [uP,yG (by omega) (by omega)]
      refine ⟨by omega,by omega,?_⟩
      rw [ei',uY (l:=l') (i:=i.toNat) (by omega),←ei]
      simp only [val]
      omega
    ·simp [yA] at h
     have e0:(i+1).toNat=0:=by omega
     rw [e0,List.drop_zero,h2]
     have hvt:=val_two hno.1 (by omega)
     rw [h2] at hvt
     refine go ?_
     cases hq3:yA Cm.lss ((val l:Nat):Int) 9223372036854775808
     ·simp [yA] at hq3
      refine go ?_
      cases hc' with
      | nil => simp [val] at h2; omega
      | imm =>
       have:=IsZ.big l' neg hno (by omega)
       rw [h2] at this
       exact ZK.fz this
     ·simp [yA] at hq3
      cases neg
      ·refine go ?_
       rw [yG (by omega) (by omega)]
       exact ZK.fz (.small _ (by omega) (by omega))
      ·refine go ?_
       rw [yG (n:=((val l:Nat):Int)) (by omega) (by omega),yG (by omega) (by omega),Int.zero_sub]
       exact ZK.fz (.small _ (by omega) (by omega))
 ·simp [yA] at hq
  refine go ?_
  have e:arith .sub .i64 (l'.length:Int) 1=((l'.length - 1:Nat):Int):=by
   rw [uP,yG (by omega) (by omega)]
   omega
  rw [e]
  refine go ?_
  refine xW (fun h => ?_) (fun h => ?_)
  ·simp [yA] at h
   refine go ?_
   refine slc_wd (by rfl) hc' (by rfl) (by rfl) (by omega) (by rw [e]; omega) (by rw [e]; omega) (fun c'' hc'' => ?_)
   refine go ?_
   rw [e] at hc''
   refine l_n (by rfl) ?_ ⟨c'',_,rfl,rfl,rfl,hc'',?_,?_⟩
   ·simp
    omega
   ·simp
    exact (List.take_prefix _ _).trans h1
   ·simp
    rw [val_last hq h,h2]
  ·simp [yA] at h
   refine go ?_
   have hno:Norm l':=⟨fun x hx => ho x (h1.subset hx),fun _ => h⟩
   cases hq2:yA Cm.leq (l'.length:Int) 2
   ·simp [yA] at hq2
    refine go ?_
    have hg:=val_ge hno (by omega)
    rw [←h2]
    cases hc' with
    | nil => simp at hq2
    | imm => exact ZK.fz (.big l' neg hno (by omega))
   ·simp [yA] at hq2
    refine go ?_
    refine yX (fun n vs H => ∃ i u:Int,vs=[.c c',.c (.bool neg),.c (.ptr 0 0),.c (.int .u64 u),i64 i]∧H=[.live ⟨[.int .i64 0,.nilSl,.bool false],yZ,.rw⟩]∧n=(i+1).toNat ∧ -1≤i∧i<l'.length∧u=((val (l'.drop (i+1).toNat):Nat):Int)) (by rfl) ⟨_,_,rfl,rfl,rfl,?_⟩ ?_
    ·rw [uP,yG (by omega) (by omega)]
     refine ⟨by omega,by omega,?_⟩
     have e:((l'.length:Int) - 1+1).toNat=l'.length:=by omega
     rw [e,List.drop_length]
     rfl
    ·rintro n vs H ⟨i,u,rfl,rfl,rfl,k1,k2,rfl⟩
     refine go ?_
     refine xW (fun h => ?_) (fun h => ?_)
     ·simp [yA] at h
      refine go ?_
      have ei:(i+1).toNat=i.toNat+1:=by omega
      have ei':(i - 1+1).toNat=i.toNat:=by omega
      have ho':OkW l':=hno.1
      have hv1:val (l'.drop (i+1).toNat)<4294967296:=by
       have h7:=sP (ho'.drop (i+1).toNat)
       have h8:(4294967296:Nat) ^ (l'.drop (i+1).toNat).length≤4294967296 ^ 1:=Nat.pow_le_pow_right (by decide) (by simp; omega)
       have h9:(4294967296:Nat) ^ 1=4294967296:=by decide
       omega
      have hw:=ho'.get i.toNat
      rw [shl32,show IntKind.u64.wrap (((val (l'.drop (i+1).toNat):Nat):Int)*4294967296)=((val (l'.drop (i+1).toNat)*4294967296:Nat):Int) by rw [wF]; omega,show IntKind.u64.wrap ((at0 l' i.toNat:Nat):Int)=((at0 l' i.toNat:Nat):Int) by rw [wF]; omega,or_words hv1 hw]
      refine l_n (by rfl) ?_ ⟨_,_,rfl,rfl,rfl,?_⟩
      ·rw [uP,yG (by omega) (by omega)]
       omega
      ·rw [uP,yG (by omega) (by omega)]
       refine ⟨by omega,by omega,?_⟩
       rw [ei',uY (l:=l') (i:=i.toNat) (by omega),←ei]
       simp only [val]
       omega
     ·simp [yA] at h
      have e0:(i+1).toNat=0:=by omega
      rw [e0,List.drop_zero,h2]
      have hvt:=val_two hno.1 (by omega)
      rw [h2] at hvt
      refine go ?_
      cases hq3:yA Cm.lss ((val l:Nat):Int) 9223372036854775808
      ·simp [yA] at hq3
       refine go ?_
       cases hc' with
       | nil => simp [val] at h2; omega
       | imm =>
        have:=IsZ.big l' neg hno (by omega)
        rw [h2] at this
        exact ZK.fz this
      ·simp [yA] at hq3
       cases neg
       ·refine go ?_
        rw [yG (by omega) (by omega)]
        exact ZK.fz (.small _ (by omega) (by omega))
       ·refine go ?_
        rw [yG (n:=((val l:Nat):Int)) (by omega) (by omega),yG (by omega) (by omega),Int.zero_sub]
        exact ZK.fz (.small _ (by omega) (by omega))
end Go.Proofs.Ytokckcnfojjpjaa

namespace Go.Proofs.Ytokckcnfojjpjaa
open Go.RowKit
set_option maxRecDepth 20000
attribute [local irreducible] yA semH semC qLen qNil qIad qSlc qIdx yW yI xA appX appI slcX awpF yP xH xopF xM qval lval seqQ xJ xY xU xR cnd arith IntKind.wrap
def WdK (p:List Nat→Prop) (u:V):Prop:=∃ c l,u=.c c∧Wd c l∧OkW l∧p l
theorem WdK.fz {p:List Nat→Prop} {H:Hp} {b n:Nat} {co:Option Nat} {el:TypeId} {out:List Nat} (h:OutB H b el out) (hn:n=out.length) (ho:OkW out) (hp:p out):∃ d,FzV H (.c (.sl b 0 n co 1)) d∧WdK p d :=
 ⟨_,.c (fz_out h hn (by simp)),_,out,rfl,.imm out,ho,hp⟩
theorem OkW.snoc {l:List Nat} {x:Nat} (h:OkW l) (hx:x<4294967296):OkW (l++[x]):=fun y hy => by
 rcases List.mem_append.1 hy with hy | hy
 ·exact h y hy
 ·simp at hy
  omega
theorem qP {c d:C} {a b:List Nat} (hc:Wd c a) (hd:Wd d b) (ha:OkW a) (hb:OkW b) (hl:a.length<2147483648) (hl':b.length<2147483648):semC Try.prog n_num_addWords [.c c,.c d] (WdK fun l => val l=val a+val b∧l.length≤max a.length b.length+1):=by
 refine yD ok_num_addWords rfl (show HFVs [.c c,.c d] from ⟨hc.hf,hd.hf,trivial⟩) ?_
 refine go ?_
 cases hq:yA Cm.lss (a.length:Int) b.length
 ·simp [yA] at hq
  refine go ?_
  have e:arith .add .i64 (a.length:Int) 1=((a.length+1:Nat):Int):=by
   rw [xD,yG (by omega) (by omega)]
   omega
  rw [e]
  refine vQ (by rfl) (by rfl) ⟨by omega,by omega,by omega,by omega⟩ ?_
  refine go ?_
  refine yX (fun n vs H => ∃ (i:Nat) (bx:Nat) (co:Option Nat) (carry:Nat) (out:List Nat),vs=[.c c,.c d,.c (.sl bx 0 i co 1),.c (.int .u64 (carry:Int)),i64 a.length,i64 (i:Int)]∧OutB H bx xB out∧n=a.length - i∧i≤a.length∧out.length=i∧OkW out∧carry≤1∧val out+4294967296 ^ i*carry=val (a.take i)+val (b.take i)) (by rfl) ⟨0,0,_,0,[],rfl,⟨_,rfl,rfl⟩,rfl,by omega,rfl,fun x hx => (by cases hx),by omega,by simp [val]⟩ ?_
  rintro n vs H ⟨_,bx,co,carry,out,rfl,hob,rfl,k1,rfl,k3,k4,k5⟩
  refine go ?_
  refine xW (fun h => ?_) (fun h => ?_)
  ·simp [yA] at h
   refine go ?_
   have ea:=ha.get out.length
   have eb:=hb.get out.length
   rw [show IntKind.u64.wrap ((at0 a ((out.length:Nat):Int).toNat:Nat):Int)=((at0 a out.length:Nat):Int) by rw [wF,Int.toNat_natCast]; omega,show arith .add .u64 ((at0 a out.length:Nat):Int) (carry:Int)=((at0 a out.length+carry:Nat):Int) by rw [xD,wF]; omega]
   have round:∀ (s:Nat),s=at0 a out.length+carry+at0 b out.length→OkW (out++[s % 4294967296])∧s / 4294967296≤1∧val (out++[s % 4294967296])+4294967296 ^ (out.length+1)*(s / 4294967296)=val (a.take (out.length+1))+val (b.take (out.length+1)):=by
    intro s hs
    refine ⟨k3.snoc (by omega),by omega,?_⟩
    rw [yF,yF,uZ,Nat.pow_succ]
    simp only [val,Nat.mul_zero,Nat.add_zero]
    have e1:=Nat.div_add_mod s 4294967296
    have e2:4294967296 ^ out.length*(s % 4294967296)+4294967296 ^ out.length*4294967296*(s / 4294967296)=4294967296 ^ out.length*s:=by
     rw [Nat.mul_assoc,←Nat.mul_add,Nat.add_comm,e1]
    have e3:4294967296 ^ out.length*s=4294967296 ^ out.length*at0 a out.length+4294967296 ^ out.length*carry+4294967296 ^ out.length*at0 b out.length:=by rw [hs,Nat.mul_add,Nat.mul_add]
    omega
   cases hq2:yA Cm.lss ((out.length:Nat):Int) b.length
   ·simp [yA] at hq2
    have hz:=at0_ge hq2
    refine go ?_
    rw [show IntKind.u32.wrap ((at0 a out.length+carry:Nat):Int)=(((at0 a out.length+carry) % 4294967296:Nat):Int) by rw [xN]; omega]
    refine pF (by rfl) (by rfl) hob rfl rfl (by omega) (fun H' b' hob' => ?_)
    refine go ?_
    rw [gS,show ((at0 a out.length+carry:Nat):Int) / 4294967296=(((at0 a out.length+carry) / 4294967296:Nat):Int) by omega,show arith .add .i64 ((out.length:Nat):Int) 1=((out.length+1:Nat):Int) by rw [xD,yG (by omega) (by omega)]; omega]
    obtain ⟨r1,r2,r3⟩:=round (at0 a out.length+carry) (by omega)
    exact l_n (by rfl) (by omega) ⟨out.length+1,b',_,_,_,rfl,hob',rfl,by omega,by simp,r1,r2,r3⟩
   ·simp [yA] at hq2
    refine go ?_
    rw [show IntKind.u64.wrap ((at0 b ((out.length:Nat):Int).toNat:Nat):Int)=((at0 b out.length:Nat):Int) by rw [wF,Int.toNat_natCast]; omega,show arith .add .u64 ((at0 a out.length+carry:Nat):Int) ((at0 b out.length:Nat):Int)=((at0 a out.length+carry+at0 b out.length:Nat):Int) by rw [xD,wF]; omega]
    refine go ?_
    rw [show IntKind.u32.wrap ((at0 a out.length+carry+at0 b out.length:Nat):Int)=(((at0 a out.length+carry+at0 b out.length) % 4294967296:Nat):Int) by rw [xN]; omega]
    refine pF (by rfl) (by rfl) hob rfl rfl (by omega) (fun H' b' hob' => ?_)
    refine go ?_
    rw [gS,show ((at0 a out.length+carry+at0 b out.length:Nat):Int) / 4294967296=(((at0 a out.length+carry+at0 b out.length) / 4294967296:Nat):Int) by omega,show arith .add .i64 ((out.length:Nat):Int) 1=((out.length+1:Nat):Int) by rw [xD,yG (by omega) (by omega)]; omega]
    obtain ⟨r1,r2,r3⟩:=round (at0 a out.length+carry+at0 b out.length) rfl
    exact l_n (by rfl) (by omega) ⟨out.length+1,b',_,_,_,rfl,hob',rfl,by omega,by simp,r1,r2,r3⟩
  ·simp [yA] at h
   refine go ?_
   have el:out.length=a.length:=by omega
   rw [show IntKind.u32.wrap ((carry:Nat):Int)=((carry:Nat):Int) by rw [xN]; omega]
   refine pF (by rfl) (by rfl) hob rfl rfl (by omega) (fun H' b' hob' => ?_)
   refine go ?_
   refine WdK.fz hob' (by simp) (k3.snoc (by omega)) ⟨?_,by simp; omega⟩
   rw [uZ]
   simp only [val,Nat.mul_zero,Nat.add_zero]
   rw [k5,List.take_of_length_le (by omega),List.take_of_length_le (by omega)]
   all_goals omega
 ·simp [yA] at hq
  refine go ?_
  have e:arith .add .i64 (b.length:Int) 1=((b.length+1:Nat):Int):=by
   rw [xD,yG (by omega) (by omega)]
   omega
  rw [e]
  refine vQ (by rfl) (by rfl) ⟨by omega,by omega,by omega,by omega⟩ ?_
  refine go ?_
  refine yX (fun n vs H => ∃ (i:Nat) (bx:Nat) (co:Option Nat) (carry:Nat) (out:List Nat),vs=[.c d,.c c,.c (.sl bx 0 i co 1),.c (.int .u64 (carry:Int)),i64 b.length,i64 (i:Int)]∧OutB H bx xB out∧n=b.length - i∧i≤b.length∧out.length=i∧OkW out∧carry≤1∧val out+4294967296 ^ i*carry=val (b.take i)+val (a.take i)) (by rfl) ⟨0,0,_,0,[],rfl,⟨_,rfl,rfl⟩,rfl,by omega,rfl,fun x hx => (by cases hx),by omega,by simp [val]⟩ ?_
  rintro n vs H ⟨_,bx,co,carry,out,rfl,hob,rfl,k1,rfl,k3,k4,k5⟩
  refine go ?_
  refine xW (fun h => ?_) (fun h => ?_)
  ·simp [yA] at h
   refine go ?_
   have ea:=hb.get out.length
   have eb:=ha.get out.length
   rw [show IntKind.u64.wrap ((at0 b ((out.length:Nat):Int).toNat:Nat):Int)=((at0 b out.length:Nat):Int) by rw [wF,Int.toNat_natCast]; omega,show arith .add .u64 ((at0 b out.length:Nat):Int) (carry:Int)=((at0 b out.length+carry:Nat):Int) by rw [xD,wF]; omega]
   have round:∀ (s:Nat),s=at0 b out.length+carry+at0 a out.length→OkW (out++[s % 4294967296])∧s / 4294967296≤1∧val (out++[s % 4294967296])+4294967296 ^ (out.length+1)*(s / 4294967296)=val (b.take (out.length+1))+val (a.take (out.length+1)):=by
    intro s hs
    refine ⟨k3.snoc (by omega),by omega,?_⟩
    rw [yF,yF,uZ,Nat.pow_succ]
    simp only [val,Nat.mul_zero,Nat.add_zero]
    have e1:=Nat.div_add_mod s 4294967296
    have e2:4294967296 ^ out.length*(s % 4294967296)+4294967296 ^ out.length*4294967296*(s / 4294967296)=4294967296 ^ out.length*s:=by
     rw [Nat.mul_assoc,←Nat.mul_add,Nat.add_comm,e1]
    have e3:4294967296 ^ out.length*s=4294967296 ^ out.length*at0 b out.length+4294967296 ^ out.length*carry+4294967296 ^ out.length*at0 a out.length:=by rw [hs,Nat.mul_add,Nat.mul_add]
    omega
   cases hq2:yA Cm.lss ((out.length:Nat):Int) a.length
   ·simp [yA] at hq2
    have hz:=at0_ge hq2
    refine go ?_
    rw [show IntKind.u32.wrap ((at0 b out.length+carry:Nat):Int)=(((at0 b out.length+carry) % 4294967296:Nat):Int) by rw [xN]; omega]
    refine pF (by rfl) (by rfl) hob rfl rfl (by omega) (fun H' b' hob' => ?_)
    refine go ?_
    rw [gS,show ((at0 b out.length+carry:Nat):Int) / 4294967296=(((at0 b out.length+carry) / 4294967296:Nat):Int) by omega,show arith .add .i64 ((out.length:Nat):Int) 1=((out.length+1:Nat):Int) by rw [xD,yG (by omega) (by omega)]; omega]
    obtain ⟨r1,r2,r3⟩:=round (at0 b out.length+carry) (by omega)
    exact l_n (by rfl) (by omega) ⟨out.length+1,b',_,_,_,rfl,hob',rfl,by omega,by simp,r1,r2,r3⟩
   ·simp [yA] at hq2
    refine go ?_
    rw [show IntKind.u64.wrap ((at0 a ((out.length:Nat):Int).toNat:Nat):Int)=((at0 a out.length:Nat):Int) by rw [wF,Int.toNat_natCast]; omega,show arith .add .u64 ((at0 b out.length+carry:Nat):Int) ((at0 a out.length:Nat):Int)=((at0 b out.length+carry+at0 a out.length:Nat):Int) by rw [xD,wF]; omega]
    refine go ?_
    rw [show IntKind.u32.wrap ((at0 b out.length+carry+at0 a out.length:Nat):Int)=(((at0 b out.length+carry+at0 a out.length) % 4294967296:Nat):Int) by rw [xN]; omega]
    refine pF (by rfl) (by rfl) hob rfl rfl (by omega) (fun H' b' hob' => ?_)
    refine go ?_
    rw [gS,show ((at0 b out.length+carry+at0 a out.length:Nat):Int) / 4294967296=(((at0 b out.length+carry+at0 a out.length) / 4294967296:Nat):Int) by omega,show arith .add .i64 ((out.length:Nat):Int) 1=((out.length+1:Nat):Int) by rw [xD,yG (by omega) (by omega)]; omega]
    obtain ⟨r1,r2,r3⟩:=round (at0 b out.length+carry+at0 a out.length) rfl
    exact l_n (by rfl) (by omega) ⟨out.length+1,b',_,_,_,rfl,hob',rfl,by omega,by simp,r1,r2,r3⟩
  ·simp [yA] at h
   refine go ?_
   have el:out.length=b.length:=by omega
   rw [show IntKind.u32.wrap ((carry:Nat):Int)=((carry:Nat):Int) by rw [xN]; omega]
   refine pF (by rfl) (by rfl) hob rfl rfl (by omega) (fun H' b' hob' => ?_)
   refine go ?_
   refine WdK.fz hob' (by simp) (k3.snoc (by omega)) ⟨?_,by simp; omega⟩
   rw [uZ]
   simp only [val,Nat.mul_zero,Nat.add_zero]
   rw [k5,List.take_of_length_le (by omega),List.take_of_length_le (by omega)]
   all_goals omega
theorem vS {c d:C} {a b:List Nat} (hc:Wd c a) (hd:Wd d b) (ha:OkW a) (hb:OkW b) (hl:a.length<2147483648) (hl':b.length≤a.length) (hv:val b≤val a):semC Try.prog n_num_subWords [.c c,.c d] (WdK fun l => val l=val a - val b∧l.length≤a.length):=by
 refine yD ok_num_subWords rfl (show HFVs [.c c,.c d] from ⟨hc.hf,hd.hf,trivial⟩) ?_
 refine go ?_
 refine vQ (by rfl) (by rfl) ⟨by omega,by omega,by omega,by omega⟩ ?_
 refine go ?_
 refine yX (fun n vs H => ∃ (i:Nat) (bx:Nat) (co:Option Nat) (borrow:Nat) (out:List Nat),vs=[.c c,.c d,.c (.sl bx 0 i co 1),i64 (borrow:Int),i64 a.length,i64 (i:Int)]∧OutB H bx xB out∧n=a.length - i∧i≤a.length∧out.length=i∧OkW out∧borrow≤1∧val out+val (b.take i)=val (a.take i)+4294967296 ^ i*borrow) (by rfl) ⟨0,0,_,0,[],rfl,⟨_,rfl,rfl⟩,rfl,by omega,rfl,fun x hx => (by cases hx),by omega,by simp [val]⟩ ?_
 rintro n vs H ⟨_,bx,co,borrow,out,rfl,hob,rfl,k1,rfl,k3,k4,k5⟩
 refine go ?_
 refine xW (fun h => ?_) (fun h => ?_)
 ·simp [yA] at h
  refine go ?_
  have ea:=ha.get out.length
  have eb:=hb.get out.length
  rw [show IntKind.i64.wrap ((at0 a ((out.length:Nat):Int).toNat:Nat):Int)=((at0 a out.length:Nat):Int) by rw [Int.toNat_natCast,yG (by omega) (by omega)],show arith .sub .i64 ((at0 a out.length:Nat):Int) (borrow:Int)=((at0 a out.length:Nat):Int) - (borrow:Int) by rw [uP,yG (by omega) (by omega)]]
  have round:∀ (w br:Nat),(w:Int)=((at0 a out.length:Nat):Int) - (borrow:Int) - ((at0 b out.length:Nat):Int)+4294967296*br→w<4294967296→OkW (out++[w])∧val (out++[w])+val (b.take (out.length+1))=val (a.take (out.length+1))+4294967296 ^ (out.length+1)*br:=by
   intro w br hw hlt
   refine ⟨k3.snoc hlt,?_⟩
   rw [yF,yF,uZ,Nat.pow_succ]
   simp only [val,Nat.mul_zero,Nat.add_zero]
   have e1:w+borrow+at0 b out.length=at0 a out.length+4294967296*br:=by omega
   have e2:=congrArg (fun x => 4294967296 ^ out.length*x) e1
   simp only [Nat.mul_add] at e2
   rw [←Nat.mul_assoc] at e2
   omega
  cases hq2:yA Cm.lss ((out.length:Nat):Int) b.length
  ·simp [yA] at hq2
   have hz:=at0_ge hq2
   refine go ?_
   cases hq3:yA Cm.lss (((at0 a out.length:Nat):Int) - (borrow:Int)) 0
   ·simp only [yA,yK] at hq3
    refine go ?_
    rw [show IntKind.u32.wrap (((at0 a out.length:Nat):Int) - (borrow:Int))=(((((at0 a out.length:Nat):Int) - (borrow:Int)).toNat:Nat):Int) by rw [xN]; omega]
    refine pF (by rfl) (by rfl) hob rfl rfl (by omega) (fun H' b' hob' => ?_)
    refine go ?_
    rw [show arith .add .i64 ((out.length:Nat):Int) 1=((out.length+1:Nat):Int) by rw [xD,yG (by omega) (by omega)]; omega]
    obtain ⟨r1,r2⟩:=round (((at0 a out.length:Nat):Int) - (borrow:Int)).toNat 0 (by omega) (by omega)
    exact l_n (by rfl) (by omega) ⟨out.length+1,b',_,0,_,rfl,hob',rfl,by omega,by simp,r1,by omega,r2⟩
   ·simp only [yA,yE] at hq3
    refine go ?_
    rw [show arith .add .i64 (((at0 a out.length:Nat):Int) - (borrow:Int)) 4294967296=((at0 a out.length:Nat):Int) - (borrow:Int)+4294967296 by rw [xD,yG (by omega) (by omega)]]
    rw [show IntKind.u32.wrap (((at0 a out.length:Nat):Int) - (borrow:Int)+4294967296)=(((((at0 a out.length:Nat):Int) - (borrow:Int)+4294967296).toNat:Nat):Int) by rw [xN]; omega]
    refine pF (by rfl) (by rfl) hob rfl rfl (by omega) (fun H' b' hob' => ?_)
    refine go ?_
    rw [show arith .add .i64 ((out.length:Nat):Int) 1=((out.length+1:Nat):Int) by rw [xD,yG (by omega) (by omega)]; omega]
    obtain ⟨r1,r2⟩:=round (((at0 a out.length:Nat):Int) - (borrow:Int)+4294967296).toNat 1 (by omega) (by omega)
    exact l_n (by rfl) (by omega) ⟨out.length+1,b',_,1,_,rfl,hob',rfl,by omega,by simp,r1,by omega,r2⟩
  ·simp [yA] at hq2
   refine go ?_
   rw [show IntKind.i64.wrap ((at0 b ((out.length:Nat):Int).toNat:Nat):Int)=((at0 b out.length:Nat):Int) by rw [Int.toNat_natCast,yG (by omega) (by omega)],show arith .sub .i64 (((at0 a out.length:Nat):Int) - (borrow:Int)) ((at0 b out.length:Nat):Int)=((at0 a out.length:Nat):Int) - (borrow:Int) - ((at0 b out.length:Nat):Int) by rw [uP,yG (by omega) (by omega)]]
   refine go ?_
   cases hq3:yA Cm.lss (((at0 a out.length:Nat):Int) - (borrow:Int) - ((at0 b out.length:Nat):Int)) 0
   ·simp only [yA,yK] at hq3
    refine go ?_
    rw [show IntKind.u32.wrap (((at0 a out.length:Nat):Int) - (borrow:Int) - ((at0 b out.length:Nat):Int))=(((((at0 a out.length:Nat):Int) - (borrow:Int) - ((at0 b out.length:Nat):Int)).toNat:Nat):Int) by rw [xN]; omega]
    refine pF (by rfl) (by rfl) hob rfl rfl (by omega) (fun H' b' hob' => ?_)
    refine go ?_
    rw [show arith .add .i64 ((out.length:Nat):Int) 1=((out.length+1:Nat):Int) by rw [xD,yG (by omega) (by omega)]; omega]
    obtain ⟨r1,r2⟩:=round (((at0 a out.length:Nat):Int) - (borrow:Int) - ((at0 b out.length:Nat):Int)).toNat 0 (by omega) (by omega)
    exact l_n (by rfl) (by omega) ⟨out.length+1,b',_,0,_,rfl,hob',rfl,by omega,by simp,r1,by omega,r2⟩
   ·simp only [yA,yE] at hq3
    refine go ?_
    rw [show arith .add .i64 (((at0 a out.length:Nat):Int) - (borrow:Int) - ((at0 b out.length:Nat):Int)) 4294967296=((at0 a out.length:Nat):Int) - (borrow:Int) - ((at0 b out.length:Nat):Int)+4294967296 by rw [xD,yG (by omega) (by omega)]]
    rw [show IntKind.u32.wrap (((at0 a out.length:Nat):Int) - (borrow:Int) - ((at0 b out.length:Nat):Int)+4294967296)=(((((at0 a out.length:Nat):Int) - (borrow:Int) - ((at0 b out.length:Nat):Int)+4294967296).toNat:Nat):Int) by rw [xN]; omega]
    refine pF (by rfl) (by rfl) hob rfl rfl (by omega) (fun H' b' hob' => ?_)
    refine go ?_
    rw [show arith .add .i64 ((out.length:Nat):Int) 1=((out.length+1:Nat):Int) by rw [xD,yG (by omega) (by omega)]; omega]
    obtain ⟨r1,r2⟩:=round (((at0 a out.length:Nat):Int) - (borrow:Int) - ((at0 b out.length:Nat):Int)+4294967296).toNat 1 (by omega) (by omega)
    exact l_n (by rfl) (by omega) ⟨out.length+1,b',_,1,_,rfl,hob',rfl,by omega,by simp,r1,by omega,r2⟩
 ·simp [yA] at h
  refine go ?_
  have el:out.length=a.length:=by omega
  rw [List.take_of_length_le (by omega),List.take_of_length_le (by omega)] at k5
  have hlt:=sP k3
  have hb0:borrow=0:=by
   rcases Nat.lt_or_ge borrow 1 with h0 | h0
   ·omega
   ·have h1:borrow=1:=by omega
    subst h1
    simp at k5
    omega
  subst hb0
  simp at k5
  exact WdK.fz hob rfl k3 ⟨by omega,by omega⟩
end Go.Proofs.Ytokckcnfojjpjaa

namespace Go.Proofs.Ytokckcnfojjpjaa
open Go.RowKit
set_option maxRecDepth 20000
attribute [local irreducible] yA semH semC qLen qNil qIad qSlc qIdx yW yI xA appX appI slcX awpF yP xH xopF xM qval lval seqQ xJ xY xU xR cnd arith IntKind.wrap
def Sz (n:Nat) (z:Int):Prop:=z.natAbs<4294967296 ^ n
theorem wV (neg:Bool) (n:Nat):(amt neg n).natAbs=n:=by cases neg <;> simp [amt]
theorem IsZ.three {cs:List C} {z:Int} (h:IsZ cs z):∃ a b c,cs=[a,b,c]:=by cases h <;> exact ⟨_,_,_,rfl⟩
theorem IsZ.look {cs:List C} {z:Int} (h:IsZ cs z):(cs=[.int .i64 z,.nilSl,.bool false] ∧ -9223372036854775808≤z∧z<9223372036854775808)∨(∃ l neg,cs=[.int .i64 0,.imm l.length (l.map W),.bool neg]∧Norm l∧9223372036854775808≤val l∧z=amt neg (val l)):=by
 cases h with
 | small v h1 h2 => exact .inl ⟨rfl,h1,h2⟩
 | big l neg hn hv => exact .inr ⟨l,neg,rfl,hn,hv,rfl⟩
theorem norm_ge {l:List Nat} (h:Norm l) (h0:0<l.length):4294967296 ^ (l.length - 1)≤val l:=by
 rw [sX l (l.length - 1),uY (by omega)]
 have h1:=h.2 (fun e => by simp [e] at h0)
 have e1:(l.take (l.length - 1)).length=l.length - 1:=by simp
 rw [e1]
 simp only [val]
 have h4:4294967296 ^ (l.length - 1)*1≤4294967296 ^ (l.length - 1)*(at0 l (l.length - 1)+4294967296*val (l.drop (l.length - 1+1))):=Nat.mul_le_mul_left _ (by omega)
 omega
theorem wC {l:List Nat} {n:Nat} (h:Norm l) (hv:val l<4294967296 ^ n):l.length≤n:=by
 rcases Nat.eq_zero_or_pos l.length with h0 | h0
 ·omega
 ·have h1:=norm_ge h h0
  have h2:4294967296 ^ (l.length - 1)<4294967296 ^ n:=Nat.lt_of_le_of_lt h1 hv
  have h3:l.length - 1<n:=(Nat.pow_lt_pow_iff_right (by decide)).1 h2
  omega
theorem norm_lt {a b:List Nat} (ha:Norm a) (hb:Norm b) (h:a.length<b.length):val a<val b:=by
 have h1:=sP ha.1
 have h2:=norm_ge hb (by omega)
 have h3:4294967296 ^ a.length≤4294967296 ^ (b.length - 1):=Nat.pow_le_pow_right (by decide) (by omega)
 omega
theorem cmp_neg {a b:List Nat} {r:Int} (ha:Norm a) (hb:Norm b) (r1:a.length<b.length→r = -1) (r2:b.length<a.length→r=1) (r3:a.length=b.length→r=sgn (val a - val b)) (h:r<0):val a<val b∧a.length≤b.length:=by
 rcases Nat.lt_trichotomy a.length b.length with h1 | h1 | h1
 ·exact ⟨norm_lt ha hb h1,by omega⟩
 ·have:=r3 h1
  unfold sgn at this
  split at this
  ·exact ⟨by omega,by omega⟩
  ·split at this <;> omega
 ·have:=r2 h1
  omega
theorem jK {a b:List Nat} {r:Int} (ha:Norm a) (hb:Norm b) (r1:a.length<b.length→r = -1) (r2:b.length<a.length→r=1) (r3:a.length=b.length→r=sgn (val a - val b)) (h:0≤r):val b≤val a∧b.length≤a.length:=by
 rcases Nat.lt_trichotomy a.length b.length with h1 | h1 | h1
 ·have:=r1 h1
  omega
 ·have:=r3 h1
  unfold sgn at this
  split at this
  ·omega
  ·exact ⟨by omega,by omega⟩
 ·have:=norm_lt hb ha h1
  exact ⟨by omega,by omega⟩
theorem add_fits {x y:Int} (x1:-9223372036854775808≤x) (x2:x<9223372036854775808) (y1:-9223372036854775808≤y) (y2:y<9223372036854775808) (h:dec (arith .add .i64 x y > x)=dec (y > 0)):arith .add .i64 x y=x+y ∧ -9223372036854775808≤x+y∧x+y<9223372036854775808:=by
 have e:arith .add .i64 x y=if (x+y) % 18446744073709551616≥9223372036854775808 then (x+y) % 18446744073709551616 - 18446744073709551616 else (x+y) % 18446744073709551616:=by
  rw [xD,wrap_i64']
 have h':(arith .add .i64 x y > x)↔(y > 0):=by
  rw [←yE (p:=arith .add .i64 x y > x),h,yE]
 rw [e] at h' ⊢
 split at h' <;> omega
theorem gI {cs ds:List C} {x y:Int} {n:Nat} (hx:IsZ cs x) (hy:IsZ ds y) (sx:Sz n x) (sy:Sz n y) (hn:n≤1073741824):semC Try.prog n_num_Z_Add [.agg cs,.agg ds] (ZK (x+y)):=by
 refine yD ok_num_Z_Add rfl (show HFVs [.agg cs,.agg ds] from ⟨hx.hf,hy.hf,trivial⟩) ?_
 unfold Sz at sx sy
 rcases hx.look with ⟨rfl,x1,x2⟩ | ⟨lx,nx,rfl,xn,xv,xe⟩
 ·rcases hy.look with ⟨rfl,y1,y2⟩ | ⟨ly,ny,rfl,yn,yv,ye⟩
  ·refine go ?_
   cases hq:(yA Cm.gtr (arith .add .i64 x y) x == yA Cm.gtr y 0)
   ·refine go ?_
    refine yB (xG hx) (fun u hu => ?_)
    obtain ⟨c1,l1,n1,rfl,w1,o1,e1⟩:=hu
    refine go ?_
    refine yB (xG hy) (fun u hu => ?_)
    obtain ⟨c2,l2,n2,rfl,w2,o2,e2⟩:=hu
    refine go ?_
    have hl1:l1.length≤n:=wC o1 (by rw [e1] at sx; rwa [wV] at sx)
    have hl2:l2.length≤n:=wC o2 (by rw [e2] at sy; rwa [wV] at sy)
    cases n1 <;> cases n2
    ·refine go ?_
     refine yB (qP w1 w2 o1.1 o2.1 (by omega) (by omega)) (fun u hu => ?_)
     obtain ⟨c3,l3,rfl,w3,o3,v3,len3⟩:=hu
     refine go ?_
     refine yB (xX false w3 o3 (by omega)) (fun u hu => ?_)
     obtain ⟨cs3,rfl,z3⟩:=hu
     obtain ⟨a0,a1,a2,rfl⟩:=z3.three
     refine go ?_
     have ez:x+y=amt false (val l3):=by rw [e1,e2,v3]; simp [amt]; try omega
     rw [ez]
     exact ZK.fz z3
    ·refine go ?_
     refine yB (uU w1 w2 o1.1 o2.1 (by omega)) (fun u hu => ?_)
     obtain ⟨r,rfl,r1,r2,r3⟩:=hu
     refine go ?_
     cases hq:yA Cm.geq r 0
     ·simp [yA] at hq
      refine go ?_
      obtain ⟨q1,q2⟩:=cmp_neg o1 o2 r1 r2 r3 hq
      refine yB (vS w2 w1 o2.1 o1.1 (by omega) (by omega) (by omega)) (fun u hu => ?_)
      obtain ⟨c3,l3,rfl,w3,o3,v3,len3⟩:=hu
      refine go ?_
      refine yB (xX true w3 o3 (by omega)) (fun u hu => ?_)
      obtain ⟨cs3,rfl,z3⟩:=hu
      obtain ⟨a0,a1,a2,rfl⟩:=z3.three
      refine go ?_
      have ez:x+y=amt true (val l3):=by rw [e1,e2,v3]; simp [amt]; try omega
      rw [ez]
      exact ZK.fz z3
     ·simp [yA] at hq
      refine go ?_
      obtain ⟨q1,q2⟩:=jK o1 o2 r1 r2 r3 hq
      refine yB (vS w1 w2 o1.1 o2.1 (by omega) (by omega) (by omega)) (fun u hu => ?_)
      obtain ⟨c3,l3,rfl,w3,o3,v3,len3⟩:=hu
      refine go ?_
      refine yB (xX false w3 o3 (by omega)) (fun u hu => ?_)
      obtain ⟨cs3,rfl,z3⟩:=hu
      obtain ⟨a0,a1,a2,rfl⟩:=z3.three
      refine go ?_
      have ez:x+y=amt false (val l3):=by rw [e1,e2,v3]; simp [amt]; try omega
      rw [ez]
      exact ZK.fz z3
    ·refine go ?_
     refine yB (uU w1 w2 o1.1 o2.1 (by omega)) (fun u hu => ?_)
     obtain ⟨r,rfl,r1,r2,r3⟩:=hu
     refine go ?_
     cases hq:yA Cm.geq r 0
     ·simp [yA] at hq
      refine go ?_
      obtain ⟨q1,q2⟩:=cmp_neg o1 o2 r1 r2 r3 hq
      refine yB (vS w2 w1 o2.1 o1.1 (by omega) (by omega) (by omega)) (fun u hu => ?_)
      obtain ⟨c3,l3,rfl,w3,o3,v3,len3⟩:=hu
      refine go ?_
      refine yB (xX false w3 o3 (by omega)) (fun u hu => ?_)
      obtain ⟨cs3,rfl,z3⟩:=hu
      obtain ⟨a0,a1,a2,rfl⟩:=z3.three
      refine go ?_
      have ez:x+y=amt false (val l3):=by rw [e1,e2,v3]; simp [amt]; try omega
      rw [ez]
      exact ZK.fz z3
     ·simp [yA] at hq
      refine go ?_
      obtain ⟨q1,q2⟩:=jK o1 o2 r1 r2 r3 hq
      refine yB (vS w1 w2 o1.1 o2.1 (by omega) (by omega) (by omega)) (fun u hu => ?_)
      obtain ⟨c3,l3,rfl,w3,o3,v3,len3⟩:=hu
      refine go ?_
      refine yB (xX true w3 o3 (by omega)) (fun u hu => ?_)
      obtain ⟨cs3,rfl,z3⟩:=hu
      obtain ⟨a0,a1,a2,rfl⟩:=z3.three
      refine go ?_
      have ez:x+y=amt true (val l3):=by rw [e1,e2,v3]; simp [amt]; try omega
      rw [ez]
      exact ZK.fz z3
    ·refine go ?_
     refine yB (qP w1 w2 o1.1 o2.1 (by omega) (by omega)) (fun u hu => ?_)
     obtain ⟨c3,l3,rfl,w3,o3,v3,len3⟩:=hu
     refine go ?_
     refine yB (xX true w3 o3 (by omega)) (fun u hu => ?_)
     obtain ⟨cs3,rfl,z3⟩:=hu
     obtain ⟨a0,a1,a2,rfl⟩:=z3.three
     refine go ?_
     have ez:x+y=amt true (val l3):=by rw [e1,e2,v3]; simp [amt]; try omega
     rw [ez]
     exact ZK.fz z3
   ·simp only [yA,beq_iff_eq] at hq
    have hs:arith .add .i64 x y=x+y ∧ -9223372036854775808≤x+y∧x+y<9223372036854775808:=add_fits x1 x2 y1 y2 hq
    refine go ?_
    rw [hs.1]
    exact ZK.fz (.small _ hs.2.1 hs.2.2)
  ·refine go ?_
   refine yB (xG hx) (fun u hu => ?_)
   obtain ⟨c1,l1,n1,rfl,w1,o1,e1⟩:=hu
   refine go ?_
   refine yB (xG hy) (fun u hu => ?_)
   obtain ⟨c2,l2,n2,rfl,w2,o2,e2⟩:=hu
   refine go ?_
   have hl1:l1.length≤n:=wC o1 (by rw [e1] at sx; rwa [wV] at sx)
   have hl2:l2.length≤n:=wC o2 (by rw [e2] at sy; rwa [wV] at sy)
   cases n1 <;> cases n2
   ·refine go ?_
    refine yB (qP w1 w2 o1.1 o2.1 (by omega) (by omega)) (fun u hu => ?_)
    obtain ⟨c3,l3,rfl,w3,o3,v3,len3⟩:=hu
    refine go ?_
    refine yB (xX false w3 o3 (by omega)) (fun u hu => ?_)
    obtain ⟨cs3,rfl,z3⟩:=hu
    obtain ⟨a0,a1,a2,rfl⟩:=z3.three
    refine go ?_
    have ez:x+y=amt false (val l3):=by rw [e1,e2,v3]; simp [amt]; try omega
    rw [ez]
    exact ZK.fz z3
   ·refine go ?_
    refine yB (uU w1 w2 o1.1 o2.1 (by omega)) (fun u hu => ?_)
    obtain ⟨r,rfl,r1,r2,r3⟩:=hu
    refine go ?_
    cases hq:yA Cm.geq r 0
    ·simp [yA] at hq
     refine go ?_
     obtain ⟨q1,q2⟩:=cmp_neg o1 o2 r1 r2 r3 hq
     refine yB (vS w2 w1 o2.1 o1.1 (by omega) (by omega) (by omega)) (fun u hu => ?_)
     obtain ⟨c3,l3,rfl,w3,o3,v3,len3⟩:=hu
     refine go ?_
     refine yB (xX true w3 o3 (by omega)) (fun u hu => ?_)
     obtain ⟨cs3,rfl,z3⟩:=hu
     obtain ⟨a0,a1,a2,rfl⟩:=z3.three
     refine go ?_
     have ez:x+y=amt true (val l3):=by rw [e1,e2,v3]; simp [amt]; try omega
     rw [ez]
     exact ZK.fz z3
    ·simp [yA] at hq
     refine go ?_
     obtain ⟨q1,q2⟩:=jK o1 o2 r1 r2 r3 hq
     refine yB (vS w1 w2 o1.1 o2.1 (by omega) (by omega) (by omega)) (fun u hu => ?_)
     obtain ⟨c3,l3,rfl,w3,o3,v3,len3⟩:=hu
     refine go ?_
     refine yB (xX false w3 o3 (by omega)) (fun u hu => ?_)
     obtain ⟨cs3,rfl,z3⟩:=hu
     obtain ⟨a0,a1,a2,rfl⟩:=z3.three
     refine go ?_
     have ez:x+y=amt false (val l3):=by rw [e1,e2,v3]; simp [amt]; try omega
     rw [ez]
     exact ZK.fz z3
   ·refine go ?_
    refine yB (uU w1 w2 o1.1 o2.1 (by omega)) (fun u hu => ?_)
    obtain ⟨r,rfl,r1,r2,r3⟩:=hu
    refine go ?_
    cases hq:yA Cm.geq r 0
    ·simp [yA] at hq
     refine go ?_
     obtain ⟨q1,q2⟩:=cmp_neg o1 o2 r1 r2 r3 hq
     refine yB (vS w2 w1 o2.1 o1.1 (by omega) (by omega) (by omega)) (fun u hu => ?_)
     obtain ⟨c3,l3,rfl,w3,o3,v3,len3⟩:=hu
     refine go ?_
     refine yB (xX false w3 o3 (by omega)) (fun u hu => ?_)
     obtain ⟨cs3,rfl,z3⟩:=hu
     obtain ⟨a0,a1,a2,rfl⟩:=z3.three
     refine go ?_
     have ez:x+y=amt false (val l3):=by rw [e1,e2,v3]; simp [amt]; try omega
     rw [ez]
     exact ZK.fz z3
    ·simp [yA] at hq
     refine go ?_
     obtain ⟨q1,q2⟩:=jK o1 o2 r1 r2 r3 hq
     refine yB (vS w1 w2 o1.1 o2.1 (by omega) (by omega) (by omega)) (fun u hu => ?_)
     obtain ⟨c3,l3,rfl,w3,o3,v3,len3⟩:=hu
     refine go ?_
     refine yB (xX true w3 o3 (by omega)) (fun u hu => ?_)
     obtain ⟨cs3,rfl,z3⟩:=hu
     obtain ⟨a0,a1,a2,rfl⟩:=z3.three
     refine go ?_
     have ez:x+y=amt true (val l3):=by rw [e1,e2,v3]; simp [amt]; try omega
     rw [ez]
     exact ZK.fz z3
   ·refine go ?_
    refine yB (qP w1 w2 o1.1 o2.1 (by omega) (by omega)) (fun u hu => ?_)
    obtain ⟨c3,l3,rfl,w3,o3,v3,len3⟩:=hu
    refine go ?_
    refine yB (xX true w3 o3 (by omega)) (fun u hu => ?_)
    obtain ⟨cs3,rfl,z3⟩:=hu
    obtain ⟨a0,a1,a2,rfl⟩:=z3.three
    refine go ?_
    have ez:x+y=amt true (val l3):=by rw [e1,e2,v3]; simp [amt]; try omega
    rw [ez]
    exact ZK.fz z3
 ·obtain ⟨d0,d1,d2,rfl⟩:=hy.three
  refine go ?_
  refine yB (xG hx) (fun u hu => ?_)
  obtain ⟨c1,l1,n1,rfl,w1,o1,e1⟩:=hu
  refine go ?_
  refine yB (xG hy) (fun u hu => ?_)
  obtain ⟨c2,l2,n2,rfl,w2,o2,e2⟩:=hu
  refine go ?_
  have hl1:l1.length≤n:=wC o1 (by rw [e1] at sx; rwa [wV] at sx)
  have hl2:l2.length≤n:=wC o2 (by rw [e2] at sy; rwa [wV] at sy)
  cases n1 <;> cases n2
  ·refine go ?_
   refine yB (qP w1 w2 o1.1 o2.1 (by omega) (by omega)) (fun u hu => ?_)
   obtain ⟨c3,l3,rfl,w3,o3,v3,len3⟩:=hu
   refine go ?_
   refine yB (xX false w3 o3 (by omega)) (fun u hu => ?_)
   obtain ⟨cs3,rfl,z3⟩:=hu
   obtain ⟨a0,a1,a2,rfl⟩:=z3.three
   refine go ?_
   have ez:x+y=amt false (val l3):=by rw [e1,e2,v3]; simp [amt]; try omega
   rw [ez]
   exact ZK.fz z3
  ·refine go ?_
   refine yB (uU w1 w2 o1.1 o2.1 (by omega)) (fun u hu => ?_)
   obtain ⟨r,rfl,r1,r2,r3⟩:=hu
   refine go ?_
   cases hq:yA Cm.geq r 0
   ·simp [yA] at hq
    refine go ?_
    obtain ⟨q1,q2⟩:=cmp_neg o1 o2 r1 r2 r3 hq
    refine yB (vS w2 w1 o2.1 o1.1 (by omega) (by omega) (by omega)) (fun u hu => ?_)
    obtain ⟨c3,l3,rfl,w3,o3,v3,len3⟩:=hu
    refine go ?_
    refine yB (xX true w3 o3 (by omega)) (fun u hu => ?_)
    obtain ⟨cs3,rfl,z3⟩:=hu
    obtain ⟨a0,a1,a2,rfl⟩:=z3.three
    refine go ?_
    have ez:x+y=amt true (val l3):=by rw [e1,e2,v3]; simp [amt]; try omega
    rw [ez]
    exact ZK.fz z3
   ·simp [yA] at hq
    refine go ?_
    obtain ⟨q1,q2⟩:=jK o1 o2 r1 r2 r3 hq
    refine yB (vS w1 w2 o1.1 o2.1 (by omega) (by omega) (by omega)) (fun u hu => ?_)
    obtain ⟨c3,l3,rfl,w3,o3,v3,len3⟩:=hu
    refine go ?_
    refine yB (xX false w3 o3 (by omega)) (fun u hu => ?_)
    obtain ⟨cs3,rfl,z3⟩:=hu
    obtain ⟨a0,a1,a2,rfl⟩:=z3.three
    refine go ?_
    have ez:x+y=amt false (val l3):=by rw [e1,e2,v3]; simp [amt]; try omega
    rw [ez]
    exact ZK.fz z3
  ·refine go ?_
   refine yB (uU w1 w2 o1.1 o2.1 (by omega)) (fun u hu => ?_)
   obtain ⟨r,rfl,r1,r2,r3⟩:=hu
   refine go ?_
   cases hq:yA Cm.geq r 0
   ·simp [yA] at hq
    refine go ?_
    obtain ⟨q1,q2⟩:=cmp_neg o1 o2 r1 r2 r3 hq
    refine yB (vS w2 w1 o2.1 o1.1 (by omega) (by omega) (by omega)) (fun u hu => ?_)
    obtain ⟨c3,l3,rfl,w3,o3,v3,len3⟩:=hu
    refine go ?_
    refine yB (xX false w3 o3 (by omega)) (fun u hu => ?_)
    obtain ⟨cs3,rfl,z3⟩:=hu
    obtain ⟨a0,a1,a2,rfl⟩:=z3.three
    refine go ?_
    have ez:x+y=amt false (val l3):=by rw [e1,e2,v3]; simp [amt]; try omega
    rw [ez]
    exact ZK.fz z3
   ·simp [yA] at hq
    refine go ?_
    obtain ⟨q1,q2⟩:=jK o1 o2 r1 r2 r3 hq
    refine yB (vS w1 w2 o1.1 o2.1 (by omega) (by omega) (by omega)) (fun u hu => ?_)
    obtain ⟨c3,l3,rfl,w3,o3,v3,len3⟩:=hu
    refine go ?_
    refine yB (xX true w3 o3 (by omega)) (fun u hu => ?_)
    obtain ⟨cs3,rfl,z3⟩:=hu
    obtain ⟨a0,a1,a2,rfl⟩:=z3.three
    refine go ?_
    have ez:x+y=amt true (val l3):=by rw [e1,e2,v3]; simp [amt]; try omega
    rw [ez]
    exact ZK.fz z3
  ·refine go ?_
   refine yB (qP w1 w2 o1.1 o2.1 (by omega) (by omega)) (fun u hu => ?_)
   obtain ⟨c3,l3,rfl,w3,o3,v3,len3⟩:=hu
   refine go ?_
   refine yB (xX true w3 o3 (by omega)) (fun u hu => ?_)
   obtain ⟨cs3,rfl,z3⟩:=hu
   obtain ⟨a0,a1,a2,rfl⟩:=z3.three
   refine go ?_
   have ez:x+y=amt true (val l3):=by rw [e1,e2,v3]; simp [amt]; try omega
   rw [ez]
   exact ZK.fz z3
theorem gR (v:Int) (h1:-9223372036854775808≤v) (h2:v<9223372036854775808):semC Try.prog n_num_I [i64 v] (ZK v):=by
 refine yD ok_num_I rfl (show HFVs [i64 v] from ⟨trivial,trivial⟩) ?_
 refine go ?_
 exact ZK.fz (.small v h1 h2)
def IntK (n:Int) (u:V):Prop:=u=i64 n
theorem IntK.fz {n:Int} {H:Hp}:∃ d,FzV H (i64 n) d∧IntK n d:=⟨_,.c (.hf trivial),rfl⟩
theorem sgn_amt {neg:Bool} {n:Nat} (h:0<n):sgn (amt neg n)=bif neg then -1 else 1:=by
 cases neg <;> simp [sgn,amt] <;> omega
theorem pL {cs:List C} {x:Int} (hx:IsZ cs x):semC Try.prog n_num_Z_Sign [.agg cs] (IntK (sgn x)):=by
 refine yD ok_num_Z_Sign rfl (show HFVs [.agg cs] from ⟨hx.hf,trivial⟩) ?_
 rcases hx.look with ⟨rfl,x1,x2⟩ | ⟨lx,nx,rfl,xn,xv,xe⟩
 ·refine go ?_
  cases hq:yA Cm.lss x 0
  ·simp [yA] at hq
   refine go ?_
   cases hq2:yA Cm.eql x 0
   ·simp [yA] at hq2
    refine go ?_
    rw [show sgn x=1 by unfold sgn; rw [if_neg (by omega),if_neg hq2]]
    exact IntK.fz
   ·simp [yA] at hq2
    refine go ?_
    rw [show sgn x=0 by unfold sgn; rw [if_neg (by omega),if_pos hq2]]
    exact IntK.fz
  ·simp [yA] at hq
   refine go ?_
   rw [show sgn x = -1 by unfold sgn; rw [if_pos hq]]
   exact IntK.fz
 ·rw [xe,sgn_amt (by omega)]
  cases nx
  ·refine go ?_
   exact IntK.fz
  ·refine go ?_
   exact IntK.fz
theorem bP {cs:List C} {x:Int} {n:Nat} (hx:IsZ cs x) (sx:Sz n x) (hn:n≤1073741824):semC Try.prog n_num_Z_Neg [.agg cs] (ZK (-x)):=by
 refine yD ok_num_Z_Neg rfl (show HFVs [.agg cs] from ⟨hx.hf,trivial⟩) ?_
 unfold Sz at sx
 rcases hx.look with ⟨rfl,x1,x2⟩ | ⟨lx,nx,rfl,xn,xv,xe⟩
 ·refine go ?_
  cases hq:yA Cm.neq x (-9223372036854775808)
  ·simp [yA] at hq
   refine go ?_
   refine yB (xG hx) (fun u hu => ?_)
   obtain ⟨c1,l1,n1,rfl,w1,o1,e1⟩:=hu
   refine go ?_
   have hl1:l1.length≤n:=wC o1 (by rw [e1] at sx; rwa [wV] at sx)
   refine yB (xX (!n1) w1 o1.1 (by omega)) (fun u hu => ?_)
   obtain ⟨cs3,rfl,z3⟩:=hu
   obtain ⟨a0,a1,a2,rfl⟩:=z3.three
   refine go ?_
   rw [e1,show -amt n1 (val l1)=amt (!n1) (val l1) by cases n1 <;> simp [amt]]
   exact ZK.fz z3
  ·simp [yA] at hq
   refine go ?_
   rw [yG (by omega) (by omega),Int.zero_sub]
   exact ZK.fz (.small _ (by omega) (by omega))
 ·refine go ?_
  refine yB (xG hx) (fun u hu => ?_)
  obtain ⟨c1,l1,n1,rfl,w1,o1,e1⟩:=hu
  refine go ?_
  have hl1:l1.length≤n:=wC o1 (by rw [e1] at sx; rwa [wV] at sx)
  refine yB (xX (!n1) w1 o1.1 (by omega)) (fun u hu => ?_)
  obtain ⟨cs3,rfl,z3⟩:=hu
  obtain ⟨a0,a1,a2,rfl⟩:=z3.three
  refine go ?_
  rw [e1,show -amt n1 (val l1)=amt (!n1) (val l1) by cases n1 <;> simp [amt]]
  exact ZK.fz z3
theorem num_Z_Abs {cs:List C} {x:Int} {n:Nat} (hx:IsZ cs x) (sx:Sz n x) (hn:n≤1073741824):semC Try.prog n_num_Z_Abs [.agg cs] (ZK x.natAbs):=by
 refine yD ok_num_Z_Abs rfl (show HFVs [.agg cs] from ⟨hx.hf,trivial⟩) ?_
 obtain ⟨c0,c1,c2,rfl⟩:=hx.three
 refine go ?_
 refine yB (pL hx) (fun u hu => ?_)
 obtain rfl:=hu
 refine go ?_
 cases hq:yA Cm.lss (sgn x) 0
 ·simp [yA] at hq
  refine go ?_
  have:(x.natAbs:Int)=x:=by
   unfold sgn at hq
   split at hq <;> omega
  rw [this]
  exact ZK.fz hx
 ·simp [yA] at hq
  refine go ?_
  refine yB (bP hx sx hn) (fun u hu => ?_)
  obtain ⟨ds,rfl,hd⟩:=hu
  obtain ⟨d0,d1,d2,rfl⟩:=hd.three
  refine go ?_
  have:(x.natAbs:Int) = -x:=by
   unfold sgn at hq
   split at hq
   ·omega
   ·split at hq <;> omega
  rw [this]
  exact ZK.fz hd
theorem Sz.neg {n:Nat} {x:Int} (h:Sz n x):Sz n (-x):=by
 unfold Sz at h ⊢
 rwa [Int.natAbs_neg]
theorem num_Z_Sub {cs ds:List C} {x y:Int} {n:Nat} (hx:IsZ cs x) (hy:IsZ ds y) (sx:Sz n x) (sy:Sz n y) (hn:n≤1073741824):semC Try.prog n_num_Z_Sub [.agg cs,.agg ds] (ZK (x - y)):=by
 refine yD ok_num_Z_Sub rfl (show HFVs [.agg cs,.agg ds] from ⟨hx.hf,hy.hf,trivial⟩) ?_
 obtain ⟨c0,c1,c2,rfl⟩:=hx.three
 obtain ⟨d0,d1,d2,rfl⟩:=hy.three
 refine go ?_
 refine yS (bP hy sy hn) (fun u hu => ?_)
 obtain ⟨es,rfl,he⟩:=hu
 refine go ?_
 refine yS (gI hx he sx sy.neg hn) (fun u hu => ?_)
 obtain ⟨fs,rfl,hf⟩:=hu
 obtain ⟨f0,f1,f2,rfl⟩:=hf.three
 refine go ?_
 rw [Int.sub_eq_add_neg]
 exact ZK.fz hf
theorem num_Z_Cmp {cs ds:List C} {x y:Int} {n:Nat} (hx:IsZ cs x) (hy:IsZ ds y) (sx:Sz n x) (sy:Sz n y) (hn:n≤1073741824):semC Try.prog n_num_Z_Cmp [.agg cs,.agg ds] (IntK (sgn (x - y))):=by
 refine yD ok_num_Z_Cmp rfl (show HFVs [.agg cs,.agg ds] from ⟨hx.hf,hy.hf,trivial⟩) ?_
 have hsub:=num_Z_Sub hx hy sx sy hn
 rcases hx.look with ⟨rfl,x1,x2⟩ | ⟨lx,nx,rfl,xn,xv,xe⟩
 ·rcases hy.look with ⟨rfl,y1,y2⟩ | ⟨ly,ny,rfl,yn,yv,ye⟩
  ·refine go ?_
   cases hq:yA Cm.lss x y
   ·simp [yA] at hq
    refine go ?_
    cases hq2:yA Cm.gtr x y
    ·simp [yA] at hq2
     refine go ?_
     rw [show sgn (x - y)=0 by unfold sgn; rw [if_neg (by omega),if_pos (by omega)]]
     exact IntK.fz
    ·simp [yA] at hq2
     refine go ?_
     rw [show sgn (x - y)=1 by unfold sgn; rw [if_neg (by omega),if_neg (by omega)]]
     exact IntK.fz
   ·simp [yA] at hq
    refine go ?_
    rw [show sgn (x - y) = -1 by unfold sgn; rw [if_pos (by omega)]]
    exact IntK.fz
  ·refine go ?_
   refine yB hsub (fun u hu => ?_)
   obtain ⟨cs3,rfl,z3⟩:=hu
   refine go ?_
   refine yB (pL z3) (fun u hu => ?_)
   obtain rfl:=hu
   refine go ?_
   exact IntK.fz
 ·obtain ⟨d0,d1,d2,rfl⟩:=hy.three
  refine go ?_
  refine yB hsub (fun u hu => ?_)
  obtain ⟨cs3,rfl,z3⟩:=hu
  refine go ?_
  refine yB (pL z3) (fun u hu => ?_)
  obtain rfl:=hu
  refine go ?_
  exact IntK.fz
end Go.Proofs.Ytokckcnfojjpjaa

namespace Go.Proofs.Ytokckcnfojjpjaa
open Go.RowKit
set_option maxRecDepth 20000
theorem and32 (a:Nat) (ha:a<18446744073709551616):arith .and .u64 (a:Int) 4294967295=((a % 4294967296:Nat):Int):=by
 have h:=bits_and_u64_nat a 4294967295 ha (by omega)
 have e:a &&& 4294967295=a % 4294967296:=Nat.and_two_pow_sub_one_eq_mod a 32
 rw [e] at h
 exact h
theorem nat_div32 (a:Nat):(a:Int) / 4294967296=((a / 4294967296:Nat):Int):=by omega
theorem nat_mul (a b:Nat):(a:Int)*(b:Int)=((a*b:Nat):Int):=(Int.natCast_mul a b).symm
theorem nat_add (a b:Nat):(a:Int)+(b:Int)=((a+b:Nat):Int):=(Int.natCast_add a b).symm
theorem wT (a:Nat) (ha:a<18446744073709551616):IntKind.u64.wrap (a:Int)=(a:Int):=by rw [wF]; omega
theorem wrapM (a:Nat):IntKind.u64.wrap (a:Int)=((a % 18446744073709551616:Nat):Int):=by rw [wF]; omega
theorem mulN (a b:Nat) (h:a*b<18446744073709551616):arith .mul .u64 (a:Int) (b:Int)=((a*b:Nat):Int):=by rw [ar_mul,nat_mul,wT _ h]
theorem mulM (a b:Nat):arith .mul .u64 (a:Int) (b:Int)=((a*b % 18446744073709551616:Nat):Int):=by rw [ar_mul,nat_mul,wrapM]
theorem addN (a b:Nat) (h:a+b<18446744073709551616):arith .add .u64 (a:Int) (b:Int)=((a+b:Nat):Int):=by rw [xD,nat_add,wT _ h]
theorem shrN (a:Nat):((a:Nat):Int).fdiv (2 ^ (min (32:Int).toNat IntKind.u64.bits))=((a / 4294967296:Nat):Int):=by rw [gS,nat_div32]
theorem pG:∀ (l:List Nat) (k w:Nat),k<l.length→val (l.set k w)+4294967296 ^ k*at0 l k=val l+4294967296 ^ k*w
 | [],k,w,h => by simp at h
 | x :: r,0,w,h => by
  simp [val,at0]
  omega
 | x :: r,k+1,w,h => by
  have ih:=pG r k w (by simpa using h)
  have e:at0 (x :: r) (k+1)=at0 r k:=by simp [at0]
  rw [e]
  simp only [List.set_cons_succ,val]
  rw [Nat.pow_succ,Nat.mul_comm (4294967296 ^ k) 4294967296,Nat.mul_assoc,Nat.mul_assoc]
  omega
theorem wU {l:List Nat} {k m w:Nat} (h:k<m):at0 (l.set k w) m=at0 l m:=by
 simp [at0,List.getElem?_set_ne (by omega:k≠m)]
theorem OkW.set {l:List Nat} {k w:Nat} (h:OkW l) (hw:w<4294967296):OkW (l.set k w):=fun x hx => by
 rcases List.mem_or_eq_of_mem_set hx with h1 | h1
 ·exact h x h1
 ·omega
theorem splice_set {l:List Nat} {k w:Nat} (h:k<l.length):splice (l.map W) k [W w]=(l.set k w).map W:=by
 unfold splice
 rw [List.map_set,List.set_eq_take_append_cons_drop]
 simp [h]
theorem cell_at {l:List Nat} {k:Nat} (h:k<l.length):(l.map W)[k]?=some (.int .u32 (at0 l k:Nat)):=by
 simp [at0,h,W]
theorem zeros (n:Nat):(List.replicate n [C.int .u32 0]).flatten=(List.replicate n 0).map W:=by
 induction n with
 | zero => rfl
 | succ n ih => simp [List.replicate_succ,ih,W]
theorem sW (n:Nat):val (List.replicate n 0)=0:=by
 induction n with
 | zero => rfl
 | succ n ih => simp [List.replicate_succ,val,ih]
theorem sI (n k:Nat):at0 (List.replicate n 0) k=0:=by
 unfold at0
 rw [List.getD_eq_getElem?_getD,List.getElem?_replicate]
 split <;> rfl
theorem xS {l:List Nat} {n:Nat} (h:l.length≤n):val (l.take n)=val l:=by rw [List.take_of_length_le h]
attribute [local irreducible] yA semH semC qLen qNil qIad qSlc qIdx yW yI xA appX appI slcX awpF yP xH xopF xM qval lval seqQ xJ xY xU xR cnd arith IntKind.wrap
theorem nQ {x y:Nat} (hx:x<18446744073709551616) (hy:y<18446744073709551616):semC Try.prog n_bits_Mul64 [.c (.int .u64 (x:Int)),.c (.int .u64 (y:Int))] (fun u => u=.tup [.c (.int .u64 ((x*y / 18446744073709551616:Nat):Int)),.c (.int .u64 ((x*y % 18446744073709551616:Nat):Int))]):=by
 refine yD ok_bits_Mul64 rfl (show HFVs [.c (.int .u64 (x:Int)),.c (.int .u64 (y:Int))] from ⟨trivial,trivial,trivial⟩) ?_
 obtain ⟨bd,bt,bw,hhi⟩:=Lib.mul64_hi x y hx hy
 have ba:=Lib.half_mul_le (a:=x / 4294967296) (b:=y / 4294967296) (by omega) (by omega)
 have bb:=Lib.half_mul_le (a:=x / 4294967296) (b:=y % 4294967296) (by omega) (by omega)
 have bc:=Lib.half_mul_le (a:=x % 4294967296) (b:=y / 4294967296) (by omega) (by omega)
 refine go ?_
 rw [and32 x hx,and32 y hy,shrN x,shrN y,mulN _ _ bd,shrN,mulN (x / 4294967296) (y % 4294967296) (by omega),addN _ _ bt,and32 _ bt,shrN,mulN (x % 4294967296) (y / 4294967296) (by omega),addN _ _ bw,shrN,mulN (x / 4294967296) (y / 4294967296) (by omega),addN _ _ (by omega),addN _ _ (by omega),hhi,mulM]
 exact ⟨_,.tup (.cons (.c (.hf trivial)) (.cons (.c (.hf trivial)) .nil)),rfl⟩
theorem vI {s:Option Slot} {size off k:Nat} {l:List Nat} {el:TypeId} {kd:BK} {K:V→Prop} (h:s=some (.live ⟨l.map W,el,kd⟩)) (ho:off=k) (hk:k<l.length) (kk:K (.c (.int .u32 (at0 l k:Nat)))):yW s false size off K:=by
 subst ho
 exact yU h (cell_at hk) kk
theorem wM {s:Option Slot} {b off k w:Nat} {l:List Nat} {el:TypeId} {ds:Option (List C)} {K:Nat→Slot→Prop} (h:s=some (.live ⟨l.map W,el,.rw⟩)) (h2:ds=some [.int .u32 (w:Nat)]) (ho:off=k) (hk:k<l.length) (kk:K b (.live ⟨(l.set k w).map W,el,.rw⟩)):xA s b 1 off ds K:=by
 subst ho
 refine xC h h2 rfl (by simp; omega) ?_
 have:=splice_set (w:=w) hk
 unfold W at this ⊢
 rw [this]
 exact kk
theorem pB {out:List Nat} {k x y carry:Nat} (hk:k<out.length) (ho:OkW out) (hx:x<4294967296) (hy:y<4294967296) (hc:carry<4294967296) :
  x*y+at0 out k+carry<18446744073709551616∧(x*y+at0 out k+carry) / 4294967296<4294967296 ∧
  val (out.set k ((x*y+at0 out k+carry) % 4294967296))+4294967296 ^ (k+1)*((x*y+at0 out k+carry) / 4294967296)=val out+4294967296 ^ k*carry+4294967296 ^ k*(x*y):=by
 have h1:x*y≤4294967295*4294967295:=Nat.mul_le_mul (by omega) (by omega)
 have h2:=ho.get k
 refine ⟨by omega,by omega,?_⟩
 have h3:=pG out k ((x*y+at0 out k+carry) % 4294967296) hk
 have h4:=Nat.div_add_mod (x*y+at0 out k+carry) 4294967296
 have h5:4294967296 ^ k*((x*y+at0 out k+carry) % 4294967296)+4294967296 ^ k*4294967296*((x*y+at0 out k+carry) / 4294967296)=4294967296 ^ k*(x*y+at0 out k+carry):=by
  rw [Nat.mul_assoc,←Nat.mul_add,Nat.add_comm,h4]
 rw [Nat.mul_add,Nat.mul_add] at h5
 rw [Nat.pow_succ]
 omega
end Go.Proofs.Ytokckcnfojjpjaa

namespace Go.Proofs.Ytokckcnfojjpjaa
open Go.RowKit
set_option maxRecDepth 20000
attribute [local irreducible] yA semH semC qLen qNil qIad qSlc qIdx yW yI xA appX appI slcX awpF yP xH xopF xM qval lval seqQ xJ xY xU xR cnd arith IntKind.wrap
theorem jQ (a b:Bool) (m n:Nat):amt a m*amt b n=amt (bif true then !(a == b) else (a == b)) (m*n):=by
 cases a <;> cases b <;> simp [amt,Int.mul_neg,Int.neg_mul]
set_option maxHeartbeats 4000000 in
theorem uF {cs ds:List C} {x y:Int} {n:Nat} (hx:IsZ cs x) (hy:IsZ ds y) (sx:Sz n x) (sy:Sz n y) (hn:n≤1073741824):semC Try.prog n_num_Z_Mul [.agg cs,.agg ds] (ZK (x*y)):=by
 refine yD ok_num_Z_Mul rfl (show HFVs [.agg cs,.agg ds] from ⟨hx.hf,hy.hf,trivial⟩) ?_
 unfold Sz at sx sy
 rcases hx.look with ⟨rfl,x1,x2⟩ | ⟨lx,nx,rfl,xn,xv,xe⟩
 ·rcases hy.look with ⟨rfl,y1,y2⟩ | ⟨ly,ny,rfl,yn,yv,ye⟩
  ·refine go ?_
   cases hq:yA Cm.lss x 0
   ·have hq0:=hq
    simp [yA] at hq
    refine go ?_
    cases hr:yA Cm.lss y 0
    ·have hr0:=hr
     simp [yA] at hr
     refine go ?_
     rw [show IntKind.u64.wrap x=((x.natAbs:Nat):Int) by rw [wF]; omega,show IntKind.u64.wrap y=((y.natAbs:Nat):Int) by rw [wF]; omega]
     refine yB (nQ (x:=x.natAbs) (y:=y.natAbs) (by omega) (by omega)) (fun u hu => ?_)
     obtain rfl:=hu
     refine go ?_
     cases hp:yA Cm.eql ((x.natAbs*y.natAbs / 18446744073709551616:Nat):Int) 0
     ·refine go ?_
      refine yB (xG hx) (fun u hu => ?_)
      obtain ⟨c1,l1,n1,rfl,w1,o1,e1⟩:=hu
      refine go ?_
      refine yB (xG hy) (fun u hu => ?_)
      obtain ⟨c2,l2,n2,rfl,w2,o2,e2⟩:=hu
      refine go ?_
      have hl1:l1.length≤n:=wC o1 (by rw [e1] at sx; rwa [wV] at sx)
      have hl2:l2.length≤n:=wC o2 (by rw [e2] at sy; rwa [wV] at sy)
      have e:arith .add .i64 (l1.length:Int) l2.length=((l1.length+l2.length:Nat):Int):=by
       rw [xD,yG (by omega) (by omega)]
       omega
      rw [e]
      refine vQ (by rfl) (by rfl) ⟨by omega,by omega,by omega,by omega⟩ ?_
      rw [Int.toNat_natCast,zeros]
      refine go ?_
      refine yX (fun n vs H => ∃ (i:Nat) (out:List Nat),vs=[.c (.ptr 2 0),.c c1,.c (.bool n1),.c c2,.c (.bool n2),.c (.sl 3 0 (l1.length+l2.length) (some (l1.length+l2.length)) 1),i64 (l1.length:Int),i64 (i:Int)]∧H=[.live ⟨[.int .i64 x,.nilSl,.bool false],yZ,.rw⟩,.live ⟨[.int .i64 y,.nilSl,.bool false],yZ,.rw⟩,.live ⟨[.int .i64 0,.nilSl,.bool false],yZ,.rw⟩,.live ⟨out.map W,xB,.rw⟩]∧n=l1.length - i∧i≤l1.length∧out.length=l1.length+l2.length∧OkW out∧val out=val (l1.take i)*val l2∧∀ k,i+l2.length≤k→at0 out k=0) (by rfl) ⟨0,_,rfl,rfl,rfl,by omega,by simp,fun x hx => by simp at hx; omega,by simp [val,sW],fun k _ => sI _ k⟩ ?_
      rintro m vs H ⟨i,out,rfl,rfl,rfl,k1,k2,k3,k4,k5⟩
      refine go ?_
      refine xW (fun h => ?_) (fun h => ?_)
      ·simp [yA] at h
       refine go ?_
       refine yX (fun n vs H => ∃ (j carry:Nat) (p:List Nat),vs=[.c (.ptr 2 0),.c c1,.c (.bool n1),.c c2,.c (.bool n2),.c (.sl 3 0 (l1.length+l2.length) (some (l1.length+l2.length)) 1),i64 (i:Int),.c (.int .u64 (carry:Int)),i64 (l1.length:Int),i64 (i:Int),i64 (l2.length:Int),i64 (j:Int)]∧H=[.live ⟨[.int .i64 x,.nilSl,.bool false],yZ,.rw⟩,.live ⟨[.int .i64 y,.nilSl,.bool false],yZ,.rw⟩,.live ⟨[.int .i64 0,.nilSl,.bool false],yZ,.rw⟩,.live ⟨p.map W,xB,.rw⟩]∧n=l2.length - j∧j≤l2.length∧p.length=l1.length+l2.length∧OkW p∧carry<4294967296∧val p+4294967296 ^ (i+j)*carry=val out+4294967296 ^ i*(at0 l1 i*val (l2.take j))∧∀ k,i+j≤k→at0 p k=at0 out k) (by rfl) ⟨0,0,out,rfl,rfl,rfl,by omega,k2,k3,by omega,by simp [val],fun k _ => rfl⟩ ?_
       rintro m vs H ⟨j,carry,p,rfl,rfl,rfl,j1,j2,j3,j4,j5,j6⟩
       refine go ?_
       refine xW (fun h' => ?_) (fun h' => ?_)
       ·simp [yA] at h'
        refine go ?_
        have e3:arith .add .i64 ((i:Nat):Int) ((j:Nat):Int)=((i+j:Nat):Int):=by
         rw [xD,yG (by omega) (by omega)]
         omega
        have ga:=o1.1.get i
        have gb:=o2.1.get j
        have gw:=j3.get (i+j)
        obtain ⟨r1,r2,r3⟩:=pB (k:=i+j) (out:=p) (by omega) j3 ga gb j4
        have r0:at0 l1 i*at0 l2 j<18446744073709551616:=by omega
        rw [e3]
        refine yL (by rfl) (by rfl) (by omega) (by omega) ?_
        refine go ?_
        refine vI (k:=i+j) (by rfl) (by omega) (by omega) ?_
        refine go ?_
        rw [show IntKind.u64.wrap ((at0 l1 ((i:Nat):Int).toNat:Nat):Int)=((at0 l1 i:Nat):Int) by rw [Int.toNat_natCast,wT _ (by omega)],show IntKind.u64.wrap ((at0 l2 ((j:Nat):Int).toNat:Nat):Int)=((at0 l2 j:Nat):Int) by rw [Int.toNat_natCast,wT _ (by omega)],mulN _ _ r0,wT _ (by omega:at0 p (i+j)<18446744073709551616),show arith .add .u64 (arith .add .u64 ((at0 p (i+j):Nat):Int) ((at0 l1 i*at0 l2 j:Nat):Int)) ((carry:Nat):Int)=((at0 l1 i*at0 l2 j+at0 p (i+j)+carry:Nat):Int) by rw [addN _ _ (by omega),addN _ _ (by omega)]; congr 1; omega]
        rw [e3]
        refine yL (by rfl) (by rfl) (by omega) (by omega) ?_
        rw [show IntKind.u32.wrap ((at0 l1 i*at0 l2 j+at0 p (i+j)+carry:Nat):Int)=(((at0 l1 i*at0 l2 j+at0 p (i+j)+carry) % 4294967296:Nat):Int) by rw [xN]; omega]
        refine go ?_
        refine wM (k:=i+j) (by rfl) (by rfl) (by omega) (by omega) ?_
        refine go ?_
        rw [shrN,show arith .add .i64 ((j:Nat):Int) 1=((j+1:Nat):Int) by rw [xD,yG (by omega) (by omega)]; omega]
        refine l_n (by rfl) (by omega) ⟨j+1,_,_,rfl,rfl,rfl,by omega,by simp [j2],j3.set (by omega),r2,?_,fun k hk => ?_⟩
        ·rw [yF,Nat.mul_add,Nat.mul_add,←Nat.add_assoc,←Nat.add_assoc,←j5]
         have e4:4294967296 ^ i*(at0 l1 i*(4294967296 ^ j*at0 l2 j))=4294967296 ^ (i+j)*(at0 l1 i*at0 l2 j):=by
          rw [Nat.pow_add,Nat.mul_left_comm (at0 l1 i),Nat.mul_assoc]
         rw [e4]
         exact r3
        ·rw [wU (by omega)]
         exact j6 k (by omega)
       ·simp [yA] at h'
        have ej:j=l2.length:=by omega
        subst ej
        refine go ?_
        have e3:arith .add .i64 ((i:Nat):Int) l2.length=((i+l2.length:Nat):Int):=by
         rw [xD,yG (by omega) (by omega)]
         omega
        rw [e3]
        refine yL (by rfl) (by rfl) (by omega) (by omega) ?_
        rw [show IntKind.u32.wrap ((carry:Nat):Int)=((carry:Nat):Int) by rw [xN]; omega]
        refine go ?_
        refine wM (k:=i+l2.length) (by rfl) (by rfl) (by omega) (by omega) ?_
        refine go ?_
        rw [show arith .add .i64 ((i:Nat):Int) 1=((i+1:Nat):Int) by rw [xD,yG (by omega) (by omega)]; omega]
        refine l_n (by rfl) (by omega) ⟨i+1,_,rfl,rfl,rfl,by omega,by simp [j2],j3.set j4,?_,fun k hk => ?_⟩
        ·have v1:=pG p (i+l2.length) carry (by omega)
         rw [j6 _ (by omega),k5 _ (by omega)] at v1
         rw [xS (Nat.le_refl _)] at j5
         rw [yF,Nat.add_mul,←k4,Nat.mul_assoc]
         omega
        ·rw [wU (by omega),j6 _ (by omega)]
         exact k5 _ (by omega)
      ·simp [yA] at h
       have ei:i=l1.length:=by omega
       subst ei
       rw [xS (Nat.le_refl _)] at k4
       refine go ?_
       refine xK [3] (.cons (.c (vU out (by rfl) rfl (by simp) k2.symm (by rw [←k2]; exact List.take_of_length_le (by simp)))) (.cons (.c (.hf trivial)) .nil)) (xX _ (.imm out) k3 (by omega)) (fun u hu => ?_)
       obtain ⟨cs3,rfl,z3⟩:=hu
       obtain ⟨a0,a1,a2,rfl⟩:=z3.three
       refine go ?_
       rw [e1,e2,jQ,←k4]
       exact ZK.fz z3
     ·simp only [yA,yE] at hp
      refine go ?_
      cases hl:yA Cm.lss ((x.natAbs*y.natAbs % 18446744073709551616:Nat):Int) 9223372036854775808
      ·refine go ?_
       refine yB (xG hx) (fun u hu => ?_)
       obtain ⟨c1,l1,n1,rfl,w1,o1,e1⟩:=hu
       refine go ?_
       refine yB (xG hy) (fun u hu => ?_)
       obtain ⟨c2,l2,n2,rfl,w2,o2,e2⟩:=hu
       refine go ?_
       have hl1:l1.length≤n:=wC o1 (by rw [e1] at sx; rwa [wV] at sx)
       have hl2:l2.length≤n:=wC o2 (by rw [e2] at sy; rwa [wV] at sy)
       have e:arith .add .i64 (l1.length:Int) l2.length=((l1.length+l2.length:Nat):Int):=by
        rw [xD,yG (by omega) (by omega)]
        omega
       rw [e]
       refine vQ (by rfl) (by rfl) ⟨by omega,by omega,by omega,by omega⟩ ?_
       rw [Int.toNat_natCast,zeros]
       refine go ?_
       refine yX (fun n vs H => ∃ (i:Nat) (out:List Nat),vs=[.c (.ptr 2 0),.c c1,.c (.bool n1),.c c2,.c (.bool n2),.c (.sl 3 0 (l1.length+l2.length) (some (l1.length+l2.length)) 1),i64 (l1.length:Int),i64 (i:Int)]∧H=[.live ⟨[.int .i64 x,.nilSl,.bool false],yZ,.rw⟩,.live ⟨[.int .i64 y,.nilSl,.bool false],yZ,.rw⟩,.live ⟨[.int .i64 0,.nilSl,.bool false],yZ,.rw⟩,.live ⟨out.map W,xB,.rw⟩]∧n=l1.length - i∧i≤l1.length∧out.length=l1.length+l2.length∧OkW out∧val out=val (l1.take i)*val l2∧∀ k,i+l2.length≤k→at0 out k=0) (by rfl) ⟨0,_,rfl,rfl,rfl,by omega,by simp,fun x hx => by simp at hx; omega,by simp [val,sW],fun k _ => sI _ k⟩ ?_
       rintro m vs H ⟨i,out,rfl,rfl,rfl,k1,k2,k3,k4,k5⟩
       refine go ?_
       refine xW (fun h => ?_) (fun h => ?_)
       ·simp [yA] at h
        refine go ?_
        refine yX (fun n vs H => ∃ (j carry:Nat) (p:List Nat),vs=[.c (.ptr 2 0),.c c1,.c (.bool n1),.c c2,.c (.bool n2),.c (.sl 3 0 (l1.length+l2.length) (some (l1.length+l2.length)) 1),i64 (i:Int),.c (.int .u64 (carry:Int)),i64 (l1.length:Int),i64 (i:Int),i64 (l2.length:Int),i64 (j:Int)]∧H=[.live ⟨[.int .i64 x,.nilSl,.bool false],yZ,.rw⟩,.live ⟨[.int .i64 y,.nilSl,.bool false],yZ,.rw⟩,.live ⟨[.int .i64 0,.nilSl,.bool false],yZ,.rw⟩,.live ⟨p.map W,xB,.rw⟩]∧n=l2.length - j∧j≤l2.length∧p.length=l1.length+l2.length∧OkW p∧carry<4294967296∧val p+4294967296 ^ (i+j)*carry=val out+4294967296 ^ i*(at0 l1 i*val (l2.take j))∧∀ k,i+j≤k→at0 p k=at0 out k) (by rfl) ⟨0,0,out,rfl,rfl,rfl,by omega,k2,k3,by omega,by simp [val],fun k _ => rfl⟩ ?_
        rintro m vs H ⟨j,carry,p,rfl,rfl,rfl,j1,j2,j3,j4,j5,j6⟩
        refine go ?_
        refine xW (fun h' => ?_) (fun h' => ?_)
        ·simp [yA] at h'
         refine go ?_
         have e3:arith .add .i64 ((i:Nat):Int) ((j:Nat):Int)=((i+j:Nat):Int):=by
          rw [xD,yG (by omega) (by omega)]
          omega
         have ga:=o1.1.get i
         have gb:=o2.1.get j
         have gw:=j3.get (i+j)
         obtain ⟨r1,r2,r3⟩:=pB (k:=i+j) (out:=p) (by omega) j3 ga gb j4
         have r0:at0 l1 i*at0 l2 j<18446744073709551616:=by omega
         rw [e3]
         refine yL (by rfl) (by rfl) (by omega) (by omega) ?_
         refine go ?_
         refine vI (k:=i+j) (by rfl) (by omega) (by omega) ?_
         refine go ?_
         rw [show IntKind.u64.wrap ((at0 l1 ((i:Nat):Int).toNat:Nat):Int)=((at0 l1 i:Nat):Int) by rw [Int.toNat_natCast,wT _ (by omega)],show IntKind.u64.wrap ((at0 l2 ((j:Nat):Int).toNat:Nat):Int)=((at0 l2 j:Nat):Int) by rw [Int.toNat_natCast,wT _ (by omega)],mulN _ _ r0,wT _ (by omega:at0 p (i+j)<18446744073709551616),show arith .add .u64 (arith .add .u64 ((at0 p (i+j):Nat):Int) ((at0 l1 i*at0 l2 j:Nat):Int)) ((carry:Nat):Int)=((at0 l1 i*at0 l2 j+at0 p (i+j)+carry:Nat):Int) by rw [addN _ _ (by omega),addN _ _ (by omega)]; congr 1; omega]
         rw [e3]
         refine yL (by rfl) (by rfl) (by omega) (by omega) ?_
         rw [show IntKind.u32.wrap ((at0 l1 i*at0 l2 j+at0 p (i+j)+carry:Nat):Int)=(((at0 l1 i*at0 l2 j+at0 p (i+j)+carry) % 4294967296:Nat):Int) by rw [xN]; omega]
         refine go ?_
         refine wM (k:=i+j) (by rfl) (by rfl) (by omega) (by omega) ?_
         refine go ?_
         rw [shrN,show arith .add .i64 ((j:Nat):Int) 1=((j+1:Nat):Int) by rw [xD,yG (by omega) (by omega)]; omega]
         refine l_n (by rfl) (by omega) ⟨j+1,_,_,rfl,rfl,rfl,by omega,by simp [j2],j3.set (by omega),r2,?_,fun k hk => ?_⟩
         ·rw [yF,Nat.mul_add,Nat.mul_add,←Nat.add_assoc,←Nat.add_assoc,←j5]
          have e4:4294967296 ^ i*(at0 l1 i*(4294967296 ^ j*at0 l2 j))=4294967296 ^ (i+j)*(at0 l1 i*at0 l2 j):=by
           rw [Nat.pow_add,Nat.mul_left_comm (at0 l1 i),Nat.mul_assoc]
          rw [e4]
          exact r3
         ·rw [wU (by omega)]
          exact j6 k (by omega)
        ·simp [yA] at h'
         have ej:j=l2.length:=by omega
         subst ej
         refine go ?_
         have e3:arith .add .i64 ((i:Nat):Int) l2.length=((i+l2.length:Nat):Int):=by
          rw [xD,yG (by omega) (by omega)]
          omega
         rw [e3]
         refine yL (by rfl) (by rfl) (by omega) (by omega) ?_
         rw [show IntKind.u32.wrap ((carry:Nat):Int)=((carry:Nat):Int) by rw [xN]; omega]
         refine go ?_
         refine wM (k:=i+l2.length) (by rfl) (by rfl) (by omega) (by omega) ?_
         refine go ?_
         rw [show arith .add .i64 ((i:Nat):Int) 1=((i+1:Nat):Int) by rw [xD,yG (by omega) (by omega)]; omega]
         refine l_n (by rfl) (by omega) ⟨i+1,_,rfl,rfl,rfl,by omega,by simp [j2],j3.set j4,?_,fun k hk => ?_⟩
         ·have v1:=pG p (i+l2.length) carry (by omega)
          rw [j6 _ (by omega),k5 _ (by omega)] at v1
          rw [xS (Nat.le_refl _)] at j5
          rw [yF,Nat.add_mul,←k4,Nat.mul_assoc]
          omega
         ·rw [wU (by omega),j6 _ (by omega)]
          exact k5 _ (by omega)
       ·simp [yA] at h
        have ei:i=l1.length:=by omega
        subst ei
        rw [xS (Nat.le_refl _)] at k4
        refine go ?_
        refine xK [3] (.cons (.c (vU out (by rfl) rfl (by simp) k2.symm (by rw [←k2]; exact List.take_of_length_le (by simp)))) (.cons (.c (.hf trivial)) .nil)) (xX _ (.imm out) k3 (by omega)) (fun u hu => ?_)
        obtain ⟨cs3,rfl,z3⟩:=hu
        obtain ⟨a0,a1,a2,rfl⟩:=z3.three
        refine go ?_
        rw [e1,e2,jQ,←k4]
        exact ZK.fz z3
      ·simp only [yA,yE] at hl
       refine go ?_
       rw [hq0,hr0]
       refine go ?_
       have hm:x.natAbs*y.natAbs<18446744073709551616:=by omega
       rw [Nat.mod_eq_of_lt hm] at hl ⊢
       have h0:0≤x*y:=Int.mul_nonneg hq hr
       have ez:x*y=((x.natAbs*y.natAbs:Nat):Int):=by rw [←Int.natAbs_mul]; omega
       rw [yG (by omega) (by omega),ez]
       exact ZK.fz (.small _ (by omega) (by omega))
    ·have hr0:=hr
     simp [yA] at hr
     refine go ?_
     rw [show IntKind.u64.wrap x=((x.natAbs:Nat):Int) by rw [wF]; omega,show IntKind.u64.wrap (0 - IntKind.u64.wrap y)=((y.natAbs:Nat):Int) by rw [wF,wF]; omega]
     refine yB (nQ (x:=x.natAbs) (y:=y.natAbs) (by omega) (by omega)) (fun u hu => ?_)
     obtain rfl:=hu
     refine go ?_
     cases hp:yA Cm.eql ((x.natAbs*y.natAbs / 18446744073709551616:Nat):Int) 0
     ·refine go ?_
      refine yB (xG hx) (fun u hu => ?_)
      obtain ⟨c1,l1,n1,rfl,w1,o1,e1⟩:=hu
      refine go ?_
      refine yB (xG hy) (fun u hu => ?_)
      obtain ⟨c2,l2,n2,rfl,w2,o2,e2⟩:=hu
      refine go ?_
      have hl1:l1.length≤n:=wC o1 (by rw [e1] at sx; rwa [wV] at sx)
      have hl2:l2.length≤n:=wC o2 (by rw [e2] at sy; rwa [wV] at sy)
      have e:arith .add .i64 (l1.length:Int) l2.length=((l1.length+l2.length:Nat):Int):=by
       rw [xD,yG (by omega) (by omega)]
       omega
      rw [e]
      refine vQ (by rfl) (by rfl) ⟨by omega,by omega,by omega,by omega⟩ ?_
      rw [Int.toNat_natCast,zeros]
      refine go ?_
      refine yX (fun n vs H => ∃ (i:Nat) (out:List Nat),vs=[.c (.ptr 2 0),.c c1,.c (.bool n1),.c c2,.c (.bool n2),.c (.sl 3 0 (l1.length+l2.length) (some (l1.length+l2.length)) 1),i64 (l1.length:Int),i64 (i:Int)]∧H=[.live ⟨[.int .i64 x,.nilSl,.bool false],yZ,.rw⟩,.live ⟨[.int .i64 y,.nilSl,.bool false],yZ,.rw⟩,.live ⟨[.int .i64 0,.nilSl,.bool false],yZ,.rw⟩,.live ⟨out.map W,xB,.rw⟩]∧n=l1.length - i∧i≤l1.length∧out.length=l1.length+l2.length∧OkW out∧val out=val (l1.take i)*val l2∧∀ k,i+l2.length≤k→at0 out k=0) (by rfl) ⟨0,_,rfl,rfl,rfl,by omega,by simp,fun x hx => by simp at hx; omega,by simp [val,sW],fun k _ => sI _ k⟩ ?_
      rintro m vs H ⟨i,out,rfl,rfl,rfl,k1,k2,k3,k4,k5⟩
      refine go ?_
      refine xW (fun h => ?_) (fun h => ?_)
      ·simp [yA] at h
       refine go ?_
       refine yX (fun n vs H => ∃ (j carry:Nat) (p:List Nat),vs=[.c (.ptr 2 0),.c c1,.c (.bool n1),.c c2,.c (.bool n2),.c (.sl 3 0 (l1.length+l2.length) (some (l1.length+l2.length)) 1),i64 (i:Int),.c (.int .u64 (carry:Int)),i64 (l1.length:Int),i64 (i:Int),i64 (l2.length:Int),i64 (j:Int)]∧H=[.live ⟨[.int .i64 x,.nilSl,.bool false],yZ,.rw⟩,.live ⟨[.int .i64 y,.nilSl,.bool false],yZ,.rw⟩,.live ⟨[.int .i64 0,.nilSl,.bool false],yZ,.rw⟩,.live ⟨p.map W,xB,.rw⟩]∧n=l2.length - j∧j≤l2.length∧p.length=l1.length+l2.length∧OkW p∧carry<4294967296∧val p+4294967296 ^ (i+j)*carry=val out+4294967296 ^ i*(at0 l1 i*val (l2.take j))∧∀ k,i+j≤k→at0 p k=at0 out k) (by rfl) ⟨0,0,out,rfl,rfl,rfl,by omega,k2,k3,by omega,by simp [val],fun k _ => rfl⟩ ?_
       rintro m vs H ⟨j,carry,p,rfl,rfl,rfl,j1,j2,j3,j4,j5,j6⟩
       refine go ?_
       refine xW (fun h' => ?_) (fun h' => ?_)
       ·simp [yA] at h'
        refine go ?_
        have e3:arith .add .i64 ((i:Nat):Int) ((j:Nat):Int)=((i+j:Nat):Int):=by
         rw [xD,yG (by omega) (by omega)]
         omega
        have ga:=o1.1.get i
        have gb:=o2.1.get j
        have gw:=j3.get (i+j)
        obtain ⟨r1,r2,r3⟩:=pB (k:=i+j) (out:=p) (by omega) j3 ga gb j4
        have r0:at0 l1 i*at0 l2 j<18446744073709551616:=by omega
        rw [e3]
        refine yL (by rfl) (by rfl) (by omega) (by omega) ?_
        refine go ?_
        refine vI (k:=i+j) (by rfl) (by omega) (by omega) ?_
        refine go ?_
        rw [show IntKind.u64.wrap ((at0 l1 ((i:Nat):Int).toNat:Nat):Int)=((at0 l1 i:Nat):Int) by rw [Int.toNat_natCast,wT _ (by omega)],show IntKind.u64.wrap ((at0 l2 ((j:Nat):Int).toNat:Nat):Int)=((at0 l2 j:Nat):Int) by rw [Int.toNat_natCast,wT _ (by omega)],mulN _ _ r0,wT _ (by omega:at0 p (i+j)<18446744073709551616),show arith .add .u64 (arith .add .u64 ((at0 p (i+j):Nat):Int) ((at0 l1 i*at0 l2 j:Nat):Int)) ((carry:Nat):Int)=((at0 l1 i*at0 l2 j+at0 p (i+j)+carry:Nat):Int) by rw [addN _ _ (by omega),addN _ _ (by omega)]; congr 1; omega]
        rw [e3]
        refine yL (by rfl) (by rfl) (by omega) (by omega) ?_
        rw [show IntKind.u32.wrap ((at0 l1 i*at0 l2 j+at0 p (i+j)+carry:Nat):Int)=(((at0 l1 i*at0 l2 j+at0 p (i+j)+carry) % 4294967296:Nat):Int) by rw [xN]; omega]
        refine go ?_
        refine wM (k:=i+j) (by rfl) (by rfl) (by omega) (by omega) ?_
        refine go ?_
        rw [shrN,show arith .add .i64 ((j:Nat):Int) 1=((j+1:Nat):Int) by rw [xD,yG (by omega) (by omega)]; omega]
        refine l_n (by rfl) (by omega) ⟨j+1,_,_,rfl,rfl,rfl,by omega,by simp [j2],j3.set (by omega),r2,?_,fun k hk => ?_⟩
        ·rw [yF,Nat.mul_add,Nat.mul_add,←Nat.add_assoc,←Nat.add_assoc,←j5]
         have e4:4294967296 ^ i*(at0 l1 i*(4294967296 ^ j*at0 l2 j))=4294967296 ^ (i+j)*(at0 l1 i*at0 l2 j):=by
          rw [Nat.pow_add,Nat.mul_left_comm (at0 l1 i),Nat.mul_assoc]
         rw [e4]
         exact r3
        ·rw [wU (by omega)]
         exact j6 k (by omega)
       ·simp [yA] at h'
        have ej:j=l2.length:=by omega
        subst ej
        refine go ?_
        have e3:arith .add .i64 ((i:Nat):Int) l2.length=((i+l2.length:Nat):Int):=by
         rw [xD,yG (by omega) (by omega)]
         omega
        rw [e3]
        refine yL (by rfl) (by rfl) (by omega) (by omega) ?_
        rw [show IntKind.u32.wrap ((carry:Nat):Int)=((carry:Nat):Int) by rw [xN]; omega]
        refine go ?_
        refine wM (k:=i+l2.length) (by rfl) (by rfl) (by omega) (by omega) ?_
        refine go ?_
        rw [show arith .add .i64 ((i:Nat):Int) 1=((i+1:Nat):Int) by rw [xD,yG (by omega) (by omega)]; omega]
        refine l_n (by rfl) (by omega) ⟨i+1,_,rfl,rfl,rfl,by omega,by simp [j2],j3.set j4,?_,fun k hk => ?_⟩
        ·have v1:=pG p (i+l2.length) carry (by omega)
         rw [j6 _ (by omega),k5 _ (by omega)] at v1
         rw [xS (Nat.le_refl _)] at j5
         rw [yF,Nat.add_mul,←k4,Nat.mul_assoc]
         omega
        ·rw [wU (by omega),j6 _ (by omega)]
         exact k5 _ (by omega)
      ·simp [yA] at h
       have ei:i=l1.length:=by omega
       subst ei
       rw [xS (Nat.le_refl _)] at k4
       refine go ?_
       refine xK [3] (.cons (.c (vU out (by rfl) rfl (by simp) k2.symm (by rw [←k2]; exact List.take_of_length_le (by simp)))) (.cons (.c (.hf trivial)) .nil)) (xX _ (.imm out) k3 (by omega)) (fun u hu => ?_)
       obtain ⟨cs3,rfl,z3⟩:=hu
       obtain ⟨a0,a1,a2,rfl⟩:=z3.three
       refine go ?_
       rw [e1,e2,jQ,←k4]
       exact ZK.fz z3
     ·simp only [yA,yE] at hp
      refine go ?_
      cases hl:yA Cm.lss ((x.natAbs*y.natAbs % 18446744073709551616:Nat):Int) 9223372036854775808
      ·refine go ?_
       refine yB (xG hx) (fun u hu => ?_)
       obtain ⟨c1,l1,n1,rfl,w1,o1,e1⟩:=hu
       refine go ?_
       refine yB (xG hy) (fun u hu => ?_)
       obtain ⟨c2,l2,n2,rfl,w2,o2,e2⟩:=hu
       refine go ?_
       have hl1:l1.length≤n:=wC o1 (by rw [e1] at sx; rwa [wV] at sx)
       have hl2:l2.length≤n:=wC o2 (by rw [e2] at sy; rwa [wV] at sy)
       have e:arith .add .i64 (l1.length:Int) l2.length=((l1.length+l2.length:Nat):Int):=by
        rw [xD,yG (by omega) (by omega)]
        omega
       rw [e]
       refine vQ (by rfl) (by rfl) ⟨by omega,by omega,by omega,by omega⟩ ?_
       rw [Int.toNat_natCast,zeros]
       refine go ?_
       refine yX (fun n vs H => ∃ (i:Nat) (out:List Nat),vs=[.c (.ptr 2 0),.c c1,.c (.bool n1),.c c2,.c (.bool n2),.c (.sl 3 0 (l1.length+l2.length) (some (l1.length+l2.length)) 1),i64 (l1.length:Int),i64 (i:Int)]∧H=[.live ⟨[.int .i64 x,.nilSl,.bool false],yZ,.rw⟩,.live ⟨[.int .i64 y,.nilSl,.bool false],yZ,.rw⟩,.live ⟨[.int .i64 0,.nilSl,.bool false],yZ,.rw⟩,.live ⟨out.map W,xB,.rw⟩]∧n=l1.length - i∧i≤l1.length∧out.length=l1.length+l2.length∧OkW out∧val out=val (l1.take i)*val l2∧∀ k,i+l2.length≤k→at0 out k=0) (by rfl) ⟨0,_,rfl,rfl,rfl,by omega,by simp,fun x hx => by simp at hx; omega,by simp [val,sW],fun k _ => sI _ k⟩ ?_
       rintro m vs H ⟨i,out,rfl,rfl,rfl,k1,k2,k3,k4,k5⟩
       refine go ?_
       refine xW (fun h => ?_) (fun h => ?_)
       ·simp [yA] at h
        refine go ?_
        refine yX (fun n vs H => ∃ (j carry:Nat) (p:List Nat),vs=[.c (.ptr 2 0),.c c1,.c (.bool n1),.c c2,.c (.bool n2),.c (.sl 3 0 (l1.length+l2.length) (some (l1.length+l2.length)) 1),i64 (i:Int),.c (.int .u64 (carry:Int)),i64 (l1.length:Int),i64 (i:Int),i64 (l2.length:Int),i64 (j:Int)]∧H=[.live ⟨[.int .i64 x,.nilSl,.bool false],yZ,.rw⟩,.live ⟨[.int .i64 y,.nilSl,.bool false],yZ,.rw⟩,.live ⟨[.int .i64 0,.nilSl,.bool false],yZ,.rw⟩,.live ⟨p.map W,xB,.rw⟩]∧n=l2.length - j∧j≤l2.length∧p.length=l1.length+l2.length∧OkW p∧carry<4294967296∧val p+4294967296 ^ (i+j)*carry=val out+4294967296 ^ i*(at0 l1 i*val (l2.take j))∧∀ k,i+j≤k→at0 p k=at0 out k) (by rfl) ⟨0,0,out,rfl,rfl,rfl,by omega,k2,k3,by omega,by simp [val],fun k _ => rfl⟩ ?_
        rintro m vs H ⟨j,carry,p,rfl,rfl,rfl,j1,j2,j3,j4,j5,j6⟩
        refine go ?_
        refine xW (fun h' => ?_) (fun h' => ?_)
        ·simp [yA] at h'
         refine go ?_
         have e3:arith .add .i64 ((i:Nat):Int) ((j:Nat):Int)=((i+j:Nat):Int):=by
          rw [xD,yG (by omega) (by omega)]
          omega
         have ga:=o1.1.get i
         have gb:=o2.1.get j
         have gw:=j3.get (i+j)
         obtain ⟨r1,r2,r3⟩:=pB (k:=i+j) (out:=p) (by omega) j3 ga gb j4
         have r0:at0 l1 i*at0 l2 j<18446744073709551616:=by omega
         rw [e3]
         refine yL (by rfl) (by rfl) (by omega) (by omega) ?_
         refine go ?_
         refine vI (k:=i+j) (by rfl) (by omega) (by omega) ?_
         refine go ?_
         rw [show IntKind.u64.wrap ((at0 l1 ((i:Nat):Int).toNat:Nat):Int)=((at0 l1 i:Nat):Int) by rw [Int.toNat_natCast,wT _ (by omega)],show IntKind.u64.wrap ((at0 l2 ((j:Nat):Int).toNat:Nat):Int)=((at0 l2 j:Nat):Int) by rw [Int.toNat_natCast,wT _ (by omega)],mulN _ _ r0,wT _ (by omega:at0 p (i+j)<18446744073709551616),show arith .add .u64 (arith .add .u64 ((at0 p (i+j):Nat):Int) ((at0 l1 i*at0 l2 j:Nat):Int)) ((carry:Nat):Int)=((at0 l1 i*at0 l2 j+at0 p (i+j)+carry:Nat):Int) by rw [addN _ _ (by omega),addN _ _ (by omega)]; congr 1; omega]
         rw [e3]
         refine yL (by rfl) (by rfl) (by omega) (by omega) ?_
         rw [show IntKind.u32.wrap ((at0 l1 i*at0 l2 j+at0 p (i+j)+carry:Nat):Int)=(((at0 l1 i*at0 l2 j+at0 p (i+j)+carry) % 4294967296:Nat):Int) by rw [xN]; omega]
         refine go ?_
         refine wM (k:=i+j) (by rfl) (by rfl) (by omega) (by omega) ?_
         refine go ?_
         rw [shrN,show arith .add .i64 ((j:Nat):Int) 1=((j+1:Nat):Int) by rw [xD,yG (by omega) (by omega)]; omega]
         refine l_n (by rfl) (by omega) ⟨j+1,_,_,rfl,rfl,rfl,by omega,by simp [j2],j3.set (by omega),r2,?_,fun k hk => ?_⟩
         ·rw [yF,Nat.mul_add,Nat.mul_add,←Nat.add_assoc,←Nat.add_assoc,←j5]
          have e4:4294967296 ^ i*(at0 l1 i*(4294967296 ^ j*at0 l2 j))=4294967296 ^ (i+j)*(at0 l1 i*at0 l2 j):=by
           rw [Nat.pow_add,Nat.mul_left_comm (at0 l1 i),Nat.mul_assoc]
          rw [e4]
          exact r3
         ·rw [wU (by omega)]
          exact j6 k (by omega)
        ·simp [yA] at h'
         have ej:j=l2.length:=by omega
         subst ej
         refine go ?_
         have e3:arith .add .i64 ((i:Nat):Int) l2.length=((i+l2.length:Nat):Int):=by
          rw [xD,yG (by omega) (by omega)]
          omega
         rw [e3]
         refine yL (by rfl) (by rfl) (by omega) (by omega) ?_
         rw [show IntKind.u32.wrap ((carry:Nat):Int)=((carry:Nat):Int) by rw [xN]; omega]
         refine go ?_
         refine wM (k:=i+l2.length) (by rfl) (by rfl) (by omega) (by omega) ?_
         refine go ?_
         rw [show arith .add .i64 ((i:Nat):Int) 1=((i+1:Nat):Int) by rw [xD,yG (by omega) (by omega)]; omega]
         refine l_n (by rfl) (by omega) ⟨i+1,_,rfl,rfl,rfl,by omega,by simp [j2],j3.set j4,?_,fun k hk => ?_⟩
         ·have v1:=pG p (i+l2.length) carry (by omega)
          rw [j6 _ (by omega),k5 _ (by omega)] at v1
          rw [xS (Nat.le_refl _)] at j5
          rw [yF,Nat.add_mul,←k4,Nat.mul_assoc]
          omega
         ·rw [wU (by omega),j6 _ (by omega)]
          exact k5 _ (by omega)
       ·simp [yA] at h
        have ei:i=l1.length:=by omega
        subst ei
        rw [xS (Nat.le_refl _)] at k4
        refine go ?_
        refine xK [3] (.cons (.c (vU out (by rfl) rfl (by simp) k2.symm (by rw [←k2]; exact List.take_of_length_le (by simp)))) (.cons (.c (.hf trivial)) .nil)) (xX _ (.imm out) k3 (by omega)) (fun u hu => ?_)
        obtain ⟨cs3,rfl,z3⟩:=hu
        obtain ⟨a0,a1,a2,rfl⟩:=z3.three
        refine go ?_
        rw [e1,e2,jQ,←k4]
        exact ZK.fz z3
      ·simp only [yA,yE] at hl
       refine go ?_
       rw [hq0,hr0]
       refine go ?_
       have hm:x.natAbs*y.natAbs<18446744073709551616:=by omega
       rw [Nat.mod_eq_of_lt hm] at hl ⊢
       have h0:0≤x*(-y):=Int.mul_nonneg (by omega) (by omega)
       rw [Int.mul_neg] at h0
       have ez:x*y = -((x.natAbs*y.natAbs:Nat):Int):=by rw [←Int.natAbs_mul]; omega
       rw [yG (n:=((x.natAbs*y.natAbs:Nat):Int)) (by omega) (by omega),yG (by omega) (by omega),Int.zero_sub,ez]
       exact ZK.fz (.small _ (by omega) (by omega))
   ·have hq0:=hq
    simp [yA] at hq
    refine go ?_
    cases hr:yA Cm.lss y 0
    ·have hr0:=hr
     simp [yA] at hr
     refine go ?_
     rw [show IntKind.u64.wrap (0 - IntKind.u64.wrap x)=((x.natAbs:Nat):Int) by rw [wF,wF]; omega,show IntKind.u64.wrap y=((y.natAbs:Nat):Int) by rw [wF]; omega]
     refine yB (nQ (x:=x.natAbs) (y:=y.natAbs) (by omega) (by omega)) (fun u hu => ?_)
     obtain rfl:=hu
     refine go ?_
     cases hp:yA Cm.eql ((x.natAbs*y.natAbs / 18446744073709551616:Nat):Int) 0
     ·refine go ?_
      refine yB (xG hx) (fun u hu => ?_)
      obtain ⟨c1,l1,n1,rfl,w1,o1,e1⟩:=hu
      refine go ?_
      refine yB (xG hy) (fun u hu => ?_)
      obtain ⟨c2,l2,n2,rfl,w2,o2,e2⟩:=hu
      refine go ?_
      have hl1:l1.length≤n:=wC o1 (by rw [e1] at sx; rwa [wV] at sx)
      have hl2:l2.length≤n:=wC o2 (by rw [e2] at sy; rwa [wV] at sy)
      have e:arith .add .i64 (l1.length:Int) l2.length=((l1.length+l2.length:Nat):Int):=by
       rw [xD,yG (by omega) (by omega)]
       omega
      rw [e]
      refine vQ (by rfl) (by rfl) ⟨by omega,by omega,by omega,by omega⟩ ?_
      rw [Int.toNat_natCast,zeros]
      refine go ?_
      refine yX (fun n vs H => ∃ (i:Nat) (out:List Nat),vs=[.c (.ptr 2 0),.c c1,.c (.bool n1),.c c2,.c (.bool n2),.c (.sl 3 0 (l1.length+l2.length) (some (l1.length+l2.length)) 1),i64 (l1.length:Int),i64 (i:Int)]∧H=[.live ⟨[.int .i64 x,.nilSl,.bool false],yZ,.rw⟩,.live ⟨[.int .i64 y,.nilSl,.bool false],yZ,.rw⟩,.live ⟨[.int .i64 0,.nilSl,.bool false],yZ,.rw⟩,.live ⟨out.map W,xB,.rw⟩]∧n=l1.length - i∧i≤l1.length∧out.length=l1.length+l2.length∧OkW out∧val out=val (l1.take i)*val l2∧∀ k,i+l2.length≤k→at0 out k=0) (by rfl) ⟨0,_,rfl,rfl,rfl,by omega,by simp,fun x hx => by simp at hx; omega,by simp [val,sW],fun k _ => sI _ k⟩ ?_
      rintro m vs H ⟨i,out,rfl,rfl,rfl,k1,k2,k3,k4,k5⟩
      refine go ?_
      refine xW (fun h => ?_) (fun h => ?_)
      ·simp [yA] at h
       refine go ?_
       refine yX (fun n vs H => ∃ (j carry:Nat) (p:List Nat),vs=[.c (.ptr 2 0),.c c1,.c (.bool n1),.c c2,.c (.bool n2),.c (.sl 3 0 (l1.length+l2.length) (some (l1.length+l2.length)) 1),i64 (i:Int),.c (.int .u64 (carry:Int)),i64 (l1.length:Int),i64 (i:Int),i64 (l2.length:Int),i64 (j:Int)]∧H=[.live ⟨[.int .i64 x,.nilSl,.bool false],yZ,.rw⟩,.live ⟨[.int .i64 y,.nilSl,.bool false],yZ,.rw⟩,.live ⟨[.int .i64 0,.nilSl,.bool false],yZ,.rw⟩,.live ⟨p.map W,xB,.rw⟩]∧n=l2.length - j∧j≤l2.length∧p.length=l1.length+l2.length∧OkW p∧carry<4294967296∧val p+4294967296 ^ (i+j)*carry=val out+4294967296 ^ i*(at0 l1 i*val (l2.take j))∧∀ k,i+j≤k→at0 p k=at0 out k) (by rfl) ⟨0,0,out,rfl,rfl,rfl,by omega,k2,k3,by omega,by simp [val],fun k _ => rfl⟩ ?_
       rintro m vs H ⟨j,carry,p,rfl,rfl,rfl,j1,j2,j3,j4,j5,j6⟩
       refine go ?_
       refine xW (fun h' => ?_) (fun h' => ?_)
       ·simp [yA] at h'
        refine go ?_
        have e3:arith .add .i64 ((i:Nat):Int) ((j:Nat):Int)=((i+j:Nat):Int):=by
         rw [xD,yG (by omega) (by omega)]
         omega
        have ga:=o1.1.get i
        have gb:=o2.1.get j
        have gw:=j3.get (i+j)
        obtain ⟨r1,r2,r3⟩:=pB (k:=i+j) (out:=p) (by omega) j3 ga gb j4
        have r0:at0 l1 i*at0 l2 j<18446744073709551616:=by omega
        rw [e3]
        refine yL (by rfl) (by rfl) (by omega) (by omega) ?_
        refine go ?_
        refine vI (k:=i+j) (by rfl) (by omega) (by omega) ?_
        refine go ?_
        rw [show IntKind.u64.wrap ((at0 l1 ((i:Nat):Int).toNat:Nat):Int)=((at0 l1 i:Nat):Int) by rw [Int.toNat_natCast,wT _ (by omega)],show IntKind.u64.wrap ((at0 l2 ((j:Nat):Int).toNat:Nat):Int)=((at0 l2 j:Nat):Int) by rw [Int.toNat_natCast,wT _ (by omega)],mulN _ _ r0,wT _ (by omega:at0 p (i+j)<18446744073709551616),show arith .add .u64 (arith .add .u64 ((at0 p (i+j):Nat):Int) ((at0 l1 i*at0 l2 j:Nat):Int)) ((carry:Nat):Int)=((at0 l1 i*at0 l2 j+at0 p (i+j)+carry:Nat):Int) by rw [addN _ _ (by omega),addN _ _ (by omega)]; congr 1; omega]
        rw [e3]
        refine yL (by rfl) (by rfl) (by omega) (by omega) ?_
        rw [show IntKind.u32.wrap ((at0 l1 i*at0 l2 j+at0 p (i+j)+carry:Nat):Int)=(((at0 l1 i*at0 l2 j+at0 p (i+j)+carry) % 4294967296:Nat):Int) by rw [xN]; omega]
        refine go ?_
        refine wM (k:=i+j) (by rfl) (by rfl) (by omega) (by omega) ?_
        refine go ?_
        rw [shrN,show arith .add .i64 ((j:Nat):Int) 1=((j+1:Nat):Int) by rw [xD,yG (by omega) (by omega)]; omega]
        refine l_n (by rfl) (by omega) ⟨j+1,_,_,rfl,rfl,rfl,by omega,by simp [j2],j3.set (by omega),r2,?_,fun k hk => ?_⟩
        ·rw [yF,Nat.mul_add,Nat.mul_add,←Nat.add_assoc,←Nat.add_assoc,←j5]
         have e4:4294967296 ^ i*(at0 l1 i*(4294967296 ^ j*at0 l2 j))=4294967296 ^ (i+j)*(at0 l1 i*at0 l2 j):=by
          rw [Nat.pow_add,Nat.mul_left_comm (at0 l1 i),Nat.mul_assoc]
         rw [e4]
         exact r3
        ·rw [wU (by omega)]
         exact j6 k (by omega)
       ·simp [yA] at h'
        have ej:j=l2.length:=by omega
        subst ej
        refine go ?_
        have e3:arith .add .i64 ((i:Nat):Int) l2.length=((i+l2.length:Nat):Int):=by
         rw [xD,yG (by omega) (by omega)]
         omega
        rw [e3]
        refine yL (by rfl) (by rfl) (by omega) (by omega) ?_
        rw [show IntKind.u32.wrap ((carry:Nat):Int)=((carry:Nat):Int) by rw [xN]; omega]
        refine go ?_
        refine wM (k:=i+l2.length) (by rfl) (by rfl) (by omega) (by omega) ?_
        refine go ?_
        rw [show arith .add .i64 ((i:Nat):Int) 1=((i+1:Nat):Int) by rw [xD,yG (by omega) (by omega)]; omega]
        refine l_n (by rfl) (by omega) ⟨i+1,_,rfl,rfl,rfl,by omega,by simp [j2],j3.set j4,?_,fun k hk => ?_⟩
        ·have v1:=pG p (i+l2.length) carry (by omega)
         rw [j6 _ (by omega),k5 _ (by omega)] at v1
         rw [xS (Nat.le_refl _)] at j5
         rw [yF,Nat.add_mul,←k4,Nat.mul_assoc]
         omega
        ·rw [wU (by omega),j6 _ (by omega)]
         exact k5 _ (by omega)
      ·simp [yA] at h
       have ei:i=l1.length:=by omega
       subst ei
       rw [xS (Nat.le_refl _)] at k4
       refine go ?_
       refine xK [3] (.cons (.c (vU out (by rfl) rfl (by simp) k2.symm (by rw [←k2]; exact List.take_of_length_le (by simp)))) (.cons (.c (.hf trivial)) .nil)) (xX _ (.imm out) k3 (by omega)) (fun u hu => ?_)
       obtain ⟨cs3,rfl,z3⟩:=hu
       obtain ⟨a0,a1,a2,rfl⟩:=z3.three
       refine go ?_
       rw [e1,e2,jQ,←k4]
       exact ZK.fz z3
     ·simp only [yA,yE] at hp
      refine go ?_
      cases hl:yA Cm.lss ((x.natAbs*y.natAbs % 18446744073709551616:Nat):Int) 9223372036854775808
      ·refine go ?_
       refine yB (xG hx) (fun u hu => ?_)
       obtain ⟨c1,l1,n1,rfl,w1,o1,e1⟩:=hu
       refine go ?_
       refine yB (xG hy) (fun u hu => ?_)
       obtain ⟨c2,l2,n2,rfl,w2,o2,e2⟩:=hu
       refine go ?_
       have hl1:l1.length≤n:=wC o1 (by rw [e1] at sx; rwa [wV] at sx)
       have hl2:l2.length≤n:=wC o2 (by rw [e2] at sy; rwa [wV] at sy)
       have e:arith .add .i64 (l1.length:Int) l2.length=((l1.length+l2.length:Nat):Int):=by
        rw [xD,yG (by omega) (by omega)]
        omega
       rw [e]
       refine vQ (by rfl) (by rfl) ⟨by omega,by omega,by omega,by omega⟩ ?_
       rw [Int.toNat_natCast,zeros]
       refine go ?_
       refine yX (fun n vs H => ∃ (i:Nat) (out:List Nat),vs=[.c (.ptr 2 0),.c c1,.c (.bool n1),.c c2,.c (.bool n2),.c (.sl 3 0 (l1.length+l2.length) (some (l1.length+l2.length)) 1),i64 (l1.length:Int),i64 (i:Int)]∧H=[.live ⟨[.int .i64 x,.nilSl,.bool false],yZ,.rw⟩,.live ⟨[.int .i64 y,.nilSl,.bool false],yZ,.rw⟩,.live ⟨[.int .i64 0,.nilSl,.bool false],yZ,.rw⟩,.live ⟨out.map W,xB,.rw⟩]∧n=l1.length - i∧i≤l1.length∧out.length=l1.length+l2.length∧OkW out∧val out=val (l1.take i)*val l2∧∀ k,i+l2.length≤k→at0 out k=0) (by rfl) ⟨0,_,rfl,rfl,rfl,by omega,by simp,fun x hx => by simp at hx; omega,by simp [val,sW],fun k _ => sI _ k⟩ ?_
       rintro m vs H ⟨i,out,rfl,rfl,rfl,k1,k2,k3,k4,k5⟩
       refine go ?_
       refine xW (fun h => ?_) (fun h => ?_)
       ·simp [yA] at h
        refine go ?_
        refine yX (fun n vs H => ∃ (j carry:Nat) (p:List Nat),vs=[.c (.ptr 2 0),.c c1,.c (.bool n1),.c c2,.c (.bool n2),.c (.sl 3 0 (l1.length+l2.length) (some (l1.length+l2.length)) 1),i64 (i:Int),.c (.int .u64 (carry:Int)),i64 (l1.length:Int),i64 (i:Int),i64 (l2.length:Int),i64 (j:Int)]∧H=[.live ⟨[.int .i64 x,.nilSl,.bool false],yZ,.rw⟩,.live ⟨[.int .i64 y,.nilSl,.bool false],yZ,.rw⟩,.live ⟨[.int .i64 0,.nilSl,.bool false],yZ,.rw⟩,.live ⟨p.map W,xB,.rw⟩]∧n=l2.length - j∧j≤l2.length∧p.length=l1.length+l2.length∧OkW p∧carry<4294967296∧val p+4294967296 ^ (i+j)*carry=val out+4294967296 ^ i*(at0 l1 i*val (l2.take j))∧∀ k,i+j≤k→at0 p k=at0 out k) (by rfl) ⟨0,0,out,rfl,rfl,rfl,by omega,k2,k3,by omega,by simp [val],fun k _ => rfl⟩ ?_
        rintro m vs H ⟨j,carry,p,rfl,rfl,rfl,j1,j2,j3,j4,j5,j6⟩
        refine go ?_
        refine xW (fun h' => ?_) (fun h' => ?_)
        ·simp [yA] at h'
         refine go ?_
         have e3:arith .add .i64 ((i:Nat):Int) ((j:Nat):Int)=((i+j:Nat):Int):=by
          rw [xD,yG (by omega) (by omega)]
          omega
         have ga:=o1.1.get i
         have gb:=o2.1.get j
         have gw:=j3.get (i+j)
         obtain ⟨r1,r2,r3⟩:=pB (k:=i+j) (out:=p) (by omega) j3 ga gb j4
         have r0:at0 l1 i*at0 l2 j<18446744073709551616:=by omega
         rw [e3]
         refine yL (by rfl) (by rfl) (by omega) (by omega) ?_
         refine go ?_
         refine vI (k:=i+j) (by rfl) (by omega) (by omega) ?_
         refine go ?_
         rw [show IntKind.u64.wrap ((at0 l1 ((i:Nat):Int).toNat:Nat):Int)=((at0 l1 i:Nat):Int) by rw [Int.toNat_natCast,wT _ (by omega)],show IntKind.u64.wrap ((at0 l2 ((j:Nat):Int).toNat:Nat):Int)=((at0 l2 j:Nat):Int) by rw [Int.toNat_natCast,wT _ (by omega)],mulN _ _ r0,wT _ (by omega:at0 p (i+j)<18446744073709551616),show arith .add .u64 (arith .add .u64 ((at0 p (i+j):Nat):Int) ((at0 l1 i*at0 l2 j:Nat):Int)) ((carry:Nat):Int)=((at0 l1 i*at0 l2 j+at0 p (i+j)+carry:Nat):Int) by rw [addN _ _ (by omega),addN _ _ (by omega)]; congr 1; omega]
         rw [e3]
         refine yL (by rfl) (by rfl) (by omega) (by omega) ?_
         rw [show IntKind.u32.wrap ((at0 l1 i*at0 l2 j+at0 p (i+j)+carry:Nat):Int)=(((at0 l1 i*at0 l2 j+at0 p (i+j)+carry) % 4294967296:Nat):Int) by rw [xN]; omega]
         refine go ?_
         refine wM (k:=i+j) (by rfl) (by rfl) (by omega) (by omega) ?_
         refine go ?_
         rw [shrN,show arith .add .i64 ((j:Nat):Int) 1=((j+1:Nat):Int) by rw [xD,yG (by omega) (by omega)]; omega]
         refine l_n (by rfl) (by omega) ⟨j+1,_,_,rfl,rfl,rfl,by omega,by simp [j2],j3.set (by omega),r2,?_,fun k hk => ?_⟩
         ·rw [yF,Nat.mul_add,Nat.mul_add,←Nat.add_assoc,←Nat.add_assoc,←j5]
          have e4:4294967296 ^ i*(at0 l1 i*(4294967296 ^ j*at0 l2 j))=4294967296 ^ (i+j)*(at0 l1 i*at0 l2 j):=by
           rw [Nat.pow_add,Nat.mul_left_comm (at0 l1 i),Nat.mul_assoc]
          rw [e4]
          exact r3
         ·rw [wU (by omega)]
          exact j6 k (by omega)
        ·simp [yA] at h'
         have ej:j=l2.length:=by omega
         subst ej
         refine go ?_
         have e3:arith .add .i64 ((i:Nat):Int) l2.length=((i+l2.length:Nat):Int):=by
          rw [xD,yG (by omega) (by omega)]
          omega
         rw [e3]
         refine yL (by rfl) (by rfl) (by omega) (by omega) ?_
         rw [show IntKind.u32.wrap ((carry:Nat):Int)=((carry:Nat):Int) by rw [xN]; omega]
         refine go ?_
         refine wM (k:=i+l2.length) (by rfl) (by rfl) (by omega) (by omega) ?_
         refine go ?_
         rw [show arith .add .i64 ((i:Nat):Int) 1=((i+1:Nat):Int) by rw [xD,yG (by omega) (by omega)]; omega]
         refine l_n (by rfl) (by omega) ⟨i+1,_,rfl,rfl,rfl,by omega,by simp [j2],j3.set j4,?_,fun k hk => ?_⟩
         ·have v1:=pG p (i+l2.length) carry (by omega)
          rw [j6 _ (by omega),k5 _ (by omega)] at v1
          rw [xS (Nat.le_refl _)] at j5
          rw [yF,Nat.add_mul,←k4,Nat.mul_assoc]
          omega
         ·rw [wU (by omega),j6 _ (by omega)]
          exact k5 _ (by omega)
       ·simp [yA] at h
        have ei:i=l1.length:=by omega
        subst ei
        rw [xS (Nat.le_refl _)] at k4
        refine go ?_
        refine xK [3] (.cons (.c (vU out (by rfl) rfl (by simp) k2.symm (by rw [←k2]; exact List.take_of_length_le (by simp)))) (.cons (.c (.hf trivial)) .nil)) (xX _ (.imm out) k3 (by omega)) (fun u hu => ?_)
        obtain ⟨cs3,rfl,z3⟩:=hu
        obtain ⟨a0,a1,a2,rfl⟩:=z3.three
        refine go ?_
        rw [e1,e2,jQ,←k4]
        exact ZK.fz z3
      ·simp only [yA,yE] at hl
       refine go ?_
       rw [hq0,hr0]
       refine go ?_
       have hm:x.natAbs*y.natAbs<18446744073709551616:=by omega
       rw [Nat.mod_eq_of_lt hm] at hl ⊢
       have h0:0≤(-x)*y:=Int.mul_nonneg (by omega) (by omega)
       rw [Int.neg_mul] at h0
       have ez:x*y = -((x.natAbs*y.natAbs:Nat):Int):=by rw [←Int.natAbs_mul]; omega
       rw [yG (n:=((x.natAbs*y.natAbs:Nat):Int)) (by omega) (by omega),yG (by omega) (by omega),Int.zero_sub,ez]
       exact ZK.fz (.small _ (by omega) (by omega))
    ·have hr0:=hr
     simp [yA] at hr
     refine go ?_
     rw [show IntKind.u64.wrap (0 - IntKind.u64.wrap x)=((x.natAbs:Nat):Int) by rw [wF,wF]; omega,show IntKind.u64.wrap (0 - IntKind.u64.wrap y)=((y.natAbs:Nat):Int) by rw [wF,wF]; omega]
     refine yB (nQ (x:=x.natAbs) (y:=y.natAbs) (by omega) (by omega)) (fun u hu => ?_)
     obtain rfl:=hu
     refine go ?_
     cases hp:yA Cm.eql ((x.natAbs*y.natAbs / 18446744073709551616:Nat):Int) 0
     ·refine go ?_
      refine yB (xG hx) (fun u hu => ?_)
      obtain ⟨c1,l1,n1,rfl,w1,o1,e1⟩:=hu
      refine go ?_
      refine yB (xG hy) (fun u hu => ?_)
      obtain ⟨c2,l2,n2,rfl,w2,o2,e2⟩:=hu
      refine go ?_
      have hl1:l1.length≤n:=wC o1 (by rw [e1] at sx; rwa [wV] at sx)
      have hl2:l2.length≤n:=wC o2 (by rw [e2] at sy; rwa [wV] at sy)
      have e:arith .add .i64 (l1.length:Int) l2.length=((l1.length+l2.length:Nat):Int):=by
       rw [xD,yG (by omega) (by omega)]
       omega
      rw [e]
      refine vQ (by rfl) (by rfl) ⟨by omega,by omega,by omega,by omega⟩ ?_
      rw [Int.toNat_natCast,zeros]
      refine go ?_
      refine yX (fun n vs H => ∃ (i:Nat) (out:List Nat),vs=[.c (.ptr 2 0),.c c1,.c (.bool n1),.c c2,.c (.bool n2),.c (.sl 3 0 (l1.length+l2.length) (some (l1.length+l2.length)) 1),i64 (l1.length:Int),i64 (i:Int)]∧H=[.live ⟨[.int .i64 x,.nilSl,.bool false],yZ,.rw⟩,.live ⟨[.int .i64 y,.nilSl,.bool false],yZ,.rw⟩,.live ⟨[.int .i64 0,.nilSl,.bool false],yZ,.rw⟩,.live ⟨out.map W,xB,.rw⟩]∧n=l1.length - i∧i≤l1.length∧out.length=l1.length+l2.length∧OkW out∧val out=val (l1.take i)*val l2∧∀ k,i+l2.length≤k→at0 out k=0) (by rfl) ⟨0,_,rfl,rfl,rfl,by omega,by simp,fun x hx => by simp at hx; omega,by simp [val,sW],fun k _ => sI _ k⟩ ?_
      rintro m vs H ⟨i,out,rfl,rfl,rfl,k1,k2,k3,k4,k5⟩
      refine go ?_
      refine xW (fun h => ?_) (fun h => ?_)
      ·simp [yA] at h
       refine go ?_
       refine yX (fun n vs H => ∃ (j carry:Nat) (p:List Nat),vs=[.c (.ptr 2 0),.c c1,.c (.bool n1),.c c2,.c (.bool n2),.c (.sl 3 0 (l1.length+l2.length) (some (l1.length+l2.length)) 1),i64 (i:Int),.c (.int .u64 (carry:Int)),i64 (l1.length:Int),i64 (i:Int),i64 (l2.length:Int),i64 (j:Int)]∧H=[.live ⟨[.int .i64 x,.nilSl,.bool false],yZ,.rw⟩,.live ⟨[.int .i64 y,.nilSl,.bool false],yZ,.rw⟩,.live ⟨[.int .i64 0,.nilSl,.bool false],yZ,.rw⟩,.live ⟨p.map W,xB,.rw⟩]∧n=l2.length - j∧j≤l2.length∧p.length=l1.length+l2.length∧OkW p∧carry<4294967296∧val p+4294967296 ^ (i+j)*carry=val out+4294967296 ^ i*(at0 l1 i*val (l2.take j))∧∀ k,i+j≤k→at0 p k=at0 out k) (by rfl) ⟨0,0,out,rfl,rfl,rfl,by omega,k2,k3,by omega,by simp [val],fun k _ => rfl⟩ ?_
       rintro m vs H ⟨j,carry,p,rfl,rfl,rfl,j1,j2,j3,j4,j5,j6⟩
       refine go ?_
       refine xW (fun h' => ?_) (fun h' => ?_)
       ·simp [yA] at h'
        refine go ?_
        have e3:arith .add .i64 ((i:Nat):Int) ((j:Nat):Int)=((i+j:Nat):Int):=by
         rw [xD,yG (by omega) (by omega)]
         omega
        have ga:=o1.1.get i
        have gb:=o2.1.get j
        have gw:=j3.get (i+j)
        obtain ⟨r1,r2,r3⟩:=pB (k:=i+j) (out:=p) (by omega) j3 ga gb j4
        have r0:at0 l1 i*at0 l2 j<18446744073709551616:=by omega
        rw [e3]
        refine yL (by rfl) (by rfl) (by omega) (by omega) ?_
        refine go ?_
        refine vI (k:=i+j) (by rfl) (by omega) (by omega) ?_
        refine go ?_
        rw [show IntKind.u64.wrap ((at0 l1 ((i:Nat):Int).toNat:Nat):Int)=((at0 l1 i:Nat):Int) by rw [Int.toNat_natCast,wT _ (by omega)],show IntKind.u64.wrap ((at0 l2 ((j:Nat):Int).toNat:Nat):Int)=((at0 l2 j:Nat):Int) by rw [Int.toNat_natCast,wT _ (by omega)],mulN _ _ r0,wT _ (by omega:at0 p (i+j)<18446744073709551616),show arith .add .u64 (arith .add .u64 ((at0 p (i+j):Nat):Int) ((at0 l1 i*at0 l2 j:Nat):Int)) ((carry:Nat):Int)=((at0 l1 i*at0 l2 j+at0 p (i+j)+carry:Nat):Int) by rw [addN _ _ (by omega),addN _ _ (by omega)]; congr 1; omega]
        rw [e3]
        refine yL (by rfl) (by rfl) (by omega) (by omega) ?_
        rw [show IntKind.u32.wrap ((at0 l1 i*at0 l2 j+at0 p (i+j)+carry:Nat):Int)=(((at0 l1 i*at0 l2 j+at0 p (i+j)+carry) % 4294967296:Nat):Int) by rw [xN]; omega]
        refine go ?_
        refine wM (k:=i+j) (by rfl) (by rfl) (by omega) (by omega) ?_
        refine go ?_
        rw [shrN,show arith .add .i64 ((j:Nat):Int) 1=((j+1:Nat):Int) by rw [xD,yG (by omega) (by omega)]; omega]
        refine l_n (by rfl) (by omega) ⟨j+1,_,_,rfl,rfl,rfl,by omega,by simp [j2],j3.set (by omega),r2,?_,fun k hk => ?_⟩
        ·rw [yF,Nat.mul_add,Nat.mul_add,←Nat.add_assoc,←Nat.add_assoc,←j5]
         have e4:4294967296 ^ i*(at0 l1 i*(4294967296 ^ j*at0 l2 j))=4294967296 ^ (i+j)*(at0 l1 i*at0 l2 j):=by
          rw [Nat.pow_add,Nat.mul_left_comm (at0 l1 i),Nat.mul_assoc]
         rw [e4]
         exact r3
        ·rw [wU (by omega)]
         exact j6 k (by omega)
       ·simp [yA] at h'
        have ej:j=l2.length:=by omega
        subst ej
        refine go ?_
        have e3:arith .add .i64 ((i:Nat):Int) l2.length=((i+l2.length:Nat):Int):=by
         rw [xD,yG (by omega) (by omega)]
         omega
        rw [e3]
        refine yL (by rfl) (by rfl) (by omega) (by omega) ?_
        rw [show IntKind.u32.wrap ((carry:Nat):Int)=((carry:Nat):Int) by rw [xN]; omega]
        refine go ?_
        refine wM (k:=i+l2.length) (by rfl) (by rfl) (by omega) (by omega) ?_
        refine go ?_
        rw [show arith .add .i64 ((i:Nat):Int) 1=((i+1:Nat):Int) by rw [xD,yG (by omega) (by omega)]; omega]
        refine l_n (by rfl) (by omega) ⟨i+1,_,rfl,rfl,rfl,by omega,by simp [j2],j3.set j4,?_,fun k hk => ?_⟩
        ·have v1:=pG p (i+l2.length) carry (by omega)
         rw [j6 _ (by omega),k5 _ (by omega)] at v1
         rw [xS (Nat.le_refl _)] at j5
         rw [yF,Nat.add_mul,←k4,Nat.mul_assoc]
         omega
        ·rw [wU (by omega),j6 _ (by omega)]
         exact k5 _ (by omega)
      ·simp [yA] at h
       have ei:i=l1.length:=by omega
       subst ei
       rw [xS (Nat.le_refl _)] at k4
       refine go ?_
       refine xK [3] (.cons (.c (vU out (by rfl) rfl (by simp) k2.symm (by rw [←k2]; exact List.take_of_length_le (by simp)))) (.cons (.c (.hf trivial)) .nil)) (xX _ (.imm out) k3 (by omega)) (fun u hu => ?_)
       obtain ⟨cs3,rfl,z3⟩:=hu
       obtain ⟨a0,a1,a2,rfl⟩:=z3.three
       refine go ?_
       rw [e1,e2,jQ,←k4]
       exact ZK.fz z3
     ·simp only [yA,yE] at hp
      refine go ?_
      cases hl:yA Cm.lss ((x.natAbs*y.natAbs % 18446744073709551616:Nat):Int) 9223372036854775808
      ·refine go ?_
       refine yB (xG hx) (fun u hu => ?_)
       obtain ⟨c1,l1,n1,rfl,w1,o1,e1⟩:=hu
       refine go ?_
       refine yB (xG hy) (fun u hu => ?_)
       obtain ⟨c2,l2,n2,rfl,w2,o2,e2⟩:=hu
       refine go ?_
       have hl1:l1.length≤n:=wC o1 (by rw [e1] at sx; rwa [wV] at sx)
       have hl2:l2.length≤n:=wC o2 (by rw [e2] at sy; rwa [wV] at sy)
       have e:arith .add .i64 (l1.length:Int) l2.length=((l1.length+l2.length:Nat):Int):=by
        rw [xD,yG (by omega) (by omega)]
        omega
       rw [e]
       refine vQ (by rfl) (by rfl) ⟨by omega,by omega,by omega,by omega⟩ ?_
       rw [Int.toNat_natCast,zeros]
       refine go ?_
       refine yX (fun n vs H => ∃ (i:Nat) (out:List Nat),vs=[.c (.ptr 2 0),.c c1,.c (.bool n1),.c c2,.c (.bool n2),.c (.sl 3 0 (l1.length+l2.length) (some (l1.length+l2.length)) 1),i64 (l1.length:Int),i64 (i:Int)]∧H=[.live ⟨[.int .i64 x,.nilSl,.bool false],yZ,.rw⟩,.live ⟨[.int .i64 y,.nilSl,.bool false],yZ,.rw⟩,.live ⟨[.int .i64 0,.nilSl,.bool false],yZ,.rw⟩,.live ⟨out.map W,xB,.rw⟩]∧n=l1.length - i∧i≤l1.length∧out.length=l1.length+l2.length∧OkW out∧val out=val (l1.take i)*val l2∧∀ k,i+l2.length≤k→at0 out k=0) (by rfl) ⟨0,_,rfl,rfl,rfl,by omega,by simp,fun x hx => by simp at hx; omega,by simp [val,sW],fun k _ => sI _ k⟩ ?_
       rintro m vs H ⟨i,out,rfl,rfl,rfl,k1,k2,k3,k4,k5⟩
       refine go ?_
       refine xW (fun h => ?_) (fun h => ?_)
       ·simp [yA] at h
        refine go ?_
        refine yX (fun n vs H => ∃ (j carry:Nat) (p:List Nat),vs=[.c (.ptr 2 0),.c c1,.c (.bool n1),.c c2,.c (.bool n2),.c (.sl 3 0 (l1.length+l2.length) (some (l1.length+l2.length)) 1),i64 (i:Int),.c (.int .u64 (carry:Int)),i64 (l1.length:Int),i64 (i:Int),i64 (l2.length:Int),i64 (j:Int)]∧H=[.live ⟨[.int .i64 x,.nilSl,.bool false],yZ,.rw⟩,.live ⟨[.int .i64 y,.nilSl,.bool false],yZ,.rw⟩,.live ⟨[.int .i64 0,.nilSl,.bool false],yZ,.rw⟩,.live ⟨p.map W,xB,.rw⟩]∧n=l2.length - j∧j≤l2.length∧p.length=l1.length+l2.length∧OkW p∧carry<4294967296∧val p+4294967296 ^ (i+j)*carry=val out+4294967296 ^ i*(at0 l1 i*val (l2.take j))∧∀ k,i+j≤k→at0 p k=at0 out k) (by rfl) ⟨0,0,out,rfl,rfl,rfl,by omega,k2,k3,by omega,by simp [val],fun k _ => rfl⟩ ?_
        rintro m vs H ⟨j,carry,p,rfl,rfl,rfl,j1,j2,j3,j4,j5,j6⟩
        refine go ?_
        refine xW (fun h' => ?_) (fun h' => ?_)
        ·simp [yA] at h'
         refine go ?_
         have e3:arith .add .i64 ((i:Nat):Int) ((j:Nat):Int)=((i+j:Nat):Int):=by
          rw [xD,yG (by omega) (by omega)]
          omega
         have ga:=o1.1.get i
         have gb:=o2.1.get j
         have gw:=j3.get (i+j)
         obtain ⟨r1,r2,r3⟩:=pB (k:=i+j) (out:=p) (by omega) j3 ga gb j4
         have r0:at0 l1 i*at0 l2 j<18446744073709551616:=by omega
         rw [e3]
         refine yL (by rfl) (by rfl) (by omega) (by omega) ?_
         refine go ?_
         refine vI (k:=i+j) (by rfl) (by omega) (by omega) ?_
         refine go ?_
         rw [show IntKind.u64.wrap ((at0 l1 ((i:Nat):Int).toNat:Nat):Int)=((at0 l1 i:Nat):Int) by rw [Int.toNat_natCast,wT _ (by omega)],show IntKind.u64.wrap ((at0 l2 ((j:Nat):Int).toNat:Nat):Int)=((at0 l2 j:Nat):Int) by rw [Int.toNat_natCast,wT _ (by omega)],mulN _ _ r0,wT _ (by omega:at0 p (i+j)<18446744073709551616),show arith .add .u64 (arith .add .u64 ((at0 p (i+j):Nat):Int) ((at0 l1 i*at0 l2 j:Nat):Int)) ((carry:Nat):Int)=((at0 l1 i*at0 l2 j+at0 p (i+j)+carry:Nat):Int) by rw [addN _ _ (by omega),addN _ _ (by omega)]; congr 1; omega]
         rw [e3]
         refine yL (by rfl) (by rfl) (by omega) (by omega) ?_
         rw [show IntKind.u32.wrap ((at0 l1 i*at0 l2 j+at0 p (i+j)+carry:Nat):Int)=(((at0 l1 i*at0 l2 j+at0 p (i+j)+carry) % 4294967296:Nat):Int) by rw [xN]; omega]
         refine go ?_
         refine wM (k:=i+j) (by rfl) (by rfl) (by omega) (by omega) ?_
         refine go ?_
         rw [shrN,show arith .add .i64 ((j:Nat):Int) 1=((j+1:Nat):Int) by rw [xD,yG (by omega) (by omega)]; omega]
         refine l_n (by rfl) (by omega) ⟨j+1,_,_,rfl,rfl,rfl,by omega,by simp [j2],j3.set (by omega),r2,?_,fun k hk => ?_⟩
         ·rw [yF,Nat.mul_add,Nat.mul_add,←Nat.add_assoc,←Nat.add_assoc,←j5]
          have e4:4294967296 ^ i*(at0 l1 i*(4294967296 ^ j*at0 l2 j))=4294967296 ^ (i+j)*(at0 l1 i*at0 l2 j):=by
           rw [Nat.pow_add,Nat.mul_left_comm (at0 l1 i),Nat.mul_assoc]
          rw [e4]
          exact r3
         ·rw [wU (by omega)]
          exact j6 k (by omega)
        ·simp [yA] at h'
         have ej:j=l2.length:=by omega
         subst ej
         refine go ?_
         have e3:arith .add .i64 ((i:Nat):Int) l2.length=((i+l2.length:Nat):Int):=by
          rw [xD,yG (by omega) (by omega)]
          omega
         rw [e3]
         refine yL (by rfl) (by rfl) (by omega) (by omega) ?_
         rw [show IntKind.u32.wrap ((carry:Nat):Int)=((carry:Nat):Int) by rw [xN]; omega]
         refine go ?_
         refine wM (k:=i+l2.length) (by rfl) (by rfl) (by omega) (by omega) ?_
         refine go ?_
         rw [show arith .add .i64 ((i:Nat):Int) 1=((i+1:Nat):Int) by rw [xD,yG (by omega) (by omega)]; omega]
         refine l_n (by rfl) (by omega) ⟨i+1,_,rfl,rfl,rfl,by omega,by simp [j2],j3.set j4,?_,fun k hk => ?_⟩
         ·have v1:=pG p (i+l2.length) carry (by omega)
          rw [j6 _ (by omega),k5 _ (by omega)] at v1
          rw [xS (Nat.le_refl _)] at j5
          rw [yF,Nat.add_mul,←k4,Nat.mul_assoc]
          omega
         ·rw [wU (by omega),j6 _ (by omega)]
          exact k5 _ (by omega)
       ·simp [yA] at h
        have ei:i=l1.length:=by omega
        subst ei
        rw [xS (Nat.le_refl _)] at k4
        refine go ?_
        refine xK [3] (.cons (.c (vU out (by rfl) rfl (by simp) k2.symm (by rw [←k2]; exact List.take_of_length_le (by simp)))) (.cons (.c (.hf trivial)) .nil)) (xX _ (.imm out) k3 (by omega)) (fun u hu => ?_)
        obtain ⟨cs3,rfl,z3⟩:=hu
        obtain ⟨a0,a1,a2,rfl⟩:=z3.three
        refine go ?_
        rw [e1,e2,jQ,←k4]
        exact ZK.fz z3
      ·simp only [yA,yE] at hl
       refine go ?_
       rw [hq0,hr0]
       refine go ?_
       have hm:x.natAbs*y.natAbs<18446744073709551616:=by omega
       rw [Nat.mod_eq_of_lt hm] at hl ⊢
       have h0:0≤x*y:=by rw [←Int.neg_mul_neg]; exact Int.mul_nonneg (by omega) (by omega)
       have ez:x*y=((x.natAbs*y.natAbs:Nat):Int):=by rw [←Int.natAbs_mul]; omega
       rw [yG (by omega) (by omega),ez]
       exact ZK.fz (.small _ (by omega) (by omega))
  ·refine go ?_
   refine yB (xG hx) (fun u hu => ?_)
   obtain ⟨c1,l1,n1,rfl,w1,o1,e1⟩:=hu
   refine go ?_
   refine yB (xG hy) (fun u hu => ?_)
   obtain ⟨c2,l2,n2,rfl,w2,o2,e2⟩:=hu
   refine go ?_
   have hl1:l1.length≤n:=wC o1 (by rw [e1] at sx; rwa [wV] at sx)
   have hl2:l2.length≤n:=wC o2 (by rw [e2] at sy; rwa [wV] at sy)
   have e:arith .add .i64 (l1.length:Int) l2.length=((l1.length+l2.length:Nat):Int):=by
    rw [xD,yG (by omega) (by omega)]
    omega
   rw [e]
   refine vQ (by rfl) (by rfl) ⟨by omega,by omega,by omega,by omega⟩ ?_
   rw [Int.toNat_natCast,zeros]
   refine go ?_
   refine yX (fun n vs H => ∃ (i:Nat) (out:List Nat),vs=[.c (.ptr 2 0),.c c1,.c (.bool n1),.c c2,.c (.bool n2),.c (.sl 3 0 (l1.length+l2.length) (some (l1.length+l2.length)) 1),i64 (l1.length:Int),i64 (i:Int)]∧H=[.live ⟨[.int .i64 x,.nilSl,.bool false],yZ,.rw⟩,.live ⟨[.int .i64 0,.imm ly.length (ly.map W),.bool ny],yZ,.rw⟩,.live ⟨[.int .i64 0,.nilSl,.bool false],yZ,.rw⟩,.live ⟨out.map W,xB,.rw⟩]∧n=l1.length - i∧i≤l1.length∧out.length=l1.length+l2.length∧OkW out∧val out=val (l1.take i)*val l2∧∀ k,i+l2.length≤k→at0 out k=0) (by rfl) ⟨0,_,rfl,rfl,rfl,by omega,by simp,fun x hx => by simp at hx; omega,by simp [val,sW],fun k _ => sI _ k⟩ ?_
   rintro m vs H ⟨i,out,rfl,rfl,rfl,k1,k2,k3,k4,k5⟩
   refine go ?_
   refine xW (fun h => ?_) (fun h => ?_)
   ·simp [yA] at h
    refine go ?_
    refine yX (fun n vs H => ∃ (j carry:Nat) (p:List Nat),vs=[.c (.ptr 2 0),.c c1,.c (.bool n1),.c c2,.c (.bool n2),.c (.sl 3 0 (l1.length+l2.length) (some (l1.length+l2.length)) 1),i64 (i:Int),.c (.int .u64 (carry:Int)),i64 (l1.length:Int),i64 (i:Int),i64 (l2.length:Int),i64 (j:Int)]∧H=[.live ⟨[.int .i64 x,.nilSl,.bool false],yZ,.rw⟩,.live ⟨[.int .i64 0,.imm ly.length (ly.map W),.bool ny],yZ,.rw⟩,.live ⟨[.int .i64 0,.nilSl,.bool false],yZ,.rw⟩,.live ⟨p.map W,xB,.rw⟩]∧n=l2.length - j∧j≤l2.length∧p.length=l1.length+l2.length∧OkW p∧carry<4294967296∧val p+4294967296 ^ (i+j)*carry=val out+4294967296 ^ i*(at0 l1 i*val (l2.take j))∧∀ k,i+j≤k→at0 p k=at0 out k) (by rfl) ⟨0,0,out,rfl,rfl,rfl,by omega,k2,k3,by omega,by simp [val],fun k _ => rfl⟩ ?_
    rintro m vs H ⟨j,carry,p,rfl,rfl,rfl,j1,j2,j3,j4,j5,j6⟩
    refine go ?_
    refine xW (fun h' => ?_) (fun h' => ?_)
    ·simp [yA] at h'
     refine go ?_
     have e3:arith .add .i64 ((i:Nat):Int) ((j:Nat):Int)=((i+j:Nat):Int):=by
      rw [xD,yG (by omega) (by omega)]
      omega
     have ga:=o1.1.get i
     have gb:=o2.1.get j
     have gw:=j3.get (i+j)
     obtain ⟨r1,r2,r3⟩:=pB (k:=i+j) (out:=p) (by omega) j3 ga gb j4
     have r0:at0 l1 i*at0 l2 j<18446744073709551616:=by omega
     rw [e3]
     refine yL (by rfl) (by rfl) (by omega) (by omega) ?_
     refine go ?_
     refine vI (k:=i+j) (by rfl) (by omega) (by omega) ?_
     refine go ?_
     rw [show IntKind.u64.wrap ((at0 l1 ((i:Nat):Int).toNat:Nat):Int)=((at0 l1 i:Nat):Int) by rw [Int.toNat_natCast,wT _ (by omega)],show IntKind.u64.wrap ((at0 l2 ((j:Nat):Int).toNat:Nat):Int)=((at0 l2 j:Nat):Int) by rw [Int.toNat_natCast,wT _ (by omega)],mulN _ _ r0,wT _ (by omega:at0 p (i+j)<18446744073709551616),show arith .add .u64 (arith .add .u64 ((at0 p (i+j):Nat):Int) ((at0 l1 i*at0 l2 j:Nat):Int)) ((carry:Nat):Int)=((at0 l1 i*at0 l2 j+at0 p (i+j)+carry:Nat):Int) by rw [addN _ _ (by omega),addN _ _ (by omega)]; congr 1; omega]
     rw [e3]
     refine yL (by rfl) (by rfl) (by omega) (by omega) ?_
     rw [show IntKind.u32.wrap ((at0 l1 i*at0 l2 j+at0 p (i+j)+carry:Nat):Int)=(((at0 l1 i*at0 l2 j+at0 p (i+j)+carry) % 4294967296:Nat):Int) by rw [xN]; omega]
     refine go ?_
     refine wM (k:=i+j) (by rfl) (by rfl) (by omega) (by omega) ?_
     refine go ?_
     rw [shrN,show arith .add .i64 ((j:Nat):Int) 1=((j+1:Nat):Int) by rw [xD,yG (by omega) (by omega)]; omega]
     refine l_n (by rfl) (by omega) ⟨j+1,_,_,rfl,rfl,rfl,by omega,by simp [j2],j3.set (by omega),r2,?_,fun k hk => ?_⟩
     ·rw [yF,Nat.mul_add,Nat.mul_add,←Nat.add_assoc,←Nat.add_assoc,←j5]
      have e4:4294967296 ^ i*(at0 l1 i*(4294967296 ^ j*at0 l2 j))=4294967296 ^ (i+j)*(at0 l1 i*at0 l2 j):=by
       rw [Nat.pow_add,Nat.mul_left_comm (at0 l1 i),Nat.mul_assoc]
      rw [e4]
      exact r3
     ·rw [wU (by omega)]
      exact j6 k (by omega)
    ·simp [yA] at h'
     have ej:j=l2.length:=by omega
     subst ej
     refine go ?_
     have e3:arith .add .i64 ((i:Nat):Int) l2.length=((i+l2.length:Nat):Int):=by
      rw [xD,yG (by omega) (by omega)]
      omega
     rw [e3]
     refine yL (by rfl) (by rfl) (by omega) (by omega) ?_
     rw [show IntKind.u32.wrap ((carry:Nat):Int)=((carry:Nat):Int) by rw [xN]; omega]
     refine go ?_
     refine wM (k:=i+l2.length) (by rfl) (by rfl) (by omega) (by omega) ?_
     refine go ?_
     rw [show arith .add .i64 ((i:Nat):Int) 1=((i+1:Nat):Int) by rw [xD,yG (by omega) (by omega)]; omega]
     refine l_n (by rfl) (by omega) ⟨i+1,_,rfl,rfl,rfl,by omega,by simp [j2],j3.set j4,?_,fun k hk => ?_⟩
     ·have v1:=pG p (i+l2.length) carry (by omega)
      rw [j6 _ (by omega),k5 _ (by omega)] at v1
      rw [xS (Nat.le_refl _)] at j5
      rw [yF,Nat.add_mul,←k4,Nat.mul_assoc]
      omega
     ·rw [wU (by omega),j6 _ (by omega)]
      exact k5 _ (by omega)
   ·simp [yA] at h
    have ei:i=l1.length:=by omega
    subst ei
    rw [xS (Nat.le_refl _)] at k4
    refine go ?_
    refine xK [3] (.cons (.c (vU out (by rfl) rfl (by simp) k2.symm (by rw [←k2]; exact List.take_of_length_le (by simp)))) (.cons (.c (.hf trivial)) .nil)) (xX _ (.imm out) k3 (by omega)) (fun u hu => ?_)
    obtain ⟨cs3,rfl,z3⟩:=hu
    obtain ⟨a0,a1,a2,rfl⟩:=z3.three
    refine go ?_
    rw [e1,e2,jQ,←k4]
    exact ZK.fz z3
 ·obtain ⟨d0,d1,d2,rfl⟩:=hy.three
  refine go ?_
  refine yB (xG hx) (fun u hu => ?_)
  obtain ⟨c1,l1,n1,rfl,w1,o1,e1⟩:=hu
  refine go ?_
  refine yB (xG hy) (fun u hu => ?_)
  obtain ⟨c2,l2,n2,rfl,w2,o2,e2⟩:=hu
  refine go ?_
  have hl1:l1.length≤n:=wC o1 (by rw [e1] at sx; rwa [wV] at sx)
  have hl2:l2.length≤n:=wC o2 (by rw [e2] at sy; rwa [wV] at sy)
  have e:arith .add .i64 (l1.length:Int) l2.length=((l1.length+l2.length:Nat):Int):=by
   rw [xD,yG (by omega) (by omega)]
   omega
  rw [e]
  refine vQ (by rfl) (by rfl) ⟨by omega,by omega,by omega,by omega⟩ ?_
  rw [Int.toNat_natCast,zeros]
  refine go ?_
  refine yX (fun n vs H => ∃ (i:Nat) (out:List Nat),vs=[.c (.ptr 2 0),.c c1,.c (.bool n1),.c c2,.c (.bool n2),.c (.sl 3 0 (l1.length+l2.length) (some (l1.length+l2.length)) 1),i64 (l1.length:Int),i64 (i:Int)]∧H=[.live ⟨[.int .i64 0,.imm lx.length (lx.map W),.bool nx],yZ,.rw⟩,.live ⟨[d0,d1,d2],yZ,.rw⟩,.live ⟨[.int .i64 0,.nilSl,.bool false],yZ,.rw⟩,.live ⟨out.map W,xB,.rw⟩]∧n=l1.length - i∧i≤l1.length∧out.length=l1.length+l2.length∧OkW out∧val out=val (l1.take i)*val l2∧∀ k,i+l2.length≤k→at0 out k=0) (by rfl) ⟨0,_,rfl,rfl,rfl,by omega,by simp,fun x hx => by simp at hx; omega,by simp [val,sW],fun k _ => sI _ k⟩ ?_
  rintro m vs H ⟨i,out,rfl,rfl,rfl,k1,k2,k3,k4,k5⟩
  refine go ?_
  refine xW (fun h => ?_) (fun h => ?_)
  ·simp [yA] at h
   refine go ?_
   refine yX (fun n vs H => ∃ (j carry:Nat) (p:List Nat),vs=[.c (.ptr 2 0),.c c1,.c (.bool n1),.c c2,.c (.bool n2),.c (.sl 3 0 (l1.length+l2.length) (some (l1.length+l2.length)) 1),i64 (i:Int),.c (.int .u64 (carry:Int)),i64 (l1.length:Int),i64 (i:Int),i64 (l2.length:Int),i64 (j:Int)]∧H=[.live ⟨[.int .i64 0,.imm lx.length (lx.map W),.bool nx],yZ,.rw⟩,.live ⟨[d0,d1,d2],yZ,.rw⟩,.live ⟨[.int .i64 0,.nilSl,.bool false],yZ,.rw⟩,.live ⟨p.map W,xB,.rw⟩]∧n=l2.length - j∧j≤l2.length∧p.length=l1.length+l2.length∧OkW p∧carry<4294967296∧val p+4294967296 ^ (i+j)*carry=val out+4294967296 ^ i*(at0 l1 i*val (l2.take j))∧∀ k,i+j≤k→at0 p k=at0 out k) (by rfl) ⟨0,0,out,rfl,rfl,rfl,by omega,k2,k3,by omega,by simp [val],fun k _ => rfl⟩ ?_
   rintro m vs H ⟨j,carry,p,rfl,rfl,rfl,j1,j2,j3,j4,j5,j6⟩
   refine go ?_
   refine xW (fun h' => ?_) (fun h' => ?_)
   ·simp [yA] at h'
    refine go ?_
    have e3:arith .add .i64 ((i:Nat):Int) ((j:Nat):Int)=((i+j:Nat):Int):=by
     rw [xD,yG (by omega) (by omega)]
     omega
    have ga:=o1.1.get i
    have gb:=o2.1.get j
    have gw:=j3.get (i+j)
    obtain ⟨r1,r2,r3⟩:=pB (k:=i+j) (out:=p) (by omega) j3 ga gb j4
    have r0:at0 l1 i*at0 l2 j<18446744073709551616:=by omega
    rw [e3]
    refine yL (by rfl) (by rfl) (by omega) (by omega) ?_
    refine go ?_
    refine vI (k:=i+j) (by rfl) (by omega) (by omega) ?_
    refine go ?_
    rw [show IntKind.u64.wrap ((at0 l1 ((i:Nat):Int).toNat:Nat):Int)=((at0 l1 i:Nat):Int) by rw [Int.toNat_natCast,wT _ (by omega)],show IntKind.u64.wrap ((at0 l2 ((j:Nat):Int).toNat:Nat):Int)=((at0 l2 j:Nat):Int) by rw [Int.toNat_natCast,wT _ (by omega)],mulN _ _ r0,wT _ (by omega:at0 p (i+j)<18446744073709551616),show arith .add .u64 (arith .add .u64 ((at0 p (i+j):Nat):Int) ((at0 l1 i*at0 l2 j:Nat):Int)) ((carry:Nat):Int)=((at0 l1 i*at0 l2 j+at0 p (i+j)+carry:Nat):Int) by rw [addN _ _ (by omega),addN _ _ (by omega)]; congr 1; omega]
    rw [e3]
    refine yL (by rfl) (by rfl) (by omega) (by omega) ?_
    rw [show IntKind.u32.wrap ((at0 l1 i*at0 l2 j+at0 p (i+j)+carry:Nat):Int)=(((at0 l1 i*at0 l2 j+at0 p (i+j)+carry) % 4294967296:Nat):Int) by rw [xN]; omega]
    refine go ?_
    refine wM (k:=i+j) (by rfl) (by rfl) (by omega) (by omega) ?_
    refine go ?_
    rw [shrN,show arith .add .i64 ((j:Nat):Int) 1=((j+1:Nat):Int) by rw [xD,yG (by omega) (by omega)]; omega]
    refine l_n (by rfl) (by omega) ⟨j+1,_,_,rfl,rfl,rfl,by omega,by simp [j2],j3.set (by omega),r2,?_,fun k hk => ?_⟩
    ·rw [yF,Nat.mul_add,Nat.mul_add,←Nat.add_assoc,←Nat.add_assoc,←j5]
     have e4:4294967296 ^ i*(at0 l1 i*(4294967296 ^ j*at0 l2 j))=4294967296 ^ (i+j)*(at0 l1 i*at0 l2 j):=by
      rw [Nat.pow_add,Nat.mul_left_comm (at0 l1 i),Nat.mul_assoc]
     rw [e4]
     exact r3
    ·rw [wU (by omega)]
     exact j6 k (by omega)
   ·simp [yA] at h'
    have ej:j=l2.length:=by omega
    subst ej
    refine go ?_
    have e3:arith .add .i64 ((i:Nat):Int) l2.length=((i+l2.length:Nat):Int):=by
     rw [xD,yG (by omega) (by omega)]
     omega
    rw [e3]
    refine yL (by rfl) (by rfl) (by omega) (by omega) ?_
    rw [show IntKind.u32.wrap ((carry:Nat):Int)=((carry:Nat):Int) by rw [xN]; omega]
    refine go ?_
    refine wM (k:=i+l2.length) (by rfl) (by rfl) (by omega) (by omega) ?_
    refine go ?_
    rw [show arith .add .i64 ((i:Nat):Int) 1=((i+1:Nat):Int) by rw [xD,yG (by omega) (by omega)]; omega]
    refine l_n (by rfl) (by omega) ⟨i+1,_,rfl,rfl,rfl,by omega,by simp [j2],j3.set j4,?_,fun k hk => ?_⟩
    ·have v1:=pG p (i+l2.length) carry (by omega)
     rw [j6 _ (by omega),k5 _ (by omega)] at v1
     rw [xS (Nat.le_refl _)] at j5
     rw [yF,Nat.add_mul,←k4,Nat.mul_assoc]
     omega
    ·rw [wU (by omega),j6 _ (by omega)]
     exact k5 _ (by omega)
  ·simp [yA] at h
   have ei:i=l1.length:=by omega
   subst ei
   rw [xS (Nat.le_refl _)] at k4
   refine go ?_
   refine xK [3] (.cons (.c (vU out (by rfl) rfl (by simp) k2.symm (by rw [←k2]; exact List.take_of_length_le (by simp)))) (.cons (.c (.hf trivial)) .nil)) (xX _ (.imm out) k3 (by omega)) (fun u hu => ?_)
   obtain ⟨cs3,rfl,z3⟩:=hu
   obtain ⟨a0,a1,a2,rfl⟩:=z3.three
   refine go ?_
   rw [e1,e2,jQ,←k4]
   exact ZK.fz z3
end Go.Proofs.Ytokckcnfojjpjaa

namespace Go.Proofs.Ytokckcnfojjpjaa
open Go.RowKit
set_option maxRecDepth 20000
inductive IsW:List C→Int→Prop
 | mk {c:C} {l:List Nat} (minus:Bool) (hc:Wd c l) (hn:Norm l) (hm:minus=true→l≠[]):IsW [c,.bool minus] (amt minus (val l))
def WK (z:Int) (u:V):Prop:=∃ cs,u=.agg cs∧IsW cs z
theorem IsW.hf {cs:List C} {z:Int} (h:IsW cs z):HFL cs:=by
 cases h with
 | mk minus hc hn hm => exact ⟨hc.hf,trivial,trivial⟩
theorem IsW.two {cs:List C} {z:Int} (h:IsW cs z):∃ c l minus,cs=[c,.bool minus]∧Wd c l∧Norm l∧(minus=true→l≠[])∧z=amt minus (val l):=by
 cases h with
 | mk minus hc hn hm => exact ⟨_,_,minus,rfl,hc,hn,hm,rfl⟩
theorem WK.fz {z:Int} {cs:List C} {H:Hp} (h:IsW cs z):∃ d,FzV H (.agg cs) d∧WK z d:=⟨_,.agg (.hf h.hf),cs,rfl,h⟩
def sJ (p:Prop) (u:V):Prop:=∃ b,u=.c (.bool b)∧(b=true↔p)
theorem sJ.fz {p:Prop} {b:Bool} {H:Hp} (h:b=true↔p):∃ d,FzV H (.c (.bool b)) d∧sJ p d:=⟨_,.c (.hf trivial),b,rfl,h⟩
theorem val_pos {l:List Nat} (h:Norm l) (h0:l≠[]):0<val l:=by
 have h1:0<l.length:=List.length_pos_iff.2 h0
 have:=norm_ge h h1
 have h2:0<4294967296 ^ (l.length - 1):=Nat.pow_pos (by decide)
 omega
attribute [local irreducible] yA semH semC qLen qNil qIad qSlc qIdx yW yI xA appX appI slcX awpF yP xH xopF xM qval lval seqQ xJ xY xU xR cnd arith IntKind.wrap
end Go.Proofs.Ytokckcnfojjpjaa

namespace Go.Proofs.Ytokckcnfojjpjaa
open Go.RowKit
set_option maxRecDepth 20000
def SmallK (z:Int) (p:Prop) (u:V):Prop:=∃ r b,u=.tup [i64 r,.c (.bool b)]∧(b=true↔p)∧(b=true→r=z)
theorem SmallK.fz {z r:Int} {p:Prop} {b:Bool} {H:Hp} (h:b=true↔p) (h2:b=true→r=z):∃ d,FzV H (.tup [i64 r,.c (.bool b)]) d∧SmallK z p d :=
 ⟨_,.tup (.cons (.c (.hf trivial)) (.cons (.c (.hf trivial)) .nil)),r,b,rfl,h,h2⟩
attribute [local irreducible] yA semH semC qLen qNil qIad qSlc qIdx yW yI xA appX appI slcX awpF yP xH xopF xM qval lval seqQ xJ xY xU xR cnd arith IntKind.wrap
theorem num_Z_Int {cs:List C} {z most:Int} (hz:IsZ cs z) (h0:0≤most) (h1:most<9223372036854775808):semC Try.prog n_num_Z_Int [.agg cs,i64 most] (SmallK z (-most≤z∧z≤most)):=by
 refine yD ok_num_Z_Int rfl (show HFVs [.agg cs,i64 most] from ⟨hz.hf,trivial,trivial⟩) ?_
 rcases hz.look with ⟨rfl,x1,x2⟩ | ⟨lx,nx,rfl,xn,xv,xe⟩
 ·refine go ?_
  cases hq:yA Cm.gtr z most
  ·simp [yA] at hq
   refine go ?_
   rw [show IntKind.i64.wrap (0 - most) = -most by rw [yG (by omega) (by omega)]; omega]
   cases hr:yA Cm.lss z (-most)
   ·simp [yA] at hr
    refine go ?_
    exact SmallK.fz ⟨fun _ => ⟨hr,hq⟩,fun _ => rfl⟩ (fun _ => rfl)
   ·simp [yA] at hr
    refine go ?_
    exact SmallK.fz ⟨fun h => (by cases h),fun h => absurd h.1 (by omega)⟩ (fun h => by cases h)
  ·simp [yA] at hq
   refine go ?_
   exact SmallK.fz ⟨fun h => (by cases h),fun h => absurd h.2 (by omega)⟩ (fun h => by cases h)
 ·refine go ?_
  refine SmallK.fz ⟨fun h => (by cases h),fun h => ?_⟩ (fun h => by cases h)
  exfalso
  rw [xe] at h
  cases nx <;> simp [amt] at h <;> omega
inductive IsRQ:List C→Int→Int→Prop
 | mk {n d:List C} {a b:Int} (hn:IsW n a) (hd:IsW d b):IsRQ (n++d) a (if b=0 then 1 else b)
end Go.Proofs.Ytokckcnfojjpjaa

namespace Go.Proofs.Ytokckcnfojjpjaa
open Go.RowKit
set_option maxRecDepth 20000
def wL (n d:Int):Prop:=1≤d∧d≤1000000000000 ∧ -1000000000000≤n∧n≤1000000000000∧Int.gcd n d=1
theorem gK {a b:Int}:Int.gcd b (a.tmod b)=Int.gcd a b:=by
 rw [Int.gcd_eq_natAbs_gcd_natAbs,Int.gcd_eq_natAbs_gcd_natAbs,Int.natAbs_tmod,Nat.gcd_comm a.natAbs,Nat.gcd_rec b.natAbs a.natAbs,Nat.gcd_comm]
theorem gH {a b:Int} (h:b≠0):(a.tmod b).natAbs<b.natAbs:=by
 rw [Int.natAbs_tmod]
 exact Nat.mod_lt _ (by omega)
theorem ar_rem {k:IntKind} {a b:Int}:arith .rem k a b=a.tmod b:=rfl
attribute [local irreducible] yA semH semC qLen qNil qIad qSlc qIdx yW yI xA appX appI slcX awpF yP xH xopF xM qval lval seqQ xJ xY xU xR cnd arith IntKind.wrap
theorem bQ (n d:Int):semC Try.prog n_num_Valid [.agg [.int .i64 n,.int .i64 d]] (sJ (wL n d)):=by
 refine yD ok_num_Valid rfl (show HFVs [.agg [.int .i64 n,.int .i64 d]] from ⟨⟨trivial,trivial,trivial⟩,trivial⟩) ?_
 refine go ?_
 cases h1:yA Cm.lss d 1
 ·simp [yA] at h1
  refine go ?_
  cases h2:yA Cm.gtr d 1000000000000
  ·simp [yA] at h2
   refine go ?_
   cases h3:yA Cm.gtr n 1000000000000
   ·simp [yA] at h3
    refine go ?_
    cases h4:yA Cm.lss n (-1000000000000)
    ·simp [yA] at h4
     refine go ?_
     refine yX (fun m vs H => ∃ a b:Int,vs=[i64 a,i64 b]∧m=b.natAbs∧Int.gcd a b=Int.gcd n d) (by rfl) ⟨_,_,rfl,rfl,rfl⟩ ?_
     rintro m vs H ⟨a,b,rfl,rfl,hg⟩
     refine go ?_
     cases hq:yA Cm.neq b 0
     ·simp [yA] at hq
      subst hq
      rw [Int.gcd_zero_right] at hg
      refine go ?_
      cases h5:yA Cm.eql a 1
      ·simp [yA] at h5
       refine go ?_
       refine sJ.fz ?_
       simp only [yA,yE]
       exact ⟨fun h => ⟨h1,h2,h4,h3,by rw [←hg,h]; rfl⟩,fun h => by
        have:=h.2.2.2.2
        omega⟩
      ·simp [yA] at h5
       refine go ?_
       exact sJ.fz ⟨fun h => ⟨h1,h2,h4,h3,by rw [←hg,h5]; rfl⟩,fun _ => rfl⟩
     ·simp [yA] at hq
      refine go ?_
      refine q_ar (by rfl) (by rfl) (by simp [needs,hq]) ?_
      refine go ?_
      rw [ar_rem]
      exact l_n (by rfl) (gH hq) ⟨_,_,rfl,rfl,gK.trans hg⟩
    ·simp [yA] at h4
     refine go ?_
     exact sJ.fz ⟨fun h => (by cases h),fun h => absurd h.2.2.1 (by omega)⟩
   ·simp [yA] at h3
    refine go ?_
    exact sJ.fz ⟨fun h => (by cases h),fun h => absurd h.2.2.2.1 (by omega)⟩
  ·simp [yA] at h2
   refine go ?_
   exact sJ.fz ⟨fun h => (by cases h),fun h => absurd h.2.1 (by omega)⟩
 ·simp [yA] at h1
  refine go ?_
  exact sJ.fz ⟨fun h => (by cases h),fun h => absurd h.1 (by omega)⟩
theorem ref01_Is (n d:Int):semC Try.prog n_ref01_Is [.agg [.int .i64 n,.int .i64 d]] (sJ (wL n d)):=by
 refine yD ok_ref01_Is rfl (show HFVs [.agg [.int .i64 n,.int .i64 d]] from ⟨⟨trivial,trivial,trivial⟩,trivial⟩) ?_
 refine go ?_
 cases h1:yA Cm.lss d 1
 ·simp [yA] at h1
  refine go ?_
  cases h2:yA Cm.gtr d 1000000000000
  ·simp [yA] at h2
   refine go ?_
   cases h4:yA Cm.lss n (-1000000000000)
   ·simp [yA] at h4
    refine go ?_
    cases h3:yA Cm.gtr n 1000000000000
    ·simp [yA] at h3
     refine go ?_
     cases h6:yA Cm.lss n 0
     ·simp [yA] at h6
      refine go ?_
      refine yX (fun m vs H => ∃ a b:Int,vs=[i64 a,i64 b]∧m=b.natAbs∧0≤a∧0≤b∧Int.gcd a b=Int.gcd n d) (by rfl) ⟨_,_,rfl,rfl,by omega,by omega,rfl⟩ ?_
      rintro m vs H ⟨a,b,rfl,rfl,p1,p2,hg⟩
      refine go ?_
      cases hq:yA Cm.gtr b 0
      ·simp [yA] at hq
       have hb:b=0:=by omega
       subst hb
       rw [Int.gcd_zero_right] at hg
       refine go ?_
       refine sJ.fz ?_
       simp only [yA,yE]
       exact ⟨fun h => ⟨h1,h2,h4,h3,by rw [←hg,h]; rfl⟩,fun h => by
        have:=h.2.2.2.2
        omega⟩
      ·simp [yA] at hq
       refine go ?_
       refine q_ar (by rfl) (by rfl) (by simp [needs]; omega) ?_
       refine go ?_
       rw [ar_rem]
       have hp:0≤a.tmod b:=Int.tmod_nonneg _ p1
       exact l_n (by rfl) (gH (by omega)) ⟨_,_,rfl,rfl,p2,hp,gK.trans hg⟩
     ·simp [yA] at h6
      refine go ?_
      rw [show IntKind.i64.wrap (0 - n) = -n by rw [yG (by omega) (by omega)]; omega]
      refine yX (fun m vs H => ∃ a b:Int,vs=[i64 a,i64 b]∧m=b.natAbs∧0≤a∧0≤b∧Int.gcd a b=Int.gcd n d) (by rfl) ⟨_,_,rfl,rfl,by omega,by omega,Int.neg_gcd⟩ ?_
      rintro m vs H ⟨a,b,rfl,rfl,p1,p2,hg⟩
      refine go ?_
      cases hq:yA Cm.gtr b 0
      ·simp [yA] at hq
       have hb:b=0:=by omega
       subst hb
       rw [Int.gcd_zero_right] at hg
       refine go ?_
       refine sJ.fz ?_
       simp only [yA,yE]
       exact ⟨fun h => ⟨h1,h2,h4,h3,by rw [←hg,h]; rfl⟩,fun h => by
        have:=h.2.2.2.2
        omega⟩
      ·simp [yA] at hq
       refine go ?_
       refine q_ar (by rfl) (by rfl) (by simp [needs]; omega) ?_
       refine go ?_
       rw [ar_rem]
       have hp:0≤a.tmod b:=Int.tmod_nonneg _ p1
       exact l_n (by rfl) (gH (by omega)) ⟨_,_,rfl,rfl,p2,hp,gK.trans hg⟩
    ·simp [yA] at h3
     refine go ?_
     exact sJ.fz ⟨fun h => (by cases h),fun h => absurd h.2.2.2.1 (by omega)⟩
   ·simp [yA] at h4
    refine go ?_
    exact sJ.fz ⟨fun h => (by cases h),fun h => absurd h.2.2.1 (by omega)⟩
  ·simp [yA] at h2
   refine go ?_
   exact sJ.fz ⟨fun h => (by cases h),fun h => absurd h.2.1 (by omega)⟩
 ·simp [yA] at h1
  refine go ?_
  exact sJ.fz ⟨fun h => (by cases h),fun h => absurd h.1 (by omega)⟩
end Go.Proofs.Ytokckcnfojjpjaa

namespace Go.Proofs.Ytokckcnfojjpjaa
open Go.RowKit
set_option maxRecDepth 20000
theorem len8_spec (b:Nat) (h:b<256):b<2 ^ ((Lib.len8tab[b]?).getD 0).toNat∧(0<((Lib.len8tab[b]?).getD 0).toNat→2 ^ (((Lib.len8tab[b]?).getD 0).toNat - 1)≤b)∧((Lib.len8tab[b]?).getD 0).toNat≤8:=by
 have key:∀ b:Fin 256,b.val<2 ^ ((Lib.len8tab[b.val]?).getD 0).toNat∧(0<((Lib.len8tab[b.val]?).getD 0).toNat→2 ^ (((Lib.len8tab[b.val]?).getD 0).toNat - 1)≤b.val)∧((Lib.len8tab[b.val]?).getD 0).toNat≤8:=by decide +kernel
 exact key ⟨b,h⟩
def tb (b:Nat):Nat:=((Lib.len8tab[b]?).getD 0).toNat
theorem tb_eq (b:Nat):((Lib.len8tab[b]?).getD 0).toNat=tb b:=rfl
def LenK (x:Nat) (u:V):Prop:=∃ r:Nat,u=i64 r∧x<2 ^ r∧(0<x→0<r∧2 ^ (r - 1)≤x)∧r≤32
theorem len_shift {x k:Nat} (hk:k≤24) (h:x / 2 ^ k<256) (h0:k=0∨0<x / 2 ^ k) :
  ∃ r:Nat,r=k+tb (x / 2 ^ k)∧x<2 ^ r∧(0<x→0<r∧2 ^ (r - 1)≤x)∧r≤32:=by
 obtain ⟨h1,h2,h3⟩:=len8_spec _ h
 simp only [tb_eq] at h1 h2 h3
 generalize tb (x / 2 ^ k)=t at h1 h2 h3 ⊢
 refine ⟨k+t,rfl,?_,fun hx => ?_,by omega⟩
 ·rw [Nat.pow_add,Nat.mul_comm]
  exact (Nat.div_lt_iff_lt_mul (Nat.pow_pos (by decide))).1 h1
 ·have ht:0<t:=by
   rcases Nat.eq_zero_or_pos t with e | e
   ·exfalso
    rw [e,Nat.pow_zero] at h1
    rcases h0 with e | e
    ·subst e
     rw [Nat.pow_zero,Nat.div_one] at h1
     omega
    ·exact Nat.lt_irrefl 0 (Nat.lt_of_lt_of_le e (Nat.le_of_lt_succ h1))
   ·exact e
  refine ⟨by omega,?_⟩
  have h4:=h2 ht
  have e:k+t - 1=(t - 1)+k:=by omega
  rw [e,Nat.pow_add]
  exact (Nat.le_div_iff_mul_le (Nat.pow_pos (by decide))).1 h4
theorem wrap_u8 (n:Int):IntKind.u8.wrap n=n % 256:=by simp [IntKind.wrap,IntKind.bits,IntKind.signed]
theorem shr16 (a:Nat):((a:Nat):Int).fdiv (2 ^ (min (16:Int).toNat IntKind.u32.bits))=((a / 65536:Nat):Int):=by
 rw [show (2:Int) ^ (min (16:Int).toNat IntKind.u32.bits)=65536 by decide,Int.fdiv_eq_ediv_of_nonneg _ (by decide)]
 omega
theorem shr8 (a:Nat):((a:Nat):Int).fdiv (2 ^ (min (8:Int).toNat IntKind.u32.bits))=((a / 256:Nat):Int):=by
 rw [show (2:Int) ^ (min (8:Int).toNat IntKind.u32.bits)=256 by decide,Int.fdiv_eq_ediv_of_nonneg _ (by decide)]
 omega
attribute [local irreducible] yA semH semC qLen qNil qIad qSlc qIdx yW yI xA appX appI slcX awpF yP xH xopF xM qval lval seqQ xJ xY xU xR cnd arith IntKind.wrap
theorem bits_Len32 {x:Nat} (hx:x<4294967296):semC Try.prog n_bits_Len32 [.c (.int .u32 (x:Int))] (LenK x):=by
 refine yD ok_bits_Len32 rfl (show HFVs [.c (.int .u32 (x:Int))] from ⟨trivial,trivial⟩) ?_
 refine go ?_
 cases h1:yA Cm.geq (x:Int) 65536
 ·simp only [yA,yK] at h1
  refine go ?_
  cases h2:yA Cm.geq (x:Int) 256
  ·simp only [yA,yK] at h2
   refine go ?_
   rw [show IntKind.u8.wrap ((x:Nat):Int)=((x / 2 ^ 0:Nat):Int) by rw [wrap_u8]; omega]
   refine q_idxS (s:=Lib.len8tab) (by rfl) (by rfl) (by omega) (by rw [Lib.len8tab_size]; omega) ?_
   refine go ?_
   obtain ⟨r,hr,p1,p2,p3⟩:=len_shift (x:=x) (k:=0) (by omega) (by omega) (Or.inl rfl)
   rw [Int.toNat_natCast,tb_eq,show IntKind.i64.wrap ((tb (x / 2 ^ 0):Nat):Int)=((tb (x / 2 ^ 0):Nat):Int) by rw [yG (by omega) (by omega)],show arith .add .i64 0 ((tb (x / 2 ^ 0):Nat):Int)=((r:Nat):Int) by rw [xD,yG (by omega) (by omega),hr]; omega]
   exact ⟨_,.c (.hf trivial),r,rfl,p1,p2,p3⟩
  ·simp only [yA,yE] at h2
   refine go ?_
   rw [shr8]
   refine go ?_
   rw [show IntKind.u8.wrap ((x / 256:Nat):Int)=((x / 2 ^ 8:Nat):Int) by rw [wrap_u8]; omega]
   refine q_idxS (s:=Lib.len8tab) (by rfl) (by rfl) (by omega) (by rw [Lib.len8tab_size]; omega) ?_
   refine go ?_
   obtain ⟨r,hr,p1,p2,p3⟩:=len_shift (x:=x) (k:=8) (by omega) (by omega) (Or.inr (by omega))
   rw [Int.toNat_natCast,tb_eq,show IntKind.i64.wrap ((tb (x / 2 ^ 8):Nat):Int)=((tb (x / 2 ^ 8):Nat):Int) by rw [yG (by omega) (by omega)],show arith .add .i64 0 8=8 by rw [xD,yG (by omega) (by omega)]; rfl,show arith .add .i64 8 ((tb (x / 2 ^ 8):Nat):Int)=((r:Nat):Int) by rw [xD,yG (by omega) (by omega),hr]; omega]
   exact ⟨_,.c (.hf trivial),r,rfl,p1,p2,p3⟩
 ·simp only [yA,yE] at h1
  refine go ?_
  rw [shr16]
  cases h2:yA Cm.geq ((x / 65536:Nat):Int) 256
  ·simp only [yA,yK] at h2
   refine go ?_
   rw [show IntKind.u8.wrap ((x / 65536:Nat):Int)=((x / 2 ^ 16:Nat):Int) by rw [wrap_u8]; omega]
   refine q_idxS (s:=Lib.len8tab) (by rfl) (by rfl) (by omega) (by rw [Lib.len8tab_size]; omega) ?_
   refine go ?_
   obtain ⟨r,hr,p1,p2,p3⟩:=len_shift (x:=x) (k:=16) (by omega) (by omega) (Or.inr (by omega))
   rw [Int.toNat_natCast,tb_eq,show IntKind.i64.wrap ((tb (x / 2 ^ 16):Nat):Int)=((tb (x / 2 ^ 16):Nat):Int) by rw [yG (by omega) (by omega)],show arith .add .i64 16 ((tb (x / 2 ^ 16):Nat):Int)=((r:Nat):Int) by rw [xD,yG (by omega) (by omega),hr]; omega]
   exact ⟨_,.c (.hf trivial),r,rfl,p1,p2,p3⟩
  ·simp only [yA,yE] at h2
   refine go ?_
   rw [shr8]
   refine go ?_
   rw [show IntKind.u8.wrap ((x / 65536 / 256:Nat):Int)=((x / 2 ^ 24:Nat):Int) by rw [wrap_u8]; omega]
   refine q_idxS (s:=Lib.len8tab) (by rfl) (by rfl) (by omega) (by rw [Lib.len8tab_size]; omega) ?_
   refine go ?_
   obtain ⟨r,hr,p1,p2,p3⟩:=len_shift (x:=x) (k:=24) (by omega) (by omega) (Or.inr (by omega))
   rw [Int.toNat_natCast,tb_eq,show IntKind.i64.wrap ((tb (x / 2 ^ 24):Nat):Int)=((tb (x / 2 ^ 24):Nat):Int) by rw [yG (by omega) (by omega)],show arith .add .i64 16 8=24 by rw [xD,yG (by omega) (by omega)]; rfl,show arith .add .i64 24 ((tb (x / 2 ^ 24):Nat):Int)=((r:Nat):Int) by rw [xD,yG (by omega) (by omega),hr]; omega]
   exact ⟨_,.c (.hf trivial),r,rfl,p1,p2,p3⟩
def LzK (x:Nat) (u:V):Prop:=∃ s:Nat,u=i64 s∧s≤31∧2147483648≤x*2 ^ s∧x*2 ^ s<4294967296
theorem bits_LeadingZeros32 {x:Nat} (hx:x<4294967296) (h0:0<x):semC Try.prog n_bits_LeadingZeros32 [.c (.int .u32 (x:Int))] (LzK x):=by
 refine yD ok_bits_LeadingZeros32 rfl (show HFVs [.c (.int .u32 (x:Int))] from ⟨trivial,trivial⟩) ?_
 refine go ?_
 refine yB (bits_Len32 hx) (fun u hu => ?_)
 obtain ⟨r,rfl,p1,p2,p3⟩:=hu
 obtain ⟨p4,p5⟩:=p2 h0
 refine go ?_
 rw [show arith .sub .i64 32 ((r:Nat):Int)=((32 - r:Nat):Int) by rw [uP,yG (by omega) (by omega)]; omega]
 refine ⟨_,.c (.hf trivial),32 - r,rfl,by omega,?_,?_⟩
 ·have h1:=Nat.mul_le_mul_right (2 ^ (32 - r)) p5
  rw [←Nat.pow_add,show r - 1+(32 - r)=31 by omega] at h1
  exact h1
 ·have h1:=Nat.mul_lt_mul_of_pos_right p1 (Nat.pow_pos (n:=32 - r) (show 0<2 by decide))
  rw [←Nat.pow_add,show r+(32 - r)=32 by omega] at h1
  exact h1
end Go.Proofs.Ytokckcnfojjpjaa

namespace Go.Proofs.Ytokckcnfojjpjaa
open Go.RowKit
set_option maxRecDepth 20000
theorem shl_parts {x n:Nat} (hn:n≤31) (hx:x<4294967296):∃ m,x*2 ^ n % 4294967296=m*2 ^ n∧x*2 ^ n / 4294967296<2 ^ n∧x*2 ^ n<18446744073709551616:=by
 have e:(4294967296:Nat)=2 ^ (32 - n)*2 ^ n:=by
  rw [←Nat.pow_add,show 32 - n+n=32 by omega]
 have hp:0<2 ^ n:=Nat.pow_pos (by decide)
 have h31:2 ^ n≤2147483648:=by
  have:=Nat.pow_le_pow_right (n:=2) (by decide) hn
  simpa using this
 refine ⟨x % 2 ^ (32 - n),?_,?_,?_⟩
 ·rw [e,Nat.mul_mod_mul_right]
 ·rw [Nat.div_lt_iff_lt_mul (by decide),Nat.mul_comm]
  exact Nat.mul_lt_mul_of_pos_left hx hp
 ·have:=Nat.mul_le_mul (Nat.le_of_lt hx) h31
  omega
theorem yJ (H:Hp) (s:Slot):(H++[s])[H.length]?=some s:=by simp
theorem gP (H:Hp) (s t:Slot):(H++[s]).set H.length t=H++[t]:=by simp
attribute [local irreducible] yA semH semC qLen qNil qIad qSlc qIdx yW yI xA appX appI slcX awpF yP xH xopF xM qval lval seqQ xJ xY xU xR cnd arith IntKind.wrap
end Go.Proofs.Ytokckcnfojjpjaa

namespace Go.Proofs.Ytokckcnfojjpjaa
section
variable {P X Y head x2 xl top next yl q rest:Nat}
theorem est_round (hP:0<P) (hX:X=(head*4294967296+x2)*P+xl) (hxl:xl<P) (hY:Y=(top*4294967296+next)*P+yl) (hq:q*top+rest=head) (ht:q*next > rest*4294967296+x2):X<q*Y:=by
 have h1:q*(top*4294967296+next)=(q*top)*4294967296+q*next:=by rw [Nat.mul_add,Nat.mul_assoc]
 have h2:head*4294967296+x2+1≤q*(top*4294967296+next):=by
  rw [h1,←hq,Nat.add_mul]
  omega
 have h3:=Nat.mul_le_mul_right P h2
 have h4:q*Y=q*(top*4294967296+next)*P+q*yl:=by rw [hY,Nat.mul_add,Nat.mul_assoc]
 rw [Nat.add_mul,Nat.one_mul] at h3
 rw [hX,h4]
 omega
theorem est_end (hP:0<P) (hX:X=(head*4294967296+x2)*P+xl) (hY:Y=(top*4294967296+next)*P+yl) (hyl:yl<P) (htop:1≤top) (hq:q*top+rest=head) (hqB:q≤4294967296) (h:q*next≤rest*4294967296+x2):q*Y≤X+Y:=by
 have h1:q*(top*4294967296+next)=(q*top)*4294967296+q*next:=by rw [Nat.mul_add,Nat.mul_assoc]
 have h2:q*(top*4294967296+next)≤head*4294967296+x2:=by
  rw [h1,←hq,Nat.add_mul]
  omega
 have h3:=Nat.mul_le_mul_right P h2
 have h4:q*Y=q*(top*4294967296+next)*P+q*yl:=by rw [hY,Nat.mul_add,Nat.mul_assoc]
 have h5:q*yl≤4294967296*P:=Nat.mul_le_mul hqB (Nat.le_of_lt hyl)
 have h6:4294967296*P≤Y:=by
  rw [hY]
  have:4294967296*P≤(top*4294967296+next)*P:=Nat.mul_le_mul_right P (by omega)
  omega
 rw [h4,hX]
 omega
theorem est_start {Q:Nat} (hP:0<P) (hX:X=(head*4294967296+x2)*P+xl) (hx2:x2<4294967296) (hxl:xl<P) (hY:Y=(top*4294967296+next)*P+yl) (hQ:Q*Y≤X):Q*top≤head:=by
 rcases Nat.lt_or_ge head (Q*top) with h | h
 ·exfalso
  have h1:(head+1)*4294967296*P≤Q*top*4294967296*P:=Nat.mul_le_mul_right P (Nat.mul_le_mul_right _ h)
  have h2:Q*(top*4294967296*P)≤Q*Y:=Nat.mul_le_mul_left Q (Nat.le_trans (Nat.mul_le_mul_right P (Nat.le_add_right _ next)) (by rw [hY]; exact Nat.le_add_right _ _))
  have h3:Q*(top*4294967296*P)=Q*top*4294967296*P:=by rw [←Nat.mul_assoc,←Nat.mul_assoc]
  have h4:(head*4294967296+x2+1)*P≤(head+1)*4294967296*P:=Nat.mul_le_mul_right P (by omega)
  rw [Nat.add_mul _ 1,Nat.one_mul] at h4
  omega
 ·exact h
end
end Go.Proofs.Ytokckcnfojjpjaa

namespace Go.Proofs.Ytokckcnfojjpjaa
open Go.RowKit
theorem at0_app {a b:List Nat} {i:Nat} (h:i<a.length):at0 (a++b) i=at0 a i:=by
 simp [at0,List.getElem?_append_left h]
theorem at0_mid {pre cur post:List Nat} {i:Nat} (h:i<cur.length):at0 (pre++cur++post) (pre.length+i)=at0 cur i:=by
 rw [at0_app (by simp; omega)]
 simp [at0,List.getElem?_append_right]
theorem set_mid {pre cur post:List Nat} {i w:Nat} (h:i<cur.length):(pre++cur++post).set (pre.length+i) w=pre++cur.set i w++post:=by
 rw [List.append_assoc,List.set_append_right _ _ (by omega),show pre.length+i - pre.length=i by omega,List.set_append_left _ _ h,List.append_assoc]
theorem pM {s:Option Slot} {size off i:Nat} {pre cur post:List Nat} {el:TypeId} {kd:BK} {K:V→Prop} (h:s=some (.live ⟨(pre++cur++post).map W,el,kd⟩)) (ho:off=pre.length+i) (hi:i<cur.length) (kk:K (.c (.int .u32 (at0 cur i:Nat)))):yW s false size off K:=by
 refine vI h ho (by simp; omega) ?_
 rw [at0_mid hi]
 exact kk
theorem jY {s:Option Slot} {b off i w:Nat} {pre cur post:List Nat} {el:TypeId} {ds:Option (List C)} {K:Nat→Slot→Prop} (h:s=some (.live ⟨(pre++cur++post).map W,el,.rw⟩)) (h2:ds=some [.int .u32 (w:Nat)]) (ho:off=pre.length+i) (hi:i<cur.length) (kk:K b (.live ⟨(pre++cur.set i w++post).map W,el,.rw⟩)):xA s b 1 off ds K:=by
 refine wM h h2 ho (by simp; omega) ?_
 rw [set_mid hi]
 exact kk
theorem xP {l:List Nat} {i w:Nat} (h:i<l.length):val ((l.set i w).take (i+1))=val (l.take i)+4294967296 ^ i*w:=by
 rw [yF]
 have e:at0 (l.set i w) i=w:=by simp [at0,h]
 rw [e,List.take_set_of_le (Nat.le_refl i)]
theorem sub_row {p c u v x w q y carry bo t b':Nat} (h:c+q*u=v+p*(carry+bo)) (ht:t=carry+q*y) (hw:x+4294967296*b'=w+t % 4294967296+bo):c+p*w+q*(u+p*y)=v+p*x+p*4294967296*(t / 4294967296+b'):=by
 have e:x+4294967296*(t / 4294967296+b')=w+bo+t:=by omega
 have e1:=congrArg (p*·) e
 simp only [Nat.mul_add] at e1
 rw [ht] at e1
 rw [ht]
 generalize hk:(carry+q*y) / 4294967296=k at e1 ⊢
 have e2:q*(u+p*y)=q*u+p*(q*y):=by rw [Nat.mul_add,Nat.mul_left_comm]
 have e3:p*4294967296*(k+b')=p*(4294967296*k)+p*(4294967296*b'):=by rw [Nat.mul_assoc,Nat.mul_add,Nat.mul_add]
 simp only [Nat.mul_add] at h e1
 rw [e2,e3]
 omega
theorem add_row {p c u v x y carry s:Nat} (h:c+p*carry=v+u) (hs:s=carry+x+y):c+p*(s % 4294967296)+p*4294967296*(s / 4294967296)=v+p*x+(u+p*y):=by
 have e:s % 4294967296+4294967296*(s / 4294967296)=carry+x+y:=by omega
 have e1:=congrArg (p*·) e
 simp only [Nat.mul_add] at e1
 rw [Nat.mul_assoc]
 omega
theorem back_end {X Y c c2 carry R:Nat} (hY:0<Y) (hYR:Y<R) (hc:c2<R) (h1:c+Y=X % Y+R) (h2:carry≤1) (h3:c2+R*carry=c+Y):c2=X % Y:=by
 have hm:=Nat.mod_lt X hY
 generalize X % Y=r at hm h1 ⊢
 have hcc:carry=0∨carry=1:=by omega
 rcases hcc with h | h
 ·subst h
  rw [Nat.mul_zero] at h3
  omega
 ·subst h
  rw [Nat.mul_one] at h3
  omega
theorem word_end {X Y q c R:Nat} (hY:0<Y) (h1:X / Y≤q) (h2:q*Y≤X+Y) (hc:c<R) (hXR:X<R) :
  (c+q*Y=X+R*(0+0)→q=X / Y∧c=X % Y)∧(c+q*Y=X+R*(0+1)→q - 1=X / Y∧1≤q∧c+Y=X % Y+R):=by
 have hd:=Nat.div_add_mod X Y
 have hm:=Nat.mod_lt X hY
 rw [Nat.mul_comm] at hd
 generalize X / Y=d at h1 hd ⊢
 generalize X % Y=r at hm hd ⊢
 constructor
 ·intro h
  rw [Nat.add_zero,Nat.mul_zero,Nat.add_zero] at h
  have e:q=d:=by
   rcases Nat.lt_or_ge d q with h3 | h3
   ·have:=Nat.mul_le_mul_right Y h3
    rw [Nat.succ_mul] at this
    omega
   ·omega
  subst e
  exact ⟨rfl,by omega⟩
 ·intro h
  rw [Nat.zero_add,Nat.mul_one] at h
  have h3:d<q:=by
   rcases Nat.lt_or_ge d q with h3 | h3
   ·exact h3
   ·have:=Nat.mul_le_mul_right Y h3
    omega
  have h4:q≤d+1:=by
   rcases Nat.lt_or_ge (d+1) q with h4 | h4
   ·have:=Nat.mul_le_mul_right Y h4
    rw [Nat.succ_mul,Nat.succ_mul] at this
    omega
   ·exact h4
  have e:q=d+1:=by omega
  subst e
  rw [Nat.succ_mul] at h
  exact ⟨by omega,by omega,by omega⟩
end Go.Proofs.Ytokckcnfojjpjaa

namespace Go.Proofs.Ytokckcnfojjpjaa
open Go.RowKit
set_option maxRecDepth 20000
def u64 (n:Nat):V:=.c (.int .u64 (n:Int))
theorem val_top2 {l:List Nat} {m:Nat} (hl:l.length=m+2):val l=(at0 l (m+1)*4294967296+at0 l m)*4294967296 ^ m+val (l.take m):=by
 have e:=xS (l:=l) (n:=m+2) (by omega)
 rw [yF,yF] at e
 rw [←e,Nat.pow_succ]
 grind
theorem val_top3 {l:List Nat} {m:Nat} (hl:l.length=m+3):val l=((at0 l (m+2)*4294967296+at0 l (m+1))*4294967296+at0 l m)*4294967296 ^ m+val (l.take m):=by
 have e:=xS (l:=l) (n:=m+3) (by omega)
 rw [yF,yF,yF] at e
 rw [←e,Nat.pow_succ,Nat.pow_succ]
 grind
theorem quoN (a b:Nat) (h:a<18446744073709551616):arith .quo .u64 (a:Int) (b:Int)=((a / b:Nat):Int):=by
 show IntKind.u64.wrap ((a:Int).tdiv b)=_
 rw [←Int.ofNat_tdiv,wT]
 exact Nat.lt_of_le_of_lt (Nat.div_le_self _ _) h
theorem subN (a b:Nat) (h:a<18446744073709551616) (h2:b≤a):arith .sub .u64 (a:Int) (b:Int)=((a - b:Nat):Int):=by
 rw [uP,show (a:Int) - b=((a - b:Nat):Int) by omega,wT _ (by omega)]
theorem u32N (a:Nat):IntKind.u32.wrap (a:Int)=((a % 4294967296:Nat):Int):=by rw [xN]; omega
theorem shl32N (a:Nat) (h:a<4294967296):IntKind.u64.wrap ((a:Int)*2 ^ (min (32:Int).toNat IntKind.u64.bits))=((a*4294967296:Nat):Int):=by
 rw [shl32,show (a:Int)*4294967296=((a*4294967296:Nat):Int) by omega,wT _ (by omega)]
theorem subI (a b:Nat) (h:a<9223372036854775808) (h2:b≤a):arith .sub .i64 (a:Int) (b:Int)=((a - b:Nat):Int):=by
 rw [uP,yG (by omega) (by omega)]
 omega
theorem addI (a b:Nat) (h:a+b<9223372036854775808):arith .add .i64 (a:Int) (b:Int)=((a+b:Nat):Int):=by
 rw [xD,yG (by omega) (by omega)]
 omega
theorem bN (a:Nat) (h:a<9223372036854775808) (h2:1≤a):arith .sub .i64 (a:Int) 1=((a - 1:Nat):Int):=subI a 1 h h2
theorem subI2 (a:Nat) (h:a<9223372036854775808) (h2:2≤a):arith .sub .i64 (a:Int) 2=((a - 2:Nat):Int):=subI a 2 h h2
theorem xL (a:Nat) (h:a<9223372036854775807):arith .add .i64 (a:Int) 1=((a+1:Nat):Int):=addI a 1 (by omega)
theorem subN1 (a:Nat) (h:a<18446744073709551616) (h2:1≤a):arith .sub .u64 (a:Int) 1=((a - 1:Nat):Int):=subN a 1 h h2
structure Est (X Y q:Nat):Prop where
 lo:X / Y≤q
 hi:q*Y≤X+Y
 lt:q<4294967296
attribute [local irreducible] yA semH semC qLen qNil qIad qSlc qIdx yW yI xA appX appI slcX awpF yP xH xopF xM qval lval seqQ xJ xY xU xR cnd arith IntKind.wrap
end Go.Proofs.Ytokckcnfojjpjaa

namespace Go.Proofs.Ytokckcnfojjpjaa
open Go.RowKit
set_option maxRecDepth 20000
theorem pow31 {n:Nat} (h:n≤31):2 ^ n≤2147483648:=by
 have:=Nat.pow_le_pow_right (n:=2) (by decide) h
 simpa using this
theorem pow32 {n:Nat} (h:n≤32):2 ^ n≤4294967296:=by
 have:=Nat.pow_le_pow_right (n:=2) (by decide) h
 simpa using this
theorem val_drop_set {l:List Nat} {i w:Nat} (h:i<l.length):val ((l.set i w).drop i)=w+4294967296*val (l.drop (i+1)):=by
 have e:(l.set i w).drop i=w :: l.drop (i+1):=by
  rw [uY (by simpa using h)]
  have e1:at0 (l.set i w) i=w:=by simp [at0,h]
  rw [e1,List.drop_set_of_lt (by omega)]
 rw [e]
 rfl
theorem parts_eq (xs:List Nat) (i k:Nat):xs.take i++(xs.drop i).take (k+1)++xs.drop (i+k+1)=xs:=by
 have e:xs.drop (i+k+1)=(xs.drop i).drop (k+1):=by rw [List.drop_drop]; congr 1
 rw [e,List.append_assoc,List.take_append_drop,List.take_append_drop]
theorem parts_round {xs out:List Nat} {i k Y T:Nat} (ox:OkW xs) (hl:i+k+1≤xs.length) (hY:0<Y) (hYk:Y<4294967296 ^ k) (h1:val xs+4294967296 ^ (i+1)*val (out.drop (i+1))*Y=T) (h2:val (xs.drop (i+1))<Y) (hi:i<out.length) :
  val ((xs.drop i).take (k+1))<Y*4294967296∧∀ seg,seg.length=k+1→val seg=val ((xs.drop i).take (k+1)) % Y →
   val (xs.take i++seg++xs.drop (i+k+1))+4294967296 ^ i*val ((out.set i (val ((xs.drop i).take (k+1)) / Y)).drop i)*Y=T∧val ((xs.take i++seg++xs.drop (i+k+1)).drop i)<Y:=by
 have e0:(xs.drop i).take (k+1)=at0 xs i :: (xs.drop (i+1)).take k:=by rw [uY (by omega),List.take_succ_cons]
 have e1:val ((xs.drop i).take (k+1))=at0 xs i+4294967296*val ((xs.drop (i+1)).take k):=by rw [e0]; rfl
 have hs:=sX (xs.drop (i+1)) k
 have e2:((xs.drop (i+1)).take k).length=k:=by simp; omega
 have e3:(xs.drop (i+1)).drop k=xs.drop (i+k+1):=by rw [List.drop_drop]; congr 1; omega
 rw [e2,e3] at hs
 have hp0:val (xs.drop (i+k+1))=0:=by
  rcases Nat.eq_zero_or_pos (val (xs.drop (i+k+1))) with h | h
  ·exact h
  ·have:=Nat.mul_le_mul_left (4294967296 ^ k) h
   omega
 rw [hp0,Nat.mul_zero,Nat.add_zero] at hs
 have gx:=ox.get i
 have hl1:(xs.take i).length=i:=by simp; omega
 have hX:val xs=val (xs.take i)+4294967296 ^ i*val ((xs.drop i).take (k+1)):=by
  have h3:=sX xs i
  rw [hl1] at h3
  have h4:=sX (xs.drop i) (k+1)
  have e4:(xs.drop i).drop (k+1)=xs.drop (i+k+1):=by rw [List.drop_drop]; congr 1
  rw [e4,hp0,Nat.mul_zero,Nat.add_zero] at h4
  rw [h3,h4]
 refine ⟨by omega,fun seg hsl hsv => ⟨?_,?_⟩⟩
 ·rw [val_drop_set hi,List.append_assoc,uZ,uZ,hp0,Nat.mul_zero,Nat.add_zero,hl1,hsv]
  have hd:=Nat.div_add_mod (val ((xs.drop i).take (k+1))) Y
  rw [←h1,hX,Nat.pow_succ]
  generalize val ((xs.drop i).take (k+1))=S at hd ⊢
  generalize S / Y=q at hd ⊢
  generalize S % Y=r at hd ⊢
  generalize 4294967296 ^ i=p
  generalize val (out.drop (i+1))=o
  generalize val (xs.take i)=x0
  subst hd
  grind
 ·have e5:(xs.take i++seg++xs.drop (i+k+1)).drop i=seg++xs.drop (i+k+1):=by
   rw [List.append_assoc,List.drop_append]
   simp only [hl1]
   rw [List.drop_of_length_le (by omega),Nat.sub_self]
   rfl
  rw [e5,uZ,hp0,Nat.mul_zero,Nat.add_zero,hsv]
  exact Nat.mod_lt _ hY
theorem parts_end {x o A B n:Nat} (hB:0<B) (h1:x+o*(B*2 ^ n)=A*2 ^ n) (h2:x<B*2 ^ n):o=A / B∧x=A % B*2 ^ n:=by
 have hp:0<2 ^ n:=Nat.pow_pos (by decide)
 generalize 2 ^ n=p at h1 h2 hp ⊢
 have e:o=A*p / (B*p):=by
  rw [←h1,Nat.add_mul_div_right _ _ (Nat.mul_pos hB hp),Nat.div_eq_of_lt h2,Nat.zero_add]
 rw [Nat.mul_div_mul_right _ _ hp] at e
 refine ⟨e,?_⟩
 have e2:x=A*p % (B*p):=by
  rw [←h1,Nat.add_mul_mod_self_right,Nat.mod_eq_of_lt h2]
 rw [e2,Nat.mul_mod_mul_right]
theorem parts_start {a xs:List Nat} {n k m Y:Nat} (oa:OkW a) (hn:n≤31) (hk:1≤k) (hm:m+k=a.length+1) (hl:xs.length=a.length+1) (hv:val xs=val a*2 ^ n) (hY:2147483648*4294967296 ^ (k - 1)≤Y):val (xs.drop m)<Y:=by
 have hs:=sX xs m
 rw [show (xs.take m).length=m by simp; omega,hv] at hs
 have ha:=sP oa
 have h31:2 ^ n≤2147483648:=pow31 hn
 have h1:val a*2 ^ n<4294967296 ^ a.length*2147483648:=Nat.lt_of_le_of_lt (Nat.mul_le_mul_left _ h31) (Nat.mul_lt_mul_of_pos_right ha (by decide))
 have e:4294967296 ^ a.length=4294967296 ^ m*4294967296 ^ (k - 1):=by rw [←Nat.pow_add,show m+(k - 1)=a.length by omega]
 rw [e,Nat.mul_assoc,Nat.mul_comm _ 2147483648] at h1
 have h2:=Nat.mul_le_mul_left (4294967296 ^ m) hY
 have h3:4294967296 ^ m*val (xs.drop m)<4294967296 ^ m*Y:=by omega
 exact Nat.lt_of_mul_lt_mul_left h3
theorem or_u32' {lo m s:Nat} (hs:s≤32) (hlo:lo<2 ^ s) (hm:m*2 ^ s<4294967296):arith .or .u32 (lo:Int) ((m*2 ^ s:Nat):Int)=((lo+m*2 ^ s:Nat):Int)∧lo+m*2 ^ s<4294967296:=by
 have h32:2 ^ s≤4294967296:=pow32 hs
 have hsum:lo+m*2 ^ s<4294967296:=by
  have e:lo+m*2 ^ s=(m <<< s) ||| lo:=by
   rw [←Nat.shiftLeft_add_eq_or_of_lt hlo,Nat.shiftLeft_eq]
   omega
  rw [e]
  exact Nat.or_lt_two_pow (n:=32) (by rw [Nat.shiftLeft_eq]; exact hm) (by omega)
 refine ⟨?_,hsum⟩
 generalize hp:m*2 ^ s=p at hm hsum
 have e:(BitVec.ofInt 32 (lo:Int) ||| BitVec.ofInt 32 (p:Int)).toNat=lo+p:=by
  rw [BitVec.toNat_or,BitVec.toNat_ofInt,BitVec.toNat_ofInt]
  have e1:((lo:Int) % ((2 ^ 32:Nat):Int)).toNat=lo:=by omega
  have e2:((p:Int) % ((2 ^ 32:Nat):Int)).toNat=p:=by omega
  rw [e1,e2,Nat.or_comm,←hp,←Nat.shiftLeft_eq,←Nat.shiftLeft_add_eq_or_of_lt hlo]
  omega
 show IntKind.u32.wrap ((BitVec.ofInt 32 (lo:Int) ||| BitVec.ofInt 32 (p:Int)).toNat:Int)=_
 rw [e,xN]
 omega
theorem back_word {x y n:Nat} (hn:n≤31) (hx:x<4294967296) (hy:y<4294967296):∃ m,y*2 ^ (32 - n) % 4294967296=m*2 ^ (32 - n)∧x / 2 ^ n<2 ^ (32 - n)∧y*2 ^ (32 - n)<18446744073709551616*2∧m*2 ^ (32 - n)<4294967296∧2 ^ n*(x / 2 ^ n+m*2 ^ (32 - n))+x % 2 ^ n=x+4294967296*(y % 2 ^ n):=by
 have hB:4294967296=2 ^ n*2 ^ (32 - n):=by rw [←Nat.pow_add,show n+(32 - n)=32 by omega]
 have hp:0<2 ^ n:=Nat.pow_pos (by decide)
 have hq:0<2 ^ (32 - n):=Nat.pow_pos (by decide)
 have h32:2 ^ (32 - n)≤4294967296:=pow32 (by omega)
 refine ⟨y % 2 ^ n,?_,?_,?_,?_,?_⟩
 ·rw [hB,Nat.mul_mod_mul_right]
 ·rw [Nat.div_lt_iff_lt_mul hp,Nat.mul_comm,←hB]
  exact hx
 ·have:=Nat.mul_le_mul (Nat.le_of_lt hy) h32
  omega
 ·have:=Nat.mul_lt_mul_of_pos_right (Nat.mod_lt y hp) hq
  rwa [←hB] at this
 ·have hd:=Nat.div_add_mod x (2 ^ n)
  have e:2 ^ n*(y % 2 ^ n*2 ^ (32 - n))=4294967296*(y % 2 ^ n):=by
   rw [hB]
   grind
  rw [Nat.mul_add,e]
  omega
theorem back_row {p q c v x y w:Nat} (h:q*c=v+p*(x % q)) (hw:q*w+x % q=x+4294967296*(y % q)):q*(c+p*w)=v+p*x+p*4294967296*(y % q):=by
 have e:q*(p*w)+p*(x % q)=p*x+p*4294967296*(y % q):=by
  have:=congrArg (p*·) hw
  grind
 rw [Nat.mul_add,h]
 omega
theorem back_start {t:List Nat} {n r:Nat} (hn:n≤32) (h:val t=r*2 ^ n):at0 t 0 % 2 ^ n=0:=by
 cases t with
 | nil => simp [at0]
 | cons x l =>
  have e:val (x :: l)=x+4294967296*val l:=rfl
  have hB:4294967296=2 ^ (32 - n)*2 ^ n:=by rw [←Nat.pow_add,show 32 - n+n=32 by omega]
  have e2:at0 (x :: l) 0=x:=by simp [at0]
  rw [e2]
  rw [e,hB] at h
  have e3:x+2 ^ (32 - n)*val l*2 ^ n=r*2 ^ n:=by rw [←h]; grind
  have:=congrArg (· % 2 ^ n) e3
  simp only [Nat.add_mul_mod_self_right,Nat.mul_mod_left] at this
  exact this
end Go.Proofs.Ytokckcnfojjpjaa

namespace Go.Proofs.Ytokckcnfojjpjaa
open Go.RowKit
set_option maxRecDepth 20000
def PartsK (A B:Nat) (u:V):Prop:=∃ c l d m,u=.tup [.c c,.c d]∧Wd c l∧Norm l∧val l=A / B∧Wd d m∧Norm m∧val m=A % B
theorem PartsK.fz {A B:Nat} {c d:C} {l m:List Nat} {H:Hp} (h1:Wd c l) (h2:Norm l) (h3:val l=A / B) (h4:Wd d m) (h5:Norm m) (h6:val m=A % B):∃ e,FzV H (.tup [.c c,.c d]) e∧PartsK A B e :=
 ⟨_,.tup (.cons (.c (.hf h1.hf)) (.cons (.c (.hf h4.hf)) .nil)),c,l,d,m,rfl,h1,h2,h3,h4,h5,h6⟩
theorem remN (a b:Nat):arith .rem .u64 (a:Int) (b:Int)=((a % b:Nat):Int):=by
 show (a:Int).tmod b=_
 exact (Int.ofNat_tmod a b).symm
theorem short_round {a out:List Nat} {j b rest:Nat} (oa:OkW a) (hb:0<b) (hbB:b<4294967296) (hr:rest<b) (hja:j<a.length) (hjo:j<out.length) (h:val (a.drop (j+1))=val (out.drop (j+1))*b+rest) :
  (rest*4294967296+at0 a j) / b<4294967296∧val (a.drop j)=val ((out.set j ((rest*4294967296+at0 a j) / b)).drop j)*b+(rest*4294967296+at0 a j) % b∧(rest*4294967296+at0 a j) % b<b:=by
 have ga:=oa.get j
 refine ⟨?_,?_,Nat.mod_lt _ hb⟩
 ·rw [Nat.div_lt_iff_lt_mul hb]
  have:=Nat.mul_le_mul_right 4294967296 hr
  rw [Nat.succ_mul,Nat.mul_comm b] at this
  omega
 ·rw [val_drop_set hjo,uY hja]
  have hd:=Nat.div_add_mod (rest*4294967296+at0 a j) b
  show at0 a j+4294967296*val (a.drop (j+1))=_
  rw [h]
  generalize (rest*4294967296+at0 a j) / b=q at hd ⊢
  generalize (rest*4294967296+at0 a j) % b=r at hd ⊢
  generalize val (out.drop (j+1))=o
  grind
attribute [local irreducible] yA semH semC qLen qNil qIad qSlc qIdx yW yI xA appX appI slcX awpF yP xH xopF xM qval lval seqQ xJ xY xU xR cnd arith IntKind.wrap
end Go.Proofs.Ytokckcnfojjpjaa

namespace Go.Proofs.Ytokckcnfojjpjaa
open Go.RowKit
set_option maxRecDepth 20000
theorem nn {n:Nat} (h:n≤31):IntKind.u64.wrap (n:Int)=(n:Int):=wT _ (by omega)
attribute [local irreducible] yA semH semC qLen qNil qIad qSlc qIdx yW yI xA appX appI slcX awpF yP xH xopF xM qval lval seqQ xJ xY xU xR cnd arith IntKind.wrap
end Go.Proofs.Ytokckcnfojjpjaa

namespace Go.Proofs.Ytokckcnfojjpjaa
open Go.RowKit
set_option maxRecDepth 20000
theorem red_uniq {a b n d:Int} (h1:Int.gcd a b=1) (h2:Int.gcd n d=1) (hb:0<b) (hd:0<d) (h:a*d=n*b):a=n∧b=d:=by
 have hn:=congrArg Int.natAbs h
 rw [Int.natAbs_mul,Int.natAbs_mul] at hn
 have c1:Nat.Coprime d.natAbs n.natAbs:=by rw [Nat.coprime_comm]; exact h2
 have c2:Nat.Coprime b.natAbs a.natAbs:=by rw [Nat.coprime_comm]; exact h1
 have e1:d.natAbs ∣ b.natAbs:=Nat.Coprime.dvd_of_dvd_mul_left c1 ⟨a.natAbs,by rw [←hn,Nat.mul_comm]⟩
 have e2:b.natAbs ∣ d.natAbs:=Nat.Coprime.dvd_of_dvd_mul_left c2 ⟨n.natAbs,by rw [hn,Nat.mul_comm]⟩
 have e3:=Nat.dvd_antisymm e1 e2
 have e4:b=d:=by omega
 subst e4
 exact ⟨Int.eq_of_mul_eq_mul_right (by omega) h,rfl⟩
def RedK (n d:Int) (u:V):Prop:=∃ cs a b,u=.agg cs∧IsRQ cs a b∧0<b∧Int.gcd a b=1∧a*d=n*b∧a.natAbs≤n.natAbs∧b.natAbs≤d.natAbs
theorem IsRQ.hf {cs:List C} {a b:Int} (h:IsRQ cs a b):HFL cs:=by
 cases h with
 | mk hn hd =>
  obtain ⟨c1,l1,m1,rfl,w1,o1,g1,e1⟩:=hn.two
  obtain ⟨c2,l2,m2,rfl,w2,o2,g2,e2⟩:=hd.two
  exact ⟨w1.hf,trivial,w2.hf,trivial,trivial⟩
theorem IsRQ.of {c1 c2:C} {m1 m2:Bool} {a b:Int} (hn:IsW [c1,.bool m1] a) (hd:IsW [c2,.bool m2] b) (hb:b≠0):IsRQ [c1,.bool m1,c2,.bool m2] a b:=by
 have:=IsRQ.mk hn hd
 rwa [if_neg hb] at this
theorem IsRQ.four {cs:List C} {a b:Int} (h:IsRQ cs a b):∃ c1 m1 c2 m2 d,cs=[c1,.bool m1,c2,.bool m2]∧IsW [c1,.bool m1] a∧IsW [c2,.bool m2] d∧b=if d=0 then 1 else d:=by
 cases h with
 | mk hn hd =>
  obtain ⟨c1,l1,m1,rfl,_⟩:=hn.two
  obtain ⟨c2,l2,m2,rfl,_⟩:=hd.two
  exact ⟨_,_,_,_,_,rfl,hn,hd,rfl⟩
theorem RedK.fz {n d a b:Int} {cs:List C} {H:Hp} (h:IsRQ cs a b) (h1:0<b) (h2:Int.gcd a b=1) (h3:a*d=n*b) (h4:a.natAbs≤n.natAbs) (h5:b.natAbs≤d.natAbs):∃ e,FzV H (.agg cs) e∧RedK n d e :=
 ⟨_,.agg (.hf h.hf),cs,a,b,rfl,h,h1,h2,h3,h4,h5⟩
attribute [local irreducible] yA semH semC qLen qNil qIad qSlc qIdx yW yI xA appX appI slcX awpF yP xH xopF xM qval lval seqQ xJ xY xU xR cnd arith IntKind.wrap
theorem tV {P:Program} {e:Env} {H:Hp} {K:V→Hp→Prop} {agg:Bool} {size off:Nat} {a x:AO} {v:V} {cs l:List C} {el:TypeId} (h:a.ev e=some (.c (.ptr H.length off))) (h2:x.ev e=some v) (h3:qT agg v=some l) (h4:Nat.beq l.length size=true) (h5:off+size≤cs.length) (k:K (.tup []) (H++[.live ⟨splice cs off l,el,.rw⟩])):xopF P e (H++[.live ⟨cs,el,.rw⟩]) (.store agg size a x) K:=by
 refine pQ h h2 (xC (yJ _ _) h3 h4 h5 ?_)
 rw [gP]
 exact k
theorem vN {P:Program} {e:Env} {H:Hp} {K:V→Hp→Prop} {nid:Nat} {agg:Bool} {size off:Nat} {a x:AO} {v:V} {cs l:List C} {el:TypeId} (h:a.ev e=some (.c (.ptr H.length off))) (h2:x.ev e=some v) (h3:qT agg v=some l) (h4:Nat.beq l.length size=true) (h5:off+size≤cs.length) (k:K (.tup []) (H++[.live ⟨splice cs off l,el,.rw⟩])):xM P e (H++[.live ⟨cs,el,.rw⟩]) nid (.store agg size a x) K:=by
 refine uQ h h2 (xC (yJ _ _) h3 h4 h5 ?_)
 rw [gP]
 exact k
theorem go2 {A B:Prop} (k:B) (h:Held B→A:=by
 intro hgo
 repeat (first | (refine g_o ?_; first | (refine o_some ?_; try (first | (refine x_q (by rfl) ?_; try (first | refine q_mv (by rfl) ?_ | refine wZ (by rfl) ?_ | (refine tJ ?_; try (first | refine vK (by rfl) (by assumption) ?_ | refine vL (by rfl) ?_ | refine wE (by rfl) ?_ | refine wD (by rfl) ?_)) | (refine tL ?_; try (first | refine wW (by rfl) (by rfl) (by assumption) (by omega) (by omega) ?_ | refine vJ (by rfl) (by rfl) (by decide) (by decide) ?_ | refine yL (by rfl) (by rfl) (by decide) (by decide) ?_ | refine vD (by rfl) (by rfl) (by decide) (by decide) ?_)) | refine q_cm (by rfl) (by rfl) ?_ | refine q_ar (by rfl) (by rfl) (by rfl) ?_ | refine vW (by rfl) ?_ | (refine tP ?_; try (first | refine wP (by rfl) ?_ | refine wQ (by rfl) ?_ | refine vM (by rfl) ?_)) | refine tO (by rfl) (by rfl) ?_ | refine wY (by rfl) ?_ | refine vA (by rfl) ?_ | refine tF (by rfl) (by rfl) (by first | decide | omega) ?_ | refine tE (by rfl) (by rfl) (by first | decide | omega) ?_ | refine tQ (by rfl) (by rfl) ?_ | refine tR (by rfl) (by rfl) (by rfl) ?_ | refine tH (by rfl) ?_ | refine tG (by rfl) ?_ | refine wG (by rfl) (by rfl) ?_ | refine wH (by rfl) (by rfl) ?_ | refine tD ?_ | refine tK ?_ | refine tN (by rfl) (by rfl) ?_ | refine vV (by rfl) (by rfl) ?_ | refine wJ (by rfl) ?_ | refine q_mx (by rfl) (by rfl) ?_ | refine q_mn (by rfl) (by rfl) ?_ | refine tI (by rfl) (by rfl) (by rfl) ?_ | refine tM (by rfl) ?_ | refine vX (by rfl) ?_ | refine vY (by rfl) ?_ | refine wI (by rfl) ?_ | refine vB (by rfl) (by rfl) ?_ | refine vC (by rfl) (by rfl) ?_)) | (refine bC ?_; try (first | (refine tS (by rfl) ?_; try (first | refine yU (by rfl) (by rfl) ?_ | refine yM (by rfl) (by rfl) ?_ | refine yU (yJ _ _) (by rfl) ?_ | refine yM (yJ _ _) (by rfl) ?_)) | (refine tT (by rfl) ?_; try (first | refine uJ (by omega) (by omega) ?_ | refine xZ (Nat.le_of_ble_eq_true (by rfl)) ?_)))) | refine tV (by rfl) (by rfl) (by rfl) (by rfl) (Nat.le_of_ble_eq_true (by rfl)) ?_ | (refine pQ (by rfl) (by rfl) ?_; try (first | refine xC (by rfl) (by rfl) (by rfl) (Nat.le_of_ble_eq_true (by rfl)) ?_)) | refine jX (by rfl) (by rfl) ?_ | refine x_box (by rfl) (by rfl) ?_ | refine jO ?_ | refine gF (by rfl) ?_ | refine x_app ?_ | refine bB ?_ | refine jM ?_ | refine jN (by rfl) (by rfl) (by rfl) (by rfl) ?_ | refine qZ (by rfl) (by rfl) (by rfl) ?_)) | (refine o_nil ?_; try (first | refine s_n ?_ | refine s_r ?_ | refine s_e ?_ | refine k_n ?_ | refine k_r ?_ | refine k_e (by rfl) ?_ | refine k_o (by rfl) ?_ | refine l_r ?_ | refine l_e ?_ | refine b_r ?_ | refine b_n ?_)) | refine o_guard (by rfl) ?_ | refine o_guardT (by rfl) ?_ | refine o_none ?_ | refine o_guardN (by rfl) ?_) | (refine g_f ?_; first | refine f_seq ?_ | refine f_reg ?_ | (refine f_cond (by rfl) ?_; try (first | refine c_t (by rfl) ?_ | refine c_f (by rfl) ?_)) | refine f_block ?_ | refine f_skip ?_ | refine f_ret ?_ | refine f_exit ?_ | refine f_regD0 ?_ | refine f_regD ?_) | (refine g_s ?_; first | refine s_n ?_ | refine s_r ?_ | refine s_e ?_) | (refine g_d ?_; first | (refine jZ (T:=none) (by rfl) (by rfl) ?_; try (first | (refine xd_q (by rfl) ?_; try (first | refine q_mv (by rfl) ?_ | refine wZ (by rfl) ?_ | (refine tJ ?_; try (first | refine vK (by rfl) (by assumption) ?_ | refine vL (by rfl) ?_ | refine wE (by rfl) ?_ | refine wD (by rfl) ?_)) | (refine tL ?_; try (first | refine wW (by rfl) (by rfl) (by assumption) (by omega) (by omega) ?_ | refine vJ (by rfl) (by rfl) (by decide) (by decide) ?_ | refine yL (by rfl) (by rfl) (by decide) (by decide) ?_ | refine vD (by rfl) (by rfl) (by decide) (by decide) ?_)) | refine q_cm (by rfl) (by rfl) ?_ | refine q_ar (by rfl) (by rfl) (by rfl) ?_ | refine vW (by rfl) ?_ | (refine tP ?_; try (first | refine wP (by rfl) ?_ | refine wQ (by rfl) ?_ | refine vM (by rfl) ?_)) | refine tO (by rfl) (by rfl) ?_ | refine wY (by rfl) ?_ | refine vA (by rfl) ?_ | refine tF (by rfl) (by rfl) (by first | decide | omega) ?_ | refine tE (by rfl) (by rfl) (by first | decide | omega) ?_ | refine tQ (by rfl) (by rfl) ?_ | refine tR (by rfl) (by rfl) (by rfl) ?_ | refine tH (by rfl) ?_ | refine tG (by rfl) ?_ | refine wG (by rfl) (by rfl) ?_ | refine wH (by rfl) (by rfl) ?_ | refine tD ?_ | refine tK ?_ | refine tN (by rfl) (by rfl) ?_ | refine vV (by rfl) (by rfl) ?_ | refine wJ (by rfl) ?_ | refine q_mx (by rfl) (by rfl) ?_ | refine q_mn (by rfl) (by rfl) ?_ | refine tI (by rfl) (by rfl) (by rfl) ?_ | refine tM (by rfl) ?_ | refine vX (by rfl) ?_ | refine vY (by rfl) ?_ | refine wI (by rfl) ?_ | refine vB (by rfl) (by rfl) ?_ | refine vC (by rfl) (by rfl) ?_)) | (refine sL ?_; try (first | (refine tS (by rfl) ?_; try (first | refine yU (by rfl) (by rfl) ?_ | refine yM (by rfl) (by rfl) ?_ | refine yU (yJ _ _) (by rfl) ?_ | refine yM (yJ _ _) (by rfl) ?_)) | (refine tT (by rfl) ?_; try (first | refine uJ (by omega) (by omega) ?_ | refine xZ (Nat.le_of_ble_eq_true (by rfl)) ?_)))) | refine vN (by rfl) (by rfl) (by rfl) (by rfl) (Nat.le_of_ble_eq_true (by rfl)) ?_ | (refine uQ (by rfl) (by rfl) ?_; try (first | refine xC (by rfl) (by rfl) (by rfl) (Nat.le_of_ble_eq_true (by rfl)) ?_)) | refine sM (by rfl) (by rfl) ?_ | refine pJ (by rfl) (by rfl) (by rfl) ?_ | refine uR (by rfl) ?_ | refine sO (by rfl) (by rfl) ?_)) | (refine jZ (by rfl) (by rfl) ?_; try (first | (refine xd_q (by rfl) ?_; try (first | refine q_mv (by rfl) ?_ | refine wZ (by rfl) ?_ | (refine tJ ?_; try (first | refine vK (by rfl) (by assumption) ?_ | refine vL (by rfl) ?_ | refine wE (by rfl) ?_ | refine wD (by rfl) ?_)) | (refine tL ?_; try (first | refine wW (by rfl) (by rfl) (by assumption) (by omega) (by omega) ?_ | refine vJ (by rfl) (by rfl) (by decide) (by decide) ?_ | refine yL (by rfl) (by rfl) (by decide) (by decide) ?_ | refine vD (by rfl) (by rfl) (by decide) (by decide) ?_)) | refine q_cm (by rfl) (by rfl) ?_ | refine q_ar (by rfl) (by rfl) (by rfl) ?_ | refine vW (by rfl) ?_ | (refine tP ?_; try (first | refine wP (by rfl) ?_ | refine wQ (by rfl) ?_ | refine vM (by rfl) ?_)) | refine tO (by rfl) (by rfl) ?_ | refine wY (by rfl) ?_ | refine vA (by rfl) ?_ | refine tF (by rfl) (by rfl) (by first | decide | omega) ?_ | refine tE (by rfl) (by rfl) (by first | decide | omega) ?_ | refine tQ (by rfl) (by rfl) ?_ | refine tR (by rfl) (by rfl) (by rfl) ?_ | refine tH (by rfl) ?_ | refine tG (by rfl) ?_ | refine wG (by rfl) (by rfl) ?_ | refine wH (by rfl) (by rfl) ?_ | refine tD ?_ | refine tK ?_ | refine tN (by rfl) (by rfl) ?_ | refine vV (by rfl) (by rfl) ?_ | refine wJ (by rfl) ?_ | refine q_mx (by rfl) (by rfl) ?_ | refine q_mn (by rfl) (by rfl) ?_ | refine tI (by rfl) (by rfl) (by rfl) ?_ | refine tM (by rfl) ?_ | refine vX (by rfl) ?_ | refine vY (by rfl) ?_ | refine wI (by rfl) ?_ | refine vB (by rfl) (by rfl) ?_ | refine vC (by rfl) (by rfl) ?_)) | (refine sL ?_; try (first | (refine tS (by rfl) ?_; try (first | refine yU (by rfl) (by rfl) ?_ | refine yM (by rfl) (by rfl) ?_ | refine yU (yJ _ _) (by rfl) ?_ | refine yM (yJ _ _) (by rfl) ?_)) | (refine tT (by rfl) ?_; try (first | refine uJ (by omega) (by omega) ?_ | refine xZ (Nat.le_of_ble_eq_true (by rfl)) ?_)))) | refine vN (by rfl) (by rfl) (by rfl) (by rfl) (Nat.le_of_ble_eq_true (by rfl)) ?_ | (refine uQ (by rfl) (by rfl) ?_; try (first | refine xC (by rfl) (by rfl) (by rfl) (Nat.le_of_ble_eq_true (by rfl)) ?_)) | refine sM (by rfl) (by rfl) ?_ | refine pJ (by rfl) (by rfl) (by rfl) ?_ | refine uR (by rfl) ?_ | refine sO (by rfl) (by rfl) ?_)) | (refine d_nil ?_; try (first | refine s_n ?_ | refine s_r ?_ | refine s_e ?_ | refine k_n ?_ | refine k_r ?_ | refine k_e (by rfl) ?_ | refine k_o (by rfl) ?_ | refine l_r ?_ | refine l_e ?_ | refine b_r ?_ | refine b_n ?_)) | refine d_none (by rfl) (by rfl) ?_ | refine d_guard (by rfl) (by rfl) (by rfl) ?_) | (refine g_x ?_; first | (refine x_q (by rfl) ?_; try (first | refine q_mv (by rfl) ?_ | refine wZ (by rfl) ?_ | (refine tJ ?_; try (first | refine vK (by rfl) (by assumption) ?_ | refine vL (by rfl) ?_ | refine wE (by rfl) ?_ | refine wD (by rfl) ?_)) | (refine tL ?_; try (first | refine wW (by rfl) (by rfl) (by assumption) (by omega) (by omega) ?_ | refine vJ (by rfl) (by rfl) (by decide) (by decide) ?_ | refine yL (by rfl) (by rfl) (by decide) (by decide) ?_ | refine vD (by rfl) (by rfl) (by decide) (by decide) ?_)) | refine q_cm (by rfl) (by rfl) ?_ | refine q_ar (by rfl) (by rfl) (by rfl) ?_ | refine vW (by rfl) ?_ | (refine tP ?_; try (first | refine wP (by rfl) ?_ | refine wQ (by rfl) ?_ | refine vM (by rfl) ?_)) | refine tO (by rfl) (by rfl) ?_ | refine wY (by rfl) ?_ | refine vA (by rfl) ?_ | refine tF (by rfl) (by rfl) (by first | decide | omega) ?_ | refine tE (by rfl) (by rfl) (by first | decide | omega) ?_ | refine tQ (by rfl) (by rfl) ?_ | refine tR (by rfl) (by rfl) (by rfl) ?_ | refine tH (by rfl) ?_ | refine tG (by rfl) ?_ | refine wG (by rfl) (by rfl) ?_ | refine wH (by rfl) (by rfl) ?_ | refine tD ?_ | refine tK ?_ | refine tN (by rfl) (by rfl) ?_ | refine vV (by rfl) (by rfl) ?_ | refine wJ (by rfl) ?_ | refine q_mx (by rfl) (by rfl) ?_ | refine q_mn (by rfl) (by rfl) ?_ | refine tI (by rfl) (by rfl) (by rfl) ?_ | refine tM (by rfl) ?_ | refine vX (by rfl) ?_ | refine vY (by rfl) ?_ | refine wI (by rfl) ?_ | refine vB (by rfl) (by rfl) ?_ | refine vC (by rfl) (by rfl) ?_)) | (refine bC ?_; try (first | (refine tS (by rfl) ?_; try (first | refine yU (by rfl) (by rfl) ?_ | refine yM (by rfl) (by rfl) ?_ | refine yU (yJ _ _) (by rfl) ?_ | refine yM (yJ _ _) (by rfl) ?_)) | (refine tT (by rfl) ?_; try (first | refine uJ (by omega) (by omega) ?_ | refine xZ (Nat.le_of_ble_eq_true (by rfl)) ?_)))) | refine tV (by rfl) (by rfl) (by rfl) (by rfl) (Nat.le_of_ble_eq_true (by rfl)) ?_ | (refine pQ (by rfl) (by rfl) ?_; try (first | refine xC (by rfl) (by rfl) (by rfl) (Nat.le_of_ble_eq_true (by rfl)) ?_)) | refine jX (by rfl) (by rfl) ?_ | refine x_box (by rfl) (by rfl) ?_ | refine jO ?_ | refine gF (by rfl) ?_ | refine x_app ?_ | refine bB ?_ | refine jM ?_ | refine jN (by rfl) (by rfl) (by rfl) (by rfl) ?_ | refine qZ (by rfl) (by rfl) (by rfl) ?_) | (refine g_q ?_; first | refine q_mv (by rfl) ?_ | refine wZ (by rfl) ?_ | (refine tJ ?_; try (first | refine vK (by rfl) (by assumption) ?_ | refine vL (by rfl) ?_ | refine wE (by rfl) ?_ | refine wD (by rfl) ?_)) | (refine tL ?_; try (first | refine wW (by rfl) (by rfl) (by assumption) (by omega) (by omega) ?_ | refine vJ (by rfl) (by rfl) (by decide) (by decide) ?_ | refine yL (by rfl) (by rfl) (by decide) (by decide) ?_ | refine vD (by rfl) (by rfl) (by decide) (by decide) ?_)) | refine q_cm (by rfl) (by rfl) ?_ | refine q_ar (by rfl) (by rfl) (by rfl) ?_ | refine vW (by rfl) ?_ | (refine tP ?_; try (first | refine wP (by rfl) ?_ | refine wQ (by rfl) ?_ | refine vM (by rfl) ?_)) | refine tO (by rfl) (by rfl) ?_ | refine wY (by rfl) ?_ | refine vA (by rfl) ?_ | refine tF (by rfl) (by rfl) (by first | decide | omega) ?_ | refine tE (by rfl) (by rfl) (by first | decide | omega) ?_ | refine tQ (by rfl) (by rfl) ?_ | refine tR (by rfl) (by rfl) (by rfl) ?_ | refine tH (by rfl) ?_ | refine tG (by rfl) ?_ | refine wG (by rfl) (by rfl) ?_ | refine wH (by rfl) (by rfl) ?_ | refine tD ?_ | refine tK ?_ | refine tN (by rfl) (by rfl) ?_ | refine vV (by rfl) (by rfl) ?_ | refine wJ (by rfl) ?_ | refine q_mx (by rfl) (by rfl) ?_ | refine q_mn (by rfl) (by rfl) ?_ | refine tI (by rfl) (by rfl) (by rfl) ?_ | refine tM (by rfl) ?_ | refine vX (by rfl) ?_ | refine vY (by rfl) ?_ | refine wI (by rfl) ?_ | refine vB (by rfl) (by rfl) ?_ | refine vC (by rfl) (by rfl) ?_) | (refine g_c ?_; first | refine c_t (by rfl) ?_ | refine c_f (by rfl) ?_) | (refine g_k ?_; first | refine k_n ?_ | refine k_r ?_ | refine k_e (by rfl) ?_ | refine k_o (by rfl) ?_) | (refine g_lo ?_; first | refine l_r ?_ | refine l_e ?_) | (refine g_xd ?_; first | (refine xd_q (by rfl) ?_; try (first | refine q_mv (by rfl) ?_ | refine wZ (by rfl) ?_ | (refine tJ ?_; try (first | refine vK (by rfl) (by assumption) ?_ | refine vL (by rfl) ?_ | refine wE (by rfl) ?_ | refine wD (by rfl) ?_)) | (refine tL ?_; try (first | refine wW (by rfl) (by rfl) (by assumption) (by omega) (by omega) ?_ | refine vJ (by rfl) (by rfl) (by decide) (by decide) ?_ | refine yL (by rfl) (by rfl) (by decide) (by decide) ?_ | refine vD (by rfl) (by rfl) (by decide) (by decide) ?_)) | refine q_cm (by rfl) (by rfl) ?_ | refine q_ar (by rfl) (by rfl) (by rfl) ?_ | refine vW (by rfl) ?_ | (refine tP ?_; try (first | refine wP (by rfl) ?_ | refine wQ (by rfl) ?_ | refine vM (by rfl) ?_)) | refine tO (by rfl) (by rfl) ?_ | refine wY (by rfl) ?_ | refine vA (by rfl) ?_ | refine tF (by rfl) (by rfl) (by first | decide | omega) ?_ | refine tE (by rfl) (by rfl) (by first | decide | omega) ?_ | refine tQ (by rfl) (by rfl) ?_ | refine tR (by rfl) (by rfl) (by rfl) ?_ | refine tH (by rfl) ?_ | refine tG (by rfl) ?_ | refine wG (by rfl) (by rfl) ?_ | refine wH (by rfl) (by rfl) ?_ | refine tD ?_ | refine tK ?_ | refine tN (by rfl) (by rfl) ?_ | refine vV (by rfl) (by rfl) ?_ | refine wJ (by rfl) ?_ | refine q_mx (by rfl) (by rfl) ?_ | refine q_mn (by rfl) (by rfl) ?_ | refine tI (by rfl) (by rfl) (by rfl) ?_ | refine tM (by rfl) ?_ | refine vX (by rfl) ?_ | refine vY (by rfl) ?_ | refine wI (by rfl) ?_ | refine vB (by rfl) (by rfl) ?_ | refine vC (by rfl) (by rfl) ?_)) | (refine sL ?_; try (first | (refine tS (by rfl) ?_; try (first | refine yU (by rfl) (by rfl) ?_ | refine yM (by rfl) (by rfl) ?_ | refine yU (yJ _ _) (by rfl) ?_ | refine yM (yJ _ _) (by rfl) ?_)) | (refine tT (by rfl) ?_; try (first | refine uJ (by omega) (by omega) ?_ | refine xZ (Nat.le_of_ble_eq_true (by rfl)) ?_)))) | refine vN (by rfl) (by rfl) (by rfl) (by rfl) (Nat.le_of_ble_eq_true (by rfl)) ?_ | (refine uQ (by rfl) (by rfl) ?_; try (first | refine xC (by rfl) (by rfl) (by rfl) (Nat.le_of_ble_eq_true (by rfl)) ?_)) | refine sM (by rfl) (by rfl) ?_ | refine pJ (by rfl) (by rfl) (by rfl) ?_ | refine uR (by rfl) ?_ | refine sO (by rfl) (by rfl) ?_) | (refine g_l ?_; first | (refine tS (by rfl) ?_; try (first | refine yU (by rfl) (by rfl) ?_ | refine yM (by rfl) (by rfl) ?_ | refine yU (yJ _ _) (by rfl) ?_ | refine yM (yJ _ _) (by rfl) ?_)) | (refine tT (by rfl) ?_; try (first | refine uJ (by omega) (by omega) ?_ | refine xZ (Nat.le_of_ble_eq_true (by rfl)) ?_))) | (refine g_len ?_; first | refine vK (by rfl) (by assumption) ?_ | refine vL (by rfl) ?_ | refine wE (by rfl) ?_ | refine wD (by rfl) ?_) | (refine g_nil ?_; first | refine wP (by rfl) ?_ | refine wQ (by rfl) ?_ | refine vM (by rfl) ?_) | (refine g_iad ?_; first | refine wW (by rfl) (by rfl) (by assumption) (by omega) (by omega) ?_ | refine vJ (by rfl) (by rfl) (by decide) (by decide) ?_ | refine yL (by rfl) (by rfl) (by decide) (by decide) ?_ | refine vD (by rfl) (by rfl) (by decide) (by decide) ?_) | (refine g_box ?_; first | refine yU (by rfl) (by rfl) ?_ | refine yM (by rfl) (by rfl) ?_ | refine yU (yJ _ _) (by rfl) ?_ | refine yM (yJ _ _) (by rfl) ?_) | (refine g_cells ?_; first | refine uJ (by omega) (by omega) ?_ | refine xZ (Nat.le_of_ble_eq_true (by rfl)) ?_) | (refine g_st ?_; first | refine xC (by rfl) (by rfl) (by rfl) (Nat.le_of_ble_eq_true (by rfl)) ?_) | (refine g_b ?_; first | refine b_r ?_ | refine b_n ?_) | (refine g_r ?_; first | refine r_tmp (by rfl) ?_ | refine r_cell ?_ | refine r_nil ?_))
 exact hgo.out):A:=h ⟨k⟩
end Go.Proofs.Ytokckcnfojjpjaa

namespace Go.Proofs.Ytokckcnfojjpjaa
open Go.RowKit
set_option maxRecDepth 20000
abbrev R2:=Int × Int
def iC (n:Int):C:=.int .i64 n
def uE (p q:R2):Prop:=p.1*q.2<q.1*p.2
noncomputable def mxR (p q:R2):R2:=bif dec (uE p q) then q else p
noncomputable def mnR (p q:R2):R2:=bif dec (uE q p) then q else p
def cmpR (p q:R2):Int:=sgn (p.1*q.2 - q.1*p.2)
structure Bd (k:Nat) (p:R2):Prop where
 n:Sz k p.1
 d:Sz k p.2
 pos:0<p.2
theorem Sz.mul {k:Nat} {a b:Int} (h1:Sz k a) (h2:Sz k b):Sz (k+k) (a*b):=by
 unfold Sz at *
 rw [Int.natAbs_mul,Nat.pow_add]
 exact Nat.mul_lt_mul'' h1 h2
theorem wL.bd {p:R2} (h:wL p.1 p.2):Bd 2 p:=by
 obtain ⟨h1,h2,h3,h4,h5⟩:=h
 refine ⟨?_,?_,by omega⟩
 ·unfold Sz
  omega
 ·unfold Sz
  omega
theorem Bd.mx {k:Nat} {p q:R2} (h1:Bd k p) (h2:Bd k q):Bd k (mxR p q):=by
 unfold mxR
 cases dec (uE p q)
 ·exact h1
 ·exact h2
theorem Bd.mn {k:Nat} {p q:R2} (h1:Bd k p) (h2:Bd k q):Bd k (mnR p q):=by
 unfold mnR
 cases dec (uE q p)
 ·exact h1
 ·exact h2
theorem cmp_gtr (p q:R2):yA Cm.gtr (cmpR p q) 0=dec (uE q p):=by
 have:cmpR p q > 0↔uE q p:=by
  unfold cmpR uE sgn
  split
  ·omega
  ·split <;> omega
 show dec _=_
 rw [propext this]
noncomputable def fitR (p:R2):Bool:=dec (-1000000000000≤p.1∧p.1≤1000000000000∧p.2≤1000000000000)
noncomputable def outV (p:R2):V:=bif fitR p then .tup [.agg [iC p.1,iC p.2],.c (.bool true)] else .tup [.agg [iC 0,iC 0],.c (.bool false)]
def RQK (p:R2) (u:V):Prop:=∃ cs,u=.agg cs∧IsRQ cs p.1 p.2
theorem RQK.fz {p:R2} {cs:List C} {H:Hp} (h:IsRQ cs p.1 p.2):∃ e,FzV H (.agg cs) e∧RQK p e:=⟨_,.agg (.hf h.hf),cs,rfl,h⟩
inductive IsQ:List C→R2→Prop
 | mk {ns ds:List C} {p:R2} (hn:IsZ ns p.1) (hd:IsZ ds p.2):IsQ (ns++ds) p
def QK (p:R2) (u:V):Prop:=∃ cs,u=.agg cs∧IsQ cs p
theorem IsQ.six {cs:List C} {p:R2} (h:IsQ cs p):∃ a b c d e f,cs=[a,b,c,d,e,f]∧IsZ [a,b,c] p.1∧IsZ [d,e,f] p.2:=by
 cases h with
 | mk hn hd =>
  obtain ⟨a,b,c,rfl⟩:=hn.three
  obtain ⟨d,e,f,rfl⟩:=hd.three
  exact ⟨_,_,_,_,_,_,rfl,hn,hd⟩
theorem IsQ.of {a b c d e f:C} {p:R2} (hn:IsZ [a,b,c] p.1) (hd:IsZ [d,e,f] p.2):IsQ [a,b,c,d,e,f] p:=.mk (ns:=[a,b,c]) (ds:=[d,e,f]) hn hd
theorem IsQ.hf {cs:List C} {p:R2} (h:IsQ cs p):HFL cs:=by
 obtain ⟨a,b,c,d,e,f,rfl,h1,h2⟩:=h.six
 obtain ⟨x1,x2,x3,_⟩:=h1.hf
 obtain ⟨y1,y2,y3,_⟩:=h2.hf
 exact ⟨x1,x2,x3,y1,y2,y3,trivial⟩
theorem QK.fz {p:R2} {cs:List C} {H:Hp} (h:IsQ cs p):∃ e,FzV H (.agg cs) e∧QK p e:=⟨_,.agg (.hf h.hf),cs,rfl,h⟩
attribute [local irreducible] yA semH semC qLen qNil qIad qSlc qIdx yW yI xA appX appI slcX awpF yP xH xopF xM qval lval seqQ xJ xY xU xR cnd arith IntKind.wrap
def OutK (p:R2) (u:V):Prop:=u=outV p
theorem OutK.yes {p:R2} {H:Hp} (h:-1000000000000≤p.1∧p.1≤1000000000000∧p.2≤1000000000000):∃ e,FzV H (.tup [.agg [iC p.1,iC p.2],.c (.bool true)]) e∧OutK p e:=by
 refine ⟨_,.tup (.cons (.agg (.hf ⟨trivial,trivial,trivial⟩)) (.cons (.c (.hf trivial)) .nil)),?_⟩
 unfold OutK outV fitR
 rw [yE.2 h]
 rfl
theorem OutK.no {p:R2} {H:Hp} (h:¬ (-1000000000000≤p.1∧p.1≤1000000000000∧p.2≤1000000000000)):∃ e,FzV H (.tup [.agg [iC 0,iC 0],.c (.bool false)]) e∧OutK p e:=by
 refine ⟨_,.tup (.cons (.agg (.hf ⟨trivial,trivial,trivial⟩)) (.cons (.c (.hf trivial)) .nil)),?_⟩
 unfold OutK outV fitR
 rw [yK.2 h]
 rfl
theorem num_Of {p:R2} (h:wL p.1 p.2):semC Try.prog n_num_Of [.agg [iC p.1,iC p.2]] (QK p):=by
 refine yD ok_num_Of rfl (show HFVs [.agg [iC p.1,iC p.2]] from ⟨⟨trivial,trivial,trivial⟩,trivial⟩) ?_
 obtain ⟨h1,h2,h3,h4,h5⟩:=h
 refine go2 ?_
 refine yS (gR p.1 (by omega) (by omega)) (fun u hu => ?_)
 obtain ⟨cs,rfl,hn⟩:=hu
 refine go2 ?_
 refine yS (gR p.2 (by omega) (by omega)) (fun u hu => ?_)
 obtain ⟨ds,rfl,hd⟩:=hu
 obtain ⟨a,b,c,rfl⟩:=hn.three
 obtain ⟨d,e,f,rfl⟩:=hd.three
 refine go2 ?_
 exact QK.fz (.of hn hd)
theorem num_Q_Cmp {cs ds:List C} {p q:R2} {k:Nat} (hx:IsQ cs p) (hy:IsQ ds q) (bp:Bd k p) (bq:Bd k q) (hk:k≤268435456):semC Try.prog n_num_Q_Cmp [.agg cs,.agg ds] (IntK (cmpR p q)):=by
 refine yD ok_num_Q_Cmp rfl (show HFVs [.agg cs,.agg ds] from ⟨hx.hf,hy.hf,trivial⟩) ?_
 obtain ⟨a,b,c,d,e,f,rfl,h1,h2⟩:=hx.six
 obtain ⟨a',b',c',d',e',f',rfl,h3,h4⟩:=hy.six
 refine go2 ?_
 refine yS (uF h1 h4 bp.n bq.d (by omega)) (fun u hu => ?_)
 obtain ⟨es,rfl,h5⟩:=hu
 refine go2 ?_
 refine yS (uF h3 h2 bq.n bp.d (by omega)) (fun u hu => ?_)
 obtain ⟨fs,rfl,h6⟩:=hu
 refine go2 ?_
 refine yS (num_Z_Cmp h5 h6 (bp.n.mul bq.d) (bq.n.mul bp.d) (by omega)) (fun u hu => ?_)
 obtain rfl:=hu
 refine go2 ?_
 exact IntK.fz
theorem num_Q_Out {cs:List C} {p:R2} (hx:IsQ cs p) (hp:0<p.2):semC Try.prog n_num_Q_Out [.agg cs] (OutK p):=by
 refine yD ok_num_Q_Out rfl (show HFVs [.agg cs] from ⟨hx.hf,trivial⟩) ?_
 obtain ⟨a,b,c,d,e,f,rfl,h1,h2⟩:=hx.six
 refine go2 ?_
 refine yB (num_Z_Int (most:=1000000000000) h1 (by omega) (by omega)) (fun u hu => ?_)
 obtain ⟨r,b1,rfl,hb,hr⟩:=hu
 refine go2 ?_
 refine yB (num_Z_Int (most:=1000000000000) h2 (by omega) (by omega)) (fun u hu => ?_)
 obtain ⟨r',b2,rfl,hb',hr'⟩:=hu
 refine go2 ?_
 cases b1
 case false =>
  refine go2 ?_
  exact OutK.no (fun h => by
   have:=hb.2 (by omega)
   cases this)
 have e1:=hr rfl
 subst e1
 refine go2 ?_
 cases b2
 case false =>
  refine go2 ?_
  exact OutK.no (fun h => by
   have:=hb'.2 (by omega)
   cases this)
 have e2:=hr' rfl
 subst e2
 refine go2 ?_
 have e3:=hb.1 rfl
 have e4:=hb'.1 rfl
 exact OutK.yes (by omega)
end Go.Proofs.Ytokckcnfojjpjaa

namespace Go.Proofs.Ytokckcnfojjpjaa
open Go.RowKit
set_option maxRecDepth 20000
abbrev SP:=R2 × R2
def ratC (p:R2):List C:=[iC p.1,iC p.2]
def spanC (x:SP):List C:=[iC x.1.1,iC x.1.2,iC x.2.1,iC x.2.2]
def zeroC:List C:=[iC 0,iC 0,iC 0,iC 0]
def SpanOk (x:SP):Prop:=wL x.1.1 x.1.2∧wL x.2.1 x.2.2∧¬ uE x.2 x.1
structure BdS (k:Nat) (x:SP):Prop where
 lo:Bd k x.1
 hi:Bd k x.2
theorem SpanOk.bd {x:SP} (h:SpanOk x):BdS 2 x:=⟨h.1.bd,h.2.1.bd⟩
inductive IsE:List C→SP→Prop
 | mk {a b:List C} {x:SP} (h1:IsQ a x.1) (h2:IsQ b x.2):IsE (a++b) x
inductive IsS:List C→SP→Prop
 | mk {a b:List C} {x:SP} (h1:IsRQ a x.1.1 x.1.2) (h2:IsRQ b x.2.1 x.2.2):IsS (a++b) x
def EK (x:SP) (u:V):Prop:=∃ cs,u=.agg cs∧IsE cs x
def SK (x:SP) (u:V):Prop:=∃ cs,u=.agg cs∧IsS cs x
theorem HFL_app:∀ {x y:List C},HFL x→HFL y→HFL (x++y)
 | [],_,_,h => h
 | c :: x,y,h1,h2 => by
  simp only [HFL] at h1
  simp only [List.cons_append,HFL]
  exact ⟨h1.1,HFL_app h1.2 h2⟩
theorem IsE.hf {cs:List C} {x:SP} (h:IsE cs x):HFL cs:=by
 cases h with
 | mk h1 h2 => exact HFL_app h1.hf h2.hf
theorem IsS.hf {cs:List C} {x:SP} (h:IsS cs x):HFL cs:=by
 cases h with
 | mk h1 h2 => exact HFL_app h1.hf h2.hf
theorem EK.fz {x:SP} {cs:List C} {H:Hp} (h:IsE cs x):∃ e,FzV H (.agg cs) e∧EK x e:=⟨_,.agg (.hf h.hf),cs,rfl,h⟩
theorem SK.fz {x:SP} {cs:List C} {H:Hp} (h:IsS cs x):∃ e,FzV H (.agg cs) e∧SK x e:=⟨_,.agg (.hf h.hf),cs,rfl,h⟩
theorem IsE.of {a b c d e f a' b' c' d' e' f':C} {x:SP} (h1:IsQ [a,b,c,d,e,f] x.1) (h2:IsQ [a',b',c',d',e',f'] x.2):IsE [a,b,c,d,e,f,a',b',c',d',e',f'] x:=.mk (a:=[a,b,c,d,e,f]) h1 h2
theorem IsS.of {a b c d a' b' c' d':C} {x:SP} (h1:IsRQ [a,b,c,d] x.1.1 x.1.2) (h2:IsRQ [a',b',c',d'] x.2.1 x.2.2):IsS [a,b,c,d,a',b',c',d'] x:=.mk (a:=[a,b,c,d]) h1 h2
noncomputable def toldV (x:SP):V:=bif fitR x.1 && fitR x.2 then .tup [.agg (spanC x),i64 0] else .tup [.agg zeroC,i64 3]
attribute [local irreducible] yA semH semC qLen qNil qIad qSlc qIdx yW yI xA appX appI slcX awpF yP xH xopF xM qval lval seqQ xJ xY xU xR cnd arith IntKind.wrap
end Go.Proofs.Ytokckcnfojjpjaa

namespace Go.Proofs.Ytokckcnfojjpjaa
open Go.RowKit
set_option maxRecDepth 20000
theorem fz_sl {p:BK→Prop} {H:Hp} {b n es:Nat} {co:Option Nat} {bx:Box} {ds:List C} (h:H[b]?=some (.live bx)) (hk:p bx.kind) (hk':bx.kind≠.bor) (hd:(bx.cells.drop 0).take (n*es)=ds) (hf:HFL ds):Fz p H (.sl b 0 n co es) (.imm n ds) :=
 .sl h hk hk' (by rw [hd]; exact FzL.hf hf)
def zeroE:List C:=[.int .i64 0,.nilSl,.bool false,.int .i64 0,.nilSl,.bool false,.int .i64 0,.nilSl,.bool false,.int .i64 0,.nilSl,.bool false]
noncomputable def checkB (g:Int) (l:List SP):Bool:=dec (∀ x∈l,SpanOk x) && dec (1≤g∧g≤1000000)
theorem wX {α:Type} {l:List α} {i:Nat} (h:i<l.length):l[i]∈l:=List.getElem_mem h
theorem qU (p:R2):HFL (ratC p):=⟨trivial,trivial,trivial⟩
noncomputable def wider (a:SP) (p:R2):SP:=(mnR a.1 p,mxR a.2 p)
theorem BdS.wider {k:Nat} {a:SP} {p:R2} (h:BdS k a) (hp:Bd k p):BdS k (wider a p):=⟨h.lo.mn hp,h.hi.mx hp⟩
theorem BdS.fold {k:Nat}:∀ {l:List R2} {a:SP},BdS k a→(∀ p∈l,Bd k p)→BdS k (l.foldl Proofs.Ytokckcnfojjpjaa.wider a)
 | [],_,h,_ => h
 | p :: t,_,h,hl => BdS.fold (l:=t) (h.wider (hl p (by simp))) (fun q hq => hl q (by simp [hq]))
theorem lessR_irr (p:R2):¬ uE p p:=by unfold uE; omega
attribute [local irreducible] yA semH semC qLen qNil qIad qSlc qIdx yW yI xA appX appI slcX awpF yP xH xopF xM qval lval seqQ xJ xY xU xR cnd arith IntKind.wrap
end Go.Proofs.Ytokckcnfojjpjaa

namespace Go.Proofs.Ytokckcnfojjpjaa
open Go.RowKit
set_option maxRecDepth 20000
def zeroS:List C:=[.nilSl,.bool false,.nilSl,.bool false,.nilSl,.bool false,.nilSl,.bool false]
abbrev Cv:=List C × R2
def OkRQ (k:Nat) (e:Cv):Prop:=IsRQ e.1 e.2.1 e.2.2∧Bd k e.2
theorem OkRQ.len {k:Nat} {e:Cv} (h:OkRQ k e):e.1.length=4:=by
 obtain ⟨a,b,c,d,_,h1,_⟩:=h.1.four
 rw [h1]
 rfl
theorem wL.mx {p q:R2} (h1:wL p.1 p.2) (h2:wL q.1 q.2):wL (mxR p q).1 (mxR p q).2:=by
 unfold mxR
 cases dec (uE p q)
 ·exact h1
 ·exact h2
theorem wL.mn {p q:R2} (h1:wL p.1 p.2) (h2:wL q.1 q.2):wL (mnR p q).1 (mnR p q).2:=by
 unfold mnR
 cases dec (uE q p)
 ·exact h1
 ·exact h2
theorem wL.fit {p:R2} (h:wL p.1 p.2):fitR p=true:=by
 obtain ⟨h1,h2,h3,h4,h5⟩:=h
 unfold fitR
 exact yE.2 ⟨h3,h4,h2⟩
attribute [local irreducible] yA semH semC qLen qNil qIad qSlc qIdx yW yI xA appX appI slcX awpF yP xH xopF xM qval lval seqQ xJ xY xU xR cnd arith IntKind.wrap
theorem goN {A B:Prop} (k:B) (h:Held B→A:=by
 intro hgo
 simp only [spanC,zeroC,ratC,zeroE,zeroS,List.set_cons_zero,List.set_cons_succ,List.nil_append,List.cons_append,List.append_nil,List.replicate_succ,List.replicate_zero,List.length_cons,List.length_nil,splice,List.take_succ_cons,List.take_zero,List.drop_succ_cons,List.drop_zero,List.take_nil,List.drop_nil,Nat.zero_add,Nat.reduceAdd,Nat.reduceMul,Int.reduceToNat,xQ,List.getElem?_cons_succ,List.getElem?_cons_zero]
 exact hgo.out):A:=h ⟨k⟩
end Go.Proofs.Ytokckcnfojjpjaa

namespace Go.Proofs.Ytokckcnfojjpjaa
open Go.RowKit
set_option maxRecDepth 20000
def QuoK (a b:Int) (u:V):Prop:=∃ cs ds,u=.tup [.agg cs,.agg ds]∧IsZ cs (a.tdiv b)∧IsZ ds (a.tmod b)
theorem QuoK.fz {a b:Int} {cs ds:List C} {H:Hp} (h1:IsZ cs (a.tdiv b)) (h2:IsZ ds (a.tmod b)):∃ e,FzV H (.tup [.agg cs,.agg ds]) e∧QuoK a b e:=⟨_,.tup (.cons (.agg (.hf h1.hf)) (.cons (.agg (.hf h2.hf)) .nil)),_,_,rfl,h1,h2⟩
def QuoOk (S:Int→Prop):Prop:=∀ (cs ds:List C) (a b:Int),IsZ cs a→IsZ ds b→S a→S b→b≠0→semC Try.prog n_num_Z_Quo [.agg cs,.agg ds] (QuoK a b)
structure SCl (S:Int→Prop) (n:Nat):Prop where
 le:∀ a b:Int,S a→b.natAbs≤a.natAbs→S b
 sz:∀ a:Int,S a→Sz n a
 n:n≤268435456
def Sm (z:Int):Prop:=z.natAbs<9223372036854775808
theorem Sm.cl:SCl Sm 2:=⟨fun a b h1 h2 => by unfold Sm at *; omega,fun a h => by unfold Sm at h; unfold Sz; omega,by decide⟩
theorem nC (a b:Int):(a.tdiv b).natAbs≤a.natAbs:=by
 rw [Int.natAbs_tdiv]
 exact Nat.div_le_self _ _
theorem tmod_le (a b:Int):(a.tmod b).natAbs≤a.natAbs:=by
 rw [Int.natAbs_tmod]
 exact Nat.mod_le _ _
theorem ar_quo {k:IntKind} {a b:Int}:arith .quo k a b=k.wrap (a.tdiv b):=rfl
theorem snd_live (H:Hp) (s t:Slot):(H++[s]++[t])[H.length]?=some s:=by simp
theorem set_snd (H:Hp) (s t u:Slot):(H++[s]++[t]).set H.length u=H++[u]++[t]:=by simp
theorem last_at {H:Hp} {i:Nat} {s:Slot} (h:i=H.length):(H++[s])[i]?=some s:=by
 subst h
 simp
theorem set_at {H:Hp} {i:Nat} {s t:Slot} (h:i=H.length):(H++[s]).set i t=H++[t]:=by
 subst h
 simp
def sC (n d:Int) (u:V):Prop:=∃ cs p,u=.agg cs∧IsQ cs p∧0<p.2∧Int.gcd p.1 p.2=1∧p.1*d=n*p.2∧p.1.natAbs≤n.natAbs∧p.2.natAbs≤d.natAbs
theorem sC.fz {n d:Int} {p:R2} {cs:List C} {H:Hp} (h:IsQ cs p) (h1:0<p.2) (h2:Int.gcd p.1 p.2=1) (h3:p.1*d=n*p.2) (h4:p.1.natAbs≤n.natAbs) (h5:p.2.natAbs≤d.natAbs):∃ e,FzV H (.agg cs) e∧sC n d e :=
 ⟨_,.agg (.hf h.hf),cs,p,rfl,h,h1,h2,h3,h4,h5⟩
theorem gcd_tdiv {n d:Int} (hd:0<d):Int.gcd (n.tdiv (Int.gcd n d:Nat)) (d.tdiv (Int.gcd n d:Nat))=1∧n.tdiv (Int.gcd n d:Nat)*d=n*d.tdiv (Int.gcd n d:Nat)∧0<d.tdiv (Int.gcd n d:Nat):=by
 have hg:0<Int.gcd n d:=Int.gcd_pos_of_ne_zero_right _ (by omega)
 obtain ⟨k,hk⟩:=Int.gcd_dvd_left n d
 obtain ⟨m,hm⟩:=Int.gcd_dvd_right n d
 generalize hgg:Int.gcd n d=g at hg hk hm ⊢
 have hg':(g:Int)≠0:=by omega
 have e1:n.tdiv (g:Int)=k:=by rw [hk,Int.mul_tdiv_cancel_left _ hg']
 have e2:d.tdiv (g:Int)=m:=by rw [hm,Int.mul_tdiv_cancel_left _ hg']
 rw [e1,e2]
 refine ⟨?_,?_,?_⟩
 ·rw [hk,hm,Int.gcd_mul_left] at hgg
  simp only [Int.natAbs_natCast] at hgg
  exact Nat.eq_of_mul_eq_mul_left hg (by omega)
 ·rw [hk,hm]
  grind
 ·rcases Int.lt_trichotomy m 0 with h | h | h
  ·have:(g:Int)*m<0:=Int.mul_neg_of_pos_of_neg (by omega) h
   omega
  ·subst h
   simp at hm
   omega
  ·exact h
theorem floor_eq {a b:Int} (hb:0<b):a / b=if a.tmod b<0 then a.tdiv b - 1 else a.tdiv b:=by
 have e:=Int.mul_tdiv_add_tmod a b
 have hlt:(a.tmod b).natAbs<b.natAbs:=by
  rw [Int.natAbs_tmod]
  exact Nat.mod_lt _ (by omega)
 have hu:=fun (r q:Int) (h1:r+b*q=a) (h2:0≤r) (h3:r<b) => (Int.ediv_emod_unique hb).2 ⟨h1,h2,h3⟩
 split
 ·exact (hu (a.tmod b+b) (a.tdiv b - 1) (by rw [Int.mul_sub]; omega) (by omega) (by omega)).1
 ·exact (hu (a.tmod b) (a.tdiv b) (by omega) (by omega) (by omega)).1
attribute [local irreducible] yA semH semC qLen qNil qIad qSlc qIdx yW yI xA appX appI slcX awpF yP xH xopF xM qval lval seqQ xJ xY xU xR cnd arith IntKind.wrap
theorem num_Z_Floor {S:Int→Prop} {n:Nat} (hS:SCl S n) (hQ:QuoOk S) {cs ds:List C} {a b:Int} (hx:IsZ cs a) (hy:IsZ ds b) (sa:S a) (sb:S b) (h0:0<b):semC Try.prog n_num_Z_Floor [.agg cs,.agg ds] (ZK (a / b)):=by
 refine yD ok_num_Z_Floor rfl (show HFVs [.agg cs,.agg ds] from ⟨hx.hf,hy.hf,trivial⟩) ?_
 obtain ⟨a1,a2,a3,rfl⟩:=hx.three
 obtain ⟨b1,b2,b3,rfl⟩:=hy.three
 rw [floor_eq h0]
 refine go2 ?_
 refine yB (hQ _ _ a b hx hy sa sb (by omega)) (fun u hu => ?_)
 obtain ⟨es,fs,rfl,hq,hr⟩:=hu
 obtain ⟨c1,c2,c3,rfl⟩:=hq.three
 obtain ⟨d1,d2,d3,rfl⟩:=hr.three
 refine go2 ?_
 refine yB (pL hr) (fun u hu => ?_)
 obtain rfl:=hu
 refine go2 ?_
 cases hc:yA Cm.lss (sgn (a.tmod b)) 0
 ·have h1:¬ a.tmod b<0:=by
   simp only [yA,yK] at hc
   unfold sgn at hc
   intro h
   rw [if_pos h] at hc
   omega
  rw [if_neg h1]
  refine go2 ?_
  exact ZK.fz hq
 ·have h1:a.tmod b<0:=by
   simp only [yA,yE] at hc
   unfold sgn at hc
   split at hc
   ·assumption
   ·split at hc <;> omega
  rw [if_pos h1]
  refine go2 ?_
  refine goN ?_
  refine yS (gR 1 (by omega) (by omega)) (fun u hu => ?_)
  obtain ⟨gs,rfl,h2⟩:=hu
  refine go2 ?_
  have hsz:Sz (n+1) 1:=by
   unfold Sz
   rw [Nat.pow_succ]
   have:=Nat.pow_pos (n:=n) (show 0<4294967296 by decide)
   omega
  have hsq:Sz (n+1) (a.tdiv b):=by
   have h3:=hS.sz _ (hS.le a _ sa (nC a b))
   unfold Sz at *
   rw [Nat.pow_succ]
   omega
  have hn:=hS.n
  refine yS (num_Z_Sub (n:=n+1) hq h2 hsq hsz (by omega)) (fun u hu => ?_)
  obtain ⟨ks,rfl,h4⟩:=hu
  obtain ⟨e1,e2,e3,rfl⟩:=h4.three
  refine go2 ?_
  exact ZK.fz h4
theorem num_Gcd {S:Int→Prop} {n:Nat} (hS:SCl S n) (hQ:QuoOk S) {cs ds:List C} {a b:Int} (hx:IsZ cs a) (hy:IsZ ds b) (sa:S a) (sb:S b):semC Try.prog n_num_Gcd [.agg cs,.agg ds] (ZK (Int.gcd a b:Nat)):=by
 refine yD ok_num_Gcd rfl (show HFVs [.agg cs,.agg ds] from ⟨hx.hf,hy.hf,trivial⟩) ?_
 obtain ⟨a1,a2,a3,rfl⟩:=hx.three
 obtain ⟨b1,b2,b3,rfl⟩:=hy.three
 have hn:=hS.n
 refine go2 ?_
 refine yS (num_Z_Abs hx (hS.sz _ sa) (by omega)) (fun u hu => ?_)
 obtain ⟨es,rfl,h1⟩:=hu
 refine go2 ?_
 refine yS (num_Z_Abs hy (hS.sz _ sb) (by omega)) (fun u hu => ?_)
 obtain ⟨fs,rfl,h2⟩:=hu
 obtain ⟨c1,c2,c3,rfl⟩:=h1.three
 obtain ⟨d1,d2,d3,rfl⟩:=h2.three
 refine go2 ?_
 refine yX (fun m vs H => ∃ (xs ys:List C) (x y:Int) (junk:Hp),vs=[.c (.ptr 0 0),.c (.ptr 1 0),.c (.ptr 2 0)]∧H=.live ⟨xs,yZ,.rw⟩ :: .live ⟨ys,yZ,.rw⟩ :: .live ⟨[.int .i64 0,.nilSl,.bool false],yZ,.rw⟩ :: junk∧m=y.natAbs∧IsZ xs x∧IsZ ys y∧0≤x∧0≤y∧S x∧S y∧Int.gcd x y=Int.gcd a b) (by rfl) ⟨_,_,a.natAbs,b.natAbs,[],rfl,rfl,rfl,h1,h2,by omega,by omega,hS.le _ _ sa (by simp),hS.le _ _ sb (by simp),by simp [Int.gcd]⟩ ?_
 clear h1 h2
 rintro m vs H ⟨xs,ys,x,y,junk,rfl,rfl,rfl,k1,k2,k3,k4,k5,k6,k7⟩
 have k1':=k1
 have k2':=k2
 obtain ⟨c1,c2,c3,rfl⟩:=k1'.three
 obtain ⟨d1,d2,d3,rfl⟩:=k2'.three
 refine go2 ?_
 refine yB (pL k2) (fun u hu => ?_)
 obtain rfl:=hu
 refine go2 ?_
 cases hq:yA Cm.neq (sgn y) 0
 case false =>
  have hy0:y=0:=by
   simp only [yA,yK] at hq
   unfold sgn at hq
   split at hq
   ·omega
   ·split at hq <;> omega
  subst hy0
  rw [Int.gcd_zero_right] at k7
  refine go2 ?_
  have e:((Int.gcd a b:Nat):Int)=x:=by omega
  rw [e]
  exact ZK.fz k1
 have hy0:y≠0:=by
  simp only [yA,yE] at hq
  intro h
  rw [h] at hq
  exact hq rfl
 refine go2 ?_
 rcases k1.look with ⟨ex,x1,x2⟩ | ⟨lx,nx,ex,xn,xv,xe⟩
 ·simp only [List.cons.injEq,and_true] at ex
  obtain ⟨rfl,rfl,rfl⟩:=ex
  rcases k2.look with ⟨ey,y1,y2⟩ | ⟨ly,ny,ey,yn,yv,ye⟩
  ·simp only [List.cons.injEq,and_true] at ey
   obtain ⟨rfl,rfl,rfl⟩:=ey
   refine go2 ?_
   refine yX (fun m vs H => ∃ p q:Int,vs=[.c (.ptr 2 0),i64 p,i64 q]∧H=.live ⟨[.int .i64 x,.nilSl,.bool false],yZ,.rw⟩ :: .live ⟨[.int .i64 y,.nilSl,.bool false],yZ,.rw⟩ :: .live ⟨[.int .i64 0,.nilSl,.bool false],yZ,.rw⟩ :: junk∧m=q.natAbs∧0≤p∧0≤q∧p<9223372036854775808∧q<9223372036854775808∧Int.gcd p q=Int.gcd a b) (by rfl) ⟨x,y,rfl,rfl,rfl,k3,k4,x2,y2,k7⟩ ?_
   rintro m vs H ⟨p,q,rfl,rfl,rfl,p1,p2,p3,p4,p5⟩
   refine go2 ?_
   cases hq2:yA Cm.neq q 0
   case false =>
    simp [yA] at hq2
    subst hq2
    rw [Int.gcd_zero_right] at p5
    refine go2 ?_
    have e:((Int.gcd a b:Nat):Int)=p:=by omega
    rw [e]
    exact ZK.fz (.small p (by omega) (by omega))
   simp [yA] at hq2
   refine go2 ?_
   refine q_ar (by rfl) (by rfl) (by simp [needs,hq2]) ?_
   refine go2 ?_
   rw [ar_rem]
   have hp:0≤p.tmod q:=Int.tmod_nonneg _ p1
   have hl:=gH (a:=p) hq2
   exact l_n (by rfl) hl ⟨q,p.tmod q,rfl,rfl,rfl,p2,hp,p4,by omega,gK.trans p5⟩
  ·simp only [List.cons.injEq,and_true] at ey
   obtain ⟨rfl,rfl,rfl⟩:=ey
   refine go2 ?_
   refine yB (hQ _ _ x y k1 k2 k5 k6 hy0) (fun u hu => ?_)
   obtain ⟨es,fs,rfl,hq2,hr⟩:=hu
   obtain ⟨g1,g2,g3,rfl⟩:=hq2.three
   obtain ⟨h1,h2,h3,rfl⟩:=hr.three
   refine go2 ?_
   refine xC (snd_live _ _ _) (by rfl) (by rfl) (Nat.le_of_ble_eq_true (by rfl)) ?_
   rw [set_snd]
   refine go2 ?_
   refine xC (last_at (by simp)) (by rfl) (by rfl) (Nat.le_of_ble_eq_true (by rfl)) ?_
   rw [set_at (by simp)]
   refine go2 ?_
   refine yM (last_at (by simp)) (by rfl) ?_
   refine go2 ?_
   have hp:0≤x.tmod y:=Int.tmod_nonneg _ k3
   exact l_n (by rfl) (gH (a:=x) hy0) ⟨_,_,y,x.tmod y,_,rfl,rfl,rfl,k2,hr,k4,hp,k6,hS.le _ _ k5 (tmod_le x y),gK.trans k7⟩
 ·simp only [List.cons.injEq,and_true] at ex
  obtain ⟨rfl,rfl,rfl⟩:=ex
  refine go2 ?_
  refine yB (hQ _ _ x y k1 k2 k5 k6 hy0) (fun u hu => ?_)
  obtain ⟨es,fs,rfl,hq2,hr⟩:=hu
  obtain ⟨g1,g2,g3,rfl⟩:=hq2.three
  obtain ⟨h1,h2,h3,rfl⟩:=hr.three
  refine go2 ?_
  refine xC (snd_live _ _ _) (by rfl) (by rfl) (Nat.le_of_ble_eq_true (by rfl)) ?_
  rw [set_snd]
  refine go2 ?_
  refine xC (last_at (by simp)) (by rfl) (by rfl) (Nat.le_of_ble_eq_true (by rfl)) ?_
  rw [set_at (by simp)]
  refine go2 ?_
  refine yM (last_at (by simp)) (by rfl) ?_
  refine go2 ?_
  have hp:0≤x.tmod y:=Int.tmod_nonneg _ k3
  exact l_n (by rfl) (gH (a:=x) hy0) ⟨_,_,y,x.tmod y,_,rfl,rfl,rfl,k2,hr,k4,hp,k6,hS.le _ _ k5 (tmod_le x y),gK.trans k7⟩
end Go.Proofs.Ytokckcnfojjpjaa
